/- ENGINE 21: what a step of a region hangs on; two steps that commute. -/
import Derived.Test.YtnjaagfhaooapaaE20
namespace Go.Proofs.Ytnjaagfhaooapaa.Eng
set_option linter.unusedVariables false
set_option linter.unusedSimpArgs false
set_option linter.unnecessarySimpa false
set_option linter.constructorNameAsVariable false
open Go Go.RowKit

theorem Local.none : Local (fun _ => none) := fun σ u h => by cases h

theorem Local.of_eq {F G : St → Option Out} (h : ∀ σ, F σ = G σ) (k : Local G) : Local F := by
  have : F = G := funext h
  rw [this]; exact k

set_option maxHeartbeats 1000000 in
theorem aop_local (P : Program) (md : Nat → Mode) (o : Oper) (ρ : Operand → TV) : Local (aop P md o ρ) := by
  obtain ⟨dst, op, ty, pos, after, guard⟩ := o
  cases op with
  | move x => exact Local.value _
  | assign x => exact Local.value _
  | pick c x y =>
    refine Local.of_eq (G := fun σ => match ρ c with | .v (.bool t) => value σ (if t then ρ x else ρ y) | _ => none) (fun σ => rfl) ?_
    split
    · exact Local.value _
    · exact Local.none
  | alloc T =>
    refine Local.of_eq (G := fun σ => match tinfo P T with | some ti => newBox ((dst.map md).getD .dflt) dst σ (ti.zero.map ofV) .loc | none => none) (fun σ => rfl) ?_
    split
    · exact Local.newBox _ _ _ _
    · exact Local.none
  | box T x =>
    refine Local.of_eq (G := fun σ => match ρ x with | .v a => newBox ((dst.map md).getD .dflt) dst σ a.cells .dflt | _ => none) (fun σ => rfl) ?_
    split
    · exact Local.newBox _ _ _ _
    · exact Local.none
  | build T parts =>
    change Local (fun σ => aop P md _ ρ σ)
    simp only [aop]
    split
    · split
      · split
        · cases fillA _ _ _ with
          | none => exact Local.none
          | some cs => exact Local.value _
        · exact Local.none
      · split
        · cases fillA _ _ _ with
          | none => exact Local.none
          | some cs => exact Local.value _
        · exact Local.none
    · exact Local.none
  | buildSlice T m parts =>
    change Local (fun σ => aop P md _ ρ σ)
    simp only [aop]
    split
    · split
      · split
        · exact Local.newSlice _ _ _ _
        · exact Local.none
      · exact Local.none
    · exact Local.none
  | load T x =>
    change Local (fun σ => aop P md _ ρ σ)
    simp only [aop]
    split
    · exact Local.aload _ _
    · exact Local.none
  | store T x y =>
    change Local (fun σ => aop P md _ ρ σ)
    simp only [aop]
    split
    · exact Local.astore _ _ _
    · exact Local.none
  | nilCheck x =>
    change Local (fun σ => aop P md _ ρ σ)
    simp only [aop]
    split <;> first | exact Local.value _ | exact Local.none
  | binOp op T x y yT =>
    change Local (fun σ => aop P md _ ρ σ)
    simp only [aop]
    split
    · cases abin P op T _ _ with
      | none => exact Local.none
      | some r => exact Local.value _
    · exact Local.none
  | unOp op T x =>
    change Local (fun σ => aop P md _ ρ σ)
    simp only [aop]
    split
    · cases aun op _ with
      | none => exact Local.none
      | some r => exact Local.value _
    · exact Local.none
  | convert S D x =>
    change Local (fun σ => aop P md _ ρ σ)
    simp only [aop]
    split
    · cases aconvert P S D _ with
      | none => exact Local.none
      | some r => exact Local.value _
    · exact Local.none
  | makeFunc fn first cap =>
    cases fn with
    | func f =>
      change Local (fun σ => aop P md _ ρ σ)
      simp only [aop]
      split
      · split
        · exact Local.value _
        · exact Local.none
      · exact Local.none
    | _ => exact Local.none
  | fieldAddr T x f =>
    change Local (fun σ => aop P md _ ρ σ)
    simp only [aop]
    split
    · split
      · exact Local.none
      · cases addOff _ _ with
        | none => exact Local.none
        | some r => exact Local.value _
    · exact Local.none
  | field T x f =>
    change Local (fun σ => aop P md _ ρ σ)
    simp only [aop]
    split
    · cases readCells _ _ _ _ with
      | none => exact Local.none
      | some r => exact Local.value _
    · exact Local.none
  | indexAddr T x i =>
    change Local (fun σ => aop P md _ ρ σ)
    simp only [aop]
    split
    · exact Local.aindexAddr _ _ _ _
    · exact Local.none
  | index T x i =>
    change Local (fun σ => aop P md _ ρ σ)
    simp only [aop]
    split
    · split
      · split
        · exact Local.value _
        · exact Local.none
      · exact Local.none
    · split
      · split
        · split
          · cases readCells _ _ _ _ with
            | none => exact Local.none
            | some r => exact Local.value _
          · exact Local.none
        · exact Local.none
      · exact Local.none
    · exact Local.none
  | extract x i =>
    change Local (fun σ => aop P md _ ρ σ)
    simp only [aop]
    split
    · split
      · exact Local.value _
      · exact Local.none
    · exact Local.none
  | slice T x lo hi mx =>
    cases mx with
    | none => exact Local.aslice _ _ _ _ _ _
    | some m => exact Local.none
  | makeSlice T m c =>
    change Local (fun σ => aop P md _ ρ σ)
    simp only [aop]
    split
    · split
      · split
        · exact Local.newSlice _ _ _ _
        · exact Local.none
      · exact Local.none
    · exact Local.none
  | call c =>
    obtain ⟨callee, args, argTypes⟩ := c
    cases callee with
    | builtin b =>
      cases b with
      | len =>
        change Local (fun σ => aop P md _ ρ σ)
        simp only [aop]
        split
        · split
          · exact Local.value _
          · exact Local.none
        · split
          · exact Local.value _
          · exact Local.none
        · split
          · exact Local.value _
          · exact Local.none
        · exact Local.none
      | min =>
        change Local (fun σ => aop P md _ ρ σ)
        simp only [aop]
        split
        · cases amin2 _ _ _ with
          | none => exact Local.none
          | some r => exact Local.value _
        · exact Local.none
      | max =>
        change Local (fun σ => aop P md _ ρ σ)
        simp only [aop]
        split
        · cases amin2 _ _ _ with
          | none => exact Local.none
          | some r => exact Local.value _
        · exact Local.none
      | append =>
        change Local (fun σ => aop P md _ ρ σ)
        simp only [aop]
        split
        · split
          · exact Local.aappend _ _ _ _ _
          · exact Local.none
        · exact Local.none
      | _ => exact Local.none
    | _ => exact Local.none
  | _ => exact Local.none

theorem aopC_local (P : Program) (md : Nat → Mode) (call : CallF) (o : Oper) (ρ : Operand → TV) : Local (aopC P md call o ρ) := by
  unfold aopC
  cases hc : acallee ρ o.op with
  | none => exact aop_local P md o ρ
  | some q =>
    obtain ⟨g, as⟩ := q
    intro σ u h
    replace h : ((call g as σ.H).map fun r => (⟨some (.v r.1), σ.L, r.2, .gw⟩ : Out)) = some u := h
    cases hr : call g as σ.H with
    | none => simp [hr] at h
    | some r =>
      simp [hr] at h; subst h
      refine ⟨rfl, fun σ2 h2 => ?_⟩
      have h2' : σ2.H = σ.H := h2
      show ((call g as σ2.H).map fun r => (⟨some (.v r.1), σ2.L, r.2, .gw⟩ : Out)) = _
      rw [h2', hr]; rfl

end Go.Proofs.Ytnjaagfhaooapaa.Eng
