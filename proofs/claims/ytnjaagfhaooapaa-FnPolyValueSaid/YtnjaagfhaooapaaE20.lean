/- ENGINE 20: what an operation hangs on. -/
import Derived.Test.YtnjaagfhaooapaaE19
namespace Go.Proofs.Ytnjaagfhaooapaa.Eng
set_option linter.unusedVariables false
set_option linter.unusedSimpArgs false
set_option linter.unnecessarySimpa false
set_option linter.constructorNameAsVariable false
open Go Go.RowKit

def SameAcc (σ σ2 : St) : Acc → Prop
  | .pure => True
  | .lr s => σ2.L s = σ.L s
  | .lw s => σ2.L s = σ.L s
  | .gr id => σ2.H[id]? = σ.H[id]?
  | .gw => σ2.H = σ.H

def moved (σ2 : St) (u : Out) : Out :=
  match u.acc with
  | .lw s => ⟨u.val, upd σ2.L s (u.L s), σ2.H, u.acc⟩
  | .gw => ⟨u.val, σ2.L, u.H, u.acc⟩
  | _ => ⟨u.val, σ2.L, σ2.H, u.acc⟩

def Framed (σ : St) (u : Out) : Prop :=
  match u.acc with
  | .lw s => u.H = σ.H ∧ u.L = upd σ.L s (u.L s)
  | .gw => u.L = σ.L
  | _ => u.L = σ.L ∧ u.H = σ.H

def Local (F : St → Option Out) : Prop := ∀ σ u, F σ = some u → Framed σ u ∧ ∀ σ2, SameAcc σ σ2 u.acc → F σ2 = some (moved σ2 u)

theorem upd_upd_self {α : Type} (t : Nat → α) (s : Nat) (c : α) : upd t s c = upd t s (upd t s c s) := by rw [upd_same]

theorem Local.value (x : TV) : Local (fun σ => value σ x) := by
  intro σ u h
  obtain rfl := Option.some.inj h
  exact ⟨⟨rfl, rfl⟩, fun σ2 _ => rfl⟩

theorem Local.aload (i : TI) (x : TV) : Local (fun σ => aload σ i x) := by
  intro σ u h
  replace h : Eng.aload σ i x = some u := h
  unfold Eng.aload at h
  split at h
  · rename_i cs off tag
    cases hr : readCells i.agg i.size cs off with
    | none => simp [hr] at h
    | some r =>
      simp [hr] at h; subst h
      exact ⟨⟨rfl, rfl⟩, fun σ2 _ => by simp [Eng.aload, hr, moved]⟩
  · rename_i s ver off
    split at h
    · rename_i ver' cs hL
      split at h
      · rename_i hv
        cases hr : readCells i.agg i.size cs off with
        | none => simp [hr] at h
        | some r =>
          simp [hr] at h; subst h
          refine ⟨⟨rfl, rfl⟩, fun σ2 h2 => ?_⟩
          have h2' : σ2.L s = σ.L s := h2
          simp [Eng.aload, h2', hL, hv, hr, moved]
      · simp at h
    · simp at h
  · rename_i id off
    split at h
    · rename_i cs hH
      cases hr : readCells i.agg i.size cs off with
      | none => simp [hr] at h
      | some r =>
        simp [hr] at h; subst h
        refine ⟨⟨rfl, rfl⟩, fun σ2 h2 => ?_⟩
        have h2' : σ2.H[id]? = σ.H[id]? := h2
        simp [Eng.aload, h2', hH, hr, moved]
    · simp at h
  · rename_i id len off
    split at h
    · rename_i cs sz hH
      split at h
      · rename_i hc
        cases hr : readCells i.agg i.size cs off with
        | none => simp [hr] at h
        | some r =>
          simp [hr] at h; subst h
          refine ⟨⟨rfl, rfl⟩, fun σ2 h2 => ?_⟩
          have h2' : σ2.H[id]? = σ.H[id]? := h2
          simp only [Eng.aload, h2', hH]
          rw [if_pos hc]
          simp [hr, moved]
      · simp at h
    · simp at h
  · simp at h

theorem Local.astore (i : TI) (c : AV) (x : TV) : Local (fun σ => astore σ i c x) := by
  intro σ u h
  replace h : Eng.astore σ i c x = some u := h
  unfold Eng.astore at h
  split at h
  · rename_i s ver off
    split at h
    · rename_i ver' cs hL
      split at h
      · rename_i hc
        obtain rfl := Option.some.inj h
        refine ⟨⟨rfl, upd_upd_self _ _ _⟩, fun σ2 h2 => ?_⟩
        have h2' : σ2.L s = σ.L s := h2
        simp only [Eng.astore, h2', hL]
        rw [if_pos hc]
        simp only [moved, upd_same]
      · simp at h
    · simp at h
  · rename_i id off
    split at h
    · rename_i cs hH
      split at h
      · rename_i hc
        obtain rfl := Option.some.inj h
        refine ⟨rfl, fun σ2 h2 => ?_⟩
        have h2' : σ2.H = σ.H := h2
        simp only [Eng.astore, h2', hH]
        rw [if_pos hc]
        rfl
      · simp at h
    · simp at h
  · rename_i id len off
    split at h
    · rename_i cs sz hH
      split at h
      · rename_i hc
        obtain rfl := Option.some.inj h
        refine ⟨rfl, fun σ2 h2 => ?_⟩
        have h2' : σ2.H = σ.H := h2
        simp only [Eng.astore, h2', hH]
        rw [if_pos hc]
        rfl
      · simp at h
    · simp at h
  · simp at h

theorem Local.newBox (mode : Mode) (dst : Option Nat) (cs : List AV) (dflt : Mode) : Local (fun σ => newBox mode dst σ cs dflt) := by
  intro σ u h
  replace h : Eng.newBox mode dst σ cs dflt = some u := h
  unfold Eng.newBox at h
  split at h
  · simp at h
  · rename_i hne
    split at h
    · rename_i hm
      split at h
      · rename_i d
        obtain rfl := Option.some.inj h
        refine ⟨⟨rfl, upd_upd_self _ _ _⟩, fun σ2 h2 => ?_⟩
        have h2' : σ2.L d = σ.L d := h2
        have h3 : nextVer σ2.L d = nextVer σ.L d := by simp only [nextVer, h2']
        simp only [Eng.newBox, hne, hm, if_false, h3, moved, upd_same]
      · simp at h
    · rename_i hm
      obtain rfl := Option.some.inj h
      refine ⟨rfl, fun σ2 h2 => ?_⟩
      have h2' : σ2.H = σ.H := h2
      simp only [Eng.newBox, hne, hm, if_false, h2', moved]
    · rename_i hm
      obtain rfl := Option.some.inj h
      refine ⟨rfl, fun σ2 h2 => ?_⟩
      have h2' : σ2.H = σ.H := h2
      simp only [Eng.newBox, hne, hm, if_false, h2', moved]
    · rename_i h1 h2 h3
      obtain rfl := Option.some.inj h
      refine ⟨⟨rfl, rfl⟩, fun σ2 _ => ?_⟩
      simp only [Eng.newBox, hne, if_false]
      generalize (if mode = .dflt then dflt else mode) = m at *
      cases m <;> simp_all [moved]

theorem Local.newSlice (mode : Mode) (es : List AV) (sz : Nat) (dflt : Own) : Local (fun σ => some (newSlice mode σ es sz dflt)) := by
  intro σ u h
  obtain rfl := Option.some.inj h
  cases mode with
  | tok =>
    refine ⟨rfl, fun σ2 h2 => ?_⟩
    have h2' : σ2.H = σ.H := h2
    simp [Eng.newSlice, moved, h2']
  | vec =>
    refine ⟨rfl, fun σ2 h2 => ?_⟩
    have h2' : σ2.H = σ.H := h2
    simp [Eng.newSlice, moved, h2']
  | _ => exact ⟨⟨rfl, rfl⟩, fun σ2 _ => rfl⟩

theorem Local.aindexAddr (P : Program) (T : Nat) (x : TV) (i : Int) : Local (fun σ => aindexAddr P σ T x i) := by
  intro σ u h
  replace h : Eng.aindexAddr P σ T x i = some u := h
  have h0 := h
  unfold Eng.aindexAddr at h
  split at h
  · rename_i e he
    split at h
    · rename_i ti es own ht
      split at h
      · rename_i c hc
        split at h
        · rename_i hl
          obtain ⟨f1, f2⟩ := Local.value _ σ u h
          refine ⟨f1, fun σ2 h2 => ?_⟩
          simp only [Eng.aindexAddr, he, ht, hc]
          rw [if_pos hl]; exact f2 σ2 h2
        · simp at h
      · simp at h
    · rename_i ti id len ht
      split at h
      · rename_i cs sz hH
        split at h
        · rename_i hc
          obtain rfl := Option.some.inj h
          refine ⟨⟨rfl, rfl⟩, fun σ2 h2 => ?_⟩
          have h2' : σ2.H[id]? = σ.H[id]? := h2
          simp only [Eng.aindexAddr, he, ht, h2', hH]
          rw [if_pos hc]; rfl
        · simp at h
      · simp at h
    · simp at h
  · rename_i he
    split at h
    · rename_i n e ha
      split at h
      · rename_i ti ht
        split at h
        · rename_i hc
          cases hao : addOff (i.toNat * ti.size) x with
          | none => simp [hao] at h
          | some y =>
            simp only [hao, Option.bind_some] at h
            obtain ⟨f1, f2⟩ := Local.value _ σ u h
            refine ⟨f1, fun σ2 h2 => ?_⟩
            simp only [Eng.aindexAddr, he, ha, ht]
            rw [if_pos hc, hao]; exact f2 σ2 h2
        · simp at h
      · simp at h
    · simp at h

theorem Local.aappend (P : Program) (mode : Mode) (T : Nat) (s x : AV) : Local (fun σ => aappend P mode σ T s x) := by
  intro σ u h
  replace h : Eng.aappend P mode σ T s x = some u := h
  unfold Eng.aappend at h
  split at h
  · simp at h
  · rename_i e he
    split at h
    · simp at h
    · rename_i ti hti
      split at h
      · rename_i xs own
        split at h
        · rename_i hc0
          split at h
          · rename_i es
            split at h
            · rename_i hc
              obtain ⟨f1, f2⟩ := Local.newSlice mode (es ++ xs) ti.size .view σ u h
              refine ⟨f1, fun σ2 h2 => ?_⟩
              simp only [Eng.aappend, he, hti]
              rw [if_pos hc0, if_pos hc]; exact f2 σ2 h2
            · simp at h
          · rename_i es id
            split at h
            · rename_i n sz hH
              split at h
              · rename_i hc
                obtain rfl := Option.some.inj h
                refine ⟨rfl, fun σ2 h2 => ?_⟩
                have h2' : σ2.H = σ.H := h2
                simp only [Eng.aappend, he, hti, h2', hH]
                rw [if_pos hc0, if_pos hc]; rfl
              · simp at h
            · simp at h
          · rename_i id len
            split at h
            · rename_i cs sz hH
              split at h
              · rename_i hc
                obtain rfl := Option.some.inj h
                refine ⟨rfl, fun σ2 h2 => ?_⟩
                have h2' : σ2.H = σ.H := h2
                simp only [Eng.aappend, he, hti, h2', hH]
                rw [if_pos hc0, if_pos hc]; rfl
              · simp at h
            · simp at h
          · simp at h
        · simp at h
      · simp at h

theorem Local.aslice (P : Program) (ρ : Operand → TV) (T : Nat) (x : TV) (lo hi : Option Operand) : Local (fun σ => aslice P ρ σ T x lo hi) := by
  intro σ u h
  replace h : Eng.aslice P ρ σ T x lo hi = some u := h
  unfold Eng.aslice at h
  split at h
  · rename_i l
    split at h
    · rename_i hT
      split at h
      · rename_i p q hp hq
        split at h
        · rename_i hc
          obtain ⟨f1, f2⟩ := Local.value _ σ u h
          refine ⟨f1, fun σ2 h2 => ?_⟩
          simp only [Eng.aslice, hT, if_true, hp, hq]
          rw [if_pos hc]; exact f2 σ2 h2
        · simp at h
      · simp at h
    · simp at h
  · rename_i es own
    split at h
    · rename_i e p q he hp hq
      split at h
      · rename_i ti ht
        split at h
        · rename_i hc
          obtain ⟨f1, f2⟩ := Local.value _ σ u h
          refine ⟨f1, fun σ2 h2 => ?_⟩
          simp only [Eng.aslice, he, hp, hq, ht]
          rw [if_pos hc]; exact f2 σ2 h2
        · simp at h
      · simp at h
    · simp at h
  · simp at h

end Go.Proofs.Ytnjaagfhaooapaa.Eng
