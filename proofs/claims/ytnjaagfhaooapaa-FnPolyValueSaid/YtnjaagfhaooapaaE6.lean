/- ENGINE 6: the operations that only look: what the model gives is what the engine gives. -/
import Derived.Test.YtnjaagfhaooapaaE5
import Derived.Laws.Strings
namespace Go.Proofs.Ytnjaagfhaooapaa.Eng
set_option linter.unusedVariables false
set_option linter.unusedSimpArgs false
set_option linter.unnecessarySimpa false
set_option linter.constructorNameAsVariable false
open Go Go.RowKit

structure SRep (W : World) (n : Nat) (κ : Conc) (σ : St) (a : Act) (w : World) : Prop where
  tmps : ∀ j, TRep κ w (σ.t j) (a.tmps.getD j undef)
  inv : Inv W κ w σ.L σ.H
  defers : a.defers = []
  size : a.tmps.size = n

def OpOk (P : Program) (W : World) (κ : Conc) (w : World) (o : Oper) (ρ : Operand → Value) (u : Out) : Prop :=
  ∃ κ' w', Ext κ w κ' w' ∧ LExt κ κ' ∧ Inv W κ' w' u.L u.H ∧
    match u.val with
    | some x => ∃ cv, (execOp ρ o).run P w = .ok (.value cv) w' ∧ TRep κ' w' x cv
    | none => (execOp ρ o).run P w = .ok .skip w'

theorem OpOk.value {P : Program} {W : World} {κ : Conc} {w : World} {o : Oper} {ρ : Operand → Value} {σ : St} {u : Out} {x : TV} (hI : Inv W κ w σ.L σ.H) (h : value σ x = some u)
    (hr : ∃ cv, (execOp ρ o).run P w = .ok (.value cv) w ∧ TRep κ w x cv) : OpOk P W κ w o ρ u := by
  obtain rfl := Option.some.inj h
  exact ⟨κ, w, Ext.refl _ _, LExt.refl _, hI, hr⟩

theorem Rep.one {κ : Conc} {w : World} {a : AV} {v : Value} (h : Rep κ w a v) (ho : a.one = true) : v.oneCell' = true := by
  cases h <;> first | rfl | assumption | (simp [AV.one] at ho)

theorem Rep.cells {κ : Conc} {w : World} {a : AV} {v : Value} (h : Rep κ w a v) (ht : a.cells ≠ []) :
    v.cells.size = a.cells.length ∧ (∀ i c, a.cells[i]? = some c → Rep κ w c (v.cells.getD i undef)) ∧ (∀ c ∈ a.cells, c.one = true) ∧ ∀ u ∈ v.cells.toList, u.oneCell' = true := by
  by_cases ho : a.one = true
  · have e : a.cells = [a] := by cases a <;> first | rfl | (simp [AV.one] at ho)
    have hv := h.one ho
    have ev : v.cells = #[v] := by cases v <;> first | rfl | (simp [Value.oneCell'] at hv)
    rw [e, ev]
    refine ⟨rfl, fun i c hc => ?_, by simpa using ho, by simpa using hv⟩
    match i with
    | 0 => simp at hc; subst hc; simpa using h
    | i + 1 => simp at hc
  · cases h with
    | agg cs vs hl h1 hh =>
      refine ⟨hl, hh, h1, fun u hu => ?_⟩
      obtain ⟨i, hi, rfl⟩ := List.getElem_of_mem hu
      have hi' : i < cs.length := by simp [Value.cells] at hi; omega
      have := (hh i cs[i] (by simp [hi'])).one (h1 _ (List.getElem_mem hi'))
      simpa [Value.cells, Array.getD, show i < vs.size by omega] using this
    | tuple cs vs hl hh => simp [AV.cells] at ht
    | any _ _ => simp [AV.one] at ho
    | int _ _ => simp [AV.one] at ho
    | bool _ => simp [AV.one] at ho
    | str _ => simp [AV.one] at ho
    | nilp => simp [AV.one] at ho
    | ptr _ _ _ _ _ _ _ _ _ => simp [AV.one] at ho
    | slice _ _ _ _ _ _ _ _ _ _ _ _ _ _ _ _ => simp [AV.one] at ho
    | ref _ _ _ _ _ => simp [AV.one] at ho
    | vec _ _ _ _ _ _ _ _ => simp [AV.one] at ho
    | func _ _ _ _ _ => simp [AV.one] at ho
    | map _ _ _ => simp [AV.one] at ho

theorem mem_getElem? {α : Type} {l : List α} {x : α} (h : x ∈ l) : ∃ i : Nat, l[i]? = some x := by
  obtain ⟨i, hi, e⟩ := List.getElem_of_mem h
  exact ⟨i, by simp [hi, e]⟩

theorem getElem?_mem {α : Type} {l : List α} {x : α} {i : Nat} (h : l[i]? = some x) : x ∈ l := List.mem_of_getElem? h

theorem readCells_sound {P : Program} {κ : Conc} {w : World} {T : TypeId} {ti : TI} {cs : List AV} {b o off : Nat} {f : Nat → Value} {r : AV} (ht : tinfo P T = some ti) (h : readCells ti.agg ti.size cs off = some r)
    (h1 : ∀ c ∈ cs, c.one = true) (hc : ∀ i, i < cs.length → w.cell? (ad b (o + i)) = some (f i)) (hr : ∀ i c, cs[i]? = some c → Rep κ w c (f i)) :
    ∃ v, (loadVar T (ad b (o + off))).run P w = .ok v w ∧ Rep κ w r v := by
  unfold readCells at h
  split at h
  · rename_i ha
    split at h
    · rename_i hlen
      obtain rfl := Option.some.inj h
      refine ⟨_, run_loadVar_agg (f := fun j => f (off + j)) ht ha (fun j hj => ?_), .agg _ _ ?_ ?_ ?_⟩
      · have := hc (off + j) (by omega)
        rw [show o + off + j = o + (off + j) by omega]; exact this
      · simp; omega
      · intro c hcm
        exact h1 c (List.mem_of_mem_drop (List.mem_of_mem_take hcm))
      · intro i c hi
        have hi2 : i < ti.size := by
          have := getElem?_mem hi
          rcases Nat.lt_or_ge i ti.size with q | q
          · exact q
          · simp [List.getElem?_take_eq_none q] at hi
        rw [List.getElem?_take_of_lt hi2, List.getElem?_drop] at hi
        have := hr _ _ hi
        simpa [Array.getD, hi2] using this
    · simp at h
  · rename_i ha
    have hlt : off < cs.length := by
      rcases Nat.lt_or_ge off cs.length with q | q
      · exact q
      · simp [List.getElem?_eq_none q] at h
    refine ⟨f off, run_loadVar_one ht (by simpa using ha) (hc off hlt), hr _ _ h⟩

theorem evalO_rep {W : World} {n : Nat} {κ : Conc} {σ : St} {a : Act} {w : World} (hS : SRep W n κ σ a w) (x : Operand) : TRep κ w (evalO σ.t x) (a.eval x) := by
  cases x with
  | tmp j => exact hS.tmps j
  | global g => exact .any _ rfl
  | func f => exact .func f [] #[] rfl (fun i c h => by simp at h)
  | const c =>
    cases c with
    | agg _ => trivial
    | tuple _ => trivial
    | bool b => exact .bool b
    | int k n => exact .int k n
    | string s =>
      show Rep κ w (.str s.data.toList) (.string s)
      have := Rep.str (κ := κ) (w := w) s.data.toList
      simpa using this
    | pointer p =>
      cases p with
      | none => exact .nilp
      | some p => exact .any _ rfl
    | slice p l c =>
      show Rep κ w (ofV (.slice p l c)) (.slice p l c)
      match p, l, c with
      | none, 0, 0 => exact .slice [] .full none 0 0 0 1 (fun _ => undef) (fun h => absurd rfl h) (Nat.le_refl _) (fun e h => by cases h) (by decide) (fun e h => by cases h) (fun i hi => by simp at hi) (fun i c h => by simp at h) ⟨none, rfl⟩
      | some _, _, _ => exact .any _ rfl
      | none, _ + 1, _ => exact .any _ rfl
      | none, 0, _ + 1 => exact .any _ rfl
    | _ => exact .any _ rfl

end Go.Proofs.Ytnjaagfhaooapaa.Eng
