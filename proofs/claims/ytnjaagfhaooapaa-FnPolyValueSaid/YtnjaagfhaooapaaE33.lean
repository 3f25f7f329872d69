/- ENGINE 33: cases by propositions. -/
import Derived.Test.YtnjaagfhaooapaaE32
namespace Go.Proofs.Ytnjaagfhaooapaa.Eng
set_option linter.unusedVariables false
set_option linter.unusedSimpArgs false
set_option linter.unnecessarySimpa false
set_option linter.constructorNameAsVariable false
open Go

/-- What holds of a state (hidden from simp). -/
def Holds (P : St → Prop) (σ : St) : Prop := P σ
theorem Holds.mk {P : St → Prop} {σ : St} (h : P σ) : Holds P σ := h

section
variable {E : Env} {f : FuncId} {n : Nat} {p : Prop} {ip : Decidable p}
theorem condK_P {a b : Code} {σ : St} {Q : AEx → St → Prop} (h1 : p → wp E f n a σ Q) (h2 : ¬p → wp E f n b σ Q) : condK E f n a b σ Q (.v (.bool (decide p))) := by
  by_cases h : p
  · simpa [h, condK] using h1 h
  · simpa [h, condK] using h2 h
theorem condK_N {a b : Code} {σ : St} {Q : AEx → St → Prop} (h1 : p → wp E f n b σ Q) (h2 : ¬p → wp E f n a σ Q) : condK E f n a b σ Q (.v (.bool (!decide p))) := by
  by_cases h : p
  · simpa [h, condK] using h1 h
  · simpa [h, condK] using h2 h
theorem condK_B {a b : Code} {σ : St} {Q : AEx → St → Prop} {x : Bool} (h1 : x = true → wp E f n a σ Q) (h2 : x = false → wp E f n b σ Q) : condK E f n a b σ Q (.v (.bool x)) := by
  cases x
  · exact h2 rfl
  · exact h1 rfl
section
variable {ops : Array Oper} {o : Oper} {d : Nat} {l : List Oper} {t : Nat → TV} {L : Nat → Option (Nat × List AV)} {H : List HObj} {Q : St → Prop} {w : Bool}
theorem gdK_P (h1 : p → gdK E f n ops o d l t L H Q w (.v (.bool true))) (h2 : ¬p → gdK E f n ops o d l t L H Q w (.v (.bool false))) : gdK E f n ops o d l t L H Q w (.v (.bool (decide p))) := by
  by_cases h : p
  · simpa [h] using h1 h
  · simpa [h] using h2 h
theorem gdK_N (h1 : p → gdK E f n ops o d l t L H Q w (.v (.bool false))) (h2 : ¬p → gdK E f n ops o d l t L H Q w (.v (.bool true))) : gdK E f n ops o d l t L H Q w (.v (.bool (!decide p))) := by
  by_cases h : p
  · simpa [h] using h1 h
  · simpa [h] using h2 h
theorem gdK_B {x : Bool} (h1 : x = true → gdK E f n ops o d l t L H Q w (.v (.bool true))) (h2 : x = false → gdK E f n ops o d l t L H Q w (.v (.bool false))) : gdK E f n ops o d l t L H Q w (.v (.bool x)) := by
  cases x
  · exact h2 rfl
  · exact h1 rfl
end
section
variable {ops : Array Oper} {o : Oper} {d : Nat} {l : List Oper} {t : Nat → TV} {L : Nat → Option (Nat × List AV)} {H : List HObj} {acc : List Tr} {Q : St → List Tr → Prop} {w : Bool}
theorem gdR_P (h1 : p → gdR E f n ops o d l t L H acc Q w (.v (.bool true))) (h2 : ¬p → gdR E f n ops o d l t L H acc Q w (.v (.bool false))) : gdR E f n ops o d l t L H acc Q w (.v (.bool (decide p))) := by
  by_cases h : p
  · simpa [h] using h1 h
  · simpa [h] using h2 h
theorem gdR_N (h1 : p → gdR E f n ops o d l t L H acc Q w (.v (.bool false))) (h2 : ¬p → gdR E f n ops o d l t L H acc Q w (.v (.bool true))) : gdR E f n ops o d l t L H acc Q w (.v (.bool (!decide p))) := by
  by_cases h : p
  · simpa [h] using h1 h
  · simpa [h] using h2 h
theorem gdR_B {x : Bool} (h1 : x = true → gdR E f n ops o d l t L H acc Q w (.v (.bool true))) (h2 : x = false → gdR E f n ops o d l t L H acc Q w (.v (.bool false))) : gdR E f n ops o d l t L H acc Q w (.v (.bool x)) := by
  cases x
  · exact h2 rfl
  · exact h1 rfl
end
end

/-! ### Cuts: what holds behind a stretch -/
section
variable {E : Env} {f : FuncId} {n : Nat}
theorem wops_mono {ops : Array Oper} {l : List Oper} {σ : St} {Q Q' : St → Prop} (h : wops E f n ops l σ Q) (k : ∀ σ, Q σ → Q' σ) : wops E f n ops l σ Q' := by
  unfold wops at *
  cases hx : runOps E.P (E.md f) n (acall E) ops l σ with
  | none => rw [hx] at h; exact h.elim
  | some r => rw [hx] at h; exact k _ h
theorem optK_mono {α : Type} {o : Option α} {k k' : α → Prop} (h : optK o k) (hk : ∀ a, k a → k' a) : optK o k' := by
  cases o with
  | none => exact h.elim
  | some a => exact hk a h
theorem gdK_cut {ops : Array Oper} {o : Oper} {d : Nat} {l : List Oper} {t : Nat → TV} {L : Nat → Option (Nat × List AV)} {H : List HObj} {Q : St → Prop} {w : Bool} {v : TV} (P : St → Prop)
    (h : gdK E f n ops o d l t L H P w v) (k : ∀ t L H, P ⟨t, L, H⟩ → Q ⟨t, L, H⟩) : gdK E f n ops o d l t L H Q w v := by
  have k' : ∀ σ, P σ → Q σ := fun σ => k σ.t σ.L σ.H
  have run : optK (aopC E.P (E.md f) (acall E) o (evalO t) ⟨t, L, H⟩) (putK E f n ops d l t P) → optK (aopC E.P (E.md f) (acall E) o (evalO t) ⟨t, L, H⟩) (putK E f n ops d l t Q) := fun h => optK_mono h fun a ⟨h1, h2⟩ => ⟨h1, wops_mono h2 k'⟩
  have skip : (d < n ∧ wops E f n ops l ⟨upd t d .no, L, H⟩ P) → (d < n ∧ wops E f n ops l ⟨upd t d .no, L, H⟩ Q) := fun ⟨h1, h2⟩ => ⟨h1, wops_mono h2 k'⟩
  cases v with
  | no => rw [gdK_no] at *; exact skip h
  | v a =>
    cases a with
    | bool b => cases w <;> cases b <;> first | exact run h | exact skip h
    | _ => cases w <;> exact h.elim
  | _ => cases w <;> exact h.elim
theorem wp_cut {c : Code} {σ : St} {Q : AEx → St → Prop} (P : St → Prop) (h : wp E f n c σ (fun e σ => e = .normal ∧ P σ)) (k : ∀ t L H, P ⟨t, L, H⟩ → Q .normal ⟨t, L, H⟩) : wp E f n c σ Q :=
  wp_mono h fun e σ ⟨h1, h2⟩ => by subst h1; exact k σ.t σ.L σ.H h2
theorem condK_cut {a b : Code} {σ : St} {Q : AEx → St → Prop} {v : TV} (P : St → Prop) (h : condK E f n a b σ (fun e σ => e = .normal ∧ P σ) v) (k : ∀ t L H, P ⟨t, L, H⟩ → Q .normal ⟨t, L, H⟩) : condK E f n a b σ Q v := by
  cases v with
  | v x =>
    cases x with
    | bool x => cases x <;> exact wp_cut P h k
    | _ => exact h.elim
  | _ => exact h.elim
end
end Go.Proofs.Ytnjaagfhaooapaa.Eng
