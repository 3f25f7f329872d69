/- WALK 8: types as the reference reads them. -/
import Derived.Test.YtnjaagfhaooapaaP7
namespace Go.Proofs.Ytnjaagfhaooapaa.Eng
set_option linter.unusedVariables false
set_option linter.unusedSimpArgs false
set_option linter.unnecessarySimpa false
set_option linter.constructorNameAsVariable false
open Go
set_option maxRecDepth 100000

def isT : Tree → Bool
  | .mk a ps => if a = [] then (match ps with
      | [h, x, y] => if h.atom = [43] ∨ h.atom = [42] then isT x && isT y else if h.atom = [114, 101, 99] then nameB 116 116 x.atom && isT y else false
      | _ => false) else decide (a = [48]) || decide (a = [49]) || nameB 120 122 a || nameB 116 116 a

theorem isT_ne (t : Tree) (h : t.atom = []) (h3 : t.parts.length ≠ 3) : isT t = false := by
  obtain ⟨a, ps⟩ := t
  simp only [Tree.atom, Tree.parts] at h h3
  rw [isT, if_pos h]
  · rintro h x y rfl
    simp at h3
theorem isT_atom (t : Tree) (h : t.atom ≠ []) : isT t = (decide (t.atom = [48]) || decide (t.atom = [49]) || nameB 120 122 t.atom || nameB 116 116 t.atom) := by
  obtain ⟨a, ps⟩ := t
  have h' : ¬ a = [] := h
  show isT (.mk a ps) = (decide (a = [48]) || decide (a = [49]) || nameB 120 122 a || nameB 116 116 a)
  unfold isT
  rw [if_neg h']
theorem isT_three (t x1 x2 x3 : Tree) (h : t.atom = []) (hp : t.parts = [x1, x2, x3]) : isT t = if x1.atom = [43] ∨ x1.atom = [42] then isT x2 && isT x3 else if x1.atom = [114, 101, 99] then nameB 116 116 x2.atom && isT x3 else false := by
  obtain ⟨a, ps⟩ := t
  simp only [Tree.atom, Tree.parts] at h hp
  subst hp
  rw [isT, if_pos h]
theorem head_three (t x1 : Tree) (l : List Tree) (h : t.atom = []) (hp : t.parts = x1 :: l) : t.head = x1.atom := by simp [Tree.head, h, hp]
theorem parts_three (l : List Tree) (h : l.length = 3) : ∃ x1 x2 x3, l = [x1, x2, x3] := by
  match l, h with
  | [x1, x2, x3], _ => exact ⟨x1, x2, x3, rfl⟩
theorem map_get {α : Type} (g : α → AV) (l : List α) (i : Nat) (x : α) (h : l[i]? = some x) : (l.map g)[i]? = some (g x) := by simp [h]
theorem sizeOf_part {t q : Tree} (h : q ∈ t.parts) : SizeOf.sizeOf q < SizeOf.sizeOf t := by
  obtain ⟨a, ps⟩ := t
  have := List.sizeOf_lt_of_mem h
  simp [Tree.parts] at *; omega

theorem l1Is_eq (t : Tree) (H : List HObj) : acall EA 33 [embT t] H = some (.bool (isT t), H) := by
    have ih : ∀ q ∈ t.parts, ∀ H, acall EA 33 [embT q] H = some (.bool (isT q), H) := fun q hq H =>
      have := sizeOf_part hq
      l1Is_eq q H
    refine acall_is (fn := Try.f33) rfl Try.func33 rfl rfl (by simp [Try.f33]) ?_
    by_cases ha : t.atom = []
    · by_cases h3 : t.parts.length = 3
      · obtain ⟨x1, x2, x3, hp⟩ := parts_three _ h3
        have h2 := ih x2 (by simp [hp])
        have h3 := ih x3 (by simp [hp])
        have g2 := map_get embT t.parts 1 x2 (by simp [hp])
        have g3 := map_get embT t.parts 2 x3 (by simp [hp])
        have hd := head_three t x1 _ ha hp
        have hv := isT_three t x1 x2 x3 ha hp
        rw [hv]
        clear hv hp ih
        simp +decide -implicitDefEqProofs (maxSteps := 999999) (disch := first | assumption | omega) only [go_sem, if_true, if_false, decide_true, decide_false, Int.reduceToNat, Nat.reduceAdd, Nat.reduceMul, Nat.reduceSub, Int.reduceAdd, Int.reduceSub, Int.reduceMul, Int.reduceNeg, embT_cells, embT_fold, l1Head_eq, hd]
        (iterate 6 (try (any_goals (first | ((first | refine condK_P ?_ ?_ | refine condK_N ?_ ?_ | refine gdK_P ?_ ?_ | refine gdK_N ?_ ?_ | refine gdR_P ?_ ?_ | refine gdR_N ?_ ?_) <;> intro hc <;> (try simp +decide -implicitDefEqProofs (maxSteps := 999999) (disch := first | assumption | omega) only [go_sem, if_true, if_false, decide_true, decide_false, Int.reduceToNat, Nat.reduceAdd, Nat.reduceMul, Nat.reduceSub, Int.reduceAdd, Int.reduceSub, Int.reduceMul, Int.reduceNeg, embT_cells, embT_fold, g2, g3, h2, h3, l1Loop_eq, l1Head_eq, hd])) | ((first | refine condK_B ?_ ?_ | refine gdK_B ?_ ?_ | refine gdR_B ?_ ?_) <;> intro hc <;> (try simp +decide -implicitDefEqProofs (maxSteps := 999999) (disch := first | assumption | omega) only [go_sem, if_true, if_false, decide_true, decide_false, Int.reduceToNat, Nat.reduceAdd, Nat.reduceMul, Nat.reduceSub, Int.reduceAdd, Int.reduceSub, Int.reduceMul, Int.reduceNeg, embT_cells, embT_fold, g2, g3, h2, h3, l1Loop_eq, l1Head_eq, hd, hc]))))))
        all_goals (simp_all; done)
      · simp +decide -implicitDefEqProofs (maxSteps := 999999) (disch := first | assumption | omega) only [go_sem, if_true, if_false, decide_true, decide_false, Int.reduceToNat, Nat.reduceAdd, Nat.reduceMul, Nat.reduceSub, Int.reduceAdd, Int.reduceSub, Int.reduceMul, Int.reduceNeg, embT_cells, embT_fold, isT_ne t ha h3]
    · rw [isT_atom t ha]
      simp +decide -implicitDefEqProofs (maxSteps := 999999) (disch := first | assumption | omega) only [go_sem, if_true, if_false, decide_true, decide_false, Int.reduceToNat, Nat.reduceAdd, Nat.reduceMul, Nat.reduceSub, Int.reduceAdd, Int.reduceSub, Int.reduceMul, Int.reduceNeg, embT_cells, embT_fold, l1Param_eq, l1Loop_eq]
      (iterate 6 (try (any_goals (first | ((first | refine condK_P ?_ ?_ | refine condK_N ?_ ?_ | refine gdK_P ?_ ?_ | refine gdK_N ?_ ?_ | refine gdR_P ?_ ?_ | refine gdR_N ?_ ?_) <;> intro hc <;> (try simp +decide -implicitDefEqProofs (maxSteps := 999999) (disch := first | assumption | omega) only [go_sem, if_true, if_false, decide_true, decide_false, Int.reduceToNat, Nat.reduceAdd, Nat.reduceMul, Nat.reduceSub, Int.reduceAdd, Int.reduceSub, Int.reduceMul, Int.reduceNeg, embT_cells, embT_fold, l1Param_eq, l1Loop_eq])) | ((first | refine condK_B ?_ ?_ | refine gdK_B ?_ ?_ | refine gdR_B ?_ ?_) <;> intro hc <;> (try simp +decide -implicitDefEqProofs (maxSteps := 999999) (disch := first | assumption | omega) only [go_sem, if_true, if_false, decide_true, decide_false, Int.reduceToNat, Nat.reduceAdd, Nat.reduceMul, Nat.reduceSub, Int.reduceAdd, Int.reduceSub, Int.reduceMul, Int.reduceNeg, embT_cells, embT_fold, l1Param_eq, l1Loop_eq, hc]))))))
      all_goals (simp_all; done)
  termination_by SizeOf.sizeOf t
end Go.Proofs.Ytnjaagfhaooapaa.Eng
