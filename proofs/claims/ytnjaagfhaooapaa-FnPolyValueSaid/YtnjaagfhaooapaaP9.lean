/- WALK 9: types, plain types. -/
import Derived.Test.YtnjaagfhaooapaaP8
namespace Go.Proofs.Ytnjaagfhaooapaa.Eng
set_option linter.unusedVariables false
set_option linter.unusedSimpArgs false
set_option linter.unnecessarySimpa false
set_option linter.constructorNameAsVariable false
open Go
set_option maxRecDepth 100000

theorem nodess_app : ∀ (a b : List Tree), nodess (a ++ b) = nodess a + nodess b
  | [], b => by simp [nodess]
  | t :: a, b => by simp [nodess, nodess_app a b]; omega

theorem readLoop_nodes (s : List UInt8) (rd : Nat → Tree × Int) (hb : ∀ i, (rd i).2 = -1 ∨ ((i : Int) < (rd i).2 ∧ (rd i).2 ≤ s.length)) (h : ∀ i, 0 ≤ (rd i).2 → (nodes (rd i).1 : Int) ≤ (rd i).2 - i) :
    ∀ (k i : Nat) (ps : List Tree), 0 ≤ (readLoop s rd k i ps).2 → (nodes (readLoop s rd k i ps).1 : Int) ≤ nodess ps + (readLoop s rd k i ps).2 - i
  | 0, i, ps => fun h => by simp [readLoop] at h
  | k + 1, i, ps => by
    have h1 := hb (i + 1)
    have h2 := h (i + 1)
    unfold readLoop
    split
    · intro q; simp at q
    · rename_i hn
      split
      · intro q
        simp only [nodes, nodess_app, nodess] at *
        have := h2 (by omega)
        simp at *; omega
      · split
        · intro q; simp at q
        · intro q
          have ih := readLoop_nodes s rd hb h k (rd (i + 1)).2.toNat (ps ++ [(rd (i + 1)).1]) q
          rw [nodess_app] at ih
          simp only [nodess] at ih
          have := h2 (by omega)
          omega

theorem readT_nodes (s : List UInt8) : ∀ (d i : Nat), 0 ≤ (readT s d i).2 → (nodes (readT s d i).1 : Int) ≤ (readT s d i).2 - i
  | 0, i => fun h => by simp [readT] at h
  | d + 1, i => by
    rw [readT]
    split
    · intro q; simp at q
    · split
      · split
        · intro q; simp at q
        · rename_i h0 h1 h2
          intro _
          have h3 : ((s.drop i).takeWhile isAtomB).length ≠ 0 := fun q => h2 (List.length_eq_zero_iff.1 q)
          simp [nodes, nodess]; omega
      · intro q
        have := readLoop_nodes s _ (readT_bound s d) (readT_nodes s d) _ _ _ q
        simpa [nodess] using this

theorem parseT_nodes (s : List UInt8) (h : (parseT s).2 = true) : nodes (parseT s).1 ≤ 8000 := by
  unfold parseT at h ⊢
  split
  · rename_i q; rw [if_pos q] at h; cases h
  · rename_i q
    rw [if_neg q] at h
    have h' : (readT s 301 0).2 = (s.length : Int) := by simpa using h
    have := readT_nodes s 301 0 (by omega)
    simp only
    omega

def typeT (s : List UInt8) : Tree × Bool := ((parseT s).1, (parseT s).2 && isT (parseT s).1 && decide (atomsN (parseT s).1 ≤ 400))

theorem l1Type_eq (s : List UInt8) (H : List HObj) : acall EA 24 [.str s] H = some (.tuple [embT (typeT s).1, .bool (typeT s).2], H) := by
  refine acall_is (fn := Try.f24) rfl Try.func24 rfl rfl (by simp [Try.f24]) ?_
  unfold typeT
  have hp := l1Parse_eq s H
  have hn := parseT_nodes s
  generalize parseT s = p at *
  obtain ⟨t, b⟩ := p
  simp only at hn
  cases b with
  | false => simp +decide -implicitDefEqProofs (maxSteps := 999999) (disch := first | assumption | omega) only [go_sem, if_true, if_false, decide_true, decide_false, Int.reduceToNat, Nat.reduceAdd, Nat.reduceMul, Nat.reduceSub, Int.reduceAdd, Int.reduceSub, Int.reduceMul, Int.reduceNeg, hp, embT_cells, embT_fold, norm_embT, frz_embT, below_embT]
  | true =>
    have ha := l1Atoms_eq t H (by have := hn rfl; omega)
    simp +decide -implicitDefEqProofs (maxSteps := 999999) (disch := first | assumption | omega) only [go_sem, if_true, if_false, decide_true, decide_false, Int.reduceToNat, Nat.reduceAdd, Nat.reduceMul, Nat.reduceSub, Int.reduceAdd, Int.reduceSub, Int.reduceMul, Int.reduceNeg, hp, embT_cells, embT_fold, norm_embT, frz_embT, below_embT, l1Is_eq]
    (iterate 6 (try (any_goals (first | ((first | refine condK_P ?_ ?_ | refine condK_N ?_ ?_ | refine gdK_P ?_ ?_ | refine gdK_N ?_ ?_ | refine gdR_P ?_ ?_ | refine gdR_N ?_ ?_) <;> intro hc <;> (try simp +decide -implicitDefEqProofs (maxSteps := 999999) (disch := first | assumption | omega) only [go_sem, if_true, if_false, decide_true, decide_false, Int.reduceToNat, Nat.reduceAdd, Nat.reduceMul, Nat.reduceSub, Int.reduceAdd, Int.reduceSub, Int.reduceMul, Int.reduceNeg, hp, embT_cells, embT_fold, norm_embT, frz_embT, below_embT, l1Is_eq, ha])) | ((first | refine condK_B ?_ ?_ | refine gdK_B ?_ ?_ | refine gdR_B ?_ ?_) <;> intro hc <;> (try simp +decide -implicitDefEqProofs (maxSteps := 999999) (disch := first | assumption | omega) only [go_sem, if_true, if_false, decide_true, decide_false, Int.reduceToNat, Nat.reduceAdd, Nat.reduceMul, Nat.reduceSub, Int.reduceAdd, Int.reduceSub, Int.reduceMul, Int.reduceNeg, hp, embT_cells, embT_fold, norm_embT, frz_embT, below_embT, l1Is_eq, ha, hc]))))))
    all_goals (congr 4; rw [decide_eq_decide]; omega)

def plainT : Tree → Bool
  | .mk a ps => if a = [] then (match ps with
      | [h, x, y] => !decide (h.atom = [114, 101, 99]) && plainT x && plainT y
      | _ => false) else decide (a = [48]) || decide (a = [49]) || decide (a = [120]) || decide (a = [121]) || decide (a = [122])
theorem plainT_atom (t : Tree) (h : t.atom ≠ []) : plainT t = (decide (t.atom = [48]) || decide (t.atom = [49]) || decide (t.atom = [120]) || decide (t.atom = [121]) || decide (t.atom = [122])) := by
  obtain ⟨a, ps⟩ := t
  have h' : ¬ a = [] := h
  show plainT (.mk a ps) = (decide (a = [48]) || decide (a = [49]) || decide (a = [120]) || decide (a = [121]) || decide (a = [122]))
  unfold plainT
  rw [if_neg h']
theorem plainT_three (t x1 x2 x3 : Tree) (h : t.atom = []) (hp : t.parts = [x1, x2, x3]) : plainT t = (!decide (x1.atom = [114, 101, 99]) && plainT x2 && plainT x3) := by
  obtain ⟨a, ps⟩ := t
  simp only [Tree.atom, Tree.parts] at h hp
  subst hp
  rw [plainT, if_pos h]

theorem l6pPlain_eq (t : Tree) (H : List HObj) (hT : isT t = true) : acall EA 25 [embT t] H = some (.bool (plainT t), H) := by
    refine acall_is (fn := Try.f25) rfl Try.func25 rfl rfl (by simp [Try.f25]) ?_
    by_cases ha : t.atom = []
    · by_cases h3 : t.parts.length = 3
      · obtain ⟨x1, x2, x3, hp⟩ := parts_three _ h3
        rw [isT_three t x1 x2 x3 ha hp] at hT
        have hv := plainT_three t x1 x2 x3 ha hp
        rw [hv]
        by_cases hr : x1.atom = [114, 101, 99]
        · have hd := head_three t x1 _ ha hp
          simp +decide -implicitDefEqProofs (maxSteps := 999999) (disch := first | assumption | omega) only [go_sem, if_true, if_false, decide_true, decide_false, Int.reduceToNat, Nat.reduceAdd, Nat.reduceMul, Nat.reduceSub, Int.reduceAdd, Int.reduceSub, Int.reduceMul, Int.reduceNeg, embT_cells, embT_fold, l1Head_eq, hd, hr]
        · have hT' : isT x2 = true ∧ isT x3 = true := by
            split at hT
            · simpa using hT
            · first | cases hT | (rw [if_neg hr] at hT; cases hT)
          have i2 : ∀ H, acall EA 25 [embT x2] H = some (.bool (plainT x2), H) := fun H =>
            have := sizeOf_part (t := t) (q := x2) (by simp [hp])
            l6pPlain_eq x2 H hT'.1
          have i3 : ∀ H, acall EA 25 [embT x3] H = some (.bool (plainT x3), H) := fun H =>
            have := sizeOf_part (t := t) (q := x3) (by simp [hp])
            l6pPlain_eq x3 H hT'.2
          have g2 := map_get embT t.parts 1 x2 (by simp [hp])
          have g3 := map_get embT t.parts 2 x3 (by simp [hp])
          have hd := head_three t x1 _ ha hp
          clear hv hp
          simp +decide -implicitDefEqProofs (maxSteps := 999999) (disch := first | assumption | omega) only [go_sem, if_true, if_false, decide_true, decide_false, Int.reduceToNat, Nat.reduceAdd, Nat.reduceMul, Nat.reduceSub, Int.reduceAdd, Int.reduceSub, Int.reduceMul, Int.reduceNeg, embT_cells, embT_fold, l1Head_eq, hd, g2, g3, i2, i3]
          (iterate 6 (try (any_goals (first | ((first | refine condK_P ?_ ?_ | refine condK_N ?_ ?_ | refine gdK_P ?_ ?_ | refine gdK_N ?_ ?_ | refine gdR_P ?_ ?_ | refine gdR_N ?_ ?_) <;> intro hc <;> (try simp +decide -implicitDefEqProofs (maxSteps := 999999) (disch := first | assumption | omega) only [go_sem, if_true, if_false, decide_true, decide_false, Int.reduceToNat, Nat.reduceAdd, Nat.reduceMul, Nat.reduceSub, Int.reduceAdd, Int.reduceSub, Int.reduceMul, Int.reduceNeg, embT_cells, embT_fold, l1Head_eq, hd, g2, g3, i2, i3])) | ((first | refine condK_B ?_ ?_ | refine gdK_B ?_ ?_ | refine gdR_B ?_ ?_) <;> intro hc <;> (try simp +decide -implicitDefEqProofs (maxSteps := 999999) (disch := first | assumption | omega) only [go_sem, if_true, if_false, decide_true, decide_false, Int.reduceToNat, Nat.reduceAdd, Nat.reduceMul, Nat.reduceSub, Int.reduceAdd, Int.reduceSub, Int.reduceMul, Int.reduceNeg, embT_cells, embT_fold, l1Head_eq, hd, g2, g3, i2, i3, hc]))))))
          all_goals (simp_all; done)
      · rw [isT_ne t ha h3] at hT; cases hT
    · rw [plainT_atom t ha]
      simp +decide -implicitDefEqProofs (maxSteps := 999999) (disch := first | assumption | omega) only [go_sem, if_true, if_false, decide_true, decide_false, Int.reduceToNat, Nat.reduceAdd, Nat.reduceMul, Nat.reduceSub, Int.reduceAdd, Int.reduceSub, Int.reduceMul, Int.reduceNeg, embT_cells, embT_fold]
      (iterate 6 (try (any_goals (first | ((first | refine condK_P ?_ ?_ | refine condK_N ?_ ?_ | refine gdK_P ?_ ?_ | refine gdK_N ?_ ?_ | refine gdR_P ?_ ?_ | refine gdR_N ?_ ?_) <;> intro hc <;> (try simp +decide -implicitDefEqProofs (maxSteps := 999999) (disch := first | assumption | omega) only [go_sem, if_true, if_false, decide_true, decide_false, Int.reduceToNat, Nat.reduceAdd, Nat.reduceMul, Nat.reduceSub, Int.reduceAdd, Int.reduceSub, Int.reduceMul, Int.reduceNeg, embT_cells, embT_fold])) | ((first | refine condK_B ?_ ?_ | refine gdK_B ?_ ?_ | refine gdR_B ?_ ?_) <;> intro hc <;> (try simp +decide -implicitDefEqProofs (maxSteps := 999999) (disch := first | assumption | omega) only [go_sem, if_true, if_false, decide_true, decide_false, Int.reduceToNat, Nat.reduceAdd, Nat.reduceMul, Nat.reduceSub, Int.reduceAdd, Int.reduceSub, Int.reduceMul, Int.reduceNeg, embT_cells, embT_fold, hc]))))))
      all_goals (simp_all; done)
  termination_by SizeOf.sizeOf t

def plainTypeT (s : List UInt8) : Tree × Bool := ((typeT s).1, (typeT s).2 && plainT (typeT s).1)
theorem l6pType_eq (s : List UInt8) (H : List HObj) : acall EA 18 [.str s] H = some (.tuple [embT (plainTypeT s).1, .bool (plainTypeT s).2], H) := by
  refine acall_is (fn := Try.f18) rfl Try.func18 rfl rfl (by simp [Try.f18]) ?_
  unfold plainTypeT
  have hp := l1Type_eq s H
  have hT : (typeT s).2 = true → isT (typeT s).1 = true := by
    simp [typeT]; intros; assumption
  generalize typeT s = p at *
  obtain ⟨t, b⟩ := p
  cases b with
  | false => simp +decide -implicitDefEqProofs (maxSteps := 999999) (disch := first | assumption | omega) only [go_sem, if_true, if_false, decide_true, decide_false, Int.reduceToNat, Nat.reduceAdd, Nat.reduceMul, Nat.reduceSub, Int.reduceAdd, Int.reduceSub, Int.reduceMul, Int.reduceNeg, hp, embT_cells, embT_fold, norm_embT, frz_embT, below_embT]
  | true =>
    have hq := l6pPlain_eq t H (hT rfl)
    simp +decide -implicitDefEqProofs (maxSteps := 999999) (disch := first | assumption | omega) only [go_sem, if_true, if_false, decide_true, decide_false, Int.reduceToNat, Nat.reduceAdd, Nat.reduceMul, Nat.reduceSub, Int.reduceAdd, Int.reduceSub, Int.reduceMul, Int.reduceNeg, hp, embT_cells, embT_fold, norm_embT, frz_embT, below_embT, hq]
end Go.Proofs.Ytnjaagfhaooapaa.Eng
