/- WALK 3: names. -/
import Derived.Test.YtnjaagfhaooapaaP2
namespace Go.Proofs.Ytnjaagfhaooapaa.Eng
set_option linter.unusedVariables false
set_option linter.unusedSimpArgs false
set_option linter.unnecessarySimpa false
set_option linter.constructorNameAsVariable false
open Go
set_option maxRecDepth 100000

def digitB (d : UInt8) : Bool := decide (48 ≤ (d.toNat : Int)) && decide ((d.toNat : Int) ≤ 57)

/-- A name: a letter, then at most two digits. -/
def nameB (lo hi : Int) : List UInt8 → Bool
  | [] => false
  | c :: r => decide (r.length ≤ 2) && decide (lo ≤ (c.toNat : Int)) && decide ((c.toNat : Int) ≤ hi) && r.all digitB

theorem l1Name_eq (s : List UInt8) (lo hi : Int) (H : List HObj) : acall EA 40 [.str s, .int .u8 lo, .int .u8 hi] H = some (.bool (nameB lo hi s), H) := by
  refine acall_is (fn := Try.f40) rfl Try.func40 rfl rfl (by simp [Try.f40]) ?_
  cases s with
  | nil => simp +decide -implicitDefEqProofs (maxSteps := 999999) (disch := first | assumption | omega) only [go_sem, if_true, if_false, decide_true, decide_false, Int.reduceToNat, Nat.reduceAdd, Nat.reduceMul, Nat.reduceSub, Int.reduceAdd, Int.reduceSub, Int.reduceMul, Int.reduceNeg, l6In_eq, nameB]
  | cons c r =>
    by_cases h1 : r.length ≤ 2
    · by_cases h2 : (c.toNat : Int) < lo
      · simp +decide -implicitDefEqProofs (maxSteps := 999999) (disch := first | assumption | omega) only [go_sem, if_true, if_false, decide_true, decide_false, Int.reduceToNat, Nat.reduceAdd, Nat.reduceMul, Nat.reduceSub, Int.reduceAdd, Int.reduceSub, Int.reduceMul, Int.reduceNeg, l6In_eq, nameB]
      · by_cases h3 : hi < (c.toNat : Int)
        · simp +decide -implicitDefEqProofs (maxSteps := 999999) (disch := first | assumption | omega) only [go_sem, if_true, if_false, decide_true, decide_false, Int.reduceToNat, Nat.reduceAdd, Nat.reduceMul, Nat.reduceSub, Int.reduceAdd, Int.reduceSub, Int.reduceMul, Int.reduceNeg, l6In_eq, nameB]
        · simp +decide -implicitDefEqProofs (maxSteps := 999999) (disch := first | assumption | omega) only [go_sem, if_true, if_false, decide_true, decide_false, Int.reduceToNat, Nat.reduceAdd, Nat.reduceMul, Nat.reduceSub, Int.reduceAdd, Int.reduceSub, Int.reduceMul, Int.reduceNeg, l6In_eq]
          refine wp_loop (α := Nat) (fun i => r.length + 1 - i) (fun i σ => σ.t 0 = .v (.str (c :: r)) ∧ σ.t 7 = .v (.int .i64 (i : Int)) ∧ σ.H = H ∧ 1 ≤ i ∧ i ≤ r.length + 1 ∧ ∀ j (h : j < (c :: r).length), 1 ≤ j → j < i → digitB (c :: r)[j] = true) ?_ 1 _ ⟨rfl, rfl, rfl, by omega, by omega, fun j _ h1 h2 => by omega⟩
          rintro i ⟨t, L, H'⟩ ⟨e0, e7, hH, hi1, hi2, hq⟩
          simp only at e0 e7 hH
          subst hH
          by_cases hlt : i < r.length + 1
          · have hlt2 : i < (c :: r).length := by simpa using hlt
            have hg : (c :: r)[i]? = some (c :: r)[i] := by simp [hlt]
            generalize hd : (c :: r)[i] = d at hg
            have bad : digitB d = false → nameB lo hi (c :: r) = false := by
              intro hb
              have : r.all digitB = false := by
                rw [List.all_eq_false]
                refine ⟨d, ?_, by simp [hb]⟩
                obtain ⟨k, rfl⟩ : ∃ k, i = k + 1 := ⟨i - 1, by omega⟩
                simp at hd hlt2
                rw [← hd]; exact List.getElem_mem _
              simp [nameB, this]
            by_cases k1 : (d.toNat : Int) < 48
            · have hb := bad (by simp [digitB]; omega)
              simp +decide -implicitDefEqProofs (maxSteps := 999999) (disch := first | assumption | omega) only [go_sem, if_true, if_false, decide_true, decide_false, Int.reduceToNat, Nat.reduceAdd, Nat.reduceMul, Nat.reduceSub, Int.reduceAdd, Int.reduceSub, Int.reduceMul, Int.reduceNeg, e0, e7, hg, hb]
            · by_cases k2 : 57 < (d.toNat : Int)
              · have hb := bad (by simp [digitB]; omega)
                simp +decide -implicitDefEqProofs (maxSteps := 999999) (disch := first | assumption | omega) only [go_sem, if_true, if_false, decide_true, decide_false, Int.reduceToNat, Nat.reduceAdd, Nat.reduceMul, Nat.reduceSub, Int.reduceAdd, Int.reduceSub, Int.reduceMul, Int.reduceNeg, e0, e7, hg, hb]
              · simp +decide -implicitDefEqProofs (maxSteps := 999999) (disch := first | assumption | omega) only [go_sem, if_true, if_false, decide_true, decide_false, Int.reduceToNat, Nat.reduceAdd, Nat.reduceMul, Nat.reduceSub, Int.reduceAdd, Int.reduceSub, Int.reduceMul, Int.reduceNeg, e0, e7, hg]
                refine ⟨i + 1, by omega, rfl, by omega, by omega, fun j hj h1 h2 => ?_⟩
                rcases Nat.lt_or_ge j i with q | q
                · exact hq j hj h1 q
                · have : j = i := by omega
                  subst this
                  rw [hd]; simp [digitB]; omega
          · have : r.all digitB = true := by
              rw [List.all_eq_true]
              intro x hx
              obtain ⟨j, hj, rfl⟩ := List.getElem_of_mem hx
              have := hq (j + 1) (by simp; omega) (by omega) (by omega)
              simpa using this
            have hb : nameB lo hi (c :: r) = true := by simp [nameB, this, h1]; omega
            simp +decide -implicitDefEqProofs (maxSteps := 999999) (disch := first | assumption | omega) only [go_sem, if_true, if_false, decide_true, decide_false, Int.reduceToNat, Nat.reduceAdd, Nat.reduceMul, Nat.reduceSub, Int.reduceAdd, Int.reduceSub, Int.reduceMul, Int.reduceNeg, e0, e7, hb]
    · simp +decide -implicitDefEqProofs (maxSteps := 999999) (disch := first | assumption | omega) only [go_sem, if_true, if_false, decide_true, decide_false, Int.reduceToNat, Nat.reduceAdd, Nat.reduceMul, Nat.reduceSub, Int.reduceAdd, Int.reduceSub, Int.reduceMul, Int.reduceNeg, l6In_eq, nameB]

theorem l1Param_eq (s : List UInt8) (H : List HObj) : acall EA 37 [.str s] H = some (.bool (nameB 120 122 s), H) := by
  refine acall_is (fn := Try.f37) rfl Try.func37 rfl rfl (by simp [Try.f37]) ?_
  simp (maxSteps := 2000000) (implicitDefEqProofs := false) (decide := true) only [go_sem, l1Name_eq]

theorem l1Loop_eq (s : List UInt8) (H : List HObj) : acall EA 38 [.str s] H = some (.bool (nameB 116 116 s), H) := by
  refine acall_is (fn := Try.f38) rfl Try.func38 rfl rfl (by simp [Try.f38]) ?_
  simp (maxSteps := 2000000) (implicitDefEqProofs := false) (decide := true) only [go_sem, l1Name_eq]

end Go.Proofs.Ytnjaagfhaooapaa.Eng
