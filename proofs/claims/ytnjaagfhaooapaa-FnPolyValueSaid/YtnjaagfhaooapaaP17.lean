/- WALK 17: the law FnPolyValue. -/
import Derived.Test.YtnjaagfhaooapaaP16
namespace Go.Proofs.Ytnjaagfhaooapaa.Eng
set_option linter.unusedVariables false
set_option linter.unusedSimpArgs false
set_option linter.unnecessarySimpa false
set_option linter.constructorNameAsVariable false
open Go
set_option maxRecDepth 100000

theorem validB_one (t : Tm) (h : okT t = true) : validB [t] = true := by
  have hv : ValidTo [t] 1 := by
    intro j hj _
    obtain rfl : j = 0 := by simpa using hj
    exact ⟨h, fun k hk q => by omega⟩
  simp [validB, hv]
theorem pvV_one (t : Tm) (x y z : Int) (h : okT t = true) (hx : inB x = true) (hy : inB y = true) (hz : inB z = true) (hT : termV t x y z ≤ 1000000000) : pvV [t] x y z = (termV t x y z, true) := by
  simp only [pvV, validB_one t h, hx, hy, hz, Bool.and_self, if_true, sumG, Int.zero_add]
  rw [if_neg (by omega)]
theorem sumG_fst (x y z : Int) : ∀ (ts : List Tm) (s : Int), (sumG x y z ts s).2 = false → (sumG x y z ts s).1 = 0
  | [], s => by simp [sumG]
  | t :: l, s => by
    rw [sumG]
    split
    · intro _; rfl
    · exact sumG_fst x y z l _

set_option maxHeartbeats 2000000 in
theorem FnPolyValue_true (bs : List UInt8) (o : Own) (H : List HObj) : acall EA 3 [.slice (bs.map byA) o] H = some (.bool true, H) := by
  refine acall_is (fn := Try.f3) rfl Try.func3 rfl rfl (by simp [Try.f3]) ?_
  by_cases hb : 1048576 < bs.length
  · simp +decide -implicitDefEqProofs (maxSteps := 999999) (disch := first | assumption | omega) only [go_sem, if_true, if_false, decide_true, decide_false, Int.reduceToNat, Nat.reduceAdd, Nat.reduceMul, Nat.reduceSub, Int.reduceAdd, Int.reduceSub, Int.reduceMul, Int.reduceNeg]
  · simp +decide -implicitDefEqProofs (maxSteps := 999999) (disch := first | assumption | omega) only [go_sem, if_true, if_false, decide_true, decide_false, Int.reduceToNat, Nat.reduceAdd, Nat.reduceMul, Nat.reduceSub, Int.reduceAdd, Int.reduceSub, Int.reduceMul, Int.reduceNeg]
    refine call_ex (DrawPolyValue_ex bs o H) ?_
    rintro _ H ⟨rfl, ts, own, x, y, z, rfl, hl, -⟩
    simp +decide -implicitDefEqProofs (maxSteps := 999999) (disch := first | assumption | omega) only [go_sem, if_true, if_false, decide_true, decide_false, Int.reduceToNat, Nat.reduceAdd, Nat.reduceMul, Nat.reduceSub, Int.reduceAdd, Int.reduceSub, Int.reduceMul, Int.reduceNeg, implPV_eq, specPV_eq]
    cases hp : (pvV ts x y z).2 with
    | false => simp +decide -implicitDefEqProofs (maxSteps := 999999) (disch := first | assumption | omega) only [go_sem, if_true, if_false, decide_true, decide_false, Int.reduceToNat, Nat.reduceAdd, Nat.reduceMul, Nat.reduceSub, Int.reduceAdd, Int.reduceSub, Int.reduceMul, Int.reduceNeg, hp]
    | true =>
      simp +decide -implicitDefEqProofs (maxSteps := 999999) (disch := first | assumption | omega) only [go_sem, if_true, if_false, decide_true, decide_false, Int.reduceToNat, Nat.reduceAdd, Nat.reduceMul, Nat.reduceSub, Int.reduceAdd, Int.reduceSub, Int.reduceMul, Int.reduceNeg, hp]
      have hvv : (validB ts && inB x && inB y && inB z) = true := by
        unfold pvV at hp
        split at hp
        · assumption
        · cases hp
      have hpv : pvV ts x y z = sumG x y z ts 0 := by simp [pvV, hvv]
      simp only [Bool.and_eq_true] at hvv
      obtain ⟨⟨⟨hv, hx⟩, hy⟩, hz⟩ := hvv
      obtain ⟨hok, h60⟩ := validB_ok hv
      have hx' := hx
      have hy' := hy
      have hz' := hz
      simp only [inB, Bool.and_eq_true, decide_eq_true_eq] at hx' hy' hz'
      obtain ⟨S, hS⟩ : ∃ S, pvV ts x y z = (S, true) := ⟨(pvV ts x y z).1, by rw [← hp]⟩
      rw [hS] at hpv
      simp +decide -implicitDefEqProofs (maxSteps := 999999) (disch := first | assumption | omega) only [go_sem, if_true, if_false, decide_true, decide_false, Int.reduceToNat, Nat.reduceAdd, Nat.reduceMul, Nat.reduceSub, Int.reduceAdd, Int.reduceSub, Int.reduceMul, Int.reduceNeg, hS]
      refine wp_loop (α := Nat) (fun i => ts.length - i) (fun i σ => Holds (fun σ => ∃ s : Int, σ.t 3 = .v (.slice (ts.map tmA) own) ∧ σ.t 4 = .v (.int .i64 x) ∧ σ.t 5 = .v (.int .i64 y) ∧ σ.t 6 = .v (.int .i64 z) ∧ σ.t 7 = .v (.int .i64 S) ∧ σ.t 11 = .v (.int .i64 s) ∧ σ.t 12 = .v (.int .i64 (i : Int)) ∧ σ.H = H ∧ i ≤ ts.length ∧ 0 ≤ s ∧ s ≤ 1000000000 ∧ sumG x y z (ts.drop i) s = (S, true)) σ) ?_ 0 _ ?_
      rotate_left
      · exact .mk ⟨0, rfl, rfl, rfl, rfl, rfl, rfl, rfl, rfl, by omega, by omega, by omega, hpv.symm⟩
      rintro i ⟨t', L, H'⟩ ⟨s, e3, e4, e5, e6, e7, e11, e12, hH, hi, s0, s1, hs⟩
      simp only at e3 e4 e5 e6 e7 e11 e12 hH
      subst hH
      by_cases hlt : i < ts.length
      · have hd : ts.drop i = ts[i] :: ts.drop (i + 1) := List.drop_eq_getElem_cons hlt
        have hbd := termV_bd ts[i] x y z (hok i hlt) hx' hy' hz'
        rw [hd, sumG] at hs
        by_cases hbig : 1000000000 < s + termV ts[i] x y z
        · rw [if_pos hbig] at hs
          injection hs with _ q; cases q
        · rw [if_neg hbig] at hs
          have h1 := implPV_eq [ts[i]] x y z .view (by simp) H'
          rw [pvV_one ts[i] x y z (hok i hlt) hx hy hz (by omega)] at h1
          simp only [List.map_cons, List.map_nil] at h1
          have hsl : ((ts.map tmA).drop i).take 1 = [ts[i]].map tmA := by
            rw [← List.map_drop, hd]; rfl
          have hi1 : ((i : Int) + 1).toNat - i = 1 := by omega
          generalize termV ts[i] x y z = T at *
          simp +decide -implicitDefEqProofs (maxSteps := 999999) (disch := first | assumption | omega) only [go_sem, if_true, if_false, decide_true, decide_false, Int.reduceToNat, Nat.reduceAdd, Nat.reduceMul, Nat.reduceSub, Int.reduceAdd, Int.reduceSub, Int.reduceMul, Int.reduceNeg, e3, e4, e5, e6, e7, e11, e12, Sz_tm, hsl, hi1, h1]
          exact ⟨i + 1, by omega, .mk ⟨s + T, e3, e4, e5, e6, e7, rfl, rfl, rfl, by omega, by omega, by omega, hs⟩⟩
      · obtain rfl : i = ts.length := by omega
        rw [List.drop_length, sumG] at hs
        injection hs with q1 q2
        simp +decide -implicitDefEqProofs (maxSteps := 999999) (disch := first | assumption | omega) only [go_sem, if_true, if_false, decide_true, decide_false, Int.reduceToNat, Nat.reduceAdd, Nat.reduceMul, Nat.reduceSub, Int.reduceAdd, Int.reduceSub, Int.reduceMul, Int.reduceNeg, e3, e4, e5, e6, e7, e11, e12, q1]
end Go.Proofs.Ytnjaagfhaooapaa.Eng
