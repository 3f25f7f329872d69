/- WALK 16: the program's values of polynomials. -/
import Derived.Test.YtnjaagfhaooapaaP15
namespace Go.Proofs.Ytnjaagfhaooapaa.Eng
set_option linter.unusedVariables false
set_option linter.unusedSimpArgs false
set_option linter.unnecessarySimpa false
set_option linter.constructorNameAsVariable false
open Go
set_option maxRecDepth 100000

def pick3 (x y z : Int) (j : Nat) : Int := if j = 0 then x else if j = 1 then y else z
theorem pick3_get (x y z : Int) (j : Nat) (h : j < 3) : [AV.int .i64 x, AV.int .i64 y, AV.int .i64 z][j]? = some (.int .i64 (pick3 x y z j)) := by
  match j, h with
  | 0, _ => rfl
  | 1, _ => rfl
  | 2, _ => rfl
/-- The term, as far as the first j numbers. -/
def termTo (t : Tm) (x y z : Int) : Nat → Int
  | 0 => t.c
  | j + 1 => satP (pick3 x y z j) (pick3 t.x t.y t.z j).toNat (termTo t x y z j)
theorem termTo_3 (t : Tm) (x y z : Int) : termTo t x y z 3 = termV t x y z := rfl
theorem pick3_bd {x y z A : Int} (hx : 0 ≤ x ∧ x ≤ A) (hy : 0 ≤ y ∧ y ≤ A) (hz : 0 ≤ z ∧ z ≤ A) (j : Nat) : 0 ≤ pick3 x y z j ∧ pick3 x y z j ≤ A := by
  unfold pick3; split
  · exact hx
  · split
    · exact hy
    · exact hz
theorem termTo_bd (t : Tm) (x y z : Int) (h : okT t = true) (hx : 0 ≤ x ∧ x ≤ 100) (hy : 0 ≤ y ∧ y ≤ 100) (hz : 0 ≤ z ∧ z ≤ 100) : ∀ j, 0 ≤ termTo t x y z j ∧ termTo t x y z j ≤ 1000000001
  | 0 => by rw [okT_iff] at h; simp only [termTo]; omega
  | j + 1 => by
    have ih := termTo_bd t x y z h hx hy hz j
    have hb := pick3_bd hx hy hz j
    exact satP_bd _ hb.1 hb.2 _ _ ih.1 ih.2

set_option maxHeartbeats 2000000 in
theorem implPV_eq (ts : List Tm) (x y z : Int) (o : Own) (hl : ts.length ≤ 1000000) (H : List HObj) : acall EA 5 [.slice (ts.map tmA) o, .int .i64 x, .int .i64 y, .int .i64 z] H = some (.tuple [.int .i64 (pvV ts x y z).1, .bool (pvV ts x y z).2], H) := by
  refine acall_is (fn := Try.f5) rfl Try.func5 rfl rfl (by simp [Try.f5]) ?_
  cases hv : validB ts with
  | false => simp +decide -implicitDefEqProofs (maxSteps := 999999) (disch := first | assumption | omega) only [go_sem, if_true, if_false, decide_true, decide_false, Int.reduceToNat, Nat.reduceAdd, Nat.reduceMul, Nat.reduceSub, Int.reduceAdd, Int.reduceSub, Int.reduceMul, Int.reduceNeg, isPoly_eq, hv, pvV]
  | true =>
    simp +decide -implicitDefEqProofs (maxSteps := 999999) (disch := first | assumption | omega) only [go_sem, if_true, if_false, decide_true, decide_false, Int.reduceToNat, Nat.reduceAdd, Nat.reduceMul, Nat.reduceSub, Int.reduceAdd, Int.reduceSub, Int.reduceMul, Int.reduceNeg, isPoly_eq, hv]
    rw [wp_loop1]
    simp +decide -implicitDefEqProofs (maxSteps := 999999) (disch := first | assumption | omega) only [go_sem, if_true, if_false, decide_true, decide_false, Int.reduceToNat, Nat.reduceAdd, Nat.reduceMul, Nat.reduceSub, Int.reduceAdd, Int.reduceSub, Int.reduceMul, Int.reduceNeg]
    by_cases nx : inB x = true
    · have nx' := nx
      simp only [inB, Bool.and_eq_true, decide_eq_true_eq] at nx'
      obtain ⟨nx1, nx2⟩ := nx'
      simp +decide -implicitDefEqProofs (maxSteps := 999999) (disch := first | assumption | omega) only [go_sem, if_true, if_false, decide_true, decide_false, Int.reduceToNat, Nat.reduceAdd, Nat.reduceMul, Nat.reduceSub, Int.reduceAdd, Int.reduceSub, Int.reduceMul, Int.reduceNeg]
      rw [wp_loop1]
      simp +decide -implicitDefEqProofs (maxSteps := 999999) (disch := first | assumption | omega) only [go_sem, if_true, if_false, decide_true, decide_false, Int.reduceToNat, Nat.reduceAdd, Nat.reduceMul, Nat.reduceSub, Int.reduceAdd, Int.reduceSub, Int.reduceMul, Int.reduceNeg]
      by_cases ny : inB y = true
      · have ny' := ny
        simp only [inB, Bool.and_eq_true, decide_eq_true_eq] at ny'
        obtain ⟨ny1, ny2⟩ := ny'
        simp +decide -implicitDefEqProofs (maxSteps := 999999) (disch := first | assumption | omega) only [go_sem, if_true, if_false, decide_true, decide_false, Int.reduceToNat, Nat.reduceAdd, Nat.reduceMul, Nat.reduceSub, Int.reduceAdd, Int.reduceSub, Int.reduceMul, Int.reduceNeg]
        rw [wp_loop1]
        simp +decide -implicitDefEqProofs (maxSteps := 999999) (disch := first | assumption | omega) only [go_sem, if_true, if_false, decide_true, decide_false, Int.reduceToNat, Nat.reduceAdd, Nat.reduceMul, Nat.reduceSub, Int.reduceAdd, Int.reduceSub, Int.reduceMul, Int.reduceNeg]
        by_cases nz : inB z = true
        · have nz' := nz
          simp only [inB, Bool.and_eq_true, decide_eq_true_eq] at nz'
          obtain ⟨nz1, nz2⟩ := nz'
          simp +decide -implicitDefEqProofs (maxSteps := 999999) (disch := first | assumption | omega) only [go_sem, if_true, if_false, decide_true, decide_false, Int.reduceToNat, Nat.reduceAdd, Nat.reduceMul, Nat.reduceSub, Int.reduceAdd, Int.reduceSub, Int.reduceMul, Int.reduceNeg]
          rw [wp_loop1]
          simp +decide -implicitDefEqProofs (maxSteps := 999999) (disch := first | assumption | omega) only [go_sem, if_true, if_false, decide_true, decide_false, Int.reduceToNat, Nat.reduceAdd, Nat.reduceMul, Nat.reduceSub, Int.reduceAdd, Int.reduceSub, Int.reduceMul, Int.reduceNeg]
          obtain ⟨hok, h60⟩ := validB_ok hv
          have hpv : pvV ts x y z = sumG x y z ts 0 := by simp [pvV, hv, nx, ny, nz]
          rw [hpv]
          refine wp_loop (α := Nat) (fun i => ts.length - i) (fun i σ => Holds (fun σ => ∃ s : Int, σ.t 10 = .loc 10 0 0 ∧ σ.L 10 = some (0, [.int .i64 x, .int .i64 y, .int .i64 z]) ∧ σ.t 13 = .v (.int .i64 s) ∧ σ.t 37 = .v (.slice (ts.map tmA) o) ∧ σ.t 38 = .v (.int .i64 (ts.length : Int)) ∧ σ.t 39 = .v (.int .i64 (i : Int)) ∧ σ.H = H ∧ i ≤ ts.length ∧ 0 ≤ s ∧ s ≤ 1000000000 ∧ sumG x y z (ts.drop i) s = sumG x y z ts 0) σ) ?_ 0 _ (.mk ⟨0, rfl, rfl, rfl, rfl, rfl, rfl, rfl, by omega, by omega, by omega, rfl⟩)
          rintro i ⟨t', L, H'⟩ ⟨s, e10, l10, e13, e37, e38, e39, hH, hi, s0, s1, hs⟩
          simp only at e10 l10 e13 e37 e38 e39 hH
          subst hH
          by_cases hlt : i < ts.length
          · have hg : (ts.map tmA)[i]? = some (tmA ts[i]) := by simp [hlt]
            have hd : ts.drop i = ts[i] :: ts.drop (i + 1) := List.drop_eq_getElem_cons hlt
            have hk := (okT_iff _).1 (hok i hlt)
            have hbd := termTo_bd ts[i] x y z (hok i hlt) ⟨nx1, nx2⟩ ⟨ny1, ny2⟩ ⟨nz1, nz2⟩
            have hn := pick3_bd (x := x) (y := y) (z := z) (A := 100) ⟨nx1, nx2⟩ ⟨ny1, ny2⟩ ⟨nz1, nz2⟩
            have hp := pick3_bd (x := ts[i].x) (y := ts[i].y) (z := ts[i].z) (A := 400) ⟨by omega, by omega⟩ ⟨by omega, by omega⟩ ⟨by omega, by omega⟩
            rw [hd, sumG, ← termTo_3] at hs
            generalize ts[i] = t at *
            obtain ⟨k1, k2, k3, k4, k5, k6, k7, k8⟩ := hk
            simp +decide -implicitDefEqProofs (maxSteps := 999999) (disch := first | assumption | omega) only [go_sem, if_true, if_false, decide_true, decide_false, Int.reduceToNat, Nat.reduceAdd, Nat.reduceMul, Nat.reduceSub, Int.reduceAdd, Int.reduceSub, Int.reduceMul, Int.reduceNeg, e10, l10, e13, e37, e38, e39, hg, tmA_cells]
            refine wp_loop (α := Nat) (fun j => 3 - j) (fun j σ => Holds (fun σ => σ.t 10 = .loc 10 0 0 ∧ σ.L 10 = some (0, [.int .i64 x, .int .i64 y, .int .i64 z]) ∧ σ.t 13 = .v (.int .i64 s) ∧ σ.t 37 = .v (.slice (ts.map tmA) o) ∧ σ.t 38 = .v (.int .i64 (ts.length : Int)) ∧ σ.t 39 = .v (.int .i64 (i : Int)) ∧ σ.H = H' ∧ σ.t 16 = .v (.int .i64 (termTo t x y z j)) ∧ σ.t 51 = .v (.agg [.int .i64 t.x, .int .i64 t.y, .int .i64 t.z]) ∧ σ.t 52 = .v (.int .i64 (j : Int)) ∧ j ≤ 3) σ) ?_ 0 _ ?_
            rotate_left
            · exact .mk ⟨e10, l10, e13, e37, e38, e39, rfl, rfl, rfl, rfl, by omega⟩
            rintro j ⟨t', L, H'⟩ ⟨e10, l10, e13, e37, e38, e39, hH, e16, e51, e52, hj⟩
            simp only at e10 l10 e13 e37 e38 e39 e16 e51 e52 hH
            subst hH
            by_cases hj3 : j < 3
            · have hg1 := pick3_get t.x t.y t.z j hj3
              have hg2 := pick3_get x y z j hj3
              have b1 := hbd j
              have b2 := hn j
              have b3 := hp j
              have hT : termTo t x y z (j + 1) = satP (pick3 x y z j) (pick3 t.x t.y t.z j).toNat (termTo t x y z j) := rfl
              generalize pick3 t.x t.y t.z j = w at *
              generalize pick3 x y z j = n at *
              generalize termTo t x y z j = a at *
              clear hs hbd hn hp
              simp +decide -implicitDefEqProofs (maxSteps := 999999) (disch := first | assumption | omega) only [go_sem, if_true, if_false, decide_true, decide_false, Int.reduceToNat, Nat.reduceAdd, Nat.reduceMul, Nat.reduceSub, Int.reduceAdd, Int.reduceSub, Int.reduceMul, Int.reduceNeg, e10, l10, e13, e37, e38, e39, e16, e51, e52, hg1]
              refine wp_loop (α := Nat) (fun k => w.toNat - k) (fun k σ => Holds (fun σ => ∃ cur : Int, σ.t 10 = .loc 10 0 0 ∧ σ.L 10 = some (0, [.int .i64 x, .int .i64 y, .int .i64 z]) ∧ σ.t 13 = .v (.int .i64 s) ∧ σ.t 37 = .v (.slice (ts.map tmA) o) ∧ σ.t 38 = .v (.int .i64 (ts.length : Int)) ∧ σ.t 39 = .v (.int .i64 (i : Int)) ∧ σ.H = H' ∧ σ.t 16 = .v (.int .i64 cur) ∧ σ.t 17 = .v (.int .i64 (j : Int)) ∧ σ.t 18 = .v (.int .i64 w) ∧ σ.t 51 = .v (.agg [.int .i64 t.x, .int .i64 t.y, .int .i64 t.z]) ∧ σ.t 52 = .v (.int .i64 (j : Int)) ∧ σ.t 56 = .v (.int .i64 w) ∧ σ.t 57 = .v (.int .i64 (k : Int)) ∧ k ≤ w.toNat ∧ 0 ≤ cur ∧ cur ≤ 1000000001 ∧ satP n (w.toNat - k) cur = satP n w.toNat a) σ) ?_ 0 _ ?_
              rotate_left
              · exact .mk ⟨a, e10, l10, e13, e37, e38, e39, rfl, e16, rfl, rfl, e51, e52, rfl, rfl, by omega, by omega, by omega, rfl⟩
              rintro k ⟨t', L, H'⟩ ⟨cur, e10, l10, e13, e37, e38, e39, hH, e16, e17, e18, e51, e52, e56, e57, hk, c0, c1, hc⟩
              simp only at e10 l10 e13 e37 e38 e39 e16 e17 e18 e51 e52 e56 e57 hH
              subst hH
              by_cases hkw : (k : Int) < w
              · have hm := mul_bd c0 c1 b2.1 b2.2
                have ek : w.toNat - k = (w.toNat - (k + 1)) + 1 := by omega
                rw [ek, satP] at hc
                by_cases h0 : capI (cur * n) = 0
                · have h0' : (if 1000000001 < cur * n then 1000000001 else cur * n) = 0 := h0
                  rw [h0, satP_zero] at hc
                  by_cases hz : n = 0
                  · simp +decide -implicitDefEqProofs (maxSteps := 999999) (disch := first | assumption | omega) only [go_sem, if_true, if_false, decide_true, decide_false, Int.reduceToNat, Nat.reduceAdd, Nat.reduceMul, Nat.reduceSub, Int.reduceAdd, Int.reduceSub, Int.reduceMul, Int.reduceNeg, e10, l10, e13, e37, e38, e39, e16, e17, e18, e51, e52, e56, e57, hg2, h0']
                    exact ⟨j + 1, by omega, .mk ⟨e10, l10, e13, e37, e38, e39, rfl, by rw [hT, ← hc]; rfl, e51, rfl, by omega⟩⟩
                  · simp +decide -implicitDefEqProofs (maxSteps := 999999) (disch := first | assumption | omega) only [go_sem, if_true, if_false, decide_true, decide_false, Int.reduceToNat, Nat.reduceAdd, Nat.reduceMul, Nat.reduceSub, Int.reduceAdd, Int.reduceSub, Int.reduceMul, Int.reduceNeg, e10, l10, e13, e37, e38, e39, e16, e17, e18, e51, e52, e56, e57, hg2, h0']
                    exact ⟨j + 1, by omega, .mk ⟨e10, l10, e13, e37, e38, e39, rfl, by rw [hT, ← hc]; rfl, e51, rfl, by omega⟩⟩
                · have h0' : ¬ (if 1000000001 < cur * n then 1000000001 else cur * n) = 0 := h0
                  have hcb : 0 ≤ capI (cur * n) ∧ capI (cur * n) ≤ 1000000001 := by unfold capI; split <;> omega
                  have hfold : (if 1000000001 < cur * n then 1000000001 else cur * n) = capI (cur * n) := rfl
                  simp +decide -implicitDefEqProofs (maxSteps := 999999) (disch := first | assumption | omega) only [go_sem, if_true, if_false, decide_true, decide_false, Int.reduceToNat, Nat.reduceAdd, Nat.reduceMul, Nat.reduceSub, Int.reduceAdd, Int.reduceSub, Int.reduceMul, Int.reduceNeg, e10, l10, e13, e37, e38, e39, e16, e17, e18, e51, e52, e56, e57, hg2, hfold]
                  exact ⟨k + 1, by omega, .mk ⟨capI (cur * n), e10, l10, e13, e37, e38, e39, rfl, rfl, e17, e18, e51, e52, e56, rfl, by omega, hcb.1, hcb.2, hc⟩⟩
              · have ek : w.toNat - k = 0 := by omega
                rw [ek, satP] at hc
                subst hc
                by_cases hz : n = 0
                · by_cases hw : 0 < w
                  · have h0 : satP n w.toNat a = 0 := by rw [hz]; exact satP_no _ _ (by omega)
                    simp +decide -implicitDefEqProofs (maxSteps := 999999) (disch := first | assumption | omega) only [go_sem, if_true, if_false, decide_true, decide_false, Int.reduceToNat, Nat.reduceAdd, Nat.reduceMul, Nat.reduceSub, Int.reduceAdd, Int.reduceSub, Int.reduceMul, Int.reduceNeg, e10, l10, e13, e37, e38, e39, e16, e17, e18, e51, e52, e56, e57, hg2]
                    exact ⟨j + 1, by omega, .mk ⟨e10, l10, e13, e37, e38, e39, rfl, by rw [hT, h0]; rfl, e51, rfl, by omega⟩⟩
                  · simp +decide -implicitDefEqProofs (maxSteps := 999999) (disch := first | assumption | omega) only [go_sem, if_true, if_false, decide_true, decide_false, Int.reduceToNat, Nat.reduceAdd, Nat.reduceMul, Nat.reduceSub, Int.reduceAdd, Int.reduceSub, Int.reduceMul, Int.reduceNeg, e10, l10, e13, e37, e38, e39, e16, e17, e18, e51, e52, e56, e57, hg2]
                    exact ⟨j + 1, by omega, .mk ⟨e10, l10, e13, e37, e38, e39, rfl, by rw [hT]; exact e16, e51, rfl, by omega⟩⟩
                · simp +decide -implicitDefEqProofs (maxSteps := 999999) (disch := first | assumption | omega) only [go_sem, if_true, if_false, decide_true, decide_false, Int.reduceToNat, Nat.reduceAdd, Nat.reduceMul, Nat.reduceSub, Int.reduceAdd, Int.reduceSub, Int.reduceMul, Int.reduceNeg, e10, l10, e13, e37, e38, e39, e16, e17, e18, e51, e52, e56, e57, hg2]
                  exact ⟨j + 1, by omega, .mk ⟨e10, l10, e13, e37, e38, e39, rfl, by rw [hT]; exact e16, e51, rfl, by omega⟩⟩
            · obtain rfl : j = 3 := by omega
              have b := hbd 3
              generalize termTo t x y z 3 = T at *
              by_cases hbig : 1000000000 < s + T
              · rw [if_pos hbig] at hs
                rw [← hs]
                by_cases hT : 1000000000 < T
                · simp +decide -implicitDefEqProofs (maxSteps := 999999) (disch := first | assumption | omega) only [go_sem, if_true, if_false, decide_true, decide_false, Int.reduceToNat, Nat.reduceAdd, Nat.reduceMul, Nat.reduceSub, Int.reduceAdd, Int.reduceSub, Int.reduceMul, Int.reduceNeg, e10, l10, e13, e37, e38, e39, e16, e51, e52]
                · simp +decide -implicitDefEqProofs (maxSteps := 999999) (disch := first | assumption | omega) only [go_sem, if_true, if_false, decide_true, decide_false, Int.reduceToNat, Nat.reduceAdd, Nat.reduceMul, Nat.reduceSub, Int.reduceAdd, Int.reduceSub, Int.reduceMul, Int.reduceNeg, e10, l10, e13, e37, e38, e39, e16, e51, e52]
              · rw [if_neg hbig] at hs
                simp +decide -implicitDefEqProofs (maxSteps := 999999) (disch := first | assumption | omega) only [go_sem, if_true, if_false, decide_true, decide_false, Int.reduceToNat, Nat.reduceAdd, Nat.reduceMul, Nat.reduceSub, Int.reduceAdd, Int.reduceSub, Int.reduceMul, Int.reduceNeg, e10, l10, e13, e37, e38, e39, e16, e51, e52]
                exact ⟨i + 1, by omega, .mk ⟨s + T, e10, l10, rfl, e37, e38, rfl, rfl, by omega, by omega, by omega, hs⟩⟩
          · obtain rfl : i = ts.length := by omega
            rw [List.drop_length, sumG] at hs
            simp +decide -implicitDefEqProofs (maxSteps := 999999) (disch := first | assumption | omega) only [go_sem, if_true, if_false, decide_true, decide_false, Int.reduceToNat, Nat.reduceAdd, Nat.reduceMul, Nat.reduceSub, Int.reduceAdd, Int.reduceSub, Int.reduceMul, Int.reduceNeg, e10, l10, e13, e37, e38, e39, ← hs]
        · have hp : pvV ts x y z = (0, false) := by simp [pvV, hv, nx, ny, nz]
          by_cases q : z < 0
          · simp +decide -implicitDefEqProofs (maxSteps := 999999) (disch := first | assumption | omega) only [go_sem, if_true, if_false, decide_true, decide_false, Int.reduceToNat, Nat.reduceAdd, Nat.reduceMul, Nat.reduceSub, Int.reduceAdd, Int.reduceSub, Int.reduceMul, Int.reduceNeg, hp]
          · have q2 : 100 < z := by
              simp only [inB, Bool.and_eq_true, decide_eq_true_eq] at nz; omega
            simp +decide -implicitDefEqProofs (maxSteps := 999999) (disch := first | assumption | omega) only [go_sem, if_true, if_false, decide_true, decide_false, Int.reduceToNat, Nat.reduceAdd, Nat.reduceMul, Nat.reduceSub, Int.reduceAdd, Int.reduceSub, Int.reduceMul, Int.reduceNeg, hp]
      · have hp : pvV ts x y z = (0, false) := by simp [pvV, hv, nx, ny]
        by_cases q : y < 0
        · simp +decide -implicitDefEqProofs (maxSteps := 999999) (disch := first | assumption | omega) only [go_sem, if_true, if_false, decide_true, decide_false, Int.reduceToNat, Nat.reduceAdd, Nat.reduceMul, Nat.reduceSub, Int.reduceAdd, Int.reduceSub, Int.reduceMul, Int.reduceNeg, hp]
        · have q2 : 100 < y := by
            simp only [inB, Bool.and_eq_true, decide_eq_true_eq] at ny; omega
          simp +decide -implicitDefEqProofs (maxSteps := 999999) (disch := first | assumption | omega) only [go_sem, if_true, if_false, decide_true, decide_false, Int.reduceToNat, Nat.reduceAdd, Nat.reduceMul, Nat.reduceSub, Int.reduceAdd, Int.reduceSub, Int.reduceMul, Int.reduceNeg, hp]
    · have hp : pvV ts x y z = (0, false) := by simp [pvV, hv, nx]
      by_cases q : x < 0
      · simp +decide -implicitDefEqProofs (maxSteps := 999999) (disch := first | assumption | omega) only [go_sem, if_true, if_false, decide_true, decide_false, Int.reduceToNat, Nat.reduceAdd, Nat.reduceMul, Nat.reduceSub, Int.reduceAdd, Int.reduceSub, Int.reduceMul, Int.reduceNeg, hp]
      · have q2 : 100 < x := by
          simp only [inB, Bool.and_eq_true, decide_eq_true_eq] at nx; omega
        simp +decide -implicitDefEqProofs (maxSteps := 999999) (disch := first | assumption | omega) only [go_sem, if_true, if_false, decide_true, decide_false, Int.reduceToNat, Nat.reduceAdd, Nat.reduceMul, Nat.reduceSub, Int.reduceAdd, Int.reduceSub, Int.reduceMul, Int.reduceNeg, hp]
end Go.Proofs.Ytnjaagfhaooapaa.Eng
