/- WALK 15: values of polynomials. -/
import Derived.Test.YtnjaagfhaooapaaP14
namespace Go.Proofs.Ytnjaagfhaooapaa.Eng
set_option linter.unusedVariables false
set_option linter.unusedSimpArgs false
set_option linter.unnecessarySimpa false
set_option linter.constructorNameAsVariable false
open Go
set_option maxRecDepth 100000

/-- A fact that stays aside. -/
def Hide (p : Prop) : Prop := p
theorem Hide.out {p : Prop} (h : Hide p) : p := h

def capI (v : Int) : Int := if 1000000001 < v then 1000000001 else v
def pwS (n : Int) : Nat → Int → Int
  | 0, a => a
  | k + 1, a => if 0 < a ∧ a ≤ 1000000000 then pwS n k (a * n) else a
def satP (n : Int) : Nat → Int → Int
  | 0, a => a
  | k + 1, a => satP n k (capI (a * n))

theorem mul_bd {a n A : Int} (ha : 0 ≤ a) (hA : a ≤ A) (h0 : 0 ≤ n) (h1 : n ≤ 100) : 0 ≤ a * n ∧ a * n ≤ A * 100 := by
  constructor
  · exact Int.mul_nonneg ha h0
  · calc a * n ≤ a * 100 := Int.mul_le_mul_of_nonneg_left h1 ha
      _ ≤ A * 100 := Int.mul_le_mul_of_nonneg_right hA (by omega)
theorem pwS_stop (n : Int) (k : Nat) (a : Int) (h : 1000000000 < a) : pwS n k a = a := by
  cases k with
  | zero => rfl
  | succ k => rw [pwS, if_neg (by omega)]
theorem satP_top (n : Int) (h : 1 ≤ n) : ∀ k, satP n k 1000000001 = 1000000001
  | 0 => rfl
  | k + 1 => by
    have : capI (1000000001 * n) = 1000000001 := by unfold capI; split <;> omega
    rw [satP, this, satP_top n h k]
theorem satP_zero (n : Int) : ∀ k, satP n k 0 = 0
  | 0 => rfl
  | k + 1 => by
    have : capI (0 * n) = 0 := by rw [Int.zero_mul]; rfl
    rw [satP, this, satP_zero n k]
theorem satP_pwS (n : Int) (h : 1 ≤ n) : ∀ (k : Nat) (a : Int), 1 ≤ a → a ≤ 1000000001 → satP n k a = capI (pwS n k a)
  | 0, a, h1, h2 => by
    show a = capI a
    unfold capI; rw [if_neg (by omega)]
  | k + 1, a, h1, h2 => by
    rw [satP, pwS]
    by_cases q : a ≤ 1000000000
    · rw [if_pos ⟨by omega, q⟩]
      by_cases q2 : a * n ≤ 1000000001
      · have h3 : 1 ≤ a * n := by
          have : a * 1 ≤ a * n := Int.mul_le_mul_of_nonneg_left h (by omega)
          omega
        have : capI (a * n) = a * n := by unfold capI; split <;> omega
        rw [this]
        exact satP_pwS n h k _ h3 q2
      · have : capI (a * n) = 1000000001 := by unfold capI; split <;> omega
        rw [this, satP_top n h, pwS_stop n k _ (by omega), this]
    · rw [if_neg (by omega)]
      obtain rfl : a = 1000000001 := by omega
      have : capI (1000000001 * n) = 1000000001 := by unfold capI; split <;> omega
      rw [this, satP_top n h]; rfl
theorem satP_bd (n : Int) (h0 : 0 ≤ n) (h1 : n ≤ 100) : ∀ (k : Nat) (a : Int), 0 ≤ a → a ≤ 1000000001 → 0 ≤ satP n k a ∧ satP n k a ≤ 1000000001
  | 0, a, h2, h3 => ⟨h2, h3⟩
  | k + 1, a, h2, h3 => by
    rw [satP]
    have := mul_bd h2 h3 h0 h1
    exact satP_bd n h0 h1 k _ (by unfold capI; split <;> omega) (by unfold capI; split <;> omega)
theorem satP_no (k : Nat) (a : Int) (h : 0 < k) : satP 0 k a = 0 := by
  obtain ⟨k, rfl⟩ : ∃ m, k = m + 1 := ⟨k - 1, by omega⟩
  have : capI (a * 0) = 0 := by rw [Int.mul_zero]; rfl
  rw [satP, this, satP_zero]

theorem l6pPower_eq (out n times : Int) (H : List HObj) (h1 : 0 ≤ out) (h2 : out ≤ 1000000001) (h3 : 0 ≤ n) (h4 : n ≤ 100) (h5 : 0 ≤ times) (h6 : times ≤ 400) : acall EA 13 [.int .i64 out, .int .i64 n, .int .i64 times] H = some (.int .i64 (capI (pwS n times.toNat out)), H) := by
  refine acall_is (fn := Try.f13) rfl Try.func13 rfl rfl (by simp [Try.f13]) ?_
  simp +decide -implicitDefEqProofs (maxSteps := 999999) (disch := first | assumption | omega) only [go_sem, if_true, if_false, decide_true, decide_false, Int.reduceToNat, Nat.reduceAdd, Nat.reduceMul, Nat.reduceSub, Int.reduceAdd, Int.reduceSub, Int.reduceMul, Int.reduceNeg]
  refine wp_loop (α := Nat) (fun i => times.toNat - i) (fun i σ => Holds (fun σ => ∃ cur : Int, σ.t 0 = .v (.int .i64 cur) ∧ σ.t 1 = .v (.int .i64 n) ∧ σ.t 2 = .v (.int .i64 times) ∧ σ.t 7 = .v (.int .i64 (i : Int)) ∧ σ.H = H ∧ i ≤ times.toNat ∧ 0 ≤ cur ∧ cur ≤ 100000000000 ∧ pwS n (times.toNat - i) cur = pwS n times.toNat out) σ) ?_ 0 _ (.mk ⟨out, rfl, rfl, rfl, rfl, rfl, by omega, h1, by omega, rfl⟩)
  rintro i ⟨t', L, H'⟩ ⟨cur, e0, e1, e2, e7, hH, hi, c0, c1, hp⟩
  simp only at e0 e1 e2 e7 hH
  subst hH
  by_cases hlt : (i : Int) < times
  · have ek : times.toNat - i = (times.toNat - (i + 1)) + 1 := by omega
    rw [ek, pwS] at hp
    by_cases hz : 0 < cur
    · by_cases hm : cur ≤ 1000000000
      · have hb := mul_bd c0 hm h3 h4
        rw [if_pos ⟨hz, hm⟩] at hp
        simp +decide -implicitDefEqProofs (maxSteps := 999999) (disch := first | assumption | omega) only [go_sem, if_true, if_false, decide_true, decide_false, Int.reduceToNat, Nat.reduceAdd, Nat.reduceMul, Nat.reduceSub, Int.reduceAdd, Int.reduceSub, Int.reduceMul, Int.reduceNeg, e0, e1, e2, e7]
        refine ⟨i + 1, by omega, .mk ⟨cur * n, rfl, e1, e2, rfl, rfl, by omega, by omega, by omega, hp⟩⟩
      · rw [if_neg (by omega)] at hp
        rw [← hp]
        simp +decide -implicitDefEqProofs (maxSteps := 999999) (disch := first | assumption | omega) only [go_sem, if_true, if_false, decide_true, decide_false, Int.reduceToNat, Nat.reduceAdd, Nat.reduceMul, Nat.reduceSub, Int.reduceAdd, Int.reduceSub, Int.reduceMul, Int.reduceNeg, e0, e1, e2, e7, capI]
    · rw [if_neg (by omega)] at hp
      rw [← hp]
      simp +decide -implicitDefEqProofs (maxSteps := 999999) (disch := first | assumption | omega) only [go_sem, if_true, if_false, decide_true, decide_false, Int.reduceToNat, Nat.reduceAdd, Nat.reduceMul, Nat.reduceSub, Int.reduceAdd, Int.reduceSub, Int.reduceMul, Int.reduceNeg, e0, e1, e2, e7, capI]
  · have ek : times.toNat - i = 0 := by omega
    rw [ek, pwS] at hp
    rw [← hp]
    simp +decide -implicitDefEqProofs (maxSteps := 999999) (disch := first | assumption | omega) only [go_sem, if_true, if_false, decide_true, decide_false, Int.reduceToNat, Nat.reduceAdd, Nat.reduceMul, Nat.reduceSub, Int.reduceAdd, Int.reduceSub, Int.reduceMul, Int.reduceNeg, e0, e1, e2, e7]
    rfl

def termV (t : Tm) (x y z : Int) : Int := satP z t.z.toNat (satP y t.y.toNat (satP x t.x.toNat t.c))
theorem termV_bd (t : Tm) (x y z : Int) (h : okT t = true) (hx : 0 ≤ x ∧ x ≤ 100) (hy : 0 ≤ y ∧ y ≤ 100) (hz : 0 ≤ z ∧ z ≤ 100) : 0 ≤ termV t x y z ∧ termV t x y z ≤ 1000000001 := by
  rw [okT_iff] at h
  have h1 := satP_bd x hx.1 hx.2 t.x.toNat t.c (by omega) (by omega)
  have h2 := satP_bd y hy.1 hy.2 t.y.toNat _ h1.1 h1.2
  exact satP_bd z hz.1 hz.2 t.z.toNat _ h2.1 h2.2
theorem satP_pos (n : Int) (h : 1 ≤ n) (k : Nat) (a : Int) (h1 : 1 ≤ a) : 1 ≤ satP n k a := by
  induction k generalizing a with
  | zero => exact h1
  | succ k ih =>
    rw [satP]
    have : a * 1 ≤ a * n := Int.mul_le_mul_of_nonneg_left h (by omega)
    exact ih _ (by unfold capI; split <;> omega)
/-- A power, where the number is 0 only with the power 0. -/
theorem pow_step (n : Int) (hn0 : 0 ≤ n) (hn : n ≤ 100) (k : Int) (hk : 0 ≤ k) (h : ¬ (n = 0 ∧ 0 < k)) (a : Int) (h1 : 1 ≤ a) (h2 : a ≤ 1000000001) : capI (pwS n k.toNat a) = satP n k.toNat a ∧ 1 ≤ satP n k.toNat a ∧ satP n k.toNat a ≤ 1000000001 := by
  by_cases q : n = 0
  · have : k.toNat = 0 := by omega
    rw [this]
    simp only [pwS, satP]
    exact ⟨by unfold capI; rw [if_neg (by omega)], h1, h2⟩
  · exact ⟨(satP_pwS n (by omega) _ a h1 h2).symm, satP_pos n (by omega) _ a h1, (satP_bd n hn0 hn _ a (by omega) h2).2⟩

/-- The sum, as far as it is told. -/
def sumG (x y z : Int) : List Tm → Int → Int × Bool
  | [], s => (s, true)
  | t :: l, s => if 1000000000 < s + termV t x y z then (0, false) else sumG x y z l (s + termV t x y z)
def inB (n : Int) : Bool := decide (0 ≤ n) && decide (n ≤ 100)
noncomputable def pvV (ts : List Tm) (x y z : Int) : Int × Bool := if (validB ts && inB x && inB y && inB z) = true then sumG x y z ts 0 else (0, false)
theorem validB_ok {ts : List Tm} (h : validB ts = true) : (∀ j (hj : j < ts.length), okT ts[j] = true) ∧ ts.length ≤ 60 := by
  simp only [validB, Bool.and_eq_true, decide_eq_true_eq] at h
  exact ⟨fun j hj => (h.1 j hj hj).1, h.2⟩

set_option maxHeartbeats 2000000 in
theorem specPV_eq (ts : List Tm) (x y z : Int) (o : Own) (hl : ts.length ≤ 1000000) (H : List HObj) : acall EA 6 [.slice (ts.map tmA) o, .int .i64 x, .int .i64 y, .int .i64 z] H = some (.tuple [.int .i64 (pvV ts x y z).1, .bool (pvV ts x y z).2], H) := by
  refine acall_is (fn := Try.f6) rfl Try.func6 rfl rfl (by simp [Try.f6]) ?_
  cases hv : validB ts with
  | false =>
    simp +decide -implicitDefEqProofs (maxSteps := 999999) (disch := first | assumption | omega) only [go_sem, if_true, if_false, decide_true, decide_false, Int.reduceToNat, Nat.reduceAdd, Nat.reduceMul, Nat.reduceSub, Int.reduceAdd, Int.reduceSub, Int.reduceMul, Int.reduceNeg, l6pValid_eq, hv, pvV]
  | true =>
    cases hx : inB x with
    | false => simp +decide -implicitDefEqProofs (maxSteps := 999999) (disch := first | assumption | omega) only [go_sem, if_true, if_false, decide_true, decide_false, Int.reduceToNat, Nat.reduceAdd, Nat.reduceMul, Nat.reduceSub, Int.reduceAdd, Int.reduceSub, Int.reduceMul, Int.reduceNeg, l6pValid_eq, hv, l6In_eq, pvV, hx, show (decide (0 ≤ x) && decide (x ≤ 100)) = false from hx]
    | true =>
      cases hy : inB y with
      | false => simp +decide -implicitDefEqProofs (maxSteps := 999999) (disch := first | assumption | omega) only [go_sem, if_true, if_false, decide_true, decide_false, Int.reduceToNat, Nat.reduceAdd, Nat.reduceMul, Nat.reduceSub, Int.reduceAdd, Int.reduceSub, Int.reduceMul, Int.reduceNeg, l6pValid_eq, hv, l6In_eq, pvV, hx, hy, show (decide (0 ≤ x) && decide (x ≤ 100)) = true from hx, show (decide (0 ≤ y) && decide (y ≤ 100)) = false from hy]
      | true =>
        cases hz : inB z with
        | false => simp +decide -implicitDefEqProofs (maxSteps := 999999) (disch := first | assumption | omega) only [go_sem, if_true, if_false, decide_true, decide_false, Int.reduceToNat, Nat.reduceAdd, Nat.reduceMul, Nat.reduceSub, Int.reduceAdd, Int.reduceSub, Int.reduceMul, Int.reduceNeg, l6pValid_eq, hv, l6In_eq, pvV, hx, hy, hz, show (decide (0 ≤ x) && decide (x ≤ 100)) = true from hx, show (decide (0 ≤ y) && decide (y ≤ 100)) = true from hy, show (decide (0 ≤ z) && decide (z ≤ 100)) = false from hz]
        | true =>
          obtain ⟨hok, h60⟩ := validB_ok hv
          have hpv : pvV ts x y z = sumG x y z ts 0 := by simp [pvV, hv, hx, hy, hz]
          rw [hpv]
          simp +decide -implicitDefEqProofs (maxSteps := 999999) (disch := first | assumption | omega) only [go_sem, if_true, if_false, decide_true, decide_false, Int.reduceToNat, Nat.reduceAdd, Nat.reduceMul, Nat.reduceSub, Int.reduceAdd, Int.reduceSub, Int.reduceMul, Int.reduceNeg, l6pValid_eq, hv, l6In_eq, show (decide (0 ≤ x) && decide (x ≤ 100)) = true from hx, show (decide (0 ≤ y) && decide (y ≤ 100)) = true from hy, show (decide (0 ≤ z) && decide (z ≤ 100)) = true from hz]
          simp only [inB, Bool.and_eq_true, decide_eq_true_eq] at hx hy hz
          have hz' := hz
          refine wp_loop (α := Nat) (fun i => ts.length - i) (fun i σ => Holds (fun σ => ∃ s : Int, σ.t 0 = .v (.slice (ts.map tmA) o) ∧ σ.t 1 = .v (.int .i64 x) ∧ σ.t 2 = .v (.int .i64 y) ∧ σ.t 3 = .v (.int .i64 z) ∧ σ.t 10 = .v (.int .i64 s) ∧ σ.t 11 = .v (.int .i64 (i : Int)) ∧ σ.H = H ∧ i ≤ ts.length ∧ 0 ≤ s ∧ s ≤ 1000000000 ∧ sumG x y z (ts.drop i) s = sumG x y z ts 0) σ) ?_ 0 _ (.mk ⟨0, rfl, rfl, rfl, rfl, rfl, rfl, rfl, by omega, by omega, by omega, rfl⟩)
          rintro i ⟨t', L, H'⟩ ⟨s, e0, e1, e2, e3, e10, e11, hH, hi, s0, s1, hs⟩
          simp only at e0 e1 e2 e3 e10 e11 hH
          subst hH
          by_cases hlt : i < ts.length
          · have hg : (ts.map tmA)[i]? = some (tmA ts[i]) := by simp [hlt]
            have hd : ts.drop i = ts[i] :: ts.drop (i + 1) := List.drop_eq_getElem_cons hlt
            have hk := (okT_iff _).1 (hok i hlt)
            have hbd := termV_bd ts[i] x y z (hok i hlt) hx hy hz
            rw [hd, sumG] at hs
            have hzero : Hide ((x = 0 ∧ 0 < ts[i].x) ∨ (y = 0 ∧ 0 < ts[i].y) ∨ (z = 0 ∧ 0 < ts[i].z) → sumG x y z (ts.drop (i + 1)) s = sumG x y z ts 0) := by
              show _ → _
              intro hzero
              have h0 : termV ts[i] x y z = 0 := by
                unfold termV
                rcases hzero with ⟨rfl, q⟩ | ⟨rfl, q⟩ | ⟨rfl, q⟩
                · rw [satP_no ts[i].x.toNat _ (by omega), satP_zero, satP_zero]
                · rw [satP_no ts[i].y.toNat _ (by omega), satP_zero]
                · rw [satP_no ts[i].z.toNat _ (by omega)]
              rw [h0, Int.add_zero, if_neg (by omega)] at hs
              exact hs
            have hnz : Hide (¬ (x = 0 ∧ 0 < ts[i].x) → ¬ (y = 0 ∧ 0 < ts[i].y) → ¬ (z = 0 ∧ 0 < ts[i].z) → capI (pwS z ts[i].z.toNat (capI (pwS y ts[i].y.toNat (capI (pwS x ts[i].x.toNat ts[i].c))))) = termV ts[i] x y z ∧ 0 ≤ capI (pwS x ts[i].x.toNat ts[i].c) ∧ capI (pwS x ts[i].x.toNat ts[i].c) ≤ 1000000001 ∧ 0 ≤ capI (pwS y ts[i].y.toNat (capI (pwS x ts[i].x.toNat ts[i].c))) ∧ capI (pwS y ts[i].y.toNat (capI (pwS x ts[i].x.toNat ts[i].c))) ≤ 1000000001) := by
              show _ → _ → _ → _
              intro n1 n2 n3
              obtain ⟨u1, u2, u3⟩ := pow_step x hx.1 hx.2 ts[i].x (by omega) n1 ts[i].c (by omega) (by omega)
              obtain ⟨v1, v2, v3⟩ := pow_step y hy.1 hy.2 ts[i].y (by omega) n2 _ u2 u3
              obtain ⟨w1, w2, w3⟩ := pow_step z hz.1 hz.2 ts[i].z (by omega) n3 _ v2 v3
              rw [u1, v1, w1]
              exact ⟨rfl, by omega, by omega, by omega, by omega⟩
            obtain ⟨kk1, kk2, kk3, kk4, kk5, kk6, kk7, kk8⟩ := hk
            generalize termV ts[i] x y z = T at *
            simp +decide -implicitDefEqProofs (maxSteps := 999999) (disch := first | assumption | omega) only [go_sem, if_true, if_false, decide_true, decide_false, Int.reduceToNat, Nat.reduceAdd, Nat.reduceMul, Nat.reduceSub, Int.reduceAdd, Int.reduceSub, Int.reduceMul, Int.reduceNeg, e0, e1, e2, e3, e10, e11, hg, tmA_cells]
            refine gdK_cut (fun σ => σ.t 0 = .v (.slice (ts.map tmA) o) ∧ σ.t 1 = .v (.int .i64 x) ∧ σ.t 2 = .v (.int .i64 y) ∧ σ.t 3 = .v (.int .i64 z) ∧ σ.t 10 = .v (.int .i64 s) ∧ σ.t 11 = .v (.int .i64 (i : Int)) ∧ σ.H = H' ∧ (∃ ver, σ.t 12 = .loc 12 ver 0 ∧ σ.L 12 = some (ver, [.int .i64 ts[i].c, .int .i64 ts[i].x, .int .i64 ts[i].y, .int .i64 ts[i].z])) ∧ σ.t 65 = .v (.bool (decide ((x = 0 ∧ 0 < ts[i].x) ∨ (y = 0 ∧ 0 < ts[i].y) ∨ (z = 0 ∧ 0 < ts[i].z))))) ?_ ?_
            · rcases (show (x = 0 ∧ 0 < ts[i].x) ∨ (x = 0 ∧ ¬ 0 < ts[i].x) ∨ x ≠ 0 by omega) with ⟨a1, a2⟩ | ⟨a1, a2⟩ | a1 <;> rcases (show (y = 0 ∧ 0 < ts[i].y) ∨ (y = 0 ∧ ¬ 0 < ts[i].y) ∨ y ≠ 0 by omega) with ⟨b1, b2⟩ | ⟨b1, b2⟩ | b1 <;> rcases (show (z = 0 ∧ 0 < ts[i].z) ∨ (z = 0 ∧ ¬ 0 < ts[i].z) ∨ z ≠ 0 by omega) with ⟨c1, c2⟩ | ⟨c1, c2⟩ | c1
              all_goals
                simp +decide -implicitDefEqProofs (maxSteps := 999999) (disch := first | assumption | omega) only [go_sem, if_true, if_false, decide_true, decide_false, Int.reduceToNat, Nat.reduceAdd, Nat.reduceMul, Nat.reduceSub, Int.reduceAdd, Int.reduceSub, Int.reduceMul, Int.reduceNeg, e0, e1, e2, e3, e10, e11]
                simp [a1, b1, c1, *]
            · rintro t2 L2 H2 ⟨e0, e1, e2, e3, e10, e11, hH, ⟨ver, e12, l12⟩, e65⟩
              simp only at e0 e1 e2 e3 e10 e11 hH e12 l12 e65
              subst hH
              by_cases hz : (x = 0 ∧ 0 < ts[i].x) ∨ (y = 0 ∧ 0 < ts[i].y) ∨ (z = 0 ∧ 0 < ts[i].z)
              · rw [decide_eq_true hz] at e65
                have hz : Hide _ := hz
                simp +decide -implicitDefEqProofs (maxSteps := 999999) (disch := first | assumption | omega) only [go_sem, if_true, if_false, decide_true, decide_false, Int.reduceToNat, Nat.reduceAdd, Nat.reduceMul, Nat.reduceSub, Int.reduceAdd, Int.reduceSub, Int.reduceMul, Int.reduceNeg, e0, e1, e2, e3, e10, e11, e12, l12, e65]
                exact ⟨i + 1, by omega, .mk ⟨s, e0, e1, e2, e3, e10, rfl, rfl, by omega, s0, s1, hzero.out hz.out⟩⟩
              · rw [decide_eq_false hz] at e65
                obtain ⟨n1, n2, n3, n4, n5⟩ := hnz.out (by omega) (by omega) (by omega)
                have p1 := l6pPower_eq ts[i].c x ts[i].x H2 (by omega) (by omega) hx.1 hx.2 kk3 kk4
                have p2 := l6pPower_eq _ y ts[i].y H2 n2 n3 hy.1 hy.2 kk5 kk6
                have p3 := l6pPower_eq _ z ts[i].z H2 n4 n5 hz'.1 hz'.2 kk7 kk8
                clear hzero hnz hz
                by_cases hbig : 1000000000 < s + T
                · rw [if_pos hbig] at hs
                  simp +decide -implicitDefEqProofs (maxSteps := 999999) (disch := first | assumption | omega) only [go_sem, if_true, if_false, decide_true, decide_false, Int.reduceToNat, Nat.reduceAdd, Nat.reduceMul, Nat.reduceSub, Int.reduceAdd, Int.reduceSub, Int.reduceMul, Int.reduceNeg, e0, e1, e2, e3, e10, e11, e12, l12, e65, p1, p2, p3, n1, ← hs]
                · rw [if_neg hbig] at hs
                  simp +decide -implicitDefEqProofs (maxSteps := 999999) (disch := first | assumption | omega) only [go_sem, if_true, if_false, decide_true, decide_false, Int.reduceToNat, Nat.reduceAdd, Nat.reduceMul, Nat.reduceSub, Int.reduceAdd, Int.reduceSub, Int.reduceMul, Int.reduceNeg, e0, e1, e2, e3, e10, e11, e12, l12, e65, p1, p2, p3, n1]
                  exact ⟨i + 1, by omega, .mk ⟨s + T, e0, e1, e2, e3, rfl, rfl, rfl, by omega, by omega, by omega, hs⟩⟩
          · obtain rfl : i = ts.length := by omega
            rw [List.drop_length, sumG] at hs
            simp +decide -implicitDefEqProofs (maxSteps := 999999) (disch := first | assumption | omega) only [go_sem, if_true, if_false, decide_true, decide_false, Int.reduceToNat, Nat.reduceAdd, Nat.reduceMul, Nat.reduceSub, Int.reduceAdd, Int.reduceSub, Int.reduceMul, Int.reduceNeg, e0, e1, e2, e3, e10, e11, ← hs]
end Go.Proofs.Ytnjaagfhaooapaa.Eng
