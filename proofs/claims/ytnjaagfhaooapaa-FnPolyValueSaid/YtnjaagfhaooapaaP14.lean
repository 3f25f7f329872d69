/- WALK 14: what a polynomial is. -/
import Derived.Test.YtnjaagfhaooapaaP13
namespace Go.Proofs.Ytnjaagfhaooapaa.Eng
set_option linter.unusedVariables false
set_option linter.unusedSimpArgs false
set_option linter.unnecessarySimpa false
set_option linter.constructorNameAsVariable false
open Go
set_option maxRecDepth 100000

theorem isNaN_eq (a : Int) (H : List HObj) : acall EA 31 [.int .i64 a] H = some (.bool false, H) := by
  refine acall_is (fn := Try.f31) rfl Try.func31 rfl rfl (by simp [Try.f31]) ?_
  simp +decide -implicitDefEqProofs (maxSteps := 999999) (disch := first | assumption | omega) only [go_sem, if_true, if_false, decide_true, decide_false, Int.reduceToNat, Nat.reduceAdd, Nat.reduceMul, Nat.reduceSub, Int.reduceAdd, Int.reduceSub, Int.reduceMul, Int.reduceNeg]
def cmpI (a b : Int) : Int := if a < b then -1 else if b < a then 1 else 0
theorem Compare_eq (a b : Int) (H : List HObj) : acall EA 23 [.int .i64 a, .int .i64 b] H = some (.int .i64 (cmpI a b), H) := by
  refine acall_is (fn := Try.f23) rfl Try.func23 rfl rfl (by simp [Try.f23]) ?_
  simp +decide -implicitDefEqProofs (maxSteps := 999999) (disch := first | assumption | omega) only [go_sem, if_true, if_false, decide_true, decide_false, Int.reduceToNat, Nat.reduceAdd, Nat.reduceMul, Nat.reduceSub, Int.reduceAdd, Int.reduceSub, Int.reduceMul, Int.reduceNeg, isNaN_eq]
  (iterate 2 (try (any_goals (first | ((first | refine condK_P ?_ ?_ | refine condK_N ?_ ?_ | refine gdK_P ?_ ?_ | refine gdK_N ?_ ?_ | refine gdR_P ?_ ?_ | refine gdR_N ?_ ?_) <;> intro hc <;> (try simp +decide -implicitDefEqProofs (maxSteps := 999999) (disch := first | assumption | omega) only [go_sem, if_true, if_false, decide_true, decide_false, Int.reduceToNat, Nat.reduceAdd, Nat.reduceMul, Nat.reduceSub, Int.reduceAdd, Int.reduceSub, Int.reduceMul, Int.reduceNeg, cmpI])) | ((first | refine condK_B ?_ ?_ | refine gdK_B ?_ ?_ | refine gdR_B ?_ ?_) <;> intro hc <;> (try simp +decide -implicitDefEqProofs (maxSteps := 999999) (disch := first | assumption | omega) only [go_sem, if_true, if_false, decide_true, decide_false, Int.reduceToNat, Nat.reduceAdd, Nat.reduceMul, Nat.reduceSub, Int.reduceAdd, Int.reduceSub, Int.reduceMul, Int.reduceNeg, cmpI, hc]))))))
theorem Or_eq (a b c : Int) (o : Own) (H : List HObj) : acall EA 22 [.slice [.int .i64 a, .int .i64 b, .int .i64 c] o] H = some (.int .i64 (if a = 0 then (if b = 0 then c else b) else a), H) := by
  refine acall_is (fn := Try.f22) rfl Try.func22 rfl rfl (by simp [Try.f22]) ?_
  simp +decide -implicitDefEqProofs (maxSteps := 999999) (disch := first | assumption | omega) only [go_sem, if_true, if_false, decide_true, decide_false, Int.reduceToNat, Nat.reduceAdd, Nat.reduceMul, Nat.reduceSub, Int.reduceAdd, Int.reduceSub, Int.reduceMul, Int.reduceNeg]
  rw [wp_loop1]
  simp +decide -implicitDefEqProofs (maxSteps := 999999) (disch := first | assumption | omega) only [go_sem, if_true, if_false, decide_true, decide_false, Int.reduceToNat, Nat.reduceAdd, Nat.reduceMul, Nat.reduceSub, Int.reduceAdd, Int.reduceSub, Int.reduceMul, Int.reduceNeg]
  by_cases ha : a = 0
  · simp +decide -implicitDefEqProofs (maxSteps := 999999) (disch := first | assumption | omega) only [go_sem, if_true, if_false, decide_true, decide_false, Int.reduceToNat, Nat.reduceAdd, Nat.reduceMul, Nat.reduceSub, Int.reduceAdd, Int.reduceSub, Int.reduceMul, Int.reduceNeg]
    rw [wp_loop1]
    simp +decide -implicitDefEqProofs (maxSteps := 999999) (disch := first | assumption | omega) only [go_sem, if_true, if_false, decide_true, decide_false, Int.reduceToNat, Nat.reduceAdd, Nat.reduceMul, Nat.reduceSub, Int.reduceAdd, Int.reduceSub, Int.reduceMul, Int.reduceNeg]
    by_cases hb : b = 0
    · simp +decide -implicitDefEqProofs (maxSteps := 999999) (disch := first | assumption | omega) only [go_sem, if_true, if_false, decide_true, decide_false, Int.reduceToNat, Nat.reduceAdd, Nat.reduceMul, Nat.reduceSub, Int.reduceAdd, Int.reduceSub, Int.reduceMul, Int.reduceNeg]
      rw [wp_loop1]
      simp +decide -implicitDefEqProofs (maxSteps := 999999) (disch := first | assumption | omega) only [go_sem, if_true, if_false, decide_true, decide_false, Int.reduceToNat, Nat.reduceAdd, Nat.reduceMul, Nat.reduceSub, Int.reduceAdd, Int.reduceSub, Int.reduceMul, Int.reduceNeg]
      by_cases hc : c = 0
      · simp +decide -implicitDefEqProofs (maxSteps := 999999) (disch := first | assumption | omega) only [go_sem, if_true, if_false, decide_true, decide_false, Int.reduceToNat, Nat.reduceAdd, Nat.reduceMul, Nat.reduceSub, Int.reduceAdd, Int.reduceSub, Int.reduceMul, Int.reduceNeg]
        rw [wp_loop1]
        simp +decide -implicitDefEqProofs (maxSteps := 999999) (disch := first | assumption | omega) only [go_sem, if_true, if_false, decide_true, decide_false, Int.reduceToNat, Nat.reduceAdd, Nat.reduceMul, Nat.reduceSub, Int.reduceAdd, Int.reduceSub, Int.reduceMul, Int.reduceNeg]
        rw [hc]
      · simp +decide -implicitDefEqProofs (maxSteps := 999999) (disch := first | assumption | omega) only [go_sem, if_true, if_false, decide_true, decide_false, Int.reduceToNat, Nat.reduceAdd, Nat.reduceMul, Nat.reduceSub, Int.reduceAdd, Int.reduceSub, Int.reduceMul, Int.reduceNeg]
    · simp +decide -implicitDefEqProofs (maxSteps := 999999) (disch := first | assumption | omega) only [go_sem, if_true, if_false, decide_true, decide_false, Int.reduceToNat, Nat.reduceAdd, Nat.reduceMul, Nat.reduceSub, Int.reduceAdd, Int.reduceSub, Int.reduceMul, Int.reduceNeg]
  · simp +decide -implicitDefEqProofs (maxSteps := 999999) (disch := first | assumption | omega) only [go_sem, if_true, if_false, decide_true, decide_false, Int.reduceToNat, Nat.reduceAdd, Nat.reduceMul, Nat.reduceSub, Int.reduceAdd, Int.reduceSub, Int.reduceMul, Int.reduceNeg]
def cmpT (a b : Tm) : Int := if cmpI b.x a.x = 0 then (if cmpI b.y a.y = 0 then cmpI b.z a.z else cmpI b.y a.y) else cmpI b.x a.x
theorem compareTerms_eq (a b : Tm) (H : List HObj) : acall EA 16 [tmA a, tmA b] H = some (.int .i64 (cmpT a b), H) := by
  refine acall_is (fn := Try.f16) rfl Try.func16 rfl rfl (by simp [Try.f16]) ?_
  simp +decide -implicitDefEqProofs (maxSteps := 999999) (disch := first | assumption | omega) only [go_sem, if_true, if_false, decide_true, decide_false, Int.reduceToNat, Nat.reduceAdd, Nat.reduceMul, Nat.reduceSub, Int.reduceAdd, Int.reduceSub, Int.reduceMul, Int.reduceNeg, tmA_cells, Compare_eq, Or_eq, cmpT]
theorem cmpT_bef (a b : Tm) : (0 ≤ cmpT a b) = (bef a b = false) := by
  rw [eq_iff_iff]
  unfold cmpT bef beforeB cmpI
  by_cases h1 : a.x = b.x <;> by_cases h2 : a.y = b.y <;> simp only [h1, h2, if_true, if_false]
  all_goals (repeat' split) <;> simp_all <;> omega

def okT (t : Tm) : Bool := decide (1 ≤ t.c) && decide (t.c ≤ 1000000000) && decide (0 ≤ t.x) && decide (t.x ≤ 400) && decide (0 ≤ t.y) && decide (t.y ≤ 400) && decide (0 ≤ t.z) && decide (t.z ≤ 400)
theorem okT_iff (t : Tm) : okT t = true ↔ (1 ≤ t.c ∧ t.c ≤ 1000000000 ∧ 0 ≤ t.x ∧ t.x ≤ 400 ∧ 0 ≤ t.y ∧ t.y ≤ 400 ∧ 0 ≤ t.z ∧ t.z ≤ 400) := by
  simp [okT]; omega
/-- The first i terms are as they should be. -/
def ValidTo (ts : List Tm) (i : Nat) : Prop := ∀ j (h : j < ts.length), j < i → okT ts[j] = true ∧ (∀ k (hk : k < ts.length), k + 1 = j → bef ts[k] ts[j] = true)
open Classical in
noncomputable def validB (ts : List Tm) : Bool := decide (ValidTo ts ts.length) && decide (ts.length ≤ 60)
theorem validB_no (ts : List Tm) (i : Nat) (hi : i < ts.length) (h : okT ts[i] = false ∨ ∃ k, ∃ hk : k < ts.length, k + 1 = i ∧ bef ts[k] ts[i] = false) : validB ts = false := by
  have : ¬ ValidTo ts ts.length := by
    intro hv
    obtain ⟨h1, h2⟩ := hv i hi hi
    rcases h with h | ⟨k, hk, e, h⟩
    · rw [h] at h1; cases h1
    · rw [h2 k hk e] at h; cases h
  simp [validB, this]
theorem ValidTo.succ {ts : List Tm} {i : Nat} (hv : ValidTo ts i) (hi : i < ts.length) (h1 : okT ts[i] = true) (h2 : ∀ k (hk : k < ts.length), k + 1 = i → bef ts[k] ts[i] = true) : ValidTo ts (i + 1) := by
  intro j hj hji
  rcases Nat.lt_or_ge j i with q | q
  · exact hv j hj q
  · obtain rfl : j = i := by omega
    exact ⟨h1, h2⟩
theorem validB_end (ts : List Tm) (hv : ValidTo ts ts.length) : validB ts = decide (ts.length ≤ 60) := by simp [validB, hv]

theorem l6pValid_eq (ts : List Tm) (o : Own) (hl : ts.length ≤ 1000000) (H : List HObj) : acall EA 11 [.slice (ts.map tmA) o] H = some (.bool (validB ts), H) := by
  refine acall_is (fn := Try.f11) rfl Try.func11 rfl rfl (by simp [Try.f11]) ?_
  simp +decide -implicitDefEqProofs (maxSteps := 999999) (disch := first | assumption | omega) only [go_sem, if_true, if_false, decide_true, decide_false, Int.reduceToNat, Nat.reduceAdd, Nat.reduceMul, Nat.reduceSub, Int.reduceAdd, Int.reduceSub, Int.reduceMul, Int.reduceNeg]
  refine wp_loop (α := Nat) (fun i => ts.length - i) (fun i σ => Holds (fun σ => σ.t 0 = .v (.slice (ts.map tmA) o) ∧ σ.t 3 = .v (.int .i64 (i : Int)) ∧ σ.H = H ∧ i ≤ ts.length ∧ ValidTo ts i) σ) ?_ 0 _ (.mk ⟨rfl, rfl, rfl, by omega, fun j _ h => by omega⟩)
  rintro i ⟨t', L, H'⟩ ⟨e0, e3, hH, hi, hv⟩
  simp only at e0 e3 hH
  subst hH
  by_cases hlt : i < ts.length
  · have hg : (ts.map tmA)[i]? = some (tmA ts[i]) := by simp [hlt]
    by_cases h1 : okT ts[i] = true
    · obtain ⟨k1, k2, k3, k4, k5, k6, k7, k8⟩ := (okT_iff _).1 h1
      cases i with
      | zero =>
        simp +decide -implicitDefEqProofs (maxSteps := 999999) (disch := first | assumption | omega) only [go_sem, if_true, if_false, decide_true, decide_false, Int.reduceToNat, Nat.reduceAdd, Nat.reduceMul, Nat.reduceSub, Int.reduceAdd, Int.reduceSub, Int.reduceMul, Int.reduceNeg, e0, e3, hg, tmA_cells, l6In_eq]
        exact ⟨1, by omega, .mk ⟨e0, rfl, rfl, by omega, hv.succ hlt h1 (fun k hk q => by omega)⟩⟩
      | succ i =>
        have hi2 : i < ts.length := by omega
        have hg2 : (ts.map tmA)[i]? = some (tmA ts[i]) := by simp [hi2]
        have ei : ((i + 1 : Nat) : Int) - 1 = i := by omega
        cases h2 : bef ts[i] ts[i + 1] with
        | true =>
          simp +decide -implicitDefEqProofs (maxSteps := 999999) (disch := first | assumption | omega) only [go_sem, if_true, if_false, decide_true, decide_false, Int.reduceToNat, Nat.reduceAdd, Nat.reduceMul, Nat.reduceSub, Int.reduceAdd, Int.reduceSub, Int.reduceMul, Int.reduceNeg, e0, e3, hg, hg2, tmA_cells, tmA_fold, l6In_eq, ei, bef_call, h2]
          exact ⟨i + 1 + 1, by omega, .mk ⟨e0, rfl, rfl, by omega, hv.succ hlt h1 (fun k hk q => by
            have e : k = i := by omega
            subst e; exact h2)⟩⟩
        | false =>
          have := validB_no ts (i + 1) hlt (.inr ⟨i, hi2, rfl, h2⟩)
          simp +decide -implicitDefEqProofs (maxSteps := 999999) (disch := first | assumption | omega) only [go_sem, if_true, if_false, decide_true, decide_false, Int.reduceToNat, Nat.reduceAdd, Nat.reduceMul, Nat.reduceSub, Int.reduceAdd, Int.reduceSub, Int.reduceMul, Int.reduceNeg, e0, e3, hg, hg2, tmA_cells, tmA_fold, l6In_eq, ei, bef_call, h2, this]
    · have := validB_no ts i hlt (.inl (by simpa using h1))
      rw [okT_iff] at h1
      cases hb1 : (decide (1 ≤ ts[i].c) && decide (ts[i].c ≤ 1000000000)) with
      | false => simp +decide -implicitDefEqProofs (maxSteps := 999999) (disch := first | assumption | omega) only [go_sem, if_true, if_false, decide_true, decide_false, Int.reduceToNat, Nat.reduceAdd, Nat.reduceMul, Nat.reduceSub, Int.reduceAdd, Int.reduceSub, Int.reduceMul, Int.reduceNeg, e0, e3, hg, tmA_cells, l6In_eq, hb1, this]
      | true =>
        cases hb2 : (decide (0 ≤ ts[i].x) && decide (ts[i].x ≤ 400)) with
        | false => simp +decide -implicitDefEqProofs (maxSteps := 999999) (disch := first | assumption | omega) only [go_sem, if_true, if_false, decide_true, decide_false, Int.reduceToNat, Nat.reduceAdd, Nat.reduceMul, Nat.reduceSub, Int.reduceAdd, Int.reduceSub, Int.reduceMul, Int.reduceNeg, e0, e3, hg, tmA_cells, l6In_eq, hb1, hb2, this]
        | true =>
          cases hb3 : (decide (0 ≤ ts[i].y) && decide (ts[i].y ≤ 400)) with
          | false => simp +decide -implicitDefEqProofs (maxSteps := 999999) (disch := first | assumption | omega) only [go_sem, if_true, if_false, decide_true, decide_false, Int.reduceToNat, Nat.reduceAdd, Nat.reduceMul, Nat.reduceSub, Int.reduceAdd, Int.reduceSub, Int.reduceMul, Int.reduceNeg, e0, e3, hg, tmA_cells, l6In_eq, hb1, hb2, hb3, this]
          | true =>
            cases hb4 : (decide (0 ≤ ts[i].z) && decide (ts[i].z ≤ 400)) with
            | false => simp +decide -implicitDefEqProofs (maxSteps := 999999) (disch := first | assumption | omega) only [go_sem, if_true, if_false, decide_true, decide_false, Int.reduceToNat, Nat.reduceAdd, Nat.reduceMul, Nat.reduceSub, Int.reduceAdd, Int.reduceSub, Int.reduceMul, Int.reduceNeg, e0, e3, hg, tmA_cells, l6In_eq, hb1, hb2, hb3, hb4, this]
            | true =>
              simp only [Bool.and_eq_true, decide_eq_true_eq] at hb1 hb2 hb3 hb4
              exact absurd ⟨hb1.1, hb1.2, hb2.1, hb2.2, hb3.1, hb3.2, hb4.1, hb4.2⟩ h1
  · obtain rfl : i = ts.length := by omega
    simp +decide -implicitDefEqProofs (maxSteps := 999999) (disch := first | assumption | omega) only [go_sem, if_true, if_false, decide_true, decide_false, Int.reduceToNat, Nat.reduceAdd, Nat.reduceMul, Nat.reduceSub, Int.reduceAdd, Int.reduceSub, Int.reduceMul, Int.reduceNeg, e0, e3, validB_end ts hv]
    congr 1
    rw [decide_eq_decide]; omega

set_option maxHeartbeats 2000000 in
theorem isPoly_eq (ts : List Tm) (o : Own) (hl : ts.length ≤ 1000000) (H : List HObj) : acall EA 10 [.slice (ts.map tmA) o] H = some (.bool (validB ts), H) := by
  refine acall_is (fn := Try.f10) rfl Try.func10 rfl rfl (by simp [Try.f10]) ?_
  simp +decide -implicitDefEqProofs (maxSteps := 999999) (disch := first | assumption | omega) only [go_sem, if_true, if_false, decide_true, decide_false, Int.reduceToNat, Nat.reduceAdd, Nat.reduceMul, Nat.reduceSub, Int.reduceAdd, Int.reduceSub, Int.reduceMul, Int.reduceNeg]
  refine wp_loop (α := Nat) (fun i => ts.length - i) (fun i σ => Holds (fun σ => σ.t 0 = .v (.slice (ts.map tmA) o) ∧ σ.t 7 = .v (.slice (ts.map tmA) o) ∧ σ.t 8 = .v (.int .i64 (ts.length : Int)) ∧ σ.t 9 = .v (.int .i64 (i : Int)) ∧ σ.H = H ∧ i ≤ ts.length ∧ ValidTo ts i) σ) ?_ 0 _ (.mk ⟨rfl, rfl, rfl, rfl, rfl, by omega, fun j _ h => by omega⟩)
  rintro i ⟨t', L, H'⟩ ⟨e0, e7, e8, e9, hH, hi, hv⟩
  simp only at e0 e7 e8 e9 hH
  subst hH
  by_cases hlt : i < ts.length
  · have hg : (ts.map tmA)[i]? = some (tmA ts[i]) := by simp [hlt]
    by_cases hc1 : ts[i].c < 1
    · have := validB_no ts i hlt (.inl (by simp [okT]; omega))
      simp +decide -implicitDefEqProofs (maxSteps := 999999) (disch := first | assumption | omega) only [go_sem, if_true, if_false, decide_true, decide_false, Int.reduceToNat, Nat.reduceAdd, Nat.reduceMul, Nat.reduceSub, Int.reduceAdd, Int.reduceSub, Int.reduceMul, Int.reduceNeg, e0, e7, e8, e9, hg, tmA_cells, this]
    · by_cases hc2 : 1000000000 < ts[i].c
      · have := validB_no ts i hlt (.inl (by simp [okT]; omega))
        simp +decide -implicitDefEqProofs (maxSteps := 999999) (disch := first | assumption | omega) only [go_sem, if_true, if_false, decide_true, decide_false, Int.reduceToNat, Nat.reduceAdd, Nat.reduceMul, Nat.reduceSub, Int.reduceAdd, Int.reduceSub, Int.reduceMul, Int.reduceNeg, e0, e7, e8, e9, hg, tmA_cells, this]
      · cases i with
        | zero =>
          simp +decide -implicitDefEqProofs (maxSteps := 999999) (disch := first | assumption | omega) only [go_sem, if_true, if_false, decide_true, decide_false, Int.reduceToNat, Nat.reduceAdd, Nat.reduceMul, Nat.reduceSub, Int.reduceAdd, Int.reduceSub, Int.reduceMul, Int.reduceNeg, e0, e7, e8, e9, hg, tmA_cells]
          rw [wp_loop1]
          by_cases n0 : ts[0].x < 0
          · have := validB_no ts _ hlt (.inl (by simp [okT]; omega))
            simp +decide -implicitDefEqProofs (maxSteps := 999999) (disch := first | assumption | omega) only [go_sem, if_true, if_false, decide_true, decide_false, Int.reduceToNat, Nat.reduceAdd, Nat.reduceMul, Nat.reduceSub, Int.reduceAdd, Int.reduceSub, Int.reduceMul, Int.reduceNeg, this]
          by_cases m0 : 400 < ts[0].x
          · have := validB_no ts _ hlt (.inl (by simp [okT]; omega))
            simp +decide -implicitDefEqProofs (maxSteps := 999999) (disch := first | assumption | omega) only [go_sem, if_true, if_false, decide_true, decide_false, Int.reduceToNat, Nat.reduceAdd, Nat.reduceMul, Nat.reduceSub, Int.reduceAdd, Int.reduceSub, Int.reduceMul, Int.reduceNeg, this]
          simp +decide -implicitDefEqProofs (maxSteps := 999999) (disch := first | assumption | omega) only [go_sem, if_true, if_false, decide_true, decide_false, Int.reduceToNat, Nat.reduceAdd, Nat.reduceMul, Nat.reduceSub, Int.reduceAdd, Int.reduceSub, Int.reduceMul, Int.reduceNeg]
          rw [wp_loop1]
          by_cases n1 : ts[0].y < 0
          · have := validB_no ts _ hlt (.inl (by simp [okT]; omega))
            simp +decide -implicitDefEqProofs (maxSteps := 999999) (disch := first | assumption | omega) only [go_sem, if_true, if_false, decide_true, decide_false, Int.reduceToNat, Nat.reduceAdd, Nat.reduceMul, Nat.reduceSub, Int.reduceAdd, Int.reduceSub, Int.reduceMul, Int.reduceNeg, this]
          by_cases m1 : 400 < ts[0].y
          · have := validB_no ts _ hlt (.inl (by simp [okT]; omega))
            simp +decide -implicitDefEqProofs (maxSteps := 999999) (disch := first | assumption | omega) only [go_sem, if_true, if_false, decide_true, decide_false, Int.reduceToNat, Nat.reduceAdd, Nat.reduceMul, Nat.reduceSub, Int.reduceAdd, Int.reduceSub, Int.reduceMul, Int.reduceNeg, this]
          simp +decide -implicitDefEqProofs (maxSteps := 999999) (disch := first | assumption | omega) only [go_sem, if_true, if_false, decide_true, decide_false, Int.reduceToNat, Nat.reduceAdd, Nat.reduceMul, Nat.reduceSub, Int.reduceAdd, Int.reduceSub, Int.reduceMul, Int.reduceNeg]
          rw [wp_loop1]
          by_cases n2 : ts[0].z < 0
          · have := validB_no ts _ hlt (.inl (by simp [okT]; omega))
            simp +decide -implicitDefEqProofs (maxSteps := 999999) (disch := first | assumption | omega) only [go_sem, if_true, if_false, decide_true, decide_false, Int.reduceToNat, Nat.reduceAdd, Nat.reduceMul, Nat.reduceSub, Int.reduceAdd, Int.reduceSub, Int.reduceMul, Int.reduceNeg, this]
          by_cases m2 : 400 < ts[0].z
          · have := validB_no ts _ hlt (.inl (by simp [okT]; omega))
            simp +decide -implicitDefEqProofs (maxSteps := 999999) (disch := first | assumption | omega) only [go_sem, if_true, if_false, decide_true, decide_false, Int.reduceToNat, Nat.reduceAdd, Nat.reduceMul, Nat.reduceSub, Int.reduceAdd, Int.reduceSub, Int.reduceMul, Int.reduceNeg, this]
          simp +decide -implicitDefEqProofs (maxSteps := 999999) (disch := first | assumption | omega) only [go_sem, if_true, if_false, decide_true, decide_false, Int.reduceToNat, Nat.reduceAdd, Nat.reduceMul, Nat.reduceSub, Int.reduceAdd, Int.reduceSub, Int.reduceMul, Int.reduceNeg]
          rw [wp_loop1]
          simp +decide -implicitDefEqProofs (maxSteps := 999999) (disch := first | assumption | omega) only [go_sem, if_true, if_false, decide_true, decide_false, Int.reduceToNat, Nat.reduceAdd, Nat.reduceMul, Nat.reduceSub, Int.reduceAdd, Int.reduceSub, Int.reduceMul, Int.reduceNeg, e0, e7, e8, e9]
          exact ⟨1, by omega, .mk ⟨e0, e7, e8, rfl, rfl, by omega, hv.succ hlt (by rw [okT_iff]; omega) (fun k hk q => by omega)⟩⟩
        | succ i =>
          have hi2 : i < ts.length := by omega
          have hg2 : (ts.map tmA)[i]? = some (tmA ts[i]) := by simp [hi2]
          have ei : ((i + 1 : Nat) : Int) - 1 = i := by omega
          have hcmp := cmpT_bef ts[i] ts[i + 1]
          cases h2 : bef ts[i] ts[i + 1] with
          | false =>
            rw [h2] at hcmp
            have hcmp' : (0 ≤ cmpT ts[i] ts[i + 1]) = True := by rw [hcmp]; simp
            have := validB_no ts (i + 1) hlt (.inr ⟨i, hi2, rfl, h2⟩)
            simp +decide -implicitDefEqProofs (maxSteps := 999999) (disch := first | assumption | omega) only [go_sem, if_true, if_false, decide_true, decide_false, Int.reduceToNat, Nat.reduceAdd, Nat.reduceMul, Nat.reduceSub, Int.reduceAdd, Int.reduceSub, Int.reduceMul, Int.reduceNeg, e0, e7, e8, e9, hg, hg2, tmA_cells, tmA_fold, compareTerms_eq, ei, hcmp', this]
          | true =>
            rw [h2] at hcmp
            have hcmp' : (0 ≤ cmpT ts[i] ts[i + 1]) = False := by rw [hcmp]; simp
            simp +decide -implicitDefEqProofs (maxSteps := 999999) (disch := first | assumption | omega) only [go_sem, if_true, if_false, decide_true, decide_false, Int.reduceToNat, Nat.reduceAdd, Nat.reduceMul, Nat.reduceSub, Int.reduceAdd, Int.reduceSub, Int.reduceMul, Int.reduceNeg, e0, e7, e8, e9, hg, hg2, tmA_cells, tmA_fold, compareTerms_eq, ei, hcmp']
            rw [wp_loop1]
            by_cases n0 : ts[i + 1].x < 0
            · have := validB_no ts _ hlt (.inl (by simp [okT]; omega))
              simp +decide -implicitDefEqProofs (maxSteps := 999999) (disch := first | assumption | omega) only [go_sem, if_true, if_false, decide_true, decide_false, Int.reduceToNat, Nat.reduceAdd, Nat.reduceMul, Nat.reduceSub, Int.reduceAdd, Int.reduceSub, Int.reduceMul, Int.reduceNeg, this]
            by_cases m0 : 400 < ts[i + 1].x
            · have := validB_no ts _ hlt (.inl (by simp [okT]; omega))
              simp +decide -implicitDefEqProofs (maxSteps := 999999) (disch := first | assumption | omega) only [go_sem, if_true, if_false, decide_true, decide_false, Int.reduceToNat, Nat.reduceAdd, Nat.reduceMul, Nat.reduceSub, Int.reduceAdd, Int.reduceSub, Int.reduceMul, Int.reduceNeg, this]
            simp +decide -implicitDefEqProofs (maxSteps := 999999) (disch := first | assumption | omega) only [go_sem, if_true, if_false, decide_true, decide_false, Int.reduceToNat, Nat.reduceAdd, Nat.reduceMul, Nat.reduceSub, Int.reduceAdd, Int.reduceSub, Int.reduceMul, Int.reduceNeg]
            rw [wp_loop1]
            by_cases n1 : ts[i + 1].y < 0
            · have := validB_no ts _ hlt (.inl (by simp [okT]; omega))
              simp +decide -implicitDefEqProofs (maxSteps := 999999) (disch := first | assumption | omega) only [go_sem, if_true, if_false, decide_true, decide_false, Int.reduceToNat, Nat.reduceAdd, Nat.reduceMul, Nat.reduceSub, Int.reduceAdd, Int.reduceSub, Int.reduceMul, Int.reduceNeg, this]
            by_cases m1 : 400 < ts[i + 1].y
            · have := validB_no ts _ hlt (.inl (by simp [okT]; omega))
              simp +decide -implicitDefEqProofs (maxSteps := 999999) (disch := first | assumption | omega) only [go_sem, if_true, if_false, decide_true, decide_false, Int.reduceToNat, Nat.reduceAdd, Nat.reduceMul, Nat.reduceSub, Int.reduceAdd, Int.reduceSub, Int.reduceMul, Int.reduceNeg, this]
            simp +decide -implicitDefEqProofs (maxSteps := 999999) (disch := first | assumption | omega) only [go_sem, if_true, if_false, decide_true, decide_false, Int.reduceToNat, Nat.reduceAdd, Nat.reduceMul, Nat.reduceSub, Int.reduceAdd, Int.reduceSub, Int.reduceMul, Int.reduceNeg]
            rw [wp_loop1]
            by_cases n2 : ts[i + 1].z < 0
            · have := validB_no ts _ hlt (.inl (by simp [okT]; omega))
              simp +decide -implicitDefEqProofs (maxSteps := 999999) (disch := first | assumption | omega) only [go_sem, if_true, if_false, decide_true, decide_false, Int.reduceToNat, Nat.reduceAdd, Nat.reduceMul, Nat.reduceSub, Int.reduceAdd, Int.reduceSub, Int.reduceMul, Int.reduceNeg, this]
            by_cases m2 : 400 < ts[i + 1].z
            · have := validB_no ts _ hlt (.inl (by simp [okT]; omega))
              simp +decide -implicitDefEqProofs (maxSteps := 999999) (disch := first | assumption | omega) only [go_sem, if_true, if_false, decide_true, decide_false, Int.reduceToNat, Nat.reduceAdd, Nat.reduceMul, Nat.reduceSub, Int.reduceAdd, Int.reduceSub, Int.reduceMul, Int.reduceNeg, this]
            simp +decide -implicitDefEqProofs (maxSteps := 999999) (disch := first | assumption | omega) only [go_sem, if_true, if_false, decide_true, decide_false, Int.reduceToNat, Nat.reduceAdd, Nat.reduceMul, Nat.reduceSub, Int.reduceAdd, Int.reduceSub, Int.reduceMul, Int.reduceNeg]
            rw [wp_loop1]
            simp +decide -implicitDefEqProofs (maxSteps := 999999) (disch := first | assumption | omega) only [go_sem, if_true, if_false, decide_true, decide_false, Int.reduceToNat, Nat.reduceAdd, Nat.reduceMul, Nat.reduceSub, Int.reduceAdd, Int.reduceSub, Int.reduceMul, Int.reduceNeg, e0, e7, e8, e9]
            exact ⟨i + 1 + 1, by omega, .mk ⟨e0, e7, e8, rfl, rfl, by omega, hv.succ hlt (by rw [okT_iff]; omega) (fun k hk q => by
              have e : k = i := by omega
              subst e; exact h2)⟩⟩
  · obtain rfl : i = ts.length := by omega
    simp +decide -implicitDefEqProofs (maxSteps := 999999) (disch := first | assumption | omega) only [go_sem, if_true, if_false, decide_true, decide_false, Int.reduceToNat, Nat.reduceAdd, Nat.reduceMul, Nat.reduceSub, Int.reduceAdd, Int.reduceSub, Int.reduceMul, Int.reduceNeg, e0, e7, e8, e9, validB_end ts hv]
    congr 1
    rw [decide_eq_decide]; omega
end Go.Proofs.Ytnjaagfhaooapaa.Eng
