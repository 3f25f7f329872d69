/- WALK 13: polynomials that are drawn. -/
import Derived.Test.YtnjaagfhaooapaaP12
namespace Go.Proofs.Ytnjaagfhaooapaa.Eng
set_option linter.unusedVariables false
set_option linter.unusedSimpArgs false
set_option linter.unnecessarySimpa false
set_option linter.constructorNameAsVariable false
open Go
set_option maxRecDepth 100000

/-- The polynomial of a text, as the reference tells it. -/
def polyOfS (s : List UInt8) : List Tm × Bool := if (plainTypeT s).2 && (polyT (plainTypeT s).1).2 then ((polyT (plainTypeT s).1).1, true) else ([], false)

theorem PolyOf_ex (s : List UInt8) (H : List HObj) : ∃ a H', acall EA 14 [.str s] H = some (a, H') ∧ PolR (polyOfS s) H a H' := by
  refine acall_ex (fn := Try.f14) rfl Try.func14 rfl rfl (by simp [Try.f14]) ?_
  unfold polyOfS
  have hp := l6pType_eq s H
  have hT : (plainTypeT s).2 = true → isT (plainTypeT s).1 = true ∧ plainT (plainTypeT s).1 = true := by
    simp only [plainTypeT, typeT, Bool.and_eq_true]
    rintro ⟨⟨⟨_, h⟩, _⟩, h2⟩; exact ⟨h, h2⟩
  generalize plainTypeT s = p at *
  obtain ⟨t, b⟩ := p
  cases b with
  | false =>
    simp +decide -implicitDefEqProofs (maxSteps := 999999) (disch := first | assumption | omega) only [go_sem, if_true, if_false, decide_true, decide_false, Int.reduceToNat, Nat.reduceAdd, Nat.reduceMul, Nat.reduceSub, Int.reduceAdd, Int.reduceSub, Int.reduceMul, Int.reduceNeg, hp, embT_cells, embT_fold]
    exact ⟨.full, [], rfl, by simp, .inl rfl⟩
  | true =>
    obtain ⟨h1, h2⟩ := hT rfl
    simp +decide -implicitDefEqProofs (maxSteps := 999999) (disch := first | assumption | omega) only [go_sem, if_true, if_false, decide_true, decide_false, Int.reduceToNat, Nat.reduceAdd, Nat.reduceMul, Nat.reduceSub, Int.reduceAdd, Int.reduceSub, Int.reduceMul, Int.reduceNeg, hp, embT_cells, embT_fold]
    refine call_ex (l6pPoly_ex t h1 h2 H) ?_
    rintro _ _ ⟨own, T, rfl, rfl, k⟩
    generalize polyT t = r at *
    obtain ⟨ts, b⟩ := r
    have takeH : (H ++ T).take H.length = H := by simp
    cases b with
    | false =>
      simp +decide -implicitDefEqProofs (maxSteps := 999999) (disch := first | assumption | omega) only [go_sem, if_true, if_false, decide_true, decide_false, Int.reduceToNat, Nat.reduceAdd, Nat.reduceMul, Nat.reduceSub, Int.reduceAdd, Int.reduceSub, Int.reduceMul, Int.reduceNeg, takeH]
      exact ⟨.full, [], rfl, by simp, .inl rfl⟩
    | true =>
      rcases k with rfl | ⟨id, rfl, hid, htop⟩
      · simp +decide -implicitDefEqProofs (maxSteps := 999999) (disch := first | assumption | omega) only [go_sem, if_true, if_false, decide_true, decide_false, Int.reduceToNat, Nat.reduceAdd, Nat.reduceMul, Nat.reduceSub, Int.reduceAdd, Int.reduceSub, Int.reduceMul, Int.reduceNeg, takeH, belowL_tm]
        exact ⟨.full, [], rfl, by simp, .inl rfl⟩
      · have hn : ¬ id < H.length := by omega
        simp +decide -implicitDefEqProofs (maxSteps := 999999) (disch := first | assumption | omega) only [go_sem, if_true, if_false, decide_true, decide_false, Int.reduceToNat, Nat.reduceAdd, Nat.reduceMul, Nat.reduceSub, Int.reduceAdd, Int.reduceSub, Int.reduceMul, Int.reduceNeg, takeH, belowL_tm, htop, hn]
        exact ⟨.tok H.length, [.top ts.length 4], rfl, rfl, .inr ⟨_, rfl, Nat.le_refl _, by simp⟩⟩

theorem polyOfS_len (s : List UInt8) : (polyOfS s).1.length ≤ 60 := by
  unfold polyOfS
  split
  · rename_i h
    simp only [Bool.and_eq_true] at h
    exact polyT_len _ h.2
  · simp

/-- A list of terms that is drawn. -/
def LstR (N : Nat) (k : Int) (H : List HObj) (id : Nat) (bs : List UInt8) (o : Own) (p : Int) (a : AV) (H' : List HObj) : Prop :=
  ∃ (ts : List Tm) (own : Own) (p' : Int), a = .slice (ts.map tmA) own ∧ ts.length ≤ N ∧ p ≤ p' ∧ p' ≤ p + k ∧ H' = rdH H id bs o p' ∧ (own = .full ∨ own = .view)

theorem rdH_app (H : List HObj) (id : Nat) (bs : List UInt8) (o : Own) (p : Int) (T : List HObj) (h : id < H.length) : rdH H id bs o p ++ T = rdH (H ++ T) id bs o p := by
  unfold rdH
  rw [List.set_append_left _ _ h]

theorem rdH_get (H : List HObj) (id : Nat) (bs : List UInt8) (o : Own) (p : Int) (j : Nat) (h : j ≠ id) : (rdH H id bs o p)[j]? = H[j]? := by
  unfold rdH
  rw [List.getElem?_set_ne (fun q => h q.symm)]
theorem rdH_takeA (H : List HObj) (id : Nat) (bs : List UInt8) (o : Own) (p : Int) (T : List HObj) (h : id < H.length) : (rdH H id bs o p ++ T).take H.length = rdH H id bs o p := by
  rw [List.take_append_of_le_length (by simp [rdH]), rdH_take]

theorem l92Poly_rd {H : List HObj} {id : Nat} {bs : List UInt8} {o : Own} {p : Int} (h : Rd H id bs p 1067) :
    ∃ a H', acall EA 8 [.ref id 0] (rdH H id bs o p) = some (a, H') ∧ LstR 61 1067 H id bs o p a H' := by
  obtain ⟨i1, i2, i3, i4⟩ := h
  refine acall_ex (fn := Try.f8) rfl Try.func8 rfl rfl (by simp [Try.f8]) ?_
  simp +decide -implicitDefEqProofs (maxSteps := 999999) (disch := first | assumption | omega) only [go_sem, if_true, if_false, decide_true, decide_false, Int.reduceToNat, Nat.reduceAdd, Nat.reduceMul, Nat.reduceSub, Int.reduceAdd, Int.reduceSub, Int.reduceMul, Int.reduceNeg]
  refine call_ex (plain_4 ⟨i1, i2, by omega, by omega⟩) ?_
  rintro _ _ ⟨s, p1, rfl, hs, q1, q2, rfl⟩
  simp +decide -implicitDefEqProofs (maxSteps := 999999) (disch := first | assumption | omega) only [go_sem, if_true, if_false, decide_true, decide_false, Int.reduceToNat, Nat.reduceAdd, Nat.reduceMul, Nat.reduceSub, Int.reduceAdd, Int.reduceSub, Int.reduceMul, Int.reduceNeg]
  refine call_ex (PolyOf_ex s _) ?_
  rintro _ _ ⟨own, T, rfl, rfl, k⟩
  have hl := polyOfS_len s
  generalize polyOfS s = r at *
  obtain ⟨ts, b⟩ := r
  simp only at hl k
  cases b with
  | false =>
    simp +decide -implicitDefEqProofs (maxSteps := 999999) (disch := first | assumption | omega) only [go_sem, if_true, if_false, decide_true, decide_false, Int.reduceToNat, Nat.reduceAdd, Nat.reduceMul, Nat.reduceSub, Int.reduceAdd, Int.reduceSub, Int.reduceMul, Int.reduceNeg]
    exact ⟨[⟨2, 1, 0, 0⟩], .full, p1, rfl, by simp, by omega, by omega, rdH_takeA _ _ _ _ _ _ i1, .inl rfl⟩
  | true =>
    have hk : own = .full ∨ ∃ tid, own = .tok tid ∧ H.length ≤ tid ∧ ∀ q, (rdH (H ++ T) id bs o q)[tid]? = some (.top ts.length 4) := by
      rcases k with rfl | ⟨tid, rfl, t1, t2⟩
      · exact .inl rfl
      · rw [rdH_len] at t1
        refine .inr ⟨tid, rfl, t1, fun q => ?_⟩
        rw [rdH_app _ _ _ _ _ _ i1] at t2
        rw [rdH_get _ _ _ _ _ _ (by omega)] at t2 ⊢
        exact t2
    clear k
    simp +decide -implicitDefEqProofs (maxSteps := 999999) (disch := first | assumption | omega) only [go_sem, if_true, if_false, decide_true, decide_false, Int.reduceToNat, Nat.reduceAdd, Nat.reduceMul, Nat.reduceSub, Int.reduceAdd, Int.reduceSub, Int.reduceMul, Int.reduceNeg]
    rw [rdH_app _ _ _ _ _ _ i1]
    refine call_ex (pick_rd ⟨by simp; omega, i2, by omega, by omega⟩ (by omega) (by omega)) ?_
    rintro _ _ ⟨m, rfl, m0, m1, rfl⟩
    have hT : ∀ q, (rdH (H ++ T) id bs o q).take H.length = rdH H id bs o q := fun q => by rw [← rdH_app _ _ _ _ _ _ i1]; exact rdH_takeA _ _ _ _ _ _ i1
    have e1 : ts.map tmA ++ [AV.agg [.int .i64 3, .int .i64 2, .int .i64 0, .int .i64 0]] = (ts ++ [Tm.mk 3 2 0 0]).map tmA := by simp [tmA]
    have e2 : ts.map tmA ++ [AV.agg [.int .i64 0, .int .i64 0, .int .i64 0, .int .i64 0]] = (ts ++ [Tm.mk 0 0 0 0]).map tmA := by simp [tmA]
    rcases hk with rfl | ⟨tid, rfl, t1, t2⟩
    · simp +decide -implicitDefEqProofs (maxSteps := 999999) (disch := first | assumption | omega) only [go_sem, if_true, if_false, decide_true, decide_false, Int.reduceToNat, Nat.reduceAdd, Nat.reduceMul, Nat.reduceSub, Int.reduceAdd, Int.reduceSub, Int.reduceMul, Int.reduceNeg, Sz_tm, lim]
      (iterate 3 (try (any_goals (first | ((first | refine condK_P ?_ ?_ | refine condK_N ?_ ?_ | refine gdK_P ?_ ?_ | refine gdK_N ?_ ?_ | refine gdR_P ?_ ?_ | refine gdR_N ?_ ?_) <;> intro hc <;> (try simp +decide -implicitDefEqProofs (maxSteps := 999999) (disch := first | assumption | omega) only [go_sem, if_true, if_false, decide_true, decide_false, Int.reduceToNat, Nat.reduceAdd, Nat.reduceMul, Nat.reduceSub, Int.reduceAdd, Int.reduceSub, Int.reduceMul, Int.reduceNeg, Sz_tm, lim, e1, e2, belowL_tm, hT])) | ((first | refine condK_B ?_ ?_ | refine gdK_B ?_ ?_ | refine gdR_B ?_ ?_) <;> intro hc <;> (try simp +decide -implicitDefEqProofs (maxSteps := 999999) (disch := first | assumption | omega) only [go_sem, if_true, if_false, decide_true, decide_false, Int.reduceToNat, Nat.reduceAdd, Nat.reduceMul, Nat.reduceSub, Int.reduceAdd, Int.reduceSub, Int.reduceMul, Int.reduceNeg, Sz_tm, lim, e1, e2, belowL_tm, hT, hc]))))))
      · exact ⟨_, _, _, rfl, by simp; omega, by omega, by omega, rfl, .inr rfl⟩
      · exact ⟨_, _, _, rfl, by simp; omega, by omega, by omega, rfl, .inr rfl⟩
      · exact ⟨[⟨900000000, 2, 1, 0⟩], _, _, rfl, by simp, by omega, by omega, rfl, .inl rfl⟩
      · exact ⟨_, _, _, rfl, by omega, by omega, by omega, rfl, .inl rfl⟩
    · have hS : ∀ q x, ((rdH (H ++ T) id bs o q).set tid x).take H.length = rdH H id bs o q := fun q x => by rw [List.take_set_of_le t1, hT]
      have hn : ¬ tid < H.length := by omega
      simp +decide -implicitDefEqProofs (maxSteps := 999999) (disch := first | assumption | omega) only [go_sem, if_true, if_false, decide_true, decide_false, Int.reduceToNat, Nat.reduceAdd, Nat.reduceMul, Nat.reduceSub, Int.reduceAdd, Int.reduceSub, Int.reduceMul, Int.reduceNeg, Sz_tm, lim]
      (iterate 3 (try (any_goals (first | ((first | refine condK_P ?_ ?_ | refine condK_N ?_ ?_ | refine gdK_P ?_ ?_ | refine gdK_N ?_ ?_ | refine gdR_P ?_ ?_ | refine gdR_N ?_ ?_) <;> intro hc <;> (try simp +decide -implicitDefEqProofs (maxSteps := 999999) (disch := first | assumption | omega) only [go_sem, if_true, if_false, decide_true, decide_false, Int.reduceToNat, Nat.reduceAdd, Nat.reduceMul, Nat.reduceSub, Int.reduceAdd, Int.reduceSub, Int.reduceMul, Int.reduceNeg, Sz_tm, lim, e1, e2, belowL_tm, hT, t2, hS, hn])) | ((first | refine condK_B ?_ ?_ | refine gdK_B ?_ ?_ | refine gdR_B ?_ ?_) <;> intro hc <;> (try simp +decide -implicitDefEqProofs (maxSteps := 999999) (disch := first | assumption | omega) only [go_sem, if_true, if_false, decide_true, decide_false, Int.reduceToNat, Nat.reduceAdd, Nat.reduceMul, Nat.reduceSub, Int.reduceAdd, Int.reduceSub, Int.reduceMul, Int.reduceNeg, Sz_tm, lim, e1, e2, belowL_tm, hT, t2, hS, hn, hc]))))))
      · exact ⟨_, _, _, rfl, by simp; omega, by omega, by omega, rfl, .inr rfl⟩
      · exact ⟨_, _, _, rfl, by simp; omega, by omega, by omega, rfl, .inr rfl⟩
      · exact ⟨[⟨900000000, 2, 1, 0⟩], _, _, rfl, by simp, by omega, by omega, rfl, .inl rfl⟩
      · exact ⟨_, _, _, rfl, by omega, by omega, by omega, rfl, .inr rfl⟩

theorem l6Open_rd (bs : List UInt8) (o : Own) (H : List HObj) : ∃ bs' o', bs'.length ≤ 2000 ∧ acall EA 7 [.slice (bs.map byA) o] H = some (.ref H.length 0, rdH (H ++ [.tag]) H.length bs' o' 0) := by
  have h := l6Open_eq (bs.map byA) o (Sz.map (g := byA) (n := 1) (fun b => rfl) bs) H
  by_cases q : 2000 < bs.length
  · refine ⟨bs.take 2000, .view, by simp; omega, ?_⟩
    rw [h, List.length_map, if_pos q]
    simp [rdH, List.map_take]
  · refine ⟨bs, o, by omega, ?_⟩
    rw [h, List.length_map, if_neg q]
    simp [rdH]

/-- What DrawPolyValue gives. -/
def DrawPV (a : AV) : Prop := ∃ (ts : List Tm) (own : Own) (x y z : Int), a = .tuple [.slice (ts.map tmA) own, .int .i64 x, .int .i64 y, .int .i64 z] ∧ ts.length ≤ 61 ∧ (own = .full ∨ own = .view)
theorem DrawPolyValue_ex (bs : List UInt8) (o : Own) (H : List HObj) : ∃ a H', acall EA 4 [.slice (bs.map byA) o] H = some (a, H') ∧ (H' = H ∧ DrawPV a) := by
  obtain ⟨bs', o', hb, hop⟩ := l6Open_rd bs o H
  have hid : H.length < (H ++ [HObj.tag]).length := by simp
  have hT : ∀ q, (rdH (H ++ [HObj.tag]) H.length bs' o' q).take H.length = H := fun q => by
    rw [rdH]; rw [List.take_set_of_le (Nat.le_refl _)]; simp
  refine acall_ex (fn := Try.f4) rfl Try.func4 rfl rfl (by simp [Try.f4]) ?_
  simp +decide -implicitDefEqProofs (maxSteps := 999999) (disch := first | assumption | omega) only [go_sem, if_true, if_false, decide_true, decide_false, Int.reduceToNat, Nat.reduceAdd, Nat.reduceMul, Nat.reduceSub, Int.reduceAdd, Int.reduceSub, Int.reduceMul, Int.reduceNeg, hop]
  generalize H ++ [HObj.tag] = H2 at *
  refine call_ex (l92Poly_rd ⟨hid, hb, by omega, by omega⟩) ?_
  rintro _ _ ⟨ts, own, p1, rfl, hl, q1, q2, rfl, hown⟩
  simp +decide -implicitDefEqProofs (maxSteps := 999999) (disch := first | assumption | omega) only [go_sem, if_true, if_false, decide_true, decide_false, Int.reduceToNat, Nat.reduceAdd, Nat.reduceMul, Nat.reduceSub, Int.reduceAdd, Int.reduceSub, Int.reduceMul, Int.reduceNeg]
  refine call_ex (pick_rd ⟨hid, hb, by omega, by omega⟩ (by omega) (by omega)) ?_
  rintro _ _ ⟨m1, rfl, m10, m11, rfl⟩
  simp +decide -implicitDefEqProofs (maxSteps := 999999) (disch := first | assumption | omega) only [go_sem, if_true, if_false, decide_true, decide_false, Int.reduceToNat, Nat.reduceAdd, Nat.reduceMul, Nat.reduceSub, Int.reduceAdd, Int.reduceSub, Int.reduceMul, Int.reduceNeg]
  refine call_ex (pick_rd ⟨hid, hb, by omega, by omega⟩ (by omega) (by omega)) ?_
  rintro _ _ ⟨m2, rfl, m20, m21, rfl⟩
  simp +decide -implicitDefEqProofs (maxSteps := 999999) (disch := first | assumption | omega) only [go_sem, if_true, if_false, decide_true, decide_false, Int.reduceToNat, Nat.reduceAdd, Nat.reduceMul, Nat.reduceSub, Int.reduceAdd, Int.reduceSub, Int.reduceMul, Int.reduceNeg]
  refine call_ex (pick_rd ⟨hid, hb, by omega, by omega⟩ (by omega) (by omega)) ?_
  rintro _ _ ⟨m3, rfl, m30, m31, rfl⟩
  simp +decide -implicitDefEqProofs (maxSteps := 999999) (disch := first | assumption | omega) only [go_sem, if_true, if_false, decide_true, decide_false, Int.reduceToNat, Nat.reduceAdd, Nat.reduceMul, Nat.reduceSub, Int.reduceAdd, Int.reduceSub, Int.reduceMul, Int.reduceNeg]
  refine call_ex (pick_rd ⟨hid, hb, by omega, by omega⟩ (by omega) (by omega)) ?_
  rintro _ _ ⟨m4, rfl, m40, m41, rfl⟩
  simp +decide -implicitDefEqProofs (maxSteps := 999999) (disch := first | assumption | omega) only [go_sem, if_true, if_false, decide_true, decide_false, Int.reduceToNat, Nat.reduceAdd, Nat.reduceMul, Nat.reduceSub, Int.reduceAdd, Int.reduceSub, Int.reduceMul, Int.reduceNeg]
  refine call_ex (pick_rd ⟨hid, hb, by omega, by omega⟩ (by omega) (by omega)) ?_
  rintro _ _ ⟨m5, rfl, m50, m51, rfl⟩
  rcases hown with rfl | rfl
  · simp +decide -implicitDefEqProofs (maxSteps := 999999) (disch := first | assumption | omega) only [go_sem, if_true, if_false, decide_true, decide_false, Int.reduceToNat, Nat.reduceAdd, Nat.reduceMul, Nat.reduceSub, Int.reduceAdd, Int.reduceSub, Int.reduceMul, Int.reduceNeg, hT, belowL_tm]
    exact ⟨ts, _, _, _, _, rfl, hl, .inl rfl⟩
  · simp +decide -implicitDefEqProofs (maxSteps := 999999) (disch := first | assumption | omega) only [go_sem, if_true, if_false, decide_true, decide_false, Int.reduceToNat, Nat.reduceAdd, Nat.reduceMul, Nat.reduceSub, Int.reduceAdd, Int.reduceSub, Int.reduceMul, Int.reduceNeg, hT, belowL_tm]
    exact ⟨ts, _, _, _, _, rfl, hl, .inr rfl⟩
end Go.Proofs.Ytnjaagfhaooapaa.Eng
