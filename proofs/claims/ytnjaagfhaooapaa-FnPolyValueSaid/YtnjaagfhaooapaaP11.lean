/- WALK 11: a term added to a list of terms. -/
import Derived.Test.YtnjaagfhaooapaaP10
namespace Go.Proofs.Ytnjaagfhaooapaa.Eng
set_option linter.unusedVariables false
set_option linter.unusedSimpArgs false
set_option linter.unnecessarySimpa false
set_option linter.constructorNameAsVariable false
open Go
set_option maxRecDepth 100000

def bef (a b : Tm) : Bool := beforeB a.x a.y a.z b.x b.y b.z
theorem bef_call (a b : Tm) (H : List HObj) : acall EA 17 [tmA a, tmA b] H = some (.bool (bef a b), H) := l6pBefore_eq ..
theorem tmA_fold (t : Tm) : AV.agg [.int .i64 t.c, .int .i64 t.x, .int .i64 t.y, .int .i64 t.z] = tmA t := rfl
/-- The least of a number and 1000000001. -/
def cap1 (n : Int) : Int := if n < 1000000001 then n else 1000000001
def addTm (ts : List Tm) (t : Tm) : List Tm :=
  match ts.drop (ts.takeWhile (bef · t)).length with
  | [] => ts ++ [t]
  | a :: l => if bef t a then ts.take (ts.takeWhile (bef · t)).length ++ t :: a :: l else ts.take (ts.takeWhile (bef · t)).length ++ ⟨cap1 (IntKind.i64.wrap (a.c + t.c)), t.x, t.y, t.z⟩ :: l

theorem chunks_map : ∀ (ts : List Tm), chunks 4 ts.length ((ts.map tmA).flatMap AV.cells) = ts.map tmA
  | [] => rfl
  | t :: l => by
    have := chunks_map l
    simp only [List.map_cons, List.flatMap_cons, tmA_cells, List.length_cons, chunks, List.cons_append, List.nil_append, List.drop_succ_cons, List.drop_zero, this, List.take_succ_cons, List.take_zero]
    rfl
theorem flat_len : ∀ (ts : List Tm), ((ts.map tmA).flatMap AV.cells).length = ts.length * 4
  | [] => rfl
  | t :: l => by
    have := flat_len l
    simp only [List.map_cons, List.flatMap_cons, List.length_append, this, List.length_cons, tmA_cells, List.length_nil]; omega
theorem flat_set : ∀ (ts : List Tm) (k : Nat) (t : Tm), k < ts.length → ((ts.map tmA).flatMap AV.cells).take (k * 4) ++ ([.int .i64 t.c, .int .i64 t.x, .int .i64 t.y, .int .i64 t.z] ++ ((ts.map tmA).flatMap AV.cells).drop (k * 4 + 4)) = ((ts.set k t).map tmA).flatMap AV.cells
  | [], k, t, h => by simp at h
  | a :: l, 0, t, h => by
    simp only [List.map_cons, List.flatMap_cons, tmA_cells, List.set_cons_zero, Nat.zero_mul, List.take_zero, List.nil_append, Nat.zero_add, List.cons_append, List.drop_succ_cons, List.drop_zero]
  | a :: l, k + 1, t, h => by
    have := flat_set l k t (by simpa using h)
    have e : (k + 1) * 4 = k * 4 + 1 + 1 + 1 + 1 := by omega
    simp only [List.map_cons, List.flatMap_cons, tmA_cells, List.set_cons_succ, e, List.cons_append, List.nil_append, List.take_succ_cons, List.drop_succ_cons, ← this]
theorem Sz_tm (l : List Tm) : Sz 4 (l.map tmA) := Sz.map (fun t => by rw [tmA_cells]; rfl) l
theorem below_tm (n : Nat) (t : Tm) : below n (tmA t) = true := by simp [tmA, below, belowL]
theorem belowL_tm (n : Nat) : ∀ l : List Tm, belowL n (l.map tmA) = true
  | [] => by simp [belowL]
  | t :: l => by simp [belowL, below_tm, belowL_tm n l]

theorem Sz_tk (l : List Tm) (k : Nat) : Sz 4 ((l.map tmA).take k) := (Sz_tm l).take k
theorem Sz_dp (l : List Tm) (k : Nat) : Sz 4 ((l.map tmA).drop k) := (Sz_tm l).drop k
theorem l6pAdd_eq (ts : List Tm) (t : Tm) (own : Own) (H : List HObj) (hl : ts.length ≤ 1000000) : acall EA 27 [.slice (ts.map tmA) own, tmA t] H = some (.slice ((addTm ts t).map tmA) (.tok H.length), H ++ [.top (addTm ts t).length 4]) := by
  refine acall_is (fn := Try.f27) rfl Try.func27 rfl rfl (by simp [Try.f27]) ?_
  have hk : (ts.takeWhile (bef · t)).length ≤ ts.length := (List.takeWhile_prefix _).length_le
  generalize hK : (ts.takeWhile (bef · t)).length = K at hk
  simp +decide -implicitDefEqProofs (maxSteps := 999999) (disch := first | assumption | omega) only [go_sem, if_true, if_false, decide_true, decide_false, Int.reduceToNat, Nat.reduceAdd, Nat.reduceMul, Nat.reduceSub, Int.reduceAdd, Int.reduceSub, Int.reduceMul, Int.reduceNeg, tmA_cells]
  refine wp_loop (α := Nat) (fun i => K - i) (fun i σ => σ.t 0 = .v (.slice (ts.map tmA) own) ∧ σ.t 3 = .v (.ptr [.int .i64 t.c, .int .i64 t.x, .int .i64 t.y, .int .i64 t.z] 0 none) ∧ σ.t 5 = .v (.int .i64 (i : Int)) ∧ σ.H = H ∧ i ≤ K) ?_ 0 _ ⟨rfl, rfl, rfl, rfl, by omega⟩
  rintro i ⟨t', L, H'⟩ ⟨e0, e3, e5, hH, hi⟩
  simp only at e0 e3 e5 hH
  subst hH
  by_cases hlt : i < K
  · have hlen : i < ts.length := by omega
    have hg : (ts.map tmA)[i]? = some (tmA ts[i]) := by simp [hlen]
    have hb : bef ts[i] t = true := by
      obtain ⟨b, h1, h2⟩ := tw_lt (bef · t) ts i (by omega)
      rw [List.getElem?_eq_getElem hlen] at h1
      injection h1 with h1
      rw [h1]; exact h2
    simp +decide -implicitDefEqProofs (maxSteps := 999999) (disch := first | assumption | omega) only [go_sem, if_true, if_false, decide_true, decide_false, Int.reduceToNat, Nat.reduceAdd, Nat.reduceMul, Nat.reduceSub, Int.reduceAdd, Int.reduceSub, Int.reduceMul, Int.reduceNeg, e0, e3, e5, hg, tmA_cells, tmA_fold, bef_call, hb]
    exact ⟨i + 1, by omega, by congr 3, by omega⟩
  · obtain rfl : i = K := by omega
    have hdr : i < ts.length → ∃ h : i < ts.length, bef ts[i] t = false := by
      intro h
      refine ⟨h, ?_⟩
      rcases tw_end (bef · t) ts with q | ⟨b, h1, h2⟩
      · omega
      · rw [hK, List.getElem?_eq_getElem h] at h1
        injection h1 with h1
        rw [h1]; exact h2
    have htk : (ts.map tmA).take i = (ts.take i).map tmA := List.map_take.symm
    have hdp : ((ts.map tmA).drop i).take (ts.length - i) = (ts.drop i).map tmA := by rw [List.take_of_length_le (by simp)]; exact List.map_drop.symm
    by_cases hlen : i < ts.length
    · obtain ⟨_, hb⟩ := hdr hlen
      have hg : (ts.map tmA)[i]? = some (tmA ts[i]) := by simp [hlen]
      have hd : ts.drop i = ts[i] :: ts.drop (i + 1) := List.drop_eq_getElem_cons hlen
      have ht : ts.take i ++ ts[i] :: ts.drop (i + 1) = ts := by rw [← hd]; exact List.take_append_drop _ _
      cases hb2 : bef t ts[i] with
      | true =>
        have hadd : addTm ts t = ts.take i ++ [t] ++ ts.drop i := by
          simp only [addTm, hK, hd, hb2, if_true, List.append_assoc, List.cons_append, List.nil_append]
        have hlen2 : (addTm ts t).length = min i ts.length + 1 + (ts.length - i) := by rw [hadd]; simp; omega
        rw [hlen2, hadd]
        simp +decide -implicitDefEqProofs (maxSteps := 999999) (disch := first | assumption | omega) only [go_sem, if_true, if_false, decide_true, decide_false, Int.reduceToNat, Nat.reduceAdd, Nat.reduceMul, Nat.reduceSub, Int.reduceAdd, Int.reduceSub, Int.reduceMul, Int.reduceNeg, e0, e3, e5, hg, tmA_cells, tmA_fold, bef_call, hb, hb2, Sz_tm, belowL_tm, lim, List.length_take, List.length_drop, belowL_app, htk, hdp, Nat.le_refl, below_tm, List.map_append]
      | false =>
        have hadd : addTm ts t = ts.set i ⟨cap1 (IntKind.i64.wrap (ts[i].c + t.c)), t.x, t.y, t.z⟩ := by
          simp only [addTm, hK, hd, hb2]
          rw [if_neg (by simp), List.set_eq_take_append_cons_drop, if_pos hlen]
        have hfs : ((ts.map tmA).flatMap AV.cells).take (i * 4) ++ (.int .i64 (if IntKind.i64.wrap (ts[i].c + t.c) < 1000000001 then IntKind.i64.wrap (ts[i].c + t.c) else 1000000001) :: .int .i64 t.x :: .int .i64 t.y :: .int .i64 t.z :: ((ts.map tmA).flatMap AV.cells).drop (i * 4 + 4)) = ((addTm ts t).map tmA).flatMap AV.cells := by
          rw [hadd]; exact flat_set ts i ⟨cap1 (IntKind.i64.wrap (ts[i].c + t.c)), t.x, t.y, t.z⟩ hlen
        have hln : ts.length = (addTm ts t).length := by rw [hadd]; simp
        have hch : chunks 4 ts.length (((addTm ts t).map tmA).flatMap AV.cells) = (addTm ts t).map tmA := by rw [hln]; exact chunks_map _
        rw [← hln]
        clear hadd
        simp +decide -implicitDefEqProofs (maxSteps := 999999) (disch := first | assumption | omega) only [go_sem, if_true, if_false, decide_true, decide_false, Int.reduceToNat, Nat.reduceAdd, Nat.reduceMul, Nat.reduceSub, Int.reduceAdd, Int.reduceSub, Int.reduceMul, Int.reduceNeg, e0, e3, e5, hg, tmA_cells, tmA_fold, bef_call, hb, hb2, Sz_tm, belowL_tm, lim, flat_len, Nat.le_refl, hfs, hch, List.length_take, List.length_drop]
    · have hd : ts.drop i = [] := List.drop_of_length_le (by omega)
      have hadd : addTm ts t = ts.take i ++ [t] ++ ts.drop i := by
        simp only [addTm, hK, hd, List.append_nil]
        rw [List.take_of_length_le (by omega)]
      have hlen2 : (addTm ts t).length = min i ts.length + 1 + (ts.length - i) := by rw [hadd]; simp; omega
      rw [hlen2, hadd]
      simp +decide -implicitDefEqProofs (maxSteps := 999999) (disch := first | assumption | omega) only [go_sem, if_true, if_false, decide_true, decide_false, Int.reduceToNat, Nat.reduceAdd, Nat.reduceMul, Nat.reduceSub, Int.reduceAdd, Int.reduceSub, Int.reduceMul, Int.reduceNeg, e0, e3, e5, tmA_cells, tmA_fold, bef_call, Sz_tm, belowL_tm, lim, List.length_take, List.length_drop, belowL_app, htk, hdp, Nat.le_refl, below_tm, List.map_append]
end Go.Proofs.Ytnjaagfhaooapaa.Eng
