/- WALK 12: the polynomial of a plain type. -/
import Derived.Test.YtnjaagfhaooapaaP11
namespace Go.Proofs.Ytnjaagfhaooapaa.Eng
set_option linter.unusedVariables false
set_option linter.unusedSimpArgs false
set_option linter.unnecessarySimpa false
set_option linter.constructorNameAsVariable false
open Go
set_option maxRecDepth 100000

def mulT (s u : Tm) : Tm := ⟨cap1 (IntKind.i64.wrap (s.c * u.c)), IntKind.i64.wrap (s.x + u.x), IntKind.i64.wrap (s.y + u.y), IntKind.i64.wrap (s.z + u.z)⟩
def mulRow (s : Tm) (b out : List Tm) : List Tm := b.foldl (fun out u => addTm out (mulT s u)) out
def mulTm (a b : List Tm) : List Tm := a.foldl (fun out s => mulRow s b out) []
def fineB (ts : List Tm) : Bool := ts.all (fun t => decide (t.c ≤ 1000000000)) && decide (ts.length ≤ 60)
def polyT : Tree → List Tm × Bool
  | .mk a ps => if a = [48] then ([], true) else if a = [49] then ([⟨1, 0, 0, 0⟩], true) else if a = [120] then ([⟨1, 1, 0, 0⟩], true) else if a = [121] then ([⟨1, 0, 1, 0⟩], true) else if a = [122] then ([⟨1, 0, 0, 1⟩], true) else
    match ps with
    | [h, x, y] => if (!(polyT x).2 || !(polyT y).2) = true then ((polyT x).1, false) else
        if h.atom = [43] then ((polyT y).1.foldl addTm (polyT x).1, fineB ((polyT y).1.foldl addTm (polyT x).1)) else (mulTm (polyT x).1 (polyT y).1, fineB (mulTm (polyT x).1 (polyT y).1))
    | _ => ([], false)

theorem polyT_0 (t : Tree) (h : t.atom = [48]) : polyT t = ([], true) := by obtain ⟨a, ps⟩ := t; obtain rfl : a = [48] := h; unfold polyT; rfl
theorem polyT_1 (t : Tree) (h : t.atom = [49]) : polyT t = ([⟨1, 0, 0, 0⟩], true) := by obtain ⟨a, ps⟩ := t; obtain rfl : a = [49] := h; unfold polyT; rfl
theorem polyT_x (t : Tree) (h : t.atom = [120]) : polyT t = ([⟨1, 1, 0, 0⟩], true) := by obtain ⟨a, ps⟩ := t; obtain rfl : a = [120] := h; unfold polyT; rfl
theorem polyT_y (t : Tree) (h : t.atom = [121]) : polyT t = ([⟨1, 0, 1, 0⟩], true) := by obtain ⟨a, ps⟩ := t; obtain rfl : a = [121] := h; unfold polyT; rfl
theorem polyT_z (t : Tree) (h : t.atom = [122]) : polyT t = ([⟨1, 0, 0, 1⟩], true) := by obtain ⟨a, ps⟩ := t; obtain rfl : a = [122] := h; unfold polyT; rfl
theorem polyT_three (t x1 x2 x3 : Tree) (h : t.atom = []) (hp : t.parts = [x1, x2, x3]) : polyT t = if (!(polyT x2).2 || !(polyT x3).2) = true then ((polyT x2).1, false) else
        if x1.atom = [43] then ((polyT x3).1.foldl addTm (polyT x2).1, fineB ((polyT x3).1.foldl addTm (polyT x2).1)) else (mulTm (polyT x2).1 (polyT x3).1, fineB (mulTm (polyT x2).1 (polyT x3).1)) := by
  obtain ⟨a, ps⟩ := t
  obtain rfl : a = [] := h
  obtain rfl : ps = [x1, x2, x3] := hp
  rw [polyT]
  simp

theorem addTm_len (ts : List Tm) (t : Tm) : (addTm ts t).length ≤ ts.length + 1 := by
  unfold addTm
  have h1 := List.length_drop (i := (ts.takeWhile (bef · t)).length) (l := ts)
  split
  · simp
  · rename_i a l h
    rw [h] at h1
    simp at h1
    split <;> simp <;> omega
theorem fold_len (b a : List Tm) : (b.foldl addTm a).length ≤ a.length + b.length := by
  induction b generalizing a with
  | nil => simp
  | cons t b ih =>
    have := ih (addTm a t)
    have := addTm_len a t
    simp only [List.foldl_cons, List.length_cons]; omega
theorem mulRow_len (s : Tm) (b out : List Tm) : (mulRow s b out).length ≤ out.length + b.length := by
  unfold mulRow
  induction b generalizing out with
  | nil => simp
  | cons t b ih =>
    have := ih (addTm out (mulT s t))
    have := addTm_len out (mulT s t)
    simp only [List.foldl_cons, List.length_cons]; omega
theorem mulFold_len (a b out : List Tm) : (a.foldl (fun out s => mulRow s b out) out).length ≤ out.length + a.length * b.length := by
  induction a generalizing out with
  | nil => simp
  | cons t a ih =>
    have := ih (mulRow t b out)
    have := mulRow_len t b out
    simp only [List.foldl_cons, List.length_cons, Nat.add_mul]; omega

theorem fold_succ (b a : List Tm) (i : Nat) (h : i < b.length) : (b.take (i + 1)).foldl addTm a = addTm ((b.take i).foldl addTm a) b[i] := by
  rw [List.take_succ_eq_append_getElem h, List.foldl_append]; rfl
theorem mulRow_succ (s : Tm) (b o : List Tm) (i : Nat) (h : i < b.length) : mulRow s (b.take (i + 1)) o = addTm (mulRow s (b.take i) o) (mulT s b[i]) := by
  unfold mulRow
  rw [List.take_succ_eq_append_getElem h, List.foldl_append]; rfl
theorem mulFold_succ (a b o : List Tm) (i : Nat) (h : i < a.length) : (a.take (i + 1)).foldl (fun out s => mulRow s b out) o = mulRow a[i] b ((a.take i).foldl (fun out s => mulRow s b out) o) := by
  rw [List.take_succ_eq_append_getElem h, List.foldl_append]; rfl

theorem polyT_len (t : Tree) (h : (polyT t).2 = true) : (polyT t).1.length ≤ 60 := by
  obtain ⟨a, ps⟩ := t
  have hf : ∀ ts, fineB ts = true → ts.length ≤ 60 := by
    intro ts h
    simp only [fineB, Bool.and_eq_true, decide_eq_true_eq] at h
    exact h.2
  by_cases h0 : a = [48]
  · rw [polyT_0 (.mk a ps) h0]; simp
  by_cases h1 : a = [49]
  · rw [polyT_1 (.mk a ps) h1]; simp
  by_cases h2 : a = [120]
  · rw [polyT_x (.mk a ps) h2]; simp
  by_cases h3 : a = [121]
  · rw [polyT_y (.mk a ps) h3]; simp
  by_cases h4 : a = [122]
  · rw [polyT_z (.mk a ps) h4]; simp
  unfold polyT at h ⊢
  simp only [h0, h1, h2, h3, h4, if_false] at h ⊢
  split at h
  · rename_i x1 x2 x3
    by_cases hc : (!(polyT x2).2 || !(polyT x3).2) = true
    · rw [if_pos hc] at h; cases h
    · rw [if_neg hc] at h ⊢
      by_cases hq : x1.atom = [43]
      · rw [if_pos hq] at h ⊢; exact hf _ h
      · rw [if_neg hq] at h ⊢; exact hf _ h
  · simp

theorem l6pFine_tm (ts : List Tm) (o : Own) (hl : ts.length ≤ 1000000) (H : List HObj) : acall EA 28 [.slice (ts.map tmA) o] H = some (.bool (fineB ts), H) := l6pFine_eq ts o (by simp only [lim]; omega) H

/-- What a function hands back that returns a list of terms: it is full, or bears a token of its own. -/
def TokR (n : Nat) (own : Own) (H T : List HObj) : Prop := own = .full ∨ ∃ id, own = .tok id ∧ H.length ≤ id ∧ (H ++ T)[id]? = some (.top n 4)
def PolR (r : List Tm × Bool) (H : List HObj) (a : AV) (H' : List HObj) : Prop := ∃ own T, a = .tuple [.slice (r.1.map tmA) own, .bool r.2] ∧ H' = H ++ T ∧ TokR r.1.length own H T

set_option maxHeartbeats 2000000 in
theorem l6pPoly_ex (t : Tree) (hT : isT t = true) (hP : plainT t = true) (H : List HObj) : ∃ a H', acall EA 19 [embT t] H = some (a, H') ∧ PolR (polyT t) H a H' := by
  by_cases ha : t.atom = []
  · have h3 : t.parts.length = 3 := by
      rcases Nat.decEq t.parts.length 3 with q | q
      · rw [isT_ne t ha q] at hT; cases hT
      · exact q
    obtain ⟨x1, x2, x3, hp⟩ := parts_three _ h3
    rw [isT_three t x1 x2 x3 ha hp] at hT
    rw [plainT_three t x1 x2 x3 ha hp] at hP
    simp only [Bool.and_eq_true, Bool.not_eq_true', decide_eq_false_iff_not] at hP
    obtain ⟨⟨p1, p2⟩, p3⟩ := hP
    have hT' : (x1.atom = [43] ∨ x1.atom = [42]) ∧ isT x2 = true ∧ isT x3 = true := by
      split at hT
      · rename_i q; exact ⟨q, by simpa using hT⟩
      · first | cases hT | (rw [if_neg p1] at hT; cases hT)
    obtain ⟨hs, t2, t3⟩ := hT'
    have s2 := sizeOf_part (t := t) (q := x2) (by simp [hp])
    have s3 := sizeOf_part (t := t) (q := x3) (by simp [hp])
    have i2 := l6pPoly_ex x2 t2 p2
    have i3 := l6pPoly_ex x3 t3 p3
    have g2 := map_get embT t.parts 1 x2 (by simp [hp])
    have g3 := map_get embT t.parts 2 x3 (by simp [hp])
    have hd := head_three t x1 _ ha hp
    have hl2 := polyT_len x2
    have hl3 := polyT_len x3
    rw [polyT_three t x1 x2 x3 ha hp]
    clear hp hT s2 s3
    generalize polyT x2 = r2 at *
    generalize polyT x3 = r3 at *
    obtain ⟨a, b2⟩ := r2
    obtain ⟨b, b3⟩ := r3
    simp only at hl2 hl3 ⊢
    have a0 : ¬ t.atom = [48] := by rw [ha]; decide
    have a1 : ¬ t.atom = [49] := by rw [ha]; decide
    have a2 : ¬ t.atom = [120] := by rw [ha]; decide
    have a3 : ¬ t.atom = [121] := by rw [ha]; decide
    have a4 : ¬ t.atom = [122] := by rw [ha]; decide
    refine acall_ex (fn := Try.f19) rfl Try.func19 rfl rfl (by simp [Try.f19]) ?_
    simp +decide -implicitDefEqProofs (maxSteps := 999999) (disch := first | assumption | omega) only [go_sem, if_true, if_false, decide_true, decide_false, Int.reduceToNat, Nat.reduceAdd, Nat.reduceMul, Nat.reduceSub, Int.reduceAdd, Int.reduceSub, Int.reduceMul, Int.reduceNeg, embT_cells, embT_fold, g2]
    refine call_ex (i2 H) ?_
    rintro _ _ ⟨own2, T2, rfl, rfl, k2⟩
    simp +decide -implicitDefEqProofs (maxSteps := 999999) (disch := first | assumption | omega) only [go_sem, if_true, if_false, decide_true, decide_false, Int.reduceToNat, Nat.reduceAdd, Nat.reduceMul, Nat.reduceSub, Int.reduceAdd, Int.reduceSub, Int.reduceMul, Int.reduceNeg, g3, embT_cells, embT_fold]
    refine call_ex (i3 _) ?_
    rintro _ _ ⟨own3, T3, rfl, rfl, k3⟩
    simp +decide -implicitDefEqProofs (maxSteps := 999999) (disch := first | assumption | omega) only [go_sem, if_true, if_false, decide_true, decide_false, Int.reduceToNat, Nat.reduceAdd, Nat.reduceMul, Nat.reduceSub, Int.reduceAdd, Int.reduceSub, Int.reduceMul, Int.reduceNeg, embT_cells, embT_fold]
    have takeH : (H ++ T2 ++ T3).take H.length = H := by simp
    cases b2 with
    | false =>
      rcases k2 with rfl | ⟨id, rfl, hid, htop⟩
      · simp +decide -implicitDefEqProofs (maxSteps := 999999) (disch := first | assumption | omega) only [go_sem, if_true, if_false, decide_true, decide_false, Int.reduceToNat, Nat.reduceAdd, Nat.reduceMul, Nat.reduceSub, Int.reduceAdd, Int.reduceSub, Int.reduceMul, Int.reduceNeg, takeH, belowL_tm]
        exact ⟨.full, [], rfl, by simp, .inl rfl⟩
      · have hlt : id < (H ++ T2).length := (List.getElem?_eq_some_iff.1 htop).1
        have htop' : (H ++ T2 ++ T3)[id]? = some (.top a.length 4) := by rw [List.getElem?_append_left hlt]; exact htop
        have hn : ¬ id < H.length := by omega
        simp +decide -implicitDefEqProofs (maxSteps := 999999) (disch := first | assumption | omega) only [go_sem, if_true, if_false, decide_true, decide_false, Int.reduceToNat, Nat.reduceAdd, Nat.reduceMul, Nat.reduceSub, Int.reduceAdd, Int.reduceSub, Int.reduceMul, Int.reduceNeg, takeH, belowL_tm, htop', hn]
        exact ⟨.tok H.length, [.top a.length 4], rfl, rfl, .inr ⟨_, rfl, Nat.le_refl _, by simp⟩⟩
    | true =>
      cases b3 with
      | false =>
        rcases k2 with rfl | ⟨id, rfl, hid, htop⟩
        · simp +decide -implicitDefEqProofs (maxSteps := 999999) (disch := first | assumption | omega) only [go_sem, if_true, if_false, decide_true, decide_false, Int.reduceToNat, Nat.reduceAdd, Nat.reduceMul, Nat.reduceSub, Int.reduceAdd, Int.reduceSub, Int.reduceMul, Int.reduceNeg, takeH, belowL_tm]
          exact ⟨.full, [], rfl, by simp, .inl rfl⟩
        · have hlt : id < (H ++ T2).length := (List.getElem?_eq_some_iff.1 htop).1
          have htop' : (H ++ T2 ++ T3)[id]? = some (.top a.length 4) := by rw [List.getElem?_append_left hlt]; exact htop
          have hn : ¬ id < H.length := by omega
          simp +decide -implicitDefEqProofs (maxSteps := 999999) (disch := first | assumption | omega) only [go_sem, if_true, if_false, decide_true, decide_false, Int.reduceToNat, Nat.reduceAdd, Nat.reduceMul, Nat.reduceSub, Int.reduceAdd, Int.reduceSub, Int.reduceMul, Int.reduceNeg, takeH, belowL_tm, htop', hn]
          exact ⟨.tok H.length, [.top a.length 4], rfl, rfl, .inr ⟨_, rfl, Nat.le_refl _, by simp⟩⟩

      | true =>
        have hl2 := hl2 rfl
        have hl3 := hl3 rfl
        have hH2 : H.length ≤ (H ++ T2 ++ T3).length := by simp [Nat.add_assoc]
        generalize H ++ T2 ++ T3 = H2 at takeH hH2
        by_cases hx : x1.atom = [43]
        · simp +decide -implicitDefEqProofs (maxSteps := 999999) (disch := first | assumption | omega) only [go_sem, if_true, if_false, decide_true, decide_false, Int.reduceToNat, Nat.reduceAdd, Nat.reduceMul, Nat.reduceSub, Int.reduceAdd, Int.reduceSub, Int.reduceMul, Int.reduceNeg, embT_cells, embT_fold, l1Head_eq, hd, Sz_tm, lim]
          refine wp_loop (α := Nat) (fun i => b.length - i) (fun i σ => Holds (fun σ => ∃ G id own, σ.t 6 = .v (.slice (b.map tmA) own) ∧ σ.t 8 = .v (.slice (((b.take i).foldl addTm a).map tmA) (.tok id)) ∧ σ.t 9 = .v (.int .i64 (i : Int)) ∧ σ.H = G ∧ i ≤ b.length ∧
            G.take H.length = H ∧ H.length ≤ id ∧ G[id]? = some (.top ((b.take i).foldl addTm a).length 4) ∧ H.length ≤ G.length) σ) ?_ 0 _ ?_
          · rintro i ⟨t', L, H'⟩ ⟨G, id, own, e6, e8, e9, hH, hi, q1, q2, q3, q4⟩
            simp only at e6 e8 e9 hH
            subst hH
            by_cases hlt : i < b.length
            · have hg : (b.map tmA)[i]? = some (tmA b[i]) := by simp [hlt]
              have hadd := l6pAdd_eq ((b.take i).foldl addTm a) b[i] (.tok id) H' (by have := fold_len (b.take i) a; simp at this; omega)
              simp +decide -implicitDefEqProofs (maxSteps := 999999) (disch := first | assumption | omega) only [go_sem, if_true, if_false, decide_true, decide_false, Int.reduceToNat, Nat.reduceAdd, Nat.reduceMul, Nat.reduceSub, Int.reduceAdd, Int.reduceSub, Int.reduceMul, Int.reduceNeg, e6, e8, e9, hg, tmA_cells, tmA_fold, hadd]
              exact ⟨i + 1, by omega, .mk ⟨H' ++ [.top (addTm ((b.take i).foldl addTm a) b[i]).length 4], H'.length, own, e6, by rw [fold_succ _ _ _ hlt]; rfl, rfl, rfl, by omega, by rw [List.take_append_of_le_length q4]; exact q1, q4, by rw [fold_succ _ _ _ hlt]; simp, by simp; omega⟩⟩
            · obtain rfl : i = b.length := by omega
              rw [List.take_length] at e8 q3
              have hf := l6pFine_tm (b.foldl addTm a) (.tok id) (by have := fold_len b a; omega) H'
              have hn : ¬ id < H.length := by omega
              simp +decide -implicitDefEqProofs (maxSteps := 999999) (disch := first | assumption | omega) only [go_sem, if_true, if_false, decide_true, decide_false, Int.reduceToNat, Nat.reduceAdd, Nat.reduceMul, Nat.reduceSub, Int.reduceAdd, Int.reduceSub, Int.reduceMul, Int.reduceNeg, e6, e8, e9, hf, q1, q3, hn, belowL_tm, hx]
              exact ⟨.tok H.length, [.top (b.foldl addTm a).length 4], rfl, rfl, .inr ⟨_, rfl, Nat.le_refl _, by simp⟩⟩
          · exact .mk ⟨H2 ++ [.top a.length 4], H2.length, own3, rfl, rfl, rfl, rfl, by omega, by rw [List.take_append_of_le_length hH2]; exact takeH, hH2, by simp, by simp; omega⟩
        · simp +decide -implicitDefEqProofs (maxSteps := 999999) (disch := first | assumption | omega) only [go_sem, if_true, if_false, decide_true, decide_false, Int.reduceToNat, Nat.reduceAdd, Nat.reduceMul, Nat.reduceSub, Int.reduceAdd, Int.reduceSub, Int.reduceMul, Int.reduceNeg, embT_cells, embT_fold, l1Head_eq, hd, Sz_tm, lim]
          refine wp_loop (α := Nat) (fun i => a.length - i) (fun i σ => Holds (fun σ => ∃ G id own own2, σ.t 4 = .v (.slice (a.map tmA) own2) ∧ σ.t 6 = .v (.slice (b.map tmA) own) ∧ σ.t 8 = .v (.slice (((a.take i).foldl (fun out s => mulRow s b out) []).map tmA) (.tok id)) ∧ σ.t 10 = .v (.int .i64 (i : Int)) ∧ σ.H = G ∧ i ≤ a.length ∧
            G.take H.length = H ∧ H.length ≤ id ∧ G[id]? = some (.top ((a.take i).foldl (fun out s => mulRow s b out) []).length 4) ∧ H.length ≤ G.length) σ) ?_ 0 _ ?_
          · rintro i ⟨t', L, H'⟩ ⟨G, id, own, own2, e4, e6, e8, e10, hH, hi, q1, q2, q3, q4⟩
            simp only at e4 e6 e8 e10 hH
            subst hH
            by_cases hlt : i < a.length
            · have hg : (a.map tmA)[i]? = some (tmA a[i]) := by simp [hlt]
              have hla := mulFold_len (a.take i) b []
              have hla2 : (a.take i).length * b.length ≤ 60 * 60 := Nat.mul_le_mul (by simp; omega) hl3
              simp only [List.length_nil] at hla
              have hsucc := mulFold_succ a b [] i hlt
              generalize (a.take i).foldl (fun out s => mulRow s b out) [] = base at *
              simp +decide -implicitDefEqProofs (maxSteps := 999999) (disch := first | assumption | omega) only [go_sem, if_true, if_false, decide_true, decide_false, Int.reduceToNat, Nat.reduceAdd, Nat.reduceMul, Nat.reduceSub, Int.reduceAdd, Int.reduceSub, Int.reduceMul, Int.reduceNeg, e4, e6, e8, e10]
              refine wp_loop (α := Nat) (fun k => b.length - k) (fun k σ => Holds (fun σ => ∃ G id own own2, σ.t 4 = .v (.slice (a.map tmA) own2) ∧ σ.t 6 = .v (.slice (b.map tmA) own) ∧ σ.t 8 = .v (.slice ((mulRow a[i] (b.take k) base).map tmA) (.tok id)) ∧ σ.t 10 = .v (.int .i64 (i : Int)) ∧ σ.t 11 = .v (.int .i64 (k : Int)) ∧ σ.H = G ∧ k ≤ b.length ∧
                G.take H.length = H ∧ H.length ≤ id ∧ G[id]? = some (.top (mulRow a[i] (b.take k) base).length 4) ∧ H.length ≤ G.length) σ) ?_ 0 _ ?_
              · rintro k ⟨t', L, H'⟩ ⟨G, id, own, own2, e4, e6, e8, e10, e11, hH, hk, q1, q2, q3, q4⟩
                simp only at e4 e6 e8 e10 e11 hH
                subst hH
                by_cases hlt2 : k < b.length
                · have hg2 : (b.map tmA)[k]? = some (tmA b[k]) := by simp [hlt2]
                  have hadd := l6pAdd_eq (mulRow a[i] (b.take k) base) (mulT a[i] b[k]) (.tok id) H' (by have := mulRow_len a[i] (b.take k) base; simp at this; omega)
                  have hm : AV.agg [.int .i64 (if IntKind.i64.wrap (a[i].c * b[k].c) < 1000000001 then IntKind.i64.wrap (a[i].c * b[k].c) else 1000000001), .int .i64 (IntKind.i64.wrap (a[i].x + b[k].x)), .int .i64 (IntKind.i64.wrap (a[i].y + b[k].y)), .int .i64 (IntKind.i64.wrap (a[i].z + b[k].z))] = tmA (mulT a[i] b[k]) := rfl
                  simp +decide -implicitDefEqProofs (maxSteps := 999999) (disch := first | assumption | omega) only [go_sem, if_true, if_false, decide_true, decide_false, Int.reduceToNat, Nat.reduceAdd, Nat.reduceMul, Nat.reduceSub, Int.reduceAdd, Int.reduceSub, Int.reduceMul, Int.reduceNeg, e4, e6, e8, e10, e11, hg, hg2, tmA_cells, tmA_fold, hm, hadd]
                  exact ⟨k + 1, by omega, .mk ⟨H' ++ [.top (addTm (mulRow a[i] (b.take k) base) (mulT a[i] b[k])).length 4], H'.length, own, own2, e4, e6, by rw [mulRow_succ _ _ _ _ hlt2]; rfl, e10, rfl, rfl, by omega, by rw [List.take_append_of_le_length q4]; exact q1, q4, by rw [mulRow_succ _ _ _ _ hlt2]; simp, by simp; omega⟩⟩
                · obtain rfl : k = b.length := by omega
                  rw [List.take_length] at e8 q3
                  simp +decide -implicitDefEqProofs (maxSteps := 999999) (disch := first | assumption | omega) only [go_sem, if_true, if_false, decide_true, decide_false, Int.reduceToNat, Nat.reduceAdd, Nat.reduceMul, Nat.reduceSub, Int.reduceAdd, Int.reduceSub, Int.reduceMul, Int.reduceNeg, e4, e6, e8, e10, e11]
                  exact ⟨i + 1, by omega, .mk ⟨H', id, own, own2, e4, e6, by rw [hsucc]; exact e8, rfl, rfl, by omega, q1, q2, by rw [hsucc]; exact q3, q4⟩⟩
              · exact .mk ⟨_, id, own, own2, e4, e6, e8, e10, rfl, rfl, by omega, q1, q2, q3, q4⟩
            · obtain rfl : i = a.length := by omega
              rw [List.take_length] at e8 q3
              have hla := mulFold_len a b []
              have hla2 : a.length * b.length ≤ 60 * 60 := Nat.mul_le_mul hl2 hl3
              simp only [List.length_nil] at hla
              have hf := l6pFine_tm (mulTm a b) (.tok id) (by unfold mulTm; omega) H'
              have hn : ¬ id < H.length := by omega
              unfold mulTm at hf ⊢
              simp +decide -implicitDefEqProofs (maxSteps := 999999) (disch := first | assumption | omega) only [go_sem, if_true, if_false, decide_true, decide_false, Int.reduceToNat, Nat.reduceAdd, Nat.reduceMul, Nat.reduceSub, Int.reduceAdd, Int.reduceSub, Int.reduceMul, Int.reduceNeg, e4, e6, e8, e10, hf, q1, q3, hn, belowL_tm, hx]
              exact ⟨.tok H.length, [.top _ 4], rfl, rfl, .inr ⟨_, rfl, Nat.le_refl _, by simp⟩⟩
          · exact .mk ⟨H2 ++ [.top 0 4], H2.length, own3, own2, rfl, rfl, rfl, rfl, rfl, by omega, by rw [List.take_append_of_le_length hH2]; exact takeH, hH2, by simp, by simp; omega⟩
  · rw [plainT_atom t ha] at hP
    refine acall_ex (fn := Try.f19) rfl Try.func19 rfl rfl (by simp [Try.f19]) ?_
    simp +decide -implicitDefEqProofs (maxSteps := 999999) (disch := first | assumption | omega) only [go_sem, if_true, if_false, decide_true, decide_false, Int.reduceToNat, Nat.reduceAdd, Nat.reduceMul, Nat.reduceSub, Int.reduceAdd, Int.reduceSub, Int.reduceMul, Int.reduceNeg, embT_cells, embT_fold]
    (iterate 5 (try (any_goals (first | ((first | refine condK_P ?_ ?_ | refine condK_N ?_ ?_ | refine gdK_P ?_ ?_ | refine gdK_N ?_ ?_ | refine gdR_P ?_ ?_ | refine gdR_N ?_ ?_) <;> intro hc <;> (try simp +decide -implicitDefEqProofs (maxSteps := 999999) (disch := first | assumption | omega) only [go_sem, if_true, if_false, decide_true, decide_false, Int.reduceToNat, Nat.reduceAdd, Nat.reduceMul, Nat.reduceSub, Int.reduceAdd, Int.reduceSub, Int.reduceMul, Int.reduceNeg, embT_cells, embT_fold, belowL, below, norm, frz, normL, frzL])) | ((first | refine condK_B ?_ ?_ | refine gdK_B ?_ ?_ | refine gdR_B ?_ ?_) <;> intro hc <;> (try simp +decide -implicitDefEqProofs (maxSteps := 999999) (disch := first | assumption | omega) only [go_sem, if_true, if_false, decide_true, decide_false, Int.reduceToNat, Nat.reduceAdd, Nat.reduceMul, Nat.reduceSub, Int.reduceAdd, Int.reduceSub, Int.reduceMul, Int.reduceNeg, embT_cells, embT_fold, belowL, below, norm, frz, normL, frzL, hc]))))))
    · rw [polyT_0 t (by assumption)]; exact ⟨.full, [], rfl, by simp, .inl rfl⟩
    · rw [polyT_1 t (by assumption)]; exact ⟨.full, [], rfl, by simp, .inl rfl⟩
    · rw [polyT_x t (by assumption)]; exact ⟨.full, [], rfl, by simp, .inl rfl⟩
    · rw [polyT_y t (by assumption)]; exact ⟨.full, [], rfl, by simp, .inl rfl⟩
    · rw [polyT_z t (by assumption)]; exact ⟨.full, [], rfl, by simp, .inl rfl⟩
    · simp_all
  termination_by SizeOf.sizeOf t
end Go.Proofs.Ytnjaagfhaooapaa.Eng
