/- WALK 1: small numbers, the reader of codes. -/
import Derived.Test.YtnjaagfhaooapaaD1
import Derived.Test.YtnjaagfhaooapaaE33
namespace Go.Proofs.Ytnjaagfhaooapaa.Eng
set_option linter.unusedVariables false
set_option linter.unusedSimpArgs false
set_option linter.unnecessarySimpa false
set_option linter.constructorNameAsVariable false
open Go
set_option maxRecDepth 100000

theorem l6In_eq (a b c : Int) (H : List HObj) : acall EA 12 [.int .i64 a, .int .i64 b, .int .i64 c] H = some (.bool (decide (b ≤ a) && decide (a ≤ c)), H) := by
  refine acall_is (fn := Try.f12) rfl Try.func12 rfl rfl (by simp [Try.f12]) ?_
  by_cases h : b ≤ a <;> simp (maxSteps := 2000000) (implicitDefEqProofs := false) (decide := true) only [go_sem, h]

/-- The order of terms, of the reference. -/
def beforeB (x y z x' y' z' : Int) : Bool := if x = x' then (if y = y' then decide (z' < z) else decide (y' < y)) else decide (x' < x)

theorem l6pBefore_eq (c x y z c' x' y' z' : Int) (H : List HObj) : acall EA 17 [.agg [.int .i64 c, .int .i64 x, .int .i64 y, .int .i64 z], .agg [.int .i64 c', .int .i64 x', .int .i64 y', .int .i64 z']] H =
   some (.bool (beforeB x y z x' y' z'), H) := by
  refine acall_is (fn := Try.f17) rfl Try.func17 rfl rfl (by simp [Try.f17]) ?_
  by_cases h : x = x' <;> by_cases h' : y = y' <;> simp (maxSteps := 2000000) (implicitDefEqProofs := false) (decide := true) only [go_sem, h, h', beforeB]

theorem l6Open_eq (l : List AV) (o : Own) (hl : Sz 1 l) (H : List HObj) : acall EA 7 [.slice l o] H = some (.ref H.length 0, H ++ [.cells [if 2000 < l.length then .slice (l.take 2000) .view else .slice l o, .int .i64 0]]) := by
  refine acall_is (fn := Try.f7) rfl Try.func7 rfl rfl (by simp [Try.f7]) ?_
  by_cases h : (2000 : Int) < (l.length : Int)
  · have h' : 2000 < l.length := by omega
    have h2 : (2000 : Int) ≤ (l.length : Int) := by omega
    simp (maxSteps := 2000000) (implicitDefEqProofs := false) (decide := true) only [go_sem, h, h', hl, h2]
    rfl
  · have h' : ¬ 2000 < l.length := by omega
    simp (maxSteps := 2000000) (implicitDefEqProofs := false) (decide := true) only [go_sem, h, h', hl]

def byA (b : UInt8) : AV := .int .u8 b.toNat
theorem bget (bs : List UInt8) (k : Int) (h0 : 0 ≤ k) (h1 : k < (bs.map byA).length) : ∃ b : UInt8, (bs.map byA)[k.toNat]? = some (byA b) := by
  obtain ⟨m, rfl⟩ := Int.eq_ofNat_of_zero_le h0
  have h : m < bs.length := by simpa using h1
  exact ⟨bs[m], by simp [h]⟩

theorem tmod_lt' (a b : Int) (ha : 0 ≤ a) (hb : 0 < b) : 0 ≤ a.tmod b ∧ a.tmod b < b := by
  rw [Int.tmod_eq_emod_of_nonneg ha]
  exact ⟨Int.emod_nonneg _ (by omega), Int.emod_lt_of_pos _ hb⟩

theorem xor_nonneg (a b : Int) (ha : 0 ≤ a) (ha' : a < 4611686018427387904) (hb : 0 ≤ b) (hb' : b < 4611686018427387904) : 0 ≤ IntKind.i64.wrap ((BitVec.ofInt 64 a ^^^ BitVec.ofInt 64 b).toNat : Int) := by
  obtain ⟨m, rfl⟩ := Int.eq_ofNat_of_zero_le ha
  obtain ⟨k, rfl⟩ := Int.eq_ofNat_of_zero_le hb
  have e : (BitVec.ofInt 64 (m : Int) ^^^ BitVec.ofInt 64 (k : Int)).toNat = m ^^^ k := by
    rw [BitVec.toNat_xor, BitVec.toNat_ofInt, BitVec.toNat_ofInt]
    have : (((m : Int) % ((2 ^ 64 : Nat) : Int)).toNat = m) := by omega
    rw [this]
    have : (((k : Int) % ((2 ^ 64 : Nat) : Int)).toNat = k) := by omega
    rw [this]
  rw [e]
  have : m ^^^ k < 2 ^ 62 := Nat.xor_lt_two_pow (by omega) (by omega)
  rw [wrap64] <;> omega

theorem pick_ok (id : Nat) (p n : Int) (bs : List UInt8) (o : Own) (H : List HObj) (hH : H[id]? = some (.cells [.slice (bs.map byA) o, .int .i64 p])) (hb : bs.length ≤ 2000) (hp : 0 ≤ p) (hp2 : p ≤ 1000000) (hn : 1 ≤ n) (hn2 : n ≤ 1000000) :
    ∃ a H', acall EA 9 [.ref id 0, .int .i64 n] H = some (a, H') ∧ (∃ m : Int, a = .int .i64 m ∧ 0 ≤ m ∧ m < n) ∧ H' = H.set id (.cells [.slice (bs.map byA) o, .int .i64 (p+1)]) := by
  refine acall_ex (fn := Try.f9) rfl Try.func9 rfl rfl (by simp [Try.f9]) ?_
  have hid : id < H.length := (List.getElem?_eq_some_iff.1 hH).1
  by_cases h2 : bs.length = 0
  · simp +decide -implicitDefEqProofs (maxSteps := 999999) (disch := first | assumption | omega) only [go_sem, if_true, if_false, decide_true, decide_false, Int.reduceToNat, Nat.reduceAdd, Nat.reduceMul, Nat.reduceSub, Int.reduceAdd, Int.reduceSub, Int.reduceMul, Int.reduceNeg, hH, hid]
    exact ⟨0, rfl, by omega, by omega⟩
  · by_cases h4 : p < (bs.length : Int)
    · obtain ⟨b, hb⟩ := bget bs p hp (by simpa using h4)
      have := UInt8.toNat_lt b
      simp +decide -implicitDefEqProofs (maxSteps := 999999) (disch := first | assumption | omega) only [go_sem, if_true, if_false, decide_true, decide_false, Int.reduceToNat, Nat.reduceAdd, Nat.reduceMul, Nat.reduceSub, Int.reduceAdd, Int.reduceSub, Int.reduceMul, Int.reduceNeg, hH, hid, hb, byA]
      exact ⟨_, rfl, tmod_lt' _ _ (by omega) (by omega)⟩
    · have hm1 := tmod_lt' p bs.length hp (by omega)
      have hm2 := tmod_lt' (p * 7 + 3) bs.length (by omega) (by omega)
      obtain ⟨b1, hb1⟩ := bget bs _ hm1.1 (by simpa using hm1.2)
      obtain ⟨b2, hb2⟩ := bget bs _ hm2.1 (by simpa using hm2.2)
      have l1 := UInt8.toNat_lt b1
      have l2 := UInt8.toNat_lt b2
      obtain ⟨hm1a, hm1b⟩ := hm1
      obtain ⟨hm2a, hm2b⟩ := hm2
      have e1 : p.tdiv (bs.length : Int) = p / (bs.length : Int) := Int.tdiv_eq_ediv_of_nonneg hp
      have q1 : 0 ≤ p / (bs.length : Int) := Int.ediv_nonneg hp (by omega)
      have q2 : p / (bs.length : Int) ≤ p := Int.ediv_le_self _ hp
      have e2 : (((b1.toNat : Int) * 131 + (b2.toNat : Int) * 1117 + p * 29 + p / (bs.length : Int) * 53).tdiv 64) = ((b1.toNat : Int) * 131 + (b2.toNat : Int) * 1117 + p * 29 + p / (bs.length : Int) * 53) / 64 := Int.tdiv_eq_ediv_of_nonneg (by omega)
      have x1 := xor_nonneg ((b1.toNat : Int) * 131 + (b2.toNat : Int) * 1117 + p * 29 + p / (bs.length : Int) * 53) (((b1.toNat : Int) * 131 + (b2.toNat : Int) * 1117 + p * 29 + p / (bs.length : Int) * 53) / 64) (by omega) (by omega) (by omega) (by omega)
      simp +decide -implicitDefEqProofs (maxSteps := 999999) (disch := first | assumption | omega) only [go_sem, if_true, if_false, decide_true, decide_false, Int.reduceToNat, Nat.reduceAdd, Nat.reduceMul, Nat.reduceSub, Int.reduceAdd, Int.reduceSub, Int.reduceMul, Int.reduceNeg, hH, hid, hb1, hb2, byA, e1, e2]
      exact ⟨_, rfl, tmod_lt' _ _ x1 (by omega)⟩
def atomB (c : Int) : Bool := (decide (97 ≤ c) && decide (c ≤ 122)) || (decide (48 ≤ c) && decide (c ≤ 57)) || decide (c = 42) || decide (c = 43)
theorem l1Byte_eq (c : Int) (H : List HObj) : acall EA 39 [.int .u8 c] H = some (.bool (atomB c), H) := by
  refine acall_is (fn := Try.f39) rfl Try.func39 rfl rfl (by simp [Try.f39]) ?_
  simp +decide -implicitDefEqProofs (maxSteps := 999999) (disch := first | assumption | omega) only [go_sem, if_true, if_false, decide_true, decide_false, Int.reduceToNat, Nat.reduceAdd, Nat.reduceMul, Nat.reduceSub, Int.reduceAdd, Int.reduceSub, Int.reduceMul, Int.reduceNeg]
  (iterate 6 (try (any_goals (first | ((first | refine condK_P ?_ ?_ | refine condK_N ?_ ?_ | refine gdK_P ?_ ?_ | refine gdK_N ?_ ?_ | refine gdR_P ?_ ?_ | refine gdR_N ?_ ?_) <;> intro hc <;> (try simp +decide -implicitDefEqProofs (maxSteps := 999999) (disch := first | assumption | omega) only [go_sem, if_true, if_false, decide_true, decide_false, Int.reduceToNat, Nat.reduceAdd, Nat.reduceMul, Nat.reduceSub, Int.reduceAdd, Int.reduceSub, Int.reduceMul, Int.reduceNeg, atomB])) | ((first | refine condK_B ?_ ?_ | refine gdK_B ?_ ?_ | refine gdR_B ?_ ?_) <;> intro hc <;> (try simp +decide -implicitDefEqProofs (maxSteps := 999999) (disch := first | assumption | omega) only [go_sem, if_true, if_false, decide_true, decide_false, Int.reduceToNat, Nat.reduceAdd, Nat.reduceMul, Nat.reduceSub, Int.reduceAdd, Int.reduceSub, Int.reduceMul, Int.reduceNeg, atomB, hc]))))))
  all_goals (simp [atomB]; omega)

structure Tm where
  c : Int
  x : Int
  y : Int
  z : Int
def tmA (t : Tm) : AV := .agg [.int .i64 t.c, .int .i64 t.x, .int .i64 t.y, .int .i64 t.z]
@[go_sem] theorem tmA_cells (t : Tm) : (tmA t).cells = [.int .i64 t.c, .int .i64 t.x, .int .i64 t.y, .int .i64 t.z] := rfl

theorem l6pFine_eq (ts : List Tm) (o : Own) (hl : (ts.length : Int) ≤ lim) (H : List HObj) : acall EA 28 [.slice (ts.map tmA) o] H = some (.bool (ts.all (fun t => decide (t.c ≤ 1000000000)) && decide (ts.length ≤ 60)), H) := by
  refine acall_is (fn := Try.f28) rfl Try.func28 rfl rfl (by simp [Try.f28]) ?_
  simp only [lim] at hl
  simp +decide -implicitDefEqProofs (maxSteps := 999999) (disch := first | assumption | omega) only [go_sem, if_true, if_false, decide_true, decide_false, Int.reduceToNat, Nat.reduceAdd, Nat.reduceMul, Nat.reduceSub, Int.reduceAdd, Int.reduceSub, Int.reduceMul, Int.reduceNeg]
  refine wp_loop (α := Nat) (fun i => ts.length - i) (fun i σ => σ.t 0 = .v (.slice (ts.map tmA) o) ∧ σ.t 3 = .v (.int .i64 (i : Int)) ∧ σ.H = H ∧ i ≤ ts.length ∧ ∀ j (h : j < ts.length), j < i → ts[j].c ≤ 1000000000) ?_ 0 _ ⟨rfl, rfl, rfl, by omega, fun j _ h => by omega⟩
  rintro i ⟨t, L, H'⟩ ⟨h0, h3, hH, hi, hq⟩
  simp only at h0 h3 hH
  subst hH
  by_cases hlt : i < ts.length
  · have hg : (ts.map tmA)[i]? = some (tmA ts[i]) := by simp [hlt]
    by_cases hc : 1000000000 < ts[i].c
    · simp +decide -implicitDefEqProofs (maxSteps := 999999) (disch := first | assumption | omega) only [go_sem, if_true, if_false, decide_true, decide_false, Int.reduceToNat, Nat.reduceAdd, Nat.reduceMul, Nat.reduceSub, Int.reduceAdd, Int.reduceSub, Int.reduceMul, Int.reduceNeg, h0, h3, hg]
      have : (ts.all fun t => decide (t.c ≤ 1000000000)) = false := by
        rw [List.all_eq_false]
        exact ⟨ts[i], List.getElem_mem hlt, by simp; omega⟩
      rw [this]; rfl
    · simp +decide -implicitDefEqProofs (maxSteps := 999999) (disch := first | assumption | omega) only [go_sem, if_true, if_false, decide_true, decide_false, Int.reduceToNat, Nat.reduceAdd, Nat.reduceMul, Nat.reduceSub, Int.reduceAdd, Int.reduceSub, Int.reduceMul, Int.reduceNeg, h0, h3, hg]
      refine ⟨i + 1, by omega, rfl, by omega, fun j hj hji => ?_⟩
      rcases Nat.lt_or_ge j i with q | q
      · exact hq j hj q
      · have : j = i := by omega
        subst this; omega
  · have : (ts.all fun t => decide (t.c ≤ 1000000000)) = true := by
      rw [List.all_eq_true]
      intro x hx
      obtain ⟨j, hj, rfl⟩ := List.getElem_of_mem hx
      simpa using hq j hj (by omega)
    simp +decide -implicitDefEqProofs (maxSteps := 999999) (disch := first | assumption | omega) only [go_sem, if_true, if_false, decide_true, decide_false, Int.reduceToNat, Nat.reduceAdd, Nat.reduceMul, Nat.reduceSub, Int.reduceAdd, Int.reduceSub, Int.reduceMul, Int.reduceNeg, h0, h3, this]
    simp
    omega

end Go.Proofs.Ytnjaagfhaooapaa.Eng
