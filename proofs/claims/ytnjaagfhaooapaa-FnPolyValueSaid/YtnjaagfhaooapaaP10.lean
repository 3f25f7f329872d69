/- WALK 10: the reader; texts that are drawn. -/
import Derived.Test.YtnjaagfhaooapaaP9
namespace Go.Proofs.Ytnjaagfhaooapaa.Eng
set_option linter.unusedVariables false
set_option linter.unusedSimpArgs false
set_option linter.unnecessarySimpa false
set_option linter.constructorNameAsVariable false
open Go
set_option maxRecDepth 100000

theorem call_ex {o : Option (AV × List HObj)} {P : AV → List HObj → Prop} {kk : AV × List HObj → Option Out} {KK : Out → Prop} (h : ∃ a H', o = some (a, H') ∧ P a H') (g : ∀ a H', P a H' → optK (bindK (some (a, H')) kk) KK) : optK (bindK o kk) KK := by
  obtain ⟨a, H', rfl, hp⟩ := h
  exact g a H' hp

/-- The heap with the reader at place p. -/
def rdH (H : List HObj) (id : Nat) (bs : List UInt8) (o : Own) (p : Int) : List HObj := H.set id (.cells [.slice (bs.map byA) o, .int .i64 p])
@[go_sem] theorem rdH_len (H : List HObj) (id : Nat) (bs : List UInt8) (o : Own) (p : Int) : (rdH H id bs o p).length = H.length := by simp [rdH]
@[go_sem] theorem rdH_take (H : List HObj) (id : Nat) (bs : List UInt8) (o : Own) (p : Int) : (rdH H id bs o p).take H.length = rdH H id bs o p := List.take_of_length_le (by simp [rdH])
/-- A reader that can go on for k more. -/
structure Rd (H : List HObj) (id : Nat) (bs : List UInt8) (p : Int) (k : Int) : Prop where
  id : id < H.length
  bs : bs.length ≤ 2000
  lo : 0 ≤ p
  hi : p + k ≤ 1000000

def PickR (H : List HObj) (id : Nat) (bs : List UInt8) (o : Own) (p n : Int) (a : AV) (H' : List HObj) : Prop := ∃ m : Int, a = .int .i64 m ∧ 0 ≤ m ∧ m < n ∧ H' = rdH H id bs o (p + 1)

/-- A text that is drawn: at most N bytes, at most k steps of the reader. -/
def StrR (N : Nat) (k : Int) (H : List HObj) (id : Nat) (bs : List UInt8) (o : Own) (p : Int) (a : AV) (H' : List HObj) : Prop := ∃ (s : List UInt8) (p' : Int), a = .str s ∧ s.length ≤ N ∧ p ≤ p' ∧ p' ≤ p + k ∧ H' = rdH H id bs o p'

theorem pick_rd {H : List HObj} {id : Nat} {bs : List UInt8} {o : Own} {p n : Int} (h : Rd H id bs p 0) (hn : 1 ≤ n) (hn2 : n ≤ 1000000) :
    ∃ a H', acall EA 9 [.ref id 0, .int .i64 n] (rdH H id bs o p) = some (a, H') ∧ PickR H id bs o p n a H' := by
  obtain ⟨h1, h2, h3, h4⟩ := h
  obtain ⟨a, H', e1, ⟨m, e2, e3, e4⟩, e5⟩ := pick_ok id p n bs o (rdH H id bs o p) (by simp [rdH, h1]) h2 h3 (by omega) hn hn2
  exact ⟨a, H', e1, m, e2, e3, e4, by rw [e5]; simp [rdH]⟩

/-- Texts of a length of at most N. -/
def strsOk (N : Nat) : List AV → Bool
  | [] => true
  | .str s :: l => decide (s.length ≤ N) && strsOk N l
  | _ => false
theorem strsOk_get {N : Nat} : ∀ {l : List AV} {i : Nat} {a : AV}, strsOk N l = true → l[i]? = some a → ∃ s, a = .str s ∧ s.length ≤ N
  | [], i, a, h, e => by simp at e
  | .str s :: l, 0, a, h, e => by
    simp at e; subst e
    simp only [strsOk, Bool.and_eq_true, decide_eq_true_eq] at h
    exact ⟨s, rfl, h.1⟩
  | .str s :: l, i + 1, a, h, e => by
    simp only [strsOk, Bool.and_eq_true] at h
    exact strsOk_get h.2 (by simpa using e)
  | .any :: l, i, a, h, e | .int _ _ :: l, i, a, h, e | .bool _ :: l, i, a, h, e | .nilp :: l, i, a, h, e | .agg _ :: l, i, a, h, e | .tuple _ :: l, i, a, h, e | .ptr _ _ _ :: l, i, a, h, e | .slice _ _ :: l, i, a, h, e | .ref _ _ :: l, i, a, h, e | .vec _ _ :: l, i, a, h, e | .func _ _ :: l, i, a, h, e | .map _ :: l, i, a, h, e => by simp [strsOk] at h

theorem of_rd (N : Nat) {H : List HObj} {id : Nat} {bs : List UInt8} {o : Own} {p : Int} {es : List AV} {own : Own} (h : Rd H id bs p 0) (hs : strsOk N es = true) (h0 : es.length ≠ 0) (h1 : es.length ≤ 1000) :
    ∃ a H', acall EA 20 [.ref id 0, .slice es own] (rdH H id bs o p) = some (a, H') ∧ StrR N 1 H id bs o p a H' := by
  refine acall_ex (fn := Try.f20) rfl Try.func20 rfl rfl (by simp [Try.f20]) ?_
  simp +decide -implicitDefEqProofs (maxSteps := 999999) (disch := first | assumption | omega) only [go_sem, if_true, if_false, decide_true, decide_false, Int.reduceToNat, Nat.reduceAdd, Nat.reduceMul, Nat.reduceSub, Int.reduceAdd, Int.reduceSub, Int.reduceMul, Int.reduceNeg]
  refine call_ex (pick_rd h (by omega) (by omega)) ?_
  rintro _ _ ⟨m, rfl, m0, m1, rfl⟩
  have hm : m.toNat < es.length := by omega
  obtain ⟨s, hs1, hs2⟩ := strsOk_get hs (List.getElem?_eq_getElem hm)
  have hg : es[m.toNat]? = some (.str s) := by rw [List.getElem?_eq_getElem hm, hs1]
  simp +decide -implicitDefEqProofs (maxSteps := 999999) (disch := first | assumption | omega) only [go_sem, if_true, if_false, decide_true, decide_false, Int.reduceToNat, Nat.reduceAdd, Nat.reduceMul, Nat.reduceSub, Int.reduceAdd, Int.reduceSub, Int.reduceMul, Int.reduceNeg, hg]
  exact ⟨s, _, rfl, hs2, by omega, by omega, rfl⟩

theorem l91Known_rd {H : List HObj} {id : Nat} {bs : List UInt8} {o : Own} {p : Int} (h : Rd H id bs p 0) :
    ∃ a H', acall EA 29 [.ref id 0] (rdH H id bs o p) = some (a, H') ∧ StrR 60 1 H id bs o p a H' := by
  refine acall_ex (fn := Try.f29) rfl Try.func29 rfl rfl (by simp [Try.f29]) ?_
  simp +decide -implicitDefEqProofs (maxSteps := 999999) (disch := first | assumption | omega) only [go_sem, if_true, if_false, decide_true, decide_false, Int.reduceToNat, Nat.reduceAdd, Nat.reduceMul, Nat.reduceSub, Int.reduceAdd, Int.reduceSub, Int.reduceMul, Int.reduceNeg]
  refine call_ex (of_rd 60 h (by decide) (by decide) (by decide)) ?_
  rintro _ _ ⟨s, p1, rfl, hs, q1, q2, rfl⟩
  simp +decide -implicitDefEqProofs (maxSteps := 999999) (disch := first | assumption | omega) only [go_sem, if_true, if_false, decide_true, decide_false, Int.reduceToNat, Nat.reduceAdd, Nat.reduceMul, Nat.reduceSub, Int.reduceAdd, Int.reduceSub, Int.reduceMul, Int.reduceNeg]
  exact ⟨s, _, rfl, hs, by omega, by omega, rfl⟩

theorem l1With_eq (es : List AV) (own : Own) (s : List UInt8) (H : List HObj) (h1 : es.length ≤ 1000000) (hs : Sz 1 es) (hb : belowL H.length es = true) : acall EA 35 [.slice es own, .str s] H = some (.slice (es ++ [.str s]) .view, H) := by
  refine acall_is (fn := Try.f35) rfl Try.func35 rfl rfl (by simp [Try.f35]) ?_
  simp +decide -implicitDefEqProofs (maxSteps := 999999) (disch := first | assumption | omega) only [go_sem, if_true, if_false, decide_true, decide_false, Int.reduceToNat, Nat.reduceAdd, Nat.reduceMul, Nat.reduceSub, Int.reduceAdd, Int.reduceSub, Int.reduceMul, Int.reduceNeg, lim, hs, belowL_app, hb]

def ShapeOk (d : Nat) (N : Nat) (k : Int) : Prop := ∀ {H : List HObj} {id : Nat} {bs : List UInt8} {o own : Own} {p : Int} {es : List AV}, Rd H id bs p k → strsOk 2 es = true → es.length + d ≤ 100 → belowL H.length es = true → Sz 1 es →
    ∃ a H', acall EA 30 [.ref id 0, .slice es own, .int .i64 (d : Int)] (rdH H id bs o p) = some (a, H') ∧ StrR N k H id bs o p a H'

theorem shape_zero : ShapeOk 0 5 3 := by
  intro H id bs o own p es h hs hl hb hz
  obtain ⟨i1, i2, i3, i4⟩ := h
  refine acall_ex (fn := Try.f30) rfl Try.func30 rfl rfl (by simp [Try.f30]) ?_
  by_cases he : es.length = 0
  · simp +decide -implicitDefEqProofs (maxSteps := 999999) (disch := first | assumption | omega) only [go_sem, if_true, if_false, decide_true, decide_false, Int.reduceToNat, Nat.reduceAdd, Nat.reduceMul, Nat.reduceSub, Int.reduceAdd, Int.reduceSub, Int.reduceMul, Int.reduceNeg]
    refine call_ex (of_rd 5 ⟨i1, i2, by omega, by omega⟩ (by decide) (by decide) (by decide)) ?_
    rintro _ _ ⟨s, p1, rfl, hs, q1, q2, rfl⟩
    simp +decide -implicitDefEqProofs (maxSteps := 999999) (disch := first | assumption | omega) only [go_sem, if_true, if_false, decide_true, decide_false, Int.reduceToNat, Nat.reduceAdd, Nat.reduceMul, Nat.reduceSub, Int.reduceAdd, Int.reduceSub, Int.reduceMul, Int.reduceNeg]
    exact ⟨s, _, rfl, hs, by omega, by omega, rfl⟩
  · simp +decide -implicitDefEqProofs (maxSteps := 999999) (disch := first | assumption | omega) only [go_sem, if_true, if_false, decide_true, decide_false, Int.reduceToNat, Nat.reduceAdd, Nat.reduceMul, Nat.reduceSub, Int.reduceAdd, Int.reduceSub, Int.reduceMul, Int.reduceNeg]
    refine call_ex (pick_rd ⟨i1, i2, by omega, by omega⟩ (by omega) (by omega)) ?_
    rintro _ _ ⟨m, rfl, m0, m1, rfl⟩
    simp +decide -implicitDefEqProofs (maxSteps := 999999) (disch := first | assumption | omega) only [go_sem, if_true, if_false, decide_true, decide_false, Int.reduceToNat, Nat.reduceAdd, Nat.reduceMul, Nat.reduceSub, Int.reduceAdd, Int.reduceSub, Int.reduceMul, Int.reduceNeg]
    (iterate 2 (try (any_goals (first | ((first | refine condK_P ?_ ?_ | refine condK_N ?_ ?_ | refine gdK_P ?_ ?_ | refine gdK_N ?_ ?_ | refine gdR_P ?_ ?_ | refine gdR_N ?_ ?_) <;> intro hc <;> (try simp +decide -implicitDefEqProofs (maxSteps := 999999) (disch := first | assumption | omega) only [go_sem, if_true, if_false, decide_true, decide_false, Int.reduceToNat, Nat.reduceAdd, Nat.reduceMul, Nat.reduceSub, Int.reduceAdd, Int.reduceSub, Int.reduceMul, Int.reduceNeg])) | ((first | refine condK_B ?_ ?_ | refine gdK_B ?_ ?_ | refine gdR_B ?_ ?_) <;> intro hc <;> (try simp +decide -implicitDefEqProofs (maxSteps := 999999) (disch := first | assumption | omega) only [go_sem, if_true, if_false, decide_true, decide_false, Int.reduceToNat, Nat.reduceAdd, Nat.reduceMul, Nat.reduceSub, Int.reduceAdd, Int.reduceSub, Int.reduceMul, Int.reduceNeg, hc]))))))
    · refine call_ex (pick_rd ⟨i1, i2, by omega, by omega⟩ (by omega) (by omega)) ?_
      rintro _ _ ⟨m, rfl, m0, m1, rfl⟩
      have hm : m.toNat < es.length := by omega
      obtain ⟨s, hs1, hs2⟩ := strsOk_get hs (List.getElem?_eq_getElem hm)
      have hg : es[m.toNat]? = some (.str s) := by rw [List.getElem?_eq_getElem hm, hs1]
      simp +decide -implicitDefEqProofs (maxSteps := 999999) (disch := first | assumption | omega) only [go_sem, if_true, if_false, decide_true, decide_false, Int.reduceToNat, Nat.reduceAdd, Nat.reduceMul, Nat.reduceSub, Int.reduceAdd, Int.reduceSub, Int.reduceMul, Int.reduceNeg, hg]
      exact ⟨s, _, rfl, by omega, by omega, by omega, rfl⟩
    · refine call_ex (of_rd 5 ⟨i1, i2, by omega, by omega⟩ (by decide) (by decide) (by decide)) ?_
      rintro _ _ ⟨s, p1, rfl, hs, q1, q2, rfl⟩
      simp +decide -implicitDefEqProofs (maxSteps := 999999) (disch := first | assumption | omega) only [go_sem, if_true, if_false, decide_true, decide_false, Int.reduceToNat, Nat.reduceAdd, Nat.reduceMul, Nat.reduceSub, Int.reduceAdd, Int.reduceSub, Int.reduceMul, Int.reduceNeg]
      exact ⟨s, _, rfl, hs, by omega, by omega, rfl⟩

theorem strsOk_app {N : Nat} : ∀ {a b : List AV}, strsOk N a = true → strsOk N b = true → strsOk N (a ++ b) = true
  | [], b, _, h => h
  | .str s :: l, b, h, k => by
    simp only [strsOk, Bool.and_eq_true, List.cons_append] at h ⊢
    exact ⟨h.1, strsOk_app h.2 k⟩
  | .any :: l, b, h, k | .int _ _ :: l, b, h, k | .bool _ :: l, b, h, k | .nilp :: l, b, h, k | .agg _ :: l, b, h, k | .tuple _ :: l, b, h, k | .ptr _ _ _ :: l, b, h, k | .slice _ _ :: l, b, h, k | .ref _ _ :: l, b, h, k | .vec _ _ :: l, b, h, k | .func _ _ :: l, b, h, k | .map _ :: l, b, h, k => by simp [strsOk] at h

theorem shape_succ (d N : Nat) (k : Int) (hN : 5 ≤ N) (hN2 : N ≤ 100000) (hk : 3 ≤ k) (ih : ShapeOk d N k) : ShapeOk (d + 1) (2 * N + 20) (2 * k + 6) := by
  intro H id bs o own p es h hs hl hb hz
  obtain ⟨i1, i2, i3, i4⟩ := h
  have ed : ((d + 1 : Nat) : Int) - 1 = d := by omega
  refine acall_ex (fn := Try.f30) rfl Try.func30 rfl rfl (by simp [Try.f30]) ?_
  simp +decide -implicitDefEqProofs (maxSteps := 999999) (disch := first | assumption | omega) only [go_sem, if_true, if_false, decide_true, decide_false, Int.reduceToNat, Nat.reduceAdd, Nat.reduceMul, Nat.reduceSub, Int.reduceAdd, Int.reduceSub, Int.reduceMul, Int.reduceNeg]
  refine call_ex (pick_rd ⟨i1, i2, by omega, by omega⟩ (by omega) (by omega)) ?_
  rintro _ _ ⟨m, rfl, m0, m1, rfl⟩
  simp +decide -implicitDefEqProofs (maxSteps := 999999) (disch := first | assumption | omega) only [go_sem, if_true, if_false, decide_true, decide_false, Int.reduceToNat, Nat.reduceAdd, Nat.reduceMul, Nat.reduceSub, Int.reduceAdd, Int.reduceSub, Int.reduceMul, Int.reduceNeg]
  (iterate 1 (try (any_goals (first | ((first | refine condK_P ?_ ?_ | refine condK_N ?_ ?_ | refine gdK_P ?_ ?_ | refine gdK_N ?_ ?_ | refine gdR_P ?_ ?_ | refine gdR_N ?_ ?_) <;> intro hc <;> (try simp +decide -implicitDefEqProofs (maxSteps := 999999) (disch := first | assumption | omega) only [go_sem, if_true, if_false, decide_true, decide_false, Int.reduceToNat, Nat.reduceAdd, Nat.reduceMul, Nat.reduceSub, Int.reduceAdd, Int.reduceSub, Int.reduceMul, Int.reduceNeg])) | ((first | refine condK_B ?_ ?_ | refine gdK_B ?_ ?_ | refine gdR_B ?_ ?_) <;> intro hc <;> (try simp +decide -implicitDefEqProofs (maxSteps := 999999) (disch := first | assumption | omega) only [go_sem, if_true, if_false, decide_true, decide_false, Int.reduceToNat, Nat.reduceAdd, Nat.reduceMul, Nat.reduceSub, Int.reduceAdd, Int.reduceSub, Int.reduceMul, Int.reduceNeg, hc]))))))
  · by_cases he : es.length = 0
    · simp +decide -implicitDefEqProofs (maxSteps := 999999) (disch := first | assumption | omega) only [go_sem, if_true, if_false, decide_true, decide_false, Int.reduceToNat, Nat.reduceAdd, Nat.reduceMul, Nat.reduceSub, Int.reduceAdd, Int.reduceSub, Int.reduceMul, Int.reduceNeg]
      refine call_ex (of_rd 5 ⟨i1, i2, by omega, by omega⟩ (by decide) (by decide) (by decide)) ?_
      rintro _ _ ⟨s, p1, rfl, hs, q1, q2, rfl⟩
      simp +decide -implicitDefEqProofs (maxSteps := 999999) (disch := first | assumption | omega) only [go_sem, if_true, if_false, decide_true, decide_false, Int.reduceToNat, Nat.reduceAdd, Nat.reduceMul, Nat.reduceSub, Int.reduceAdd, Int.reduceSub, Int.reduceMul, Int.reduceNeg]
      exact ⟨s, _, rfl, by omega, by omega, by omega, rfl⟩
    · simp +decide -implicitDefEqProofs (maxSteps := 999999) (disch := first | assumption | omega) only [go_sem, if_true, if_false, decide_true, decide_false, Int.reduceToNat, Nat.reduceAdd, Nat.reduceMul, Nat.reduceSub, Int.reduceAdd, Int.reduceSub, Int.reduceMul, Int.reduceNeg]
      refine call_ex (pick_rd ⟨i1, i2, by omega, by omega⟩ (by omega) (by omega)) ?_
      rintro _ _ ⟨m2, rfl, m20, m21, rfl⟩
      simp +decide -implicitDefEqProofs (maxSteps := 999999) (disch := first | assumption | omega) only [go_sem, if_true, if_false, decide_true, decide_false, Int.reduceToNat, Nat.reduceAdd, Nat.reduceMul, Nat.reduceSub, Int.reduceAdd, Int.reduceSub, Int.reduceMul, Int.reduceNeg]
      (iterate 1 (try (any_goals (first | ((first | refine condK_P ?_ ?_ | refine condK_N ?_ ?_ | refine gdK_P ?_ ?_ | refine gdK_N ?_ ?_ | refine gdR_P ?_ ?_ | refine gdR_N ?_ ?_) <;> intro hc <;> (try simp +decide -implicitDefEqProofs (maxSteps := 999999) (disch := first | assumption | omega) only [go_sem, if_true, if_false, decide_true, decide_false, Int.reduceToNat, Nat.reduceAdd, Nat.reduceMul, Nat.reduceSub, Int.reduceAdd, Int.reduceSub, Int.reduceMul, Int.reduceNeg])) | ((first | refine condK_B ?_ ?_ | refine gdK_B ?_ ?_ | refine gdR_B ?_ ?_) <;> intro hc <;> (try simp +decide -implicitDefEqProofs (maxSteps := 999999) (disch := first | assumption | omega) only [go_sem, if_true, if_false, decide_true, decide_false, Int.reduceToNat, Nat.reduceAdd, Nat.reduceMul, Nat.reduceSub, Int.reduceAdd, Int.reduceSub, Int.reduceMul, Int.reduceNeg, hc]))))))
      · refine call_ex (pick_rd ⟨i1, i2, by omega, by omega⟩ (by omega) (by omega)) ?_
        rintro _ _ ⟨m3, rfl, m30, m31, rfl⟩
        have hm : m3.toNat < es.length := by omega
        obtain ⟨s, hs1, hs2⟩ := strsOk_get hs (List.getElem?_eq_getElem hm)
        have hg : es[m3.toNat]? = some (.str s) := by rw [List.getElem?_eq_getElem hm, hs1]
        simp +decide -implicitDefEqProofs (maxSteps := 999999) (disch := first | assumption | omega) only [go_sem, if_true, if_false, decide_true, decide_false, Int.reduceToNat, Nat.reduceAdd, Nat.reduceMul, Nat.reduceSub, Int.reduceAdd, Int.reduceSub, Int.reduceMul, Int.reduceNeg, hg]
        exact ⟨s, _, rfl, by omega, by omega, by omega, rfl⟩
      · refine call_ex (of_rd 5 ⟨i1, i2, by omega, by omega⟩ (by decide) (by decide) (by decide)) ?_
        rintro _ _ ⟨s, p1, rfl, hs, q1, q2, rfl⟩
        simp +decide -implicitDefEqProofs (maxSteps := 999999) (disch := first | assumption | omega) only [go_sem, if_true, if_false, decide_true, decide_false, Int.reduceToNat, Nat.reduceAdd, Nat.reduceMul, Nat.reduceSub, Int.reduceAdd, Int.reduceSub, Int.reduceMul, Int.reduceNeg]
        exact ⟨s, _, rfl, by omega, by omega, by omega, rfl⟩
  · refine call_ex (pick_rd ⟨i1, i2, by omega, by omega⟩ (by omega) (by omega)) ?_
    rintro _ _ ⟨m2, rfl, m20, m21, rfl⟩
    simp +decide -implicitDefEqProofs (maxSteps := 999999) (disch := first | assumption | omega) only [go_sem, if_true, if_false, decide_true, decide_false, Int.reduceToNat, Nat.reduceAdd, Nat.reduceMul, Nat.reduceSub, Int.reduceAdd, Int.reduceSub, Int.reduceMul, Int.reduceNeg]
    (iterate 4 (try (any_goals (first | ((first | refine condK_P ?_ ?_ | refine condK_N ?_ ?_ | refine gdK_P ?_ ?_ | refine gdK_N ?_ ?_ | refine gdR_P ?_ ?_ | refine gdR_N ?_ ?_) <;> intro hc <;> (try simp +decide -implicitDefEqProofs (maxSteps := 999999) (disch := first | assumption | omega) only [go_sem, if_true, if_false, decide_true, decide_false, Int.reduceToNat, Nat.reduceAdd, Nat.reduceMul, Nat.reduceSub, Int.reduceAdd, Int.reduceSub, Int.reduceMul, Int.reduceNeg])) | ((first | refine condK_B ?_ ?_ | refine gdK_B ?_ ?_ | refine gdR_B ?_ ?_) <;> intro hc <;> (try simp +decide -implicitDefEqProofs (maxSteps := 999999) (disch := first | assumption | omega) only [go_sem, if_true, if_false, decide_true, decide_false, Int.reduceToNat, Nat.reduceAdd, Nat.reduceMul, Nat.reduceSub, Int.reduceAdd, Int.reduceSub, Int.reduceMul, Int.reduceNeg, hc]))))))
    rotate_left 4
    · refine call_ex (of_rd 2 ⟨i1, i2, by omega, by omega⟩ (by decide) (by decide) (by decide)) ?_
      rintro _ _ ⟨s, p1, rfl, hs1, q1, q2, rfl⟩
      have hw := l1With_eq es own s (rdH H id bs o p1) (by omega) hz (by rw [rdH_len]; exact hb)
      simp +decide -implicitDefEqProofs (maxSteps := 999999) (disch := first | assumption | omega) only [go_sem, if_true, if_false, decide_true, decide_false, Int.reduceToNat, Nat.reduceAdd, Nat.reduceMul, Nat.reduceSub, Int.reduceAdd, Int.reduceSub, Int.reduceMul, Int.reduceNeg, hw, ed]
      refine call_ex (ih ⟨i1, i2, by omega, by omega⟩ (strsOk_app hs (by simp [strsOk, hs1])) (by simp; omega) (by simp [belowL_app, hb, belowL, below]) (by simp [Sz_append, hz, Sz_cons, Sz_nil, AV.cells])) ?_
      rintro _ _ ⟨s2, p2, rfl, hs2, q3, q4, rfl⟩
      simp +decide -implicitDefEqProofs (maxSteps := 999999) (disch := first | assumption | omega) only [go_sem, if_true, if_false, decide_true, decide_false, Int.reduceToNat, Nat.reduceAdd, Nat.reduceMul, Nat.reduceSub, Int.reduceAdd, Int.reduceSub, Int.reduceMul, Int.reduceNeg]
      exact ⟨_, _, rfl, by simp; omega, by omega, by omega, rfl⟩
    all_goals
      rw [ed]
      refine call_ex (ih ⟨i1, i2, by omega, by omega⟩ hs (by omega) hb hz) ?_
      rintro _ _ ⟨s1, p1, rfl, hs1, q1, q2, rfl⟩
      simp +decide -implicitDefEqProofs (maxSteps := 999999) (disch := first | assumption | omega) only [go_sem, if_true, if_false, decide_true, decide_false, Int.reduceToNat, Nat.reduceAdd, Nat.reduceMul, Nat.reduceSub, Int.reduceAdd, Int.reduceSub, Int.reduceMul, Int.reduceNeg, ed]
      refine call_ex (ih ⟨i1, i2, by omega, by omega⟩ hs (by omega) hb hz) ?_
      rintro _ _ ⟨s2, p2, rfl, hs2, q3, q4, rfl⟩
      simp +decide -implicitDefEqProofs (maxSteps := 999999) (disch := first | assumption | omega) only [go_sem, if_true, if_false, decide_true, decide_false, Int.reduceToNat, Nat.reduceAdd, Nat.reduceMul, Nat.reduceSub, Int.reduceAdd, Int.reduceSub, Int.reduceMul, Int.reduceNeg]
      exact ⟨_, _, rfl, by simp; omega, by omega, by omega, rfl⟩

theorem shape_1 : ShapeOk 1 30 12 := shape_succ 0 5 3 (by omega) (by omega) (by omega) shape_zero
theorem shape_2 : ShapeOk 2 80 30 := shape_succ 1 30 12 (by omega) (by omega) (by omega) shape_1
theorem shape_3 : ShapeOk 3 180 66 := shape_succ 2 80 30 (by omega) (by omega) (by omega) shape_2

theorem l91Type_rd {H : List HObj} {id : Nat} {bs : List UInt8} {o : Own} {p : Int} (h : Rd H id bs p 67) :
    ∃ a H', acall EA 21 [.ref id 0] (rdH H id bs o p) = some (a, H') ∧ StrR 180 67 H id bs o p a H' := by
  obtain ⟨i1, i2, i3, i4⟩ := h
  refine acall_ex (fn := Try.f21) rfl Try.func21 rfl rfl (by simp [Try.f21]) ?_
  simp +decide -implicitDefEqProofs (maxSteps := 999999) (disch := first | assumption | omega) only [go_sem, if_true, if_false, decide_true, decide_false, Int.reduceToNat, Nat.reduceAdd, Nat.reduceMul, Nat.reduceSub, Int.reduceAdd, Int.reduceSub, Int.reduceMul, Int.reduceNeg]
  refine call_ex (pick_rd ⟨i1, i2, by omega, by omega⟩ (by omega) (by omega)) ?_
  rintro _ _ ⟨m, rfl, m0, m1, rfl⟩
  simp +decide -implicitDefEqProofs (maxSteps := 999999) (disch := first | assumption | omega) only [go_sem, if_true, if_false, decide_true, decide_false, Int.reduceToNat, Nat.reduceAdd, Nat.reduceMul, Nat.reduceSub, Int.reduceAdd, Int.reduceSub, Int.reduceMul, Int.reduceNeg]
  (iterate 5 (try (any_goals (first | ((first | refine condK_P ?_ ?_ | refine condK_N ?_ ?_ | refine gdK_P ?_ ?_ | refine gdK_N ?_ ?_ | refine gdR_P ?_ ?_ | refine gdR_N ?_ ?_) <;> intro hc <;> (try simp +decide -implicitDefEqProofs (maxSteps := 999999) (disch := first | assumption | omega) only [go_sem, if_true, if_false, decide_true, decide_false, Int.reduceToNat, Nat.reduceAdd, Nat.reduceMul, Nat.reduceSub, Int.reduceAdd, Int.reduceSub, Int.reduceMul, Int.reduceNeg])) | ((first | refine condK_B ?_ ?_ | refine gdK_B ?_ ?_ | refine gdR_B ?_ ?_) <;> intro hc <;> (try simp +decide -implicitDefEqProofs (maxSteps := 999999) (disch := first | assumption | omega) only [go_sem, if_true, if_false, decide_true, decide_false, Int.reduceToNat, Nat.reduceAdd, Nat.reduceMul, Nat.reduceSub, Int.reduceAdd, Int.reduceSub, Int.reduceMul, Int.reduceNeg, hc]))))))
  · refine call_ex (of_rd 100 ⟨i1, i2, by omega, by omega⟩ (by decide) (by decide) (by decide)) ?_
    rintro _ _ ⟨s, p1, rfl, hs, q1, q2, rfl⟩
    simp +decide -implicitDefEqProofs (maxSteps := 999999) (disch := first | assumption | omega) only [go_sem, if_true, if_false, decide_true, decide_false, Int.reduceToNat, Nat.reduceAdd, Nat.reduceMul, Nat.reduceSub, Int.reduceAdd, Int.reduceSub, Int.reduceMul, Int.reduceNeg]
    exact ⟨s, _, rfl, by omega, by omega, by omega, rfl⟩
  rotate_left 3
  · refine call_ex (shape_2 ⟨i1, i2, by omega, by omega⟩ (by decide) (by decide) (by simp [belowL, below]) (by decide)) ?_
    rintro _ _ ⟨s, p1, rfl, hs, q1, q2, rfl⟩
    simp +decide -implicitDefEqProofs (maxSteps := 999999) (disch := first | assumption | omega) only [go_sem, if_true, if_false, decide_true, decide_false, Int.reduceToNat, Nat.reduceAdd, Nat.reduceMul, Nat.reduceSub, Int.reduceAdd, Int.reduceSub, Int.reduceMul, Int.reduceNeg]
    exact ⟨s, _, rfl, by omega, by omega, by omega, rfl⟩
  · refine call_ex (shape_3 ⟨i1, i2, by omega, by omega⟩ (by decide) (by decide) (by simp [belowL, below]) (by decide)) ?_
    rintro _ _ ⟨s, p1, rfl, hs, q1, q2, rfl⟩
    simp +decide -implicitDefEqProofs (maxSteps := 999999) (disch := first | assumption | omega) only [go_sem, if_true, if_false, decide_true, decide_false, Int.reduceToNat, Nat.reduceAdd, Nat.reduceMul, Nat.reduceSub, Int.reduceAdd, Int.reduceSub, Int.reduceMul, Int.reduceNeg]
    exact ⟨s, _, rfl, by omega, by omega, by omega, rfl⟩
  all_goals
    refine call_ex (l91Known_rd ⟨i1, i2, by omega, by omega⟩) ?_
    rintro _ _ ⟨s, p1, rfl, hs, q1, q2, rfl⟩
    simp +decide -implicitDefEqProofs (maxSteps := 999999) (disch := first | assumption | omega) only [go_sem, if_true, if_false, decide_true, decide_false, Int.reduceToNat, Nat.reduceAdd, Nat.reduceMul, Nat.reduceSub, Int.reduceAdd, Int.reduceSub, Int.reduceMul, Int.reduceNeg]
    exact ⟨s, _, rfl, by omega, by omega, by omega, rfl⟩

def PlainOk (d : Nat) (N : Nat) (k : Int) : Prop := ∀ {H : List HObj} {id : Nat} {bs : List UInt8} {o : Own} {p : Int}, Rd H id bs p k →
    ∃ a H', acall EA 15 [.ref id 0, .int .i64 (d : Int)] (rdH H id bs o p) = some (a, H') ∧ StrR N k H id bs o p a H'
theorem plain_zero : PlainOk 0 1 1 := by
  intro H id bs o p h
  obtain ⟨i1, i2, i3, i4⟩ := h
  refine acall_ex (fn := Try.f15) rfl Try.func15 rfl rfl (by simp [Try.f15]) ?_
  simp +decide -implicitDefEqProofs (maxSteps := 999999) (disch := first | assumption | omega) only [go_sem, if_true, if_false, decide_true, decide_false, Int.reduceToNat, Nat.reduceAdd, Nat.reduceMul, Nat.reduceSub, Int.reduceAdd, Int.reduceSub, Int.reduceMul, Int.reduceNeg]
  refine call_ex (of_rd 1 ⟨i1, i2, by omega, by omega⟩ (by decide) (by decide) (by decide)) ?_
  rintro _ _ ⟨s, p1, rfl, hs, q1, q2, rfl⟩
  simp +decide -implicitDefEqProofs (maxSteps := 999999) (disch := first | assumption | omega) only [go_sem, if_true, if_false, decide_true, decide_false, Int.reduceToNat, Nat.reduceAdd, Nat.reduceMul, Nat.reduceSub, Int.reduceAdd, Int.reduceSub, Int.reduceMul, Int.reduceNeg]
  exact ⟨s, _, rfl, by omega, by omega, by omega, rfl⟩
theorem plain_succ (d N : Nat) (k : Int) (hd : d ≤ 50) (hN : 1 ≤ N) (hN2 : N ≤ 100000) (hk : 1 ≤ k) (ih : PlainOk d N k) : PlainOk (d + 1) (2 * N + 180) (2 * k + 70) := by
  intro H id bs o p h
  obtain ⟨i1, i2, i3, i4⟩ := h
  have ed : ((d + 1 : Nat) : Int) - 1 = d := by omega
  refine acall_ex (fn := Try.f15) rfl Try.func15 rfl rfl (by simp [Try.f15]) ?_
  simp +decide -implicitDefEqProofs (maxSteps := 999999) (disch := first | assumption | omega) only [go_sem, if_true, if_false, decide_true, decide_false, Int.reduceToNat, Nat.reduceAdd, Nat.reduceMul, Nat.reduceSub, Int.reduceAdd, Int.reduceSub, Int.reduceMul, Int.reduceNeg]
  refine call_ex (pick_rd ⟨i1, i2, by omega, by omega⟩ (by omega) (by omega)) ?_
  rintro _ _ ⟨m, rfl, m0, m1, rfl⟩
  simp +decide -implicitDefEqProofs (maxSteps := 999999) (disch := first | assumption | omega) only [go_sem, if_true, if_false, decide_true, decide_false, Int.reduceToNat, Nat.reduceAdd, Nat.reduceMul, Nat.reduceSub, Int.reduceAdd, Int.reduceSub, Int.reduceMul, Int.reduceNeg]
  (iterate 1 (try (any_goals (first | ((first | refine condK_P ?_ ?_ | refine condK_N ?_ ?_ | refine gdK_P ?_ ?_ | refine gdK_N ?_ ?_ | refine gdR_P ?_ ?_ | refine gdR_N ?_ ?_) <;> intro hc <;> (try simp +decide -implicitDefEqProofs (maxSteps := 999999) (disch := first | assumption | omega) only [go_sem, if_true, if_false, decide_true, decide_false, Int.reduceToNat, Nat.reduceAdd, Nat.reduceMul, Nat.reduceSub, Int.reduceAdd, Int.reduceSub, Int.reduceMul, Int.reduceNeg])) | ((first | refine condK_B ?_ ?_ | refine gdK_B ?_ ?_ | refine gdR_B ?_ ?_) <;> intro hc <;> (try simp +decide -implicitDefEqProofs (maxSteps := 999999) (disch := first | assumption | omega) only [go_sem, if_true, if_false, decide_true, decide_false, Int.reduceToNat, Nat.reduceAdd, Nat.reduceMul, Nat.reduceSub, Int.reduceAdd, Int.reduceSub, Int.reduceMul, Int.reduceNeg, hc]))))))
  · refine call_ex (of_rd 1 ⟨i1, i2, by omega, by omega⟩ (by decide) (by decide) (by decide)) ?_
    rintro _ _ ⟨s, p1, rfl, hs, q1, q2, rfl⟩
    simp +decide -implicitDefEqProofs (maxSteps := 999999) (disch := first | assumption | omega) only [go_sem, if_true, if_false, decide_true, decide_false, Int.reduceToNat, Nat.reduceAdd, Nat.reduceMul, Nat.reduceSub, Int.reduceAdd, Int.reduceSub, Int.reduceMul, Int.reduceNeg]
    exact ⟨s, _, rfl, by omega, by omega, by omega, rfl⟩
  · refine call_ex (pick_rd ⟨i1, i2, by omega, by omega⟩ (by omega) (by omega)) ?_
    rintro _ _ ⟨m2, rfl, m20, m21, rfl⟩
    simp +decide -implicitDefEqProofs (maxSteps := 999999) (disch := first | assumption | omega) only [go_sem, if_true, if_false, decide_true, decide_false, Int.reduceToNat, Nat.reduceAdd, Nat.reduceMul, Nat.reduceSub, Int.reduceAdd, Int.reduceSub, Int.reduceMul, Int.reduceNeg]
    (iterate 1 (try (any_goals (first | ((first | refine condK_P ?_ ?_ | refine condK_N ?_ ?_ | refine gdK_P ?_ ?_ | refine gdK_N ?_ ?_ | refine gdR_P ?_ ?_ | refine gdR_N ?_ ?_) <;> intro hc <;> (try simp +decide -implicitDefEqProofs (maxSteps := 999999) (disch := first | assumption | omega) only [go_sem, if_true, if_false, decide_true, decide_false, Int.reduceToNat, Nat.reduceAdd, Nat.reduceMul, Nat.reduceSub, Int.reduceAdd, Int.reduceSub, Int.reduceMul, Int.reduceNeg])) | ((first | refine condK_B ?_ ?_ | refine gdK_B ?_ ?_ | refine gdR_B ?_ ?_) <;> intro hc <;> (try simp +decide -implicitDefEqProofs (maxSteps := 999999) (disch := first | assumption | omega) only [go_sem, if_true, if_false, decide_true, decide_false, Int.reduceToNat, Nat.reduceAdd, Nat.reduceMul, Nat.reduceSub, Int.reduceAdd, Int.reduceSub, Int.reduceMul, Int.reduceNeg, hc]))))))
    · refine call_ex (l91Type_rd ⟨i1, i2, by omega, by omega⟩) ?_
      rintro _ _ ⟨s, p1, rfl, hs, q1, q2, rfl⟩
      simp +decide -implicitDefEqProofs (maxSteps := 999999) (disch := first | assumption | omega) only [go_sem, if_true, if_false, decide_true, decide_false, Int.reduceToNat, Nat.reduceAdd, Nat.reduceMul, Nat.reduceSub, Int.reduceAdd, Int.reduceSub, Int.reduceMul, Int.reduceNeg]
      exact ⟨s, _, rfl, by omega, by omega, by omega, rfl⟩
    · refine call_ex (of_rd 3 ⟨i1, i2, by omega, by omega⟩ (by decide) (by decide) (by decide)) ?_
      rintro _ _ ⟨s, p1, rfl, hs, q1, q2, rfl⟩
      simp +decide -implicitDefEqProofs (maxSteps := 999999) (disch := first | assumption | omega) only [go_sem, if_true, if_false, decide_true, decide_false, Int.reduceToNat, Nat.reduceAdd, Nat.reduceMul, Nat.reduceSub, Int.reduceAdd, Int.reduceSub, Int.reduceMul, Int.reduceNeg, ed]
      refine call_ex (ih ⟨i1, i2, by omega, by omega⟩) ?_
      rintro _ _ ⟨s1, p2, rfl, hs1, q3, q4, rfl⟩
      simp +decide -implicitDefEqProofs (maxSteps := 999999) (disch := first | assumption | omega) only [go_sem, if_true, if_false, decide_true, decide_false, Int.reduceToNat, Nat.reduceAdd, Nat.reduceMul, Nat.reduceSub, Int.reduceAdd, Int.reduceSub, Int.reduceMul, Int.reduceNeg, ed]
      refine call_ex (ih ⟨i1, i2, by omega, by omega⟩) ?_
      rintro _ _ ⟨s2, p3, rfl, hs2, q5, q6, rfl⟩
      simp +decide -implicitDefEqProofs (maxSteps := 999999) (disch := first | assumption | omega) only [go_sem, if_true, if_false, decide_true, decide_false, Int.reduceToNat, Nat.reduceAdd, Nat.reduceMul, Nat.reduceSub, Int.reduceAdd, Int.reduceSub, Int.reduceMul, Int.reduceNeg]
      exact ⟨_, _, rfl, by simp; omega, by omega, by omega, rfl⟩
theorem plain_1 : PlainOk 1 182 72 := plain_succ 0 1 1 (by omega) (by omega) (by omega) (by omega) plain_zero
theorem plain_2 : PlainOk 2 544 214 := plain_succ 1 182 72 (by omega) (by omega) (by omega) (by omega) plain_1
theorem plain_3 : PlainOk 3 1268 498 := plain_succ 2 544 214 (by omega) (by omega) (by omega) (by omega) plain_2
theorem plain_4 : PlainOk 4 2716 1066 := plain_succ 3 1268 498 (by omega) (by omega) (by omega) (by omega) plain_3
end Go.Proofs.Ytnjaagfhaooapaa.Eng
