/- ENGINE 7: arithmetic, comparisons, conversions. -/
import Derived.Test.YtnjaagfhaooapaaE6
namespace Go.Proofs.Ytnjaagfhaooapaa.Eng
set_option linter.unusedVariables false
set_option linter.unusedSimpArgs false
set_option linter.unnecessarySimpa false
set_option linter.constructorNameAsVariable false
open Go Go.RowKit

theorem run_v {P : Program} {w : World} (s : Sem Value) : (do pure (Next.value (← s)) : Sem Next).run P w = (s.run P w).andThen fun a w' => .ok (.value a) w' := by simp

theorem eqGuard_run {P : Program} {w : World} (op : BinOp) (T : TypeId) (x y : Operand) (a b : Value) (h : (∀ cs, a ≠ .agg cs) ∧ a ≠ .nilIface) : (eqGuard op T x y a b).run P w = .ok () w := by
  unfold eqGuard
  cases op <;> simp <;> (split <;> simp_all)

theorem equal_ptr {P : Program} {w : World} {T : TypeId} (h : isPtrT P T = true) : ∃ e, P.underlying T = some (.pointer e) ∧ ∃ i, P.info? e = some i ∧ i.size ≠ 0 := by
  unfold isPtrT at h
  split at h
  · rename_i e he
    split at h
    · rename_i i hi
      exact ⟨e, he, i, hi, by simpa using h⟩
    · simp at h
  · simp at h

theorem Rep.ptr_some {κ : Conc} {w : World} {a : AV} {v : Value} (h : Rep κ w a v) (ha : (∃ cs o t, a = .ptr cs o t) ∨ ∃ i o, a = .ref i o) : ∃ p, v = .pointer (some p) := by
  rcases ha with ⟨cs, o, t, rfl⟩ | ⟨i, o, rfl⟩ <;> cases h <;> exact ⟨_, rfl⟩

theorem str_eq_iff (a b : List UInt8) : ((⟨a.toArray⟩ : ByteArray).toList == (⟨b.toArray⟩ : ByteArray).toList) = decide (a = b) := by
  rw [ByteArray.toList_eq, ByteArray.toList_eq]
  by_cases h : a = b
  · simp [h]
  · simp [h]

theorem run_equalIn_bool (d : Nat) {P : Program} {w : World} {T : TypeId} (hu : P.underlying T = some .bool) (a b : Bool) : (Op.equalIn (d + 1) T (.bool a) (.bool b)).run P w = .ok (a == b) w := by
  simp [Op.equalIn, underlying, hu]

theorem run_equal_bool {P : Program} {w : World} {T : TypeId} (hu : P.underlying T = some .bool) (a b : Bool) : (Op.equal T (.bool a) (.bool b)).run P w = .ok (a == b) w := run_equalIn_bool 9999 hu a b

theorem run_equalIn_nil_left (d : Nat) {P : Program} {w : World} {T e : TypeId} (hu : P.underlying T = some (.pointer e)) (b : Option Addr) : (Op.equalIn (d + 1) T (.pointer none) (.pointer b)).run P w = .ok b.isNone w := by
  simp [Op.equalIn, underlying, hu]

theorem run_equal_nil_left {P : Program} {w : World} {T e : TypeId} (hu : P.underlying T = some (.pointer e)) (b : Option Addr) : (Op.equal T (.pointer none) (.pointer b)).run P w = .ok b.isNone w := run_equalIn_nil_left 9999 hu b

theorem run_equalIn_nil_right (d : Nat) {P : Program} {w : World} {T e : TypeId} (hu : P.underlying T = some (.pointer e)) (a : Addr) : (Op.equalIn (d + 1) T (.pointer (some a)) (.pointer none)).run P w = .ok false w := by
  simp [Op.equalIn, underlying, hu]

theorem run_equal_nil_right {P : Program} {w : World} {T e : TypeId} (hu : P.underlying T = some (.pointer e)) (a : Addr) : (Op.equal T (.pointer (some a)) (.pointer none)).run P w = .ok false w := run_equalIn_nil_right 9999 hu a

theorem run_equalIn_addr (d : Nat) {P : Program} {w : World} {T e : TypeId} {i : TypeInfo} (hu : P.underlying T = some (.pointer e)) (hi : P.info? e = some i) (hs : i.size ≠ 0) (a b : Addr) :
    (Op.equalIn (d + 1) T (.pointer (some a)) (.pointer (some b))).run P w = (sameAddr a b).run P w := by
  simp [Op.equalIn, underlying, hu, sizeOf, typeInfo, hi, hs]

theorem run_equal_addr {P : Program} {w : World} {T e : TypeId} {i : TypeInfo} (hu : P.underlying T = some (.pointer e)) (hi : P.info? e = some i) (hs : i.size ≠ 0) (a b : Addr) :
    (Op.equal T (.pointer (some a)) (.pointer (some b))).run P w = (sameAddr a b).run P w := run_equalIn_addr 9999 hu hi hs a b

theorem binOp_eql {P : Program} {w : World} {T : TypeId} {x y : Value} {r : Bool} (h : (Op.equal T x y).run P w = .ok r w) (hx : (∃ a, x = .pointer a) ∧ (∃ b, y = .pointer b) ∨ (∃ a, x = .bool a) ∧ ∃ b, y = .bool b) :
    (binOp .eql T x y).run P w = .ok (.bool r) w ∧ (binOp .neq T x y).run P w = .ok (.bool !r) w := by
  rcases hx with ⟨⟨a, rfl⟩, b, rfl⟩ | ⟨⟨a, rfl⟩, b, rfl⟩
  · constructor
    · show ((do pure (Value.bool (← Op.equal T (.pointer a) (.pointer b))) : Sem Value)).run P w = _
      simp [h]
    · show ((do pure (Value.bool (!(← Op.equal T (.pointer a) (.pointer b)))) : Sem Value)).run P w = _
      simp [h]
  · constructor
    · show ((do pure (Value.bool (← Op.equal T (.bool a) (.bool b))) : Sem Value)).run P w = _
      simp [h]
    · show ((do pure (Value.bool (!(← Op.equal T (.bool a) (.bool b)))) : Sem Value)).run P w = _
      simp [h]

/-- The addresses of two tagged blocks are told apart. -/
theorem run_sameAddr {P : Program} {w : World} {b o b' o' : Nat} (h : PlainBlock w b) (h' : PlainBlock w b') : (sameAddr (ad b o) (ad b' o')).run P w = .ok (decide (ad b o = ad b' o')) w := by
  obtain ⟨c, e, h1, h2⟩ := h
  obtain ⟨c', e', h1', h2'⟩ := h'
  have f1 : ∀ i, w.frozen? (ad b i) = false := fun i => by simp only [World.frozen?, h1]; simp
  have f2 : ∀ i, w.frozen? (ad b' i) = false := fun i => by simp only [World.frozen?, h1']; simp
  have s1 : w.shape? b = some (e, c.size) := by simp [World.shape?, h1]
  have s2 : w.shape? b' = some (e', c'.size) := by simp [World.shape?, h1']
  have g1 : ∀ i, w.frozen? { block := b, off := i } = false := f1
  have g2 : ∀ i, w.frozen? { block := b', off := i } = false := f2
  unfold sameAddr
  by_cases hb : b = b'
  · subst hb
    simp
    by_cases ho : o = o'
    · subst ho; simp
    · have : ad b o ≠ ad b o' := by intro e; injection e; omega
      simp [ho]
  · have hne : ad b o ≠ ad b' o' := by intro e; injection e; omega
    have hbb : ((ad b o).block == (ad b' o').block) = false := by simp [hb]
    simp [hbb, f1, f2, noView, viewAt, s1, s2, mayBeOne, stringish, hne]

theorem str_append (a b : List UInt8) : (⟨a.toArray⟩ : ByteArray) ++ ⟨b.toArray⟩ = ⟨(a ++ b).toArray⟩ := by
  apply ByteArray.ext
  simp

theorem abin_sound {P : Program} {W : World} {κ : Conc} {w : World} {L : Nat → Option (Nat × List AV)} {H : List HObj} (hI : Inv W κ w L H) {op : BinOp} {T : TypeId} {a b r : AV} {va vb : Value} (ha : Rep κ w a va) (hb : Rep κ w b vb)
    (h : abin P op T a b = some r) : (∀ (x y : Operand), (eqGuard op T x y va vb).run P w = .ok () w) ∧ ∃ v, (binOp op T va vb).run P w = .ok v w ∧ Rep κ w r v := by
  unfold abin at h
  split at h
  · -- integers
    cases ha; cases hb
    refine ⟨fun x y => eqGuard_run _ _ _ _ _ _ ⟨by simp, by simp⟩, ?_⟩
    split at h
    · rename_i hk
      subst hk
      cases op <;> simp at h <;> first
        | (subst h; refine ⟨_, ?_, .int _ _⟩; simp [binOp, Op.intArith]; done)
        | (subst h; refine ⟨_, ?_, .int _ _⟩; simp [binOp, Op.intBits]; done)
        | (obtain ⟨h0, rfl⟩ := h; refine ⟨_, ?_, .int _ _⟩; simp [binOp, Op.intDiv, h0]; done)
        | (subst h; refine ⟨_, ?_, .bool _⟩; simp [binOp, Op.intCmp, BEq.beq, instBEqOfDecidableEq]; done)
        | (subst h; refine ⟨_, ?_, .bool _⟩; simp [binOp, Op.intCmp, bne, BEq.beq, instBEqOfDecidableEq]; done)
    · simp at h
  · -- strings
    cases ha; cases hb
    refine ⟨fun x y => eqGuard_run _ _ _ _ _ _ ⟨by simp, by simp⟩, ?_⟩
    cases op <;> simp at h
    · obtain ⟨h0, rfl⟩ := h
      rename_i l1 l2
      refine ⟨_, ?_, .str _⟩
      have : ¬ ((((⟨l1.toArray⟩ : ByteArray).size + (⟨l2.toArray⟩ : ByteArray).size : Nat) : Int) > IntKind.i64.max) := by
        simp [ByteArray.size, IntKind.max, IntKind.signed, IntKind.bits]; omega
      simp only [binOp, Op.stringOp, Sem.run_ite, this, if_false, Sem.run_pure, str_append]
    · subst h
      exact ⟨_, by simp only [binOp, Op.stringOp, Sem.run_pure, str_eq_iff], .bool _⟩
    · subst h
      exact ⟨_, by simp only [binOp, Op.stringOp, Sem.run_pure, str_eq_iff], .bool _⟩
  · -- bools
    cases ha; cases hb
    refine ⟨fun x y => eqGuard_run _ _ _ _ _ _ ⟨by simp, by simp⟩, ?_⟩
    split at h
    · rename_i hu
      obtain rfl := Option.some.inj h
      exact ⟨_, (binOp_eql (run_equal_bool hu _ _) (.inr ⟨⟨_, rfl⟩, _, rfl⟩)).1, .bool _⟩
    · rename_i hu
      obtain rfl := Option.some.inj h
      exact ⟨_, (binOp_eql (run_equal_bool hu _ _) (.inr ⟨⟨_, rfl⟩, _, rfl⟩)).2, .bool _⟩
    · simp at h
  · -- nil, nil
    cases ha; cases hb
    refine ⟨fun x y => eqGuard_run _ _ _ _ _ _ ⟨by simp, by simp⟩, ?_⟩
    split at h
    · rename_i hp
      obtain ⟨e, he, i, hi, hs⟩ := equal_ptr (w := w) hp
      have hh := binOp_eql (run_equal_nil_left (w := w) he none) (.inl ⟨⟨_, rfl⟩, _, rfl⟩)
      split at h
      · obtain rfl := Option.some.inj h
        exact ⟨_, hh.1, .bool _⟩
      · obtain rfl := Option.some.inj h
        exact ⟨_, hh.2, .bool _⟩
      · simp at h
    · simp at h
  iterate 2
    · -- a pointer, nil
      obtain ⟨p, rfl⟩ := ha.ptr_some (by first | exact .inl ⟨_, _, _, rfl⟩ | exact .inr ⟨_, _, rfl⟩)
      cases hb
      refine ⟨fun x y => eqGuard_run _ _ _ _ _ _ ⟨by simp, by simp⟩, ?_⟩
      split at h
      · rename_i hp
        obtain ⟨e, he, i, hi, hs⟩ := equal_ptr (w := w) hp
        have hh := binOp_eql (run_equal_nil_right (w := w) he p) (.inl ⟨⟨_, rfl⟩, _, rfl⟩)
        split at h
        · obtain rfl := Option.some.inj h
          exact ⟨_, hh.1, .bool _⟩
        · obtain rfl := Option.some.inj h
          exact ⟨_, hh.2, .bool _⟩
        · simp at h
      · simp at h
  iterate 2
    · -- nil, a pointer
      obtain ⟨p, rfl⟩ := hb.ptr_some (by first | exact .inl ⟨_, _, _, rfl⟩ | exact .inr ⟨_, _, rfl⟩)
      cases ha
      refine ⟨fun x y => eqGuard_run _ _ _ _ _ _ ⟨by simp, by simp⟩, ?_⟩
      split at h
      · rename_i hp
        obtain ⟨e, he, i, hi, hs⟩ := equal_ptr (w := w) hp
        have hh := binOp_eql (run_equal_nil_left (w := w) he (some p)) (.inl ⟨⟨_, rfl⟩, _, rfl⟩)
        split at h
        · obtain rfl := Option.some.inj h
          exact ⟨_, hh.1, .bool _⟩
        · obtain rfl := Option.some.inj h
          exact ⟨_, hh.2, .bool _⟩
        · simp at h
      · simp at h
  · -- two tagged pointers
    rename_i cs1 i1 cs2 i2
    split at h
    · rename_i hp
      obtain ⟨e, he, i, hi, hs⟩ := equal_ptr (w := w) hp
      cases ha with
      | ptr _ _ _ b o f h1 hc hh ht =>
      cases hb with
      | ptr _ _ _ b' o' f' h1' hc' hh' ht' =>
      have q1 := ht _ rfl
      have q2 := ht' _ rfl
      have t1 := hI.tgs _ _ q1
      have t2 := hI.tgs _ _ q2
      refine ⟨fun x y => eqGuard_run _ _ _ _ _ _ ⟨by simp, by simp⟩, ?_⟩
      obtain ⟨b1, o1, z1, _, p1⟩ := hI.objs _ _ t1
      obtain ⟨b2, o2, z2, _, p2⟩ := hI.objs _ _ t2
      rw [q1] at z1; rw [q2] at z2
      obtain ⟨rfl, rfl⟩ := Prod.mk.inj (Option.some.inj z1)
      obtain ⟨rfl, rfl⟩ := Prod.mk.inj (Option.some.inj z2)
      have hd : decide (ad b (o + 0) = ad b' (o' + 0)) = decide (i1 = i2) := by
        by_cases q : i1 = i2
        · subst q
          rw [q1] at q2
          injection q2 with q2; injection q2 with r1 r2
          subst r1; rw [← r2]; simp
        · have : ad b (o + 0) ≠ ad b' (o' + 0) := by
            intro z; injection z with y1 y2 y3; subst y1
            exact q (hI.tags _ _ _ q1 (by rw [q2, y2]))
          rw [decide_eq_false this, decide_eq_false q]
      have hh2 := binOp_eql ((run_equal_addr he hi hs (ad b (o + 0)) (ad b' (o' + 0))).trans (run_sameAddr p1 p2)) (.inl ⟨⟨_, rfl⟩, _, rfl⟩)
      rw [hd] at hh2
      split at h
      · obtain rfl := Option.some.inj h
        exact ⟨_, hh2.1, .bool _⟩
      · obtain rfl := Option.some.inj h
        exact ⟨_, hh2.2, .bool _⟩
      · simp at h
    · simp at h
  · simp at h

end Go.Proofs.Ytnjaagfhaooapaa.Eng
