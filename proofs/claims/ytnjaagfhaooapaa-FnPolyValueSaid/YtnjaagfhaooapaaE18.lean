/- ENGINE 18: every operation that is no call of a Go function. -/
import Derived.Test.YtnjaagfhaooapaaE17
namespace Go.Proofs.Ytnjaagfhaooapaa.Eng
set_option linter.unusedVariables false
set_option linter.unusedSimpArgs false
set_option linter.unnecessarySimpa false
set_option linter.constructorNameAsVariable false
open Go Go.RowKit

theorem asV_some {x : TV} {a : AV} (h : asV x = some a) : x = .v a := by
  unfold asV at h
  split at h
  · obtain rfl := Option.some.inj h; rfl
  · simp at h

theorem asVs_sound {κ : Conc} {W : World} {n : Nat} {w : World} {σ : St} {a : Act} (hS : SRep W n κ σ a w) : ∀ {l : List Operand} {as : List AV}, asVs (l.map (evalO σ.t)) = some as →
    as.length = l.length ∧ ∀ i c, as[i]? = some c → Rep κ w c ((l.map a.eval).getD i undef)
  | [], as, h => by simp [asVs] at h; subst h; simp
  | x :: l, as, h => by
    simp only [List.map_cons, asVs] at h
    split at h
    · rename_i c cs hc hcs
      obtain rfl := Option.some.inj h
      obtain ⟨h1, h2⟩ := asVs_sound hS hcs
      refine ⟨by simpa using h1, fun i d hd => ?_⟩
      cases i with
      | zero =>
        simp at hd; subst hd
        have := evalO_rep hS x
        rw [asV_some hc] at this
        exact this
      | succ i => simpa using h2 i d (by simpa using hd)
    · simp at h

theorem OpOk.same {P : Program} {W : World} {κ : Conc} {w : World} {o : Oper} {ρ : Operand → Value} {σ : St} {u : Out} (hI : Inv W κ w σ.L σ.H) (e1 : u.L = σ.L) (e2 : u.H = σ.H)
    (hr : ∃ x, u.val = some x ∧ ∃ cv, (execOp ρ o).run P w = .ok (.value cv) w ∧ TRep κ w x cv) : OpOk P W κ w o ρ u := by
  obtain ⟨x, hx, hr⟩ := hr
  refine ⟨κ, w, Ext.refl _ _, LExt.refl _, by rw [e1, e2]; exact hI, ?_⟩
  rw [hx]; exact hr

theorem OpOk.some {P : Program} {W : World} {κ κ' : Conc} {w w' : World} {o : Oper} {ρ : Operand → Value} {u : Out} (hE : Ext κ w κ' w') (hL : LExt κ κ') (hI : Inv W κ' w' u.L u.H) {x : TV} (hx : u.val = some x)
    (hr : ∃ cv, (execOp ρ o).run P w = .ok (.value cv) w' ∧ TRep κ' w' x cv) : OpOk P W κ w o ρ u := by
  refine ⟨κ', w', hE, hL, hI, ?_⟩
  rw [hx]; exact hr

theorem Rep.of_eval {κ : Conc} {W : World} {n : Nat} {w : World} {σ : St} {a : Act} (hS : SRep W n κ σ a w) {x : Operand} {c : AV} (h : evalO σ.t x = .v c) : Rep κ w c (a.eval x) := by
  have := evalO_rep hS x
  rw [h] at this
  exact this

theorem intval {κ : Conc} {w : World} {k : IntKind} {n : Int} {v : Value} (h : Rep κ w (.int k n) v) : v = .int k n := by cases h; rfl
theorem boolval {κ : Conc} {w : World} {b : Bool} {v : Value} (h : Rep κ w (.bool b) v) : v = .bool b := by cases h; rfl
theorem strval {κ : Conc} {w : World} {l : List UInt8} {v : Value} (h : Rep κ w (.str l) v) : v = .string ⟨l.toArray⟩ := by cases h; rfl

theorem args_two {α β : Type} {f : α → β} {l : List α} {x y : β} (h : l.map f = [x, y]) : ∃ p q, l = [p, q] ∧ f p = x ∧ f q = y := by
  match l, h with
  | [p, q], h => simp at h; exact ⟨p, q, rfl, h.1, h.2⟩

theorem args_one {α β : Type} {f : α → β} {l : List α} {x : β} (h : l.map f = [x]) : ∃ p, l = [p] ∧ f p = x := by
  match l, h with
  | [p], h => simp at h; exact ⟨p, rfl, h⟩

theorem amin2_sound {P : Program} {κ : Conc} {w : World} {a b r : AV} {va vb : Value} {T : Array TypeId} {t : Nat} (ha : Rep κ w a va) (hb : Rep κ w b vb) :
    (amin2 false a b = some r → ∃ v, (Builtin.min_ T t #[va, vb]).run P w = .ok v w ∧ Rep κ w r v) ∧ (amin2 true a b = some r → ∃ v, (Builtin.max_ T t #[va, vb]).run P w = .ok v w ∧ Rep κ w r v) := by
  constructor
  · intro h
    unfold amin2 at h
    split at h
    · split at h
      · rename_i hk; subst hk
        obtain rfl := Option.some.inj h
        cases ha; cases hb
        refine ⟨_, ?_, .int _ _⟩
        simp [Builtin.min_, Builtin.min2]
      · simp at h
    · simp at h
  · intro h
    unfold amin2 at h
    split at h
    · split at h
      · rename_i hk; subst hk
        obtain rfl := Option.some.inj h
        cases ha; cases hb
        refine ⟨_, ?_, .int _ _⟩
        simp [Builtin.max_, Builtin.max2]
      · simp at h
    · simp at h

set_option maxHeartbeats 2000000 in
theorem aop_sound {P : Program} {W : World} {n : Nat} {κ : Conc} {w : World} {σ : St} {a : Act} {md : Nat → Mode} {o : Oper} {u : Out} (hS : SRep W n κ σ a w) (h : aop P md o (evalO σ.t) σ = some u) : OpOk P W κ w o a.eval u := by
  have hI := hS.inv
  obtain ⟨dst, op, ty, pos, after, guard⟩ := o
  cases op with
  | move x =>
    exact OpOk.value hI h ⟨_, rfl, evalO_rep hS x⟩
  | assign x =>
    exact OpOk.value hI h ⟨_, rfl, evalO_rep hS x⟩
  | pick c x y =>
    simp only [aop] at h
    split at h
    · rename_i t hc
      have hb := boolval (Rep.of_eval hS hc)
      refine OpOk.value hI h ⟨if t then a.eval x else a.eval y, ?_, ?_⟩
      · simp [execOp, hb, asBool]
      · cases t
        · exact evalO_rep hS y
        · exact evalO_rep hS x
    · simp at h
  | alloc T =>
    simp only [aop] at h
    split at h
    · rename_i ti ht
      obtain ⟨z, hz, hcr⟩ := zero_cr (κ := κ) (w := w) ht
      obtain ⟨κ', k1, k2, k3, x, k4, k5⟩ := newBox_sound (P := P) (T := T) hI hcr h
      refine OpOk.some k1 k2 k3 k4 ⟨_, ?_, k5⟩
      simp [execOp, Instr.alloc, hz, newVar, newRow]
    · simp at h
  | box T x =>
    simp only [aop] at h
    split at h
    · rename_i c hc
      have hr := Rep.of_eval hS hc
      have hne : c.cells ≠ [] := by
        intro e
        unfold newBox at h
        rw [e] at h
        simp at h
      obtain ⟨κ', k1, k2, k3, x', k4, k5⟩ := newBox_sound (P := P) (T := T) hI (hr.cr hne) h
      refine OpOk.some k1 k2 k3 k4 ⟨_, ?_, k5⟩
      simp [execOp, Instr.box, newVar, newRow]
    · simp at h
  | build T parts =>
    simp only [aop] at h
    split at h
    · rename_i ti ps ht hps
      obtain ⟨hl, hq⟩ := partsV_sound hS hps
      have hl' : ps.length = (parts.map fun (i, x) => (i, a.eval x)).toList.length := by rw [Array.toList_map]; exact hl
      have hq' : ∀ i : Nat, ∀ p, ps[i]? = some p → ∃ v, (parts.map fun (i, x) => (i, a.eval x)).toList[i]? = some (p.1, v) ∧ Rep κ w p.2 v := by rw [Array.toList_map]; exact hq
      split at h
      · rename_i e he
        split at h
        · rename_i ei hei
          cases hf : fillA (fun i => some (i * ei.size, ei.size)) (ti.zero.map ofV) ps with
          | none => simp [hf] at h
          | some cs =>
            simp only [hf, Option.bind_some] at h
            obtain ⟨v, e1, e2⟩ := build_array ht he hei hf hl' hq'
            exact OpOk.value hI h ⟨v, by simp [execOp, e1], e2⟩
        · simp at h
      · split at h
        · rename_i hst
          cases hf : fillA (partAtT P T) (ti.zero.map ofV) ps with
          | none => simp [hf] at h
          | some cs =>
            simp only [hf, Option.bind_some] at h
            obtain ⟨v, e1, e2⟩ := build_struct ht hst hf hl' hq'
            exact OpOk.value hI h ⟨v, by simp [execOp, e1], e2⟩
        · simp at h
    · simp at h
  | buildSlice T m parts =>
    simp only [aop] at h
    split at h
    · rename_i e he
      split at h
      · rename_i ei ps hei hps
        split at h
        · rename_i hc
          obtain rfl := Option.some.inj h
          obtain ⟨hl, hq⟩ := partsV_sound hS hps
          have hl' : ps.length = (parts.map fun (i, x) => (i, a.eval x)).toList.length := by rw [Array.toList_map]; exact hl
          have hq' : ∀ i : Nat, ∀ p, ps[i]? = some p → ∃ v, (parts.map fun (i, x) => (i, a.eval x)).toList[i]? = some (p.1, v) ∧ Rep κ w p.2 v := by rw [Array.toList_map]; exact hq
          obtain ⟨κ', w', k1, k2, k3, x, k4, v, k5, k6⟩ := buildSlice_sound (mode := (dst.map md).getD .dflt) hI he hei hc.1 hc.2 hl' hq'
          exact OpOk.some k1 k2 k3 k4 ⟨v, by simp [execOp, k5], k6⟩
        · simp at h
      · simp at h
    · simp at h
  | load T x =>
    simp only [aop] at h
    split at h
    · rename_i ti ht
      obtain ⟨e1, e2, y, e3, v, e4, e5⟩ := aload_sound (P := P) hI ht h (evalO_rep hS x)
      exact OpOk.same hI e1 e2 ⟨_, e3, v, by simp [execOp, e4], e5⟩
    · simp at h
  | store T x y =>
    simp only [aop] at h
    split at h
    · rename_i ti c ht hc
      obtain ⟨e1, w', e2, e3, e4⟩ := astore_sound (P := P) hI ht h (Rep.of_eval hS hc) (evalO_rep hS x)
      refine ⟨κ, w', e3, LExt.refl _, e4, ?_⟩
      rw [e1]
      simp [execOp, e2]
    · simp at h
  | nilCheck x =>
    have hx := evalO_rep hS x
    simp only [aop] at h
    split at h
    · rename_i cs o tag hc
      rw [hc] at hx
      refine OpOk.value hI h ⟨a.eval x, ?_, hx⟩
      obtain ⟨p, hp⟩ := Rep.ptr_some hx (.inl ⟨_, _, _, rfl⟩)
      simp [execOp, hp]
    · rename_i id o hc
      rw [hc] at hx
      refine OpOk.value hI h ⟨a.eval x, ?_, hx⟩
      obtain ⟨p, hp⟩ := Rep.ptr_some hx (.inr ⟨_, _, rfl⟩)
      simp [execOp, hp]
    · rename_i s v o hc
      rw [hc] at hx
      refine OpOk.value hI h ⟨a.eval x, ?_, hx⟩
      obtain ⟨_, _, _, _, _, p, hp⟩ := hx
      simp [execOp, hp]
    · rename_i id m o hc
      rw [hc] at hx
      refine OpOk.value hI h ⟨a.eval x, ?_, hx⟩
      obtain ⟨_, _, _, _, p, hp⟩ := hx
      simp [execOp, hp]
    · rename_i f cap hc
      rw [hc] at hx
      refine OpOk.value hI h ⟨a.eval x, ?_, hx⟩
      have hx' : Rep κ w (.func f cap) (a.eval x) := hx
      generalize hv : a.eval x = v at hx'
      cases hx'
      simp [execOp, hv]
    · simp at h
  | binOp op T x y yT =>
    simp only [aop] at h
    split at h
    · rename_i c d hc hd
      cases hr : abin P op T c d with
      | none => simp [hr] at h
      | some r =>
        simp only [hr, Option.bind_some] at h
        obtain ⟨g1, v, g2, g3⟩ := abin_sound hI (Rep.of_eval hS hc) (Rep.of_eval hS hd) hr
        exact OpOk.value hI h ⟨v, by simp [execOp, g1, g2], g3⟩
    · simp at h
  | unOp op T x =>
    simp only [aop] at h
    split at h
    · rename_i c hc
      have hx := Rep.of_eval hS hc
      cases hr : aun op c with
      | none => simp [hr] at h
      | some r =>
        simp only [hr, Option.bind_some] at h
        unfold aun at hr
        split at hr
        · have := boolval hx
          split at hr
          · obtain rfl := Option.some.inj hr
            exact OpOk.value hI h ⟨_, by simp [execOp, this, Op.unary], .bool _⟩
          · simp at hr
        · have := intval hx
          split at hr
          · obtain rfl := Option.some.inj hr
            exact OpOk.value hI h ⟨_, by simp [execOp, this, Op.unary, Op.intArith], .int _ _⟩
          · simp at hr
        · simp at hr
    · simp at h
  | convert S D x =>
    simp only [aop] at h
    split at h
    · rename_i c hc
      cases hr : aconvert P S D c with
      | none => simp [hr] at h
      | some r =>
        simp only [hr, Option.bind_some] at h
        obtain ⟨v, g1, g2⟩ := aconvert_sound hr (Rep.of_eval hS hc)
        exact OpOk.value hI h ⟨v, by simp [execOp, g1], g2⟩
    · simp at h
  | makeFunc fn first cap =>
    cases fn with
    | func f =>
      simp only [aop] at h
      split at h
      · rename_i hf
        split at h
        · rename_i c hc
          obtain ⟨g1, g2⟩ := asVs_sound hS hc
          have hf0 : first = #[] := Array.eq_empty_of_size_eq_zero hf
          refine OpOk.value hI h ⟨.func (.func f) #[] (cap.map a.eval), by simp [execOp, Instr.makeFunc, hf0], ?_⟩
          refine Rep.func f c _ (by simpa using g1.symm) (fun i d hd => ?_)
          have := g2 i d hd
          rw [Array.getD_eq_getD_getElem?]
          simpa using this
        · simp at h
      · simp at h
    | _ => simp [aop] at h
  | fieldAddr T x f =>
    simp only [aop] at h
    split at h
    · rename_i off sz hp
      split at h
      · simp at h
      · rename_i hsz
        cases hao : addOff off (evalO σ.t x) with
        | none => simp [hao] at h
        | some y =>
          simp only [hao, Option.bind_some] at h
          obtain ⟨p, g1, g2⟩ := addOff_sound hao (evalO_rep hS x)
          exact OpOk.value hI h ⟨_, by simp [execOp, g1, run_fieldAt hp hsz], g2⟩
    · simp at h
  | field T x f =>
    simp only [aop] at h
    split at h
    · rename_i off sz cs ti hp hx hti
      cases hr : readCells ti.agg ti.size cs off with
      | none => simp [hr] at h
      | some r =>
        simp only [hr, Option.bind_some] at h
        obtain ⟨fs, g, i, hu, hg, hi, rfl, _⟩ := partAtT_spec hp
        rw [hu] at hti
        simp only [hg, Option.bind_some] at hti
        have hx := Rep.of_eval hS hx
        generalize hv : a.eval x = v at hx
        cases hx with
        | agg _ vs hl h1 hh =>
        obtain ⟨v', g1, g2⟩ := part_sound (P := P) hti (.agg cs vs hl h1 hh) hr
        refine OpOk.value hI h ⟨v', ?_, g2⟩
        simp [execOp, hv, Instr.field, underlying, hu, hg, asAgg, g1]
    · simp at h
  | indexAddr T x i =>
    simp only [aop] at h
    split at h
    · rename_i k m hi
      have hk := intval (Rep.of_eval hS hi)
      obtain ⟨e1, e2, y, e3, v, e4, e5⟩ := aindexAddr_sound (P := P) (k := k) hI h (evalO_rep hS x)
      exact OpOk.same hI e1 e2 ⟨_, e3, v, by simp [execOp, hk, e4], e5⟩
    · simp at h
  | index T x i =>
    simp only [aop] at h
    split at h
    · rename_i l k m hx hi
      split at h
      · rename_i hT
        have hu := isStrT_spec hT
        split at h
        · rename_i b hb
          split at hb
          · rename_i h0
            refine OpOk.value hI h ⟨.int .u8 b.toNat, ?_, .int _ _⟩
            simp [execOp, strval (Rep.of_eval hS hx), intval (Rep.of_eval hS hi), Instr.index, asIntOf, underlying, hu, h0, str_get, hb]
          · simp at hb
        · simp at h
      · simp at h
    · rename_i cs k m hx hi
      split at h
      · rename_i len e he
        have hu := arrT_spec he
        split at h
        · rename_i ti ht
          obtain ⟨_, _, _, hsz, _⟩ := tinfo_spec ht
          split at h
          · rename_i hb
            cases hr : readCells ti.agg ti.size cs (m.toNat * ti.size) with
            | none => simp [hr] at h
            | some r =>
              simp only [hr, Option.bind_some] at h
              have hxx := Rep.of_eval hS hx
              generalize hv : a.eval x = v at hxx
              cases hxx with
              | agg _ vs hl h1 hh =>
              obtain ⟨v', g1, g2⟩ := part_sound (P := P) ht (.agg cs vs hl h1 hh) hr
              refine OpOk.value hI h ⟨v', ?_, g2⟩
              simp [execOp, hv, intval (Rep.of_eval hS hi), Instr.index, asIntOf, underlying, hu, hb, hsz, g1]
          · simp at h
        · simp at h
      · simp at h
    · simp at h
  | extract x i =>
    simp only [aop] at h
    split at h
    · rename_i vs hx
      split at h
      · rename_i c hc
        have hxx := Rep.of_eval hS hx
        generalize hv : a.eval x = v at hxx
        cases hxx with
        | tuple _ us hl hh =>
        have hlt : i < us.size := by rw [hl]; exact (List.getElem?_eq_some_iff.1 hc).1
        refine OpOk.value hI h ⟨us.getD i undef, ?_, hh i c hc⟩
        simp [execOp, hv, Instr.extract, hlt, Array.getD]
      · simp at h
    · simp at h
  | slice T x lo hi mx =>
    cases mx with
    | none =>
      simp only [aop] at h
      obtain ⟨e1, e2, y, e3, v, e4, e5⟩ := aslice_sound (P := P) hS h (evalO_rep hS x)
      exact OpOk.same hI e1 e2 ⟨_, e3, v, by simp [execOp, e4], e5⟩
    | some m => simp [aop] at h
  | makeSlice T m c =>
    simp only [aop] at h
    split at h
    · rename_i e k m' k' c' he hm hc
      split at h
      · rename_i ti ht
        split at h
        · rename_i hcond
          obtain ⟨c1, c2, rfl, c4, c5, c6⟩ := hcond
          obtain rfl := Option.some.inj h
          obtain ⟨κ', w', k1, k2, k3, x, k4, v, k5, k6⟩ := makeSlice_sound (mode := (dst.map md).getD .dflt) (k := k) (k' := k') hI he ht c1 c2 c4 c5 c6 _ rfl
          exact OpOk.some k1 k2 k3 k4 ⟨v, by simp [execOp, intval (Rep.of_eval hS hm), intval (Rep.of_eval hS hc), k5], k6⟩
        · simp at h
      · simp at h
    · simp at h
  | call c =>
    obtain ⟨callee, args, argTypes⟩ := c
    cases callee with
    | builtin b =>
      obtain ⟨args⟩ := args
      cases b with
      | len =>
        simp only [aop] at h
        split at h
        · rename_i l T hargs hT
          obtain ⟨p, rfl, hp⟩ := args_one hargs
          split at h
          · rename_i hst
            refine OpOk.value hI h ⟨_, ?_, .int .i64 l.length⟩
            simp [execOp, resolve, invoke, builtin, Builtin.len_, hT, strval (Rep.of_eval hS hp), underlying, isStrT_spec hst, goInt, str_size]
          · simp at h
        · rename_i es own T hargs hT
          obtain ⟨p, rfl, hp⟩ := args_one hargs
          split at h
          · rename_i hst
            obtain ⟨e, he⟩ := Option.isSome_iff_exists.1 hst
            have hx := Rep.of_eval hS hp
            generalize hv : a.eval p = v at hx
            cases hx
            refine OpOk.value hI h ⟨_, ?_, .int .i64 es.length⟩
            simp [execOp, resolve, invoke, builtin, Builtin.len_, hT, hv, underlying, sliceT_spec he, goInt]
          · simp at h
        · rename_i id m T hargs hT
          obtain ⟨p, rfl, hp⟩ := args_one hargs
          split at h
          · rename_i hst
            obtain ⟨e, he⟩ := Option.isSome_iff_exists.1 hst
            have hx := Rep.of_eval hS hp
            generalize hv : a.eval p = v at hx
            cases hx
            refine OpOk.value hI h ⟨_, ?_, .int .i64 m⟩
            simp [execOp, resolve, invoke, builtin, Builtin.len_, hT, hv, underlying, sliceT_spec he, goInt]
          · simp at h
        · simp at h
      | min =>
        simp only [aop] at h
        split at h
        · rename_i c d hargs
          obtain ⟨p, q, rfl, hp, hq⟩ := args_two hargs
          cases hr : amin2 false c d with
          | none => simp [hr] at h
          | some r =>
            simp only [hr, Option.bind_some] at h
            obtain ⟨v, g1, g2⟩ := (amin2_sound (P := P) (T := argTypes) (t := ty) (Rep.of_eval hS hp) (Rep.of_eval hS hq)).1 hr
            exact OpOk.value hI h ⟨v, by simp [execOp, resolve, invoke, builtin, g1], g2⟩
        · simp at h
      | max =>
        simp only [aop] at h
        split at h
        · rename_i c d hargs
          obtain ⟨p, q, rfl, hp, hq⟩ := args_two hargs
          cases hr : amin2 true c d with
          | none => simp [hr] at h
          | some r =>
            simp only [hr, Option.bind_some] at h
            obtain ⟨v, g1, g2⟩ := (amin2_sound (P := P) (T := argTypes) (t := ty) (Rep.of_eval hS hp) (Rep.of_eval hS hq)).2 hr
            exact OpOk.value hI h ⟨v, by simp [execOp, resolve, invoke, builtin, g1], g2⟩
        · simp at h
      | append =>
        simp only [aop] at h
        split at h
        · rename_i s x T U hargs hT hU
          obtain ⟨p, q, rfl, hp, hq⟩ := args_two hargs
          split at h
          · rename_i hsU
            obtain ⟨κ', w', k1, k2, k3, y, k4, v, k5, k6⟩ := aappend_sound (P := P) (ty := ty) hI h hT hU hsU (Rep.of_eval hS hp) (Rep.of_eval hS hq)
            exact OpOk.some k1 k2 k3 k4 ⟨v, by simp [execOp, resolve, invoke, builtin, k5], k6⟩
          · simp at h
        · simp at h
      | _ => simp [aop] at h
    | _ => simp [aop] at h
  | _ => simp [aop] at h

end Go.Proofs.Ytnjaagfhaooapaa.Eng
