/- ENGINE 17: rows made of literals and by make. -/
import Derived.Test.YtnjaagfhaooapaaE16
namespace Go.Proofs.Ytnjaagfhaooapaa.Eng
set_option linter.unusedVariables false
set_option linter.unusedSimpArgs false
set_option linter.unnecessarySimpa false
set_option linter.constructorNameAsVariable false
open Go Go.RowKit

theorem fill_row {sz : Nat} (hz : sz ≠ 0) : ∀ (qs : List (Nat × Value)) (k : Nat) (vs : Array Value), (∀ j q, qs[j]? = some q → q.1 = k + j ∧ q.2.cells.size = sz) → vs.size = (k + qs.length) * sz →
    ∃ us, Instr.fill (fun i => some (i * sz, sz)) vs qs = some us ∧ us.size = vs.size ∧ (∀ i, i < k * sz → us[i]? = vs[i]?) ∧ ∀ (j : Nat) (q : Nat × Value), qs[j]? = some q → ∀ i, i < sz → us[(k + j) * sz + i]? = q.2.cells[i]?
  | [], k, vs, _, _ => ⟨vs, rfl, rfl, fun _ _ => rfl, fun j q h => by simp at h⟩
  | q :: qs, k, vs, h, hs => by
    obtain ⟨h1, h2⟩ := h 0 q rfl
    obtain ⟨i0, v⟩ := q
    simp only [Nat.add_zero] at h1 h2
    subst h1
    simp only [List.length_cons] at hs
    have e : v.cells.zipIdx.foldl (fun cs (c, j) => cs.setIfInBounds (i0 * sz + j) c) vs = (v.cells.toList.zipIdx 0).foldl (fun cs (c, j) => cs.setIfInBounds (i0 * sz + j) c) vs := by
      rw [← Array.foldl_toList]; simp
    have hroom : i0 * sz + sz ≤ vs.size := by
      rw [hs, Nat.add_mul, Nat.add_mul]; omega
    obtain ⟨g1, g2⟩ := fold_set (i0 * sz) v.cells.toList 0 vs (by simp; omega)
    obtain ⟨us, u1, u2, u3, u4⟩ := fill_row hz qs (i0 + 1) (v.cells.zipIdx.foldl (fun cs (c, j) => cs.setIfInBounds (i0 * sz + j) c) vs)
      (fun j q hq => by obtain ⟨z1, z2⟩ := h (j + 1) q (by simpa using hq); exact ⟨by omega, z2⟩) (by rw [e, g1, hs]; congr 1; omega)
    refine ⟨us, ?_, by rw [u2, e, g1], fun i hi => ?_, fun j q hq i hi => ?_⟩
    · simp only [Instr.fill]
      rw [if_neg (by simp [h2]; omega)]
      exact u1
    · rw [u3 i (by rw [Nat.add_mul]; omega), e, g2 i, if_neg (by omega)]
    · cases j with
      | zero =>
        simp at hq; subst hq
        rw [u3 _ (by have := Nat.succ_mul i0 sz; simp only [Nat.succ_eq_add_one] at this; rw [this, Nat.add_zero]; omega), e, g2, if_pos (by simp; omega)]
        simp
      | succ j =>
        have := u4 j q (by simpa using hq) i hi
        rw [show i0 + (j + 1) = i0 + 1 + j by omega]; exact this

/-- Cells of elements laid one behind the other. -/
theorem cr_of_elems {κ : Conc} {w : World} {sz : Nat} (hz : sz ≠ 0) {es : List AV} {us : Array Value} (hs : ∀ e ∈ es, e.cells.length = sz) (hu : us.size = es.length * sz)
    (h : ∀ (j : Nat) (e : AV), es[j]? = some e → ∃ v : Value, Rep κ w e v ∧ ∀ i, i < sz → us[j * sz + i]? = v.cells[i]?) : CR κ w (es.flatMap AV.cells) us := by
  have hfl := flat_length hs
  refine ⟨by rw [hu, hfl], fun c hc => ?_, fun i c hc => ?_⟩
  · obtain ⟨e, he, hc⟩ := List.mem_flatMap.1 hc
    obtain ⟨j, hj⟩ := mem_getElem? he
    obtain ⟨v, hr, _⟩ := h j e hj
    exact (hr.cells (by intro z; have := hs e he; rw [z] at this; simp at this; omega)).2.2.1 c hc
  · have hlt : i < es.length * sz := by rw [← hfl]; exact (List.getElem?_eq_some_iff.1 hc).1
    have hj : i / sz < es.length := Nat.div_lt_of_lt_mul (by rw [Nat.mul_comm]; exact hlt)
    have hm : i % sz < sz := Nat.mod_lt _ (by omega)
    have hdm : i / sz * sz + i % sz = i := by rw [Nat.mul_comm]; exact Nat.div_add_mod i sz
    have hej : es[i / sz]? = some es[i / sz] := List.getElem?_eq_getElem hj
    obtain ⟨v, hr, hv⟩ := h _ _ hej
    have hlen := hs _ (getElem?_mem hej)
    obtain ⟨r1, r2, _⟩ := hr.cells (by intro z; rw [z] at hlen; simp at hlen; omega)
    have hcell : (es[i / sz]).cells[i % sz]? = some ((es[i / sz]).cells[i % sz]'(by omega)) := List.getElem?_eq_getElem (by omega)
    have := flat_elem hs hej _ _ hcell
    rw [hdm, hc] at this
    injection this with this
    have h3 := r2 _ _ hcell
    have h4 := hv _ hm
    rw [hdm] at h4
    rw [Array.getD_eq_getD_getElem?, h4, ← Array.getD_eq_getD_getElem?, this]
    exact h3

theorem buildSlice_sound {P : Program} {W : World} {κ : Conc} {w : World} {σ : St} {mode : Mode} {T e n : Nat} {ei : TI} {ps : List (Nat × AV)} {qs : Array (Nat × Value)} (hI : Inv W κ w σ.L σ.H) (he : sliceT P T = some e) (ht : tinfo P e = some ei)
    (hin : inParts ps n ei.size = true) (hsmall : n * ei.size ≤ 16777216) (hl : ps.length = qs.toList.length) (hq : ∀ i : Nat, ∀ p, ps[i]? = some p → ∃ v, qs.toList[i]? = some (p.1, v) ∧ Rep κ w p.2 v) :
    ∃ κ' w', Ext κ w κ' w' ∧ LExt κ κ' ∧ Inv W κ' w' (newSlice mode σ (ps.map (·.2)) ei.size .full).L (newSlice mode σ (ps.map (·.2)) ei.size .full).H ∧
      ∃ x, (newSlice mode σ (ps.map (·.2)) ei.size .full).val = some (.v x) ∧ ∃ v, (Instr.buildSlice T n qs).run P w = .ok v w' ∧ Rep κ' w' x v := by
  obtain ⟨i, z, hty, hsz, _, hzv, z1, z2, _, _⟩ := tinfo_spec ht
  have hu := sliceT_spec he
  simp only [inParts, Bool.and_eq_true, bne_iff_ne, ne_eq, beq_iff_eq, List.all_eq_true] at hin
  obtain ⟨⟨⟨hz, hn⟩, hidx⟩, hcl⟩ := hin
  have hzs : z.cells.size = ei.size := by
    have := congrArg List.length z1
    simp at this; omega
  have hqs : ∀ j q, qs.toList[j]? = some q → q.1 = 0 + j ∧ q.2.cells.size = ei.size := fun j q hj => by
    have hlt : j < ps.length := by rw [hl]; exact (List.getElem?_eq_some_iff.1 hj).1
    obtain ⟨v, hv, hr⟩ := hq j ps[j] (List.getElem?_eq_getElem hlt)
    rw [hj] at hv; injection hv with hv; subst hv
    refine ⟨?_, ?_⟩
    · have : (ps.map (·.1))[j]? = (List.range n)[j]? := by rw [hidx]
      rw [List.getElem?_map, List.getElem?_eq_getElem hlt, List.getElem?_range (by omega)] at this
      simpa using this
    · have hc := hcl ps[j] (List.getElem_mem hlt)
      have := (hr.cells (by intro e; rw [e] at hc; simp at hc; omega)).1
      simp; omega
  have hlen : (ps.map (·.2)).length = n := by simpa using hn
  have hall : ∀ e ∈ ps.map (·.2), e.cells.length = ei.size := fun e he => by
    obtain ⟨p, hp, rfl⟩ := List.mem_map.1 he
    exact hcl p hp
  generalize hv0 : (if n * ei.size = 0 then (#[] : Array Value) else z.cells) = zc
  have hbase : ((Array.range (n * ei.size)).map (zc[· % zc.size]!)).size = (0 + qs.toList.length) * ei.size := by simp; rw [← Array.length_toList, ← hl, hn]
  obtain ⟨us, u1, u2, _, u4⟩ := fill_row hz qs.toList 0 _ hqs hbase
  have hus : us.size = n * ei.size := by rw [u2]; simp
  have hcr : CR κ w ((ps.map (·.2)).flatMap AV.cells) us := cr_of_elems hz hall (by rw [hus, hlen]) (fun j e hj => by
    rw [List.getElem?_map] at hj
    cases hp : ps[j]? with
    | none => simp [hp] at hj
    | some p =>
      simp [hp] at hj; subst hj
      obtain ⟨v, hv, hr⟩ := hq j p hp
      refine ⟨v, hr, fun i hi => ?_⟩
      have := u4 j _ hv i hi
      simpa using this)
  obtain ⟨κ', k1, k2, k3, x, k4, k5⟩ := newSlice_sound (mode := mode) (σ := σ) (T := e) hI hall hz ⟨us, #[], by simp, hcr⟩ (cap := n) hus (by omega) (dflt := .full) (.inr ⟨rfl, hlen.symm⟩)
  refine ⟨κ', _, k1, k2, k3, x, k4, _, ?_, by rw [hlen] at k5; exact k5⟩
  have hns : ¬ (n * ei.size > 2 ^ 24) := by omega
  have hrun : ((if n * ei.size = 0 then pure #[] else do pure (← zeroValue e).cells : Sem (Array Value))).run P w = .ok zc w := by
    rw [← hv0]
    split
    · rfl
    · simp [hzv]
  simp only [Instr.buildSlice, Sem.run_bind, underlying, run_program, Result.andThen_ok, hu, Sem.run_pure, hsz, hns, if_false]
  by_cases h0 : n * ei.size = 0
  · rw [if_pos h0] at hv0 ⊢
    subst hv0
    simp only [Sem.run_bind, Sem.run_pure, Result.andThen_ok, u1, newRow, run_newObj]
    rfl
  · rw [if_neg h0] at hv0 ⊢
    subst hv0
    simp only [Sem.run_bind, hzv, Sem.run_pure, Result.andThen_ok, u1, newRow, run_newObj]
    rfl

theorem makeSlice_sound {P : Program} {W : World} {κ : Conc} {w : World} {σ : St} {mode : Mode} {T e : Nat} {ti : TI} {a : Int} {k k' : IntKind} (hI : Inv W κ w σ.L σ.H) (he : sliceT P T = some e) (ht : tinfo P e = some ti)
    (h0 : 0 ≤ a) (h1 : a ≤ lim) (hb : ti.bytes ≤ 128) (hz : ti.size ≠ 0) (hag : ti.agg = true ∨ ti.size = 1) (es : List AV) (hes : es = List.replicate a.toNat (if ti.agg then .agg (ti.zero.map ofV) else (ti.zero.map ofV).headD .any)) :
    ∃ κ' w', Ext κ w κ' w' ∧ LExt κ κ' ∧ Inv W κ' w' (newSlice mode σ es ti.size .full).L (newSlice mode σ es ti.size .full).H ∧
      ∃ x, (newSlice mode σ es ti.size .full).val = some (.v x) ∧ ∃ v, (Instr.makeSlice T (.int k a) (.int k' a)).run P w = .ok v w' ∧ Rep κ' w' x v := by
  obtain ⟨i, z, hty, hsz, _, hzv, z1, z2, _, z4⟩ := tinfo_spec ht
  obtain ⟨z', hz', hcz⟩ := zero_cr (κ := κ) (w := w) ht
  have hzz : z' = z := by have := hz' w; rw [hzv w] at this; injection this with this; exact this.symm
  subst hzz
  have hu := sliceT_spec he
  have hzs : z'.cells.size = ti.size := by
    have := congrArg List.length z1
    simp at this; omega
  have hlim : a ≤ 274877906944 := h1
  -- the element
  have hel : ∀ x, x = (if ti.agg then AV.agg (ti.zero.map ofV) else (ti.zero.map ofV).headD .any) → x.cells = ti.zero.map ofV ∧ ∃ v : Value, Rep κ w x v ∧ v.cells = z'.cells := by
    intro x hx
    rcases hag with hg | hg
    · rw [if_pos hg] at hx; subst hx
      exact ⟨rfl, .agg z'.cells, hcz.agg, rfl⟩
    · by_cases hg' : ti.agg = true
      · rw [if_pos hg'] at hx; subst hx
        exact ⟨rfl, .agg z'.cells, hcz.agg, rfl⟩
      · rw [if_neg hg'] at hx
        obtain ⟨y, hy⟩ : ∃ y, ti.zero.map ofV = [y] := by
          apply List.length_eq_one_iff.1
          rw [List.length_map, z2, hg]
        rw [hy] at hx hcz ⊢
        have hx : x = y := by simpa using hx
        subst hx
        have hone := hcz.2.1 x (by simp)
        have hr := hcz.2.2 0 x rfl
        have hcy : x.cells = [x] := by cases x <;> first | rfl | (simp [AV.one] at hone)
        refine ⟨hcy, z'.cells.getD 0 undef, hr, ?_⟩
        have hv := hr.one hone
        have : ∀ v : Value, v.oneCell' = true → v.cells = #[v] := fun v hv => by cases v <;> first | rfl | (simp [Value.oneCell'] at hv)
        rw [this _ hv]
        have h1 : z'.cells.size = 1 := hcz.1
        apply Array.ext
        · simp [h1]
        · intro j p1 p2
          simp at p1; subst p1
          simp [Array.getD, h1]
  obtain ⟨hc1, v0, hr0, hv0⟩ := hel _ rfl
  have hlen : es.length = a.toNat := by rw [hes]; simp
  have hall : ∀ e ∈ es, e.cells.length = ti.size := fun e he => by
    rw [hes] at he
    rw [List.eq_of_mem_replicate he, hc1, List.length_map, z2]
  have hcr : CR κ w (es.flatMap AV.cells) ((Array.range (a.toNat * ti.size)).map (z'.cells[· % z'.cells.size]!)) := cr_of_elems hz hall (by simp [hlen]) (fun j e hj => by
    have hjl : j < a.toNat := by rw [← hlen]; exact (List.getElem?_eq_some_iff.1 hj).1
    rw [hes] at hj
    have := getElem?_mem hj
    rw [List.eq_of_mem_replicate this]
    refine ⟨v0, hr0, fun i hi => ?_⟩
    have hlt : j * ti.size + i < a.toNat * ti.size := by
      have : (j + 1) * ti.size ≤ a.toNat * ti.size := Nat.mul_le_mul_right _ hjl
      rw [Nat.add_mul] at this; omega
    rw [hv0, Array.getElem?_map, Array.getElem?_range, if_pos hlt, hzs]
    have hm : (j * ti.size + i) % ti.size = i := by rw [Nat.mul_comm, Nat.mul_add_mod]; exact Nat.mod_eq_of_lt hi
    simp [hm, show i < z'.cells.size by omega])
  obtain ⟨κ', k1, k2, k3, x, k4, k5⟩ := newSlice_sound (mode := mode) (σ := σ) (T := e) (vs := (Array.range (a.toNat * ti.size)).map (z'.cells[· % z'.cells.size]!)) hI hall hz ⟨_, #[], (Array.append_empty).symm, hcr⟩ (cap := a.toNat) (by simp) (by omega) (dflt := .full) (.inr ⟨rfl, hlen.symm⟩)
  refine ⟨κ', _, k1, k2, k3, x, k4, _, ?_, by rw [hlen] at k5; exact k5⟩
  have hw : IntKind.i64.wrap a = a := by
    simp only [IntKind.wrap, IntKind.bits, IntKind.signed]
    have : a % 2 ^ 64 = a := Int.emod_eq_of_lt h0 (by omega)
    simp only [this]
    simp; omega
  have hby : i.bytes = ti.bytes := z4
  have hnt : ¬ ((a : Int) < 0 ∨ (i.bytes : Int) * a > 2 ^ 48) := by
    rw [hby]
    have : (ti.bytes : Int) * a ≤ 128 * a := Int.mul_le_mul_of_nonneg_right (by omega) h0
    omega
  have hrun : ((if a.toNat * ti.size = 0 then pure #[] else do pure (← zeroValue e).cells : Sem (Array Value))).run P w = .ok (if a.toNat * ti.size = 0 then #[] else z'.cells) w := by
    split
    · rfl
    · simp [hzv]
  have hcond : ((decide (a < 0) || decide ((i.bytes : Int) * a > 2 ^ 48)) || decide (a < 0) || decide (a > a)) = false := by
    simp; omega
  simp only [Instr.makeSlice, Sem.run_bind, underlying, run_program, Result.andThen_ok, hu, Sem.run_pure, hty, asInt, asIntOf, hw]
  simp only [hcond, Bool.false_eq_true, if_false, Sem.run_bind, run_askRoom, Result.andThen_ok, hsz, hrun, newRow, run_newObj, Sem.run_pure]
  by_cases hzero : a.toNat * ti.size = 0
  · have ha0 : a.toNat = 0 := by
      rcases Nat.mul_eq_zero.1 hzero with h | h
      · exact h
      · exact absurd h hz
    have hr : Array.range 0 = #[] := rfl
    simp [hzero, ha0, hr]
  · simp [hzero, hzv]

end Go.Proofs.Ytnjaagfhaooapaa.Eng
