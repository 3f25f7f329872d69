/- ENGINE 10: conversions, literals of structs and arrays, rows of captured values. -/
import Derived.Test.YtnjaagfhaooapaaE9
namespace Go.Proofs.Ytnjaagfhaooapaa.Eng
set_option linter.unusedVariables false
set_option linter.unusedSimpArgs false
set_option linter.unnecessarySimpa false
set_option linter.constructorNameAsVariable false
open Go Go.RowKit

theorem hasT_spec {P : Program} {T : Nat} (h : hasT P T = true) : ∃ d, P.underlying T = some d := by
  unfold hasT at h
  exact Option.isSome_iff_exists.1 h

theorem bytesOf_spec {κ : Conc} {w : World} : ∀ {es : List AV} {bs : List UInt8}, bytesOf es = some bs → ∃ ns : List Int, es = ns.map (AV.int .u8) ∧ bs = ns.map fun n => UInt8.ofNat n.toNat
  | [], bs, h => by simp [bytesOf] at h; subst h; exact ⟨[], rfl, rfl⟩
  | e :: es, bs, h => by
    simp only [bytesOf] at h
    split at h
    · rename_i b bs' hb hbs
      obtain rfl := Option.some.inj h
      obtain ⟨ns, rfl, rfl⟩ := bytesOf_spec (κ := κ) (w := w) hbs
      unfold byteOf at hb
      split at hb
      · rename_i n
        obtain rfl := Option.some.inj hb
        exact ⟨n :: ns, rfl, rfl⟩
      · simp at hb
    · simp at h

theorem flat_ints (ns : List Int) : (ns.map (AV.int .u8)).flatMap AV.cells = ns.map (AV.int .u8) := by
  induction ns with
  | nil => rfl
  | cons n ns ih => simp [AV.cells, ih]

theorem aconvert_sound {P : Program} {κ : Conc} {w : World} {S D : Nat} {a r : AV} {v : Value} (h : aconvert P S D a = some r) (hr : Rep κ w a v) : ∃ v', (convert S D v).run P w = .ok v' w ∧ Rep κ w r v' := by
  unfold aconvert at h
  split at h
  · split at h
    · rename_i hS
      obtain ⟨d, hd⟩ := hasT_spec hS
      cases hk : kindT P D with
      | none => simp [hk] at h
      | some k =>
        simp [hk] at h; subst h
        have hu := kindT_spec hk
        cases hr
        refine ⟨_, ?_, .int _ _⟩
        simp [convert, underlying, hd, hu, Conv.intToInt]
    · simp at h
  · split at h
    · rename_i hS
      simp at hS
      obtain ⟨d, hd⟩ := hasT_spec hS.1
      have hu := isStrT_spec hS.2
      obtain rfl := Option.some.inj h
      cases hr
      refine ⟨_, ?_, .str _⟩
      simp [convert, underlying, hd, hu]
    · simp at h
  · rename_i es own
    split at h
    · rename_i e he
      have hs := sliceT_spec he
      split at h
      · rename_i hc
        have hk := kindT_spec hc.1
        have hu := isStrT_spec hc.2
        cases hb : bytesOf es with
        | none => simp [hb] at h
        | some bs =>
          simp [hb] at h; subst h
          obtain ⟨ns, rfl, rfl⟩ := bytesOf_spec (κ := κ) (w := w) hb
          cases hr with
          | slice _ _ ad0 cap b o sz f ha hcap hss hz h1 hcc hh ho =>
          have hfin : (.string (strOfNums ns) : Value) = .string ⟨(ns.map fun n => UInt8.ofNat n.toNat).toArray⟩ := rfl
          by_cases hne : ns = []
          · subst hne
            refine ⟨.string ByteArray.empty, ?_, ?_⟩
            · cases ad0 with
              | none => exact run_convert_bytes_nil w S e hs hk _ _ D hu
              | some p =>
                rw [run_convert_bytes_string w S D e _ _ _ hs hk hu]
                simp [Conv.bytesToString, loadCells, loadCellsFrom]
            · exact Rep.str []
          · obtain rfl := ha (by simpa using hne)
            refine ⟨_, run_convert_bytes_arg w S e hs hk b o _ cap ns (by simp) (fun i hi => ?_) D hu, ?_⟩
            · have hsz : sz = 1 := by
                obtain ⟨z, hz⟩ := List.exists_mem_of_ne_nil ns hne
                exact (hss (.int .u8 z) (by simp; exact hz)).symm
              subst hsz
              have h2 := (hcc i (by simpa using hi)).2
              rw [h2]
              have hi' : i < ns.length := by simpa using hi
              have h3 := hh i (.int .u8 ns[i]) (by
                rw [flat_ints]; simp [hi'])
              generalize f i = z at h3 ⊢
              cases h3
              simp [hi']
            · rw [hfin]; exact Rep.str _
      · simp at h
    · simp at h
  · simp at h

/-- Cells in hand stand for abstract cells. -/
def CR (κ : Conc) (w : World) (cs : List AV) (vs : Array Value) : Prop :=
  vs.size = cs.length ∧ (∀ c ∈ cs, c.one = true) ∧ ∀ i c, cs[i]? = some c → Rep κ w c (vs.getD i undef)

theorem CR.agg {κ : Conc} {w : World} {cs : List AV} {vs : Array Value} (h : CR κ w cs vs) : Rep κ w (.agg cs) (.agg vs) := .agg cs vs h.1 h.2.1 h.2.2

theorem Rep.cr {κ : Conc} {w : World} {a : AV} {v : Value} (h : Rep κ w a v) (hne : a.cells ≠ []) : CR κ w a.cells v.cells :=
  let ⟨h1, h2, h3, _⟩ := h.cells hne
  ⟨h1, h3, h2⟩

theorem fold_set (off : Nat) (vs : List Value) : ∀ (k : Nat) (cells : Array Value), off + k + vs.length ≤ cells.size →
    ((vs.zipIdx k).foldl (fun cs (c, j) => cs.setIfInBounds (off + j) c) cells).size = cells.size ∧
    ∀ i, ((vs.zipIdx k).foldl (fun cs (c, j) => cs.setIfInBounds (off + j) c) cells)[i]? = if off + k ≤ i ∧ i < off + k + vs.length then vs[i - (off + k)]? else cells[i]? := by
  induction vs with
  | nil => intro k cells h; simp; omega
  | cons v vs ih =>
    intro k cells h
    simp only [List.length_cons] at h
    simp only [List.zipIdx_cons, List.foldl_cons]
    obtain ⟨h1, h2⟩ := ih (k + 1) (cells.setIfInBounds (off + k) v) (by simp; omega)
    refine ⟨by rw [h1]; simp, fun i => ?_⟩
    rw [h2 i]
    by_cases hi : i = off + k
    · subst hi
      rw [if_neg (by omega), if_pos (by simp)]
      simp [Array.getElem?_setIfInBounds, show off + k < cells.size by omega]
    · by_cases hj : off + (k + 1) ≤ i ∧ i < off + (k + 1) + vs.length
      · rw [if_pos hj, if_pos (by simp; omega), show i - (off + k) = (i - (off + (k + 1))) + 1 by omega]
        simp
      · rw [if_neg hj, if_neg (by simp; omega), Array.getElem?_setIfInBounds_ne (by omega)]

theorem CR.splice {κ : Conc} {w : World} {cs xs : List AV} {vs us : Array Value} {off : Nat} (h : CR κ w cs vs) (k : CR κ w xs us) (hl : off + xs.length ≤ cs.length) :
    CR κ w (splice cs off xs) (us.zipIdx.foldl (fun cs (c, j) => cs.setIfInBounds (off + j) c) vs) := by
  have e : us.zipIdx.foldl (fun cs (c, j) => cs.setIfInBounds (off + j) c) vs = (us.toList.zipIdx 0).foldl (fun cs (c, j) => cs.setIfInBounds (off + j) c) vs := by
    rw [← Array.foldl_toList]; simp
  obtain ⟨h1, h2⟩ := fold_set off us.toList 0 vs (by have := h.1; have := k.1; simp; omega)
  rw [e]
  have hlen : (Eng.splice cs off xs).length = cs.length := by simp [Eng.splice]; omega
  refine ⟨by rw [h1, hlen]; exact h.1, ?_, fun i c hc => ?_⟩
  · intro c hc
    simp only [Eng.splice, List.mem_append] at hc
    rcases hc with (hc | hc) | hc
    · exact h.2.1 c (List.mem_of_mem_take hc)
    · exact k.2.1 c hc
    · exact h.2.1 c (List.mem_of_mem_drop hc)
  · rw [Array.getD_eq_getD_getElem?, h2 i]
    have hk := k.1
    simp only [Eng.splice] at hc
    by_cases ha : i < off
    · rw [if_neg (by omega)]
      rw [List.getElem?_append_left (by simp; omega), List.getElem?_append_left (by simp; omega), List.getElem?_take_of_lt ha] at hc
      have := h.2.2 i c hc
      rwa [Array.getD_eq_getD_getElem?] at this
    · by_cases hb : i < off + xs.length
      · rw [if_pos (by simp; omega)]
        rw [List.getElem?_append_left (by simp; omega), List.getElem?_append_right (by simp; omega)] at hc
        have hm : min off cs.length = off := by omega
        simp only [List.length_take, hm] at hc
        have := k.2.2 _ c hc
        rw [Array.getD_eq_getD_getElem?] at this
        simpa using this
      · rw [if_neg (by simp; omega)]
        rw [List.getElem?_append_right (by simp; omega)] at hc
        simp only [List.length_append, List.length_take, List.getElem?_drop] at hc
        rw [show off + xs.length + (i - (min off cs.length + xs.length)) = i by omega] at hc
        have := h.2.2 i c hc
        rwa [Array.getD_eq_getD_getElem?] at this

theorem fillA_sound {κ : Conc} {w : World} {place : Nat → Option (Nat × Nat)} {vals : Nat → Value} : ∀ {ps : List (Nat × AV)} {qs : List (Nat × Value)} {cells r : List AV} {vs : Array Value},
    fillA place cells ps = some r → CR κ w cells vs → ps.length = qs.length → (∀ i : Nat, ∀ p, ps[i]? = some p → ∃ v, qs[i]? = some (p.1, v) ∧ Rep κ w p.2 v) →
    ∃ us, Instr.fill place vs qs = some us ∧ CR κ w r us
  | [], [], cells, r, vs, h, hc, _, _ => by
    simp [fillA] at h; subst h; exact ⟨vs, rfl, hc⟩
  | (i, x) :: ps, q :: qs, cells, r, vs, h, hc, hl, hq => by
    obtain ⟨v, hv, hr⟩ := hq 0 _ rfl
    simp at hv; subst hv
    simp only [fillA] at h
    split at h
    · simp at h
    · rename_i off size hp
      split at h
      · rename_i hcond
        have hne : x.cells ≠ [] := by intro e; rw [e] at hcond; simp at hcond; omega
        have hx := hr.cr hne
        have hs : v.cells.size = size := hx.1.trans hcond.1
        obtain ⟨us, e1, e2⟩ := fillA_sound (vals := vals) h (hc.splice hx (by rw [hcond.1]; exact hcond.2.2)) (by simpa using hl) (fun i p hp => hq (i + 1) p (by simpa using hp))
        refine ⟨us, ?_, e2⟩
        have hcs := hc.1
        simp only [Instr.fill, hp]
        rw [if_neg (by simp [hs]; omega)]
        exact e1
      · simp at h
  | [], _ :: _, _, _, _, _, _, hl, _ => by simp at hl
  | _ :: _, [], _, _, _, _, _, hl, _ => by simp at hl

theorem partsV_sound {κ : Conc} {W : World} {n : Nat} {w : World} {σ : St} {a : Act} (hS : SRep W n κ σ a w) : ∀ {l : List (Nat × Operand)} {ps : List (Nat × AV)}, partsV (evalO σ.t) l = some ps →
    ps.length = (l.map fun (i, x) => (i, a.eval x)).length ∧ ∀ i : Nat, ∀ p, ps[i]? = some p → ∃ v, (l.map fun (i, x) => (i, a.eval x))[i]? = some (p.1, v) ∧ Rep κ w p.2 v
  | [], ps, h => by simp [partsV] at h; subst h; simp
  | (i, x) :: l, ps, h => by
    simp only [partsV] at h
    split at h
    · rename_i c cs hc hcs
      obtain rfl := Option.some.inj h
      obtain ⟨h1, h2⟩ := partsV_sound hS hcs
      refine ⟨by simpa using h1, fun j p hp => ?_⟩
      cases j with
      | zero =>
        simp at hp; subst hp
        have := evalO_rep hS x
        unfold asV at hc
        split at hc
        · rename_i y hy
          obtain rfl := Option.some.inj hc
          rw [hy] at this
          exact ⟨a.eval x, rfl, this⟩
        · simp at hc
      | succ j => simpa using h2 j p (by simpa using hp)
    · simp at h

theorem zero_cr {P : Program} {κ : Conc} {w : World} {T : Nat} {ti : TI} (ht : tinfo P T = some ti) : ∃ z, (∀ w, (zeroValue T).run P w = .ok z w) ∧ CR κ w (ti.zero.map ofV) z.cells := by
  obtain ⟨i, z, _, _, _, hz, e1, e2, e3, _⟩ := tinfo_spec ht
  have one : ∀ v : Value, v.oneCell' = true → (ofV v).one = true ∧ Rep κ w (ofV v) v := by
    intro v hv
    cases v with
    | agg _ => simp [Value.oneCell'] at hv
    | tuple _ => simp [Value.oneCell'] at hv
    | bool b => exact ⟨rfl, .bool b⟩
    | int k n => exact ⟨rfl, .int k n⟩
    | string s =>
      refine ⟨rfl, ?_⟩
      have := Rep.str (κ := κ) (w := w) s.data.toList
      simpa [ofV] using this
    | pointer p =>
      cases p with
      | none => exact ⟨rfl, .nilp⟩
      | some p => exact ⟨rfl, .any _ rfl⟩
    | slice p l c =>
      match p, l, c with
      | none, 0, 0 => exact ⟨rfl, .slice [] .full none 0 0 0 1 (fun _ => undef) (fun h => absurd rfl h) (Nat.le_refl _) (fun e h => by cases h) (by decide) (fun e h => by cases h) (fun i hi => by simp at hi) (fun i c h => by simp at h) ⟨none, rfl⟩⟩
      | some _, _, _ => exact ⟨rfl, .any _ rfl⟩
      | none, _ + 1, _ => exact ⟨rfl, .any _ rfl⟩
      | none, 0, _ + 1 => exact ⟨rfl, .any _ rfl⟩
    | _ => exact ⟨rfl, .any _ rfl⟩
  refine ⟨z, hz, ?_, ?_, ?_⟩
  · rw [List.length_map, ← e1]; simp
  · intro c hc
    obtain ⟨v, hv, rfl⟩ := List.mem_map.1 hc
    exact (one v (e3 v hv)).1
  · intro i c hc
    rw [List.getElem?_map] at hc
    cases hv : ti.zero[i]? with
    | none => simp [hv] at hc
    | some v =>
      simp [hv] at hc; subst hc
      have := (one v (e3 v (getElem?_mem hv))).2
      rw [Array.getD_eq_getD_getElem?, ← Array.getElem?_toList, e1, hv]
      exact this

theorem run_places {P : Program} {w : World} : ∀ (fs : List Field), (∀ f ∈ fs, (P.info? f.type).isSome = true) →
    (fs.mapM (m := Sem) fun f => do pure (f.offset, ← sizeOf f.type)).run P w = .ok (fs.map fun f => (f.offset, ((P.info? f.type).map (·.size)).getD 0)) w
  | [], _ => rfl
  | f :: fs, h => by
    obtain ⟨i, hi⟩ := Option.isSome_iff_exists.1 (h f (by simp))
    have ih := run_places (P := P) (w := w) fs (fun g hg => h g (by simp [hg]))
    simp [List.mapM_cons, sizeOf, typeInfo, hi] at ih ⊢
    rw [ih]
    simp

theorem build_struct {P : Program} {κ : Conc} {w : World} {T : Nat} {ti : TI} {ps : List (Nat × AV)} {qs : Array (Nat × Value)} {cs : List AV} (ht : tinfo P T = some ti) (hs : isStructT P T = true) (h : fillA (partAtT P T) (ti.zero.map ofV) ps = some cs)
    (hl : ps.length = qs.toList.length) (hq : ∀ i : Nat, ∀ p, ps[i]? = some p → ∃ v, qs.toList[i]? = some (p.1, v) ∧ Rep κ w p.2 v) :
    ∃ v, (Instr.build T qs).run P w = .ok v w ∧ Rep κ w (.agg cs) v := by
  obtain ⟨z, hz, hcr⟩ := zero_cr (κ := κ) (w := w) ht
  unfold isStructT at hs
  split at hs
  · rename_i fs hu
    have hall : ∀ f ∈ fs.toList, (P.info? f.type).isSome = true := List.all_eq_true.1 hs
    obtain ⟨us, e1, e2⟩ := fillA_sound (vals := fun _ => undef) h hcr hl hq
    have hp : (fs.mapM (m := Sem) fun f => do pure (f.offset, ← sizeOf f.type)).run P w = .ok (fs.map fun f => (f.offset, ((P.info? f.type).map (·.size)).getD 0)) w := by
      rw [Array.mapM_eq_mapM_toList]
      rw [Sem.run_map, run_places fs.toList hall]
      simp only [Result.andThen_ok]
      rw [← Array.toList_map]
    have hplace : ((fs.map fun f => (f.offset, ((P.info? f.type).map (·.size)).getD 0))[·]?) = partAtT P T := by
      funext i
      simp only [partAtT, hu, Array.getElem?_map]
      cases hf : fs[i]? with
      | none => rfl
      | some f =>
        obtain ⟨j, hj⟩ := Option.isSome_iff_exists.1 (hall f (by simpa using Array.mem_of_getElem? hf))
        simp [hj]
    refine ⟨.agg us, ?_, e2.agg⟩
    simp only [Instr.build, Sem.run_bind, hz, Result.andThen_ok, underlying, run_program, hu, Sem.run_pure]
    simp only [hp, Result.andThen_ok, hplace, e1, Sem.run_pure]
  · simp at hs

theorem build_array {P : Program} {κ : Conc} {w : World} {T n e : Nat} {ti ei : TI} {ps : List (Nat × AV)} {qs : Array (Nat × Value)} {cs : List AV} (ht : tinfo P T = some ti) (ha : arrT P T = some (n, e)) (he : tinfo P e = some ei)
    (h : fillA (fun i => some (i * ei.size, ei.size)) (ti.zero.map ofV) ps = some cs)
    (hl : ps.length = qs.toList.length) (hq : ∀ i : Nat, ∀ p, ps[i]? = some p → ∃ v, qs.toList[i]? = some (p.1, v) ∧ Rep κ w p.2 v) :
    ∃ v, (Instr.build T qs).run P w = .ok v w ∧ Rep κ w (.agg cs) v := by
  obtain ⟨z, hz, hcr⟩ := zero_cr (κ := κ) (w := w) ht
  obtain ⟨_, _, _, hsz, _⟩ := tinfo_spec he
  have hu := arrT_spec ha
  obtain ⟨us, e1, e2⟩ := fillA_sound (vals := fun _ => undef) h hcr hl hq
  refine ⟨.agg us, ?_, e2.agg⟩
  simp only [Instr.build, Sem.run_bind, hz, Result.andThen_ok, underlying, run_program, hu, Sem.run_pure, hsz, e1]

end Go.Proofs.Ytnjaagfhaooapaa.Eng
