/- ENGINE 15: append, all cases. -/
import Derived.Test.YtnjaagfhaooapaaE14
namespace Go.Proofs.Ytnjaagfhaooapaa.Eng
set_option linter.unusedVariables false
set_option linter.unusedSimpArgs false
set_option linter.unnecessarySimpa false
set_option linter.constructorNameAsVariable false
open Go Go.RowKit

theorem flat_app (a b : List AV) : (a ++ b).flatMap AV.cells = a.flatMap AV.cells ++ b.flatMap AV.cells := by simp

/-- The conclusion of append. -/
def AppOk (P : Program) (W : World) (κ : Conc) (w : World) (argTypes : Array TypeId) (ty : Nat) (vs vx : Value) (u : Out) : Prop :=
  ∃ κ' w', Ext κ w κ' w' ∧ LExt κ κ' ∧ Inv W κ' w' u.L u.H ∧ ∃ x, u.val = some (.v x) ∧ ∃ v, (Builtin.append_ argTypes ty #[vs, vx]).run P w = .ok v w' ∧ Rep κ' w' x v

theorem append_full {P : Program} {W : World} {κ : Conc} {w : World} {σ : St} {mode : Mode} {T U e ty : Nat} {ti : TI} {argTypes : Array TypeId} {es xs : List AV} {own : Own} {vs vx : Value} (hI : Inv W κ w σ.L σ.H) (hA : AppArgs P T U e ti argTypes)
    (hb : ti.bytes ≤ 128) (hz : ti.size ≠ 0) (hxs : ∀ c ∈ xs, c.cells.length = ti.size) (hes : ∀ c ∈ es, c.cells.length = ti.size) (hlim : es.length + xs.length ≤ lim) (hvec : mode = .vec → es = [])
    (hs : Rep κ w (.slice es .full) vs) (hx : Rep κ w (.slice xs own) vx) : AppOk P W κ w argTypes ty vs vx (newSlice mode σ (es ++ xs) ti.size .view) := by
  obtain ⟨a, cap, arr, rfl, hcap, ⟨a', ho⟩, hold, hcr, harr⟩ := firstCells_sound (P := P) hs hes
  obtain ⟨xa, xcap, xarr, rfl, _, _, hnew, hxcr, hxarr⟩ := firstCells_sound (P := P) hx hxs
  injection ho with o1 o2 o3
  subst o3
  have hall : ∀ c ∈ es ++ xs, c.cells.length = ti.size := fun c hc => by
    rcases List.mem_append.1 hc with hc | hc
    · exact hes c hc
    · exact hxs c hc
  by_cases hx0 : xs = []
  · -- nothing is appended
    subst hx0
    have hxarr0 : xarr = #[] := Array.eq_empty_of_size_eq_zero (by simpa using hxarr)
    subst hxarr0
    have hrun := run_append_fit (ty := ty) (w' := w) hA (base := a) (sLen := es.length) (sCap := es.length) (n := 0) (xb := xa) (xcap := xcap) (new := #[]) (by omega) (hnew w rfl) (by cases a <;> rfl)
    simp only [List.append_nil, List.length_nil, Nat.add_zero] at *
    unfold newSlice
    split
    · -- token
      obtain ⟨p1, p2, p3, p4⟩ := hI.past σ.H.length (Nat.le_refl _)
      have hE := Ext.put (w := w) p1 p2 p4 none (some es.length) (some (.slice a es.length es.length)) none
      refine ⟨_, w, hE, LExt.refl _, hI.push ⟨upd_same _ _ _, a, es.length, upd_same _ _ _, Nat.le_refl _, fun h => absurd h (Nat.lt_irrefl _)⟩ (fun y e => by cases e), _, rfl, _, hrun, ?_⟩
      have := hs.mono hE
      cases this with
      | slice _ _ _ _ b o sz f ha hc hss hzz h1 hcc hh ho =>
      exact .slice es _ a _ b o sz f ha hc hss hzz h1 hcc hh ⟨es.length, upd_same _ _ _, Nat.le_refl _, fun _ => upd_same _ _ _⟩
    · -- vector
      have hes0 := hvec rfl
      subst hes0
      obtain ⟨p1, p2, p3, p4⟩ := hI.past σ.H.length (Nat.le_refl _)
      have hE := Ext.put (w := w) p1 p2 p4 none (some 0) (some (.slice a 0 0)) none
      refine ⟨_, w, hE, LExt.refl _, hI.push ⟨0, a, 0, by simp, upd_same _ _ _, upd_same _ _ _, Nat.le_refl _, rfl, fun h => absurd h (by simp)⟩ (fun y e => by cases e), _, rfl, _, hrun, ?_⟩
      exact Rep.vec _ _ 0 a 0 (upd_same _ _ _) (Nat.le_refl _) (fun _ => upd_same _ _ _)
    · refine ⟨κ, w, Ext.refl _ _, LExt.refl _, hI, _, rfl, _, hrun, ?_⟩
      cases hs with
      | slice _ _ _ _ b o sz f ha hc hss hzz h1 hcc hh ho => exact .slice es .view a _ b o sz f ha hc hss hzz h1 hcc hh trivial
  · have hpos : 0 < xs.length := List.length_pos_iff.2 hx0
    obtain ⟨cap, rest, hcap', hrest, hrun⟩ := run_append_grow (w := w) (ty := ty) hA (base := a) (sLen := es.length) (sCap := es.length) (n := xs.length) (xcap := xcap) (xb := xa) (old := arr) (new := xarr) (by omega) hlim hb hnew hold
    have hcr2 : CR κ w.drew ((es ++ xs).flatMap AV.cells) (arr ++ xarr) := by rw [flat_app]; exact (hcr.append hxcr).mono Ext.drew
    obtain ⟨κ', k1, k2, k3, x, k4, k5⟩ := newSlice_sound (mode := mode) (σ := σ) (T := e) hI.drew hall hz ⟨arr ++ xarr, rest, rfl, hcr2⟩ (cap := cap) (by
      rw [Array.size_append, Array.size_append, harr, hxarr, hrest, ← Nat.add_mul, ← Nat.add_mul]; congr 1; omega) (by simpa using hcap') (dflt := .view) (.inl rfl)
    refine ⟨κ', _, Ext.drew.trans k1, k2, k3, x, k4, _, hrun, ?_⟩
    simpa using k5

/-- Behind a token: in place. -/
theorem append_tok {P : Program} {W : World} {κ : Conc} {w : World} {σ : St} {T U e ty id n : Nat} {ti : TI} {argTypes : Array TypeId} {es xs : List AV} {own : Own} {vs vx : Value} (hI : Inv W κ w σ.L σ.H) (hA : AppArgs P T U e ti argTypes)
    (hb : ti.bytes ≤ 128) (hz : ti.size ≠ 0) (hxs : ∀ c ∈ xs, c.cells.length = ti.size) (hes : ∀ c ∈ es, c.cells.length = ti.size) (hlim : es.length + xs.length ≤ lim) (hH : σ.H[id]? = some (.top n ti.size)) (hn : es.length = n)
    (hs : Rep κ w (.slice es (.tok id)) vs) (hx : Rep κ w (.slice xs own) vx) : AppOk P W κ w argTypes ty vs vx ⟨some (.v (.slice (es ++ xs) (.tok id))), σ.L, σ.H.set id (.top (n + xs.length) ti.size), .gw⟩ := by
  subst hn
  obtain ⟨a, cap, arr, rfl, hcap, ⟨m, ho1, ho2, ho3⟩, hold, hcr, harr⟩ := firstCells_sound (P := P) hs hes
  obtain ⟨xa, xcap, xarr, rfl, _, _, hnew, hxcr, hxarr⟩ := firstCells_sound (P := P) hx hxs
  obtain ⟨t1, a', cap', t2, t3, t4⟩ := hI.objs _ _ hH
  rw [t1] at ho1; obtain rfl := Option.some.inj ho1
  have hh := ho3 rfl
  rw [t2] at hh; injection hh with hh; injection hh with q1 q2 q3; subst q1 q3
  have hid : id < σ.H.length := (List.getElem?_eq_some_iff.1 hH).1
  have hall : ∀ c ∈ es ++ xs, c.cells.length = ti.size := fun c hc => by
    rcases List.mem_append.1 hc with hc | hc
    · exact hes c hc
    · exact hxs c hc
  by_cases hfit : es.length + xs.length ≤ cap'
  · by_cases hx0 : xs = []
    · subst hx0
      have hxarr0 : xarr = #[] := Array.eq_empty_of_size_eq_zero (by simpa using hxarr)
      subst hxarr0
      have hrun := run_append_fit (ty := ty) (w' := w) hA (base := a') (sLen := es.length) (sCap := cap') (n := 0) (xb := xa) (xcap := xcap) (new := #[]) (by simpa using hfit) (hnew w rfl) (by cases a' <;> rfl)
      simp only [List.append_nil, List.length_nil, Nat.add_zero] at *
      refine ⟨κ, w, Ext.refl _ _, LExt.refl _, ?_, _, rfl, _, hrun, hs⟩
      have : σ.H.set id (.top es.length ti.size) = σ.H := by
        apply List.ext_getElem?
        intro j
        by_cases q : j = id
        · subst q; rw [List.getElem?_set_self hid, hH]
        · rw [List.getElem?_set_ne (fun z => q z.symm)]
      show Inv W κ w σ.L (σ.H.set id (.top es.length ti.size))
      rw [this]; exact hI
    · have hpos : 0 < xs.length := List.length_pos_iff.2 hx0
      have hroom : (es.length + xs.length) * ti.size ≤ cap' * ti.size := Nat.mul_le_mul_right _ hfit
      have hxl : xs.length * ti.size = xarr.size := hxarr.symm
      have hlt : es.length * ti.size < cap' * ti.size := by
        rw [Nat.add_mul] at hroom
        have : 0 < xs.length * ti.size := Nat.mul_pos hpos (by omega)
        omega
      obtain ⟨b, o, rfl, hsp⟩ := t4 hlt
      have hsp' : ∀ j, j < xarr.size → κ.ow b (o + es.length * ti.size + j) = .obj id ∧ (∃ u, w.cell? (ad b (o + es.length * ti.size + j)) = some u) ∧ w.frozen? (ad b (o + es.length * ti.size + j)) = false := fun j hj => by
        have := hsp (es.length * ti.size + j) (by omega) (by rw [Nat.add_mul] at hroom; omega)
        rw [← Nat.add_assoc] at this
        exact ⟨this.1, this.2, (hI.own b _ (.inl ⟨id, this.1⟩)).2⟩
      have hone : ∀ v ∈ xarr.toList, v.oneCell' = true := fun v hv => by
        obtain ⟨j, hj⟩ := mem_getElem? hv
        have hjl : j < (xs.flatMap AV.cells).length := by
          have := (List.getElem?_eq_some_iff.1 hj).1
          rw [← hxcr.1]; simpa using this
        have := (hxcr.2.2 j _ (List.getElem?_eq_getElem hjl)).one (hxcr.2.1 _ (List.getElem_mem hjl))
        rw [Array.getD_eq_getD_getElem?, ← Array.getElem?_toList, hj] at this
        exact this
      have hst : (storeCells ((ad b o).add (es.length * ti.size)) xarr.toList).run P w = .ok () (setRow w b (o + es.length * ti.size) xarr.toList) := by
        rw [ad_add]
        exact run_storeCells _ _ 0 hone (fun j hj => by simpa using (hsp' j (by simpa using hj)).2)
      have hrun := run_append_fit (ty := ty) (w' := setRow w b (o + es.length * ti.size) xarr.toList) hA (base := some (ad b o)) (sLen := es.length) (sCap := cap') (n := xs.length) (xb := xa) (xcap := xcap) (new := xarr) hfit (hnew w rfl) hst
      have hb : W.heap.size ≤ b := (hI.own b _ (.inl ⟨id, (hsp' 0 (by rw [← hxl]; exact Nat.mul_pos hpos (by omega))).1⟩)).1
      have hS := Same.setRow (W := W) hb xarr.toList w (o + es.length * ti.size)
      have hE1 : Ext κ w κ (setRow w b (o + es.length * ti.size) xarr.toList) := Ext.setRow (fun j hj => by rw [(hsp' j (by simpa using hj)).1]; simp)
      -- the new concretisation
      let κ' : Conc := { κ.head id (es.length + xs.length) (.slice (some (ad b o)) (es.length + xs.length) cap') with
        ow := fun b' o' => if b' = b ∧ o + es.length * ti.size ≤ o' ∧ o' < o + es.length * ti.size + xarr.size then .pub else κ.ow b' o' }
      have how : ∀ b' o', κ'.ow b' o' = κ.ow b' o' ∨ (κ.ow b' o' = .obj id ∧ κ'.ow b' o' = .pub) := by
        intro b' o'
        show (if _ then _ else _) = _ ∨ _ ∧ (if _ then _ else _) = _
        by_cases q : b' = b ∧ o + es.length * ti.size ≤ o' ∧ o' < o + es.length * ti.size + xarr.size
        · right
          obtain ⟨rfl, q2, q3⟩ := q
          refine ⟨?_, if_pos ⟨rfl, q2, q3⟩⟩
          have := (hsp' (o' - (o + es.length * ti.size)) (by omega)).1
          rwa [show o + es.length * ti.size + (o' - (o + es.length * ti.size)) = o' by omega] at this
        · left; rw [if_neg q]
      have hE2 := Ext.head (w := setRow w b (o + es.length * ti.size) xarr.toList) (v := .slice (some (ad b o)) (es.length + xs.length) cap') t1 (.inl (show es.length < es.length + xs.length by omega))
      have hE : Ext κ w κ' (setRow w b (o + es.length * ti.size) xarr.toList) := by
        refine hE1.trans ⟨fun b' o' e => ⟨?_, rfl⟩, fun b' o' e => ⟨?_, rfl, rfl⟩, hE2.loc, hE2.top, hE2.mloc, hE2.tg, Nat.le_refl _⟩
        · rcases how b' o' with q | q
          · rw [q]; exact e
          · exact q.2
        · rcases how b' o' with q | q
          · rw [q]; exact e
          · rw [q.1] at e; cases e
      have hcellnew : ∀ j, j < xarr.size → κ'.ow b (o + es.length * ti.size + j) = .pub ∧ (setRow w b (o + es.length * ti.size) xarr.toList).cell? (ad b (o + es.length * ti.size + j)) = xarr[j]? := fun j hj => by
        refine ⟨if_pos ⟨rfl, by omega, by omega⟩, ?_⟩
        have := setRow_cell b xarr.toList w (o + es.length * ti.size) (fun j hj => (hsp' j (by simpa using hj)).2.1) j (by simpa using hj)
        rw [this]; simp
      refine ⟨κ', _, hE, LExt.refl _, ?_, _, rfl, _, hrun, ?_⟩
      · refine hI.modify hE hS (setRow_size _ _ _ _) (fun p => setRow_frozen b p _ w _) rfl rfl rfl (fun i hi => ⟨rfl, upd_ne _ _ hi, upd_ne _ _ hi⟩) hid how ?_ ?_ (by rw [hH]; simp)
        · intro b' o' h1 h2
          exact (keep_setRow (lab := .obj id) (fun j hj => (hsp' j (by simpa using hj)).1) h2 b' o' rfl).2
        · refine ⟨upd_same _ _ _, some (ad b o), cap', upd_same _ _ _, hfit, fun h => ⟨b, o, rfl, fun j l1 l2 => ?_⟩⟩
          rw [Nat.add_mul] at l1
          obtain ⟨g1, g2⟩ := hsp j (by omega) l2
          refine ⟨?_, ?_⟩
          · show (if _ then _ else _) = _
            rw [if_neg (by omega)]; exact g1
          · rw [setRow_other b b (o + j) xarr.toList w _ (.inr (.inr (by simp; omega)))]; exact g2
      · have hfl := flat_length hall
        have hs' := hs.mono hE
        cases hs' with
        | slice _ _ _ _ b1 o1 sz f ha hc hss hzz h1 hcc hh ho =>
        -- the row: old cells, then the new ones
        by_cases hes0 : es = []
        · subst hes0
          simp only [List.nil_append, List.length_nil, Nat.zero_mul, Nat.add_zero, Nat.zero_add] at *
          refine Rep.slice xs (.tok id) (some (ad b o)) cap' b o ti.size (fun i => xarr.getD i undef) (fun _ => rfl) hfit hxs hz hxcr.2.1 (fun i hi => by
            rw [hxl] at hi
            obtain ⟨g1, g2⟩ := hcellnew i hi
            refine ⟨g1, ?_⟩
            rw [g2]; simp [Array.getD, hi]) (fun i c hc => (hxcr.2.2 i c hc).mono hE) ⟨xs.length, ?_, Nat.le_refl _, fun _ => ?_⟩
          · show upd κ.top id _ id = _
            rw [upd_same]; simp
          · show upd κ.hdr id _ id = _
            rw [upd_same]; simp
        · have hbo := ha hes0
          injection hbo with hbo; injection hbo with z1 z2; subst z1 z2
          have hszz : sz = ti.size := by
            obtain ⟨z, hzm⟩ := List.exists_mem_of_ne_nil es hes0
            exact (hss z hzm).symm.trans (hes z hzm)
          subst hszz
          have hfe := flat_length hes
          rw [show es.length + xs.length = (es ++ xs).length by simp]
          refine Rep.slice (es ++ xs) (.tok id) (some (ad b o)) cap' b o ti.size (fun i => if i < es.length * ti.size then f i else xarr.getD (i - es.length * ti.size) undef) (fun _ => rfl) (by simpa using hfit) hall hz ?_ (fun i hi => ?_) (fun i c hc => ?_) ?_
          · intro c hc
            rw [flat_app] at hc
            rcases List.mem_append.1 hc with hc | hc
            · exact h1 c hc
            · exact hxcr.2.1 c hc
          · by_cases q : i < es.length * ti.size
            · simp only [q, if_true]; exact hcc i q
            · simp only [q, if_false]
              simp only [List.length_append, Nat.add_mul] at hi
              have hj : i - es.length * ti.size < xarr.size := by omega
              obtain ⟨g1, g2⟩ := hcellnew _ hj
              rw [show o + es.length * ti.size + (i - es.length * ti.size) = o + i by omega] at g1 g2
              refine ⟨g1, ?_⟩
              rw [g2]; simp [Array.getD, hj]
          · rw [flat_app] at hc
            by_cases q : i < es.length * ti.size
            · simp only [q, if_true]
              rw [List.getElem?_append_left (by omega)] at hc
              exact hh i c hc
            · simp only [q, if_false]
              rw [List.getElem?_append_right (by omega), hfe] at hc
              exact (hxcr.2.2 _ c hc).mono hE
          · refine ⟨(es ++ xs).length, ?_, Nat.le_refl _, fun _ => ?_⟩
            · show upd κ.top id _ id = _
              rw [upd_same]; simp
            · show upd κ.hdr id _ id = _
              rw [upd_same]; simp
  · -- a new array
    obtain ⟨cap, rest, hcap', hrest, hrun⟩ := run_append_grow (w := w) (ty := ty) hA (base := a') (sLen := es.length) (sCap := cap') (n := xs.length) (xcap := xcap) (xb := xa) (old := arr) (new := xarr) (by omega) hlim hb hnew hold
    have hpos : 0 < xs.length := by omega
    have hcr2 : CR κ w.drew ((es ++ xs).flatMap AV.cells) (arr ++ xarr) := by rw [flat_app]; exact (hcr.append hxcr).mono Ext.drew
    have hI2 := hI.drew
    let lab : Nat → Owner := fun j => if j < (es.length + xs.length) * ti.size then .pub else .obj id
    have hE1 := Ext.label hI2 lab (.cells (arr ++ xarr ++ rest) e)
    have hA2 := hI2.alloc lab (arr ++ xarr ++ rest) e
    have hE2 := Ext.head (κ := κ.label w.drew.heap.size lab) (w := w.drew.alloc (.cells (arr ++ xarr ++ rest) e)) (v := .slice (some (ad w.heap.size 0)) (es.length + xs.length) cap) t1 (.inl (show es.length < es.length + xs.length by omega))
    have hE := Ext.drew.trans (hE1.trans hE2)
    have hfl := flat_length hall
    have hvs : (arr ++ xarr ++ rest).size = cap * ti.size := by
      rw [Array.size_append, Array.size_append, harr, hxarr, hrest, ← Nat.add_mul, ← Nat.add_mul]; congr 1; omega
    have hcell : ∀ i, i < ((es ++ xs).flatMap AV.cells).length → (w.drew.alloc (.cells (arr ++ xarr ++ rest) e)).cell? (ad w.drew.heap.size (0 + i)) = (arr ++ xarr)[i]? := fun i hi => by
      rw [Nat.zero_add, cell_new, Array.getElem?_append_left (by rw [hcr2.1]; exact hi)]
    have hcells : Cells ((κ.label w.drew.heap.size lab).head id (es.length + xs.length) (.slice (some (ad w.heap.size 0)) (es.length + xs.length) cap)) (w.drew.alloc (.cells (arr ++ xarr ++ rest) e)) .pub w.drew.heap.size 0 ((es ++ xs).flatMap AV.cells) := by
      have := cells_of_new (lab := .pub) (hE1.trans hE2) hcr2 0 ((es ++ xs).flatMap AV.cells).length (Nat.le_refl _) (fun j _ l2 => by
        have := Conc.label_same κ w.drew.heap.size lab j
        simp only [lab] at this
        rw [hfl] at l2
        simp only [List.length_append] at l2
        rw [if_pos (by omega)] at this
        exact this) hcell
      rw [List.take_length] at this; exact this
    refine ⟨_, _, hE, LExt.refl _, ?_, _, rfl, _, hrun, ?_⟩
    · refine hA2.modify hE2 (Same.refl W _) rfl (fun _ => rfl) rfl rfl rfl (fun i hi => ⟨rfl, upd_ne _ _ hi, upd_ne _ _ hi⟩) hid (fun _ _ => .inl rfl) (fun _ _ _ _ => rfl) ?_ (by rw [hH]; simp)
      refine ⟨upd_same _ _ _, _, cap, upd_same _ _ _, hcap', fun h => ⟨w.heap.size, 0, rfl, fun j l1 l2 => ⟨?_, ?_⟩⟩⟩
      · have := Conc.label_same κ w.drew.heap.size lab (0 + j)
        simp only [lab] at this
        rw [if_neg (by omega)] at this
        exact this
      · rw [Nat.zero_add]
        have := cell_new w.drew (arr ++ xarr ++ rest) e j
        refine ⟨(arr ++ xarr ++ rest)[j]'(by omega), ?_⟩
        have h3 : w.drew.heap.size = w.heap.size := rfl
        rw [← h3, this]
        simp
    · obtain ⟨f, c1, c2, c3⟩ := hcells
      rw [show es.length + xs.length = (es ++ xs).length by simp]
      refine Rep.slice (es ++ xs) (.tok id) _ cap w.heap.size 0 ti.size f (fun _ => rfl) (by simpa using hcap') hall hz c1 (fun i hi => ?_) (fun i c hc => ?_) ?_
      · have := c2 i (by rw [hfl]; exact hi)
        simpa using this
      · simpa using c3 i c hc
      · refine ⟨(es ++ xs).length, ?_, Nat.le_refl _, fun _ => ?_⟩
        · show upd κ.top id _ id = _
          rw [upd_same]
        · show upd κ.hdr id _ id = _
          rw [upd_same]

end Go.Proofs.Ytnjaagfhaooapaa.Eng
