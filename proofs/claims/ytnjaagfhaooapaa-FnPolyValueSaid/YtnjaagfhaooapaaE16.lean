/- ENGINE 16: append behind a vector; rows made of literals and by make. -/
import Derived.Test.YtnjaagfhaooapaaE15
namespace Go.Proofs.Ytnjaagfhaooapaa.Eng
set_option linter.unusedVariables false
set_option linter.unusedSimpArgs false
set_option linter.unnecessarySimpa false
set_option linter.constructorNameAsVariable false
open Go Go.RowKit

theorem vec_first {P : Program} {κ : Conc} {w : World} {id n sz cap : Nat} {cs : List AV} {a : Option Addr} (hl : cs.length = n * sz) (hcap : n ≤ cap)
    (h : 0 < cap * sz → ∃ b o, a = some (ad b o) ∧ Cells κ w (.obj id) b o cs) :
    ∃ arr : Array Value, (∀ w' : World, w'.heap = w.heap → (Builtin.firstCells sz n (.slice a n cap)).run P w' = .ok arr w') ∧ CR κ w cs arr ∧ arr.size = n * sz := by
  by_cases h0 : n * sz = 0
  · rw [h0] at hl
    have hcs : cs = [] := List.eq_nil_of_length_eq_zero hl
    subst hcs
    refine ⟨#[], fun w' _ => ?_, ⟨rfl, (fun c hc => by simp at hc), (fun i c hc => by simp at hc)⟩, by simp [h0]⟩
    cases a with
    | none => rfl
    | some a => simp [Builtin.firstCells, loadCells, h0, loadCellsFrom]
  · have : n * sz ≤ cap * sz := Nat.mul_le_mul_right _ hcap
    obtain ⟨b, o, rfl, f, c1, c2, c3⟩ := h (by omega)
    refine ⟨((List.range (n * sz)).map f).toArray, fun w' hw' => ?_, ⟨by simp [hl], c1, fun i c hc => ?_⟩, by simp⟩
    · have hc' : ∀ a, w'.cell? a = w.cell? a := fun a => by simp only [World.cell?, hw']
      simp only [Builtin.firstCells]
      exact run_loadCells (fun j hj => by rw [hc']; exact (c2 j (by omega)).2)
    · have hlt : i < n * sz := by rw [← hl]; exact (List.getElem?_eq_some_iff.1 hc).1
      have := c3 i c hc
      simpa [Array.getD, hlt] using this

theorem belowL_append {n : Nat} {a b : List AV} (h : belowL n a = true) (k : belowL n b = true) : belowL n (a ++ b) = true := by
  rw [belowL_iff] at *
  intro c hc
  rcases List.mem_append.1 hc with hc | hc
  · exact h c hc
  · exact k c hc

theorem belowL_flat {n : Nat} {xs : List AV} (h : belowL n xs = true) : belowL n (xs.flatMap AV.cells) = true := by
  rw [belowL_iff] at *
  intro c hc
  obtain ⟨x, hx, hc⟩ := List.mem_flatMap.1 hc
  exact belowL_iff.1 (below_cells (h x hx)) c hc

theorem append_vec {P : Program} {W : World} {κ : Conc} {w : World} {σ : St} {T U e ty id len : Nat} {ti : TI} {argTypes : Array TypeId} {cs xs : List AV} {own : Own} {vs vx : Value} (hI : Inv W κ w σ.L σ.H) (hA : AppArgs P T U e ti argTypes)
    (hb : ti.bytes ≤ 128) (hz : ti.size ≠ 0) (hxs : ∀ c ∈ xs, c.cells.length = ti.size) (hlen : cs.length = len * ti.size) (hlim : len + xs.length ≤ lim) (hH : σ.H[id]? = some (.vec cs ti.size)) (hbl : belowL id xs = true)
    (hs : Rep κ w (.vec id len) vs) (hx : Rep κ w (.slice xs own) vx) : AppOk P W κ w argTypes ty vs vx ⟨some (.v (.vec id (len + xs.length))), σ.L, σ.H.set id (.vec (cs ++ xs.flatMap AV.cells) ti.size), .gw⟩ := by
  obtain ⟨xa, xcap, xarr, rfl, _, _, hnew, hxcr, hxarr⟩ := firstCells_sound (P := P) hx hxs
  obtain ⟨n, a, cap, f0, f1, f2, f3, f5, f4⟩ := hI.objs _ _ hH
  have hn : n = len := by
    rw [hlen] at f0
    exact (Nat.eq_of_mul_eq_mul_right (by omega) f0).symm
  subst hn
  cases hs with
  | vec _ _ m a' cap' t1 t2 t3 =>
  rw [f1] at t1; obtain rfl := Option.some.inj t1
  have := t3 rfl
  rw [f2] at this; injection this with this; injection this with q1 q2 q3; subst q1 q3
  have hid : id < σ.H.length := (List.getElem?_eq_some_iff.1 hH).1
  have hxl : xs.length * ti.size = xarr.size := hxarr.symm
  have hfx := flat_length hxs
  have hbl2 : belowL id (cs ++ xs.flatMap AV.cells) = true := belowL_append f5 (belowL_flat hbl)
  have hlen2 : (cs ++ xs.flatMap AV.cells).length = (n + xs.length) * ti.size := by rw [List.length_append, hlen, hfx, Nat.add_mul]
  by_cases hfit : n + xs.length ≤ cap
  · have hroom : (n + xs.length) * ti.size ≤ cap * ti.size := Nat.mul_le_mul_right _ hfit
    rw [Nat.add_mul] at hroom
    by_cases hx0 : xs = []
    · subst hx0
      have hxarr0 : xarr = #[] := Array.eq_empty_of_size_eq_zero (by simpa using hxarr)
      subst hxarr0
      have hrun := run_append_fit (ty := ty) (w' := w) hA (base := a) (sLen := n) (sCap := cap) (n := 0) (xb := xa) (xcap := xcap) (new := #[]) (by simpa using hfit) (hnew w rfl) (by cases a <;> rfl)
      simp only [List.length_nil, Nat.add_zero, List.flatMap_nil, List.append_nil] at *
      refine ⟨κ, w, Ext.refl _ _, LExt.refl _, ?_, _, rfl, _, hrun, Rep.vec id n n a cap f1 (Nat.le_refl _) (fun _ => f2)⟩
      have : σ.H.set id (.vec cs ti.size) = σ.H := by
        apply List.ext_getElem?
        intro j
        by_cases q : j = id
        · subst q; rw [List.getElem?_set_self hid, hH]
        · rw [List.getElem?_set_ne (fun z => q z.symm)]
      show Inv W κ w σ.L (σ.H.set id (.vec cs ti.size))
      rw [this]; exact hI
    · have hpos : 0 < xs.length := List.length_pos_iff.2 hx0
      have hp2 : 0 < xs.length * ti.size := Nat.mul_pos hpos (by omega)
      obtain ⟨b, o, rfl, hcs, hsp⟩ := f4 (by omega)
      have hsp' : ∀ j, j < xarr.size → κ.ow b (o + n * ti.size + j) = .obj id ∧ (∃ u, w.cell? (ad b (o + n * ti.size + j)) = some u) ∧ w.frozen? (ad b (o + n * ti.size + j)) = false := fun j hj => by
        have := hsp (n * ti.size + j) (by omega) (by omega)
        rw [← Nat.add_assoc] at this
        exact ⟨this.1, this.2, (hI.own b _ (.inl ⟨id, this.1⟩)).2⟩
      have hone : ∀ v ∈ xarr.toList, v.oneCell' = true := fun v hv => by
        obtain ⟨j, hj⟩ := mem_getElem? hv
        have hjl : j < (xs.flatMap AV.cells).length := by
          have := (List.getElem?_eq_some_iff.1 hj).1
          rw [← hxcr.1]; simpa using this
        have := (hxcr.2.2 j _ (List.getElem?_eq_getElem hjl)).one (hxcr.2.1 _ (List.getElem_mem hjl))
        rw [Array.getD_eq_getD_getElem?, ← Array.getElem?_toList, hj] at this
        exact this
      have hst : (storeCells ((ad b o).add (n * ti.size)) xarr.toList).run P w = .ok () (setRow w b (o + n * ti.size) xarr.toList) := by
        rw [ad_add]
        exact run_storeCells _ _ 0 hone (fun j hj => by simpa using (hsp' j (by simpa using hj)).2)
      have hrun := run_append_fit (ty := ty) (w' := setRow w b (o + n * ti.size) xarr.toList) hA (base := some (ad b o)) (sLen := n) (sCap := cap) (n := xs.length) (xb := xa) (xcap := xcap) (new := xarr) hfit (hnew w rfl) hst
      have hbb : W.heap.size ≤ b := (hI.own b _ (.inl ⟨id, (hsp' 0 (by omega)).1⟩)).1
      have hS := Same.setRow (W := W) hbb xarr.toList w (o + n * ti.size)
      have hE1 : Ext κ w κ (setRow w b (o + n * ti.size) xarr.toList) := Ext.setRow (fun j hj => by rw [(hsp' j (by simpa using hj)).1]; simp)
      have hE2 := Ext.head (w := setRow w b (o + n * ti.size) xarr.toList) (v := .slice (some (ad b o)) (n + xs.length) cap) f1 (.inl (show n < n + xs.length by omega))
      have hE := hE1.trans hE2
      have hkeep : ∀ lab', lab' ≠ Owner.obj id → ∀ b' o', κ.ow b' o' = lab' → (setRow w b (o + n * ti.size) xarr.toList).cell? (ad b' o') = w.cell? (ad b' o') :=
        fun lab' hne b' o' e => (keep_setRow (lab := .obj id) (fun j hj => (hsp' j (by simpa using hj)).1) hne b' o' e).2
      refine ⟨_, _, hE, LExt.refl _, ?_, _, rfl, _, hrun, Rep.vec id _ (n + xs.length) _ cap (upd_same _ _ _) (Nat.le_refl _) (fun _ => upd_same _ _ _)⟩
      refine hI.modify hE hS (setRow_size _ _ _ _) (fun p => setRow_frozen b p _ w _) rfl rfl rfl (fun i hi => ⟨rfl, upd_ne _ _ hi, upd_ne _ _ hi⟩) hid (fun _ _ => .inl rfl) (fun b' o' h1 h2 => hkeep _ h2 b' o' rfl) ?_ (by rw [hH]; simp)
      refine ⟨n + xs.length, some (ad b o), cap, hlen2, upd_same _ _ _, upd_same _ _ _, hfit, hbl2, fun _ => ⟨b, o, rfl, ?_, fun j l1 l2 => ?_⟩⟩
      · obtain ⟨f, c1, c2, c3⟩ := hcs
        refine ⟨fun i => if i < n * ti.size then f i else xarr.getD (i - n * ti.size) undef, fun c hc => ?_, fun i hi => ?_, fun i c hc => ?_⟩
        · rcases List.mem_append.1 hc with hc | hc
          · exact c1 c hc
          · exact hxcr.2.1 c hc
        · rw [hlen2, Nat.add_mul] at hi
          by_cases q : i < n * ti.size
          · simp only [q, if_true]
            obtain ⟨g1, g2⟩ := c2 i (by omega)
            refine ⟨g1, ?_⟩
            rw [setRow_other b b (o + i) xarr.toList w _ (.inr (.inl (by omega)))]; exact g2
          · simp only [q, if_false]
            have hj : i - n * ti.size < xarr.size := by omega
            obtain ⟨g1, g2, _⟩ := hsp' _ hj
            rw [show o + n * ti.size + (i - n * ti.size) = o + i by omega] at g1
            refine ⟨g1, ?_⟩
            have := setRow_cell b xarr.toList w (o + n * ti.size) (fun j hj => (hsp' j (by simpa using hj)).2.1) (i - n * ti.size) (by simpa using hj)
            rw [show o + n * ti.size + (i - n * ti.size) = o + i by omega] at this
            rw [this]; simp [hj]
        · by_cases q : i < n * ti.size
          · simp only [q, if_true]
            rw [List.getElem?_append_left (by omega)] at hc
            exact (c3 i c hc).mono hE
          · simp only [q, if_false]
            rw [List.getElem?_append_right (by omega), hlen] at hc
            exact (hxcr.2.2 _ c hc).mono hE
      · rw [Nat.add_mul] at l1
        obtain ⟨g1, g2⟩ := hsp j (by omega) l2
        refine ⟨g1, ?_⟩
        rw [setRow_other b b (o + j) xarr.toList w _ (.inr (.inr (by simp; omega)))]; exact g2
  · -- a new array
    obtain ⟨arr, hold, hcr, harr⟩ := vec_first (P := P) (id := id) hlen f3 (fun h => by obtain ⟨b, o, z1, z2, _⟩ := f4 h; exact ⟨b, o, z1, z2⟩)
    obtain ⟨cap', rest, hcap', hrest, hrun⟩ := run_append_grow (w := w) (ty := ty) hA (base := a) (sLen := n) (sCap := cap) (n := xs.length) (xcap := xcap) (xb := xa) (old := arr) (new := xarr) (by omega) hlim hb hnew hold
    have hpos : 0 < xs.length := by omega
    have hcr2 : CR κ w.drew (cs ++ xs.flatMap AV.cells) (arr ++ xarr) := (hcr.append hxcr).mono Ext.drew
    have hI2 := hI.drew
    have hE1 := Ext.label hI2 (fun _ => .obj id) (.cells (arr ++ xarr ++ rest) e)
    have hA2 := hI2.alloc (fun _ => .obj id) (arr ++ xarr ++ rest) e
    have hE2 := Ext.head (κ := κ.label w.drew.heap.size (fun _ => .obj id)) (w := w.drew.alloc (.cells (arr ++ xarr ++ rest) e)) (v := .slice (some (ad w.heap.size 0)) (n + xs.length) cap') f1 (.inl (show n < n + xs.length by omega))
    have hE := Ext.drew.trans (hE1.trans hE2)
    have hvs : (arr ++ xarr ++ rest).size = cap' * ti.size := by
      rw [Array.size_append, Array.size_append, harr, hxarr, hrest, ← Nat.add_mul, ← Nat.add_mul]; congr 1; omega
    have hcell : ∀ i, i < (cs ++ xs.flatMap AV.cells).length → (w.drew.alloc (.cells (arr ++ xarr ++ rest) e)).cell? (ad w.drew.heap.size (0 + i)) = (arr ++ xarr)[i]? := fun i hi => by
      rw [Nat.zero_add, cell_new, Array.getElem?_append_left (by rw [hcr2.1]; exact hi)]
    refine ⟨_, _, hE, LExt.refl _, ?_, _, rfl, _, hrun, Rep.vec id _ (n + xs.length) _ cap' (upd_same _ _ _) (Nat.le_refl _) (fun _ => upd_same _ _ _)⟩
    refine hA2.modify hE2 (Same.refl W _) rfl (fun _ => rfl) rfl rfl rfl (fun i hi => ⟨rfl, upd_ne _ _ hi, upd_ne _ _ hi⟩) hid (fun _ _ => .inl rfl) (fun _ _ _ _ => rfl) ?_ (by rw [hH]; simp)
    refine ⟨n + xs.length, _, cap', hlen2, upd_same _ _ _, upd_same _ _ _, hcap', hbl2, fun _ => ⟨w.heap.size, 0, rfl, ?_, fun j l1 l2 => ⟨Conc.label_same κ w.drew.heap.size (fun _ => Owner.obj id) (0 + j), ?_⟩⟩⟩
    · have := cells_of_new (lab := .obj id) (hE1.trans hE2) hcr2 0 (cs ++ xs.flatMap AV.cells).length (Nat.le_refl _) (fun j _ _ => by exact Conc.label_same κ w.drew.heap.size (fun _ => Owner.obj id) j) hcell
      rw [List.take_length] at this; exact this
    · rw [Nat.zero_add]
      refine ⟨(arr ++ xarr ++ rest)[j]'(by omega), ?_⟩
      have h3 : w.drew.heap.size = w.heap.size := rfl
      rw [← h3, cell_new]
      simp

theorem aappend_sound {P : Program} {W : World} {κ : Conc} {w : World} {σ : St} {mode : Mode} {T U ty : Nat} {argTypes : Array TypeId} {s x : AV} {vs vx : Value} {u : Out} (hI : Inv W κ w σ.L σ.H) (h : aappend P mode σ T s x = some u)
    (t0 : argTypes[0]? = some T) (t1 : argTypes[1]? = some U) (hU : (sliceT P U).isSome = true) (hs : Rep κ w s vs) (hx : Rep κ w x vx) : AppOk P W κ w argTypes ty vs vx u := by
  obtain ⟨e', he'⟩ := Option.isSome_iff_exists.1 hU
  unfold aappend at h
  split at h
  · simp at h
  · rename_i e he
    split at h
    · simp at h
    · rename_i ti hti
      have hA : AppArgs P T U e ti argTypes := ⟨t0, t1, sliceT_spec he, ⟨e', sliceT_spec he'⟩, hti⟩
      split at h
      · rename_i xs own
        split at h
        · rename_i hc
          obtain ⟨hb, hz, hxs⟩ := hc
          split at h
          · rename_i es
            split at h
            · rename_i hc
              obtain rfl := Option.some.inj h
              exact append_full hI hA hb hz hxs hc.2.1 hc.1 hc.2.2 hs hx
            · simp at h
          · rename_i es id
            split at h
            · rename_i n sz hH
              split at h
              · rename_i hc
                obtain ⟨h1, rfl, h2, h3⟩ := hc
                obtain rfl := Option.some.inj h
                exact append_tok hI hA hb hz hxs h3 h2 hH h1 hs hx
              · simp at h
            · simp at h
          · rename_i id len
            split at h
            · rename_i cs sz hH
              split at h
              · rename_i hc
                obtain ⟨h1, rfl, h2, h3⟩ := hc
                obtain rfl := Option.some.inj h
                exact append_vec hI hA hb hz hxs h1 h2 hH h3 hs hx
              · simp at h
            · simp at h
          · simp at h
        · simp at h
      · simp at h

end Go.Proofs.Ytnjaagfhaooapaa.Eng
