/- ENGINE 12: new rows behind slices; stores. -/
import Derived.Test.YtnjaagfhaooapaaE11
namespace Go.Proofs.Ytnjaagfhaooapaa.Eng
set_option linter.unusedVariables false
set_option linter.unusedSimpArgs false
set_option linter.unnecessarySimpa false
set_option linter.constructorNameAsVariable false
open Go Go.RowKit

theorem Ext.drew {κ : Conc} {w : World} : Ext κ w κ w.drew := ⟨fun _ _ e => ⟨e, rfl⟩, fun _ _ e => ⟨e, rfl, rfl⟩, fun _ _ e => e, fun _ m e => ⟨m, e, Nat.le_refl _, fun _ => rfl⟩, fun _ _ e => e, fun _ _ e => e, Nat.le_refl _⟩

theorem Inv.drew {W : World} {κ : Conc} {w : World} {L : Nat → Option (Nat × List AV)} {H : List HObj} (hI : Inv W κ w L H) : Inv W κ w.drew L H where
  below := hI.below.drew
  lt := hI.lt
  own := hI.own
  mine := hI.mine
  minj := hI.minj
  objs id x h := (hI.objs id x h).keep Ext.drew ⟨(Below.refl W.heap.size w).drew, fun _ _ _ e => e, fun _ e => e⟩ rfl rfl rfl rfl rfl (fun _ _ e => ⟨e, rfl⟩)
  past := hI.past
  tgs := hI.tgs
  tags := hI.tags
  locs s v c h := by obtain ⟨b, e1, e2⟩ := hI.locs s v c h; exact ⟨b, e1, e2.keep Ext.drew (fun _ _ e => ⟨e, rfl⟩)⟩
  nolocs := hI.nolocs

/-- A new row with room behind what it holds. -/
theorem newSlice_sound {W : World} {κ : Conc} {w : World} {σ : St} {mode : Mode} {es : List AV} {sz cap : Nat} {dflt : Own} {vs : Array Value} {T : Nat} (hI : Inv W κ w σ.L σ.H)
    (hs : ∀ e ∈ es, e.cells.length = sz) (hz : sz ≠ 0) (hcr : ∃ v0 v1 : Array Value, vs = v0 ++ v1 ∧ CR κ w (es.flatMap AV.cells) v0) (hsz : vs.size = cap * sz) (hcap : es.length ≤ cap) (hd : dflt = .view ∨ dflt = .full ∧ cap = es.length) :
    ∃ κ', Ext κ w κ' (w.alloc (.cells vs T)) ∧ LExt κ κ' ∧ Inv W κ' (w.alloc (.cells vs T)) (newSlice mode σ es sz dflt).L (newSlice mode σ es sz dflt).H ∧
      ∃ x, (newSlice mode σ es sz dflt).val = some (.v x) ∧ Rep κ' (w.alloc (.cells vs T)) x (.slice (some (ad w.heap.size 0)) es.length cap) := by
  obtain ⟨v0, v1, rfl, hcr⟩ := hcr
  have hfl := flat_length hs
  have hv0 : v0.size = es.length * sz := hcr.1.trans hfl
  have hcell : ∀ i, i < (es.flatMap AV.cells).length → (w.alloc (.cells (v0 ++ v1) T)).cell? (ad w.heap.size (0 + i)) = v0[i]? := fun i hi => by
    rw [Nat.zero_add, cell_new, Array.getElem?_append_left (by omega)]
  have hroom : ∀ j, j < cap * sz → ∃ u, (w.alloc (.cells (v0 ++ v1) T)).cell? (ad w.heap.size (0 + j)) = some u := fun j hj => by
    rw [Nat.zero_add, cell_new]
    exact ⟨(v0 ++ v1)[j], by simp [show j < v0.size + v1.size by simp at hsz; omega]⟩
  have mk : ∀ (κ' : Conc) (own : Own), Cells κ' (w.alloc (.cells (v0 ++ v1) T)) .pub w.heap.size 0 (es.flatMap AV.cells) → OwnOk κ' own es.length (.slice (some (ad w.heap.size 0)) es.length cap) →
      Rep κ' (w.alloc (.cells (v0 ++ v1) T)) (.slice es own) (.slice (some (ad w.heap.size 0)) es.length cap) := by
    rintro κ' own ⟨f, c1, c2, c3⟩ ho
    exact Rep.slice es own _ cap w.heap.size 0 sz f (fun _ => rfl) hcap hs hz c1 (fun i hi => c2 i (by rw [hfl]; exact hi)) c3 ho
  unfold newSlice
  split
  · -- a token
    let lab : Nat → Owner := fun j => if j < es.length * sz then .pub else .obj σ.H.length
    have hE := Ext.label hI lab (.cells (v0 ++ v1) T)
    have hA := hI.alloc lab (v0 ++ v1) T
    obtain ⟨p1, p2, p3, p4⟩ := hA.past σ.H.length (Nat.le_refl _)
    have hE2 := Ext.put (w := w.alloc (.cells (v0 ++ v1) T)) p1 p2 p4 none (some es.length) (some (.slice (some (ad w.heap.size 0)) es.length cap)) none
    have hE3 := hE.trans hE2
    refine ⟨_, hE3, LExt.refl _, hA.push ⟨upd_same _ _ _, _, cap, upd_same _ _ _, hcap, fun _ => ⟨w.heap.size, 0, rfl, fun j l1 l2 => ⟨?_, hroom j l2⟩⟩⟩ (fun y e => by cases e), _, rfl, mk _ _ ?_ ?_⟩
    · have := Conc.label_same κ w.heap.size lab (0 + j)
      simp only [lab] at this
      rw [if_neg (by omega)] at this
      exact this
    · have := cells_of_new (lab := .pub) hE3 hcr 0 (es.flatMap AV.cells).length (Nat.le_refl _) (fun j _ l2 => by
        have := Conc.label_same κ w.heap.size lab j
        simp only [lab] at this
        rw [if_pos (by omega)] at this
        exact this) hcell
      rw [List.take_length] at this; exact this
    · exact ⟨es.length, upd_same _ _ _, Nat.le_refl _, fun _ => upd_same _ _ _⟩
  · -- a vector
    have hE := Ext.label hI (fun _ => .obj σ.H.length) (.cells (v0 ++ v1) T)
    have hA := hI.alloc (fun _ => .obj σ.H.length) (v0 ++ v1) T
    obtain ⟨p1, p2, p3, p4⟩ := hA.past σ.H.length (Nat.le_refl _)
    have hE2 := Ext.put (w := w.alloc (.cells (v0 ++ v1) T)) p1 p2 p4 none (some es.length) (some (.slice (some (ad w.heap.size 0)) es.length cap)) none
    have hE3 := hE.trans hE2
    have hb : belowL σ.H.length (es.flatMap AV.cells) = true := belowL_iff.2 fun c hc => by
      obtain ⟨i, hi⟩ := mem_getElem? hc
      exact (hcr.2.2 i c hi).ids hI
    refine ⟨_, hE3, LExt.refl _, hA.push ⟨es.length, _, cap, hfl, upd_same _ _ _, upd_same _ _ _, hcap, hb, fun _ => ⟨w.heap.size, 0, rfl, ?_, fun j l1 l2 => ⟨Conc.label_same κ w.heap.size (fun _ => Owner.obj σ.H.length) (0 + j), hroom j l2⟩⟩⟩ (fun y e => by cases e), _, rfl, ?_⟩
    · have := cells_of_new (lab := .obj σ.H.length) hE3 hcr 0 (es.flatMap AV.cells).length (Nat.le_refl _) (fun j _ _ => by exact Conc.label_same κ w.heap.size (fun _ => Owner.obj σ.H.length) j) hcell
      rw [List.take_length] at this; exact this
    · exact Rep.vec _ _ es.length _ cap (upd_same _ _ _) (Nat.le_refl _) (fun _ => upd_same _ _ _)
  · have hE := Ext.label hI (fun _ => .pub) (.cells (v0 ++ v1) T)
    refine ⟨_, hE, LExt.refl _, hI.alloc _ _ T, _, rfl, mk _ _ ?_ ?_⟩
    · have := cells_of_new (lab := .pub) hE hcr 0 (es.flatMap AV.cells).length (Nat.le_refl _) (fun j _ _ => by exact Conc.label_same κ w.heap.size (fun _ => Owner.pub) j) hcell
      rw [List.take_length] at this; exact this
    · rcases hd with rfl | ⟨rfl, rfl⟩
      · trivial
      · exact ⟨_, rfl⟩

/-! ### Stores -/
theorem Ext.setRow {κ : Conc} {w : World} {b o : Nat} {vs : List Value} (h : ∀ j, j < vs.length → κ.ow b (o + j) ≠ .pub ∧ κ.ow b (o + j) ≠ .keep) : Ext κ w κ (setRow w b o vs) where
  pub b' o' e := by
    refine ⟨e, setRow_other b b' o' vs w o ?_⟩
    by_cases hb : b' = b
    · subst hb
      rcases Nat.lt_or_ge o' o with q | q
      · exact .inr (.inl q)
      · rcases Nat.lt_or_ge o' (o + vs.length) with q' | q'
        · have := (h (o' - o) (by omega)).1
          rw [show o + (o' - o) = o' by omega] at this
          exact absurd e this
        · exact .inr (.inr q')
    · exact .inl hb
  keep b' o' e := by
    refine ⟨e, setRow_other b b' o' vs w o ?_, setRow_frozen b _ vs w o⟩
    by_cases hb : b' = b
    · subst hb
      rcases Nat.lt_or_ge o' o with q | q
      · exact .inr (.inl q)
      · rcases Nat.lt_or_ge o' (o + vs.length) with q' | q'
        · have := (h (o' - o) (by omega)).2
          rw [show o + (o' - o) = o' by omega] at this
          exact absurd e this
        · exact .inr (.inr q')
    · exact .inl hb
  loc _ _ e := e
  top _ m e := ⟨m, e, Nat.le_refl _, fun _ => rfl⟩
  mloc _ _ e := e
  tg _ _ e := e
  size := by rw [setRow_size]; exact Nat.le_refl _

/-- Cells of another label are not touched. -/
theorem keep_setRow {κ : Conc} {w : World} {b o : Nat} {vs : List Value} {lab lab' : Owner} (h : ∀ j, j < vs.length → κ.ow b (o + j) = lab) (hne : lab' ≠ lab) (b' o' : Nat) (e : κ.ow b' o' = lab') :
    κ.ow b' o' = lab' ∧ (setRow w b o vs).cell? (ad b' o') = w.cell? (ad b' o') := by
  refine ⟨e, setRow_other b b' o' vs w o ?_⟩
  by_cases hb : b' = b
  · subst hb
    rcases Nat.lt_or_ge o' o with q | q
    · exact .inr (.inl q)
    · rcases Nat.lt_or_ge o' (o + vs.length) with q' | q'
      · have := h (o' - o) (by omega)
        rw [show o + (o' - o) = o' by omega, e] at this
        exact absurd this hne
      · exact .inr (.inr q')
  · exact .inl hb

/-- The written row of cells. -/
theorem Cells.setRow {κ : Conc} {w : World} {b o off : Nat} {cs xs : List AV} {lab : Owner} {vs : List Value} (hlab : lab ≠ .pub ∧ lab ≠ .keep) (h : Cells κ w lab b o cs) (hx : CR κ w xs vs.toArray) (hl : off + xs.length ≤ cs.length) :
    Cells κ (setRow w b (o + off) vs) lab b o (splice cs off xs) := by
  obtain ⟨f, h1, h2, h3⟩ := h
  have hvl : vs.length = xs.length := by simpa using hx.1
  have hE : Ext κ w κ (Eng.setRow w b (o + off) vs) := Ext.setRow (fun j hj => by
    have := (h2 (off + j) (by omega)).1
    rw [show o + off + j = o + (off + j) by omega, this]; exact hlab)
  have hlen : (splice cs off xs).length = cs.length := by simp [splice]; omega
  refine ⟨fun i => if off ≤ i ∧ i < off + xs.length then vs.getD (i - off) undef else f i, ?_, fun i hi => ?_, fun i c hc => ?_⟩
  · intro c hc
    simp only [splice, List.mem_append] at hc
    rcases hc with (hc | hc) | hc
    · exact h1 c (List.mem_of_mem_take hc)
    · exact hx.2.1 c hc
    · exact h1 c (List.mem_of_mem_drop hc)
  · rw [hlen] at hi
    refine ⟨(h2 i hi).1, ?_⟩
    by_cases hin : off ≤ i ∧ i < off + xs.length
    · have hc := setRow_cell b vs w (o + off) (fun j hj => ⟨f (off + j), by
        have := (h2 (off + j) (by omega)).2
        rw [show o + off + j = o + (off + j) by omega]; exact this⟩) (i - off) (by omega)
      rw [show o + off + (i - off) = o + i by omega] at hc
      rw [hc]
      simp only [hin, and_self, if_true]
      simp [show i - off < vs.length by omega]
    · simp only [hin, if_false]
      rw [setRow_other b b (o + i) vs w (o + off) (.inr (by omega))]
      exact (h2 i hi).2
  · by_cases ha : i < off
    · simp only [show ¬ (off ≤ i ∧ i < off + xs.length) by omega, if_false]
      simp only [splice] at hc
      rw [List.getElem?_append_left (by simp; omega), List.getElem?_append_left (by simp; omega), List.getElem?_take_of_lt ha] at hc
      exact (h3 i c hc).mono hE
    · by_cases hb : i < off + xs.length
      · simp only [show off ≤ i ∧ i < off + xs.length by omega, and_self, if_true]
        simp only [splice] at hc
        rw [List.getElem?_append_left (by simp; omega), List.getElem?_append_right (by simp; omega)] at hc
        have hm : min off cs.length = off := by omega
        simp only [List.length_take, hm] at hc
        have := (hx.2.2 _ c hc).mono hE
        simpa using this
      · simp only [show ¬ (off ≤ i ∧ i < off + xs.length) by omega, if_false]
        simp only [splice] at hc
        rw [List.getElem?_append_right (by simp; omega)] at hc
        simp only [List.length_append, List.length_take, List.getElem?_drop] at hc
        rw [show off + xs.length + (i - (min off cs.length + xs.length)) = i by omega] at hc
        exact (h3 i c hc).mono hE

end Go.Proofs.Ytnjaagfhaooapaa.Eng
