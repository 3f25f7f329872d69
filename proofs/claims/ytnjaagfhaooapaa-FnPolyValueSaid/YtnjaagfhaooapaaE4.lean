/- ENGINE 4: the steps of a world that keep what the abstract state says. -/
import Derived.Test.YtnjaagfhaooapaaE3
namespace Go.Proofs.Ytnjaagfhaooapaa.Eng
set_option linter.unusedVariables false
set_option linter.unusedSimpArgs false
set_option linter.unnecessarySimpa false
set_option linter.constructorNameAsVariable false
open Go Go.RowKit

/-- The blocks that a map object or a tag rests on are as they were. -/
structure Same (W w w' : World) : Prop where
  below : Below W.heap.size w w'
  map : ∀ (b : Nat) (ents : Array MapEntry) (clock : Nat), w.heap[b]? = some (.map ents clock) → w'.heap[b]? = some (.map ents clock)
  plain : ∀ b, PlainBlock w b → PlainBlock w' b

theorem Same.refl (W w : World) : Same W w w := ⟨Below.refl _ _, fun _ _ _ h => h, fun _ h => h⟩

theorem Cells.keep0 {κ κ' : Conc} {w w' : World} (h : Ext0 κ w κ' w') {lab lab' : Owner} {b o : Nat} {cs : List AV}
    (hc : ∀ b o, κ.ow b o = lab → κ'.ow b o = lab' ∧ w'.cell? (ad b o) = w.cell? (ad b o)) (k : Cells κ w lab b o cs) : Cells κ' w' lab' b o cs := by
  obtain ⟨f, h1, h2, h3⟩ := k
  exact ⟨f, h1, fun i hi => ⟨(hc _ _ (h2 i hi).1).1, (hc _ _ (h2 i hi).1).2.trans (h2 i hi).2⟩, fun i c e => (h3 i c e).mono0 h⟩

theorem ObjOk.keep0 {W : World} {κ κ' : Conc} {w w' : World} (h : Ext0 κ w κ' w') (hs : Same W w w') {id : Nat} {x : HObj} (e1 : κ'.loc id = κ.loc id) (e2 : κ'.top id = κ.top id) (e3 : κ'.hdr id = κ.hdr id) (e4 : κ'.mloc id = κ.mloc id) (e5 : κ'.tg id = κ.tg id)
    (hc : ∀ b o, κ.ow b o = .obj id → κ'.ow b o = .obj id ∧ w'.cell? (ad b o) = w.cell? (ad b o)) (k : ObjOk κ w id x) : ObjOk κ' w' id x := by
  cases x with
  | cells cs =>
    obtain ⟨b, o, h1, h2, h3⟩ := k
    exact ⟨b, o, e1.trans h1, h2.keep0 h hc, h3⟩
  | top n sz =>
    obtain ⟨h1, a, cap, h2, h3, h4⟩ := k
    refine ⟨e2.trans h1, a, cap, e3.trans h2, h3, fun q => ?_⟩
    obtain ⟨b, o, ha, hj⟩ := h4 q
    refine ⟨b, o, ha, fun j l1 l2 => ?_⟩
    obtain ⟨p1, u, p2⟩ := hj j l1 l2
    exact ⟨(hc _ _ p1).1, u, (hc _ _ p1).2.trans p2⟩
  | vec cs sz =>
    obtain ⟨n, a, cap, h0, h1, h2, h3, h5, h4⟩ := k
    refine ⟨n, a, cap, h0, e2.trans h1, e3.trans h2, h3, h5, fun q => ?_⟩
    obtain ⟨b, o, ha, hcs, hj⟩ := h4 q
    refine ⟨b, o, ha, hcs.keep0 h hc, fun j l1 l2 => ?_⟩
    obtain ⟨p1, u, p2⟩ := hj j l1 l2
    exact ⟨(hc _ _ p1).1, u, (hc _ _ p1).2.trans p2⟩
  | tag =>
    obtain ⟨b, o, h1, h2, h3⟩ := k
    exact ⟨b, o, e5.trans h1, (h.pub _ _ h2).1, hs.plain _ h3⟩
  | map es =>
    obtain ⟨b, clock, ents, h1, h2, h3, h5, h4⟩ := k
    refine ⟨b, clock, ents, e4.trans h1, hs.map _ _ _ h2, h3, h5, fun i e q => ?_⟩
    obtain ⟨u, p1, p2, p3⟩ := h4 i e q
    exact ⟨u, p1, p2.mono0 h, p3.mono0 h⟩

theorem Cells.keep {κ κ' : Conc} {w w' : World} (h : Ext κ w κ' w') {lab lab' : Owner} {b o : Nat} {cs : List AV}
    (hc : ∀ b o, κ.ow b o = lab → κ'.ow b o = lab' ∧ w'.cell? (ad b o) = w.cell? (ad b o)) (k : Cells κ w lab b o cs) : Cells κ' w' lab' b o cs := k.keep0 h.to0 hc

theorem ObjOk.keep {W : World} {κ κ' : Conc} {w w' : World} (h : Ext κ w κ' w') (hs : Same W w w') {id : Nat} {x : HObj} (e1 : κ'.loc id = κ.loc id) (e2 : κ'.top id = κ.top id) (e3 : κ'.hdr id = κ.hdr id) (e4 : κ'.mloc id = κ.mloc id) (e5 : κ'.tg id = κ.tg id)
    (hc : ∀ b o, κ.ow b o = .obj id → κ'.ow b o = .obj id ∧ w'.cell? (ad b o) = w.cell? (ad b o)) (k : ObjOk κ w id x) : ObjOk κ' w' id x := k.keep0 h.to0 hs e1 e2 e3 e4 e5 hc

/-! ### A new block of cells -/
theorem Same.alloc (W w : World) (hW : W.heap.size ≤ w.heap.size) (o : Obj) : Same W w (w.alloc o) where
  below := (Below.refl _ _).alloc hW o
  map b ents clock h := by
    have hb : b < w.heap.size := by
      rcases Nat.lt_or_ge b w.heap.size with q | q
      · exact q
      · simp [Array.getElem?_eq_none q] at h
    rw [Below.heap_alloc _ _ _ hb]; exact h
  plain b h := by
    obtain ⟨c, e, h1, h2⟩ := h
    have hb : b < w.heap.size := by
      rcases Nat.lt_or_ge b w.heap.size with q | q
      · exact q
      · simp [Array.getElem?_eq_none q] at h1
    exact ⟨c, e, by rw [Below.heap_alloc _ _ _ hb]; exact h1, h2⟩

/-- All of block b bears the label. -/
def Conc.label (κ : Conc) (b : Nat) (lab : Nat → Owner) : Conc := { κ with ow := fun b' o => if b' = b then lab o else κ.ow b' o }

theorem Conc.label_other (κ : Conc) {b b' : Nat} (lab : Nat → Owner) (o : Nat) (h : b' ≠ b) : (κ.label b lab).ow b' o = κ.ow b' o := by simp [Conc.label, h]
theorem Conc.label_same (κ : Conc) (b : Nat) (lab : Nat → Owner) (o : Nat) : (κ.label b lab).ow b o = lab o := by simp [Conc.label]

theorem Ext.label {W : World} {κ : Conc} {w : World} {L : Nat → Option (Nat × List AV)} {H : List HObj} (hI : Inv W κ w L H) (lab : Nat → Owner) (o : Obj) : Ext κ w (κ.label w.heap.size lab) (w.alloc o) where
  pub b i h := by
    have hb : b < w.heap.size := hI.lt b i (by rw [h]; simp)
    exact ⟨by rw [Conc.label_other _ _ _ (by omega)]; exact h, World.cell?_alloc_lt _ _ _ hb⟩
  keep b i h := by
    have hb : b < w.heap.size := hI.lt b i (by rw [h]; simp)
    exact ⟨by rw [Conc.label_other _ _ _ (by omega)]; exact h, World.cell?_alloc_lt _ _ _ hb, World.frozen?_alloc_old _ _ _ (by show b ≠ _; omega)⟩
  loc _ _ h := h
  top _ m h := ⟨m, h, Nat.le_refl _, fun _ => rfl⟩
  mloc _ _ h := h
  tg _ _ h := h
  size := by simp

theorem frozen_new (w : World) (cs : Array Value) (T : TypeId) (i : Nat) : (w.alloc (.cells cs T)).frozen? (ad w.heap.size i) = false := by
  have := World.frozen?_alloc_new w cs T i
  exact this

/-- A new block of cells, whatever it is labelled: what was there stays as it was. -/
theorem Inv.alloc {W : World} {κ : Conc} {w : World} {L : Nat → Option (Nat × List AV)} {H : List HObj} (hI : Inv W κ w L H) (lab : Nat → Owner) (cs : Array Value) (T : TypeId) :
    Inv W (κ.label w.heap.size lab) (w.alloc (.cells cs T)) L H := by
  have hE := Ext.label hI lab (.cells cs T)
  have hW : W.heap.size ≤ w.heap.size := hI.below.size
  have hS := Same.alloc W w hW (.cells cs T)
  have hold : ∀ l, l ≠ .none → ∀ b o, κ.ow b o = l → (κ.label w.heap.size lab).ow b o = l ∧ (w.alloc (.cells cs T)).cell? (ad b o) = w.cell? (ad b o) := by
    intro l hl b o h
    have hb : b < w.heap.size := hI.lt b o (by rw [h]; exact hl)
    exact ⟨by rw [Conc.label_other _ _ _ (by omega)]; exact h, World.cell?_alloc_lt _ _ _ hb⟩
  constructor
  · exact hI.below.trans hS.below
  · intro b o h
    by_cases hb : b = w.heap.size
    · subst hb; simp
    · rw [Conc.label_other _ _ _ hb] at h
      have := hI.lt b o h
      simp; omega
  · intro b o h
    by_cases hb : b = w.heap.size
    · subst hb; exact ⟨hW, frozen_new _ _ _ _⟩
    · rw [Conc.label_other _ _ _ hb] at h
      obtain ⟨h1, h2⟩ := hI.own b o h
      exact ⟨h1, (World.frozen?_alloc_old _ _ _ (by exact hb)).trans h2⟩
  · intro id b h
    obtain ⟨h1, h2⟩ := hI.mine id b h
    exact ⟨h1, by simp; omega⟩
  · exact hI.minj
  · intro id x h
    exact (hI.objs id x h).keep hE hS rfl rfl rfl rfl rfl (hold _ (by simp))
  · exact hI.past
  · exact hI.tgs
  · exact hI.tags
  · intro s ver c h
    obtain ⟨b, h1, h2⟩ := hI.locs s ver c h
    exact ⟨b, h1, h2.keep hE (hold _ (by simp))⟩
  · exact hI.nolocs

theorem cell_new (w : World) (cs : Array Value) (T : TypeId) (i : Nat) : (w.alloc (.cells cs T)).cell? (ad w.heap.size i) = cs[i]? := World.cell?_alloc_new _ _ _ _

end Go.Proofs.Ytnjaagfhaooapaa.Eng
