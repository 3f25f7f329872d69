/- ENGINE 5: reading and writing rows of cells in the model. -/
import Derived.Test.YtnjaagfhaooapaaE4
namespace Go.Proofs.Ytnjaagfhaooapaa.Eng
set_option linter.unusedVariables false
set_option linter.unusedSimpArgs false
set_option linter.unnecessarySimpa false
set_option linter.constructorNameAsVariable false
open Go Go.RowKit

theorem ad_add (b o n : Nat) : (ad b o).add n = ad b (o + n) := by
  unfold Addr.add
  split
  · subst_vars; rfl
  · rfl

theorem tinfo_spec {P : Program} {T : TypeId} {ti : TI} (h : tinfo P T = some ti) :
    ∃ i z, (∀ w, (typeInfo T).run P w = .ok i w) ∧ (∀ w, (sizeOf T).run P w = .ok ti.size w) ∧ (∀ w, (isAgg T).run P w = .ok ti.agg w) ∧ (∀ w, (zeroValue T).run P w = .ok z w) ∧
      z.cells.toList = ti.zero ∧ ti.zero.length = ti.size ∧ (∀ v ∈ ti.zero, v.oneCell' = true) ∧ i.bytes = ti.bytes := by
  unfold tinfo at h
  split at h
  · rename_i i d hi hd
    split at h
    · rename_i z hz
      split at h
      · rename_i hc
        obtain rfl := Option.some.inj h
        refine ⟨i, z, fun w => by simp [typeInfo, hi], fun w => by simp [sizeOf, typeInfo, hi], fun w => ?_, fun w => by simp [zeroValue, typeInfo, hi, hz], rfl, by simpa using hc.1, ?_, rfl⟩
        · cases d <;> simp [isAgg, underlying, hd]
        · intro v hv
          have := hc.2
          simp only [Array.all_eq_true_iff_forall_mem] at this
          exact this v (by simpa using hv)
      · simp at h
    · simp at h
  · simp at h

theorem run_loadCellsFrom {P : Program} {w : World} {b o : Nat} {f : Nat → Value} (n : Nat) : ∀ (i : Nat) (acc : Array Value),
    (∀ j, j < n → w.cell? (ad b (o + (i + j))) = some (f (i + j))) →
    (loadCellsFrom (ad b o) i n acc).run P w = .ok (acc ++ ((List.range n).map fun j => f (i + j)).toArray) w := by
  induction n with
  | zero => intro i acc _; simp [loadCellsFrom]
  | succ n ih =>
    intro i acc h
    have h0 := h 0 (by omega)
    simp only [Nat.add_zero] at h0
    simp only [loadCellsFrom, Sem.run_bind, run_load, ad_add, h0, Result.andThen_ok]
    rw [ih (i + 1) (acc.push (f i)) (fun j hj => by have := h (j + 1) (by omega); rw [show i + (j + 1) = i + 1 + j by omega] at this; exact this)]
    congr 1
    rw [List.range_succ_eq_map]
    simp [Function.comp_def]
    congr 2
    have : (fun j => f (i + 1 + j)) = fun x => f (i + (x + 1)) := by funext j; congr 1; omega
    rw [this]

theorem run_loadCells {P : Program} {w : World} {b o n : Nat} {f : Nat → Value} (h : ∀ j, j < n → w.cell? (ad b (o + j)) = some (f j)) :
    (loadCells (ad b o) n).run P w = .ok ((List.range n).map f).toArray w := by
  unfold loadCells
  rw [run_loadCellsFrom n 0 #[] (fun j hj => by simpa using h j hj)]
  simp

theorem run_loadVar_agg {P : Program} {w : World} {T : TypeId} {ti : TI} {b o : Nat} {f : Nat → Value} (ht : tinfo P T = some ti) (ha : ti.agg = true)
    (h : ∀ j, j < ti.size → w.cell? (ad b (o + j)) = some (f j)) : (loadVar T (ad b o)).run P w = .ok (.agg ((List.range ti.size).map f).toArray) w := by
  obtain ⟨_, _, _, h2, h3, _⟩ := tinfo_spec ht
  simp [loadVar, h3, ha, h2, run_loadCells h]

theorem run_loadVar_one {P : Program} {w : World} {T : TypeId} {ti : TI} {b o : Nat} {v : Value} (ht : tinfo P T = some ti) (ha : ti.agg = false)
    (h : w.cell? (ad b o) = some v) : (loadVar T (ad b o)).run P w = .ok v w := by
  obtain ⟨_, _, _, h2, h3, _⟩ := tinfo_spec ht
  simp [loadVar, h3, ha, h]

/-- A row of cells written. -/
def setRow (w : World) (b o : Nat) : List Value → World
  | [] => w
  | v :: vs => setRow (w.setCell (ad b o) v) b (o + 1) vs

theorem setRow_frozen (b : Nat) (p : Addr) : ∀ (vs : List Value) (w : World) (o : Nat), (setRow w b o vs).frozen? p = w.frozen? p
  | [], _, _ => rfl
  | v :: vs, w, o => (setRow_frozen b p vs _ (o + 1)).trans (World.frozen?_setCell ..)

theorem setRow_other (b b' o' : Nat) : ∀ (vs : List Value) (w : World) (o : Nat), (b' ≠ b ∨ o' < o ∨ o + vs.length ≤ o') → (setRow w b o vs).cell? (ad b' o') = w.cell? (ad b' o')
  | [], _, _, _ => rfl
  | v :: vs, w, o, h => by
    rw [setRow, setRow_other b b' o' vs _ (o + 1) (by simp at h; omega)]
    refine World.cell?_setCell_other _ _ _ _ ?_
    intro e
    injection e with e1 e2
    simp at h; omega

theorem setRow_size (b : Nat) : ∀ (vs : List Value) (w : World) (o : Nat), (setRow w b o vs).heap.size = w.heap.size
  | [], _, _ => rfl
  | v :: vs, w, o => (setRow_size b vs _ (o + 1)).trans (World.size_setCell ..)

theorem setRow_cell (b : Nat) : ∀ (vs : List Value) (w : World) (o : Nat), (∀ j, j < vs.length → ∃ u, w.cell? (ad b (o + j)) = some u) →
    ∀ j, j < vs.length → (setRow w b o vs).cell? (ad b (o + j)) = vs[j]?
  | [], _, _, _, j, hj => by simp at hj
  | v :: vs, w, o, h, j, hj => by
    rw [setRow]
    cases j with
    | zero =>
      rw [setRow_other b b (o + 0) vs _ (o + 1) (.inr (.inl (by omega)))]
      obtain ⟨u, hu⟩ := h 0 (by simp)
      simp only [Nat.add_zero] at hu ⊢
      rw [World.cell?_setCell_same _ _ _ hu]; simp
    | succ j =>
      have := setRow_cell b vs (w.setCell (ad b o) v) (o + 1) (fun j hj => by
        obtain ⟨u, hu⟩ := h (j + 1) (by simp; omega)
        refine ⟨u, ?_⟩
        rw [World.cell?_setCell_other _ _ _ _ (by intro e; injection e with e1 e2; omega), show o + 1 + j = o + (j + 1) by omega]
        exact hu) j (by simp at hj; omega)
      rw [show o + (j + 1) = o + 1 + j by omega, this]; simp

theorem run_storeCells {P : Program} {b o : Nat} : ∀ (vs : List Value) (w : World) (i : Nat), (∀ v ∈ vs, v.oneCell' = true) →
    (∀ j, j < vs.length → (∃ u, w.cell? (ad b (o + i + j)) = some u) ∧ w.frozen? (ad b (o + i + j)) = false) →
    (storeCells (ad b o) vs i).run P w = .ok () (setRow w b (o + i) vs)
  | [], w, i, _, _ => rfl
  | v :: vs, w, i, hv, h => by
    obtain ⟨⟨u, hu⟩, hf⟩ := h 0 (by simp)
    simp only [Nat.add_zero] at hu hf
    simp only [storeCells, Sem.run_bind, ad_add]
    rw [run_store _ _ _ _ _ (hv v (by simp))]
    simp only [hu, hf, Bool.false_eq_true, if_false, Result.andThen_ok]
    rw [run_storeCells vs _ (i + 1) (fun v' h' => hv v' (by simp [h'])) (fun j hj => by
      obtain ⟨⟨u, hu⟩, hf⟩ := h (j + 1) (by simp; omega)
      refine ⟨⟨u, ?_⟩, ?_⟩
      · rw [World.cell?_setCell_other _ _ _ _ (by intro e; injection e with e1 e2; omega), show o + (i + 1) + j = o + i + (j + 1) by omega]
        exact hu
      · rw [World.frozen?_setCell, show o + (i + 1) + j = o + i + (j + 1) by omega]; exact hf)]
    rfl

theorem run_storeVar {P : Program} {w : World} {T : TypeId} {ti : TI} {b o : Nat} {v : Value} (ht : tinfo P T = some ti) (hs : v.cells.size = ti.size) (hv : ∀ u ∈ v.cells.toList, u.oneCell' = true)
    (h : ∀ j, j < ti.size → (∃ u, w.cell? (ad b (o + j)) = some u) ∧ w.frozen? (ad b (o + j)) = false) :
    (storeVar T (ad b o) v).run P w = .ok () (setRow w b o v.cells.toList) := by
  obtain ⟨_, _, _, h2, h3, _⟩ := tinfo_spec ht
  simp only [storeVar, Sem.run_bind, h2, Result.andThen_ok, hs, ne_eq, not_true, if_false]
  exact run_storeCells _ _ 0 hv (fun j hj => by simpa using h j (by simpa [hs] using hj))

theorem setRow_heap_other (b k : Nat) (hk : k ≠ b) : ∀ (vs : List Value) (w : World) (o : Nat), (setRow w b o vs).heap[k]? = w.heap[k]?
  | [], _, _ => rfl
  | v :: vs, w, o => (setRow_heap_other b k hk vs _ (o + 1)).trans (Below.heap_setCell _ _ _ _ hk)

theorem Below.setRow {B : Nat} {a : World} {b : Nat} (hb : B ≤ b) : ∀ (vs : List Value) (w : World) (o : Nat), Below B a w → Below B a (setRow w b o vs)
  | [], _, _, h => h
  | v :: vs, w, o, h => Below.setRow hb vs _ (o + 1) (h.setCell (p := ad b o) hb v)

theorem plain_setCell {w : World} {p : Addr} {v : Value} {b : Nat} (h : PlainBlock w b) : PlainBlock (w.setCell p v) b := by
  obtain ⟨c, e, h1, h2⟩ := h
  by_cases hb : p.block = b
  · refine ⟨if p.spot.isSome then c else c.setIfInBounds p.off v, e, ?_, by split <;> simp [h2]⟩
    simp [World.setCell, Array.getElem?_modify, hb, h1]
  · exact ⟨c, e, by rw [Below.heap_setCell _ _ _ _ (fun e => hb e.symm)]; exact h1, h2⟩

theorem map_setCell {w : World} {p : Addr} {v : Value} {b : Nat} {ents : Array MapEntry} {clock : Nat} (h : w.heap[b]? = some (.map ents clock)) : (w.setCell p v).heap[b]? = some (.map ents clock) := by
  by_cases hb : p.block = b
  · simp [World.setCell, Array.getElem?_modify, hb, h]
  · rw [Below.heap_setCell _ _ _ _ (fun e => hb e.symm)]; exact h

theorem Same.setRow {W : World} {b : Nat} (hb : W.heap.size ≤ b) : ∀ (vs : List Value) (w : World) (o : Nat), Same W w (setRow w b o vs)
  | [], w, _ => Same.refl W w
  | v :: vs, w, o => by
    have h := Same.setRow hb vs (w.setCell (ad b o) v) (o + 1)
    exact ⟨((Below.refl _ _).setCell (p := ad b o) hb v).trans h.below, fun b' ents clock q => h.map _ _ _ (map_setCell q), fun b' q => h.plain _ (plain_setCell q)⟩

end Go.Proofs.Ytnjaagfhaooapaa.Eng
