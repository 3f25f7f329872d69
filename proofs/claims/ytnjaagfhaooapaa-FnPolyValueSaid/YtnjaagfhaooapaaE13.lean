/- ENGINE 13: stores into boxes and vectors. -/
import Derived.Test.YtnjaagfhaooapaaE12
namespace Go.Proofs.Ytnjaagfhaooapaa.Eng
set_option linter.unusedVariables false
set_option linter.unusedSimpArgs false
set_option linter.unnecessarySimpa false
set_option linter.constructorNameAsVariable false
open Go Go.RowKit

/-- One object of the heap is changed in its own cells; some of these may have been handed on as never written again. -/
theorem Inv.modify {W : World} {κ κ' : Conc} {w w' : World} {L : Nat → Option (Nat × List AV)} {H : List HObj} {id : Nat} {x' : HObj} (hI : Inv W κ w L H) (hE : Ext κ w κ' w') (hS : Same W w w') (hsz : w'.heap.size = w.heap.size)
    (hfr : ∀ p, w'.frozen? p = w.frozen? p) (e1 : κ'.lloc = κ.lloc) (e2 : κ'.mloc = κ.mloc) (e3 : κ'.tg = κ.tg) (e4 : ∀ i, i ≠ id → κ'.loc i = κ.loc i ∧ κ'.top i = κ.top i ∧ κ'.hdr i = κ.hdr i)
    (hid : id < H.length) (how : ∀ b o, κ'.ow b o = κ.ow b o ∨ (κ.ow b o = .obj id ∧ κ'.ow b o = .pub))
    (hcell : ∀ b o, κ.ow b o ≠ .none → κ.ow b o ≠ .obj id → w'.cell? (ad b o) = w.cell? (ad b o))
    (hx : ObjOk κ' w' id x') (hnt : H[id]? ≠ some .tag) : Inv W κ' w' L (H.set id x') := by
  have hold : ∀ l, l ≠ .none → l ≠ .obj id → ∀ b o, κ.ow b o = l → κ'.ow b o = l ∧ w'.cell? (ad b o) = w.cell? (ad b o) := by
    intro l h1 h2 b o e
    refine ⟨?_, hcell b o (by rw [e]; exact h1) (by rw [e]; exact h2)⟩
    rcases how b o with q | q
    · rw [q]; exact e
    · rw [e] at q; exact absurd q.1 h2
  constructor
  · exact hI.below.trans hS.below
  · intro b o h
    rw [hsz]
    rcases how b o with q | q
    · rw [q] at h; exact hI.lt b o h
    · exact hI.lt b o (by rw [q.1]; simp)
  · intro b o h
    rw [hfr]
    rcases how b o with q | q
    · rw [q] at h; exact hI.own b o h
    · rw [q.2] at h; rcases h with ⟨_, h⟩ | ⟨_, h⟩ <;> cases h
  · intro i b h
    rw [e2] at h; rw [hsz]; exact hI.mine i b h
  · intro i j b h1 h2
    rw [e2] at h1 h2; exact hI.minj i j b h1 h2
  · intro i y hy
    by_cases q : i = id
    · subst q
      rw [List.getElem?_set_self hid] at hy
      injection hy with hy; subst hy; exact hx
    · rw [List.getElem?_set_ne (fun z => q z.symm)] at hy
      obtain ⟨f1, f2, f3⟩ := e4 i q
      exact (hI.objs i y hy).keep hE hS f1 f2 f3 (by rw [e2]) (by rw [e3]) (hold _ (by simp) (by simp [q]))
  · intro i hi
    simp at hi
    obtain ⟨a1, a2, a3, a4⟩ := hI.past i hi
    obtain ⟨f1, f2, f3⟩ := e4 i (by omega)
    exact ⟨f1.trans a1, f2.trans a2, by rw [e2]; exact a3, by rw [e3]; exact a4⟩
  · intro i y hy
    rw [e3] at hy
    have := hI.tgs i y hy
    have hne : i ≠ id := by intro q; subst q; exact hnt this
    rw [List.getElem?_set_ne (fun z => hne z.symm)]; exact this
  · intro i j y h1 h2
    rw [e3] at h1 h2; exact hI.tags i j y h1 h2
  · intro s v c hL
    obtain ⟨b, f1, f2⟩ := hI.locs s v c hL
    exact ⟨b, by rw [e1]; exact f1, f2.keep hE (hold _ (by simp) (by simp))⟩
  · intro s hL
    rw [e1]; exact hI.nolocs s hL

theorem LExt.of_eq {κ κ' : Conc} (h : κ'.lloc = κ.lloc) : LExt κ κ' := fun s m b e => ⟨m, b, by rw [h]; exact e, Nat.le_refl _, fun _ => rfl⟩

theorem norm_one (n : Nat) (d : AV) : (norm n d).one = d.one := by
  cases d with
  | slice es own =>
    cases own with
    | tok t => show (if t < n then AV.slice es (.tok t) else .slice es .view).one = _; split <;> rfl
    | _ => rfl
  | _ => rfl

theorem norm_rep {κ : Conc} {w : World} {n : Nat} {a : AV} {v : Value} (h : Rep κ w a v) : Rep κ w (norm n a) v := by
  induction h with
  | agg cs vs hl h1 _ ih =>
    have hn : ∀ (l : List AV), normL n l = l.map (norm n) := by
      intro l; induction l with
      | nil => rfl
      | cons c l ih => simp [normL, ih]
    show Rep κ w (.agg (normL n cs)) _
    rw [hn]
    refine .agg _ _ (by simpa using hl) ?_ ?_
    · intro c hc
      obtain ⟨d, hd, rfl⟩ := List.mem_map.1 hc
      rw [norm_one]; exact h1 d hd
    · intro i c hc
      rw [List.getElem?_map] at hc
      cases hd : cs[i]? with
      | none => simp [hd] at hc
      | some d => simp [hd] at hc; subst hc; exact ih i d hd
  | tuple cs vs hl _ ih =>
    have hn : ∀ (l : List AV), normL n l = l.map (norm n) := by
      intro l; induction l with
      | nil => rfl
      | cons c l ih => simp [normL, ih]
    show Rep κ w (.tuple (normL n cs)) _
    rw [hn]
    refine .tuple _ _ (by simpa using hl) ?_
    intro i c hc
    rw [List.getElem?_map] at hc
    cases hd : cs[i]? with
    | none => simp [hd] at hc
    | some d => simp [hd] at hc; subst hc; exact ih i d hd
  | slice es own a cap b o sz f ha hcap hs hz h1 hc hh ho _ =>
    cases own with
    | tok t =>
      show Rep κ w (if t < n then .slice es (.tok t) else .slice es .view) _
      split
      · exact .slice es _ a cap b o sz f ha hcap hs hz h1 hc hh ho
      · exact .slice es .view a cap b o sz f ha hcap hs hz h1 hc hh trivial
    | view => exact .slice es _ a cap b o sz f ha hcap hs hz h1 hc hh ho
    | full => exact .slice es _ a cap b o sz f ha hcap hs hz h1 hc hh ho
  | any v hv => exact .any v hv
  | int k m => exact .int k m
  | bool b => exact .bool b
  | str l => exact .str l
  | nilp => exact .nilp
  | ptr cs off tag b o f h1 hc hh ht _ => exact .ptr cs off tag b o f h1 hc hh ht
  | ref id off b o e => exact .ref id off b o e
  | vec id len m a cap ht hl hv => exact .vec id len m a cap ht hl hv
  | func f cap vs hl hh _ => exact .func f cap vs hl hh
  | map id b e => exact .map id b e

theorem below_cells {n : Nat} {x : AV} (h : below n x = true) : belowL n x.cells = true := by
  cases x <;> first | exact h | (simp [AV.cells, belowL]; done) | (simp [AV.cells, belowL]; exact h)

theorem belowL_splice {n : Nat} {cs xs : List AV} {off : Nat} (h : belowL n cs = true) (k : belowL n xs = true) : belowL n (splice cs off xs) = true := by
  rw [belowL_iff] at *
  intro c hc
  simp only [splice, List.mem_append] at hc
  rcases hc with (hc | hc) | hc
  · exact h c (List.mem_of_mem_take hc)
  · exact k c hc
  · exact h c (List.mem_of_mem_drop hc)

theorem astore_sound {P : Program} {W : World} {κ : Conc} {w : World} {σ : St} {T : Nat} {ti : TI} {x : AV} {y : TV} {vx vy : Value} {u : Out} (hI : Inv W κ w σ.L σ.H) (ht : tinfo P T = some ti) (h : astore σ ti x y = some u) (hx : Rep κ w x vx) (hy : TRep κ w y vy) :
    u.val = none ∧ ∃ w', (Instr.storeAt T vy vx).run P w = .ok () w' ∧ Ext κ w κ w' ∧ Inv W κ w' u.L u.H := by
  unfold astore at h
  split at h
  · -- a local box
    rename_i s ver off
    split at h
    · rename_i ver' cs hL
      split at h
      · rename_i hc
        obtain ⟨rfl, c1, c2, c3⟩ := hc
        obtain rfl := Option.some.inj h
        have hne : x.cells ≠ [] := by intro e; rw [e] at c1; simp at c1; omega
        obtain ⟨k1, k2, k3, k4⟩ := hx.cells hne
        obtain ⟨m, b, e, l, d, _⟩ := hy
        obtain ⟨b', e', hcs⟩ := hI.locs _ _ _ hL
        rw [e] at e'; injection e' with e'; injection e' with q1 q2; subst q1 q2
        obtain rfl := d rfl
        have hcell : ∀ j, j < ti.size → κ.ow b (off + j) = .loc s ∧ (∃ u, w.cell? (ad b (off + j)) = some u) ∧ w.frozen? (ad b (off + j)) = false := fun j hj => by
          obtain ⟨f, _, f2, _⟩ := hcs
          have := f2 (off + j) (by omega)
          rw [Nat.zero_add] at this
          exact ⟨this.1, ⟨_, this.2⟩, (hI.own b (off + j) (.inr ⟨s, this.1⟩)).2⟩
        have hlen : vx.cells.toList.length = ti.size := by simp; omega
        have hrun := run_storeVar (P := P) (w := w) (b := b) (o := off) (v := vx) ht (by omega) k4 (fun j hj => (hcell j hj).2)
        have hE : Ext κ w κ (setRow w b off vx.cells.toList) := Ext.setRow (fun j hj => by
          rw [hlen] at hj; rw [(hcell j hj).1]; simp)
        have hb : W.heap.size ≤ b := (hI.own b off (.inr ⟨s, by have := (hcell 0 (by omega)).1; simpa using this⟩)).1
        have hS := Same.setRow (W := W) hb vx.cells.toList w off
        refine ⟨rfl, _, by simp [Instr.storeAt, Instr.sureAddr, hrun], hE, ?_⟩
        have hkeep : ∀ lab', lab' ≠ Owner.loc s → ∀ b' o', κ.ow b' o' = lab' → κ.ow b' o' = lab' ∧ (setRow w b off vx.cells.toList).cell? (ad b' o') = w.cell? (ad b' o') :=
          fun lab' hne b' o' e => keep_setRow (lab := .loc s) (fun j hj => by rw [hlen] at hj; exact (hcell j hj).1) hne b' o' e
        constructor
        · exact hI.below.trans hS.below
        · intro b o h; rw [setRow_size]; exact hI.lt b o h
        · intro b o h; rw [setRow_frozen]; exact hI.own b o h
        · intro i b h; rw [setRow_size]; exact hI.mine i b h
        · exact hI.minj
        · intro i y hy
          exact (hI.objs i y hy).keep hE hS rfl rfl rfl rfl rfl (hkeep _ (by simp))
        · exact hI.past
        · exact hI.tgs
        · exact hI.tags
        · intro s2 v2 c2 hL2
          have hL2' : upd σ.L s (some (m, splice cs off x.cells)) s2 = some (v2, c2) := hL2
          by_cases q : s2 = s
          · subst q
            rw [upd_same] at hL2'
            injection hL2' with hL2'; injection hL2' with q1 q2; subst q1 q2
            refine ⟨b, e, ?_⟩
            have := Cells.setRow (off := off) (vs := vx.cells.toList) ⟨by simp, by simp⟩ hcs (by simpa using hx.cr hne) (by omega)
            rw [Nat.zero_add] at this
            exact this
          · rw [upd_ne _ _ q] at hL2'
            obtain ⟨b2, f1, f2⟩ := hI.locs s2 v2 c2 hL2'
            exact ⟨b2, f1, f2.keep hE (hkeep _ (by simp [q]))⟩
        · intro s2 hL2
          have hL2' : upd σ.L s (some (m, splice cs off x.cells)) s2 = none := hL2
          by_cases q : s2 = s
          · subst q; rw [upd_same] at hL2'; cases hL2'
          · rw [upd_ne _ _ q] at hL2'; exact hI.nolocs s2 hL2'
      · simp at h
    · simp at h
  · -- a box of the heap
    rename_i id off
    split at h
    · rename_i cs hH
      split at h
      · rename_i hc
        obtain ⟨c1, c2, c3, c4⟩ := hc
        obtain rfl := Option.some.inj h
        have hx' := norm_rep (n := id) hx
        have hne : (norm id x).cells ≠ [] := by intro e; rw [e] at c1; simp at c1; omega
        obtain ⟨k1, k2, k3, k4⟩ := hx'.cells hne
        cases hy with
        | ref _ _ b o e =>
        obtain ⟨b', o', e', hcs, hbl⟩ := hI.objs _ _ hH
        rw [e] at e'; injection e' with e'; injection e' with q1 q2; subst q1 q2
        have hcell : ∀ j, j < ti.size → κ.ow b (o + off + j) = .obj id ∧ (∃ u, w.cell? (ad b (o + off + j)) = some u) ∧ w.frozen? (ad b (o + off + j)) = false := fun j hj => by
          obtain ⟨f, _, f2, _⟩ := hcs
          have := f2 (off + j) (by omega)
          rw [← Nat.add_assoc] at this
          exact ⟨this.1, ⟨_, this.2⟩, (hI.own b (o + off + j) (.inl ⟨id, this.1⟩)).2⟩
        have hlen : vx.cells.toList.length = ti.size := by simp; omega
        have hrun := run_storeVar (P := P) (w := w) (b := b) (o := o + off) (v := vx) ht (by omega) k4 (fun j hj => (hcell j hj).2)
        have hE : Ext κ w κ (setRow w b (o + off) vx.cells.toList) := Ext.setRow (fun j hj => by
          rw [hlen] at hj; rw [(hcell j hj).1]; simp)
        have hb : W.heap.size ≤ b := (hI.own b (o + off) (.inl ⟨id, by have := (hcell 0 (by omega)).1; simpa using this⟩)).1
        have hS := Same.setRow (W := W) hb vx.cells.toList w (o + off)
        refine ⟨rfl, _, by simp [Instr.storeAt, Instr.sureAddr, hrun], hE, ?_⟩
        refine hI.modify hE hS (setRow_size _ _ _ _) (fun p => setRow_frozen b p _ w _) rfl rfl rfl (fun _ _ => ⟨rfl, rfl, rfl⟩) (List.getElem?_eq_some_iff.1 hH).1 (fun _ _ => .inl rfl) ?_ ?_ (by rw [hH]; simp)
        · intro b' o' h1 h2
          exact (keep_setRow (lab := .obj id) (fun j hj => by rw [hlen] at hj; exact (hcell j hj).1) h2 b' o' rfl).2
        · exact ⟨b, o, e, Cells.setRow ⟨by simp, by simp⟩ hcs (by simpa using hx'.cr hne) (by omega), belowL_splice hbl (below_cells c4)⟩
      · simp at h
    · simp at h
  · -- a vector
    rename_i id len off
    split at h
    · rename_i cs sz hH
      split at h
      · rename_i hc
        obtain ⟨c0, c00, c1, c2, c3, c4⟩ := hc
        obtain rfl := Option.some.inj h
        have hne : x.cells ≠ [] := by intro e; rw [e] at c1; simp at c1; omega
        obtain ⟨k1, k2, k3, k4⟩ := hx.cells hne
        obtain ⟨n, a, cap, f0, f1, f2, f3, f5, f4⟩ := hI.objs _ _ hH
        obtain ⟨m, t1, t2, t3, p, rfl⟩ := hy
        rw [f1] at t1; obtain rfl := Option.some.inj t1
        have hn : n = len := by
          rw [c0] at f0
          exact (Nat.eq_of_mul_eq_mul_right (by omega) f0).symm
        subst hn
        obtain ⟨b, o, cap', q1, q2⟩ := t3 rfl
        rw [f2] at q1; injection q1 with q1; injection q1 with r1 r2 r3; subst r1 r3
        injection q2 with q2; injection q2 with q2; subst q2
        have hle : n * sz ≤ cap * sz := Nat.mul_le_mul_right _ f3
        obtain ⟨b', o', hb', hcs, hroom⟩ := f4 (by omega)
        injection hb' with hb'; injection hb' with hb1 hb2; subst hb1 hb2
        have hcell : ∀ j, j < ti.size → κ.ow b (o + off + j) = .obj id ∧ (∃ u, w.cell? (ad b (o + off + j)) = some u) ∧ w.frozen? (ad b (o + off + j)) = false := fun j hj => by
          obtain ⟨f, _, g2, _⟩ := hcs
          have := g2 (off + j) (by omega)
          rw [← Nat.add_assoc] at this
          exact ⟨this.1, ⟨_, this.2⟩, (hI.own b (o + off + j) (.inl ⟨id, this.1⟩)).2⟩
        have hlen : vx.cells.toList.length = ti.size := by simp; omega
        have hrun := run_storeVar (P := P) (w := w) (b := b) (o := o + off) (v := vx) ht (by omega) k4 (fun j hj => (hcell j hj).2)
        have hE : Ext κ w κ (setRow w b (o + off) vx.cells.toList) := Ext.setRow (fun j hj => by
          rw [hlen] at hj; rw [(hcell j hj).1]; simp)
        have hb : W.heap.size ≤ b := (hI.own b (o + off) (.inl ⟨id, by have := (hcell 0 (by omega)).1; simpa using this⟩)).1
        have hS := Same.setRow (W := W) hb vx.cells.toList w (o + off)
        refine ⟨rfl, _, by simp [Instr.storeAt, Instr.sureAddr, hrun], hE, ?_⟩
        refine hI.modify hE hS (setRow_size _ _ _ _) (fun p => setRow_frozen b p _ w _) rfl rfl rfl (fun _ _ => ⟨rfl, rfl, rfl⟩) (List.getElem?_eq_some_iff.1 hH).1 (fun _ _ => .inl rfl) ?_ ?_ (by rw [hH]; simp)
        · intro b' o' h1 h2
          exact (keep_setRow (lab := .obj id) (fun j hj => by rw [hlen] at hj; exact (hcell j hj).1) h2 b' o' rfl).2
        · refine ⟨n, _, cap, ?_, f1, f2, f3, belowL_splice f5 (below_cells c4), fun _ => ⟨b, o, rfl, Cells.setRow ⟨by simp, by simp⟩ hcs (by simpa using hx.cr hne) (by omega), fun j l1 l2 => ?_⟩⟩
          · simp [splice]; omega
          · obtain ⟨g1, g2⟩ := hroom j l1 l2
            refine ⟨g1, ?_⟩
            rw [setRow_other b b (o + j) vx.cells.toList w (o + off) (.inr (.inr (by omega)))]
            exact g2
      · simp at h
    · simp at h
  · simp at h

end Go.Proofs.Ytnjaagfhaooapaa.Eng
