/- ENGINE 11: new boxes and rows, stores. -/
import Derived.Test.YtnjaagfhaooapaaE10
namespace Go.Proofs.Ytnjaagfhaooapaa.Eng
set_option linter.unusedVariables false
set_option linter.unusedSimpArgs false
set_option linter.unnecessarySimpa false
set_option linter.constructorNameAsVariable false
open Go Go.RowKit

/-! ### Ids in range -/
theorem belowL_iff {n : Nat} : ∀ {l : List AV}, belowL n l = true ↔ ∀ c ∈ l, below n c = true
  | [] => by simp [belowL]
  | c :: l => by simp [belowL, belowL_iff (l := l)]

theorem Inv.id_lt {W : World} {κ : Conc} {w : World} {L : Nat → Option (Nat × List AV)} {H : List HObj} (hI : Inv W κ w L H) {id : Nat} (h : κ.loc id ≠ none ∨ κ.top id ≠ none ∨ κ.mloc id ≠ none ∨ κ.tg id ≠ none) : id < H.length := by
  rcases Nat.lt_or_ge id H.length with q | q
  · exact q
  · obtain ⟨h1, h2, h3, h4⟩ := hI.past id q
    simp [h1, h2, h3, h4] at h

theorem Rep.ids {W : World} {κ : Conc} {w : World} {L : Nat → Option (Nat × List AV)} {H : List HObj} (hI : Inv W κ w L H) {a : AV} {v : Value} (h : Rep κ w a v) : Eng.below H.length a = true := by
  induction h with
  | any => rfl
  | int => rfl
  | bool => rfl
  | str => rfl
  | nilp => rfl
  | agg cs vs hl h1 _ ih =>
    exact belowL_iff.2 fun c hc => by obtain ⟨i, hi⟩ := mem_getElem? hc; exact ih i c hi
  | tuple cs vs hl _ ih =>
    exact belowL_iff.2 fun c hc => by obtain ⟨i, hi⟩ := mem_getElem? hc; exact ih i c hi
  | ptr cs off tag b o f h1 hc _ ht ih =>
    have e1 : belowL H.length cs = true := belowL_iff.2 fun c hc => by obtain ⟨i, hi⟩ := mem_getElem? hc; exact ih i c hi
    cases tag with
    | none => simp [Eng.below, e1]
    | some t => simp [Eng.below, e1]; exact hI.id_lt (by rw [ht t rfl]; simp)
  | slice es own a cap b o sz f ha hcap hs hz h1 hc _ ho ih =>
    have e1 : belowL H.length es = true := belowL_iff.2 fun e he => by
      by_cases ho : e.one = true
      · have e2 : e.cells = [e] := by cases e <;> first | rfl | (simp [AV.one] at ho)
        obtain ⟨i, hi⟩ := mem_getElem? (show e ∈ es.flatMap AV.cells from List.mem_flatMap.2 ⟨e, he, by rw [e2]; simp⟩)
        exact ih i e hi
      · cases e with
        | agg cs =>
          refine belowL_iff.2 fun c hc => ?_
          obtain ⟨i, hi⟩ := mem_getElem? (show c ∈ es.flatMap AV.cells from List.mem_flatMap.2 ⟨_, he, hc⟩)
          exact ih i c hi
        | tuple cs => exact absurd (hs _ he).symm (by simpa [AV.cells] using hz)
        | _ => simp [AV.one] at ho
    cases own with
    | tok t =>
      obtain ⟨m, e, _⟩ := ho
      simp [Eng.below, e1]; exact hI.id_lt (by rw [e]; simp)
    | _ => simp [Eng.below, e1]
  | ref id off b o h => simp [Eng.below]; exact hI.id_lt (by rw [h]; simp)
  | vec id len m a cap ht hl hv => simp [Eng.below]; exact hI.id_lt (by rw [ht]; simp)
  | func f cap vs hl _ ih =>
    exact belowL_iff.2 fun c hc => by obtain ⟨i, hi⟩ := mem_getElem? hc; exact ih i c hi
  | map id b h => simp [Eng.below]; exact hI.id_lt (by rw [h]; simp)

/-! ### One object more -/
def Conc.put (κ : Conc) (id : Nat) (l : Option (Nat × Nat)) (t : Option Nat) (h : Option Value) (g : Option (Nat × Nat)) : Conc :=
  { κ with loc := upd κ.loc id l, top := upd κ.top id t, hdr := upd κ.hdr id h, tg := upd κ.tg id g }

theorem Ext.put {κ : Conc} {w : World} {id : Nat} (h1 : κ.loc id = none) (h2 : κ.top id = none) (h4 : κ.tg id = none) (l : Option (Nat × Nat)) (t : Option Nat) (h : Option Value) (g : Option (Nat × Nat)) : Ext κ w (κ.put id l t h g) w where
  pub _ _ e := ⟨e, rfl⟩
  keep _ _ e := ⟨e, rfl, rfl⟩
  loc i x e := by
    have : i ≠ id := by intro q; subst q; rw [h1] at e; cases e
    show upd κ.loc id l i = some x
    rw [upd_ne _ _ this]; exact e
  top i m e := by
    have : i ≠ id := by intro q; subst q; rw [h2] at e; cases e
    refine ⟨m, ?_, Nat.le_refl _, fun _ => ?_⟩
    · show upd κ.top id t i = some m
      rw [upd_ne _ _ this]; exact e
    · show upd κ.hdr id h i = κ.hdr i
      rw [upd_ne _ _ this]
  mloc _ _ e := e
  tg i x e := by
    have : i ≠ id := by intro q; subst q; rw [h4] at e; cases e
    show upd κ.tg id g i = some x
    rw [upd_ne _ _ this]; exact e
  size := Nat.le_refl _

theorem Inv.push {W : World} {κ : Conc} {w : World} {L : Nat → Option (Nat × List AV)} {H : List HObj} (hI : Inv W κ w L H) {x : HObj} {l : Option (Nat × Nat)} {t : Option Nat} {h : Option Value} {g : Option (Nat × Nat)}
    (hx : ObjOk (κ.put H.length l t h g) w H.length x) (hg : ∀ y, g = some y → x = .tag ∧ ∀ j, κ.tg j ≠ some y) : Inv W (κ.put H.length l t h g) w L (H ++ [x]) := by
  obtain ⟨p1, p2, p3, p4⟩ := hI.past H.length (Nat.le_refl _)
  have hE := Ext.put (w := w) p1 p2 p4 l t h g
  constructor
  · exact hI.below
  · exact hI.lt
  · exact hI.own
  · exact hI.mine
  · exact hI.minj
  · intro id y hy
    by_cases q : id < H.length
    · rw [List.getElem?_append_left q] at hy
      have hne : id ≠ H.length := by omega
      exact (hI.objs id y hy).keep hE (Same.refl W w) (upd_ne _ _ hne) (upd_ne _ _ hne) (upd_ne _ _ hne) rfl (upd_ne _ _ hne) (fun _ _ e => ⟨e, rfl⟩)
    · rw [List.getElem?_append_right (by omega)] at hy
      have : id = H.length := by
        rcases Nat.eq_or_lt_of_le (Nat.le_of_not_lt q) with z | z
        · exact z.symm
        · simp [show id - H.length ≠ 0 by omega] at hy
      subst this
      simp at hy; subst hy; exact hx
  · intro id hid
    simp at hid
    obtain ⟨a1, a2, a3, a4⟩ := hI.past id (by omega)
    have hne : id ≠ H.length := by omega
    exact ⟨(upd_ne _ _ hne).trans a1, (upd_ne _ _ hne).trans a2, a3, (upd_ne _ _ hne).trans a4⟩
  · intro i y hy
    by_cases hi : i = H.length
    · subst hi
      have hy' : upd κ.tg H.length g H.length = some y := hy
      rw [upd_same] at hy'
      rw [(hg y hy').1]; simp
    · have hy' : upd κ.tg H.length g i = some y := hy
      rw [upd_ne _ _ hi] at hy'
      have := hI.tgs i y hy'
      rw [List.getElem?_append_left (List.getElem?_eq_some_iff.1 this).1]
      exact this
  · intro i j y hi hj
    have hi' : upd κ.tg H.length g i = some y := hi
    have hj' : upd κ.tg H.length g j = some y := hj
    by_cases qi : i = H.length <;> by_cases qj : j = H.length
    · rw [qi, qj]
    · subst qi
      rw [upd_same] at hi'
      rw [upd_ne _ _ qj] at hj'
      exact absurd hj' ((hg y hi').2 j)
    · subst qj
      rw [upd_same] at hj'
      rw [upd_ne _ _ qi] at hi'
      exact absurd hi' ((hg y hj').2 i)
    · rw [upd_ne _ _ qi] at hi'
      rw [upd_ne _ _ qj] at hj'
      exact hI.tags i j y hi' hj'
  · intro s ver cs hL
    obtain ⟨b, e1, e2⟩ := hI.locs s ver cs hL
    exact ⟨b, e1, e2.keep hE (fun _ _ e => ⟨e, rfl⟩)⟩
  · exact hI.nolocs

/-- The cells of a block that was just made. -/
theorem cells_of_new {κ κ' : Conc} {w w' : World} (hE : Ext κ w κ' w') {b : Nat} {lab : Owner} {cs : List AV} {vs : Array Value} (hcr : CR κ w cs vs) (o n : Nat) (hn : n ≤ cs.length) (hl : ∀ j, o ≤ j → j < o + n → κ'.ow b j = lab) (hc : ∀ i, i < cs.length → w'.cell? (ad b (o + i)) = vs[i]?) :
    Cells κ' w' lab b o (cs.take n) := by
  refine ⟨fun i => vs.getD i undef, fun c hc => hcr.2.1 c (List.mem_of_mem_take hc), fun i hi => ?_, fun i c hi => ?_⟩
  · simp at hi
    refine ⟨hl _ (by omega) (by omega), ?_⟩
    rw [hc i (by omega)]
    have : i < vs.size := by have := hcr.1; omega
    simp [Array.getD, this]
  · have : i < n := by
      rcases Nat.lt_or_ge i n with q | q
      · exact q
      · simp [List.getElem?_take_eq_none q] at hi
    rw [List.getElem?_take_of_lt this] at hi
    exact (hcr.2.2 i c hi).mono hE

theorem newBox_sound {P : Program} {W : World} {κ : Conc} {w : World} {σ : St} {mode dflt : Mode} {dst : Option Nat} {cs : List AV} {vs : Array Value} {T : Nat} {u : Out} (hI : Inv W κ w σ.L σ.H) (hcr : CR κ w cs vs) (h : newBox mode dst σ cs dflt = some u) :
    ∃ κ', Ext κ w κ' (w.alloc (.cells vs T)) ∧ LExt κ κ' ∧ Inv W κ' (w.alloc (.cells vs T)) u.L u.H ∧ ∃ x, u.val = some x ∧ TRep κ' (w.alloc (.cells vs T)) x (.pointer (some (ad w.heap.size 0))) := by
  unfold newBox at h
  split at h
  · simp at h
  · rename_i hne
    have hcell : ∀ i, (w.alloc (.cells vs T)).cell? (ad w.heap.size (0 + i)) = vs[i]? := fun i => by rw [Nat.zero_add]; exact cell_new w vs T i
    have hbelow : belowL σ.H.length cs = true := belowL_iff.2 fun c hc => by
      obtain ⟨i, hi⟩ := mem_getElem? hc
      exact (hcr.2.2 i c hi).ids hI
    split at h
    · -- loc
      split at h
      · rename_i d
        obtain rfl := Option.some.inj h
        have hE := Ext.label hI (fun _ => .loc d) (.cells vs T)
        have hA := hI.alloc (fun _ => .loc d) vs T
        generalize hver : nextVer σ.L d = ver
        have hl : ∀ m b, κ.lloc d = some (m, b) → m < ver := by
          intro m b hm
          cases hL : σ.L d with
          | none => rw [hI.nolocs d hL] at hm; cases hm
          | some p =>
            obtain ⟨v, c⟩ := p
            obtain ⟨b', e1, _⟩ := hI.locs d v c hL
            rw [e1] at hm; injection hm with hm; injection hm with q1 q2
            simp only [nextVer, hL] at hver; omega
        let κ2 : Conc := { κ.label w.heap.size (fun _ => .loc d) with lloc := upd κ.lloc d (some (ver, w.heap.size)) }
        have hE2 : Ext κ w κ2 (w.alloc (.cells vs T)) := ⟨hE.pub, hE.keep, hE.loc, hE.top, hE.mloc, hE.tg, hE.size⟩
        have hE3 : Ext (κ.label w.heap.size (fun _ => .loc d)) (w.alloc (.cells vs T)) κ2 (w.alloc (.cells vs T)) := ⟨fun _ _ e => ⟨e, rfl⟩, fun _ _ e => ⟨e, rfl, rfl⟩, fun _ _ e => e, fun _ m e => ⟨m, e, Nat.le_refl _, fun _ => rfl⟩, fun _ _ e => e, fun _ _ e => e, Nat.le_refl _⟩
        refine ⟨κ2, hE2, ?_, ?_, _, rfl, ver, w.heap.size, upd_same _ _ _, Nat.le_refl _, fun _ => rfl, _, rfl⟩
        · intro s m b e
          by_cases q : s = d
          · subst q
            exact ⟨ver, w.heap.size, upd_same _ _ _, by have := hl m b e; omega, fun z => by have := hl m b e; omega⟩
          · exact ⟨m, b, (upd_ne _ _ q).trans e, Nat.le_refl _, fun _ => rfl⟩
        · constructor
          · exact hA.below
          · exact hA.lt
          · exact hA.own
          · exact hA.mine
          · exact hA.minj
          · intro id x hx
            exact (hA.objs id x hx).keep hE3 (Same.refl W _) rfl rfl rfl rfl rfl (fun _ _ e => ⟨e, rfl⟩)
          · exact hA.past
          · exact hA.tgs
          · exact hA.tags
          · intro s v c hL
            have hL' : upd σ.L d (some (ver, cs)) s = some (v, c) := hL
            by_cases q : s = d
            · subst q
              rw [upd_same] at hL'
              injection hL' with hL'; injection hL' with q1 q2; subst q1 q2
              refine ⟨w.heap.size, upd_same _ _ _, ?_⟩
              have := cells_of_new (κ' := κ2) (lab := .loc s) hE2 hcr 0 cs.length (Nat.le_refl _) (fun j _ _ => by show (κ.label w.heap.size (fun _ => .loc s)).ow _ _ = _; exact Conc.label_same _ _ _ _) (fun i _ => hcell i)
              simpa using this
            · rw [upd_ne _ _ q] at hL'
              obtain ⟨b, e1, e2⟩ := hA.locs s v c hL'
              exact ⟨b, (upd_ne _ _ q).trans e1, e2.keep hE3 (fun _ _ e => ⟨e, rfl⟩)⟩
          · intro s hL
            have hL' : upd σ.L d (some (ver, cs)) s = none := hL
            by_cases q : s = d
            · subst q; rw [upd_same] at hL'; cases hL'
            · rw [upd_ne _ _ q] at hL'
              exact (upd_ne _ _ q).trans (hA.nolocs s hL')
      · simp at h
    · -- heap
      obtain rfl := Option.some.inj h
      have hE := Ext.label hI (fun _ => .obj σ.H.length) (.cells vs T)
      have hA := hI.alloc (fun _ => .obj σ.H.length) vs T
      obtain ⟨p1, p2, p3, p4⟩ := hA.past σ.H.length (Nat.le_refl _)
      have hE2 := Ext.put (w := w.alloc (.cells vs T)) p1 p2 p4 (some (w.heap.size, 0)) none none none
      have hE3 := hE.trans hE2
      refine ⟨_, hE3, LExt.refl _, hA.push ?_ (fun y e => by cases e), _, rfl, ?_⟩
      · refine ⟨w.heap.size, 0, upd_same _ _ _, ?_, hbelow⟩
        have := cells_of_new (lab := .obj σ.H.length) hE3 hcr 0 cs.length (Nat.le_refl _) (fun j _ _ => by exact Conc.label_same κ w.heap.size (fun _ => Owner.obj σ.H.length) j) (fun i _ => hcell i)
        simpa using this
      · exact Rep.ref _ 0 w.heap.size 0 (upd_same _ _ _)
    · -- tag
      obtain rfl := Option.some.inj h
      have hE := Ext.label hI (fun _ => .pub) (.cells vs T)
      have hA := hI.alloc (fun _ => .pub) vs T
      obtain ⟨p1, p2, p3, p4⟩ := hA.past σ.H.length (Nat.le_refl _)
      have hE2 := Ext.put (w := w.alloc (.cells vs T)) p1 p2 p4 none none none (some (w.heap.size, 0))
      have hE3 := hE.trans hE2
      have hc2 := cells_of_new (lab := .pub) hE3 hcr 0 cs.length (Nat.le_refl _) (fun j _ _ => by exact Conc.label_same κ w.heap.size (fun _ => Owner.pub) j) (fun i _ => hcell i)
      simp only [List.take_length] at hc2
      refine ⟨_, hE3, LExt.refl _, hA.push ?_ ?_, _, rfl, ?_⟩
      · refine ⟨w.heap.size, 0, upd_same _ _ _, ?_, vs, T, ?_, ?_⟩
        · exact Conc.label_same κ w.heap.size (fun _ => Owner.pub) 0
        · show (w.heap.push _)[w.heap.size]? = _
          simp
        · have := hcr.1; omega
      · intro y e
        injection e with e; subst e
        refine ⟨rfl, fun j hj => ?_⟩
        have hj' : κ.tg j = some (w.heap.size, 0) := hj
        obtain ⟨b, o, e1, e2, _⟩ := hI.objs j .tag (hI.tgs j _ hj')
        rw [hj'] at e1; injection e1 with e1; injection e1 with q1 q2; subst q1
        have := hI.lt _ _ (by rw [e2]; simp : κ.ow w.heap.size o ≠ .none)
        omega
      · obtain ⟨f, c1, c2, c3⟩ := hc2
        exact Rep.ptr cs 0 (some σ.H.length) w.heap.size 0 f c1 c2 c3 (fun t e => by injection e with e; subst e; exact upd_same _ _ _)
    · -- never written again
      obtain rfl := Option.some.inj h
      have hE := Ext.label hI (fun _ => .pub) (.cells vs T)
      have hc2 := cells_of_new (lab := .pub) hE hcr 0 cs.length (Nat.le_refl _) (fun j _ _ => by exact Conc.label_same _ _ _ _) (fun i _ => hcell i)
      simp only [List.take_length] at hc2
      obtain ⟨f, c1, c2, c3⟩ := hc2
      exact ⟨_, hE, LExt.refl _, hI.alloc _ vs T, _, rfl, Rep.ptr cs 0 none w.heap.size 0 f c1 c2 c3 (fun t e => by cases e)⟩

end Go.Proofs.Ytnjaagfhaooapaa.Eng
