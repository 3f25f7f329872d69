/- ENGINE 25: code and calls. -/
import Derived.Test.YtnjaagfhaooapaaE24
import Derived.LoopN
namespace Go.Proofs.Ytnjaagfhaooapaa.Eng
set_option linter.unusedVariables false
set_option linter.unusedSimpArgs false
set_option linter.unnecessarySimpa false
set_option linter.constructorNameAsVariable false
open Go Go.RowKit

def ofEx : AEx → Exit
  | .normal => .normal
  | .exit id => .exit id
  | .ret => .ret

theorem wp_bind {P : Program} {c : Code} {Q Q' : Exit → Act → World → Prop} {a : Act} {w : World} (h : c.wp P Q a w) (hq : ∀ e a w, Q e a w → Q' e a w) : c.wp P Q' a w := wp_mono h hq

/-- What is looked up for a drawn region covers it. -/
theorem pairsAt_spec {P : Program} {f : FuncId} {id : Nat} {ps : List (Nat × Nat)} {fn : Func} {c : Code} (hf : P.funcs[f]? = some fn) (hb : fn.body = some c) (h : pairsAt P f id = some ps) {ops : Array Oper} (hm : (id, ops) ∈ drawnIn c) :
    ∃ ps0, unordered ops = some ps0 ∧ ∀ p ∈ ps0, p ∈ ps := by
  unfold pairsAt at h
  simp only [hf, hb] at h
  have key : ∀ (l : List (Nat × Array Oper)) (acc r : List (Nat × Nat)), l.foldl (fun acc r => match acc, unordered r.2 with | some a, some b => some (b ++ a) | _, _ => none) (some acc) = some r →
      (∀ p ∈ acc, p ∈ r) ∧ ∀ q ∈ l, ∃ ps0, unordered q.2 = some ps0 ∧ ∀ p ∈ ps0, p ∈ r := by
    intro l
    induction l with
    | nil => intro acc r h; simp at h; subst h; exact ⟨fun _ h => h, fun q hq => by cases hq⟩
    | cons q l ih =>
      intro acc r h
      simp only [List.foldl_cons] at h
      cases hu : unordered q.2 with
      | none =>
        simp only [hu] at h
        have : ∀ (l : List (Nat × Array Oper)), l.foldl (fun acc r => match acc, unordered r.2 with | some a, some b => some (b ++ a) | _, _ => none) (none : Option (List (Nat × Nat))) = none := by
          intro l; induction l with
          | nil => rfl
          | cons _ _ ih => simp only [List.foldl_cons]; exact ih
        rw [this] at h; cases h
      | some b =>
        simp only [hu] at h
        obtain ⟨h1, h2⟩ := ih (b ++ acc) r h
        refine ⟨fun p hp => h1 p (List.mem_append.2 (.inr hp)), fun q' hq' => ?_⟩
        rcases List.mem_cons.1 hq' with rfl | hq'
        · exact ⟨b, hu, fun p hp => h1 p (List.mem_append.2 (.inl hp))⟩
        · exact h2 q' hq'
  exact (key _ [] ps h).2 (id, ops) (List.mem_filter.2 ⟨hm, by simp⟩)

/-- What follows code. -/
def CodeOk (P : Program) (W : World) (n : Nat) (c : Code) (step : St → Option (AEx × St)) : Prop :=
  ∀ (κ : Conc) (σ σ' : St) (e : AEx) (a : Act) (w : World) (Q : Exit → Act → World → Prop), step σ = some (e, σ') → SRep W n κ σ a w → (∀ κ' a' w', Ext κ w κ' w' → LExt κ κ' → SRep W n κ' σ' a' w' → Q (ofEx e) a' w') → c.wp P Q a w

theorem iterA_sound {P : Program} {W : World} {n : Nat} {c : Code} {step : St → Option (AEx × St)} (hstep : CodeOk P W n c step) (k : Nat) : CodeOk P W n (.loop c) (iterA step k) := by
  have key : ∀ (k : Nat) (κ : Conc) (σ σ' : St) (e : AEx) (a : Act) (w : World) (Q : Exit → Act → World → Prop), iterA step k σ = some (e, σ') → SRep W n κ σ a w → (∀ κ' a' w', Ext κ w κ' w' → LExt κ κ' → SRep W n κ' σ' a' w' → Q (ofEx e) a' w') → Code.rounds P c Q k a w := by
    intro k
    induction k with
    | zero => intro κ σ σ' e a w Q h; simp [iterA] at h
    | succ k ih =>
      intro κ σ σ' e a w Q h hS hK
      rw [rounds_succ]
      simp only [iterA] at h
      split at h
      · rename_i σ1 h1
        refine hstep κ σ σ1 .normal a w _ h1 hS (fun κ1 a1 w1 x1 x2 x3 => ?_)
        exact ih κ1 σ1 σ' e a1 w1 Q h x3 (fun κ' a' w' y1 y2 y3 => hK κ' a' w' (x1.trans y1) (x2.trans y2) y3)
      · rename_i hne
        have hen : e ≠ .normal := by
          intro q; subst q
          exact hne σ' h
        refine hstep κ σ σ' e a w _ h hS (fun κ1 a1 w1 x1 x2 x3 => ?_)
        have := hK κ1 a1 w1 x1 x2 x3
        cases e with
        | normal => exact absurd rfl hen
        | exit i => exact this
        | ret => exact this
  intro κ σ σ' e a w Q h hS hK
  exact wp_loop_rounds k (key k κ σ σ' e a w Q h hS hK)

theorem exec_sound {P : Program} {W : World} {n : Nat} {md : Nat → Mode} {call : CallF} {f : FuncId} {fn : Func} {body : Code} (hwide : P.follows .mixedOrders = true) (hcall : CallOk P call) (hf : P.funcs[f]? = some fn) (hb : fn.body = some body) (k : Nat) :
    ∀ (c : Code), (∀ q ∈ drawnIn c, q ∈ drawnIn body) → CodeOk P W n c (aexecN P md f n call k c) := by
  intro c
  induction c with
  | skip =>
    intro _ κ σ σ' e a w Q h hS hK
    simp only [aexecN] at h
    injection h with h; injection h with h1 h2; subst h1 h2
    exact wp_skip (hK κ a w (Ext.refl _ _) (LExt.refl _) hS)
  | region id ops draw =>
    intro hsub κ σ σ' e a w Q h hS hK
    cases draw with
    | false =>
      simp only [aexecN] at h
      cases hr : runOps P md n call ops ops.toList σ with
      | none => simp [hr] at h
      | some σ1 =>
        simp [hr] at h
        obtain ⟨rfl, rfl⟩ := h
        exact region_sound hcall hS hr hK
    | true =>
      simp only [aexecN] at h
      split at h
      · rename_i ps σ1 l hps hr
        split at h
        · rename_i hc
          injection h with h; injection h with h1 h2; subst h1 h2
          obtain ⟨ps0, hu, hs⟩ := pairsAt_spec hf hb hps (hsub (id, ops) (by simp [drawnIn]))
          exact drawn_sound hwide hcall hS hr hu hs hc hK
        · simp at h
      · simp at h
  | seq x y ihx ihy =>
    intro hsub κ σ σ' e a w Q h hS hK
    simp only [aexecN] at h
    have hx := ihx (fun q hq => hsub q (by simp [drawnIn, hq]))
    have hy := ihy (fun q hq => hsub q (by simp [drawnIn, hq]))
    apply wp_seq
    split at h
    · rename_i σ1 h1
      refine hx κ σ σ1 .normal a w _ h1 hS (fun κ1 a1 w1 x1 x2 x3 => ?_)
      exact hy κ1 σ1 σ' e a1 w1 Q h x3 (fun κ' a' w' y1 y2 y3 => hK κ' a' w' (x1.trans y1) (x2.trans y2) y3)
    · rename_i hne
      have hen : e ≠ .normal := by intro q; subst q; exact hne σ' h
      refine hx κ σ σ' e a w _ h hS (fun κ1 a1 w1 x1 x2 x3 => ?_)
      have := hK κ1 a1 w1 x1 x2 x3
      cases e with
      | normal => exact absurd rfl hen
      | exit i => exact this
      | ret => exact this
  | cond c x y ihx ihy =>
    intro hsub κ σ σ' e a w Q h hS hK
    simp only [aexecN] at h
    split at h
    · rename_i hc
      exact wp_cond_true (boolval (Rep.of_eval hS hc)) (ihx (fun q hq => hsub q (by simp [drawnIn, hq])) κ σ σ' e a w Q h hS hK)
    · rename_i hc
      exact wp_cond_false (boolval (Rep.of_eval hS hc)) (ihy (fun q hq => hsub q (by simp [drawnIn, hq])) κ σ σ' e a w Q h hS hK)
    · simp at h
  | block id x ih =>
    intro hsub κ σ σ' e a w Q h hS hK
    simp only [aexecN] at h
    split at h
    · rename_i e1 σ1 h1
      injection h with h; injection h with h2 h3; subst h2 h3
      apply wp_block
      refine ih (fun q hq => hsub q (by simp [drawnIn, hq])) κ σ σ1 e1 a w _ h1 hS (fun κ1 a1 w1 x1 x2 x3 => ?_)
      have := hK κ1 a1 w1 x1 x2 x3
      cases e1 with
      | normal => exact this
      | ret => exact this
      | exit i =>
        by_cases q : i = id
        · simp only [blockEx, q, if_true] at this
          simp only [ofEx, Exit.inBlock, q, if_true]
          exact this
        · simp only [blockEx, q, if_false] at this
          simp only [ofEx, Exit.inBlock, q, if_false]
          exact this
    · simp at h
  | loop x ih =>
    intro hsub
    have := iterA_sound (ih (fun q hq => hsub q (by simp [drawnIn, hq]))) k
    intro κ σ σ' e a w Q h hS hK
    simp only [aexecN] at h
    exact this κ σ σ' e a w Q h hS hK
  | exit id =>
    intro _ κ σ σ' e a w Q h hS hK
    simp only [aexecN] at h
    injection h with h; injection h with h1 h2; subst h1 h2
    exact wp_exit (hK κ a w (Ext.refl _ _) (LExt.refl _) hS)
  | ret =>
    intro _ κ σ σ' e a w Q h hS hK
    simp only [aexecN] at h
    injection h with h; injection h with h1 h2; subst h1 h2
    exact wp_ret (hK κ a w (Ext.refl _ _) (LExt.refl _) hS)
  | _ => intro _ κ σ σ' e a w Q h hS hK; simp [aexecN] at h

/-! ### The end of a call -/
def Conc.cut (κ : Conc) (n : Nat) : Conc :=
  { ow := fun b o => match κ.ow b o with | .loc _ => .none | .obj id => if id < n then .obj id else .pub | x => x
    loc := fun i => if i < n then κ.loc i else none
    top := fun i => if i < n then κ.top i else none
    hdr := κ.hdr
    lloc := fun _ => none
    mloc := fun i => if i < n then κ.mloc i else none
    tg := fun i => if i < n then κ.tg i else none }

theorem cut_pub {κ : Conc} {n b o : Nat} (h : κ.ow b o = .pub) : (κ.cut n).ow b o = .pub := by simp only [Conc.cut, h]
theorem cut_keep {κ : Conc} {n b o : Nat} (h : κ.ow b o = .keep) : (κ.cut n).ow b o = .keep := by simp only [Conc.cut, h]
theorem cut_obj {κ : Conc} {n b o id : Nat} (h : κ.ow b o = .obj id) (hid : id < n) : (κ.cut n).ow b o = .obj id := by simp only [Conc.cut, h, hid, if_true]
theorem obj_cut {κ : Conc} {n b o id : Nat} (h : (κ.cut n).ow b o = .obj id) : κ.ow b o = .obj id := by
  simp only [Conc.cut] at h
  cases hq : κ.ow b o with
  | obj i =>
    rw [hq] at h
    simp only at h
    split at h
    · exact h
    · cases h
  | _ => rw [hq] at h; cases h
theorem cut_none {κ : Conc} {n b o : Nat} (h : (κ.cut n).ow b o ≠ .none) : κ.ow b o ≠ .none := by
  intro hq; apply h; simp only [Conc.cut, hq]
theorem cut_loc {κ : Conc} {n b o s : Nat} : (κ.cut n).ow b o ≠ .loc s := by
  simp only [Conc.cut]
  cases κ.ow b o with
  | obj i => simp only; split <;> simp
  | _ => simp

theorem Rep.cut {κ : Conc} {w : World} {n : Nat} {a : AV} {v : Value} (h : Rep κ w a v) (hb : Eng.below n a = true) : Rep (κ.cut n) w a v := by
  induction h with
  | any v hv => exact .any v hv
  | int k n => exact .int k n
  | bool b => exact .bool b
  | str l => exact .str l
  | nilp => exact .nilp
  | agg cs vs hl h1 _ ih => exact .agg cs vs hl h1 (fun i c hc => ih i c hc (belowL_iff.1 hb c (getElem?_mem hc)))
  | tuple cs vs hl _ ih => exact .tuple cs vs hl (fun i c hc => ih i c hc (belowL_iff.1 hb c (getElem?_mem hc)))
  | ptr cs off tag b o f h1 hc _ ht ih =>
    simp only [Eng.below, Bool.and_eq_true] at hb
    refine .ptr cs off tag b o f h1 (fun i hi => ⟨cut_pub (hc i hi).1, (hc i hi).2⟩) (fun i c e => ih i c e (belowL_iff.1 hb.1 c (getElem?_mem e))) (fun t e => ?_)
    subst e
    have : t < n := by simpa using hb.2
    show (if t < n then κ.tg t else none) = _
    rw [if_pos this]; exact ht t rfl
  | slice es own a cap b o sz f ha hcap hs hz h1 hc _ ho ih =>
    simp only [Eng.below, Bool.and_eq_true] at hb
    refine .slice es own a cap b o sz f ha hcap hs hz h1 (fun i hi => ⟨cut_pub (hc i hi).1, (hc i hi).2⟩) (fun i c e => ih i c e (belowL_iff.1 (belowL_flat hb.1) c (getElem?_mem e))) ?_
    cases own with
    | view => trivial
    | full => exact ho
    | tok t =>
      have : t < n := by simpa using hb.2
      obtain ⟨m, e1, e2, e3⟩ := ho
      exact ⟨m, by show (if t < n then κ.top t else none) = _; rw [if_pos this]; exact e1, e2, e3⟩
  | ref id off b o e =>
    have : id < n := by simpa [Eng.below] using hb
    exact .ref id off b o (by show (if id < n then κ.loc id else none) = _; rw [if_pos this]; exact e)
  | vec id len m a cap ht hl hv =>
    have : id < n := by simpa [Eng.below] using hb
    exact .vec id len m a cap (by show (if id < n then κ.top id else none) = _; rw [if_pos this]; exact ht) hl hv
  | func f cap vs hl _ ih => exact .func f cap vs hl (fun i c hc => ih i c hc (belowL_iff.1 hb c (getElem?_mem hc)))
  | map id b e =>
    have : id < n := by simpa [Eng.below] using hb
    exact .map id b (by show (if id < n then κ.mloc id else none) = _; rw [if_pos this]; exact e)

theorem belowL_mono {n m : Nat} (hnm : n ≤ m) {l : List AV} : belowL n l = true → belowL m l = true := by
  have key : ∀ (a : AV), Eng.below n a = true → Eng.below m a = true := by
    intro a
    induction a using AV.rec (motive_2 := fun l => belowL n l = true → belowL m l = true) with
    | any => intro h; rfl
    | int => intro h; rfl
    | bool => intro h; rfl
    | str => intro h; rfl
    | nilp => intro h; rfl
    | agg cs ih => exact ih
    | tuple cs ih => exact ih
    | ptr cs off tag ih =>
      intro h
      simp only [Eng.below, Bool.and_eq_true] at h ⊢
      refine ⟨ih h.1, ?_⟩
      cases tag with
      | none => rfl
      | some t => simp at h ⊢; omega
    | slice es own ih =>
      intro h
      simp only [Eng.below, Bool.and_eq_true] at h ⊢
      refine ⟨ih h.1, ?_⟩
      cases own with
      | tok t => simp at h ⊢; omega
      | _ => rfl
    | ref id off => intro h; simp [Eng.below] at h ⊢; omega
    | vec id len => intro h; simp [Eng.below] at h ⊢; omega
    | func f cap ih => exact ih
    | map id => intro h; simp [Eng.below] at h ⊢; omega
    | nil => rfl
    | cons c l ih1 ih2 =>
      rename_i h
      simp only [belowL, Bool.and_eq_true] at h ⊢
      exact ⟨ih1 h.1, ih2 h.2⟩
  intro h
  rw [belowL_iff] at *
  exact fun c hc => key c (h c hc)

theorem below_mono {n m : Nat} (hnm : n ≤ m) {a : AV} (h : Eng.below n a = true) : Eng.below m a = true := by
  have := belowL_mono hnm (l := [a]) (by simp [belowL, h])
  simpa [belowL] using this

theorem Cells.cut {κ : Conc} {w : World} {n b o id : Nat} {cs : List AV} (h : Cells κ w (.obj id) b o cs) (hb : belowL n cs = true) (hid : id < n) : Cells (κ.cut n) w (.obj id) b o cs := by
  obtain ⟨f, h1, h2, h3⟩ := h
  exact ⟨f, h1, fun i hi => ⟨cut_obj (h2 i hi).1 hid, (h2 i hi).2⟩, fun i c hc => (h3 i c hc).cut (belowL_iff.1 hb c (getElem?_mem hc))⟩

theorem Inv.cut {W : World} {κ : Conc} {w : World} {L : Nat → Option (Nat × List AV)} {H : List HObj} (hI : Inv W κ w L H) (n : Nat) : Inv W (κ.cut n) w noL (H.take n) where
  below := hI.below
  lt b o h := hI.lt b o (cut_none h)
  own b o h := by
    rcases h with ⟨id, h⟩ | ⟨s, h⟩
    · exact hI.own b o (.inl ⟨id, obj_cut h⟩)
    · exact absurd h cut_loc
  mine id b h := by
    have h' : (if id < n then κ.mloc id else none) = some b := h
    split at h'
    · exact hI.mine id b h'
    · cases h'
  minj i j b h1 h2 := by
    have h1' : (if i < n then κ.mloc i else none) = some b := h1
    have h2' : (if j < n then κ.mloc j else none) = some b := h2
    split at h1'
    · split at h2'
      · exact hI.minj i j b h1' h2'
      · cases h2'
    · cases h1'
  objs id x h := by
    have hid : id < n := by
      rcases Nat.lt_or_ge id n with q | q
      · exact q
      · simp [List.getElem?_take_eq_none q] at h
    rw [List.getElem?_take_of_lt hid] at h
    have hx := hI.objs id x h
    have l1 : (κ.cut n).loc id = κ.loc id := if_pos hid
    have l2 : (κ.cut n).top id = κ.top id := if_pos hid
    have l3 : (κ.cut n).mloc id = κ.mloc id := if_pos hid
    have l4 : (κ.cut n).tg id = κ.tg id := if_pos hid
    cases x with
    | cells cs =>
      obtain ⟨b, o, h1, h2, h3⟩ := hx
      exact ⟨b, o, l1.trans h1, h2.cut (belowL_mono (by omega) h3) hid, h3⟩
    | top m sz =>
      obtain ⟨h1, a, cap, h2, h3, h4⟩ := hx
      refine ⟨l2.trans h1, a, cap, h2, h3, fun q => ?_⟩
      obtain ⟨b, o, ha, hj⟩ := h4 q
      exact ⟨b, o, ha, fun j p1 p2 => ⟨cut_obj (hj j p1 p2).1 hid, (hj j p1 p2).2⟩⟩
    | vec cs sz =>
      obtain ⟨m, a, cap, h0, h1, h2, h3, h5, h4⟩ := hx
      refine ⟨m, a, cap, h0, l2.trans h1, h2, h3, h5, fun q => ?_⟩
      obtain ⟨b, o, ha, hc, hj⟩ := h4 q
      exact ⟨b, o, ha, hc.cut (belowL_mono (by omega) h5) hid, fun j p1 p2 => ⟨cut_obj (hj j p1 p2).1 hid, (hj j p1 p2).2⟩⟩
    | tag =>
      obtain ⟨b, o, h1, h2, h3⟩ := hx
      exact ⟨b, o, l4.trans h1, cut_pub h2, h3⟩
    | map es =>
      obtain ⟨b, clock, ents, h1, h2, h3, h5, h4⟩ := hx
      refine ⟨b, clock, ents, l3.trans h1, h2, h3, h5, fun i e q => ?_⟩
      obtain ⟨u, p1, p2, p3⟩ := h4 i e q
      have hm := h5 e (getElem?_mem q)
      exact ⟨u, p1, p2.cut (below_mono (by omega) hm.1), p3.cut (below_mono (by omega) hm.2)⟩
  past id h := by
    by_cases q : id < n
    · simp at h
      have : H.length ≤ id := by omega
      obtain ⟨a1, a2, a3, a4⟩ := hI.past id this
      exact ⟨(if_pos q).trans a1, (if_pos q).trans a2, (if_pos q).trans a3, (if_pos q).trans a4⟩
    · exact ⟨if_neg q, if_neg q, if_neg q, if_neg q⟩
  tgs i y h := by
    have h' : (if i < n then κ.tg i else none) = some y := h
    split at h'
    · rename_i hlt
      rw [List.getElem?_take_of_lt hlt]; exact hI.tgs i y h'
    · cases h'
  tags i j y h1 h2 := by
    have h1' : (if i < n then κ.tg i else none) = some y := h1
    have h2' : (if j < n then κ.tg j else none) = some y := h2
    split at h1'
    · split at h2'
      · exact hI.tags i j y h1' h2'
      · cases h2'
    · cases h1'
  locs s v c h := by cases h
  nolocs s h := rfl

theorem Ext.cut {W : World} {κ κ' : Conc} {w w' : World} {H : List HObj} {L : Nat → Option (Nat × List AV)} (hI : Inv W κ w L H) (h : Ext κ w κ' w') {n : Nat} (hn : H.length ≤ n) : Ext κ w (κ'.cut n) w' where
  pub b o e := ⟨cut_pub (h.pub b o e).1, (h.pub b o e).2⟩
  keep b o e := ⟨cut_keep (h.keep b o e).1, (h.keep b o e).2⟩
  loc i x e := by
    have := hI.id_lt (id := i) (by rw [e]; simp)
    exact (if_pos (by omega)).trans (h.loc i x e)
  top i m e := by
    have := hI.id_lt (id := i) (by rw [e]; simp)
    obtain ⟨m', e1, e2, e3⟩ := h.top i m e
    exact ⟨m', (if_pos (by omega)).trans e1, e2, e3⟩
  mloc i x e := by
    have := hI.id_lt (id := i) (by rw [e]; simp)
    exact (if_pos (by omega)).trans (h.mloc i x e)
  tg i x e := by
    have := hI.id_lt (id := i) (by rw [e]; simp)
    exact (if_pos (by omega)).trans (h.tg i x e)
  size := h.size

/-! ### Vectors that end with their frame -/
def Conc.pubs (κ : Conc) (n : Nat) : Conc := { κ with ow := fun b o => match κ.ow b o with | .obj id => if id < n then .obj id else .pub | x => x }

theorem pubs_pub {κ : Conc} {n b o : Nat} (h : κ.ow b o = .pub) : (κ.pubs n).ow b o = .pub := by simp only [Conc.pubs, h]
theorem pubs_obj {κ : Conc} {n b o id : Nat} (h : κ.ow b o = .obj id) (hid : n ≤ id) : (κ.pubs n).ow b o = .pub := by
  simp only [Conc.pubs, h]; rw [if_neg (by omega)]

theorem pubs_cut (κ : Conc) (n : Nat) : (κ.pubs n).cut n = κ.cut n := by
  simp only [Conc.cut, Conc.pubs]
  congr 1
  funext b o
  cases κ.ow b o with
  | obj id =>
    simp only
    by_cases h : id < n
    · simp [h]
    · simp [h]
  | _ => rfl

theorem Ext0.pubs (κ : Conc) (w : World) (n : Nat) : Ext0 κ w (κ.pubs n) w :=
  ⟨fun _ _ h => ⟨pubs_pub h, rfl⟩, fun _ _ h => h, fun _ m h => ⟨m, h, Nat.le_refl _, fun _ => rfl⟩, fun _ _ h => h, fun _ _ h => h⟩

theorem one_cells {c : AV} (h : c.one = true) : c.cells = [c] := by cases c <;> first | rfl | cases h

theorem chunks_spec {sz : Nat} (hz : sz ≠ 0) : ∀ {k : Nat} {cs : List AV}, cs.length = k * sz → (∀ c ∈ cs, c.one = true) → (chunks sz k cs).length = k ∧ (chunks sz k cs).flatMap AV.cells = cs ∧ ∀ e ∈ chunks sz k cs, e.cells.length = sz
  | 0, cs, h, _ => by
    have : cs = [] := by simpa using h
    subst this
    exact ⟨rfl, rfl, fun e he => by simp [chunks] at he⟩
  | k + 1, cs, h, h1 => by
    have hl : sz ≤ cs.length := by rw [h, Nat.add_mul, Nat.one_mul]; omega
    have ih := chunks_spec hz (k := k) (cs := cs.drop sz) (by simp [h, Nat.add_mul]) (fun c hc => h1 c (List.mem_of_mem_drop hc))
    have hc : (if sz = 1 then cs.headD .any else AV.agg (cs.take sz)).cells = cs.take sz := by
      split
      · rename_i q
        subst q
        match cs, hl with
        | c :: cs, _ => simpa using one_cells (h1 c (by simp))
      · rfl
    refine ⟨by simp [chunks, ih.1], ?_, fun e he => ?_⟩
    · simp only [chunks, List.flatMap_cons, hc, ih.2.1, List.take_append_drop]
    · simp only [chunks, List.mem_cons] at he
      rcases he with rfl | he
      · rw [hc]; simp; omega
      · exact ih.2.2 e he

theorem frz_one (n : Nat) (H : List HObj) (d : AV) : (frz n H d).one = d.one := by
  cases d with
  | vec id len =>
    show (frzV n H id len).one = _
    unfold frzV
    split
    · split
      · split <;> rfl
      · rfl
    · rfl
  | _ => rfl

theorem frzL_map (n : Nat) (H : List HObj) : ∀ (l : List AV), frzL n H l = l.map (frz n H)
  | [] => rfl
  | c :: l => by simp [frzL, frzL_map n H l]

theorem frz_rep {W : World} {κ : Conc} {w : World} {L : Nat → Option (Nat × List AV)} {H : List HObj} (hI : Inv W κ w L H) {n : Nat} {a : AV} {v : Value} (h : Rep κ w a v) : Rep (κ.pubs n) w (frz n H a) v := by
  have hE := Ext0.pubs κ w n
  induction h with
  | agg cs vs hl h1 _ ih =>
    show Rep _ w (.agg (frzL n H cs)) _
    rw [frzL_map]
    refine .agg _ _ (by simpa using hl) ?_ ?_
    · intro c hc
      obtain ⟨d, hd, rfl⟩ := List.mem_map.1 hc
      rw [frz_one]; exact h1 d hd
    · intro i c hc
      rw [List.getElem?_map] at hc
      cases hd : cs[i]? with
      | none => simp [hd] at hc
      | some d => simp [hd] at hc; subst hc; exact ih i d hd
  | tuple cs vs hl _ ih =>
    show Rep _ w (.tuple (frzL n H cs)) _
    rw [frzL_map]
    refine .tuple _ _ (by simpa using hl) ?_
    intro i c hc
    rw [List.getElem?_map] at hc
    cases hd : cs[i]? with
    | none => simp [hd] at hc
    | some d => simp [hd] at hc; subst hc; exact ih i d hd
  | vec id len m a cap ht hl hv =>
    have h0 : Rep (κ.pubs n) w (.vec id len) (.slice a len cap) := .vec id len m a cap ht hl hv
    show Rep _ w (frzV n H id len) _
    unfold frzV
    split
    · rename_i hid
      split
      · rename_i cs sz ho
        split
        · rename_i hq
          obtain ⟨n0, a', cap', e0, e1, e2, e3, e5, e4⟩ := hI.objs id _ ho
          rw [e1] at ht
          injection ht with ht
          subst ht
          have hlen : len = n0 := Nat.eq_of_mul_eq_mul_right (by omega) (hq.1.symm.trans e0)
          subst hlen
          have := hv rfl
          rw [e2] at this
          injection this with this
          injection this with q1 q2 q3
          subst q1 q3
          rcases Nat.eq_zero_or_pos len with hl0 | hl0
          · subst hl0
            refine .slice [] .view a' cap' 0 0 sz (fun _ => undef) (fun q => absurd rfl q) (by simp) (fun e he => by simp at he) hq.2 (fun c hc => by simp at hc) (fun i hi => by simp at hi) (fun i c hc => by simp at hc) trivial
          · obtain ⟨b, o, ha, ⟨f, c1, c2, c3⟩, _⟩ := e4 (Nat.mul_pos (by omega) (by omega))
            obtain ⟨k1, k2, k3⟩ := chunks_spec hq.2 e0 c1
            have := Rep.slice (κ := κ.pubs n) (w := w) (chunks sz len cs) .view a' cap' b o sz f (fun _ => ha) (by rw [k1]; exact e3) k3 hq.2 (by rw [k2]; exact c1)
              (fun i hi => by
                rw [k1, ← e0] at hi
                exact ⟨pubs_obj (c2 i hi).1 hid, (c2 i hi).2⟩) (fun i c hc => by rw [k2] at hc; exact (c3 i c hc).mono0 hE) trivial
            rw [k1] at this
            exact this
        · exact h0
      · exact h0
    · exact h0
  | any v hv => exact .any v hv
  | int k m => exact .int k m
  | bool b => exact .bool b
  | str l => exact .str l
  | nilp => exact .nilp
  | ptr cs off tag b o f h1 hc hh ht _ => exact (Rep.ptr cs off tag b o f h1 hc hh ht).mono0 hE
  | slice es own a cap b o sz f ha hcap hs hz h1 hc hh ho _ => exact (Rep.slice es own a cap b o sz f ha hcap hs hz h1 hc hh ho).mono0 hE
  | ref id off b o e => exact .ref id off b o e
  | func f cap vs hl hh _ => exact (Rep.func f cap vs hl hh).mono0 hE
  | map id b e => exact .map id b e

/-! ### A slice that is handed on with its token -/
def Conc.hand (κ : Conc) (n id : Nat) : Conc :=
  { ow := fun b o => match κ.ow b o with | .loc _ => .none | .obj i => if i < n then .obj i else if i = id then .obj n else .pub | x => x
    loc := fun i => if i < n then κ.loc i else none
    top := fun i => if i < n then κ.top i else if i = n then κ.top id else none
    hdr := fun i => if i < n then κ.hdr i else if i = n then κ.hdr id else none
    lloc := fun _ => none
    mloc := fun i => if i < n then κ.mloc i else none
    tg := fun i => if i < n then κ.tg i else none }

theorem hand_pub {κ : Conc} {n id b o : Nat} (h : κ.ow b o = .pub) : (κ.hand n id).ow b o = .pub := by simp only [Conc.hand, h]
theorem hand_keep {κ : Conc} {n id b o : Nat} (h : κ.ow b o = .keep) : (κ.hand n id).ow b o = .keep := by simp only [Conc.hand, h]
theorem hand_obj {κ : Conc} {n id b o i : Nat} (h : κ.ow b o = .obj i) (hid : i < n) : (κ.hand n id).ow b o = .obj i := by simp only [Conc.hand, h, hid, if_true]
theorem hand_own {κ : Conc} {n id b o : Nat} (h : κ.ow b o = .obj id) (hid : n ≤ id) : (κ.hand n id).ow b o = .obj n := by
  simp only [Conc.hand, h]; rw [if_neg (by omega), if_true]
theorem obj_hand {κ : Conc} {n id b o i : Nat} (h : (κ.hand n id).ow b o = .obj i) : ∃ j, κ.ow b o = .obj j := by
  simp only [Conc.hand] at h
  cases hq : κ.ow b o with
  | obj j => exact ⟨j, rfl⟩
  | _ => rw [hq] at h; cases h
theorem hand_none {κ : Conc} {n id b o : Nat} (h : (κ.hand n id).ow b o ≠ .none) : κ.ow b o ≠ .none := by
  intro hq; apply h; simp only [Conc.hand, hq]
theorem hand_loc {κ : Conc} {n id b o s : Nat} : (κ.hand n id).ow b o ≠ .loc s := by
  simp only [Conc.hand]
  cases κ.ow b o with
  | obj i => simp only; split <;> (try split) <;> simp
  | _ => simp

theorem Rep.hand {κ : Conc} {w : World} {n id : Nat} {a : AV} {v : Value} (h : Rep κ w a v) (hb : Eng.below n a = true) : Rep (κ.hand n id) w a v := by
  induction h with
  | any v hv => exact .any v hv
  | int k n => exact .int k n
  | bool b => exact .bool b
  | str l => exact .str l
  | nilp => exact .nilp
  | agg cs vs hl h1 _ ih => exact .agg cs vs hl h1 (fun i c hc => ih i c hc (belowL_iff.1 hb c (getElem?_mem hc)))
  | tuple cs vs hl _ ih => exact .tuple cs vs hl (fun i c hc => ih i c hc (belowL_iff.1 hb c (getElem?_mem hc)))
  | ptr cs off tag b o f h1 hc _ ht ih =>
    simp only [Eng.below, Bool.and_eq_true] at hb
    refine .ptr cs off tag b o f h1 (fun i hi => ⟨hand_pub (hc i hi).1, (hc i hi).2⟩) (fun i c e => ih i c e (belowL_iff.1 hb.1 c (getElem?_mem e))) (fun t e => ?_)
    subst e
    have : t < n := by simpa using hb.2
    show (if t < n then κ.tg t else none) = _
    rw [if_pos this]; exact ht t rfl
  | slice es own a cap b o sz f ha hcap hs hz h1 hc _ ho ih =>
    simp only [Eng.below, Bool.and_eq_true] at hb
    refine .slice es own a cap b o sz f ha hcap hs hz h1 (fun i hi => ⟨hand_pub (hc i hi).1, (hc i hi).2⟩) (fun i c e => ih i c e (belowL_iff.1 (belowL_flat hb.1) c (getElem?_mem e))) ?_
    cases own with
    | view => trivial
    | full => exact ho
    | tok t =>
      have : t < n := by simpa using hb.2
      obtain ⟨m, e1, e2, e3⟩ := ho
      exact ⟨m, by show (if t < n then κ.top t else _) = _; rw [if_pos this]; exact e1, e2, fun q => by show (if t < n then κ.hdr t else _) = _; rw [if_pos this]; exact e3 q⟩
  | ref i off b o e =>
    have : i < n := by simpa [Eng.below] using hb
    exact .ref i off b o (by show (if i < n then κ.loc i else none) = _; rw [if_pos this]; exact e)
  | vec i len m a cap ht hl hv =>
    have : i < n := by simpa [Eng.below] using hb
    exact .vec i len m a cap (by show (if i < n then κ.top i else _) = _; rw [if_pos this]; exact ht) hl (fun q => by show (if i < n then κ.hdr i else _) = _; rw [if_pos this]; exact hv q)
  | func f cap vs hl _ ih => exact .func f cap vs hl (fun i c hc => ih i c hc (belowL_iff.1 hb c (getElem?_mem hc)))
  | map i b e =>
    have : i < n := by simpa [Eng.below] using hb
    exact .map i b (by show (if i < n then κ.mloc i else none) = _; rw [if_pos this]; exact e)

theorem renL_map (n id : Nat) : ∀ (l : List AV), renL n id l = l.map (ren n id)
  | [] => rfl
  | c :: l => by simp [renL, renL_map n id l]

theorem normL_map' (n : Nat) : ∀ (l : List AV), normL n l = l.map (norm n)
  | [] => rfl
  | c :: l => by simp [normL, normL_map' n l]

theorem ren_one (n id : Nat) (d : AV) : (ren n id d).one = d.one := by
  cases d with
  | slice es own =>
    cases own with
    | tok t => show (if t < n then AV.slice es (.tok t) else if t = id then .slice es (.tok n) else .slice es .view).one = _; split <;> (try split) <;> rfl
    | _ => rfl
  | _ => rfl

theorem ren_rep {κ : Conc} {w : World} {n id : Nat} (hid : n ≤ id) {a : AV} {v : Value} (h : Rep κ w a v) (hb : Eng.below n (norm n a) = true) : Rep (κ.hand n id) w (ren n id a) v := by
  induction h with
  | agg cs vs hl h1 hh ih =>
    show Rep _ w (.agg (renL n id cs)) _
    have hb' : belowL n (normL n cs) = true := hb
    rw [normL_map'] at hb'
    rw [renL_map]
    refine .agg _ _ (by simpa using hl) ?_ ?_
    · intro c hc
      obtain ⟨d, hd, rfl⟩ := List.mem_map.1 hc
      rw [ren_one]; exact h1 d hd
    · intro i c hc
      rw [List.getElem?_map] at hc
      cases hd : cs[i]? with
      | none => simp [hd] at hc
      | some d => simp [hd] at hc; subst hc; exact ih i d hd (belowL_iff.1 hb' _ (List.mem_map.2 ⟨d, getElem?_mem hd, rfl⟩))
  | tuple cs vs hl hh ih =>
    show Rep _ w (.tuple (renL n id cs)) _
    have hb' : belowL n (normL n cs) = true := hb
    rw [normL_map'] at hb'
    rw [renL_map]
    refine .tuple _ _ (by simpa using hl) ?_
    intro i c hc
    rw [List.getElem?_map] at hc
    cases hd : cs[i]? with
    | none => simp [hd] at hc
    | some d => simp [hd] at hc; subst hc; exact ih i d hd (belowL_iff.1 hb' _ (List.mem_map.2 ⟨d, getElem?_mem hd, rfl⟩))
  | slice es own a cap b o sz f ha hcap hs hz h1 hc hh ho _ =>
    have key : ∀ own', Eng.below n (AV.slice es .view) = true → OwnOk (κ.hand n id) own' es.length (.slice a es.length cap) → Rep (κ.hand n id) w (.slice es own') (.slice a es.length cap) := by
      intro own' hb ho'
      have hb2 : belowL n es = true := by simpa [Eng.below] using hb
      exact .slice es own' a cap b o sz f ha hcap hs hz h1 (fun i hi => ⟨hand_pub (hc i hi).1, (hc i hi).2⟩) (fun i c e => (hh i c e).hand (belowL_iff.1 (belowL_flat hb2) c (getElem?_mem e))) ho'
    cases own with
    | view => exact key _ hb trivial
    | full => exact key _ (by simpa [Eng.below, norm] using hb) ho
    | tok t =>
      have hb3 : Eng.below n (if t < n then AV.slice es (.tok t) else .slice es .view) = true := hb
      show Rep _ w (if t < n then .slice es (.tok t) else if t = id then .slice es (.tok n) else .slice es .view) _
      obtain ⟨m, e1, e2, e3⟩ := ho
      split
      · rename_i hlt
        rw [if_pos hlt] at hb3
        refine key _ (by simp [Eng.below] at hb3 ⊢; exact hb3.1) ⟨m, ?_, e2, fun q => ?_⟩
        · show (if t < n then κ.top t else _) = _; rw [if_pos hlt]; exact e1
        · show (if t < n then κ.hdr t else _) = _; rw [if_pos hlt]; exact e3 q
      · rename_i hge
        rw [if_neg hge] at hb3
        split
        · rename_i he
          subst he
          refine key _ hb3 ⟨m, ?_, e2, fun q => ?_⟩
          · show (if n < n then _ else if n = n then κ.top t else none) = _; rw [if_neg (by omega), if_pos rfl]; exact e1
          · show (if n < n then _ else if n = n then κ.hdr t else none) = _; rw [if_neg (by omega), if_pos rfl]; exact e3 q
        · exact key _ hb3 trivial
  | _ => exact Rep.hand (by constructor <;> assumption) hb

theorem Cells.hand {κ : Conc} {w : World} {n id b o i : Nat} {cs : List AV} (h : Cells κ w (.obj i) b o cs) (hb : belowL n cs = true) (hid : i < n) : Cells (κ.hand n id) w (.obj i) b o cs := by
  obtain ⟨f, h1, h2, h3⟩ := h
  exact ⟨f, h1, fun i hi => ⟨hand_obj (h2 i hi).1 hid, (h2 i hi).2⟩, fun i c hc => (h3 i c hc).hand (belowL_iff.1 hb c (getElem?_mem hc))⟩

theorem Inv.hand {W : World} {κ : Conc} {w : World} {L : Nat → Option (Nat × List AV)} {H : List HObj} (hI : Inv W κ w L H) {n id m sz : Nat} (hid : n ≤ id) (hH : H[id]? = some (.top m sz)) : Inv W (κ.hand n id) w noL (H.take n ++ [.top m sz]) where
  below := hI.below
  lt b o h := hI.lt b o (hand_none h)
  own b o h := by
    rcases h with ⟨i, h⟩ | ⟨s, h⟩
    · exact hI.own b o (.inl (obj_hand h))
    · exact absurd h hand_loc
  mine i b h := by
    have h' : (if i < n then κ.mloc i else none) = some b := h
    split at h'
    · exact hI.mine i b h'
    · cases h'
  minj i j b h1 h2 := by
    have h1' : (if i < n then κ.mloc i else none) = some b := h1
    have h2' : (if j < n then κ.mloc j else none) = some b := h2
    split at h1'
    · split at h2'
      · exact hI.minj i j b h1' h2'
      · cases h2'
    · cases h1'
  objs i x h := by
    have hlen : id < H.length := (List.getElem?_eq_some_iff.1 hH).1
    have htl : (H.take n).length = n := by simp; omega
    rcases Nat.lt_trichotomy i n with hlt | heq | hgt
    · rw [List.getElem?_append_left (by omega), List.getElem?_take_of_lt hlt] at h
      have hx := hI.objs i x h
      have l1 : (κ.hand n id).loc i = κ.loc i := if_pos hlt
      have l2 : (κ.hand n id).top i = κ.top i := if_pos hlt
      have l3 : (κ.hand n id).mloc i = κ.mloc i := if_pos hlt
      have l4 : (κ.hand n id).tg i = κ.tg i := if_pos hlt
      have l5 : (κ.hand n id).hdr i = κ.hdr i := if_pos hlt
      cases x with
      | cells cs =>
        obtain ⟨b, o, h1, h2, h3⟩ := hx
        exact ⟨b, o, l1.trans h1, h2.hand (belowL_mono (by omega) h3) hlt, h3⟩
      | top m sz =>
        obtain ⟨h1, a, cap, h2, h3, h4⟩ := hx
        refine ⟨l2.trans h1, a, cap, l5.trans h2, h3, fun q => ?_⟩
        obtain ⟨b, o, ha, hj⟩ := h4 q
        exact ⟨b, o, ha, fun j p1 p2 => ⟨hand_obj (hj j p1 p2).1 hlt, (hj j p1 p2).2⟩⟩
      | vec cs sz =>
        obtain ⟨m, a, cap, h0, h1, h2, h3, h5, h4⟩ := hx
        refine ⟨m, a, cap, h0, l2.trans h1, l5.trans h2, h3, h5, fun q => ?_⟩
        obtain ⟨b, o, ha, hc, hj⟩ := h4 q
        exact ⟨b, o, ha, hc.hand (belowL_mono (by omega) h5) hlt, fun j p1 p2 => ⟨hand_obj (hj j p1 p2).1 hlt, (hj j p1 p2).2⟩⟩
      | tag =>
        obtain ⟨b, o, h1, h2, h3⟩ := hx
        exact ⟨b, o, l4.trans h1, hand_pub h2, h3⟩
      | map es =>
        obtain ⟨b, clock, ents, h1, h2, h3, h5, h4⟩ := hx
        refine ⟨b, clock, ents, l3.trans h1, h2, h3, h5, fun i e q => ?_⟩
        obtain ⟨u, p1, p2, p3⟩ := h4 i e q
        have hm := h5 e (getElem?_mem q)
        exact ⟨u, p1, p2.hand (below_mono (by omega) hm.1), p3.hand (below_mono (by omega) hm.2)⟩
    · subst heq
      rw [List.getElem?_append_right (by omega), htl, Nat.sub_self] at h
      injection h with h; subst h
      obtain ⟨h1, a, cap, h2, h3, h4⟩ := hI.objs id _ hH
      refine ⟨?_, a, cap, ?_, h3, fun q => ?_⟩
      · show (if i < i then _ else if i = i then κ.top id else none) = _; rw [if_neg (by omega), if_pos rfl]; exact h1
      · show (if i < i then _ else if i = i then κ.hdr id else none) = _; rw [if_neg (by omega), if_pos rfl]; exact h2
      · obtain ⟨b, o, ha, hj⟩ := h4 q
        exact ⟨b, o, ha, fun j p1 p2 => ⟨hand_own (hj j p1 p2).1 hid, (hj j p1 p2).2⟩⟩
    · rw [List.getElem?_eq_none (by simp; omega)] at h
      cases h
  past i h := by
    have hlen : id < H.length := (List.getElem?_eq_some_iff.1 hH).1
    have : n + 1 ≤ i := by simp at h; omega
    exact ⟨if_neg (by omega), (if_neg (by omega)).trans (if_neg (by omega)), if_neg (by omega), if_neg (by omega)⟩
  tgs i y h := by
    have hlen : id < H.length := (List.getElem?_eq_some_iff.1 hH).1
    have h' : (if i < n then κ.tg i else none) = some y := h
    split at h'
    · rename_i hlt
      rw [List.getElem?_append_left (by simp; omega), List.getElem?_take_of_lt hlt]; exact hI.tgs i y h'
    · cases h'
  tags i j y h1 h2 := by
    have h1' : (if i < n then κ.tg i else none) = some y := h1
    have h2' : (if j < n then κ.tg j else none) = some y := h2
    split at h1'
    · split at h2'
      · exact hI.tags i j y h1' h2'
      · cases h2'
    · cases h1'
  locs s v c h := by cases h
  nolocs s h := rfl

theorem Ext.hand {W : World} {κ κ' : Conc} {w w' : World} {H : List HObj} {L : Nat → Option (Nat × List AV)} (hI : Inv W κ w L H) (h : Ext κ w κ' w') (id : Nat) : Ext κ w (κ'.hand H.length id) w' where
  pub b o e := ⟨hand_pub (h.pub b o e).1, (h.pub b o e).2⟩
  keep b o e := ⟨hand_keep (h.keep b o e).1, (h.keep b o e).2⟩
  loc i x e := by
    have := hI.id_lt (id := i) (by rw [e]; simp)
    exact (if_pos (by omega)).trans (h.loc i x e)
  top i m e := by
    have := hI.id_lt (id := i) (by rw [e]; simp)
    obtain ⟨m', e1, e2, e3⟩ := h.top i m e
    exact ⟨m', (if_pos (by omega)).trans e1, e2, fun q => (if_pos (by omega)).trans (e3 q)⟩
  mloc i x e := by
    have := hI.id_lt (id := i) (by rw [e]; simp)
    exact (if_pos (by omega)).trans (h.mloc i x e)
  tg i x e := by
    have := hI.id_lt (id := i) (by rw [e]; simp)
    exact (if_pos (by omega)).trans (h.tg i x e)
  size := h.size

def Conc.melt (κ : Conc) (id b o k : Nat) : Conc := { κ with ow := fun b' o' => if κ.ow b' o' = .obj id ∧ b' = b ∧ o ≤ o' ∧ o' < o + k then .pub else κ.ow b' o' }

theorem melt_ow {κ : Conc} {id b o k b' o' : Nat} (h : κ.ow b' o' ≠ .obj id) : (κ.melt id b o k).ow b' o' = κ.ow b' o' := by
  show (if _ then _ else _) = _
  rw [if_neg (fun q => h q.1)]
theorem melt_out {κ : Conc} {id b o k b' o' : Nat} (h : ¬ (b' = b ∧ o ≤ o' ∧ o' < o + k)) : (κ.melt id b o k).ow b' o' = κ.ow b' o' := by
  show (if _ then _ else _) = _
  rw [if_neg (fun q => h q.2)]
theorem melt_in {κ : Conc} {id b o k j : Nat} (h : κ.ow b (o + j) = .obj id) (hj : j < k) : (κ.melt id b o k).ow b (o + j) = .pub := by
  show (if _ then _ else _) = _
  rw [if_pos ⟨h, rfl, by omega, by omega⟩]
theorem melt_none {κ : Conc} {id b o k b' o' : Nat} (h : (κ.melt id b o k).ow b' o' ≠ .none) : κ.ow b' o' ≠ .none := by
  intro q; apply h; rw [melt_ow (by rw [q]; simp)]; exact q
theorem obj_melt {κ : Conc} {id b o k b' o' i : Nat} (h : (κ.melt id b o k).ow b' o' = .obj i) : κ.ow b' o' = .obj i := by
  have h' : (if κ.ow b' o' = .obj id ∧ b' = b ∧ o ≤ o' ∧ o' < o + k then Owner.pub else κ.ow b' o') = .obj i := h
  split at h'
  · cases h'
  · exact h'
theorem loc_melt {κ : Conc} {id b o k b' o' i : Nat} (h : (κ.melt id b o k).ow b' o' = .loc i) : κ.ow b' o' = .loc i := by
  have h' : (if κ.ow b' o' = .obj id ∧ b' = b ∧ o ≤ o' ∧ o' < o + k then Owner.pub else κ.ow b' o') = .loc i := h
  split at h'
  · cases h'
  · exact h'

theorem Ext.melt (κ : Conc) (w : World) (id b o k : Nat) : Ext κ w (κ.melt id b o k) w where
  pub b' o' e := ⟨by rw [melt_ow (by rw [e]; simp)]; exact e, rfl⟩
  keep b' o' e := ⟨by rw [melt_ow (by rw [e]; simp)]; exact e, rfl, rfl⟩
  loc _ _ e := e
  top _ m e := ⟨m, e, Nat.le_refl _, fun _ => rfl⟩
  mloc _ _ e := e
  tg _ _ e := e
  size := Nat.le_refl _

theorem Inv.melt {W : World} {κ : Conc} {w : World} {L : Nat → Option (Nat × List AV)} {H : List HObj} (hI : Inv W κ w L H) {id b o k : Nat} {x : HObj} (hlt : id < H.length) (hnt : H[id]? ≠ some .tag) (hx : ObjOk (κ.melt id b o k) w id x) : Inv W (κ.melt id b o k) w L (H.set id x) where
  below := hI.below
  lt b o h := hI.lt b o (melt_none h)
  own b o h := by
    rcases h with ⟨i, h⟩ | ⟨s, h⟩
    · exact hI.own b o (.inl ⟨i, obj_melt h⟩)
    · exact hI.own b o (.inr ⟨s, loc_melt h⟩)
  mine := hI.mine
  minj := hI.minj
  objs i y h := by
    rcases Nat.decEq i id with hne | rfl
    · rw [List.getElem?_set_ne (fun q => hne q.symm)] at h
      exact (hI.objs i y h).keep (Ext.melt κ w id b o k) (Same.refl W w) rfl rfl rfl rfl rfl (fun b' o' e => ⟨by rw [melt_ow (by rw [e]; simp; exact hne)]; exact e, rfl⟩)
    · rw [List.getElem?_set_self hlt] at h
      injection h with h; subst h; exact hx
  past i h := hI.past i (by simpa using h)
  tgs i y h := by
    have := hI.tgs i y h
    rcases Nat.decEq i id with hne | rfl
    · rw [List.getElem?_set_ne (fun q => hne q.symm)]; exact this
    · exact absurd this hnt
  tags := hI.tags
  locs s v c h := by
    obtain ⟨b', e1, e2⟩ := hI.locs s v c h
    exact ⟨b', e1, e2.keep (Ext.melt κ w id b o k) (fun b' o' e => ⟨by rw [melt_ow (by rw [e]; simp)]; exact e, rfl⟩)⟩
  nolocs := hI.nolocs

theorem melt1_sound {W : World} {κ : Conc} {w : World} {L : Nat → Option (Nat × List AV)} {H H' : List HObj} {n id len : Nat} {s : AV} {v : Value} (hI : Inv W κ w L H) (h : melt1 n H id len = some (s, H')) (hr : Rep κ w (.vec id len) v) :
    ∃ κ', Ext κ w κ' w ∧ κ'.lloc = κ.lloc ∧ Inv W κ' w L H' ∧ Rep κ' w s v := by
  unfold melt1 at h
  split at h
  · rename_i cs sz ho
    split at h
    · rename_i hq
      injection h with h; injection h with q1 q2; subst q1 q2
      obtain ⟨_, hc, hz⟩ := hq
      have hlt : id < H.length := (List.getElem?_eq_some_iff.1 ho).1
      obtain ⟨n0, a', cap', e0, e1, e2, e3, e5, e4⟩ := hI.objs id _ ho
      cases hr with
      | vec _ _ m a cap ht hl hv =>
        rw [e1] at ht
        injection ht with ht
        subst ht
        have hlen : len = n0 := Nat.eq_of_mul_eq_mul_right (by omega) (hc.symm.trans e0)
        subst hlen
        have := hv rfl
        rw [e2] at this
        injection this with this
        injection this with q1 q2 q3
        subst q1 q3
        rcases Nat.eq_zero_or_pos (cap' * sz) with hl0 | hl0
        · have hz0 : len = 0 := by
            have : cap' = 0 := by
              rcases Nat.mul_eq_zero.1 hl0 with q | q
              · exact q
              · exact absurd q hz
            omega
          subst hz0
          have hcs : cs = [] := by simpa using hc
          subst hcs
          refine ⟨κ.melt id 0 0 0, Ext.melt _ _ _ _ _ _, rfl, hI.melt hlt (by rw [ho]; simp) ⟨e1, a', cap', e2, e3, fun q => by omega⟩, ?_⟩
          exact .slice [] (.tok id) a' cap' 0 0 sz (fun _ => undef) (fun q => absurd rfl q) (by simp) (fun e he => by simp at he) hz (fun c hc => by simp at hc) (fun i hi => by simp at hi) (fun i c hc => by simp at hc) ⟨0, e1, Nat.le_refl _, fun _ => e2⟩
        · obtain ⟨b, o, ha, ⟨f, c1, c2, c3⟩, c4⟩ := e4 hl0
          obtain ⟨k1, k2, k3⟩ := chunks_spec hz e0 c1
          have hE := Ext.melt κ w id b o (len * sz)
          refine ⟨κ.melt id b o (len * sz), hE, rfl, hI.melt hlt (by rw [ho]; simp) ⟨e1, a', cap', e2, e3, fun _ => ⟨b, o, ha, fun j h1 h2 => ⟨?_, (c4 j h1 h2).2⟩⟩⟩, ?_⟩
          · rw [melt_out (by omega)]; exact (c4 j h1 h2).1
          · have := Rep.slice (κ := κ.melt id b o (len * sz)) (w := w) (chunks sz len cs) (.tok id) a' cap' b o sz f (fun _ => ha) (by rw [k1]; exact e3) k3 hz (by rw [k2]; exact c1)
              (fun i hi => by
                rw [k1] at hi
                exact ⟨melt_in (c2 i (by omega)).1 hi, (c2 i (by omega)).2⟩) (fun i c hc => by rw [k2] at hc; exact (c3 i c hc).mono hE) ⟨len, e1, by rw [k1]; exact Nat.le_refl _, fun _ => by rw [k1]; exact e2⟩
            rw [k1] at this
            exact this
    · cases h
  · cases h

theorem meltR_sound {W : World} {κ : Conc} {w : World} {L : Nat → Option (Nat × List AV)} {H : List HObj} {n : Nat} {r : AV} {v : Value} (hI : Inv W κ w L H) (hr : Rep κ w r v) :
    ∃ κ', Ext κ w κ' w ∧ κ'.lloc = κ.lloc ∧ Inv W κ' w L (meltR n H r).2 ∧ Rep κ' w (meltR n H r).1 v := by
  have triv : ∃ κ', Ext κ w κ' w ∧ κ'.lloc = κ.lloc ∧ Inv W κ' w L H ∧ Rep κ' w r v := ⟨κ, Ext.refl _ _, rfl, hI, hr⟩
  unfold meltR
  split
  · rename_i id len
    cases hm : melt1 n H id len with
    | none => exact triv
    | some p => obtain ⟨s, H'⟩ := p; exact melt1_sound hI hm hr
  · rename_i id len rest
    cases hm : melt1 n H id len with
    | none => exact triv
    | some p =>
      obtain ⟨s, H'⟩ := p
      cases hr with
      | tuple _ vs hl hh =>
        obtain ⟨κ', x1, x2, x3, x4⟩ := melt1_sound hI hm (hh 0 _ rfl)
        refine ⟨κ', x1, x2, x3, .tuple _ vs (by simpa using hl) (fun i c hc => ?_)⟩
        cases i with
        | zero => simp at hc; subst hc; exact x4
        | succ i => exact (hh (i + 1) c (by simpa using hc)).mono x1
  · exact triv

end Go.Proofs.Ytnjaagfhaooapaa.Eng
