/- ENGINE 19: calls seen from the caller's frame; one operation of a region; regions in the text's order. -/
import Derived.Test.YtnjaagfhaooapaaE18
namespace Go.Proofs.Ytnjaagfhaooapaa.Eng
set_option linter.unusedVariables false
set_option linter.unusedSimpArgs false
set_option linter.unnecessarySimpa false
set_option linter.constructorNameAsVariable false
open Go Go.RowKit

abbrev noL : Nat → Option (Nat × List AV) := fun _ => none

/-- What is asked of a way to answer calls. -/
def CallOk (P : Program) (call : CallF) : Prop :=
  ∀ f args H r H', call f args H = some (r, H') → ∀ (W : World) κ w (vs : Array Value), Inv W κ w noL H → κ.lloc = (fun _ => none) → vs.size = args.length → (∀ i c, args[i]? = some c → Rep κ w c (vs.getD i undef)) →
    (callFunc f vs).run P w = .ok (.enter f vs) w ∧
    Calls P f vs w fun e w' => ∃ v κ', e = .returned v ∧ Ext κ w κ' w' ∧ Inv W κ' w' noL H' ∧ κ'.lloc = (fun _ => none) ∧ Rep κ' w' r v

/-- The caller's own boxes are shut while a call runs. -/
def Conc.seal (κ : Conc) : Conc := { κ with ow := fun b o => match κ.ow b o with | .loc _ => .keep | x => x, lloc := fun _ => none }

def Conc.unseal (κ1 κ : Conc) : Conc := { κ1 with ow := fun b o => match κ.ow b o with | .loc s => .loc s | _ => κ1.ow b o, lloc := κ.lloc }

theorem seal_ow {κ : Conc} {b o : Nat} : (κ.seal.ow b o = .pub ↔ κ.ow b o = .pub) ∧ (∀ id, κ.seal.ow b o = .obj id ↔ κ.ow b o = .obj id) ∧ (∀ s, κ.seal.ow b o ≠ .loc s) ∧ (κ.seal.ow b o = .none ↔ κ.ow b o = .none) := by
  simp only [Conc.seal]
  cases κ.ow b o <;> simp

theorem Ext.seal (κ : Conc) (w : World) : Ext κ w κ.seal w where
  pub b o e := ⟨seal_ow.1.2 e, rfl⟩
  keep b o e := ⟨by simp [Conc.seal, e], rfl, rfl⟩
  loc _ _ e := e
  top _ m e := ⟨m, e, Nat.le_refl _, fun _ => rfl⟩
  mloc _ _ e := e
  tg _ _ e := e
  size := Nat.le_refl _

theorem Inv.seal {W : World} {κ : Conc} {w : World} {L : Nat → Option (Nat × List AV)} {H : List HObj} (hI : Inv W κ w L H) : Inv W κ.seal w noL H where
  below := hI.below
  lt b o h := hI.lt b o (fun e => h (seal_ow.2.2.2.2 e))
  own b o h := by
    rcases h with ⟨id, h⟩ | ⟨s, h⟩
    · exact hI.own b o (.inl ⟨id, (seal_ow.2.1 id).1 h⟩)
    · exact absurd h (seal_ow.2.2.1 s)
  mine := hI.mine
  minj := hI.minj
  objs id x h := (hI.objs id x h).keep (Ext.seal κ w) (Same.refl W w) rfl rfl rfl rfl rfl (fun b o e => ⟨(seal_ow.2.1 id).2 e, rfl⟩)
  past := hI.past
  tgs := hI.tgs
  tags := hI.tags
  locs s v c h := by cases h
  nolocs s h := rfl

theorem Inv.unseal {W : World} {κ κ1 : Conc} {w w1 : World} {L : Nat → Option (Nat × List AV)} {H H1 : List HObj} (hI : Inv W κ w L H) (hE : Ext κ.seal w κ1 w1) (hI1 : Inv W κ1 w1 noL H1) (hsz : w.heap.size ≤ w1.heap.size) :
    Ext κ w (κ1.unseal κ) w1 ∧ LExt κ (κ1.unseal κ) ∧ Inv W (κ1.unseal κ) w1 L H1 ∧ Ext0 κ1 w1 (κ1.unseal κ) w1 := by
  have hloc : ∀ b o s, κ.ow b o = .loc s → κ1.ow b o = .keep ∧ w1.cell? (ad b o) = w.cell? (ad b o) ∧ w1.frozen? (ad b o) = w.frozen? (ad b o) := fun b o s e =>
    hE.keep b o (by simp [Conc.seal, e])
  have how : ∀ b o, (∀ s, κ.ow b o ≠ .loc s) → (κ1.unseal κ).ow b o = κ1.ow b o := fun b o h => by
    show (match κ.ow b o with | .loc s => Owner.loc s | _ => κ1.ow b o) = _
    cases hq : κ.ow b o with
    | loc s => exact absurd hq (h s)
    | _ => rfl
  have how2 : ∀ b o s, κ.ow b o = .loc s → (κ1.unseal κ).ow b o = .loc s := fun b o s e => by simp [Conc.unseal, e]
  have hE0 : Ext0 κ1 w1 (κ1.unseal κ) w1 := by
    refine ⟨fun b o e => ⟨?_, rfl⟩, fun _ _ e => e, fun _ m e => ⟨m, e, Nat.le_refl _, fun _ => rfl⟩, fun _ _ e => e, fun _ _ e => e⟩
    rw [how b o (fun s e' => by rw [(hloc b o s e').1] at e; cases e)]; exact e
  have hEx : Ext κ w (κ1.unseal κ) w1 := by
    have h2 := (Ext.seal κ w).trans hE
    refine ⟨fun b o e => ?_, fun b o e => ?_, h2.loc, h2.top, h2.mloc, h2.tg, h2.size⟩
    · rw [how b o (fun s e' => by rw [e] at e'; cases e')]; exact h2.pub b o e
    · rw [how b o (fun s e' => by rw [e] at e'; cases e')]; exact h2.keep b o e
  refine ⟨hEx, fun s m b e => ⟨m, b, e, Nat.le_refl _, fun _ => rfl⟩, ?_, hE0⟩
  constructor
  · exact hI1.below
  · intro b o h
    by_cases q : ∃ s, κ.ow b o = .loc s
    · obtain ⟨s, q⟩ := q
      have := hI.lt b o (by rw [q]; simp)
      omega
    · rw [how b o (fun s e => q ⟨s, e⟩)] at h
      exact hI1.lt b o h
  · intro b o h
    by_cases q : ∃ s, κ.ow b o = .loc s
    · obtain ⟨s, q⟩ := q
      obtain ⟨h1, h2⟩ := hI.own b o (.inr ⟨s, q⟩)
      exact ⟨h1, (hloc b o s q).2.2.trans h2⟩
    · rw [how b o (fun s e => q ⟨s, e⟩)] at h
      exact hI1.own b o h
  · exact hI1.mine
  · exact hI1.minj
  · intro id x h
    refine (hI1.objs id x h).keep0 hE0 (Same.refl W w1) rfl rfl rfl rfl rfl (fun b o e => ⟨?_, rfl⟩)
    rw [how b o (fun s e' => by rw [(hloc b o s e').1] at e; cases e)]; exact e
  · exact hI1.past
  · exact hI1.tgs
  · exact hI1.tags
  · intro s v c h
    obtain ⟨b, e1, e2⟩ := hI.locs s v c h
    exact ⟨b, e1, e2.keep hEx (fun b o e => ⟨how2 b o s e, (hloc b o s e).2.1⟩)⟩
  · exact hI.nolocs

theorem SRep.put {W : World} {n : Nat} {κ κ' : Conc} {σ : St} {a : Act} {w w' : World} (hS : SRep W n κ σ a w) (hE : Ext κ w κ' w') (hL : LExt κ κ') {L : Nat → Option (Nat × List AV)} {H : List HObj} (hI : Inv W κ' w' L H)
    {dst : Option Nat} {t : Nat → TV} {x : TV} {v : Value} (hr : TRep κ' w' x v) (ht : putD n σ.t dst (some x) = some t) : SRep W n κ' ⟨t, L, H⟩ (a.put dst v) w' := by
  unfold putD at ht
  split at ht
  · rename_i d
    split at ht
    · rename_i hd
      obtain rfl := Option.some.inj ht
      refine ⟨fun j => ?_, hI, hS.defers, by simp [Act.put, hS.size]⟩
      show TRep κ' w' (upd σ.t d x j) ((a.tmps.setIfInBounds d v).getD j undef)
      by_cases q : j = d
      · subst q
        rw [upd_same, Array.getD_eq_getD_getElem?, Array.getElem?_setIfInBounds_self_of_lt (by rw [hS.size]; exact hd)]
        exact hr
      · rw [upd_ne _ _ q, Array.getD_eq_getD_getElem?, Array.getElem?_setIfInBounds_ne (fun e => q e.symm), ← Array.getD_eq_getD_getElem?]
        exact (hS.tmps j).mono hE hL
    · simp at ht
  · obtain rfl := Option.some.inj ht
    exact ⟨fun j => (hS.tmps j).mono hE hL, hI, hS.defers, hS.size⟩

theorem putD_none {n : Nat} {t : Nat → TV} {dst : Option Nat} : putD n t dst none = putD n t dst (some .undef) := by cases dst <;> rfl

theorem wantedA_sound {W : World} {n : Nat} {κ : Conc} {σ : St} {a : Act} {w : World} {ops : Array Oper} {o : Oper} {b : Bool} (hS : SRep W n κ σ a w) (h : wantedA ops σ.t o = some b) : Region.wanted o (yielded ops a.tmps) = b := by
  unfold wantedA at h
  unfold Region.wanted
  split at h
  · rename_i hg
    obtain rfl := Option.some.inj h
    simp [hg]
  · rename_i j want hg
    simp only [hg]
    split at h
    · rename_i d hd
      split at h
      · rename_i v ht
        obtain rfl := Option.some.inj h
        have := hS.tmps d
        rw [ht] at this
        have hb := boolval this
        have hy : yielded ops a.tmps j = some v := by
          unfold yielded
          rw [hd]
          simp only [Option.bind_some]
          rw [Array.getD_eq_getD_getElem?] at hb
          cases hq : a.tmps[d]? with
          | none => rw [hq] at hb; cases hb
          | some z => rw [hq] at hb; simp at hb; subst hb; rfl
        rw [hy]
        cases v <;> cases want <;> rfl
      · rename_i ht
        obtain rfl := Option.some.inj h
        have := hS.tmps d
        rw [ht] at this
        have hb : a.tmps.getD d undef = undef := this
        have hy : yielded ops a.tmps j = none := by
          unfold yielded
          rw [hd]
          simp only [Option.bind_some]
          rw [Array.getD_eq_getD_getElem?] at hb
          cases hq : a.tmps[d]? with
          | none => rfl
          | some z => rw [hq] at hb; simp at hb; subst hb; rfl
        rw [hy]
        rfl
      · simp at h
    · simp at h

theorem acallee_sound {W : World} {n : Nat} {κ : Conc} {σ : St} {a : Act} {w : World} {P : Program} {o : Oper} {f : FuncId} {as : List AV} (hS : SRep W n κ σ a w) (h : acallee (evalO σ.t) o.op = some (f, as)) :
    ∃ vs : Array Value, execOp a.eval o = callFunc f vs ∧ vs.size = as.length ∧ ∀ i c, as[i]? = some c → Rep κ w c (vs.getD i undef) := by
  unfold acallee at h
  split at h
  · rename_i callee args at_ hop
    split at h
    · rename_i g cap as0 hg has
      injection h with h; injection h with h1 h2; subst h1 h2
      have hf := Rep.of_eval hS hg
      generalize hv : a.eval callee = v at hf
      cases hf with
      | func _ _ vs hl hh =>
      obtain ⟨g1, g2⟩ := asVs_sound hS has
      refine ⟨args.map a.eval ++ vs, ?_, by simp [hl, g1], fun i c hc => ?_⟩
      · simp only [execOp, hop, resolve, hv]
        show callFunc g ((#[] ++ args.map a.eval) ++ vs) = _
        rw [Array.empty_append]
      · rw [Array.getD_eq_getD_getElem?]
        by_cases q : i < as0.length
        · rw [List.getElem?_append_left q] at hc
          rw [Array.getElem?_append_left (by simp; simp at g1; omega)]
          have := g2 i c hc
          simpa using this
        · rw [List.getElem?_append_right (by omega)] at hc
          rw [Array.getElem?_append_right (by simp; simp at g1; omega)]
          have := hh _ c hc
          rw [Array.getD_eq_getD_getElem?] at this
          simp only [Array.size_map]
          simp only [Array.length_toList] at g1
          rw [← g1]; exact this
    · simp at h
  · simp at h

/-- What follows an operation. -/
theorem stepOp_sound {P : Program} {W : World} {n : Nat} {κ : Conc} {σ σ' : St} {a : Act} {w : World} {md : Nat → Mode} {call : CallF} {ops : Array Oper} {i : Nat} {o : Oper} {acc : Acc} {Q : Exit → Act → World → Prop} {K : Act → World → Prop}
    (hcall : CallOk P call) (hS : SRep W n κ σ a w) (hi : ops[i]? = some o) (h : stepOp P md n call ops o σ = some (σ', acc))
    (hK : ∀ κ' a' w', Ext κ w κ' w' → LExt κ κ' → SRep W n κ' σ' a' w' → K a' w') : wpOp P ops Q i K a w := by
  unfold wpOp
  simp only [hi]
  unfold stepOp at h
  split at h
  · simp at h
  · rename_i hw
    rw [wantedA_sound hS hw]
    simp only [if_true]
    refine .inl ?_
    split at h
    · rename_i u hu
      split at h
      · rename_i t ht
        injection h with h; injection h with h1 h2; subst h1 h2
        unfold aopC at hu
        split at hu
        · -- a call
          rename_i g as hc
          cases hr : call g as σ.H with
          | none => simp [hr] at hu
          | some r =>
            simp [hr] at hu; subst hu
            obtain ⟨vs, e1, e2, e3⟩ := acallee_sound (P := P) hS hc
            obtain ⟨c1, c2⟩ := hcall g as σ.H r.1 r.2 hr W κ.seal w vs hS.inv.seal rfl e2 (fun i c hc => (e3 i c hc).mono (Ext.seal κ w))
            unfold Oper.wp
            rw [e1, c1, Oper.upon_enter]
            refine Calls.mono c2 ?_
            rintro e w' ⟨v, κ1, rfl, k1, k2, k3, k4⟩
            obtain ⟨x1, x2, x3, x4⟩ := hS.inv.unseal k1 k2 k1.size
            exact hK _ _ _ x1 x2 (hS.put x1 x2 x3 (show TRep _ _ (.v r.1) v from k4.mono0 x4) ht)
        · obtain ⟨κ', w', k1, k2, k3, k4⟩ := aop_sound hS hu
          unfold Oper.wp
          split at k4
          · rename_i x hx
            obtain ⟨cv, r1, r2⟩ := k4
            rw [r1, Oper.upon_value]
            rw [hx] at ht
            exact hK _ _ _ k1 k2 (hS.put k1 k2 k3 r2 ht)
          · rename_i hx
            rw [k4, Oper.upon_skip]
            rw [hx, putD_none] at ht
            exact hK _ _ _ k1 k2 (hS.put k1 k2 k3 (x := .undef) trivial ht)
      · simp at h
    · simp at h
  · rename_i hw
    rw [wantedA_sound hS hw]
    simp only [Bool.false_eq_true, if_false]
    have hput : putD n σ.t o.dst (some .no) = some σ'.t ∧ σ'.L = σ.L ∧ σ'.H = σ.H := by
      split at h
      · rename_i d hd
        split at h
        · rename_i hlt
          injection h with h; injection h with h1 h2; subst h1
          simp [putD, hd, hlt]
        · simp at h
      · rename_i hd
        injection h with h; injection h with h1 h2; subst h1
        simp [putD, hd]
    have := hS.put (Ext.refl κ w) (LExt.refl κ) hS.inv (x := .no) (v := undef) rfl hput.1
    refine hK κ _ w (Ext.refl _ _) (LExt.refl _) ?_
    rw [← hput.2.1, ← hput.2.2] at this
    exact this

end Go.Proofs.Ytnjaagfhaooapaa.Eng
