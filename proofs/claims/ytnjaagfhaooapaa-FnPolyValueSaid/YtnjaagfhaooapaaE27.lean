/- ENGINE 27: the engine without a count of steps, by equations. -/
import Derived.Test.YtnjaagfhaooapaaE26
namespace Go.Proofs.Ytnjaagfhaooapaa.Eng
set_option linter.unusedVariables false
set_option linter.unusedSimpArgs false
set_option linter.unnecessarySimpa false
set_option linter.constructorNameAsVariable false
open Go Go.RowKit

def OLe {α : Type} (x y : Option α) : Prop := ∀ r, x = some r → y = some r

theorem OLe.refl {α : Type} (x : Option α) : OLe x x := fun _ h => h
theorem OLe.trans {α : Type} {x y z : Option α} (h : OLe x y) (k : OLe y z) : OLe x z := fun r e => k r (h r e)

def CLe (c c' : CallF) : Prop := ∀ f a H, OLe (c f a H) (c' f a H)

theorem stepOp_mono {P : Program} {md : Nat → Mode} {n : Nat} {c c' : CallF} {ops : Array Oper} (h : CLe c c') (o : Oper) (σ : St) : OLe (stepOp P md n c ops o σ) (stepOp P md n c' ops o σ) := by
  rintro ⟨σ', acc⟩ e
  obtain ⟨u, e1, e2, e3, e4, e5⟩ := stepOp_eq.1 e
  refine stepOp_eq.2 ⟨u, ?_, e2, e3, e4, e5⟩
  unfold doOp at e1 ⊢
  cases hw : wantedA ops σ.t o with
  | none => rw [hw] at e1; cases e1
  | some b =>
    rw [hw] at e1
    cases b with
    | false => exact e1
    | true =>
      simp only [aopC] at e1 ⊢
      cases hc : acallee (evalO σ.t) o.op with
      | none => rw [hc] at e1; exact e1
      | some q =>
        obtain ⟨g, as⟩ := q
        rw [hc] at e1
        simp only at e1 ⊢
        cases hr : c g as σ.H with
        | none => rw [hr] at e1; cases e1
        | some r => rw [h g as σ.H r hr]; rw [hr] at e1; exact e1

theorem runOps_mono {P : Program} {md : Nat → Mode} {n : Nat} {c c' : CallF} {ops : Array Oper} (h : CLe c c') : ∀ (l : List Oper) (σ : St), OLe (runOps P md n c ops l σ) (runOps P md n c' ops l σ)
  | [], σ => OLe.refl _
  | o :: l, σ => by
    intro r e
    simp only [runOps] at e ⊢
    split at e
    · rename_i σ1 acc h1
      rw [stepOp_mono h o σ _ h1]
      exact runOps_mono h l σ1 r e
    · simp at e

theorem runOpsT_mono {P : Program} {md : Nat → Mode} {n : Nat} {c c' : CallF} {ops : Array Oper} (h : CLe c c') : ∀ (l : List Oper) (σ : St), OLe (runOpsT P md n c ops l σ) (runOpsT P md n c' ops l σ)
  | [], σ => OLe.refl _
  | o :: l, σ => by
    intro r e
    simp only [runOpsT] at e ⊢
    split at e
    · rename_i σ1 acc h1
      rw [stepOp_mono h o σ _ h1]
      split at e
      · rename_i h2
        simp only [runOpsT_mono h l σ1 _ h2]; exact e
      · simp at e
    · simp at e

theorem iterA_mono {s s' : St → Option (AEx × St)} (h : ∀ σ, OLe (s σ) (s' σ)) : ∀ {k k' : Nat}, k ≤ k' → ∀ σ, OLe (iterA s k σ) (iterA s' k' σ)
  | 0, k', _, σ => fun r e => by simp [iterA] at e
  | k + 1, k', hk, σ => by
    intro r e
    obtain ⟨k'', rfl⟩ : ∃ m, k' = m + 1 := ⟨k' - 1, by omega⟩
    simp only [iterA] at e ⊢
    split at e
    · rename_i σ1 h1
      rw [h σ _ h1]
      exact iterA_mono h (by omega) σ1 r e
    · rename_i hne
      rw [h σ _ e]
      split
      · rename_i σ1 hq
        injection hq with hq; subst hq
        exact absurd e (hne σ1)
      · rfl

theorem aexecN_mono {P : Program} {md : Nat → Mode} {f : FuncId} {n : Nat} {c c' : CallF} (h : CLe c c') {k k' : Nat} (hk : k ≤ k') : ∀ (code : Code) (σ : St), OLe (aexecN P md f n c k code σ) (aexecN P md f n c' k' code σ) := by
  intro code
  induction code with
  | region id ops draw =>
    intro σ r e
    cases draw with
    | false =>
      simp only [aexecN] at e ⊢
      cases hr : runOps P md n c ops ops.toList σ with
      | none => simp [hr] at e
      | some σ1 => rw [runOps_mono h _ _ _ hr]; rw [hr] at e; exact e
    | true =>
      simp only [aexecN] at e ⊢
      split at e
      · rename_i ps σ1 l hps hr
        simp only [hps, runOpsT_mono h _ _ _ hr]; exact e
      · simp at e
  | seq a b iha ihb =>
    intro σ r e
    simp only [aexecN] at e ⊢
    split at e
    · rename_i σ1 h1
      rw [iha σ _ h1]; exact ihb σ1 r e
    · rename_i hne
      rw [iha σ _ e]
      split
      · rename_i σ1 hq
        injection hq with hq; subst hq
        exact absurd e (hne σ1)
      · rfl
  | cond x a b iha ihb =>
    intro σ r e
    simp only [aexecN] at e ⊢
    split at e
    · rename_i hx; exact iha σ r e
    · rename_i hx; exact ihb σ r e
    · simp at e
  | block id b ih =>
    intro σ r e
    simp only [aexecN] at e ⊢
    split at e
    · rename_i h1
      rw [ih σ _ h1]; exact e
    · simp at e
  | loop b ih =>
    intro σ r e
    simp only [aexecN] at e ⊢
    exact iterA_mono ih hk σ r e
  | _ => intro σ r e; exact e

theorem abody_mono {E : Env} {c c' : CallF} (h : CLe c c') {k k' : Nat} (hk : k ≤ k') (f : FuncId) (args : List AV) (H : List HObj) : OLe (abody E c k f args H) (abody E c' k' f args H) := by
  intro r e
  unfold abody at e ⊢
  split at e
  · rename_i fn hf
    split at e
    · rename_i code hb
      split at e
      · rename_i hc
        simp only [hc, if_true]
        split at e
        · simp at e
        · rename_i ex σ hne hx
          rw [aexecN_mono h hk _ _ _ hx]
          cases ex with
          | exit i => exact absurd rfl (hne i)
          | normal => exact e
          | ret => exact e
        · simp at e
      · simp at e
    · simp at e
  · simp at e

theorem acallN_succ {E : Env} : ∀ k, CLe (acallN E k) (acallN E (k + 1))
  | 0 => fun f a H r e => by simp [acallN] at e
  | k + 1 => by
    intro f a H r e
    cases hx : E.ext f with
    | some s => simp only [acallN, hx] at e ⊢; exact e
    | none => simp only [acallN, hx] at e ⊢; exact abody_mono (acallN_succ k) (by omega) f a H r e

theorem acallN_mono {E : Env} {k k' : Nat} (h : k ≤ k') : CLe (acallN E k) (acallN E k') := by
  induction h with
  | refl => exact fun f a H => OLe.refl _
  | step _ ih => exact fun f a H => (ih f a H).trans (acallN_succ _ f a H)

open Classical in
/-- Where a growing row of answers ends. -/
noncomputable def lim' {α : Type} (s : Nat → Option α) : Option α := if h : ∃ k r, s k = some r then some h.choose_spec.choose else none

theorem lim_some {α : Type} {s : Nat → Option α} (hm : ∀ {k k' : Nat}, k ≤ k' → OLe (s k) (s k')) {r : α} : lim' s = some r ↔ ∃ k, s k = some r := by
  unfold lim'
  constructor
  · intro h
    split at h
    · rename_i hx
      injection h with h
      exact ⟨hx.choose, by rw [hx.choose_spec.choose_spec, h]⟩
    · simp at h
  · rintro ⟨k, e⟩
    have hx : ∃ k r, s k = some r := ⟨k, r, e⟩
    rw [dif_pos hx]
    have h1 := hx.choose_spec.choose_spec
    have h2 := hm (Nat.le_max_left k hx.choose) r e
    have h3 := hm (Nat.le_max_right k hx.choose) _ h1
    rw [h2] at h3; exact h3.symm

theorem acall_some {E : Env} {f : FuncId} {args : List AV} {H : List HObj} {r : AV × List HObj} : acall E f args H = some r ↔ ∃ k, acallN E k f args H = some r :=
  lim_some (s := fun k => acallN E k f args H) (fun h => acallN_mono h f args H)

theorem acallN_le {E : Env} (k : Nat) : CLe (acallN E k) (acall E) := fun f a H r e => acall_some.2 ⟨k, e⟩

noncomputable def aexec (E : Env) (f : FuncId) (n : Nat) (c : Code) (σ : St) : Option (AEx × St) := lim' fun k => aexecN E.P (E.md f) f n (acallN E k) k c σ

theorem aexec_some {E : Env} {f : FuncId} {n : Nat} {c : Code} {σ : St} {r : AEx × St} : aexec E f n c σ = some r ↔ ∃ k, aexecN E.P (E.md f) f n (acallN E k) k c σ = some r :=
  lim_some (fun h => aexecN_mono (acallN_mono h) h c σ)

theorem stepOp_lim {E : Env} {md : Nat → Mode} {n : Nat} {ops : Array Oper} {o : Oper} {σ : St} {r : St × Acc} : stepOp E.P md n (acall E) ops o σ = some r ↔ ∃ k, stepOp E.P md n (acallN E k) ops o σ = some r := by
  constructor
  · intro h
    obtain ⟨σ', acc⟩ := r
    obtain ⟨u, e1, e2, e3, e4, e5⟩ := stepOp_eq.1 h
    have : ∃ k, doOp E.P md (acallN E k) ops o σ.t σ = some u := by
      unfold doOp at e1 ⊢
      cases hw : wantedA ops σ.t o with
      | none => rw [hw] at e1; cases e1
      | some b =>
        rw [hw] at e1
        cases b with
        | false => exact ⟨0, e1⟩
        | true =>
          simp only [aopC] at e1 ⊢
          cases hc : acallee (evalO σ.t) o.op with
          | none => rw [hc] at e1; exact ⟨0, e1⟩
          | some q =>
            obtain ⟨g, as⟩ := q
            rw [hc] at e1
            simp only at e1 ⊢
            cases hr : acall E g as σ.H with
            | none => rw [hr] at e1; cases e1
            | some q =>
              obtain ⟨k, hk⟩ := acall_some.1 hr
              exact ⟨k, by rw [hk]; rw [hr] at e1; exact e1⟩
    obtain ⟨k, hk⟩ := this
    exact ⟨k, stepOp_eq.2 ⟨u, hk, e2, e3, e4, e5⟩⟩
  · rintro ⟨k, h⟩
    exact stepOp_mono (acallN_le k) o σ r h

theorem runOps_lim {E : Env} {md : Nat → Mode} {n : Nat} {ops : Array Oper} : ∀ {l : List Oper} {σ : St} {r : St}, runOps E.P md n (acall E) ops l σ = some r ↔ ∃ k, runOps E.P md n (acallN E k) ops l σ = some r
  | [], σ, r => ⟨fun h => ⟨0, h⟩, fun ⟨_, h⟩ => h⟩
  | o :: l, σ, r => by
    constructor
    · intro h
      simp only [runOps] at h
      split at h
      · rename_i σ1 acc h1
        obtain ⟨k1, h1⟩ := stepOp_lim.1 h1
        obtain ⟨k2, h2⟩ := runOps_lim.1 h
        refine ⟨max k1 k2, ?_⟩
        simp only [runOps, stepOp_mono (acallN_mono (Nat.le_max_left k1 k2)) o σ _ h1]
        exact runOps_mono (acallN_mono (Nat.le_max_right k1 k2)) l σ1 r h2
      · simp at h
    · rintro ⟨k, h⟩
      exact runOps_mono (acallN_le k) _ σ r h

theorem runOpsT_lim {E : Env} {md : Nat → Mode} {n : Nat} {ops : Array Oper} : ∀ {l : List Oper} {σ : St} {r : St × List Tr}, runOpsT E.P md n (acall E) ops l σ = some r ↔ ∃ k, runOpsT E.P md n (acallN E k) ops l σ = some r
  | [], σ, r => ⟨fun h => ⟨0, h⟩, fun ⟨_, h⟩ => h⟩
  | o :: l, σ, r => by
    constructor
    · intro h
      simp only [runOpsT] at h
      split at h
      · rename_i σ1 acc h1
        split at h
        · rename_i σ2 ts h2
          obtain ⟨k1, h1⟩ := stepOp_lim.1 h1
          obtain ⟨k2, h2⟩ := runOpsT_lim.1 h2
          refine ⟨max k1 k2, ?_⟩
          simp only [runOpsT, stepOp_mono (acallN_mono (Nat.le_max_left k1 k2)) o σ _ h1, runOpsT_mono (acallN_mono (Nat.le_max_right k1 k2)) l σ1 _ h2]
          exact h
        · simp at h
      · simp at h
    · rintro ⟨k, h⟩
      exact runOpsT_mono (acallN_le k) _ σ r h

theorem opt_ext {α : Type} {x y : Option α} (h : ∀ r, x = some r ↔ y = some r) : x = y := by
  cases x with
  | none =>
    cases y with
    | none => rfl
    | some b => exact absurd ((h b).2 rfl) (by simp)
  | some a => exact ((h a).1 rfl).symm

section
variable (E : Env) (f : FuncId) (n : Nat)

theorem aexec_skip (σ : St) : aexec E f n .skip σ = some (.normal, σ) := aexec_some.2 ⟨0, rfl⟩
theorem aexec_ret (σ : St) : aexec E f n .ret σ = some (.ret, σ) := aexec_some.2 ⟨0, rfl⟩
theorem aexec_exit (id : Nat) (σ : St) : aexec E f n (.exit id) σ = some (.exit id, σ) := aexec_some.2 ⟨0, rfl⟩

theorem aexec_region (id : Nat) (ops : Array Oper) (σ : St) : aexec E f n (.region id ops false) σ = (runOps E.P (E.md f) n (acall E) ops ops.toList σ).map fun σ' => (.normal, σ') := by
  apply opt_ext
  intro r
  rw [aexec_some]
  simp only [aexecN, Option.map_eq_some_iff]
  constructor
  · rintro ⟨k, σ', h, e⟩
    exact ⟨σ', runOps_lim.2 ⟨k, h⟩, e⟩
  · rintro ⟨σ', h, e⟩
    obtain ⟨k, h⟩ := runOps_lim.1 h
    exact ⟨k, σ', h, e⟩

open Classical in
theorem aexec_draw (id : Nat) (ops : Array Oper) (σ : St) : aexec E f n (.region id ops true) σ =
    match pairsAt E.P f id, runOpsT E.P (E.md f) n (acall E) ops ops.toList σ with
    | some ps, some (σ', l) => if commAll l ps then some (.normal, σ') else none
    | _, _ => none := by
  apply opt_ext
  intro r
  rw [aexec_some]
  simp only [aexecN]
  constructor
  · rintro ⟨k, h⟩
    split at h
    · rename_i ps σ1 l hps hr
      rw [hps, runOpsT_lim.2 ⟨k, hr⟩]; exact h
    · simp at h
  · intro h
    split at h
    · rename_i ps σ1 l hps hr
      obtain ⟨k, hr⟩ := runOpsT_lim.1 hr
      exact ⟨k, by rw [hps, hr]; exact h⟩
    · simp at h

theorem aexec_seq (a b : Code) (σ : St) : aexec E f n (.seq a b) σ = match aexec E f n a σ with
    | some (.normal, σ') => aexec E f n b σ'
    | r => r := by
  apply opt_ext
  intro r
  rw [aexec_some]
  constructor
  · rintro ⟨k, h⟩
    simp only [aexecN] at h
    split at h
    · rename_i σ1 h1
      rw [aexec_some.2 ⟨k, h1⟩]
      exact aexec_some.2 ⟨k, h⟩
    · rename_i hne
      rw [aexec_some.2 ⟨k, h⟩]
      split
      · rename_i σ1 hq
        injection hq with hq; subst hq
        exact absurd h (hne σ1)
      · rfl
  · intro h
    split at h
    · rename_i σ1 h1
      obtain ⟨k1, h1⟩ := aexec_some.1 h1
      obtain ⟨k2, h2⟩ := aexec_some.1 h
      refine ⟨max k1 k2, ?_⟩
      simp only [aexecN]
      rw [aexecN_mono (acallN_mono (Nat.le_max_left k1 k2)) (Nat.le_max_left k1 k2) a σ _ h1]
      exact aexecN_mono (acallN_mono (Nat.le_max_right k1 k2)) (Nat.le_max_right k1 k2) b σ1 r h2
    · rename_i hne
      obtain ⟨k, h1⟩ := aexec_some.1 h
      refine ⟨k, ?_⟩
      simp only [aexecN, h1]
      split
      · rename_i σ1 hq
        injection hq with hq; subst hq
        exact absurd h (hne σ1)
      · rfl

theorem aexec_cond (c : Operand) (a b : Code) (σ : St) : aexec E f n (.cond c a b) σ = match evalO σ.t c with
    | .v (.bool true) => aexec E f n a σ
    | .v (.bool false) => aexec E f n b σ
    | _ => none := by
  apply opt_ext
  intro r
  rw [aexec_some]
  simp only [aexecN]
  generalize evalO σ.t c = v
  cases v with
  | v x =>
    cases x with
    | bool t =>
      cases t with
      | true => exact aexec_some.symm
      | false => exact aexec_some.symm
    | _ => simp
  | _ => simp

theorem aexec_block (id : Nat) (b : Code) (σ : St) : aexec E f n (.block id b) σ = match aexec E f n b σ with
    | some (e, σ') => some (blockEx id e, σ')
    | none => none := by
  apply opt_ext
  intro r
  rw [aexec_some]
  simp only [aexecN]
  constructor
  · rintro ⟨k, h⟩
    split at h
    · rename_i h1
      rw [aexec_some.2 ⟨k, h1⟩]; exact h
    · simp at h
  · intro h
    split at h
    · rename_i h1
      obtain ⟨k, h1⟩ := aexec_some.1 h1
      exact ⟨k, by rw [h1]; exact h⟩
    · simp at h

theorem aexec_loop (b : Code) (σ : St) : aexec E f n (.loop b) σ = match aexec E f n b σ with
    | some (.normal, σ') => aexec E f n (.loop b) σ'
    | r => r := by
  apply opt_ext
  intro r
  rw [aexec_some]
  have hs : ∀ {k k' : Nat}, k ≤ k' → ∀ σ, OLe (aexecN E.P (E.md f) f n (acallN E k) k b σ) (aexecN E.P (E.md f) f n (acallN E k') k' b σ) := fun h σ => aexecN_mono (acallN_mono h) h b σ
  constructor
  · rintro ⟨k, h⟩
    simp only [aexecN] at h
    cases k with
    | zero => simp [iterA] at h
    | succ k =>
      simp only [iterA] at h
      split at h
      · rename_i σ1 h1
        rw [aexec_some.2 ⟨k + 1, h1⟩]
        refine aexec_some.2 ⟨k + 1, ?_⟩
        simp only [aexecN]
        exact iterA_mono (fun σ => OLe.refl _) (by omega) σ1 r h
      · rename_i hne
        rw [aexec_some.2 ⟨k + 1, h⟩]
        split
        · rename_i σ1 hq
          injection hq with hq; subst hq
          exact absurd h (hne σ1)
        · rfl
  · intro h
    split at h
    · rename_i σ1 h1
      obtain ⟨k1, h1⟩ := aexec_some.1 h1
      obtain ⟨k2, h2⟩ := aexec_some.1 h
      refine ⟨max k1 k2 + 1, ?_⟩
      simp only [aexecN, iterA] at h2 ⊢
      rw [hs (show k1 ≤ max k1 k2 + 1 by omega) σ _ h1]
      exact iterA_mono (hs (show k2 ≤ max k1 k2 + 1 by omega)) (Nat.le_max_right k1 k2) σ1 r h2
    · rename_i hne
      obtain ⟨k, h1⟩ := aexec_some.1 h
      refine ⟨k + 1, ?_⟩
      simp only [aexecN, iterA, hs (show k ≤ k + 1 by omega) σ _ h1]
      split
      · rename_i σ1 hq
        injection hq with hq; subst hq
        exact absurd h (hne σ1)
      · rfl
end

/-- What a body's end gives. -/
def endOf (E : Env) (f : FuncId) (fn : Func) (len : Nat) : Option (AEx × St) → Option (AV × List HObj)
  | some (.exit _, _) => none
  | some (_, σ) => match aresults E.P σ fn.results.toList with
    | some rs => finish (E.keep f) len (oneOf rs) σ.H
    | none => none
  | none => none

theorem acall_eq {E : Env} {f : FuncId} {fn : Func} {c : Code} (hx : E.ext f = none) (hf : E.P.funcs[f]? = some fn) (hb : fn.body = some c) (hn : (fn.name != "runtime.NumGoroutine") = true) (args : List AV) (ha : args.length ≤ fn.ntmps) (H : List HObj) :
    acall E f args H = endOf E f fn H.length (aexec E f fn.ntmps c ⟨initT args, fun _ => none, H⟩) := by
  have hc : (fn.name != "runtime.NumGoroutine" && decide (args.length ≤ fn.ntmps)) = true := by simp only [hn, Bool.true_and, decide_eq_true_eq]; exact ha
  apply opt_ext
  intro r
  rw [acall_some]
  constructor
  · rintro ⟨k, h⟩
    cases k with
    | zero => simp [acallN] at h
    | succ k =>
      simp only [acallN, hx, abody, hf, hb, hc, if_true] at h
      split at h
      · simp at h
      · rename_i e σ hne h1
        rw [aexec_some.2 ⟨k, h1⟩]
        cases e with
        | exit i => exact absurd rfl (hne i)
        | normal => exact h
        | ret => exact h
      · simp at h
  · intro h
    unfold endOf at h
    split at h
    · simp at h
    · rename_i e σ hne h1
      obtain ⟨k, h1⟩ := aexec_some.1 h1
      refine ⟨k + 1, ?_⟩
      simp only [acallN, hx, abody, hf, hb, hc, if_true, h1]
      cases e with
      | exit i => exact absurd rfl (hne i)
      | normal => exact h
      | ret => exact h
    · simp at h

theorem acall_ext {E : Env} {f : FuncId} {s : List AV → List HObj → Option (AV × List HObj)} (hx : E.ext f = some s) (args : List AV) (H : List HObj) : acall E f args H = s args H := by
  apply opt_ext
  intro r
  rw [acall_some]
  constructor
  · rintro ⟨k, h⟩
    cases k with
    | zero => simp [acallN] at h
    | succ k => simp only [acallN, hx] at h; exact h
  · intro h
    exact ⟨1, by simp only [acallN, hx]; exact h⟩

end Go.Proofs.Ytnjaagfhaooapaa.Eng
