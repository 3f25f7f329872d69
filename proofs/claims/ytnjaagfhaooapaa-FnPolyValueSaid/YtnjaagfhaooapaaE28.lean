/- ENGINE 28: walking through code. -/
import Derived.Test.YtnjaagfhaooapaaE27
namespace Go.Proofs.Ytnjaagfhaooapaa.Eng
set_option linter.unusedVariables false
set_option linter.unusedSimpArgs false
set_option linter.unnecessarySimpa false
set_option linter.constructorNameAsVariable false
open Go

/-- Go on with what an option holds. -/
def optK {α : Type} (o : Option α) (k : α → Prop) : Prop := match o with
  | some a => k a
  | none => False

@[simp] theorem optK_some {α : Type} (a : α) (k : α → Prop) : optK (some a) k = k a := rfl
@[simp] theorem optK_none {α : Type} (k : α → Prop) : optK none k = False := rfl
@[congr] theorem optK_congr {α : Type} {o o' : Option α} {k : α → Prop} (h : o = o') : optK o k = optK o' k := by rw [h]

/-- The code runs and ends so that Q holds. -/
def wp (E : Env) (f : FuncId) (n : Nat) (c : Code) (σ : St) (Q : AEx → St → Prop) : Prop := optK (aexec E f n c σ) fun r => Q r.1 r.2

def wops (E : Env) (f : FuncId) (n : Nat) (ops : Array Oper) (l : List Oper) (σ : St) (Q : St → Prop) : Prop := optK (runOps E.P (E.md f) n (acall E) ops l σ) Q

/-- With what they touched. -/
def wopsT (E : Env) (f : FuncId) (n : Nat) (ops : Array Oper) (l : List Oper) (σ : St) (Q : St → List Tr → Prop) : Prop := optK (runOpsT E.P (E.md f) n (acall E) ops l σ) fun r => Q r.1 r.2

theorem wp_mono {E : Env} {f : FuncId} {n : Nat} {c : Code} {σ : St} {Q Q' : AEx → St → Prop} (h : wp E f n c σ Q) (hq : ∀ e σ, Q e σ → Q' e σ) : wp E f n c σ Q' := by
  unfold wp at *
  cases hx : aexec E f n c σ with
  | none => rw [hx] at h; exact h.elim
  | some r => rw [hx] at h; exact hq _ _ h

section
variable {E : Env} {f : FuncId} {n : Nat}

theorem wp_skip (σ : St) (Q : AEx → St → Prop) : wp E f n .skip σ Q = Q .normal σ := by simp [wp, aexec_skip]
theorem wp_ret (σ : St) (Q : AEx → St → Prop) : wp E f n .ret σ Q = Q .ret σ := by simp [wp, aexec_ret]
theorem wp_exit (id : Nat) (σ : St) (Q : AEx → St → Prop) : wp E f n (.exit id) σ Q = Q (.exit id) σ := by simp [wp, aexec_exit]

/-- What comes behind. -/
def andThen (Q : AEx → St → Prop) (k : St → Prop) : AEx → St → Prop
  | .normal, σ => k σ
  | e, σ => Q e σ

@[simp] theorem andThen_normal (Q : AEx → St → Prop) (k : St → Prop) (σ : St) : andThen Q k .normal σ = k σ := rfl
@[simp] theorem andThen_ret (Q : AEx → St → Prop) (k : St → Prop) (σ : St) : andThen Q k .ret σ = Q .ret σ := rfl
@[simp] theorem andThen_exit (Q : AEx → St → Prop) (k : St → Prop) (σ : St) (i : Nat) : andThen Q k (.exit i) σ = Q (.exit i) σ := rfl

theorem wp_seq (a b : Code) (σ : St) (Q : AEx → St → Prop) : wp E f n (.seq a b) σ Q = wp E f n a σ (andThen Q fun σ' => wp E f n b σ' Q) := by
  unfold wp
  rw [aexec_seq]
  cases aexec E f n a σ with
  | none => rfl
  | some r => obtain ⟨e, σ'⟩ := r; cases e <;> rfl

theorem wp_region (id : Nat) (ops : Array Oper) (σ : St) (Q : AEx → St → Prop) : wp E f n (.region id ops false) σ Q = wops E f n ops ops.toList σ (Q .normal) := by
  unfold wp wops
  rw [aexec_region]
  cases runOps E.P (E.md f) n (acall E) ops ops.toList σ <;> rfl

theorem runOpsT_fst {P : Program} {md : Nat → Mode} {c : CallF} {ops : Array Oper} : ∀ (l : List Oper) (σ : St), (runOpsT P md n c ops l σ).map (·.1) = runOps P md n c ops l σ
  | [], σ => rfl
  | o :: l, σ => by
    simp only [runOpsT, runOps]
    cases stepOp P md n c ops o σ with
    | none => rfl
    | some r =>
      obtain ⟨σ1, acc⟩ := r
      have := runOpsT_fst (P := P) (md := md) (c := c) (ops := ops) l σ1
      simp only
      rw [← this]
      cases runOpsT P md n c ops l σ1 <;> rfl

/-- A drawn region all of whose pairs are plain. -/
theorem wp_draw0 {id : Nat} {ops : Array Oper} (hp : pairsAt E.P f id = some []) (σ : St) (Q : AEx → St → Prop) : wp E f n (.region id ops true) σ Q = wops E f n ops ops.toList σ (Q .normal) := by
  unfold wp wops
  rw [aexec_draw, hp, ← runOpsT_fst]
  cases runOpsT E.P (E.md f) n (acall E) ops ops.toList σ with
  | none => rfl
  | some r =>
    obtain ⟨σ', l⟩ := r
    have : commAll l [] := fun p hp => by simp at hp
    simp [this]

theorem wp_draw {id : Nat} {ops : Array Oper} {ps : List (Nat × Nat)} (hp : pairsAt E.P f id = some ps) (σ : St) (Q : AEx → St → Prop) :
    wp E f n (.region id ops true) σ Q = wopsT E f n ops ops.toList σ (fun σ' l => commAll l ps ∧ Q .normal σ') := by
  unfold wp wopsT
  rw [aexec_draw, hp]
  cases runOpsT E.P (E.md f) n (acall E) ops ops.toList σ with
  | none => rfl
  | some r =>
    obtain ⟨σ', l⟩ := r
    by_cases h : commAll l ps <;> simp [h]

theorem wp_cond {c : Operand} {x : Bool} (a b : Code) (σ : St) (Q : AEx → St → Prop) (h : evalO σ.t c = .v (.bool x)) : wp E f n (.cond c a b) σ Q = ((x = true → wp E f n a σ Q) ∧ (x = false → wp E f n b σ Q)) := by
  unfold wp
  rw [aexec_cond, h]
  cases x <;> simp

/-- An exit out of a block. -/
def outOf (id : Nat) (Q : AEx → St → Prop) : AEx → St → Prop := fun e σ => Q (blockEx id e) σ

@[simp] theorem outOf_normal (id : Nat) (Q : AEx → St → Prop) (σ : St) : outOf id Q .normal σ = Q .normal σ := rfl
@[simp] theorem outOf_ret (id : Nat) (Q : AEx → St → Prop) (σ : St) : outOf id Q .ret σ = Q .ret σ := rfl
@[simp] theorem outOf_exit (id i : Nat) (Q : AEx → St → Prop) (σ : St) : outOf id Q (.exit i) σ = Q (if i = id then .normal else .exit i) σ := rfl

theorem wp_block (id : Nat) (b : Code) (σ : St) (Q : AEx → St → Prop) : wp E f n (.block id b) σ Q = wp E f n b σ (outOf id Q) := by
  unfold wp
  rw [aexec_block]
  cases aexec E f n b σ with
  | none => rfl
  | some r => obtain ⟨e, σ'⟩ := r; rfl

theorem wp_loop1 (b : Code) (σ : St) (Q : AEx → St → Prop) : wp E f n (.loop b) σ Q = wp E f n b σ (andThen Q fun σ' => wp E f n (.loop b) σ' Q) := by
  unfold wp
  rw [aexec_loop]
  cases aexec E f n b σ with
  | none => rfl
  | some r => obtain ⟨e, σ'⟩ := r; cases e <;> rfl

/-- A loop: the invariant, indexed by what is left. -/
theorem wp_loop {b : Code} {α : Type} (m : α → Nat) (I : α → St → Prop) {Q : AEx → St → Prop} (step : ∀ x σ, I x σ → wp E f n b σ (andThen Q fun σ' => ∃ y, m y < m x ∧ I y σ')) (x : α) (σ : St) (h : I x σ) : wp E f n (.loop b) σ Q := by
  generalize hk : m x = k
  induction k using Nat.strongRecOn generalizing x σ with
  | _ k ih =>
    rw [wp_loop1]
    refine wp_mono (step x σ h) fun e σ' hq => ?_
    cases e with
    | normal =>
      obtain ⟨y, hy, hI⟩ := hq
      exact ih (m y) (by omega) y σ' hI rfl
    | _ => exact hq

/-! ### Operations -/
theorem wops_nil (ops : Array Oper) (σ : St) (Q : St → Prop) : wops E f n ops [] σ Q = Q σ := rfl

/-- One operation without a guard: what it gives is put. -/
theorem wops_put (ops : Array Oper) (d : Nat) (op : Op) (ty : TypeId) (pos : String) (after : Array Edge) (l : List Oper) (t : Nat → TV) (L : Nat → Option (Nat × List AV)) (H : List HObj) (Q : St → Prop) :
    wops E f n ops (⟨some d, op, ty, pos, after, none⟩ :: l) ⟨t, L, H⟩ Q = optK (aopC E.P (E.md f) (acall E) ⟨some d, op, ty, pos, after, none⟩ (evalO t) ⟨t, L, H⟩) fun u => d < n ∧ wops E f n ops l ⟨upd t d (u.val.getD .undef), u.L, u.H⟩ Q := by
  unfold wops
  simp only [runOps, stepOp, wantedA]
  cases aopC E.P (E.md f) (acall E) ⟨some d, op, ty, pos, after, none⟩ (evalO t) ⟨t, L, H⟩ with
  | none => rfl
  | some u =>
    by_cases hd : d < n
    · simp [putD, hd]
    · simp [putD, hd]

theorem wops_do (ops : Array Oper) (op : Op) (ty : TypeId) (pos : String) (after : Array Edge) (l : List Oper) (t : Nat → TV) (L : Nat → Option (Nat × List AV)) (H : List HObj) (Q : St → Prop) :
    wops E f n ops (⟨none, op, ty, pos, after, none⟩ :: l) ⟨t, L, H⟩ Q = optK (aopC E.P (E.md f) (acall E) ⟨none, op, ty, pos, after, none⟩ (evalO t) ⟨t, L, H⟩) fun u => wops E f n ops l ⟨t, u.L, u.H⟩ Q := by
  unfold wops
  simp only [runOps, stepOp, wantedA]
  cases aopC E.P (E.md f) (acall E) ⟨none, op, ty, pos, after, none⟩ (evalO t) ⟨t, L, H⟩ with
  | none => rfl
  | some u => simp [putD]

/-- A bool that decides. -/
def boolP (x : TV) (k : Bool → Prop) : Prop := match x with
  | .v (.bool b) => k b
  | _ => False
@[congr] theorem boolP_congr {x y : TV} {k : Bool → Prop} (h : x = y) : boolP x k = boolP y k := by rw [h]
theorem boolP_bool (b : Bool) (k : Bool → Prop) : boolP (.v (.bool b)) k = k b := rfl

/-- Two ways to go on. -/
def ways (x : Bool) (A B : Prop) : Prop := (x = true → A) ∧ (x = false → B)
@[congr] theorem ways_congr {x y : Bool} {A B : Prop} (h : x = y) : ways x A B = ways y A B := by rw [h]
theorem ways_true (A B : Prop) : ways true A B = A := by simp [ways]
theorem ways_false (A B : Prop) : ways false A B = B := by simp [ways]

theorem wp_if (c : Operand) (a b : Code) (σ : St) (Q : AEx → St → Prop) : wp E f n (.cond c a b) σ Q = boolP (evalO σ.t c) fun x => ways x (wp E f n a σ Q) (wp E f n b σ Q) := by
  unfold wp boolP ways
  rw [aexec_cond]
  cases evalO σ.t c with
  | v x =>
    cases x with
    | bool x => cases x <;> simp
    | _ => rfl
  | _ => rfl

/-- What the guard's temporary holds. -/
def guardV (ops : Array Oper) (j : Nat) (t : Nat → TV) : TV := match (ops[j]?).bind (·.dst) with
  | some d => t d
  | none => .undef

theorem guardV_list (l : List Oper) (j : Nat) (t : Nat → TV) : guardV l.toArray j t = match (l[j]?).bind (·.dst) with | some d => t d | none => .undef := by
  unfold guardV; simp

theorem wantedA_of (ops : Array Oper) (j : Nat) (want : Bool) (d : Option Nat) (op : Op) (ty : TypeId) (pos : String) (after : Array Edge) (t : Nat → TV) :
    wantedA ops t ⟨d, op, ty, pos, after, some (j, want)⟩ = match guardV ops j t with | .v (.bool b) => some (b == want) | .no => some false | _ => none := by
  simp only [wantedA, guardV]
  cases (ops[j]?).bind (·.dst) <;> rfl

/-- The guard that one knows. -/
theorem wops_want (ops : Array Oper) (j : Nat) (want : Bool) (d : Nat) (op : Op) (ty : TypeId) (pos : String) (after : Array Edge) (l : List Oper) (t : Nat → TV) (L : Nat → Option (Nat × List AV)) (H : List HObj) (Q : St → Prop)
    (hg : guardV ops j t = .v (.bool want)) :
    wops E f n ops (⟨some d, op, ty, pos, after, some (j, want)⟩ :: l) ⟨t, L, H⟩ Q =
      (optK (aopC E.P (E.md f) (acall E) ⟨some d, op, ty, pos, after, some (j, want)⟩ (evalO t) ⟨t, L, H⟩) fun u => d < n ∧ wops E f n ops l ⟨upd t d (u.val.getD .undef), u.L, u.H⟩ Q) := by
  have hw : wantedA ops t ⟨some d, op, ty, pos, after, some (j, want)⟩ = some true := by rw [wantedA_of, hg]; simp
  unfold wops
  simp only [runOps, stepOp, hw]
  cases aopC E.P (E.md f) (acall E) ⟨some d, op, ty, pos, after, some (j, want)⟩ (evalO t) ⟨t, L, H⟩ with
  | none => rfl
  | some u =>
    by_cases hd : d < n
    · simp [putD, hd]
    · simp [putD, hd]

theorem wops_not {ops : Array Oper} {j : Nat} {want : Bool} {d : Nat} {op : Op} {ty : TypeId} {pos : String} {after : Array Edge} {l : List Oper} {t : Nat → TV} {L : Nat → Option (Nat × List AV)} {H : List HObj} {Q : St → Prop}
    (hw : wantedA ops t ⟨some d, op, ty, pos, after, some (j, want)⟩ = some false) :
    wops E f n ops (⟨some d, op, ty, pos, after, some (j, want)⟩ :: l) ⟨t, L, H⟩ Q = (d < n ∧ wops E f n ops l ⟨upd t d .no, L, H⟩ Q) := by
  unfold wops
  simp only [runOps, stepOp, hw]
  by_cases hd : d < n
  · simp [hd]
  · simp [hd]

theorem wops_unwant (ops : Array Oper) (j : Nat) (want : Bool) (d : Nat) (op : Op) (ty : TypeId) (pos : String) (after : Array Edge) (l : List Oper) (t : Nat → TV) (L : Nat → Option (Nat × List AV)) (H : List HObj) (Q : St → Prop)
    (hg : guardV ops j t = .v (.bool !want)) :
    wops E f n ops (⟨some d, op, ty, pos, after, some (j, want)⟩ :: l) ⟨t, L, H⟩ Q = (d < n ∧ wops E f n ops l ⟨upd t d .no, L, H⟩ Q) :=
  wops_not (by rw [wantedA_of, hg]; cases want <;> rfl)

theorem wops_no (ops : Array Oper) (j : Nat) (want : Bool) (d : Nat) (op : Op) (ty : TypeId) (pos : String) (after : Array Edge) (l : List Oper) (t : Nat → TV) (L : Nat → Option (Nat × List AV)) (H : List HObj) (Q : St → Prop)
    (hg : guardV ops j t = .no) :
    wops E f n ops (⟨some d, op, ty, pos, after, some (j, want)⟩ :: l) ⟨t, L, H⟩ Q = (d < n ∧ wops E f n ops l ⟨upd t d .no, L, H⟩ Q) :=
  wops_not (by rw [wantedA_of, hg])

/-! ### The same, with nothing to go into where one stands still -/
def wpK (E : Env) (f : FuncId) (n : Nat) (b : Code) (Q : AEx → St → Prop) : St → Prop := fun σ => wp E f n b σ Q
theorem wpK_eq (b : Code) (Q : AEx → St → Prop) (t : Nat → TV) (L : Nat → Option (Nat × List AV)) (H : List HObj) : wpK E f n b Q ⟨t, L, H⟩ = wp E f n b ⟨t, L, H⟩ Q := rfl
theorem wp_seqK (a b : Code) (σ : St) (Q : AEx → St → Prop) : wp E f n (.seq a b) σ Q = wp E f n a σ (andThen Q (wpK E f n b Q)) := wp_seq a b σ Q

def condK (E : Env) (f : FuncId) (n : Nat) (a b : Code) (σ : St) (Q : AEx → St → Prop) : TV → Prop
  | .v (.bool true) => wp E f n a σ Q
  | .v (.bool false) => wp E f n b σ Q
  | _ => False
theorem condK_true (a b : Code) (σ : St) (Q : AEx → St → Prop) : condK E f n a b σ Q (.v (.bool true)) = wp E f n a σ Q := rfl
theorem condK_false (a b : Code) (σ : St) (Q : AEx → St → Prop) : condK E f n a b σ Q (.v (.bool false)) = wp E f n b σ Q := rfl
theorem wp_condK (c : Operand) (a b : Code) (σ : St) (Q : AEx → St → Prop) : wp E f n (.cond c a b) σ Q = condK E f n a b σ Q (evalO σ.t c) := by
  rw [wp_if]
  unfold boolP condK ways
  cases evalO σ.t c with
  | v x =>
    cases x with
    | bool x => cases x <;> simp
    | _ => rfl
  | _ => rfl

def putK (E : Env) (f : FuncId) (n : Nat) (ops : Array Oper) (d : Nat) (l : List Oper) (t : Nat → TV) (Q : St → Prop) : Out → Prop := fun u => d < n ∧ wops E f n ops l ⟨upd t d (u.val.getD .undef), u.L, u.H⟩ Q
theorem putK_eq (ops : Array Oper) (d : Nat) (l : List Oper) (t : Nat → TV) (Q : St → Prop) (v : Option TV) (L : Nat → Option (Nat × List AV)) (H : List HObj) (acc : Acc) : putK E f n ops d l t Q ⟨v, L, H, acc⟩ = (d < n ∧ wops E f n ops l ⟨upd t d (v.getD .undef), L, H⟩ Q) := rfl
def doK (E : Env) (f : FuncId) (n : Nat) (ops : Array Oper) (l : List Oper) (t : Nat → TV) (Q : St → Prop) : Out → Prop := fun u => wops E f n ops l ⟨t, u.L, u.H⟩ Q
theorem doK_eq (ops : Array Oper) (l : List Oper) (t : Nat → TV) (Q : St → Prop) (v : Option TV) (L : Nat → Option (Nat × List AV)) (H : List HObj) (acc : Acc) : doK E f n ops l t Q ⟨v, L, H, acc⟩ = wops E f n ops l ⟨t, L, H⟩ Q := rfl
theorem wops_putK (ops : Array Oper) (d : Nat) (op : Op) (ty : TypeId) (pos : String) (after : Array Edge) (l : List Oper) (t : Nat → TV) (L : Nat → Option (Nat × List AV)) (H : List HObj) (Q : St → Prop) :
    wops E f n ops (⟨some d, op, ty, pos, after, none⟩ :: l) ⟨t, L, H⟩ Q = optK (aopC E.P (E.md f) (acall E) ⟨some d, op, ty, pos, after, none⟩ (evalO t) ⟨t, L, H⟩) (putK E f n ops d l t Q) := wops_put ops d op ty pos after l t L H Q
theorem wops_doK (ops : Array Oper) (op : Op) (ty : TypeId) (pos : String) (after : Array Edge) (l : List Oper) (t : Nat → TV) (L : Nat → Option (Nat × List AV)) (H : List HObj) (Q : St → Prop) :
    wops E f n ops (⟨none, op, ty, pos, after, none⟩ :: l) ⟨t, L, H⟩ Q = optK (aopC E.P (E.md f) (acall E) ⟨none, op, ty, pos, after, none⟩ (evalO t) ⟨t, L, H⟩) (doK E f n ops l t Q) := wops_do ops op ty pos after l t L H Q

def gdK (E : Env) (f : FuncId) (n : Nat) (ops : Array Oper) (o : Oper) (d : Nat) (l : List Oper) (t : Nat → TV) (L : Nat → Option (Nat × List AV)) (H : List HObj) (Q : St → Prop) : Bool → TV → Prop
  | true, .v (.bool true) => optK (aopC E.P (E.md f) (acall E) o (evalO t) ⟨t, L, H⟩) (putK E f n ops d l t Q)
  | false, .v (.bool false) => optK (aopC E.P (E.md f) (acall E) o (evalO t) ⟨t, L, H⟩) (putK E f n ops d l t Q)
  | true, .v (.bool false) => d < n ∧ wops E f n ops l ⟨upd t d .no, L, H⟩ Q
  | false, .v (.bool true) => d < n ∧ wops E f n ops l ⟨upd t d .no, L, H⟩ Q
  | _, .no => d < n ∧ wops E f n ops l ⟨upd t d .no, L, H⟩ Q
  | _, _ => False
section
variable (ops : Array Oper) (o : Oper) (d : Nat) (l : List Oper) (t : Nat → TV) (L : Nat → Option (Nat × List AV)) (H : List HObj) (Q : St → Prop)
theorem gdK_tt : gdK E f n ops o d l t L H Q true (.v (.bool true)) = optK (aopC E.P (E.md f) (acall E) o (evalO t) ⟨t, L, H⟩) (putK E f n ops d l t Q) := rfl
theorem gdK_ff : gdK E f n ops o d l t L H Q false (.v (.bool false)) = optK (aopC E.P (E.md f) (acall E) o (evalO t) ⟨t, L, H⟩) (putK E f n ops d l t Q) := rfl
theorem gdK_tf : gdK E f n ops o d l t L H Q true (.v (.bool false)) = (d < n ∧ wops E f n ops l ⟨upd t d .no, L, H⟩ Q) := rfl
theorem gdK_ft : gdK E f n ops o d l t L H Q false (.v (.bool true)) = (d < n ∧ wops E f n ops l ⟨upd t d .no, L, H⟩ Q) := rfl
theorem gdK_no (w : Bool) : gdK E f n ops o d l t L H Q w .no = (d < n ∧ wops E f n ops l ⟨upd t d .no, L, H⟩ Q) := by cases w <;> rfl
end
theorem wops_gdK (ops : Array Oper) (j : Nat) (want : Bool) (d : Nat) (op : Op) (ty : TypeId) (pos : String) (after : Array Edge) (l : List Oper) (t : Nat → TV) (L : Nat → Option (Nat × List AV)) (H : List HObj) (Q : St → Prop) :
    wops E f n ops (⟨some d, op, ty, pos, after, some (j, want)⟩ :: l) ⟨t, L, H⟩ Q = gdK E f n ops ⟨some d, op, ty, pos, after, some (j, want)⟩ d l t L H Q want (guardV ops j t) := by
  cases hg : guardV ops j t with
  | no => rw [wops_no _ _ _ _ _ _ _ _ _ _ _ _ _ hg, gdK_no]
  | v a =>
    cases a with
    | bool b =>
      cases want <;> cases b
      · exact wops_want _ _ _ _ _ _ _ _ _ _ _ _ _ hg
      · exact wops_unwant _ _ _ _ _ _ _ _ _ _ _ _ _ hg
      · exact wops_unwant _ _ _ _ _ _ _ _ _ _ _ _ _ hg
      · exact wops_want _ _ _ _ _ _ _ _ _ _ _ _ _ hg
    | _ =>
      unfold wops
      simp only [runOps, stepOp, wantedA_of, hg, optK_none]
      cases want <;> rfl
  | _ =>
    unfold wops
    simp only [runOps, stepOp, wantedA_of, hg, optK_none]
    cases want <;> rfl

theorem wp_then (c : Operand) (a b : Code) (σ : St) (Q : AEx → St → Prop) (h : evalO σ.t c = .v (.bool true)) : wp E f n (.cond c a b) σ Q = wp E f n a σ Q := by
  rw [wp_if, h, boolP_bool, ways_true]
theorem wp_else (c : Operand) (a b : Code) (σ : St) (Q : AEx → St → Prop) (h : evalO σ.t c = .v (.bool false)) : wp E f n (.cond c a b) σ Q = wp E f n b σ Q := by
  rw [wp_if, h, boolP_bool, ways_false]

/-- What a body's end gives, as a condition. -/
def endQ (E : Env) (f : FuncId) (fn : Func) (len : Nat) (R : AV → List HObj → Prop) : AEx → St → Prop
  | .exit _, _ => False
  | _, σ => optK (aresults E.P σ fn.results.toList) fun rs => optK (finish (E.keep f) len (oneOf rs) σ.H) fun r => R r.1 r.2

theorem endQ_normal (fn : Func) (len : Nat) (R : AV → List HObj → Prop) (σ : St) : endQ E f fn len R .normal σ = optK (aresults E.P σ fn.results.toList) fun rs => optK (finish (E.keep f) len (oneOf rs) σ.H) fun r => R r.1 r.2 := rfl
theorem endQ_ret (fn : Func) (len : Nat) (R : AV → List HObj → Prop) (σ : St) : endQ E f fn len R .ret σ = optK (aresults E.P σ fn.results.toList) fun rs => optK (finish (E.keep f) len (oneOf rs) σ.H) fun r => R r.1 r.2 := rfl

theorem acall_wp {fn : Func} {c : Code} {args : List AV} {H : List HObj} {R : AV → List HObj → Prop} (hx : E.ext f = none) (hf : E.P.funcs[f]? = some fn) (hb : fn.body = some c) (hn : (fn.name != "runtime.NumGoroutine") = true) (ha : args.length ≤ fn.ntmps)
    (h : wp E f fn.ntmps c ⟨initT args, fun _ => none, H⟩ (endQ E f fn H.length R)) : optK (acall E f args H) fun r => R r.1 r.2 := by
  rw [acall_eq hx hf hb hn args ha H]
  unfold wp at h
  cases hr : aexec E f fn.ntmps c ⟨initT args, fun _ => none, H⟩ with
  | none => rw [hr] at h; exact h.elim
  | some r =>
    rw [hr] at h
    obtain ⟨e, σ⟩ := r
    cases e with
    | exit i => exact h.elim
    | normal =>
      simp only [optK_some, endQ_normal] at h
      simp only [endOf]
      cases ha : aresults E.P σ fn.results.toList with
      | none => rw [ha] at h; exact h.elim
      | some rs => rw [ha] at h; exact h
    | ret =>
      simp only [optK_some, endQ_ret] at h
      simp only [endOf]
      cases ha : aresults E.P σ fn.results.toList with
      | none => rw [ha] at h; exact h.elim
      | some rs => rw [ha] at h; exact h

theorem optK_ex {α β : Type} {o : Option (α × β)} {R : α → β → Prop} (h : optK o fun r => R r.1 r.2) : ∃ a b, o = some (a, b) ∧ R a b := by
  cases o with
  | none => exact h.elim
  | some r => exact ⟨r.1, r.2, rfl, h⟩

/-- What a call gives, told in full. -/
theorem acall_is {fn : Func} {c : Code} {args : List AV} {H H' : List HObj} {a : AV} (hx : E.ext f = none) (hf : E.P.funcs[f]? = some fn) (hb : fn.body = some c) (hn : (fn.name != "runtime.NumGoroutine") = true) (ha : args.length ≤ fn.ntmps)
    (h : wp E f fn.ntmps c ⟨initT args, fun _ => none, H⟩ (endQ E f fn H.length fun x y => x = a ∧ y = H')) : acall E f args H = some (a, H') := by
  obtain ⟨x, y, h1, h2, h3⟩ := optK_ex (acall_wp hx hf hb hn ha h)
  rw [h1, h2, h3]

/-- What a call gives, told in part. -/
theorem acall_ex {fn : Func} {c : Code} {args : List AV} {H : List HObj} {R : AV → List HObj → Prop} (hx : E.ext f = none) (hf : E.P.funcs[f]? = some fn) (hb : fn.body = some c) (hn : (fn.name != "runtime.NumGoroutine") = true) (ha : args.length ≤ fn.ntmps)
    (h : wp E f fn.ntmps c ⟨initT args, fun _ => none, H⟩ (endQ E f fn H.length R)) : ∃ a H', acall E f args H = some (a, H') ∧ R a H' := optK_ex (acall_wp hx hf hb hn ha h)
end

end Go.Proofs.Ytnjaagfhaooapaa.Eng
