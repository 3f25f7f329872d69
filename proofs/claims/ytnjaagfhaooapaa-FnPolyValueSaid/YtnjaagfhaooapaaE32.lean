/- ENGINE 32: cases. -/
import Derived.Test.YtnjaagfhaooapaaE31
namespace Go.Proofs.Ytnjaagfhaooapaa.Eng
set_option linter.unusedVariables false
set_option linter.unusedSimpArgs false
set_option linter.unnecessarySimpa false
set_option linter.constructorNameAsVariable false
open Go

section
variable {E : Env} {f : FuncId} {n : Nat}
/-- A guard that one does not know: two cases. -/
theorem wops_case {ops : Array Oper} {j : Nat} {want x : Bool} {d : Nat} {op : Op} {ty : TypeId} {pos : String} {after : Array Edge} {l : List Oper} {σ : St} {Q : St → Prop}
    (hg : guardV ops j σ.t = .v (.bool x)) (h1 : x = true → wops E f n ops (⟨some d, op, ty, pos, after, some (j, want)⟩ :: l) σ Q) (h2 : x = false → wops E f n ops (⟨some d, op, ty, pos, after, some (j, want)⟩ :: l) σ Q) :
    wops E f n ops (⟨some d, op, ty, pos, after, some (j, want)⟩ :: l) σ Q := by
  cases x with
  | true => exact h1 rfl
  | false => exact h2 rfl

theorem wopsR_case {ops : Array Oper} {j : Nat} {want x : Bool} {d : Nat} {op : Op} {ty : TypeId} {pos : String} {after : Array Edge} {l : List Oper} {σ : St} {acc : List Tr} {Q : St → List Tr → Prop}
    (hg : guardV ops j σ.t = .v (.bool x)) (h1 : x = true → wopsR E f n ops (⟨some d, op, ty, pos, after, some (j, want)⟩ :: l) σ acc Q) (h2 : x = false → wopsR E f n ops (⟨some d, op, ty, pos, after, some (j, want)⟩ :: l) σ acc Q) :
    wopsR E f n ops (⟨some d, op, ty, pos, after, some (j, want)⟩ :: l) σ acc Q := by
  cases x with
  | true => exact h1 rfl
  | false => exact h2 rfl

theorem wp_case {c : Operand} {a b : Code} {σ : St} {Q : AEx → St → Prop} {x : Bool} (hg : evalO σ.t c = .v (.bool x)) (h1 : x = true → wp E f n (.cond c a b) σ Q) (h2 : x = false → wp E f n (.cond c a b) σ Q) : wp E f n (.cond c a b) σ Q := by
  cases x with
  | true => exact h1 rfl
  | false => exact h2 rfl
end

/-! ### Results that lie in boxes -/
def resC (σ : St) (ti : TI) : TV → Option AV
  | .loc s v o => locK (σ.L s) v fun cs => readCells ti.agg ti.size cs o
  | .v (.ref id o) => cellsK (σ.H[id]?) fun cs => readCells ti.agg ti.size cs o
  | _ => none
@[go_sem] theorem resC_loc (t : Nat → TV) (L : Nat → Option (Nat × List AV)) (H : List HObj) (ti : TI) (s v o : Nat) : resC ⟨t, L, H⟩ ti (.loc s v o) = locK (L s) v fun cs => readCells ti.agg ti.size cs o := rfl
@[go_sem] theorem resC_ref (t : Nat → TV) (L : Nat → Option (Nat × List AV)) (H : List HObj) (ti : TI) (id o : Nat) : resC ⟨t, L, H⟩ ti (.v (.ref id o)) = cellsK (H[id]?) fun cs => readCells ti.agg ti.size cs o := rfl
@[go_sem] theorem aresult_cell (P : Program) (t : Nat → TV) (L : Nat → Option (Nat × List AV)) (H : List HObj) (a : Nat) (T : TypeId) : aresult P ⟨t, L, H⟩ (.cell a T) = bindK (tinfo P T) fun ti => resC ⟨t, L, H⟩ ti (t a) := by
  simp only [aresult, bindK]
  cases tinfo P T with
  | none => rfl
  | some ti =>
    simp only
    cases t a with
    | loc s v o =>
      simp only [resC, aload, locK]
      cases L s with
      | none => rfl
      | some p =>
        obtain ⟨w, cs⟩ := p
        simp only
        by_cases hw : w = v
        · simp only [hw, if_true]
          cases readCells ti.agg ti.size cs o <;> rfl
        · simp only [hw, if_false]
    | v x =>
      cases x with
      | ref id o =>
        simp only [resC, aload, cellsK]
        cases H[id]? with
        | none => rfl
        | some ob =>
          cases ob with
          | cells cs => simp only; cases readCells ti.agg ti.size cs o <;> rfl
          | _ => rfl
      | _ => rfl
    | _ => rfl

/-! ### More comparisons -/
def isBoolT (P : Program) (T : TypeId) : Bool := match P.underlying T with
  | some .bool => true
  | _ => false
theorem isBoolT_iff {P : Program} {T : TypeId} : isBoolT P T = true ↔ P.underlying T = some .bool := by
  unfold isBoolT
  split
  · rename_i h; simp [h]
  · rename_i h; simp; exact h
@[go_sem] theorem bin_beql (P : Program) (T : TypeId) (a b : Bool) : abin P .eql T (.bool a) (.bool b) = if isBoolT P T = true then some (.bool (decide (a = b))) else none := by
  by_cases h : isBoolT P T = true
  · rw [if_pos h]
    simp only [abin, isBoolT_iff.1 h]
    cases a <;> cases b <;> rfl
  · rw [if_neg h]
    have h' : P.underlying T ≠ some .bool := fun q => h (isBoolT_iff.2 q)
    simp only [abin]
    split <;> simp_all
@[go_sem] theorem bin_bneq (P : Program) (T : TypeId) (a b : Bool) : abin P .neq T (.bool a) (.bool b) = if isBoolT P T = true then some (.bool (!decide (a = b))) else none := by
  by_cases h : isBoolT P T = true
  · rw [if_pos h]
    simp only [abin, isBoolT_iff.1 h]
    cases a <;> cases b <;> rfl
  · rw [if_neg h]
    have h' : P.underlying T ≠ some .bool := fun q => h (isBoolT_iff.2 q)
    simp only [abin]
    split <;> simp_all
section
variable (P : Program) (T : TypeId) (cs : List AV) (o : Nat) (tg : Option Nat) (id : Nat)
@[go_sem] theorem bin_nn (op : BinOp) : abin P op T .nilp .nilp = if isPtrT P T = true then (match op with | .eql => some (.bool true) | .neq => some (.bool false) | _ => none) else none := by cases op <;> rfl
@[go_sem] theorem bin_pn (op : BinOp) : abin P op T (.ptr cs o tg) .nilp = if isPtrT P T = true then (match op with | .eql => some (.bool false) | .neq => some (.bool true) | _ => none) else none := by cases op <;> rfl
@[go_sem] theorem bin_np (op : BinOp) : abin P op T .nilp (.ptr cs o tg) = if isPtrT P T = true then (match op with | .eql => some (.bool false) | .neq => some (.bool true) | _ => none) else none := by cases op <;> rfl
@[go_sem] theorem bin_rn (op : BinOp) : abin P op T (.ref id o) .nilp = if isPtrT P T = true then (match op with | .eql => some (.bool false) | .neq => some (.bool true) | _ => none) else none := by cases op <;> rfl
@[go_sem] theorem bin_nr (op : BinOp) : abin P op T .nilp (.ref id o) = if isPtrT P T = true then (match op with | .eql => some (.bool false) | .neq => some (.bool true) | _ => none) else none := by cases op <;> rfl
@[go_sem] theorem bin_tt (op : BinOp) (cs' : List AV) (i j : Nat) : abin P op T (.ptr cs 0 (some i)) (.ptr cs' 0 (some j)) = if isPtrT P T = true then (match op with | .eql => some (.bool (decide (i = j))) | .neq => some (.bool (!decide (i = j))) | _ => none) else none := by cases op <;> rfl
end
end Go.Proofs.Ytnjaagfhaooapaa.Eng
