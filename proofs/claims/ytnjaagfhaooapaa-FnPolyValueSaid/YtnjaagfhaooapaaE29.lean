/- ENGINE 29: the rules of evaluation. -/
import Derived.Test.YtnjaagfhaooapaaE28
namespace Go.Proofs.Ytnjaagfhaooapaa.Eng
set_option linter.unusedVariables false
set_option linter.unusedSimpArgs false
set_option linter.unnecessarySimpa false
set_option linter.constructorNameAsVariable false
open Go

attribute [go_sem] optK_some optK_none andThen_normal andThen_ret andThen_exit outOf_normal outOf_ret outOf_exit wp_skip wp_ret wp_exit wp_seqK wpK_eq wp_region wp_block wops_nil wops_putK putK_eq wops_doK doK_eq wops_gdK gdK_tt gdK_ff gdK_tf gdK_ft gdK_no wp_condK condK_true condK_false guardV_list Option.bind_some Option.bind_none decide_true decide_false endQ_normal endQ_ret upd_same

section
variable {E : Env} {f : FuncId} {n : Nat}
@[go_sem] theorem iteT {α : Type} {p : Prop} {i : Decidable p} (h : p) (a b : α) : @ite α p i a b = a := if_pos h
@[go_sem] theorem iteF {α : Type} {p : Prop} {i : Decidable p} (h : ¬p) (a b : α) : @ite α p i a b = b := if_neg h

@[go_sem] theorem upd_at {α : Type} (t : Nat → α) (d j : Nat) (x : α) : upd t d x j = if j = d then x else t j := rfl

@[go_sem] theorem evalO_tmp (t : Nat → TV) (j : Nat) : evalO t (.tmp j) = t j := rfl
@[go_sem] theorem evalO_int (t : Nat → TV) (k : IntKind) (m : Int) : evalO t (.const (.int k m)) = .v (.int k m) := rfl
@[go_sem] theorem evalO_bool (t : Nat → TV) (b : Bool) : evalO t (.const (.bool b)) = .v (.bool b) := rfl
@[go_sem] theorem evalO_str (t : Nat → TV) (b : ByteArray) : evalO t (.const (.string b)) = .v (.str b.data.toList) := rfl
@[go_sem] theorem evalO_nilp (t : Nat → TV) : evalO t (.const (.pointer none)) = .v .nilp := rfl
@[go_sem] theorem evalO_nils (t : Nat → TV) : evalO t (.const (.slice none 0 0)) = .v (.slice [] .full) := rfl
@[go_sem] theorem evalO_func (t : Nat → TV) (g : FuncId) : evalO t (.func g) = .v (.func g []) := rfl

variable (P : Program) (md : Nat → Mode) (call : CallF) (dst : Option Nat) (ty : TypeId) (pos : String) (after : Array Edge) (g : Option (Nat × Bool)) (ρ : Operand → TV) (σ : St)

@[go_sem] theorem op_move (x : Operand) : aopC P md call ⟨dst, .move x, ty, pos, after, g⟩ ρ σ = some ⟨some (ρ x), σ.L, σ.H, .pure⟩ := rfl
@[go_sem] theorem op_assign (x : Operand) : aopC P md call ⟨dst, .assign x, ty, pos, after, g⟩ ρ σ = some ⟨some (ρ x), σ.L, σ.H, .pure⟩ := rfl

/-- A bool, and then. -/
def boolK {α : Type} (x : TV) (k : Bool → Option α) : Option α := match x with
  | .v (.bool b) => k b
  | _ => none
@[go_sem] theorem boolK_bool {α : Type} (b : Bool) (k : Bool → Option α) : boolK (.v (.bool b)) k = k b := rfl
@[congr] theorem boolK_congr {α : Type} {x y : TV} {k : Bool → Option α} (h : x = y) : boolK x k = boolK y k := by rw [h]

def avK {α : Type} (x : TV) (k : AV → Option α) : Option α := match x with
  | .v a => k a
  | _ => none
@[go_sem] theorem avK_v {α : Type} (a : AV) (k : AV → Option α) : avK (.v a) k = k a := rfl
@[congr] theorem avK_congr {α : Type} {x y : TV} {k : AV → Option α} (h : x = y) : avK x k = avK y k := by rw [h]

def intK {α : Type} (x : TV) (k : Int → Option α) : Option α := match x with
  | .v (.int _ n) => k n
  | _ => none
@[go_sem] theorem intK_int {α : Type} (c : IntKind) (m : Int) (k : Int → Option α) : intK (.v (.int c m)) k = k m := rfl
@[congr] theorem intK_congr {α : Type} {x y : TV} {k : Int → Option α} (h : x = y) : intK x k = intK y k := by rw [h]

def bindK {α β : Type} (x : Option α) (k : α → Option β) : Option β := match x with
  | some a => k a
  | none => none
@[go_sem] theorem bindK_some {α β : Type} (a : α) (k : α → Option β) : bindK (some a) k = k a := rfl
@[congr] theorem bindK_congr {α β : Type} {x y : Option α} {k : α → Option β} (h : x = y) : bindK x k = bindK y k := by rw [h]

def outV (σ : St) (a : AV) : Option Out := some ⟨some (.v a), σ.L, σ.H, .pure⟩
@[go_sem] theorem outV_eq (L : Nat → Option (Nat × List AV)) (t : Nat → TV) (H : List HObj) (a : AV) : outV ⟨t, L, H⟩ a = some ⟨some (.v a), L, H, .pure⟩ := rfl

@[go_sem] theorem op_pick (c a b : Operand) : aopC P md call ⟨dst, .pick c a b, ty, pos, after, g⟩ ρ σ = boolK (ρ c) fun t => some ⟨some (if t then ρ a else ρ b), σ.L, σ.H, .pure⟩ := by
  simp only [aopC, acallee, aop, boolK]
  split <;> simp_all [value]

@[go_sem] theorem op_binOp (op : BinOp) (T ty' : TypeId) (x y : Operand) : aopC P md call ⟨dst, .binOp op T x y ty', ty, pos, after, g⟩ ρ σ = avK (ρ x) fun a => avK (ρ y) fun b => bindK (abin P op T a b) (outV σ) := by
  simp only [aopC, acallee, aop, avK]
  cases ρ x <;> cases ρ y <;> simp [value, bindK]
  rename_i a b
  cases abin P op T a b <;> rfl

@[go_sem] theorem op_unOp (op : UnOp) (T : TypeId) (x : Operand) : aopC P md call ⟨dst, .unOp op T x, ty, pos, after, g⟩ ρ σ = avK (ρ x) fun a => bindK (aun op a) (outV σ) := by
  simp only [aopC, acallee, aop, avK]
  cases ρ x <;> simp [value, bindK]
  rename_i a
  cases aun op a <;> rfl

@[go_sem] theorem op_convert (S D : TypeId) (x : Operand) : aopC P md call ⟨dst, .convert S D x, ty, pos, after, g⟩ ρ σ = avK (ρ x) fun a => bindK (aconvert P S D a) (outV σ) := by
  simp only [aopC, acallee, aop, avK]
  cases ρ x <;> simp [value, bindK]
  rename_i a
  cases aconvert P S D a <;> rfl

@[go_sem] theorem op_alloc (T : TypeId) : aopC P md call ⟨dst, .alloc T, ty, pos, after, g⟩ ρ σ = bindK (tinfo P T) fun ti => newBox ((dst.map md).getD .dflt) dst σ (ti.zero.map ofV) .loc := by
  simp only [aopC, acallee, aop, bindK]
  cases tinfo P T <;> rfl

@[go_sem] theorem op_box (T : TypeId) (x : Operand) : aopC P md call ⟨dst, .box T x, ty, pos, after, g⟩ ρ σ = avK (ρ x) fun a => newBox ((dst.map md).getD .dflt) dst σ a.cells .dflt := by
  simp only [aopC, acallee, aop, avK]
  cases ρ x <;> rfl

@[go_sem] theorem op_load (T : TypeId) (a : Operand) : aopC P md call ⟨dst, .load T a, ty, pos, after, g⟩ ρ σ = bindK (tinfo P T) fun ti => aload σ ti (ρ a) := by
  simp only [aopC, acallee, aop, bindK]
  cases tinfo P T <;> rfl

@[go_sem] theorem op_store (T : TypeId) (a x : Operand) : aopC P md call ⟨dst, .store T a x, ty, pos, after, g⟩ ρ σ = bindK (tinfo P T) fun ti => avK (ρ x) fun c => astore σ ti c (ρ a) := by
  simp only [aopC, acallee, aop, bindK, avK]
  cases tinfo P T <;> cases ρ x <;> rfl

def nilK (σ : St) (x : TV) : Option Out := match x with
  | .v (.ptr cs o tag) => value σ (.v (.ptr cs o tag))
  | .v (.ref id o) => value σ (.v (.ref id o))
  | .loc s v o => value σ (.loc s v o)
  | .vat id n o => value σ (.vat id n o)
  | .v (.func f cap) => value σ (.v (.func f cap))
  | _ => none

@[go_sem] theorem op_nilCheck (x : Operand) : aopC P md call ⟨dst, .nilCheck x, ty, pos, after, g⟩ ρ σ = nilK σ (ρ x) := rfl
@[go_sem] theorem nilK_ptr (cs : List AV) (o : Nat) (tag : Option Nat) : nilK σ (.v (.ptr cs o tag)) = value σ (.v (.ptr cs o tag)) := rfl
@[go_sem] theorem nilK_ref (id o : Nat) : nilK σ (.v (.ref id o)) = value σ (.v (.ref id o)) := rfl
@[go_sem] theorem nilK_loc (s v o : Nat) : nilK σ (.loc s v o) = value σ (.loc s v o) := rfl
@[go_sem] theorem nilK_vat (s v o : Nat) : nilK σ (.vat s v o) = value σ (.vat s v o) := rfl
@[go_sem] theorem nilK_func (f : FuncId) (c : List AV) : nilK σ (.v (.func f c)) = value σ (.v (.func f c)) := rfl
@[go_sem] theorem value_eq (t : Nat → TV) (L : Nat → Option (Nat × List AV)) (H : List HObj) (x : TV) : value ⟨t, L, H⟩ x = some ⟨some x, L, H, .pure⟩ := rfl

@[go_sem] theorem op_fieldAddr (T : TypeId) (x : Operand) (i : Nat) : aopC P md call ⟨dst, .fieldAddr T x i, ty, pos, after, g⟩ ρ σ = bindK (partAtT P T i) fun p => if p.2 = 0 then none else bindK (addOff p.1 (ρ x)) (value σ) := by
  simp only [aopC, acallee, aop, bindK]
  cases partAtT P T i with
  | none => rfl
  | some p =>
    obtain ⟨off, sz⟩ := p
    simp only
    split <;> try rfl
    cases addOff off (ρ x) <;> rfl

/-- The type of a field's value. -/
def fieldT (P : Program) (T : TypeId) (i : Nat) : Option TI := match P.underlying T with
  | some (.struct fs) => (fs[i]?).bind fun g => tinfo P g.type
  | _ => none

@[go_sem] theorem op_field (T : TypeId) (x : Operand) (i : Nat) : aopC P md call ⟨dst, .field T x i, ty, pos, after, g⟩ ρ σ = bindK (partAtT P T i) fun p => avK (ρ x) fun a => bindK (fieldT P T i) fun ti => match a with
    | .agg cs => bindK (readCells ti.agg ti.size cs p.1) (outV σ)
    | _ => none := by
  change (match partAtT P T i, ρ x, fieldT P T i with
    | some (off, _), .v (.agg cs), some ti => (readCells ti.agg ti.size cs off).bind fun r => value σ (.v r)
    | _, _, _ => none) = _
  generalize fieldT P T i = q
  cases partAtT P T i with
  | none => rfl
  | some p =>
    obtain ⟨off, sz⟩ := p
    cases ρ x with
    | v a =>
      cases a with
      | agg cs =>
        cases q with
        | none => rfl
        | some ti =>
          simp only [bindK, avK]
          cases readCells ti.agg ti.size cs off <;> rfl
      | _ => cases q <;> rfl
    | _ => rfl

@[go_sem] theorem op_indexAddr (T : TypeId) (x i : Operand) : aopC P md call ⟨dst, .indexAddr T x i, ty, pos, after, g⟩ ρ σ = intK (ρ i) fun m => aindexAddr P σ T (ρ x) m := by
  simp only [aopC, acallee, aop, intK]
  cases ρ i with
  | v a => cases a <;> rfl
  | _ => rfl

@[go_sem] theorem op_extract (x : Operand) (i : Nat) : aopC P md call ⟨dst, .extract x i, ty, pos, after, g⟩ ρ σ = avK (ρ x) fun a => match a with
    | .tuple vs => bindK (vs[i]?) (outV σ)
    | _ => none := by
  simp only [aopC, acallee, aop, avK, bindK]
  cases ρ x with
  | v a =>
    cases a <;> try rfl
    rename_i vs
    simp only
    cases vs[i]? <;> rfl
  | _ => rfl

@[go_sem] theorem op_slice (T : TypeId) (x : Operand) (lo hi : Option Operand) : aopC P md call ⟨dst, .slice T x lo hi none, ty, pos, after, g⟩ ρ σ = aslice P ρ σ T (ρ x) lo hi := rfl

/-- The index of a string, of an array. -/
def aindex (P : Program) (σ : St) (T : TypeId) (a : AV) (m : Int) : Option Out := match a with
  | .str l => if isStrT P T then bindK (if 0 ≤ m then l[m.toNat]? else none) fun b => value σ (.v (.int .u8 b.toNat)) else none
  | .agg cs => bindK (arrT P T) fun q => bindK (tinfo P q.2) fun ti => if 0 ≤ m ∧ m < q.1 then bindK (readCells ti.agg ti.size cs (m.toNat * ti.size)) (outV σ) else none
  | _ => none

@[go_sem] theorem op_index (T : TypeId) (x i : Operand) : aopC P md call ⟨dst, .index T x i, ty, pos, after, g⟩ ρ σ = avK (ρ x) fun a => intK (ρ i) fun m => aindex P σ T a m := by
  simp only [aopC, acallee, aop, avK, intK, aindex]
  cases ρ x with
  | v a =>
    cases a <;> cases hi : ρ i <;> try rfl
    all_goals (rename_i b; cases b <;> try rfl)
    · simp only [bindK]
      split
      · split <;> simp_all
      · rfl
    · simp only [bindK]
      cases arrT P T with
      | none => rfl
      | some q =>
        obtain ⟨m', e⟩ := q
        simp only
        cases tinfo P e with
        | none => rfl
        | some ti =>
          simp only
          split
          · rename_i cs k m h
            cases readCells ti.agg ti.size cs (m.toNat * ti.size) <;> rfl
          · rfl
  | _ => rfl

/-- The structs and the arrays. -/
def abuild (P : Program) (T : TypeId) (ps : List (Nat × AV)) : Option AV :=
  bindK (tinfo P T) fun ti => match arrT P T with
    | some (_, e) => bindK (tinfo P e) fun ei => bindK (fillA (fun i => some (i * ei.size, ei.size)) (ti.zero.map ofV) ps) fun cs => some (.agg cs)
    | none => if isStructT P T then bindK (fillA (partAtT P T) (ti.zero.map ofV) ps) fun cs => some (.agg cs) else none

@[go_sem] theorem op_build (T : TypeId) (parts : Array (Nat × Operand)) : aopC P md call ⟨dst, .build T parts, ty, pos, after, g⟩ ρ σ = bindK (partsV ρ parts.toList) fun ps => bindK (abuild P T ps) (outV σ) := by
  simp only [aopC, acallee, aop, bindK, abuild]
  cases hp : partsV ρ parts.toList with
  | none =>
    cases tinfo P T <;> rfl
  | some ps =>
    cases tinfo P T with
    | none => rfl
    | some ti =>
      simp only
      cases arrT P T with
      | some q =>
        obtain ⟨m, e⟩ := q
        simp only
        cases tinfo P e with
        | none => rfl
        | some ei =>
          simp only
          cases fillA (fun i => some (i * ei.size, ei.size)) (List.map ofV ti.zero) ps <;> rfl
      | none =>
        simp only
        split
        · cases fillA (partAtT P T) (List.map ofV ti.zero) ps <;> rfl
        · rfl

@[go_sem] theorem op_buildSlice (T : TypeId) (m : Nat) (parts : Array (Nat × Operand)) : aopC P md call ⟨dst, .buildSlice T m parts, ty, pos, after, g⟩ ρ σ =
    bindK (sliceT P T) fun e => bindK (tinfo P e) fun ei => bindK (partsV ρ parts.toList) fun ps => if inParts ps m ei.size ∧ m * ei.size ≤ 16777216 then some (newSlice ((dst.map md).getD .dflt) σ (ps.map (·.2)) ei.size .full) else none := by
  simp only [aopC, acallee, aop, bindK]
  cases sliceT P T with
  | none => rfl
  | some e =>
    simp only
    cases tinfo P e <;> cases partsV ρ parts.toList <;> rfl

@[go_sem] theorem op_makeSlice (T : TypeId) (x c : Operand) : aopC P md call ⟨dst, .makeSlice T x c, ty, pos, after, g⟩ ρ σ =
    bindK (sliceT P T) fun e => intK (ρ x) fun a => intK (ρ c) fun b => bindK (tinfo P e) fun ti => if 0 ≤ a ∧ a ≤ lim ∧ b = a ∧ ti.bytes ≤ 128 ∧ ti.size ≠ 0 ∧ (ti.agg = true ∨ ti.size = 1) then
          some (newSlice ((dst.map md).getD .dflt) σ (List.replicate a.toNat (if ti.agg then .agg (ti.zero.map ofV) else (ti.zero.map ofV).headD .any)) ti.size .full) else none := by
  simp only [aopC, acallee, aop, bindK, intK]
  cases sliceT P T with
  | none => rfl
  | some e =>
    simp only
    cases ρ x with
    | v a =>
      cases a <;> try rfl
      cases ρ c with
      | v b =>
        cases b <;> try rfl
        simp only
        cases tinfo P e <;> rfl
      | _ => rfl
    | _ => rfl

def alen (P : Program) (σ : St) (T : Option TypeId) : List TV → Option Out
  | [.v (.str l)] => bindK T fun T => if isStrT P T then value σ (.v (.int .i64 l.length)) else none
  | [.v (.slice es _)] => bindK T fun T => if (sliceT P T).isSome then value σ (.v (.int .i64 es.length)) else none
  | [.v (.vec _ m)] => bindK T fun T => if (sliceT P T).isSome then value σ (.v (.int .i64 m)) else none
  | _ => none

@[go_sem] theorem op_len (args : Array Operand) (tys : Array TypeId) : aopC P md call ⟨dst, .call ⟨.builtin .len, args, tys⟩, ty, pos, after, g⟩ ρ σ = alen P σ (tys[0]?) (args.toList.map ρ) := by
  simp only [aopC, acallee, aop]
  generalize args.toList.map ρ = l
  generalize tys[0]? = q
  rcases l with _ | ⟨x, _ | ⟨y, l⟩⟩
  · rfl
  · cases x with
    | v a => cases a <;> cases q <;> rfl
    | _ => cases q <;> rfl
  · cases x with
    | v a => cases a <;> cases q <;> rfl
    | _ => cases q <;> rfl

def amm (P : Program) (σ : St) (mx : Bool) : List TV → Option Out
  | [.v a, .v b] => bindK (amin2 mx a b) (outV σ)
  | _ => none

@[go_sem] theorem op_min (args : Array Operand) (tys : Array TypeId) : aopC P md call ⟨dst, .call ⟨.builtin .min, args, tys⟩, ty, pos, after, g⟩ ρ σ = amm P σ false (args.toList.map ρ) := by
  simp only [aopC, acallee, aop]
  generalize args.toList.map ρ = l
  rcases l with _ | ⟨x, _ | ⟨y, _ | ⟨z, l⟩⟩⟩
  · rfl
  · cases x <;> rfl
  · cases x with
    | v a => cases y with
      | v b =>
        simp only [amm, bindK]
        cases amin2 false a b <;> rfl
      | _ => rfl
    | _ => cases y <;> rfl
  · cases x <;> cases y <;> rfl

@[go_sem] theorem op_max (args : Array Operand) (tys : Array TypeId) : aopC P md call ⟨dst, .call ⟨.builtin .max, args, tys⟩, ty, pos, after, g⟩ ρ σ = amm P σ true (args.toList.map ρ) := by
  simp only [aopC, acallee, aop]
  generalize args.toList.map ρ = l
  rcases l with _ | ⟨x, _ | ⟨y, _ | ⟨z, l⟩⟩⟩
  · rfl
  · cases x <;> rfl
  · cases x with
    | v a => cases y with
      | v b =>
        simp only [amm, bindK]
        cases amin2 true a b <;> rfl
      | _ => rfl
    | _ => cases y <;> rfl
  · cases x <;> cases y <;> rfl

def aappK (P : Program) (mode : Mode) (σ : St) (T U : Option TypeId) : List TV → Option Out
  | [.v s, .v x] => bindK T fun T => bindK U fun U => if (sliceT P U).isSome then aappend P mode σ T s x else none
  | _ => none

@[go_sem] theorem op_append (args : Array Operand) (tys : Array TypeId) : aopC P md call ⟨dst, .call ⟨.builtin .append, args, tys⟩, ty, pos, after, g⟩ ρ σ = aappK P ((dst.map md).getD .dflt) σ (tys[0]?) (tys[1]?) (args.toList.map ρ) := by
  simp only [aopC, acallee, aop]
  generalize args.toList.map ρ = l
  generalize tys[0]? = q
  generalize tys[1]? = q'
  rcases l with _ | ⟨x, _ | ⟨y, _ | ⟨z, l⟩⟩⟩
  · rfl
  · cases x <;> rfl
  · cases x <;> cases y <;> cases q <;> cases q' <;> rfl
  · cases x <;> cases y <;> rfl

def acallK (call : CallF) (σ : St) : TV → Option (List AV) → Option Out
  | .v (.func g cap), some as => bindK (call g (as ++ cap) σ.H) fun r => some ⟨some (.v r.1), σ.L, r.2, .gw⟩
  | _, _ => none

@[go_sem] theorem op_call (x : Operand) (args : Array Operand) (tys : Array TypeId) : aopC P md call ⟨dst, .call ⟨.value x, args, tys⟩, ty, pos, after, g⟩ ρ σ = acallK call σ (ρ x) (asVs (args.toList.map ρ)) := by
  simp only [aopC, acallee, acallK, bindK]
  cases hx : ρ x with
  | v a =>
    cases ha : asVs (args.toList.map ρ) with
    | none => cases a <;> rfl
    | some as =>
      cases a with
      | func g cap => simp only; cases call g (as ++ cap) σ.H <;> rfl
      | _ => rfl
  | _ => cases asVs (args.toList.map ρ) <;> rfl

@[go_sem] theorem op_makeFunc (h : FuncId) (cap : Array Operand) : aopC P md call ⟨dst, .makeFunc (.func h) #[] cap, ty, pos, after, g⟩ ρ σ = bindK (asVs (cap.toList.map ρ)) fun c => outV σ (.func h c) := by
  simp only [aopC, acallee, aop, bindK]
  cases asVs (cap.toList.map ρ) <;> rfl
end

end Go.Proofs.Ytnjaagfhaooapaa.Eng
