/- ENGINE 2: the abstract execution of code, with a count of steps; calls. -/
import Derived.Test.YtnjaagfhaooapaaE1
namespace Go.Proofs.Ytnjaagfhaooapaa.Eng
set_option linter.unusedVariables false
set_option linter.unusedSimpArgs false
set_option linter.unnecessarySimpa false
set_option linter.constructorNameAsVariable false
open Go

abbrev CallF := FuncId → List AV → List HObj → Option (AV × List HObj)

/-- One operation that is no call of a Go function. -/
noncomputable def aop (P : Program) (md : Nat → Mode) (o : Oper) (ρ : Operand → TV) (σ : St) : Option Out :=
  match o.op with
  | .move x | .assign x => value σ (ρ x)
  | .pick c a b =>
    match ρ c with
    | .v (.bool t) => value σ (if t then ρ a else ρ b)
    | _ => none
  | .alloc T =>
    match tinfo P T with
    | some ti => newBox ((o.dst.map md).getD .dflt) o.dst σ (ti.zero.map ofV) .loc
    | none => none
  | .box _ x =>
    match ρ x with
    | .v a => newBox ((o.dst.map md).getD .dflt) o.dst σ a.cells .dflt
    | _ => none
  | .build T parts =>
    match tinfo P T, partsV ρ parts.toList with
    | some ti, some ps =>
      match arrT P T with
      | some (_, e) => match tinfo P e with
        | some ei => (fillA (fun i => some (i * ei.size, ei.size)) (ti.zero.map ofV) ps).bind fun cs => value σ (.v (.agg cs))
        | none => none
      | none => if isStructT P T then (fillA (partAtT P T) (ti.zero.map ofV) ps).bind fun cs => value σ (.v (.agg cs)) else none
    | _, _ => none
  | .buildSlice T n parts =>
    match sliceT P T with
    | some e => match tinfo P e, partsV ρ parts.toList with
      | some ei, some ps => if inParts ps n ei.size ∧ n * ei.size ≤ 16777216 then some (newSlice ((o.dst.map md).getD .dflt) σ (ps.map (·.2)) ei.size .full) else none
      | _, _ => none
    | none => none
  | .load T a =>
    match tinfo P T with
    | some ti => aload σ ti (ρ a)
    | none => none
  | .store T a x =>
    match tinfo P T, ρ x with
    | some ti, .v c => astore σ ti c (ρ a)
    | _, _ => none
  | .nilCheck x =>
    match ρ x with
    | .v (.ptr cs o tag) => value σ (.v (.ptr cs o tag))
    | .v (.ref id o) => value σ (.v (.ref id o))
    | .loc s v o => value σ (.loc s v o)
    | .vat id n o => value σ (.vat id n o)
    | .v (.func f cap) => value σ (.v (.func f cap))
    | _ => none
  | .binOp op T x y _ =>
    match ρ x, ρ y with
    | .v a, .v b => (abin P op T a b).bind fun r => value σ (.v r)
    | _, _ => none
  | .unOp op _ x =>
    match ρ x with
    | .v a => (aun op a).bind fun r => value σ (.v r)
    | _ => none
  | .convert S D x =>
    match ρ x with
    | .v a => (aconvert P S D a).bind fun r => value σ (.v r)
    | _ => none
  | .makeFunc (.func f) first cap =>
    if first.size = 0 then
      match asVs (cap.toList.map (ρ)) with
      | some c => value σ (.v (.func f c))
      | none => none
    else none
  | .fieldAddr T x f =>
    match partAtT P T f with
    | some (off, sz) => if sz = 0 then none else (addOff off (ρ x)).bind (value σ)
    | none => none
  | .field T x f =>
    match partAtT P T f, ρ x, (match P.underlying T with | some (.struct fs) => (fs[f]?).bind fun g => tinfo P g.type | _ => none) with
    | some (off, _), .v (.agg cs), some ti => (readCells ti.agg ti.size cs off).bind fun r => value σ (.v r)
    | _, _, _ => none
  | .indexAddr T x i =>
    match ρ i with
    | .v (.int _ n) => aindexAddr P σ T (ρ x) n
    | _ => none
  | .index T x i =>
    match ρ x, ρ i with
    | .v (.str l), .v (.int _ n) =>
      if isStrT P T then
        match (if 0 ≤ n then l[n.toNat]? else none) with
        | some b => value σ (.v (.int .u8 b.toNat))
        | none => none
      else none
    | .v (.agg cs), .v (.int _ n) =>
      match arrT P T with
      | some (m, e) => match tinfo P e with
        | some ti => if 0 ≤ n ∧ n < m then (readCells ti.agg ti.size cs (n.toNat * ti.size)).bind fun r => value σ (.v r) else none
        | none => none
      | none => none
    | _, _ => none
  | .extract x i =>
    match ρ x with
    | .v (.tuple vs) => match vs[i]? with
      | some a => value σ (.v a)
      | none => none
    | _ => none
  | .slice T x lo hi none => aslice P ρ σ T (ρ x) lo hi
  | .makeSlice T n c =>
    match sliceT P T, ρ n, ρ c with
    | some e, .v (.int _ a), .v (.int _ b) =>
      match tinfo P e with
      | some ti => if 0 ≤ a ∧ a ≤ lim ∧ b = a ∧ ti.bytes ≤ 128 ∧ ti.size ≠ 0 ∧ (ti.agg = true ∨ ti.size = 1) then
          some (newSlice ((o.dst.map md).getD .dflt) σ (List.replicate a.toNat (if ti.agg then .agg (ti.zero.map ofV) else (ti.zero.map ofV).headD .any)) ti.size .full) else none
      | none => none
    | _, _, _ => none
  | .call { callee := .builtin .len, args, argTypes } =>
    match args.toList.map (ρ), argTypes[0]? with
    | [.v (.str l)], some T => if isStrT P T then value σ (.v (.int .i64 l.length)) else none
    | [.v (.slice es _)], some T => if (sliceT P T).isSome then value σ (.v (.int .i64 es.length)) else none
    | [.v (.vec _ n)], some T => if (sliceT P T).isSome then value σ (.v (.int .i64 n)) else none
    | _, _ => none
  | .call { callee := .builtin .min, args, argTypes := _ } =>
    match args.toList.map (ρ) with
    | [.v a, .v b] => (amin2 false a b).bind fun r => value σ (.v r)
    | _ => none
  | .call { callee := .builtin .max, args, argTypes := _ } =>
    match args.toList.map (ρ) with
    | [.v a, .v b] => (amin2 true a b).bind fun r => value σ (.v r)
    | _ => none
  | .call { callee := .builtin .append, args, argTypes } =>
    match args.toList.map (ρ), argTypes[0]?, argTypes[1]? with
    | [.v s, .v x], some T, some U => if (sliceT P U).isSome then aappend P ((o.dst.map md).getD .dflt) σ T s x else none
    | _, _, _ => none
  | _ => none

/-- The function and the arguments of a call of a Go function. -/
def acallee (ρ : Operand → TV) : Op → Option (FuncId × List AV)
  | .call { callee := .value f, args, argTypes := _ } =>
    match ρ f, asVs (args.toList.map ρ) with
    | .v (.func g cap), some as => some (g, as ++ cap)
    | _, _ => none
  | _ => none

noncomputable def aopC (P : Program) (md : Nat → Mode) (call : CallF) (o : Oper) (ρ : Operand → TV) (σ : St) : Option Out :=
  match acallee ρ o.op with
  | some (g, as) => (call g as σ.H).map fun r => ⟨some (.v r.1), σ.L, r.2, .gw⟩
  | none => aop P md o ρ σ

def putD (n : Nat) (t : Nat → TV) : Option Nat → Option TV → Option (Nat → TV)
  | some d, x => if d < n then some (upd t d (x.getD .undef)) else none
  | none, _ => some t

/-- Is the operation wanted (its guard)? -/
def wantedA (ops : Array Oper) (t : Nat → TV) (o : Oper) : Option Bool :=
  match o.guard with
  | none => some true
  | some (j, want) =>
    match (ops[j]?).bind (·.dst) with
    | some d => match t d with
      | .v (.bool b) => some (b == want)
      | .no => some false
      | _ => none
    | none => none

noncomputable def stepOp (P : Program) (md : Nat → Mode) (n : Nat) (call : CallF) (ops : Array Oper) (o : Oper) (σ : St) : Option (St × Acc) :=
  match wantedA ops σ.t o with
  | none => none
  | some true =>
    match aopC P md call o (evalO σ.t) σ with
    | some u =>
      match putD n σ.t o.dst u.val with
      | some t => some (⟨t, u.L, u.H⟩, u.acc)
      | none => none
    | none => none
  | some false =>
    match o.dst with
    | some d => if d < n then some (⟨upd σ.t d .no, σ.L, σ.H⟩, .pure) else none
    | none => some (σ, .pure)

noncomputable def runOps (P : Program) (md : Nat → Mode) (n : Nat) (call : CallF) (ops : Array Oper) : List Oper → St → Option St
  | [], σ => some σ
  | o :: r, σ => match stepOp P md n call ops o σ with
    | some (σ', _) => runOps P md n call ops r σ'
    | none => none

/-- What an operation of a drawn region touched, with the heap ahead of it and behind it. -/
structure Tr where
  acc : Acc
  H : List HObj
  H' : List HObj

def mkTr : Acc → List HObj → List HObj → Tr
  | .gw, H, H' => ⟨.gw, H, H'⟩
  | a, _, _ => ⟨a, [], []⟩

noncomputable def runOpsT (P : Program) (md : Nat → Mode) (n : Nat) (call : CallF) (ops : Array Oper) : List Oper → St → Option (St × List Tr)
  | [], σ => some (σ, [])
  | o :: r, σ => match stepOp P md n call ops o σ with
    | some (σ', acc) => match runOpsT P md n call ops r σ' with
      | some (σ'', l) => some (σ'', mkTr acc σ.H σ'.H :: l)
      | none => none
    | none => none

def Tr.comm (a b : Tr) : Prop :=
  match a.acc, b.acc with
  | .pure, _ | _, .pure => True
  | .lr _, .lr _ => True
  | .lr s, .lw s' | .lw s, .lr s' | .lw s, .lw s' => s ≠ s'
  | .lr _, _ | .lw _, _ | _, .lr _ | _, .lw _ => True
  | .gr _, .gr _ => True
  | .gr id, .gw => b.H'[id]? = b.H[id]?
  | .gw, .gr id => a.H'[id]? = a.H[id]?
  | .gw, .gw => False

def commAll (l : List Tr) (ps : List (Nat × Nat)) : Prop :=
  ∀ p ∈ ps, match l[p.1]?, l[p.2]? with
    | some a, some b => a.comm b
    | _, _ => False

/-! ### Unordered pairs -/
def rowOf (acc : List (List Nat)) (o : Oper) : List Nat :=
  ((o.after.toList.filter (Region.binds .any ·)).flatMap fun e => e.on :: acc.getD e.on []).eraseDups

/-- The operations that an operation waits for, directly or through others. -/
def ancFrom : List Oper → List (List Nat) → List (List Nat)
  | [], acc => acc
  | o :: l, acc => ancFrom l (acc ++ [rowOf acc o])

def purely : Op → Bool
  | .move _ | .assign _ | .pick .. | .build .. | .nilCheck _ | .binOp .. | .unOp .. | .convert .. | .makeFunc .. | .fieldAddr .. | .field .. | .index .. | .extract .. | .slice .. => true
  | .call { callee := .builtin .len, .. } => true
  | .call { callee := .builtin .min, .. } => true
  | .call { callee := .builtin .max, .. } => true
  | _ => false

/-- The pairs that no edge orders. -/
def freePairs (l : List Oper) : List (Nat × Nat) :=
  let anc := ancFrom l []
  (List.range l.length).flatMap fun j => ((List.range j).filter fun i => !(anc.getD j []).contains i).map fun i => (i, j)

def edgesBack (l : List Oper) : Bool := l.zipIdx.all fun (o, j) => o.after.toList.all fun e => !Region.binds .any e || decide (e.on < j)

/-- The unordered pairs of which one should look whether they commute; none: two that are unordered are not apart, or an edge leads forward. -/
def unordered (ops : Array Oper) : Option (List (Nat × Nat)) :=
  let l := ops.toList
  let ps := freePairs l
  if edgesBack l && ps.all (fun p => match l[p.1]?, l[p.2]? with | some a, some b => a.apart ops b | _, _ => false) then
    some (ps.filter fun p => match l[p.1]?, l[p.2]? with | some a, some b => !(purely a.op || purely b.op) | _, _ => true)
  else none

def drawnIn : Code → List (Nat × Array Oper)
  | .region id ops true => [(id, ops)]
  | .seq a b => drawnIn a ++ drawnIn b
  | .cond _ a b => drawnIn a ++ drawnIn b
  | .block _ b => drawnIn b
  | .loop b => drawnIn b
  | .scope b => drawnIn b
  | _ => []

/-- The pairs to look at in the drawn regions of a number in a function. -/
def pairsAt (P : Program) (f : FuncId) (id : Nat) : Option (List (Nat × Nat)) :=
  match P.funcs[f]? with
  | some fn => match fn.body with
    | some c => ((drawnIn c).filter (·.1 == id)).foldl (init := some []) fun acc r =>
        match acc, unordered r.2 with
        | some a, some b => some (b ++ a)
        | _, _ => none
    | none => none
  | none => none

inductive AEx where
  | normal | exit (id : Nat) | ret
  deriving DecidableEq

def blockEx (id : Nat) : AEx → AEx
  | .exit i => if i = id then .normal else .exit i
  | e => e

def iterA (step : St → Option (AEx × St)) : Nat → St → Option (AEx × St)
  | 0, _ => none
  | n + 1, σ => match step σ with
    | some (.normal, σ') => iterA step n σ'
    | r => r

/-- The code of function f, a loop at most k rounds. -/
noncomputable def aexecN (P : Program) (md : Nat → Mode) (f : FuncId) (n : Nat) (call : CallF) (k : Nat) : Code → St → Option (AEx × St)
  | .skip, σ => some (.normal, σ)
  | .region id ops true, σ =>
    open Classical in
    match pairsAt P f id, runOpsT P md n call ops ops.toList σ with
    | some ps, some (σ', l) => if commAll l ps then some (.normal, σ') else none
    | _, _ => none
  | .region _ ops false, σ => (runOps P md n call ops ops.toList σ).map fun σ' => (.normal, σ')
  | .seq a b, σ => match aexecN P md f n call k a σ with
    | some (.normal, σ') => aexecN P md f n call k b σ'
    | r => r
  | .cond c a b, σ => match evalO σ.t c with
    | .v (.bool true) => aexecN P md f n call k a σ
    | .v (.bool false) => aexecN P md f n call k b σ
    | _ => none
  | .block id b, σ => match aexecN P md f n call k b σ with
    | some (e, σ') => some (blockEx id e, σ')
    | none => none
  | .loop b, σ => iterA (fun σ => aexecN P md f n call k b σ) k σ
  | .exit id, σ => some (.exit id, σ)
  | .ret, σ => some (.ret, σ)
  | _, _ => none

def initT (args : List AV) : Nat → TV := fun j => match args[j]? with
  | some a => .v a
  | none => .undef

def aresult (P : Program) (σ : St) : ResultVar → Option AV
  | .tmp t => asV (σ.t t)
  | .cell a T =>
    match tinfo P T, σ.t a with
    | some ti, .loc s v o => match aload σ ti (.loc s v o) with
      | some ⟨some (.v x), _, _, _⟩ => some x
      | _ => none
    | some ti, .v (.ref id o) => match aload σ ti (.v (.ref id o)) with
      | some ⟨some (.v x), _, _, _⟩ => some x
      | _ => none
    | _, _ => none

def aresults (P : Program) (σ : St) : List ResultVar → Option (List AV)
  | [] => some []
  | r :: rs => match aresult P σ r, aresults P σ rs with
    | some a, some as => some (a :: as)
    | _, _ => none

def oneOf : List AV → AV
  | [x] => x
  | l => .tuple l

/-- What a function hands on of what it made in the heap: nothing, everything, the token of the slice that it returns. -/
inductive Keep where
  | drop | all | hand
  deriving DecidableEq

/-- What the engine is told of the program: each temporary's mode, which functions hand on what they made in the heap, what library functions give. -/
structure Env where
  P : Program
  md : FuncId → Nat → Mode
  keep : FuncId → Keep
  ext : FuncId → Option (List AV → List HObj → Option (AV × List HObj))

/-- Cells in rows of sz. -/
def chunks (sz : Nat) : Nat → List AV → List AV
  | 0, _ => []
  | k + 1, cs => (if sz = 1 then cs.headD .any else .agg (cs.take sz)) :: chunks sz k (cs.drop sz)

/-- A vector that ends with its frame is a slice to which nobody writes. -/
def frzV (n : Nat) (H : List HObj) (id len : Nat) : AV :=
  if n ≤ id then
    match H[id]? with
    | some (.vec cs sz) => if cs.length = len * sz ∧ sz ≠ 0 then .slice (chunks sz len cs) .view else .vec id len
    | _ => .vec id len
  else .vec id len

mutual
def frz (n : Nat) (H : List HObj) : AV → AV
  | .agg cs => .agg (frzL n H cs)
  | .tuple cs => .tuple (frzL n H cs)
  | .vec id len => frzV n H id len
  | x => x
def frzL (n : Nat) (H : List HObj) : List AV → List AV
  | [] => []
  | c :: cs => frz n H c :: frzL n H cs
end

mutual
/-- The first token from n on. -/
def tokOf (n : Nat) : AV → Option Nat
  | .agg cs => tokOfL n cs
  | .tuple cs => tokOfL n cs
  | .slice _ (.tok t) => if n ≤ t then some t else none
  | _ => none
def tokOfL (n : Nat) : List AV → Option Nat
  | [] => none
  | c :: cs => (tokOf n c).or (tokOfL n cs)
end

mutual
/-- The token id becomes n, others from n on are forgotten. -/
def ren (n id : Nat) : AV → AV
  | .agg cs => .agg (renL n id cs)
  | .tuple cs => .tuple (renL n id cs)
  | .slice es (.tok t) => if t < n then .slice es (.tok t) else if t = id then .slice es (.tok n) else .slice es .view
  | x => x
def renL (n id : Nat) : List AV → List AV
  | [] => []
  | c :: cs => ren n id c :: renL n id cs
end

def finDrop (n : Nat) (r : AV) (H : List HObj) : Option (AV × List HObj) :=
  if below n (norm n (frz n H r)) then some (norm n (frz n H r), H.take n) else none

def finHand (n : Nat) (r : AV) (H : List HObj) (id : Nat) : Option (AV × List HObj) :=
  match H[id]? with
  | some (.top m sz) => if n ≤ id ∧ below n (norm n r) = true then some (ren n id r, H.take n ++ [.top m sz]) else none
  | _ => none

/-- A vector that is handed on becomes a slice with its token. -/
def melt1 (n : Nat) (H : List HObj) (id len : Nat) : Option (AV × List HObj) :=
  match H[id]? with
  | some (.vec cs sz) => if n ≤ id ∧ cs.length = len * sz ∧ sz ≠ 0 then some (.slice (chunks sz len cs) (.tok id), H.set id (.top len sz)) else none
  | _ => none

def meltR (n : Nat) (H : List HObj) : AV → AV × List HObj
  | .vec id len => (melt1 n H id len).getD (.vec id len, H)
  | .tuple (.vec id len :: r) => match melt1 n H id len with
    | some (s, H') => (.tuple (s :: r), H')
    | none => (.tuple (.vec id len :: r), H)
  | r => (r, H)

def finTok (n : Nat) (r : AV) (H : List HObj) : Option (AV × List HObj) :=
  match tokOf n r with
  | some id => finHand n r H id
  | none => finDrop n r H

def finish (keep : Keep) (n : Nat) (r : AV) (H : List HObj) : Option (AV × List HObj) :=
  match keep with
  | .all => some (r, H)
  | .drop => finDrop n r H
  | .hand => finTok n (meltR n H r).1 (meltR n H r).2

noncomputable def abody (E : Env) (call : CallF) (k : Nat) (f : FuncId) (args : List AV) (H : List HObj) : Option (AV × List HObj) :=
  match E.P.funcs[f]? with
  | some fn =>
    match fn.body with
    | some c =>
      if fn.name != "runtime.NumGoroutine" && decide (args.length ≤ fn.ntmps) then
        match aexecN E.P (E.md f) f fn.ntmps call k c ⟨initT args, fun _ => none, H⟩ with
        | some (.exit _, _) => none
        | some (_, σ) => match aresults E.P σ fn.results.toList with
          | some rs => finish (E.keep f) H.length (oneOf rs) σ.H
          | none => none
        | none => none
      else none
    | none => none
  | none => none

noncomputable def acallN (E : Env) : Nat → CallF
  | 0 => fun _ _ _ => none
  | k + 1 => fun f args H => match E.ext f with
    | some s => s args H
    | none => abody E (acallN E k) k f args H

open Classical in
/-- What a call gives, with however many steps. -/
noncomputable def acall (E : Env) : CallF := fun f args H =>
  if h : ∃ k r, acallN E k f args H = some r then some h.choose_spec.choose else none

end Go.Proofs.Ytnjaagfhaooapaa.Eng
