/- ENGINE 1: the abstract values, the abstract heap, the abstract operations. -/
import Derived.Calls
import Derived.Orders
import Derived.Below
import Derived.KernelRfl
namespace Go.Proofs.Ytnjaagfhaooapaa.Eng
set_option linter.unusedVariables false
set_option linter.unusedSimpArgs false
set_option linter.unnecessarySimpa false
set_option linter.constructorNameAsVariable false
open Go

/-- Who may append behind a slice's length: nobody knows; it is full (cap = len); the token `id` of the heap. -/
inductive Own where
  | view | full | tok (id : Nat)
  deriving DecidableEq

inductive AV where
  | any
  | int (k : IntKind) (n : Int)
  | bool (b : Bool)
  | str (l : List UInt8)
  | nilp
  | agg (cs : List AV)
  | tuple (vs : List AV)
  | ptr (cs : List AV) (off : Nat) (tag : Option Nat)
  | slice (es : List AV) (own : Own)
  | ref (id off : Nat)
  | vec (id len : Nat)
  | func (f : FuncId) (cap : List AV)
  | map (id : Nat)
  deriving Inhabited

/-- What a temporary holds: a value, the address of a local box, the address of a cell of a vector. -/
inductive TV where
  | undef
  | no
  | v (a : AV)
  | loc (slot ver off : Nat)
  | vat (id len off : Nat)
  deriving Inhabited

inductive HObj where
  | cells (cs : List AV)
  | top (n sz : Nat)
  | vec (cs : List AV) (sz : Nat)
  | tag
  | map (es : List (AV × AV))
  deriving Inhabited

inductive Mode where
  | dflt | loc | heap | tag | tok | vec
  deriving DecidableEq

def AV.cells : AV → List AV
  | .agg cs => cs
  | .tuple _ => []
  | x => [x]

def AV.one : AV → Bool
  | .agg _ | .tuple _ => false
  | _ => true

/-- A constant, or a zero cell. -/
def ofV : Value → AV
  | .int k n => .int k n
  | .bool b => .bool b
  | .string s => .str s.data.toList
  | .pointer none => .nilp
  | .slice none 0 0 => .slice [] .full
  | _ => .any

mutual
def below (n : Nat) : AV → Bool
  | .agg cs => belowL n cs
  | .tuple cs => belowL n cs
  | .ptr cs _ tag => belowL n cs && (match tag with | some t => decide (t < n) | none => true)
  | .slice es own => belowL n es && (match own with | .tok t => decide (t < n) | _ => true)
  | .ref id _ => decide (id < n)
  | .vec id _ => decide (id < n)
  | .func _ cap => belowL n cap
  | .map id => decide (id < n)
  | .any | .int _ _ | .bool _ | .str _ | .nilp => true
def belowL (n : Nat) : List AV → Bool
  | [] => true
  | c :: cs => below n c && belowL n cs
end

mutual
/-- Tokens from n on are forgotten (at the top of a value and in its parts, not behind pointers and slices). -/
def norm (n : Nat) : AV → AV
  | .agg cs => .agg (normL n cs)
  | .tuple cs => .tuple (normL n cs)
  | .slice es (.tok t) => if t < n then .slice es (.tok t) else .slice es .view
  | x => x
def normL (n : Nat) : List AV → List AV
  | [] => []
  | c :: cs => norm n c :: normL n cs
end

/-! ### Types -/
structure TI where
  size : Nat
  agg : Bool
  bytes : Nat
  zero : List Value

def tinfo (P : Program) (T : TypeId) : Option TI :=
  match P.info? T, P.underlying T with
  | some i, some d =>
    match i.zero with
    | some z => if z.cells.size = i.size ∧ z.cells.all Value.oneCell' = true then some ⟨i.size, (match d with | .struct _ | .array _ _ => true | _ => false), i.bytes, z.cells.toList⟩ else none
    | none => none
  | _, _ => none

/-- The place of a part (field or element) in a struct or an array: offset and size. -/
def partAtT (P : Program) (T : TypeId) (i : Nat) : Option (Nat × Nat) :=
  match P.underlying T with
  | some (.struct fs) =>
    match fs[i]? with
    | some f => (P.info? f.type).map fun j => (f.offset, j.size)
    | none => none
  | _ => none

def isStructT (P : Program) (T : TypeId) : Bool :=
  match P.underlying T with
  | some (.struct fs) => fs.toList.all fun f => (P.info? f.type).isSome
  | _ => false

def arrT (P : Program) (T : TypeId) : Option (Nat × TypeId) :=
  match P.underlying T with
  | some (.array n e) => some (n, e)
  | _ => none

def sliceT (P : Program) (T : TypeId) : Option TypeId :=
  match P.underlying T with
  | some (.slice e) => some e
  | _ => none

def kindT (P : Program) (T : TypeId) : Option IntKind :=
  match P.underlying T with
  | some (.int k) => some k
  | _ => none

def hasT (P : Program) (T : TypeId) : Bool := (P.underlying T).isSome

def isStrT (P : Program) (T : TypeId) : Bool :=
  match P.underlying T with
  | some .string => true
  | _ => false

def isPtrT (P : Program) (T : TypeId) : Bool :=
  match P.underlying T with
  | some (.pointer e) => match P.info? e with
    | some i => decide (i.size ≠ 0)
    | none => false
  | _ => false

/-! ### The state -/
structure St where
  t : Nat → TV
  L : Nat → Option (Nat × List AV)
  H : List HObj

def upd {α : Type} (t : Nat → α) (d : Nat) (x : α) : Nat → α := fun j => if j = d then x else t j

theorem upd_same {α : Type} (t : Nat → α) (d : Nat) (x : α) : upd t d x d = x := by simp [upd]
theorem upd_ne {α : Type} (t : Nat → α) {d j : Nat} (x : α) (h : j ≠ d) : upd t d x j = t j := by simp [upd, h]

inductive Acc where
  | pure
  | lr (s : Nat)
  | lw (s : Nat)
  | gr (id : Nat)
  | gw

/-- What an operation gives: a value (none: nothing is put), the local boxes, the heap, what it touched. -/
structure Out where
  val : Option TV
  L : Nat → Option (Nat × List AV)
  H : List HObj
  acc : Acc

def lim : Nat := 274877906944

def splice (cs : List AV) (off : Nat) (xs : List AV) : List AV := cs.take off ++ xs ++ cs.drop (off + xs.length)

def evalO (t : Nat → TV) : Operand → TV
  | .tmp j => t j
  | .const (.agg _) => .undef
  | .const (.tuple _) => .undef
  | .const c => .v (ofV c)
  | .func f => .v (.func f [])
  | .global _ => .v .any

/-- Arithmetic and comparisons of whole numbers, bools and strings; a pointer against nil; two pointers that bear tags. -/
def abin (P : Program) (op : BinOp) (T : TypeId) : AV → AV → Option AV
  | .int k a, .int k' b =>
    if k = k' then
      match op with
      | .add => some (.int k (k.wrap (a + b)))
      | .sub => some (.int k (k.wrap (a - b)))
      | .mul => some (.int k (k.wrap (a * b)))
      | .quo => if b = 0 then none else some (.int k (k.wrap (a.tdiv b)))
      | .rem => if b = 0 then none else some (.int k (a.tmod b))
      | .eql => some (.bool (decide (a = b)))
      | .neq => some (.bool (!decide (a = b)))
      | .lss => some (.bool (decide (a < b)))
      | .leq => some (.bool (decide (a ≤ b)))
      | .gtr => some (.bool (decide (b < a)))
      | .geq => some (.bool (decide (b ≤ a)))
      | .xor => some (.int k (k.wrap (BitVec.ofInt k.bits a ^^^ BitVec.ofInt k.bits b).toNat))
      | .and => some (.int k (k.wrap (BitVec.ofInt k.bits a &&& BitVec.ofInt k.bits b).toNat))
      | .or => some (.int k (k.wrap (BitVec.ofInt k.bits a ||| BitVec.ofInt k.bits b).toNat))
      | _ => none
    else none
  | .str a, .str b =>
    match op with
    | .add => if a.length + b.length ≤ 4611686018427387904 then some (.str (a ++ b)) else none
    | .eql => some (.bool (decide (a = b)))
    | .neq => some (.bool (!decide (a = b)))
    | _ => none
  | .bool a, .bool b =>
    match op, P.underlying T with
    | .eql, some .bool => some (.bool (a == b))
    | .neq, some .bool => some (.bool (!(a == b)))
    | _, _ => none
  | .nilp, .nilp =>
    if isPtrT P T then match op with
      | .eql => some (.bool true)
      | .neq => some (.bool false)
      | _ => none
    else none
  | .ptr _ _ _, .nilp | .ref _ _, .nilp | .nilp, .ptr _ _ _ | .nilp, .ref _ _ =>
    if isPtrT P T then match op with
      | .eql => some (.bool false)
      | .neq => some (.bool true)
      | _ => none
    else none
  | .ptr _ 0 (some i), .ptr _ 0 (some j) =>
    if isPtrT P T then match op with
      | .eql => some (.bool (decide (i = j)))
      | .neq => some (.bool (!decide (i = j)))
      | _ => none
    else none
  | _, _ => none

def aun (op : UnOp) : AV → Option AV
  | .bool b => match op with | .not => some (.bool !b) | _ => none
  | .int k n => match op with | .neg => some (.int k (k.wrap (0 - n))) | _ => none
  | _ => none

/-- The parts of a literal laid into its zero cells. -/
def fillA (place : Nat → Option (Nat × Nat)) : List AV → List (Nat × AV) → Option (List AV)
  | cells, [] => some cells
  | cells, (i, x) :: rest =>
    match place i with
    | none => none
    | some (off, size) =>
      if x.cells.length = size ∧ size ≠ 0 ∧ off + size ≤ cells.length then fillA place (splice cells off x.cells) rest else none

def byteOf : AV → Option UInt8
  | .int .u8 n => some (UInt8.ofNat n.toNat)
  | _ => none

def bytesOf : List AV → Option (List UInt8)
  | [] => some []
  | e :: es => match byteOf e, bytesOf es with
    | some b, some bs => some (b :: bs)
    | _, _ => none

def asV : TV → Option AV
  | .v a => some a
  | _ => none

def asVs : List TV → Option (List AV)
  | [] => some []
  | x :: xs => match asV x, asVs xs with
    | some a, some as => some (a :: as)
    | _, _ => none

def readCells (agg : Bool) (size : Nat) (cs : List AV) (off : Nat) : Option AV :=
  if agg then (if off + size ≤ cs.length then some (.agg ((cs.drop off).take size)) else none) else cs[off]?

def inParts (xs : List (Nat × AV)) (n sz : Nat) : Bool :=
  sz != 0 && xs.length == n && (xs.map (·.1) == List.range n) && xs.all fun p => p.2.cells.length == sz

def partsV (ρ : Operand → TV) : List (Nat × Operand) → Option (List (Nat × AV))
  | [] => some []
  | (i, x) :: r => match asV (ρ x), partsV ρ r with
    | some a, some as => some ((i, a) :: as)
    | _, _ => none

/-- The number of a slot's next box. -/
def nextVer (L : Nat → Option (Nat × List AV)) (d : Nat) : Nat := match L d with
  | some (v, _) => v + 1
  | none => 0

/-- The cells that a new box of the mode gives. -/
def newBox (mode : Mode) (dst : Option Nat) (σ : St) (cs : List AV) (dflt : Mode) : Option Out :=
  if cs.length = 0 then none else
  match (if mode = .dflt then dflt else mode) with
  | .loc =>
    match dst with
    | some d => some ⟨some (.loc d (nextVer σ.L d) 0), upd σ.L d (some (nextVer σ.L d, cs)), σ.H, .lw d⟩
    | none => none
  | .heap => some ⟨some (.v (.ref σ.H.length 0)), σ.L, σ.H ++ [.cells cs], .gw⟩
  | .tag => some ⟨some (.v (.ptr cs 0 (some σ.H.length))), σ.L, σ.H ++ [.tag], .gw⟩
  | _ => some ⟨some (.v (.ptr cs 0 none)), σ.L, σ.H, .pure⟩

def newSlice (mode : Mode) (σ : St) (es : List AV) (sz : Nat) (dflt : Own) : Out :=
  match mode with
  | .tok => ⟨some (.v (.slice es (.tok σ.H.length))), σ.L, σ.H ++ [.top es.length sz], .gw⟩
  | .vec => ⟨some (.v (.vec σ.H.length es.length)), σ.L, σ.H ++ [.vec (es.flatMap AV.cells) sz], .gw⟩
  | _ => ⟨some (.v (.slice es dflt)), σ.L, σ.H, .pure⟩

def value (σ : St) (x : TV) : Option Out := some ⟨some x, σ.L, σ.H, .pure⟩

def aload (σ : St) (i : TI) : TV → Option Out
  | .v (.ptr cs off _) => (readCells i.agg i.size cs off).map fun x => ⟨some (.v x), σ.L, σ.H, .pure⟩
  | .loc s ver off =>
    match σ.L s with
    | some (ver', cs) => if ver' = ver then (readCells i.agg i.size cs off).map fun x => ⟨some (.v x), σ.L, σ.H, .lr s⟩ else none
    | none => none
  | .v (.ref id off) =>
    match σ.H[id]? with
    | some (.cells cs) => (readCells i.agg i.size cs off).map fun x => ⟨some (.v x), σ.L, σ.H, .gr id⟩
    | _ => none
  | .vat id len off =>
    match σ.H[id]? with
    | some (.vec cs sz) => if cs.length = len * sz ∧ sz ≠ 0 ∧ i.size ≠ 0 then (readCells i.agg i.size cs off).map fun x => ⟨some (.v x), σ.L, σ.H, .gr id⟩ else none
    | _ => none
  | _ => none

def astore (σ : St) (i : TI) (x : AV) : TV → Option Out
  | .loc s ver off =>
    match σ.L s with
    | some (ver', cs) =>
      if ver' = ver ∧ x.cells.length = i.size ∧ i.size ≠ 0 ∧ off + i.size ≤ cs.length then some ⟨none, upd σ.L s (some (ver', splice cs off x.cells)), σ.H, .lw s⟩ else none
    | none => none
  | .v (.ref id off) =>
    match σ.H[id]? with
    | some (.cells cs) =>
      if (norm id x).cells.length = i.size ∧ i.size ≠ 0 ∧ off + i.size ≤ cs.length ∧ below id (norm id x) = true then some ⟨none, σ.L, σ.H.set id (.cells (splice cs off (norm id x).cells)), .gw⟩ else none
    | _ => none
  | .vat id len off =>
    match σ.H[id]? with
    | some (.vec cs sz) =>
      if cs.length = len * sz ∧ sz ≠ 0 ∧ x.cells.length = i.size ∧ i.size ≠ 0 ∧ off + i.size ≤ cs.length ∧ below id x = true then some ⟨none, σ.L, σ.H.set id (.vec (splice cs off x.cells) sz), .gw⟩ else none
    | _ => none
  | _ => none

def addOff (off : Nat) : TV → Option TV
  | .v (.ptr cs o tag) => if off = 0 then some (.v (.ptr cs o tag)) else some (.v (.ptr cs (o + off) none))
  | .v (.ref id o) => some (.v (.ref id (o + off)))
  | .loc s ver o => some (.loc s ver (o + off))
  | .vat id len o => some (.vat id len (o + off))
  | _ => none

/-- The address of an element. -/
def aindexAddr (P : Program) (σ : St) (T : TypeId) (x : TV) (i : Int) : Option Out :=
  match sliceT P T with
  | some e =>
    match tinfo P e, x with
    | some ti, .v (.slice es _) =>
      match (if 0 ≤ i then es[i.toNat]? else none) with
      | some c => if c.cells.length = ti.size ∧ ti.size ≠ 0 then value σ (.v (.ptr c.cells 0 none)) else none
      | none => none
    | some ti, .v (.vec id len) =>
      match σ.H[id]? with
      | some (.vec cs sz) => if cs.length = len * sz ∧ sz = ti.size ∧ sz ≠ 0 ∧ 0 ≤ i ∧ i < len then some ⟨some (.vat id len (i.toNat * sz)), σ.L, σ.H, .gr id⟩ else none
      | _ => none
    | _, _ => none
  | none =>
    match arrT P T with
    | some (n, e) =>
      match tinfo P e with
      | some ti => if 0 ≤ i ∧ i < n then (addOff (i.toNat * ti.size) x).bind (value σ) else none
      | none => none
    | none => none

def bound (ρ : Operand → TV) (dflt : Int) : Option Operand → Option Int
  | none => some dflt
  | some x => match ρ x with
    | .v (.int _ n) => some n
    | _ => none

def aslice (P : Program) (ρ : Operand → TV) (σ : St) (T : TypeId) (x : TV) (lo hi : Option Operand) : Option Out :=
  match x with
  | .v (.str l) =>
    if isStrT P T then
      match bound ρ 0 lo, bound ρ l.length hi with
      | some a, some b => if 0 ≤ a ∧ a ≤ b ∧ b ≤ l.length then value σ (.v (.str ((l.drop a.toNat).take (b.toNat - a.toNat)))) else none
      | _, _ => none
    else none
  | .v (.slice es _) =>
    match sliceT P T, bound ρ 0 lo, bound ρ es.length hi with
    | some e, some a, some b =>
      match tinfo P e with
      | some ti => if 0 ≤ a ∧ a ≤ b ∧ b ≤ es.length ∧ (a = 0 ∨ ∀ c ∈ es, c.cells.length = ti.size) then value σ (.v (.slice ((es.drop a.toNat).take (b.toNat - a.toNat)) .view)) else none
      | none => none
    | _, _, _ => none
  | _ => none

def aconvert (P : Program) (S D : TypeId) : AV → Option AV
  | .int _ n => if hasT P S then (kindT P D).map fun k => .int k (k.wrap n) else none
  | .str l => if hasT P S && isStrT P D then some (.str l) else none
  | .slice es _ =>
    match sliceT P S with
    | some e => if kindT P e = some .u8 ∧ isStrT P D then (bytesOf es).map .str else none
    | none => none
  | _ => none

def amin2 (mx : Bool) : AV → AV → Option AV
  | .int k a, .int k' b => if k = k' then some (.int k (if mx then (if a < b then b else a) else (if b < a then b else a))) else none
  | _, _ => none

def aappend (P : Program) (mode : Mode) (σ : St) (T : TypeId) (s x : AV) : Option Out :=
  match sliceT P T with
  | none => none
  | some e =>
    match tinfo P e with
    | none => none
    | some ti =>
      match x with
      | .slice xs _ =>
        if ti.bytes ≤ 128 ∧ ti.size ≠ 0 ∧ (∀ c ∈ xs, c.cells.length = ti.size) then
          match s with
          | .slice es .full =>
            if es.length + xs.length ≤ lim ∧ (∀ c ∈ es, c.cells.length = ti.size) ∧ (mode = .vec → es = []) then some (newSlice mode σ (es ++ xs) ti.size .view) else none
          | .slice es (.tok id) =>
            match σ.H[id]? with
            | some (.top n sz) =>
              if es.length = n ∧ sz = ti.size ∧ es.length + xs.length ≤ lim ∧ (∀ c ∈ es, c.cells.length = ti.size) then some ⟨some (.v (.slice (es ++ xs) (.tok id))), σ.L, σ.H.set id (.top (n + xs.length) sz), .gw⟩ else none
            | _ => none
          | .vec id len =>
            match σ.H[id]? with
            | some (.vec cs sz) =>
              if cs.length = len * sz ∧ sz = ti.size ∧ len + xs.length ≤ lim ∧ belowL id xs = true then some ⟨some (.v (.vec id (len + xs.length))), σ.L, σ.H.set id (.vec (cs ++ xs.flatMap AV.cells) sz), .gw⟩ else none
            | _ => none
          | _ => none
        else none
      | _ => none

end Go.Proofs.Ytnjaagfhaooapaa.Eng
