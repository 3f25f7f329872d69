/- ENGINE 3: what abstract values stand for in a world; what stays when the world goes on. -/
import Derived.Test.YtnjaagfhaooapaaE2
namespace Go.Proofs.Ytnjaagfhaooapaa.Eng
set_option linter.unusedVariables false
set_option linter.unusedSimpArgs false
set_option linter.unnecessarySimpa false
set_option linter.constructorNameAsVariable false
open Go Go.RowKit

inductive Owner where
  | none | pub | keep | obj (id : Nat) | loc (slot : Nat)
  deriving DecidableEq

structure Conc where
  ow : Nat → Nat → Owner
  loc : Nat → Option (Nat × Nat)
  top : Nat → Option Nat
  hdr : Nat → Option Value
  lloc : Nat → Option (Nat × Nat)
  mloc : Nat → Option Nat
  tg : Nat → Option (Nat × Nat)

def OwnOk (κ : Conc) : Own → Nat → Value → Prop
  | .view, _, _ => True
  | .full, n, v => ∃ a, v = .slice a n n
  | .tok id, n, v => ∃ m, κ.top id = some m ∧ n ≤ m ∧ (n = m → κ.hdr id = some v)

abbrev ad (b o : Nat) : Addr := ⟨b, o, none⟩

inductive Rep (κ : Conc) (w : World) : AV → Value → Prop
  | any (v : Value) (h : v.oneCell' = true) : Rep κ w .any v
  | int (k : IntKind) (n : Int) : Rep κ w (.int k n) (.int k n)
  | bool (b : Bool) : Rep κ w (.bool b) (.bool b)
  | str (l : List UInt8) : Rep κ w (.str l) (.string ⟨l.toArray⟩)
  | nilp : Rep κ w .nilp (.pointer none)
  | agg (cs : List AV) (vs : Array Value) (hl : vs.size = cs.length) (h1 : ∀ c ∈ cs, c.one = true)
      (h : ∀ i c, cs[i]? = some c → Rep κ w c (vs.getD i undef)) : Rep κ w (.agg cs) (.agg vs)
  | tuple (cs : List AV) (vs : Array Value) (hl : vs.size = cs.length)
      (h : ∀ i c, cs[i]? = some c → Rep κ w c (vs.getD i undef)) : Rep κ w (.tuple cs) (.tuple vs)
  | ptr (cs : List AV) (off : Nat) (tag : Option Nat) (b o : Nat) (f : Nat → Value) (h1 : ∀ c ∈ cs, c.one = true)
      (hc : ∀ i, i < cs.length → κ.ow b (o + i) = .pub ∧ w.cell? (ad b (o + i)) = some (f i))
      (h : ∀ i c, cs[i]? = some c → Rep κ w c (f i)) (ht : ∀ t, tag = some t → κ.tg t = some (b, o + off)) : Rep κ w (.ptr cs off tag) (.pointer (some (ad b (o + off))))
  | slice (es : List AV) (own : Own) (a : Option Addr) (cap : Nat) (b o sz : Nat) (f : Nat → Value) (ha : es ≠ [] → a = some (ad b o)) (hcap : es.length ≤ cap)
      (hs : ∀ e ∈ es, e.cells.length = sz) (hz : sz ≠ 0) (h1 : ∀ c ∈ es.flatMap AV.cells, c.one = true)
      (hc : ∀ i, i < es.length * sz → κ.ow b (o + i) = .pub ∧ w.cell? (ad b (o + i)) = some (f i))
      (h : ∀ i c, (es.flatMap AV.cells)[i]? = some c → Rep κ w c (f i)) (ho : OwnOk κ own es.length (.slice a es.length cap)) : Rep κ w (.slice es own) (.slice a es.length cap)
  | ref (id off b o : Nat) (h : κ.loc id = some (b, o)) : Rep κ w (.ref id off) (.pointer (some (ad b (o + off))))
  | vec (id len m : Nat) (a : Option Addr) (cap : Nat) (ht : κ.top id = some m) (hl : len ≤ m) (hv : len = m → κ.hdr id = some (.slice a len cap)) : Rep κ w (.vec id len) (.slice a len cap)
  | func (f : FuncId) (cap : List AV) (vs : Array Value) (hl : vs.size = cap.length)
      (h : ∀ i c, cap[i]? = some c → Rep κ w c (vs.getD i undef)) : Rep κ w (.func f cap) (.func (.func f) #[] vs)
  | map (id b : Nat) (h : κ.mloc id = some b) : Rep κ w (.map id) (.map (some b))

def TRep (κ : Conc) (w : World) : TV → Value → Prop
  | .undef, _ => True
  | .no, v => v = undef
  | .v a, v => Rep κ w a v
  | .loc s ver off, v => ∃ m b, κ.lloc s = some (m, b) ∧ ver ≤ m ∧ (ver = m → v = .pointer (some (ad b off))) ∧ ∃ a, v = .pointer (some a)
  | .vat id len off, v => ∃ m, κ.top id = some m ∧ len ≤ m ∧ (len = m → ∃ b o cap, κ.hdr id = some (.slice (some (ad b o)) m cap) ∧ v = .pointer (some (ad b (o + off)))) ∧ ∃ a, v = .pointer (some a)

structure Ext (κ : Conc) (w : World) (κ' : Conc) (w' : World) : Prop where
  pub : ∀ b o, κ.ow b o = .pub → κ'.ow b o = .pub ∧ w'.cell? (ad b o) = w.cell? (ad b o)
  keep : ∀ b o, κ.ow b o = .keep → κ'.ow b o = .keep ∧ w'.cell? (ad b o) = w.cell? (ad b o) ∧ w'.frozen? (ad b o) = w.frozen? (ad b o)
  loc : ∀ id x, κ.loc id = some x → κ'.loc id = some x
  top : ∀ id m, κ.top id = some m → ∃ m', κ'.top id = some m' ∧ m ≤ m' ∧ (m' = m → κ'.hdr id = κ.hdr id)
  mloc : ∀ id x, κ.mloc id = some x → κ'.mloc id = some x
  tg : ∀ id x, κ.tg id = some x → κ'.tg id = some x
  size : w.heap.size ≤ w'.heap.size

/-- What the values in hand ask of it. -/
structure Ext0 (κ : Conc) (w : World) (κ' : Conc) (w' : World) : Prop where
  pub : ∀ b o, κ.ow b o = .pub → κ'.ow b o = .pub ∧ w'.cell? (ad b o) = w.cell? (ad b o)
  loc : ∀ id x, κ.loc id = some x → κ'.loc id = some x
  top : ∀ id m, κ.top id = some m → ∃ m', κ'.top id = some m' ∧ m ≤ m' ∧ (m' = m → κ'.hdr id = κ.hdr id)
  mloc : ∀ id x, κ.mloc id = some x → κ'.mloc id = some x
  tg : ∀ id x, κ.tg id = some x → κ'.tg id = some x

theorem Ext.to0 {κ κ' : Conc} {w w' : World} (h : Ext κ w κ' w') : Ext0 κ w κ' w' := ⟨h.pub, h.loc, h.top, h.mloc, h.tg⟩

/-- The frame's own boxes go on, too. -/
def LExt (κ κ' : Conc) : Prop := ∀ s m b, κ.lloc s = some (m, b) → ∃ m' b', κ'.lloc s = some (m', b') ∧ m ≤ m' ∧ (m' = m → b' = b)

theorem Ext.refl (κ : Conc) (w : World) : Ext κ w κ w :=
  ⟨fun _ _ h => ⟨h, rfl⟩, fun _ _ h => ⟨h, rfl, rfl⟩, fun _ _ h => h, fun _ m h => ⟨m, h, Nat.le_refl _, fun _ => rfl⟩, fun _ _ h => h, fun _ _ h => h, Nat.le_refl _⟩

theorem Ext.trans {κ κ' κ'' : Conc} {w w' w'' : World} (h : Ext κ w κ' w') (k : Ext κ' w' κ'' w'') : Ext κ w κ'' w'' where
  pub b o e := ⟨(k.pub b o (h.pub b o e).1).1, (k.pub b o (h.pub b o e).1).2.trans (h.pub b o e).2⟩
  keep b o e := ⟨(k.keep b o (h.keep b o e).1).1, (k.keep b o (h.keep b o e).1).2.1.trans (h.keep b o e).2.1, (k.keep b o (h.keep b o e).1).2.2.trans (h.keep b o e).2.2⟩
  loc id x e := k.loc id x (h.loc id x e)
  top id m e := by
    obtain ⟨m1, e1, l1, d1⟩ := h.top id m e
    obtain ⟨m2, e2, l2, d2⟩ := k.top id m1 e1
    refine ⟨m2, e2, by omega, fun q => ?_⟩
    rw [d2 (by omega), d1 (by omega)]
  mloc id x e := k.mloc id x (h.mloc id x e)
  tg id x e := k.tg id x (h.tg id x e)
  size := Nat.le_trans h.size k.size

theorem LExt.refl (κ : Conc) : LExt κ κ := fun _ m b h => ⟨m, b, h, Nat.le_refl _, fun _ => rfl⟩
theorem LExt.trans {κ κ' κ'' : Conc} (h : LExt κ κ') (k : LExt κ' κ'') : LExt κ κ'' := fun s m b e => by
  obtain ⟨m1, b1, e1, l1, d1⟩ := h s m b e
  obtain ⟨m2, b2, e2, l2, d2⟩ := k s m1 b1 e1
  exact ⟨m2, b2, e2, by omega, fun q => by rw [d2 (by omega), d1 (by omega)]⟩

theorem OwnOk.mono0 {κ κ' : Conc} {w w' : World} (h : Ext0 κ w κ' w') {own : Own} {n : Nat} {v : Value} (k : OwnOk κ own n v) : OwnOk κ' own n v := by
  cases own with
  | view => trivial
  | full => exact k
  | tok id =>
    obtain ⟨m, e, l, d⟩ := k
    obtain ⟨m', e', l', d'⟩ := h.top id m e
    exact ⟨m', e', by omega, fun q => by rw [d' (by omega)]; exact d (by omega)⟩

theorem Rep.mono0 {κ κ' : Conc} {w w' : World} (h : Ext0 κ w κ' w') {a : AV} {v : Value} (k : Rep κ w a v) : Rep κ' w' a v := by
  induction k with
  | any v hv => exact .any v hv
  | int k n => exact .int k n
  | bool b => exact .bool b
  | str l => exact .str l
  | nilp => exact .nilp
  | agg cs vs hl h1 _ ih => exact .agg cs vs hl h1 ih
  | tuple cs vs hl _ ih => exact .tuple cs vs hl ih
  | ptr cs off tag b o f h1 hc _ ht ih =>
    exact .ptr cs off tag b o f h1 (fun i hi => ⟨(h.pub _ _ (hc i hi).1).1, (h.pub _ _ (hc i hi).1).2.trans (hc i hi).2⟩) ih fun t e => h.tg _ _ (ht t e)
  | slice es own a cap b o sz f ha hcap hs hz h1 hc _ ho ih =>
    exact .slice es own a cap b o sz f ha hcap hs hz h1 (fun i hi => ⟨(h.pub _ _ (hc i hi).1).1, (h.pub _ _ (hc i hi).1).2.trans (hc i hi).2⟩) ih (ho.mono0 h)
  | ref id off b o e => exact .ref id off b o (h.loc _ _ e)
  | vec id len m a cap ht hl hv =>
    obtain ⟨m', e', l', d'⟩ := h.top id m ht
    exact .vec id len m' a cap e' (by omega) fun q => by rw [d' (by omega)]; exact hv (by omega)
  | func f cap vs hl _ ih => exact .func f cap vs hl ih
  | map id b e => exact .map id b (h.mloc _ _ e)

theorem Rep.mono {κ κ' : Conc} {w w' : World} (h : Ext κ w κ' w') {a : AV} {v : Value} (k : Rep κ w a v) : Rep κ' w' a v := k.mono0 h.to0

theorem TRep.mono {κ κ' : Conc} {w w' : World} (h : Ext κ w κ' w') (hl : LExt κ κ') {a : TV} {v : Value} (k : TRep κ w a v) : TRep κ' w' a v := by
  cases a with
  | undef => trivial
  | no => exact k
  | v a => exact Rep.mono h k
  | loc s ver off =>
    obtain ⟨m, b, e, l, d, p⟩ := k
    obtain ⟨m', b', e', l', d'⟩ := hl s m b e
    exact ⟨m', b', e', by omega, fun q => by rw [d' (by omega)]; exact d (by omega), p⟩
  | vat id len off =>
    obtain ⟨m, e, l, d, p⟩ := k
    obtain ⟨m', e', l', d'⟩ := h.top id m e
    refine ⟨m', e', by omega, fun q => ?_, p⟩
    obtain ⟨b, o, cap, e1, e2⟩ := d (by omega)
    have : m' = m := by omega
    subst this
    exact ⟨b, o, cap, by rw [d' rfl]; exact e1, e2⟩

/-! ### The heap's objects -/
def Cells (κ : Conc) (w : World) (own : Owner) (b o : Nat) (cs : List AV) : Prop :=
  ∃ f : Nat → Value, (∀ c ∈ cs, c.one = true) ∧ (∀ i, i < cs.length → κ.ow b (o + i) = own ∧ w.cell? (ad b (o + i)) = some (f i)) ∧ ∀ i c, cs[i]? = some c → Rep κ w c (f i)

/-- A block of cells, not empty, no byte of which a string shares. -/
def PlainBlock (w : World) (b : Nat) : Prop := ∃ (c : Array Value) (e : TypeId), w.heap[b]? = some (.cells c e (0, 0)) ∧ c.size ≠ 0

def ObjOk (κ : Conc) (w : World) (id : Nat) : HObj → Prop
  | .cells cs => ∃ b o, κ.loc id = some (b, o) ∧ Cells κ w (.obj id) b o cs ∧ belowL id cs = true
  | .top n sz => κ.top id = some n ∧ ∃ a cap, κ.hdr id = some (.slice a n cap) ∧ n ≤ cap ∧
      (n * sz < cap * sz → ∃ b o, a = some (ad b o) ∧ ∀ j, n * sz ≤ j → j < cap * sz → κ.ow b (o + j) = .obj id ∧ ∃ u, w.cell? (ad b (o + j)) = some u)
  | .vec cs sz => ∃ n a cap, cs.length = n * sz ∧ κ.top id = some n ∧ κ.hdr id = some (.slice a n cap) ∧ n ≤ cap ∧ belowL id cs = true ∧
      (0 < cap * sz → ∃ b o, a = some (ad b o) ∧ Cells κ w (.obj id) b o cs ∧ ∀ j, n * sz ≤ j → j < cap * sz → κ.ow b (o + j) = .obj id ∧ ∃ u, w.cell? (ad b (o + j)) = some u)
  | .tag => ∃ b o, κ.tg id = some (b, o) ∧ κ.ow b o = .pub ∧ PlainBlock w b
  | .map es => ∃ (b clock : Nat) (ents : Array MapEntry), κ.mloc id = some b ∧ w.heap[b]? = some (.map ents clock) ∧ ents.size = es.length ∧ (∀ e ∈ es, Eng.below id e.1 = true ∧ Eng.below id e.2 = true) ∧
      ∀ (i : Nat) (e : AV × AV), es[i]? = some e → ∃ u : MapEntry, ents[i]? = some u ∧ Rep κ w e.1 u.key ∧ Rep κ w e.2 u.val

structure Inv (W : World) (κ : Conc) (w : World) (L : Nat → Option (Nat × List AV)) (H : List HObj) : Prop where
  below : Below W.heap.size W w
  lt : ∀ b o, κ.ow b o ≠ .none → b < w.heap.size
  own : ∀ b o, ((∃ id, κ.ow b o = .obj id) ∨ ∃ s, κ.ow b o = .loc s) → W.heap.size ≤ b ∧ w.frozen? (ad b o) = false
  mine : ∀ id b, κ.mloc id = some b → W.heap.size ≤ b ∧ b < w.heap.size
  minj : ∀ i j b, κ.mloc i = some b → κ.mloc j = some b → i = j
  objs : ∀ id x, H[id]? = some x → ObjOk κ w id x
  past : ∀ id, H.length ≤ id → κ.loc id = none ∧ κ.top id = none ∧ κ.mloc id = none ∧ κ.tg id = none
  tgs : ∀ (i : Nat) x, κ.tg i = some x → H[i]? = some .tag
  tags : ∀ i j x, κ.tg i = some x → κ.tg j = some x → i = j
  locs : ∀ s ver cs, L s = some (ver, cs) → ∃ b, κ.lloc s = some (ver, b) ∧ Cells κ w (.loc s) b 0 cs
  nolocs : ∀ s, L s = none → κ.lloc s = none

end Go.Proofs.Ytnjaagfhaooapaa.Eng
