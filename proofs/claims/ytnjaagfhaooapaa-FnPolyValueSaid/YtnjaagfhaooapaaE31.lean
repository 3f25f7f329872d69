/- ENGINE 31: more rules of evaluation: literals, slices, appends. -/
import Derived.Test.YtnjaagfhaooapaaE30
namespace Go.Proofs.Ytnjaagfhaooapaa.Eng
set_option linter.unusedVariables false
set_option linter.unusedSimpArgs false
set_option linter.unnecessarySimpa false
set_option linter.constructorNameAsVariable false
open Go

@[go_sem] theorem ofV_int (k : IntKind) (m : Int) : ofV (.int k m) = .int k m := rfl
@[go_sem] theorem ofV_bool (b : Bool) : ofV (.bool b) = .bool b := rfl
@[go_sem] theorem ofV_str (s : ByteArray) : ofV (.string s) = .str s.data.toList := rfl
@[go_sem] theorem ofV_nilp : ofV (.pointer none) = .nilp := rfl
@[go_sem] theorem ofV_nils : ofV (.slice none 0 0) = .slice [] .full := rfl

/-- Each element has so many cells. -/
def Sz (n : Nat) (xs : List AV) : Prop := ∀ c ∈ xs, c.cells.length = n
instance (n : Nat) (xs : List AV) : Decidable (Sz n xs) := inferInstanceAs (Decidable (∀ c ∈ xs, c.cells.length = n))
theorem sz_iff (n : Nat) (xs : List AV) : (∀ c ∈ xs, c.cells.length = n) = Sz n xs := rfl
@[go_sem] theorem Sz_nil (n : Nat) : Sz n [] = True := by simp [Sz]
@[go_sem] theorem Sz_cons (n : Nat) (c : AV) (xs : List AV) : Sz n (c :: xs) = (c.cells.length = n ∧ Sz n xs) := by simp [Sz]
@[go_sem] theorem Sz_append (n : Nat) (xs ys : List AV) : Sz n (xs ++ ys) = (Sz n xs ∧ Sz n ys) := by
  simp only [Sz, List.mem_append, eq_iff_iff]
  exact ⟨fun h => ⟨fun c hc => h c (.inl hc), fun c hc => h c (.inr hc)⟩, fun h c hc => hc.elim (h.1 c) (h.2 c)⟩
theorem Sz.take {n : Nat} {xs : List AV} (h : Sz n xs) (k : Nat) : Sz n (xs.take k) := fun c hc => h c (List.mem_of_mem_take hc)
theorem Sz.drop {n : Nat} {xs : List AV} (h : Sz n xs) (k : Nat) : Sz n (xs.drop k) := fun c hc => h c (List.mem_of_mem_drop hc)
theorem Sz.map {α : Type} {n : Nat} {g : α → AV} (h : ∀ a, (g a).cells.length = n) (l : List α) : Sz n (l.map g) := fun c hc => by
  obtain ⟨a, _, rfl⟩ := List.mem_map.1 hc
  exact h a

section
variable (t : Nat → TV) (L : Nat → Option (Nat × List AV)) (H : List HObj)

@[go_sem] theorem fillA_nil (place : Nat → Option (Nat × Nat)) (cells : List AV) : fillA place cells [] = some cells := by simp [fillA]
@[go_sem] theorem fillA_cons (place : Nat → Option (Nat × Nat)) (cells : List AV) (i : Nat) (x : AV) (r : List (Nat × AV)) :
    fillA place cells ((i, x) :: r) = bindK (place i) fun p => if x.cells.length = p.2 ∧ p.2 ≠ 0 ∧ p.1 + p.2 ≤ cells.length then fillA place (splice cells p.1 x.cells) r else none := by
  simp only [fillA, bindK]
  cases place i <;> rfl

/-- What is built of parts. -/
def buildK (P : Program) (T : TypeId) (zs : List AV) (ps : List (Nat × AV)) : Option (Nat × TypeId) → Option AV
  | some (_, e) => bindK (tinfo P e) fun ei => bindK (fillA (fun i => some (i * ei.size, ei.size)) zs ps) fun cs => some (.agg cs)
  | none => if isStructT P T then bindK (fillA (partAtT P T) zs ps) fun cs => some (.agg cs) else none
@[go_sem] theorem buildK_arr (P : Program) (T : TypeId) (zs : List AV) (ps : List (Nat × AV)) (m : Nat) (e : TypeId) : buildK P T zs ps (some (m, e)) = bindK (tinfo P e) fun ei => bindK (fillA (fun i => some (i * ei.size, ei.size)) zs ps) fun cs => some (.agg cs) := rfl
@[go_sem] theorem buildK_struct (P : Program) (T : TypeId) (zs : List AV) (ps : List (Nat × AV)) : buildK P T zs ps none = if isStructT P T then bindK (fillA (partAtT P T) zs ps) fun cs => some (.agg cs) else none := rfl
@[go_sem] theorem abuild_eq (P : Program) (T : TypeId) (ps : List (Nat × AV)) : abuild P T ps = bindK (tinfo P T) fun ti => buildK P T (ti.zero.map ofV) ps (arrT P T) := by
  simp only [abuild, bindK]
  cases tinfo P T with
  | none => rfl
  | some ti =>
    cases arrT P T with
    | none => rfl
    | some q => rfl

/-- The parts of a slice's literal, numbered. -/
def numbered (n sz : Nat) : Nat → List (Nat × AV) → Bool
  | i, [] => i == n
  | i, (j, x) :: r => j == i && x.cells.length == sz && numbered n sz (i + 1) r
@[go_sem] theorem numbered_nil (n sz i : Nat) : numbered n sz i [] = (i == n) := rfl
@[go_sem] theorem numbered_cons (n sz i j : Nat) (x : AV) (r : List (Nat × AV)) : numbered n sz i ((j, x) :: r) = (j == i && x.cells.length == sz && numbered n sz (i + 1) r) := rfl

theorem numbered_spec (n sz : Nat) : ∀ (i : Nat) (r : List (Nat × AV)), numbered n sz i r = (decide (i + r.length = n) && (r.map (·.1) == (List.range r.length).map (i + ·)) && r.all fun p => p.2.cells.length == sz)
  | i, [] => by rw [Bool.eq_iff_iff]; simp [numbered]
  | i, (j, x) :: r => by
    simp only [numbered, numbered_spec n sz (i + 1) r, List.length_cons, List.map_cons, List.all_cons, List.range_succ_eq_map, List.map_map]
    have e1 : i + 1 + r.length = i + (r.length + 1) := by omega
    have e2 : (fun x => i + x) ∘ Nat.succ = fun x => i + 1 + x := by funext x; simp; omega
    rw [e1, e2]
    rw [Bool.eq_iff_iff]
    simp only [Bool.and_eq_true, decide_eq_true_eq, beq_iff_eq, List.cons.injEq, Nat.add_zero]
    constructor
    · rintro ⟨⟨h1, h2⟩, ⟨h3, h4⟩, h5⟩; exact ⟨⟨h3, h1, h4⟩, h2, h5⟩
    · rintro ⟨⟨h3, h1, h4⟩, h2, h5⟩; exact ⟨⟨h1, h2⟩, ⟨h3, h4⟩, h5⟩

@[go_sem] theorem inParts_eq (xs : List (Nat × AV)) (n sz : Nat) : inParts xs n sz = (sz != 0 && numbered n sz 0 xs) := by
  rw [numbered_spec]
  simp only [inParts]
  rw [Bool.eq_iff_iff]
  simp only [Bool.and_eq_true, decide_eq_true_eq, beq_iff_eq, bne_iff_ne, Nat.zero_add, List.map_id']
  constructor
  · rintro ⟨⟨⟨h1, h2⟩, h3⟩, h4⟩; subst h2; exact ⟨h1, ⟨rfl, h3⟩, h4⟩
  · rintro ⟨h1, ⟨h2, h3⟩, h4⟩; subst h2; exact ⟨⟨⟨h1, rfl⟩, h3⟩, h4⟩

@[go_sem] theorem newSlice_dflt (es : List AV) (sz : Nat) (d : Own) : newSlice .dflt ⟨t, L, H⟩ es sz d = ⟨some (.v (.slice es d)), L, H, .pure⟩ := rfl
@[go_sem] theorem newSlice_tok (es : List AV) (sz : Nat) (d : Own) : newSlice .tok ⟨t, L, H⟩ es sz d = ⟨some (.v (.slice es (.tok H.length))), L, H ++ [.top es.length sz], .gw⟩ := rfl
@[go_sem] theorem newSlice_vec (es : List AV) (sz : Nat) (d : Own) : newSlice .vec ⟨t, L, H⟩ es sz d = ⟨some (.v (.vec H.length es.length)), L, H ++ [.vec (es.flatMap AV.cells) sz], .gw⟩ := rfl

@[go_sem] theorem bound_none (ρ : Operand → TV) (d : Int) : bound ρ d none = some d := rfl
@[go_sem] theorem bound_some (ρ : Operand → TV) (d : Int) (x : Operand) : bound ρ d (some x) = intK (ρ x) some := by
  simp only [bound, intK]
  cases ρ x with
  | v a => cases a <;> rfl
  | _ => rfl
@[go_sem] theorem slice_str (P : Program) (ρ : Operand → TV) (T : TypeId) (l : List UInt8) (lo hi : Option Operand) :
    aslice P ρ ⟨t, L, H⟩ T (.v (.str l)) lo hi = if isStrT P T then bindK (bound ρ 0 lo) fun a => bindK (bound ρ l.length hi) fun b => if 0 ≤ a ∧ a ≤ b ∧ b ≤ l.length then some ⟨some (.v (.str ((l.drop a.toNat).take (b.toNat - a.toNat)))), L, H, .pure⟩ else none else none := by
  simp only [aslice, bindK, value]
  cases bound ρ 0 lo <;> cases bound ρ (l.length : Int) hi <;> rfl
@[go_sem] theorem slice_slice (P : Program) (ρ : Operand → TV) (T : TypeId) (es : List AV) (own : Own) (lo hi : Option Operand) :
    aslice P ρ ⟨t, L, H⟩ T (.v (.slice es own)) lo hi = bindK (sliceT P T) fun e => bindK (bound ρ 0 lo) fun a => bindK (bound ρ es.length hi) fun b => bindK (tinfo P e) fun ti =>
      if 0 ≤ a ∧ a ≤ b ∧ b ≤ es.length ∧ (a = 0 ∨ Sz ti.size es) then some ⟨some (.v (.slice ((es.drop a.toNat).take (b.toNat - a.toNat)) .view)), L, H, .pure⟩ else none := by
  simp only [aslice, bindK, value, ← sz_iff]
  cases sliceT P T with
  | none => rfl
  | some e =>
    cases bound ρ 0 lo <;> cases bound ρ (es.length : Int) hi <;> simp only
    cases tinfo P e <;> rfl

@[go_sem] theorem aappK_eq (P : Program) (mode : Mode) (T U : TypeId) (s x : AV) : aappK P mode ⟨t, L, H⟩ (some T) (some U) [.v s, .v x] = if (sliceT P U).isSome then aappend P mode ⟨t, L, H⟩ T s x else none := rfl
@[go_sem] theorem app_full (P : Program) (mode : Mode) (T : TypeId) (es xs : List AV) (o : Own) :
    aappend P mode ⟨t, L, H⟩ T (.slice es .full) (.slice xs o) = bindK (sliceT P T) fun e => bindK (tinfo P e) fun ti => if ti.bytes ≤ 128 ∧ ti.size ≠ 0 ∧ Sz ti.size xs ∧ es.length + xs.length ≤ lim ∧ Sz ti.size es ∧ (mode = .vec → es = []) then some (newSlice mode ⟨t, L, H⟩ (es ++ xs) ti.size .view) else none := by
  simp only [aappend, bindK]
  cases sliceT P T with
  | none => rfl
  | some e =>
    simp only
    cases tinfo P e with
    | none => rfl
    | some ti =>
      simp only
      split
      · rename_i h1
        split
        · rename_i h2
          rw [if_pos ⟨h1.1, h1.2.1, h1.2.2, h2.1, h2.2.1, h2.2.2⟩]
        · rename_i h2
          rw [if_neg (fun h => h2 h.2.2.2)]
      · rename_i h1
        rw [if_neg (fun h => h1 ⟨h.1, h.2.1, h.2.2.1⟩)]
/-- The top of a token. -/
def topK {α : Type} (x : Option HObj) (k : Nat → Nat → Option α) : Option α := match x with
  | some (.top n sz) => k n sz
  | _ => none
@[congr] theorem topK_congr {α : Type} {x y : Option HObj} {k : Nat → Nat → Option α} (h : x = y) : topK x k = topK y k := by rw [h]
@[go_sem] theorem topK_some {α : Type} (n sz : Nat) (k : Nat → Nat → Option α) : topK (some (.top n sz)) k = k n sz := rfl
@[go_sem] theorem app_tok (P : Program) (mode : Mode) (T : TypeId) (es xs : List AV) (id : Nat) (o : Own) :
    aappend P mode ⟨t, L, H⟩ T (.slice es (.tok id)) (.slice xs o) = bindK (sliceT P T) fun e => bindK (tinfo P e) fun ti => topK (H[id]?) fun n sz => if ti.bytes ≤ 128 ∧ ti.size ≠ 0 ∧ Sz ti.size xs ∧ es.length = n ∧ sz = ti.size ∧ es.length + xs.length ≤ lim ∧ Sz ti.size es then some ⟨some (.v (.slice (es ++ xs) (.tok id))), L, H.set id (.top (n + xs.length) sz), .gw⟩ else none := by
  simp only [aappend, bindK, topK]
  cases sliceT P T with
  | none => rfl
  | some e =>
    simp only
    cases tinfo P e with
    | none => rfl
    | some ti =>
      simp only
      split
      · rename_i h1
        cases H[id]? with
        | none => rfl
        | some o =>
          cases o with
          | top n sz =>
            simp only
            split
            · rename_i h2
              rw [if_pos ⟨h1.1, h1.2.1, h1.2.2, h2⟩]
            · rename_i h2
              rw [if_neg (fun h => h2 h.2.2.2)]
          | _ => rfl
      · rename_i h1
        cases H[id]? with
        | none => rfl
        | some o =>
          cases o with
          | top n sz => simp only; rw [if_neg (fun h => h1 ⟨h.1, h.2.1, h.2.2.1⟩)]
          | _ => rfl
@[go_sem] theorem app_vec (P : Program) (mode : Mode) (T : TypeId) (len : Nat) (xs : List AV) (id : Nat) (o : Own) :
    aappend P mode ⟨t, L, H⟩ T (.vec id len) (.slice xs o) = bindK (sliceT P T) fun e => bindK (tinfo P e) fun ti => vecK (H[id]?) fun cs sz => if ti.bytes ≤ 128 ∧ ti.size ≠ 0 ∧ Sz ti.size xs ∧ cs.length = len * sz ∧ sz = ti.size ∧ len + xs.length ≤ lim ∧ belowL id xs = true then some ⟨some (.v (.vec id (len + xs.length))), L, H.set id (.vec (cs ++ xs.flatMap AV.cells) sz), .gw⟩ else none := by
  simp only [aappend, bindK, vecK]
  cases sliceT P T with
  | none => rfl
  | some e =>
    simp only
    cases tinfo P e with
    | none => rfl
    | some ti =>
      simp only
      split
      · rename_i h1
        cases H[id]? with
        | none => rfl
        | some o =>
          cases o with
          | vec n sz =>
            simp only
            split
            · rename_i h2
              rw [if_pos ⟨h1.1, h1.2.1, h1.2.2, h2⟩]
            · rename_i h2
              rw [if_neg (fun h => h2 h.2.2.2)]
          | _ => rfl
      · rename_i h1
        cases H[id]? with
        | none => rfl
        | some o =>
          cases o with
          | vec n sz => simp only; rw [if_neg (fun h => h1 ⟨h.1, h.2.1, h.2.2.1⟩)]
          | _ => rfl

@[go_sem] theorem conv_int (P : Program) (S D : TypeId) (k : IntKind) (m : Int) : aconvert P S D (.int k m) = if hasT P S then (kindT P D).map fun k => .int k (k.wrap m) else none := rfl
end

@[go_sem] theorem bin_xor (P : Program) (T : TypeId) (k : IntKind) (a b : Int) : abin P .xor T (.int k a) (.int k b) = some (.int k (k.wrap (BitVec.ofInt k.bits a ^^^ BitVec.ofInt k.bits b).toNat)) := by simp [abin]

/-! ### The heap -/
@[go_sem] theorem take_set_self {α : Type} (l : List α) (i : Nat) (x : α) : (l.set i x).take l.length = l.set i x := List.take_of_length_le (by simp)
@[go_sem] theorem take_app_self {α : Type} (l m : List α) : (l ++ m).take l.length = l := by simp
@[go_sem] theorem get_set_self {α : Type} (l : List α) (i : Nat) (x : α) (h : i < l.length) : (l.set i x)[i]? = some x := by simp [h]
@[go_sem] theorem set_app_self {α : Type} (l : List α) (x y : α) (m : List α) : (l ++ x :: m).set l.length y = l ++ y :: m := by simp
@[go_sem] theorem get_app_self {α : Type} (l : List α) (x : α) (m : List α) : (l ++ x :: m)[l.length]? = some x := by simp
attribute [go_sem] decide_eq_true decide_eq_false false_implies true_implies Nat.mul_one Nat.one_mul true_or or_true false_or or_false not_true_eq_false not_false_eq_true Nat.sub_zero List.flatMap_nil Int.sub_zero and_self Int.add_sub_cancel Int.sub_add_cancel Int.zero_add Int.add_zero Nat.zero_add Nat.add_zero Nat.zero_mul Int.toNat_natCast Int.toNat_zero List.length_set List.length_append List.set_set

/-! ### Drawn regions -/
section
variable {E : Env} {f : FuncId} {n : Nat}
theorem wopsT_nil (ops : Array Oper) (σ : St) (Q : St → List Tr → Prop) : wopsT E f n ops [] σ Q = Q σ [] := rfl

theorem wopsT_put (ops : Array Oper) (d : Nat) (op : Op) (ty : TypeId) (pos : String) (after : Array Edge) (l : List Oper) (t : Nat → TV) (L : Nat → Option (Nat × List AV)) (H : List HObj) (Q : St → List Tr → Prop) :
    wopsT E f n ops (⟨some d, op, ty, pos, after, none⟩ :: l) ⟨t, L, H⟩ Q = optK (aopC E.P (E.md f) (acall E) ⟨some d, op, ty, pos, after, none⟩ (evalO t) ⟨t, L, H⟩) fun u => d < n ∧ wopsT E f n ops l ⟨upd t d (u.val.getD .undef), u.L, u.H⟩ (fun σ' ts => Q σ' (mkTr u.acc H u.H :: ts)) := by
  unfold wopsT
  simp only [runOpsT, stepOp, wantedA]
  cases aopC E.P (E.md f) (acall E) ⟨some d, op, ty, pos, after, none⟩ (evalO t) ⟨t, L, H⟩ with
  | none => rfl
  | some u =>
    by_cases hd : d < n
    · simp only [putD, hd, if_true, optK_some, true_and]
      cases runOpsT E.P (E.md f) n (acall E) ops l ⟨upd t d (u.val.getD .undef), u.L, u.H⟩ <;> rfl
    · simp [putD, hd]

theorem wopsT_do (ops : Array Oper) (op : Op) (ty : TypeId) (pos : String) (after : Array Edge) (l : List Oper) (t : Nat → TV) (L : Nat → Option (Nat × List AV)) (H : List HObj) (Q : St → List Tr → Prop) :
    wopsT E f n ops (⟨none, op, ty, pos, after, none⟩ :: l) ⟨t, L, H⟩ Q = optK (aopC E.P (E.md f) (acall E) ⟨none, op, ty, pos, after, none⟩ (evalO t) ⟨t, L, H⟩) fun u => wopsT E f n ops l ⟨t, u.L, u.H⟩ (fun σ' ts => Q σ' (mkTr u.acc H u.H :: ts)) := by
  unfold wopsT
  simp only [runOpsT, stepOp, wantedA]
  cases aopC E.P (E.md f) (acall E) ⟨none, op, ty, pos, after, none⟩ (evalO t) ⟨t, L, H⟩ with
  | none => rfl
  | some u =>
    simp only [putD, optK_some]
    cases runOpsT E.P (E.md f) n (acall E) ops l ⟨t, u.L, u.H⟩ <;> rfl

theorem wopsT_want (ops : Array Oper) (j : Nat) (want : Bool) (d : Nat) (op : Op) (ty : TypeId) (pos : String) (after : Array Edge) (l : List Oper) (t : Nat → TV) (L : Nat → Option (Nat × List AV)) (H : List HObj) (Q : St → List Tr → Prop)
    (hg : guardV ops j t = .v (.bool want)) :
    wopsT E f n ops (⟨some d, op, ty, pos, after, some (j, want)⟩ :: l) ⟨t, L, H⟩ Q = 
      (optK (aopC E.P (E.md f) (acall E) ⟨some d, op, ty, pos, after, some (j, want)⟩ (evalO t) ⟨t, L, H⟩) fun u => d < n ∧ wopsT E f n ops l ⟨upd t d (u.val.getD .undef), u.L, u.H⟩ (fun σ' ts => Q σ' (mkTr u.acc H u.H :: ts))) := by
  have hw : wantedA ops t ⟨some d, op, ty, pos, after, some (j, want)⟩ = some true := by rw [wantedA_of, hg]; simp
  unfold wopsT
  simp only [runOpsT, stepOp, hw]
  cases aopC E.P (E.md f) (acall E) ⟨some d, op, ty, pos, after, some (j, want)⟩ (evalO t) ⟨t, L, H⟩ with
  | none => rfl
  | some u =>
    by_cases hd : d < n
    · simp only [putD, hd, if_true, optK_some, true_and]
      cases runOpsT E.P (E.md f) n (acall E) ops l ⟨upd t d (u.val.getD .undef), u.L, u.H⟩ <;> rfl
    · simp [putD, hd]

theorem wopsT_not {ops : Array Oper} {j : Nat} {want : Bool} {d : Nat} {op : Op} {ty : TypeId} {pos : String} {after : Array Edge} {l : List Oper} {t : Nat → TV} {L : Nat → Option (Nat × List AV)} {H : List HObj} {Q : St → List Tr → Prop}
    (hw : wantedA ops t ⟨some d, op, ty, pos, after, some (j, want)⟩ = some false) :
    wopsT E f n ops (⟨some d, op, ty, pos, after, some (j, want)⟩ :: l) ⟨t, L, H⟩ Q = (d < n ∧ wopsT E f n ops l ⟨upd t d .no, L, H⟩ (fun σ' ts => Q σ' (mkTr .pure H H :: ts))) := by
  unfold wopsT
  simp only [runOpsT, stepOp, hw]
  by_cases hd : d < n
  · simp only [hd, if_true, optK_some, true_and]
    cases runOpsT E.P (E.md f) n (acall E) ops l ⟨upd t d .no, L, H⟩ <;> rfl
  · simp [hd]

/-- A drawn region: with no pairs to look at it runs plainly. -/
def drawK (E : Env) (f : FuncId) (n : Nat) (ops : Array Oper) (σ : St) (Q : AEx → St → Prop) (ps : List (Nat × Nat)) : Prop := wopsT E f n ops ops.toList σ (fun σ' l => commAll l ps ∧ Q .normal σ')
theorem wp_drawn (id : Nat) (ops : Array Oper) (σ : St) (Q : AEx → St → Prop) : wp E f n (.region id ops true) σ Q = optK (pairsAt E.P f id) (drawK E f n ops σ Q) := by
  cases hp : pairsAt E.P f id with
  | some ps => exact wp_draw hp σ Q
  | none =>
    unfold wp
    rw [aexec_draw, hp]
    rfl
theorem drawK_nil (ops : Array Oper) (σ : St) (Q : AEx → St → Prop) : drawK E f n ops σ Q [] = wops E f n ops ops.toList σ (Q .normal) := by
  unfold drawK wops wopsT
  rw [← runOpsT_fst]
  cases runOpsT E.P (E.md f) n (acall E) ops ops.toList σ with
  | none => rfl
  | some r =>
    obtain ⟨σ', l⟩ := r
    have : commAll l [] := fun p hp => by simp at hp
    simp [this]
theorem drawK_cons (ops : Array Oper) (σ : St) (Q : AEx → St → Prop) (p : Nat × Nat) (ps : List (Nat × Nat)) : drawK E f n ops σ Q (p :: ps) = wopsT E f n ops ops.toList σ (fun σ' l => commAll l (p :: ps) ∧ Q .normal σ') := rfl

/-- With what was touched so far, the last first. -/
def wopsR (E : Env) (f : FuncId) (n : Nat) (ops : Array Oper) (l : List Oper) (σ : St) (acc : List Tr) (Q : St → List Tr → Prop) : Prop := wopsT E f n ops l σ fun σ' ts => Q σ' (List.reverseAux acc ts)
theorem wopsR_start (ops : Array Oper) (σ : St) (Q : AEx → St → Prop) (p : Nat × Nat) (ps : List (Nat × Nat)) : drawK E f n ops σ Q (p :: ps) = wopsR E f n ops ops.toList σ [] (fun σ' l => commAll l (p :: ps) ∧ Q .normal σ') := rfl
theorem wopsR_nil (ops : Array Oper) (σ : St) (acc : List Tr) (Q : St → List Tr → Prop) : wopsR E f n ops [] σ acc Q = Q σ (List.reverseAux acc []) := rfl
theorem wopsR_put (ops : Array Oper) (d : Nat) (op : Op) (ty : TypeId) (pos : String) (after : Array Edge) (l : List Oper) (t : Nat → TV) (L : Nat → Option (Nat × List AV)) (H : List HObj) (acc : List Tr) (Q : St → List Tr → Prop) :
    wopsR E f n ops (⟨some d, op, ty, pos, after, none⟩ :: l) ⟨t, L, H⟩ acc Q = optK (aopC E.P (E.md f) (acall E) ⟨some d, op, ty, pos, after, none⟩ (evalO t) ⟨t, L, H⟩) fun u => d < n ∧ wopsR E f n ops l ⟨upd t d (u.val.getD .undef), u.L, u.H⟩ (mkTr u.acc H u.H :: acc) Q := by
  unfold wopsR; rw [wopsT_put]; rfl
theorem wopsR_do (ops : Array Oper) (op : Op) (ty : TypeId) (pos : String) (after : Array Edge) (l : List Oper) (t : Nat → TV) (L : Nat → Option (Nat × List AV)) (H : List HObj) (acc : List Tr) (Q : St → List Tr → Prop) :
    wopsR E f n ops (⟨none, op, ty, pos, after, none⟩ :: l) ⟨t, L, H⟩ acc Q = optK (aopC E.P (E.md f) (acall E) ⟨none, op, ty, pos, after, none⟩ (evalO t) ⟨t, L, H⟩) fun u => wopsR E f n ops l ⟨t, u.L, u.H⟩ (mkTr u.acc H u.H :: acc) Q := by
  unfold wopsR; rw [wopsT_do]; rfl
theorem wopsR_want (ops : Array Oper) (j : Nat) (want : Bool) (d : Nat) (op : Op) (ty : TypeId) (pos : String) (after : Array Edge) (l : List Oper) (t : Nat → TV) (L : Nat → Option (Nat × List AV)) (H : List HObj) (acc : List Tr) (Q : St → List Tr → Prop)
    (hg : guardV ops j t = .v (.bool want)) :
    wopsR E f n ops (⟨some d, op, ty, pos, after, some (j, want)⟩ :: l) ⟨t, L, H⟩ acc Q =
      (optK (aopC E.P (E.md f) (acall E) ⟨some d, op, ty, pos, after, some (j, want)⟩ (evalO t) ⟨t, L, H⟩) fun u => d < n ∧ wopsR E f n ops l ⟨upd t d (u.val.getD .undef), u.L, u.H⟩ (mkTr u.acc H u.H :: acc) Q) := by
  unfold wopsR; rw [wopsT_want _ _ _ _ _ _ _ _ _ _ _ _ _ hg]; rfl
theorem wopsR_unwant (ops : Array Oper) (j : Nat) (want : Bool) (d : Nat) (op : Op) (ty : TypeId) (pos : String) (after : Array Edge) (l : List Oper) (t : Nat → TV) (L : Nat → Option (Nat × List AV)) (H : List HObj) (acc : List Tr) (Q : St → List Tr → Prop)
    (hg : guardV ops j t = .v (.bool !want)) :
    wopsR E f n ops (⟨some d, op, ty, pos, after, some (j, want)⟩ :: l) ⟨t, L, H⟩ acc Q = (d < n ∧ wopsR E f n ops l ⟨upd t d .no, L, H⟩ (⟨.pure, [], []⟩ :: acc) Q) := by
  unfold wopsR; rw [wopsT_not (by rw [wantedA_of, hg]; cases want <;> rfl)]; rfl
theorem wopsR_no (ops : Array Oper) (j : Nat) (want : Bool) (d : Nat) (op : Op) (ty : TypeId) (pos : String) (after : Array Edge) (l : List Oper) (t : Nat → TV) (L : Nat → Option (Nat × List AV)) (H : List HObj) (acc : List Tr) (Q : St → List Tr → Prop)
    (hg : guardV ops j t = .no) :
    wopsR E f n ops (⟨some d, op, ty, pos, after, some (j, want)⟩ :: l) ⟨t, L, H⟩ acc Q = (d < n ∧ wopsR E f n ops l ⟨upd t d .no, L, H⟩ (⟨.pure, [], []⟩ :: acc) Q) := by
  unfold wopsR; rw [wopsT_not (by rw [wantedA_of, hg])]; rfl
def drawQ (Q : AEx → St → Prop) (ps : List (Nat × Nat)) : St → List Tr → Prop := fun σ' l => commAll l ps ∧ Q .normal σ'
theorem drawQ_eq (Q : AEx → St → Prop) (ps : List (Nat × Nat)) (σ : St) (l : List Tr) : drawQ Q ps σ l = (commAll l ps ∧ Q .normal σ) := rfl
theorem wopsR_startK (ops : Array Oper) (σ : St) (Q : AEx → St → Prop) (p : Nat × Nat) (ps : List (Nat × Nat)) : drawK E f n ops σ Q (p :: ps) = wopsR E f n ops ops.toList σ [] (drawQ Q (p :: ps)) := rfl
def putR (E : Env) (f : FuncId) (n : Nat) (ops : Array Oper) (d : Nat) (l : List Oper) (t : Nat → TV) (H0 : List HObj) (acc : List Tr) (Q : St → List Tr → Prop) : Out → Prop := fun u => d < n ∧ wopsR E f n ops l ⟨upd t d (u.val.getD .undef), u.L, u.H⟩ (mkTr u.acc H0 u.H :: acc) Q
theorem putR_eq (ops : Array Oper) (d : Nat) (l : List Oper) (t : Nat → TV) (H0 : List HObj) (acc : List Tr) (Q : St → List Tr → Prop) (v : Option TV) (L : Nat → Option (Nat × List AV)) (H : List HObj) (c : Acc) : putR E f n ops d l t H0 acc Q ⟨v, L, H, c⟩ = (d < n ∧ wopsR E f n ops l ⟨upd t d (v.getD .undef), L, H⟩ (mkTr c H0 H :: acc) Q) := rfl
def doR (E : Env) (f : FuncId) (n : Nat) (ops : Array Oper) (l : List Oper) (t : Nat → TV) (H0 : List HObj) (acc : List Tr) (Q : St → List Tr → Prop) : Out → Prop := fun u => wopsR E f n ops l ⟨t, u.L, u.H⟩ (mkTr u.acc H0 u.H :: acc) Q
theorem doR_eq (ops : Array Oper) (l : List Oper) (t : Nat → TV) (H0 : List HObj) (acc : List Tr) (Q : St → List Tr → Prop) (v : Option TV) (L : Nat → Option (Nat × List AV)) (H : List HObj) (c : Acc) : doR E f n ops l t H0 acc Q ⟨v, L, H, c⟩ = wopsR E f n ops l ⟨t, L, H⟩ (mkTr c H0 H :: acc) Q := rfl
theorem wopsR_putK (ops : Array Oper) (d : Nat) (op : Op) (ty : TypeId) (pos : String) (after : Array Edge) (l : List Oper) (t : Nat → TV) (L : Nat → Option (Nat × List AV)) (H : List HObj) (acc : List Tr) (Q : St → List Tr → Prop) :
    wopsR E f n ops (⟨some d, op, ty, pos, after, none⟩ :: l) ⟨t, L, H⟩ acc Q = optK (aopC E.P (E.md f) (acall E) ⟨some d, op, ty, pos, after, none⟩ (evalO t) ⟨t, L, H⟩) (putR E f n ops d l t H acc Q) := wopsR_put ops d op ty pos after l t L H acc Q
theorem wopsR_doK (ops : Array Oper) (op : Op) (ty : TypeId) (pos : String) (after : Array Edge) (l : List Oper) (t : Nat → TV) (L : Nat → Option (Nat × List AV)) (H : List HObj) (acc : List Tr) (Q : St → List Tr → Prop) :
    wopsR E f n ops (⟨none, op, ty, pos, after, none⟩ :: l) ⟨t, L, H⟩ acc Q = optK (aopC E.P (E.md f) (acall E) ⟨none, op, ty, pos, after, none⟩ (evalO t) ⟨t, L, H⟩) (doR E f n ops l t H acc Q) := wopsR_do ops op ty pos after l t L H acc Q
def gdR (E : Env) (f : FuncId) (n : Nat) (ops : Array Oper) (o : Oper) (d : Nat) (l : List Oper) (t : Nat → TV) (L : Nat → Option (Nat × List AV)) (H : List HObj) (acc : List Tr) (Q : St → List Tr → Prop) : Bool → TV → Prop
  | true, .v (.bool true) => optK (aopC E.P (E.md f) (acall E) o (evalO t) ⟨t, L, H⟩) (putR E f n ops d l t H acc Q)
  | false, .v (.bool false) => optK (aopC E.P (E.md f) (acall E) o (evalO t) ⟨t, L, H⟩) (putR E f n ops d l t H acc Q)
  | true, .v (.bool false) => d < n ∧ wopsR E f n ops l ⟨upd t d .no, L, H⟩ (⟨.pure, [], []⟩ :: acc) Q
  | false, .v (.bool true) => d < n ∧ wopsR E f n ops l ⟨upd t d .no, L, H⟩ (⟨.pure, [], []⟩ :: acc) Q
  | _, .no => d < n ∧ wopsR E f n ops l ⟨upd t d .no, L, H⟩ (⟨.pure, [], []⟩ :: acc) Q
  | _, _ => False
section
variable (ops : Array Oper) (o : Oper) (d : Nat) (l : List Oper) (t : Nat → TV) (L : Nat → Option (Nat × List AV)) (H : List HObj) (acc : List Tr) (Q : St → List Tr → Prop)
theorem gdR_tt : gdR E f n ops o d l t L H acc Q true (.v (.bool true)) = optK (aopC E.P (E.md f) (acall E) o (evalO t) ⟨t, L, H⟩) (putR E f n ops d l t H acc Q) := rfl
theorem gdR_ff : gdR E f n ops o d l t L H acc Q false (.v (.bool false)) = optK (aopC E.P (E.md f) (acall E) o (evalO t) ⟨t, L, H⟩) (putR E f n ops d l t H acc Q) := rfl
theorem gdR_tf : gdR E f n ops o d l t L H acc Q true (.v (.bool false)) = (d < n ∧ wopsR E f n ops l ⟨upd t d .no, L, H⟩ (⟨.pure, [], []⟩ :: acc) Q) := rfl
theorem gdR_ft : gdR E f n ops o d l t L H acc Q false (.v (.bool true)) = (d < n ∧ wopsR E f n ops l ⟨upd t d .no, L, H⟩ (⟨.pure, [], []⟩ :: acc) Q) := rfl
theorem gdR_no (w : Bool) : gdR E f n ops o d l t L H acc Q w .no = (d < n ∧ wopsR E f n ops l ⟨upd t d .no, L, H⟩ (⟨.pure, [], []⟩ :: acc) Q) := by cases w <;> rfl
end
theorem wopsR_gdR (ops : Array Oper) (j : Nat) (want : Bool) (d : Nat) (op : Op) (ty : TypeId) (pos : String) (after : Array Edge) (l : List Oper) (t : Nat → TV) (L : Nat → Option (Nat × List AV)) (H : List HObj) (acc : List Tr) (Q : St → List Tr → Prop) :
    wopsR E f n ops (⟨some d, op, ty, pos, after, some (j, want)⟩ :: l) ⟨t, L, H⟩ acc Q = gdR E f n ops ⟨some d, op, ty, pos, after, some (j, want)⟩ d l t L H acc Q want (guardV ops j t) := by
  cases hg : guardV ops j t with
  | no => rw [wopsR_no _ _ _ _ _ _ _ _ _ _ _ _ _ _ hg, gdR_no]
  | v a =>
    cases a with
    | bool b =>
      cases want <;> cases b
      · exact wopsR_want _ _ _ _ _ _ _ _ _ _ _ _ _ _ hg
      · exact wopsR_unwant _ _ _ _ _ _ _ _ _ _ _ _ _ _ hg
      · exact wopsR_unwant _ _ _ _ _ _ _ _ _ _ _ _ _ _ hg
      · exact wopsR_want _ _ _ _ _ _ _ _ _ _ _ _ _ _ hg
    | _ =>
      unfold wopsR wopsT
      simp only [runOpsT, stepOp, wantedA_of, hg, optK_none]
      cases want <;> rfl
  | _ =>
    unfold wopsR wopsT
    simp only [runOpsT, stepOp, wantedA_of, hg, optK_none]
    cases want <;> rfl

theorem reverseAux_cons' {α : Type} (a : α) (l r : List α) : List.reverseAux (a :: l) r = List.reverseAux l (a :: r) := rfl
theorem reverseAux_nil' {α : Type} (r : List α) : List.reverseAux [] r = r := rfl

attribute [go_sem] reverseAux_cons' reverseAux_nil' wopsR_startK drawQ_eq wopsR_nil wopsR_putK putR_eq wopsR_doK doR_eq wopsR_gdR gdR_tt gdR_ff gdR_tf gdR_ft gdR_no wp_drawn drawK_nil

theorem commAll_nil (l : List Tr) : commAll l [] = True := by simp [commAll]
/-- Two of the list. -/
def commT (x y : Option Tr) : Prop := match x, y with
  | some a, some b => a.comm b
  | _, _ => False
theorem commAll_cons (l : List Tr) (i j : Nat) (ps : List (Nat × Nat)) : commAll l ((i, j) :: ps) = (commT (l[i]?) (l[j]?) ∧ commAll l ps) := by
  simp only [commAll, commT, List.mem_cons, forall_eq_or_imp]
  rfl
theorem commT_eq (a b : Tr) : commT (some a) (some b) = a.comm b := rfl
theorem mkTr_pure (H H' : List HObj) : mkTr .pure H H' = ⟨.pure, [], []⟩ := rfl
theorem mkTr_lr (s : Nat) (H H' : List HObj) : mkTr (.lr s) H H' = ⟨.lr s, [], []⟩ := rfl
theorem mkTr_lw (s : Nat) (H H' : List HObj) : mkTr (.lw s) H H' = ⟨.lw s, [], []⟩ := rfl
theorem mkTr_gr (s : Nat) (H H' : List HObj) : mkTr (.gr s) H H' = ⟨.gr s, [], []⟩ := rfl
theorem mkTr_gw (H H' : List HObj) : mkTr .gw H H' = ⟨.gw, H, H'⟩ := rfl
theorem comm_pl (a b c d : List HObj) (y : Acc) : Tr.comm ⟨.pure, a, b⟩ ⟨y, c, d⟩ = True := by simp [Tr.comm]
theorem comm_pr (a b c d : List HObj) (y : Acc) : Tr.comm ⟨y, c, d⟩ ⟨.pure, a, b⟩ = True := by cases y <;> simp [Tr.comm]
theorem comm_lrlr (a b c d : List HObj) (s s' : Nat) : Tr.comm ⟨.lr s, a, b⟩ ⟨.lr s', c, d⟩ = True := by simp [Tr.comm]
theorem comm_lrlw (a b c d : List HObj) (s s' : Nat) : Tr.comm ⟨.lr s, a, b⟩ ⟨.lw s', c, d⟩ = (s ≠ s') := by simp [Tr.comm]
theorem comm_lwlr (a b c d : List HObj) (s s' : Nat) : Tr.comm ⟨.lw s, a, b⟩ ⟨.lr s', c, d⟩ = (s ≠ s') := by simp [Tr.comm]
theorem comm_lwlw (a b c d : List HObj) (s s' : Nat) : Tr.comm ⟨.lw s, a, b⟩ ⟨.lw s', c, d⟩ = (s ≠ s') := by simp [Tr.comm]
theorem comm_lrgr (a b c d : List HObj) (s s' : Nat) : Tr.comm ⟨.lr s, a, b⟩ ⟨.gr s', c, d⟩ = True := by simp [Tr.comm]
theorem comm_lrgw (a b c d : List HObj) (s : Nat) : Tr.comm ⟨.lr s, a, b⟩ ⟨.gw, c, d⟩ = True := by simp [Tr.comm]
theorem comm_lwgr (a b c d : List HObj) (s s' : Nat) : Tr.comm ⟨.lw s, a, b⟩ ⟨.gr s', c, d⟩ = True := by simp [Tr.comm]
theorem comm_lwgw (a b c d : List HObj) (s : Nat) : Tr.comm ⟨.lw s, a, b⟩ ⟨.gw, c, d⟩ = True := by simp [Tr.comm]
theorem comm_grlr (a b c d : List HObj) (s s' : Nat) : Tr.comm ⟨.gr s, a, b⟩ ⟨.lr s', c, d⟩ = True := by simp [Tr.comm]
theorem comm_grlw (a b c d : List HObj) (s s' : Nat) : Tr.comm ⟨.gr s, a, b⟩ ⟨.lw s', c, d⟩ = True := by simp [Tr.comm]
theorem comm_gwlr (a b c d : List HObj) (s : Nat) : Tr.comm ⟨.gw, a, b⟩ ⟨.lr s, c, d⟩ = True := by simp [Tr.comm]
theorem comm_gwlw (a b c d : List HObj) (s : Nat) : Tr.comm ⟨.gw, a, b⟩ ⟨.lw s, c, d⟩ = True := by simp [Tr.comm]
theorem comm_grgr (a b c d : List HObj) (s s' : Nat) : Tr.comm ⟨.gr s, a, b⟩ ⟨.gr s', c, d⟩ = True := by simp [Tr.comm]
theorem comm_grgw (a b c d : List HObj) (s : Nat) : Tr.comm ⟨.gr s, a, b⟩ ⟨.gw, c, d⟩ = (d[s]? = c[s]?) := by simp [Tr.comm]
theorem comm_gwgr (a b c d : List HObj) (s : Nat) : Tr.comm ⟨.gw, a, b⟩ ⟨.gr s, c, d⟩ = (b[s]? = a[s]?) := by simp [Tr.comm]
attribute [go_sem] commAll_nil commAll_cons commT_eq mkTr_pure mkTr_lr mkTr_lw mkTr_gr mkTr_gw comm_pl comm_pr comm_lrlr comm_lrlw comm_lwlr comm_lwlw comm_lrgr comm_lrgw comm_lwgr comm_lwgw comm_grlr comm_grlw comm_gwlr comm_gwlw comm_grgr comm_grgw comm_gwgr
end

end Go.Proofs.Ytnjaagfhaooapaa.Eng
