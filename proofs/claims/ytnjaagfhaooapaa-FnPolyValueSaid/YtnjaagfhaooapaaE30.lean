/- ENGINE 30: the rules of evaluation of values. -/
import Derived.Test.YtnjaagfhaooapaaE29
namespace Go.Proofs.Ytnjaagfhaooapaa.Eng
set_option linter.unusedVariables false
set_option linter.unusedSimpArgs false
set_option linter.unnecessarySimpa false
set_option linter.constructorNameAsVariable false
open Go

attribute [go_sem] List.getElem?_toArray Option.isSome_some Option.isSome_none List.take_length List.take_nil List.drop_nil List.cons_append List.nil_append Bool.true_and Bool.and_true Bool.false_and Bool.and_false Bool.true_or Bool.or_true Bool.false_or Bool.or_false true_and and_true beq_self_eq_true Bool.not_true Bool.not_false List.append_nil Option.getD_some Option.getD_none Option.map_some Option.map_none List.getElem?_cons_zero List.getElem?_cons_succ List.getElem?_nil if_true if_false List.map_cons List.map_nil List.length_map List.length_cons List.length_nil List.take_succ_cons List.take_zero List.drop_succ_cons List.drop_zero

@[go_sem] theorem cells_agg (cs : List AV) : AV.cells (.agg cs) = cs := rfl
@[go_sem] theorem cells_any : AV.cells .any = [.any] := rfl
@[go_sem] theorem cells_int (k : IntKind) (m : Int) : AV.cells (.int k m) = [.int k m] := rfl
@[go_sem] theorem cells_bool (b : Bool) : AV.cells (.bool b) = [.bool b] := rfl
@[go_sem] theorem cells_str (l : List UInt8) : AV.cells (.str l) = [.str l] := rfl
@[go_sem] theorem cells_nilp : AV.cells .nilp = [.nilp] := rfl
@[go_sem] theorem cells_ptr (cs : List AV) (o : Nat) (tag : Option Nat) : AV.cells (.ptr cs o tag) = [.ptr cs o tag] := rfl
@[go_sem] theorem cells_slice (es : List AV) (o : Own) : AV.cells (.slice es o) = [.slice es o] := rfl
@[go_sem] theorem cells_ref (id o : Nat) : AV.cells (.ref id o) = [.ref id o] := rfl
@[go_sem] theorem cells_vec (id o : Nat) : AV.cells (.vec id o) = [.vec id o] := rfl
@[go_sem] theorem cells_func (g : FuncId) (c : List AV) : AV.cells (.func g c) = [.func g c] := rfl
@[go_sem] theorem cells_map (id : Nat) : AV.cells (.map id) = [.map id] := rfl

@[go_sem] theorem norm_agg (n : Nat) (cs : List AV) : norm n (.agg cs) = .agg (normL n cs) := by simp [norm]
@[go_sem] theorem norm_tuple (n : Nat) (cs : List AV) : norm n (.tuple cs) = .tuple (normL n cs) := by simp [norm]
@[go_sem] theorem norm_any (n : Nat) : norm n .any = .any := by simp [norm]
@[go_sem] theorem norm_int (n : Nat) (k : IntKind) (m : Int) : norm n (.int k m) = .int k m := by simp [norm]
@[go_sem] theorem norm_bool (n : Nat) (b : Bool) : norm n (.bool b) = .bool b := by simp [norm]
@[go_sem] theorem norm_str (n : Nat) (l : List UInt8) : norm n (.str l) = .str l := by simp [norm]
@[go_sem] theorem norm_nilp (n : Nat) : norm n .nilp = .nilp := by simp [norm]
@[go_sem] theorem norm_ptr (n : Nat) (cs : List AV) (o : Nat) (tag : Option Nat) : norm n (.ptr cs o tag) = .ptr cs o tag := by simp [norm]
@[go_sem] theorem norm_view (n : Nat) (es : List AV) : norm n (.slice es .view) = .slice es .view := by simp [norm]
@[go_sem] theorem norm_full (n : Nat) (es : List AV) : norm n (.slice es .full) = .slice es .full := by simp [norm]
@[go_sem] theorem norm_tok (n : Nat) (es : List AV) (id : Nat) : norm n (.slice es (.tok id)) = if id < n then .slice es (.tok id) else .slice es .view := by simp [norm]
@[go_sem] theorem norm_ref (n id o : Nat) : norm n (.ref id o) = .ref id o := by simp [norm]
@[go_sem] theorem norm_vec (n id o : Nat) : norm n (.vec id o) = .vec id o := by simp [norm]
@[go_sem] theorem norm_func (n : Nat) (g : FuncId) (c : List AV) : norm n (.func g c) = .func g c := by simp [norm]
@[go_sem] theorem normL_nil (n : Nat) : normL n [] = [] := by simp [normL]
@[go_sem] theorem normL_cons (n : Nat) (c : AV) (cs : List AV) : normL n (c :: cs) = norm n c :: normL n cs := by simp [normL]

section
variable (H : List HObj)
@[go_sem] theorem frz_agg (n : Nat) (cs : List AV) : frz n H (.agg cs) = .agg (frzL n H cs) := by simp [frz]
@[go_sem] theorem frz_tuple (n : Nat) (cs : List AV) : frz n H (.tuple cs) = .tuple (frzL n H cs) := by simp [frz]
@[go_sem] theorem frz_any (n : Nat) : frz n H .any = .any := by simp [frz]
@[go_sem] theorem frz_int (n : Nat) (k : IntKind) (m : Int) : frz n H (.int k m) = .int k m := by simp [frz]
@[go_sem] theorem frz_bool (n : Nat) (b : Bool) : frz n H (.bool b) = .bool b := by simp [frz]
@[go_sem] theorem frz_str (n : Nat) (l : List UInt8) : frz n H (.str l) = .str l := by simp [frz]
@[go_sem] theorem frz_nilp (n : Nat) : frz n H .nilp = .nilp := by simp [frz]
@[go_sem] theorem frz_ptr (n : Nat) (cs : List AV) (o : Nat) (tag : Option Nat) : frz n H (.ptr cs o tag) = .ptr cs o tag := by simp [frz]
@[go_sem] theorem frz_slice (n : Nat) (es : List AV) (o : Own) : frz n H (.slice es o) = .slice es o := by simp [frz]
@[go_sem] theorem frz_ref (n id o : Nat) : frz n H (.ref id o) = .ref id o := by simp [frz]
@[go_sem] theorem frz_func (n : Nat) (g : FuncId) (c : List AV) : frz n H (.func g c) = .func g c := by simp [frz]
@[go_sem] theorem frz_map (n id : Nat) : frz n H (.map id) = .map id := by simp [frz]
@[go_sem] theorem frz_vec (n id len : Nat) (cs : List AV) (sz : Nat) (h : n ≤ id) (h1 : H[id]? = some (.vec cs sz)) (h2 : cs.length = len * sz) (h3 : sz ≠ 0) : frz n H (.vec id len) = .slice (chunks sz len cs) .view := by
  simp [frz, frzV, h, h1, h2, h3]
@[go_sem] theorem frzL_nil (n : Nat) : frzL n H [] = [] := by simp [frzL]
@[go_sem] theorem frzL_cons (n : Nat) (c : AV) (cs : List AV) : frzL n H (c :: cs) = frz n H c :: frzL n H cs := by simp [frzL]
end

@[go_sem] theorem below_agg (n : Nat) (cs : List AV) : below n (.agg cs) = belowL n cs := by simp [below]
@[go_sem] theorem below_tuple (n : Nat) (cs : List AV) : below n (.tuple cs) = belowL n cs := by simp [below]
@[go_sem] theorem below_any (n : Nat) : below n .any = true := by simp [below]
@[go_sem] theorem below_int (n : Nat) (k : IntKind) (m : Int) : below n (.int k m) = true := by simp [below]
@[go_sem] theorem below_bool (n : Nat) (b : Bool) : below n (.bool b) = true := by simp [below]
@[go_sem] theorem below_str (n : Nat) (l : List UInt8) : below n (.str l) = true := by simp [below]
@[go_sem] theorem below_nilp (n : Nat) : below n .nilp = true := by simp [below]
@[go_sem] theorem below_ptr (n : Nat) (cs : List AV) (o : Nat) : below n (.ptr cs o none) = belowL n cs := by simp [below]
@[go_sem] theorem below_tag (n : Nat) (cs : List AV) (o t : Nat) : below n (.ptr cs o (some t)) = (belowL n cs && decide (t < n)) := by simp [below]
@[go_sem] theorem below_view (n : Nat) (es : List AV) : below n (.slice es .view) = belowL n es := by simp [below]
@[go_sem] theorem below_full (n : Nat) (es : List AV) : below n (.slice es .full) = belowL n es := by simp [below]
@[go_sem] theorem below_tok (n : Nat) (es : List AV) (id : Nat) : below n (.slice es (.tok id)) = (belowL n es && decide (id < n)) := by simp [below]
@[go_sem] theorem below_ref (n id o : Nat) : below n (.ref id o) = decide (id < n) := by simp [below]
@[go_sem] theorem below_vec (n id o : Nat) : below n (.vec id o) = decide (id < n) := by simp [below]
@[go_sem] theorem below_func (n : Nat) (g : FuncId) (c : List AV) : below n (.func g c) = belowL n c := by simp [below]
@[go_sem] theorem belowL_nil (n : Nat) : belowL n [] = true := by simp [belowL]
@[go_sem] theorem belowL_cons (n : Nat) (c : AV) (cs : List AV) : belowL n (c :: cs) = (below n c && belowL n cs) := by simp [belowL]

/-- The number of the next box of a slot, told by the last. -/
def verOf : Option (Nat × List AV) → Nat
  | some (v, _) => v + 1
  | none => 0
@[go_sem] theorem nextVer_eq (L : Nat → Option (Nat × List AV)) (d : Nat) : nextVer L d = verOf (L d) := rfl
@[go_sem] theorem verOf_some (v : Nat) (cs : List AV) : verOf (some (v, cs)) = v + 1 := rfl
@[go_sem] theorem verOf_none : verOf none = 0 := rfl

@[go_sem] theorem splice_eq (cs : List AV) (off : Nat) (xs : List AV) : splice cs off xs = cs.take off ++ (xs ++ cs.drop (off + xs.length)) := by simp [splice]

section
variable (P : Program) (T : TypeId) (k : IntKind) (a b : Int)
@[go_sem] theorem bin_add : abin P .add T (.int k a) (.int k b) = some (.int k (k.wrap (a + b))) := by simp [abin]
@[go_sem] theorem bin_sub : abin P .sub T (.int k a) (.int k b) = some (.int k (k.wrap (a - b))) := by simp [abin]
@[go_sem] theorem bin_mul : abin P .mul T (.int k a) (.int k b) = some (.int k (k.wrap (a * b))) := by simp [abin]
@[go_sem] theorem bin_quo (h : b ≠ 0) : abin P .quo T (.int k a) (.int k b) = some (.int k (k.wrap (a.tdiv b))) := by simp [abin, h]
@[go_sem] theorem bin_rem (h : b ≠ 0) : abin P .rem T (.int k a) (.int k b) = some (.int k (a.tmod b)) := by simp [abin, h]
@[go_sem] theorem bin_eql : abin P .eql T (.int k a) (.int k b) = some (.bool (decide (a = b))) := by simp [abin]
@[go_sem] theorem bin_neq : abin P .neq T (.int k a) (.int k b) = some (.bool (!decide (a = b))) := by simp [abin]
@[go_sem] theorem bin_lss : abin P .lss T (.int k a) (.int k b) = some (.bool (decide (a < b))) := by simp [abin]
@[go_sem] theorem bin_leq : abin P .leq T (.int k a) (.int k b) = some (.bool (decide (a ≤ b))) := by simp [abin]
@[go_sem] theorem bin_gtr : abin P .gtr T (.int k a) (.int k b) = some (.bool (decide (b < a))) := by simp [abin]
@[go_sem] theorem bin_geq : abin P .geq T (.int k a) (.int k b) = some (.bool (decide (b ≤ a))) := by simp [abin]
@[go_sem] theorem bin_sadd (x y : List UInt8) : abin P .add T (.str x) (.str y) = if x.length + y.length ≤ 4611686018427387904 then some (.str (x ++ y)) else none := by simp [abin]
@[go_sem] theorem bin_seql (x y : List UInt8) : abin P .eql T (.str x) (.str y) = some (.bool (decide (x = y))) := by simp [abin]
@[go_sem] theorem bin_sneq (x y : List UInt8) : abin P .neq T (.str x) (.str y) = some (.bool (!decide (x = y))) := by simp [abin]
@[go_sem] theorem un_not (x : Bool) : aun .not (.bool x) = some (.bool (!x)) := rfl
@[go_sem] theorem un_neg : aun .neg (.int k a) = some (.int k (k.wrap (0 - a))) := rfl
@[go_sem] theorem min_int : amin2 false (.int k a) (.int k b) = some (.int k (if b < a then b else a)) := by simp [amin2]
@[go_sem] theorem max_int : amin2 true (.int k a) (.int k b) = some (.int k (if a < b then b else a)) := by simp [amin2]
@[go_sem] theorem amm_eq (σ : St) (mx : Bool) (x y : AV) : amm P σ mx [.v x, .v y] = bindK (amin2 mx x y) (outV σ) := rfl
theorem isPtr_nil (h : isPtrT P T = true) : abin P .eql T .nilp .nilp = some (.bool true) := by simp [abin, h]
end

@[go_sem] theorem wrap64 {n : Int} (h1 : -9223372036854775808 ≤ n) (h2 : n ≤ 9223372036854775807) : IntKind.i64.wrap n = n := by
  show (if (true && decide (n % 18446744073709551616 ≥ 9223372036854775808)) = true then n % 18446744073709551616 - 18446744073709551616 else n % 18446744073709551616) = n
  simp only [Bool.true_and, decide_eq_true_eq]
  split <;> omega

section
variable (t : Nat → TV) (L : Nat → Option (Nat × List AV)) (H : List HObj)

@[go_sem] theorem part_nil (ρ : Operand → TV) : partsV ρ [] = some [] := rfl
def partsK (a : TV) (i : Nat) (r : Option (List (Nat × AV))) : Option (List (Nat × AV)) := match a, r with
  | .v a, some as => some ((i, a) :: as)
  | _, _ => none
@[go_sem] theorem part_cons (ρ : Operand → TV) (i : Nat) (x : Operand) (r : List (Nat × Operand)) : partsV ρ ((i, x) :: r) = partsK (ρ x) i (partsV ρ r) := by
  simp only [partsV, partsK]
  cases ρ x <;> cases partsV ρ r <;> rfl
@[go_sem] theorem partsK_eq (a : AV) (i : Nat) (as : List (Nat × AV)) : partsK (.v a) i (some as) = some ((i, a) :: as) := rfl

@[go_sem] theorem asVs_nil : asVs [] = some [] := rfl
def consK (a : TV) (r : Option (List AV)) : Option (List AV) := match a, r with
  | .v a, some as => some (a :: as)
  | _, _ => none
@[go_sem] theorem asVs_cons (a : TV) (r : List TV) : asVs (a :: r) = consK a (asVs r) := by
  simp only [asVs, consK]
  cases a <;> cases asVs r <;> rfl
@[go_sem] theorem consK_eq (a : AV) (r : List AV) : consK (.v a) (some r) = some (a :: r) := rfl

@[go_sem] theorem load_ptr (i : TI) (cs : List AV) (off : Nat) (tag : Option Nat) : aload ⟨t, L, H⟩ i (.v (.ptr cs off tag)) = bindK (readCells i.agg i.size cs off) fun x => some ⟨some (.v x), L, H, .pure⟩ := by
  simp only [aload, bindK]
  cases readCells i.agg i.size cs off <;> rfl
/-- The cells of a frame's box. -/
def locK {α : Type} (x : Option (Nat × List AV)) (ver : Nat) (k : List AV → Option α) : Option α := match x with
  | some (v, cs) => if v = ver then k cs else none
  | none => none
@[congr] theorem locK_congr {α : Type} {x y : Option (Nat × List AV)} {ver : Nat} {k : List AV → Option α} (h : x = y) : locK x ver k = locK y ver k := by rw [h]
@[go_sem] theorem locK_some {α : Type} (ver : Nat) (cs : List AV) (k : List AV → Option α) : locK (some (ver, cs)) ver k = k cs := by simp [locK]
def cellsK {α : Type} (x : Option HObj) (k : List AV → Option α) : Option α := match x with
  | some (.cells cs) => k cs
  | _ => none
@[congr] theorem cellsK_congr {α : Type} {x y : Option HObj} {k : List AV → Option α} (h : x = y) : cellsK x k = cellsK y k := by rw [h]
@[go_sem] theorem cellsK_some {α : Type} (cs : List AV) (k : List AV → Option α) : cellsK (some (.cells cs)) k = k cs := rfl
def vecK {α : Type} (x : Option HObj) (k : List AV → Nat → Option α) : Option α := match x with
  | some (.vec cs sz) => k cs sz
  | _ => none
@[congr] theorem vecK_congr {α : Type} {x y : Option HObj} {k : List AV → Nat → Option α} (h : x = y) : vecK x k = vecK y k := by rw [h]
@[go_sem] theorem vecK_some {α : Type} (cs : List AV) (sz : Nat) (k : List AV → Nat → Option α) : vecK (some (.vec cs sz)) k = k cs sz := rfl

@[go_sem] theorem load_loc (i : TI) (s ver off : Nat) : aload ⟨t, L, H⟩ i (.loc s ver off) = locK (L s) ver fun cs => bindK (readCells i.agg i.size cs off) fun x => some ⟨some (.v x), L, H, .lr s⟩ := by
  simp only [aload, bindK, locK]
  cases L s with
  | none => rfl
  | some p =>
    obtain ⟨v, cs⟩ := p
    simp only
    split
    · cases readCells i.agg i.size cs off <;> rfl
    · rfl
@[go_sem] theorem load_ref (i : TI) (id off : Nat) : aload ⟨t, L, H⟩ i (.v (.ref id off)) = cellsK (H[id]?) fun cs => bindK (readCells i.agg i.size cs off) fun x => some ⟨some (.v x), L, H, .gr id⟩ := by
  simp only [aload, bindK, cellsK]
  cases H[id]? with
  | none => rfl
  | some o =>
    cases o with
    | cells cs => simp only; cases readCells i.agg i.size cs off <;> rfl
    | _ => rfl
@[go_sem] theorem load_vat (i : TI) (id len off : Nat) : aload ⟨t, L, H⟩ i (.vat id len off) = vecK (H[id]?) fun cs sz => if cs.length = len * sz ∧ sz ≠ 0 ∧ i.size ≠ 0 then bindK (readCells i.agg i.size cs off) fun x => some ⟨some (.v x), L, H, .gr id⟩ else none := by
  simp only [aload, bindK, vecK]
  cases H[id]? with
  | none => rfl
  | some o =>
    cases o with
    | vec cs sz =>
      simp only
      split
      · cases readCells i.agg i.size cs off <;> rfl
      · rfl
    | _ => rfl
@[go_sem] theorem readCells_one (size : Nat) (cs : List AV) (off : Nat) : readCells false size cs off = cs[off]? := by simp [readCells]
@[go_sem] theorem readCells_agg (size : Nat) (cs : List AV) (off : Nat) : readCells true size cs off = if off + size ≤ cs.length then some (.agg ((cs.drop off).take size)) else none := by simp [readCells]

@[go_sem] theorem store_loc (i : TI) (x : AV) (s ver off : Nat) :
    astore ⟨t, L, H⟩ i x (.loc s ver off) = locK (L s) ver fun cs => if x.cells.length = i.size ∧ i.size ≠ 0 ∧ off + i.size ≤ cs.length then some ⟨none, upd L s (some (ver, splice cs off x.cells)), H, .lw s⟩ else none := by
  simp only [astore, locK]
  cases L s with
  | none => rfl
  | some p =>
    obtain ⟨v, cs⟩ := p
    simp only
    by_cases h : v = ver
    · subst h; simp
    · simp [h]
@[go_sem] theorem store_ref (i : TI) (x : AV) (id off : Nat) :
    astore ⟨t, L, H⟩ i x (.v (.ref id off)) = cellsK (H[id]?) fun cs => if (norm id x).cells.length = i.size ∧ i.size ≠ 0 ∧ off + i.size ≤ cs.length ∧ below id (norm id x) = true then some ⟨none, L, H.set id (.cells (splice cs off (norm id x).cells)), .gw⟩ else none := by
  simp only [astore, cellsK]
  cases H[id]? with
  | none => rfl
  | some o => cases o <;> rfl
@[go_sem] theorem store_vat (i : TI) (x : AV) (id len off : Nat) :
    astore ⟨t, L, H⟩ i x (.vat id len off) = vecK (H[id]?) fun cs sz => if cs.length = len * sz ∧ sz ≠ 0 ∧ x.cells.length = i.size ∧ i.size ≠ 0 ∧ off + i.size ≤ cs.length ∧ below id x = true then some ⟨none, L, H.set id (.vec (splice cs off x.cells) sz), .gw⟩ else none := by
  simp only [astore, vecK]
  cases H[id]? with
  | none => rfl
  | some o => cases o <;> rfl

@[go_sem] theorem addOff_ptr0 (cs : List AV) (o : Nat) (tag : Option Nat) : addOff 0 (.v (.ptr cs o tag)) = some (.v (.ptr cs o tag)) := rfl
@[go_sem] theorem addOff_ptr (off : Nat) (cs : List AV) (o : Nat) (tag : Option Nat) (h : off ≠ 0) : addOff off (.v (.ptr cs o tag)) = some (.v (.ptr cs (o + off) none)) := by simp [addOff, h]
@[go_sem] theorem addOff_ref (off id o : Nat) : addOff off (.v (.ref id o)) = some (.v (.ref id (o + off))) := rfl
@[go_sem] theorem addOff_loc (off s ver o : Nat) : addOff off (.loc s ver o) = some (.loc s ver (o + off)) := rfl
@[go_sem] theorem addOff_vat (off s ver o : Nat) : addOff off (.vat s ver o) = some (.vat s ver (o + off)) := rfl

@[go_sem] theorem newBox_loc (d : Nat) (cs : List AV) : newBox .dflt (some d) ⟨t, L, H⟩ cs .loc = if cs.length = 0 then none else some ⟨some (.loc d (nextVer L d) 0), upd L d (some (nextVer L d, cs)), H, .lw d⟩ := by
  by_cases h : cs.length = 0 <;> simp [newBox, h]
@[go_sem] theorem newBox_ptr (dst : Option Nat) (cs : List AV) : newBox .dflt dst ⟨t, L, H⟩ cs .dflt = if cs.length = 0 then none else some ⟨some (.v (.ptr cs 0 none)), L, H, .pure⟩ := by
  by_cases h : cs.length = 0 <;> simp [newBox, h]
@[go_sem] theorem newBox_mloc (d : Nat) (cs : List AV) (m : Mode) : newBox .loc (some d) ⟨t, L, H⟩ cs m = if cs.length = 0 then none else some ⟨some (.loc d (nextVer L d) 0), upd L d (some (nextVer L d, cs)), H, .lw d⟩ := by
  by_cases h : cs.length = 0 <;> simp [newBox, h]
@[go_sem] theorem newBox_heap (dst : Option Nat) (cs : List AV) (m : Mode) : newBox .heap dst ⟨t, L, H⟩ cs m = if cs.length = 0 then none else some ⟨some (.v (.ref H.length 0)), L, H ++ [.cells cs], .gw⟩ := by
  by_cases h : cs.length = 0 <;> simp [newBox, h]

@[go_sem] theorem len_str (P : Program) (T : TypeId) (l : List UInt8) : alen P ⟨t, L, H⟩ (some T) [.v (.str l)] = if isStrT P T then some ⟨some (.v (.int .i64 l.length)), L, H, .pure⟩ else none := rfl
@[go_sem] theorem len_slice (P : Program) (T : TypeId) (es : List AV) (own : Own) : alen P ⟨t, L, H⟩ (some T) [.v (.slice es own)] = if (sliceT P T).isSome then some ⟨some (.v (.int .i64 es.length)), L, H, .pure⟩ else none := rfl
@[go_sem] theorem len_vec (P : Program) (T : TypeId) (id m : Nat) : alen P ⟨t, L, H⟩ (some T) [.v (.vec id m)] = if (sliceT P T).isSome then some ⟨some (.v (.int .i64 m)), L, H, .pure⟩ else none := rfl

@[go_sem] theorem index_slice (P : Program) (T : TypeId) (es : List AV) (own : Own) (m : Int) :
    aindexAddr P ⟨t, L, H⟩ T (.v (.slice es own)) m = bindK (sliceT P T) fun e => bindK (tinfo P e) fun ti => bindK (if 0 ≤ m then es[m.toNat]? else none) fun c =>
      if c.cells.length = ti.size ∧ ti.size ≠ 0 then some ⟨some (.v (.ptr c.cells 0 none)), L, H, .pure⟩ else none := by
  simp only [aindexAddr, bindK, value]
  cases sliceT P T with
  | none =>
    cases arrT P T with
    | none => rfl
    | some q =>
      obtain ⟨k, e⟩ := q
      simp only
      cases tinfo P e with
      | none => rfl
      | some ti => simp [addOff]
  | some e =>
    simp only
    cases tinfo P e with
    | none => rfl
    | some ti =>
      simp only
      split <;> simp_all

@[go_sem] theorem index_vec (P : Program) (T : TypeId) (id len : Nat) (m : Int) :
    aindexAddr P ⟨t, L, H⟩ T (.v (.vec id len)) m = bindK (sliceT P T) fun e => bindK (tinfo P e) fun ti => vecK (H[id]?) fun cs sz =>
      if cs.length = len * sz ∧ sz = ti.size ∧ sz ≠ 0 ∧ 0 ≤ m ∧ m < len then some ⟨some (.vat id len (m.toNat * sz)), L, H, .gr id⟩ else none := by
  simp only [aindexAddr, bindK, vecK]
  cases sliceT P T with
  | none =>
    cases arrT P T with
    | none => rfl
    | some q =>
      obtain ⟨k, e⟩ := q
      simp only
      cases tinfo P e with
      | none => rfl
      | some ti => simp [addOff]
  | some e =>
    simp only
    cases tinfo P e with
    | none => rfl
    | some ti =>
      simp only
      cases H[id]? with
      | none => rfl
      | some o => cases o <;> rfl

/-- The address of an array's element. -/
@[go_sem] theorem index_loc (P : Program) (T : TypeId) (s ver off : Nat) (m : Int) :
    aindexAddr P ⟨t, L, H⟩ T (.loc s ver off) m = if (sliceT P T).isSome then none else bindK (arrT P T) fun q => bindK (tinfo P q.2) fun ti => if 0 ≤ m ∧ m < q.1 then some ⟨some (.loc s ver (off + m.toNat * ti.size)), L, H, .pure⟩ else none := by
  simp only [aindexAddr, bindK]
  cases sliceT P T with
  | none =>
    cases arrT P T with
    | none => rfl
    | some q =>
      obtain ⟨k, e⟩ := q
      simp only
      cases tinfo P e with
      | none => rfl
      | some ti => simp [addOff, value]
  | some e =>
    simp only
    cases tinfo P e <;> rfl

@[go_sem] theorem index_str (P : Program) (T : TypeId) (l : List UInt8) (m : Int) :
    aindex P ⟨t, L, H⟩ T (.str l) m = if isStrT P T then bindK (if 0 ≤ m then l[m.toNat]? else none) fun b => some ⟨some (.v (.int .u8 b.toNat)), L, H, .pure⟩ else none := rfl
@[go_sem] theorem index_agg (P : Program) (T : TypeId) (cs : List AV) (m : Int) :
    aindex P ⟨t, L, H⟩ T (.agg cs) m = bindK (arrT P T) fun q => bindK (tinfo P q.2) fun ti => if 0 ≤ m ∧ m < q.1 then bindK (readCells ti.agg ti.size cs (m.toNat * ti.size)) (outV ⟨t, L, H⟩) else none := rfl

@[go_sem] theorem acallK_eq (call : CallF) (g : FuncId) (cap as : List AV) : acallK call ⟨t, L, H⟩ (.v (.func g cap)) (some as) = bindK (call g (as ++ cap) H) fun r => some ⟨some (.v r.1), L, r.2, .gw⟩ := rfl

@[go_sem] theorem aresults_nil (P : Program) (σ : St) : aresults P σ [] = some [] := rfl
def resK (a : Option AV) (r : Option (List AV)) : Option (List AV) := match a, r with
  | some a, some as => some (a :: as)
  | _, _ => none
@[go_sem] theorem resK_eq (a : AV) (r : List AV) : resK (some a) (some r) = some (a :: r) := rfl
@[go_sem] theorem aresults_cons (P : Program) (σ : St) (r : ResultVar) (rs : List ResultVar) : aresults P σ (r :: rs) = resK (aresult P σ r) (aresults P σ rs) := by
  simp only [aresults, resK]
  cases aresult P σ r <;> cases aresults P σ rs <;> rfl
@[go_sem] theorem aresult_tmp (P : Program) (d : Nat) : aresult P ⟨t, L, H⟩ (.tmp d) = asV (t d) := rfl
@[go_sem] theorem asV_v (a : AV) : asV (.v a) = some a := rfl
@[go_sem] theorem oneOf_one (a : AV) : oneOf [a] = a := rfl
@[go_sem] theorem oneOf_two (a b : AV) (l : List AV) : oneOf (a :: b :: l) = .tuple (a :: b :: l) := rfl
@[go_sem] theorem initT_eq (args : List AV) (j : Nat) : initT args j = match args[j]? with
  | some a => .v a
  | none => .undef := rfl
@[go_sem] theorem finish_keep (n : Nat) (r : AV) : finish .all n r H = some (r, H) := rfl
theorem finDrop_eq (n : Nat) (r : AV) : finDrop n r H = if below n (norm n (frz n H r)) = true then some (norm n (frz n H r), H.take n) else none := rfl
@[go_sem] theorem finish_drop (n : Nat) (r : AV) : finish .drop n r H = if below n (norm n (frz n H r)) = true then some (norm n (frz n H r), H.take n) else none := rfl
@[go_sem] theorem finish_hand (n : Nat) (r : AV) : finish .hand n r H = finTok n (meltR n H r).1 (meltR n H r).2 := rfl
@[go_sem] theorem finTok_eq (n : Nat) (r : AV) : finTok n r H = match tokOf n r with | some id => finHand n r H id | none => finDrop n r H := rfl
def vecK' {α : Type} (x : Option HObj) (d : α) (k : List AV → Nat → α) : α := match x with
  | some (.vec cs sz) => k cs sz
  | _ => d
@[go_sem] theorem vecK'_some {α : Type} (cs : List AV) (sz : Nat) (d : α) (k : List AV → Nat → α) : vecK' (some (.vec cs sz)) d k = k cs sz := rfl
@[go_sem] theorem meltR_vec (n id len : Nat) : meltR n H (.vec id len) = vecK' (H[id]?) (.vec id len, H) fun cs sz => if n ≤ id ∧ cs.length = len * sz ∧ sz ≠ 0 then (.slice (chunks sz len cs) (.tok id), H.set id (.top len sz)) else (.vec id len, H) := by
  simp only [meltR, melt1, vecK']
  cases H[id]? with
  | none => rfl
  | some o => cases o <;> first | rfl | (simp only; split <;> rfl)
@[go_sem] theorem meltR_tvec (n id len : Nat) (r : List AV) : meltR n H (.tuple (.vec id len :: r)) = vecK' (H[id]?) (.tuple (.vec id len :: r), H) fun cs sz => if n ≤ id ∧ cs.length = len * sz ∧ sz ≠ 0 then (.tuple (.slice (chunks sz len cs) (.tok id) :: r), H.set id (.top len sz)) else (.tuple (.vec id len :: r), H) := by
  simp only [meltR, melt1, vecK']
  cases H[id]? with
  | none => rfl
  | some o =>
    cases o with
    | vec cs sz =>
      simp only
      by_cases hq : n ≤ id ∧ cs.length = len * sz ∧ sz ≠ 0
      · simp only [if_pos hq]
      · simp only [if_neg hq]
    | _ => rfl
@[go_sem] theorem meltR_slice (n : Nat) (es : List AV) (o : Own) : meltR n H (.slice es o) = (.slice es o, H) := rfl
@[go_sem] theorem meltR_tslice (n : Nat) (es : List AV) (o : Own) (r : List AV) : meltR n H (.tuple (.slice es o :: r)) = (.tuple (.slice es o :: r), H) := rfl
@[go_sem] theorem meltR_tagg (n : Nat) (es : List AV) (r : List AV) : meltR n H (.tuple (.agg es :: r)) = (.tuple (.agg es :: r), H) := rfl
@[go_sem] theorem meltR_agg (n : Nat) (es : List AV) : meltR n H (.agg es) = (.agg es, H) := rfl
def topK' {α : Type} (x : Option HObj) (k : Nat → Nat → Option α) : Option α := match x with
  | some (.top m sz) => k m sz
  | _ => none
@[go_sem] theorem topK'_some {α : Type} (m sz : Nat) (k : Nat → Nat → Option α) : topK' (some (.top m sz)) k = k m sz := rfl
@[go_sem] theorem finHand_eq (n : Nat) (r : AV) (id : Nat) : finHand n r H id = topK' (H[id]?) fun m sz => if n ≤ id ∧ below n (norm n r) = true then some (ren n id r, H.take n ++ [.top m sz]) else none := by
  simp only [finHand, topK']
  cases H[id]? with
  | none => rfl
  | some o => cases o <;> rfl
attribute [go_sem] finDrop_eq
@[go_sem] theorem tokOf_agg (n : Nat) (cs : List AV) : tokOf n (.agg cs) = tokOfL n cs := by simp [tokOf]
@[go_sem] theorem tokOf_tuple (n : Nat) (cs : List AV) : tokOf n (.tuple cs) = tokOfL n cs := by simp [tokOf]
@[go_sem] theorem tokOf_tok (n : Nat) (es : List AV) (t : Nat) : tokOf n (.slice es (.tok t)) = if n ≤ t then some t else none := by simp [tokOf]
@[go_sem] theorem tokOf_view (n : Nat) (es : List AV) : tokOf n (.slice es .view) = none := by simp [tokOf]
@[go_sem] theorem tokOf_full (n : Nat) (es : List AV) : tokOf n (.slice es .full) = none := by simp [tokOf]
@[go_sem] theorem tokOf_int (n : Nat) (k : IntKind) (m : Int) : tokOf n (.int k m) = none := by simp [tokOf]
@[go_sem] theorem tokOf_bool (n : Nat) (b : Bool) : tokOf n (.bool b) = none := by simp [tokOf]
@[go_sem] theorem tokOf_str (n : Nat) (b : List UInt8) : tokOf n (.str b) = none := by simp [tokOf]
@[go_sem] theorem tokOf_nilp (n : Nat) : tokOf n .nilp = none := by simp [tokOf]
@[go_sem] theorem tokOf_ptr (n : Nat) (cs : List AV) (o : Nat) (tag : Option Nat) : tokOf n (.ptr cs o tag) = none := by simp [tokOf]
@[go_sem] theorem tokOf_ref (n id o : Nat) : tokOf n (.ref id o) = none := by simp [tokOf]
@[go_sem] theorem tokOf_map (n id : Nat) : tokOf n (.map id) = none := by simp [tokOf]
@[go_sem] theorem tokOfL_nil (n : Nat) : tokOfL n [] = none := by simp [tokOfL]
@[go_sem] theorem tokOfL_cons (n : Nat) (c : AV) (cs : List AV) : tokOfL n (c :: cs) = (tokOf n c).or (tokOfL n cs) := by simp [tokOfL]
attribute [go_sem] Option.none_or Option.some_or
@[go_sem] theorem ren_agg (n id : Nat) (cs : List AV) : ren n id (.agg cs) = .agg (renL n id cs) := by simp [ren]
@[go_sem] theorem ren_tuple (n id : Nat) (cs : List AV) : ren n id (.tuple cs) = .tuple (renL n id cs) := by simp [ren]
@[go_sem] theorem ren_tok (n id : Nat) (es : List AV) (t : Nat) : ren n id (.slice es (.tok t)) = if t < n then .slice es (.tok t) else if t = id then .slice es (.tok n) else .slice es .view := by simp [ren]
@[go_sem] theorem ren_view (n id : Nat) (es : List AV) : ren n id (.slice es .view) = .slice es .view := by simp [ren]
@[go_sem] theorem ren_full (n id : Nat) (es : List AV) : ren n id (.slice es .full) = .slice es .full := by simp [ren]
@[go_sem] theorem ren_int (n id : Nat) (k : IntKind) (m : Int) : ren n id (.int k m) = .int k m := by simp [ren]
@[go_sem] theorem ren_bool (n id : Nat) (b : Bool) : ren n id (.bool b) = .bool b := by simp [ren]
@[go_sem] theorem ren_str (n id : Nat) (b : List UInt8) : ren n id (.str b) = .str b := by simp [ren]
@[go_sem] theorem ren_nilp (n id : Nat) : ren n id .nilp = .nilp := by simp [ren]
@[go_sem] theorem ren_ptr (n id : Nat) (cs : List AV) (o : Nat) (tag : Option Nat) : ren n id (.ptr cs o tag) = .ptr cs o tag := by simp [ren]
@[go_sem] theorem ren_ref (n id i o : Nat) : ren n id (.ref i o) = .ref i o := by simp [ren]
@[go_sem] theorem ren_map (n id i : Nat) : ren n id (.map i) = .map i := by simp [ren]
@[go_sem] theorem renL_nil (n id : Nat) : renL n id [] = [] := by simp [renL]
@[go_sem] theorem renL_cons (n id : Nat) (c : AV) (cs : List AV) : renL n id (c :: cs) = ren n id c :: renL n id cs := by simp [renL]
end

end Go.Proofs.Ytnjaagfhaooapaa.Eng
