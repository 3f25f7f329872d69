/- ENGINE 14: append. -/
import Derived.Test.YtnjaagfhaooapaaE13
namespace Go.Proofs.Ytnjaagfhaooapaa.Eng
set_option linter.unusedVariables false
set_option linter.unusedSimpArgs false
set_option linter.unnecessarySimpa false
set_option linter.constructorNameAsVariable false
open Go Go.RowKit

theorem growBy_le (n : Nat) : ∀ (k c : Nat), c < n → Builtin.growBy n k c ≤ 2 * n + 512
  | 0, c, h => by simp [Builtin.growBy]; omega
  | k + 1, c, h => by
    simp only [Builtin.growBy]
    rw [if_neg (by omega)]
    by_cases q : c + (c + 768) / 4 < n
    · exact growBy_le n k _ q
    · cases k with
      | zero => simp [Builtin.growBy]; omega
      | succ k =>
        simp only [Builtin.growBy]
        rw [if_pos (by omega)]
        omega

theorem nextcap_le {n c : Nat} (h : c < n) : Builtin.nextslicecap n c ≤ 2 * n + 512 := by
  unfold Builtin.nextslicecap
  split
  · omega
  · split
    · omega
    · exact growBy_le n 4 c h

theorem zeroCells_size (z : Array Value) (n : Nat) : (Builtin.zeroCells z n).size = n * z.size := by simp [Builtin.zeroCells]

/-- What append's operands hold. -/
structure AppArgs (P : Program) (T U e : Nat) (ti : TI) (argTypes : Array TypeId) : Prop where
  t0 : argTypes[0]? = some T
  t1 : argTypes[1]? = some U
  u0 : P.underlying T = some (.slice e)
  u1 : ∃ e', P.underlying U = some (.slice e')
  ti : tinfo P e = some ti

theorem run_append_fit {P : Program} {w : World} {T U e ty : Nat} {ti : TI} {argTypes : Array TypeId} (hA : AppArgs P T U e ti argTypes) {base : Option Addr} {sLen sCap n xcap : Nat} {xb : Option Addr} {new : Array Value} (hfit : sLen + n ≤ sCap)
    (hnew : (Builtin.firstCells ti.size n (.slice xb n xcap)).run P w = .ok new w) {w' : World} (hst : match base with | some a => (storeCells (a.add (sLen * ti.size)) new.toList).run P w = .ok () w' | none => w' = w) :
    (Builtin.append_ argTypes ty #[.slice base sLen sCap, .slice xb n xcap]).run P w = .ok (.slice base (sLen + n) sCap) w' := by
  obtain ⟨t0, t1, u0, ⟨e', u1⟩, hti⟩ := hA
  obtain ⟨i, z, hty, hsz, _, hz, _⟩ := tinfo_spec hti
  cases base with
  | none =>
    simp at hst; subst hst
    simp [Builtin.append_, t0, t1, underlying, u0, u1, hsz, Builtin.lenOf, hfit, hnew]
  | some a =>
    simp [Builtin.append_, t0, t1, underlying, u0, u1, hsz, Builtin.lenOf, hfit, hnew, hst]

theorem run_append_grow {P : Program} {w : World} {T U e ty : Nat} {ti : TI} {argTypes : Array TypeId} (hA : AppArgs P T U e ti argTypes) {base : Option Addr} {sLen sCap n xcap : Nat} {xb : Option Addr} {old new : Array Value} (hfit : sCap < sLen + n) (hlim : sLen + n ≤ lim) (hb : ti.bytes ≤ 128)
    (hnew : ∀ w', w'.heap = w.heap → (Builtin.firstCells ti.size n (.slice xb n xcap)).run P w' = .ok new w') (hold : ∀ w', w'.heap = w.heap → (Builtin.firstCells ti.size sLen (.slice base sLen sCap)).run P w' = .ok old w') :
    ∃ (cap : Nat) (rest : Array Value), sLen + n ≤ cap ∧ rest.size = (cap - (sLen + n)) * ti.size ∧
      (Builtin.append_ argTypes ty #[.slice base sLen sCap, .slice xb n xcap]).run P w = .ok (.slice (some (ad w.heap.size 0)) (sLen + n) cap) (w.drew.alloc (.cells (old ++ new ++ rest) e)) := by
  obtain ⟨t0, t1, u0, ⟨e', u1⟩, hti⟩ := hA
  obtain ⟨i, z, hty, hsz, _, hz, z1, z2, _, z4⟩ := tinfo_spec hti
  have hzs : z.cells.size = ti.size := by
    have := congrArg List.length z1
    simp at this; omega
  have hcapq : Builtin.nextslicecap (sLen + n) sCap * i.bytes ≤ 2 ^ 48 := by
    have h1 := nextcap_le (n := sLen + n) (c := sCap) (by omega)
    have h2 : Builtin.nextslicecap (sLen + n) sCap ≤ 549755814400 := by unfold lim at hlim; omega
    calc Builtin.nextslicecap (sLen + n) sCap * i.bytes ≤ 549755814400 * 128 := Nat.mul_le_mul h2 (by omega)
      _ ≤ 2 ^ 48 := by decide
  generalize hq : Question.cut (.appendCap (sLen + n) sCap e) (w.tape w.drawn (.appendCap (sLen + n) sCap e)) = cap
  have hcap : sLen + n ≤ cap := by subst hq; simp [Question.cut]
  have hfit' : ¬ (sLen + n ≤ sCap) := by omega
  have hbig : ¬ (((sLen + n : Nat) : Int) > IntKind.i64.max ∧ (false = true ∨ i.bytes = 0)) := by
    intro h
    have := h.1
    simp [IntKind.max, IntKind.signed, IntKind.bits] at this
    unfold lim at hlim
    omega
  refine ⟨cap, Builtin.zeroCells z.cells (cap - (sLen + n)), hcap, by rw [zeroCells_size, hzs], ?_⟩
  have hnew' := hnew w.drew rfl
  have hold' := hold w.drew rfl
  have e1 : ({ w with drawn := w.drawn + 1 } : World) = w.drew := rfl
  simp only [Builtin.append_, t0, t1, underlying, u0, u1, Sem.run_bind, run_program, Result.andThen_ok, Sem.run_pure, hsz, hty, Builtin.lenOf, hfit', if_false, Bool.false_eq_true]
  simp [t0, t1, u0, u1, hsz, hty, hfit', hz, Question.forced, hq, e1, hold', hnew', newRow]
  have hl2 : sLen + n ≤ 274877906944 := hlim
  split
  · exfalso; omega
  · split
    · exfalso; omega
    · rfl

theorem firstCells_sound {P : Program} {κ : Conc} {w : World} {es : List AV} {own : Own} {v : Value} {size : Nat} (h : Rep κ w (.slice es own) v) (hs : ∀ c ∈ es, c.cells.length = size) :
    ∃ a cap arr, v = .slice a es.length cap ∧ es.length ≤ cap ∧ OwnOk κ own es.length v ∧ (∀ w' : World, w'.heap = w.heap → (Builtin.firstCells size es.length v).run P w' = .ok arr w') ∧ CR κ w (es.flatMap AV.cells) arr ∧ arr.size = es.length * size := by
  cases h with
  | slice _ _ a cap b o sz f ha hcap hss hz h1 hcc hh ho =>
  have hfl := flat_length hss
  by_cases hne : es = []
  · subst hne
    refine ⟨a, cap, #[], rfl, hcap, ho, fun w' _ => ?_, ⟨rfl, (fun c hc => by simp at hc), (fun i c hc => by simp at hc)⟩, by simp⟩
    cases a with
    | none => rfl
    | some a => simp [Builtin.firstCells, loadCells, loadCellsFrom]
  · obtain rfl := ha hne
    obtain ⟨z, hzm⟩ := List.exists_mem_of_ne_nil es hne
    have hsz : sz = size := (hss z hzm).symm.trans (hs z hzm)
    subst hsz
    refine ⟨_, cap, ((List.range (es.length * sz)).map f).toArray, rfl, hcap, ho, fun w' hw' => ?_, ⟨by simp [hfl], h1, fun i c hc => ?_⟩, by simp⟩
    · have hc' : ∀ a, w'.cell? a = w.cell? a := fun a => by simp only [World.cell?, hw']
      simp only [Builtin.firstCells]
      exact run_loadCells (fun j hj => by rw [hc']; exact (hcc j hj).2)
    · have hlt : i < es.length * sz := by
        rw [← hfl]
        exact (List.getElem?_eq_some_iff.1 hc).1
      have := hh i c hc
      simpa [Array.getD, hlt] using this

theorem CR.append {κ : Conc} {w : World} {a b : List AV} {x y : Array Value} (h : CR κ w a x) (k : CR κ w b y) : CR κ w (a ++ b) (x ++ y) := by
  refine ⟨by simp [h.1, k.1], fun c hc => ?_, fun i c hc => ?_⟩
  · rcases List.mem_append.1 hc with hc | hc
    · exact h.2.1 c hc
    · exact k.2.1 c hc
  · by_cases q : i < a.length
    · rw [List.getElem?_append_left q] at hc
      have := h.2.2 i c hc
      rw [Array.getD_eq_getD_getElem?] at *
      rw [Array.getElem?_append_left (by rw [h.1]; exact q)]
      exact this
    · rw [List.getElem?_append_right (by omega)] at hc
      have := k.2.2 _ c hc
      rw [Array.getD_eq_getD_getElem?] at *
      rw [Array.getElem?_append_right (by rw [h.1]; omega), h.1]
      exact this

theorem CR.mono {κ κ' : Conc} {w w' : World} {a : List AV} {x : Array Value} (h : CR κ w a x) (hE : Ext κ w κ' w') : CR κ' w' a x := ⟨h.1, h.2.1, fun i c hc => (h.2.2 i c hc).mono hE⟩

/-- A new header behind a token or a vector, the world as it is. -/
def Conc.head (κ : Conc) (id n : Nat) (v : Value) : Conc := { κ with top := upd κ.top id (some n), hdr := upd κ.hdr id (some v) }

theorem Ext.head {κ : Conc} {w : World} {id n m : Nat} {v : Value} (h : κ.top id = some m) (hm : m < n ∨ (m = n ∧ κ.hdr id = some v)) : Ext κ w (κ.head id n v) w where
  pub _ _ e := ⟨e, rfl⟩
  keep _ _ e := ⟨e, rfl, rfl⟩
  loc _ _ e := e
  top i k e := by
    by_cases q : i = id
    · subst q
      rw [h] at e; obtain rfl := Option.some.inj e
      refine ⟨n, upd_same _ _ _, by omega, fun z => ?_⟩
      show upd κ.hdr i (some v) i = _
      rw [upd_same]
      rcases hm with hm | hm
      · omega
      · exact hm.2.symm
    · exact ⟨k, (upd_ne _ _ q).trans e, Nat.le_refl _, fun _ => upd_ne _ _ q⟩
  mloc _ _ e := e
  tg _ _ e := e
  size := Nat.le_refl _

end Go.Proofs.Ytnjaagfhaooapaa.Eng
