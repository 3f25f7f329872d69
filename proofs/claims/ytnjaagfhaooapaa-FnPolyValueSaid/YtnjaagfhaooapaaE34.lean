/- ENGINE 34: from the engine's answer to the model's call, at the beginning of a run. -/
import Derived.Test.YtnjaagfhaooapaaE33
namespace Go.Proofs.Ytnjaagfhaooapaa.Eng
set_option linter.unusedVariables false
set_option linter.unusedSimpArgs false
set_option linter.unnecessarySimpa false
set_option linter.constructorNameAsVariable false
open Go Go.RowKit

/-- All that lies there at the beginning is read only. -/
def pubC (W : World) : Conc :=
  { ow := fun b _ => if b < W.heap.size then .pub else .none
    loc := fun _ => none
    top := fun _ => none
    hdr := fun _ => none
    lloc := fun _ => none
    mloc := fun _ => none
    tg := fun _ => none }

theorem pubC_pub {W : World} {b o : Nat} (h : b < W.heap.size) : (pubC W).ow b o = .pub := if_pos h

theorem pubC_inv (W : World) : Inv W (pubC W) W noL [] where
  below := Below.refl _ _
  lt b o h := by
    rcases Nat.lt_or_ge b W.heap.size with q | q
    · exact q
    · exact absurd (if_neg (by omega)) h
  own b o h := by
    have h' : ∀ x, (pubC W).ow b o = x → x = .pub ∨ x = .none := by
      intro x hx
      show x = .pub ∨ x = .none
      have : (if b < W.heap.size then Owner.pub else Owner.none) = x := hx
      split at this <;> simp_all
    rcases h with ⟨id, h⟩ | ⟨s, h⟩
    · rcases h' _ h with q | q <;> cases q
    · rcases h' _ h with q | q <;> cases q
  mine id b h := by cases h
  minj i j b h1 h2 := by cases h1
  objs id x h := by simp at h
  past id h := ⟨rfl, rfl, rfl, rfl⟩
  tgs i x h := by cases h
  tags i j x h1 h2 := by cases h1
  locs s v c h := by cases h
  nolocs s h := rfl

theorem law_call {E : Env} (hwide : E.P.follows .mixedOrders = true) (hext : ExtOk E) {n : FuncId} {args : List AV} {H' : List HObj} (h : acall E n args [] = some (.bool true, H')) (W : World) (vs : Array Value) (hsz : vs.size = args.length)
    (hr : ∀ i c, args[i]? = some c → Rep (pubC W) W c (vs.getD i undef)) : Calls E.P n vs W fun e w' => e = .returned (.bool true) ∧ Below W.heap.size W w' := by
  obtain ⟨_, hc⟩ := acall_sound hwide hext n args [] _ _ h W (pubC W) W vs (pubC_inv W) rfl hsz hr
  refine hc.mono fun e w' hq => ?_
  obtain ⟨v, κ', rfl, _, hI, _, hv⟩ := hq
  refine ⟨?_, hI.below⟩
  cases hv with
  | bool b => rfl

def IsRow (k : IntKind) (w : World) (a : Option Addr) (len cap : Nat) (zs : List Int) : Prop :=
  (a = none ∧ len = 0 ∧ cap = 0 ∧ zs = []) ∨
  ∃ x, a = some x ∧ len ≤ cap ∧ cap ≤ maxLen ∧ zs.length = cap ∧ (∀ i, i < zs.length → w.cell? (x.add i) = some (.int k (zs.getD i 0))) ∧ ∀ n ∈ zs, (Lit.int k n).wf = true

/-- Bytes that came in. -/
theorem bytes_rep {W : World} {a : Option Addr} {len cap : Nat} {zs : List Int} (h : IsRow .u8 W a len cap zs) : ∃ bs : List UInt8, Rep (pubC W) W (.slice (bs.map fun b => .int .u8 b.toNat) .view) (.slice a len cap) := by
  rcases h with ⟨rfl, rfl, rfl, rfl⟩ | ⟨x, rfl, hl, hm, hz, hc, hw⟩
  · exact ⟨[], .slice [] .view none 0 0 0 1 (fun _ => undef) (fun q => absurd rfl q) (by simp) (fun e he => by simp at he) (by omega) (fun c hc => by simp at hc) (fun i hi => by simp at hi) (fun i c hc => by simp at hc) trivial⟩
  · refine ⟨(zs.take len).map fun n => UInt8.ofNat n.toNat, ?_⟩
    have hlen : (((zs.take len).map fun n => UInt8.ofNat n.toNat).map fun b : UInt8 => AV.int .u8 b.toNat).length = len := by simp; omega
    have hval : ∀ i, i < zs.length → ((UInt8.ofNat (zs.getD i 0).toNat).toNat : Int) = zs.getD i 0 := by
      intro i h
      have e : zs.getD i 0 = zs[i] := by simp [List.getD_eq_getElem?_getD, h]
      rw [e]
      have := hw zs[i] (List.getElem_mem h)
      simp only [Lit.wf, Bool.and_eq_true, decide_eq_true_eq] at this
      have h1 : IntKind.u8.min = 0 := rfl
      have h2 : IntKind.u8.max = 255 := rfl
      rw [h1, h2] at this
      rw [UInt8.toNat_ofNat']
      omega
    have hget : ∀ i c, (((zs.take len).map fun n => UInt8.ofNat n.toNat).map fun b : UInt8 => AV.int .u8 b.toNat)[i]? = some c → i < len ∧ c = .int .u8 (zs.getD i 0) := by
      intro i c hc'
      simp only [List.map_map, List.getElem?_map, Option.map_eq_some_iff, Function.comp] at hc'
      obtain ⟨n, hn, rfl⟩ := hc'
      have hi : i < len := by
        have := (List.getElem?_eq_some_iff.1 hn).1
        simp at this; omega
      rw [List.getElem?_take_of_lt hi] at hn
      refine ⟨hi, ?_⟩
      have e : zs.getD i 0 = n := by simp [List.getD_eq_getElem?_getD, hn]
      rw [e]
      have := hval i (by omega)
      rw [e] at this
      rw [this]
    rcases Nat.eq_zero_or_pos len with rfl | hpos
    · refine .slice _ .view (some x) cap 0 0 1 (fun _ => undef) (fun q => by simp at q) (by rw [hlen]; omega) (fun e he => by simp at he) (by omega) (fun c hc => by simp at hc) (fun i hi => by simp at hi) (fun i c hc => by simp at hc) trivial
    · obtain ⟨b, o, spot⟩ := x
      have h0 := hc 0 (by omega)
      have hs : spot = none := by simpa [Addr.add] using World.cell?_spot h0
      subst hs
      have hcell : ∀ i, i < zs.length → W.cell? (ad b (o + i)) = some (.int .u8 (zs.getD i 0)) := fun i hi => by
        have := hc i hi
        cases i with
        | zero => simpa [Addr.add] using this
        | succ i => simpa [Addr.add] using this
      have hb : b < W.heap.size := by
        have := hcell 0 (by omega)
        rcases Nat.lt_or_ge b W.heap.size with q | q
        · exact q
        · simp [World.cell?, Array.getElem?_eq_none q] at this
      have := Rep.slice (κ := pubC W) (w := W) (((zs.take len).map fun n => UInt8.ofNat n.toNat).map fun b : UInt8 => AV.int .u8 b.toNat) .view (some (ad b o)) cap b o 1 (fun i => .int .u8 (zs.getD i 0)) (fun _ => rfl) (by rw [hlen]; exact hl)
        (fun e he => by obtain ⟨b, _, rfl⟩ := List.mem_map.1 he; rfl) (by omega)
        (fun c hc => by
          simp only [List.flatMap_map, AV.cells, List.mem_flatMap, List.mem_singleton] at hc
          obtain ⟨b, _, rfl⟩ := hc; rfl)
        (fun i hi => by
          rw [hlen, Nat.mul_one] at hi
          exact ⟨pubC_pub hb, hcell i (by omega)⟩)
        (fun i c hc' => by
          have e : (((zs.take len).map fun n => UInt8.ofNat n.toNat).map fun b : UInt8 => AV.int .u8 b.toNat).flatMap AV.cells = ((zs.take len).map fun n => UInt8.ofNat n.toNat).map fun b : UInt8 => AV.int .u8 b.toNat := by
            rw [List.flatMap_map]
            exact List.map_eq_flatMap.symm
          rw [e] at hc'
          obtain ⟨_, rfl⟩ := hget i c hc'
          exact .int _ _) trivial
      rw [hlen] at this
      exact this
end Go.Proofs.Ytnjaagfhaooapaa.Eng
