/- ENGINE 9: parts, indexes, slicing, conversions, literals, lengths. -/
import Derived.Test.YtnjaagfhaooapaaE8
import Derived.Laws.BytesArg
import Derived.Lib.Strings
namespace Go.Proofs.Ytnjaagfhaooapaa.Eng
set_option linter.unusedVariables false
set_option linter.unusedSimpArgs false
set_option linter.unnecessarySimpa false
set_option linter.constructorNameAsVariable false
open Go Go.RowKit

theorem str_size (l : List UInt8) : (⟨l.toArray⟩ : ByteArray).size = l.length := by simp [ByteArray.size]

theorem str_get (l : List UInt8) (n : Nat) : (⟨l.toArray⟩ : ByteArray)[n]? = l[n]? := by
  by_cases h : n < l.length
  · have h' : n < (⟨l.toArray⟩ : ByteArray).size := by rw [str_size]; exact h
    rw [getElem?_pos (⟨l.toArray⟩ : ByteArray) n h', List.getElem?_eq_getElem h]
    rfl
  · rw [getElem?_neg (⟨l.toArray⟩ : ByteArray) n (by rw [str_size]; omega), List.getElem?_eq_none (by omega)]

theorem str_extract (l : List UInt8) (a b : Nat) : (⟨l.toArray⟩ : ByteArray).extract a b = ⟨((l.drop a).take (b - a)).toArray⟩ := by
  apply ByteArray.ext
  rw [← Array.toList_inj]
  have := Lib.extract_data ⟨l.toArray⟩ a b
  simpa using this

theorem part_sound {P : Program} {κ : Conc} {w : World} {T : Nat} {ti : TI} {cs : List AV} {vs : Array Value} {off : Nat} {r : AV} (ht : tinfo P T = some ti) (hr : Rep κ w (.agg cs) (.agg vs)) (h : readCells ti.agg ti.size cs off = some r) :
    ∃ v, (part T vs off).run P w = .ok v w ∧ Rep κ w r v := by
  obtain ⟨_, _, _, hsz, hag, _⟩ := tinfo_spec ht
  cases hr with
  | agg _ _ hl h1 hh =>
  unfold readCells at h
  split at h
  · rename_i ha
    split at h
    · rename_i hlen
      obtain rfl := Option.some.inj h
      refine ⟨.agg (vs.extract off (off + ti.size)), by simp [part, hag, ha, hsz], .agg _ _ ?_ ?_ ?_⟩
      · simp; omega
      · intro c hc; exact h1 c (List.mem_of_mem_drop (List.mem_of_mem_take hc))
      · intro i c hi
        have hi2 : i < ti.size := by
          rcases Nat.lt_or_ge i ti.size with q | q
          · exact q
          · simp [List.getElem?_take_eq_none q] at hi
        rw [List.getElem?_take_of_lt hi2, List.getElem?_drop] at hi
        have := hh _ _ hi
        have e : (vs.extract off (off + ti.size)).getD i undef = vs.getD (off + i) undef := by
          simp only [Array.getD_eq_getD_getElem?]
          rw [Array.getElem?_extract]
          have : i < min (off + ti.size) vs.size - off := by omega
          simp [this]
        rw [e]; exact this
    · simp at h
  · rename_i ha
    have hlt : off < cs.length := by
      rcases Nat.lt_or_ge off cs.length with q | q
      · exact q
      · simp [List.getElem?_eq_none q] at h
    have hlt' : off < vs.size := by omega
    refine ⟨vs.getD off undef, ?_, hh _ _ h⟩
    simp [part, hag, ha, Array.getD, hlt']

theorem bound_sound {κ : Conc} {W : World} {n : Nat} {w : World} {σ : St} {a : Act} (hS : SRep W n κ σ a w) {d : Int} {x : Option Operand} {r : Int} (h : bound (evalO σ.t) d x = some r) :
    (x = none ∧ r = d) ∨ ∃ y k, x = some y ∧ a.eval y = .int k r := by
  cases x with
  | none => left; simp [bound] at h; exact ⟨rfl, h.symm⟩
  | some y =>
    right
    simp only [bound] at h
    have hr := evalO_rep hS y
    split at h
    · rename_i k m hy
      obtain rfl := Option.some.inj h
      rw [hy] at hr
      have : ∃ k, a.eval y = .int k m := by
        generalize a.eval y = z at hr
        cases hr
        exact ⟨_, rfl⟩
      obtain ⟨k, e⟩ := this
      exact ⟨y, k, rfl, e⟩
    · simp at h

theorem run_sliceBound {P : Program} {w : World} {k : IntKind} {r : Int} {y : Nat} {code : BoundsCode} (h0 : 0 ≤ r) (h1 : r ≤ y) : (Instr.sliceBound (.int k r) y code).run P w = .ok r.toNat w := by
  simp [Instr.sliceBound, asIntOf, h0, h1]

theorem run_sliceBounds {P : Program} {W : World} {n : Nat} {κ : Conc} {w : World} {σ : St} {a : Act} (hS : SRep W n κ σ a w) {lo hi : Option Operand} {len cap : Nat} {x y : Int} (b : Bool)
    (hx : bound (evalO σ.t) 0 lo = some x) (hy : bound (evalO σ.t) len hi = some y) (h0 : 0 ≤ x) (h1 : x ≤ y) (h2 : y ≤ len) (h3 : len ≤ cap) :
    (Instr.sliceBounds b len cap (lo.map a.eval) (hi.map a.eval) none).run P w = .ok (x.toNat, y.toNat, cap) w := by
  rcases bound_sound hS hx with ⟨rfl, rfl⟩ | ⟨u, k, rfl, e⟩ <;> rcases bound_sound hS hy with ⟨rfl, rfl⟩ | ⟨u', k', rfl, e'⟩
  · simp [Instr.sliceBounds]
  · simp only [Instr.sliceBounds, Option.map_some, Option.map_none, e', Sem.run_bind, Sem.run_pure, Result.andThen_ok]
    rw [run_sliceBound (by omega) (by omega)]
    simp
  · simp only [Instr.sliceBounds, Option.map_some, Option.map_none, e, Sem.run_bind, Sem.run_pure, Result.andThen_ok, Option.isSome_none]
    rw [run_sliceBound (by omega) (by omega)]
    simp
  · simp only [Instr.sliceBounds, Option.map_some, Option.map_none, e, e', Sem.run_bind, Sem.run_pure, Result.andThen_ok, Option.isSome_none]
    rw [run_sliceBound (by omega) (by omega)]
    simp only [Result.andThen_ok]
    rw [run_sliceBound (by omega) (by omega)]
    simp

theorem flat_drop {sz : Nat} : ∀ (es : List AV) (a : Nat), (∀ e ∈ es, e.cells.length = sz) → (es.drop a).flatMap AV.cells = (es.flatMap AV.cells).drop (a * sz)
  | [], a, _ => by simp
  | e :: es, 0, _ => by simp
  | e :: es, a + 1, hs => by
    have he := hs e (by simp)
    rw [List.drop_succ_cons, flat_drop es a (fun e h => hs e (by simp [h])), List.flatMap_cons, Nat.succ_mul, Nat.add_comm, ← List.drop_drop, List.drop_append_of_le_length (by omega), ← he]
    simp

theorem flat_take {sz : Nat} : ∀ (es : List AV) (a : Nat), (∀ e ∈ es, e.cells.length = sz) → (es.take a).flatMap AV.cells = (es.flatMap AV.cells).take (a * sz)
  | [], a, _ => by simp
  | e :: es, 0, _ => by simp
  | e :: es, a + 1, hs => by
    have he := hs e (by simp)
    rw [List.take_succ_cons, List.flatMap_cons, flat_take es a (fun e h => hs e (by simp [h])), List.flatMap_cons, Nat.succ_mul, Nat.add_comm, List.take_append, he]
    simp [show a * sz + sz - sz = a * sz by omega, List.take_of_length_le (show e.cells.length ≤ sz + a * sz by omega), show sz + a * sz - sz = a * sz by omega]

theorem aslice_sound {P : Program} {W : World} {n : Nat} {κ : Conc} {w : World} {σ : St} {a : Act} (hS : SRep W n κ σ a w) {T : Nat} {x : TV} {vx : Value} {lo hi : Option Operand} {u : Out} (h : aslice P (evalO σ.t) σ T x lo hi = some u) (hx : TRep κ w x vx) :
    u.L = σ.L ∧ u.H = σ.H ∧ ∃ y, u.val = some y ∧ ∃ v, (Instr.sliceAt T vx (lo.map a.eval) (hi.map a.eval) none).run P w = .ok v w ∧ TRep κ w y v := by
  unfold aslice at h
  split at h
  · rename_i l
    split at h
    · rename_i hT
      have hu := isStrT_spec hT
      split at h
      · rename_i p q hp hq
        split at h
        · rename_i hc
          obtain rfl := Option.some.inj h
          cases hx
          refine ⟨rfl, rfl, _, rfl, .string ((⟨l.toArray⟩ : ByteArray).extract p.toNat q.toNat), ?_, ?_⟩
          · have := run_sliceBounds (P := P) hS (len := l.length) (cap := l.length) false hp hq hc.1 hc.2.1 hc.2.2 (Nat.le_refl _)
            simp [Instr.sliceAt, underlying, hu, Instr.slice, str_size, this]
          · rw [str_extract]; exact Rep.str _
        · simp at h
      · simp at h
    · simp at h
  · rename_i es own
    split at h
    · rename_i e p q he hp hq
      have hu := sliceT_spec he
      split at h
      · rename_i ti ht
        obtain ⟨_, _, _, hsz, _⟩ := tinfo_spec ht
        split at h
        · rename_i hc
          obtain ⟨c1, c2, c3, c4⟩ := hc
          obtain rfl := Option.some.inj h
          cases hx with
          | slice _ _ ad0 cap b o sz f ha hcap hs hz h1 hcc hh ho =>
          have hb := run_sliceBounds (P := P) hS (len := es.length) (cap := cap) true hp hq c1 c2 c3 hcap
          have hlen : ((es.drop p.toNat).take (q.toNat - p.toNat)).length = q.toNat - p.toNat := by simp; omega
          refine ⟨rfl, rfl, _, rfl, .slice (if cap = p.toNat then ad0 else ad0.map (·.add (p.toNat * ti.size))) (q.toNat - p.toNat) (cap - p.toNat), ?_, ?_⟩
          · simp [Instr.sliceAt, underlying, hu, Instr.slice, hb, hsz]
          · have hpsz : p.toNat * sz = p.toNat * ti.size ∨ (es.drop p.toNat).take (q.toNat - p.toNat) = [] := by
              rcases c4 with c4 | c4
              · left; subst c4; simp
              · by_cases hne : es = []
                · right; subst hne; simp
                · left
                  obtain ⟨z, hz⟩ := List.exists_mem_of_ne_nil es hne
                  rw [← hs z hz, c4 z hz]
            suffices key : Rep κ w (.slice ((es.drop p.toNat).take (q.toNat - p.toNat)) .view) (.slice (if cap = p.toNat then ad0 else ad0.map (·.add (p.toNat * ti.size))) ((es.drop p.toNat).take (q.toNat - p.toNat)).length (cap - p.toNat)) by
              rw [hlen] at key; exact key
            refine Rep.slice _ .view _ _ b (o + p.toNat * sz) sz (fun j => f (p.toNat * sz + j)) ?_ (by omega) ?_ hz ?_ ?_ ?_ (by exact trivial)
            · intro hne
              have hlt : p.toNat < q.toNat := by
                rcases Nat.lt_or_ge p.toNat q.toNat with z | z
                · exact z
                · exact absurd (List.eq_nil_of_length_eq_zero (by omega)) hne
              have hne2 : es ≠ [] := by intro z; subst z; simp at hne
              obtain rfl := ha hne2
              rw [if_neg (by omega)]
              rcases hpsz with z | z
              · simp [ad_add, z]
              · exact absurd z hne
            · intro z hz; exact hs z (List.mem_of_mem_drop (List.mem_of_mem_take hz))
            · intro c hc
              obtain ⟨z, hz, hc⟩ := List.mem_flatMap.1 hc
              exact h1 c (List.mem_flatMap.2 ⟨z, List.mem_of_mem_drop (List.mem_of_mem_take hz), hc⟩)
            · intro j hj
              rw [hlen] at hj
              have := hcc (p.toNat * sz + j) (by
                have : q.toNat * sz ≤ es.length * sz := Nat.mul_le_mul_right _ (by omega)
                rw [Nat.sub_mul] at hj; omega)
              rw [show o + p.toNat * sz + j = o + (p.toNat * sz + j) by omega]
              exact this
            · intro j c hj
              rw [flat_take _ _ (fun z hz => hs z (List.mem_of_mem_drop hz)), flat_drop _ _ hs] at hj
              have hlt : j < (q.toNat - p.toNat) * sz := by
                rcases Nat.lt_or_ge j ((q.toNat - p.toNat) * sz) with z | z
                · exact z
                · simp [List.getElem?_take_eq_none z] at hj
              rw [List.getElem?_take_of_lt hlt, List.getElem?_drop] at hj
              exact hh _ _ hj
        · simp at h
      · simp at h
    · simp at h
  · simp at h

end Go.Proofs.Ytnjaagfhaooapaa.Eng
