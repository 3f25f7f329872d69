/- ENGINE 8: addresses, parts, reads, literals. -/
import Derived.Test.YtnjaagfhaooapaaE7
namespace Go.Proofs.Ytnjaagfhaooapaa.Eng
set_option linter.unusedVariables false
set_option linter.unusedSimpArgs false
set_option linter.unnecessarySimpa false
set_option linter.constructorNameAsVariable false
open Go Go.RowKit

theorem addOff_sound {κ : Conc} {w : World} {off : Nat} {x y : TV} {v : Value} (h : addOff off x = some y) (hr : TRep κ w x v) :
    ∃ p, v = .pointer (some p) ∧ TRep κ w y (.pointer (some (p.add off))) := by
  unfold addOff at h
  split at h
  · rename_i cs o tag
    cases hr with
    | ptr _ _ _ b o' f h1 hc hh ht =>
    split at h
    · obtain rfl := Option.some.inj h
      rename_i h0
      subst h0
      exact ⟨_, rfl, Rep.ptr cs o tag b o' f h1 hc hh ht⟩
    · obtain rfl := Option.some.inj h
      refine ⟨_, rfl, ?_⟩
      rw [ad_add, Nat.add_assoc]
      exact Rep.ptr cs (o + off) none b o' f h1 hc hh (fun t e => by cases e)
  · rename_i id o
    obtain rfl := Option.some.inj h
    cases hr with
    | ref _ _ b o' e =>
    refine ⟨_, rfl, ?_⟩
    rw [ad_add, Nat.add_assoc]
    exact Rep.ref id (o + off) b o' e
  · obtain rfl := Option.some.inj h
    obtain ⟨m, b, e, l, d, p, rfl⟩ := hr
    refine ⟨p, rfl, m, b, e, l, fun q => ?_, _, rfl⟩
    have := d q
    injection this with this; injection this with this
    subst this
    rw [ad_add]
  · obtain rfl := Option.some.inj h
    obtain ⟨m, e, l, d, p, rfl⟩ := hr
    refine ⟨p, rfl, m, e, l, fun q => ?_, _, rfl⟩
    obtain ⟨b, o, cap, e1, e2⟩ := d q
    refine ⟨b, o, cap, e1, ?_⟩
    injection e2 with e2; injection e2 with e2
    subst e2
    rw [ad_add, Nat.add_assoc]
  · simp at h

theorem partAtT_spec {P : Program} {T f off sz : Nat} (h : partAtT P T f = some (off, sz)) : ∃ fs g i, P.underlying T = some (.struct fs) ∧ fs[f]? = some g ∧ P.info? g.type = some i ∧ g.offset = off ∧ i.size = sz := by
  unfold partAtT at h
  split at h
  · rename_i fs hu
    split at h
    · rename_i g hg
      cases hi : P.info? g.type with
      | none => simp [hi] at h
      | some i =>
        simp [hi] at h
        exact ⟨fs, g, i, hu, hg, hi, h.1, h.2⟩
    · simp at h
  · simp at h

theorem run_fieldAt {P : Program} {w : World} {T f off sz : Nat} (h : partAtT P T f = some (off, sz)) (hs : sz ≠ 0) (p : Addr) : (Instr.fieldAt T (.pointer (some p)) f).run P w = .ok (.pointer (some (p.add off))) w := by
  obtain ⟨fs, g, i, hu, hg, hi, rfl, rfl⟩ := partAtT_spec h
  simp [Instr.fieldAt, underlying, hu, hg, Instr.sureAddr, fieldPlace, sizeOf, typeInfo, hi, hs]

theorem sliceT_spec {P : Program} {T e : Nat} (h : sliceT P T = some e) : P.underlying T = some (.slice e) := by
  unfold sliceT at h
  split at h
  · rename_i e' hu; obtain rfl := Option.some.inj h; exact hu
  · simp at h

theorem arrT_spec {P : Program} {T n e : Nat} (h : arrT P T = some (n, e)) : P.underlying T = some (.array n e) := by
  unfold arrT at h
  split at h
  · rename_i n' e' hu; injection h with h; injection h with h1 h2; subst h1 h2; exact hu
  · simp at h

theorem isStrT_spec {P : Program} {T : Nat} (h : isStrT P T = true) : P.underlying T = some .string := by
  unfold isStrT at h
  split at h
  · assumption
  · simp at h

theorem kindT_spec {P : Program} {T : Nat} {k : IntKind} (h : kindT P T = some k) : P.underlying T = some (.int k) := by
  unfold kindT at h
  split at h
  · rename_i k' hu; obtain rfl := Option.some.inj h; exact hu
  · simp at h

/-- The cells of the i-th element in the flattened row. -/
theorem flat_elem {es : List AV} {sz : Nat} (hs : ∀ e ∈ es, e.cells.length = sz) : ∀ {i : Nat} {c : AV}, es[i]? = some c → ∀ j d, c.cells[j]? = some d → (es.flatMap AV.cells)[i * sz + j]? = some d := by
  induction es with
  | nil => intro i c h; simp at h
  | cons e es ih =>
    intro i c h j d hj
    have he : e.cells.length = sz := hs e (by simp)
    cases i with
    | zero =>
      simp at h; subst h
      have hlt : j < e.cells.length := by
        rcases Nat.lt_or_ge j e.cells.length with q | q
        · exact q
        · simp [List.getElem?_eq_none q] at hj
      simp only [List.flatMap_cons, Nat.zero_mul, Nat.zero_add]
      rw [List.getElem?_append_left hlt]; exact hj
    | succ i =>
      simp at h
      simp only [List.flatMap_cons]
      rw [List.getElem?_append_right (by rw [he, Nat.succ_mul]; omega)]
      have := ih (fun e h => hs e (by simp [h])) h j d hj
      rw [he, show (i + 1) * sz + j - sz = i * sz + j by rw [Nat.succ_mul]; omega]
      exact this

theorem flat_length {es : List AV} {sz : Nat} (hs : ∀ e ∈ es, e.cells.length = sz) : (es.flatMap AV.cells).length = es.length * sz := by
  induction es with
  | nil => simp
  | cons e es ih =>
    simp only [List.flatMap_cons, List.length_append, List.length_cons]
    rw [ih (fun e h => hs e (by simp [h])), hs e (by simp), Nat.succ_mul]; omega

theorem aindexAddr_sound {P : Program} {W : World} {κ : Conc} {w : World} {σ : St} {T : Nat} {x : TV} {k : IntKind} {i : Int} {vx : Value} {u : Out} (hI : Inv W κ w σ.L σ.H) (h : aindexAddr P σ T x i = some u) (hx : TRep κ w x vx) :
    u.L = σ.L ∧ u.H = σ.H ∧ ∃ y, u.val = some y ∧ ∃ v, (Instr.indexAt T vx (.int k i)).run P w = .ok v w ∧ TRep κ w y v := by
  unfold aindexAddr at h
  split at h
  · rename_i e he
    have hu := sliceT_spec he
    split at h
    · rename_i ti es own ht
      obtain ⟨_, _, _, hsz, _⟩ := tinfo_spec ht
      split at h
      · rename_i c hc
        split at h
        · rename_i hcl
          obtain rfl := Option.some.inj h
          refine ⟨rfl, rfl, _, rfl, ?_⟩
          split at hc
          · rename_i h0
            cases hx with
            | slice _ _ a cap b o sz f ha hcap hs hz h1 hcc hh ho =>
            have hlt : i.toNat < es.length := by
              rcases Nat.lt_or_ge i.toNat es.length with q | q
              · exact q
              · simp [List.getElem?_eq_none q] at hc
            have hne : es ≠ [] := by intro q; subst q; simp at hlt
            obtain rfl := ha hne
            have hszc : sz = ti.size := (hs c (getElem?_mem hc)).symm.trans hcl.1
            subst hszc
            refine ⟨.pointer (some (ad b (o + i.toNat * ti.size + 0))), ?_, ?_⟩
            · have : 0 ≤ i ∧ i < (es.length : Int) := by omega
              simp [Instr.indexAt, asIntOf, underlying, hu, hsz, this]
              simp [ad_add]
            · have hfl := flat_elem hs hc
              refine Rep.ptr c.cells 0 none b (o + i.toNat * ti.size) (fun j => f (i.toNat * ti.size + j)) ?_ ?_ ?_ (fun t e => by cases e)
              · intro d hd
                obtain ⟨j, hj⟩ := mem_getElem? hd
                exact h1 d (getElem?_mem (hfl j d hj))
              · intro j hj
                rw [hcl.1] at hj
                have := hcc (i.toNat * ti.size + j) (by
                  have : (i.toNat + 1) * ti.size ≤ es.length * ti.size := Nat.mul_le_mul_right _ hlt
                  rw [Nat.succ_mul] at this; omega)
                rw [show o + i.toNat * ti.size + j = o + (i.toNat * ti.size + j) by omega]
                exact this
              · intro j d hj
                exact hh _ _ (hfl j d hj)
          · simp at hc
        · simp at h
      · simp at h
    · rename_i ti id len ht
      obtain ⟨_, _, _, hsz, _⟩ := tinfo_spec ht
      split at h
      · rename_i cs sz hH
        split at h
        · rename_i hcond
          obtain ⟨hlen, rfl, hsz0, h0, h1⟩ := hcond
          obtain rfl := Option.some.inj h
          refine ⟨rfl, rfl, _, rfl, ?_⟩
          obtain ⟨n, a, cap, e0, e1, e2, e3, e5, e4⟩ := hI.objs _ _ hH
          have hn : n = len := by
            rw [hlen] at e0
            exact (Nat.eq_of_mul_eq_mul_right (by omega) e0).symm
          subst hn
          cases hx with
          | vec _ _ m a' cap' ht' hl' hv' =>
          rw [e1] at ht'; obtain rfl := Option.some.inj ht'
          have := hv' rfl
          rw [e2] at this; injection this with this; injection this with q1 q2 q3; subst q1 q3
          obtain ⟨b, o, rfl, _⟩ := e4 (by
            have : (i.toNat + 1) * ti.size ≤ cap * ti.size := Nat.mul_le_mul_right _ (by omega)
            rw [Nat.succ_mul] at this; omega)
          refine ⟨.pointer (some (ad b (o + i.toNat * ti.size))), ?_, n, e1, Nat.le_refl _, fun _ => ⟨b, o, cap, e2, rfl⟩, _, rfl⟩
          have : 0 ≤ i ∧ i < (n : Int) := ⟨h0, h1⟩
          simp [Instr.indexAt, asIntOf, underlying, hu, hsz, this, ad_add]
        · simp at h
      · simp at h
    · simp at h
  · split at h
    · rename_i n e he
      have hu := arrT_spec he
      split at h
      · rename_i ti ht
        obtain ⟨_, _, _, hsz, _⟩ := tinfo_spec ht
        split at h
        · rename_i hb
          cases hao : addOff (i.toNat * ti.size) x with
          | none => simp [hao] at h
          | some y =>
            simp [hao, value] at h
            subst h
            obtain ⟨p, rfl, hr⟩ := addOff_sound hao hx
            refine ⟨rfl, rfl, _, rfl, _, ?_, hr⟩
            simp [Instr.indexAt, asIntOf, underlying, hu, hsz, hb, Instr.sureAddr]
        · simp at h
      · simp at h
    · simp at h

theorem aload_sound {P : Program} {W : World} {κ : Conc} {w : World} {σ : St} {T : Nat} {ti : TI} {x : TV} {vx : Value} {u : Out} (hI : Inv W κ w σ.L σ.H) (ht : tinfo P T = some ti) (h : aload σ ti x = some u) (hx : TRep κ w x vx) :
    u.L = σ.L ∧ u.H = σ.H ∧ ∃ y, u.val = some (.v y) ∧ ∃ v, (Instr.loadAt T vx).run P w = .ok v w ∧ Rep κ w y v := by
  unfold aload at h
  split at h
  · rename_i cs off tag
    cases hr : readCells ti.agg ti.size cs off with
    | none => simp [hr] at h
    | some r =>
      simp [hr] at h; subst h
      cases hx with
      | ptr _ _ _ b o f h1 hc hh _ =>
      obtain ⟨v, e1, e2⟩ := readCells_sound ht hr h1 (fun i hi => (hc i hi).2) hh
      exact ⟨rfl, rfl, _, rfl, v, by simp [Instr.loadAt, Instr.sureAddr, e1], e2⟩
  · rename_i s ver off
    split at h
    · rename_i ver' cs hL
      split at h
      · rename_i hv
        subst hv
        cases hr : readCells ti.agg ti.size cs off with
        | none => simp [hr] at h
        | some r =>
          simp [hr] at h; subst h
          obtain ⟨m, b, e, l, d, _⟩ := hx
          obtain ⟨b', e', f, h1, hc, hh⟩ := hI.locs _ _ _ hL
          rw [e] at e'; injection e' with e'; injection e' with q1 q2; subst q1 q2
          obtain rfl := d rfl
          obtain ⟨v, e1, e2⟩ := readCells_sound (o := 0) ht hr h1 (fun i hi => (hc i hi).2) hh
          rw [Nat.zero_add] at e1
          exact ⟨rfl, rfl, _, rfl, v, by simp [Instr.loadAt, Instr.sureAddr, e1], e2⟩
      · simp at h
    · simp at h
  · rename_i id off
    split at h
    · rename_i cs hH
      cases hr : readCells ti.agg ti.size cs off with
      | none => simp [hr] at h
      | some r =>
        simp [hr] at h; subst h
        cases hx with
        | ref _ _ b o e =>
        obtain ⟨b', o', e', ⟨f, h1, hc, hh⟩, _⟩ := hI.objs _ _ hH
        rw [e] at e'; injection e' with e'; injection e' with q1 q2; subst q1 q2
        obtain ⟨v, e1, e2⟩ := readCells_sound ht hr h1 (fun i hi => (hc i hi).2) hh
        exact ⟨rfl, rfl, _, rfl, v, by simp [Instr.loadAt, Instr.sureAddr, e1], e2⟩
    · simp at h
  · rename_i id len off
    split at h
    · rename_i cs sz hH
      split at h
      · rename_i hlen
        obtain ⟨hlen, hsz, hts⟩ := hlen
        cases hr : readCells ti.agg ti.size cs off with
        | none => simp [hr] at h
        | some r =>
          simp [hr] at h; subst h
          obtain ⟨n, a, cap, e0, e1, e2, e3, e5, e4⟩ := hI.objs _ _ hH
          obtain ⟨m, t1, t2, t3, p, rfl⟩ := hx
          rw [e1] at t1; obtain rfl := Option.some.inj t1
          have hn : n = len := by
            rw [hlen] at e0
            exact (Nat.eq_of_mul_eq_mul_right (by omega) e0).symm
          subst hn
          obtain ⟨b, o, cap', q1, q2⟩ := t3 rfl
          rw [e2] at q1; injection q1 with q1; injection q1 with r1 r2 r3; subst r1 r3
          injection q2 with q2; injection q2 with q2; subst q2
          have hpos : 0 < cs.length := by
            unfold readCells at hr
            split at hr
            · split at hr
              · omega
              · simp at hr
            · rcases Nat.lt_or_ge off cs.length with q | q
              · omega
              · simp [List.getElem?_eq_none q] at hr
          obtain ⟨b', o', hb, ⟨f, h1, hc, hh⟩, _⟩ := e4 (by
            have : n * sz ≤ cap * sz := Nat.mul_le_mul_right _ e3
            omega)
          injection hb with hb; injection hb with hb1 hb2; subst hb1 hb2
          obtain ⟨v, y1, y2⟩ := readCells_sound ht hr h1 (fun i hi => (hc i hi).2) hh
          exact ⟨rfl, rfl, _, rfl, v, by simp [Instr.loadAt, Instr.sureAddr, y1], y2⟩
      · simp at h
    · simp at h
  · simp at h

end Go.Proofs.Ytnjaagfhaooapaa.Eng
