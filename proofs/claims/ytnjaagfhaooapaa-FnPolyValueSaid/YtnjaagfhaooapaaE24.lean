/- ENGINE 24: regions that draw their order, whatever the order. -/
import Derived.Test.YtnjaagfhaooapaaE23
namespace Go.Proofs.Ytnjaagfhaooapaa.Eng
set_option linter.unusedVariables false
set_option linter.unusedSimpArgs false
set_option linter.unnecessarySimpa false
set_option linter.constructorNameAsVariable false
open Go Go.RowKit

theorem runOpsT_length {P : Program} {md : Nat → Mode} {n : Nat} {call : CallF} {ops : Array Oper} : ∀ (l : List Oper) {σ σ' : St} {ts : List Tr}, runOpsT P md n call ops l σ = some (σ', ts) → ts.length = l.length
  | [], σ, σ', ts, h => by simp [runOpsT] at h; rw [h.2]; rfl
  | o :: l, σ, σ', ts, h => by
    simp only [runOpsT] at h
    split at h
    · split at h
      · rename_i h2
        injection h with h; injection h with h1 h3; subst h3
        simp [runOpsT_length l h2]
      · simp at h
    · simp at h

/-- The traces of operations that touch nothing. -/
theorem runOpsT_pure {P : Program} {md : Nat → Mode} {n : Nat} {call : CallF} {ops : Array Oper} : ∀ (l : List Oper) {σ σ' : St} {ts : List Tr}, runOpsT P md n call ops l σ = some (σ', ts) → ∀ (k : Nat) (o : Oper) (t : Tr), l[k]? = some o → ts[k]? = some t → purely o.op = true → t.acc = .pure
  | [], σ, σ', ts, h, k, o, t, hk, _, _ => by simp at hk
  | o :: l, σ, σ', ts, h, k, o', t, hk, ht, hp => by
    simp only [runOpsT] at h
    split at h
    · rename_i σ1 acc h1
      split at h
      · rename_i σ2 ts2 h2
        injection h with h; injection h with h3 h4; subst h4
        cases k with
        | zero =>
          simp at hk ht; subst hk ht
          have := purely_step hp h1
          subst this; rfl
        | succ k => exact runOpsT_pure l h2 k o' t (by simpa using hk) (by simpa using ht) hp
      · simp at h
    · simp at h

theorem comm_pure_left {a b : Tr} (h : a.acc = .pure) : a.comm b := by
  unfold Tr.comm; rw [h]; trivial

theorem comm_pure_right {a b : Tr} (h : b.acc = .pure) : a.comm b := by
  unfold Tr.comm; rw [h]
  cases a.acc <;> trivial

theorem mem_mid {i j : Nat} {l1 l2 : List Nat} (h : i ∈ l1 ++ l2) : i ∈ l1 ++ j :: l2 := by
  rcases List.mem_append.1 h with h | h
  · exact List.mem_append.2 (.inl h)
  · exact List.mem_append.2 (.inr (List.mem_cons_of_mem _ h))

theorem not_mem_mid {i j : Nat} {l1 l2 : List Nat} (h : i ∉ l1 ++ l2) (hne : i ≠ j) : i ∉ l1 ++ j :: l2 := by
  intro q
  rcases List.mem_append.1 q with q | q
  · exact h (List.mem_append.2 (.inl q))
  · rcases List.mem_cons.1 q with q | q
    · exact hne q
    · exact h (List.mem_append.2 (.inr q))

theorem drawn_any {P : Program} {W : World} {n : Nat} {md : Nat → Mode} {call : CallF} {ops : Array Oper} {Q : Exit → Act → World → Prop} (hcall : CallOk P call) {σf : St} {l : List Tr} {ps0 : List (Nat × Nat)} (hun : unordered ops = some ps0)
    (hcomm : ∀ i j oi oj ti tj, (i, j) ∈ ps0 → ops.toList[i]? = some oi → ops.toList[j]? = some oj → l[i]? = some ti → l[j]? = some tj → ti.comm tj)
    (hpure : ∀ (k : Nat) (o : Oper) (t : Tr), ops.toList[k]? = some o → l[k]? = some t → purely o.op = true → t.acc = .pure) (hll : l.length = ops.size) :
    ∀ (m : Nat) (L : List Nat) (listed : Array Bool) (κ : Conc) (σ : St) (a : Act) (w : World), L.length = m → L.Pairwise (· < ·) → (∀ i ∈ L, i < ops.size) → listed.size = ops.size → (∀ i, i < ops.size → (listed.getD i true = false ↔ i ∈ L)) →
      (∀ (k : Nat) (o : Oper), ops.toList[k]? = some o → k ∉ L → ∀ e ∈ o.after.toList, Region.binds .any e = true → e.on ∉ L) →
      runOpsT P md n call ops (L.map fun i => ops.toList.getD i default) σ = some (σf, L.map fun i => l.getD i ⟨.pure, [], []⟩) → SRep W n κ σ a w →
      (∀ κ' a' w', Ext κ w κ' w' → LExt κ κ' → SRep W n κ' σf a' w' → Q .normal a' w') → wpAny P .any ops Q m listed a w := by
  obtain ⟨hback, hpairs⟩ := unordered_spec hun
  intro m
  induction m with
  | zero =>
    intro L listed κ σ a w hL _ hlt hsz hmem _ hrun hS hK
    have hL0 : L = [] := List.eq_nil_of_length_eq_zero hL
    subst hL0
    simp [runOpsT] at hrun; subst hrun
    refine ⟨?_, hK κ a w (Ext.refl _ _) (LExt.refl _) hS⟩
    cases hr : Region.ready .any ops listed with
    | nil => rfl
    | cons j r =>
      have hj : j ∈ Region.ready .any ops listed := by rw [hr]; simp
      obtain ⟨h1, o, ho, _⟩ := mem_ready.1 hj
      have hjlt : j < ops.size := (Array.getElem?_eq_some_iff.1 ho).1
      exact absurd ((hmem j hjlt).1 h1) (by simp)
  | succ m ih =>
    intro L listed κ σ a w hL hsorted hlt hsz hmem hclosed hrun hS hK
    refine ⟨fun hr => ?_, fun j hj => ?_⟩
    · -- the first that is left is ready
      exfalso
      obtain ⟨j0, L', rfl⟩ : ∃ j0 L', L = j0 :: L' := by
        cases L with
        | nil => simp at hL
        | cons j0 L' => exact ⟨j0, L', rfl⟩
      have hj0 : j0 < ops.size := hlt j0 (by simp)
      have : j0 ∈ Region.ready .any ops listed := by
        rw [mem_ready]
        refine ⟨(hmem j0 hj0).2 (by simp), ops[j0], by simp [hj0], fun e he hb => ?_⟩
        have h1 := hback j0 ops[j0] (by simp [hj0]) e (by simpa using he) hb
        have h2 : e.on ∉ j0 :: L' := by
          intro hin
          rcases List.mem_cons.1 hin with rfl | hin
          · omega
          · have := (List.pairwise_cons.1 hsorted).1 e.on hin
            omega
        have h3 : e.on < ops.size := by omega
        have h4 := mt (hmem e.on h3).1 h2
        have h5 : e.on < listed.size := by omega
        simp [Array.getD, h5] at h4 ⊢
        exact h4
      rw [hr] at this; cases this
    · obtain ⟨h1, o, ho, hall⟩ := mem_ready.1 hj
      have hjlt : j < ops.size := (Array.getElem?_eq_some_iff.1 ho).1
      have hjL : j ∈ L := (hmem j hjlt).1 h1
      obtain ⟨l1, l2, rfl⟩ := List.append_of_mem hjL
      have ho' : ops.toList[j]? = some o := by simpa using ho
      have hsp := List.pairwise_append.1 hsorted
      -- what is ready waits for nothing that is left
      have hlisted : ∀ i, i < ops.size → (listed.getD i false = true ↔ i ∉ l1 ++ j :: l2) := fun i hi => by
        have h2 : i < listed.size := by omega
        have := hmem i hi
        simp only [Array.getD, h2, dif_pos] at this ⊢
        rw [← this]
        simp
      have hready : ∀ e ∈ o.after.toList, Region.binds .any e = true → e.on ∉ l1 ++ j :: l2 := fun e he hb => by
        have h2 := hback j o ho' e he hb
        exact (hlisted e.on (by omega)).1 (hall e (by simpa using he) hb)
      have hanc : ∀ i ∈ (ancFrom ops.toList []).getD j [], i ∉ l1 ++ j :: l2 := by
        have hlen := ancFrom_length ops.toList []
        have hj2 : (ancFrom ops.toList [])[j]? = some ((ancFrom ops.toList []).getD j []) := by
          rw [List.getD_eq_getElem?_getD, List.getElem?_eq_getElem (by rw [hlen]; simpa using hjlt)]; rfl
        exact anc_listed (D := fun i => i ∉ l1 ++ j :: l2) ops.toList hclosed ops.toList [] (by simp) (by simp) j _ hj2 o ho' hready
      have hrun' : runOpsT P md n call ops ((l1.map fun i => ops.toList.getD i default) ++ o :: (l2.map fun i => ops.toList.getD i default)) σ = some (σf, (l1.map fun i => l.getD i ⟨.pure, [], []⟩) ++ l.getD j ⟨.pure, [], []⟩ :: (l2.map fun i => l.getD i ⟨.pure, [], []⟩)) := by
        have e : ops.toList.getD j default = o := by rw [List.getD_eq_getElem?_getD, ho']; rfl
        rw [List.map_append, List.map_append, List.map_cons, List.map_cons, e] at hrun; exact hrun
      have hp := pull _ _ σ (by simp) hrun' (fun k oi ti a1 a2 => by
        rw [List.getElem?_map] at a1 a2
        cases hk : l1[k]? with
        | none => simp [hk] at a1
        | some i =>
          simp only [hk, Option.map_some, Option.some.injEq] at a1 a2
          have hil : i ∈ l1 := getElem?_mem hk
          have hij : i < j := hsp.2.2 i hil j (by simp)
          have hi2 : ops.toList[i]? = some oi := by
            have : i < ops.toList.length := by have := hlt i (by simp [hil]); simpa using this
            rw [List.getD_eq_getElem?_getD, List.getElem?_eq_getElem this] at a1
            rw [List.getElem?_eq_getElem this]; simpa using a1
          obtain ⟨g1, g2⟩ := hpairs i j oi o hij hi2 ho' (fun hin => hanc i hin (by simp [hil]))
          have hti : l[i]? = some ti := by
            have : i < l.length := by rw [hll]; exact hlt i (by simp [hil])
            rw [List.getD_eq_getElem?_getD, List.getElem?_eq_getElem this] at a2
            rw [List.getElem?_eq_getElem this]; simpa using a2
          have htj : l[j]? = some (l.getD j ⟨.pure, [], []⟩) := by
            rw [List.getD_eq_getElem?_getD, List.getElem?_eq_getElem (by rw [hll]; exact hjlt)]; rfl
          refine ⟨g1, ?_⟩
          rcases g2 with g2 | g2 | g2
          · exact comm_pure_left (hpure i oi ti hi2 hti g2)
          · exact comm_pure_right (hpure j o _ ho' htj g2)
          · exact hcomm i j oi o ti _ g2 hi2 ho' hti htj)
      simp only [runOpsT] at hp
      split at hp
      · rename_i σ1 acc hst
        split at hp
        · rename_i σf2 ts2 hrest
          injection hp with hp; injection hp with r1 r2; subst r1
          injection r2 with r2 r3; subst r3
          have hnotin : j ∉ l1 ++ l2 := by
            intro hin
            rcases List.mem_append.1 hin with hin | hin
            · exact absurd (hsp.2.2 j hin j (by simp)) (by omega)
            · exact absurd ((List.pairwise_cons.1 hsp.2.1).1 j hin) (by omega)
          refine stepOp_sound hcall hS ho hst (fun κ1 a1 w1 x1 x2 x3 => ?_)
          refine ih (l1 ++ l2) (listed.setIfInBounds j true) κ1 σ1 a1 w1 (by simp at hL ⊢; omega) ?_ (fun i hi => hlt i (mem_mid hi)) (by simpa using hsz) (fun i hi => ?_) ?_ (by simpa using hrest) x3 (fun κ' a' w' y1 y2 y3 => hK κ' a' w' (x1.trans y1) (x2.trans y2) y3)
          · exact List.pairwise_append.2 ⟨hsp.1, (List.pairwise_cons.1 hsp.2.1).2, fun x hx y hy => hsp.2.2 x hx y (by simp [hy])⟩
          · by_cases q : i = j
            · subst q
              simp only [hnotin, iff_false]
              simp [Array.getD, hsz, hjlt]
            · rw [getD_set_ne _ (fun z => q z.symm), hmem i hi]
              simp [q]
          · intro k ok hk hkn e he hb hin
            by_cases q : k = j
            · subst q
              rw [ho'] at hk; injection hk with hk; subst hk
              exact hready e he hb (mem_mid hin)
            · exact hclosed k ok hk (not_mem_mid hkn q) e he hb (mem_mid hin)
        · simp at hp
      · simp at hp

theorem drawn_sound {P : Program} {W : World} {n : Nat} {md : Nat → Mode} {call : CallF} {ops : Array Oper} {id : Nat} {Q : Exit → Act → World → Prop} (hwide : P.follows .mixedOrders = true) (hcall : CallOk P call) {κ : Conc} {σ σ' : St} {a : Act} {w : World} {l : List Tr} {ps ps0 : List (Nat × Nat)}
    (hS : SRep W n κ σ a w) (h : runOpsT P md n call ops ops.toList σ = some (σ', l)) (hun : unordered ops = some ps0) (hsub : ∀ p ∈ ps0, p ∈ ps) (hc : commAll l ps)
    (hK : ∀ κ' a' w', Ext κ w κ' w' → LExt κ κ' → SRep W n κ' σ' a' w' → Q .normal a' w') : (Code.region id ops true).wp P Q a w := by
  have hll : l.length = ops.size := by have := runOpsT_length _ h; simpa using this
  apply wp_region_any hwide
  have hS2 : SRep W n κ σ a { w with drawn := w.drawn + 1 } := ⟨fun j => (hS.tmps j).mono Ext.drew (LExt.refl _), hS.inv.drew, hS.defers, hS.size⟩
  refine drawn_any (md := md) hcall hun (fun i j oi oj ti tj hp _ _ hti htj => ?_) (fun k o t ho ht hp => runOpsT_pure _ h k o t ho ht hp) hll ops.size (List.range ops.size) (Array.replicate ops.size false) κ σ a _ (by simp) List.pairwise_lt_range (fun i hi => List.mem_range.1 hi) (by simp) (fun i hi => ?_) (fun k o hk hn => ?_) ?_ hS2 (fun κ' a' w' x1 x2 x3 => hK κ' a' w' (Ext.drew.trans x1) x2 x3)
  · have := hc (i, j) (hsub _ hp)
    simp only [hti, htj] at this
    exact this
  · simp [Array.getD, hi]
  · have : k < ops.size := by have := (List.getElem?_eq_some_iff.1 hk).1; simpa using this
    exact absurd (List.mem_range.2 this) hn
  · have e1 : (List.range ops.size).map (fun i => ops.toList.getD i default) = ops.toList := by
      apply List.ext_getElem?
      intro i
      rw [List.getElem?_map]
      by_cases q : i < ops.size
      · rw [List.getElem?_range q]
        simp [List.getD_eq_getElem?_getD, q]
      · rw [List.getElem?_eq_none (by simp; omega), List.getElem?_eq_none (by simp; omega)]; rfl
    have e2 : (List.range ops.size).map (fun i => l.getD i ⟨.pure, [], []⟩) = l := by
      apply List.ext_getElem?
      intro i
      rw [List.getElem?_map]
      by_cases q : i < ops.size
      · rw [List.getElem?_range q, List.getElem?_eq_getElem (by omega)]
        simp [List.getD_eq_getElem?_getD, List.getElem?_eq_getElem (show i < l.length by omega)]
      · rw [List.getElem?_eq_none (by simp; omega), List.getElem?_eq_none (by omega)]; rfl
    rw [e1, e2]; exact h

end Go.Proofs.Ytnjaagfhaooapaa.Eng
