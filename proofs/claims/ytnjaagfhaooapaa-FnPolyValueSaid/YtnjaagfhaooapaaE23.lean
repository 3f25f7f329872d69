/- ENGINE 23: regions. -/
import Derived.Test.YtnjaagfhaooapaaE22
namespace Go.Proofs.Ytnjaagfhaooapaa.Eng
set_option linter.unusedVariables false
set_option linter.unusedSimpArgs false
set_option linter.unnecessarySimpa false
set_option linter.constructorNameAsVariable false
open Go Go.RowKit

theorem runOps_sound {P : Program} {W : World} {n : Nat} {md : Nat → Mode} {call : CallF} {ops : Array Oper} {Q : Exit → Act → World → Prop} (hcall : CallOk P call) : ∀ (l : List Oper) (k : Nat) {κ : Conc} {σ σ' : St} {a : Act} {w : World},
    ops.toList.drop k = l → SRep W n κ σ a w → runOps P md n call ops l σ = some σ' → (∀ κ' a' w', Ext κ w κ' w' → LExt κ κ' → SRep W n κ' σ' a' w' → Q .normal a' w') →
    wpOps P ops Q (List.range' k l.length) a w
  | [], k, κ, σ, σ', a, w, hd, hS, h, hK => by
    simp [runOps] at h; subst h
    exact hK κ a w (Ext.refl _ _) (LExt.refl _) hS
  | o :: l, k, κ, σ, σ', a, w, hd, hS, h, hK => by
    simp only [runOps] at h
    split at h
    · rename_i σ1 acc h1
      have ho : ops[k]? = some o := by
        have : (ops.toList.drop k)[0]? = some o := by rw [hd]; rfl
        simpa using this
      have hd' : ops.toList.drop (k + 1) = l := by
        rw [← List.drop_drop, hd]; rfl
      rw [List.length_cons, List.range'_succ, wpOps_cons]
      refine stepOp_sound hcall hS ho h1 (fun κ1 a1 w1 x1 x2 x3 => ?_)
      exact runOps_sound hcall l (k + 1) hd' x3 h (fun κ' a' w' y1 y2 y3 => hK κ' a' w' (x1.trans y1) (x2.trans y2) y3)
    · simp at h

theorem region_sound {P : Program} {W : World} {n : Nat} {md : Nat → Mode} {call : CallF} {ops : Array Oper} {id : Nat} {Q : Exit → Act → World → Prop} (hcall : CallOk P call) {κ : Conc} {σ σ' : St} {a : Act} {w : World}
    (hS : SRep W n κ σ a w) (h : runOps P md n call ops ops.toList σ = some σ') (hK : ∀ κ' a' w', Ext κ w κ' w' → LExt κ κ' → SRep W n κ' σ' a' w' → Q .normal a' w') : (Code.region id ops false).wp P Q a w := by
  apply wp_region
  have := runOps_sound (Q := Q) hcall ops.toList 0 (by simp) hS h hK
  rw [List.range_eq_range']
  simpa using this

/-! ### Regions that draw their order -/
theorem pull {P : Program} {md : Nat → Mode} {n : Nat} {call : CallF} {ops : Array Oper} {oj : Oper} {l2 : List Oper} {tj : Tr} {t2 : List Tr} {σf : St} : ∀ (l1 : List Oper) (t1 : List Tr) (σ : St), t1.length = l1.length →
    runOpsT P md n call ops (l1 ++ oj :: l2) σ = some (σf, t1 ++ tj :: t2) → (∀ (k : Nat) oi ti, l1[k]? = some oi → t1[k]? = some ti → oi.apart ops oj = true ∧ ti.comm tj) →
    runOpsT P md n call ops (oj :: (l1 ++ l2)) σ = some (σf, tj :: (t1 ++ t2))
  | [], [], σ, _, h, _ => h
  | oi :: l1, ti :: t1, σ, hl, h, hc => by
    simp only [List.cons_append, runOpsT] at h
    split at h
    · rename_i σ1 acc h1
      split at h
      · rename_i σf' ts h2
        injection h with h; injection h with q1 q2; subst q1
        injection q2 with q2 q3; subst q2 q3
        have ih := pull l1 t1 σ1 (by simpa using hl) h2 (fun k o t a b => hc (k + 1) o t (by simpa using a) (by simpa using b))
        simp only [runOpsT] at ih
        split at ih
        · rename_i σ2 accj h3
          split at ih
          · rename_i σf2 ts2 h4
            injection ih with ih; injection ih with r1 r2; subst r1
            injection r2 with r2 r3; subst r2 r3
            obtain ⟨z1, z2⟩ := hc 0 oi (mkTr acc σ.H σ1.H) rfl rfl
            obtain ⟨σ1', s1, s2, s3, s4⟩ := step_swap z1 h1 h3 z2
            simp only [runOpsT, List.cons_append, s1, s2, h4, s3, s4]
          · simp at ih
        · simp at ih
      · simp at h
    · simp at h
  | [], _ :: _, _, hl, _, _ => by simp at hl
  | _ :: _, [], _, hl, _, _ => by simp at hl

theorem anc_listed {D : Nat → Prop} (full : List Oper) (hD : ∀ (k : Nat) (o : Oper), full[k]? = some o → D k → ∀ e ∈ o.after.toList, Region.binds .any e = true → D e.on) : ∀ (l : List Oper) (acc : List (List Nat)), full.drop acc.length = l →
    (∀ (j : Nat) (row : List Nat), acc[j]? = some row → ∀ o : Oper, full[j]? = some o → (∀ e ∈ o.after.toList, Region.binds .any e = true → D e.on) → ∀ i ∈ row, D i) →
    ∀ (j : Nat) (row : List Nat), (ancFrom l acc)[j]? = some row → ∀ o : Oper, full[j]? = some o → (∀ e ∈ o.after.toList, Region.binds .any e = true → D e.on) → ∀ i ∈ row, D i
  | [], acc, _, h => h
  | o :: l, acc, hd, h => by
    refine anc_listed full hD l (acc ++ [rowOf acc o]) ?_ ?_
    · rw [List.length_append, ← List.drop_drop, hd]; rfl
    · intro j row hj o' ho' hall i hi
      by_cases q : j < acc.length
      · rw [List.getElem?_append_left q] at hj
        exact h j row hj o' ho' hall i hi
      · rw [List.getElem?_append_right (by omega)] at hj
        have hj0 : j = acc.length := by
          rcases Nat.eq_or_lt_of_le (Nat.le_of_not_lt q) with z | z
          · exact z.symm
          · simp [show j - acc.length ≠ 0 by omega] at hj
        subst hj0
        simp at hj; subst hj
        have hoo : o' = o := by
          have : (full.drop acc.length)[0]? = some o := by rw [hd]; rfl
          rw [List.getElem?_drop, Nat.add_zero, ho'] at this
          exact Option.some.inj this
        subst hoo
        rw [rowOf, List.mem_eraseDups] at hi
        obtain ⟨e, he, hi⟩ := List.mem_flatMap.1 hi
        rw [List.mem_filter] at he
        rcases List.mem_cons.1 hi with rfl | hi
        · exact hall e he.1 he.2
        · cases hr : acc[e.on]? with
          | none => simp [List.getD, hr] at hi
          | some row' =>
            simp [List.getD, hr] at hi
            have hlt : e.on < acc.length := (List.getElem?_eq_some_iff.1 hr).1
            have hfl : acc.length < full.length := by
              have : (full.drop acc.length).length = (o' :: l).length := by rw [hd]
              simp at this; omega
            have hfo : full[e.on]? = some full[e.on] := List.getElem?_eq_getElem (by omega)
            exact h e.on row' hr _ hfo (hD e.on _ hfo (hall e he.1 he.2)) i hi

theorem ancFrom_length : ∀ (l : List Oper) (acc : List (List Nat)), (ancFrom l acc).length = acc.length + l.length
  | [], acc => rfl
  | o :: l, acc => by
    rw [ancFrom, ancFrom_length l]
    simp; omega

theorem unordered_spec {ops : Array Oper} {ps : List (Nat × Nat)} (h : unordered ops = some ps) :
    (∀ (j : Nat) (o : Oper), ops.toList[j]? = some o → ∀ e ∈ o.after.toList, Region.binds .any e = true → e.on < j) ∧
    ∀ (i j : Nat) (oi oj : Oper), i < j → ops.toList[i]? = some oi → ops.toList[j]? = some oj → i ∉ (ancFrom ops.toList []).getD j [] → oi.apart ops oj = true ∧ (purely oi.op = true ∨ purely oj.op = true ∨ (i, j) ∈ ps) := by
  unfold unordered at h
  simp only [] at h
  split at h
  · rename_i hc
    obtain rfl := Option.some.inj h
    simp only [Bool.and_eq_true] at hc
    refine ⟨fun j o ho e he hb => ?_, fun i j oi oj hij hi hj hn => ?_⟩
    · have h1 := List.all_eq_true.1 hc.1 (o, j) (by
        rw [List.mem_iff_getElem?]
        exact ⟨j, by rw [List.getElem?_zipIdx, ho]; simp⟩)
      have h2 := List.all_eq_true.1 h1 e he
      simpa [hb] using h2
    · have hmem : (i, j) ∈ freePairs ops.toList := by
        unfold freePairs
        refine List.mem_flatMap.2 ⟨j, List.mem_range.2 (List.getElem?_eq_some_iff.1 hj).1, List.mem_map.2 ⟨i, List.mem_filter.2 ⟨List.mem_range.2 hij, ?_⟩, rfl⟩⟩
        simpa using hn
      have h1 := List.all_eq_true.1 hc.2 (i, j) hmem
      simp only [hi, hj] at h1
      refine ⟨h1, ?_⟩
      cases hp : purely oi.op with
      | true => exact .inl rfl
      | false =>
        cases hq : purely oj.op with
        | true => exact .inr (.inl rfl)
        | false =>
          refine .inr (.inr (List.mem_filter.2 ⟨hmem, ?_⟩))
          simp [hi, hj, hp, hq]
  · simp at h

set_option maxHeartbeats 1000000 in
theorem purely_aop {P : Program} {md : Nat → Mode} {o : Oper} {ρ : Operand → TV} {σ : St} {u : Out} (hp : purely o.op = true) (h : aop P md o ρ σ = some u) : u.acc = .pure := by
  obtain ⟨dst, op, ty, pos, after, guard⟩ := o
  have hv : ∀ x, value σ x = some u → u.acc = .pure := fun x h => by obtain rfl := Option.some.inj h; rfl
  cases op <;> simp only [purely, Bool.false_eq_true] at hp <;> simp only [aop] at h
  case move => exact hv _ h
  case assign => exact hv _ h
  case makeFunc fn first cap =>
    cases fn <;> simp only [aop] at h
    case func =>
      split at h
      · split at h
        · exact hv _ h
        · simp at h
      · simp at h
    all_goals simp at h
  case slice T x lo hi mx =>
    cases mx with
    | none =>
      simp only [aop, aslice] at h
      (repeat' split at h) <;> first | exact hv _ h | (simp at h; done)
    | some m => simp [aop] at h
  case call c =>
    obtain ⟨callee, args, argTypes⟩ := c
    cases callee with
    | builtin b =>
      cases b <;> simp only [purely, Bool.false_eq_true] at hp <;> simp only [aop] at h
      all_goals
        (repeat' split at h)
        all_goals first
          | exact hv _ h
          | (simp at h; done)
          | (obtain ⟨r, _, h⟩ := Option.bind_eq_some_iff.1 h; exact hv _ h)
    | _ => simp [purely] at hp
  all_goals
    (repeat' split at h)
    all_goals first
      | exact hv _ h
      | (simp at h; done)
      | (obtain ⟨r, _, h⟩ := Option.bind_eq_some_iff.1 h; exact hv _ h)

theorem purely_step {P : Program} {md : Nat → Mode} {n : Nat} {call : CallF} {ops : Array Oper} {o : Oper} {σ σ' : St} {acc : Acc} (hp : purely o.op = true) (h : stepOp P md n call ops o σ = some (σ', acc)) : acc = .pure := by
  obtain ⟨u, e1, _, _, _, rfl⟩ := stepOp_eq.1 h
  unfold doOp at e1
  split at e1
  · simp at e1
  · unfold aopC at e1
    split at e1
    · rename_i g as hc
      unfold acallee at hc
      split at hc
      · rename_i f args at_ ho
        rw [ho] at hp; simp [purely] at hp
      · simp at hc
    · exact purely_aop hp e1
  · obtain rfl := Option.some.inj e1; rfl

end Go.Proofs.Ytnjaagfhaooapaa.Eng
