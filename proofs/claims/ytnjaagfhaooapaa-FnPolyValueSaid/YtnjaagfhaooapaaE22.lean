/- ENGINE 22: steps that commute. -/
import Derived.Test.YtnjaagfhaooapaaE21
namespace Go.Proofs.Ytnjaagfhaooapaa.Eng
set_option linter.unusedVariables false
set_option linter.unusedSimpArgs false
set_option linter.unnecessarySimpa false
set_option linter.constructorNameAsVariable false
open Go Go.RowKit

theorem asVs_congr {ρ ρ' : Operand → TV} {l : List Operand} (h : ∀ x ∈ l, ρ x = ρ' x) : l.map ρ = l.map ρ' := List.map_congr_left h

theorem partsV_congr {ρ ρ' : Operand → TV} : ∀ {l : List (Nat × Operand)}, (∀ x ∈ l.map (·.2), ρ x = ρ' x) → partsV ρ l = partsV ρ' l
  | [], _ => rfl
  | (i, x) :: l, h => by
    simp only [partsV]
    rw [h x (by simp), partsV_congr (l := l) (fun y hy => h y (by simp at hy ⊢; exact .inr hy))]

theorem bound_congr {ρ ρ' : Operand → TV} {d : Int} {x : Option Operand} (h : ∀ y, x = some y → ρ y = ρ' y) : bound ρ d x = bound ρ' d x := by
  cases x with
  | none => rfl
  | some y => simp only [bound, h y rfl]

theorem aop_congr {P : Program} {md : Nat → Mode} {o : Oper} {ρ ρ' : Operand → TV} {σ : St} (h : ∀ x ∈ o.op.operands, ρ x = ρ' x) : aop P md o ρ σ = aop P md o ρ' σ := by
  obtain ⟨dst, op, ty, pos, after, guard⟩ := o
  cases op <;> simp only [Op.operands] at h <;> simp only [aop]
  case build T parts =>
    rw [partsV_congr (ρ := ρ) (ρ' := ρ') (fun x hx => h x (by simpa using hx))]
  case buildSlice T m parts =>
    rw [partsV_congr (ρ := ρ) (ρ' := ρ') (fun x hx => h x (by simpa using hx))]
  case makeFunc fn first cap =>
    cases fn <;> simp only [aop]
    rw [asVs_congr (ρ := ρ) (ρ' := ρ') (l := cap.toList) (fun x hx => h x (by simp at hx ⊢; exact .inr hx))]
  case slice T x lo hi mx =>
    cases mx with
    | none =>
      have e1 : ρ x = ρ' x := h x (by simp)
      have e2 : ∀ d, bound ρ d lo = bound ρ' d lo := fun d => bound_congr (fun y hy => h y (by subst hy; simp))
      have e3 : ∀ d, bound ρ d hi = bound ρ' d hi := fun d => bound_congr (fun y hy => h y (by subst hy; simp))
      simp only [aop, aslice, e1, e2, e3]
    | some m => rfl
  case call c =>
    obtain ⟨callee, args, argTypes⟩ := c
    have e : args.toList.map ρ = args.toList.map ρ' := asVs_congr (fun x hx => h x (by simp [Call.operands]; right; simpa using hx))
    cases callee with
    | builtin b => cases b <;> simp only [aop, e]
    | _ => rfl
  all_goals (first | rfl | (simp_all; done))

theorem acallee_congr {op : Op} {ρ ρ' : Operand → TV} (h : ∀ x ∈ op.operands, ρ x = ρ' x) : acallee ρ op = acallee ρ' op := by
  cases op with
  | call c =>
    obtain ⟨callee, args, argTypes⟩ := c
    cases callee with
    | value f =>
      have e : args.toList.map ρ = args.toList.map ρ' := asVs_congr (fun x hx => h x (by simp [Op.operands, Call.operands]; right; simpa using hx))
      have e2 : ρ f = ρ' f := h f (by simp [Op.operands, Call.operands])
      simp only [acallee, e, e2]
    | _ => rfl
  | _ => rfl

theorem evalO_congr {t t' : Nat → TV} {ops : Array Oper} {o : Oper} (h : ∀ d ∈ o.looksAt ops, t d = t' d) : ∀ x ∈ o.op.operands, evalO t x = evalO t' x := by
  intro x hx
  cases x with
  | tmp d => exact h d (List.mem_append_left _ (List.mem_filterMap.2 ⟨.tmp d, by simpa using hx, rfl⟩))
  | const c => cases c <;> rfl
  | _ => rfl

theorem wantedA_congr {t t' : Nat → TV} {ops : Array Oper} {o : Oper} (h : ∀ d ∈ o.looksAt ops, t d = t' d) : wantedA ops t o = wantedA ops t' o := by
  unfold wantedA
  cases hg : o.guard with
  | none => rfl
  | some jw =>
    obtain ⟨j, want⟩ := jw
    simp only []
    cases hd : (ops[j]?).bind (·.dst) with
    | none => rfl
    | some d =>
      have : t d = t' d := h d (by simp [Oper.looksAt, hg, hd])
      simp only [this]

/-- A step as one look: what is done. -/
noncomputable def doOp (P : Program) (md : Nat → Mode) (call : CallF) (ops : Array Oper) (o : Oper) (t : Nat → TV) (σ : St) : Option Out :=
  match wantedA ops t o with
  | none => none
  | some true => aopC P md call o (evalO t) σ
  | some false => some ⟨some .no, σ.L, σ.H, .pure⟩

theorem stepOp_eq {P : Program} {md : Nat → Mode} {n : Nat} {call : CallF} {ops : Array Oper} {o : Oper} {σ σ' : St} {acc : Acc} :
    stepOp P md n call ops o σ = some (σ', acc) ↔ ∃ u, doOp P md call ops o σ.t σ = some u ∧ putD n σ.t o.dst u.val = some σ'.t ∧ σ'.L = u.L ∧ σ'.H = u.H ∧ acc = u.acc := by
  unfold stepOp doOp
  cases hw : wantedA ops σ.t o with
  | none => simp
  | some b =>
    cases b with
    | true =>
      simp only []
      cases hu : aopC P md call o (evalO σ.t) σ with
      | none => simp
      | some u =>
        simp only []
        cases ht : putD n σ.t o.dst u.val with
        | none => simp [ht]
        | some t =>
          constructor
          · intro h
            injection h with h; injection h with h1 h2; subst h1 h2
            exact ⟨u, rfl, ht, rfl, rfl, rfl⟩
          · rintro ⟨u', e, e1, e2, e3, e4⟩
            injection e with e; subst e
            rw [ht] at e1; injection e1 with e1
            obtain ⟨t', L', H'⟩ := σ'
            simp only at e1 e2 e3
            subst e1 e2 e3 e4; rfl
    | false =>
      simp only []
      cases hd : o.dst with
      | none =>
        simp only []
        constructor
        · intro h
          injection h with h; injection h with h1 h2; subst h1 h2
          exact ⟨_, rfl, rfl, rfl, rfl, rfl⟩
        · rintro ⟨u', e, e1, e2, e3, e4⟩
          injection e with e; subst e
          simp [putD] at e1
          obtain ⟨t', L', H'⟩ := σ'
          simp only at e1 e2 e3
          subst e1 e2 e3 e4; rfl
      | some d =>
        simp only []
        by_cases hlt : d < n
        · rw [if_pos hlt]
          constructor
          · intro h
            injection h with h; injection h with h1 h2; subst h1 h2
            exact ⟨_, rfl, by simp [putD, hlt], rfl, rfl, rfl⟩
          · rintro ⟨u', e, e1, e2, e3, e4⟩
            injection e with e; subst e
            simp [putD, hlt] at e1
            obtain ⟨t', L', H'⟩ := σ'
            simp only at e1 e2 e3
            subst e1 e2 e3 e4; rfl
        · rw [if_neg hlt]
          constructor
          · intro h; cases h
          · rintro ⟨u', e, e1, _⟩
            injection e with e; subst e
            simp [putD, hlt] at e1

theorem doOp_local (P : Program) (md : Nat → Mode) (call : CallF) (ops : Array Oper) (o : Oper) (t : Nat → TV) : Local (doOp P md call ops o t) := by
  change Local (fun σ => doOp P md call ops o t σ)
  unfold doOp
  cases wantedA ops t o with
  | none => exact Local.none
  | some b =>
    cases b with
    | true => exact aopC_local P md call o _
    | false =>
      intro σ u h
      obtain rfl := Option.some.inj h
      exact ⟨⟨rfl, rfl⟩, fun σ2 _ => rfl⟩

theorem doOp_congr {P : Program} {md : Nat → Mode} {call : CallF} {ops : Array Oper} {o : Oper} {t t' : Nat → TV} {σ : St} (h : ∀ d ∈ o.looksAt ops, t d = t' d) : doOp P md call ops o t σ = doOp P md call ops o t' σ := by
  unfold doOp aopC
  rw [wantedA_congr h, acallee_congr (evalO_congr h), aop_congr (evalO_congr h)]

theorem putD_other {n : Nat} {t t' : Nat → TV} {dst : Option Nat} {x : Option TV} (h : putD n t dst x = some t') {j : Nat} (hj : dst ≠ some j) : t' j = t j := by
  unfold putD at h
  split at h
  · rename_i d
    split at h
    · obtain rfl := Option.some.inj h
      exact upd_ne _ _ (fun e => hj (by rw [e]))
    · simp at h
  · obtain rfl := Option.some.inj h; rfl

theorem putD_comm {n : Nat} {t t1 t2 : Nat → TV} {d e : Option Nat} {x y : Option TV} (hne : ∀ j, d = some j → e ≠ some j) (h1 : putD n t d x = some t1) (h2 : putD n t1 e y = some t2) :
    ∃ t1', putD n t e y = some t1' ∧ putD n t1' d x = some t2 := by
  cases d with
  | none =>
    simp [putD] at h1; subst h1
    exact ⟨t2, h2, rfl⟩
  | some i =>
    cases e with
    | none =>
      simp [putD] at h2; subst h2
      exact ⟨t, rfl, h1⟩
    | some j =>
      have hij : i ≠ j := fun q => hne i rfl (by rw [q])
      simp only [putD] at h1 h2 ⊢
      split at h1
      · rename_i hi
        split at h2
        · rename_i hj
          obtain rfl := Option.some.inj h1
          obtain rfl := Option.some.inj h2
          refine ⟨upd t j (y.getD .undef), by rw [if_pos hj], ?_⟩
          rw [if_pos hi]
          congr 1
          funext k
          by_cases q1 : k = i
          · subst q1; rw [upd_same, upd_ne _ _ hij, upd_same]
          · by_cases q2 : k = j
            · subst q2; rw [upd_ne _ _ q1, upd_same, upd_same]
            · rw [upd_ne _ _ q1, upd_ne _ _ q2, upd_ne _ _ q2, upd_ne _ _ q1]
        · simp at h2
      · simp at h1

theorem upd_comm {α : Type} (t : Nat → α) {i j : Nat} (h : i ≠ j) (x y : α) : upd (upd t i x) j y = upd (upd t j y) i x := by
  funext k
  by_cases q1 : k = i
  · subst q1; rw [upd_same, upd_ne _ _ h, upd_same]
  · by_cases q2 : k = j
    · subst q2; rw [upd_ne (upd t k y) _ q1, upd_same, upd_same]
    · rw [upd_ne (upd t j y) _ q1, upd_ne _ _ q2, upd_ne _ _ q2, upd_ne _ _ q1]

/-- Two steps that are apart and commute may be taken the other way round. -/
theorem step_swap {P : Program} {md : Nat → Mode} {n : Nat} {call : CallF} {ops : Array Oper} {oi oj : Oper} {σ σ1 σ2 : St} {ai aj : Acc} (hap : oi.apart ops oj = true)
    (h1 : stepOp P md n call ops oi σ = some (σ1, ai)) (h2 : stepOp P md n call ops oj σ1 = some (σ2, aj)) (hc : (mkTr ai σ.H σ1.H).comm (mkTr aj σ1.H σ2.H)) :
    ∃ σ1', stepOp P md n call ops oj σ = some (σ1', aj) ∧ stepOp P md n call ops oi σ1' = some (σ2, ai) ∧ mkTr aj σ.H σ1'.H = mkTr aj σ1.H σ2.H ∧ mkTr ai σ1'.H σ2.H = mkTr ai σ.H σ1.H := by
  obtain ⟨p1, p2, p3⟩ := Oper.apart_spec hap
  obtain ⟨u, e1, e2, e3, e4, rfl⟩ := stepOp_eq.1 h1
  obtain ⟨v, f1, f2, f3, f4, rfl⟩ := stepOp_eq.1 h2
  obtain ⟨t1', g1, g2⟩ := putD_comm p2 e2 f2
  -- oj sees the same temporaries at σ and at σ1
  have hj : ∀ d ∈ oj.looksAt ops, σ.t d = σ1.t d := fun d hd => (putD_other e2 (fun q => p1 d q hd)).symm
  have f1' : doOp P md call ops oj σ.t σ1 = some v := by rw [doOp_congr hj]; exact f1
  obtain ⟨hF, hM⟩ := doOp_local P md call ops oi σ.t σ u e1
  obtain ⟨hG, hN⟩ := doOp_local P md call ops oj σ.t σ1 v f1'
  have hi : ∀ d ∈ oi.looksAt ops, t1' d = σ.t d := fun d hd => putD_other g1 (fun q => p3 d q hd)
  -- oj at σ
  have key : SameAcc σ1 σ v.acc ∧ SameAcc σ ⟨t1', (moved σ v).L, (moved σ v).H⟩ u.acc ∧ (moved ⟨t1', (moved σ v).L, (moved σ v).H⟩ u).L = σ2.L ∧ (moved ⟨t1', (moved σ v).L, (moved σ v).H⟩ u).H = σ2.H ∧
      mkTr v.acc σ.H (moved σ v).H = mkTr v.acc σ1.H σ2.H ∧ mkTr u.acc (moved σ v).H σ2.H = mkTr u.acc σ.H σ1.H := by
    obtain ⟨t1, L1, H1⟩ := σ1
    obtain ⟨t2, L2, H2⟩ := σ2
    obtain ⟨uv, uL, uH, ua⟩ := u
    obtain ⟨vv, vL, vH, va⟩ := v
    obtain ⟨t0, L0, H0⟩ := σ
    simp only at e3 e4 f3 f4 hc hF hG
    subst e3 e4 f3 f4
    clear hM hN f1' hj hi f1 f2 e1 e2 g1 g2 h1 h2
    cases ua <;> simp only [Framed] at hF
    case lw s =>
      obtain ⟨hF1, hF2⟩ := hF
      generalize L1 s = c at hF2
      subst hF1 hF2
      cases va <;> simp only [Framed] at hG
      case lw s2 =>
        obtain ⟨hG1, hG2⟩ := hG
        generalize L2 s2 = c2 at hG2
        subst hG1 hG2
        have hne : s ≠ s2 := hc
        refine ⟨(upd_ne _ _ (fun q => hne q.symm)).symm, ?_, ?_, rfl, rfl, rfl⟩
        · show upd L0 s2 _ s = L0 s
          exact upd_ne _ _ hne
        · show upd (upd L0 s2 (upd (upd L0 s c) s2 c2 s2)) s (upd L0 s c s) = upd (upd L0 s c) s2 c2
          rw [upd_same, upd_same]; exact upd_comm _ (fun q => hne q.symm) _ _
      case lr s2 =>
        obtain ⟨hG1, hG2⟩ := hG
        subst hG1 hG2
        have hne : s ≠ s2 := hc
        refine ⟨(upd_ne _ _ (fun q => hne q.symm)).symm, rfl, ?_, rfl, rfl, rfl⟩
        show upd L0 s (upd L0 s c s) = _
        rw [upd_same]
      case gw =>
        subst hG
        refine ⟨rfl, rfl, ?_, rfl, rfl, rfl⟩
        show upd L0 s (upd L0 s c s) = _
        rw [upd_same]
      all_goals
        obtain ⟨hG1, hG2⟩ := hG
        subst hG1 hG2
        refine ⟨?_, rfl, ?_, rfl, rfl, rfl⟩
        · first | trivial | rfl
        · show upd L0 s (upd L0 s c s) = _
          rw [upd_same]
    case gw =>
      subst hF
      cases va <;> simp only [Framed] at hG
      case lw s2 =>
        obtain ⟨hG1, hG2⟩ := hG
        subst hG1
        refine ⟨rfl, rfl, ?_, rfl, rfl, rfl⟩
        exact hG2.symm
      case gw => exact absurd hc (by simp [mkTr, Tr.comm])
      case gr id =>
        obtain ⟨hG1, hG2⟩ := hG
        subst hG1 hG2
        simp only [mkTr, Tr.comm] at hc
        exact ⟨hc.symm, rfl, rfl, rfl, rfl, rfl⟩
      all_goals
        obtain ⟨hG1, hG2⟩ := hG
        subst hG1 hG2
        refine ⟨?_, rfl, rfl, rfl, rfl, rfl⟩
        first | trivial | rfl
    case gr id =>
      obtain ⟨hF1, hF2⟩ := hF
      subst hF1 hF2
      cases va <;> simp only [Framed] at hG
      case lw s2 =>
        obtain ⟨hG1, hG2⟩ := hG
        subst hG1
        exact ⟨rfl, rfl, hG2.symm, rfl, rfl, rfl⟩
      case gw =>
        subst hG
        simp only [mkTr, Tr.comm] at hc
        exact ⟨rfl, hc, rfl, rfl, rfl, rfl⟩
      all_goals
        obtain ⟨hG1, hG2⟩ := hG
        subst hG1 hG2
        refine ⟨?_, rfl, rfl, rfl, rfl, rfl⟩
        first | trivial | rfl
    case lr s =>
      obtain ⟨hF1, hF2⟩ := hF
      subst hF1 hF2
      cases va <;> simp only [Framed] at hG
      case lw s2 =>
        obtain ⟨hG1, hG2⟩ := hG
        subst hG1
        have hne : s ≠ s2 := hc
        refine ⟨rfl, ?_, hG2.symm, rfl, rfl, rfl⟩
        show upd L1 s2 (L2 s2) s = L1 s
        exact upd_ne _ _ hne
      case gw =>
        subst hG
        exact ⟨rfl, rfl, rfl, rfl, rfl, rfl⟩
      all_goals
        obtain ⟨hG1, hG2⟩ := hG
        subst hG1 hG2
        refine ⟨?_, rfl, rfl, rfl, rfl, rfl⟩
        first | trivial | rfl
    case pure =>
      obtain ⟨hF1, hF2⟩ := hF
      subst hF1 hF2
      cases va <;> simp only [Framed] at hG
      case lw s2 =>
        obtain ⟨hG1, hG2⟩ := hG
        subst hG1
        exact ⟨rfl, trivial, hG2.symm, rfl, rfl, rfl⟩
      case gw =>
        subst hG
        exact ⟨rfl, trivial, rfl, rfl, rfl, rfl⟩
      all_goals
        obtain ⟨hG1, hG2⟩ := hG
        subst hG1 hG2
        refine ⟨?_, trivial, rfl, rfl, rfl, rfl⟩
        first | trivial | rfl
  obtain ⟨k1, k2, k3, k4, k5, k6⟩ := key
  have s1 : stepOp P md n call ops oj σ = some (⟨t1', (moved σ v).L, (moved σ v).H⟩, v.acc) := stepOp_eq.2 ⟨moved σ v, hN σ k1, by
    have : (moved σ v).val = v.val := by unfold moved; split <;> rfl
    rw [this]; exact g1, rfl, rfl, by unfold moved; split <;> rfl⟩
  refine ⟨_, s1, stepOp_eq.2 ⟨moved ⟨t1', (moved σ v).L, (moved σ v).H⟩ u, ?_, ?_, k3.symm, k4.symm, ?_⟩, k5, k6⟩
  · rw [doOp_congr hi]; exact hM _ k2
  · have : (moved ⟨t1', (moved σ v).L, (moved σ v).H⟩ u).val = u.val := by unfold moved; split <;> rfl
    rw [this]; exact g2
  · unfold moved; split <;> rfl

end Go.Proofs.Ytnjaagfhaooapaa.Eng
