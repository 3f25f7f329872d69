/- ENGINE 26: the answer of a call stands for what the model's call gives; the equations of the engine. -/
import Derived.Test.YtnjaagfhaooapaaE25
namespace Go.Proofs.Ytnjaagfhaooapaa.Eng
set_option linter.unusedVariables false
set_option linter.unusedSimpArgs false
set_option linter.unnecessarySimpa false
set_option linter.constructorNameAsVariable false
open Go Go.RowKit

theorem aresult_sound {P : Program} {W : World} {n : Nat} {κ : Conc} {σ : St} {a : Act} {w : World} {r : ResultVar} {x : AV} (hS : SRep W n κ σ a w) (h : aresult P σ r = some x) :
    ∃ v, ((match r with | .tmp t => pure (a.tmps.getD t undef) | .cell b t => do loadVar t (← asAddr (a.tmps.getD b undef)) : Sem Value)).run P w = .ok v w ∧ Rep κ w x v := by
  unfold aresult at h
  split at h
  · rename_i t
    have := hS.tmps t
    rw [asV_some h] at this
    exact ⟨_, rfl, this⟩
  · rename_i b T
    split at h
    · rename_i ti s v o ht hb
      have hx := hS.tmps b
      rw [hb] at hx
      split at h
      · rename_i y L H acc hl
        obtain rfl := Option.some.inj h
        obtain ⟨_, _, z, e3, v', e4, e5⟩ := aload_sound (P := P) hS.inv ht hl hx
        injection e3 with e3; injection e3 with e3; subst e3
        obtain ⟨_, _, _, _, _, p, hp⟩ := hx
        refine ⟨v', ?_, e5⟩
        rw [hp] at e4
        show ((do loadVar T (← asAddr (a.tmps.getD b undef)) : Sem Value)).run P w = _
        rw [hp]
        simpa [Instr.loadAt, Instr.sureAddr, asAddr] using e4
      · simp at h
    · rename_i ti id o ht hb
      have hx := hS.tmps b
      rw [hb] at hx
      split at h
      · rename_i y L H acc hl
        obtain rfl := Option.some.inj h
        obtain ⟨_, _, z, e3, v', e4, e5⟩ := aload_sound (P := P) hS.inv ht hl hx
        injection e3 with e3; injection e3 with e3; subst e3
        obtain ⟨p, hp⟩ := Rep.ptr_some hx (.inr ⟨_, _, rfl⟩)
        refine ⟨v', ?_, e5⟩
        rw [hp] at e4
        show ((do loadVar T (← asAddr (a.tmps.getD b undef)) : Sem Value)).run P w = _
        rw [hp]
        simpa [Instr.loadAt, Instr.sureAddr, asAddr] using e4
      · simp at h
    · simp at h

theorem aresults_sound {P : Program} {W : World} {n : Nat} {κ : Conc} {σ : St} {a : Act} {w : World} (hS : SRep W n κ σ a w) : ∀ {rs : List ResultVar} {xs : List AV}, aresults P σ rs = some xs →
    ∃ vs : List Value, (rs.mapM (m := Sem) fun r => match r with | .tmp t => pure (a.tmps.getD t undef) | .cell b t => do loadVar t (← asAddr (a.tmps.getD b undef))).run P w = .ok vs w ∧ vs.length = xs.length ∧ ∀ i c, xs[i]? = some c → Rep κ w c (vs.getD i undef)
  | [], xs, h => by simp [aresults] at h; subst h; exact ⟨[], rfl, rfl, fun i c h => by simp at h⟩
  | r :: rs, xs, h => by
    simp only [aresults] at h
    split at h
    · rename_i x xs' h1 h2
      obtain rfl := Option.some.inj h
      obtain ⟨v, e1, e2⟩ := aresult_sound hS h1
      obtain ⟨vs, f1, f2, f3⟩ := aresults_sound hS h2
      refine ⟨v :: vs, ?_, by simp [f2], fun i c hc => ?_⟩
      · rw [List.mapM_cons]
        simp only [Sem.run_bind]
        have e1' := e1
        cases r <;> (simp only at e1' ⊢; rw [e1']; simp only [Result.andThen_ok, Sem.run_bind]; rw [f1]; rfl)
      · cases i with
        | zero => simp at hc; subst hc; exact e2
        | succ i => simpa using f3 i c (by simpa using hc)
    · simp at h

theorem results_sound {P : Program} {W : World} {n : Nat} {κ : Conc} {σ : St} {a : Act} {w : World} {fn : Func} {xs : List AV} (hS : SRep W n κ σ a w) (h : aresults P σ fn.results.toList = some xs) :
    ∃ v, (results fn a.tmps).run P w = .ok v w ∧ Rep κ w (oneOf xs) v := by
  obtain ⟨vs, e1, e2, e3⟩ := aresults_sound hS h
  have hm : (fn.results.mapM (m := Sem) fun r => match r with | .tmp t => pure (a.tmps.getD t undef) | .cell b t => do loadVar t (← asAddr (a.tmps.getD b undef))).run P w = .ok vs.toArray w := by
    rw [Array.mapM_eq_mapM_toList, Sem.run_map, e1]; rfl
  have hrun : (results fn a.tmps).run P w = .ok (if h : vs.toArray.size = 1 then vs.toArray[0] else .tuple vs.toArray) w := by
    unfold results
    rw [Sem.run_bind]
    exact congrArg (fun q => Result.andThen q _) hm
  rw [hrun]
  by_cases h1 : vs.length = 1
  · obtain ⟨v, rfl⟩ := List.length_eq_one_iff.1 h1
    obtain ⟨x, rfl⟩ := List.length_eq_one_iff.1 (e2 ▸ h1)
    exact ⟨v, by simp, by have := e3 0 x rfl; simpa [oneOf] using this⟩
  · refine ⟨.tuple vs.toArray, by simp [h1], ?_⟩
    have ho : oneOf xs = .tuple xs := by
      match xs, e2 with
      | [], _ => rfl
      | [x], e2 => exact absurd e2 h1
      | _ :: _ :: _, _ => rfl
    rw [ho]
    exact .tuple xs vs.toArray (by simpa using e2) (fun i c hc => by have := e3 i c hc; simpa [List.getD_eq_getElem?_getD] using this)

/-- What is asked of the library functions that the engine is told of. -/
def ExtOk (E : Env) : Prop := ∀ f s, E.ext f = some s → CallOk E.P (fun g args H => if g = f then s args H else none)

theorem callFunc_enter {P : Program} {f : FuncId} {fn : Func} {c : Code} {vs : Array Value} {w : World} (hf : P.funcs[f]? = some fn) (hb : fn.body = some c) (hn : (fn.name != "runtime.NumGoroutine") = true) : (callFunc f vs).run P w = .ok (.enter f vs) w := by
  have hn' : (fn.name == "runtime.NumGoroutine") = false := by simpa [bne] using hn
  simp only [callFunc, Sem.run_bind, run_program, Result.andThen_ok, hf, hn', hb]
  rfl

theorem abody_sound {E : Env} {call : CallF} {k : Nat} {f : FuncId} {args : List AV} {H H' : List HObj} {r : AV} (hwide : E.P.follows .mixedOrders = true) (hcall : CallOk E.P call) (h : abody E call k f args H = some (r, H')) (W : World) (κ : Conc) (w : World) (vs : Array Value)
    (hI : Inv W κ w noL H) (hl : κ.lloc = fun _ => none) (hsz : vs.size = args.length) (hr : ∀ i c, args[i]? = some c → Rep κ w c (vs.getD i undef)) :
    (callFunc f vs).run E.P w = .ok (.enter f vs) w ∧
    Calls E.P f vs w fun e w' => ∃ v κ', e = .returned v ∧ Ext κ w κ' w' ∧ Inv W κ' w' noL H' ∧ κ'.lloc = (fun _ => none) ∧ Rep κ' w' r v := by
  unfold abody at h
  split at h
  · rename_i fn hf
    split at h
    · rename_i c hb
      split at h
      · rename_i hc
        simp only [Bool.and_eq_true, decide_eq_true_eq] at hc
        refine ⟨callFunc_enter hf hb hc.1, ?_⟩
        have hS : SRep W fn.ntmps κ ⟨initT args, noL, H⟩ { tmps := vs ++ Array.replicate (fn.ntmps - vs.size) undef, defers := [] } w := by
          refine ⟨fun j => ?_, hI, rfl, by simp; omega⟩
          show TRep κ w (initT args j) _
          unfold initT
          cases ha : args[j]? with
          | none => trivial
          | some x =>
            have hlt : j < vs.size := by rw [hsz]; exact (List.getElem?_eq_some_iff.1 ha).1
            have := hr j x ha
            rw [Array.getD_eq_getD_getElem?] at *
            rw [Array.getElem?_append_left hlt]
            exact this
        -- the end
        have fin : ∀ (e : AEx) (σ : St), (∀ i, e ≠ .exit i) → (match aresults E.P σ fn.results.toList with | some rs => finish (E.keep f) H.length (oneOf rs) σ.H | none => none) = some (r, H') → ∀ κ' a' w', Ext κ w κ' w' → SRep W fn.ntmps κ' σ a' w' →
            bodyPost E.P fn (fun e w' => ∃ v κ', e = .returned v ∧ Ext κ w κ' w' ∧ Inv W κ' w' noL H' ∧ κ'.lloc = (fun _ => none) ∧ Rep κ' w' r v) (ofEx e) a' w' := by
          intro e σ he hfin κ' a' w' x1 x3
          have key : a'.defers = [] ∧ ∃ v, (results fn a'.tmps).run E.P w' = .ok v w' ∧ ∃ v' κ', Ending.returned v = .returned v' ∧ Ext κ w κ' w' ∧ Inv W κ' w' noL H' ∧ κ'.lloc = (fun _ => none) ∧ Rep κ' w' r v' := by
            refine ⟨x3.defers, ?_⟩
            split at hfin
            · rename_i rs hrs
              obtain ⟨v, g1, g2⟩ := results_sound x3 hrs
              refine ⟨v, g1, v, ?_⟩
              have hdrop : ∀ {r0 r : AV} {H0 H' : List HObj} {κ1 : Conc}, Ext κ w κ1 w' → Inv W κ1 w' σ.L H0 → Rep κ1 w' r0 v → finDrop H.length r0 H0 = some (r, H') → ∃ κ', Ending.returned v = .returned v ∧ Ext κ w κ' w' ∧ Inv W κ' w' noL H' ∧ κ'.lloc = (fun _ => none) ∧ Rep κ' w' r v := by
                intro r0 r H0 H' κ1 y1 y2 y3 hfin
                unfold finDrop at hfin
                split at hfin
                · rename_i hbl
                  injection hfin with hfin; injection hfin with q1 q2; subst q1 q2
                  exact ⟨κ1.cut H.length, rfl, y1.cut hI (Nat.le_refl _), y2.cut H.length, rfl, pubs_cut κ1 H.length ▸ (norm_rep (frz_rep y2 y3)).cut hbl⟩
                · simp at hfin
              unfold finish at hfin
              split at hfin
              · injection hfin with hfin; injection hfin with q1 q2; subst q1 q2
                have hle : H.length ≤ σ.H.length ∨ σ.H.length < H.length := by omega
                refine ⟨κ'.cut (max H.length σ.H.length), rfl, x1.cut hI (Nat.le_max_left _ _), ?_, rfl, g2.cut (below_mono (Nat.le_max_right _ _) (g2.ids x3.inv))⟩
                have := x3.inv.cut (max H.length σ.H.length)
                rw [List.take_of_length_le (Nat.le_max_right _ _)] at this
                exact this
              · exact hdrop x1 x3.inv g2 hfin
              · obtain ⟨κ1, y1, _, y2, y3⟩ := meltR_sound (n := H.length) x3.inv g2
                unfold finTok at hfin
                split at hfin
                · rename_i id hid
                  unfold finHand at hfin
                  split at hfin
                  · rename_i m sz hob
                    split at hfin
                    · rename_i hc
                      injection hfin with hfin; injection hfin with q1 q2; subst q1 q2
                      exact ⟨κ1.hand H.length id, rfl, (x1.trans y1).hand hI id, y2.hand hc.1 hob, rfl, ren_rep hc.1 y3 hc.2⟩
                    · simp at hfin
                  · simp at hfin
                · exact hdrop (x1.trans y1) y2 y3 hfin
            · simp at hfin
          cases e with
          | normal => exact key
          | ret => exact key
          | exit i => exact absurd rfl (he i)
        refine calls_of_wp hf hb ?_
        split at h
        · simp at h
        · rename_i e σ hne hex
          refine exec_sound hwide hcall hf hb k c (fun q hq => hq) κ _ σ e _ w _ hex hS (fun κ' a' w' x1 x2 x3 => ?_)
          exact fin e σ (fun i q => by subst q; exact hne i rfl) h κ' a' w' x1 x3
        · simp at h
      · simp at h
    · simp at h
  · simp at h

theorem acallN_sound {E : Env} (hwide : E.P.follows .mixedOrders = true) (hext : ExtOk E) : ∀ k, CallOk E.P (acallN E k)
  | 0 => fun f args H r H' h => by simp [acallN] at h
  | k + 1 => by
    intro f args H r H' h W κ w vs hI hl hsz hr
    simp only [acallN] at h
    split at h
    · rename_i s hs
      exact hext f s hs f args H r H' (by simp [h]) W κ w vs hI hl hsz hr
    · exact abody_sound hwide (acallN_sound hwide hext k) h W κ w vs hI hl hsz hr

theorem acall_sound {E : Env} (hwide : E.P.follows .mixedOrders = true) (hext : ExtOk E) : CallOk E.P (acall E) := by
  intro f args H r H' h
  unfold acall at h
  split at h
  · rename_i hx
    have := hx.choose_spec.choose_spec
    injection h with h
    rw [h] at this
    exact acallN_sound hwide hext _ f args H r H' this
  · simp at h

end Go.Proofs.Ytnjaagfhaooapaa.Eng
