/- WALK 5: l1Read. -/
import Derived.Test.YtnjaagfhaooapaaP4
namespace Go.Proofs.Ytnjaagfhaooapaa.Eng
set_option linter.unusedVariables false
set_option linter.unusedSimpArgs false
set_option linter.unnecessarySimpa false
set_option linter.constructorNameAsVariable false
open Go
set_option maxRecDepth 100000
theorem tw_lt {α : Type} (p : α → Bool) : ∀ (l : List α) (k : Nat), k < (l.takeWhile p).length → ∃ b, l[k]? = some b ∧ p b = true
  | [], k, h => by simp at h
  | a :: l, k, h => by
    simp only [List.takeWhile_cons] at h
    split at h
    · rename_i ha
      cases k with
      | zero => exact ⟨a, rfl, ha⟩
      | succ k => simpa using tw_lt p l k (by simpa using h)
    · simp at h
theorem tw_end {α : Type} (p : α → Bool) : ∀ (l : List α), (l.takeWhile p).length = l.length ∨ ∃ b, l[(l.takeWhile p).length]? = some b ∧ p b = false
  | [] => by simp
  | a :: l => by
    simp only [List.takeWhile_cons]
    split
    · rename_i ha
      rcases tw_end p l with h | ⟨b, h1, h2⟩
      · left; simp [h]
      · right; exact ⟨b, by simpa using h1, h2⟩
    · rename_i ha
      right; exact ⟨a, rfl, by simpa using ha⟩
theorem tw_take {α : Type} (p : α → Bool) : ∀ (l : List α), l.take (l.takeWhile p).length = l.takeWhile p
  | [] => by simp
  | a :: l => by
    simp only [List.takeWhile_cons]
    split
    · simp [tw_take p l]
    · simp

theorem embT_mk (a : List UInt8) (ps : List Tree) : embT (.mk a ps) = .agg [.str a, .slice (ps.map embT) (ownOf ps)] := by rw [embT_eq]; rfl
theorem embT_fold (p : Tree) : AV.agg [.str p.atom, .slice (p.parts.map embT) (ownOf p.parts)] = embT p := (embT_eq p).symm
theorem norm_embT (n : Nat) (t : Tree) : norm n (embT t) = embT t := by
  rw [embT_eq]
  cases h : t.parts <;> simp [norm, normL, ownOf]
theorem ownOf_nil : ownOf ([] : List Tree) = .full := rfl
theorem ownOf_snoc (l : List Tree) (x : Tree) : ownOf (l ++ [x]) = .view := by cases l <;> rfl
theorem ownOf_cons (l : List Tree) (x : Tree) : ownOf (x :: l) = .view := rfl
theorem belowL_app (n : Nat) : ∀ (a b : List AV), belowL n (a ++ b) = (belowL n a && belowL n b)
  | [], b => by simp [belowL]
  | c :: a, b => by simp [belowL, belowL_app n a b, Bool.and_assoc]
theorem set_top {α : Type} (l : List α) (a b : α) : (l ++ [a]).set l.length b = l ++ [b] := by simp
theorem readLoop_bound (s : List UInt8) (rd : Nat → Tree × Int) (h : ∀ i, (rd i).2 = -1 ∨ ((i : Int) < (rd i).2 ∧ (rd i).2 ≤ s.length)) : ∀ (k i : Nat) (ps : List Tree), (readLoop s rd k i ps).2 = -1 ∨ ((i : Int) < (readLoop s rd k i ps).2 ∧ (readLoop s rd k i ps).2 ≤ s.length)
  | 0, i, ps => .inl rfl
  | k + 1, i, ps => by
    unfold readLoop
    split
    · exact .inl rfl
    · rename_i h1
      have hb := h (i + 1)
      split
      · right; simp only; omega
      · split
        · exact .inl rfl
        · rcases readLoop_bound s rd h k (rd (i + 1)).2.toNat (ps ++ [(rd (i + 1)).1]) with q | q
          · exact .inl q
          · right; omega

theorem readT_bound (s : List UInt8) : ∀ (d i : Nat), (readT s d i).2 = -1 ∨ ((i : Int) < (readT s d i).2 ∧ (readT s d i).2 ≤ s.length)
  | 0, i => .inl rfl
  | d + 1, i => by
    rw [readT]
    split
    · exact .inl rfl
    · split
      · split
        · exact .inl rfl
        · rename_i h0 h1 h2
          right
          have := (List.takeWhile_prefix isAtomB (l := s.drop i)).length_le
          have h3 : ((s.drop i).takeWhile isAtomB).length ≠ 0 := fun q => h2 (List.length_eq_zero_iff.1 q)
          simp at this
          simp only
          omega
      · exact readLoop_bound s _ (readT_bound s d) _ _ _

theorem l1Read_eq (s : List UInt8) (hs : s.length ≤ 8000) : ∀ (d i dep : Nat) (H : List HObj), d + dep = 301 → i ≤ 8001 → acall EA 36 [.str s, .int .i64 (i : Int), .int .i64 (dep : Int)] H = some (.tuple [embT (readT s d i).1, .int .i64 (readT s d i).2], H) := by
  intro d
  induction d with
  | zero =>
    intro i dep H hd hi
    have hdep : dep = 301 := by omega
    subst hdep
    refine acall_is (fn := Try.f36) rfl Try.func36 rfl rfl (by simp [Try.f36]) ?_
    have e : ((301 : Nat) : Int) = 301 := rfl
    have e2 : (300 : Int) < 301 := by omega
    simp (maxSteps := 2000000) (implicitDefEqProofs := false) (decide := true) only [go_sem, e, e2, readT, embT_eq, Tree.atom, Tree.parts, ownOf]
  | succ d ih =>
    intro i dep H hd hi
    refine acall_is (fn := Try.f36) rfl Try.func36 rfl rfl (by simp [Try.f36]) ?_
    have e2 : ¬ (300 : Int) < (dep : Int) := by omega
    by_cases h1 : s.length ≤ i
    · have h1' : (s.length : Int) ≤ (i : Int) := by omega
      simp (maxSteps := 2000000) (implicitDefEqProofs := false) (decide := true) only [go_sem, e2, h1, h1', readT, embT_eq, Tree.atom, Tree.parts, ownOf]
    · have h1' : ¬ (s.length : Int) ≤ (i : Int) := by omega
      have hlt : i < s.length := by omega
      have hi0 : (0 : Int) ≤ i := by omega
      have hg : s[i]? = some s[i] := by simp [hlt]
      have hgd : s.getD i 0 = s[i] := by simp [List.getD_eq_getElem?_getD, hlt]
      generalize hc : s[i] = c at hg hgd
      by_cases h2 : c = 40
      · subst h2
        have k2 : (((40 : UInt8).toNat : Nat) : Int) = 40 := rfl
        simp (maxSteps := 2000000) (implicitDefEqProofs := false) (decide := true) only [go_sem, e2, h1, h1', hg, hi0, k2]
        have hend : readT s (d + 1) i = readLoop s (readT s d) s.length i [] := by
          rw [readT]; simp only [h1, hgd, if_false, ne_eq, not_true_eq_false]
        rw [hend]
        refine wp_loop (α := Nat × Nat × List Tree) (fun x => x.1) (fun x σ => σ.t 0 = .v (.str s) ∧ σ.t 1 = .v (.int .i64 (x.2.1 : Int)) ∧ σ.t 2 = .v (.int .i64 (dep : Int)) ∧ σ.t 8 = .loc 8 0 0 ∧ σ.t 6 = .loc 6 0 0 ∧ σ.L 6 = some (0, [.str [], .slice [] .full]) ∧
          ((x.2.2 = [] ∧ σ.L 8 = some (0, [.str [], .slice [] .full]) ∧ σ.H = H) ∨ (x.2.2 ≠ [] ∧ σ.L 8 = some (0, [.str [], .slice (x.2.2.map embT) (.tok H.length)]) ∧ σ.H = H ++ [.top x.2.2.length 2])) ∧
          readLoop s (readT s d) x.1 x.2.1 x.2.2 = readLoop s (readT s d) s.length i [] ∧ x.2.1 < s.length ∧ s.length ≤ x.1 + x.2.1 ∧ x.2.2.length ≤ x.2.1) ?_ (s.length, i, []) _ ?_
        · rintro ⟨k, j, ps⟩ ⟨t, L, H'⟩ ⟨e0, e1, e2', e8, e6, l6, hps, hR, hj, hk, hpl⟩
          simp only at e0 e1 e2' e8 e6 l6 hps hR hj hk hpl
          obtain ⟨k, rfl⟩ : ∃ m, k = m + 1 := ⟨k - 1, by omega⟩
          rw [← hR]
          have w1 : IntKind.i64.wrap ((j : Int) + 1) = ((j + 1 : Nat) : Int) := by rw [wrap64] <;> omega
          have w2 : IntKind.i64.wrap ((dep : Int) + 1) = ((dep + 1 : Nat) : Int) := by rw [wrap64] <;> omega
          have hcall := ih (j + 1) (dep + 1) H' (by omega) (by omega)
          have hb := readT_bound s d (j + 1)
          unfold readLoop at hR ⊢
          generalize readT s d (j + 1) = rr at hcall hb hR ⊢
          obtain ⟨p, e⟩ := rr
          simp only at hcall hb hR ⊢
          rcases hb with rfl | ⟨hb1, hb2⟩
          · have hm : (-1 : Int) < 0 := by decide
            simp only [hm, true_or, if_true]
            rcases hps with ⟨rfl, l8, rfl⟩ | ⟨hne, l8, rfl⟩
            · simp (maxSteps := 2000000) (implicitDefEqProofs := false) (decide := true) only [go_sem, e0, e1, e2', e8, e6, l6, l8, w1, w2, hcall, embT_cells, embT_mk, embT_fold, below_embT, ownOf_nil, ownOf_snoc, ownOf_cons, set_top, belowL_app, belowL_map_embT, Nat.lt_irrefl, List.length_map]
            · have hown : ownOf ps = .view := by cases ps with | nil => exact absurd rfl hne | cons _ _ => rfl
              simp (maxSteps := 2000000) (implicitDefEqProofs := false) (decide := true) only [go_sem, e0, e1, e2', e8, e6, l6, l8, w1, w2, hcall, embT_cells, embT_mk, embT_fold, below_embT, ownOf_nil, ownOf_snoc, ownOf_cons, set_top, belowL_app, belowL_map_embT, Nat.lt_irrefl, List.length_map, hown]
          · obtain ⟨m, rfl⟩ := Int.eq_ofNat_of_zero_le (show 0 ≤ e by omega)
            have hm0 : ¬ (m : Int) < 0 := by omega
            have hm0' : (0 : Int) ≤ m := by omega
            by_cases hml : (s.length : Int) ≤ (m : Int)
            · simp only [hm0, hml, or_true, if_true]
              rcases hps with ⟨rfl, l8, rfl⟩ | ⟨hne, l8, rfl⟩
              · simp (maxSteps := 2000000) (implicitDefEqProofs := false) (decide := true) only [go_sem, e0, e1, e2', e8, e6, l6, l8, w1, w2, hcall, embT_cells, embT_mk, embT_fold, below_embT, ownOf_nil, ownOf_snoc, ownOf_cons, set_top, belowL_app, belowL_map_embT, Nat.lt_irrefl, List.length_map, hm0, hml]
              · have hown : ownOf ps = .view := by cases ps with | nil => exact absurd rfl hne | cons _ _ => rfl
                simp (maxSteps := 2000000) (implicitDefEqProofs := false) (decide := true) only [go_sem, e0, e1, e2', e8, e6, l6, l8, w1, w2, hcall, embT_cells, embT_mk, embT_fold, below_embT, ownOf_nil, ownOf_snoc, ownOf_cons, set_top, belowL_app, belowL_map_embT, Nat.lt_irrefl, List.length_map, hown, hm0, hml]
            · have hlt2 : m < s.length := by omega
              have hg2 : s[m]? = some s[m] := by simp [hlt2]
              have hgd2 : s.getD m 0 = s[m] := by simp [List.getD_eq_getElem?_getD, hlt2]
              have w3 : IntKind.i64.wrap ((m : Int) + 1) = (m : Int) + 1 := by rw [wrap64] <;> omega
              simp only [Int.toNat_natCast, hgd2, hm0, hml, or_self, if_false] at hR ⊢
              generalize s[m] = c2 at hg2 hgd2 hR ⊢
              have hll : ps.length + 1 ≤ lim := by simp [lim]; omega
              have hown2 : ownOf (ps ++ [p]) = .view := by cases ps <;> rfl
              by_cases q1 : c2 = 41
              · subst q1
                have k3 : (((41 : UInt8).toNat : Nat) : Int) = 41 := rfl
                simp only [if_true]
                rcases hps with ⟨rfl, l8, rfl⟩ | ⟨hne, l8, rfl⟩
                · simp (maxSteps := 2000000) (implicitDefEqProofs := false) (decide := true) only [go_sem, e0, e1, e2', e8, e6, l6, l8, w1, w2, hcall, embT_cells, embT_mk, embT_fold, below_embT, ownOf_nil, ownOf_snoc, ownOf_cons, set_top, belowL_app, belowL_map_embT, Nat.lt_irrefl, List.length_map, hm0, hm0', hml, hg2, k3, w3, List.map_append, hll, Sz_embT]
                · simp (maxSteps := 2000000) (implicitDefEqProofs := false) (decide := true) only [go_sem, e0, e1, e2', e8, e6, l6, l8, w1, w2, hcall, embT_cells, embT_mk, embT_fold, below_embT, ownOf_nil, ownOf_snoc, ownOf_cons, set_top, belowL_app, belowL_map_embT, Nat.lt_irrefl, List.length_map, hm0, hm0', hml, hg2, k3, w3, List.map_append, hll, Sz_embT]
              · have k3 : ¬ ((c2.toNat : Nat) : Int) = 41 := fun q => q1 (by apply UInt8.toNat_inj.1; show c2.toNat = 41; omega)
                simp only [q1, if_false] at hR ⊢
                by_cases q2 : c2 = 32
                · subst q2
                  have k4 : (((32 : UInt8).toNat : Nat) : Int) = 32 := rfl
                  simp only [ne_eq, not_true_eq_false, if_false] at hR ⊢
                  rcases hps with ⟨rfl, l8, rfl⟩ | ⟨hne, l8, rfl⟩
                  · simp (maxSteps := 2000000) (implicitDefEqProofs := false) (decide := true) only [go_sem, e0, e1, e2', e8, e6, l6, l8, w1, w2, hcall, embT_cells, embT_mk, embT_fold, below_embT, ownOf_nil, ownOf_snoc, ownOf_cons, set_top, belowL_app, belowL_map_embT, Nat.lt_irrefl, List.length_map, hm0, hm0', hml, hg2, k3, k4, w3, List.map_append, hll, Sz_embT]
                    refine ⟨(k, m, [p]), by simp only; omega, rfl, .inr ⟨by simp, rfl, rfl⟩, ?_, by simp only; omega, by simp only; omega, by simp; omega⟩
                    conv => rhs; unfold readLoop
                  · simp (maxSteps := 2000000) (implicitDefEqProofs := false) (decide := true) only [go_sem, e0, e1, e2', e8, e6, l6, l8, w1, w2, hcall, embT_cells, embT_mk, embT_fold, below_embT, ownOf_nil, ownOf_snoc, ownOf_cons, set_top, belowL_app, belowL_map_embT, Nat.lt_irrefl, List.length_map, hm0, hm0', hml, hg2, k3, k4, w3, List.map_append, hll, Sz_embT]
                    refine ⟨(k, m, ps ++ [p]), by simp only; omega, rfl, .inr ⟨by simp, by simp, by simp⟩, ?_, by simp only; omega, by simp only; omega, by simp; omega⟩
                    conv => rhs; unfold readLoop
                · have k4 : ¬ ((c2.toNat : Nat) : Int) = 32 := fun q => q2 (by apply UInt8.toNat_inj.1; show c2.toNat = 32; omega)
                  simp only [ne_eq, q2, not_false_eq_true, if_true] at hR ⊢
                  rcases hps with ⟨rfl, l8, rfl⟩ | ⟨hne, l8, rfl⟩
                  · simp (maxSteps := 2000000) (implicitDefEqProofs := false) (decide := true) only [go_sem, e0, e1, e2', e8, e6, l6, l8, w1, w2, hcall, embT_cells, embT_mk, embT_fold, below_embT, ownOf_nil, ownOf_snoc, ownOf_cons, set_top, belowL_app, belowL_map_embT, Nat.lt_irrefl, List.length_map, hm0, hm0', hml, hg2, k3, k4, w3, List.map_append, hll, Sz_embT]
                  · simp (maxSteps := 2000000) (implicitDefEqProofs := false) (decide := true) only [go_sem, e0, e1, e2', e8, e6, l6, l8, w1, w2, hcall, embT_cells, embT_mk, embT_fold, below_embT, ownOf_nil, ownOf_snoc, ownOf_cons, set_top, belowL_app, belowL_map_embT, Nat.lt_irrefl, List.length_map, hm0, hm0', hml, hg2, k3, k4, w3, List.map_append, hll, Sz_embT]
        · exact ⟨rfl, rfl, rfl, rfl, rfl, rfl, .inl ⟨rfl, rfl, rfl⟩, rfl, hlt, by omega, by simp⟩
      · have k2 : ¬ ((c.toNat : Nat) : Int) = 40 := fun q => h2 (by apply UInt8.toNat_inj.1; show c.toNat = 40; omega)
        simp (maxSteps := 2000000) (implicitDefEqProofs := false) (decide := true) only [go_sem, e2, h1, h1', hg, hi0, k2]
        generalize hw : (s.drop i).takeWhile isAtomB = w
        have hwl : w.length ≤ s.length - i := by
          rw [← hw]; have := (List.takeWhile_prefix isAtomB (l := s.drop i)).length_le; simpa using this
        refine wp_loop (α := Nat) (fun j => i + w.length - j) (fun j σ => σ.t 0 = .v (.str s) ∧ σ.t 1 = .v (.int .i64 (j : Int)) ∧ σ.t 9 = .v (.int .i64 (i : Int)) ∧ σ.t 8 = .loc 8 0 0 ∧ σ.t 6 = .loc 6 0 0 ∧ σ.L 8 = some (0, [.str [], .slice [] .full]) ∧ σ.L 6 = some (0, [.str [], .slice [] .full]) ∧ σ.H = H ∧ i ≤ j ∧ j ≤ i + w.length) ?_ i _ ?_
        · rintro j ⟨t, L, H'⟩ ⟨e0, e1, e9, e8, e6, l8, l6, hH, hj1, hj2⟩
          simp only at e0 e1 e9 e8 e6 l8 l6 hH
          subst hH
          have hj0 : (0 : Int) ≤ j := by omega
          by_cases hjl : j < i + w.length
          · have hk : j - i < ((s.drop i).takeWhile isAtomB).length := by rw [hw]; omega
            obtain ⟨b, hb1, hb2⟩ := tw_lt _ _ _ hk
            rw [List.getElem?_drop] at hb1
            have hij : i + (j - i) = j := by omega
            rw [hij] at hb1
            have hjs : (j : Int) < (s.length : Int) := by omega
            have hab : atomB (b.toNat : Int) = true := hb2
            have w1 : IntKind.i64.wrap ((j : Int) + 1) = ((j + 1 : Nat) : Int) := by rw [wrap64] <;> omega
            simp (maxSteps := 2000000) (implicitDefEqProofs := false) (decide := true) only [go_sem, e0, e1, e9, e8, e6, l8, l6, hj0, hjs, hb1, l1Byte_eq, hab, w1]
            exact ⟨j + 1, by omega, rfl, by omega, by omega⟩
          · have hje : j = i + w.length := by omega
            subst hje
            have hT : (s.drop i).take (i + w.length - i) = w := by
              have : i + w.length - i = w.length := by omega
              rw [this, ← hw]; exact tw_take _ _
            have hin : ((i + w.length : Nat) : Int) ≤ (s.length : Int) := by omega
            have hii : (i : Int) ≤ ((i + w.length : Nat) : Int) := by omega
            have hend : readT s (d + 1) i = if w = [] then (.mk [] [], -1) else (.mk w [], ((i + w.length : Nat) : Int)) := by
              rw [readT]; simp only [h1, hgd, h2, hw, if_false, ne_eq, not_false_eq_true, if_true]
            rw [hend]
            rcases tw_end isAtomB (s.drop i) with q | ⟨b, q1, q2⟩
            · rw [hw] at q
              have hjs : ¬ ((i + w.length : Nat) : Int) < (s.length : Int) := by simp at q; omega
              by_cases hwe : w = []
              · subst hwe
                simp only [List.length_nil, Nat.add_zero] at hT hjs e1 hin hii hj0 
                simp (maxSteps := 2000000) (implicitDefEqProofs := false) (decide := true) only [go_sem, e0, e1, e9, e8, e6, l8, l6, hj0, hi0, hjs, hT, hin, hii, embT_eq, Tree.atom, Tree.parts, ownOf]
              · simp (maxSteps := 2000000) (implicitDefEqProofs := false) (decide := true) only [go_sem, e0, e1, e9, e8, e6, l8, l6, hj0, hi0, hjs, hT, hin, hii, hwe, embT_eq, Tree.atom, Tree.parts, ownOf]
            · rw [hw, List.getElem?_drop] at q1
              have hjs : ((i + w.length : Nat) : Int) < (s.length : Int) := by
                have := (List.getElem?_eq_some_iff.1 q1).1; omega
              have hab : atomB (b.toNat : Int) = false := q2
              by_cases hwe : w = []
              · subst hwe
                simp only [List.length_nil, Nat.add_zero] at hT hjs e1 hin hii hj0 q1
                simp (maxSteps := 2000000) (implicitDefEqProofs := false) (decide := true) only [go_sem, e0, e1, e9, e8, e6, l8, l6, hj0, hi0, hjs, hT, hin, hii, q1, l1Byte_eq, hab, embT_eq, Tree.atom, Tree.parts, ownOf]
              · simp (maxSteps := 2000000) (implicitDefEqProofs := false) (decide := true) only [go_sem, e0, e1, e9, e8, e6, l8, l6, hj0, hi0, hjs, hT, hin, hii, hwe, q1, l1Byte_eq, hab, embT_eq, Tree.atom, Tree.parts, ownOf]
        · exact ⟨rfl, rfl, rfl, rfl, rfl, rfl, rfl, rfl, by omega, by omega⟩
end Go.Proofs.Ytnjaagfhaooapaa.Eng
