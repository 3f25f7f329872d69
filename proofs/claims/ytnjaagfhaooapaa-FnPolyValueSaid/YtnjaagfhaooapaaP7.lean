/- WALK 7: counting atoms. -/
import Derived.Test.YtnjaagfhaooapaaP6
namespace Go.Proofs.Ytnjaagfhaooapaa.Eng
set_option linter.unusedVariables false
set_option linter.unusedSimpArgs false
set_option linter.unnecessarySimpa false
set_option linter.constructorNameAsVariable false
open Go
set_option maxRecDepth 100000

mutual
def atomsN : Tree → Nat
  | .mk a p => if a = [] then atomsNs p else 1
def atomsNs : List Tree → Nat
  | [] => 0
  | t :: l => atomsN t + atomsNs l
end

theorem atomsNs_take (l : List Tree) : ∀ (i : Nat) (h : i < l.length), atomsNs (l.take (i + 1)) = atomsNs (l.take i) + atomsN l[i] := by
  induction l with
  | nil => intro i h; simp at h
  | cons t l ih =>
    intro i h
    cases i with
    | zero => simp [atomsNs]
    | succ i =>
      have := ih i (by simpa using h)
      simp only [List.take_succ_cons, atomsNs, List.getElem_cons_succ, this]; omega
theorem atomsNs_le (l : List Tree) : ∀ i, atomsNs (l.take i) ≤ atomsNs l := by
  induction l with
  | nil => intro i; simp [atomsNs]
  | cons t l ih =>
    intro i
    cases i with
    | zero => simp [atomsNs]
    | succ i => simp only [List.take_succ_cons, atomsNs]; have := ih i; omega

mutual
/-- The number of nodes. -/
def nodes : Tree → Nat
  | .mk _ p => 1 + nodess p
def nodess : List Tree → Nat
  | [] => 0
  | t :: l => nodes t + nodess l
end
theorem length_nodess : ∀ (l : List Tree), l.length ≤ nodess l
  | [] => by simp
  | .mk a p :: l => by have := length_nodess l; simp [nodess, nodes]; omega
theorem nodes_mem : ∀ (l : List Tree) (q : Tree), q ∈ l → nodes q ≤ nodess l
  | [], q, h => by simp at h
  | t :: l, q, h => by
    simp only [nodess]
    rcases List.mem_cons.1 h with rfl | h
    · omega
    · have := nodes_mem l q h; omega
mutual
theorem atomsN_le : ∀ t, atomsN t ≤ nodes t
  | .mk a p => by have := atomsNs_le' p; simp only [atomsN, nodes]; split <;> omega
theorem atomsNs_le' : ∀ l, atomsNs l ≤ nodess l
  | [] => by simp [atomsNs]
  | t :: l => by have := atomsN_le t; have := atomsNs_le' l; simp only [atomsNs, nodess]; omega
end

theorem l1Atoms_eq : ∀ (t : Tree) (H : List HObj), nodes t ≤ 1000000000 → acall EA 34 [embT t] H = some (.int .i64 (atomsN t : Int), H)
  | .mk a p, H, hb => by
    have ih : ∀ q ∈ p, ∀ H, nodes q ≤ 1000000000 → acall EA 34 [embT q] H = some (.int .i64 (atomsN q : Int), H) := fun q hq H h =>
      have : SizeOf.sizeOf q < SizeOf.sizeOf (Tree.mk a p) := by have := List.sizeOf_lt_of_mem hq; simp; omega
      l1Atoms_eq q H h
    have hp : nodess p < 1000000000 := by simp only [nodes] at hb; omega
    have hpl := length_nodess p
    have hpa := atomsNs_le' p
    refine acall_is (fn := Try.f34) rfl Try.func34 rfl rfl (by simp [Try.f34]) ?_
    by_cases h : a = []
    · subst h
      have hn : atomsN (.mk [] p) = atomsNs p := by simp [atomsN]
      rw [hn]
      simp +decide -implicitDefEqProofs (maxSteps := 999999) (disch := first | assumption | omega) only [go_sem, if_true, if_false, decide_true, decide_false, Int.reduceToNat, Nat.reduceAdd, Nat.reduceMul, Nat.reduceSub, Int.reduceAdd, Int.reduceSub, Int.reduceMul, Int.reduceNeg, embT_mk]
      refine wp_loop (α := Nat) (fun i => p.length - i) (fun i σ => σ.t 1 = .v (.ptr [.str [], .slice (p.map embT) (ownOf p)] 0 none) ∧ σ.t 3 = .v (.int .i64 (atomsNs (p.take i) : Int)) ∧ σ.t 4 = .v (.int .i64 (i : Int)) ∧ σ.H = H ∧ i ≤ p.length) ?_ 0 _ ⟨rfl, rfl, rfl, rfl, by omega⟩
      rintro i ⟨t, L, H'⟩ ⟨e1, e3, e4, hH, hi⟩
      simp only at e1 e3 e4 hH
      subst hH
      by_cases hlt : i < p.length
      · have hg : (p.map embT)[i]? = some (embT p[i]) := by simp [hlt]
        have h1 := atomsNs_take p i hlt
        have h2 := atomsNs_le p (i + 1)
        have hc := ih p[i] (List.getElem_mem hlt) H' (by have := nodes_mem p _ (List.getElem_mem hlt); omega)
        simp +decide -implicitDefEqProofs (maxSteps := 999999) (disch := first | assumption | omega) only [go_sem, if_true, if_false, decide_true, decide_false, Int.reduceToNat, Nat.reduceAdd, Nat.reduceMul, Nat.reduceSub, Int.reduceAdd, Int.reduceSub, Int.reduceMul, Int.reduceNeg, e1, e3, e4, hg, embT_cells, embT_fold, hc]
        exact ⟨i + 1, by omega, by congr 3; omega, rfl, by omega⟩
      · have hT : p.take i = p := List.take_of_length_le (by omega)
        simp +decide -implicitDefEqProofs (maxSteps := 999999) (disch := first | assumption | omega) only [go_sem, if_true, if_false, decide_true, decide_false, Int.reduceToNat, Nat.reduceAdd, Nat.reduceMul, Nat.reduceSub, Int.reduceAdd, Int.reduceSub, Int.reduceMul, Int.reduceNeg, e1, e3, e4, hT]
    · have hn : atomsN (.mk a p) = 1 := by simp [atomsN, h]
      rw [hn]
      simp +decide -implicitDefEqProofs (maxSteps := 999999) (disch := first | assumption | omega) only [go_sem, if_true, if_false, decide_true, decide_false, Int.reduceToNat, Nat.reduceAdd, Nat.reduceMul, Nat.reduceSub, Int.reduceAdd, Int.reduceSub, Int.reduceMul, Int.reduceNeg, embT_mk, h]
      rfl
  termination_by t => SizeOf.sizeOf t
end Go.Proofs.Ytnjaagfhaooapaa.Eng
