/- WALK 2: the reference's trees. -/
import Derived.Test.YtnjaagfhaooapaaP1
namespace Go.Proofs.Ytnjaagfhaooapaa.Eng
set_option linter.unusedVariables false
set_option linter.unusedSimpArgs false
set_option linter.unnecessarySimpa false
set_option linter.constructorNameAsVariable false
open Go
set_option maxRecDepth 100000

inductive Tree where
  | mk (atom : List UInt8) (parts : List Tree)

def Tree.atom : Tree → List UInt8
  | .mk a _ => a
def Tree.parts : Tree → List Tree
  | .mk _ p => p

/-- Who may append to a row of parts: an empty one is nil. -/
def ownOf {α : Type} (l : List α) : Own := match l with
  | [] => .full
  | _ => .view

mutual
def embT : Tree → AV
  | .mk a p => .agg [.str a, .slice (embTs p) (ownOf p)]
def embTs : List Tree → List AV
  | [] => []
  | t :: l => embT t :: embTs l
end

theorem embTs_map : ∀ l, embTs l = l.map embT
  | [] => by simp [embTs]
  | t :: l => by simp [embTs, embTs_map l]

theorem embT_eq (t : Tree) : embT t = .agg [.str t.atom, .slice (t.parts.map embT) (ownOf t.parts)] := by
  cases t; simp [embT, Tree.atom, Tree.parts, embTs_map]

theorem embT_cells (t : Tree) : (embT t).cells = [.str t.atom, .slice (t.parts.map embT) (ownOf t.parts)] := by rw [embT_eq]; rfl

/-- The first atom of what has parts. -/
def Tree.head (t : Tree) : List UInt8 := if t.atom = [] then (match t.parts with | [] => [] | p :: _ => p.atom) else []

theorem l1Head_eq (t : Tree) (H : List HObj) : acall EA 26 [embT t] H = some (.str t.head, H) := by
  refine acall_is (fn := Try.f26) rfl Try.func26 rfl rfl (by simp [Try.f26]) ?_
  obtain ⟨a, p⟩ := t
  by_cases h : a = []
  · cases p with
    | nil => simp +decide -implicitDefEqProofs (maxSteps := 999999) (disch := first | assumption | omega) only [go_sem, if_true, if_false, decide_true, decide_false, Int.reduceToNat, Nat.reduceAdd, Nat.reduceMul, Nat.reduceSub, Int.reduceAdd, Int.reduceSub, Int.reduceMul, Int.reduceNeg, embT_eq, Tree.atom, Tree.parts, h, Tree.head, List.map_nil, ownOf]
    | cons q l => simp +decide -implicitDefEqProofs (maxSteps := 999999) (disch := first | assumption | omega) only [go_sem, if_true, if_false, decide_true, decide_false, Int.reduceToNat, Nat.reduceAdd, Nat.reduceMul, Nat.reduceSub, Int.reduceAdd, Int.reduceSub, Int.reduceMul, Int.reduceNeg, embT_eq (.mk _ _), Tree.atom, Tree.parts, h, Tree.head, embT_cells]
  · simp +decide -implicitDefEqProofs (maxSteps := 999999) (disch := first | assumption | omega) only [go_sem, if_true, if_false, decide_true, decide_false, Int.reduceToNat, Nat.reduceAdd, Nat.reduceMul, Nat.reduceSub, Int.reduceAdd, Int.reduceSub, Int.reduceMul, Int.reduceNeg, embT_eq, Tree.atom, Tree.parts, h, Tree.head, ownOf]

end Go.Proofs.Ytnjaagfhaooapaa.Eng
