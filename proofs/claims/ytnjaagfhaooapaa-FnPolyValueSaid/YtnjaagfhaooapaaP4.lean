/- WALK 4: reading trees. -/
import Derived.Test.YtnjaagfhaooapaaP3
namespace Go.Proofs.Ytnjaagfhaooapaa.Eng
set_option linter.unusedVariables false
set_option linter.unusedSimpArgs false
set_option linter.unnecessarySimpa false
set_option linter.constructorNameAsVariable false
open Go
set_option maxRecDepth 100000

mutual
theorem below_embT (n : Nat) : ∀ t : Tree, below n (embT t) = true
  | .mk a p => by
    rw [embT]
    have := belowL_embTs n p
    cases p <;> simp [below, belowL, ownOf, this]
theorem belowL_embTs (n : Nat) : ∀ l : List Tree, belowL n (embTs l) = true
  | [] => by simp [embTs, belowL]
  | t :: l => by simp [embTs, belowL, below_embT n t, belowL_embTs n l]
end
theorem belowL_map_embT (n : Nat) (l : List Tree) : belowL n (l.map embT) = true := by rw [← embTs_map]; exact belowL_embTs n l
theorem Sz_embT (l : List Tree) : Sz 2 (l.map embT) := Sz.map (fun t => by rw [embT_cells]; rfl) l

def isAtomB (b : UInt8) : Bool := atomB (b.toNat : Int)

def readLoop (s : List UInt8) (rd : Nat → Tree × Int) : Nat → Nat → List Tree → Tree × Int
  | 0, _, ps => (.mk [] ps, -1)
  | k + 1, i, ps =>
    if (rd (i + 1)).2 < 0 ∨ (s.length : Int) ≤ (rd (i + 1)).2 then (.mk [] ps, -1)
    else if s.getD (rd (i + 1)).2.toNat 0 = 41 then (.mk [] (ps ++ [(rd (i + 1)).1]), (rd (i + 1)).2 + 1)
    else if s.getD (rd (i + 1)).2.toNat 0 ≠ 32 then (.mk [] (ps ++ [(rd (i + 1)).1]), -1)
    else readLoop s rd k (rd (i + 1)).2.toNat (ps ++ [(rd (i + 1)).1])

/-- The tree that begins at an index, and where it ends, or -1. -/
def readT (s : List UInt8) : Nat → Nat → Tree × Int
  | 0, _ => (.mk [] [], -1)
  | d + 1, i =>
    if s.length ≤ i then (.mk [] [], -1)
    else if s.getD i 0 ≠ 40 then
      (if (s.drop i).takeWhile isAtomB = [] then (.mk [] [], -1) else (.mk ((s.drop i).takeWhile isAtomB) [], (i + ((s.drop i).takeWhile isAtomB).length : Nat)))
    else readLoop s (readT s d) s.length i []

end Go.Proofs.Ytnjaagfhaooapaa.Eng
