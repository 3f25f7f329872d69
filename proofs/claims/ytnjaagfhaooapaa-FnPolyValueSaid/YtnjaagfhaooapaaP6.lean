/- WALK 6: whole texts. -/
import Derived.Test.YtnjaagfhaooapaaP5
namespace Go.Proofs.Ytnjaagfhaooapaa.Eng
set_option linter.unusedVariables false
set_option linter.unusedSimpArgs false
set_option linter.unnecessarySimpa false
set_option linter.constructorNameAsVariable false
open Go
set_option maxRecDepth 100000

theorem frz_embT (n : Nat) (H : List HObj) (t : Tree) : frz n H (embT t) = embT t := by rw [embT_eq]; simp [frz, frzL]

def parseT (s : List UInt8) : Tree × Bool := if 8000 < s.length then (.mk [] [], false) else ((readT s 301 0).1, decide ((readT s 301 0).2 = (s.length : Int)))

theorem l1Parse_eq (s : List UInt8) (H : List HObj) : acall EA 32 [.str s] H = some (.tuple [embT (parseT s).1, .bool (parseT s).2], H) := by
  refine acall_is (fn := Try.f32) rfl Try.func32 rfl rfl (by simp [Try.f32]) ?_
  by_cases h : 8000 < s.length
  · have h' : (8000 : Int) < (s.length : Int) := by omega
    simp (maxSteps := 2000000) (implicitDefEqProofs := false) (decide := true) only [go_sem, h', h, parseT, embT_mk, ownOf_nil]
  · have h' : ¬ (8000 : Int) < (s.length : Int) := by omega
    have hc : acall EA 36 [.str s, .int .i64 0, .int .i64 0] H = some (.tuple [embT (readT s 301 0).1, .int .i64 (readT s 301 0).2], H) := l1Read_eq s (by omega) 301 0 0 H (by omega) (by omega)
    simp (maxSteps := 2000000) (implicitDefEqProofs := false) (decide := true) only [go_sem, h', h, parseT, hc, embT_cells, embT_fold, norm_embT, frz_embT, below_embT]
end Go.Proofs.Ytnjaagfhaooapaa.Eng
