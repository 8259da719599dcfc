/-
  The walks of the laws on ComposePermutations and InversePermutation. No conditions.
-/
import Derived.Test.YtkhgkaiadfebmaaDoorPerm4
set_option linter.unusedSimpArgs false
set_option linter.unusedVariables false
namespace Go.Proofs.YtkhgkaiadfebmaaDoor
open Go.RowKit
theorem composeP_le (p q : List Int) : (composeP p q).length ≤ 4 := by
  unfold composeP
  split
  · rename_i h
    have := (isPerm_iff p).1 h.1
    rw [compTo_length _ _ _ (Nat.le_refl _)]; omega
  · simp
end Go.Proofs.YtkhgkaiadfebmaaDoor
