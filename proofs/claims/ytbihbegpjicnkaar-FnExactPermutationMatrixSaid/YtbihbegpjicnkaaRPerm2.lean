/-
  Contracts of ActsOn, IdentityPermutation and IsPermutation. Conditions: the slices read as lists.
-/
import Derived.Test.YtbihbegpjicnkaaRPerm
set_option linter.unusedSimpArgs false
set_option linter.unusedVariables false
namespace Go.Proofs.YtbihbegpjicnkaaR
open Go.RowKit

/-- 0, 1, .., n - 1 where n is a number of qubits. -/
def idPerm (n : Int) : List Int := if 1 ≤ n ∧ n ≤ 4 then marks 0 n.toNat else []
theorem marks_succ (k : Int) (n : Nat) : marks k (n + 1) = marks k n ++ [k + n] := by simp [marks, List.range_succ]
end Go.Proofs.YtbihbegpjicnkaaR
