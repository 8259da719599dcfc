/-
  Contracts of ConcatCircuits. Conditions: the slices read as rows.
-/
import Derived.Test.YtkhgkaiadfebmaaDoorCat
set_option linter.unusedSimpArgs false
set_option linter.unusedVariables false
namespace Go.Proofs.YtkhgkaiadfebmaaDoor
open Go.RowKit
def catOk (N N' : Int) (L L' : List Int) (n m : Nat) : Prop := validC N L n = true ∧ validC N' L' m = true ∧ N = N' ∧ validC N (L ++ L') (n + m) = true
theorem ints_app (L L' : List Int) : ints (L ++ L') = ints L ++ ints L' := by simp [ints]
end Go.Proofs.YtkhgkaiadfebmaaDoor
