/-
  Contracts of the functions on circuits that only count or compare. Conditions: the slices read as rows; at most 2^20 gates where something is counted.
-/
import Derived.Test.YtkhgkaiadfebmaaDoorGates
set_option linter.unusedSimpArgs false
set_option linter.unusedVariables false
namespace Go.Proofs.YtkhgkaiadfebmaaDoor
open Go.RowKit

/-- How many of the first n gates of a row satisfy f on their kind. -/
def cntTo (f : Int → Bool) (L : List Int) : Nat → Nat
  | 0 => 0
  | n + 1 => cntTo f L n + if f (L.getD (n * 4) 0) then 1 else 0
theorem cntTo_le (f : Int → Bool) (L : List Int) : ∀ n, cntTo f L n ≤ n
  | 0 => Nat.le_refl _
  | n + 1 => by have := cntTo_le f L n; simp only [cntTo]; split <;> omega
def isK (kind : Int) (x : Int) : Bool := x == kind
def isTwo (x : Int) : Bool := decide (2 ≤ arity x)

end Go.Proofs.YtkhgkaiadfebmaaDoor
