/-
  Contract of DrawComposePermutations; the walks of FnPerm and FnMoved need it. Conditions: the code is at most 2^20 bytes.
-/
import Derived.Test.YtkhgkaiadfebmaaDoorDraw2
import Derived.Test.YtkhgkaiadfebmaaDoorWalkE
set_option linter.unusedSimpArgs false
set_option linter.unusedVariables false
namespace Go.Proofs.YtkhgkaiadfebmaaDoor
open Go.RowKit

theorem own_cap {w : World} {base : Nat} {e : TypeId} {size n cap : Nat} {A : Option Addr} {xs : List Value} (h : w.ownsRow base e size (.slice A n cap) n xs) : n ≤ cap := by
  obtain ⟨B, c, hv, hc⟩ := own_form' h
  injection hv with _ _ hv
  omega
end Go.Proofs.YtkhgkaiadfebmaaDoor
