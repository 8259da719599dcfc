/-
  Contracts of the small functions on gates. No conditions.
-/
import Derived.Test.YtkcbkbpjaccpgaaBase
set_option linter.unusedSimpArgs false
set_option linter.unusedVariables false
namespace Go.Proofs.Ytkcbkbpjaccpgaa
open Go.RowKit

def inB (n lo hi : Int) : Bool := decide (lo ≤ n) && decide (n ≤ hi)
def arity (k : Int) : Int := if 1 ≤ k ∧ k ≤ 8 then 1 else if 9 ≤ k ∧ k ≤ 11 then 2 else if k = 12 then 3 else 0
theorem arity_cases (k : Int) : (arity k = 1 ∧ 1 ≤ k ∧ k ≤ 8) ∨ (arity k = 2 ∧ 9 ≤ k ∧ k ≤ 11) ∨ (arity k = 3 ∧ k = 12) ∨ (arity k = 0 ∧ (k < 1 ∨ 12 < k)) := by
  unfold arity; (repeat' split) <;> omega
theorem arity_bd (k : Int) : 0 ≤ arity k ∧ arity k ≤ 3 := by
  have := arity_cases k; omega
def cliff (k : Int) : Bool := !(arity k == 0) && !(k == 7) && !(k == 8) && !(k == 12)
def basic (k : Int) : Bool := arity k == 1 || k == 9
def invK (k : Int) : Int := if k = 5 then 6 else if k = 6 then 5 else if k = 7 then 8 else if k = 8 then 7 else k

theorem impl_in (n lo hi : Int) (w : World) : Calls Try.prog 18 #[.int .i64 n, .int .i64 lo, .int .i64 hi] w fun e w' => e = .returned (.bool (inB n lo hi)) ∧ w = w' := by
  by_cases h : lo ≤ n
  · have h' : decide (lo ≤ n) = true := by simpa using h
    go_enter Try.func18, Try.ntmps18
    go_wp2
    go_ret
    exact ⟨by simp [inB, h], rfl⟩
  · have h' : decide (lo ≤ n) = false := by simpa using h
    go_enter Try.func18, Try.ntmps18
    go_wp2
    go_ret
    exact ⟨ret_bool (by unfold inB; rw [h']; rfl), rfl⟩
theorem spec_in (n lo hi : Int) (w : World) : Calls Try.prog 13 #[.int .i64 n, .int .i64 lo, .int .i64 hi] w fun e w' => e = .returned (.bool (inB n lo hi)) ∧ w = w' := by
  by_cases h : lo ≤ n
  · have h' : decide (lo ≤ n) = true := by simpa using h
    go_enter Try.func13, Try.ntmps13
    go_wp2
    go_ret
    exact ⟨by simp [inB, h], rfl⟩
  · have h' : decide (lo ≤ n) = false := by simpa using h
    go_enter Try.func13, Try.ntmps13
    go_wp2
    go_ret
    exact ⟨ret_bool (by unfold inB; rw [h']; rfl), rfl⟩
end Go.Proofs.Ytkcbkbpjaccpgaa
