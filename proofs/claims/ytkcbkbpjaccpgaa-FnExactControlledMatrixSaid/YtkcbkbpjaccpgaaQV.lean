/-
  Contracts of the validity tests of numbers. No conditions.
-/
import Derived.Test.YtkcbkbpjaccpgaaQs
import Derived.Test.YtkcbkbpjaccpgaaGate
set_option linter.unusedSimpArgs false
set_option linter.unusedVariables false
namespace Go.Proofs.Ytkcbkbpjaccpgaa
open Go.RowKit
def nr (a : Int) : Bool := inB a (-1073741824) 1073741824
def vZ (a b c d : Int) : Bool := nr a && nr b && nr c && nr d
theorem vZ_bd {a b c d : Int} (h : vZ a b c d = true) : (-1073741824 ≤ a ∧ a ≤ 1073741824) ∧ (-1073741824 ≤ b ∧ b ≤ 1073741824) ∧ (-1073741824 ≤ c ∧ c ≤ 1073741824) ∧ (-1073741824 ≤ d ∧ d ≤ 1073741824) := by
  unfold vZ nr inB at h
  simp at h
  omega
def dv (a b c d : Int) : Bool := vZ a b c d && !((b - d).tmod 2 != 0) && !((a + c).tmod 2 != 0) && !((b + d).tmod 2 != 0) && !((c - a).tmod 2 != 0)
def vD (a b c d k : Int) : Bool := vZ a b c d && inB k 0 60 && (k == 0 || !dv a b c d)
set_option maxHeartbeats 1600000 in
theorem impl_vZ (a b c d : Int) (w : World) : Calls Try.prog 39 #[.agg #[.int .i64 a, .int .i64 b, .int .i64 c, .int .i64 d]] w fun e w' => e = .returned (.bool (vZ a b c d)) ∧ Ext w w' := by
  cases h1 : inB a (-1073741824) 1073741824 <;> cases h2 : inB b (-1073741824) 1073741824 <;> cases h3 : inB c (-1073741824) 1073741824 <;> cases h4 : inB d (-1073741824) 1073741824
  all_goals
    have HV := Lib.hid (show vZ a b c d = (inB a (-1073741824) 1073741824 && inB b (-1073741824) 1073741824 && inB c (-1073741824) 1073741824 && inB d (-1073741824) 1073741824) from rfl)
    rw [h1, h2, h3, h4] at HV
    rw [HV.out]
    go_enter Try.func39, Try.ntmps39
    go_wp2_with (go_at_call 18; refine (impl_in _ _ _ _).mono ?_; rintro e w' ⟨rfl, rfl⟩)
    go_ret
    exact ⟨rfl, (by repeat (first | exact Ext.refl _ | assumption | refine Ext.alloc ?_ _ | refine Ext.drew ?_ | refine Ext.drewN ?_ _ | refine Ext.trans ?_ (by assumption)))⟩
theorem spec_near (a : Int) (w : World) : Calls Try.prog 40 #[.int .i64 a] w fun e w' => e = .returned (.bool (nr a)) ∧ w = w' := by
  go_enter Try.func40, Try.ntmps40
  go_wp2_with (go_at_call 13; refine (spec_in _ _ _ _).mono ?_; rintro e w' ⟨rfl, rfl⟩)
  go_ret
  exact ⟨rfl, rfl⟩
set_option maxHeartbeats 1600000 in
theorem spec_vZ (a b c d : Int) (w : World) : Calls Try.prog 37 #[.agg #[.int .i64 a, .int .i64 b, .int .i64 c, .int .i64 d]] w fun e w' => e = .returned (.bool (vZ a b c d)) ∧ Ext w w' := by
  cases h1 : nr a <;> cases h2 : nr b <;> cases h3 : nr c <;> cases h4 : nr d
  all_goals
    have HV := Lib.hid (show vZ a b c d = (nr a && nr b && nr c && nr d) from rfl)
    rw [h1, h2, h3, h4] at HV
    rw [HV.out]
    go_enter Try.func37, Try.ntmps37
    go_wp2_with (go_at_call 40; refine (spec_near _ _).mono ?_; rintro e w' ⟨rfl, rfl⟩)
    go_ret
    exact ⟨rfl, (by repeat (first | exact Ext.refl _ | assumption | refine Ext.alloc ?_ _ | refine Ext.drew ?_ | refine Ext.drewN ?_ _ | refine Ext.trans ?_ (by assumption)))⟩
def DivR (w : World) (t : Bool) (e : Ending) (w' : World) : Prop := ∃ z0 z1 z2 z3 : Int, e = .returned (.tuple #[.agg #[.int .i64 z0, .int .i64 z1, .int .i64 z2, .int .i64 z3], .bool t]) ∧ Ext w w'
theorem DivR.mk {w w' : World} {t : Bool} (z0 z1 z2 z3 : Int) (h : Ext w w') : DivR w t (.returned (.tuple #[.agg #[.int .i64 z0, .int .i64 z1, .int .i64 z2, .int .i64 z3], .bool t])) w' := ⟨z0, z1, z2, z3, rfl, h⟩
end Go.Proofs.Ytkcbkbpjaccpgaa
