/-
  The walks of the laws on gates that return plain values. No conditions.
-/
import Derived.Test.YtinhhhnbdpphmaaGate
set_option linter.unusedSimpArgs false
set_option linter.unusedVariables false
namespace Go.Proofs.Ytinhhhnbdpphmaa
open Go.RowKit
theorem walk_FnExactArity (a0 : Int) (w0 : (Lit.int .i64 a0).wf = true) (w : World) :
    Calls Try.prog 4 #[.int .i64 a0] w fun e w' => e = .returned (.bool true) ∧ Ext w w' := by
  go_enter Try.func4, Try.ntmps4
  go_wp2_with (first | (go_at_call 15; refine (spec_arity _ _).mono ?_; rintro e w' ⟨rfl, rfl⟩) | (go_at_call 16; refine (impl_arity _ _).mono ?_; rintro e w' ⟨rfl, rfl⟩))
  go_ret
  exact ⟨rfl, (by repeat (first | exact Ext.refl _ | assumption | refine Ext.alloc ?_ _ | refine Ext.drew ?_ | refine Ext.drewN ?_ _ | refine Ext.trans ?_ (by assumption)))⟩
theorem walk_FnExactIsBasicGate (k a b c : Int) (w0 : (Lit.int .i64 k).wf = true) (w1 : (Lit.int .i64 a).wf = true) (w2 : (Lit.int .i64 b).wf = true) (w3 : (Lit.int .i64 c).wf = true) (w : World) :
    Calls Try.prog 5 #[.agg #[.int .i64 k, .int .i64 a, .int .i64 b, .int .i64 c]] w fun e w' => e = .returned (.bool true) ∧ Ext w w' := by
  go_enter Try.func5, Try.ntmps5
  go_wp2_with fail
  refine (laws_toGate _ _ _ _ _).mono ?_
  rintro e w1 ⟨rfl, h1⟩
  have x := (Blk.new _ _ _).ext h1
  obtain ⟨xc, xf, xz⟩ := x.all
  go_wp2_with fail
  refine (spec_isBasicGate _ _ _ _ _).mono ?_
  rintro e w2 ⟨rfl, h2⟩
  clear xc xf xz
  replace x := Blk.to x h2 (by repeat (first | exact Ext.refl _ | assumption | refine Ext.alloc ?_ _ | refine Ext.drew ?_ | refine Ext.drewN ?_ _ | refine Ext.trans ?_ (by assumption)))
  obtain ⟨xc, xf, xz⟩ := x.all
  go_wp2_with fail
  refine (laws_toGate _ _ _ _ _).mono ?_
  rintro e w3 ⟨rfl, h3⟩
  go_wp2_with fail
  refine (impl_isBasicGate _ _ _ _ _).mono ?_
  rintro e w4 ⟨rfl, h4⟩
  go_wp2
  go_ret
  exact ⟨rfl, (by repeat (first | exact Ext.refl _ | assumption | refine Ext.alloc ?_ _ | refine Ext.drew ?_ | refine Ext.drewN ?_ _ | refine Ext.trans ?_ (by assumption)))⟩
theorem walk_FnExactIsClifford (k a b c : Int) (w0 : (Lit.int .i64 k).wf = true) (w1 : (Lit.int .i64 a).wf = true) (w2 : (Lit.int .i64 b).wf = true) (w3 : (Lit.int .i64 c).wf = true) (w : World) :
    Calls Try.prog 6 #[.agg #[.int .i64 k, .int .i64 a, .int .i64 b, .int .i64 c]] w fun e w' => e = .returned (.bool true) ∧ Ext w w' := by
  go_enter Try.func6, Try.ntmps6
  go_wp2_with fail
  refine (laws_toGate _ _ _ _ _).mono ?_
  rintro e w1 ⟨rfl, h1⟩
  have x := (Blk.new _ _ _).ext h1
  obtain ⟨xc, xf, xz⟩ := x.all
  go_wp2_with fail
  refine (spec_isClifford _ _ _ _ _).mono ?_
  rintro e w2 ⟨rfl, h2⟩
  clear xc xf xz
  replace x := Blk.to x h2 (by repeat (first | exact Ext.refl _ | assumption | refine Ext.alloc ?_ _ | refine Ext.drew ?_ | refine Ext.drewN ?_ _ | refine Ext.trans ?_ (by assumption)))
  obtain ⟨xc, xf, xz⟩ := x.all
  go_wp2_with fail
  refine (laws_toGate _ _ _ _ _).mono ?_
  rintro e w3 ⟨rfl, h3⟩
  go_wp2_with fail
  refine (impl_isClifford _ _ _ _ _).mono ?_
  rintro e w4 ⟨rfl, h4⟩
  go_wp2
  go_ret
  exact ⟨rfl, (by repeat (first | exact Ext.refl _ | assumption | refine Ext.alloc ?_ _ | refine Ext.drew ?_ | refine Ext.drewN ?_ _ | refine Ext.trans ?_ (by assumption)))⟩
theorem walk_FnExactInverseGate (k a b c : Int) (w0 : (Lit.int .i64 k).wf = true) (w1 : (Lit.int .i64 a).wf = true) (w2 : (Lit.int .i64 b).wf = true) (w3 : (Lit.int .i64 c).wf = true) (w : World) :
    Calls Try.prog 8 #[.agg #[.int .i64 k, .int .i64 a, .int .i64 b, .int .i64 c]] w fun e w' => e = .returned (.bool true) ∧ Ext w w' := by
  go_enter Try.func8, Try.ntmps8
  go_wp2_with fail
  refine (laws_toGate _ _ _ _ _).mono ?_
  rintro e w1 ⟨rfl, h1⟩
  have x := (Blk.new _ _ _).ext h1
  obtain ⟨xc, xf, xz⟩ := x.all
  go_wp2_with fail
  refine (spec_inverseGate _ _ _ _ _).mono ?_
  rintro e w2 ⟨rfl, h2⟩
  clear xc xf xz
  replace x := Blk.to x h2 (by repeat (first | exact Ext.refl _ | assumption | refine Ext.alloc ?_ _ | refine Ext.drew ?_ | refine Ext.drewN ?_ _ | refine Ext.trans ?_ (by assumption)))
  obtain ⟨xc, xf, xz⟩ := x.all
  go_wp2_with fail
  refine (laws_toGate _ _ _ _ _).mono ?_
  rintro e w3 ⟨rfl, h3⟩
  have y := (Blk.new _ _ _).ext h3
  obtain ⟨yc, yf, yz⟩ := y.all
  go_wp2_with fail
  refine (impl_inverseGate _ _ _ _ _).mono ?_
  rintro e w4 ⟨rfl, h4⟩
  clear yc yf yz
  replace y := Blk.to y h4 (by repeat (first | exact Ext.refl _ | assumption | refine Ext.alloc ?_ _ | refine Ext.drew ?_ | refine Ext.drewN ?_ _ | refine Ext.trans ?_ (by assumption)))
  obtain ⟨yc, yf, yz⟩ := y.all
  go_wp2_with fail
  refine (laws_eqGate _ _ _ _ _ _ _ _ _).mono ?_
  rintro e w5 ⟨rfl, h5⟩
  go_wp2
  go_ret
  exact ⟨rfl, (by repeat (first | exact Ext.refl _ | assumption | refine Ext.alloc ?_ _ | refine Ext.drew ?_ | refine Ext.drewN ?_ _ | refine Ext.trans ?_ (by assumption)))⟩
end Go.Proofs.Ytinhhhnbdpphmaa
