/-
  The walk of the law on PermuteIndex. No conditions.
-/
import Derived.Test.YtjhnhmjnhnighaaPerm5
set_option linter.unusedSimpArgs false
set_option linter.unusedVariables false
namespace Go.Proofs.Ytjhnhmjnhnighaa
open Go.RowKit
theorem walk_FnExactPermuteIndex (w : World) (A : Option Addr) (n c : Nat) (l : List Int) (rd : Rd w A (ints l)) (hl : l.length = n) (hn : n ≤ maxLen) (wl : ∀ x ∈ l, (Lit.int .i64 x).wf = true) (i : Int) (wi : (Lit.int .i64 i).wf = true) :
    Calls Try.prog 3 #[.slice A n c, .int .i64 i] w fun e w' => e = .returned (.bool true) ∧ Ext w w' := by
  clear wl wi
  have HL := Lib.hid hl
  clear hl
  unfold maxLen at hn
  by_cases hbig : n ≤ 1048576
  · go_enter Try.func3, Try.ntmps3
    go_wp2_with fail
    refine (toIntS_any A n c l _ rd HL.out hbig).mono ?_
    rintro e w1 ⟨B, rfl, fB, h1⟩
    go_wp2_with fail
    refine (spec_pix B n l i _ fB.rd HL.out (by omega)).mono ?_
    rintro e w2 ⟨rfl, h2⟩
    go_wp2_with fail
    refine (toIntS_any A n c l _ (rd.ext (h1.trans h2)) HL.out hbig).mono ?_
    rintro e w3 ⟨D, rfl, fD, h3⟩
    go_wp2_with fail
    refine (impl_pix D n l i _ fD.rd HL.out (by omega)).mono ?_
    rintro e w4 ⟨rfl, h4⟩
    go_wp2_with fail
    refine (toIntS_any A n c l _ (rd.ext (h1.trans (h2.trans (h3.trans h4)))) HL.out hbig).mono ?_
    rintro e w5 ⟨E, rfl, fE, h5⟩
    go_wp2_with fail
    refine (eqIntS_any D E n n n n l l _ (fD.ext (h4.trans h5)).rd fE.rd HL.out HL.out (by omega) (by omega)).mono ?_
    rintro e w6 ⟨rfl, h6⟩
    go_wp2
    go_ret
    exact ⟨rfl, (by repeat (first | exact Ext.refl _ | assumption | refine Ext.alloc ?_ _ | refine Ext.drew ?_ | refine Ext.drewN ?_ _ | refine Ext.trans ?_ (by assumption)))⟩
  · go_enter Try.func3, Try.ntmps3
    go_wp2
    go_ret
    exact ⟨rfl, (by repeat (first | exact Ext.refl _ | assumption | refine Ext.alloc ?_ _ | refine Ext.drew ?_ | refine Ext.drewN ?_ _ | refine Ext.trans ?_ (by assumption)))⟩
end Go.Proofs.Ytjhnhmjnhnighaa
