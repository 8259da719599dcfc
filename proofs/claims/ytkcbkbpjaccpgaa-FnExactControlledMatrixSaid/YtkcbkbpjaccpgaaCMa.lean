/-
  Contracts of ControlledMatrix. Conditions: the slices read as rows.
-/
import Derived.Test.YtkcbkbpjaccpgaaCMd
import Derived.BigRegion
set_option linter.unusedSimpArgs false
set_option linter.unusedVariables false
namespace Go.Proofs.Ytkcbkbpjaccpgaa
open Go.RowKit
def CmNo (w : World) (e : Ending) (w' : World) : Prop := ∃ G cG, e = .returned (.tuple #[.slice G 0 cG, .bool false]) ∧ Ext w w'
theorem impl_cm_inv (Q : Int) (A : Option Addr) (n c : Nat) (LL : List (List Int)) (vs : List Value) (w : World) (hA : Rd2 w 5 A LL vs) (hl : LL.length = n) (hn : n ≤ 1048576) (hs : ∀ j, (LL.getD j []).length ≤ 1048576 * 5) (hv : vM LL n = false) :
    Calls Try.prog 7 #[.int .i64 Q, .slice A n c] w (CmNo w) := by
  have hcall := fun W (hW : Ext w W) => impl_vM A n c LL vs W (hA.ext hW) hl hn hs
  rw [hv] at hcall
  have HC := Lib.hid hcall
  clear hcall hv hl hs
  go_enter Try.func7, Try.ntmps7
  go_wp2_with fail
  refine (HC.out _ (by repeat (first | exact Ext.refl _ | assumption | refine Ext.alloc ?_ _ | refine Ext.drew ?_ | refine Ext.drewN ?_ _ | refine Ext.trans ?_ (by assumption)))).mono ?_
  rintro e w1 ⟨rfl, h1⟩
  go_wp2
  go_ret2
  exact ⟨_, _, rfl, (by repeat (first | exact Ext.refl _ | assumption | refine Ext.alloc ?_ _ | refine Ext.drew ?_ | refine Ext.drewN ?_ _ | refine Ext.trans ?_ (by assumption)))⟩
theorem spec_cm_inv (Q : Int) (A : Option Addr) (n c : Nat) (LL : List (List Int)) (vs : List Value) (w : World) (hA : Rd2 w 5 A LL vs) (hl : LL.length = n) (hn : n ≤ 1048576) (hs : ∀ j, (LL.getD j []).length ≤ 1048576 * 5) (hv : vM LL n = false) :
    Calls Try.prog 5 #[.int .i64 Q, .slice A n c] w (CmNo w) := by
  have hcall := fun W (hW : Ext w W) => spec_vM A n c LL vs W (hA.ext hW) hl hn hs
  rw [hv] at hcall
  have HC := Lib.hid hcall
  clear hcall hv hl hs
  go_enter Try.func5, Try.ntmps5
  go_wp2_with fail
  refine (HC.out _ (by repeat (first | exact Ext.refl _ | assumption | refine Ext.alloc ?_ _ | refine Ext.drew ?_ | refine Ext.drewN ?_ _ | refine Ext.trans ?_ (by assumption)))).mono ?_
  rintro e w1 ⟨rfl, h1⟩
  go_wp2
  go_ret2
  exact ⟨_, _, rfl, (by repeat (first | exact Ext.refl _ | assumption | refine Ext.alloc ?_ _ | refine Ext.drew ?_ | refine Ext.drewN ?_ _ | refine Ext.trans ?_ (by assumption)))⟩
set_option maxHeartbeats 800000 in
theorem impl_cm_q (Q : Int) (A : Option Addr) (n c : Nat) (LL : List (List Int)) (vs : List Value) (w : World) (hA : Rd2 w 5 A LL vs) (hl : LL.length = n) (hn : n ≤ 1048576) (hs : ∀ j, (LL.getD j []).length ≤ 1048576 * 5) (hv : vM LL n = true) (hq : ¬ (0 ≤ Q ∧ Q ≤ qc n - 1)) :
    Calls Try.prog 7 #[.int .i64 Q, .slice A n c] w (CmNo w) := by
  have hcall := fun W (hW : Ext w W) => impl_vM A n c LL vs W (hA.ext hW) hl hn hs
  rw [hv] at hcall
  have HC := Lib.hid hcall
  have hN : 0 < n ∧ rowsOk LL n n = true := by unfold vM at hv; rw [Bool.and_eq_true] at hv; exact ⟨by simpa using hv.2, hv.1⟩
  obtain ⟨hN0, hr⟩ := hN
  have hr0 := (rowsOk_at LL n n hr 0 hN0).1
  have HL := Lib.hid hl
  have HR := Lib.hid hr0
  have HQC := Lib.hid (qc_cases n)
  obtain ⟨N, hNq⟩ : ∃ N, N = qc n := ⟨_, rfl⟩
  have hN5 : 0 ≤ N ∧ N ≤ 4 := by have := HQC.out; omega
  have hb : inB Q 0 (N - 1) = false := by rw [hNq]; unfold inB; rw [Bool.and_eq_false_iff]; simp; omega
  have HN := Lib.hid hNq
  clear hcall hv hl hs hr hr0 hNq hq
  obtain ⟨g, off, B, m, cB, hAe, x0, _, hBl, rB⟩ := hA.look (j := 0) (by have := HL.out; omega)
  obtain rfl : n = m := by have := HR.out; omega
  clear hBl rB
  subst hAe
  rw [Nat.add_zero] at x0
  go_enter Try.func7, Try.ntmps7
  go_wp2_with fail
  refine (HC.out _ (by repeat (first | exact Ext.refl _ | assumption | refine Ext.alloc ?_ _ | refine Ext.drew ?_ | refine Ext.drewN ?_ _ | refine Ext.trans ?_ (by assumption)))).mono ?_
  rintro e w1 ⟨rfl, h1⟩
  have x1 := h1.cell x0
  have h01 : Ext w w1 := (by repeat (first | exact Ext.refl _ | assumption | refine Ext.alloc ?_ _ | refine Ext.drew ?_ | refine Ext.drewN ?_ _ | refine Ext.trans ?_ (by assumption)))
  clear h1 x0
  have hNI : (0 : Int) < (n : Int) := by omega
  go_wp2_with fail
  refine (impl_qc B n cB _ (by omega)).mono ?_
  rintro e w2 ⟨rfl, h2⟩
  rw [← HN.out]
  go_wp2_with (go_at_call 18; refine (impl_in _ _ _ _).mono ?_; rintro e w' ⟨rfl, rfl⟩)
  go_ret2
  exact ⟨_, _, rfl, by first | exact h01.trans h2 | exact (h01.trans h2).alloc _⟩
set_option maxHeartbeats 800000 in
theorem spec_cm_q (Q : Int) (A : Option Addr) (n c : Nat) (LL : List (List Int)) (vs : List Value) (w : World) (hA : Rd2 w 5 A LL vs) (hl : LL.length = n) (hn : n ≤ 1048576) (hs : ∀ j, (LL.getD j []).length ≤ 1048576 * 5) (hv : vM LL n = true) (hq : ¬ (0 ≤ Q ∧ Q ≤ qc n - 1)) :
    Calls Try.prog 5 #[.int .i64 Q, .slice A n c] w (CmNo w) := by
  have hcall := fun W (hW : Ext w W) => spec_vM A n c LL vs W (hA.ext hW) hl hn hs
  rw [hv] at hcall
  have HC := Lib.hid hcall
  have hN : 0 < n ∧ rowsOk LL n n = true := by unfold vM at hv; rw [Bool.and_eq_true] at hv; exact ⟨by simpa using hv.2, hv.1⟩
  obtain ⟨hN0, hr⟩ := hN
  have hr0 := (rowsOk_at LL n n hr 0 hN0).1
  have HL := Lib.hid hl
  have HR := Lib.hid hr0
  have HQC := Lib.hid (qc_cases n)
  obtain ⟨N, hNq⟩ : ∃ N, N = qc n := ⟨_, rfl⟩
  have hN5 : 0 ≤ N ∧ N ≤ 4 := by have := HQC.out; omega
  have hb : inB Q 0 (N - 1) = false := by rw [hNq]; unfold inB; rw [Bool.and_eq_false_iff]; simp; omega
  have HN := Lib.hid hNq
  clear hcall hv hl hs hr hr0 hNq hq
  obtain ⟨g, off, B, m, cB, hAe, x0, _, hBl, rB⟩ := hA.look (j := 0) (by have := HL.out; omega)
  obtain rfl : n = m := by have := HR.out; omega
  clear hBl rB
  subst hAe
  rw [Nat.add_zero] at x0
  go_enter Try.func5, Try.ntmps5
  go_wp2_with fail
  refine (HC.out _ (by repeat (first | exact Ext.refl _ | assumption | refine Ext.alloc ?_ _ | refine Ext.drew ?_ | refine Ext.drewN ?_ _ | refine Ext.trans ?_ (by assumption)))).mono ?_
  rintro e w1 ⟨rfl, h1⟩
  have x1 := h1.cell x0
  have h01 : Ext w w1 := (by repeat (first | exact Ext.refl _ | assumption | refine Ext.alloc ?_ _ | refine Ext.drew ?_ | refine Ext.drewN ?_ _ | refine Ext.trans ?_ (by assumption)))
  clear h1 x0
  have hNI : (0 : Int) < (n : Int) := by omega
  go_wp2_with fail
  refine (spec_qc B n cB _ (by omega)).mono ?_
  rintro e w2 ⟨rfl, h2⟩
  rw [← HN.out]
  go_wp2_with (go_at_call 13; refine (spec_in _ _ _ _).mono ?_; rintro e w' ⟨rfl, rfl⟩)
  go_ret2
  exact ⟨_, _, rfl, by first | exact h01.trans h2 | exact (h01.trans h2).alloc _⟩
end Go.Proofs.Ytkcbkbpjaccpgaa
