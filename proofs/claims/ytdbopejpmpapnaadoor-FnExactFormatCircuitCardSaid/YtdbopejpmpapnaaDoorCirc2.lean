/-
  Contracts of the helpers on circuits. Conditions: the slices read as rows.
-/
import Derived.Test.YtdbopejpmpapnaaDoorCirc
import Derived.Laws.StructEq
set_option linter.unusedSimpArgs false
set_option linter.unusedVariables false
namespace Go.Proofs.YtdbopejpmpapnaaDoor
open Go.RowKit

def szL (left : Int) (n : Nat) : Int := if left - n < 0 then -1 else left - n
theorem szGateS_any (A : Option Addr) (n c : Nat) (left : Int) (w : World) (hn : n ≤ 9223372036854775807) (h0 : 0 ≤ left) (h1 : left ≤ 1048576) : Calls Tryd.prog 21 #[.slice A n c, .int .i64 left] w fun e w' => e = .returned (.int .i64 (szL left n)) ∧ w = w' := by
  by_cases h : left - n < 0
  all_goals
    go_enter Tryd.func21, Tryd.ntmps21
    go_wp2
    go_ret
    exact ⟨ret_int (by unfold szL; simp [h]; try omega), rfl⟩
theorem szCircuit_any (N : Int) (A : Option Addr) (n c : Nat) (left : Int) (w : World) (hn : n ≤ 9223372036854775807) (h0 : 0 ≤ left) (h1 : left ≤ 1048576) : Calls Tryd.prog 8 #[.agg #[.int .i64 N, .slice A n c], .int .i64 left] w fun e w' => e = .returned (.int .i64 (szL left n)) ∧ Ext w w' := by
  by_cases h : left - n < 0
  · have hz : szL left n = -1 := by unfold szL; simp [h]
    go_enter Tryd.func8, Tryd.ntmps8
    go_wp2_with fail
    refine (szGateS_any _ _ _ _ _ hn h0 h1).mono ?_
    rintro e w1 ⟨rfl, rfl⟩
    go_wp2
    go_ret
    exact ⟨ret_int hz.symm, (by repeat (first | exact Ext.refl _ | assumption | refine Ext.alloc ?_ _ | refine Ext.drew ?_ | refine Ext.drewN ?_ _ | refine Ext.trans ?_ (by assumption)))⟩
  · have hz : szL left n = left - n := by unfold szL; simp [h]
    go_enter Tryd.func8, Tryd.ntmps8
    go_wp2_with fail
    refine (szGateS_any _ _ _ _ _ hn h0 h1).mono ?_
    rintro e w1 ⟨rfl, rfl⟩
    go_wp2
    go_ret
    exact ⟨ret_int hz.symm, (by repeat (first | exact Ext.refl _ | assumption | refine Ext.alloc ?_ _ | refine Ext.drew ?_ | refine Ext.drewN ?_ _ | refine Ext.trans ?_ (by assumption)))⟩
theorem toCircuit_any (N : Int) (A : Option Addr) (n c : Nat) (L : List Int) (w : World) (hA : Rd w A (ints L)) (hl : L.length = n * 4) (hn : n ≤ 1048576) :
    Calls Tryd.prog 10 #[.agg #[.int .i64 N, .slice A n c]] w fun e w' => ∃ B, e = .returned (.agg #[.int .i64 N, .slice B n n]) ∧ Fr w' w.heap.size w'.heap.size B (ints L) ∧ Ext w w' := by
  have HL := Lib.hid hl
  clear hl
  go_enter Tryd.func10, Tryd.ntmps10
  go_wp2_with fail
  refine (toGateS_any A n c L _ (hA.ext (by repeat (first | exact Ext.refl _ | assumption | refine Ext.alloc ?_ _ | refine Ext.drew ?_ | refine Ext.drewN ?_ _ | refine Ext.trans ?_ (by assumption)))) HL.out hn).mono ?_
  rintro e w1 ⟨B, rfl, fB, h1⟩
  have x := Blk.to (Blk.new ((w.alloc (.cells #[.int .i64 N, .slice A n c] 30)).alloc (.cells #[.int .i64 0, .slice none 0 0] 35)) 35 #[.int .i64 N, .slice none 0 0]) h1 (by repeat (first | exact Ext.refl _ | assumption | refine Ext.alloc ?_ _ | refine Ext.drew ?_ | refine Ext.drewN ?_ _ | refine Ext.trans ?_ (by assumption)))
  have y := Blk.to (Blk.new (w.alloc (.cells #[.int .i64 N, .slice A n c] 30)) 35 #[.int .i64 0, .slice none 0 0]) h1 (by repeat (first | exact Ext.refl _ | assumption | refine Ext.alloc ?_ _ | refine Ext.drew ?_ | refine Ext.drewN ?_ _ | refine Ext.trans ?_ (by assumption)))
  have he : Ext w w1 := Ext.trans (by repeat (first | exact Ext.refl _ | assumption | refine Ext.alloc ?_ _ | refine Ext.drew ?_ | refine Ext.drewN ?_ _ | refine Ext.trans ?_ (by assumption))) h1
  have hzz := h1.size
  simp only [World.size_alloc] at x y fB hzz
  obtain ⟨xc, xf, xz⟩ := x.all
  obtain ⟨yc, yf, yz⟩ := y.all
  clear h1
  go_wp2
  refine bodyPost_ret (v := .agg #[.int .i64 N, .slice B n n]) (by simp [results, Tryd.results10, go_sem, xc, yc]) rfl ⟨B, rfl, ?_, ?_⟩
  · have ch := (((Chg.refl w1 (w.heap.size + 1) (w.heap.size + 1 + 1 + 1)).setCell (p := ⟨w.heap.size + 1 + 1, 1, none⟩) (by simp) (by simp) (.slice B n n)).setCell (p := ⟨w.heap.size + 1, 0, none⟩) (by simp) (by simp) (.int .i64 N)).setCell (p := ⟨w.heap.size + 1, 1, none⟩) (by simp) (by simp) (.slice B n n)
    exact (fB.chg ch (.inr (Nat.le_refl _))).mono (by omega) ch.size
  · exact ((he.setCell (by simp; omega) _).setCell (by simp) _).setCell (by simp) _
theorem eqCircuit_any (N N' : Int) (A B : Option Addr) (n m c c' : Nat) (L L' : List Int) (w : World) (hA : Rd w A (ints L)) (hB : Rd w B (ints L')) (hl : L.length = n * 4) (hl' : L'.length = m * 4) (hn : n ≤ 1152921504606846976) (hm : m ≤ 1152921504606846976) :
    Calls Tryd.prog 12 #[.agg #[.int .i64 N, .slice A n c], .agg #[.int .i64 N', .slice B m c']] w fun e w' => e = .returned (.bool (decide (N = N' ∧ L = L'))) ∧ Ext w w' := by
  have HC := Lib.hid (fun W (hW : Ext w W) => eqGateS_any A B n m c c' L L' W (hA.ext hW) (hB.ext hW) hl hl' hn hm)
  clear hA hB hl hl'
  by_cases hN : N = N'
  · subst hN
    obtain ⟨d, hd⟩ : ∃ d, d = decide (L = L') := ⟨_, rfl⟩
    rw [← hd] at HC
    have HD := Lib.hid hd
    clear hd
    cases d with
    | true =>
      go_enter Tryd.func12, Tryd.ntmps12
      go_wp2_with fail
      refine (HC.out _ (by repeat (first | exact Ext.refl _ | assumption | refine Ext.alloc ?_ _ | refine Ext.drew ?_ | refine Ext.drewN ?_ _ | refine Ext.trans ?_ (by assumption)))).mono ?_
      rintro e w1 ⟨rfl, h1⟩
      go_wp2
      go_ret
      exact ⟨ret_bool (by simpa using HD.out), (by repeat (first | exact Ext.refl _ | assumption | refine Ext.alloc ?_ _ | refine Ext.drew ?_ | refine Ext.drewN ?_ _ | refine Ext.trans ?_ (by assumption)))⟩
    | false =>
      go_enter Tryd.func12, Tryd.ntmps12
      go_wp2_with fail
      refine (HC.out _ (by repeat (first | exact Ext.refl _ | assumption | refine Ext.alloc ?_ _ | refine Ext.drew ?_ | refine Ext.drewN ?_ _ | refine Ext.trans ?_ (by assumption)))).mono ?_
      rintro e w1 ⟨rfl, h1⟩
      go_wp2
      go_ret
      exact ⟨ret_bool (by simpa using HD.out), (by repeat (first | exact Ext.refl _ | assumption | refine Ext.alloc ?_ _ | refine Ext.drew ?_ | refine Ext.drewN ?_ _ | refine Ext.trans ?_ (by assumption)))⟩
  · have hN1 : (N != N') = true := by simpa using hN
    go_enter Tryd.func12, Tryd.ntmps12
    go_wp2
    go_ret
    exact ⟨ret_bool (by simp [hN]), (by repeat (first | exact Ext.refl _ | assumption | refine Ext.alloc ?_ _ | refine Ext.drew ?_ | refine Ext.drewN ?_ _ | refine Ext.trans ?_ (by assumption)))⟩
theorem gate_neq (p0 p1 p2 p3 q0 q1 q2 q3 : Int) (w : World) : (binOp .neq 25 (.agg #[.int .i64 p0, .int .i64 p1, .int .i64 p2, .int .i64 p3]) (.agg #[.int .i64 q0, .int .i64 q1, .int .i64 q2, .int .i64 q3])).run Tryd.prog w = .ok (.bool (!decide (p0 = q0 ∧ p1 = q1 ∧ p2 = q2 ∧ p3 = q3))) w := by
  rw [run_neq_struct, run_equalIn_struct w 9999 25 _ _ (by kernel_rfl) (by kernel_rfl)]
  simp [go_sem, Program.fieldsOf, Tryd.underlying25, Tryd.underlying3]
  by_cases h0 : p0 = q0 <;> by_cases h1 : p1 = q1 <;> by_cases h2 : p2 = q2 <;> by_cases h3 : p3 = q3 <;> simp [h0, h1, h2, h3]
theorem gate_guard : Tryd.prog.eqGuardType Tryd.prog.depth 25 = false := by kernel_rfl
end Go.Proofs.YtdbopejpmpapnaaDoor
