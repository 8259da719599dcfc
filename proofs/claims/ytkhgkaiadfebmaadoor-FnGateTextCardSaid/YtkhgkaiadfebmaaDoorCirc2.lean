/-
  Contracts of the helpers on circuits. Conditions: the slices read as rows.
-/
import Derived.Test.YtkhgkaiadfebmaaDoorCirc
import Derived.Laws.StructEq
set_option linter.unusedSimpArgs false
set_option linter.unusedVariables false
namespace Go.Proofs.YtkhgkaiadfebmaaDoor
open Go.RowKit

def szL (left : Int) (n : Nat) : Int := if left - n < 0 then -1 else left - n
theorem eqCircuit_any (N N' : Int) (A B : Option Addr) (n m c c' : Nat) (L L' : List Int) (w : World) (hA : Rd w A (ints L)) (hB : Rd w B (ints L')) (hl : L.length = n * 4) (hl' : L'.length = m * 4) (hn : n ≤ 1152921504606846976) (hm : m ≤ 1152921504606846976) :
    Calls Tryd.prog 12 #[.agg #[.int .i64 N, .slice A n c], .agg #[.int .i64 N', .slice B m c']] w fun e w' => e = .returned (.bool (decide (N = N' ∧ L = L'))) ∧ Ext w w' := by
  have HC := Lib.hid (fun W (hW : Ext w W) => eqGateS_any A B n m c c' L L' W (hA.ext hW) (hB.ext hW) hl hl' hn hm)
  clear hA hB hl hl'
  by_cases hN : N = N'
  · subst hN
    obtain ⟨d, hd⟩ : ∃ d, d = decide (L = L') := ⟨_, rfl⟩
    rw [← hd] at HC
    have HD := Lib.hid hd
    clear hd
    cases d with
    | true =>
      go_enter Tryd.func12, Tryd.ntmps12
      go_wp2_with fail
      refine (HC.out _ (by repeat (first | exact Ext.refl _ | assumption | refine Ext.alloc ?_ _ | refine Ext.drew ?_ | refine Ext.drewN ?_ _ | refine Ext.trans ?_ (by assumption)))).mono ?_
      rintro e w1 ⟨rfl, h1⟩
      go_wp2
      go_ret
      exact ⟨ret_bool (by simpa using HD.out), (by repeat (first | exact Ext.refl _ | assumption | refine Ext.alloc ?_ _ | refine Ext.drew ?_ | refine Ext.drewN ?_ _ | refine Ext.trans ?_ (by assumption)))⟩
    | false =>
      go_enter Tryd.func12, Tryd.ntmps12
      go_wp2_with fail
      refine (HC.out _ (by repeat (first | exact Ext.refl _ | assumption | refine Ext.alloc ?_ _ | refine Ext.drew ?_ | refine Ext.drewN ?_ _ | refine Ext.trans ?_ (by assumption)))).mono ?_
      rintro e w1 ⟨rfl, h1⟩
      go_wp2
      go_ret
      exact ⟨ret_bool (by simpa using HD.out), (by repeat (first | exact Ext.refl _ | assumption | refine Ext.alloc ?_ _ | refine Ext.drew ?_ | refine Ext.drewN ?_ _ | refine Ext.trans ?_ (by assumption)))⟩
  · have hN1 : (N != N') = true := by simpa using hN
    go_enter Tryd.func12, Tryd.ntmps12
    go_wp2
    go_ret
    exact ⟨ret_bool (by simp [hN]), (by repeat (first | exact Ext.refl _ | assumption | refine Ext.alloc ?_ _ | refine Ext.drew ?_ | refine Ext.drewN ?_ _ | refine Ext.trans ?_ (by assumption)))⟩
theorem gate_neq (p0 p1 p2 p3 q0 q1 q2 q3 : Int) (w : World) : (binOp .neq 23 (.agg #[.int .i64 p0, .int .i64 p1, .int .i64 p2, .int .i64 p3]) (.agg #[.int .i64 q0, .int .i64 q1, .int .i64 q2, .int .i64 q3])).run Tryd.prog w = .ok (.bool (!decide (p0 = q0 ∧ p1 = q1 ∧ p2 = q2 ∧ p3 = q3))) w := by
  rw [run_neq_struct, run_equalIn_struct w 9999 23 _ _ (by kernel_rfl) (by kernel_rfl)]
  simp [go_sem, Program.fieldsOf, Tryd.underlying23, Tryd.underlying3]
  by_cases h0 : p0 = q0 <;> by_cases h1 : p1 = q1 <;> by_cases h2 : p2 = q2 <;> by_cases h3 : p3 = q3 <;> simp [h0, h1, h2, h3]
theorem gate_guard : Tryd.prog.eqGuardType Tryd.prog.depth 23 = false := by kernel_rfl
set_option maxHeartbeats 1600000 in
theorem implSame_any (A B : Option Addr) (n m c c' : Nat) (L L' : List Int) (w : World) (hA : Rd w A (ints L)) (hB : Rd w B (ints L')) (hl : L.length = n * 4) (hl' : L'.length = m * 4) (hn : n ≤ 1152921504606846976) (hm : m ≤ 1152921504606846976) :
    Calls Tryd.prog 55 #[.slice A n c, .slice B m c'] w fun e w' => e = .returned (.bool (decide (L = L'))) ∧ Ext w w' := by
  have HL := Lib.hid hl
  have HL' := Lib.hid hl'
  clear hl hl'
  by_cases hnm : n = m
  · subst hnm
    go_enter Tryd.func55, Tryd.ntmps55
    go_wp2
    go_loopw [5, 13] (fun i5 i13 wr => ∃ k : Nat, k ≤ n ∧ i13 = .int .i64 k ∧ Hid (L.take (k * 4) = L'.take (k * 4)) ∧ Ext w wr) (fun i5 i13 _ => n - (intOf i13).toNat)
    case atStart => exact ⟨0, Nat.zero_le _, rfl, Lib.hid (by simp), Ext.refl _⟩
    case round =>
      obtain ⟨k, hk, rfl, heq, he⟩ := hrel
      by_cases hlt : k < n
      · obtain ⟨g, off, rfl, hc⟩ := (hA.ext he).four HL.out (by omega)
        obtain ⟨g', off', rfl, hc'⟩ := (hB.ext he).four HL'.out (by omega)
        obtain ⟨x0, x1, x2, x3⟩ := hc k hlt
        obtain ⟨y0, y1, y2, y3⟩ := hc' k hlt
        have HT := Lib.hid (take4 L k (by have := HL.out; omega))
        have HT' := Lib.hid (take4 L' k (by have := HL'.out; omega))
        generalize L.getD (k * 4) 0 = p0 at *
        generalize L.getD (k * 4 + 1) 0 = p1 at *
        generalize L.getD (k * 4 + 2) 0 = p2 at *
        generalize L.getD (k * 4 + 3) 0 = p3 at *
        generalize L'.getD (k * 4) 0 = q0 at *
        generalize L'.getD (k * 4 + 1) 0 = q1 at *
        generalize L'.getD (k * 4 + 2) 0 = q2 at *
        generalize L'.getD (k * 4 + 3) 0 = q3 at *
        clear hc hc'
        have hguard := gate_guard
        have hneq := fun W => gate_neq p0 p1 p2 p3 q0 q1 q2 q3 W
        obtain ⟨d, hd⟩ : ∃ d, d = decide (p0 = q0 ∧ p1 = q1 ∧ p2 = q2 ∧ p3 = q3) := ⟨_, rfl⟩
        rw [← hd] at hneq
        have HD := Lib.hid hd
        clear hd
        cases d with
        | true =>
          go_wp2
          go_quiet (fail)
          go_wp2
          go_roundw
          case rel =>
            obtain ⟨e0, e1, e2, e3⟩ := of_decide_eq_true HD.out.symm
            exact ⟨k + 1, by omega, by go_num, Lib.hid (by rw [HT.out, HT'.out, heq.out, e0, e1, e2, e3]), (by repeat (first | exact Ext.refl _ | assumption | refine Ext.alloc ?_ _ | refine Ext.drew ?_ | refine Ext.drewN ?_ _ | refine Ext.trans ?_ (by assumption)))⟩
          case measure => simp [intOf]; omega
        | false =>
          have HN : Hid (¬ L = L') := by
            rintro rfl
            have h1 := HT.out.symm.trans HT'.out
            rw [List.append_cancel_left_eq] at h1
            have := of_decide_eq_false HD.out.symm
            simp at h1
            exact this h1
          go_wp2
          go_quiet (fail)
          go_wp2
          go_ret
          exact ⟨ret_bool (by simp [HN.out]), (by repeat (first | exact Ext.refl _ | assumption | refine Ext.alloc ?_ _ | refine Ext.drew ?_ | refine Ext.drewN ?_ _ | refine Ext.trans ?_ (by assumption)))⟩
      · have hkn : k = n := by omega
        subst hkn
        go_wp2
        go_ret
        exact ⟨ret_bool (by simp [eq_of_take HL.out HL'.out heq.out]), (by repeat (first | exact Ext.refl _ | assumption | refine Ext.alloc ?_ _ | refine Ext.drew ?_ | refine Ext.drewN ?_ _ | refine Ext.trans ?_ (by assumption)))⟩
  · have hne : ((n : Int) != (m : Int)) = true := by simp; omega
    go_enter Tryd.func55, Tryd.ntmps55
    go_wp2
    go_ret
    exact ⟨ret_bool (by simp; intro h; have h1 := HL.out; have h2 := HL'.out; rw [h] at h1; omega), (by repeat (first | exact Ext.refl _ | assumption | refine Ext.alloc ?_ _ | refine Ext.drew ?_ | refine Ext.drewN ?_ _ | refine Ext.trans ?_ (by assumption)))⟩
set_option maxHeartbeats 1600000 in
theorem l11Gates_any (A B : Option Addr) (n m c c' : Nat) (L L' : List Int) (w : World) (hA : Rd w A (ints L)) (hB : Rd w B (ints L')) (hl : L.length = n * 4) (hl' : L'.length = m * 4) (hn : n ≤ 1152921504606846976) (hm : m ≤ 1152921504606846976) :
    Calls Tryd.prog 54 #[.slice A n c, .slice B m c'] w fun e w' => e = .returned (.bool (decide (L = L'))) ∧ Ext w w' := by
  have HL := Lib.hid hl
  have HL' := Lib.hid hl'
  clear hl hl'
  by_cases hnm : n = m
  · subst hnm
    go_enter Tryd.func54, Tryd.ntmps54
    go_wp2
    go_loopw [5, 13] (fun i5 i13 wr => ∃ k : Nat, k ≤ n ∧ i5 = .int .i64 k ∧ Hid (L.take (k * 4) = L'.take (k * 4)) ∧ Ext w wr) (fun i5 i13 _ => n - (intOf i5).toNat)
    case atStart => exact ⟨0, Nat.zero_le _, rfl, Lib.hid (by simp), Ext.refl _⟩
    case round =>
      obtain ⟨k, hk, rfl, heq, he⟩ := hrel
      by_cases hlt : k < n
      · obtain ⟨g, off, rfl, hc⟩ := (hA.ext he).four HL.out (by omega)
        obtain ⟨g', off', rfl, hc'⟩ := (hB.ext he).four HL'.out (by omega)
        obtain ⟨x0, x1, x2, x3⟩ := hc k hlt
        obtain ⟨y0, y1, y2, y3⟩ := hc' k hlt
        have HT := Lib.hid (take4 L k (by have := HL.out; omega))
        have HT' := Lib.hid (take4 L' k (by have := HL'.out; omega))
        generalize L.getD (k * 4) 0 = p0 at *
        generalize L.getD (k * 4 + 1) 0 = p1 at *
        generalize L.getD (k * 4 + 2) 0 = p2 at *
        generalize L.getD (k * 4 + 3) 0 = p3 at *
        generalize L'.getD (k * 4) 0 = q0 at *
        generalize L'.getD (k * 4 + 1) 0 = q1 at *
        generalize L'.getD (k * 4 + 2) 0 = q2 at *
        generalize L'.getD (k * 4 + 3) 0 = q3 at *
        clear hc hc'
        have hguard := gate_guard
        have hneq := fun W => gate_neq p0 p1 p2 p3 q0 q1 q2 q3 W
        obtain ⟨d, hd⟩ : ∃ d, d = decide (p0 = q0 ∧ p1 = q1 ∧ p2 = q2 ∧ p3 = q3) := ⟨_, rfl⟩
        rw [← hd] at hneq
        have HD := Lib.hid hd
        clear hd
        cases d with
        | true =>
          go_wp2
          go_quiet (fail)
          go_wp2
          go_roundw
          case rel =>
            obtain ⟨e0, e1, e2, e3⟩ := of_decide_eq_true HD.out.symm
            exact ⟨k + 1, by omega, by go_num, Lib.hid (by rw [HT.out, HT'.out, heq.out, e0, e1, e2, e3]), (by repeat (first | exact Ext.refl _ | assumption | refine Ext.alloc ?_ _ | refine Ext.drew ?_ | refine Ext.drewN ?_ _ | refine Ext.trans ?_ (by assumption)))⟩
          case measure => simp [intOf]; omega
        | false =>
          have HN : Hid (¬ L = L') := by
            rintro rfl
            have h1 := HT.out.symm.trans HT'.out
            rw [List.append_cancel_left_eq] at h1
            have := of_decide_eq_false HD.out.symm
            simp at h1
            exact this h1
          go_wp2
          go_quiet (fail)
          go_wp2
          go_ret
          exact ⟨ret_bool (by simp [HN.out]), (by repeat (first | exact Ext.refl _ | assumption | refine Ext.alloc ?_ _ | refine Ext.drew ?_ | refine Ext.drewN ?_ _ | refine Ext.trans ?_ (by assumption)))⟩
      · have hkn : k = n := by omega
        subst hkn
        go_wp2
        go_ret
        exact ⟨ret_bool (by simp [eq_of_take HL.out HL'.out heq.out]), (by repeat (first | exact Ext.refl _ | assumption | refine Ext.alloc ?_ _ | refine Ext.drew ?_ | refine Ext.drewN ?_ _ | refine Ext.trans ?_ (by assumption)))⟩
  · have hne : ((n : Int) != (m : Int)) = true := by simp; omega
    go_enter Tryd.func54, Tryd.ntmps54
    go_wp2
    go_ret
    exact ⟨ret_bool (by simp; intro h; have h1 := HL.out; have h2 := HL'.out; rw [h] at h1; omega), (by repeat (first | exact Ext.refl _ | assumption | refine Ext.alloc ?_ _ | refine Ext.drew ?_ | refine Ext.drewN ?_ _ | refine Ext.trans ?_ (by assumption)))⟩
end Go.Proofs.YtkhgkaiadfebmaaDoor
