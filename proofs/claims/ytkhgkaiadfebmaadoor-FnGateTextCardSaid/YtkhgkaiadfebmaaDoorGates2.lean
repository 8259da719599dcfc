/-
  Contracts of markGateS and heldGateS: the marks of a row of gates. Conditions: the slice reads as a list of 4 n ints.
-/
import Derived.Test.YtkhgkaiadfebmaaDoorGates
set_option linter.unusedSimpArgs false
set_option linter.unusedVariables false
namespace Go.Proofs.YtkhgkaiadfebmaaDoor
open Go.RowKit
theorem Fr.fourAt {w : World} {lo hi : Nat} {A : Option Addr} {L : List Int} {n j : Nat} (h : Fr w lo hi A (ints L)) (hL : L.length = n * 4) (hj : j < n) :
    ∃ g off, A = some ⟨g, off, none⟩ ∧ lo ≤ g ∧ g < hi ∧ (∃ v, w.cell? ⟨g, off + j * 4, none⟩ = some v) ∧ (∃ v, w.cell? ⟨g, off + j * 4 + 1, none⟩ = some v) ∧ (∃ v, w.cell? ⟨g, off + j * 4 + 2, none⟩ = some v) ∧ (∃ v, w.cell? ⟨g, off + j * 4 + 3, none⟩ = some v) ∧
      w.frozen? ⟨g, off + j * 4, none⟩ = false ∧ w.frozen? ⟨g, off + j * 4 + 1, none⟩ = false ∧ w.frozen? ⟨g, off + j * 4 + 2, none⟩ = false ∧ w.frozen? ⟨g, off + j * 4 + 3, none⟩ = false := by
  obtain ⟨g, off, e, h1, h2, hc, hf⟩ := h.int (by omega)
  exact ⟨g, off, e, h1, h2, ⟨_, hc _ (by omega)⟩, ⟨_, hc (j * 4 + 1) (by omega)⟩, ⟨_, hc (j * 4 + 2) (by omega)⟩, ⟨_, hc (j * 4 + 3) (by omega)⟩, hf _, hf (j * 4 + 1), hf (j * 4 + 2), hf (j * 4 + 3)⟩
theorem Fr.mark4 {w : World} {lo hi g off : Nat} {L : List Int} {k : Int} {n j : Nat} (h : Fr w lo hi (some ⟨g, off, none⟩) (ints (marks k (j * 4) ++ L.drop (j * 4)))) (hL : L.length = n * 4) (hj : j < n) (q0 q1 q2 q3 : Int)
    (e0 : q0 = k + (j : Int) * 4) (e1 : q1 = k + (j : Int) * 4 + 1) (e2 : q2 = k + (j : Int) * 4 + 2) (e3 : q3 = k + (j : Int) * 4 + 3) :
    Fr ((((w.setCell ⟨g, off + j * 4, none⟩ (.int .i64 q0)).setCell ⟨g, off + j * 4 + 1, none⟩ (.int .i64 q1)).setCell ⟨g, off + j * 4 + 2, none⟩ (.int .i64 q2)).setCell ⟨g, off + j * 4 + 3, none⟩ (.int .i64 q3)) lo hi (some ⟨g, off, none⟩)
      (ints (marks k ((j + 1) * 4) ++ L.drop ((j + 1) * 4))) := by
  obtain rfl : q0 = k + ((j * 4 : Nat) : Int) := by omega
  obtain rfl : q1 = k + ((j * 4 + 1 : Nat) : Int) := by omega
  obtain rfl : q2 = k + ((j * 4 + 1 + 1 : Nat) : Int) := by omega
  obtain rfl : q3 = k + ((j * 4 + 1 + 1 + 1 : Nat) : Int) := by omega
  clear e0 e1 e2 e3
  have h1 := h.set_int (j * 4) (k + ((j * 4 : Nat) : Int)) (by simp [marks_length]; omega)
  rw [marks_step L k (j * 4) (by omega)] at h1
  have h2 := h1.set_int (j * 4 + 1) (k + ((j * 4 + 1 : Nat) : Int)) (by simp [marks_length]; omega)
  rw [marks_step L k (j * 4 + 1) (by omega)] at h2
  have h3 := h2.set_int (j * 4 + 1 + 1) (k + ((j * 4 + 1 + 1 : Nat) : Int)) (by simp [marks_length]; omega)
  rw [marks_step L k (j * 4 + 1 + 1) (by omega)] at h3
  have h4 := h3.set_int (j * 4 + 1 + 1 + 1) (k + ((j * 4 + 1 + 1 + 1 : Nat) : Int)) (by simp [marks_length]; omega)
  rw [marks_step L k (j * 4 + 1 + 1 + 1) (by omega)] at h4
  rw [show (j + 1) * 4 = j * 4 + 1 + 1 + 1 + 1 from by omega]
  exact h4
set_option maxHeartbeats 800000 in
theorem markGateS_any (A : Option Addr) (n c lo hi : Nat) (L : List Int) (k : Int) (w : World) (hA : Fr w lo hi A (ints L)) (hl : L.length = n * 4) (hn : n ≤ 1048576) (hk0 : 0 ≤ k) (hk1 : k ≤ 2147483648) :
    Calls Tryd.prog 38 #[.slice A n c, .int .i64 k] w fun e w' => e = .returned (.int .i64 (k + (n : Int) * 4)) ∧ Fr w' lo hi A (ints (marks k (n * 4))) ∧ Chg w w' lo hi := by
  have HL := Lib.hid hl
  clear hl
  go_enter Tryd.func38, Tryd.ntmps38
  go_wp2
  go_loopw [1, 5] (fun q i wr => ∃ j : Nat, j ≤ n ∧ i = .int .i64 j ∧ q = .int .i64 (k + (j : Int) * 4) ∧ Fr wr lo hi A (ints (marks k (j * 4) ++ L.drop (j * 4))) ∧ Chg w wr lo hi) (fun _ i _ => n - (intOf i).toNat)
  case atStart => exact ⟨0, Nat.zero_le _, rfl, by simp, by simpa [marks] using hA, Chg.refl _ _ _⟩
  case round =>
    obtain ⟨j, hj, rfl, rfl, hf, hch⟩ := hrel
    by_cases hlt : j < n
    · have hlen : Hid ((marks k (j * 4) ++ L.drop (j * 4)).length = n * 4) := by show _ = _; have := HL.out; simp [marks_length]; omega
      obtain ⟨g, off, rfl, hg1, hg2, ⟨v0, y0⟩, ⟨v1, y1⟩, ⟨v2, y2⟩, ⟨v3, y3⟩, f0, f1, f2, f3⟩ := hf.fourAt hlen.out hlt
      have HS := Lib.hid (hf.mark4 HL.out hlt (k + (j : Int) * 4) (k + (j : Int) * 4 + 1) (k + (j : Int) * 4 + 1 + 1) (k + (j : Int) * 4 + 1 + 1 + 1) rfl rfl (by omega) (by omega))
      clear hf
      go_wp2
      go_roundw
      case rel => exact ⟨j + 1, by omega, by go_num, by go_num, HS.out, (((hch.setCell hg1 hg2 _).setCell hg1 hg2 _).setCell hg1 hg2 _).setCell hg1 hg2 _⟩
      case measure => simp [intOf]; omega
    · have hjn : j = n := by omega
      subst hjn
      go_wp2
      go_ret
      exact ⟨rfl, by rw [List.drop_eq_nil_of_le (by have := HL.out; omega), List.append_nil] at hf; exact hf, hch⟩
set_option maxHeartbeats 800000 in
theorem heldGateS_any (A : Option Addr) (n c : Nat) (k : Int) (w : World) (hA : Rd w A (ints (marks k (n * 4)))) (hn : n ≤ 1048576) (hk0 : 0 ≤ k) (hk1 : k ≤ 2147483648) :
    Calls Tryd.prog 39 #[.slice A n c, .int .i64 k] w fun e w' => e = .returned (.int .i64 (k + (n : Int) * 4)) ∧ Ext w w' := by
  go_enter Tryd.func39, Tryd.ntmps39
  go_wp2
  go_loopw [1, 5] (fun q i wr => ∃ j : Nat, j ≤ n ∧ i = .int .i64 j ∧ q = .int .i64 (k + (j : Int) * 4) ∧ Ext w wr) (fun _ i _ => n - (intOf i).toNat)
  case atStart => exact ⟨0, Nat.zero_le _, rfl, by simp, Ext.refl _⟩
  case round =>
    obtain ⟨j, hj, rfl, rfl, he⟩ := hrel
    by_cases hlt : j < n
    · obtain ⟨g, off, rfl, hc⟩ := (hA.ext he).four (marks_length _ _) (by omega)
      obtain ⟨x0, x1, x2, x3⟩ := hc j hlt
      rw [marks_getD k (n * 4) _ (by omega), show k + ((j * 4 : Nat) : Int) = k + (j : Int) * 4 from by omega] at x0
      rw [marks_getD k (n * 4) _ (by omega), show k + ((j * 4 + 1 : Nat) : Int) = k + (j : Int) * 4 + 1 from by omega] at x1
      rw [marks_getD k (n * 4) _ (by omega), show k + ((j * 4 + 2 : Nat) : Int) = k + (j : Int) * 4 + 1 + 1 from by omega] at x2
      rw [marks_getD k (n * 4) _ (by omega), show k + ((j * 4 + 3 : Nat) : Int) = k + (j : Int) * 4 + 1 + 1 + 1 from by omega] at x3
      clear hc
      go_wp2
      go_roundw
      case rel => exact ⟨j + 1, by omega, by go_num, by go_num, (by repeat (first | exact Ext.refl _ | assumption | refine Ext.alloc ?_ _ | refine Ext.drew ?_ | refine Ext.drewN ?_ _ | refine Ext.trans ?_ (by assumption)))⟩
      case measure => simp [intOf]; omega
    · have hjn : j = n := by omega
      subst hjn
      go_wp2
      go_ret
      exact ⟨rfl, (by repeat (first | exact Ext.refl _ | assumption | refine Ext.alloc ?_ _ | refine Ext.drew ?_ | refine Ext.drewN ?_ _ | refine Ext.trans ?_ (by assumption)))⟩
end Go.Proofs.YtkhgkaiadfebmaaDoor
