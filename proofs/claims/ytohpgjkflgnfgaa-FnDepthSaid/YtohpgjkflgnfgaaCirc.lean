/-
  Contracts of the functions on circuits that only count or compare. Conditions: the slices read as rows; at most 2^20 gates where something is counted.
-/
import Derived.Test.YtohpgjkflgnfgaaGates
set_option linter.unusedSimpArgs false
set_option linter.unusedVariables false
namespace Go.Proofs.Ytohpgjkflgnfgaa
open Go.RowKit

/-- How many of the first n gates of a row satisfy f on their kind. -/
def cntTo (f : Int → Bool) (L : List Int) : Nat → Nat
  | 0 => 0
  | n + 1 => cntTo f L n + if f (L.getD (n * 4) 0) then 1 else 0
theorem cntTo_le (f : Int → Bool) (L : List Int) : ∀ n, cntTo f L n ≤ n
  | 0 => Nat.le_refl _
  | n + 1 => by have := cntTo_le f L n; simp only [cntTo]; split <;> omega
def isK (kind : Int) (x : Int) : Bool := x == kind
def isTwo (x : Int) : Bool := decide (2 ≤ arity x)

set_option maxHeartbeats 400000 in
theorem impl_count (N : Int) (A : Option Addr) (n c : Nat) (L : List Int) (kind : Int) (w : World) (hA : Rd w A (ints L)) (hl : L.length = n * 4) (hn : n ≤ 1048576) :
    Calls Try.prog 42 #[.agg #[.int .i64 N, .slice A n c], .int .i64 kind] w fun e w' => e = .returned (.int .i64 (cntTo (isK kind) L n)) ∧ Ext w w' := by
  have HL := Lib.hid hl
  clear hl
  go_enter Try.func42, Try.ntmps42
  go_wp2
  go_loopw [5, 7, 11] (fun q _ i wr => ∃ j : Nat, j ≤ n ∧ i = .int .i64 j ∧ q = .int .i64 (cntTo (isK kind) L j) ∧ Ext w wr) (fun _ _ i _ => n - (intOf i).toNat)
  case atStart => exact ⟨0, Nat.zero_le _, rfl, rfl, (by repeat (first | exact Ext.refl _ | assumption | refine Ext.alloc ?_ _ | refine Ext.drew ?_ | refine Ext.drewN ?_ _ | refine Ext.trans ?_ (by assumption)))⟩
  case round =>
    obtain ⟨j, hj, rfl, rfl, he⟩ := hrel
    have hcl := cntTo_le (isK kind) L j
    by_cases hlt : j < n
    · obtain ⟨g, off, rfl, hc⟩ := (hA.ext he).four HL.out (by omega)
      obtain ⟨x0, x1, x2, x3⟩ := hc j hlt
      have HS : Hid (cntTo (isK kind) L (j + 1) = cntTo (isK kind) L j + if isK kind (L.getD (j * 4) 0) then 1 else 0) := rfl
      generalize L.getD (j * 4) 0 = y at *
      generalize L.getD (j * 4 + 1) 0 = y1 at *
      generalize L.getD (j * 4 + 2) 0 = y2 at *
      generalize L.getD (j * 4 + 3) 0 = y3 at *
      obtain ⟨m, hm⟩ : ∃ m, m = cntTo (isK kind) L j := ⟨_, rfl⟩
      rw [← hm] at HS hcl ⊢
      clear hm hc
      by_cases hy : y = kind
      · subst hy
        go_wp2
        go_roundw
        case rel => exact ⟨j + 1, by omega, by go_num, by rw [HS.out]; simp [isK], (by repeat (first | exact Ext.refl _ | assumption | refine Ext.alloc ?_ _ | refine Ext.drew ?_ | refine Ext.drewN ?_ _ | refine Ext.trans ?_ (by assumption)))⟩
        case measure => simp [intOf]; omega
      · have hy1 : (y == kind) = false := by simpa using hy
        have HY := Lib.hid hy
        clear hy
        go_wp2
        go_roundw
        case rel => exact ⟨j + 1, by omega, by go_num, by rw [HS.out]; simp [isK, HY.out], (by repeat (first | exact Ext.refl _ | assumption | refine Ext.alloc ?_ _ | refine Ext.drew ?_ | refine Ext.drewN ?_ _ | refine Ext.trans ?_ (by assumption)))⟩
        case measure => simp [intOf]; omega
    · have hjn : j = n := by omega
      subst hjn
      go_wp2
      go_ret
      exact ⟨rfl, he⟩
set_option maxHeartbeats 800000 in
theorem impl_tcount (N : Int) (A : Option Addr) (n c : Nat) (L : List Int) (w : World) (hA : Rd w A (ints L)) (hl : L.length = n * 4) (hn : n ≤ 1048576) :
    Calls Try.prog 26 #[.agg #[.int .i64 N, .slice A n c]] w fun e w' => e = .returned (.int .i64 (cntTo (isK 7) L n + cntTo (isK 8) L n)) ∧ Ext w w' := by
  have c7 := cntTo_le (isK 7) L n
  have c8 := cntTo_le (isK 8) L n
  have h7 := fun W (hW : Ext w W) => impl_count N A n c L 7 W (hA.ext hW) hl hn
  have h8 := fun W (hW : Ext w W) => impl_count N A n c L 8 W (hA.ext hW) hl hn
  generalize cntTo (isK 7) L n = m7 at *
  generalize cntTo (isK 8) L n = m8 at *
  have H7 := Lib.hid h7
  have H8 := Lib.hid h8
  clear h7 h8 hl
  have hw : IntKind.i64.wrap ((m7 : Int) + (m8 : Int)) = (m7 : Int) + (m8 : Int) := IntWalk.i64_in _ (by omega)
  have hsz : w.heap.size < (w.alloc (.cells #[.int .i64 N, .slice A n c] 29)).heap.size := by simp
  have hext := ((Ext.refl w).alloc (.cells #[.int .i64 N, .slice A n c] 29)).drew
  go_enter Try.func26, Try.ntmps26
  go_wp2_with fail
  go_region_held3 (fun w' => w'.cell? ⟨w.heap.size, 0, none⟩ = some (.int .i64 N) ∧ w'.cell? ⟨w.heap.size, 1, none⟩ = some (.slice A n c) ∧ Ext w w')
    (first | go_keep | exact ⟨by go_keep, by go_keep, hext⟩ | (go_split_ands; exact ⟨Ext.cell hx (by assumption), Ext.cell hx (by assumption), Ext.trans (by assumption) hx⟩))
    (first | (go_at_call_of 42 (Value.int IntKind.i64 7); go_split_ands; refine (H7.out _ (by assumption)).mono ?_; rintro e w' ⟨rfl, hx⟩) | (go_at_call_of 42 (Value.int IntKind.i64 8); go_split_ands; refine (H8.out _ (by assumption)).mono ?_; rintro e w' ⟨rfl, hx⟩))
  all_goals go_split_ands
  all_goals go_wp2
  all_goals go_ret
  all_goals exact ⟨rfl, by assumption⟩
end Go.Proofs.Ytohpgjkflgnfgaa
