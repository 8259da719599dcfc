/-
  Contracts of the helpers on slices of ints. Conditions: the slices read as lists; what is written lies in new memory.
-/
import Derived.Test.YtmalnnddpoefmaaBase
import Derived.Deep.QuietTactic
import Derived.BigQuiet
import Derived.Outline
set_option linter.unusedSimpArgs false
set_option linter.unusedVariables false
namespace Go.Proofs.Ytmalnnddpoefmaa
open Go.RowKit

theorem take_getD (l : List Int) (k : Nat) (h : k < l.length) : l.take (k + 1) = l.take k ++ [l.getD k 0] := by
  rw [List.take_succ_eq_append_getElem h]; simp [List.getD, h]
theorem eq_of_take {l l' : List Int} {n : Nat} (h1 : l.length = n) (h2 : l'.length = n) (h : l.take n = l'.take n) : l = l' := by
  rw [List.take_of_length_le (by omega), List.take_of_length_le (by omega)] at h; exact h
theorem ne_of_getD {l l' : List Int} {k : Nat} (h : l.getD k 0 ≠ l'.getD k 0) : l ≠ l' := by rintro rfl; exact h rfl

set_option maxHeartbeats 400000 in
theorem sameInts_any (A B : Option Addr) (n m c c' : Nat) (l l' : List Int) (w : World) (hA : Rd w A (ints l)) (hB : Rd w B (ints l')) (hl : l.length = n) (hl' : l'.length = m) (hn : n ≤ 9223372036854775806) (hm : m ≤ 9223372036854775806) :
    Calls Try.prog 10 #[.slice A n c, .slice B m c'] w fun e w' => e = .returned (.bool (decide (l = l'))) ∧ Ext w w' := by
  have HL := Lib.hid hl
  have HL' := Lib.hid hl'
  clear hl hl'
  by_cases hnm : n = m
  · subst hnm
    go_enter Try.func10, Try.ntmps10
    go_wp2
    go_loopw [5] (fun i wr => ∃ k : Nat, k ≤ n ∧ i = .int .i64 k ∧ Hid (l.take k = l'.take k) ∧ Ext w wr) (fun i _ => n - (intOf i).toNat)
    case atStart => exact ⟨0, Nat.zero_le _, rfl, Lib.hid rfl, Ext.refl _⟩
    case round =>
      obtain ⟨k, hk, rfl, heq, he⟩ := hrel
      by_cases hlt : k < n
      · obtain ⟨g, off, rfl, hc⟩ := (hA.ext he).int (by have := HL.out; omega)
        obtain ⟨g', off', rfl, hc'⟩ := (hB.ext he).int (by have := HL'.out; omega)
        have c1 := hc k (by have := HL.out; omega)
        have c2 := hc' k (by have := HL'.out; omega)
        obtain ⟨x, hx⟩ : ∃ x, x = l.getD k 0 := ⟨_, rfl⟩
        obtain ⟨y, hy⟩ : ∃ y, y = l'.getD k 0 := ⟨_, rfl⟩
        rw [← hx] at c1
        rw [← hy] at c2
        have HX := Lib.hid hx
        have HY := Lib.hid hy
        clear hx hy hc hc'
        by_cases hxy : x = y
        · subst hxy
          go_wp2
          go_quiet (fail)
          go_wp2
          go_roundw
          case rel => exact ⟨k + 1, by omega, by go_num, Lib.hid (by rw [take_getD l k (by have := HL.out; omega), take_getD l' k (by have := HL'.out; omega), heq.out, ← HX.out, ← HY.out]), (by repeat (first | exact Ext.refl _ | assumption | refine Ext.alloc ?_ _ | refine Ext.drew ?_ | refine Ext.drewN ?_ _ | refine Ext.trans ?_ (by assumption)))⟩
          case measure => simp [intOf]; omega
        · have hne : (x != y) = true := by simpa using hxy
          have HN : Hid (¬ l = l') := ne_of_getD (by rw [← HX.out, ← HY.out]; exact hxy)
          have HXY := Lib.hid hxy
          clear hxy
          go_wp2
          go_quiet (fail)
          go_wp2
          go_ret
          exact ⟨ret_bool (by simp [HN.out]), (by repeat (first | exact Ext.refl _ | assumption | refine Ext.alloc ?_ _ | refine Ext.drew ?_ | refine Ext.drewN ?_ _ | refine Ext.trans ?_ (by assumption)))⟩
      · have hkn : k = n := by omega
        subst hkn
        go_wp2
        go_ret
        exact ⟨ret_bool (by simp [eq_of_take HL.out HL'.out heq.out]), (by repeat (first | exact Ext.refl _ | assumption | refine Ext.alloc ?_ _ | refine Ext.drew ?_ | refine Ext.drewN ?_ _ | refine Ext.trans ?_ (by assumption)))⟩
  · have hne : ((n : Int) != (m : Int)) = true := by simp; omega
    go_enter Try.func10, Try.ntmps10
    go_wp2
    go_ret
    exact ⟨ret_bool (by simp; intro h; have h1 := HL.out; have h2 := HL'.out; rw [h] at h1; omega), (by repeat (first | exact Ext.refl _ | assumption | refine Ext.alloc ?_ _ | refine Ext.drew ?_ | refine Ext.drewN ?_ _ | refine Ext.trans ?_ (by assumption)))⟩

/-- k, k + 1, .. : what mark writes. -/
def marks (k : Int) (n : Nat) : List Int := (List.range n).map (fun i : Nat => k + (i : Int))
theorem marks_length (k : Int) (n : Nat) : (marks k n).length = n := by simp [marks]
theorem marks_getD (k : Int) (n j : Nat) (h : j < n) : (marks k n).getD j 0 = k + j := by simp [marks, List.getD, h]
theorem marks_step (l : List Int) (k : Int) (j : Nat) (h : j < l.length) : (marks k j ++ l.drop j).set j (k + j) = marks k (j + 1) ++ l.drop (j + 1) := by
  rw [List.set_append, if_neg (by rw [marks_length]; omega), marks_length, Nat.sub_self, List.drop_eq_getElem_cons h, List.set_cons_zero]
  simp [marks, List.range_succ]

end Go.Proofs.Ytmalnnddpoefmaa
