/-
  Contracts of the functions on permutations. Conditions: the slices read as lists.
-/
import Derived.Test.YtbihbegpjicnkaaRGate
import Derived.Test.YtbihbegpjicnkaaRInts
import Derived.Deep.RegionHeld3
import Derived.WalkSpells
import Derived.StillTactics
import Derived.Laws.Pointers
set_option linter.unusedSimpArgs false
set_option linter.unusedVariables false
namespace Go.Proofs.YtbihbegpjicnkaaR
open Go.RowKit

theorem mem_take_succ {l : List Int} {x : Int} {k : Nat} (hk : k < l.length) : x ∈ l.take (k + 1) ↔ x ∈ l.take k ∨ l.getD k 0 = x := by
  rw [take_getD l k hk]; simp [eq_comm]

set_option maxHeartbeats 400000 in
theorem l1HasInt_any (A : Option Addr) (n c : Nat) (l : List Int) (x : Int) (w : World) (hA : Rd w A (ints l)) (hl : l.length = n) (hn : n ≤ 9223372036854775806) :
    Calls Try.prog 38 #[.slice A n c, .int .i64 x] w fun e w' => e = .returned (.bool (decide (x ∈ l))) ∧ w = w' := by
  have HL := Lib.hid hl
  clear hl
  go_enter Try.func38, Try.ntmps38
  go_wp2
  go_loop [5] (fun i => ∃ k : Nat, k ≤ n ∧ i = .int .i64 k ∧ Hid (¬ x ∈ l.take k)) (fun i => n - (intOf i).toNat)
  case atStart => exact ⟨0, Nat.zero_le _, rfl, by show ¬ _; simp⟩
  case round =>
    obtain ⟨k, hk, rfl, hno⟩ := hrel
    by_cases hlt : k < n
    · obtain ⟨g, off, rfl, hc⟩ := hA.int (by have := HL.out; omega)
      have c1 := hc k (by have := HL.out; omega)
      obtain ⟨y, hy⟩ : ∃ y, y = l.getD k 0 := ⟨_, rfl⟩
      rw [← hy] at c1
      have HY := Lib.hid hy
      clear hy hc
      by_cases hxy : y = x
      · subst hxy
        have HM : Hid (y ∈ l) := by
          show y ∈ l
          have h : k < l.length := by have := HL.out; omega
          rw [HY.out]
          simp [List.getD, h]
        go_wp2
        go_ret
        exact ⟨ret_bool (by simp [HM.out]), rfl⟩
      · have hne : (y == x) = false := by simpa using hxy
        have HXY := Lib.hid hxy
        clear hxy
        go_wp2
        go_round
        case rel =>
          refine ⟨k + 1, by omega, by go_num, ?_⟩
          show ¬ _
          rw [mem_take_succ (by have := HL.out; omega), ← HY.out]
          rintro (h | h)
          · exact hno.out h
          · exact HXY.out h
        case measure => simp [intOf]; omega
    · have hkn : k = n := by omega
      subst hkn
      go_wp2
      go_ret
      refine ⟨ret_bool ?_, rfl⟩
      have := hno.out
      rw [List.take_of_length_le (by have := HL.out; omega)] at this
      simp [this]

def qubits (k a b c : Int) : List Int := [a, b, c].take (arity k).toNat
theorem qubits_length (k a b c : Int) : (qubits k a b c).length = (arity k).toNat := by
  have := arity_bd k
  simp [qubits]; omega

end Go.Proofs.YtbihbegpjicnkaaR
