/-
  Contracts of the functions on words and tokens. Conditions: a string's length fits an int.
-/
import Derived.Test.YtilkbccpcbelgaaGate
import Derived.Deep.QuietTactic
import Derived.BigQuiet
import Derived.WalkLawsBesides
import Derived.WalkSpells
import Derived.Outline
set_option linter.unusedSimpArgs false
set_option linter.unusedVariables false
namespace Go.Proofs.Ytilkbccpcbelgaa
open Go.RowKit

def letB (c : Int) : Bool := decide (97 ≤ c ∧ c ≤ 122) || decide (48 ≤ c ∧ c ≤ 57)
def letU (c : UInt8) : Bool := letB c.toNat
def wordB (s : ByteArray) : Bool := s.data.toList.all letU && decide (1 ≤ s.size ∧ s.size ≤ 8)

theorem impl_letter (c : Int) (w : World) : Calls Try.prog 83 #[.int .u8 c] w fun e w' => e = .returned (.bool (letB c)) ∧ w = w' := by
  have hb : Hid (letB c = (decide (97 ≤ c ∧ c ≤ 122) || decide (48 ≤ c ∧ c ≤ 57))) := rfl
  by_cases h1 : 97 ≤ c <;> by_cases h2 : c ≤ 122 <;> by_cases h3 : 48 ≤ c <;> by_cases h4 : c ≤ 57
  all_goals try (exfalso; omega)
  all_goals
    go_enter Try.func83, Try.ntmps83
    go_wp2
    go_ret
    refine ⟨ret_bool ?_, rfl⟩
    rw [hb.out]
    simp
    try omega
theorem impl_take_all (s : ByteArray) (k : Nat) (h : k < s.size) : (s.data.toList.take (k + 1)).all letU = ((s.data.toList.take k).all letU && letU s[k]) := by
  rw [List.take_succ_eq_append_getElem (by simpa using h)]
  simp
  rfl
set_option maxHeartbeats 400000 in
theorem impl_validWord (s : ByteArray) (w : World) (hs : s.size ≤ 9223372036854775806) : Calls Try.prog 84 #[.string s] w fun e w' => e = .returned (.bool (wordB s)) ∧ w = w' := by
  go_enter Try.func84, Try.ntmps84
  go_wp2
  go_loop [3] (fun i => ∃ k : Nat, k ≤ s.size ∧ i = .int .i64 k ∧ Hid ((s.data.toList.take k).all letU = true)) (fun i => s.size - (intOf i).toNat)
  case atStart => exact ⟨0, Nat.zero_le _, rfl, by show _ = _; simp⟩
  case round =>
    obtain ⟨k, hk, rfl, hall⟩ := hrel
    by_cases hlt : k < s.size
    · obtain ⟨d, hd⟩ : ∃ d, d = letB (s[k].toNat : Int) := ⟨_, rfl⟩
      have hcall := fun W => impl_letter (s[k].toNat : Int) W
      rw [← hd] at hcall
      have HC := Lib.hid hcall
      have HD := Lib.hid hd
      clear hcall hd
      cases d with
      | true =>
        go_wp2_with (go_at_call 83; refine (HC.out _).mono ?_; rintro e w' ⟨rfl, rfl⟩)
        go_round
        case rel => exact ⟨k + 1, by omega, by go_num, by show _ = _; rw [impl_take_all s k hlt, hall.out]; simpa [letU] using HD.out.symm⟩
        case measure => simp [intOf]; omega
      | false =>
        go_wp2_with (go_at_call 83; refine (HC.out _).mono ?_; rintro e w' ⟨rfl, rfl⟩)
        go_ret
        refine ⟨ret_bool ?_, rfl⟩
        have : s.data.toList.all letU = false := by
          rw [List.all_eq_false]
          exact ⟨s[k], by exact List.getElem_mem (l := s.data.toList) (by simpa using hlt), by simpa [letU] using HD.out.symm⟩
        simp [wordB, this]
    · have hkn : k = s.size := by omega
      subst hkn
      go_wp2_with (go_at_call 91; refine (impl_in _ _ _ _).mono ?_; rintro e w' ⟨rfl, rfl⟩)
      go_ret
      refine ⟨ret_bool ?_, rfl⟩
      have := hall.out
      rw [List.take_of_length_le (by simp)] at this
      unfold wordB inB
      rw [this, Bool.eq_iff_iff]
      simp
      omega
theorem spec_letter (c : Int) (w : World) : Calls Try.prog 82 #[.int .u8 c] w fun e w' => e = .returned (.bool (letB c)) ∧ w = w' := by
  have hb : Hid (letB c = (decide (97 ≤ c ∧ c ≤ 122) || decide (48 ≤ c ∧ c ≤ 57))) := rfl
  by_cases h1 : 97 ≤ c <;> by_cases h2 : c ≤ 122 <;> by_cases h3 : 48 ≤ c <;> by_cases h4 : c ≤ 57
  all_goals try (exfalso; omega)
  all_goals
    go_enter Try.func82, Try.ntmps82
    go_wp2
    go_ret
    refine ⟨ret_bool ?_, rfl⟩
    rw [hb.out]
    simp
    try omega
theorem spec_take_all (s : ByteArray) (k : Nat) (h : k < s.size) : (s.data.toList.take (k + 1)).all letU = ((s.data.toList.take k).all letU && letU s[k]) := by
  rw [List.take_succ_eq_append_getElem (by simpa using h)]
  simp
  rfl
set_option maxHeartbeats 400000 in
theorem spec_validWord (s : ByteArray) (w : World) (hs : s.size ≤ 9223372036854775806) : Calls Try.prog 106 #[.string s] w fun e w' => e = .returned (.bool (wordB s)) ∧ w = w' := by
  go_enter Try.func106, Try.ntmps106
  go_wp2
  go_loop [3] (fun i => ∃ k : Nat, k ≤ s.size ∧ i = .int .i64 k ∧ Hid ((s.data.toList.take k).all letU = true)) (fun i => s.size - (intOf i).toNat)
  case atStart => exact ⟨0, Nat.zero_le _, rfl, by show _ = _; simp⟩
  case round =>
    obtain ⟨k, hk, rfl, hall⟩ := hrel
    by_cases hlt : k < s.size
    · obtain ⟨d, hd⟩ : ∃ d, d = letB (s[k].toNat : Int) := ⟨_, rfl⟩
      have hcall := fun W => spec_letter (s[k].toNat : Int) W
      rw [← hd] at hcall
      have HC := Lib.hid hcall
      have HD := Lib.hid hd
      clear hcall hd
      cases d with
      | true =>
        go_wp2_with (go_at_call 82; refine (HC.out _).mono ?_; rintro e w' ⟨rfl, rfl⟩)
        go_round
        case rel => exact ⟨k + 1, by omega, by go_num, by show _ = _; rw [spec_take_all s k hlt, hall.out]; simpa [letU] using HD.out.symm⟩
        case measure => simp [intOf]; omega
      | false =>
        go_wp2_with (go_at_call 82; refine (HC.out _).mono ?_; rintro e w' ⟨rfl, rfl⟩)
        go_ret
        refine ⟨ret_bool ?_, rfl⟩
        have : s.data.toList.all letU = false := by
          rw [List.all_eq_false]
          exact ⟨s[k], by exact List.getElem_mem (l := s.data.toList) (by simpa using hlt), by simpa [letU] using HD.out.symm⟩
        simp [wordB, this]
    · have hkn : k = s.size := by omega
      subst hkn
      go_wp2_with (go_at_call 89; refine (spec_in _ _ _ _).mono ?_; rintro e w' ⟨rfl, rfl⟩)
      go_ret
      refine ⟨ret_bool ?_, rfl⟩
      have := hall.out
      rw [List.take_of_length_le (by simp)] at this
      unfold wordB inB
      rw [this, Bool.eq_iff_iff]
      simp
      omega
end Go.Proofs.Ytilkbccpcbelgaa
