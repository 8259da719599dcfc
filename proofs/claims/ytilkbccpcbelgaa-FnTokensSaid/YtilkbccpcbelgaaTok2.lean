/-
  Contracts of FormatToken and the walks of the laws on words and tokens. Conditions: a string's length fits an int.
-/
import Derived.Test.YtilkbccpcbelgaaTok
set_option linter.unusedSimpArgs false
set_option linter.unusedVariables false
namespace Go.Proofs.Ytilkbccpcbelgaa
open Go.RowKit

def str (l : List UInt8) : ByteArray := ⟨l.toArray⟩
/-- The text of a token. -/
def fmtTok (k : Int) (s : ByteArray) : ByteArray :=
  if k = 1 ∧ wordB s = true then s else if s.toList.isEmpty = false then ⟨#[]⟩ else if k = 2 then ⟨#[59]⟩ else if k = 3 then ⟨#[123]⟩ else if k = 4 then ⟨#[125]⟩ else ⟨#[]⟩
theorem ret_str {a b : ByteArray} (h : a = b) : Ending.returned (.string a) = .returned (.string b) := by rw [h]

set_option maxHeartbeats 800000 in
theorem impl_formatToken (k : Int) (s : ByteArray) (w : World) (hs : s.size ≤ 9223372036854775806) : Calls Try.prog 52 #[.agg #[.int .i64 k, .string s]] w fun e w' => e = .returned (.string (fmtTok k s)) ∧ Ext w w' := by
  have HF : Hid (fmtTok k s = if k = 1 ∧ wordB s = true then s else if s.toList.isEmpty = false then ⟨#[]⟩ else if k = 2 then ⟨#[59]⟩ else if k = 3 then ⟨#[123]⟩ else if k = 4 then ⟨#[125]⟩ else ⟨#[]⟩) := rfl
  by_cases h1 : k = 1
  · subst h1
    cases hw : wordB s
    all_goals
      go_enter Try.func52, Try.ntmps52
      go_wp2_with (go_at_call 84; refine (impl_validWord _ _ hs).mono ?_; rintro e w' ⟨rfl, rfl⟩)
    all_goals go_ret
    all_goals (refine ⟨ret_str ?_, (by repeat (first | exact Ext.refl _ | assumption | refine Ext.alloc ?_ _ | refine Ext.drew ?_ | refine Ext.drewN ?_ _ | refine Ext.trans ?_ (by assumption)))⟩; rw [HF.out]; simp_all)
  · have hk : (k == 1) = false := by simpa using h1
    go_enter Try.func52, Try.ntmps52
    go_wp2
    all_goals go_ret
    all_goals (refine ⟨ret_str ?_, (by repeat (first | exact Ext.refl _ | assumption | refine Ext.alloc ?_ _ | refine Ext.drew ?_ | refine Ext.drewN ?_ _ | refine Ext.trans ?_ (by assumption)))⟩; rw [HF.out]; simp_all)
set_option maxHeartbeats 800000 in
theorem spec_formatToken (k : Int) (s : ByteArray) (w : World) (hs : s.size ≤ 9223372036854775806) : Calls Try.prog 78 #[.agg #[.int .i64 k, .string s]] w fun e w' => e = .returned (.string (fmtTok k s)) ∧ Ext w w' := by
  have HF : Hid (fmtTok k s = if k = 1 ∧ wordB s = true then s else if s.toList.isEmpty = false then ⟨#[]⟩ else if k = 2 then ⟨#[59]⟩ else if k = 3 then ⟨#[123]⟩ else if k = 4 then ⟨#[125]⟩ else ⟨#[]⟩) := rfl
  by_cases h1 : k = 1
  · subst h1
    cases hw : wordB s
    all_goals
      go_enter Try.func78, Try.ntmps78
      go_wp2_with (first | (go_at_call 106; refine (spec_validWord _ _ hs).mono ?_; rintro e w' ⟨rfl, rfl⟩) | go_in)
    all_goals go_ret
    all_goals (refine ⟨ret_str ?_, (by repeat (first | exact Ext.refl _ | assumption | refine Ext.alloc ?_ _ | refine Ext.drew ?_ | refine Ext.drewN ?_ _ | refine Ext.trans ?_ (by assumption)))⟩; rw [HF.out]; simp_all)
  · have hk : (k == 1) = false := by simpa using h1
    cases hemp : s.toList.isEmpty
    · go_enter Try.func78, Try.ntmps78
      go_wp2
      all_goals go_ret
      all_goals (refine ⟨ret_str ?_, (by repeat (first | exact Ext.refl _ | assumption | refine Ext.alloc ?_ _ | refine Ext.drew ?_ | refine Ext.drewN ?_ _ | refine Ext.trans ?_ (by assumption)))⟩; rw [HF.out]; simp_all)
    · by_cases hin : 2 ≤ k ∧ k ≤ 4
      · obtain rfl | rfl | rfl : k = 2 ∨ k = 3 ∨ k = 4 := by omega
        all_goals
          go_enter Try.func78, Try.ntmps78
          go_wp2
        all_goals go_ret
        all_goals (refine ⟨ret_str ?_, (by repeat (first | exact Ext.refl _ | assumption | refine Ext.alloc ?_ _ | refine Ext.drew ?_ | refine Ext.drewN ?_ _ | refine Ext.trans ?_ (by assumption)))⟩; rw [HF.out]; simp_all)
      · have hb : inB k 2 4 = false := by unfold inB; rw [Bool.and_eq_false_iff]; simp; omega
        have HIN := Lib.hid hin
        clear hin
        go_enter Try.func78, Try.ntmps78
        go_wp2_with (go_at_call 89; refine (spec_in _ _ _ _).mono ?_; rintro e w' ⟨rfl, rfl⟩)
        all_goals go_ret
        all_goals (refine ⟨ret_str ?_, (by repeat (first | exact Ext.refl _ | assumption | refine Ext.alloc ?_ _ | refine Ext.drew ?_ | refine Ext.drewN ?_ _ | refine Ext.trans ?_ (by assumption)))⟩; rw [HF.out]; have := HIN.out; simp [hemp, h1, show ¬ k = 2 by omega, show ¬ k = 3 by omega, show ¬ k = 4 by omega])
theorem laws_toToken (k : Int) (s : ByteArray) (w : World) : Calls Try.prog 79 #[.agg #[.int .i64 k, .string s]] w fun e w' => e = .returned (.agg #[.int .i64 k, .string s]) ∧ Ext w w' := by
  go_enter Try.func79, Try.ntmps79
  go_wp2
  refine bodyPost_ret (v := .agg #[.int .i64 k, .string s]) (by simp [results, Try.results79, go_sem]) rfl ⟨rfl, (by repeat (first | exact Ext.refl _ | assumption | refine Ext.alloc ?_ _ | refine Ext.drew ?_ | refine Ext.drewN ?_ _ | refine Ext.trans ?_ (by assumption)))⟩
def szLeft (left : Int) (n : Nat) : Int := if left - n < 0 then -1 else left - n
theorem szToken_any (k : Int) (s : ByteArray) (left : Int) (w : World) (hs : s.size ≤ 9223372036854775807) (h0 : 0 ≤ left) (h1 : left ≤ 1048576) : Calls Try.prog 77 #[.agg #[.int .i64 k, .string s], .int .i64 left] w fun e w' => e = .returned (.int .i64 (szLeft left s.size)) ∧ Ext w w' := by
  by_cases h : left - s.size < 0
  all_goals
    go_enter Try.func77, Try.ntmps77
    go_wp2
    go_ret
    exact ⟨ret_int (by unfold szLeft; simp [h]; try omega), (by repeat (first | exact Ext.refl _ | assumption | refine Ext.alloc ?_ _ | refine Ext.drew ?_ | refine Ext.drewN ?_ _ | refine Ext.trans ?_ (by assumption)))⟩
end Go.Proofs.Ytilkbccpcbelgaa
