/-
  Contracts of FormatToken and the walks of the laws on words and tokens. Conditions: a string's length fits an int.
-/
import Derived.Test.YtinhhhnbdpphmaaTok
set_option linter.unusedSimpArgs false
set_option linter.unusedVariables false
namespace Go.Proofs.Ytinhhhnbdpphmaa
open Go.RowKit

def str (l : List UInt8) : ByteArray := ⟨l.toArray⟩
/-- The text of a token. -/
def fmtTok (k : Int) (s : ByteArray) : ByteArray :=
  if k = 1 ∧ wordB s = true then s else if s.toList.isEmpty = false then ⟨#[]⟩ else if k = 2 then ⟨#[59]⟩ else if k = 3 then ⟨#[123]⟩ else if k = 4 then ⟨#[125]⟩ else ⟨#[]⟩
theorem ret_str {a b : ByteArray} (h : a = b) : Ending.returned (.string a) = .returned (.string b) := by rw [h]

set_option maxHeartbeats 800000 in
theorem impl_formatToken (k : Int) (s : ByteArray) (w : World) (hs : s.size ≤ 9223372036854775806) : Calls Try.prog 38 #[.agg #[.int .i64 k, .string s]] w fun e w' => e = .returned (.string (fmtTok k s)) ∧ Ext w w' := by
  have HF : Hid (fmtTok k s = if k = 1 ∧ wordB s = true then s else if s.toList.isEmpty = false then ⟨#[]⟩ else if k = 2 then ⟨#[59]⟩ else if k = 3 then ⟨#[123]⟩ else if k = 4 then ⟨#[125]⟩ else ⟨#[]⟩) := rfl
  by_cases h1 : k = 1
  · subst h1
    cases hw : wordB s
    all_goals
      go_enter Try.func38, Try.ntmps38
      go_wp2_with (go_at_call 14; refine (impl_validWord _ _ hs).mono ?_; rintro e w' ⟨rfl, rfl⟩)
    all_goals go_ret
    all_goals (refine ⟨ret_str ?_, (by repeat (first | exact Ext.refl _ | assumption | refine Ext.alloc ?_ _ | refine Ext.drew ?_ | refine Ext.drewN ?_ _ | refine Ext.trans ?_ (by assumption)))⟩; rw [HF.out]; simp_all)
  · have hk : (k == 1) = false := by simpa using h1
    go_enter Try.func38, Try.ntmps38
    go_wp2
    all_goals go_ret
    all_goals (refine ⟨ret_str ?_, (by repeat (first | exact Ext.refl _ | assumption | refine Ext.alloc ?_ _ | refine Ext.drew ?_ | refine Ext.drewN ?_ _ | refine Ext.trans ?_ (by assumption)))⟩; rw [HF.out]; simp_all)
set_option maxHeartbeats 800000 in
theorem spec_formatToken (k : Int) (s : ByteArray) (w : World) (hs : s.size ≤ 9223372036854775806) : Calls Try.prog 36 #[.agg #[.int .i64 k, .string s]] w fun e w' => e = .returned (.string (fmtTok k s)) ∧ Ext w w' := by
  have HF : Hid (fmtTok k s = if k = 1 ∧ wordB s = true then s else if s.toList.isEmpty = false then ⟨#[]⟩ else if k = 2 then ⟨#[59]⟩ else if k = 3 then ⟨#[123]⟩ else if k = 4 then ⟨#[125]⟩ else ⟨#[]⟩) := rfl
  by_cases h1 : k = 1
  · subst h1
    cases hw : wordB s
    all_goals
      go_enter Try.func36, Try.ntmps36
      go_wp2_with (first | (go_at_call 13; refine (spec_validWord _ _ hs).mono ?_; rintro e w' ⟨rfl, rfl⟩) | go_in)
    all_goals go_ret
    all_goals (refine ⟨ret_str ?_, (by repeat (first | exact Ext.refl _ | assumption | refine Ext.alloc ?_ _ | refine Ext.drew ?_ | refine Ext.drewN ?_ _ | refine Ext.trans ?_ (by assumption)))⟩; rw [HF.out]; simp_all)
  · have hk : (k == 1) = false := by simpa using h1
    cases hemp : s.toList.isEmpty
    · go_enter Try.func36, Try.ntmps36
      go_wp2
      all_goals go_ret
      all_goals (refine ⟨ret_str ?_, (by repeat (first | exact Ext.refl _ | assumption | refine Ext.alloc ?_ _ | refine Ext.drew ?_ | refine Ext.drewN ?_ _ | refine Ext.trans ?_ (by assumption)))⟩; rw [HF.out]; simp_all)
    · by_cases hin : 2 ≤ k ∧ k ≤ 4
      · obtain rfl | rfl | rfl : k = 2 ∨ k = 3 ∨ k = 4 := by omega
        all_goals
          go_enter Try.func36, Try.ntmps36
          go_wp2
        all_goals go_ret
        all_goals (refine ⟨ret_str ?_, (by repeat (first | exact Ext.refl _ | assumption | refine Ext.alloc ?_ _ | refine Ext.drew ?_ | refine Ext.drewN ?_ _ | refine Ext.trans ?_ (by assumption)))⟩; rw [HF.out]; simp_all)
      · have hb : inB k 2 4 = false := by unfold inB; rw [Bool.and_eq_false_iff]; simp; omega
        have HIN := Lib.hid hin
        clear hin
        go_enter Try.func36, Try.ntmps36
        go_wp2_with (go_at_call 42; refine (spec_in _ _ _ _).mono ?_; rintro e w' ⟨rfl, rfl⟩)
        all_goals go_ret
        all_goals (refine ⟨ret_str ?_, (by repeat (first | exact Ext.refl _ | assumption | refine Ext.alloc ?_ _ | refine Ext.drew ?_ | refine Ext.drewN ?_ _ | refine Ext.trans ?_ (by assumption)))⟩; rw [HF.out]; have := HIN.out; simp [hemp, h1, show ¬ k = 2 by omega, show ¬ k = 3 by omega, show ¬ k = 4 by omega])
theorem laws_toToken (k : Int) (s : ByteArray) (w : World) : Calls Try.prog 37 #[.agg #[.int .i64 k, .string s]] w fun e w' => e = .returned (.agg #[.int .i64 k, .string s]) ∧ Ext w w' := by
  go_enter Try.func37, Try.ntmps37
  go_wp2
  refine bodyPost_ret (v := .agg #[.int .i64 k, .string s]) (by simp [results, Try.results37, go_sem]) rfl ⟨rfl, (by repeat (first | exact Ext.refl _ | assumption | refine Ext.alloc ?_ _ | refine Ext.drew ?_ | refine Ext.drewN ?_ _ | refine Ext.trans ?_ (by assumption)))⟩
def szLeft (left : Int) (n : Nat) : Int := if left - n < 0 then -1 else left - n
theorem szToken_any (k : Int) (s : ByteArray) (left : Int) (w : World) (hs : s.size ≤ 9223372036854775807) (h0 : 0 ≤ left) (h1 : left ≤ 1048576) : Calls Try.prog 35 #[.agg #[.int .i64 k, .string s], .int .i64 left] w fun e w' => e = .returned (.int .i64 (szLeft left s.size)) ∧ Ext w w' := by
  by_cases h : left - s.size < 0
  all_goals
    go_enter Try.func35, Try.ntmps35
    go_wp2
    go_ret
    exact ⟨ret_int (by unfold szLeft; simp [h]; try omega), (by repeat (first | exact Ext.refl _ | assumption | refine Ext.alloc ?_ _ | refine Ext.drew ?_ | refine Ext.drewN ?_ _ | refine Ext.trans ?_ (by assumption)))⟩
theorem walk_FnExactIsValidWord (w : World) (s : ByteArray) (hs : s.size ≤ maxLen) :
    Calls Try.prog 3 #[.string s] w fun e w' => e = .returned (.bool true) ∧ Ext w w' := by
  unfold maxLen at hs
  by_cases hbig : s.size ≤ 1048576
  · have hs2 : s.size ≤ 9223372036854775806 := by omega
    go_enter Try.func3, Try.ntmps3
    go_wp2_with fail
    refine (spec_validWord s _ hs2).mono ?_
    rintro e w1 ⟨rfl, rfl⟩
    go_wp2_with fail
    refine (impl_validWord s _ hs2).mono ?_
    rintro e w2 ⟨rfl, rfl⟩
    go_wp2
    go_ret
    exact ⟨rfl, (by repeat (first | exact Ext.refl _ | assumption | refine Ext.alloc ?_ _ | refine Ext.drew ?_ | refine Ext.drewN ?_ _ | refine Ext.trans ?_ (by assumption)))⟩
  · go_enter Try.func3, Try.ntmps3
    go_wp2
    go_ret
    exact ⟨rfl, (by repeat (first | exact Ext.refl _ | assumption | refine Ext.alloc ?_ _ | refine Ext.drew ?_ | refine Ext.drewN ?_ _ | refine Ext.trans ?_ (by assumption)))⟩
theorem walk_FnExactFormatToken (w : World) (k : Int) (s : ByteArray) (wk : (Lit.int .i64 k).wf = true) (hs : s.size ≤ maxLen) :
    Calls Try.prog 11 #[.agg #[.int .i64 k, .string s]] w fun e w' => e = .returned (.bool true) ∧ Ext w w' := by
  unfold maxLen at hs
  by_cases hbig : (1048576 : Int) - s.size < 0
  · have hz : szLeft 1048576 s.size = -1 := by unfold szLeft; simp [hbig]
    go_enter Try.func11, Try.ntmps11
    go_wp2_with fail
    refine (szToken_any _ _ _ _ (by omega) (by omega) (by omega)).mono ?_
    rintro e w1 ⟨rfl, h1⟩
    go_wp2
    go_ret
    exact ⟨rfl, (by repeat (first | exact Ext.refl _ | assumption | refine Ext.alloc ?_ _ | refine Ext.drew ?_ | refine Ext.drewN ?_ _ | refine Ext.trans ?_ (by assumption)))⟩
  · have hz : szLeft 1048576 s.size = 1048576 - s.size := by unfold szLeft; simp [hbig]
    go_enter Try.func11, Try.ntmps11
    go_wp2_with fail
    refine (szToken_any _ _ _ _ (by omega) (by omega) (by omega)).mono ?_
    rintro e w1 ⟨rfl, h1⟩
    have x := (Blk.new _ _ _).ext h1
    obtain ⟨xc, xf, xz⟩ := x.all
    go_wp2_with fail
    refine (laws_toToken _ _ _).mono ?_
    rintro e w2 ⟨rfl, h2⟩
    clear xc xf xz
    replace x := Blk.to x h2 (by repeat (first | exact Ext.refl _ | assumption | refine Ext.alloc ?_ _ | refine Ext.drew ?_ | refine Ext.drewN ?_ _ | refine Ext.trans ?_ (by assumption)))
    obtain ⟨xc, xf, xz⟩ := x.all
    go_wp2_with fail
    refine (spec_formatToken _ _ _ (by omega)).mono ?_
    rintro e w3 ⟨rfl, h3⟩
    clear xc xf xz
    replace x := Blk.to x h3 (by repeat (first | exact Ext.refl _ | assumption | refine Ext.alloc ?_ _ | refine Ext.drew ?_ | refine Ext.drewN ?_ _ | refine Ext.trans ?_ (by assumption)))
    obtain ⟨xc, xf, xz⟩ := x.all
    go_wp2_with fail
    refine (laws_toToken _ _ _).mono ?_
    rintro e w4 ⟨rfl, h4⟩
    go_wp2_with fail
    refine (impl_formatToken _ _ _ (by omega)).mono ?_
    rintro e w5 ⟨rfl, h5⟩
    go_wp2
    go_ret
    exact ⟨rfl, (by repeat (first | exact Ext.refl _ | assumption | refine Ext.alloc ?_ _ | refine Ext.drew ?_ | refine Ext.drewN ?_ _ | refine Ext.trans ?_ (by assumption)))⟩
end Go.Proofs.Ytinhhhnbdpphmaa
