/-
  Rows of tokens; FormatTokens. Conditions: the slices read as rows of tokens, and each text's length fits an int.
-/
import Derived.Test.YtilkbccpcbelgaaTok2
import Derived.Deep.RegionHeld3
set_option linter.unusedSimpArgs false
set_option linter.unusedVariables false
namespace Go.Proofs.Ytilkbccpcbelgaa
open Go.RowKit
abbrev Tk := Int × ByteArray
def tk0 : Tk := (0, ⟨#[]⟩)
/-- The cells of a row of tokens. -/
def toks (T : List Tk) : List Value := T.flatMap fun t => [.int .i64 t.1, .string t.2]
theorem toks_length (T : List Tk) : (toks T).length = T.length * 2 := by
  unfold toks
  induction T with
  | nil => rfl
  | cons t T ih => simp only [List.flatMap_cons, List.length_append, ih]; simp; omega
theorem toks_cons (t : Tk) (T : List Tk) : toks (t :: T) = .int .i64 t.1 :: .string t.2 :: toks T := rfl
theorem toks_app (T U : List Tk) : toks (T ++ U) = toks T ++ toks U := by simp [toks]
theorem toks_at : ∀ (T : List Tk) (j : Nat), j < T.length → (toks T)[j * 2]? = some (.int .i64 (T.getD j tk0).1) ∧ (toks T)[j * 2 + 1]? = some (.string (T.getD j tk0).2)
  | [], j, h => by simp at h
  | t :: T, 0, h => ⟨rfl, rfl⟩
  | t :: T, j + 1, h => by
    have := toks_at T j (by simpa using h)
    rw [toks_cons]
    rw [show (j + 1) * 2 = j * 2 + 1 + 1 from by omega]
    simpa using this
theorem Rd.tok {w : World} {A : Option Addr} {T : List Tk} (h : Rd w A (toks T)) (hn : 0 < T.length) :
    ∃ g off, A = some ⟨g, off, none⟩ ∧ ∀ j, j < T.length → w.cell? ⟨g, off + j * 2, none⟩ = some (.int .i64 (T.getD j tk0).1) ∧ w.cell? ⟨g, off + j * 2 + 1, none⟩ = some (.string (T.getD j tk0).2) := by
  obtain ⟨g, off, e, hc⟩ := h (by intro h0; have := toks_length T; rw [h0] at this; simp at this; omega)
  exact ⟨g, off, e, fun j hj => ⟨hc _ _ (toks_at T j hj).1, by rw [Nat.add_assoc]; exact hc _ _ (toks_at T j hj).2⟩⟩
theorem tk_mem {T : List Tk} {j : Nat} (h : j < T.length) : T.getD j tk0 ∈ T := by simp [List.getD, h]
def fmtTo (T : List Tk) : Nat → ByteArray
  | 0 => ⟨#[]⟩
  | j + 1 => (if 0 < j ∧ (T.getD j tk0).1 ≠ 2 then fmtTo T j ++ ⟨#[32]⟩ else fmtTo T j) ++ fmtTok (T.getD j tk0).1 (T.getD j tk0).2
/-- The lengths of the first j texts. -/
def sumTo (T : List Tk) : Nat → Nat
  | 0 => 0
  | j + 1 => sumTo T j + (T.getD j tk0).2.size
theorem sumTo_mono (T : List Tk) : ∀ j k, j ≤ k → sumTo T j ≤ sumTo T k
  | j, 0, h => by obtain rfl : j = 0 := by omega
                  exact Nat.le_refl _
  | j, k + 1, h => by
    rcases Nat.lt_or_ge j (k + 1) with h1 | h1
    · have := sumTo_mono T j k (by omega)
      rw [sumTo]; omega
    · obtain rfl : j = k + 1 := by omega
      exact Nat.le_refl _
theorem fmtTok_size (k : Int) (s : ByteArray) : (fmtTok k s).size ≤ s.size + 1 := by
  unfold fmtTok
  split
  · omega
  split
  · exact Nat.zero_le _
  split
  · exact Nat.le_add_left 1 _
  split
  · exact Nat.le_add_left 1 _
  split
  · exact Nat.le_add_left 1 _
  · exact Nat.zero_le _
theorem fmtTo_size (T : List Tk) : ∀ j, (fmtTo T j).size ≤ 2 * j + sumTo T j
  | 0 => by simp [fmtTo, ByteArray.size]
  | j + 1 => by
    have h1 := fmtTo_size T j
    have h2 := fmtTok_size (T.getD j tk0).1 (T.getD j tk0).2
    have h3 : (ByteArray.mk #[32]).size = 1 := rfl
    rw [fmtTo, sumTo]
    split
    · rw [ByteArray.size_append, ByteArray.size_append, h3]; omega
    · rw [ByteArray.size_append]; omega
set_option maxRecDepth 20000 in
set_option maxHeartbeats 800000 in
theorem impl_formatTokens (A : Option Addr) (n c : Nat) (T : List Tk) (w : World) (hA : Rd w A (toks T)) (hl : T.length = n) (hn : n ≤ 1048576) (hs : sumTo T n ≤ 1048576) :
    Calls Try.prog 45 #[.slice A n c] w fun e w' => e = .returned (.string (fmtTo T n)) ∧ Ext w w' := by
  have HL := Lib.hid hl
  have HS := Lib.hid hs
  clear hl hs
  go_enter Try.func45, Try.ntmps45
  go_wp2
  go_loopw [3, 4, 5, 8] (fun s _ _ i wr => ∃ j : Nat, j ≤ n ∧ i = .int .i64 j ∧ s = .string (fmtTo T j) ∧ Ext w wr) (fun _ _ _ i _ => n - (intOf i).toNat)
  case atStart => exact ⟨0, Nat.zero_le _, rfl, rfl, (by repeat (first | exact Ext.refl _ | assumption | refine Ext.alloc ?_ _ | refine Ext.drew ?_ | refine Ext.drewN ?_ _ | refine Ext.trans ?_ (by assumption)))⟩
  case round =>
    obtain ⟨j, hj, rfl, rfl, he⟩ := hrel
    by_cases hlt : j < n
    · obtain ⟨g, off, rfl, hc⟩ := (hA.ext he).tok (by have := HL.out; omega)
      obtain ⟨x0, x1⟩ := hc j (by have := HL.out; omega)
      have HF : Hid (fmtTo T (j + 1) = (if 0 < j ∧ (T.getD j tk0).1 ≠ 2 then fmtTo T j ++ ⟨#[32]⟩ else fmtTo T j) ++ fmtTok (T.getD j tk0).1 (T.getD j tk0).2) := rfl
      have hsz : (T.getD j tk0).2.size ≤ 1048576 := by
        have h1 := sumTo_mono T (j + 1) n (by omega)
        have h2 := HS.out
        rw [sumTo] at h1; omega
      have hfz : (fmtTo T j).size ≤ 3145728 := by
        have h1 := sumTo_mono T j n (by omega)
        have h2 := HS.out
        have h3 := fmtTo_size T j
        omega
      have htz := fmtTok_size (T.getD j tk0).1 (T.getD j tk0).2
      generalize (T.getD j tk0).1 = k at *
      generalize (T.getD j tk0).2 = s at *
      generalize fmtTo T j = f at *
      clear hc
      by_cases h0 : 0 < j
      · by_cases h2 : k = 2
        · subst h2
          have b0 : (0 : Int) < (j : Int) := by omega
          go_wp2_with fail
          refine (impl_formatToken 2 s _ (by omega)).mono ?_
          rintro e w2 ⟨rfl, h2'⟩
          go_wp2
          go_roundw
          case rel => exact ⟨j + 1, by omega, by go_num, by rw [HF.out]; simp, (by repeat (first | exact Ext.refl _ | assumption | refine Ext.alloc ?_ _ | refine Ext.drew ?_ | refine Ext.drewN ?_ _ | refine Ext.trans ?_ (by assumption)))⟩
          case measure => simp [intOf]; omega
        · have b0 : (0 : Int) < (j : Int) := by omega
          have b2 : (k != 2) = true := by simpa using h2
          have H2 := Lib.hid h2
          clear h2
          go_wp2_with fail
          refine (impl_formatToken k s _ (by omega)).mono ?_
          rintro e w2 ⟨rfl, h2'⟩
          go_wp2
          go_roundw
          case rel => exact ⟨j + 1, by omega, by go_num, by rw [HF.out, if_pos ⟨h0, H2.out⟩], (by repeat (first | exact Ext.refl _ | assumption | refine Ext.alloc ?_ _ | refine Ext.drew ?_ | refine Ext.drewN ?_ _ | refine Ext.trans ?_ (by assumption)))⟩
          case measure => simp [intOf]; omega
      · obtain rfl : j = 0 := by omega
        simp only [Nat.zero_mul, Nat.add_zero] at x0 x1
        go_wp2_with fail
        refine (impl_formatToken k s _ (by omega)).mono ?_
        rintro e w2 ⟨rfl, h2'⟩
        go_wp2
        go_roundw
        case rel => exact ⟨0 + 1, by omega, by go_num, by rw [HF.out]; simp, (by repeat (first | exact Ext.refl _ | assumption | refine Ext.alloc ?_ _ | refine Ext.drew ?_ | refine Ext.drewN ?_ _ | refine Ext.trans ?_ (by assumption)))⟩
        case measure => simp [intOf]; omega
    · obtain rfl : j = n := by omega
      go_wp2
      go_ret
      exact ⟨rfl, he⟩
set_option maxRecDepth 20000 in
set_option maxHeartbeats 800000 in
theorem spec_formatTokens (A : Option Addr) (n c : Nat) (T : List Tk) (w : World) (hA : Rd w A (toks T)) (hl : T.length = n) (hn : n ≤ 1048576) (hs : sumTo T n ≤ 1048576) :
    Calls Try.prog 43 #[.slice A n c] w fun e w' => e = .returned (.string (fmtTo T n)) ∧ Ext w w' := by
  have HL := Lib.hid hl
  have HS := Lib.hid hs
  clear hl hs
  go_enter Try.func43, Try.ntmps43
  go_wp2
  go_loopw [3, 4] (fun s i wr => ∃ j : Nat, j ≤ n ∧ i = .int .i64 j ∧ s = .string (fmtTo T j) ∧ Ext w wr) (fun _ i _ => n - (intOf i).toNat)
  case atStart => exact ⟨0, Nat.zero_le _, rfl, rfl, (by repeat (first | exact Ext.refl _ | assumption | refine Ext.alloc ?_ _ | refine Ext.drew ?_ | refine Ext.drewN ?_ _ | refine Ext.trans ?_ (by assumption)))⟩
  case round =>
    obtain ⟨j, hj, rfl, rfl, he⟩ := hrel
    by_cases hlt : j < n
    · obtain ⟨g, off, rfl, hc⟩ := (hA.ext he).tok (by have := HL.out; omega)
      obtain ⟨x0, x1⟩ := hc j (by have := HL.out; omega)
      have HF : Hid (fmtTo T (j + 1) = (if 0 < j ∧ (T.getD j tk0).1 ≠ 2 then fmtTo T j ++ ⟨#[32]⟩ else fmtTo T j) ++ fmtTok (T.getD j tk0).1 (T.getD j tk0).2) := rfl
      have hsz : (T.getD j tk0).2.size ≤ 1048576 := by
        have h1 := sumTo_mono T (j + 1) n (by omega)
        have h2 := HS.out
        rw [sumTo] at h1; omega
      have hfz : (fmtTo T j).size ≤ 3145728 := by
        have h1 := sumTo_mono T j n (by omega)
        have h2 := HS.out
        have h3 := fmtTo_size T j
        omega
      have htz := fmtTok_size (T.getD j tk0).1 (T.getD j tk0).2
      generalize (T.getD j tk0).1 = k at *
      generalize (T.getD j tk0).2 = s at *
      generalize fmtTo T j = f at *
      clear hc
      by_cases h0 : 0 < j
      · by_cases h2 : k = 2
        · subst h2
          have b0 : (0 : Int) < (j : Int) := by omega
          go_wp2_with fail
          refine (spec_formatToken 2 s _ (by omega)).mono ?_
          rintro e w2 ⟨rfl, h2'⟩
          go_wp2
          go_roundw
          case rel => exact ⟨j + 1, by omega, by go_num, by rw [HF.out]; simp, (by repeat (first | exact Ext.refl _ | assumption | refine Ext.alloc ?_ _ | refine Ext.drew ?_ | refine Ext.drewN ?_ _ | refine Ext.trans ?_ (by assumption)))⟩
          case measure => simp [intOf]; omega
        · have b0 : (0 : Int) < (j : Int) := by omega
          have b2 : (k != 2) = true := by simpa using h2
          have H2 := Lib.hid h2
          clear h2
          go_wp2_with fail
          refine (spec_formatToken k s _ (by omega)).mono ?_
          rintro e w2 ⟨rfl, h2'⟩
          go_wp2
          go_roundw
          case rel => exact ⟨j + 1, by omega, by go_num, by rw [HF.out, if_pos ⟨h0, H2.out⟩], (by repeat (first | exact Ext.refl _ | assumption | refine Ext.alloc ?_ _ | refine Ext.drew ?_ | refine Ext.drewN ?_ _ | refine Ext.trans ?_ (by assumption)))⟩
          case measure => simp [intOf]; omega
      · obtain rfl : j = 0 := by omega
        simp only [Nat.zero_mul, Nat.add_zero] at x0 x1
        go_wp2_with fail
        refine (spec_formatToken k s _ (by omega)).mono ?_
        rintro e w2 ⟨rfl, h2'⟩
        go_wp2
        go_roundw
        case rel => exact ⟨0 + 1, by omega, by go_num, by rw [HF.out]; simp, (by repeat (first | exact Ext.refl _ | assumption | refine Ext.alloc ?_ _ | refine Ext.drew ?_ | refine Ext.drewN ?_ _ | refine Ext.trans ?_ (by assumption)))⟩
        case measure => simp [intOf]; omega
    · obtain rfl : j = n := by omega
      go_wp2
      go_ret
      exact ⟨rfl, he⟩
end Go.Proofs.Ytilkbccpcbelgaa
