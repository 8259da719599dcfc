/-
  Contracts of IdentityMatrix. Conditions: one to four qubits.
-/
import Derived.Test.YtkcbkbpjaccpgaaPM2
set_option linter.unusedSimpArgs false
set_option linter.unusedVariables false
namespace Go.Proofs.Ytkcbkbpjaccpgaa
open Go.RowKit
/-- The first i rows of the identity on N places. -/
def idTo (N : Nat) : Nat → List (List Int)
  | 0 => []
  | i + 1 => idTo N i ++ [bas N i]
theorem idTo_length (N : Nat) : ∀ i, (idTo N i).length = i
  | 0 => rfl
  | i + 1 => by rw [idTo, List.length_append, idTo_length N i]; rfl
theorem idTo_row (N : Nat) : ∀ i (j : Nat) (R : List Int), (idTo N i)[j]? = some R → R.length = N * 5
  | 0, j, R, h => by simp [idTo] at h
  | i + 1, j, R, h => by
    rw [idTo] at h
    rcases Nat.lt_or_ge j i with h1 | h1
    · rw [List.getElem?_append_left (by rw [idTo_length]; exact h1)] at h
      exact idTo_row N i j R h
    · rw [List.getElem?_append_right (by rw [idTo_length]; exact h1), idTo_length] at h
      rcases Nat.lt_or_ge (j - i) 1 with h2 | h2
      · rw [show j - i = 0 from by omega] at h
        simp at h
        rw [← h, bas_length]
      · rw [List.getElem?_eq_none (by simpa using h2)] at h; cases h
set_option maxRecDepth 20000 in
set_option maxHeartbeats 1600000 in
theorem impl_ident1 (w : World) : Calls Try.prog 20 #[.int .i64 1] w fun e w' => ∃ G cG vs', e = .returned (.slice G 2 cG) ∧ Own2 w' w.heap.size 36 42 5 (.slice G 2 cG) (idTo 2 2) vs' ∧ Ext w w' := by
  have hn : inB (1 : Int) 1 4 = true := rfl
  obtain ⟨i1, hj1, hy0, hy1, hy2⟩ := info_parts info_sld
  have own0 := own_new (w := w) (g := w.heap.size) (base := w.heap.size) (e := 36) (size := 1) #[] 0 rfl (Nat.le_refl _) (by simp) (by simp)
  go_enter Try.func20, Try.ntmps20
  go_wp2_with (go_at_call 18; refine (impl_in _ _ _ _).mono ?_; rintro e w' ⟨rfl, rfl⟩)
  go_loopw [3, 4] (fun v i wr => ∃ (j : Nat) (vs' : List Value), j ≤ 2 ∧ i = .int .i64 j ∧ Own2 wr w.heap.size 36 42 5 v (idTo 2 j) vs' ∧ Ext w wr) (fun _ i _ => 2 - (intOf i).toNat)
  case atStart => exact ⟨0, [], Nat.zero_le _, rfl, Own2.nil own0, (by repeat (first | exact Ext.refl _ | assumption | refine Ext.alloc ?_ _ | refine Ext.drew ?_ | refine Ext.drewN ?_ _ | refine Ext.trans ?_ (by assumption)))⟩
  case round =>
    clear own0
    obtain ⟨j, vs', hj, rfl, own, he⟩ := hrel
    by_cases hlt : j < 2
    · have HST : Hid (idTo 2 (j + 1) = idTo 2 j ++ [bas 2 j]) := rfl
      have HLN := Lib.hid (idTo_length 2 j)
      generalize idTo 2 j = M at *
      obtain ⟨V, cV, rfl⟩ := own_form own.outer
      have ownV : wr.ownsRow w.heap.size 36 1 (.slice V j cV) j vs' := by have := own.outer; rw [HLN.out] at this; exact this
      rw [HLN.out]
      have hjI : (j : Int) < 2 := by omega
      have zz := he.size
      go_wp2_with (go_at_call 18; refine (impl_in _ _ _ _).mono ?_; rintro e w' ⟨rfl, rfl⟩)
      refine (impl_basis1 j _ hlt).mono ?_
      rintro e w3 ⟨rfl, ownC, h23⟩
      have zz3 := h23.size
      have HB0 : Hid (Blk (w3.alloc (.cells #[.slice (some ⟨wr.heap.size, 0, none⟩) 2 2] 36)) w3.heap.size #[.slice (some ⟨wr.heap.size, 0, none⟩) 2 2]) := Blk.new _ _ _
      have ownV2 := own_ext2 ownV h23
      go_wp2_with (at_builtin; refine wpList_append_new rfl _ _ 24 rfl w.heap.size 36 i1 (.slice none 0 0) 1 24 Try.underlying24 hj1 hy0 hy1 hy2 rfl (by decide) _ j vs' rfl (ownV2.alloc _) w3.heap.size 1 1 #[.slice (some ⟨wr.heap.size, 0, none⟩) 2 2] rfl HB0.out rfl (by decide) (one_sl5 _ _ _) ?c2 ?c3 ?c4 ?_)
      case c2 => unfold maxLen; omega
      case c3 => omega
      case c4 => simp; omega
      intro G4 c4 w4 hw4 hg4 hb4
      have P4 := own.pushR (by decide) (B := some ⟨wr.heap.size, 0, none⟩) (m := 2) (c := 2) (R0 := bas 2 j) (v' := .slice G4 (j + 1) c4) (w1 := w3.alloc (.cells #[.slice (some ⟨wr.heap.size, 0, none⟩) 2 2] 36)) (w2 := w4)
        (own_low5 (ownC.alloc _) zz) (fun b hb => (ownC.lt b hb).1) (h23.alloc _) (by rw [HLN.out]; exact hw4) (by rw [HLN.out]; exact hg4)
      have e4 := own_ext (a := w) ((he.trans h23).alloc _) (ownV2.alloc _) (Nat.le_refl _) hg4
      have HP4 := Lib.hid P4
      clear P4 hw4 hg4 hb4 ownV ownV2 ownC own hj1 hy0 hy1 hy2
      go_wp2
      go_roundw
      case rel => exact ⟨j + 1, _, by omega, by go_num, by rw [HST.out]; exact HP4.out, e4⟩
      case measure => simp [intOf]; omega
    · obtain rfl : j = 2 := by omega
      have HLN := Lib.hid (idTo_length 2 2)
      obtain ⟨V, cV, rfl⟩ := own_form own.outer
      rw [HLN.out] at own ⊢
      go_wp2_with (go_at_call 18; refine (impl_in _ _ _ _).mono ?_; rintro e w' ⟨rfl, rfl⟩)
      go_ret
      exact ⟨V, cV, vs', rfl, own, he⟩
set_option maxRecDepth 20000 in
set_option maxHeartbeats 1600000 in
theorem impl_ident2 (w : World) : Calls Try.prog 20 #[.int .i64 2] w fun e w' => ∃ G cG vs', e = .returned (.slice G 4 cG) ∧ Own2 w' w.heap.size 36 42 5 (.slice G 4 cG) (idTo 4 4) vs' ∧ Ext w w' := by
  have hn : inB (2 : Int) 1 4 = true := rfl
  obtain ⟨i1, hj1, hy0, hy1, hy2⟩ := info_parts info_sld
  have own0 := own_new (w := w) (g := w.heap.size) (base := w.heap.size) (e := 36) (size := 1) #[] 0 rfl (Nat.le_refl _) (by simp) (by simp)
  go_enter Try.func20, Try.ntmps20
  go_wp2_with (go_at_call 18; refine (impl_in _ _ _ _).mono ?_; rintro e w' ⟨rfl, rfl⟩)
  go_loopw [3, 4] (fun v i wr => ∃ (j : Nat) (vs' : List Value), j ≤ 4 ∧ i = .int .i64 j ∧ Own2 wr w.heap.size 36 42 5 v (idTo 4 j) vs' ∧ Ext w wr) (fun _ i _ => 4 - (intOf i).toNat)
  case atStart => exact ⟨0, [], Nat.zero_le _, rfl, Own2.nil own0, (by repeat (first | exact Ext.refl _ | assumption | refine Ext.alloc ?_ _ | refine Ext.drew ?_ | refine Ext.drewN ?_ _ | refine Ext.trans ?_ (by assumption)))⟩
  case round =>
    clear own0
    obtain ⟨j, vs', hj, rfl, own, he⟩ := hrel
    by_cases hlt : j < 4
    · have HST : Hid (idTo 4 (j + 1) = idTo 4 j ++ [bas 4 j]) := rfl
      have HLN := Lib.hid (idTo_length 4 j)
      generalize idTo 4 j = M at *
      obtain ⟨V, cV, rfl⟩ := own_form own.outer
      have ownV : wr.ownsRow w.heap.size 36 1 (.slice V j cV) j vs' := by have := own.outer; rw [HLN.out] at this; exact this
      rw [HLN.out]
      have hjI : (j : Int) < 4 := by omega
      have zz := he.size
      go_wp2_with (go_at_call 18; refine (impl_in _ _ _ _).mono ?_; rintro e w' ⟨rfl, rfl⟩)
      refine (impl_basis2 j _ hlt).mono ?_
      rintro e w3 ⟨rfl, ownC, h23⟩
      have zz3 := h23.size
      have HB0 : Hid (Blk (w3.alloc (.cells #[.slice (some ⟨wr.heap.size, 0, none⟩) 4 4] 36)) w3.heap.size #[.slice (some ⟨wr.heap.size, 0, none⟩) 4 4]) := Blk.new _ _ _
      have ownV2 := own_ext2 ownV h23
      go_wp2_with (at_builtin; refine wpList_append_new rfl _ _ 24 rfl w.heap.size 36 i1 (.slice none 0 0) 1 24 Try.underlying24 hj1 hy0 hy1 hy2 rfl (by decide) _ j vs' rfl (ownV2.alloc _) w3.heap.size 1 1 #[.slice (some ⟨wr.heap.size, 0, none⟩) 4 4] rfl HB0.out rfl (by decide) (one_sl5 _ _ _) ?c2 ?c3 ?c4 ?_)
      case c2 => unfold maxLen; omega
      case c3 => omega
      case c4 => simp; omega
      intro G4 c4 w4 hw4 hg4 hb4
      have P4 := own.pushR (by decide) (B := some ⟨wr.heap.size, 0, none⟩) (m := 4) (c := 4) (R0 := bas 4 j) (v' := .slice G4 (j + 1) c4) (w1 := w3.alloc (.cells #[.slice (some ⟨wr.heap.size, 0, none⟩) 4 4] 36)) (w2 := w4)
        (own_low5 (ownC.alloc _) zz) (fun b hb => (ownC.lt b hb).1) (h23.alloc _) (by rw [HLN.out]; exact hw4) (by rw [HLN.out]; exact hg4)
      have e4 := own_ext (a := w) ((he.trans h23).alloc _) (ownV2.alloc _) (Nat.le_refl _) hg4
      have HP4 := Lib.hid P4
      clear P4 hw4 hg4 hb4 ownV ownV2 ownC own hj1 hy0 hy1 hy2
      go_wp2
      go_roundw
      case rel => exact ⟨j + 1, _, by omega, by go_num, by rw [HST.out]; exact HP4.out, e4⟩
      case measure => simp [intOf]; omega
    · obtain rfl : j = 4 := by omega
      have HLN := Lib.hid (idTo_length 4 4)
      obtain ⟨V, cV, rfl⟩ := own_form own.outer
      rw [HLN.out] at own ⊢
      go_wp2_with (go_at_call 18; refine (impl_in _ _ _ _).mono ?_; rintro e w' ⟨rfl, rfl⟩)
      go_ret
      exact ⟨V, cV, vs', rfl, own, he⟩
set_option maxRecDepth 20000 in
set_option maxHeartbeats 1600000 in
theorem impl_ident3 (w : World) : Calls Try.prog 20 #[.int .i64 3] w fun e w' => ∃ G cG vs', e = .returned (.slice G 8 cG) ∧ Own2 w' w.heap.size 36 42 5 (.slice G 8 cG) (idTo 8 8) vs' ∧ Ext w w' := by
  have hn : inB (3 : Int) 1 4 = true := rfl
  obtain ⟨i1, hj1, hy0, hy1, hy2⟩ := info_parts info_sld
  have own0 := own_new (w := w) (g := w.heap.size) (base := w.heap.size) (e := 36) (size := 1) #[] 0 rfl (Nat.le_refl _) (by simp) (by simp)
  go_enter Try.func20, Try.ntmps20
  go_wp2_with (go_at_call 18; refine (impl_in _ _ _ _).mono ?_; rintro e w' ⟨rfl, rfl⟩)
  go_loopw [3, 4] (fun v i wr => ∃ (j : Nat) (vs' : List Value), j ≤ 8 ∧ i = .int .i64 j ∧ Own2 wr w.heap.size 36 42 5 v (idTo 8 j) vs' ∧ Ext w wr) (fun _ i _ => 8 - (intOf i).toNat)
  case atStart => exact ⟨0, [], Nat.zero_le _, rfl, Own2.nil own0, (by repeat (first | exact Ext.refl _ | assumption | refine Ext.alloc ?_ _ | refine Ext.drew ?_ | refine Ext.drewN ?_ _ | refine Ext.trans ?_ (by assumption)))⟩
  case round =>
    clear own0
    obtain ⟨j, vs', hj, rfl, own, he⟩ := hrel
    by_cases hlt : j < 8
    · have HST : Hid (idTo 8 (j + 1) = idTo 8 j ++ [bas 8 j]) := rfl
      have HLN := Lib.hid (idTo_length 8 j)
      generalize idTo 8 j = M at *
      obtain ⟨V, cV, rfl⟩ := own_form own.outer
      have ownV : wr.ownsRow w.heap.size 36 1 (.slice V j cV) j vs' := by have := own.outer; rw [HLN.out] at this; exact this
      rw [HLN.out]
      have hjI : (j : Int) < 8 := by omega
      have zz := he.size
      go_wp2_with (go_at_call 18; refine (impl_in _ _ _ _).mono ?_; rintro e w' ⟨rfl, rfl⟩)
      refine (impl_basis3 j _ hlt).mono ?_
      rintro e w3 ⟨rfl, ownC, h23⟩
      have zz3 := h23.size
      have HB0 : Hid (Blk (w3.alloc (.cells #[.slice (some ⟨wr.heap.size, 0, none⟩) 8 8] 36)) w3.heap.size #[.slice (some ⟨wr.heap.size, 0, none⟩) 8 8]) := Blk.new _ _ _
      have ownV2 := own_ext2 ownV h23
      go_wp2_with (at_builtin; refine wpList_append_new rfl _ _ 24 rfl w.heap.size 36 i1 (.slice none 0 0) 1 24 Try.underlying24 hj1 hy0 hy1 hy2 rfl (by decide) _ j vs' rfl (ownV2.alloc _) w3.heap.size 1 1 #[.slice (some ⟨wr.heap.size, 0, none⟩) 8 8] rfl HB0.out rfl (by decide) (one_sl5 _ _ _) ?c2 ?c3 ?c4 ?_)
      case c2 => unfold maxLen; omega
      case c3 => omega
      case c4 => simp; omega
      intro G4 c4 w4 hw4 hg4 hb4
      have P4 := own.pushR (by decide) (B := some ⟨wr.heap.size, 0, none⟩) (m := 8) (c := 8) (R0 := bas 8 j) (v' := .slice G4 (j + 1) c4) (w1 := w3.alloc (.cells #[.slice (some ⟨wr.heap.size, 0, none⟩) 8 8] 36)) (w2 := w4)
        (own_low5 (ownC.alloc _) zz) (fun b hb => (ownC.lt b hb).1) (h23.alloc _) (by rw [HLN.out]; exact hw4) (by rw [HLN.out]; exact hg4)
      have e4 := own_ext (a := w) ((he.trans h23).alloc _) (ownV2.alloc _) (Nat.le_refl _) hg4
      have HP4 := Lib.hid P4
      clear P4 hw4 hg4 hb4 ownV ownV2 ownC own hj1 hy0 hy1 hy2
      go_wp2
      go_roundw
      case rel => exact ⟨j + 1, _, by omega, by go_num, by rw [HST.out]; exact HP4.out, e4⟩
      case measure => simp [intOf]; omega
    · obtain rfl : j = 8 := by omega
      have HLN := Lib.hid (idTo_length 8 8)
      obtain ⟨V, cV, rfl⟩ := own_form own.outer
      rw [HLN.out] at own ⊢
      go_wp2_with (go_at_call 18; refine (impl_in _ _ _ _).mono ?_; rintro e w' ⟨rfl, rfl⟩)
      go_ret
      exact ⟨V, cV, vs', rfl, own, he⟩
set_option maxRecDepth 20000 in
set_option maxHeartbeats 1600000 in
theorem impl_ident4 (w : World) : Calls Try.prog 20 #[.int .i64 4] w fun e w' => ∃ G cG vs', e = .returned (.slice G 16 cG) ∧ Own2 w' w.heap.size 36 42 5 (.slice G 16 cG) (idTo 16 16) vs' ∧ Ext w w' := by
  have hn : inB (4 : Int) 1 4 = true := rfl
  obtain ⟨i1, hj1, hy0, hy1, hy2⟩ := info_parts info_sld
  have own0 := own_new (w := w) (g := w.heap.size) (base := w.heap.size) (e := 36) (size := 1) #[] 0 rfl (Nat.le_refl _) (by simp) (by simp)
  go_enter Try.func20, Try.ntmps20
  go_wp2_with (go_at_call 18; refine (impl_in _ _ _ _).mono ?_; rintro e w' ⟨rfl, rfl⟩)
  go_loopw [3, 4] (fun v i wr => ∃ (j : Nat) (vs' : List Value), j ≤ 16 ∧ i = .int .i64 j ∧ Own2 wr w.heap.size 36 42 5 v (idTo 16 j) vs' ∧ Ext w wr) (fun _ i _ => 16 - (intOf i).toNat)
  case atStart => exact ⟨0, [], Nat.zero_le _, rfl, Own2.nil own0, (by repeat (first | exact Ext.refl _ | assumption | refine Ext.alloc ?_ _ | refine Ext.drew ?_ | refine Ext.drewN ?_ _ | refine Ext.trans ?_ (by assumption)))⟩
  case round =>
    clear own0
    obtain ⟨j, vs', hj, rfl, own, he⟩ := hrel
    by_cases hlt : j < 16
    · have HST : Hid (idTo 16 (j + 1) = idTo 16 j ++ [bas 16 j]) := rfl
      have HLN := Lib.hid (idTo_length 16 j)
      generalize idTo 16 j = M at *
      obtain ⟨V, cV, rfl⟩ := own_form own.outer
      have ownV : wr.ownsRow w.heap.size 36 1 (.slice V j cV) j vs' := by have := own.outer; rw [HLN.out] at this; exact this
      rw [HLN.out]
      have hjI : (j : Int) < 16 := by omega
      have zz := he.size
      go_wp2_with (go_at_call 18; refine (impl_in _ _ _ _).mono ?_; rintro e w' ⟨rfl, rfl⟩)
      refine (impl_basis4 j _ hlt).mono ?_
      rintro e w3 ⟨rfl, ownC, h23⟩
      have zz3 := h23.size
      have HB0 : Hid (Blk (w3.alloc (.cells #[.slice (some ⟨wr.heap.size, 0, none⟩) 16 16] 36)) w3.heap.size #[.slice (some ⟨wr.heap.size, 0, none⟩) 16 16]) := Blk.new _ _ _
      have ownV2 := own_ext2 ownV h23
      go_wp2_with (at_builtin; refine wpList_append_new rfl _ _ 24 rfl w.heap.size 36 i1 (.slice none 0 0) 1 24 Try.underlying24 hj1 hy0 hy1 hy2 rfl (by decide) _ j vs' rfl (ownV2.alloc _) w3.heap.size 1 1 #[.slice (some ⟨wr.heap.size, 0, none⟩) 16 16] rfl HB0.out rfl (by decide) (one_sl5 _ _ _) ?c2 ?c3 ?c4 ?_)
      case c2 => unfold maxLen; omega
      case c3 => omega
      case c4 => simp; omega
      intro G4 c4 w4 hw4 hg4 hb4
      have P4 := own.pushR (by decide) (B := some ⟨wr.heap.size, 0, none⟩) (m := 16) (c := 16) (R0 := bas 16 j) (v' := .slice G4 (j + 1) c4) (w1 := w3.alloc (.cells #[.slice (some ⟨wr.heap.size, 0, none⟩) 16 16] 36)) (w2 := w4)
        (own_low5 (ownC.alloc _) zz) (fun b hb => (ownC.lt b hb).1) (h23.alloc _) (by rw [HLN.out]; exact hw4) (by rw [HLN.out]; exact hg4)
      have e4 := own_ext (a := w) ((he.trans h23).alloc _) (ownV2.alloc _) (Nat.le_refl _) hg4
      have HP4 := Lib.hid P4
      clear P4 hw4 hg4 hb4 ownV ownV2 ownC own hj1 hy0 hy1 hy2
      go_wp2
      go_roundw
      case rel => exact ⟨j + 1, _, by omega, by go_num, by rw [HST.out]; exact HP4.out, e4⟩
      case measure => simp [intOf]; omega
    · obtain rfl : j = 16 := by omega
      have HLN := Lib.hid (idTo_length 16 16)
      obtain ⟨V, cV, rfl⟩ := own_form own.outer
      rw [HLN.out] at own ⊢
      go_wp2_with (go_at_call 18; refine (impl_in _ _ _ _).mono ?_; rintro e w' ⟨rfl, rfl⟩)
      go_ret
      exact ⟨V, cV, vs', rfl, own, he⟩
set_option maxRecDepth 20000 in
set_option maxHeartbeats 1600000 in
theorem spec_ident1 (w : World) : Calls Try.prog 15 #[.int .i64 1] w fun e w' => ∃ G cG vs', e = .returned (.slice G 2 cG) ∧ Own2 w' w.heap.size 36 42 5 (.slice G 2 cG) (idTo 2 2) vs' ∧ Ext w w' := by
  have hn : inB (1 : Int) 1 4 = true := rfl
  obtain ⟨i1, hj1, hy0, hy1, hy2⟩ := info_parts info_sld
  have own0 := own_new (w := w) (g := w.heap.size) (base := w.heap.size) (e := 36) (size := 1) #[] 0 rfl (Nat.le_refl _) (by simp) (by simp)
  go_enter Try.func15, Try.ntmps15
  go_wp2_with (go_at_call 13; refine (spec_in _ _ _ _).mono ?_; rintro e w' ⟨rfl, rfl⟩)
  go_loopw [3, 4] (fun v i wr => ∃ (j : Nat) (vs' : List Value), j ≤ 2 ∧ i = .int .i64 j ∧ Own2 wr w.heap.size 36 42 5 v (idTo 2 j) vs' ∧ Ext w wr) (fun _ i _ => 2 - (intOf i).toNat)
  case atStart => exact ⟨0, [], Nat.zero_le _, rfl, Own2.nil own0, (by repeat (first | exact Ext.refl _ | assumption | refine Ext.alloc ?_ _ | refine Ext.drew ?_ | refine Ext.drewN ?_ _ | refine Ext.trans ?_ (by assumption)))⟩
  case round =>
    clear own0
    obtain ⟨j, vs', hj, rfl, own, he⟩ := hrel
    by_cases hlt : j < 2
    · have HST : Hid (idTo 2 (j + 1) = idTo 2 j ++ [bas 2 j]) := rfl
      have HLN := Lib.hid (idTo_length 2 j)
      generalize idTo 2 j = M at *
      obtain ⟨V, cV, rfl⟩ := own_form own.outer
      have ownV : wr.ownsRow w.heap.size 36 1 (.slice V j cV) j vs' := by have := own.outer; rw [HLN.out] at this; exact this
      rw [HLN.out]
      have hjI : (j : Int) < 2 := by omega
      have zz := he.size
      go_wp2_with (go_at_call 13; refine (spec_in _ _ _ _).mono ?_; rintro e w' ⟨rfl, rfl⟩)
      refine (spec_basis1 j _ hlt).mono ?_
      rintro e w3 ⟨rfl, ownC, h23⟩
      have zz3 := h23.size
      have HB0 : Hid (Blk (w3.alloc (.cells #[.slice (some ⟨wr.heap.size, 0, none⟩) 2 2] 36)) w3.heap.size #[.slice (some ⟨wr.heap.size, 0, none⟩) 2 2]) := Blk.new _ _ _
      have ownV2 := own_ext2 ownV h23
      go_wp2_with (at_builtin; refine wpList_append_new rfl _ _ 24 rfl w.heap.size 36 i1 (.slice none 0 0) 1 24 Try.underlying24 hj1 hy0 hy1 hy2 rfl (by decide) _ j vs' rfl (ownV2.alloc _) w3.heap.size 1 1 #[.slice (some ⟨wr.heap.size, 0, none⟩) 2 2] rfl HB0.out rfl (by decide) (one_sl5 _ _ _) ?c2 ?c3 ?c4 ?_)
      case c2 => unfold maxLen; omega
      case c3 => omega
      case c4 => simp; omega
      intro G4 c4 w4 hw4 hg4 hb4
      have P4 := own.pushR (by decide) (B := some ⟨wr.heap.size, 0, none⟩) (m := 2) (c := 2) (R0 := bas 2 j) (v' := .slice G4 (j + 1) c4) (w1 := w3.alloc (.cells #[.slice (some ⟨wr.heap.size, 0, none⟩) 2 2] 36)) (w2 := w4)
        (own_low5 (ownC.alloc _) zz) (fun b hb => (ownC.lt b hb).1) (h23.alloc _) (by rw [HLN.out]; exact hw4) (by rw [HLN.out]; exact hg4)
      have e4 := own_ext (a := w) ((he.trans h23).alloc _) (ownV2.alloc _) (Nat.le_refl _) hg4
      have HP4 := Lib.hid P4
      clear P4 hw4 hg4 hb4 ownV ownV2 ownC own hj1 hy0 hy1 hy2
      go_wp2
      go_roundw
      case rel => exact ⟨j + 1, _, by omega, by go_num, by rw [HST.out]; exact HP4.out, e4⟩
      case measure => simp [intOf]; omega
    · obtain rfl : j = 2 := by omega
      have HLN := Lib.hid (idTo_length 2 2)
      obtain ⟨V, cV, rfl⟩ := own_form own.outer
      rw [HLN.out] at own ⊢
      go_wp2_with (go_at_call 13; refine (spec_in _ _ _ _).mono ?_; rintro e w' ⟨rfl, rfl⟩)
      go_ret
      exact ⟨V, cV, vs', rfl, own, he⟩
set_option maxRecDepth 20000 in
set_option maxHeartbeats 1600000 in
theorem spec_ident2 (w : World) : Calls Try.prog 15 #[.int .i64 2] w fun e w' => ∃ G cG vs', e = .returned (.slice G 4 cG) ∧ Own2 w' w.heap.size 36 42 5 (.slice G 4 cG) (idTo 4 4) vs' ∧ Ext w w' := by
  have hn : inB (2 : Int) 1 4 = true := rfl
  obtain ⟨i1, hj1, hy0, hy1, hy2⟩ := info_parts info_sld
  have own0 := own_new (w := w) (g := w.heap.size) (base := w.heap.size) (e := 36) (size := 1) #[] 0 rfl (Nat.le_refl _) (by simp) (by simp)
  go_enter Try.func15, Try.ntmps15
  go_wp2_with (go_at_call 13; refine (spec_in _ _ _ _).mono ?_; rintro e w' ⟨rfl, rfl⟩)
  go_loopw [3, 4] (fun v i wr => ∃ (j : Nat) (vs' : List Value), j ≤ 4 ∧ i = .int .i64 j ∧ Own2 wr w.heap.size 36 42 5 v (idTo 4 j) vs' ∧ Ext w wr) (fun _ i _ => 4 - (intOf i).toNat)
  case atStart => exact ⟨0, [], Nat.zero_le _, rfl, Own2.nil own0, (by repeat (first | exact Ext.refl _ | assumption | refine Ext.alloc ?_ _ | refine Ext.drew ?_ | refine Ext.drewN ?_ _ | refine Ext.trans ?_ (by assumption)))⟩
  case round =>
    clear own0
    obtain ⟨j, vs', hj, rfl, own, he⟩ := hrel
    by_cases hlt : j < 4
    · have HST : Hid (idTo 4 (j + 1) = idTo 4 j ++ [bas 4 j]) := rfl
      have HLN := Lib.hid (idTo_length 4 j)
      generalize idTo 4 j = M at *
      obtain ⟨V, cV, rfl⟩ := own_form own.outer
      have ownV : wr.ownsRow w.heap.size 36 1 (.slice V j cV) j vs' := by have := own.outer; rw [HLN.out] at this; exact this
      rw [HLN.out]
      have hjI : (j : Int) < 4 := by omega
      have zz := he.size
      go_wp2_with (go_at_call 13; refine (spec_in _ _ _ _).mono ?_; rintro e w' ⟨rfl, rfl⟩)
      refine (spec_basis2 j _ hlt).mono ?_
      rintro e w3 ⟨rfl, ownC, h23⟩
      have zz3 := h23.size
      have HB0 : Hid (Blk (w3.alloc (.cells #[.slice (some ⟨wr.heap.size, 0, none⟩) 4 4] 36)) w3.heap.size #[.slice (some ⟨wr.heap.size, 0, none⟩) 4 4]) := Blk.new _ _ _
      have ownV2 := own_ext2 ownV h23
      go_wp2_with (at_builtin; refine wpList_append_new rfl _ _ 24 rfl w.heap.size 36 i1 (.slice none 0 0) 1 24 Try.underlying24 hj1 hy0 hy1 hy2 rfl (by decide) _ j vs' rfl (ownV2.alloc _) w3.heap.size 1 1 #[.slice (some ⟨wr.heap.size, 0, none⟩) 4 4] rfl HB0.out rfl (by decide) (one_sl5 _ _ _) ?c2 ?c3 ?c4 ?_)
      case c2 => unfold maxLen; omega
      case c3 => omega
      case c4 => simp; omega
      intro G4 c4 w4 hw4 hg4 hb4
      have P4 := own.pushR (by decide) (B := some ⟨wr.heap.size, 0, none⟩) (m := 4) (c := 4) (R0 := bas 4 j) (v' := .slice G4 (j + 1) c4) (w1 := w3.alloc (.cells #[.slice (some ⟨wr.heap.size, 0, none⟩) 4 4] 36)) (w2 := w4)
        (own_low5 (ownC.alloc _) zz) (fun b hb => (ownC.lt b hb).1) (h23.alloc _) (by rw [HLN.out]; exact hw4) (by rw [HLN.out]; exact hg4)
      have e4 := own_ext (a := w) ((he.trans h23).alloc _) (ownV2.alloc _) (Nat.le_refl _) hg4
      have HP4 := Lib.hid P4
      clear P4 hw4 hg4 hb4 ownV ownV2 ownC own hj1 hy0 hy1 hy2
      go_wp2
      go_roundw
      case rel => exact ⟨j + 1, _, by omega, by go_num, by rw [HST.out]; exact HP4.out, e4⟩
      case measure => simp [intOf]; omega
    · obtain rfl : j = 4 := by omega
      have HLN := Lib.hid (idTo_length 4 4)
      obtain ⟨V, cV, rfl⟩ := own_form own.outer
      rw [HLN.out] at own ⊢
      go_wp2_with (go_at_call 13; refine (spec_in _ _ _ _).mono ?_; rintro e w' ⟨rfl, rfl⟩)
      go_ret
      exact ⟨V, cV, vs', rfl, own, he⟩
set_option maxRecDepth 20000 in
set_option maxHeartbeats 1600000 in
theorem spec_ident3 (w : World) : Calls Try.prog 15 #[.int .i64 3] w fun e w' => ∃ G cG vs', e = .returned (.slice G 8 cG) ∧ Own2 w' w.heap.size 36 42 5 (.slice G 8 cG) (idTo 8 8) vs' ∧ Ext w w' := by
  have hn : inB (3 : Int) 1 4 = true := rfl
  obtain ⟨i1, hj1, hy0, hy1, hy2⟩ := info_parts info_sld
  have own0 := own_new (w := w) (g := w.heap.size) (base := w.heap.size) (e := 36) (size := 1) #[] 0 rfl (Nat.le_refl _) (by simp) (by simp)
  go_enter Try.func15, Try.ntmps15
  go_wp2_with (go_at_call 13; refine (spec_in _ _ _ _).mono ?_; rintro e w' ⟨rfl, rfl⟩)
  go_loopw [3, 4] (fun v i wr => ∃ (j : Nat) (vs' : List Value), j ≤ 8 ∧ i = .int .i64 j ∧ Own2 wr w.heap.size 36 42 5 v (idTo 8 j) vs' ∧ Ext w wr) (fun _ i _ => 8 - (intOf i).toNat)
  case atStart => exact ⟨0, [], Nat.zero_le _, rfl, Own2.nil own0, (by repeat (first | exact Ext.refl _ | assumption | refine Ext.alloc ?_ _ | refine Ext.drew ?_ | refine Ext.drewN ?_ _ | refine Ext.trans ?_ (by assumption)))⟩
  case round =>
    clear own0
    obtain ⟨j, vs', hj, rfl, own, he⟩ := hrel
    by_cases hlt : j < 8
    · have HST : Hid (idTo 8 (j + 1) = idTo 8 j ++ [bas 8 j]) := rfl
      have HLN := Lib.hid (idTo_length 8 j)
      generalize idTo 8 j = M at *
      obtain ⟨V, cV, rfl⟩ := own_form own.outer
      have ownV : wr.ownsRow w.heap.size 36 1 (.slice V j cV) j vs' := by have := own.outer; rw [HLN.out] at this; exact this
      rw [HLN.out]
      have hjI : (j : Int) < 8 := by omega
      have zz := he.size
      go_wp2_with (go_at_call 13; refine (spec_in _ _ _ _).mono ?_; rintro e w' ⟨rfl, rfl⟩)
      refine (spec_basis3 j _ hlt).mono ?_
      rintro e w3 ⟨rfl, ownC, h23⟩
      have zz3 := h23.size
      have HB0 : Hid (Blk (w3.alloc (.cells #[.slice (some ⟨wr.heap.size, 0, none⟩) 8 8] 36)) w3.heap.size #[.slice (some ⟨wr.heap.size, 0, none⟩) 8 8]) := Blk.new _ _ _
      have ownV2 := own_ext2 ownV h23
      go_wp2_with (at_builtin; refine wpList_append_new rfl _ _ 24 rfl w.heap.size 36 i1 (.slice none 0 0) 1 24 Try.underlying24 hj1 hy0 hy1 hy2 rfl (by decide) _ j vs' rfl (ownV2.alloc _) w3.heap.size 1 1 #[.slice (some ⟨wr.heap.size, 0, none⟩) 8 8] rfl HB0.out rfl (by decide) (one_sl5 _ _ _) ?c2 ?c3 ?c4 ?_)
      case c2 => unfold maxLen; omega
      case c3 => omega
      case c4 => simp; omega
      intro G4 c4 w4 hw4 hg4 hb4
      have P4 := own.pushR (by decide) (B := some ⟨wr.heap.size, 0, none⟩) (m := 8) (c := 8) (R0 := bas 8 j) (v' := .slice G4 (j + 1) c4) (w1 := w3.alloc (.cells #[.slice (some ⟨wr.heap.size, 0, none⟩) 8 8] 36)) (w2 := w4)
        (own_low5 (ownC.alloc _) zz) (fun b hb => (ownC.lt b hb).1) (h23.alloc _) (by rw [HLN.out]; exact hw4) (by rw [HLN.out]; exact hg4)
      have e4 := own_ext (a := w) ((he.trans h23).alloc _) (ownV2.alloc _) (Nat.le_refl _) hg4
      have HP4 := Lib.hid P4
      clear P4 hw4 hg4 hb4 ownV ownV2 ownC own hj1 hy0 hy1 hy2
      go_wp2
      go_roundw
      case rel => exact ⟨j + 1, _, by omega, by go_num, by rw [HST.out]; exact HP4.out, e4⟩
      case measure => simp [intOf]; omega
    · obtain rfl : j = 8 := by omega
      have HLN := Lib.hid (idTo_length 8 8)
      obtain ⟨V, cV, rfl⟩ := own_form own.outer
      rw [HLN.out] at own ⊢
      go_wp2_with (go_at_call 13; refine (spec_in _ _ _ _).mono ?_; rintro e w' ⟨rfl, rfl⟩)
      go_ret
      exact ⟨V, cV, vs', rfl, own, he⟩
set_option maxRecDepth 20000 in
set_option maxHeartbeats 1600000 in
theorem spec_ident4 (w : World) : Calls Try.prog 15 #[.int .i64 4] w fun e w' => ∃ G cG vs', e = .returned (.slice G 16 cG) ∧ Own2 w' w.heap.size 36 42 5 (.slice G 16 cG) (idTo 16 16) vs' ∧ Ext w w' := by
  have hn : inB (4 : Int) 1 4 = true := rfl
  obtain ⟨i1, hj1, hy0, hy1, hy2⟩ := info_parts info_sld
  have own0 := own_new (w := w) (g := w.heap.size) (base := w.heap.size) (e := 36) (size := 1) #[] 0 rfl (Nat.le_refl _) (by simp) (by simp)
  go_enter Try.func15, Try.ntmps15
  go_wp2_with (go_at_call 13; refine (spec_in _ _ _ _).mono ?_; rintro e w' ⟨rfl, rfl⟩)
  go_loopw [3, 4] (fun v i wr => ∃ (j : Nat) (vs' : List Value), j ≤ 16 ∧ i = .int .i64 j ∧ Own2 wr w.heap.size 36 42 5 v (idTo 16 j) vs' ∧ Ext w wr) (fun _ i _ => 16 - (intOf i).toNat)
  case atStart => exact ⟨0, [], Nat.zero_le _, rfl, Own2.nil own0, (by repeat (first | exact Ext.refl _ | assumption | refine Ext.alloc ?_ _ | refine Ext.drew ?_ | refine Ext.drewN ?_ _ | refine Ext.trans ?_ (by assumption)))⟩
  case round =>
    clear own0
    obtain ⟨j, vs', hj, rfl, own, he⟩ := hrel
    by_cases hlt : j < 16
    · have HST : Hid (idTo 16 (j + 1) = idTo 16 j ++ [bas 16 j]) := rfl
      have HLN := Lib.hid (idTo_length 16 j)
      generalize idTo 16 j = M at *
      obtain ⟨V, cV, rfl⟩ := own_form own.outer
      have ownV : wr.ownsRow w.heap.size 36 1 (.slice V j cV) j vs' := by have := own.outer; rw [HLN.out] at this; exact this
      rw [HLN.out]
      have hjI : (j : Int) < 16 := by omega
      have zz := he.size
      go_wp2_with (go_at_call 13; refine (spec_in _ _ _ _).mono ?_; rintro e w' ⟨rfl, rfl⟩)
      refine (spec_basis4 j _ hlt).mono ?_
      rintro e w3 ⟨rfl, ownC, h23⟩
      have zz3 := h23.size
      have HB0 : Hid (Blk (w3.alloc (.cells #[.slice (some ⟨wr.heap.size, 0, none⟩) 16 16] 36)) w3.heap.size #[.slice (some ⟨wr.heap.size, 0, none⟩) 16 16]) := Blk.new _ _ _
      have ownV2 := own_ext2 ownV h23
      go_wp2_with (at_builtin; refine wpList_append_new rfl _ _ 24 rfl w.heap.size 36 i1 (.slice none 0 0) 1 24 Try.underlying24 hj1 hy0 hy1 hy2 rfl (by decide) _ j vs' rfl (ownV2.alloc _) w3.heap.size 1 1 #[.slice (some ⟨wr.heap.size, 0, none⟩) 16 16] rfl HB0.out rfl (by decide) (one_sl5 _ _ _) ?c2 ?c3 ?c4 ?_)
      case c2 => unfold maxLen; omega
      case c3 => omega
      case c4 => simp; omega
      intro G4 c4 w4 hw4 hg4 hb4
      have P4 := own.pushR (by decide) (B := some ⟨wr.heap.size, 0, none⟩) (m := 16) (c := 16) (R0 := bas 16 j) (v' := .slice G4 (j + 1) c4) (w1 := w3.alloc (.cells #[.slice (some ⟨wr.heap.size, 0, none⟩) 16 16] 36)) (w2 := w4)
        (own_low5 (ownC.alloc _) zz) (fun b hb => (ownC.lt b hb).1) (h23.alloc _) (by rw [HLN.out]; exact hw4) (by rw [HLN.out]; exact hg4)
      have e4 := own_ext (a := w) ((he.trans h23).alloc _) (ownV2.alloc _) (Nat.le_refl _) hg4
      have HP4 := Lib.hid P4
      clear P4 hw4 hg4 hb4 ownV ownV2 ownC own hj1 hy0 hy1 hy2
      go_wp2
      go_roundw
      case rel => exact ⟨j + 1, _, by omega, by go_num, by rw [HST.out]; exact HP4.out, e4⟩
      case measure => simp [intOf]; omega
    · obtain rfl : j = 16 := by omega
      have HLN := Lib.hid (idTo_length 16 16)
      obtain ⟨V, cV, rfl⟩ := own_form own.outer
      rw [HLN.out] at own ⊢
      go_wp2_with (go_at_call 13; refine (spec_in _ _ _ _).mono ?_; rintro e w' ⟨rfl, rfl⟩)
      go_ret
      exact ⟨V, cV, vs', rfl, own, he⟩
theorem impl_ident (m n : Nat) (w : World) (h : (n = 2 ∧ m = 1) ∨ (n = 4 ∧ m = 2) ∨ (n = 8 ∧ m = 3) ∨ (n = 16 ∧ m = 4)) : Calls Try.prog 20 #[.int .i64 m] w fun e w' => ∃ G cG vs', e = .returned (.slice G n cG) ∧ Fr2 w' 5 w.heap.size w'.heap.size G (idTo n n) vs' ∧ Ext w w' := by
  obtain ⟨rfl, rfl⟩ | ⟨rfl, rfl⟩ | ⟨rfl, rfl⟩ | ⟨rfl, rfl⟩ := h
  · exact (impl_ident1 w).mono fun e w' ⟨G, cG, vs', h1, h2, h3⟩ => ⟨G, cG, vs', h1, h2.fr (by decide), h3⟩
  · exact (impl_ident2 w).mono fun e w' ⟨G, cG, vs', h1, h2, h3⟩ => ⟨G, cG, vs', h1, h2.fr (by decide), h3⟩
  · exact (impl_ident3 w).mono fun e w' ⟨G, cG, vs', h1, h2, h3⟩ => ⟨G, cG, vs', h1, h2.fr (by decide), h3⟩
  · exact (impl_ident4 w).mono fun e w' ⟨G, cG, vs', h1, h2, h3⟩ => ⟨G, cG, vs', h1, h2.fr (by decide), h3⟩
theorem spec_ident (m n : Nat) (w : World) (h : (n = 2 ∧ m = 1) ∨ (n = 4 ∧ m = 2) ∨ (n = 8 ∧ m = 3) ∨ (n = 16 ∧ m = 4)) : Calls Try.prog 15 #[.int .i64 m] w fun e w' => ∃ G cG vs', e = .returned (.slice G n cG) ∧ Fr2 w' 5 w.heap.size w'.heap.size G (idTo n n) vs' ∧ Ext w w' := by
  obtain ⟨rfl, rfl⟩ | ⟨rfl, rfl⟩ | ⟨rfl, rfl⟩ | ⟨rfl, rfl⟩ := h
  · exact (spec_ident1 w).mono fun e w' ⟨G, cG, vs', h1, h2, h3⟩ => ⟨G, cG, vs', h1, h2.fr (by decide), h3⟩
  · exact (spec_ident2 w).mono fun e w' ⟨G, cG, vs', h1, h2, h3⟩ => ⟨G, cG, vs', h1, h2.fr (by decide), h3⟩
  · exact (spec_ident3 w).mono fun e w' ⟨G, cG, vs', h1, h2, h3⟩ => ⟨G, cG, vs', h1, h2.fr (by decide), h3⟩
  · exact (spec_ident4 w).mono fun e w' ⟨G, cG, vs', h1, h2, h3⟩ => ⟨G, cG, vs', h1, h2.fr (by decide), h3⟩
end Go.Proofs.Ytkcbkbpjaccpgaa
