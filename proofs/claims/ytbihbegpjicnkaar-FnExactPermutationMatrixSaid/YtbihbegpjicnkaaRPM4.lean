/-
  Contracts of PermutationMatrix. Conditions: the slice reads as a list.
-/
import Derived.Test.YtbihbegpjicnkaaRPM3
set_option linter.unusedSimpArgs false
set_option linter.unusedVariables false
namespace Go.Proofs.YtbihbegpjicnkaaR
open Go.RowKit
theorem pixTo_lt2 (p : List Int) (i : Nat) (hp : isPerm p = true) : ∀ j, j ≤ p.length → pixTo p i j < 2 ^ p.length
  | 0, _ => by simp only [pixTo]; exact Nat.two_pow_pos _
  | j + 1, hj => by
    obtain ⟨v, hv, hvn⟩ := perm_at hp (j := j) (by omega)
    have ih := pixTo_lt2 p i hp j (by omega)
    rw [pixTo]
    apply Nat.or_lt_two_pow ih
    rw [← hv]
    have h1 : i / 2 ^ j % 2 ≤ 1 := by have := Nat.mod_lt (i / 2 ^ j) (show 0 < 2 by omega); omega
    have h2 : i / 2 ^ j % 2 * 2 ^ v ≤ 1 * 2 ^ v := Nat.mul_le_mul_right _ h1
    have h3 : 2 ^ v < 2 ^ p.length := Nat.pow_lt_pow_right (by omega) (by omega)
    simp only [Int.toNat_natCast]
    omega
theorem pix_lt2 (p : List Int) (i : Int) (hp : isPerm p = true) : pix p i < 2 ^ p.length := by
  unfold pix
  split
  · exact pixTo_lt2 p _ hp _ (Nat.le_refl _)
  · exact Nat.two_pow_pos _
set_option maxRecDepth 20000 in
set_option maxHeartbeats 1600000 in
theorem impl_pmat1 (A : Option Addr) (cA : Nat) (p : List Int) (w : World) (hA : Rd w A (ints p)) (hl : p.length = 1) (hcA : 1 ≤ cA) (hp : isPerm p = true) :
    Calls Try.prog 7 #[.slice A 1 cA] w fun e w' => ∃ G cG vs', e = .returned (.slice G 2 cG) ∧ Own2 w' w.heap.size 38 52 5 (.slice G 2 cG) (flipTo (basTo p 2 2) 2 2) vs' ∧ Ext w w' := by
  have hcp := fun W (hW : Ext w W) => impl_isPerm A 1 cA p W (hA.ext hW) hl (by omega)
  rw [hp] at hcp
  have HP := Lib.hid hcp
  have HX := Lib.hid (fun (i : Nat) W (hW : Ext w W) => impl_pix A 1 cA p (i : Int) W (hA.ext hW) hl (by omega) hcA)
  have HPX : Hid (∀ i : Nat, pix p (i : Int) < 2) := by show ∀ i : Nat, _; intro i; have := pix_lt2 p (i : Int) hp; rw [hl] at this; exact this
  clear hcp hl hp
  obtain ⟨i1, hj1, hy0, hy1, hy2⟩ := info_parts info_sld
  go_enter Try.func7, Try.ntmps7
  go_wp2_with fail
  refine (HP.out _ (by repeat (first | exact Ext.refl _ | assumption | refine Ext.alloc ?_ _ | refine Ext.drew ?_ | refine Ext.drewN ?_ _ | refine Ext.trans ?_ (by assumption)))).mono ?_
  rintro e w1 ⟨rfl, h1⟩
  have h01 : Ext w w1 := (by repeat (first | exact Ext.refl _ | assumption | refine Ext.alloc ?_ _ | refine Ext.drew ?_ | refine Ext.drewN ?_ _ | refine Ext.trans ?_ (by assumption)))
  have own0 := own_new (w := w1) (g := w1.heap.size) (base := w1.heap.size) (e := 38) (size := 1) #[] 0 rfl (Nat.le_refl _) (by simp) (by simp)
  clear h1
  go_wp2
  go_loopw [3, 4] (fun v i wr => ∃ (j : Nat) (vs' : List Value), j ≤ 2 ∧ i = .int .i64 j ∧ Own2 wr w1.heap.size 38 52 5 v (basTo p 2 j) vs' ∧ Ext w1 wr) (fun _ i _ => 2 - (intOf i).toNat)
  case atStart => exact ⟨0, [], Nat.zero_le _, rfl, Own2.nil own0, (by repeat (first | exact Ext.refl _ | assumption | refine Ext.alloc ?_ _ | refine Ext.drew ?_ | refine Ext.drewN ?_ _ | refine Ext.trans ?_ (by assumption)))⟩
  case round =>
    clear own0
    obtain ⟨j, vs', hj, rfl, own, he⟩ := hrel
    have h0r : Ext w wr := h01.trans he
    by_cases hlt : j < 2
    · have HST : Hid (basTo p 2 (j + 1) = basTo p 2 j ++ [bas 2 (pix p (j : Int))]) := rfl
      have HLN := Lib.hid (basTo_length p 2 j)
      have hpx := HPX.out j
      generalize basTo p 2 j = M at *
      obtain ⟨V, cV, rfl⟩ := own_form own.outer
      have ownV : wr.ownsRow w1.heap.size 38 1 (.slice V j cV) j vs' := by have := own.outer; rw [HLN.out] at this; exact this
      rw [HLN.out]
      have hjI : (j : Int) < 2 := by omega
      have zz := he.size
      go_wp2_with fail
      refine (HX.out j _ h0r).mono ?_
      rintro e w2 ⟨rfl, h2⟩
      go_wp2_with fail
      refine (impl_basis1 (pix p (j : Int)) _ hpx).mono ?_
      rintro e w3 ⟨rfl, ownC, h3⟩
      have h23 : Ext wr w3 := h2.trans h3
      have zz3 := h23.size
      have zz2 : w1.heap.size ≤ w2.heap.size := Nat.le_trans zz (h2).size
      have HB0 : Hid (Blk (w3.alloc (.cells #[.slice (some ⟨w2.heap.size, 0, none⟩) 2 2] 38)) w3.heap.size #[.slice (some ⟨w2.heap.size, 0, none⟩) 2 2]) := Blk.new _ _ _
      have ownV2 := own_ext2 ownV h23
      go_wp2_with (at_builtin; refine wpList_append_new rfl _ _ 23 rfl w1.heap.size 38 i1 (.slice none 0 0) 1 24 Try.underlying23 hj1 hy0 hy1 hy2 rfl (by decide) _ j vs' rfl (ownV2.alloc _) w3.heap.size 1 1 #[.slice (some ⟨w2.heap.size, 0, none⟩) 2 2] rfl HB0.out rfl (by decide) (one_sl5 _ _ _) ?c2 ?c3 ?c4 ?_)
      case c2 => unfold maxLen; omega
      case c3 => omega
      case c4 => simp; omega
      intro G4 c4 w4 hw4 hg4 hb4
      have P4 := own.pushR (by decide) (B := some ⟨w2.heap.size, 0, none⟩) (m := 2) (c := 2) (R0 := bas 2 (pix p (j : Int))) (v' := .slice G4 (j + 1) c4) (w1 := w3.alloc (.cells #[.slice (some ⟨w2.heap.size, 0, none⟩) 2 2] 38)) (w2 := w4)
        (own_low5 (ownC.alloc _) zz2) (fun b hb => Nat.le_trans (h2).size (ownC.lt b hb).1) (h23.alloc _) (by rw [HLN.out]; exact hw4) (by rw [HLN.out]; exact hg4)
      have e4 := own_ext (a := w1) ((he.trans h23).alloc _) (ownV2.alloc _) (Nat.le_refl _) hg4
      have HP4 := Lib.hid P4
      clear P4 hw4 hg4 hb4 ownV ownV2 ownC own hj1 hy0 hy1 hy2
      go_wp2
      go_roundw
      case rel => exact ⟨j + 1, _, by omega, by go_num, by rw [HST.out]; exact HP4.out, e4⟩
      case measure => simp [intOf]; omega
    · obtain rfl : j = 2 := by omega
      have HLN := Lib.hid (basTo_length p 2 2)
      obtain ⟨V, cV, rfl⟩ := own_form own.outer
      rw [HLN.out] at own ⊢
      have rV := (own.fr (by decide)).rd
      go_wp2_with fail
      refine (impl_cols V 2 cV (basTo p 2 2) vs' _ rV ⟨basTo_length _ _ _, basTo_row _ _ _⟩ (by omega)).mono ?_
      rintro e w2 ⟨G, cG, vs2, rfl, ownG, h2⟩
      have zz2 : w.heap.size ≤ wr.heap.size := h0r.size
      go_wp2
      go_ret
      exact ⟨G, cG, vs2, rfl, ownG.low zz2, h0r.trans h2⟩
set_option maxRecDepth 20000 in
set_option maxHeartbeats 1600000 in
theorem impl_pmat2 (A : Option Addr) (cA : Nat) (p : List Int) (w : World) (hA : Rd w A (ints p)) (hl : p.length = 2) (hcA : 2 ≤ cA) (hp : isPerm p = true) :
    Calls Try.prog 7 #[.slice A 2 cA] w fun e w' => ∃ G cG vs', e = .returned (.slice G 4 cG) ∧ Own2 w' w.heap.size 38 52 5 (.slice G 4 cG) (flipTo (basTo p 4 4) 4 4) vs' ∧ Ext w w' := by
  have hcp := fun W (hW : Ext w W) => impl_isPerm A 2 cA p W (hA.ext hW) hl (by omega)
  rw [hp] at hcp
  have HP := Lib.hid hcp
  have HX := Lib.hid (fun (i : Nat) W (hW : Ext w W) => impl_pix A 2 cA p (i : Int) W (hA.ext hW) hl (by omega) hcA)
  have HPX : Hid (∀ i : Nat, pix p (i : Int) < 4) := by show ∀ i : Nat, _; intro i; have := pix_lt2 p (i : Int) hp; rw [hl] at this; exact this
  clear hcp hl hp
  obtain ⟨i1, hj1, hy0, hy1, hy2⟩ := info_parts info_sld
  go_enter Try.func7, Try.ntmps7
  go_wp2_with fail
  refine (HP.out _ (by repeat (first | exact Ext.refl _ | assumption | refine Ext.alloc ?_ _ | refine Ext.drew ?_ | refine Ext.drewN ?_ _ | refine Ext.trans ?_ (by assumption)))).mono ?_
  rintro e w1 ⟨rfl, h1⟩
  have h01 : Ext w w1 := (by repeat (first | exact Ext.refl _ | assumption | refine Ext.alloc ?_ _ | refine Ext.drew ?_ | refine Ext.drewN ?_ _ | refine Ext.trans ?_ (by assumption)))
  have own0 := own_new (w := w1) (g := w1.heap.size) (base := w1.heap.size) (e := 38) (size := 1) #[] 0 rfl (Nat.le_refl _) (by simp) (by simp)
  clear h1
  go_wp2
  go_loopw [3, 4] (fun v i wr => ∃ (j : Nat) (vs' : List Value), j ≤ 4 ∧ i = .int .i64 j ∧ Own2 wr w1.heap.size 38 52 5 v (basTo p 4 j) vs' ∧ Ext w1 wr) (fun _ i _ => 4 - (intOf i).toNat)
  case atStart => exact ⟨0, [], Nat.zero_le _, rfl, Own2.nil own0, (by repeat (first | exact Ext.refl _ | assumption | refine Ext.alloc ?_ _ | refine Ext.drew ?_ | refine Ext.drewN ?_ _ | refine Ext.trans ?_ (by assumption)))⟩
  case round =>
    clear own0
    obtain ⟨j, vs', hj, rfl, own, he⟩ := hrel
    have h0r : Ext w wr := h01.trans he
    by_cases hlt : j < 4
    · have HST : Hid (basTo p 4 (j + 1) = basTo p 4 j ++ [bas 4 (pix p (j : Int))]) := rfl
      have HLN := Lib.hid (basTo_length p 4 j)
      have hpx := HPX.out j
      generalize basTo p 4 j = M at *
      obtain ⟨V, cV, rfl⟩ := own_form own.outer
      have ownV : wr.ownsRow w1.heap.size 38 1 (.slice V j cV) j vs' := by have := own.outer; rw [HLN.out] at this; exact this
      rw [HLN.out]
      have hjI : (j : Int) < 4 := by omega
      have zz := he.size
      go_wp2_with fail
      refine (HX.out j _ h0r).mono ?_
      rintro e w2 ⟨rfl, h2⟩
      go_wp2_with fail
      refine (impl_basis2 (pix p (j : Int)) _ hpx).mono ?_
      rintro e w3 ⟨rfl, ownC, h3⟩
      have h23 : Ext wr w3 := h2.trans h3
      have zz3 := h23.size
      have zz2 : w1.heap.size ≤ w2.heap.size := Nat.le_trans zz (h2).size
      have HB0 : Hid (Blk (w3.alloc (.cells #[.slice (some ⟨w2.heap.size, 0, none⟩) 4 4] 38)) w3.heap.size #[.slice (some ⟨w2.heap.size, 0, none⟩) 4 4]) := Blk.new _ _ _
      have ownV2 := own_ext2 ownV h23
      go_wp2_with (at_builtin; refine wpList_append_new rfl _ _ 23 rfl w1.heap.size 38 i1 (.slice none 0 0) 1 24 Try.underlying23 hj1 hy0 hy1 hy2 rfl (by decide) _ j vs' rfl (ownV2.alloc _) w3.heap.size 1 1 #[.slice (some ⟨w2.heap.size, 0, none⟩) 4 4] rfl HB0.out rfl (by decide) (one_sl5 _ _ _) ?c2 ?c3 ?c4 ?_)
      case c2 => unfold maxLen; omega
      case c3 => omega
      case c4 => simp; omega
      intro G4 c4 w4 hw4 hg4 hb4
      have P4 := own.pushR (by decide) (B := some ⟨w2.heap.size, 0, none⟩) (m := 4) (c := 4) (R0 := bas 4 (pix p (j : Int))) (v' := .slice G4 (j + 1) c4) (w1 := w3.alloc (.cells #[.slice (some ⟨w2.heap.size, 0, none⟩) 4 4] 38)) (w2 := w4)
        (own_low5 (ownC.alloc _) zz2) (fun b hb => Nat.le_trans (h2).size (ownC.lt b hb).1) (h23.alloc _) (by rw [HLN.out]; exact hw4) (by rw [HLN.out]; exact hg4)
      have e4 := own_ext (a := w1) ((he.trans h23).alloc _) (ownV2.alloc _) (Nat.le_refl _) hg4
      have HP4 := Lib.hid P4
      clear P4 hw4 hg4 hb4 ownV ownV2 ownC own hj1 hy0 hy1 hy2
      go_wp2
      go_roundw
      case rel => exact ⟨j + 1, _, by omega, by go_num, by rw [HST.out]; exact HP4.out, e4⟩
      case measure => simp [intOf]; omega
    · obtain rfl : j = 4 := by omega
      have HLN := Lib.hid (basTo_length p 4 4)
      obtain ⟨V, cV, rfl⟩ := own_form own.outer
      rw [HLN.out] at own ⊢
      have rV := (own.fr (by decide)).rd
      go_wp2_with fail
      refine (impl_cols V 4 cV (basTo p 4 4) vs' _ rV ⟨basTo_length _ _ _, basTo_row _ _ _⟩ (by omega)).mono ?_
      rintro e w2 ⟨G, cG, vs2, rfl, ownG, h2⟩
      have zz2 : w.heap.size ≤ wr.heap.size := h0r.size
      go_wp2
      go_ret
      exact ⟨G, cG, vs2, rfl, ownG.low zz2, h0r.trans h2⟩
set_option maxRecDepth 20000 in
set_option maxHeartbeats 1600000 in
theorem impl_pmat3 (A : Option Addr) (cA : Nat) (p : List Int) (w : World) (hA : Rd w A (ints p)) (hl : p.length = 3) (hcA : 3 ≤ cA) (hp : isPerm p = true) :
    Calls Try.prog 7 #[.slice A 3 cA] w fun e w' => ∃ G cG vs', e = .returned (.slice G 8 cG) ∧ Own2 w' w.heap.size 38 52 5 (.slice G 8 cG) (flipTo (basTo p 8 8) 8 8) vs' ∧ Ext w w' := by
  have hcp := fun W (hW : Ext w W) => impl_isPerm A 3 cA p W (hA.ext hW) hl (by omega)
  rw [hp] at hcp
  have HP := Lib.hid hcp
  have HX := Lib.hid (fun (i : Nat) W (hW : Ext w W) => impl_pix A 3 cA p (i : Int) W (hA.ext hW) hl (by omega) hcA)
  have HPX : Hid (∀ i : Nat, pix p (i : Int) < 8) := by show ∀ i : Nat, _; intro i; have := pix_lt2 p (i : Int) hp; rw [hl] at this; exact this
  clear hcp hl hp
  obtain ⟨i1, hj1, hy0, hy1, hy2⟩ := info_parts info_sld
  go_enter Try.func7, Try.ntmps7
  go_wp2_with fail
  refine (HP.out _ (by repeat (first | exact Ext.refl _ | assumption | refine Ext.alloc ?_ _ | refine Ext.drew ?_ | refine Ext.drewN ?_ _ | refine Ext.trans ?_ (by assumption)))).mono ?_
  rintro e w1 ⟨rfl, h1⟩
  have h01 : Ext w w1 := (by repeat (first | exact Ext.refl _ | assumption | refine Ext.alloc ?_ _ | refine Ext.drew ?_ | refine Ext.drewN ?_ _ | refine Ext.trans ?_ (by assumption)))
  have own0 := own_new (w := w1) (g := w1.heap.size) (base := w1.heap.size) (e := 38) (size := 1) #[] 0 rfl (Nat.le_refl _) (by simp) (by simp)
  clear h1
  go_wp2
  go_loopw [3, 4] (fun v i wr => ∃ (j : Nat) (vs' : List Value), j ≤ 8 ∧ i = .int .i64 j ∧ Own2 wr w1.heap.size 38 52 5 v (basTo p 8 j) vs' ∧ Ext w1 wr) (fun _ i _ => 8 - (intOf i).toNat)
  case atStart => exact ⟨0, [], Nat.zero_le _, rfl, Own2.nil own0, (by repeat (first | exact Ext.refl _ | assumption | refine Ext.alloc ?_ _ | refine Ext.drew ?_ | refine Ext.drewN ?_ _ | refine Ext.trans ?_ (by assumption)))⟩
  case round =>
    clear own0
    obtain ⟨j, vs', hj, rfl, own, he⟩ := hrel
    have h0r : Ext w wr := h01.trans he
    by_cases hlt : j < 8
    · have HST : Hid (basTo p 8 (j + 1) = basTo p 8 j ++ [bas 8 (pix p (j : Int))]) := rfl
      have HLN := Lib.hid (basTo_length p 8 j)
      have hpx := HPX.out j
      generalize basTo p 8 j = M at *
      obtain ⟨V, cV, rfl⟩ := own_form own.outer
      have ownV : wr.ownsRow w1.heap.size 38 1 (.slice V j cV) j vs' := by have := own.outer; rw [HLN.out] at this; exact this
      rw [HLN.out]
      have hjI : (j : Int) < 8 := by omega
      have zz := he.size
      go_wp2_with fail
      refine (HX.out j _ h0r).mono ?_
      rintro e w2 ⟨rfl, h2⟩
      go_wp2_with fail
      refine (impl_basis3 (pix p (j : Int)) _ hpx).mono ?_
      rintro e w3 ⟨rfl, ownC, h3⟩
      have h23 : Ext wr w3 := h2.trans h3
      have zz3 := h23.size
      have zz2 : w1.heap.size ≤ w2.heap.size := Nat.le_trans zz (h2).size
      have HB0 : Hid (Blk (w3.alloc (.cells #[.slice (some ⟨w2.heap.size, 0, none⟩) 8 8] 38)) w3.heap.size #[.slice (some ⟨w2.heap.size, 0, none⟩) 8 8]) := Blk.new _ _ _
      have ownV2 := own_ext2 ownV h23
      go_wp2_with (at_builtin; refine wpList_append_new rfl _ _ 23 rfl w1.heap.size 38 i1 (.slice none 0 0) 1 24 Try.underlying23 hj1 hy0 hy1 hy2 rfl (by decide) _ j vs' rfl (ownV2.alloc _) w3.heap.size 1 1 #[.slice (some ⟨w2.heap.size, 0, none⟩) 8 8] rfl HB0.out rfl (by decide) (one_sl5 _ _ _) ?c2 ?c3 ?c4 ?_)
      case c2 => unfold maxLen; omega
      case c3 => omega
      case c4 => simp; omega
      intro G4 c4 w4 hw4 hg4 hb4
      have P4 := own.pushR (by decide) (B := some ⟨w2.heap.size, 0, none⟩) (m := 8) (c := 8) (R0 := bas 8 (pix p (j : Int))) (v' := .slice G4 (j + 1) c4) (w1 := w3.alloc (.cells #[.slice (some ⟨w2.heap.size, 0, none⟩) 8 8] 38)) (w2 := w4)
        (own_low5 (ownC.alloc _) zz2) (fun b hb => Nat.le_trans (h2).size (ownC.lt b hb).1) (h23.alloc _) (by rw [HLN.out]; exact hw4) (by rw [HLN.out]; exact hg4)
      have e4 := own_ext (a := w1) ((he.trans h23).alloc _) (ownV2.alloc _) (Nat.le_refl _) hg4
      have HP4 := Lib.hid P4
      clear P4 hw4 hg4 hb4 ownV ownV2 ownC own hj1 hy0 hy1 hy2
      go_wp2
      go_roundw
      case rel => exact ⟨j + 1, _, by omega, by go_num, by rw [HST.out]; exact HP4.out, e4⟩
      case measure => simp [intOf]; omega
    · obtain rfl : j = 8 := by omega
      have HLN := Lib.hid (basTo_length p 8 8)
      obtain ⟨V, cV, rfl⟩ := own_form own.outer
      rw [HLN.out] at own ⊢
      have rV := (own.fr (by decide)).rd
      go_wp2_with fail
      refine (impl_cols V 8 cV (basTo p 8 8) vs' _ rV ⟨basTo_length _ _ _, basTo_row _ _ _⟩ (by omega)).mono ?_
      rintro e w2 ⟨G, cG, vs2, rfl, ownG, h2⟩
      have zz2 : w.heap.size ≤ wr.heap.size := h0r.size
      go_wp2
      go_ret
      exact ⟨G, cG, vs2, rfl, ownG.low zz2, h0r.trans h2⟩
set_option maxRecDepth 20000 in
set_option maxHeartbeats 1600000 in
theorem impl_pmat4 (A : Option Addr) (cA : Nat) (p : List Int) (w : World) (hA : Rd w A (ints p)) (hl : p.length = 4) (hcA : 4 ≤ cA) (hp : isPerm p = true) :
    Calls Try.prog 7 #[.slice A 4 cA] w fun e w' => ∃ G cG vs', e = .returned (.slice G 16 cG) ∧ Own2 w' w.heap.size 38 52 5 (.slice G 16 cG) (flipTo (basTo p 16 16) 16 16) vs' ∧ Ext w w' := by
  have hcp := fun W (hW : Ext w W) => impl_isPerm A 4 cA p W (hA.ext hW) hl (by omega)
  rw [hp] at hcp
  have HP := Lib.hid hcp
  have HX := Lib.hid (fun (i : Nat) W (hW : Ext w W) => impl_pix A 4 cA p (i : Int) W (hA.ext hW) hl (by omega) hcA)
  have HPX : Hid (∀ i : Nat, pix p (i : Int) < 16) := by show ∀ i : Nat, _; intro i; have := pix_lt2 p (i : Int) hp; rw [hl] at this; exact this
  clear hcp hl hp
  obtain ⟨i1, hj1, hy0, hy1, hy2⟩ := info_parts info_sld
  go_enter Try.func7, Try.ntmps7
  go_wp2_with fail
  refine (HP.out _ (by repeat (first | exact Ext.refl _ | assumption | refine Ext.alloc ?_ _ | refine Ext.drew ?_ | refine Ext.drewN ?_ _ | refine Ext.trans ?_ (by assumption)))).mono ?_
  rintro e w1 ⟨rfl, h1⟩
  have h01 : Ext w w1 := (by repeat (first | exact Ext.refl _ | assumption | refine Ext.alloc ?_ _ | refine Ext.drew ?_ | refine Ext.drewN ?_ _ | refine Ext.trans ?_ (by assumption)))
  have own0 := own_new (w := w1) (g := w1.heap.size) (base := w1.heap.size) (e := 38) (size := 1) #[] 0 rfl (Nat.le_refl _) (by simp) (by simp)
  clear h1
  go_wp2
  go_loopw [3, 4] (fun v i wr => ∃ (j : Nat) (vs' : List Value), j ≤ 16 ∧ i = .int .i64 j ∧ Own2 wr w1.heap.size 38 52 5 v (basTo p 16 j) vs' ∧ Ext w1 wr) (fun _ i _ => 16 - (intOf i).toNat)
  case atStart => exact ⟨0, [], Nat.zero_le _, rfl, Own2.nil own0, (by repeat (first | exact Ext.refl _ | assumption | refine Ext.alloc ?_ _ | refine Ext.drew ?_ | refine Ext.drewN ?_ _ | refine Ext.trans ?_ (by assumption)))⟩
  case round =>
    clear own0
    obtain ⟨j, vs', hj, rfl, own, he⟩ := hrel
    have h0r : Ext w wr := h01.trans he
    by_cases hlt : j < 16
    · have HST : Hid (basTo p 16 (j + 1) = basTo p 16 j ++ [bas 16 (pix p (j : Int))]) := rfl
      have HLN := Lib.hid (basTo_length p 16 j)
      have hpx := HPX.out j
      generalize basTo p 16 j = M at *
      obtain ⟨V, cV, rfl⟩ := own_form own.outer
      have ownV : wr.ownsRow w1.heap.size 38 1 (.slice V j cV) j vs' := by have := own.outer; rw [HLN.out] at this; exact this
      rw [HLN.out]
      have hjI : (j : Int) < 16 := by omega
      have zz := he.size
      go_wp2_with fail
      refine (HX.out j _ h0r).mono ?_
      rintro e w2 ⟨rfl, h2⟩
      go_wp2_with fail
      refine (impl_basis4 (pix p (j : Int)) _ hpx).mono ?_
      rintro e w3 ⟨rfl, ownC, h3⟩
      have h23 : Ext wr w3 := h2.trans h3
      have zz3 := h23.size
      have zz2 : w1.heap.size ≤ w2.heap.size := Nat.le_trans zz (h2).size
      have HB0 : Hid (Blk (w3.alloc (.cells #[.slice (some ⟨w2.heap.size, 0, none⟩) 16 16] 38)) w3.heap.size #[.slice (some ⟨w2.heap.size, 0, none⟩) 16 16]) := Blk.new _ _ _
      have ownV2 := own_ext2 ownV h23
      go_wp2_with (at_builtin; refine wpList_append_new rfl _ _ 23 rfl w1.heap.size 38 i1 (.slice none 0 0) 1 24 Try.underlying23 hj1 hy0 hy1 hy2 rfl (by decide) _ j vs' rfl (ownV2.alloc _) w3.heap.size 1 1 #[.slice (some ⟨w2.heap.size, 0, none⟩) 16 16] rfl HB0.out rfl (by decide) (one_sl5 _ _ _) ?c2 ?c3 ?c4 ?_)
      case c2 => unfold maxLen; omega
      case c3 => omega
      case c4 => simp; omega
      intro G4 c4 w4 hw4 hg4 hb4
      have P4 := own.pushR (by decide) (B := some ⟨w2.heap.size, 0, none⟩) (m := 16) (c := 16) (R0 := bas 16 (pix p (j : Int))) (v' := .slice G4 (j + 1) c4) (w1 := w3.alloc (.cells #[.slice (some ⟨w2.heap.size, 0, none⟩) 16 16] 38)) (w2 := w4)
        (own_low5 (ownC.alloc _) zz2) (fun b hb => Nat.le_trans (h2).size (ownC.lt b hb).1) (h23.alloc _) (by rw [HLN.out]; exact hw4) (by rw [HLN.out]; exact hg4)
      have e4 := own_ext (a := w1) ((he.trans h23).alloc _) (ownV2.alloc _) (Nat.le_refl _) hg4
      have HP4 := Lib.hid P4
      clear P4 hw4 hg4 hb4 ownV ownV2 ownC own hj1 hy0 hy1 hy2
      go_wp2
      go_roundw
      case rel => exact ⟨j + 1, _, by omega, by go_num, by rw [HST.out]; exact HP4.out, e4⟩
      case measure => simp [intOf]; omega
    · obtain rfl : j = 16 := by omega
      have HLN := Lib.hid (basTo_length p 16 16)
      obtain ⟨V, cV, rfl⟩ := own_form own.outer
      rw [HLN.out] at own ⊢
      have rV := (own.fr (by decide)).rd
      go_wp2_with fail
      refine (impl_cols V 16 cV (basTo p 16 16) vs' _ rV ⟨basTo_length _ _ _, basTo_row _ _ _⟩ (by omega)).mono ?_
      rintro e w2 ⟨G, cG, vs2, rfl, ownG, h2⟩
      have zz2 : w.heap.size ≤ wr.heap.size := h0r.size
      go_wp2
      go_ret
      exact ⟨G, cG, vs2, rfl, ownG.low zz2, h0r.trans h2⟩
set_option maxRecDepth 20000 in
set_option maxHeartbeats 1600000 in
theorem spec_pmat1 (A : Option Addr) (cA : Nat) (p : List Int) (w : World) (hA : Rd w A (ints p)) (hl : p.length = 1) (hcA : 1 ≤ cA) (hp : isPerm p = true) :
    Calls Try.prog 5 #[.slice A 1 cA] w fun e w' => ∃ G cG vs', e = .returned (.slice G 2 cG) ∧ Own2 w' w.heap.size 38 52 5 (.slice G 2 cG) (flipTo (basTo p 2 2) 2 2) vs' ∧ Ext w w' := by
  have hcp := fun W (hW : Ext w W) => spec_isPerm A 1 cA p W (hA.ext hW) hl (by omega) hcA
  rw [hp] at hcp
  have HP := Lib.hid hcp
  have HX := Lib.hid (fun (i : Nat) W (hW : Ext w W) => spec_pix A 1 cA p (i : Int) W (hA.ext hW) hl (by omega) hcA)
  have HPX : Hid (∀ i : Nat, pix p (i : Int) < 2) := by show ∀ i : Nat, _; intro i; have := pix_lt2 p (i : Int) hp; rw [hl] at this; exact this
  clear hcp hl hp
  obtain ⟨i1, hj1, hy0, hy1, hy2⟩ := info_parts info_sld
  go_enter Try.func5, Try.ntmps5
  have own0 := own_new (w := w) (g := w.heap.size) (base := w.heap.size) (e := 38) (size := 1) #[] 0 rfl (Nat.le_refl _) (by simp) (by simp)
  go_wp2
  go_loopw [3, 4] (fun v i wr => ∃ (j : Nat) (vs' : List Value), j ≤ 2 ∧ i = .int .i64 j ∧ Own2 wr w.heap.size 38 52 5 v (basTo p 2 j) vs' ∧ Ext w wr) (fun _ i _ => 2 - (intOf i).toNat)
  case atStart => exact ⟨0, [], Nat.zero_le _, rfl, Own2.nil own0, (by repeat (first | exact Ext.refl _ | assumption | refine Ext.alloc ?_ _ | refine Ext.drew ?_ | refine Ext.drewN ?_ _ | refine Ext.trans ?_ (by assumption)))⟩
  case round =>
    clear own0
    obtain ⟨j, vs', hj, rfl, own, he⟩ := hrel
    have h0r : Ext w wr := he
    by_cases hlt : j < 2
    · have HST : Hid (basTo p 2 (j + 1) = basTo p 2 j ++ [bas 2 (pix p (j : Int))]) := rfl
      have HLN := Lib.hid (basTo_length p 2 j)
      have hpx := HPX.out j
      generalize basTo p 2 j = M at *
      obtain ⟨V, cV, rfl⟩ := own_form own.outer
      have ownV : wr.ownsRow w.heap.size 38 1 (.slice V j cV) j vs' := by have := own.outer; rw [HLN.out] at this; exact this
      rw [HLN.out]
      have hjI : (j : Int) < 2 := by omega
      have zz := he.size
      go_wp2_with fail
      refine (HP.out _ h0r).mono ?_
      rintro e w1 ⟨rfl, h1⟩
      go_wp2_with fail
      refine (HX.out j _ (h0r.trans h1)).mono ?_
      rintro e w2 ⟨rfl, h2⟩
      go_wp2_with fail
      refine (spec_basis1 (pix p (j : Int)) _ hpx).mono ?_
      rintro e w3 ⟨rfl, ownC, h3⟩
      have h23 : Ext wr w3 := h1.trans (h2.trans h3)
      have zz3 := h23.size
      have zz2 : w.heap.size ≤ w2.heap.size := Nat.le_trans zz (h1.trans h2).size
      have HB0 : Hid (Blk (w3.alloc (.cells #[.slice (some ⟨w2.heap.size, 0, none⟩) 2 2] 38)) w3.heap.size #[.slice (some ⟨w2.heap.size, 0, none⟩) 2 2]) := Blk.new _ _ _
      have ownV2 := own_ext2 ownV h23
      go_wp2_with (at_builtin; refine wpList_append_new rfl _ _ 23 rfl w.heap.size 38 i1 (.slice none 0 0) 1 24 Try.underlying23 hj1 hy0 hy1 hy2 rfl (by decide) _ j vs' rfl (ownV2.alloc _) w3.heap.size 1 1 #[.slice (some ⟨w2.heap.size, 0, none⟩) 2 2] rfl HB0.out rfl (by decide) (one_sl5 _ _ _) ?c2 ?c3 ?c4 ?_)
      case c2 => unfold maxLen; omega
      case c3 => omega
      case c4 => simp; omega
      intro G4 c4 w4 hw4 hg4 hb4
      have P4 := own.pushR (by decide) (B := some ⟨w2.heap.size, 0, none⟩) (m := 2) (c := 2) (R0 := bas 2 (pix p (j : Int))) (v' := .slice G4 (j + 1) c4) (w1 := w3.alloc (.cells #[.slice (some ⟨w2.heap.size, 0, none⟩) 2 2] 38)) (w2 := w4)
        (own_low5 (ownC.alloc _) zz2) (fun b hb => Nat.le_trans (h1.trans h2).size (ownC.lt b hb).1) (h23.alloc _) (by rw [HLN.out]; exact hw4) (by rw [HLN.out]; exact hg4)
      have e4 := own_ext (a := w) ((he.trans h23).alloc _) (ownV2.alloc _) (Nat.le_refl _) hg4
      have HP4 := Lib.hid P4
      clear P4 hw4 hg4 hb4 ownV ownV2 ownC own hj1 hy0 hy1 hy2
      go_wp2
      go_roundw
      case rel => exact ⟨j + 1, _, by omega, by go_num, by rw [HST.out]; exact HP4.out, e4⟩
      case measure => simp [intOf]; omega
    · obtain rfl : j = 2 := by omega
      have HLN := Lib.hid (basTo_length p 2 2)
      obtain ⟨V, cV, rfl⟩ := own_form own.outer
      rw [HLN.out] at own ⊢
      have rV := (own.fr (by decide)).rd
      go_wp2_with fail
      refine (HP.out _ h0r).mono ?_
      rintro e w1 ⟨rfl, h1⟩
      go_wp2_with fail
      refine (spec_cols V 2 cV (basTo p 2 2) vs' _ (rV.ext h1) ⟨basTo_length _ _ _, basTo_row _ _ _⟩ (by omega)).mono ?_
      rintro e w2 ⟨G, cG, vs2, rfl, ownG, h2⟩
      have zz2 : w.heap.size ≤ w1.heap.size := (h0r.trans h1).size
      go_wp2
      go_ret
      exact ⟨G, cG, vs2, rfl, ownG.low zz2, (h0r.trans h1).trans h2⟩
set_option maxRecDepth 20000 in
set_option maxHeartbeats 1600000 in
theorem spec_pmat2 (A : Option Addr) (cA : Nat) (p : List Int) (w : World) (hA : Rd w A (ints p)) (hl : p.length = 2) (hcA : 2 ≤ cA) (hp : isPerm p = true) :
    Calls Try.prog 5 #[.slice A 2 cA] w fun e w' => ∃ G cG vs', e = .returned (.slice G 4 cG) ∧ Own2 w' w.heap.size 38 52 5 (.slice G 4 cG) (flipTo (basTo p 4 4) 4 4) vs' ∧ Ext w w' := by
  have hcp := fun W (hW : Ext w W) => spec_isPerm A 2 cA p W (hA.ext hW) hl (by omega) hcA
  rw [hp] at hcp
  have HP := Lib.hid hcp
  have HX := Lib.hid (fun (i : Nat) W (hW : Ext w W) => spec_pix A 2 cA p (i : Int) W (hA.ext hW) hl (by omega) hcA)
  have HPX : Hid (∀ i : Nat, pix p (i : Int) < 4) := by show ∀ i : Nat, _; intro i; have := pix_lt2 p (i : Int) hp; rw [hl] at this; exact this
  clear hcp hl hp
  obtain ⟨i1, hj1, hy0, hy1, hy2⟩ := info_parts info_sld
  go_enter Try.func5, Try.ntmps5
  have own0 := own_new (w := w) (g := w.heap.size) (base := w.heap.size) (e := 38) (size := 1) #[] 0 rfl (Nat.le_refl _) (by simp) (by simp)
  go_wp2
  go_loopw [3, 4] (fun v i wr => ∃ (j : Nat) (vs' : List Value), j ≤ 4 ∧ i = .int .i64 j ∧ Own2 wr w.heap.size 38 52 5 v (basTo p 4 j) vs' ∧ Ext w wr) (fun _ i _ => 4 - (intOf i).toNat)
  case atStart => exact ⟨0, [], Nat.zero_le _, rfl, Own2.nil own0, (by repeat (first | exact Ext.refl _ | assumption | refine Ext.alloc ?_ _ | refine Ext.drew ?_ | refine Ext.drewN ?_ _ | refine Ext.trans ?_ (by assumption)))⟩
  case round =>
    clear own0
    obtain ⟨j, vs', hj, rfl, own, he⟩ := hrel
    have h0r : Ext w wr := he
    by_cases hlt : j < 4
    · have HST : Hid (basTo p 4 (j + 1) = basTo p 4 j ++ [bas 4 (pix p (j : Int))]) := rfl
      have HLN := Lib.hid (basTo_length p 4 j)
      have hpx := HPX.out j
      generalize basTo p 4 j = M at *
      obtain ⟨V, cV, rfl⟩ := own_form own.outer
      have ownV : wr.ownsRow w.heap.size 38 1 (.slice V j cV) j vs' := by have := own.outer; rw [HLN.out] at this; exact this
      rw [HLN.out]
      have hjI : (j : Int) < 4 := by omega
      have zz := he.size
      go_wp2_with fail
      refine (HP.out _ h0r).mono ?_
      rintro e w1 ⟨rfl, h1⟩
      go_wp2_with fail
      refine (HX.out j _ (h0r.trans h1)).mono ?_
      rintro e w2 ⟨rfl, h2⟩
      go_wp2_with fail
      refine (spec_basis2 (pix p (j : Int)) _ hpx).mono ?_
      rintro e w3 ⟨rfl, ownC, h3⟩
      have h23 : Ext wr w3 := h1.trans (h2.trans h3)
      have zz3 := h23.size
      have zz2 : w.heap.size ≤ w2.heap.size := Nat.le_trans zz (h1.trans h2).size
      have HB0 : Hid (Blk (w3.alloc (.cells #[.slice (some ⟨w2.heap.size, 0, none⟩) 4 4] 38)) w3.heap.size #[.slice (some ⟨w2.heap.size, 0, none⟩) 4 4]) := Blk.new _ _ _
      have ownV2 := own_ext2 ownV h23
      go_wp2_with (at_builtin; refine wpList_append_new rfl _ _ 23 rfl w.heap.size 38 i1 (.slice none 0 0) 1 24 Try.underlying23 hj1 hy0 hy1 hy2 rfl (by decide) _ j vs' rfl (ownV2.alloc _) w3.heap.size 1 1 #[.slice (some ⟨w2.heap.size, 0, none⟩) 4 4] rfl HB0.out rfl (by decide) (one_sl5 _ _ _) ?c2 ?c3 ?c4 ?_)
      case c2 => unfold maxLen; omega
      case c3 => omega
      case c4 => simp; omega
      intro G4 c4 w4 hw4 hg4 hb4
      have P4 := own.pushR (by decide) (B := some ⟨w2.heap.size, 0, none⟩) (m := 4) (c := 4) (R0 := bas 4 (pix p (j : Int))) (v' := .slice G4 (j + 1) c4) (w1 := w3.alloc (.cells #[.slice (some ⟨w2.heap.size, 0, none⟩) 4 4] 38)) (w2 := w4)
        (own_low5 (ownC.alloc _) zz2) (fun b hb => Nat.le_trans (h1.trans h2).size (ownC.lt b hb).1) (h23.alloc _) (by rw [HLN.out]; exact hw4) (by rw [HLN.out]; exact hg4)
      have e4 := own_ext (a := w) ((he.trans h23).alloc _) (ownV2.alloc _) (Nat.le_refl _) hg4
      have HP4 := Lib.hid P4
      clear P4 hw4 hg4 hb4 ownV ownV2 ownC own hj1 hy0 hy1 hy2
      go_wp2
      go_roundw
      case rel => exact ⟨j + 1, _, by omega, by go_num, by rw [HST.out]; exact HP4.out, e4⟩
      case measure => simp [intOf]; omega
    · obtain rfl : j = 4 := by omega
      have HLN := Lib.hid (basTo_length p 4 4)
      obtain ⟨V, cV, rfl⟩ := own_form own.outer
      rw [HLN.out] at own ⊢
      have rV := (own.fr (by decide)).rd
      go_wp2_with fail
      refine (HP.out _ h0r).mono ?_
      rintro e w1 ⟨rfl, h1⟩
      go_wp2_with fail
      refine (spec_cols V 4 cV (basTo p 4 4) vs' _ (rV.ext h1) ⟨basTo_length _ _ _, basTo_row _ _ _⟩ (by omega)).mono ?_
      rintro e w2 ⟨G, cG, vs2, rfl, ownG, h2⟩
      have zz2 : w.heap.size ≤ w1.heap.size := (h0r.trans h1).size
      go_wp2
      go_ret
      exact ⟨G, cG, vs2, rfl, ownG.low zz2, (h0r.trans h1).trans h2⟩
set_option maxRecDepth 20000 in
set_option maxHeartbeats 1600000 in
theorem spec_pmat3 (A : Option Addr) (cA : Nat) (p : List Int) (w : World) (hA : Rd w A (ints p)) (hl : p.length = 3) (hcA : 3 ≤ cA) (hp : isPerm p = true) :
    Calls Try.prog 5 #[.slice A 3 cA] w fun e w' => ∃ G cG vs', e = .returned (.slice G 8 cG) ∧ Own2 w' w.heap.size 38 52 5 (.slice G 8 cG) (flipTo (basTo p 8 8) 8 8) vs' ∧ Ext w w' := by
  have hcp := fun W (hW : Ext w W) => spec_isPerm A 3 cA p W (hA.ext hW) hl (by omega) hcA
  rw [hp] at hcp
  have HP := Lib.hid hcp
  have HX := Lib.hid (fun (i : Nat) W (hW : Ext w W) => spec_pix A 3 cA p (i : Int) W (hA.ext hW) hl (by omega) hcA)
  have HPX : Hid (∀ i : Nat, pix p (i : Int) < 8) := by show ∀ i : Nat, _; intro i; have := pix_lt2 p (i : Int) hp; rw [hl] at this; exact this
  clear hcp hl hp
  obtain ⟨i1, hj1, hy0, hy1, hy2⟩ := info_parts info_sld
  go_enter Try.func5, Try.ntmps5
  have own0 := own_new (w := w) (g := w.heap.size) (base := w.heap.size) (e := 38) (size := 1) #[] 0 rfl (Nat.le_refl _) (by simp) (by simp)
  go_wp2
  go_loopw [3, 4] (fun v i wr => ∃ (j : Nat) (vs' : List Value), j ≤ 8 ∧ i = .int .i64 j ∧ Own2 wr w.heap.size 38 52 5 v (basTo p 8 j) vs' ∧ Ext w wr) (fun _ i _ => 8 - (intOf i).toNat)
  case atStart => exact ⟨0, [], Nat.zero_le _, rfl, Own2.nil own0, (by repeat (first | exact Ext.refl _ | assumption | refine Ext.alloc ?_ _ | refine Ext.drew ?_ | refine Ext.drewN ?_ _ | refine Ext.trans ?_ (by assumption)))⟩
  case round =>
    clear own0
    obtain ⟨j, vs', hj, rfl, own, he⟩ := hrel
    have h0r : Ext w wr := he
    by_cases hlt : j < 8
    · have HST : Hid (basTo p 8 (j + 1) = basTo p 8 j ++ [bas 8 (pix p (j : Int))]) := rfl
      have HLN := Lib.hid (basTo_length p 8 j)
      have hpx := HPX.out j
      generalize basTo p 8 j = M at *
      obtain ⟨V, cV, rfl⟩ := own_form own.outer
      have ownV : wr.ownsRow w.heap.size 38 1 (.slice V j cV) j vs' := by have := own.outer; rw [HLN.out] at this; exact this
      rw [HLN.out]
      have hjI : (j : Int) < 8 := by omega
      have zz := he.size
      go_wp2_with fail
      refine (HP.out _ h0r).mono ?_
      rintro e w1 ⟨rfl, h1⟩
      go_wp2_with fail
      refine (HX.out j _ (h0r.trans h1)).mono ?_
      rintro e w2 ⟨rfl, h2⟩
      go_wp2_with fail
      refine (spec_basis3 (pix p (j : Int)) _ hpx).mono ?_
      rintro e w3 ⟨rfl, ownC, h3⟩
      have h23 : Ext wr w3 := h1.trans (h2.trans h3)
      have zz3 := h23.size
      have zz2 : w.heap.size ≤ w2.heap.size := Nat.le_trans zz (h1.trans h2).size
      have HB0 : Hid (Blk (w3.alloc (.cells #[.slice (some ⟨w2.heap.size, 0, none⟩) 8 8] 38)) w3.heap.size #[.slice (some ⟨w2.heap.size, 0, none⟩) 8 8]) := Blk.new _ _ _
      have ownV2 := own_ext2 ownV h23
      go_wp2_with (at_builtin; refine wpList_append_new rfl _ _ 23 rfl w.heap.size 38 i1 (.slice none 0 0) 1 24 Try.underlying23 hj1 hy0 hy1 hy2 rfl (by decide) _ j vs' rfl (ownV2.alloc _) w3.heap.size 1 1 #[.slice (some ⟨w2.heap.size, 0, none⟩) 8 8] rfl HB0.out rfl (by decide) (one_sl5 _ _ _) ?c2 ?c3 ?c4 ?_)
      case c2 => unfold maxLen; omega
      case c3 => omega
      case c4 => simp; omega
      intro G4 c4 w4 hw4 hg4 hb4
      have P4 := own.pushR (by decide) (B := some ⟨w2.heap.size, 0, none⟩) (m := 8) (c := 8) (R0 := bas 8 (pix p (j : Int))) (v' := .slice G4 (j + 1) c4) (w1 := w3.alloc (.cells #[.slice (some ⟨w2.heap.size, 0, none⟩) 8 8] 38)) (w2 := w4)
        (own_low5 (ownC.alloc _) zz2) (fun b hb => Nat.le_trans (h1.trans h2).size (ownC.lt b hb).1) (h23.alloc _) (by rw [HLN.out]; exact hw4) (by rw [HLN.out]; exact hg4)
      have e4 := own_ext (a := w) ((he.trans h23).alloc _) (ownV2.alloc _) (Nat.le_refl _) hg4
      have HP4 := Lib.hid P4
      clear P4 hw4 hg4 hb4 ownV ownV2 ownC own hj1 hy0 hy1 hy2
      go_wp2
      go_roundw
      case rel => exact ⟨j + 1, _, by omega, by go_num, by rw [HST.out]; exact HP4.out, e4⟩
      case measure => simp [intOf]; omega
    · obtain rfl : j = 8 := by omega
      have HLN := Lib.hid (basTo_length p 8 8)
      obtain ⟨V, cV, rfl⟩ := own_form own.outer
      rw [HLN.out] at own ⊢
      have rV := (own.fr (by decide)).rd
      go_wp2_with fail
      refine (HP.out _ h0r).mono ?_
      rintro e w1 ⟨rfl, h1⟩
      go_wp2_with fail
      refine (spec_cols V 8 cV (basTo p 8 8) vs' _ (rV.ext h1) ⟨basTo_length _ _ _, basTo_row _ _ _⟩ (by omega)).mono ?_
      rintro e w2 ⟨G, cG, vs2, rfl, ownG, h2⟩
      have zz2 : w.heap.size ≤ w1.heap.size := (h0r.trans h1).size
      go_wp2
      go_ret
      exact ⟨G, cG, vs2, rfl, ownG.low zz2, (h0r.trans h1).trans h2⟩
set_option maxRecDepth 20000 in
set_option maxHeartbeats 1600000 in
theorem spec_pmat4 (A : Option Addr) (cA : Nat) (p : List Int) (w : World) (hA : Rd w A (ints p)) (hl : p.length = 4) (hcA : 4 ≤ cA) (hp : isPerm p = true) :
    Calls Try.prog 5 #[.slice A 4 cA] w fun e w' => ∃ G cG vs', e = .returned (.slice G 16 cG) ∧ Own2 w' w.heap.size 38 52 5 (.slice G 16 cG) (flipTo (basTo p 16 16) 16 16) vs' ∧ Ext w w' := by
  have hcp := fun W (hW : Ext w W) => spec_isPerm A 4 cA p W (hA.ext hW) hl (by omega) hcA
  rw [hp] at hcp
  have HP := Lib.hid hcp
  have HX := Lib.hid (fun (i : Nat) W (hW : Ext w W) => spec_pix A 4 cA p (i : Int) W (hA.ext hW) hl (by omega) hcA)
  have HPX : Hid (∀ i : Nat, pix p (i : Int) < 16) := by show ∀ i : Nat, _; intro i; have := pix_lt2 p (i : Int) hp; rw [hl] at this; exact this
  clear hcp hl hp
  obtain ⟨i1, hj1, hy0, hy1, hy2⟩ := info_parts info_sld
  go_enter Try.func5, Try.ntmps5
  have own0 := own_new (w := w) (g := w.heap.size) (base := w.heap.size) (e := 38) (size := 1) #[] 0 rfl (Nat.le_refl _) (by simp) (by simp)
  go_wp2
  go_loopw [3, 4] (fun v i wr => ∃ (j : Nat) (vs' : List Value), j ≤ 16 ∧ i = .int .i64 j ∧ Own2 wr w.heap.size 38 52 5 v (basTo p 16 j) vs' ∧ Ext w wr) (fun _ i _ => 16 - (intOf i).toNat)
  case atStart => exact ⟨0, [], Nat.zero_le _, rfl, Own2.nil own0, (by repeat (first | exact Ext.refl _ | assumption | refine Ext.alloc ?_ _ | refine Ext.drew ?_ | refine Ext.drewN ?_ _ | refine Ext.trans ?_ (by assumption)))⟩
  case round =>
    clear own0
    obtain ⟨j, vs', hj, rfl, own, he⟩ := hrel
    have h0r : Ext w wr := he
    by_cases hlt : j < 16
    · have HST : Hid (basTo p 16 (j + 1) = basTo p 16 j ++ [bas 16 (pix p (j : Int))]) := rfl
      have HLN := Lib.hid (basTo_length p 16 j)
      have hpx := HPX.out j
      generalize basTo p 16 j = M at *
      obtain ⟨V, cV, rfl⟩ := own_form own.outer
      have ownV : wr.ownsRow w.heap.size 38 1 (.slice V j cV) j vs' := by have := own.outer; rw [HLN.out] at this; exact this
      rw [HLN.out]
      have hjI : (j : Int) < 16 := by omega
      have zz := he.size
      go_wp2_with fail
      refine (HP.out _ h0r).mono ?_
      rintro e w1 ⟨rfl, h1⟩
      go_wp2_with fail
      refine (HX.out j _ (h0r.trans h1)).mono ?_
      rintro e w2 ⟨rfl, h2⟩
      go_wp2_with fail
      refine (spec_basis4 (pix p (j : Int)) _ hpx).mono ?_
      rintro e w3 ⟨rfl, ownC, h3⟩
      have h23 : Ext wr w3 := h1.trans (h2.trans h3)
      have zz3 := h23.size
      have zz2 : w.heap.size ≤ w2.heap.size := Nat.le_trans zz (h1.trans h2).size
      have HB0 : Hid (Blk (w3.alloc (.cells #[.slice (some ⟨w2.heap.size, 0, none⟩) 16 16] 38)) w3.heap.size #[.slice (some ⟨w2.heap.size, 0, none⟩) 16 16]) := Blk.new _ _ _
      have ownV2 := own_ext2 ownV h23
      go_wp2_with (at_builtin; refine wpList_append_new rfl _ _ 23 rfl w.heap.size 38 i1 (.slice none 0 0) 1 24 Try.underlying23 hj1 hy0 hy1 hy2 rfl (by decide) _ j vs' rfl (ownV2.alloc _) w3.heap.size 1 1 #[.slice (some ⟨w2.heap.size, 0, none⟩) 16 16] rfl HB0.out rfl (by decide) (one_sl5 _ _ _) ?c2 ?c3 ?c4 ?_)
      case c2 => unfold maxLen; omega
      case c3 => omega
      case c4 => simp; omega
      intro G4 c4 w4 hw4 hg4 hb4
      have P4 := own.pushR (by decide) (B := some ⟨w2.heap.size, 0, none⟩) (m := 16) (c := 16) (R0 := bas 16 (pix p (j : Int))) (v' := .slice G4 (j + 1) c4) (w1 := w3.alloc (.cells #[.slice (some ⟨w2.heap.size, 0, none⟩) 16 16] 38)) (w2 := w4)
        (own_low5 (ownC.alloc _) zz2) (fun b hb => Nat.le_trans (h1.trans h2).size (ownC.lt b hb).1) (h23.alloc _) (by rw [HLN.out]; exact hw4) (by rw [HLN.out]; exact hg4)
      have e4 := own_ext (a := w) ((he.trans h23).alloc _) (ownV2.alloc _) (Nat.le_refl _) hg4
      have HP4 := Lib.hid P4
      clear P4 hw4 hg4 hb4 ownV ownV2 ownC own hj1 hy0 hy1 hy2
      go_wp2
      go_roundw
      case rel => exact ⟨j + 1, _, by omega, by go_num, by rw [HST.out]; exact HP4.out, e4⟩
      case measure => simp [intOf]; omega
    · obtain rfl : j = 16 := by omega
      have HLN := Lib.hid (basTo_length p 16 16)
      obtain ⟨V, cV, rfl⟩ := own_form own.outer
      rw [HLN.out] at own ⊢
      have rV := (own.fr (by decide)).rd
      go_wp2_with fail
      refine (HP.out _ h0r).mono ?_
      rintro e w1 ⟨rfl, h1⟩
      go_wp2_with fail
      refine (spec_cols V 16 cV (basTo p 16 16) vs' _ (rV.ext h1) ⟨basTo_length _ _ _, basTo_row _ _ _⟩ (by omega)).mono ?_
      rintro e w2 ⟨G, cG, vs2, rfl, ownG, h2⟩
      have zz2 : w.heap.size ≤ w1.heap.size := (h0r.trans h1).size
      go_wp2
      go_ret
      exact ⟨G, cG, vs2, rfl, ownG.low zz2, (h0r.trans h1).trans h2⟩
end Go.Proofs.YtbihbegpjicnkaaR
