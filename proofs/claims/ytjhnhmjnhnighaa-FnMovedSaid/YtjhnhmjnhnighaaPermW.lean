/-
  The walks of FnPerm and FnMoved. No conditions.
-/
import Derived.Test.YtjhnhmjnhnighaaPermP
import Derived.Test.YtjhnhmjnhnighaaOpen3
import Derived.Test.YtjhnhmjnhnighaaDraw3
set_option linter.unusedSimpArgs false
set_option linter.unusedVariables false
namespace Go.Proofs.Ytjhnhmjnhnighaa
open Go.RowKit
theorem composeP_ok {p q : List Int} (h : composeP p q ≠ []) : isPerm p = true ∧ isPerm q = true ∧ p.length = q.length := by
  unfold composeP at h
  split at h
  · assumption
  · exact absurd rfl h
set_option maxHeartbeats 1600000 in
theorem walk_FnPerm (w : World) (A : Option Addr) (n c : Nat) (l : List Int) (rd : Rd w A (bys l)) (hl : l.length = n) (hn : n ≤ maxLen) (wl : ∀ x ∈ l, 0 ≤ x ∧ x < 256) :
    Calls Try.prog 12 #[.slice A n c] w fun e w' => e = .returned (.bool true) ∧ Ext w w' := by
  clear wl
  have HL := Lib.hid hl
  clear hl
  unfold maxLen at hn
  by_cases hbig : 1048576 < n
  · have hd : decide (1048576 < n) = true := by simpa using hbig
    go_enter Try.func12, Try.ntmps12
    go_wp2_with fail
    refine (big_any A n c _).mono ?_
    rintro e w1 ⟨rfl, rfl⟩
    go_wp2
    go_ret
    exact ⟨rfl, (by repeat (first | exact Ext.refl _ | assumption | refine Ext.alloc ?_ _ | refine Ext.drew ?_ | refine Ext.drewN ?_ _ | refine Ext.trans ?_ (by assumption)))⟩
  · have hd : decide (1048576 < n) = false := by simpa using hbig
    go_enter Try.func12, Try.ntmps12
    go_wp2_with fail
    refine (big_any A n c _).mono ?_
    rintro e w1 ⟨rfl, rfl⟩
    go_wp2_with fail
    refine (drawCompose_ok A n c l _ rd HL.out (by omega)).mono ?_
    rintro e w1 ⟨P, P', m, cP, m', cP', L, L', rfl, ⟨hL, hm, hmc⟩, ⟨hL', hm', hmc'⟩, fP, fP', h1⟩
    have HP := Lib.hid hL
    have HP' := Lib.hid hL'
    clear hL hL' rd
    obtain ⟨R, hR⟩ : ∃ R, R = composeP L L' := ⟨_, rfl⟩
    obtain ⟨r, hr⟩ : ∃ r, R.length = r := ⟨_, rfl⟩
    have hr4 : r ≤ 4 := by rw [← hr, hR]; exact composeP_le _ _
    have HR := Lib.hid hR
    have Hr := Lib.hid hr
    clear hR hr
    go_wp2_with fail
    refine (impl_compose P P' m m' cP cP' L L' _ fP.rd fP'.rd HP.out HP'.out (by omega) (by omega) hmc hmc' R r HR.out Hr.out).mono ?_
    rintro e w2 ⟨G, cG, rfl, fG, h2⟩
    go_wp2_with fail
    refine (spec_compose P P' m m' cP cP' L L' _ (fP.ext h2).rd (fP'.ext h2).rd HP.out HP'.out (by omega) (by omega) hmc hmc' R r HR.out Hr.out).mono ?_
    rintro e w3 ⟨W, cW, rfl, fW, h3⟩
    go_wp2_with fail
    refine (sameInts_any G W r r _ _ R R _ (fG.ext h3).rd fW.rd Hr.out Hr.out (by omega) (by omega)).mono ?_
    rintro e w4 ⟨rfl, h4⟩
    replace fP := fP.ext (h2.trans (h3.trans h4))
    have h04 := h1.trans (h2.trans (h3.trans h4))
    clear fP' fG fW h1 h2 h3 h4 HR Hr
    cases hp : isPerm L with
    | false =>
      go_wp2_with fail
      refine (impl_isPerm P m cP L _ fP.rd HP.out (by omega)).mono ?_
      rintro e w5 ⟨rfl, h5⟩
      go_wp2_with fail
      refine (spec_isPerm P m cP L _ (fP.ext h5).rd HP.out (by omega) hmc).mono ?_
      rintro e w6 ⟨rfl, h6⟩
      go_wp2_with fail
      refine (spec_isPerm P m cP L _ (fP.ext (h5.trans h6)).rd HP.out (by omega) hmc).mono ?_
      rintro e w7 ⟨rfl, h7⟩
      go_wp2_with fail
      refine (impl_inverse_no P m cP L _ (fP.ext (h5.trans (h6.trans h7))).rd HP.out (by omega) hmc hp).mono ?_
      rintro e w8 ⟨G', c', rfl, h8⟩
      go_wp2
      go_ret
      exact ⟨rfl, h04.trans (h5.trans (h6.trans (h7.trans h8)))⟩
    | true =>
      obtain ⟨i1, i2, i3⟩ := inv_facts hp
      have hm4 := (isPerm_iff L).1 hp
      have hmm : 1 ≤ m ∧ m ≤ 4 := by have := HP.out; omega
      rw [HP.out] at i1 i2 i3
      have I1 := Lib.hid i1
      have I2 := Lib.hid i2
      have I3 := Lib.hid i3
      clear i1 i2 i3 hm4
      have HPP := Lib.hid hp
      go_wp2_with fail
      refine (impl_isPerm P m cP L _ fP.rd HP.out (by omega)).mono ?_
      rintro e w5 ⟨rfl, h5⟩
      go_wp2_with fail
      refine (spec_isPerm P m cP L _ (fP.ext h5).rd HP.out (by omega) hmc).mono ?_
      rintro e w6 ⟨rfl, h6⟩
      go_wp2_with fail
      refine (spec_isPerm P m cP L _ (fP.ext (h5.trans h6)).rd HP.out (by omega) hmc).mono ?_
      rintro e w7 ⟨rfl, h7⟩
      replace fP := fP.ext (h5.trans (h6.trans h7))
      have h07 := h04.trans (h5.trans (h6.trans h7))
      clear h04 h5 h6 h7
      go_wp2_with fail
      refine (impl_idPerm_yes' m _ hmm.1 hmm.2).mono ?_
      rintro e w8 ⟨B, cB, rfl, hcB, fB, h8⟩
      clear hp
      replace fP := fP.ext h8
      go_wp2_with fail
      refine (impl_inverse_yes P m cP L _ fP.rd HP.out hmc HPP.out).mono ?_
      rintro e w9 ⟨V, rfl, fV, h9⟩
      have hvl : Hid ((invP L).length = m) := by show _ = _; unfold invP; rw [invTo_length]; exact HP.out
      rw [show invTo L m m = invP L from by unfold invP; rw [HP.out]] at fV
      go_wp2_with fail
      refine (impl_compose P V m m cP m L (invP L) _ (fP.ext h9).rd fV.rd HP.out hvl.out (by omega) (by omega) hmc (Nat.le_refl _) (marks 0 m) m I1.out.symm (marks_length _ _)).mono ?_
      rintro e w10 ⟨G1, cG1, rfl, fG1, h10⟩
      go_wp2_with fail
      refine (sameInts_any G1 B m m _ _ (marks 0 m) (marks 0 m) _ fG1.rd (fB.ext (h9.trans h10)).rd (marks_length _ _) (marks_length _ _) (by omega) (by omega)).mono ?_
      rintro e w11 ⟨rfl, h11⟩
      have e1 := h9.trans (h10.trans h11)
      replace fP := fP.ext e1
      replace fB := fB.ext e1
      have h0b := h07.trans (h8.trans e1)
      clear h07 h8 h9 h10 h11 e1 fG1 fV
      go_wp2_with fail
      refine (impl_inverse_yes P m cP L _ fP.rd HP.out hmc HPP.out).mono ?_
      rintro e w12 ⟨V2, rfl, fV, h12⟩
      rw [show invTo L m m = invP L from by unfold invP; rw [HP.out]] at fV
      go_wp2_with fail
      refine (impl_compose V2 P m m m cP (invP L) L _ fV.rd (fP.ext h12).rd hvl.out HP.out (by omega) (by omega) (Nat.le_refl _) hmc (marks 0 m) m I2.out.symm (marks_length _ _)).mono ?_
      rintro e w13 ⟨G2, cG2, rfl, fG2, h13⟩
      go_wp2_with fail
      refine (sameInts_any G2 B m m _ _ (marks 0 m) (marks 0 m) _ fG2.rd (fB.ext (h12.trans h13)).rd (marks_length _ _) (marks_length _ _) (by omega) (by omega)).mono ?_
      rintro e w14 ⟨rfl, h14⟩
      have e1 := h12.trans (h13.trans h14)
      replace fP := fP.ext e1
      replace fB := fB.ext e1
      have h0c := h0b.trans e1
      clear h0b h12 h13 h14 e1 fG2 fV
      go_wp2_with fail
      refine (impl_compose B P m m cB cP (marks 0 m) L _ fB.rd fP.rd (marks_length _ _) HP.out (by omega) (by omega) hcB hmc L m I3.out.symm HP.out).mono ?_
      rintro e w15 ⟨G3, cG3, rfl, fG3, h15⟩
      go_wp2_with fail
      refine (sameInts_any G3 P m m _ _ L L _ fG3.rd (fP.ext h15).rd HP.out HP.out (by omega) (by omega)).mono ?_
      rintro e w16 ⟨rfl, h16⟩
      go_wp2
      go_ret
      exact ⟨rfl, h0c.trans (h15.trans h16)⟩
theorem impl_pix_eq (A : Option Addr) (n cA : Nat) (p : List Int) (i : Int) (k : Nat) (w : World) (hA : Rd w A (ints p)) (hl : p.length = n) (hn : n ≤ 9223372036854775806) (hcA : n ≤ cA) (hk : pix p i = k) :
    Calls Try.prog 17 #[.slice A n cA, .int .i64 i] w fun e w' => e = .returned (.int .i64 k) ∧ Ext w w' := by
  subst hk
  exact impl_pix A n cA p i w hA hl hn hcA
theorem spec_pix_eq (A : Option Addr) (n cA : Nat) (p : List Int) (i : Int) (k : Nat) (w : World) (hA : Rd w A (ints p)) (hl : p.length = n) (hn : n ≤ 9223372036854775806) (hcA : n ≤ cA) (hk : pix p i = k) :
    Calls Try.prog 15 #[.slice A n cA, .int .i64 i] w fun e w' => e = .returned (.int .i64 k) ∧ Ext w w' := by
  subst hk
  exact spec_pix A n cA p i w hA hl hn hcA
set_option maxHeartbeats 1600000 in
theorem walk_FnMoved (w : World) (A : Option Addr) (n c : Nat) (l : List Int) (rd : Rd w A (bys l)) (hl : l.length = n) (hn : n ≤ maxLen) (wl : ∀ x ∈ l, 0 ≤ x ∧ x < 256) :
    Calls Try.prog 11 #[.slice A n c] w fun e w' => e = .returned (.bool true) ∧ Ext w w' := by
  have HL := Lib.hid hl
  have HW := Lib.hid wl
  clear hl wl
  unfold maxLen at hn
  by_cases hbig : 1048576 < n
  · have hd : decide (1048576 < n) = true := by simpa using hbig
    go_enter Try.func11, Try.ntmps11
    go_wp2_with fail
    refine (big_any A n c _).mono ?_
    rintro e w1 ⟨rfl, rfl⟩
    go_wp2
    go_ret
    exact ⟨rfl, (by repeat (first | exact Ext.refl _ | assumption | refine Ext.alloc ?_ _ | refine Ext.drew ?_ | refine Ext.drewN ?_ _ | refine Ext.trans ?_ (by assumption)))⟩
  · have hd : decide (1048576 < n) = false := by simpa using hbig
    go_enter Try.func11, Try.ntmps11
    go_wp2_with fail
    refine (big_any A n c _).mono ?_
    rintro e w1 ⟨rfl, rfl⟩
    go_wp2_with fail
    refine (drawCompose_ok A n c l _ rd HL.out (by omega)).mono ?_
    rintro e w1 ⟨P, P', m, cP, m', cP', L, L', rfl, ⟨hL, hm, hmc⟩, ⟨hL', hm', hmc'⟩, fP, fP', h1⟩
    have HP := Lib.hid hL
    have HP' := Lib.hid hL'
    clear hL hL'
    obtain ⟨R, hR⟩ : ∃ R, R = composeP L L' := ⟨_, rfl⟩
    obtain ⟨r, hr⟩ : ∃ r, R.length = r := ⟨_, rfl⟩
    have hr4 : r ≤ 4 := by rw [← hr, hR]; exact composeP_le _ _
    have HR := Lib.hid hR
    have Hr := Lib.hid hr
    clear hR hr
    go_wp2_with fail
    refine (spec_compose_cap P P' m m' cP cP' L L' _ fP.rd fP'.rd HP.out HP'.out (by omega) (by omega) hmc hmc' R r HR.out Hr.out).mono ?_
    rintro e w2 ⟨G, cG, rfl, fG, h2, hcG⟩
    by_cases hr0 : r = 0
    · subst hr0
      have hnil : R = [] := List.eq_nil_of_length_eq_zero Hr.out
      subst hnil
      have hk : pix [] 1 = 0 := by decide
      have HK := Lib.hid hk
      clear hk
      go_wp2_with fail
      refine (impl_pix_eq G 0 cG [] 1 0 _ fG.rd rfl (by omega) hcG HK.out).mono ?_
      rintro e w3 ⟨rfl, h3⟩
      go_wp2
      go_ret
      exact ⟨rfl, h1.trans (h2.trans h3)⟩
    · have hok := composeP_ok (p := L) (q := L') (by rw [← HR.out]; rintro rfl; exact hr0 (by have := Hr.out; simpa using this.symm))
      obtain ⟨hp, hq, hll⟩ := hok
      have hm4 := (isPerm_iff L).1 hp
      have hmm : 1 ≤ m ∧ m ≤ 4 := by have := HP.out; omega
      have hm'm : m' = m := by have := HP.out; have := HP'.out; omega
      have hrm : r = m := by
        have h0 := Hr.out
        rw [HR.out] at h0
        unfold composeP at h0
        rw [if_pos ⟨hp, hq, hll⟩, compTo_length _ _ _ (Nat.le_refl _)] at h0
        have := HP.out
        omega
      have HC := Lib.hid (fun (i : Nat) (hi : i < 2 ^ m) => (by rw [HR.out]; exact pix_comp hp hq hll (by rw [HP.out]; exact hi) : pix L' (pix L i) = pix R i))
      subst hm'm hrm
      clear hp hq hll hm4 hr0 HR
      replace fP := fP.ext h2
      replace fP' := fP'.ext h2
      have h02 := h1.trans h2
      clear h1 h2
      obtain rfl | rfl | rfl | rfl : r = 1 ∨ r = 2 ∨ r = 3 ∨ r = 4 := by omega
      · go_wp2_with fail
        refine (at0_any A n c l 3 _ (rd.ext h02) HL.out (by omega) (by omega) HW.out).mono ?_
        rintro e w3 ⟨x, hx, rfl, h3⟩
        obtain ⟨a, ha⟩ : ∃ a, a = pix L ((x % 2 : Nat) : Int) := ⟨_, rfl⟩
        obtain ⟨b, hb⟩ : ∃ b, b = pix L' (a : Int) := ⟨_, rfl⟩
        have hE : pix R ((x % 2 : Nat) : Int) = b := by rw [hb, ha]; exact (HC.out (x % 2) (Nat.mod_lt _ (by decide))).symm
        have e0 : (((x % 2 : Nat) : Nat) : Int) = (x : Int) % 2 := by simp
        rw [e0] at ha hE
        have HA := Lib.hid ha
        have HB := Lib.hid hb
        have HE := Lib.hid hE
        clear ha hb hE e0
        replace fP := fP.ext h3
        replace fP' := fP'.ext h3
        replace fG := fG.ext h3
        have h03 := h02.trans h3
        clear h02 h3
        go_wp2_with fail
        refine (impl_pix_eq P 1 cP L _ a _ fP.rd HP.out (by omega) hmc HA.out.symm).mono ?_
        rintro e w4 ⟨rfl, h4⟩
        go_wp2_with fail
        refine (impl_pix_eq P' 1 cP' L' _ b _ (fP'.ext h4).rd HP'.out (by omega) hmc' HB.out.symm).mono ?_
        rintro e w5 ⟨rfl, h5⟩
        go_wp2_with fail
        refine (impl_pix_eq G 1 cG R _ b _ (fG.ext (h4.trans h5)).rd Hr.out (by omega) hcG HE.out).mono ?_
        rintro e w6 ⟨rfl, h6⟩
        go_wp2_with fail
        refine (impl_pix_eq P 1 cP L _ a _ (fP.ext (h4.trans (h5.trans h6))).rd HP.out (by omega) hmc HA.out.symm).mono ?_
        rintro e w7 ⟨rfl, h7⟩
        go_wp2_with fail
        refine (spec_pix_eq P 1 cP L _ a _ (fP.ext (h4.trans (h5.trans (h6.trans h7)))).rd HP.out (by omega) hmc HA.out.symm).mono ?_
        rintro e w8 ⟨rfl, h8⟩
        go_wp2
        go_ret
        exact ⟨rfl, h03.trans (h4.trans (h5.trans (h6.trans (h7.trans h8))))⟩
      · go_wp2_with fail
        refine (at0_any A n c l 3 _ (rd.ext h02) HL.out (by omega) (by omega) HW.out).mono ?_
        rintro e w3 ⟨x, hx, rfl, h3⟩
        obtain ⟨a, ha⟩ : ∃ a, a = pix L ((x % 4 : Nat) : Int) := ⟨_, rfl⟩
        obtain ⟨b, hb⟩ : ∃ b, b = pix L' (a : Int) := ⟨_, rfl⟩
        have hE : pix R ((x % 4 : Nat) : Int) = b := by rw [hb, ha]; exact (HC.out (x % 4) (Nat.mod_lt _ (by decide))).symm
        have e0 : (((x % 4 : Nat) : Nat) : Int) = (x : Int) % 4 := by simp
        rw [e0] at ha hE
        have HA := Lib.hid ha
        have HB := Lib.hid hb
        have HE := Lib.hid hE
        clear ha hb hE e0
        replace fP := fP.ext h3
        replace fP' := fP'.ext h3
        replace fG := fG.ext h3
        have h03 := h02.trans h3
        clear h02 h3
        go_wp2_with fail
        refine (impl_pix_eq P 2 cP L _ a _ fP.rd HP.out (by omega) hmc HA.out.symm).mono ?_
        rintro e w4 ⟨rfl, h4⟩
        go_wp2_with fail
        refine (impl_pix_eq P' 2 cP' L' _ b _ (fP'.ext h4).rd HP'.out (by omega) hmc' HB.out.symm).mono ?_
        rintro e w5 ⟨rfl, h5⟩
        go_wp2_with fail
        refine (impl_pix_eq G 2 cG R _ b _ (fG.ext (h4.trans h5)).rd Hr.out (by omega) hcG HE.out).mono ?_
        rintro e w6 ⟨rfl, h6⟩
        go_wp2_with fail
        refine (impl_pix_eq P 2 cP L _ a _ (fP.ext (h4.trans (h5.trans h6))).rd HP.out (by omega) hmc HA.out.symm).mono ?_
        rintro e w7 ⟨rfl, h7⟩
        go_wp2_with fail
        refine (spec_pix_eq P 2 cP L _ a _ (fP.ext (h4.trans (h5.trans (h6.trans h7)))).rd HP.out (by omega) hmc HA.out.symm).mono ?_
        rintro e w8 ⟨rfl, h8⟩
        go_wp2
        go_ret
        exact ⟨rfl, h03.trans (h4.trans (h5.trans (h6.trans (h7.trans h8))))⟩
      · go_wp2_with fail
        refine (at0_any A n c l 3 _ (rd.ext h02) HL.out (by omega) (by omega) HW.out).mono ?_
        rintro e w3 ⟨x, hx, rfl, h3⟩
        obtain ⟨a, ha⟩ : ∃ a, a = pix L ((x % 8 : Nat) : Int) := ⟨_, rfl⟩
        obtain ⟨b, hb⟩ : ∃ b, b = pix L' (a : Int) := ⟨_, rfl⟩
        have hE : pix R ((x % 8 : Nat) : Int) = b := by rw [hb, ha]; exact (HC.out (x % 8) (Nat.mod_lt _ (by decide))).symm
        have e0 : (((x % 8 : Nat) : Nat) : Int) = (x : Int) % 8 := by simp
        rw [e0] at ha hE
        have HA := Lib.hid ha
        have HB := Lib.hid hb
        have HE := Lib.hid hE
        clear ha hb hE e0
        replace fP := fP.ext h3
        replace fP' := fP'.ext h3
        replace fG := fG.ext h3
        have h03 := h02.trans h3
        clear h02 h3
        go_wp2_with fail
        refine (impl_pix_eq P 3 cP L _ a _ fP.rd HP.out (by omega) hmc HA.out.symm).mono ?_
        rintro e w4 ⟨rfl, h4⟩
        go_wp2_with fail
        refine (impl_pix_eq P' 3 cP' L' _ b _ (fP'.ext h4).rd HP'.out (by omega) hmc' HB.out.symm).mono ?_
        rintro e w5 ⟨rfl, h5⟩
        go_wp2_with fail
        refine (impl_pix_eq G 3 cG R _ b _ (fG.ext (h4.trans h5)).rd Hr.out (by omega) hcG HE.out).mono ?_
        rintro e w6 ⟨rfl, h6⟩
        go_wp2_with fail
        refine (impl_pix_eq P 3 cP L _ a _ (fP.ext (h4.trans (h5.trans h6))).rd HP.out (by omega) hmc HA.out.symm).mono ?_
        rintro e w7 ⟨rfl, h7⟩
        go_wp2_with fail
        refine (spec_pix_eq P 3 cP L _ a _ (fP.ext (h4.trans (h5.trans (h6.trans h7)))).rd HP.out (by omega) hmc HA.out.symm).mono ?_
        rintro e w8 ⟨rfl, h8⟩
        go_wp2
        go_ret
        exact ⟨rfl, h03.trans (h4.trans (h5.trans (h6.trans (h7.trans h8))))⟩
      · go_wp2_with fail
        refine (at0_any A n c l 3 _ (rd.ext h02) HL.out (by omega) (by omega) HW.out).mono ?_
        rintro e w3 ⟨x, hx, rfl, h3⟩
        obtain ⟨a, ha⟩ : ∃ a, a = pix L ((x % 16 : Nat) : Int) := ⟨_, rfl⟩
        obtain ⟨b, hb⟩ : ∃ b, b = pix L' (a : Int) := ⟨_, rfl⟩
        have hE : pix R ((x % 16 : Nat) : Int) = b := by rw [hb, ha]; exact (HC.out (x % 16) (Nat.mod_lt _ (by decide))).symm
        have e0 : (((x % 16 : Nat) : Nat) : Int) = (x : Int) % 16 := by simp
        rw [e0] at ha hE
        have HA := Lib.hid ha
        have HB := Lib.hid hb
        have HE := Lib.hid hE
        clear ha hb hE e0
        replace fP := fP.ext h3
        replace fP' := fP'.ext h3
        replace fG := fG.ext h3
        have h03 := h02.trans h3
        clear h02 h3
        go_wp2_with fail
        refine (impl_pix_eq P 4 cP L _ a _ fP.rd HP.out (by omega) hmc HA.out.symm).mono ?_
        rintro e w4 ⟨rfl, h4⟩
        go_wp2_with fail
        refine (impl_pix_eq P' 4 cP' L' _ b _ (fP'.ext h4).rd HP'.out (by omega) hmc' HB.out.symm).mono ?_
        rintro e w5 ⟨rfl, h5⟩
        go_wp2_with fail
        refine (impl_pix_eq G 4 cG R _ b _ (fG.ext (h4.trans h5)).rd Hr.out (by omega) hcG HE.out).mono ?_
        rintro e w6 ⟨rfl, h6⟩
        go_wp2_with fail
        refine (impl_pix_eq P 4 cP L _ a _ (fP.ext (h4.trans (h5.trans h6))).rd HP.out (by omega) hmc HA.out.symm).mono ?_
        rintro e w7 ⟨rfl, h7⟩
        go_wp2_with fail
        refine (spec_pix_eq P 4 cP L _ a _ (fP.ext (h4.trans (h5.trans (h6.trans h7)))).rd HP.out (by omega) hmc HA.out.symm).mono ?_
        rintro e w8 ⟨rfl, h8⟩
        go_wp2
        go_ret
        exact ⟨rfl, h03.trans (h4.trans (h5.trans (h6.trans (h7.trans h8))))⟩
end Go.Proofs.Ytjhnhmjnhnighaa
