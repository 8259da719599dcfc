/-
  The walk of the law on ControlledMatrix. No conditions.
-/
import Derived.Test.YtkcbkbpjaccpgaaCM
import Derived.Test.YtkcbkbpjaccpgaaSS2
set_option linter.unusedSimpArgs false
set_option linter.unusedVariables false
namespace Go.Proofs.Ytkcbkbpjaccpgaa
open Go.RowKit
def CmSpec (Q : Int) (LL : List (List Int)) (n : Nat) (ok : Bool) (RR : List (List Int)) : Prop := (cmAll Q LL n ∧ ok = true ∧ RR = cmTo Q.toNat n LL n) ∨ (¬ cmAll Q LL n ∧ ok = false ∧ RR = [])
theorem impl_cmat (Q : Int) (A : Option Addr) (n c : Nat) (LL : List (List Int)) (vs : List Value) (w : World) (hA : Rd2 w 5 A LL vs) (hl : LL.length = n) (hn : n ≤ 1048576) (hs : ∀ j, (LL.getD j []).length ≤ 1048576 * 5) (ok : Bool) (RR : List (List Int)) (hR : CmSpec Q LL n ok RR) :
    Calls Try.prog 7 #[.int .i64 Q, .slice A n c] w fun e w' => ∃ G cG vs', e = .returned (.tuple #[.slice G RR.length cG, .bool ok]) ∧ Fr2 w' 5 w.heap.size w'.heap.size G RR vs' ∧ Ext w w' := by
  have no : ¬ cmAll Q LL n → ∀ e w', CmNo w e w' → ∃ G cG vs', e = .returned (.tuple #[.slice G RR.length cG, .bool ok]) ∧ Fr2 w' 5 w.heap.size w'.heap.size G RR vs' ∧ Ext w w' := by
    intro h e w' ⟨G, cG, h1, h2⟩
    obtain ⟨h3, _⟩ | ⟨_, rfl, rfl⟩ := hR
    · exact absurd h3 h
    · exact ⟨G, cG, [], h1, Fr2.nil6 _ _ _ _ _, h2⟩
  cases hv : vM LL n with
  | false => exact (impl_cm_inv Q A n c LL vs w hA hl hn hs hv).mono fun e w' h => no (fun hc => by rw [hc.1] at hv; cases hv) e w' h
  | true =>
    by_cases hq : 0 ≤ Q ∧ Q ≤ qc n - 1
    · obtain ⟨q, rfl⟩ := Int.eq_ofNat_of_zero_le hq.1
      refine (impl_cm_in q A n c LL vs w hA hl hs hv hq.2).mono fun e w' h => ?_
      obtain ⟨h1, h2⟩ | ⟨h1, G, cG, vs', h2, h3, h4⟩ := h
      · exact no (fun hc => h1 (by have := hc.2.2.2; simpa using this)) e w' h2
      · obtain ⟨_, rfl, rfl⟩ | ⟨h5, _⟩ := hR
        · simp only [Int.toNat_natCast]
          rw [(cmTo_sq q n LL n (Nat.le_refl _)).1]
          exact ⟨G, cG, vs', h2, h3, h4⟩
        · exact absurd ⟨hv, hq.1, hq.2, by simpa using h1⟩ h5
    · exact (impl_cm_q Q A n c LL vs w hA hl hn hs hv hq).mono fun e w' h => no (fun hc => hq ⟨hc.2.1, hc.2.2.1⟩) e w' h
theorem spec_cmat (Q : Int) (A : Option Addr) (n c : Nat) (LL : List (List Int)) (vs : List Value) (w : World) (hA : Rd2 w 5 A LL vs) (hl : LL.length = n) (hn : n ≤ 1048576) (hs : ∀ j, (LL.getD j []).length ≤ 1048576 * 5) (ok : Bool) (RR : List (List Int)) (hR : CmSpec Q LL n ok RR) :
    Calls Try.prog 5 #[.int .i64 Q, .slice A n c] w fun e w' => ∃ G cG vs', e = .returned (.tuple #[.slice G RR.length cG, .bool ok]) ∧ Fr2 w' 5 w.heap.size w'.heap.size G RR vs' ∧ Ext w w' := by
  have no : ¬ cmAll Q LL n → ∀ e w', CmNo w e w' → ∃ G cG vs', e = .returned (.tuple #[.slice G RR.length cG, .bool ok]) ∧ Fr2 w' 5 w.heap.size w'.heap.size G RR vs' ∧ Ext w w' := by
    intro h e w' ⟨G, cG, h1, h2⟩
    obtain ⟨h3, _⟩ | ⟨_, rfl, rfl⟩ := hR
    · exact absurd h3 h
    · exact ⟨G, cG, [], h1, Fr2.nil6 _ _ _ _ _, h2⟩
  cases hv : vM LL n with
  | false => exact (spec_cm_inv Q A n c LL vs w hA hl hn hs hv).mono fun e w' h => no (fun hc => by rw [hc.1] at hv; cases hv) e w' h
  | true =>
    by_cases hq : 0 ≤ Q ∧ Q ≤ qc n - 1
    · obtain ⟨q, rfl⟩ := Int.eq_ofNat_of_zero_le hq.1
      refine (spec_cm_in q A n c LL vs w hA hl hs hv hq.2).mono fun e w' h => ?_
      obtain ⟨h1, h2⟩ | ⟨h1, G, cG, vs', h2, h3, h4⟩ := h
      · exact no (fun hc => h1 (by have := hc.2.2.2; simpa using this)) e w' h2
      · obtain ⟨_, rfl, rfl⟩ | ⟨h5, _⟩ := hR
        · simp only [Int.toNat_natCast]
          rw [(cmTo_sq q n LL n (Nat.le_refl _)).1]
          exact ⟨G, cG, vs', h2, h3, h4⟩
        · exact absurd ⟨hv, hq.1, hq.2, by simpa using h1⟩ h5
    · exact (spec_cm_q Q A n c LL vs w hA hl hn hs hv hq).mono fun e w' h => no (fun hc => hq ⟨hc.2.1, hc.2.2.1⟩) e w' h
theorem cm_small {Q : Int} {LL : List (List Int)} {n : Nat} {ok : Bool} {RR : List (List Int)} (h : CmSpec Q LL n ok RR) : RR.length ≤ 16 ∧ ∀ j, (RR.getD j []).length ≤ 80 := by
  obtain ⟨h, rfl, rfl⟩ | ⟨_, rfl, rfl⟩ := h
  · have hq := qc_cases n
    have h1 := h.2.1
    have h2 := h.2.2.1
    have hn : n ≤ 16 := by omega
    have hs := cmTo_sq Q.toNat n LL n (Nat.le_refl _)
    refine ⟨by rw [hs.1]; exact hn, fun j => ?_⟩
    rcases Nat.lt_or_ge j n with hj | hj
    · rw [sq_getD hs hj]; omega
    · rw [List.getD_eq_getElem?_getD, List.getElem?_eq_none (by rw [hs.1]; exact hj)]; simp
  · exact ⟨by simp, fun j => by simp⟩
theorem tot_le6 (b : Nat) : ∀ (LL : List (List Int)), (∀ j, (LL.getD j []).length ≤ b) → tot LL ≤ LL.length * b
  | [], _ => by simp [tot]
  | R :: t, h => by
    have h0 := h 0
    have := tot_le6 b t (fun j => by have := h (j + 1); simpa using this)
    simp at h0
    simp only [tot, List.length_cons, Nat.succ_mul]
    omega
set_option maxRecDepth 20000 in
set_option maxHeartbeats 3200000 in
theorem walk_FnExactControlledMatrix (w : World) (Q : Int) (wQ : (Lit.int .i64 Q).wf = true) (A : Option Addr) (n c : Nat) (LL : List (List Int)) (vs : List Value) (rd : Rd2 w 5 A LL vs) (hl : LL.length = n) (hn : n ≤ maxLen) (hs : ∀ j, (LL.getD j []).length ≤ maxLen * 5) (wl : ∀ R ∈ LL, ∀ x ∈ R, (Lit.int .i64 x).wf = true) :
    Calls Try.prog 3 #[.int .i64 Q, .slice A n c] w fun e w' => e = .returned (.bool true) ∧ Ext w w' := by
  clear wl wQ
  have HL := Lib.hid hl
  have HS := Lib.hid hs
  clear hl hs
  unfold maxLen at hn
  obtain ⟨ok, RR, hR⟩ : ∃ (ok : Bool) (RR : List (List Int)), CmSpec Q LL n ok RR := by
    by_cases h : cmAll Q LL n
    · exact ⟨_, _, .inl ⟨h, rfl, rfl⟩⟩
    · exact ⟨_, _, .inr ⟨h, rfl, rfl⟩⟩
  obtain ⟨hd16, hrow⟩ := cm_small hR
  have hT0 := tot_le6 80 RR hrow
  have HR := Lib.hid hR
  have HROW := Lib.hid hrow
  obtain ⟨d, hd⟩ : ∃ d, d = RR.length := ⟨_, rfl⟩
  rw [← hd] at hd16 hT0
  have HLd := Lib.hid hd.symm
  obtain ⟨T, hT⟩ : ∃ T, T = tot RR := ⟨_, rfl⟩
  rw [← hT] at hT0
  have hTb : T ≤ 1280 := by omega
  have HT := Lib.hid hT.symm
  clear hR hrow hd hT hT0
  have hok : (ok != ok) = false := by simp
  have HEQr := Lib.hid (fun G G' cG cG' vs vs' W (h1 : Rd2 W 5 G RR vs) (h2 : Rd2 W 5 G' RR vs') => eqDOmegaSS_any G G' d d cG cG' RR RR vs vs' W h1 h2 HLd.out HLd.out (by omega) (by omega) (fun j => by have := HROW.out j; omega) (fun j => by have := HROW.out j; omega))
  have HMKr := Lib.hid (fun G cG lo hi vs W (h1 : Fr2 W 5 lo hi G RR vs) => markDOmegaSS_any G d cG lo hi RR vs 1 W h1 HLd.out (by omega) (by omega) (by rw [HT.out]; omega) (by rw [HT.out]; omega) (fun j => by have := HROW.out j; omega))
  have HHDr := Lib.hid (fun G cG vs W (h1 : Rd2 W 5 G (mrows 1 RR) vs) => heldDOmegaSS_any G d cG RR vs 1 W h1 HLd.out (by omega) (by omega) (by rw [HT.out]; omega) (by rw [HT.out]; omega) (fun j => by have := HROW.out j; omega))
  rw [HT.out] at HMKr HHDr
  simp only [decide_true] at HEQr
  go_enter Try.func3, Try.ntmps3
  go_wp2_with fail
  refine (szDOmegaSS_any A n c LL vs _ rd HL.out hn (fun j => by have := HS.out j; unfold maxLen at this; omega)).mono ?_
  rintro e w1 ⟨h01, rfl | ⟨left, hl0, hl1, rfl, hn2, htot⟩⟩
  · go_wp2
    go_ret
    exact ⟨rfl, h01⟩
  · have HTL := Lib.hid htot
    have HRWL : Hid (∀ j, (LL.getD j []).length ≤ 1048576 * 5) := by show ∀ j, _; intro j; have := row_le_tot LL j; have := HTL.out; omega
    obtain ⟨U, hU⟩ : ∃ U, U = tot LL := ⟨_, rfl⟩
    have HUE := Lib.hid hU.symm
    have hU4 : U ≤ 5242880 := by rw [hU]; have := HTL.out; omega
    clear htot hU
    have HEQ := Lib.hid (fun G G' cG cG' vs vs' W (h1 : Rd2 W 5 G LL vs) (h2 : Rd2 W 5 G' LL vs') => eqDOmegaSS_any G G' n n cG cG' LL LL vs vs' W h1 h2 HL.out HL.out (by omega) (by omega) (fun j => by have := HRWL.out j; omega) (fun j => by have := HRWL.out j; omega))
    have HMK := Lib.hid (fun G cG lo hi vs W (h1 : Fr2 W 5 lo hi G LL vs) => markDOmegaSS_any G n cG lo hi LL vs 1 W h1 HL.out (by omega) (by omega) (by rw [HUE.out]; omega) (by rw [HUE.out]; omega) (fun j => by have := HRWL.out j; omega))
    have HTO := Lib.hid (fun W (h1 : Rd2 W 5 A LL vs) => toDOmegaSS_any A n c LL vs W h1 HL.out hn2 (fun j => by have := HRWL.out j; omega))
    have HCs := Lib.hid (fun B vs' W (h1 : Rd2 W 5 B LL vs') => spec_cmat Q B n n LL vs' W h1 HL.out hn2 HRWL.out ok RR HR.out)
    have HCi := Lib.hid (fun B vs' W (h1 : Rd2 W 5 B LL vs') => impl_cmat Q B n n LL vs' W h1 HL.out hn2 HRWL.out ok RR HR.out)
    rw [HUE.out] at HMK
    rw [HLd.out] at HCs HCi
    simp only [decide_true] at HEQ
    have hnl : ¬ (left < 0) := by omega
    have zz1 := h01.size
    go_wp2_with fail
    refine (HTO.out _ (rd.ext h01)).mono ?_
    rintro e w2 ⟨B1, v1, rfl, fB1, cB1, h2⟩
    have zz2 := h2.size
    have h02 := h01.trans h2
    go_wp2_with fail
    refine (HCs.out B1 v1 _ fB1.rd).mono ?_
    rintro e w3 ⟨G, cG, vG, rfl, fG, h3⟩
    have zz3 := h3.size
    have h03 := h02.trans h3
    clear fB1 cB1 h2 h3 h01 h02
    go_wp2_with fail
    refine (HTO.out _ (rd.ext h03)).mono ?_
    rintro e w4 ⟨D, vD, rfl, fD, cD, h4⟩
    have zz4 := h4.size
    replace fG := fG.ext h4
    have h04 := h03.trans h4
    clear h4 h03
    go_wp2_with fail
    refine (HCi.out D vD _ fD.rd).mono ?_
    rintro e w5 ⟨G', cG', vG', rfl, fG', h5⟩
    have zz5 := h5.size
    replace fG := fG.ext h5
    replace fD := fD.ext h5
    have h05 := h04.trans h5
    clear h5 h04
    go_wp2_with fail
    refine (HEQr.out G' G cG' cG vG' vG _ fG'.rd fG.rd).mono ?_
    rintro e w6 ⟨rfl, h6⟩
    have zz6 := h6.size
    replace fG := fG.ext h6
    replace fD := fD.ext h6
    replace fG' := fG'.ext h6
    have h06 := h05.trans h6
    clear h6 h05
    go_wp2_with fail
    refine (HTO.out _ (rd.ext h06)).mono ?_
    rintro e w7 ⟨E, vE, rfl, fE, cE, h7⟩
    go_wp2_with fail
    refine (HEQ.out D E n n vD vE _ (fD.rd.ext h7) fE.rd).mono ?_
    rintro e w7c ⟨rfl, h7c⟩
    have e7 := h7.trans h7c
    have zz7 := e7.size
    replace fG := fG.ext e7
    replace fD := fD.ext e7
    replace fG' := fG'.ext e7
    have h07 := h06.trans e7
    clear fE h7 h7c e7 h06
    go_wp2_with fail
    refine (HMK.out D n _ _ vD _ fD).mono ?_
    rintro e w8 ⟨rfl, _, ch1⟩
    replace fG := fG.chg ch1 (.inl (by omega))
    replace fG' := fG'.chg ch1 (.inr (by omega))
    have h08 := h07.chg ch1 (by omega)
    have zz8 := ch1.size
    clear ch1 fD h07
    have hneg : decide ((1 : Int) + (U : Int) < 0) = false := by simp; omega
    go_wp2_with fail
    refine (HEQr.out G' G cG' cG vG' vG _ fG'.rd fG.rd).mono ?_
    rintro e w9 ⟨rfl, h9⟩
    replace fG := fG.ext h9
    replace fG' := fG'.ext h9
    have h09 := h08.trans h9
    have zz9 := h9.size
    clear h9 h08
    go_wp2_with fail
    refine (HMKr.out G' cG' _ _ vG' _ fG').mono ?_
    rintro e w10 ⟨rfl, fM, ch1⟩
    replace fG := fG.chg ch1 (.inl (by omega))
    have h0a := h09.chg ch1 (by omega)
    clear ch1 fG' h09
    have hlt : ¬ (1 + (T : Int) < 0) := by omega
    have hne : ((1 + (T : Int)) != (1 + (T : Int))) = false := by simp
    go_wp2_with fail
    refine (HHDr.out G' cG' vG' _ fM.rd).mono ?_
    rintro e w11 ⟨rfl, h11⟩
    replace fG := fG.ext h11
    replace fM := fM.ext h11
    have h0b := h0a.trans h11
    clear h11 h0a
    go_wp2_with fail
    refine (HTO.out _ (rd.ext h0b)).mono ?_
    rintro e w12 ⟨B1, vB, rfl, fB, cB, h12⟩
    go_wp2_with fail
    refine (HCi.out B1 vB _ fB.rd).mono ?_
    rintro e w13 ⟨G2, cG2, vs2, rfl, fG2, h13⟩
    replace fG := fG.ext (h12.trans h13)
    replace fM := fM.ext (h12.trans h13)
    have h0c := h0b.trans (h12.trans h13)
    clear h12 h13 h0b fB cB
    go_wp2_with fail
    refine (HEQr.out G2 G cG2 cG vs2 vG _ fG2.rd fG.rd).mono ?_
    rintro e w14 ⟨rfl, h14⟩
    have h0d := h0c.trans h14
    replace fM := fM.ext h14
    clear h14 h0c
    go_wp2_with fail
    refine (HHDr.out G' cG' vG' _ fM.rd).mono ?_
    rintro e w15 ⟨rfl, h15⟩
    go_wp2
    go_ret
    exact ⟨rfl, h0d.trans h15⟩
end Go.Proofs.Ytkcbkbpjaccpgaa
