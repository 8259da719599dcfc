/-
  The walk of the law on CircuitFromLayers. No conditions.
-/
import Derived.Test.YtohpgjkflgnfgaaFrom2
import Derived.Test.YtohpgjkflgnfgaaSS2
set_option linter.unusedSimpArgs false
set_option linter.unusedVariables false
namespace Go.Proofs.Ytohpgjkflgnfgaa
open Go.RowKit
theorem tot_mult (sz : Nat) : ∀ LL : List (List Int), (∀ (j : Nat) (R : List Int), LL[j]? = some R → ∃ m, R.length = m * sz) → ∃ q, tot LL = q * sz
  | [], _ => ⟨0, by simp [tot]⟩
  | R :: t, h => by
    obtain ⟨m, hm⟩ := h 0 R rfl
    obtain ⟨q, hq⟩ := tot_mult sz t (fun j S hS => h (j + 1) S (by simpa using hS))
    exact ⟨m + q, by simp [tot, hm, hq, Nat.add_mul]⟩
set_option maxRecDepth 20000 in
set_option maxHeartbeats 3200000 in
theorem walk_FnExactCircuitFromLayers (w : World) (N : Int) (wN : (Lit.int .i64 N).wf = true) (A : Option Addr) (n c : Nat) (LL : List (List Int)) (vs : List Value) (rd : Rd2 w 4 A LL vs) (hl : LL.length = n) (hn : n ≤ maxLen) (hs : ∀ j, (LL.getD j []).length ≤ maxLen * 4) (wl : ∀ R ∈ LL, ∀ x ∈ R, (Lit.int .i64 x).wf = true) :
    Calls Try.prog 5 #[.int .i64 N, .slice A n c] w fun e w' => e = .returned (.bool true) ∧ Ext w w' := by
  clear wl wN
  have HL := Lib.hid hl
  have HS := Lib.hid hs
  clear hl hs
  unfold maxLen at hn
  obtain ⟨qT, hqT⟩ := tot_mult 4 LL (fun j R hR => by obtain ⟨B, m, c, _, h, _⟩ := rd.inner j R hR; exact ⟨m, h⟩)
  have HQT := Lib.hid hqT
  clear hqT
  obtain ⟨ok, N2, R, r, hR⟩ : ∃ (ok : Bool) (N2 : Int) (R : List Int) (r : Nat), (flOk N LL ∧ ok = true ∧ N2 = N ∧ R = LL.flatten ∧ r = tot LL / 4) ∨ (¬ flOk N LL ∧ ok = false ∧ N2 = 0 ∧ R = [] ∧ r = 0) := by
    by_cases h : flOk N LL
    · exact ⟨_, _, _, _, .inl ⟨h, rfl, rfl, rfl, rfl⟩⟩
    · exact ⟨_, _, _, _, .inr ⟨h, rfl, rfl, rfl, rfl⟩⟩
  have HR := Lib.hid hR
  clear hR
  have HRl : Hid (R.length = r * 4) := by
    show _ = _
    rcases HR.out with ⟨_, _, _, rfl, rfl⟩ | ⟨_, _, _, rfl, rfl⟩
    · rw [flat_len2, HQT.out]; omega
    · rfl
  have hok : (ok != ok) = false := by simp
  go_enter Try.func5, Try.ntmps5
  go_wp2_with fail
  refine (szGateSS_any A n c LL vs _ rd HL.out hn (fun j => by have := HS.out j; unfold maxLen at this; omega)).mono ?_
  rintro e w1 ⟨h01, rfl | ⟨left, hl0, hl1, rfl, hn2, htot⟩⟩
  · go_wp2
    go_ret
    exact ⟨rfl, h01⟩
  · have HT := Lib.hid htot
    have HROW : Hid (∀ j, (LL.getD j []).length ≤ 1048576 * 4) := by show ∀ j, _; intro j; have := row_le_tot LL j; have := HT.out; omega
    have hr2 : r ≤ 1048576 := by
      have := HT.out
      rcases HR.out with ⟨_, _, _, _, h⟩ | ⟨_, _, _, _, h⟩ <;> omega
    obtain ⟨T, hT⟩ : ∃ T, T = tot LL := ⟨_, rfl⟩
    have HTE := Lib.hid hT.symm
    have hT4 : T ≤ 4194304 := by rw [hT]; have := HT.out; omega
    clear htot hT
    have HEQ := Lib.hid (fun G G' cG cG' vs vs' W (h1 : Rd2 W 4 G LL vs) (h2 : Rd2 W 4 G' LL vs') => eqGateSS_any G G' n n cG cG' LL LL vs vs' W h1 h2 HL.out HL.out (by omega) (by omega) (fun j => by have := HROW.out j; omega) (fun j => by have := HROW.out j; omega))
    have HMK := Lib.hid (fun G cG lo hi vs W (h1 : Fr2 W 4 lo hi G LL vs) => markGateSS_any G n cG lo hi LL vs 1 W h1 HL.out (by omega) (by omega) (by rw [HTE.out]; omega) (by rw [HTE.out]; omega) (fun j => by have := HROW.out j; omega))
    have HTO := Lib.hid (fun W (h1 : Rd2 W 4 A LL vs) => toGateSS_any A n c LL vs W h1 HL.out hn2 (fun j => by have := HROW.out j; omega))
    have HCs := Lib.hid (fun B vs' W (h1 : Rd2 W 4 B LL vs') (h2 : capOk vs') => spec_fromL N B n LL vs' W h1 HL.out h2 hn2 (by rw [HTE.out]; exact hT4) ok N2 R r HR.out)
    have HCi := Lib.hid (fun B vs' W (h1 : Rd2 W 4 B LL vs') (h2 : capOk vs') => impl_fromL N B n LL vs' W h1 HL.out h2 hn2 (by rw [HTE.out]; exact hT4) ok N2 R r HR.out)
    rw [HTE.out] at HMK
    simp only [decide_true] at HEQ
    have hnl : ¬ (left < 0) := by omega
    have zz1 := h01.size
    go_wp2_with fail
    refine (HTO.out _ (rd.ext h01)).mono ?_
    rintro e w2 ⟨B1, v1, rfl, fB1, cB1, h2⟩
    have zz2 := h2.size
    have h02 := h01.trans h2
    go_wp2_with fail
    refine (HCs.out B1 v1 _ fB1.rd cB1).mono ?_
    rintro e w3 ⟨G, cG, rfl, fG, h3⟩
    have zz3 := h3.size
    have h03 := h02.trans h3
    clear fB1 cB1 h2 h3 h01 h02
    go_wp2_with fail
    refine (HTO.out _ (rd.ext (h03.alloc _))).mono ?_
    rintro e w4 ⟨D, vD, rfl, fD, cD, h4⟩
    have y := (Blk.new w3 29 #[.int .i64 N2, .slice G r cG]).ext h4
    obtain ⟨yc, yf, yz⟩ := y.all
    have zz4 := h4.size
    simp only [World.size_alloc] at fD zz4
    replace fG := fG.ext (Ext.trans ((Ext.refl w3).alloc _) h4)
    have h04 := (h03.alloc _).trans h4
    clear h4 h03
    go_wp2_with fail
    refine (HCi.out D vD _ fD.rd cD).mono ?_
    rintro e w5 ⟨G', cG', rfl, fG', h5⟩
    clear yc yf yz
    replace y := Blk.to y h5 (by repeat (first | exact Ext.refl _ | assumption | refine Ext.alloc ?_ _ | refine Ext.drew ?_ | refine Ext.drewN ?_ _ | refine Ext.trans ?_ (by assumption)))
    obtain ⟨yc, yf, yz⟩ := y.all
    have zz5 := h5.size
    replace fG := fG.ext h5
    replace fD := fD.ext h5
    have h05 := h04.trans h5
    clear h5 h04
    go_wp2_with fail
    refine (eqCircuit_any N2 N2 G' G r r cG' cG R R _ (fG'.ext ((Ext.refl _).alloc _)).rd (fG.ext ((Ext.refl _).alloc _)).rd HRl.out HRl.out (by omega) (by omega)).mono ?_
    rintro e w6 ⟨rfl, h6⟩
    clear yc yf yz
    replace y := Blk.to y h6 (by repeat (first | exact Ext.refl _ | assumption | refine Ext.alloc ?_ _ | refine Ext.drew ?_ | refine Ext.drewN ?_ _ | refine Ext.trans ?_ (by assumption)))
    obtain ⟨yc, yf, yz⟩ := y.all
    have u := (Blk.new w5 29 #[.int .i64 N2, .slice G' r cG']).ext h6
    obtain ⟨uc, uf, uz⟩ := u.all
    have zz6 := h6.size
    simp only [World.size_alloc] at zz6
    replace fG := fG.ext (Ext.trans ((Ext.refl w5).alloc _) h6)
    replace fD := fD.ext (Ext.trans ((Ext.refl w5).alloc _) h6)
    replace fG' := fG'.ext (Ext.trans ((Ext.refl w5).alloc _) h6)
    have h06 := (h05.alloc _).trans h6
    clear h6 h05
    go_wp2_with fail
    refine (HTO.out _ (rd.ext h06)).mono ?_
    rintro e w7 ⟨E, vE, rfl, fE, cE, h7⟩
    clear yc yf yz
    replace y := Blk.to y h7 (by repeat (first | exact Ext.refl _ | assumption | refine Ext.alloc ?_ _ | refine Ext.drew ?_ | refine Ext.drewN ?_ _ | refine Ext.trans ?_ (by assumption)))
    obtain ⟨yc, yf, yz⟩ := y.all
    clear uc uf uz
    replace u := Blk.to u h7 (by repeat (first | exact Ext.refl _ | assumption | refine Ext.alloc ?_ _ | refine Ext.drew ?_ | refine Ext.drewN ?_ _ | refine Ext.trans ?_ (by assumption)))
    obtain ⟨uc, uf, uz⟩ := u.all
    have zz7 := h7.size
    replace fG := fG.ext h7
    replace fD := fD.ext h7
    replace fG' := fG'.ext h7
    have h07 := h06.trans h7
    clear h7 h06
    go_wp2_with fail
    refine (HEQ.out D E n n vD vE _ fD.rd fE.rd).mono ?_
    rintro e w7c ⟨rfl, h7c⟩
    clear yc yf yz
    replace y := Blk.to y h7c (by repeat (first | exact Ext.refl _ | assumption | refine Ext.alloc ?_ _ | refine Ext.drew ?_ | refine Ext.drewN ?_ _ | refine Ext.trans ?_ (by assumption)))
    obtain ⟨yc, yf, yz⟩ := y.all
    clear uc uf uz
    replace u := Blk.to u h7c (by repeat (first | exact Ext.refl _ | assumption | refine Ext.alloc ?_ _ | refine Ext.drew ?_ | refine Ext.drewN ?_ _ | refine Ext.trans ?_ (by assumption)))
    obtain ⟨uc, uf, uz⟩ := u.all
    have zz7c := h7c.size
    replace fG := fG.ext h7c
    replace fD := fD.ext h7c
    replace fG' := fG'.ext h7c
    have h07c := h07.trans h7c
    clear h7c h07 fE
    go_wp2_with fail
    refine (HMK.out D n _ _ vD _ fD).mono ?_
    rintro e w8 ⟨rfl, _, ch1⟩
    clear yc yf yz uc uf uz
    replace y := y.chg ch1 (.inl (by omega))
    replace u := u.chg ch1 (.inr (by omega))
    replace fG := fG.chg ch1 (.inl (by omega))
    replace fG' := fG'.chg ch1 (.inr (by omega))
    have h08 := h07c.chg ch1 (by omega)
    have zz8 := ch1.size
    clear ch1 fD h07c
    obtain ⟨yc, yf, yz⟩ := y.all
    obtain ⟨uc, uf, uz⟩ := u.all
    have hneg : decide ((1 : Int) + (T : Int) < 0) = false := by simp; omega
    go_wp2_with fail
    refine (eqCircuit_any N2 N2 G' G r r cG' cG R R _ fG'.rd fG.rd HRl.out HRl.out (by omega) (by omega)).mono ?_
    rintro e w9 ⟨rfl, h9⟩
    clear yc yf yz
    replace y := Blk.to y h9 (by repeat (first | exact Ext.refl _ | assumption | refine Ext.alloc ?_ _ | refine Ext.drew ?_ | refine Ext.drewN ?_ _ | refine Ext.trans ?_ (by assumption)))
    obtain ⟨yc, yf, yz⟩ := y.all
    clear uc uf uz
    replace u := Blk.to u h9 (by repeat (first | exact Ext.refl _ | assumption | refine Ext.alloc ?_ _ | refine Ext.drew ?_ | refine Ext.drewN ?_ _ | refine Ext.trans ?_ (by assumption)))
    obtain ⟨uc, uf, uz⟩ := u.all
    replace fG := fG.ext h9
    replace fG' := fG'.ext h9
    have h09 := h08.trans h9
    have zz9 := h9.size
    clear h9 h08
    go_wp2_with fail
    refine (markCircuit_any N2 G' r cG' _ _ R 1 _ fG' HRl.out hr2 (by omega) (by omega)).mono ?_
    rintro e w10 ⟨rfl, fM, ch1⟩
    clear yc yf yz uc uf uz
    replace y := y.chg ch1 (.inl (by omega))
    replace u := u.chg ch1 (.inr (by omega))
    replace fG := fG.chg ch1 (.inl (by omega))
    have h0a := h09.chg ch1 (by omega)
    have zz10 := ch1.size
    clear ch1 fG' h09
    obtain ⟨yc, yf, yz⟩ := y.all
    obtain ⟨uc, uf, uz⟩ := u.all
    have hlt : ¬ (1 + (r : Int) * 4 < 0) := by omega
    have hne : ((1 + (r : Int) * 4) != (1 + (r : Int) * 4)) = false := by simp
    go_wp2_with fail
    refine (heldCircuit_any N2 G' r cG' 1 _ fM.rd hr2 (by omega) (by omega)).mono ?_
    rintro e w11 ⟨rfl, h11⟩
    clear yc yf yz
    replace y := Blk.to y h11 (by repeat (first | exact Ext.refl _ | assumption | refine Ext.alloc ?_ _ | refine Ext.drew ?_ | refine Ext.drewN ?_ _ | refine Ext.trans ?_ (by assumption)))
    obtain ⟨yc, yf, yz⟩ := y.all
    clear uc uf uz
    replace u := Blk.to u h11 (by repeat (first | exact Ext.refl _ | assumption | refine Ext.alloc ?_ _ | refine Ext.drew ?_ | refine Ext.drewN ?_ _ | refine Ext.trans ?_ (by assumption)))
    obtain ⟨uc, uf, uz⟩ := u.all
    replace fG := fG.ext h11
    replace fM := fM.ext h11
    have h0b := h0a.trans h11
    clear h11 h0a
    go_wp2_with fail
    refine (HTO.out _ (rd.ext h0b)).mono ?_
    rintro e w12 ⟨B1, vB, rfl, fB, cB, h12⟩
    clear yc yf yz
    replace y := Blk.to y h12 (by repeat (first | exact Ext.refl _ | assumption | refine Ext.alloc ?_ _ | refine Ext.drew ?_ | refine Ext.drewN ?_ _ | refine Ext.trans ?_ (by assumption)))
    obtain ⟨yc, yf, yz⟩ := y.all
    clear uc uf uz
    replace u := Blk.to u h12 (by repeat (first | exact Ext.refl _ | assumption | refine Ext.alloc ?_ _ | refine Ext.drew ?_ | refine Ext.drewN ?_ _ | refine Ext.trans ?_ (by assumption)))
    obtain ⟨uc, uf, uz⟩ := u.all
    go_wp2_with fail
    refine (HCi.out B1 vB _ fB.rd cB).mono ?_
    rintro e w13 ⟨G2, cG2, rfl, fG2, h13⟩
    clear yc yf yz
    replace y := Blk.to y h13 (by repeat (first | exact Ext.refl _ | assumption | refine Ext.alloc ?_ _ | refine Ext.drew ?_ | refine Ext.drewN ?_ _ | refine Ext.trans ?_ (by assumption)))
    obtain ⟨yc, yf, yz⟩ := y.all
    clear uc uf uz
    replace u := Blk.to u h13 (by repeat (first | exact Ext.refl _ | assumption | refine Ext.alloc ?_ _ | refine Ext.drew ?_ | refine Ext.drewN ?_ _ | refine Ext.trans ?_ (by assumption)))
    obtain ⟨uc, uf, uz⟩ := u.all
    replace fG := fG.ext (h12.trans h13)
    replace fM := fM.ext (h12.trans h13)
    have h0c := h0b.trans (h12.trans h13)
    clear h12 h13 h0b fB cB
    go_wp2_with fail
    refine (eqCircuit_any N2 N2 G2 G r r cG2 cG R R _ (fG2.ext ((Ext.refl _).alloc _)).rd (fG.ext ((Ext.refl _).alloc _)).rd HRl.out HRl.out (by omega) (by omega)).mono ?_
    rintro e w14 ⟨rfl, h14⟩
    clear yc yf yz
    replace y := Blk.to y h14 (by repeat (first | exact Ext.refl _ | assumption | refine Ext.alloc ?_ _ | refine Ext.drew ?_ | refine Ext.drewN ?_ _ | refine Ext.trans ?_ (by assumption)))
    obtain ⟨yc, yf, yz⟩ := y.all
    clear uc uf uz
    replace u := Blk.to u h14 (by repeat (first | exact Ext.refl _ | assumption | refine Ext.alloc ?_ _ | refine Ext.drew ?_ | refine Ext.drewN ?_ _ | refine Ext.trans ?_ (by assumption)))
    obtain ⟨uc, uf, uz⟩ := u.all
    have h0d := (h0c.alloc _).trans h14
    replace fM := fM.ext (Ext.trans ((Ext.refl w13).alloc _) h14)
    clear h14 h0c
    go_wp2_with fail
    refine (heldCircuit_any N2 G' r cG' 1 _ fM.rd hr2 (by omega) (by omega)).mono ?_
    rintro e w15 ⟨rfl, h15⟩
    go_wp2
    go_ret
    exact ⟨rfl, h0d.trans h15⟩
end Go.Proofs.Ytohpgjkflgnfgaa
