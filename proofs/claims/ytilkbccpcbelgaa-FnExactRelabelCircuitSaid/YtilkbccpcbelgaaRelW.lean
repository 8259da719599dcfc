/-
  The walk of the law on RelabelCircuit. No conditions.
-/
import Derived.Test.YtilkbccpcbelgaaRel2
set_option linter.unusedSimpArgs false
set_option linter.unusedVariables false
namespace Go.Proofs.Ytilkbccpcbelgaa
open Go.RowKit
set_option maxRecDepth 20000 in
set_option maxHeartbeats 3200000 in
theorem walk_FnExactRelabelCircuit (w : World) (N : Int) (A : Option Addr) (n c : Nat) (L : List Int) (wN : (Lit.int .i64 N).wf = true) (rd : Rd w A (ints L)) (hl : L.length = n * 4) (hn : n ≤ maxLen) (wl : ∀ x ∈ L, (Lit.int .i64 x).wf = true)
    (B : Option Addr) (m cB : Nat) (p : List Int) (rdp : Rd w B (ints p)) (hp : p.length = m) (hm : m ≤ maxLen) (wp : ∀ x ∈ p, (Lit.int .i64 x).wf = true) :
    Calls Try.prog 6 #[.agg #[.int .i64 N, .slice A n c], .slice B m cB] w fun e w' => e = .returned (.bool true) ∧ Ext w w' := by
  clear wl wN wp
  have HL := Lib.hid hl
  have HP := Lib.hid hp
  clear hl hp
  unfold maxLen at hn hm
  by_cases hbm : (1048576 : Int) < m
  · go_enter Try.func6, Try.ntmps6
    go_wp2
    go_ret
    exact ⟨rfl, (by repeat (first | exact Ext.refl _ | assumption | refine Ext.alloc ?_ _ | refine Ext.drew ?_ | refine Ext.drewN ?_ _ | refine Ext.trans ?_ (by assumption)))⟩
  have hm2 : m ≤ 1048576 := by omega
  by_cases hbig : (1048576 : Int) - n < 0
  · have hz : szL 1048576 n = -1 := by unfold szL; simp [hbig]
    go_enter Try.func6, Try.ntmps6
    go_wp2_with fail
    refine (szCircuit_any _ _ _ _ _ _ hn (by omega) (by omega)).mono ?_
    rintro e w1 ⟨rfl, h1⟩
    go_wp2
    go_ret
    exact ⟨rfl, (by repeat (first | exact Ext.refl _ | assumption | refine Ext.alloc ?_ _ | refine Ext.drew ?_ | refine Ext.drewN ?_ _ | refine Ext.trans ?_ (by assumption)))⟩
  · have hz : szL 1048576 n = 1048576 - n := by unfold szL; simp [hbig]
    have hn2 : n ≤ 1048576 := by omega
    have hnn : ¬ ((1048576 : Int) - n < 0) := by omega
    obtain ⟨ok, N2, R, r, hR⟩ : ∃ (ok : Bool) (N2 : Int) (R : List Int) (r : Nat), (relOk N L n p ∧ ok = true ∧ N2 = N ∧ R = relC p L n ∧ r = n) ∨ (¬ relOk N L n p ∧ ok = false ∧ N2 = 0 ∧ R = [] ∧ r = 0) := by
      by_cases h : relOk N L n p
      · exact ⟨_, _, _, _, .inl ⟨h, rfl, rfl, rfl, rfl⟩⟩
      · exact ⟨_, _, _, _, .inr ⟨h, rfl, rfl, rfl, rfl⟩⟩
    have HR := Lib.hid hR
    clear hR
    have HRl : Hid (R.length = r * 4) := by
      show _ = _
      rcases HR.out with ⟨_, _, _, rfl, rfl⟩ | ⟨_, _, _, rfl, rfl⟩
      · rw [relC_length]
      · rfl
    have hr2 : r ≤ 1048576 := by
      rcases HR.out with ⟨_, _, _, _, h⟩ | ⟨_, _, _, _, h⟩ <;> omega
    have hok : (ok != ok) = false := by simp
    go_enter Try.func6, Try.ntmps6
    go_wp2_with fail
    refine (szCircuit_any _ _ _ _ _ _ hn (by omega) (by omega)).mono ?_
    rintro e w1 ⟨rfl, h1⟩
    have x := (Blk.new _ _ _).ext h1
    obtain ⟨xc, xf, xz⟩ := x.all
    have h01 : Ext w w1 := (by repeat (first | exact Ext.refl _ | assumption | refine Ext.alloc ?_ _ | refine Ext.drew ?_ | refine Ext.drewN ?_ _ | refine Ext.trans ?_ (by assumption)))
    have zz1 : w.heap.size + 1 ≤ w1.heap.size := xz
    clear h1
    go_wp2_with fail
    refine (toCircuit_any N A n c L _ (rd.ext h01) HL.out hn2).mono ?_
    rintro e w2 ⟨B1, rfl, fB1, h2⟩
    clear xc xf xz
    replace x := Blk.to x h2 (by repeat (first | exact Ext.refl _ | assumption | refine Ext.alloc ?_ _ | refine Ext.drew ?_ | refine Ext.drewN ?_ _ | refine Ext.trans ?_ (by assumption)))
    obtain ⟨xc, xf, xz⟩ := x.all
    have zz2 := h2.size
    have h02 := h01.trans h2
    go_wp2_with fail
    refine (toIntS_any B m cB p _ (rdp.ext h02) HP.out hm2).mono ?_
    rintro e w2b ⟨B2, rfl, fB2, h2b⟩
    clear xc xf xz
    replace x := Blk.to x h2b (by repeat (first | exact Ext.refl _ | assumption | refine Ext.alloc ?_ _ | refine Ext.drew ?_ | refine Ext.drewN ?_ _ | refine Ext.trans ?_ (by assumption)))
    obtain ⟨xc, xf, xz⟩ := x.all
    have zz2b := h2b.size
    go_wp2_with fail
    refine (spec_relabel N B1 B2 n m L p _ (fB1.ext h2b).rd fB2.rd HL.out HP.out hn2 hm2 ok N2 R r HR.out).mono ?_
    rintro e w3 ⟨G, cG, rfl, fG, h3⟩
    clear xc xf xz
    replace x := Blk.to x h3 (by repeat (first | exact Ext.refl _ | assumption | refine Ext.alloc ?_ _ | refine Ext.drew ?_ | refine Ext.drewN ?_ _ | refine Ext.trans ?_ (by assumption)))
    obtain ⟨xc, xf, xz⟩ := x.all
    have zz3 := h3.size
    have h03 := h02.trans (h2b.trans h3)
    clear fB1 fB2 h2 h2b h3 h01 h02
    go_wp2_with fail
    refine (toCircuit_any N A n c L _ (rd.ext (h03.alloc _)) HL.out hn2).mono ?_
    rintro e w4 ⟨D, rfl, fD, h4⟩
    clear xc xf xz
    replace x := Blk.to x h4 (by repeat (first | exact Ext.refl _ | assumption | refine Ext.alloc ?_ _ | refine Ext.drew ?_ | refine Ext.drewN ?_ _ | refine Ext.trans ?_ (by assumption)))
    obtain ⟨xc, xf, xz⟩ := x.all
    have y := (Blk.new w3 28 #[.int .i64 N2, .slice G r cG]).ext h4
    obtain ⟨yc, yf, yz⟩ := y.all
    have zz4 := h4.size
    simp only [World.size_alloc] at fD zz4
    replace fG := fG.ext (Ext.trans ((Ext.refl w3).alloc _) h4)
    have h04 := (h03.alloc _).trans h4
    clear h4 h03
    go_wp2_with fail
    refine (toIntS_any B m cB p _ (rdp.ext (h04.alloc _)) HP.out hm2).mono ?_
    rintro e w4b ⟨D2, rfl, fD2, h4b⟩
    clear xc xf xz
    replace x := Blk.to x h4b (by repeat (first | exact Ext.refl _ | assumption | refine Ext.alloc ?_ _ | refine Ext.drew ?_ | refine Ext.drewN ?_ _ | refine Ext.trans ?_ (by assumption)))
    obtain ⟨xc, xf, xz⟩ := x.all
    clear yc yf yz
    replace y := Blk.to y h4b (by repeat (first | exact Ext.refl _ | assumption | refine Ext.alloc ?_ _ | refine Ext.drew ?_ | refine Ext.drewN ?_ _ | refine Ext.trans ?_ (by assumption)))
    obtain ⟨yc, yf, yz⟩ := y.all
    have z := (Blk.new w4 28 #[.int .i64 N, .slice D n n]).ext h4b
    obtain ⟨zc, zf, zz⟩ := z.all
    have zz4b := h4b.size
    simp only [World.size_alloc] at fD2 zz4b
    replace fG := fG.ext (Ext.trans ((Ext.refl w4).alloc _) h4b)
    replace fD := fD.ext (Ext.trans ((Ext.refl w4).alloc _) h4b)
    have h04b := (h04.alloc _).trans h4b
    clear h4b h04
    go_wp2_with fail
    refine (impl_relabel N D D2 n m L p _ fD.rd fD2.rd HL.out HP.out hn2 hm2 ok N2 R r HR.out).mono ?_
    rintro e w5 ⟨G', cG', rfl, fG', h5⟩
    clear xc xf xz
    replace x := Blk.to x h5 (by repeat (first | exact Ext.refl _ | assumption | refine Ext.alloc ?_ _ | refine Ext.drew ?_ | refine Ext.drewN ?_ _ | refine Ext.trans ?_ (by assumption)))
    obtain ⟨xc, xf, xz⟩ := x.all
    clear yc yf yz
    replace y := Blk.to y h5 (by repeat (first | exact Ext.refl _ | assumption | refine Ext.alloc ?_ _ | refine Ext.drew ?_ | refine Ext.drewN ?_ _ | refine Ext.trans ?_ (by assumption)))
    obtain ⟨yc, yf, yz⟩ := y.all
    clear zc zf zz
    replace z := Blk.to z h5 (by repeat (first | exact Ext.refl _ | assumption | refine Ext.alloc ?_ _ | refine Ext.drew ?_ | refine Ext.drewN ?_ _ | refine Ext.trans ?_ (by assumption)))
    obtain ⟨zc, zf, zz⟩ := z.all
    have zz5 := h5.size
    replace fG := fG.ext h5
    replace fD := fD.ext h5
    replace fD2 := fD2.ext h5
    have h05 := h04b.trans h5
    clear h5 h04b
    go_wp2_with fail
    refine (eqCircuit_any N2 N2 G' G r r cG' cG R R _ (fG'.ext ((Ext.refl _).alloc _)).rd (fG.ext ((Ext.refl _).alloc _)).rd HRl.out HRl.out (by omega) (by omega)).mono ?_
    rintro e w6 ⟨rfl, h6⟩
    clear xc xf xz
    replace x := Blk.to x h6 (by repeat (first | exact Ext.refl _ | assumption | refine Ext.alloc ?_ _ | refine Ext.drew ?_ | refine Ext.drewN ?_ _ | refine Ext.trans ?_ (by assumption)))
    obtain ⟨xc, xf, xz⟩ := x.all
    clear yc yf yz
    replace y := Blk.to y h6 (by repeat (first | exact Ext.refl _ | assumption | refine Ext.alloc ?_ _ | refine Ext.drew ?_ | refine Ext.drewN ?_ _ | refine Ext.trans ?_ (by assumption)))
    obtain ⟨yc, yf, yz⟩ := y.all
    clear zc zf zz
    replace z := Blk.to z h6 (by repeat (first | exact Ext.refl _ | assumption | refine Ext.alloc ?_ _ | refine Ext.drew ?_ | refine Ext.drewN ?_ _ | refine Ext.trans ?_ (by assumption)))
    obtain ⟨zc, zf, zz⟩ := z.all
    have u := (Blk.new w5 28 #[.int .i64 N2, .slice G' r cG']).ext h6
    obtain ⟨uc, uf, uz⟩ := u.all
    have zz6 := h6.size
    simp only [World.size_alloc] at zz6
    replace fG := fG.ext (Ext.trans ((Ext.refl w5).alloc _) h6)
    replace fD := fD.ext (Ext.trans ((Ext.refl w5).alloc _) h6)
    replace fD2 := fD2.ext (Ext.trans ((Ext.refl w5).alloc _) h6)
    replace fG' := fG'.ext (Ext.trans ((Ext.refl w5).alloc _) h6)
    have h06 := (h05.alloc _).trans h6
    clear h6 h05
    have p0 := xc 0
    have p1 := xc 1
    have q0 := zc 0
    have q1 := zc 1
    simp only [List.getElem?_toArray, List.getElem?_cons_zero, List.getElem?_cons_succ] at p0 p1 q0 q1
    clear xc xf xz yc yf yz zc zf zz uc uf uz
    go_wp2_with fail
    go_region_held3 (fun w' => w'.cell? ⟨w.heap.size, 0, none⟩ = some (.int .i64 N) ∧ w'.cell? ⟨w.heap.size, 1, none⟩ = some (.slice A n c) ∧ w'.cell? ⟨w4.heap.size, 0, none⟩ = some (.int .i64 N) ∧ w'.cell? ⟨w4.heap.size, 1, none⟩ = some (.slice D n n) ∧ Ext w6 w')
      (first | exact ⟨p0, p1, q0, q1, (Ext.refl w6).drew⟩ | (go_split_ands; exact ⟨Ext.cell hx (by assumption), Ext.cell hx (by assumption), Ext.cell hx (by assumption), Ext.cell hx (by assumption), Ext.trans (by assumption) hx⟩))
      (first | (go_at_call 15; go_split_ands; refine (toCircuit_any N A n c L _ (rd.ext (Ext.trans h06 (by assumption))) HL.out hn2).mono ?_; rintro e w' ⟨E, rfl, fE, hx⟩) | (go_at_call 17; go_split_ands; refine (eqCircuit_any N N D E n n n n L L _ (fD.ext (by assumption)).rd fE.rd HL.out HL.out (by omega) (by omega)).mono ?_; rintro e w7 ⟨rfl, hx⟩))
    go_split_ands
    have e6 : Ext w6 w7 := by assumption
    replace x := x.ext e6
    replace y := y.ext e6
    replace z := z.ext e6
    replace u := u.ext e6
    replace fD := fD.ext e6
    replace fD2 := fD2.ext e6
    replace fG := fG.ext e6
    replace fG' := fG'.ext e6
    have h07 := h06.trans e6
    have zz7 := Ext.size e6
    clear fE hx e6 p0 p1 q0 q1 h06
    obtain ⟨xc, xf, xz⟩ := x.all
    obtain ⟨yc, yf, yz⟩ := y.all
    obtain ⟨zc, zf, zz⟩ := z.all
    obtain ⟨uc, uf, uz⟩ := u.all
    go_wp2_with fail
    refine (toIntS_any B m cB p _ (rdp.ext h07) HP.out hm2).mono ?_
    rintro e w7b ⟨E2, rfl, fE2, h7b⟩
    go_wp2_with fail
    refine (eqIntS_any D2 E2 m m m m p p _ (fD2.ext h7b).rd fE2.rd HP.out HP.out (by omega) (by omega)).mono ?_
    rintro e w7c ⟨rfl, h7c⟩
    have e7 := h7b.trans h7c
    clear h7b h7c fE2
    replace x := x.ext e7
    replace y := y.ext e7
    replace z := z.ext e7
    replace u := u.ext e7
    replace fD := fD.ext e7
    replace fD2 := fD2.ext e7
    replace fG := fG.ext e7
    replace fG' := fG'.ext e7
    have h07c := h07.trans e7
    have zz7c := Ext.size e7
    clear xc xf xz yc yf yz zc zf zz uc uf uz e7 h07
    obtain ⟨xc, xf, xz⟩ := x.all
    obtain ⟨yc, yf, yz⟩ := y.all
    obtain ⟨zc, zf, zz⟩ := z.all
    obtain ⟨uc, uf, uz⟩ := u.all
    go_wp2_with fail
    refine (markCircuit_any N D n n _ _ L 1 _ fD HL.out hn2 (by omega) (by omega)).mono ?_
    rintro e w8 ⟨rfl, _, ch1⟩
    clear xc xf xz yc yf yz zc zf zz uc uf uz
    replace x := x.chg ch1 (.inl (by omega))
    replace y := y.chg ch1 (.inl (by omega))
    replace u := u.chg ch1 (.inr (by omega))
    replace fG := fG.chg ch1 (.inl (by omega))
    replace fG' := fG'.chg ch1 (.inr (by omega))
    replace fD2 := fD2.chg ch1 (.inr (by omega))
    have h08 := h07c.chg ch1 (by omega)
    have zz8 := ch1.size
    clear ch1 fD z h07c
    obtain ⟨xc, xf, xz⟩ := x.all
    obtain ⟨yc, yf, yz⟩ := y.all
    obtain ⟨uc, uf, uz⟩ := u.all
    go_wp2_with fail
    refine (markIntS_any D2 m m _ _ p (1 + (n : Int) * 4) _ fD2 HP.out (by omega) (by omega) (by omega)).mono ?_
    rintro e w8b ⟨rfl, _, ch1⟩
    clear xc xf xz yc yf yz uc uf uz
    replace x := x.chg ch1 (.inl (by omega))
    replace y := y.chg ch1 (.inl (by omega))
    replace u := u.chg ch1 (.inr (by omega))
    replace fG := fG.chg ch1 (.inl (by omega))
    replace fG' := fG'.chg ch1 (.inr (by omega))
    have h08b := h08.chg ch1 (by omega)
    have zz8b := ch1.size
    clear ch1 fD2 h08
    obtain ⟨xc, xf, xz⟩ := x.all
    obtain ⟨yc, yf, yz⟩ := y.all
    obtain ⟨uc, uf, uz⟩ := u.all
    have hneg : decide ((1 : Int) + (n : Int) * 4 + (m : Int) < 0) = false := by simp; omega
    go_wp2_with fail
    refine (eqCircuit_any N2 N2 G' G r r cG' cG R R _ fG'.rd fG.rd HRl.out HRl.out (by omega) (by omega)).mono ?_
    rintro e w9 ⟨rfl, h9⟩
    clear xc xf xz
    replace x := Blk.to x h9 (by repeat (first | exact Ext.refl _ | assumption | refine Ext.alloc ?_ _ | refine Ext.drew ?_ | refine Ext.drewN ?_ _ | refine Ext.trans ?_ (by assumption)))
    obtain ⟨xc, xf, xz⟩ := x.all
    clear yc yf yz
    replace y := Blk.to y h9 (by repeat (first | exact Ext.refl _ | assumption | refine Ext.alloc ?_ _ | refine Ext.drew ?_ | refine Ext.drewN ?_ _ | refine Ext.trans ?_ (by assumption)))
    obtain ⟨yc, yf, yz⟩ := y.all
    clear uc uf uz
    replace u := Blk.to u h9 (by repeat (first | exact Ext.refl _ | assumption | refine Ext.alloc ?_ _ | refine Ext.drew ?_ | refine Ext.drewN ?_ _ | refine Ext.trans ?_ (by assumption)))
    obtain ⟨uc, uf, uz⟩ := u.all
    replace fG := fG.ext h9
    replace fG' := fG'.ext h9
    have h09 := h08b.trans h9
    have zz9 := h9.size
    clear h9 h08b
    go_wp2_with fail
    refine (markCircuit_any N2 G' r cG' _ _ R 1 _ fG' HRl.out hr2 (by omega) (by omega)).mono ?_
    rintro e w10 ⟨rfl, fM, ch1⟩
    clear xc xf xz yc yf yz uc uf uz
    replace x := x.chg ch1 (.inl (by omega))
    replace y := y.chg ch1 (.inl (by omega))
    replace u := u.chg ch1 (.inr (by omega))
    replace fG := fG.chg ch1 (.inl (by omega))
    have h0a := h09.chg ch1 (by omega)
    have zz10 := ch1.size
    clear ch1 fG' h09
    obtain ⟨xc, xf, xz⟩ := x.all
    obtain ⟨yc, yf, yz⟩ := y.all
    obtain ⟨uc, uf, uz⟩ := u.all
    have hlt : ¬ (1 + (r : Int) * 4 < 0) := by omega
    have hne : ((1 + (r : Int) * 4) != (1 + (r : Int) * 4)) = false := by simp
    go_wp2_with fail
    refine (heldCircuit_any N2 G' r cG' 1 _ fM.rd hr2 (by omega) (by omega)).mono ?_
    rintro e w11 ⟨rfl, h11⟩
    clear xc xf xz
    replace x := Blk.to x h11 (by repeat (first | exact Ext.refl _ | assumption | refine Ext.alloc ?_ _ | refine Ext.drew ?_ | refine Ext.drewN ?_ _ | refine Ext.trans ?_ (by assumption)))
    obtain ⟨xc, xf, xz⟩ := x.all
    clear yc yf yz
    replace y := Blk.to y h11 (by repeat (first | exact Ext.refl _ | assumption | refine Ext.alloc ?_ _ | refine Ext.drew ?_ | refine Ext.drewN ?_ _ | refine Ext.trans ?_ (by assumption)))
    obtain ⟨yc, yf, yz⟩ := y.all
    clear uc uf uz
    replace u := Blk.to u h11 (by repeat (first | exact Ext.refl _ | assumption | refine Ext.alloc ?_ _ | refine Ext.drew ?_ | refine Ext.drewN ?_ _ | refine Ext.trans ?_ (by assumption)))
    obtain ⟨uc, uf, uz⟩ := u.all
    replace fG := fG.ext h11
    replace fM := fM.ext h11
    have h0b := h0a.trans h11
    clear h11 h0a
    go_wp2_with fail
    refine (toCircuit_any N A n c L _ (rd.ext h0b) HL.out hn2).mono ?_
    rintro e w12 ⟨B1, rfl, fB, h12⟩
    clear xc xf xz
    replace x := Blk.to x h12 (by repeat (first | exact Ext.refl _ | assumption | refine Ext.alloc ?_ _ | refine Ext.drew ?_ | refine Ext.drewN ?_ _ | refine Ext.trans ?_ (by assumption)))
    obtain ⟨xc, xf, xz⟩ := x.all
    clear yc yf yz
    replace y := Blk.to y h12 (by repeat (first | exact Ext.refl _ | assumption | refine Ext.alloc ?_ _ | refine Ext.drew ?_ | refine Ext.drewN ?_ _ | refine Ext.trans ?_ (by assumption)))
    obtain ⟨yc, yf, yz⟩ := y.all
    clear uc uf uz
    replace u := Blk.to u h12 (by repeat (first | exact Ext.refl _ | assumption | refine Ext.alloc ?_ _ | refine Ext.drew ?_ | refine Ext.drewN ?_ _ | refine Ext.trans ?_ (by assumption)))
    obtain ⟨uc, uf, uz⟩ := u.all
    go_wp2_with fail
    refine (toIntS_any B m cB p _ (rdp.ext (h0b.trans h12)) HP.out hm2).mono ?_
    rintro e w12b ⟨B2, rfl, fB2, h12b⟩
    clear xc xf xz
    replace x := Blk.to x h12b (by repeat (first | exact Ext.refl _ | assumption | refine Ext.alloc ?_ _ | refine Ext.drew ?_ | refine Ext.drewN ?_ _ | refine Ext.trans ?_ (by assumption)))
    obtain ⟨xc, xf, xz⟩ := x.all
    clear yc yf yz
    replace y := Blk.to y h12b (by repeat (first | exact Ext.refl _ | assumption | refine Ext.alloc ?_ _ | refine Ext.drew ?_ | refine Ext.drewN ?_ _ | refine Ext.trans ?_ (by assumption)))
    obtain ⟨yc, yf, yz⟩ := y.all
    clear uc uf uz
    replace u := Blk.to u h12b (by repeat (first | exact Ext.refl _ | assumption | refine Ext.alloc ?_ _ | refine Ext.drew ?_ | refine Ext.drewN ?_ _ | refine Ext.trans ?_ (by assumption)))
    obtain ⟨uc, uf, uz⟩ := u.all
    go_wp2_with fail
    refine (impl_relabel N B1 B2 n m L p _ (fB.ext h12b).rd fB2.rd HL.out HP.out hn2 hm2 ok N2 R r HR.out).mono ?_
    rintro e w13 ⟨G2, cG2, rfl, fG2, h13⟩
    clear xc xf xz
    replace x := Blk.to x h13 (by repeat (first | exact Ext.refl _ | assumption | refine Ext.alloc ?_ _ | refine Ext.drew ?_ | refine Ext.drewN ?_ _ | refine Ext.trans ?_ (by assumption)))
    obtain ⟨xc, xf, xz⟩ := x.all
    clear yc yf yz
    replace y := Blk.to y h13 (by repeat (first | exact Ext.refl _ | assumption | refine Ext.alloc ?_ _ | refine Ext.drew ?_ | refine Ext.drewN ?_ _ | refine Ext.trans ?_ (by assumption)))
    obtain ⟨yc, yf, yz⟩ := y.all
    clear uc uf uz
    replace u := Blk.to u h13 (by repeat (first | exact Ext.refl _ | assumption | refine Ext.alloc ?_ _ | refine Ext.drew ?_ | refine Ext.drewN ?_ _ | refine Ext.trans ?_ (by assumption)))
    obtain ⟨uc, uf, uz⟩ := u.all
    replace fG := fG.ext (h12.trans (h12b.trans h13))
    replace fM := fM.ext (h12.trans (h12b.trans h13))
    have h0c := h0b.trans (h12.trans (h12b.trans h13))
    clear h12 h12b h13 h0b fB fB2
    go_wp2_with fail
    refine (eqCircuit_any N2 N2 G2 G r r cG2 cG R R _ (fG2.ext ((Ext.refl _).alloc _)).rd (fG.ext ((Ext.refl _).alloc _)).rd HRl.out HRl.out (by omega) (by omega)).mono ?_
    rintro e w14 ⟨rfl, h14⟩
    clear xc xf xz
    replace x := Blk.to x h14 (by repeat (first | exact Ext.refl _ | assumption | refine Ext.alloc ?_ _ | refine Ext.drew ?_ | refine Ext.drewN ?_ _ | refine Ext.trans ?_ (by assumption)))
    obtain ⟨xc, xf, xz⟩ := x.all
    clear yc yf yz
    replace y := Blk.to y h14 (by repeat (first | exact Ext.refl _ | assumption | refine Ext.alloc ?_ _ | refine Ext.drew ?_ | refine Ext.drewN ?_ _ | refine Ext.trans ?_ (by assumption)))
    obtain ⟨yc, yf, yz⟩ := y.all
    clear uc uf uz
    replace u := Blk.to u h14 (by repeat (first | exact Ext.refl _ | assumption | refine Ext.alloc ?_ _ | refine Ext.drew ?_ | refine Ext.drewN ?_ _ | refine Ext.trans ?_ (by assumption)))
    obtain ⟨uc, uf, uz⟩ := u.all
    have h0d := (h0c.alloc _).trans h14
    replace fM := fM.ext (Ext.trans ((Ext.refl w13).alloc _) h14)
    clear h14 h0c
    go_wp2_with fail
    refine (heldCircuit_any N2 G' r cG' 1 _ fM.rd hr2 (by omega) (by omega)).mono ?_
    rintro e w15 ⟨rfl, h15⟩
    go_wp2
    go_ret
    exact ⟨rfl, h0d.trans h15⟩
end Go.Proofs.Ytilkbccpcbelgaa
