/-
  The walk of the law on CircuitLayers. No conditions.
-/
import Derived.Test.YtohpgjkflgnfgaaLay4
import Derived.Test.YtohpgjkflgnfgaaSS
set_option linter.unusedSimpArgs false
set_option linter.unusedVariables false
namespace Go.Proofs.Ytohpgjkflgnfgaa
open Go.RowKit
theorem tot_le (b : Nat) : ∀ (LL : List (List Int)), (∀ j, (LL.getD j []).length ≤ b) → tot LL ≤ LL.length * b
  | [], _ => by simp [tot]
  | R :: t, h => by
    have h0 := h 0
    have := tot_le b t (fun j => by have := h (j + 1); simpa using this)
    simp at h0
    simp only [tot, List.length_cons, Nat.succ_mul]
    omega
theorem lays_row (N : Int) (L : List Int) (n j : Nat) : ((lays N L n).getD j []).length ≤ 240 := by
  unfold lays
  split
  · rename_i h
    have := layersTo_row L n j
    have := validC_n h
    omega
  · simp
theorem lays_tot (N : Int) (L : List Int) (n : Nat) : tot (lays N L n) ≤ 14400 := by
  have h := tot_le 240 (lays N L n) (lays_row N L n)
  have := lays_len N L n
  omega
set_option maxRecDepth 20000 in
set_option maxHeartbeats 3200000 in
theorem walk_FnExactCircuitLayers (w : World) (N : Int) (A : Option Addr) (n c : Nat) (L : List Int) (wN : (Lit.int .i64 N).wf = true) (rd : Rd w A (ints L)) (hl : L.length = n * 4) (hn : n ≤ maxLen) (wl : ∀ x ∈ L, (Lit.int .i64 x).wf = true) :
    Calls Try.prog 4 #[.agg #[.int .i64 N, .slice A n c]] w fun e w' => e = .returned (.bool true) ∧ Ext w w' := by
  clear wl wN
  have HL := Lib.hid hl
  clear hl
  unfold maxLen at hn
  by_cases hbig : (1048576 : Int) - n < 0
  · have hz : szL 1048576 n = -1 := by unfold szL; simp [hbig]
    go_enter Try.func4, Try.ntmps4
    go_wp2_with fail
    refine (szCircuit_any _ _ _ _ _ _ hn (by omega) (by omega)).mono ?_
    rintro e w1 ⟨rfl, h1⟩
    go_wp2
    go_ret
    exact ⟨rfl, (by repeat (first | exact Ext.refl _ | assumption | refine Ext.alloc ?_ _ | refine Ext.drew ?_ | refine Ext.drewN ?_ _ | refine Ext.trans ?_ (by assumption)))⟩
  · have hz : szL 1048576 n = 1048576 - n := by unfold szL; simp [hbig]
    have hn2 : n ≤ 1048576 := by omega
    have hnn : ¬ ((1048576 : Int) - n < 0) := by omega
    have HCs := Lib.hid (fun A W hW => spec_layers N A n n L W hW HL.out hn2)
    have HCi := Lib.hid (fun A W hW => impl_layers N A n n L W hW HL.out hn2)
    have hlen := lays_len N L n
    have HROW := Lib.hid (lays_row N L n)
    have htot := lays_tot N L n
    generalize lays N L n = LL at *
    obtain ⟨d, hd⟩ : ∃ d, d = LL.length := ⟨_, rfl⟩
    rw [← hd] at HCs HCi hlen
    have HLd := Lib.hid hd.symm
    obtain ⟨T, hT⟩ : ∃ T, T = tot LL := ⟨_, rfl⟩
    rw [← hT] at htot
    have HT := Lib.hid hT.symm
    clear hd hT
    have HEQ := Lib.hid (fun G G' cG cG' vs vs' W (h1 : Rd2 W 4 G LL vs) (h2 : Rd2 W 4 G' LL vs') => eqGateSS_any G G' d d cG cG' LL LL vs vs' W h1 h2 HLd.out HLd.out (by omega) (by omega) (fun j => by have := HROW.out j; omega) (fun j => by have := HROW.out j; omega))
    have HMK := Lib.hid (fun G cG lo hi vs W (h1 : Fr2 W 4 lo hi G LL vs) => markGateSS_any G d cG lo hi LL vs 1 W h1 HLd.out (by omega) (by omega) (by rw [HT.out]; omega) (by rw [HT.out]; omega) (fun j => by have := HROW.out j; omega))
    have HHD := Lib.hid (fun G cG vs W (h1 : Rd2 W 4 G (mrows 1 LL) vs) => heldGateSS_any G d cG LL vs 1 W h1 HLd.out (by omega) (by omega) (by rw [HT.out]; omega) (by rw [HT.out]; omega) (fun j => by have := HROW.out j; omega))
    rw [HT.out] at HMK HHD
    simp only [decide_true] at HEQ
    go_enter Try.func4, Try.ntmps4
    go_wp2_with fail
    refine (szCircuit_any _ _ _ _ _ _ hn (by omega) (by omega)).mono ?_
    rintro e w1 ⟨rfl, h1⟩
    have x := (Blk.new _ _ _).ext h1
    obtain ⟨xc, xf, xz⟩ := x.all
    have h01 : Ext w w1 := (by repeat (first | exact Ext.refl _ | assumption | refine Ext.alloc ?_ _ | refine Ext.drew ?_ | refine Ext.drewN ?_ _ | refine Ext.trans ?_ (by assumption)))
    have zz1 : w.heap.size + 1 ≤ w1.heap.size := xz
    clear h1
    go_wp2_with fail
    refine (toCircuit_any N A n c L _ (rd.ext h01) HL.out hn2).mono ?_
    rintro e w2 ⟨B1, rfl, fB1, h2⟩
    clear xc xf xz
    replace x := Blk.to x h2 (by repeat (first | exact Ext.refl _ | assumption | refine Ext.alloc ?_ _ | refine Ext.drew ?_ | refine Ext.drewN ?_ _ | refine Ext.trans ?_ (by assumption)))
    obtain ⟨xc, xf, xz⟩ := x.all
    have zz2 := h2.size
    have h02 := h01.trans h2
    go_wp2_with fail
    refine (HCs.out B1 _ fB1.rd).mono ?_
    rintro e w3 ⟨G, cG, vs, rfl, fG, h3⟩
    clear xc xf xz
    replace x := Blk.to x h3 (by repeat (first | exact Ext.refl _ | assumption | refine Ext.alloc ?_ _ | refine Ext.drew ?_ | refine Ext.drewN ?_ _ | refine Ext.trans ?_ (by assumption)))
    obtain ⟨xc, xf, xz⟩ := x.all
    have zz3 := h3.size
    have h03 := h02.trans h3
    clear fB1 h2 h3 h01 h02
    go_wp2_with fail
    refine (toCircuit_any N A n c L _ (rd.ext h03) HL.out hn2).mono ?_
    rintro e w4 ⟨D, rfl, fD, h4⟩
    clear xc xf xz
    replace x := Blk.to x h4 (by repeat (first | exact Ext.refl _ | assumption | refine Ext.alloc ?_ _ | refine Ext.drew ?_ | refine Ext.drewN ?_ _ | refine Ext.trans ?_ (by assumption)))
    obtain ⟨xc, xf, xz⟩ := x.all
    have zz4 := h4.size
    replace fG := fG.ext h4
    have h04 := h03.trans h4
    clear h4 h03
    go_wp2_with fail
    refine (HCi.out D _ (fD.ext ((Ext.refl _).alloc _)).rd).mono ?_
    rintro e w5 ⟨G', cG', vs', rfl, fG', h5⟩
    clear xc xf xz
    replace x := Blk.to x h5 (by repeat (first | exact Ext.refl _ | assumption | refine Ext.alloc ?_ _ | refine Ext.drew ?_ | refine Ext.drewN ?_ _ | refine Ext.trans ?_ (by assumption)))
    obtain ⟨xc, xf, xz⟩ := x.all
    have z := (Blk.new w4 29 #[.int .i64 N, .slice D n n]).ext h5
    obtain ⟨zc, zf, zz⟩ := z.all
    have zz5 := h5.size
    simp only [World.size_alloc] at fG' zz5
    replace fG := fG.ext (Ext.trans ((Ext.refl w4).alloc _) h5)
    replace fD := fD.ext (Ext.trans ((Ext.refl w4).alloc _) h5)
    have h05 := (h04.alloc _).trans h5
    clear h5 h04
    go_wp2_with fail
    refine (HEQ.out G' G cG' cG vs' vs _ fG'.rd fG.rd).mono ?_
    rintro e w6 ⟨rfl, h6⟩
    clear xc xf xz
    replace x := Blk.to x h6 (by repeat (first | exact Ext.refl _ | assumption | refine Ext.alloc ?_ _ | refine Ext.drew ?_ | refine Ext.drewN ?_ _ | refine Ext.trans ?_ (by assumption)))
    obtain ⟨xc, xf, xz⟩ := x.all
    clear zc zf zz
    replace z := Blk.to z h6 (by repeat (first | exact Ext.refl _ | assumption | refine Ext.alloc ?_ _ | refine Ext.drew ?_ | refine Ext.drewN ?_ _ | refine Ext.trans ?_ (by assumption)))
    obtain ⟨zc, zf, zz⟩ := z.all
    have zz6 := h6.size
    replace fG := fG.ext h6
    replace fD := fD.ext h6
    replace fG' := fG'.ext h6
    have h06 := h05.trans h6
    clear h6 h05
    have p0 := xc 0
    have p1 := xc 1
    have q0 := zc 0
    have q1 := zc 1
    simp only [List.getElem?_toArray, List.getElem?_cons_zero, List.getElem?_cons_succ] at p0 p1 q0 q1
    clear xc xf xz zc zf zz
    go_wp2_with fail
    go_region_held3 (fun w' => w'.cell? ⟨w.heap.size, 0, none⟩ = some (.int .i64 N) ∧ w'.cell? ⟨w.heap.size, 1, none⟩ = some (.slice A n c) ∧ w'.cell? ⟨w4.heap.size, 0, none⟩ = some (.int .i64 N) ∧ w'.cell? ⟨w4.heap.size, 1, none⟩ = some (.slice D n n) ∧ Ext w6 w')
      (first | exact ⟨p0, p1, q0, q1, (Ext.refl w6).drew⟩ | (go_split_ands; exact ⟨Ext.cell hx (by assumption), Ext.cell hx (by assumption), Ext.cell hx (by assumption), Ext.cell hx (by assumption), Ext.trans (by assumption) hx⟩))
      (first | (go_at_call 9; go_split_ands; refine (toCircuit_any N A n c L _ (rd.ext (Ext.trans h06 (by assumption))) HL.out hn2).mono ?_; rintro e w' ⟨E, rfl, fE, hx⟩) | (go_at_call 11; go_split_ands; refine (eqCircuit_any N N D E n n n n L L _ (fD.ext (by assumption)).rd fE.rd HL.out HL.out (by omega) (by omega)).mono ?_; rintro e w7 ⟨rfl, hx⟩))
    go_split_ands
    have e6 : Ext w6 w7 := by assumption
    replace x := x.ext e6
    replace z := z.ext e6
    replace fD := fD.ext e6
    replace fG := fG.ext e6
    replace fG' := fG'.ext e6
    have h07 := h06.trans e6
    have zz7 := Ext.size e6
    clear fE hx e6 p0 p1 q0 q1 h06
    obtain ⟨xc, xf, xz⟩ := x.all
    obtain ⟨zc, zf, zz⟩ := z.all
    go_wp2_with fail
    refine (markCircuit_any N D n n _ _ L 1 _ fD HL.out hn2 (by omega) (by omega)).mono ?_
    rintro e w8 ⟨rfl, _, ch1⟩
    clear xc xf xz zc zf zz
    replace x := x.chg ch1 (.inl (by omega))
    replace fG := fG.chg ch1 (.inl (by omega))
    replace fG' := fG'.chg ch1 (.inr (by omega))
    have h08 := h07.chg ch1 (by omega)
    have zz8 := ch1.size
    clear ch1 fD z h07
    obtain ⟨xc, xf, xz⟩ := x.all
    have hneg : decide ((1 : Int) + (n : Int) * 4 < 0) = false := by simp; omega
    go_wp2_with fail
    refine (HEQ.out G' G cG' cG vs' vs _ fG'.rd fG.rd).mono ?_
    rintro e w9 ⟨rfl, h9⟩
    clear xc xf xz
    replace x := Blk.to x h9 (by repeat (first | exact Ext.refl _ | assumption | refine Ext.alloc ?_ _ | refine Ext.drew ?_ | refine Ext.drewN ?_ _ | refine Ext.trans ?_ (by assumption)))
    obtain ⟨xc, xf, xz⟩ := x.all
    replace fG := fG.ext h9
    replace fG' := fG'.ext h9
    have h09 := h08.trans h9
    have zz9 := h9.size
    clear h9 h08
    go_wp2_with fail
    refine (HMK.out G' cG' _ _ vs' _ fG').mono ?_
    rintro e w10 ⟨rfl, fM, ch1⟩
    clear xc xf xz
    replace x := x.chg ch1 (.inl (by omega))
    replace fG := fG.chg ch1 (.inl (by omega))
    have h0a := h09.chg ch1 (by omega)
    have zz10 := ch1.size
    clear ch1 fG' h09
    obtain ⟨xc, xf, xz⟩ := x.all
    have hlt : ¬ (1 + (T : Int) < 0) := by omega
    have hne : ((1 + (T : Int)) != (1 + (T : Int))) = false := by simp
    go_wp2_with fail
    refine (HHD.out G' cG' vs' _ fM.rd).mono ?_
    rintro e w11 ⟨rfl, h11⟩
    clear xc xf xz
    replace x := Blk.to x h11 (by repeat (first | exact Ext.refl _ | assumption | refine Ext.alloc ?_ _ | refine Ext.drew ?_ | refine Ext.drewN ?_ _ | refine Ext.trans ?_ (by assumption)))
    obtain ⟨xc, xf, xz⟩ := x.all
    replace fG := fG.ext h11
    replace fM := fM.ext h11
    have h0b := h0a.trans h11
    clear h11 h0a
    go_wp2_with fail
    refine (toCircuit_any N A n c L _ (rd.ext h0b) HL.out hn2).mono ?_
    rintro e w12 ⟨B1, rfl, fB, h12⟩
    clear xc xf xz
    replace x := Blk.to x h12 (by repeat (first | exact Ext.refl _ | assumption | refine Ext.alloc ?_ _ | refine Ext.drew ?_ | refine Ext.drewN ?_ _ | refine Ext.trans ?_ (by assumption)))
    obtain ⟨xc, xf, xz⟩ := x.all
    go_wp2_with fail
    refine (HCi.out B1 _ fB.rd).mono ?_
    rintro e w13 ⟨G2, cG2, vs2, rfl, fG2, h13⟩
    clear xc xf xz
    replace x := Blk.to x h13 (by repeat (first | exact Ext.refl _ | assumption | refine Ext.alloc ?_ _ | refine Ext.drew ?_ | refine Ext.drewN ?_ _ | refine Ext.trans ?_ (by assumption)))
    obtain ⟨xc, xf, xz⟩ := x.all
    replace fG := fG.ext (h12.trans h13)
    replace fM := fM.ext (h12.trans h13)
    have h0c := h0b.trans (h12.trans h13)
    clear h12 h13 h0b fB
    go_wp2_with fail
    refine (HEQ.out G2 G cG2 cG vs2 vs _ fG2.rd fG.rd).mono ?_
    rintro e w14 ⟨rfl, h14⟩
    clear xc xf xz
    replace x := Blk.to x h14 (by repeat (first | exact Ext.refl _ | assumption | refine Ext.alloc ?_ _ | refine Ext.drew ?_ | refine Ext.drewN ?_ _ | refine Ext.trans ?_ (by assumption)))
    obtain ⟨xc, xf, xz⟩ := x.all
    have h0d := h0c.trans h14
    replace fM := fM.ext h14
    clear h14 h0c
    go_wp2_with fail
    refine (HHD.out G' cG' vs' _ fM.rd).mono ?_
    rintro e w15 ⟨rfl, h15⟩
    go_wp2
    go_ret
    exact ⟨rfl, h0d.trans h15⟩
end Go.Proofs.Ytohpgjkflgnfgaa
