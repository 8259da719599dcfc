/-
  The walks of the laws on ActsOn, GateQubits, IdentityPermutation, IsPermutation. No conditions.
-/
import Derived.Test.YtinhhhnbdpphmaaPerm3
set_option linter.unusedSimpArgs false
set_option linter.unusedVariables false
namespace Go.Proofs.Ytinhhhnbdpphmaa
open Go.RowKit
theorem walk_FnExactActsOn (w : World) (k a b c : Int) (w0 : (Lit.int .i64 k).wf = true) (w1 : (Lit.int .i64 a).wf = true) (w2 : (Lit.int .i64 b).wf = true) (w3 : (Lit.int .i64 c).wf = true) (q : Int) (w4 : (Lit.int .i64 q).wf = true) :
    Calls Try.prog 10 #[.agg #[.int .i64 k, .int .i64 a, .int .i64 b, .int .i64 c], .int .i64 q] w fun e w' => e = .returned (.bool true) ∧ Ext w w' := by
  go_enter Try.func10, Try.ntmps10
  go_wp2_with fail
  refine (laws_toGate _ _ _ _ _).mono ?_
  rintro e w1 ⟨rfl, h1⟩
  have x := (Blk.new _ _ _).ext h1
  obtain ⟨xc, xf, xz⟩ := x.all
  go_wp2_with fail
  refine (spec_actsOn _ _ _ _ _ _).mono ?_
  rintro e w2 ⟨rfl, h2⟩
  clear xc xf xz
  replace x := Blk.to x h2 (by repeat (first | exact Ext.refl _ | assumption | refine Ext.alloc ?_ _ | refine Ext.drew ?_ | refine Ext.drewN ?_ _ | refine Ext.trans ?_ (by assumption)))
  obtain ⟨xc, xf, xz⟩ := x.all
  go_wp2_with fail
  refine (laws_toGate _ _ _ _ _).mono ?_
  rintro e w3 ⟨rfl, h3⟩
  go_wp2_with fail
  refine (impl_actsOn _ _ _ _ _ _).mono ?_
  rintro e w4 ⟨rfl, h4⟩
  go_wp2
  go_ret
  exact ⟨rfl, (by repeat (first | exact Ext.refl _ | assumption | refine Ext.alloc ?_ _ | refine Ext.drew ?_ | refine Ext.drewN ?_ _ | refine Ext.trans ?_ (by assumption)))⟩
set_option maxHeartbeats 400000 in
theorem walk_FnExactGateQubits (w : World) (k a b c : Int) (w0 : (Lit.int .i64 k).wf = true) (w1 : (Lit.int .i64 a).wf = true) (w2 : (Lit.int .i64 b).wf = true) (w3 : (Lit.int .i64 c).wf = true) :
    Calls Try.prog 12 #[.agg #[.int .i64 k, .int .i64 a, .int .i64 b, .int .i64 c]] w fun e w' => e = .returned (.bool true) ∧ Ext w w' := by
  have har := arity_bd k
  have HQ := Lib.hid (qubits_length k a b c)
  go_enter Try.func12, Try.ntmps12
  go_wp2_with fail
  refine (laws_toGate _ _ _ _ _).mono ?_
  rintro e w1 ⟨rfl, h1⟩
  have x := (Blk.new _ _ _).ext h1
  obtain ⟨xc, xf, xz⟩ := x.all
  go_wp2_with fail
  refine (spec_gateQubits _ _ _ _ _).mono ?_
  rintro e w2 ⟨B, cB, rfl, fB, h2⟩
  clear xc xf xz
  replace x := Blk.to x h2 (by repeat (first | exact Ext.refl _ | assumption | refine Ext.alloc ?_ _ | refine Ext.drew ?_ | refine Ext.drewN ?_ _ | refine Ext.trans ?_ (by assumption)))
  obtain ⟨xc, xf, xz⟩ := x.all
  go_wp2_with fail
  refine (laws_toGate _ _ _ _ _).mono ?_
  rintro e w3 ⟨rfl, h3⟩
  clear xc xf xz
  replace x := Blk.to x h3 (by repeat (first | exact Ext.refl _ | assumption | refine Ext.alloc ?_ _ | refine Ext.drew ?_ | refine Ext.drewN ?_ _ | refine Ext.trans ?_ (by assumption)))
  obtain ⟨xc, xf, xz⟩ := x.all
  go_wp2_with fail
  refine (impl_gateQubits _ _ _ _ _).mono ?_
  rintro e w4 ⟨G, cG, rfl, fG, h4⟩
  clear xc xf xz
  replace x := Blk.to x h4 (by repeat (first | exact Ext.refl _ | assumption | refine Ext.alloc ?_ _ | refine Ext.drew ?_ | refine Ext.drewN ?_ _ | refine Ext.trans ?_ (by assumption)))
  obtain ⟨xc, xf, xz⟩ := x.all
  obtain ⟨n, hn⟩ : ∃ n, n = (arity k).toNat := ⟨_, rfl⟩
  rw [← hn] at HQ ⊢
  have hn3 : n ≤ 3 := by omega
  have HN := Lib.hid hn
  clear hn har
  replace fB := fB.ext (h3.trans h4)
  go_wp2_with fail
  refine (eqIntS_any G B n n _ _ (qubits k a b c) (qubits k a b c) _ fG.rd fB.rd HQ.out HQ.out (by omega) (by omega)).mono ?_
  rintro e w5 ⟨rfl, h5⟩
  clear xc xf xz
  replace x := Blk.to x h5 (by repeat (first | exact Ext.refl _ | assumption | refine Ext.alloc ?_ _ | refine Ext.drew ?_ | refine Ext.drewN ?_ _ | refine Ext.trans ?_ (by assumption)))
  obtain ⟨xc, xf, xz⟩ := x.all
  replace fG := fG.ext h5
  replace fB := fB.ext h5
  go_wp2_with fail
  refine (markIntS_any G n _ _ _ (qubits k a b c) 1 _ fG HQ.out (by omega) (by omega) (by omega)).mono ?_
  rintro e w6 ⟨rfl, fM, ch⟩
  have h6 : Ext w3 w6 := (h4.trans h5).chg ch (Nat.le_refl _)
  have z3 := h3.size
  have z2 := h2.size
  have z1 := h1.size
  simp at z1
  clear xc xf xz
  replace x := x.chg ch (.inl (by omega))
  obtain ⟨xc, xf, xz⟩ := x.all
  have fB6 := fB.chg ch (.inl (by omega))
  clear fG fB
  go_wp2_with fail
  refine (heldIntS_any G n _ 1 _ fM.rd (by omega) (by omega) (by omega)).mono ?_
  rintro e w7 ⟨rfl, h7⟩
  clear xc xf xz
  replace x := Blk.to x h7 (by repeat (first | exact Ext.refl _ | assumption | refine Ext.alloc ?_ _ | refine Ext.drew ?_ | refine Ext.drewN ?_ _ | refine Ext.trans ?_ (by assumption)))
  obtain ⟨xc, xf, xz⟩ := x.all
  have hlt : ¬ (1 + (n : Int) < 0) := by omega
  have hne : ((1 + (n : Int)) != (1 + (n : Int))) = false := by simp
  go_wp2_with fail
  refine (laws_toGate _ _ _ _ _).mono ?_
  rintro e w8 ⟨rfl, h8⟩
  clear xc xf xz
  replace x := Blk.to x h8 (by repeat (first | exact Ext.refl _ | assumption | refine Ext.alloc ?_ _ | refine Ext.drew ?_ | refine Ext.drewN ?_ _ | refine Ext.trans ?_ (by assumption)))
  obtain ⟨xc, xf, xz⟩ := x.all
  go_wp2_with fail
  refine (impl_gateQubits _ _ _ _ _).mono ?_
  rintro e w9 ⟨H, cH, rfl, fH, h9⟩
  rw [← HN.out]
  replace fB6 := fB6.ext (h7.trans (h8.trans h9))
  go_wp2_with fail
  refine (eqIntS_any H B n n _ _ (qubits k a b c) (qubits k a b c) _ fH.rd fB6.rd HQ.out HQ.out (by omega) (by omega)).mono ?_
  rintro e w10 ⟨rfl, h10⟩
  replace fM := fM.ext (h7.trans (h8.trans (h9.trans h10)))
  go_wp2_with fail
  refine (heldIntS_any G n _ 1 _ fM.rd (by omega) (by omega) (by omega)).mono ?_
  rintro e w11 ⟨rfl, h11⟩
  go_wp2
  go_ret
  exact ⟨rfl, (by repeat (first | exact Ext.refl _ | assumption | refine Ext.alloc ?_ _ | refine Ext.drew ?_ | refine Ext.drewN ?_ _ | refine Ext.trans ?_ (by assumption)))⟩
theorem walk_FnExactIsPermutation (w : World) (A : Option Addr) (n c : Nat) (l : List Int) (rd : Rd w A (ints l)) (hl : l.length = n) (hn : n ≤ maxLen) (wl : ∀ x ∈ l, (Lit.int .i64 x).wf = true) :
    Calls Try.prog 9 #[.slice A n c] w fun e w' => e = .returned (.bool true) ∧ Ext w w' := by
  clear wl
  have HL := Lib.hid hl
  clear hl
  unfold maxLen at hn
  by_cases hbig : n ≤ 1048576
  · go_enter Try.func9, Try.ntmps9
    go_wp2_with fail
    refine (toIntS_any A n c l _ rd HL.out hbig).mono ?_
    rintro e w1 ⟨B, rfl, fB, h1⟩
    go_wp2_with fail
    refine (spec_isPerm B n n l _ fB.rd HL.out (by omega) (Nat.le_refl _)).mono ?_
    rintro e w2 ⟨rfl, h2⟩
    go_wp2_with fail
    refine (toIntS_any A n c l _ (rd.ext (h1.trans h2)) HL.out hbig).mono ?_
    rintro e w3 ⟨D, rfl, fD, h3⟩
    go_wp2_with fail
    refine (impl_isPerm D n n l _ fD.rd HL.out (by omega)).mono ?_
    rintro e w4 ⟨rfl, h4⟩
    go_wp2_with fail
    refine (toIntS_any A n c l _ (rd.ext (h1.trans (h2.trans (h3.trans h4)))) HL.out hbig).mono ?_
    rintro e w5 ⟨E, rfl, fE, h5⟩
    go_wp2_with fail
    refine (eqIntS_any D E n n n n l l _ (fD.ext (h4.trans h5)).rd fE.rd HL.out HL.out (by omega) (by omega)).mono ?_
    rintro e w6 ⟨rfl, h6⟩
    go_wp2
    go_ret
    exact ⟨rfl, (by repeat (first | exact Ext.refl _ | assumption | refine Ext.alloc ?_ _ | refine Ext.drew ?_ | refine Ext.drewN ?_ _ | refine Ext.trans ?_ (by assumption)))⟩
  · go_enter Try.func9, Try.ntmps9
    go_wp2
    go_ret
    exact ⟨rfl, (by repeat (first | exact Ext.refl _ | assumption | refine Ext.alloc ?_ _ | refine Ext.drew ?_ | refine Ext.drewN ?_ _ | refine Ext.trans ?_ (by assumption)))⟩
theorem walk_IdPerm_no (w : World) (a0 : Int) (hno : ¬ (1 ≤ a0 ∧ a0 ≤ 4)) :
    Calls Try.prog 7 #[.int .i64 a0] w fun e w' => e = .returned (.bool true) ∧ Ext w w' := by
  go_enter Try.func7, Try.ntmps7
  go_wp2_with fail
  refine (spec_idPerm_no _ _ hno).mono ?_
  rintro e w1 ⟨B, cB, rfl, h1⟩
  go_wp2_with fail
  refine (impl_idPerm_no _ _ hno).mono ?_
  rintro e w2 ⟨G, cG, rfl, h2⟩
  go_wp2_with fail
  refine (eqIntS_any G B 0 0 _ _ [] [] _ (Rd.nil _ _) (Rd.nil _ _) rfl rfl (by omega) (by omega)).mono ?_
  rintro e w3 ⟨rfl, h3⟩
  go_wp2_with fail
  refine (markIntS_any G 0 _ w.heap.size w.heap.size [] 1 _ (Fr.nil _ _ _ _) rfl (by omega) (by omega) (by omega)).mono ?_
  rintro e w4 ⟨rfl, fM, ch⟩
  have h4 : Ext w w4 := (h1.trans (h2.trans h3)).chg ch (Nat.le_refl _)
  go_wp2_with fail
  refine (heldIntS_any G 0 _ 1 _ (Rd.nil _ _) (by omega) (by omega) (by omega)).mono ?_
  rintro e w5 ⟨rfl, h5⟩
  go_wp2_with fail
  refine (impl_idPerm_no _ _ hno).mono ?_
  rintro e w6 ⟨H, cH, rfl, h6⟩
  go_wp2_with fail
  refine (eqIntS_any H B 0 0 _ _ [] [] _ (Rd.nil _ _) (Rd.nil _ _) rfl rfl (by omega) (by omega)).mono ?_
  rintro e w7 ⟨rfl, h7⟩
  go_wp2_with fail
  refine (heldIntS_any G 0 _ 1 _ (Rd.nil _ _) (by omega) (by omega) (by omega)).mono ?_
  rintro e w8 ⟨rfl, h8⟩
  go_wp2
  go_ret
  exact ⟨rfl, (by repeat (first | exact Ext.refl _ | assumption | refine Ext.alloc ?_ _ | refine Ext.drew ?_ | refine Ext.drewN ?_ _ | refine Ext.trans ?_ (by assumption)))⟩
theorem walk_IdPerm_yes (w : World) (n : Nat) (hn1 : 1 ≤ n) (hn4 : n ≤ 4) :
    Calls Try.prog 7 #[.int .i64 n] w fun e w' => e = .returned (.bool true) ∧ Ext w w' := by
  have HQ := Lib.hid (marks_length 0 n)
  go_enter Try.func7, Try.ntmps7
  go_wp2_with fail
  refine (spec_idPerm_yes n _ hn1 hn4).mono ?_
  rintro e w1 ⟨B, cB, rfl, fB, h1⟩
  go_wp2_with fail
  refine (impl_idPerm_yes n _ hn1 hn4).mono ?_
  rintro e w2 ⟨G, cG, rfl, fG, h2⟩
  replace fB := fB.ext h2
  go_wp2_with fail
  refine (eqIntS_any G B n n _ _ (marks 0 n) (marks 0 n) _ fG.rd fB.rd HQ.out HQ.out (by omega) (by omega)).mono ?_
  rintro e w3 ⟨rfl, h3⟩
  replace fG := fG.ext h3
  replace fB := fB.ext h3
  go_wp2_with fail
  refine (markIntS_any G n _ _ _ (marks 0 n) 1 _ fG HQ.out (by omega) (by omega) (by omega)).mono ?_
  rintro e w4 ⟨rfl, fM, ch⟩
  have h4 : Ext w1 w4 := (h2.trans h3).chg ch (Nat.le_refl _)
  have fB6 := fB.chg ch (.inl (Nat.le_refl _))
  clear fG fB
  have hlt : ¬ (1 + (n : Int) < 0) := by omega
  have hne : ((1 + (n : Int)) != (1 + (n : Int))) = false := by simp
  go_wp2_with fail
  refine (heldIntS_any G n _ 1 _ fM.rd (by omega) (by omega) (by omega)).mono ?_
  rintro e w5 ⟨rfl, h5⟩
  go_wp2_with fail
  refine (impl_idPerm_yes n _ hn1 hn4).mono ?_
  rintro e w6 ⟨H, cH, rfl, fH, h6⟩
  go_wp2_with fail
  refine (eqIntS_any H B n n _ _ (marks 0 n) (marks 0 n) _ fH.rd (fB6.ext (h5.trans h6)).rd HQ.out HQ.out (by omega) (by omega)).mono ?_
  rintro e w7 ⟨rfl, h7⟩
  go_wp2_with fail
  refine (heldIntS_any G n _ 1 _ (fM.ext (h5.trans (h6.trans h7))).rd (by omega) (by omega) (by omega)).mono ?_
  rintro e w8 ⟨rfl, h8⟩
  go_wp2
  go_ret
  exact ⟨rfl, (by repeat (first | exact Ext.refl _ | assumption | refine Ext.alloc ?_ _ | refine Ext.drew ?_ | refine Ext.drewN ?_ _ | refine Ext.trans ?_ (by assumption)))⟩
theorem walk_FnExactIdentityPermutation (w : World) (a0 : Int) (w0 : (Lit.int .i64 a0).wf = true) :
    Calls Try.prog 7 #[.int .i64 a0] w fun e w' => e = .returned (.bool true) ∧ Ext w w' := by
  by_cases h : 1 ≤ a0 ∧ a0 ≤ 4
  · obtain ⟨n, rfl⟩ := Int.eq_ofNat_of_zero_le (a := a0) (by omega)
    exact walk_IdPerm_yes w n (by omega) (by omega)
  · exact walk_IdPerm_no w a0 h
end Go.Proofs.Ytinhhhnbdpphmaa
