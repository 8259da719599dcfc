/-
  The walks of the laws on ComposePermutations and InversePermutation. No conditions.
-/
import Derived.Test.YtjhnhmjnhnighaaPerm4
set_option linter.unusedSimpArgs false
set_option linter.unusedVariables false
namespace Go.Proofs.Ytjhnhmjnhnighaa
open Go.RowKit
theorem composeP_le (p q : List Int) : (composeP p q).length ≤ 4 := by
  unfold composeP
  split
  · rename_i h
    have := (isPerm_iff p).1 h.1
    rw [compTo_length _ _ _ (Nat.le_refl _)]; omega
  · simp
theorem impl_compose_cap (A B : Option Addr) (n m cA cB : Nat) (p q : List Int) (w : World) (hA : Rd w A (ints p)) (hB : Rd w B (ints q)) (hl : p.length = n) (hl' : q.length = m) (hn : n ≤ 9223372036854775806) (hm : m ≤ 9223372036854775806) (hcA : n ≤ cA) (hcB : m ≤ cB) (R : List Int) (r : Nat) (hR : R = composeP p q) (hr : R.length = r) :
    Calls Try.prog 23 #[.slice A n cA, .slice B m cB] w fun e w' => ∃ G c, e = .returned (.slice G r c) ∧ Fr w' w.heap.size w'.heap.size G (ints R) ∧ Ext w w' ∧ r ≤ c := by
  subst hr hR
  by_cases h : isPerm p = true ∧ isPerm q = true ∧ n = m
  · obtain ⟨hp, hq, rfl⟩ := h
    have e : composeP p q = compTo p q n := by unfold composeP; rw [if_pos ⟨hp, hq, by omega⟩, hl]
    rw [e, compTo_length _ _ _ (by omega)]
    exact impl_compose_yes A B n cA cB p q w hA hB hl hl' hcA hcB hp hq
  · have e : composeP p q = [] := by unfold composeP; rw [if_neg (by rintro ⟨h1, h2, h3⟩; exact h ⟨h1, h2, by omega⟩)]
    rw [e]
    exact (impl_compose_no A B n m cA cB p q w hA hB hl hl' hn hm hcA hcB h).mono fun _ _ ⟨G, c, h1, h2⟩ => ⟨G, c, h1, Fr.nil _ _ _ _, h2, Nat.zero_le _⟩
theorem impl_compose (A B : Option Addr) (n m cA cB : Nat) (p q : List Int) (w : World) (hA : Rd w A (ints p)) (hB : Rd w B (ints q)) (hl : p.length = n) (hl' : q.length = m) (hn : n ≤ 9223372036854775806) (hm : m ≤ 9223372036854775806) (hcA : n ≤ cA) (hcB : m ≤ cB) (R : List Int) (r : Nat) (hR : R = composeP p q) (hr : R.length = r) :
    Calls Try.prog 23 #[.slice A n cA, .slice B m cB] w fun e w' => ∃ G c, e = .returned (.slice G r c) ∧ Fr w' w.heap.size w'.heap.size G (ints R) ∧ Ext w w' :=
  (impl_compose_cap A B n m cA cB p q w hA hB hl hl' hn hm hcA hcB R r hR hr).mono fun _ _ ⟨G, c, h1, h2, h3, _⟩ => ⟨G, c, h1, h2, h3⟩
theorem impl_inverse (A : Option Addr) (n cA : Nat) (p : List Int) (w : World) (hA : Rd w A (ints p)) (hl : p.length = n) (hn : n ≤ 9223372036854775806) (hcA : n ≤ cA) (R : List Int) (r : Nat) (hR : R = if isPerm p = true then invTo p p.length p.length else []) (hr : R.length = r) :
    Calls Try.prog 27 #[.slice A n cA] w fun e w' => ∃ G c, e = .returned (.slice G r c) ∧ Fr w' w.heap.size w'.heap.size G (ints R) ∧ Ext w w' := by
  subst hr hR
  cases hp : isPerm p with
  | true =>
    simp only [if_true]
    rw [invTo_length, hl]
    exact (impl_inverse_yes A n cA p w hA hl hcA hp).mono fun _ _ ⟨G, h1, h2⟩ => ⟨G, n, h1, h2⟩
  | false =>
    simp only [Bool.false_eq_true, if_false]
    exact (impl_inverse_no A n cA p w hA hl hn hcA hp).mono fun _ _ ⟨G, c, h1, h2⟩ => ⟨G, c, h1, Fr.nil _ _ _ _, h2⟩
theorem spec_compose_cap (A B : Option Addr) (n m cA cB : Nat) (p q : List Int) (w : World) (hA : Rd w A (ints p)) (hB : Rd w B (ints q)) (hl : p.length = n) (hl' : q.length = m) (hn : n ≤ 9223372036854775806) (hm : m ≤ 9223372036854775806) (hcA : n ≤ cA) (hcB : m ≤ cB) (R : List Int) (r : Nat) (hR : R = composeP p q) (hr : R.length = r) :
    Calls Try.prog 22 #[.slice A n cA, .slice B m cB] w fun e w' => ∃ G c, e = .returned (.slice G r c) ∧ Fr w' w.heap.size w'.heap.size G (ints R) ∧ Ext w w' ∧ r ≤ c := by
  subst hr hR
  by_cases h : isPerm p = true ∧ isPerm q = true ∧ n = m
  · obtain ⟨hp, hq, rfl⟩ := h
    have e : composeP p q = compTo p q n := by unfold composeP; rw [if_pos ⟨hp, hq, by omega⟩, hl]
    rw [e, compTo_length _ _ _ (by omega)]
    exact spec_compose_yes A B n cA cB p q w hA hB hl hl' hcA hcB hp hq
  · have e : composeP p q = [] := by unfold composeP; rw [if_neg (by rintro ⟨h1, h2, h3⟩; exact h ⟨h1, h2, by omega⟩)]
    rw [e]
    exact (spec_compose_no A B n m cA cB p q w hA hB hl hl' hn hm hcA hcB h).mono fun _ _ ⟨G, c, h1, h2⟩ => ⟨G, c, h1, Fr.nil _ _ _ _, h2, Nat.zero_le _⟩
theorem spec_compose (A B : Option Addr) (n m cA cB : Nat) (p q : List Int) (w : World) (hA : Rd w A (ints p)) (hB : Rd w B (ints q)) (hl : p.length = n) (hl' : q.length = m) (hn : n ≤ 9223372036854775806) (hm : m ≤ 9223372036854775806) (hcA : n ≤ cA) (hcB : m ≤ cB) (R : List Int) (r : Nat) (hR : R = composeP p q) (hr : R.length = r) :
    Calls Try.prog 22 #[.slice A n cA, .slice B m cB] w fun e w' => ∃ G c, e = .returned (.slice G r c) ∧ Fr w' w.heap.size w'.heap.size G (ints R) ∧ Ext w w' :=
  (spec_compose_cap A B n m cA cB p q w hA hB hl hl' hn hm hcA hcB R r hR hr).mono fun _ _ ⟨G, c, h1, h2, h3, _⟩ => ⟨G, c, h1, h2, h3⟩
theorem spec_inverse (A : Option Addr) (n cA : Nat) (p : List Int) (w : World) (hA : Rd w A (ints p)) (hl : p.length = n) (hn : n ≤ 9223372036854775806) (hcA : n ≤ cA) (R : List Int) (r : Nat) (hR : R = if isPerm p = true then invTo p p.length p.length else []) (hr : R.length = r) :
    Calls Try.prog 26 #[.slice A n cA] w fun e w' => ∃ G c, e = .returned (.slice G r c) ∧ Fr w' w.heap.size w'.heap.size G (ints R) ∧ Ext w w' := by
  subst hr hR
  cases hp : isPerm p with
  | true =>
    simp only [if_true]
    rw [invTo_length, hl]
    exact (spec_inverse_yes A n cA p w hA hl hcA hp).mono fun _ _ ⟨G, h1, h2⟩ => ⟨G, n, h1, h2⟩
  | false =>
    simp only [Bool.false_eq_true, if_false]
    exact (spec_inverse_no A n cA p w hA hl hn hcA hp).mono fun _ _ ⟨G, c, h1, h2⟩ => ⟨G, c, h1, Fr.nil _ _ _ _, h2⟩
set_option maxHeartbeats 1600000 in
theorem walk_FnExactComposePermutations (w : World) (A : Option Addr) (n c : Nat) (l : List Int) (rd : Rd w A (ints l)) (hl : l.length = n) (hn : n ≤ maxLen) (wl : ∀ x ∈ l, (Lit.int .i64 x).wf = true)
    (A' : Option Addr) (m c' : Nat) (l' : List Int) (rd' : Rd w A' (ints l')) (hl' : l'.length = m) (hm : m ≤ maxLen) (wl' : ∀ x ∈ l', (Lit.int .i64 x).wf = true) :
    Calls Try.prog 5 #[.slice A n c, .slice A' m c'] w fun e w' => e = .returned (.bool true) ∧ Ext w w' := by
  clear wl wl'
  have HL := Lib.hid hl
  have HL' := Lib.hid hl'
  clear hl hl'
  unfold maxLen at hn hm
  by_cases hbig : n ≤ 1048576
  · by_cases hbig' : m ≤ 1048576
    · obtain ⟨R, hR⟩ : ∃ R, R = composeP l l' := ⟨_, rfl⟩
      obtain ⟨r, hr⟩ : ∃ r, R.length = r := ⟨_, rfl⟩
      have hr4 : r ≤ 4 := by rw [← hr, hR]; exact composeP_le _ _
      have HR := Lib.hid hR
      have Hr := Lib.hid hr
      clear hR hr
      go_enter Try.func5, Try.ntmps5
      go_wp2_with fail
      refine (toIntS_any A n c l _ rd HL.out hbig).mono ?_
      rintro e w1 ⟨P1, rfl, fP, h1⟩
      go_wp2_with fail
      refine (toIntS_any A' m c' l' _ (rd'.ext (by repeat (first | exact Ext.refl _ | assumption | refine Ext.alloc ?_ _ | refine Ext.drew ?_ | refine Ext.drewN ?_ _ | refine Ext.trans ?_ (by assumption)))) HL'.out hbig').mono ?_
      rintro e w2 ⟨Q1, rfl, fQ, h2⟩
      go_wp2_with fail
      refine (spec_compose P1 Q1 n m n m l l' _ (fP.ext h2).rd fQ.rd HL.out HL'.out (by omega) (by omega) (Nat.le_refl _) (Nat.le_refl _) R r HR.out Hr.out).mono ?_
      rintro e w3 ⟨W, cW, rfl, fW, h3⟩
      have h03 : Ext w w3 := (by repeat (first | exact Ext.refl _ | assumption | refine Ext.alloc ?_ _ | refine Ext.drew ?_ | refine Ext.drewN ?_ _ | refine Ext.trans ?_ (by assumption)))
      have z03 := h03.size
      clear fP fQ h1 h2 h3
      go_wp2_with fail
      refine (toIntS_any A n c l _ (rd.ext h03) HL.out hbig).mono ?_
      rintro e w4 ⟨X, rfl, fX, h4⟩
      go_wp2_with fail
      refine (toIntS_any A' m c' l' _ (rd'.ext (h03.trans h4)) HL'.out hbig').mono ?_
      rintro e w5 ⟨Y, rfl, fY, h5⟩
      replace fX := fX.ext h5
      go_wp2_with fail
      refine (impl_compose X Y n m n m l l' _ fX.rd fY.rd HL.out HL'.out (by omega) (by omega) (Nat.le_refl _) (Nat.le_refl _) R r HR.out Hr.out).mono ?_
      rintro e w6 ⟨G, cG, rfl, fG, h6⟩
      replace fX := fX.ext h6
      replace fY := fY.ext h6
      replace fW := fW.ext (h4.trans (h5.trans h6))
      have z34 := h4.size
      have z45 := h5.size
      have z56 := h6.size
      have h06 := h03.trans (h4.trans (h5.trans h6))
      clear h4 h5 h6
      go_wp2_with fail
      refine (eqIntS_any G W r r _ _ R R _ fG.rd fW.rd Hr.out Hr.out (by omega) (by omega)).mono ?_
      rintro e w7 ⟨rfl, h7⟩
      go_wp2_with fail
      refine (toIntS_any A n c l _ (rd.ext (h06.trans h7)) HL.out hbig).mono ?_
      rintro e w8 ⟨E1, rfl, fE1, h8⟩
      go_wp2_with fail
      refine (eqIntS_any X E1 n n _ _ l l _ (fX.ext (h7.trans h8)).rd fE1.rd HL.out HL.out (by omega) (by omega)).mono ?_
      rintro e w9 ⟨rfl, h9⟩
      clear fE1
      go_wp2_with fail
      refine (toIntS_any A' m c' l' _ (rd'.ext (h06.trans (h7.trans (h8.trans h9)))) HL'.out hbig').mono ?_
      rintro e w10 ⟨E2, rfl, fE2, h10⟩
      go_wp2_with fail
      refine (eqIntS_any Y E2 m m _ _ l' l' _ (fY.ext (h7.trans (h8.trans (h9.trans h10)))).rd fE2.rd HL'.out HL'.out (by omega) (by omega)).mono ?_
      rintro e w11 ⟨rfl, h11⟩
      clear fE2
      have e6 := h7.trans (h8.trans (h9.trans (h10.trans h11)))
      replace fX := fX.ext e6
      replace fY := fY.ext e6
      replace fG := fG.ext e6
      replace fW := fW.ext e6
      have h0b := h06.trans e6
      have z6b := e6.size
      clear h7 h8 h9 h10 h11 e6 h06
      go_wp2_with fail
      refine (markIntS_any X n _ _ _ l 1 _ fX HL.out (by omega) (by omega) (by omega)).mono ?_
      rintro e w12 ⟨rfl, _, ch1⟩
      replace fY := fY.chg ch1 (.inr (by omega))
      replace fG := fG.chg ch1 (.inr (by omega))
      replace fW := fW.chg ch1 (.inl (by omega))
      have h0c := h0b.chg ch1 (by omega)
      have z1 := ch1.size
      clear ch1 fX h0b
      go_wp2_with fail
      refine (markIntS_any Y m _ _ _ l' (1 + n) _ fY HL'.out (by omega) (by omega) (by omega)).mono ?_
      rintro e w13 ⟨rfl, _, ch2⟩
      replace fG := fG.chg ch2 (.inr (by omega))
      replace fW := fW.chg ch2 (.inl (by omega))
      have h0d := h0c.chg ch2 (by omega)
      have z2 := ch2.size
      clear ch2 fY h0c
      have hneg : decide ((1 : Int) + n + m < 0) = false := by simp; omega
      go_wp2_with fail
      refine (eqIntS_any G W r r _ _ R R _ fG.rd fW.rd Hr.out Hr.out (by omega) (by omega)).mono ?_
      rintro e w14 ⟨rfl, h14⟩
      replace fG := fG.ext h14
      replace fW := fW.ext h14
      have z3 := h14.size
      go_wp2_with fail
      refine (markIntS_any G r _ _ _ R 1 _ fG Hr.out (by omega) (by omega) (by omega)).mono ?_
      rintro e w15 ⟨rfl, fM, ch3⟩
      replace fW := fW.chg ch3 (.inl (by omega))
      have h0f := (h0d.trans h14).chg ch3 (by omega)
      clear ch3 fG h14 h0d
      have hlt : ¬ (1 + (r : Int) < 0) := by omega
      have hne : ((1 + (r : Int)) != (1 + (r : Int))) = false := by simp
      go_wp2_with fail
      refine (heldIntS_any G r _ 1 _ fM.rd (by omega) (by omega) (by omega)).mono ?_
      rintro e w16 ⟨rfl, h16⟩
      go_wp2_with fail
      refine (toIntS_any A n c l _ (rd.ext (h0f.trans h16)) HL.out hbig).mono ?_
      rintro e w17 ⟨P2, rfl, fP, h17⟩
      go_wp2_with fail
      refine (toIntS_any A' m c' l' _ (rd'.ext (h0f.trans (h16.trans h17))) HL'.out hbig').mono ?_
      rintro e w18 ⟨Q2, rfl, fQ, h18⟩
      go_wp2_with fail
      refine (impl_compose P2 Q2 n m n m l l' _ (fP.ext h18).rd fQ.rd HL.out HL'.out (by omega) (by omega) (Nat.le_refl _) (Nat.le_refl _) R r HR.out Hr.out).mono ?_
      rintro e w19 ⟨H, cH, rfl, fH, h19⟩
      have e5 := h16.trans (h17.trans (h18.trans h19))
      replace fW := fW.ext e5
      replace fM := fM.ext e5
      have h0h := h0f.trans e5
      clear h16 h17 h18 h19 e5 h0f fP fQ
      go_wp2_with fail
      refine (eqIntS_any H W r r _ _ R R _ fH.rd fW.rd Hr.out Hr.out (by omega) (by omega)).mono ?_
      rintro e w20 ⟨rfl, h20⟩
      go_wp2_with fail
      refine (heldIntS_any G r _ 1 _ (fM.ext h20).rd (by omega) (by omega) (by omega)).mono ?_
      rintro e w21 ⟨rfl, h21⟩
      go_wp2
      go_ret
      exact ⟨rfl, (by repeat (first | exact Ext.refl _ | assumption | refine Ext.alloc ?_ _ | refine Ext.drew ?_ | refine Ext.drewN ?_ _ | refine Ext.trans ?_ (by assumption)))⟩
    · go_enter Try.func5, Try.ntmps5
      go_wp2
      go_ret
      exact ⟨rfl, (by repeat (first | exact Ext.refl _ | assumption | refine Ext.alloc ?_ _ | refine Ext.drew ?_ | refine Ext.drewN ?_ _ | refine Ext.trans ?_ (by assumption)))⟩
  · go_enter Try.func5, Try.ntmps5
    go_wp2
    go_ret
    exact ⟨rfl, (by repeat (first | exact Ext.refl _ | assumption | refine Ext.alloc ?_ _ | refine Ext.drew ?_ | refine Ext.drewN ?_ _ | refine Ext.trans ?_ (by assumption)))⟩
set_option maxHeartbeats 1600000 in
theorem walk_FnExactInversePermutation (w : World) (A : Option Addr) (n c : Nat) (l : List Int) (rd : Rd w A (ints l)) (hl : l.length = n) (hn : n ≤ maxLen) (wl : ∀ x ∈ l, (Lit.int .i64 x).wf = true) :
    Calls Try.prog 6 #[.slice A n c] w fun e w' => e = .returned (.bool true) ∧ Ext w w' := by
  clear wl
  have HL := Lib.hid hl
  clear hl
  unfold maxLen at hn
  by_cases hbig : n ≤ 1048576
  · obtain ⟨R, hR⟩ : ∃ R, R = if isPerm l = true then invTo l l.length l.length else [] := ⟨_, rfl⟩
    obtain ⟨r, hr⟩ : ∃ r, R.length = r := ⟨_, rfl⟩
    have hr4 : r ≤ 4 := by
      rw [← hr, hR]
      split
      · rename_i h; have := (isPerm_iff l).1 h; rw [invTo_length]; omega
      · simp
    have HR := Lib.hid hR
    have Hr := Lib.hid hr
    clear hR hr
    go_enter Try.func6, Try.ntmps6
    go_wp2_with fail
    refine (toIntS_any A n c l _ rd HL.out hbig).mono ?_
    rintro e w1 ⟨P1, rfl, fP, h1⟩
    go_wp2_with fail
    refine (spec_inverse P1 n n l _ fP.rd HL.out (by omega) (Nat.le_refl _) R r HR.out Hr.out).mono ?_
    rintro e w3 ⟨W, cW, rfl, fW, h3⟩
    have h03 : Ext w w3 := (by repeat (first | exact Ext.refl _ | assumption | refine Ext.alloc ?_ _ | refine Ext.drew ?_ | refine Ext.drewN ?_ _ | refine Ext.trans ?_ (by assumption)))
    have z03 := h03.size
    clear fP h1 h3
    go_wp2_with fail
    refine (toIntS_any A n c l _ (rd.ext h03) HL.out hbig).mono ?_
    rintro e w4 ⟨X, rfl, fX, h4⟩
    go_wp2_with fail
    refine (impl_inverse X n n l _ fX.rd HL.out (by omega) (Nat.le_refl _) R r HR.out Hr.out).mono ?_
    rintro e w6 ⟨G, cG, rfl, fG, h6⟩
    replace fX := fX.ext h6
    replace fW := fW.ext (h4.trans h6)
    have z34 := h4.size
    have z56 := h6.size
    have h06 := h03.trans (h4.trans h6)
    clear h4 h6
    go_wp2_with fail
    refine (eqIntS_any G W r r _ _ R R _ fG.rd fW.rd Hr.out Hr.out (by omega) (by omega)).mono ?_
    rintro e w7 ⟨rfl, h7⟩
    go_wp2_with fail
    refine (toIntS_any A n c l _ (rd.ext (h06.trans h7)) HL.out hbig).mono ?_
    rintro e w8 ⟨E1, rfl, fE1, h8⟩
    go_wp2_with fail
    refine (eqIntS_any X E1 n n _ _ l l _ (fX.ext (h7.trans h8)).rd fE1.rd HL.out HL.out (by omega) (by omega)).mono ?_
    rintro e w9 ⟨rfl, h9⟩
    clear fE1
    have e6 := h7.trans (h8.trans h9)
    replace fX := fX.ext e6
    replace fG := fG.ext e6
    replace fW := fW.ext e6
    have h0b := h06.trans e6
    have z6b := e6.size
    clear h7 h8 h9 e6 h06
    go_wp2_with fail
    refine (markIntS_any X n _ _ _ l 1 _ fX HL.out (by omega) (by omega) (by omega)).mono ?_
    rintro e w12 ⟨rfl, _, ch1⟩
    replace fG := fG.chg ch1 (.inr (by omega))
    replace fW := fW.chg ch1 (.inl (by omega))
    have h0d := h0b.chg ch1 (by omega)
    have z1 := ch1.size
    clear ch1 fX h0b
    have hneg : decide ((1 : Int) + n < 0) = false := by simp; omega
    go_wp2_with fail
    refine (eqIntS_any G W r r _ _ R R _ fG.rd fW.rd Hr.out Hr.out (by omega) (by omega)).mono ?_
    rintro e w14 ⟨rfl, h14⟩
    replace fG := fG.ext h14
    replace fW := fW.ext h14
    have z3 := h14.size
    go_wp2_with fail
    refine (markIntS_any G r _ _ _ R 1 _ fG Hr.out (by omega) (by omega) (by omega)).mono ?_
    rintro e w15 ⟨rfl, fM, ch3⟩
    replace fW := fW.chg ch3 (.inl (by omega))
    have h0f := (h0d.trans h14).chg ch3 (by omega)
    clear ch3 fG h14 h0d
    have hlt : ¬ (1 + (r : Int) < 0) := by omega
    have hne : ((1 + (r : Int)) != (1 + (r : Int))) = false := by simp
    go_wp2_with fail
    refine (heldIntS_any G r _ 1 _ fM.rd (by omega) (by omega) (by omega)).mono ?_
    rintro e w16 ⟨rfl, h16⟩
    go_wp2_with fail
    refine (toIntS_any A n c l _ (rd.ext (h0f.trans h16)) HL.out hbig).mono ?_
    rintro e w17 ⟨P2, rfl, fP, h17⟩
    go_wp2_with fail
    refine (impl_inverse P2 n n l _ fP.rd HL.out (by omega) (Nat.le_refl _) R r HR.out Hr.out).mono ?_
    rintro e w19 ⟨H, cH, rfl, fH, h19⟩
    have e5 := h16.trans (h17.trans h19)
    replace fW := fW.ext e5
    replace fM := fM.ext e5
    have h0h := h0f.trans e5
    clear h16 h17 h19 e5 h0f fP
    go_wp2_with fail
    refine (eqIntS_any H W r r _ _ R R _ fH.rd fW.rd Hr.out Hr.out (by omega) (by omega)).mono ?_
    rintro e w20 ⟨rfl, h20⟩
    go_wp2_with fail
    refine (heldIntS_any G r _ 1 _ (fM.ext h20).rd (by omega) (by omega) (by omega)).mono ?_
    rintro e w21 ⟨rfl, h21⟩
    go_wp2
    go_ret
    exact ⟨rfl, (by repeat (first | exact Ext.refl _ | assumption | refine Ext.alloc ?_ _ | refine Ext.drew ?_ | refine Ext.drewN ?_ _ | refine Ext.trans ?_ (by assumption)))⟩
  · go_enter Try.func6, Try.ntmps6
    go_wp2
    go_ret
    exact ⟨rfl, (by repeat (first | exact Ext.refl _ | assumption | refine Ext.alloc ?_ _ | refine Ext.drew ?_ | refine Ext.drewN ?_ _ | refine Ext.trans ?_ (by assumption)))⟩
end Go.Proofs.Ytjhnhmjnhnighaa
