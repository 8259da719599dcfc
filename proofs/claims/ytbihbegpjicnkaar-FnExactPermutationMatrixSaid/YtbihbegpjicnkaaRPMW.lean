/-
  The walk of the law on PermutationMatrix. No conditions.
-/
import Derived.Test.YtbihbegpjicnkaaRPM4
import Derived.Test.YtbihbegpjicnkaaRSS
set_option linter.unusedSimpArgs false
set_option linter.unusedVariables false
namespace Go.Proofs.YtbihbegpjicnkaaR
open Go.RowKit
theorem pmat_yes {p : List Int} {n : Nat} (hp : isPerm p = true) (hl : p.length = n) : pmat p = flipTo (basTo p (2 ^ n) (2 ^ n)) (2 ^ n) (2 ^ n) := by unfold pmat; rw [if_pos hp, hl]
theorem pmat_no {p : List Int} (hp : ¬ isPerm p = true) : pmat p = [] := by unfold pmat; rw [if_neg hp]
theorem flipTo_row (LL : List (List Int)) (n : Nat) : ∀ i (j : Nat), ((flipTo LL n i).getD j []).length ≤ n * 5
  | 0, j => by simp [flipTo]
  | i + 1, j => by
    rw [flipTo, List.getD_eq_getElem?_getD]
    rcases Nat.lt_or_ge j i with h | h
    · rw [List.getElem?_append_left (by rw [flipTo_length]; exact h), ← List.getD_eq_getElem?_getD]
      exact flipTo_row LL n i j
    · rw [List.getElem?_append_right (by rw [flipTo_length]; exact h), flipTo_length]
      rcases Nat.eq_zero_or_pos (j - i) with h0 | h0
      · rw [h0]
        simp [colTo_length]
      · rw [List.getElem?_eq_none (by simp; omega)]
        simp
theorem pow_le16 {m : Nat} (h : m ≤ 4) : 2 ^ m ≤ 16 := by
  have : 2 ^ m ≤ 2 ^ 4 := Nat.pow_le_pow_right (by omega) h
  omega
theorem pmat_len (p : List Int) : (pmat p).length ≤ 16 := by
  by_cases hp : isPerm p = true
  · rw [pmat_yes hp rfl, flipTo_length]
    exact pow_le16 ((isPerm_iff p).1 hp).2.1
  · rw [pmat_no hp]; simp
theorem pmat_row (p : List Int) (j : Nat) : ((pmat p).getD j []).length ≤ 80 := by
  by_cases hp : isPerm p = true
  · rw [pmat_yes hp rfl]
    have h1 := flipTo_row (basTo p (2 ^ p.length) (2 ^ p.length)) (2 ^ p.length) (2 ^ p.length) j
    have h2 := pow_le16 ((isPerm_iff p).1 hp).2.1
    omega
  · rw [pmat_no hp]; simp
theorem tot_le5 (b : Nat) : ∀ (LL : List (List Int)), (∀ j, (LL.getD j []).length ≤ b) → tot LL ≤ LL.length * b
  | [], _ => by simp [tot]
  | R :: t, h => by
    have h0 := h 0
    have := tot_le5 b t (fun j => by have := h (j + 1); simpa using this)
    simp at h0
    simp only [tot, List.length_cons, Nat.succ_mul]
    omega
theorem pmat_tot (p : List Int) : tot (pmat p) ≤ 1280 := by
  have h := tot_le5 80 (pmat p) (pmat_row p)
  have := pmat_len p
  omega
theorem Fr2.nil5 (w : World) (sz lo hi : Nat) (A : Option Addr) : Fr2 w sz lo hi A [] [] :=
  ⟨Fr.nil _ _ _ _, rfl, fun j R hR => by simp at hR, fun i j u v b _ h => by simp at h, fun j u a h => by simp at h⟩
theorem impl_pmat_no (A : Option Addr) (n cA : Nat) (p : List Int) (w : World) (hA : Rd w A (ints p)) (hl : p.length = n) (hn : n ≤ 1048576) (hcA : n ≤ cA) (hp : isPerm p = false) :
    Calls Try.prog 7 #[.slice A n cA] w fun e w' => ∃ G cG, e = .returned (.slice G 0 cG) ∧ Ext w w' := by
  have hcp := fun W (hW : Ext w W) => impl_isPerm A n cA p W (hA.ext hW) hl (by omega)
  rw [hp] at hcp
  have HP := Lib.hid hcp
  clear hcp hl hp
  go_enter Try.func7, Try.ntmps7
  go_wp2_with fail
  refine (HP.out _ (by repeat (first | exact Ext.refl _ | assumption | refine Ext.alloc ?_ _ | refine Ext.drew ?_ | refine Ext.drewN ?_ _ | refine Ext.trans ?_ (by assumption)))).mono ?_
  rintro e w1 ⟨rfl, h1⟩
  go_wp2
  go_ret
  exact ⟨_, _, rfl, (by repeat (first | exact Ext.refl _ | assumption | refine Ext.alloc ?_ _ | refine Ext.drew ?_ | refine Ext.drewN ?_ _ | refine Ext.trans ?_ (by assumption)))⟩
theorem spec_pmat_no (A : Option Addr) (n cA : Nat) (p : List Int) (w : World) (hA : Rd w A (ints p)) (hl : p.length = n) (hn : n ≤ 1048576) (hcA : n ≤ cA) (hp : isPerm p = false) :
    Calls Try.prog 5 #[.slice A n cA] w fun e w' => ∃ G cG, e = .returned (.slice G 0 cG) ∧ Ext w w' := by
  have hcp := fun W (hW : Ext w W) => spec_isPerm A n cA p W (hA.ext hW) hl (by omega) hcA
  rw [hp] at hcp
  have HP := Lib.hid hcp
  clear hcp hl hp
  go_enter Try.func5, Try.ntmps5
  go_wp2
  go_loopw [3, 4] (fun v i wr => v = .slice (some ⟨w.heap.size, 0, none⟩) 0 0 ∧ Ext w wr) (fun _ i _ => 0)
  case atStart => exact ⟨rfl, (by repeat (first | exact Ext.refl _ | assumption | refine Ext.alloc ?_ _ | refine Ext.drew ?_ | refine Ext.drewN ?_ _ | refine Ext.trans ?_ (by assumption)))⟩
  case round =>
    obtain ⟨rfl, he⟩ := hrel
    go_wp2_with fail
    refine (HP.out _ he).mono ?_
    rintro e w1 ⟨rfl, h1⟩
    go_wp2_with fail
    refine (spec_cols (some ⟨w.heap.size, 0, none⟩) 0 0 [] [] _ ⟨Rd.nil _ _, rfl, fun j R hR => by simp at hR⟩ ⟨rfl, fun j R hR => by simp at hR⟩ (by omega)).mono ?_
    rintro e w2 ⟨G, cG, vs', rfl, _, h2⟩
    go_wp2
    go_ret
    exact ⟨_, _, rfl, he.trans (h1.trans h2)⟩
theorem impl_pmat (A : Option Addr) (n cA : Nat) (p : List Int) (w : World) (hA : Rd w A (ints p)) (hl : p.length = n) (hn : n ≤ 1048576) (hcA : n ≤ cA) :
    Calls Try.prog 7 #[.slice A n cA] w fun e w' => ∃ G cG vs', e = .returned (.slice G (pmat p).length cG) ∧ Fr2 w' 5 w.heap.size w'.heap.size G (pmat p) vs' ∧ Ext w w' := by
  by_cases hp : isPerm p = true
  · have e0 := pmat_yes hp hl
    have e1 : (pmat p).length = 2 ^ n := by rw [e0, flipTo_length]
    have hb := (isPerm_iff p).1 hp
    rw [e1, e0]
    obtain rfl | rfl | rfl | rfl : n = 1 ∨ n = 2 ∨ n = 3 ∨ n = 4 := by omega
    · exact (impl_pmat1 A cA p w hA hl hcA hp).mono fun e w' ⟨G, cG, vs', h1, h2, h3⟩ => ⟨G, cG, vs', h1, h2.fr (by decide), h3⟩
    · exact (impl_pmat2 A cA p w hA hl hcA hp).mono fun e w' ⟨G, cG, vs', h1, h2, h3⟩ => ⟨G, cG, vs', h1, h2.fr (by decide), h3⟩
    · exact (impl_pmat3 A cA p w hA hl hcA hp).mono fun e w' ⟨G, cG, vs', h1, h2, h3⟩ => ⟨G, cG, vs', h1, h2.fr (by decide), h3⟩
    · exact (impl_pmat4 A cA p w hA hl hcA hp).mono fun e w' ⟨G, cG, vs', h1, h2, h3⟩ => ⟨G, cG, vs', h1, h2.fr (by decide), h3⟩
  · rw [pmat_no hp]
    exact (impl_pmat_no A n cA p w hA hl hn hcA (by simpa using hp)).mono fun e w' ⟨G, cG, h1, h3⟩ => ⟨G, cG, [], h1, Fr2.nil5 _ _ _ _ _, h3⟩
theorem spec_pmat (A : Option Addr) (n cA : Nat) (p : List Int) (w : World) (hA : Rd w A (ints p)) (hl : p.length = n) (hn : n ≤ 1048576) (hcA : n ≤ cA) :
    Calls Try.prog 5 #[.slice A n cA] w fun e w' => ∃ G cG vs', e = .returned (.slice G (pmat p).length cG) ∧ Fr2 w' 5 w.heap.size w'.heap.size G (pmat p) vs' ∧ Ext w w' := by
  by_cases hp : isPerm p = true
  · have e0 := pmat_yes hp hl
    have e1 : (pmat p).length = 2 ^ n := by rw [e0, flipTo_length]
    have hb := (isPerm_iff p).1 hp
    rw [e1, e0]
    obtain rfl | rfl | rfl | rfl : n = 1 ∨ n = 2 ∨ n = 3 ∨ n = 4 := by omega
    · exact (spec_pmat1 A cA p w hA hl hcA hp).mono fun e w' ⟨G, cG, vs', h1, h2, h3⟩ => ⟨G, cG, vs', h1, h2.fr (by decide), h3⟩
    · exact (spec_pmat2 A cA p w hA hl hcA hp).mono fun e w' ⟨G, cG, vs', h1, h2, h3⟩ => ⟨G, cG, vs', h1, h2.fr (by decide), h3⟩
    · exact (spec_pmat3 A cA p w hA hl hcA hp).mono fun e w' ⟨G, cG, vs', h1, h2, h3⟩ => ⟨G, cG, vs', h1, h2.fr (by decide), h3⟩
    · exact (spec_pmat4 A cA p w hA hl hcA hp).mono fun e w' ⟨G, cG, vs', h1, h2, h3⟩ => ⟨G, cG, vs', h1, h2.fr (by decide), h3⟩
  · rw [pmat_no hp]
    exact (spec_pmat_no A n cA p w hA hl hn hcA (by simpa using hp)).mono fun e w' ⟨G, cG, h1, h3⟩ => ⟨G, cG, [], h1, Fr2.nil5 _ _ _ _ _, h3⟩
set_option maxRecDepth 20000 in
set_option maxHeartbeats 3200000 in
theorem walk_FnExactPermutationMatrix (w : World) (A : Option Addr) (n c : Nat) (p : List Int) (rd : Rd w A (ints p)) (hl : p.length = n) (hn : n ≤ maxLen) (wl : ∀ x ∈ p, (Lit.int .i64 x).wf = true) :
    Calls Try.prog 3 #[.slice A n c] w fun e w' => e = .returned (.bool true) ∧ Ext w w' := by
  clear wl
  have HL := Lib.hid hl
  clear hl
  unfold maxLen at hn
  by_cases hbm : (1048576 : Int) < n
  · go_enter Try.func3, Try.ntmps3
    go_wp2
    go_ret
    exact ⟨rfl, (by repeat (first | exact Ext.refl _ | assumption | refine Ext.alloc ?_ _ | refine Ext.drew ?_ | refine Ext.drewN ?_ _ | refine Ext.trans ?_ (by assumption)))⟩
  have hn2 : n ≤ 1048576 := by omega
  have HCs := Lib.hid (fun A W hW => spec_pmat A n n p W hW HL.out hn2 (Nat.le_refl _))
  have HCi := Lib.hid (fun A W hW => impl_pmat A n n p W hW HL.out hn2 (Nat.le_refl _))
  have hlen := pmat_len p
  have HROW := Lib.hid (pmat_row p)
  have htot := pmat_tot p
  generalize pmat p = LL at *
  obtain ⟨d, hd⟩ : ∃ d, d = LL.length := ⟨_, rfl⟩
  rw [← hd] at HCs HCi hlen
  have HLd := Lib.hid hd.symm
  obtain ⟨T, hT⟩ : ∃ T, T = tot LL := ⟨_, rfl⟩
  rw [← hT] at htot
  have HT := Lib.hid hT.symm
  clear hd hT
  have HEQ := Lib.hid (fun G G' cG cG' vs vs' W (h1 : Rd2 W 5 G LL vs) (h2 : Rd2 W 5 G' LL vs') => eqDOmegaSS_any G G' d d cG cG' LL LL vs vs' W h1 h2 HLd.out HLd.out (by omega) (by omega) (fun j => by have := HROW.out j; omega) (fun j => by have := HROW.out j; omega))
  have HMK := Lib.hid (fun G cG lo hi vs W (h1 : Fr2 W 5 lo hi G LL vs) => markDOmegaSS_any G d cG lo hi LL vs 1 W h1 HLd.out (by omega) (by omega) (by rw [HT.out]; omega) (by rw [HT.out]; omega) (fun j => by have := HROW.out j; omega))
  have HHD := Lib.hid (fun G cG vs W (h1 : Rd2 W 5 G (mrows 1 LL) vs) => heldDOmegaSS_any G d cG LL vs 1 W h1 HLd.out (by omega) (by omega) (by rw [HT.out]; omega) (by rw [HT.out]; omega) (fun j => by have := HROW.out j; omega))
  rw [HT.out] at HMK HHD
  simp only [decide_true] at HEQ
  go_enter Try.func3, Try.ntmps3
  go_wp2_with fail
  refine (toIntS_any A n c p _ rd HL.out hn2).mono ?_
  rintro e w1 ⟨B1, rfl, fB1, h1⟩
  go_wp2_with fail
  refine (HCs.out B1 _ fB1.rd).mono ?_
  rintro e w3 ⟨G, cG, vs, rfl, fG, h3⟩
  have zz1 := h1.size
  have zz3 := h3.size
  have h03 := h1.trans h3
  clear fB1 h1 h3
  go_wp2_with fail
  refine (toIntS_any A n c p _ (rd.ext h03) HL.out hn2).mono ?_
  rintro e w4 ⟨D, rfl, fD, h4⟩
  have zz4 := h4.size
  replace fG := fG.ext h4
  have h04 := h03.trans h4
  clear h4 h03
  go_wp2_with fail
  refine (HCi.out D _ fD.rd).mono ?_
  rintro e w5 ⟨G', cG', vs', rfl, fG', h5⟩
  have zz5 := h5.size
  replace fG := fG.ext h5
  replace fD := fD.ext h5
  have h05 := h04.trans h5
  clear h5 h04
  go_wp2_with fail
  refine (HEQ.out G' G cG' cG vs' vs _ fG'.rd fG.rd).mono ?_
  rintro e w6 ⟨rfl, h6⟩
  have zz6 := h6.size
  replace fG := fG.ext h6
  replace fD := fD.ext h6
  replace fG' := fG'.ext h6
  have h06 := h05.trans h6
  clear h6 h05
  go_wp2_with fail
  refine (toIntS_any A n c p _ (rd.ext h06) HL.out hn2).mono ?_
  rintro e w7 ⟨E, rfl, fE, h7⟩
  go_wp2_with fail
  refine (eqIntS_any D E n n n n p p _ (fD.ext h7).rd fE.rd HL.out HL.out (by omega) (by omega)).mono ?_
  rintro e w7c ⟨rfl, h7c⟩
  have e7 := h7.trans h7c
  have zz7 := e7.size
  replace fG := fG.ext e7
  replace fD := fD.ext e7
  replace fG' := fG'.ext e7
  have h07 := h06.trans e7
  clear fE h7 h7c e7 h06
  go_wp2_with fail
  refine (markIntS_any D n n _ _ p 1 _ fD HL.out (by omega) (by omega) (by omega)).mono ?_
  rintro e w8 ⟨rfl, _, ch1⟩
  replace fG := fG.chg ch1 (.inl (by omega))
  replace fG' := fG'.chg ch1 (.inr (by omega))
  have h08 := h07.chg ch1 (by omega)
  have zz8 := ch1.size
  clear ch1 fD h07
  have hneg : decide ((1 : Int) + (n : Int) < 0) = false := by simp; omega
  go_wp2_with fail
  refine (HEQ.out G' G cG' cG vs' vs _ fG'.rd fG.rd).mono ?_
  rintro e w9 ⟨rfl, h9⟩
  replace fG := fG.ext h9
  replace fG' := fG'.ext h9
  have h09 := h08.trans h9
  have zz9 := h9.size
  clear h9 h08
  go_wp2_with fail
  refine (HMK.out G' cG' _ _ vs' _ fG').mono ?_
  rintro e w10 ⟨rfl, fM, ch1⟩
  replace fG := fG.chg ch1 (.inl (by omega))
  have h0a := h09.chg ch1 (by omega)
  clear ch1 fG' h09
  have hlt : ¬ (1 + (T : Int) < 0) := by omega
  have hne : ((1 + (T : Int)) != (1 + (T : Int))) = false := by simp
  go_wp2_with fail
  refine (HHD.out G' cG' vs' _ fM.rd).mono ?_
  rintro e w11 ⟨rfl, h11⟩
  replace fG := fG.ext h11
  replace fM := fM.ext h11
  have h0b := h0a.trans h11
  clear h11 h0a
  go_wp2_with fail
  refine (toIntS_any A n c p _ (rd.ext h0b) HL.out hn2).mono ?_
  rintro e w12 ⟨B1, rfl, fB, h12⟩
  go_wp2_with fail
  refine (HCi.out B1 _ fB.rd).mono ?_
  rintro e w13 ⟨G2, cG2, vs2, rfl, fG2, h13⟩
  replace fG := fG.ext (h12.trans h13)
  replace fM := fM.ext (h12.trans h13)
  have h0c := h0b.trans (h12.trans h13)
  clear h12 h13 h0b fB
  go_wp2_with fail
  refine (HEQ.out G2 G cG2 cG vs2 vs _ fG2.rd fG.rd).mono ?_
  rintro e w14 ⟨rfl, h14⟩
  have h0d := h0c.trans h14
  replace fM := fM.ext h14
  clear h14 h0c
  go_wp2_with fail
  refine (HHD.out G' cG' vs' _ fM.rd).mono ?_
  rintro e w15 ⟨rfl, h15⟩
  go_wp2
  go_ret
  exact ⟨rfl, h0d.trans h15⟩
end Go.Proofs.YtbihbegpjicnkaaR
