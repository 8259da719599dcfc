/-
  Contracts of ControlledMatrix. Conditions: the slices read as rows.
-/
import Derived.Test.YtkcbkbpjaccpgaaCMa
import Derived.BigRegion
set_option linter.unusedSimpArgs false
set_option linter.unusedVariables false
namespace Go.Proofs.Ytkcbkbpjaccpgaa
open Go.RowKit
theorem ok_step {P : Nat → Prop} {k : Nat} (h : ∀ k', k' < k → P k') (hk : P k) : ∀ k', k' < k + 1 → P k' := fun k' hk' => by
  by_cases e : k' = k
  · subst e; exact hk
  · exact h k' (by omega)
def CmR (w : World) (q n : Nat) (LL : List (List Int)) (e : Ending) (w' : World) : Prop :=
  (¬ cmOk q n LL ∧ CmNo w e w') ∨ (cmOk q n LL ∧ ∃ G cG vs', e = .returned (.tuple #[.slice G n cG, .bool true]) ∧ Fr2 w' 5 w.heap.size w'.heap.size G (cmTo q n LL n) vs' ∧ Ext w w')
set_option maxRecDepth 20000 in
set_option maxHeartbeats 3200000 in
theorem impl_cm_in (q : Nat) (A : Option Addr) (n c : Nat) (LL : List (List Int)) (vs : List Value) (w : World) (hA : Rd2 w 5 A LL vs) (hl : LL.length = n) (hs : ∀ j, (LL.getD j []).length ≤ 1048576 * 5) (hv : vM LL n = true) (hq : (q : Int) ≤ qc n - 1) :
    Calls Try.prog 7 #[.int .i64 q, .slice A n c] w (CmR w q n LL) := by
  have HQC := qc_cases n
  have hn : n ≤ 16 := by omega
  have hcall := fun W (hW : Ext w W) => impl_vM A n c LL vs W (hA.ext hW) hl (by omega) hs
  rw [hv] at hcall
  have HC := Lib.hid hcall
  have hN : 0 < n ∧ rowsOk LL n n = true := by unfold vM at hv; rw [Bool.and_eq_true] at hv; exact ⟨by simpa using hv.2, hv.1⟩
  obtain ⟨hN0, hr⟩ := hN
  have HSQ : Hid (sq LL n) := ⟨hl, fun j R hR => by
    have hj : j < n := by rw [← hl]; exact (List.getElem?_eq_some_iff.1 hR).1
    have h1 := (rowsOk_at LL n n hr j hj).1
    have h2 : LL.getD j [] = R := by simp [List.getD, hR]
    rw [← h2]; exact h1⟩
  obtain ⟨N, hNq⟩ : ∃ N : Nat, (N : Int) = qc n := ⟨(qc n).toNat, by omega⟩
  have hN5 : 1 ≤ N ∧ N ≤ 4 := by omega
  have HNC : Hid ((n = 2 ∧ N = 1) ∨ (n = 4 ∧ N = 2) ∨ (n = 8 ∧ N = 3) ∨ (n = 16 ∧ N = 4)) := by show _ ∨ _; omega
  have hb : inB (q : Int) 0 ((N : Int) - 1) = true := by rw [hNq]; unfold inB; simp; omega
  have hq4 : q < 4 := by omega
  have HN := Lib.hid hNq
  clear hcall hv hl hs hr hNq hq HQC
  obtain ⟨g, off, B, cB, hAe, x0, rB, _⟩ := sq_row hA HSQ.out hN0
  clear rB
  subst hAe
  rw [Nat.add_zero] at x0
  go_enter Try.func7, Try.ntmps7
  go_wp2_with fail
  refine (HC.out _ (by repeat (first | exact Ext.refl _ | assumption | refine Ext.alloc ?_ _ | refine Ext.drew ?_ | refine Ext.drewN ?_ _ | refine Ext.trans ?_ (by assumption)))).mono ?_
  rintro e w1 ⟨rfl, h1⟩
  have x1 := h1.cell x0
  have h01 : Ext w w1 := (by repeat (first | exact Ext.refl _ | assumption | refine Ext.alloc ?_ _ | refine Ext.drew ?_ | refine Ext.drewN ?_ _ | refine Ext.trans ?_ (by assumption)))
  clear h1 x0
  have hNI : (0 : Int) < (n : Int) := by omega
  go_wp2_with fail
  refine (impl_qc B n cB _ (by omega)).mono ?_
  rintro e w2 ⟨rfl, h2⟩
  rw [← HN.out]
  have x2 := h2.cell x1
  have h02 := h01.trans h2
  clear x1 h2 h01
  go_wp2_with (go_at_call 18; refine (impl_in _ _ _ _).mono ?_; rintro e w' ⟨rfl, rfl⟩)
  refine (impl_qc B n cB _ (by omega)).mono ?_
  rintro e w3 ⟨rfl, h3⟩
  rw [← HN.out]
  have h03 := h02.trans h3
  clear x2 h3 h02
  go_wp2_with fail
  refine (impl_ident N n _ HNC.out).mono ?_
  rintro e w4 ⟨G, cG, vs4, rfl, fI, h4⟩
  have zz3 := h03.size
  have zz4 := h4.size
  have h04 := h03.trans h4
  replace fI := fI.mono zz3 (Nat.le_refl _)
  clear h4 h03 zz3
  have own0 := fI
  go_wp2
  go_loopw [29] (fun i wr => ∃ j : Nat, j ≤ n ∧ i = .int .i64 j ∧ Fr2 wr 5 w.heap.size w4.heap.size G (cmTo q n LL j) vs4 ∧ Hid (∀ i, i < j → ∀ k, k < n → okAt q LL i k) ∧ Ext w wr ∧ w4.heap.size ≤ wr.heap.size) (fun i _ => n - (intOf i).toNat)
  case atStart => exact ⟨0, Nat.zero_le _, rfl, own0, Lib.hid (fun i hi => by omega), h04, Nat.le_refl _⟩
  case round =>
    clear own0 fI zz4 h04
    obtain ⟨j, hj, rfl, hf, HOK, he, hz⟩ := hrel
    by_cases hjn : j < n
    · obtain ⟨g1, off1, B1, cB1, e1, x0, rB, hRl⟩ := sq_row hA HSQ.out hjn
      injection e1 with e1
      injection e1 with e1 e2
      subst e1 e2
      obtain ⟨gB, oB, rfl, hc⟩ := rB.five hRl (by omega)
      have HSM := Lib.hid (cmTo_sq q n LL j hj)
      have HST : Hid (cmTo q n LL (j + 1) = (cmTo q n LL j).set j (cmRow q (LL.getD j []) ((cmTo q n LL j).getD j []) n)) := rfl
      generalize cmTo q n LL j = M at *
      have x1 := he.cell x0
      have hf0 : Fr2 wr 5 w.heap.size w4.heap.size G (M.set j (cmRow q (LL.getD j []) (M.getD j []) 0)) vs4 := by
        rw [cmRow, set_getD_self (by rw [HSM.out.1]; exact hjn)]; exact hf
      have hjI : (j : Int) < (n : Int) := by omega
      clear hf
      go_wp2
      go_loopw [37] (fun i wx => ∃ k : Nat, k ≤ n ∧ i = .int .i64 k ∧ Fr2 wx 5 w.heap.size w4.heap.size G (M.set j (cmRow q (LL.getD j []) (M.getD j []) k)) vs4 ∧ Hid (∀ k', k' < k → okAt q LL j k') ∧ Ext w wx ∧ w4.heap.size ≤ wx.heap.size) (fun i _ => n - (intOf i).toNat)
      case atStart => exact ⟨0, Nat.zero_le _, rfl, hf0, Lib.hid (fun i hi => by omega), by first | exact he | exact he.drew | exact he.drewN _, hz⟩
      case round =>
        clear hf0 he hz x1
        obtain ⟨k, hk, rfl, hf, HKO, he, hz⟩ := hrel
        by_cases hkn : k < n
        · have x1 := he.cell x0
          obtain ⟨y0, y1, y2, y3, y4⟩ := hc k hkn
          replace y0 := he.cell y0
          replace y1 := he.cell y1
          replace y2 := he.cell y2
          replace y3 := he.cell y3
          replace y4 := he.cell y4
          have HRW : Hid (cmRow q (LL.getD j []) (M.getD j []) (k + 1) = if bitq k q = 1 then put5 (cmRow q (LL.getD j []) (M.getD j []) k) k ((LL.getD j []).getD (k * 5) 0) ((LL.getD j []).getD (k * 5 + 1) 0) ((LL.getD j []).getD (k * 5 + 2) 0) ((LL.getD j []).getD (k * 5 + 3) 0) ((LL.getD j []).getD (k * 5 + 4) 0) else cmRow q (LL.getD j []) (M.getD j []) k) := rfl
          have HZ : Hid (okAt q LL j k ↔ bitq j q = bitq k q ∨ ((LL.getD j []).getD (k * 5) 0 = 0 ∧ (LL.getD j []).getD (k * 5 + 1) 0 = 0 ∧ (LL.getD j []).getD (k * 5 + 2) 0 = 0 ∧ (LL.getD j []).getD (k * 5 + 3) 0 = 0 ∧ (LL.getD j []).getD (k * 5 + 4) 0 = 0)) := Iff.rfl
          have HCL := Lib.hid (cmRow_length q (LL.getD j []) (M.getD j []) n (sq_getD HSM.out hjn) k hk)
          generalize (LL.getD j []).getD (k * 5) 0 = p0 at *
          generalize (LL.getD j []).getD (k * 5 + 1) 0 = p1 at *
          generalize (LL.getD j []).getD (k * 5 + 2) 0 = p2 at *
          generalize (LL.getD j []).getD (k * 5 + 3) 0 = p3 at *
          generalize (LL.getD j []).getD (k * 5 + 4) 0 = p4 at *
          have hlM : j < (M.set j (cmRow q (LL.getD j []) (M.getD j []) k)).length := by rw [List.length_set, HSM.out.1]; exact hjn
          have hgM : (M.set j (cmRow q (LL.getD j []) (M.getD j []) k)).getD j [] = cmRow q (LL.getD j []) (M.getD j []) k := set_at (by rw [HSM.out.1]; exact hjn)
          obtain ⟨gO, oO, BO, mO, cO, rfl, u0, hvs, hOl, rO⟩ := hf.rd.look hlM
          rw [hgM, HCL.out] at hOl
          obtain rfl : n = mO := by omega
          rw [hgM] at rO
          obtain ⟨gR, oR, rfl, _⟩ := rO.five HCL.out (by omega)
          obtain ⟨l0, z0, lz1, lz2, fR, _⟩ := hf.upd (j := j) (R := cmRow q (LL.getD j []) (M.getD j []) k) (by rw [List.getElem?_set_self (by rw [HSM.out.1]; exact hjn)]) hvs
          obtain ⟨⟨v0, w0⟩, ⟨v1, w1'⟩, ⟨v2, w2'⟩, ⟨v3, w3'⟩, ⟨v4, w4'⟩, f0, f1, f2, f3, f4⟩ := fR.fiveO HCL.out hkn
          have HPUT := Lib.hid (fun (W : World) (hW : Ext wr W) => hf.put5 hlM hvs (by rw [hgM]; exact HCL.out) hkn hW p0 p1 p2 p3 p4)
          rw [hgM, List.set_set] at HPUT
          have hgR := (HPUT.out wr (Ext.refl _)).2
          have hx := bit_sh j q (by omega)
          have hy := bit_sh k q (by omega)
          obtain ⟨x, hxe⟩ : ∃ x : Int, x = (bitq j q : Int) := ⟨_, rfl⟩
          rw [← hxe] at hx
          have HX := Lib.hid hxe
          obtain ⟨y, hye⟩ : ∃ y : Int, y = (bitq k q : Int) := ⟨_, rfl⟩
          rw [← hye] at hy
          have HY := Lib.hid hye
          obtain ⟨z, hze⟩ : ∃ z : Nat, z = j ^^^ k := ⟨_, rfl⟩
          have hz16 : z < 16 := by rw [hze]; exact Nat.xor_lt_two_pow (n := 4) (by omega) (by omega)
          have hxr := bit_xor j k (by omega) (by omega)
          rw [← hze] at hxr
          have hzz := bit_sh z q (by omega)
          obtain ⟨u, hue⟩ : ∃ u : Int, u = (bitq z q : Int) := ⟨_, rfl⟩
          rw [← hue] at hzz
          have HU : Hid (u = 1 ↔ x ≠ y) := by
            show _ ↔ _
            have h1 := bitq_xor ⟨j, by omega⟩ ⟨k, by omega⟩ ⟨q, hq4⟩
            simp only [← hze] at h1
            rw [hue, hxe, hye]
            constructor
            · intro h2; have := h1.1 (by omega); omega
            · intro h2; have := h1.2 (by omega); omega
          have hguard := dom_guard
          have hneq := fun W => dom_neq p0 p1 p2 p3 p4 W
          obtain ⟨d, hd⟩ : ∃ d, d = decide (p0 = 0 ∧ p1 = 0 ∧ p2 = 0 ∧ p3 = 0 ∧ p4 = 0) := ⟨_, rfl⟩
          rw [← hd] at hneq
          have HD := Lib.hid hd
          have hkI : (k : Int) < (n : Int) := by omega
          have HF := Lib.hid hf
          clear hxe hye hd hze hue hlM hgM hOl rO fR hf hc lz1 lz2 hvs
          obtain hxy | hxy : x = y ∨ (x != y) = true := by simp only [bne_iff_ne]; exact Decidable.em _
          · obtain rfl : y = x := hxy.symm
            clear hxy
            have hub : (u == 1) = false := by rw [beq_eq_false_iff_ne]; intro h; exact HU.out.1 h rfl
            have HG : Hid (okAt q LL j k) := HZ.out.2 (.inl (by have := HX.out; have := HY.out; omega))
            by_cases hy1 : y = 1
            · have hyb : (y == 1) = true := by simpa using hy1
              have HB : Hid (bitq k q = 1) := by show _ = _; have := HY.out; omega
              clear hy1
              go_wp2
              go_quiet (fail)
              try go_wp2
              go_region
              go_wp2
              go_roundw
              case rel => exact ⟨k + 1, by omega, by go_num, by rw [HRW.out, if_pos HB.out]; exact (HPUT.out _ ((Ext.refl wr).drewN _)).1, Lib.hid (ok_step HKO.out HG.out), ((((((he.drewN _).setCell hgR _).setCell hgR _).setCell hgR _).setCell hgR _).setCell hgR _), by simpa [World.setCell] using hz⟩
              case measure => simp [intOf]; omega
            · have hyb : (y == 1) = false := by simpa using hy1
              have HB : Hid (¬ bitq k q = 1) := by show ¬ _; have := HY.out; omega
              clear hy1
              go_wp2
              go_quiet (fail)
              try go_wp2
              go_roundw
              case rel => exact ⟨k + 1, by omega, by go_num, by rw [HRW.out, if_neg HB.out]; first | exact HF.out | exact HF.out.ext ((Ext.refl _).drewN _), Lib.hid (ok_step HKO.out HG.out), (by repeat (first | exact Ext.refl _ | assumption | refine Ext.alloc ?_ _ | refine Ext.drew ?_ | refine Ext.drewN ?_ _ | refine Ext.trans ?_ (by assumption))), by simpa using hz⟩
              case measure => simp [intOf]; omega
          · have hub : (u == 1) = true := by rw [beq_iff_eq]; exact HU.out.2 (by simpa using hxy)
            cases d with
            | true =>
              have HG : Hid (okAt q LL j k) := HZ.out.2 (.inr (of_decide_eq_true HD.out.symm))
              by_cases hy1 : y = 1
              · have hyb : (y == 1) = true := by simpa using hy1
                have HB : Hid (bitq k q = 1) := by show _ = _; have := HY.out; omega
                clear hy1
                go_wp2
                go_quiet (fail)
                try go_wp2
                go_region
                go_wp2
                go_roundw
                case rel => exact ⟨k + 1, by omega, by go_num, by rw [HRW.out, if_pos HB.out]; exact (HPUT.out _ ((Ext.refl wr).drewN _)).1, Lib.hid (ok_step HKO.out HG.out), ((((((he.drewN _).setCell hgR _).setCell hgR _).setCell hgR _).setCell hgR _).setCell hgR _), by simpa [World.setCell] using hz⟩
                case measure => simp [intOf]; omega
              · have hyb : (y == 1) = false := by simpa using hy1
                have HB : Hid (¬ bitq k q = 1) := by show ¬ _; have := HY.out; omega
                clear hy1
                go_wp2
                go_quiet (fail)
                try go_wp2
                go_roundw
                case rel => exact ⟨k + 1, by omega, by go_num, by rw [HRW.out, if_neg HB.out]; first | exact HF.out | exact HF.out.ext ((Ext.refl _).drewN _), Lib.hid (ok_step HKO.out HG.out), (by repeat (first | exact Ext.refl _ | assumption | refine Ext.alloc ?_ _ | refine Ext.drew ?_ | refine Ext.drewN ?_ _ | refine Ext.trans ?_ (by assumption))), by simpa using hz⟩
                case measure => simp [intOf]; omega
            | false =>
              have HBAD : Hid (¬ cmOk q n LL) := fun h => by
                have h1 := HZ.out.1 (h j hjn k hkn)
                have h2 := of_decide_eq_false HD.out.symm
                have h3 := HX.out
                have h4 := HY.out
                simp only [bne_iff_ne] at hxy
                rcases h1 with h1 | h1
                · exact hxy (by omega)
                · exact h2 h1
              go_wp2
              go_quiet (fail)
              try go_wp2
              go_ret2
              exact .inl ⟨HBAD.out, _, _, rfl, (by repeat (first | exact Ext.refl _ | assumption | refine Ext.alloc ?_ _ | refine Ext.drew ?_ | refine Ext.drewN ?_ _ | refine Ext.trans ?_ (by assumption)))⟩
        · obtain rfl : n = k := by omega
          have HF := Lib.hid hf
          clear hf hc
          go_wp2
          go_roundw
          case rel => exact ⟨j + 1, by omega, by go_num, by rw [HST.out]; exact HF.out, Lib.hid (ok_step (P := fun i => ∀ k, k < n → okAt q LL i k) HOK.out HKO.out), he, hz⟩
          case measure => simp [intOf]; omega
    · obtain rfl : j = n := by omega
      have HF := Lib.hid hf
      clear hf
      go_wp2
      go_ret2
      exact .inr ⟨HOK.out, _, _, _, rfl, HF.out.mono (Nat.le_refl _) hz, he⟩
set_option maxRecDepth 20000 in
set_option maxHeartbeats 3200000 in
theorem spec_cm_in (q : Nat) (A : Option Addr) (n c : Nat) (LL : List (List Int)) (vs : List Value) (w : World) (hA : Rd2 w 5 A LL vs) (hl : LL.length = n) (hs : ∀ j, (LL.getD j []).length ≤ 1048576 * 5) (hv : vM LL n = true) (hq : (q : Int) ≤ qc n - 1) :
    Calls Try.prog 5 #[.int .i64 q, .slice A n c] w (CmR w q n LL) := by
  have HQC := qc_cases n
  have hn : n ≤ 16 := by omega
  have hcall := fun W (hW : Ext w W) => spec_vM A n c LL vs W (hA.ext hW) hl (by omega) hs
  rw [hv] at hcall
  have HC := Lib.hid hcall
  have hN : 0 < n ∧ rowsOk LL n n = true := by unfold vM at hv; rw [Bool.and_eq_true] at hv; exact ⟨by simpa using hv.2, hv.1⟩
  obtain ⟨hN0, hr⟩ := hN
  have HSQ : Hid (sq LL n) := ⟨hl, fun j R hR => by
    have hj : j < n := by rw [← hl]; exact (List.getElem?_eq_some_iff.1 hR).1
    have h1 := (rowsOk_at LL n n hr j hj).1
    have h2 : LL.getD j [] = R := by simp [List.getD, hR]
    rw [← h2]; exact h1⟩
  obtain ⟨N, hNq⟩ : ∃ N : Nat, (N : Int) = qc n := ⟨(qc n).toNat, by omega⟩
  have hN5 : 1 ≤ N ∧ N ≤ 4 := by omega
  have HNC : Hid ((n = 2 ∧ N = 1) ∨ (n = 4 ∧ N = 2) ∨ (n = 8 ∧ N = 3) ∨ (n = 16 ∧ N = 4)) := by show _ ∨ _; omega
  have hb : inB (q : Int) 0 ((N : Int) - 1) = true := by rw [hNq]; unfold inB; simp; omega
  have hq4 : q < 4 := by omega
  have HN := Lib.hid hNq
  clear hcall hv hl hs hr hNq hq HQC
  obtain ⟨g, off, B, cB, hAe, x0, rB, _⟩ := sq_row hA HSQ.out hN0
  clear rB
  subst hAe
  rw [Nat.add_zero] at x0
  go_enter Try.func5, Try.ntmps5
  go_wp2_with fail
  refine (HC.out _ (by repeat (first | exact Ext.refl _ | assumption | refine Ext.alloc ?_ _ | refine Ext.drew ?_ | refine Ext.drewN ?_ _ | refine Ext.trans ?_ (by assumption)))).mono ?_
  rintro e w1 ⟨rfl, h1⟩
  have x1 := h1.cell x0
  have h01 : Ext w w1 := (by repeat (first | exact Ext.refl _ | assumption | refine Ext.alloc ?_ _ | refine Ext.drew ?_ | refine Ext.drewN ?_ _ | refine Ext.trans ?_ (by assumption)))
  clear h1 x0
  have hNI : (0 : Int) < (n : Int) := by omega
  go_wp2_with fail
  refine (spec_qc B n cB _ (by omega)).mono ?_
  rintro e w2 ⟨rfl, h2⟩
  rw [← HN.out]
  have x2 := h2.cell x1
  have h02 := h01.trans h2
  clear x1 h2 h01
  go_wp2_with (go_at_call 13; refine (spec_in _ _ _ _).mono ?_; rintro e w' ⟨rfl, rfl⟩)
  refine (spec_qc B n cB _ (by omega)).mono ?_
  rintro e w3 ⟨rfl, h3⟩
  rw [← HN.out]
  have h03 := h02.trans h3
  clear x2 h3 h02
  go_wp2_with fail
  refine (spec_ident N n _ HNC.out).mono ?_
  rintro e w4 ⟨G, cG, vs4, rfl, fI, h4⟩
  have zz3 := h03.size
  have zz4 := h4.size
  have h04 := h03.trans h4
  replace fI := fI.mono zz3 (Nat.le_refl _)
  clear h4 h03 zz3
  have own0 := fI
  go_wp2
  go_loopw [7] (fun i wr => ∃ j : Nat, j ≤ n ∧ i = .int .i64 j ∧ Fr2 wr 5 w.heap.size w4.heap.size G (cmTo q n LL j) vs4 ∧ Hid (∀ i, i < j → ∀ k, k < n → okAt q LL i k) ∧ Ext w wr ∧ w4.heap.size ≤ wr.heap.size) (fun i _ => n - (intOf i).toNat)
  case atStart => exact ⟨0, Nat.zero_le _, rfl, own0, Lib.hid (fun i hi => by omega), h04, Nat.le_refl _⟩
  case round =>
    clear own0 fI zz4 h04
    obtain ⟨j, hj, rfl, hf, HOK, he, hz⟩ := hrel
    by_cases hjn : j < n
    · obtain ⟨g1, off1, B1, cB1, e1, x0, rB, hRl⟩ := sq_row hA HSQ.out hjn
      injection e1 with e1
      injection e1 with e1 e2
      subst e1 e2
      obtain ⟨gB, oB, rfl, hc⟩ := rB.five hRl (by omega)
      have HSM := Lib.hid (cmTo_sq q n LL j hj)
      have HST : Hid (cmTo q n LL (j + 1) = (cmTo q n LL j).set j (cmRow q (LL.getD j []) ((cmTo q n LL j).getD j []) n)) := rfl
      generalize cmTo q n LL j = M at *
      have x1 := he.cell x0
      have hf0 : Fr2 wr 5 w.heap.size w4.heap.size G (M.set j (cmRow q (LL.getD j []) (M.getD j []) 0)) vs4 := by
        rw [cmRow, set_getD_self (by rw [HSM.out.1]; exact hjn)]; exact hf
      have hjI : (j : Int) < (n : Int) := by omega
      clear hf
      go_wp2
      go_loopw [8] (fun i wx => ∃ k : Nat, k ≤ n ∧ i = .int .i64 k ∧ Fr2 wx 5 w.heap.size w4.heap.size G (M.set j (cmRow q (LL.getD j []) (M.getD j []) k)) vs4 ∧ Hid (∀ k', k' < k → okAt q LL j k') ∧ Ext w wx ∧ w4.heap.size ≤ wx.heap.size) (fun i _ => n - (intOf i).toNat)
      case atStart => exact ⟨0, Nat.zero_le _, rfl, hf0, Lib.hid (fun i hi => by omega), by first | exact he | exact he.drew | exact he.drewN _, hz⟩
      case round =>
        clear hf0 he hz x1
        obtain ⟨k, hk, rfl, hf, HKO, he, hz⟩ := hrel
        by_cases hkn : k < n
        · have x1 := he.cell x0
          obtain ⟨y0, y1, y2, y3, y4⟩ := hc k hkn
          replace y0 := he.cell y0
          replace y1 := he.cell y1
          replace y2 := he.cell y2
          replace y3 := he.cell y3
          replace y4 := he.cell y4
          have HRW : Hid (cmRow q (LL.getD j []) (M.getD j []) (k + 1) = if bitq k q = 1 then put5 (cmRow q (LL.getD j []) (M.getD j []) k) k ((LL.getD j []).getD (k * 5) 0) ((LL.getD j []).getD (k * 5 + 1) 0) ((LL.getD j []).getD (k * 5 + 2) 0) ((LL.getD j []).getD (k * 5 + 3) 0) ((LL.getD j []).getD (k * 5 + 4) 0) else cmRow q (LL.getD j []) (M.getD j []) k) := rfl
          have HZ : Hid (okAt q LL j k ↔ bitq j q = bitq k q ∨ ((LL.getD j []).getD (k * 5) 0 = 0 ∧ (LL.getD j []).getD (k * 5 + 1) 0 = 0 ∧ (LL.getD j []).getD (k * 5 + 2) 0 = 0 ∧ (LL.getD j []).getD (k * 5 + 3) 0 = 0 ∧ (LL.getD j []).getD (k * 5 + 4) 0 = 0)) := Iff.rfl
          have HCL := Lib.hid (cmRow_length q (LL.getD j []) (M.getD j []) n (sq_getD HSM.out hjn) k hk)
          generalize (LL.getD j []).getD (k * 5) 0 = p0 at *
          generalize (LL.getD j []).getD (k * 5 + 1) 0 = p1 at *
          generalize (LL.getD j []).getD (k * 5 + 2) 0 = p2 at *
          generalize (LL.getD j []).getD (k * 5 + 3) 0 = p3 at *
          generalize (LL.getD j []).getD (k * 5 + 4) 0 = p4 at *
          have hlM : j < (M.set j (cmRow q (LL.getD j []) (M.getD j []) k)).length := by rw [List.length_set, HSM.out.1]; exact hjn
          have hgM : (M.set j (cmRow q (LL.getD j []) (M.getD j []) k)).getD j [] = cmRow q (LL.getD j []) (M.getD j []) k := set_at (by rw [HSM.out.1]; exact hjn)
          obtain ⟨gO, oO, BO, mO, cO, rfl, u0, hvs, hOl, rO⟩ := hf.rd.look hlM
          rw [hgM, HCL.out] at hOl
          obtain rfl : n = mO := by omega
          rw [hgM] at rO
          obtain ⟨gR, oR, rfl, _⟩ := rO.five HCL.out (by omega)
          obtain ⟨l0, z0, lz1, lz2, fR, _⟩ := hf.upd (j := j) (R := cmRow q (LL.getD j []) (M.getD j []) k) (by rw [List.getElem?_set_self (by rw [HSM.out.1]; exact hjn)]) hvs
          obtain ⟨⟨v0, w0⟩, ⟨v1, w1'⟩, ⟨v2, w2'⟩, ⟨v3, w3'⟩, ⟨v4, w4'⟩, f0, f1, f2, f3, f4⟩ := fR.fiveO HCL.out hkn
          have HPUT := Lib.hid (fun (W : World) (hW : Ext wr W) => hf.put5 hlM hvs (by rw [hgM]; exact HCL.out) hkn hW p0 p1 p2 p3 p4)
          rw [hgM, List.set_set] at HPUT
          have hgR := (HPUT.out wr (Ext.refl _)).2
          have hx := bit_sh j q (by omega)
          have hy := bit_sh k q (by omega)
          obtain ⟨x, hxe⟩ : ∃ x : Int, x = (bitq j q : Int) := ⟨_, rfl⟩
          rw [← hxe] at hx
          have HX := Lib.hid hxe
          obtain ⟨y, hye⟩ : ∃ y : Int, y = (bitq k q : Int) := ⟨_, rfl⟩
          rw [← hye] at hy
          have HY := Lib.hid hye
          obtain ⟨z, hze⟩ : ∃ z : Nat, z = j ^^^ k := ⟨_, rfl⟩
          have hz16 : z < 16 := by rw [hze]; exact Nat.xor_lt_two_pow (n := 4) (by omega) (by omega)
          have hxr := bit_xor j k (by omega) (by omega)
          rw [← hze] at hxr
          have hzz := bit_sh z q (by omega)
          obtain ⟨u, hue⟩ : ∃ u : Int, u = (bitq z q : Int) := ⟨_, rfl⟩
          rw [← hue] at hzz
          have HU : Hid (u = 1 ↔ x ≠ y) := by
            show _ ↔ _
            have h1 := bitq_xor ⟨j, by omega⟩ ⟨k, by omega⟩ ⟨q, hq4⟩
            simp only [← hze] at h1
            rw [hue, hxe, hye]
            constructor
            · intro h2; have := h1.1 (by omega); omega
            · intro h2; have := h1.2 (by omega); omega
          have hguard := dom_guard
          have hneq := fun W => dom_neq p0 p1 p2 p3 p4 W
          obtain ⟨d, hd⟩ : ∃ d, d = decide (p0 = 0 ∧ p1 = 0 ∧ p2 = 0 ∧ p3 = 0 ∧ p4 = 0) := ⟨_, rfl⟩
          rw [← hd] at hneq
          have HD := Lib.hid hd
          have hkI : (k : Int) < (n : Int) := by omega
          have HF := Lib.hid hf
          clear hxe hye hd hze hue hlM hgM hOl rO fR hf hc lz1 lz2 hvs
          obtain hxy | hxy : x = y ∨ (x != y) = true := by simp only [bne_iff_ne]; exact Decidable.em _
          · obtain rfl : y = x := hxy.symm
            clear hxy
            have hub : (u == 1) = false := by rw [beq_eq_false_iff_ne]; intro h; exact HU.out.1 h rfl
            have HG : Hid (okAt q LL j k) := HZ.out.2 (.inl (by have := HX.out; have := HY.out; omega))
            by_cases hy1 : y = 1
            · have hyb : (y == 1) = true := by simpa using hy1
              have HB : Hid (bitq k q = 1) := by show _ = _; have := HY.out; omega
              clear hy1
              go_wp2
              skip
              try go_wp2
              go_region
              go_wp2
              go_roundw
              case rel => exact ⟨k + 1, by omega, by go_num, by rw [HRW.out, if_pos HB.out]; exact (HPUT.out _ ((Ext.refl wr))).1.ext ((Ext.refl _).drew), Lib.hid (ok_step HKO.out HG.out), ((((((he).setCell hgR _).setCell hgR _).setCell hgR _).setCell hgR _).setCell hgR _).drew, by simpa [World.setCell] using hz⟩
              case measure => simp [intOf]; omega
            · have hyb : (y == 1) = false := by simpa using hy1
              have HB : Hid (¬ bitq k q = 1) := by show ¬ _; have := HY.out; omega
              clear hy1
              go_wp2
              skip
              try go_wp2
              go_roundw
              case rel => exact ⟨k + 1, by omega, by go_num, by rw [HRW.out, if_neg HB.out]; first | exact HF.out | exact HF.out.ext ((Ext.refl _).drewN _), Lib.hid (ok_step HKO.out HG.out), (by repeat (first | exact Ext.refl _ | assumption | refine Ext.alloc ?_ _ | refine Ext.drew ?_ | refine Ext.drewN ?_ _ | refine Ext.trans ?_ (by assumption))), by simpa using hz⟩
              case measure => simp [intOf]; omega
          · have hub : (u == 1) = true := by rw [beq_iff_eq]; exact HU.out.2 (by simpa using hxy)
            cases d with
            | true =>
              have HG : Hid (okAt q LL j k) := HZ.out.2 (.inr (of_decide_eq_true HD.out.symm))
              by_cases hy1 : y = 1
              · have hyb : (y == 1) = true := by simpa using hy1
                have HB : Hid (bitq k q = 1) := by show _ = _; have := HY.out; omega
                clear hy1
                go_wp2
                skip
                try go_wp2
                go_region
                go_wp2
                go_roundw
                case rel => exact ⟨k + 1, by omega, by go_num, by rw [HRW.out, if_pos HB.out]; exact (HPUT.out _ ((Ext.refl wr))).1.ext ((Ext.refl _).drew), Lib.hid (ok_step HKO.out HG.out), ((((((he).setCell hgR _).setCell hgR _).setCell hgR _).setCell hgR _).setCell hgR _).drew, by simpa [World.setCell] using hz⟩
                case measure => simp [intOf]; omega
              · have hyb : (y == 1) = false := by simpa using hy1
                have HB : Hid (¬ bitq k q = 1) := by show ¬ _; have := HY.out; omega
                clear hy1
                go_wp2
                skip
                try go_wp2
                go_roundw
                case rel => exact ⟨k + 1, by omega, by go_num, by rw [HRW.out, if_neg HB.out]; first | exact HF.out | exact HF.out.ext ((Ext.refl _).drewN _), Lib.hid (ok_step HKO.out HG.out), (by repeat (first | exact Ext.refl _ | assumption | refine Ext.alloc ?_ _ | refine Ext.drew ?_ | refine Ext.drewN ?_ _ | refine Ext.trans ?_ (by assumption))), by simpa using hz⟩
                case measure => simp [intOf]; omega
            | false =>
              have HBAD : Hid (¬ cmOk q n LL) := fun h => by
                have h1 := HZ.out.1 (h j hjn k hkn)
                have h2 := of_decide_eq_false HD.out.symm
                have h3 := HX.out
                have h4 := HY.out
                simp only [bne_iff_ne] at hxy
                rcases h1 with h1 | h1
                · exact hxy (by omega)
                · exact h2 h1
              go_wp2
              skip
              try go_wp2
              go_ret2
              exact .inl ⟨HBAD.out, _, _, rfl, (by repeat (first | exact Ext.refl _ | assumption | refine Ext.alloc ?_ _ | refine Ext.drew ?_ | refine Ext.drewN ?_ _ | refine Ext.trans ?_ (by assumption)))⟩
        · obtain rfl : n = k := by omega
          have HF := Lib.hid hf
          clear hf hc
          go_wp2
          go_roundw
          case rel => exact ⟨j + 1, by omega, by go_num, by rw [HST.out]; exact HF.out, Lib.hid (ok_step (P := fun i => ∀ k, k < n → okAt q LL i k) HOK.out HKO.out), he, hz⟩
          case measure => simp [intOf]; omega
    · obtain rfl : j = n := by omega
      have HF := Lib.hid hf
      clear hf
      go_wp2
      go_ret2
      exact .inr ⟨HOK.out, _, _, _, rfl, HF.out.mono (Nat.le_refl _) hz, he⟩
end Go.Proofs.Ytkcbkbpjaccpgaa
