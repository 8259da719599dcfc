/-
  The contract of the program's CircuitFromLayers. Conditions: the slices read as rows.
-/
import Derived.Test.YtohpgjkflgnfgaaFrom
set_option linter.unusedSimpArgs false
set_option linter.unusedVariables false
namespace Go.Proofs.Ytohpgjkflgnfgaa
open Go.RowKit
set_option maxRecDepth 20000 in
set_option maxHeartbeats 6400000 in
theorem impl_fromL (N : Int) (A : Option Addr) (n : Nat) (LL : List (List Int)) (vs : List Value) (w : World) (hA : Rd2 w 4 A LL vs) (hl : LL.length = n) (hcap : ∀ (j : Nat) B m c, vs[j]? = some (Value.slice B m c) → c = m) (hn : n ≤ 1048576) (ht : tot LL ≤ 4194304)
    (ok : Bool) (N2 : Int) (R : List Int) (r : Nat) (hR : (flOk N LL ∧ ok = true ∧ N2 = N ∧ R = LL.flatten ∧ r = tot LL / 4) ∨ (¬ flOk N LL ∧ ok = false ∧ N2 = 0 ∧ R = [] ∧ r = 0)) :
    Calls Try.prog 21 #[.int .i64 N, .slice A n n] w (RetC w N2 r R ok) := by
  have HL := Lib.hid hl
  have HR := Lib.hid hR
  have HT := Lib.hid ht
  have HCAP := Lib.hid hcap
  clear hl hR ht hcap
  obtain ⟨i0, hi, hz0, hz1, hz2⟩ := info_parts info_gate
  obtain ⟨W2, hW2⟩ : ∃ W2, W2 = w.alloc (.cells #[.int .i64 0, .slice none 0 0] 29) := ⟨_, rfl⟩
  have rr : Blk W2 w.heap.size #[.int .i64 0, .slice none 0 0] := by rw [hW2]; exact Blk.new _ _ _
  have HSZ : Hid (W2.heap.size = w.heap.size + 1) := by show _ = _; rw [hW2]; simp
  have hwW : Ext w W2 := by rw [hW2]; exact (by repeat (first | exact Ext.refl _ | assumption | refine Ext.alloc ?_ _ | refine Ext.drew ?_ | refine Ext.drewN ?_ _ | refine Ext.trans ?_ (by assumption)))
  have HW := Lib.hid hW2
  clear hW2
  have rA := hA.ext hwW
  go_enter Try.func21, Try.ntmps21
  go_wp2
  rw [← HW.out]
  have hC0 : (W2.alloc (.cells #[.int .i64 N, .slice none 0 0] 29)).heap[W2.heap.size]? = some (.cells #[.int .i64 N, .slice none 0 0] 29 (0, 0)) := heap_alloc_new _ _
  rw [← HSZ.out]
  go_loopw [8, 19] (fun _ i wr => ∃ (j q : Nat) (v : Value), j ≤ n ∧ i = .int .i64 j ∧ Hid (tot (LL.take j) = q * 4) ∧ wr.heap[W2.heap.size]? = some (.cells #[.int .i64 N, v] 29 (0, 0)) ∧ wr.ownsRow W2.heap.size 55 4 v q (ints (LL.take j).flatten) ∧ Ext W2 wr) (fun _ i _ => n - (intOf i).toNat)
  case atStart => exact ⟨0, 0, _, Nat.zero_le _, rfl, Lib.hid rfl, hC0, World.ownsRow_nil _ _ _ _, (by repeat (first | exact Ext.refl _ | assumption | refine Ext.alloc ?_ _ | refine Ext.drew ?_ | refine Ext.drewN ?_ _ | refine Ext.trans ?_ (by assumption)))⟩
  case round =>
    clear hC0
    obtain ⟨j, q, v, hj, rfl, HQ, bC, own, he⟩ := hrel
    by_cases hlt : j < n
    · obtain ⟨g, off, B, m, cB, rfl, x0, hv, hRl, rB⟩ := (rA.ext he).look (j := j) (by have := HL.out; omega)
      obtain rfl := HCAP.out j B m cB hv
      have HJ : Hid (j < LL.length) := by show _ < _; have := HL.out; omega
      have HRW := Lib.hid (row_le_tot LL j)
      have HST := Lib.hid (tot_step LL j HJ.out)
      have HFL := Lib.hid (flat_step LL j HJ.out)
      have HTT := Lib.hid (tot_take LL j)
      have HRl := Lib.hid hRl
      have hm : cB ≤ 1048576 := by have := HRW.out; have := HT.out; omega
      have hq : q ≤ 1048576 := by have := HQ.out; have := HTT.out; have := HT.out; omega
      clear hv hRl
      generalize LL.getD j [] = R0 at *
      have cv := (Blk.all ⟨_, bC⟩).1 1
      simp only [List.getElem?_toArray, List.getElem?_cons_zero, List.getElem?_cons_succ] at cv
      have hjI : (j : Int) < (n : Int) := by omega
      have HSRC := Lib.hid (src_some rB HRl.out)
      go_wp2_with (at_builtin; refine wpList_append_rd rfl _ _ 27 rfl W2.heap.size 55 i0 (.agg #[.int .i64 0, .int .i64 0, .int .i64 0, .int .i64 0]) 4 32 Try.underlying27 hi hz0 hz1 hz2 rfl (by decide) v q (ints (LL.take j).flatten) rfl own B cB cB (ints R0) rfl ?c1 rB HSRC.out (ints_one _) ?c3 ?c4 he.size ?_)
      case c1 => rw [ints_length]; exact HRl.out
      case c3 => unfold maxLen; omega
      case c4 => omega
      intro v' w4 own4 hg4
      obtain ⟨G4, c4, rfl⟩ := own_form own4
      have he4 := own_ext he own (Nat.le_refl _) hg4
      have bk : w4.heap[W2.heap.size]? = some (.cells #[.int .i64 N, v] 29 (0, 0)) := (hg4.block _ (lt_of_blk bC) (fun e => own_other own bC (by decide) e.symm)).trans bC
      obtain ⟨bc, bf, bz⟩ := Blk.all ⟨_, bk⟩
      have HB := Lib.hid bk
      have HO4 := Lib.hid own4
      clear bk own4 hg4 cv x0 hi hz0 hz1 hz2 own bC rB
      go_wp2
      go_roundw
      case rel => exact ⟨j + 1, q + cB, _, by omega, by go_num, Lib.hid (by rw [HST.out, HQ.out, HRl.out]; omega), heap_set1' HB.out, own_set1 (by rw [HFL.out, ints_app]; exact HO4.out) HB.out (by decide) 1 _, he4.setCell (Nat.le_refl _) _⟩
      case measure => simp [intOf]; omega
    · obtain rfl : j = n := by omega
      obtain ⟨G, cap, rfl⟩ := own_form own
      have HX : Hid (LL.take j = LL) := by show _ = _; exact List.take_of_length_le (by have := HL.out; omega)
      rw [HX.out] at HQ own
      have hq : q ≤ 1048576 := by have := HQ.out; have := HT.out; omega
      have HQ4 : Hid (tot LL / 4 = q) := by show _ = _; have := HQ.out; omega
      have hf := Fr.of_own own
      have rG := hf.rd
      have hz2' : w.heap.size + 1 + 1 ≤ wr.heap.size := by have := lt_of_blk bC; have := HSZ.out; omega
      clear own hi hz0 hz1 hz2
      have cb := Blk.all ⟨_, bC⟩
      obtain ⟨bc, bf, bz⟩ := cb
      have hv := fun W (hW : Ext wr W) => impl_validC N G q cap LL.flatten W (rG.ext hW) (by rw [flat_len2, HQ.out]) (by omega)
      obtain ⟨d, hd⟩ : ∃ d, d = validC N LL.flatten q := ⟨_, rfl⟩
      rw [← hd] at hv
      have HV := Lib.hid hv
      have HD := Lib.hid hd
      clear hv hd
      cases d with
      | false =>
        have HF : Hid (¬ flOk N LL) := fun h => by have := h.2; rw [HQ4.out, ← HD.out] at this; cases this
        rcases HR.out with ⟨h, _⟩ | ⟨_, rfl, rfl, rfl, rfl⟩
        · exact absurd h HF.out
        · go_wp2_with fail
          refine (HV.out _ (Ext.refl _)).mono ?_
          rintro e w6 ⟨rfl, h6⟩
          have rr6 := rr.ext (he.trans h6)
          obtain ⟨rc, rf, rz⟩ := rr6.all
          clear bc bf bz
          go_wp2
          refine bodyPost_ret (v := .tuple #[.agg #[.int .i64 0, .slice none 0 0], .bool false]) (by simp [results, Try.results21, go_sem, rc]) rfl (RetC.mk none 0 (Fr.nil _ _ _ _) ?_)
          exact ((hwW.trans (he.trans h6)).setCell (by simp) _).setCell (by simp) _
      | true =>
        go_wp2_with fail
        refine (HV.out _ (Ext.refl _)).mono ?_
        rintro e w6 ⟨rfl, h6⟩
        have he6 := he.trans h6
        have hf6 := hf.ext h6
        have bC6 := Ext.blk h6 bC
        have HB6 := Lib.hid bC6
        have zz6 := h6.size
        clear bc bf bz bC hf rG he bC6 h6
        go_wp2
        go_loopw [10, 11, 12, 14, 35] (fun _ _ _ _ i wx => ∃ a : Nat, a ≤ j ∧ i = .int .i64 a ∧ Hid (clashAll LL a = false) ∧ Ext w6 wx) (fun _ _ _ _ i _ => j - (intOf i).toNat)
        case atStart => exact ⟨0, Nat.zero_le _, rfl, Lib.hid rfl, Ext.refl _⟩
        case round =>
          obtain ⟨a, ha, rfl, HCL, hx⟩ := hrel
          by_cases halt : a < j
          · obtain ⟨g, off, B, m, cB, rfl, x0, hv, hRl, rB⟩ := (rA.ext (he6.trans hx)).look (j := a) (by have := HL.out; omega)
            obtain rfl := HCAP.out a B m cB hv
            have HJ : Hid (a < LL.length) := by show _ < _; have := HL.out; omega
            have HRW := Lib.hid (row_le_tot LL a)
            have HCA : Hid (clashAll LL (a + 1) = (clashAll LL a || rowClash (LL.getD a []))) := rfl
            have HNO : Hid (rowClash (LL.getD a []) = true → ¬ flOk N LL) := fun h hf => by
              have := clashAll_at HJ.out h
              rw [hf.1] at this
              cases this
            have HRl := Lib.hid hRl
            have hm : cB ≤ 1048576 := by have := HRW.out; have := HT.out; omega
            clear hv hRl
            generalize LL.getD a [] = R0 at *
            have haI : (a : Int) < (j : Int) := by omega
            obtain ⟨wo, rfl⟩ : ∃ wo : World, wo = wr := ⟨_, rfl⟩
            go_wp2_with fail
            go_loopw [11, 12, 14, 41] (fun _ _ _ s wx => ∃ k : Nat, k ≤ cB ∧ s = .int .i64 k ∧ Hid (clashTo R0 k = false) ∧ Ext wo wx) (fun _ _ _ s _ => cB - (intOf s).toNat)
            case atStart => exact ⟨0, Nat.zero_le _, rfl, Lib.hid rfl, Ext.refl _⟩
            case round =>
              obtain ⟨k, hk, rfl, hf, hx2⟩ := hrel
              by_cases hkm : k < cB
              · obtain ⟨gB, oB, rfl, hcB⟩ := (rB.ext hx2).four HRl.out (by omega)
                obtain ⟨y0, y1, y2, y3⟩ := hcB k hkm
                have HQ2 : Hid (qAt R0 k = qubits (R0.getD (k * 4) 0) (R0.getD (k * 4 + 1) 0) (R0.getD (k * 4 + 2) 0) (R0.getD (k * 4 + 3) 0)) := rfl
                generalize R0.getD (k * 4) 0 = r0 at *
                generalize R0.getD (k * 4 + 1) 0 = r1 at *
                generalize R0.getD (k * 4 + 2) 0 = r2 at *
                generalize R0.getD (k * 4 + 3) 0 = r3 at *
                clear hcB
                have kI : (k : Int) < (cB : Int) := by omega
                have kI2 : (k : Int) ≤ (cB : Int) := by omega
                obtain ⟨wp, rfl⟩ : ∃ wp : World, wp = wr := ⟨_, rfl⟩
                have bG := Blk.new wp 55 #[.int .i64 r0, .int .i64 r1, .int .i64 r2, .int .i64 r3]
                go_wp2_with fail
                go_loopw [14, 50] (fun _ s wx => ∃ i : Nat, i ≤ k ∧ s = .int .i64 i ∧ Hid (anyM R0 (qAt R0 k) i = false) ∧ Ext wp wx ∧ Blk wx wp.heap.size #[.int .i64 r0, .int .i64 r1, .int .i64 r2, .int .i64 r3]) (fun _ s _ => k - (intOf s).toNat)
                case atStart => exact ⟨0, Nat.zero_le _, rfl, Lib.hid rfl, (by repeat (first | exact Ext.refl _ | assumption | refine Ext.alloc ?_ _ | refine Ext.drew ?_ | refine Ext.drewN ?_ _ | refine Ext.trans ?_ (by assumption))), bG⟩
                case round =>
                  clear bG
                  obtain ⟨i, hik, rfl, hfi, hx3, bG⟩ := hrel
                  by_cases hilt : i < k
                  · obtain ⟨t0, t1, t2, t3⟩ := ((rB.ext hx2).ext hx3).fourAt' HRl.out (show i < cB by omega)
                    have HQ3 : Hid (qAt R0 i = qubits (R0.getD (i * 4) 0) (R0.getD (i * 4 + 1) 0) (R0.getD (i * 4 + 2) 0) (R0.getD (i * 4 + 3) 0)) := rfl
                    generalize R0.getD (i * 4) 0 = s0 at *
                    generalize R0.getD (i * 4 + 1) 0 = s1 at *
                    generalize R0.getD (i * 4 + 2) 0 = s2 at *
                    generalize R0.getD (i * 4 + 3) 0 = s3 at *
                    have HC := Lib.hid (fun W => impl_meets r0 r1 r2 r3 s0 s1 s2 s3 W)
                    rw [← HQ2.out, ← HQ3.out, meets2_comm] at HC
                    obtain ⟨d, hd⟩ : ∃ d, d = meets2 (qAt R0 i) (qAt R0 k) := ⟨_, rfl⟩
                    rw [← hd] at HC
                    have HD3 := Lib.hid hd
                    clear hd
                    obtain ⟨bc, bf, bz⟩ := bG.all
                    clear bf
                    have iI : (i : Int) < (k : Int) := by omega
                    cases d with
                    | true =>
                      have HF : Hid (¬ flOk N LL) := HNO.out (clashTo_at (k := k) (by have := HRl.out; omega) (anyM_at hilt HD3.out.symm))
                      go_wp2_with fail
                      refine (HC.out _).mono ?_
                      rintro e w8 ⟨rfl, h8⟩
                      have e8 : Ext wp w8 := Ext.trans (hx3.alloc _) h8
                      have h08 := he6.trans (hx.trans (hx2.trans e8))
                      have rr8 := rr.ext h08
                      obtain ⟨rc, rf, rz⟩ := rr8.all
                      clear bc bz t0 t1 t2 t3 y0 y1 y2 y3 x0 bG h8
                      rcases HR.out with ⟨h, _⟩ | ⟨_, rfl, rfl, rfl, rfl⟩
                      · exact absurd h HF.out
                      · go_wp2
                        refine bodyPost_ret (v := .tuple #[.agg #[.int .i64 0, .slice none 0 0], .bool false]) (by simp [results, Try.results21, go_sem, rc]) rfl (RetC.mk none 0 (Fr.nil _ _ _ _) ?_)
                        exact ((hwW.trans h08).setCell (by simp) _).setCell (by simp) _
                    | false =>
                      go_wp2_with fail
                      refine (HC.out _).mono ?_
                      rintro e w8 ⟨rfl, h8⟩
                      have e8 : Ext wp w8 := Ext.trans (hx3.alloc _) h8
                      have bG8 := bG.to h8 (by repeat (first | exact Ext.refl _ | assumption | refine Ext.alloc ?_ _ | refine Ext.drew ?_ | refine Ext.drewN ?_ _ | refine Ext.trans ?_ (by assumption)))
                      clear bc bz t0 t1 t2 t3 bG h8
                      go_wp2
                      go_roundw
                      case rel => exact ⟨i + 1, by omega, by go_num, Lib.hid (by rw [anyM, hfi.out, ← HD3.out]; rfl), e8, bG8⟩
                      case measure => simp [intOf]; omega
                  · obtain rfl : i = k := by omega
                    go_wp2
                    go_roundw
                    case rel => exact ⟨i + 1, by omega, by go_num, Lib.hid (by rw [clashTo, hf.out, hfi.out]; rfl), hx2.trans hx3⟩
                    case measure => simp [intOf]; omega
              · obtain rfl : k = cB := by omega
                have HN : Hid (clashAll LL (a + 1) = false) := by
                  show _ = _
                  rw [HCA.out, HCL.out]
                  have : rowClash R0 = clashTo R0 k := by unfold rowClash; rw [HRl.out]; congr 1; omega
                  rw [this, hf.out]; rfl
                go_wp2
                go_roundw
                case rel => exact ⟨a + 1, by omega, by go_num, HN, hx.trans hx2⟩
                case measure => simp [intOf]; omega
          · obtain rfl : a = j := by omega
            have HF : Hid (flOk N LL) := ⟨by rw [HL.out]; exact HCL.out, by rw [HQ4.out]; exact HD.out.symm⟩
            rcases HR.out with ⟨_, rfl, e2, rfl, e4⟩ | ⟨h, _⟩
            · subst e2
              obtain rfl : q = r := by rw [e4]; exact HQ4.out.symm
              clear e4 HR
              have rr6 := rr.ext (he6.trans hx)
              obtain ⟨rc, rf, rz⟩ := rr6.all
              obtain ⟨bc, bf, bz⟩ := Blk.all ⟨_, Ext.blk hx HB6.out⟩
              have zz7 := hx.size
              go_wp2
              refine bodyPost_ret (v := .tuple #[.agg #[.int .i64 N2, .slice G q cap], .bool true]) (by simp [results, Try.results21, go_sem, rc, bc]) rfl (RetC.mk G cap ?_ ?_)
              · rw [size_set2]
                exact ((hf6.ext hx).set2 (C := w.heap.size) (by rw [HSZ.out]; exact Nat.le_refl _) _ _).mono (by rw [HSZ.out]; exact Nat.le_succ _) (by omega)
              · exact ((hwW.trans (he6.trans hx)).setCell (by simp) _).setCell (by simp) _
            · exact absurd HF.out h
end Go.Proofs.Ytohpgjkflgnfgaa
