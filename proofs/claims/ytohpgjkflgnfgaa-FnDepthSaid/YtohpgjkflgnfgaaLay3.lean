/-
  The contract of the program's CircuitLayers. Conditions: the circuit is valid.
-/
import Derived.Test.YtohpgjkflgnfgaaLay2
set_option linter.unusedSimpArgs false
set_option linter.unusedVariables false
namespace Go.Proofs.Ytohpgjkflgnfgaa
open Go.RowKit
set_option maxRecDepth 20000 in
set_option maxHeartbeats 6400000 in
theorem impl_layers_yes (N : Int) (A : Option Addr) (n c : Nat) (L : List Int) (w : World) (hA : Rd w A (ints L)) (hl : L.length = n * 4) (hn : n ≤ 60) (hv : validC N L n = true) :
    Calls Try.prog 13 #[.agg #[.int .i64 N, .slice A n c]] w fun e w' => ∃ G cG vs, e = .returned (.slice G (layersTo L n).length cG) ∧ Own2 w' w.heap.size 27 55 4 (.slice G (layersTo L n).length cG) (layersTo L n) vs ∧ Ext w w' := by
  have HL := Lib.hid hl
  clear hl
  obtain ⟨i0, hi, hz0, hz1, hz2⟩ := info_parts info_gate
  obtain ⟨i1, hj1, hy0, hy1, hy2⟩ := info_parts info_sl
  go_enter Try.func13, Try.ntmps13
  go_wp2_with fail
  refine (impl_validC N A n c L _ (hA.ext (by repeat (first | exact Ext.refl _ | assumption | refine Ext.alloc ?_ _ | refine Ext.drew ?_ | refine Ext.drewN ?_ _ | refine Ext.trans ?_ (by assumption)))) HL.out (by omega)).mono ?_
  rintro e W0 ⟨rfl, h1⟩
  have x := (Blk.new w 29 #[.int .i64 N, .slice A n c]).ext h1
  have hwW : Ext w W0 := (by repeat (first | exact Ext.refl _ | assumption | refine Ext.alloc ?_ _ | refine Ext.drew ?_ | refine Ext.drewN ?_ _ | refine Ext.trans ?_ (by assumption)))
  have hWz : w.heap.size + 1 ≤ W0.heap.size := by have := h1.size; simpa using this
  have rA := hA.ext hwW
  have x1 := x.all.1 1
  have xz := x.all.2.2
  simp only [List.getElem?_toArray, List.getElem?_cons_zero, List.getElem?_cons_succ] at x1
  clear h1
  have own0 := own_new (w := W0) (g := W0.heap.size) (base := W0.heap.size) (e := 27) (size := 1) #[] 0 rfl (Nat.le_refl _) (by simp) (by simp)
  go_wp2
  clear x1
  go_loopw [3, 5, 6, 7, 9, 17] (fun v _ _ _ _ i wr => ∃ (j : Nat) (vs : List Value), j ≤ n ∧ i = .int .i64 j ∧ Own2 wr W0.heap.size 27 55 4 v (layersTo L j) vs ∧ Ext W0 wr) (fun _ _ _ _ _ i _ => n - (intOf i).toNat)
  case atStart => exact ⟨0, [], Nat.zero_le _, rfl, Own2.nil own0, (by repeat (first | exact Ext.refl _ | assumption | refine Ext.alloc ?_ _ | refine Ext.drew ?_ | refine Ext.drewN ?_ _ | refine Ext.trans ?_ (by assumption)))⟩
  case round =>
    clear own0
    obtain ⟨j, vs, hj, rfl, own, he⟩ := hrel
    by_cases hlt : j < n
    · obtain ⟨g, off, rfl, hc⟩ := (rA.ext he).four HL.out (by omega)
      obtain ⟨x0, x1, x2, x3⟩ := hc j hlt
      have HS : Hid (layersTo L (j + 1) = putG (layersTo L j) (findAt (layersTo L j) (qAt L j) (layersTo L j).length) (gAt L j)) := rfl
      have HQ : Hid (qAt L j = qubits (L.getD (j * 4) 0) (L.getD (j * 4 + 1) 0) (L.getD (j * 4 + 2) 0) (L.getD (j * 4 + 3) 0)) := rfl
      have HG : Hid (gAt L j = [L.getD (j * 4) 0, L.getD (j * 4 + 1) 0, L.getD (j * 4 + 2) 0, L.getD (j * 4 + 3) 0]) := rfl
      have HLL := Lib.hid (layersTo_len L j)
      have HROW := Lib.hid (layersTo_row L j)
      generalize layersTo L j = LL at HS HLL HROW own
      generalize L.getD (j * 4) 0 = p0 at *
      generalize L.getD (j * 4 + 1) 0 = p1 at *
      generalize L.getD (j * 4 + 2) 0 = p2 at *
      generalize L.getD (j * 4 + 3) 0 = p3 at *
      clear hc
      obtain ⟨V, cV, rfl⟩ := own_form own.outer
      obtain ⟨nL, hnL⟩ : ∃ nL, nL = LL.length := ⟨_, rfl⟩
      have HN := Lib.hid hnL
      rw [← hnL]
      have hnj : nL ≤ j := by rw [hnL]; exact HLL.out
      clear hnL
      have hjI : (j : Int) < (n : Int) := by omega
      go_upto_block 2 with fail
      obtain ⟨W1, hW1⟩ : ∃ W1, W1 = wr.alloc (.cells #[.int .i64 p0, .int .i64 p1, .int .i64 p2, .int .i64 p3] 55) := ⟨_, rfl⟩
      rw [← hW1]
      have bG : Blk W1 wr.heap.size #[.int .i64 p0, .int .i64 p1, .int .i64 p2, .int .i64 p3] := by rw [hW1]; exact Blk.new _ _ _
      have HVD := Lib.hid (fun b hb => (own.outer.lt b hb).2)
      replace own : Own2 W1 W0.heap.size 27 55 4 (.slice V LL.length cV) LL vs := by rw [hW1]; exact own.ext (by repeat (first | exact Ext.refl _ | assumption | refine Ext.alloc ?_ _ | refine Ext.drew ?_ | refine Ext.drewN ?_ _ | refine Ext.trans ?_ (by assumption)))
      have he1 : Ext W0 W1 := by rw [hW1]; exact he.alloc _
      clear hW1 x0 x1 x2 x3 he
      generalize wr.heap.size = D at *
      go_cut [6, 7, 9] (fun s6 _ _ wx => s6 = .int .i64 (findAt LL (qAt L j) LL.length) ∧ Ext W1 wx)
      case first =>
        go_wp2_with fail
        go_loopw [6, 7, 9] (fun s _ _ wx => ∃ k : Nat, k ≤ nL ∧ s = .int .i64 k ∧ Hid (findAt LL (qAt L j) k = findAt LL (qAt L j) LL.length) ∧ Ext W1 wx) (fun s _ _ _ => (intOf s).toNat)
        case atStart => exact ⟨nL, Nat.le_refl _, rfl, Lib.hid (by rw [HN.out]), Ext.refl _⟩
        case round =>
          obtain ⟨k, hk, rfl, hf, hx⟩ := hrel
          cases k with
          | zero =>
            go_wp2
            go_meet
            exact ⟨by rw [← hf.out]; rfl, (by repeat (first | exact Ext.refl _ | assumption | refine Ext.alloc ?_ _ | refine Ext.drew ?_ | refine Ext.drewN ?_ _ | refine Ext.trans ?_ (by assumption)))⟩
          | succ k =>
            obtain ⟨gV, capV, B, m, cB, e1, v1, _, _, hRl, ownR, _⟩ := (own.ext hx).look (j := k) (by have := HN.out; omega)
            injection e1 with e1 e2 e3
            clear e2
            subst e1 e3
            have rB := (Fr.of_own ownR).rd
            have hm : m ≤ j := by have := HROW.out k; omega
            have HRl := Lib.hid hRl
            clear ownR hRl
            rw [show (((k + 1 : Nat)) : Int) = (k : Int) + 1 from by omega]
            have w5 : (k : Int) < (nL : Int) := by omega
            obtain ⟨w5, rfl⟩ : ∃ w5 : World, w5 = wr := ⟨_, rfl⟩
            go_wp2_with fail
            go_loopw [7, 9, 31] (fun hb _ i wx => ∃ q : Nat, q ≤ m ∧ i = .int .i64 q ∧ hb = .bool (anyM (LL.getD k []) (qAt L j) q) ∧ Ext w5 wx) (fun _ _ i _ => m - (intOf i).toNat)
            case atStart => exact ⟨0, Nat.zero_le _, rfl, rfl, Ext.refl _⟩
            case round =>
              obtain ⟨q, hq, rfl, rfl, hx2⟩ := hrel
              by_cases hqm : q < m
              · obtain ⟨gB, oB, rfl, hcB⟩ := (rB.ext hx2).four HRl.out (by omega)
                obtain ⟨y0, y1, y2, y3⟩ := hcB q hqm
                have HQ2 : Hid (qAt (LL.getD k []) q = qubits ((LL.getD k []).getD (q * 4) 0) ((LL.getD k []).getD (q * 4 + 1) 0) ((LL.getD k []).getD (q * 4 + 2) 0) ((LL.getD k []).getD (q * 4 + 3) 0)) := rfl
                have HA : Hid (anyM (LL.getD k []) (qAt L j) (q + 1) = (anyM (LL.getD k []) (qAt L j) q || meets2 (qAt (LL.getD k []) q) (qAt L j))) := rfl
                generalize (LL.getD k []).getD (q * 4) 0 = r0 at *
                generalize (LL.getD k []).getD (q * 4 + 1) 0 = r1 at *
                generalize (LL.getD k []).getD (q * 4 + 2) 0 = r2 at *
                generalize (LL.getD k []).getD (q * 4 + 3) 0 = r3 at *
                clear hcB
                have HC := Lib.hid (fun W => impl_meets p0 p1 p2 p3 r0 r1 r2 r3 W)
                rw [← HQ.out, ← HQ2.out, meets2_comm] at HC
                generalize meets2 (qAt (LL.getD k []) q) (qAt L j) = dm at HC HA
                have hqI : (q : Int) < (m : Int) := by omega
                obtain ⟨b, hb⟩ : ∃ b, b = anyM (LL.getD k []) (qAt L j) q := ⟨_, rfl⟩
                rw [← hb] at HA ⊢
                clear hb
                have bg := ((bG.ext hx).ext hx2)
                obtain ⟨bc, bf, bz⟩ := bg.all
                clear bf
                cases b with
                | true =>
                  go_wp2
                  go_roundw
                  case rel => exact ⟨q + 1, by omega, by go_num, by rw [HA.out]; rfl, hx2.alloc _⟩
                  case measure => simp [intOf]; omega
                | false =>
                  go_wp2_with fail
                  refine (HC.out _).mono ?_
                  rintro e w6 ⟨rfl, h6⟩
                  have h56 : Ext w5 w6 := (by repeat (first | exact Ext.refl _ | assumption | refine Ext.alloc ?_ _ | refine Ext.drew ?_ | refine Ext.drewN ?_ _ | refine Ext.trans ?_ (by assumption)))
                  clear h6 bc bz y0 y1 y2 y3
                  go_wp2
                  go_roundw
                  case rel => exact ⟨q + 1, by omega, by go_num, by rw [HA.out]; rfl, h56⟩
                  case measure => simp [intOf]; omega
              · obtain rfl : q = m := by omega
                have HD : Hid (anyM (LL.getD k []) (qAt L j) q = rowAny (LL.getD k []) (qAt L j)) := by show _ = _; unfold rowAny; rw [HRl.out]; congr 1; omega
                generalize anyM (LL.getD k []) (qAt L j) q = d at *
                cases d with
                | true =>
                  go_wp2
                  go_meet
                  exact ⟨by rw [← hf.out, findAt_stop HD.out.symm]; go_num, hx.trans hx2⟩
                | false =>
                  go_wp2
                  go_roundw
                  case rel => exact ⟨k, by omega, by go_num, Lib.hid (by rw [← hf.out, findAt_step HD.out.symm]), hx.trans hx2⟩
                  case measure => simp [intOf]
      case rest =>
        obtain ⟨rfl, hx⟩ := hcut
        have HK := Lib.hid (findAt_le LL (qAt L j) LL.length)
        have HS2 : Hid (layersTo L (j + 1) = (growL LL (findAt LL (qAt L j) LL.length)).set (findAt LL (qAt L j) LL.length) ((growL LL (findAt LL (qAt L j) LL.length)).getD (findAt LL (qAt L j) LL.length) [] ++ gAt L j)) := HS.out
        generalize findAt LL (qAt L j) LL.length = k at *
        have hkn : k ≤ nL := by have := HK.out; have := HN.out; omega
        replace own := own.ext hx
        replace bG := bG.ext hx
        have he := he1.trans hx
        clear hx he1
        go_upto_if 48 with fail
        go_cut [3] (fun s3 wx => ∃ G cG vs', s3 = .slice G (growL LL k).length cG ∧ Own2 wx W0.heap.size 27 55 4 (.slice G (growL LL k).length cG) (growL LL k) vs' ∧ Ext W0 wx ∧ Blk wx D #[.int .i64 p0, .int .i64 p1, .int .i64 p2, .int .i64 p3])
        case first =>
          have hW1z := he.size
          by_cases hkk : k = nL
          · have d1 : ((k : Int) == (nL : Int)) = true := by simp; omega
            have HE : Hid (growL LL k = LL ++ [[]]) := by show _ = _; unfold growL; rw [if_pos (by rw [hkk]; exact HN.out)]
            clear hkk
            have ownV : wc.ownsRow W0.heap.size 27 1 (.slice V nL cV) nL vs := by have := own.outer; rw [← HN.out] at this; exact this
            have HB0 : Hid (Blk (wc.alloc (.cells #[.slice none 0 0] 27)) wc.heap.size #[.slice none 0 0]) := Blk.new _ _ _
            go_wp2_with (at_builtin; refine wpList_append_new rfl _ _ 33 rfl W0.heap.size 27 i1 (.slice none 0 0) 1 24 Try.underlying33 hj1 hy0 hy1 hy2 rfl (by decide) _ nL vs rfl (ownV.alloc _) wc.heap.size 1 1 #[.slice none 0 0] rfl HB0.out rfl (by decide) (one_sl _ _ _) ?c2 ?c3 ?c4 ?_)
            case c2 => unfold maxLen; omega
            case c3 => omega
            case c4 => simp; omega
            intro G cG w4 hw4 hg4 hb4
            have P4 := own.push (by decide) (B := none) (c := 0) (v' := .slice G (nL + 1) cG) (w1 := wc.alloc (.cells #[.slice none 0 0] 27)) (w2 := w4)
              (World.ownsRow_nil _ _ _ _) (fun b hb => by cases hb) (by repeat (first | exact Ext.refl _ | assumption | refine Ext.alloc ?_ _ | refine Ext.drew ?_ | refine Ext.drewN ?_ _ | refine Ext.trans ?_ (by assumption))) (by rw [← HN.out]; exact hw4) (by rw [← HN.out]; exact hg4)
            have e4 := own_ext (a := W0) (he.alloc _) (ownV.alloc _) (Nat.le_refl _) hg4
            have HP4 := Lib.hid P4
            have HBG : Hid (Blk w4 D #[.int .i64 p0, .int .i64 p1, .int .i64 p2, .int .i64 p3]) := by
              obtain ⟨t, ht⟩ := bG
              have ht' := Ext.blk ((Ext.refl wc).alloc (.cells #[.slice none 0 0] 27)) ht
              exact ⟨t, (hg4.block D (lt_of_blk ht') (fun e => by have := HVD.out D (by rw [← HN.out]; exact e.symm); omega)).trans ht'⟩
            clear P4 hw4 hg4 hb4 ownV hi hz0 hz1 hz2 hj1 hy0 hy1 hy2
            go_wp2
            go_meet
            refine ⟨G, cG, vs ++ [.slice none 0 0], ?_, ?_, e4, HBG.out⟩
            · rw [HE.out, List.length_append, ← HN.out]; rfl
            · rw [HE.out, List.length_append, ← HN.out]; exact HP4.out
          · have d1 : ((k : Int) == (nL : Int)) = false := by simp; omega
            have HE : Hid (growL LL k = LL) := by show _ = _; unfold growL; rw [if_neg (by rw [← HN.out]; exact hkk)]
            clear hkk
            go_wp2
            go_meet
            exact ⟨V, cV, vs, by rw [HE.out, ← HN.out], by rw [HE.out]; exact own, he, bG⟩
        case rest =>
          clear own he bG
          obtain ⟨G, cG, vs', rfl, own, he, bG⟩ := hcut
          have HKG := Lib.hid (growL_len LL k HK.out)
          have HRW : Hid (((growL LL k).getD k []).length ≤ j * 4) := by show _ ≤ _; rw [growL_getD]; exact HROW.out k
          generalize growL LL k = M at *
          obtain ⟨gV, capV, B, m, cB, e1, v1, f1, hvs, hRl, ownR, hgz, _⟩ := own.look HKG.out
          injection e1 with e1 e2 e3
          clear e2
          subst e1 e3
          have hm : m ≤ j := by have := HRW.out; omega
          have d0 := bG.all.1 0
          have d1 := bG.all.1 1
          have d2 := bG.all.1 2
          have d3 := bG.all.1 3
          simp only [List.getElem?_toArray, List.getElem?_cons_zero, List.getElem?_cons_succ] at d0 d1 d2 d3
          obtain ⟨nM, hnM⟩ : ∃ nM, nM = M.length := ⟨_, rfl⟩
          have HM := Lib.hid hnM
          rw [← hnM]
          have hkM : (k : Int) < (nM : Int) := by have := HKG.out; omega
          clear hnM hRl
          have hW1z := he.size
          have hbk := Blk.new wc 55 #[.int .i64 p0, .int .i64 p1, .int .i64 p2, .int .i64 p3]
          go_wp2
          go_region_law (refine step_append_new (by rfl) _ _ 27 (by rfl) W0.heap.size 55 i0 (.agg #[.int .i64 0, .int .i64 0, .int .i64 0, .int .i64 0]) 4 32 Try.underlying27 hi hz0 hz1 hz2 (by rfl) (by decide) (.slice B m cB) m (ints (M.getD k [])) (by rfl) (by first | exact ownR.alloc _ | exact ownR.drew.alloc _) wc.heap.size 1 1 #[.int .i64 p0, .int .i64 p1, .int .i64 p2, .int .i64 p3] (by rfl) (by exact hbk) (by rfl) (by decide) (ints_one [p0, p1, p2, p3]) (by unfold maxLen; omega) (by omega) (by simp; omega) ?_; intro G1 c1 w4 own4 hg4 hb4; obtain ⟨z1, z2, z3⟩ := own.cell_after (by decide) HKG.out hvs ((Ext.refl wc).drew.alloc _) hg4; have HP := Lib.hid (own.put (by decide) HKG.out hvs (news := [p0, p1, p2, p3]) ((Ext.refl wc).drew.alloc _) (by rw [ints_app]; exact own4) hg4 hb4); have e4 := own_ext (a := W0) ((he.drew).alloc _) (ownR.drew.alloc _) (Nat.le_refl _) hg4)
          all_goals
            clear own4 hg4 hb4 hi hz0 hz1 hz2 hj1 hy0 hy1 hy2 d0 d1 d2 d3 v1 f1 hbk ownR own bG
            go_wp2
            go_roundw
            case rel => exact ⟨j + 1, _, by omega, by go_num, by rw [HS2.out, HG.out, HM.out]; exact HP.out, e4.setCell hgz _⟩
            case measure => simp [intOf]; omega
    · obtain rfl : j = n := by omega
      obtain ⟨V, cV, rfl⟩ := own_form own.outer
      go_wp2
      go_ret
      exact ⟨V, cV, vs, rfl, own.low (by omega), hwW.trans he⟩
end Go.Proofs.Ytohpgjkflgnfgaa
