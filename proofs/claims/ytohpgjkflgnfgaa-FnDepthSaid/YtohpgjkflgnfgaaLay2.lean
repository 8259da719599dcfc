/-
  The contract of the reference's CircuitLayers. Conditions: the circuit is valid.
-/
import Derived.Test.YtohpgjkflgnfgaaLay
import Derived.Test.YtohpgjkflgnfgaaCat2
import Derived.Deep.CutBlock
import Derived.Deep.DeepCutAuto
import Derived.Deep.RegionLaw
set_option linter.unusedSimpArgs false
set_option linter.unusedVariables false
namespace Go.Proofs.Ytohpgjkflgnfgaa
open Go.RowKit
theorem info_sl : (Try.prog.info? 27).map (fun i => (i.zero, i.size, i.bytes)) = some (some (.slice none 0 0), 1, 24) := by kernel_rfl
theorem one_sl (A : Option Addr) (n c : Nat) : ∀ u ∈ (#[Value.slice A n c] : Array Value).toList, u.oneCell' = true := by intro u hu; simp at hu; subst hu; rfl
theorem findAt_step {LL : List (List Int)} {Q : List Int} {k : Nat} (h : rowAny (LL.getD k []) Q = false) : findAt LL Q (k + 1) = findAt LL Q k := by rw [findAt, if_neg (by rw [h]; decide)]
theorem findAt_stop {LL : List (List Int)} {Q : List Int} {k : Nat} (h : rowAny (LL.getD k []) Q = true) : findAt LL Q (k + 1) = k + 1 := by rw [findAt, if_pos h]
set_option maxRecDepth 20000 in
set_option maxHeartbeats 6400000 in
theorem spec_layers_yes (N : Int) (A : Option Addr) (n c : Nat) (L : List Int) (w : World) (hA : Rd w A (ints L)) (hl : L.length = n * 4) (hn : n ≤ 60) (hv : validC N L n = true) :
    Calls Try.prog 12 #[.agg #[.int .i64 N, .slice A n c]] w fun e w' => ∃ G cG vs, e = .returned (.slice G (layersTo L n).length cG) ∧ Own2 w' w.heap.size 27 55 4 (.slice G (layersTo L n).length cG) (layersTo L n) vs ∧ Ext w w' := by
  have HL := Lib.hid hl
  clear hl
  obtain ⟨i0, hi, hz0, hz1, hz2⟩ := info_parts info_gate
  obtain ⟨i1, hj1, hy0, hy1, hy2⟩ := info_parts info_sl
  obtain ⟨W0, hW0⟩ : ∃ W0, W0 = w.alloc (.cells #[.int .i64 N, .slice A n c] 29) := ⟨_, rfl⟩
  have x : Blk W0 w.heap.size #[.int .i64 N, .slice A n c] := by rw [hW0]; exact Blk.new _ _ _
  have HSZ : Hid (W0.heap.size = w.heap.size + 1) := by show _ = _; rw [hW0]; simp
  have hwW : Ext w W0 := by rw [hW0]; exact (by repeat (first | exact Ext.refl _ | assumption | refine Ext.alloc ?_ _ | refine Ext.drew ?_ | refine Ext.drewN ?_ _ | refine Ext.trans ?_ (by assumption)))
  have HW := Lib.hid hW0
  clear hW0
  have rA := hA.ext hwW
  go_enter Try.func12, Try.ntmps12
  go_wp2_with fail
  rw [← HW.out]
  refine (spec_validC N A n c L _ (rA.ext (by repeat (first | exact Ext.refl _ | assumption | refine Ext.alloc ?_ _ | refine Ext.drew ?_ | refine Ext.drewN ?_ _ | refine Ext.trans ?_ (by assumption)))) HL.out (by omega)).mono ?_
  rintro e w1 ⟨rfl, h1⟩
  have own0 := own_ext2 (own_new (w := W0) (g := W0.heap.size) (base := W0.heap.size) (e := 27) (size := 1) #[] 0 rfl (Nat.le_refl _) (by simp) (by simp)) h1
  have h01 : Ext W0 w1 := (by repeat (first | exact Ext.refl _ | assumption | refine Ext.alloc ?_ _ | refine Ext.drew ?_ | refine Ext.drewN ?_ _ | refine Ext.trans ?_ (by assumption)))
  rw [HSZ.out] at own0
  have x1 := (x.ext h01).all.1 1
  simp only [List.getElem?_toArray, List.getElem?_cons_zero, List.getElem?_cons_succ] at x1
  clear h1
  go_wp2
  clear x1
  go_loopw [3, 4, 5] (fun v i _ wr => ∃ (j : Nat) (vs : List Value), j ≤ n ∧ i = .int .i64 j ∧ Own2 wr (w.heap.size + 1) 27 55 4 v (layersTo L j) vs ∧ Ext W0 wr) (fun _ i _ _ => n - (intOf i).toNat)
  case atStart => exact ⟨0, [], Nat.zero_le _, rfl, Own2.nil own0, h01⟩
  case round =>
    clear own0 h01
    obtain ⟨j, vs, hj, rfl, own, he⟩ := hrel
    have bx := (x.ext he).all.1 1
    simp only [List.getElem?_toArray, List.getElem?_cons_zero, List.getElem?_cons_succ] at bx
    by_cases hlt : j < n
    · obtain ⟨g, off, rfl, hc⟩ := (rA.ext he).four HL.out (by omega)
      obtain ⟨x0, x1, x2, x3⟩ := hc j hlt
      have HS : Hid (layersTo L (j + 1) = putG (layersTo L j) (findAt (layersTo L j) (qAt L j) (layersTo L j).length) (gAt L j)) := rfl
      have HQ : Hid (qAt L j = qubits (L.getD (j * 4) 0) (L.getD (j * 4 + 1) 0) (L.getD (j * 4 + 2) 0) (L.getD (j * 4 + 3) 0)) := rfl
      have HG : Hid (gAt L j = [L.getD (j * 4) 0, L.getD (j * 4 + 1) 0, L.getD (j * 4 + 2) 0, L.getD (j * 4 + 3) 0]) := rfl
      have HX := Lib.hid (fun W (hW : Ext W0 W) => (rA.ext hW).fourAt' HL.out hlt)
      have HLL := Lib.hid (layersTo_len L j)
      have HROW := Lib.hid (layersTo_row L j)
      generalize layersTo L j = LL at HS HLL HROW own
      generalize L.getD (j * 4) 0 = p0 at *
      generalize L.getD (j * 4 + 1) 0 = p1 at *
      generalize L.getD (j * 4 + 2) 0 = p2 at *
      generalize L.getD (j * 4 + 3) 0 = p3 at *
      clear hc
      obtain ⟨V, cV, rfl⟩ := own_form own.outer
      obtain ⟨nL, hnL⟩ : ∃ nL, nL = LL.length := ⟨_, rfl⟩
      have HN := Lib.hid hnL
      rw [← hnL]
      have hnj : nL ≤ j := by rw [hnL]; exact HLL.out
      clear hnL
      have hjI : (j : Int) < (n : Int) := by omega
      obtain ⟨wo, rfl⟩ : ∃ wo : World, wo = wr := ⟨_, rfl⟩
      go_upto_block 2 with fail
      go_cut [5] (fun s5 wx => s5 = .int .i64 (findAt LL (qAt L j) LL.length) ∧ Ext wo wx)
      case first =>
        go_wp2_with fail
        go_loopw [5] (fun s wx => ∃ k : Nat, k ≤ nL ∧ s = .int .i64 k ∧ Hid (findAt LL (qAt L j) k = findAt LL (qAt L j) LL.length) ∧ Ext wo wx) (fun s _ => (intOf s).toNat)
        case atStart => exact ⟨nL, Nat.le_refl _, rfl, Lib.hid (by rw [HN.out]), Ext.refl _⟩
        case round =>
          obtain ⟨k, hk, rfl, hf, hx⟩ := hrel
          cases k with
          | zero =>
            go_wp2
            go_quiet (fail)
            go_wp2
            go_meet
            exact ⟨by rw [← hf.out]; rfl, (by repeat (first | exact Ext.refl _ | assumption | refine Ext.alloc ?_ _ | refine Ext.drew ?_ | refine Ext.drewN ?_ _ | refine Ext.trans ?_ (by assumption)))⟩
          | succ k =>
            obtain ⟨gV, capV, B, m, cB, e1, v1, _, _, hRl, ownR, _⟩ := (own.ext hx).look (j := k) (by have := HN.out; omega)
            injection e1 with e1 e2 e3
            clear e2
            subst e1 e3
            have rB := (Fr.of_own ownR).rd
            have hm : m ≤ j := by have := HROW.out k; omega
            have HC := Lib.hid (fun W (hW : Ext wr W) => spec_any B m cB (LL.getD k []) p0 p1 p2 p3 W (rB.ext hW) hRl (by omega))
            rw [← HQ.out] at HC
            obtain ⟨d, hd⟩ : ∃ d, d = anyM (LL.getD k []) (qAt L j) m := ⟨_, rfl⟩
            rw [← hd] at HC
            have HD : Hid (d = rowAny (LL.getD k []) (qAt L j)) := by show d = _; rw [hd]; unfold rowAny; rw [hRl]; congr 1; omega
            clear hd ownR rB hRl
            have y0 := Ext.cell hx x0
            have y1 := Ext.cell hx x1
            have y2 := Ext.cell hx x2
            have y3 := Ext.cell hx x3
            have yb := Ext.cell hx bx
            rw [show (((k + 1 : Nat)) : Int) = (k : Int) + 1 from by omega]
            have w1 : IntKind.i64.wrap ((k : Int) + 1 - 1) = (k : Int) := by rw [show (k : Int) + 1 - 1 = (k : Int) from by omega]; exact IntWalk.i64_in _ (by omega)
            have w2 : IntKind.i64.wrap (k : Int) = (k : Int) := IntWalk.i64_in _ (by omega)
            have w3 : decide ((0 : Int) < (k : Int) + 1) = true := decide_eq_true (by omega)
            have w4 : (0 : Int) < (k : Int) + 1 := by omega
            have w5 : (k : Int) < (nL : Int) := by omega
            clear x0 x1 x2 x3 bx
            cases d with
            | true =>
              go_wp2
              go_region_held3 (fun w' => w'.cell? ⟨g, off + j * 4, none⟩ = some (.int .i64 p0) ∧ w'.cell? ⟨g, off + j * 4 + 1, none⟩ = some (.int .i64 p1) ∧ w'.cell? ⟨g, off + j * 4 + 2, none⟩ = some (.int .i64 p2) ∧ w'.cell? ⟨g, off + j * 4 + 3, none⟩ = some (.int .i64 p3) ∧ w'.cell? ⟨w.heap.size, 1, none⟩ = some (.slice (some ⟨g, off, none⟩) n c) ∧ w'.cell? ⟨gV, k, none⟩ = some (.slice B m cB) ∧ Ext wr w')
                (first | exact ⟨y0, y1, y2, y3, yb, v1, (Ext.refl wr).drew⟩ | (go_split_ands; exact ⟨Ext.cell hq (by assumption), Ext.cell hq (by assumption), Ext.cell hq (by assumption), Ext.cell hq (by assumption), Ext.cell hq (by assumption), Ext.cell hq (by assumption), Ext.trans (by assumption) hq⟩))
                (first | (go_at_call 32; go_split_ands; refine (HC.out _ (by assumption)).mono ?_; rintro e w' ⟨rfl, hq⟩))
              go_split_ands
              go_wp2
              go_meet
              exact ⟨by rw [← hf.out, findAt_stop HD.out.symm]; go_num, hx.trans (by assumption)⟩
            | false =>
              go_wp2
              go_region_held3 (fun w' => w'.cell? ⟨g, off + j * 4, none⟩ = some (.int .i64 p0) ∧ w'.cell? ⟨g, off + j * 4 + 1, none⟩ = some (.int .i64 p1) ∧ w'.cell? ⟨g, off + j * 4 + 2, none⟩ = some (.int .i64 p2) ∧ w'.cell? ⟨g, off + j * 4 + 3, none⟩ = some (.int .i64 p3) ∧ w'.cell? ⟨w.heap.size, 1, none⟩ = some (.slice (some ⟨g, off, none⟩) n c) ∧ w'.cell? ⟨gV, k, none⟩ = some (.slice B m cB) ∧ Ext wr w')
                (first | exact ⟨y0, y1, y2, y3, yb, v1, (Ext.refl wr).drew⟩ | (go_split_ands; exact ⟨Ext.cell hq (by assumption), Ext.cell hq (by assumption), Ext.cell hq (by assumption), Ext.cell hq (by assumption), Ext.cell hq (by assumption), Ext.cell hq (by assumption), Ext.trans (by assumption) hq⟩))
                (first | (go_at_call 32; go_split_ands; refine (HC.out _ (by assumption)).mono ?_; rintro e w' ⟨rfl, hq⟩))
              go_split_ands
              go_wp2
              go_roundw
              case rel => exact ⟨k, by omega, by go_num, Lib.hid (by rw [← hf.out, findAt_step HD.out.symm]), hx.trans (by assumption)⟩
              case measure => simp [intOf]
      case rest =>
        obtain ⟨rfl, hx⟩ := hcut
        have HK := Lib.hid (findAt_le LL (qAt L j) LL.length)
        have HS2 : Hid (layersTo L (j + 1) = (growL LL (findAt LL (qAt L j) LL.length)).set (findAt LL (qAt L j) LL.length) ((growL LL (findAt LL (qAt L j) LL.length)).getD (findAt LL (qAt L j) LL.length) [] ++ gAt L j)) := HS.out
        generalize findAt LL (qAt L j) LL.length = k at *
        have hkn : k ≤ nL := by have := HK.out; have := HN.out; omega
        replace own := own.ext hx
        replace x0 := Ext.cell hx x0
        replace x1 := Ext.cell hx x1
        replace x2 := Ext.cell hx x2
        replace x3 := Ext.cell hx x3
        replace he := he.trans hx
        clear bx hx
        go_upto_if 41 with fail
        go_cut [3] (fun s3 wx => ∃ G cG vs', s3 = .slice G (growL LL k).length cG ∧ Own2 wx (w.heap.size + 1) 27 55 4 (.slice G (growL LL k).length cG) (growL LL k) vs' ∧ Ext W0 wx)
        case first =>
          have hWz : w.heap.size + 1 ≤ wc.heap.size := by have := he.size; have := HSZ.out; omega
          by_cases hkk : k = nL
          · have d1 : ((k : Int) == (nL : Int)) = true := by simp; omega
            have HE : Hid (growL LL k = LL ++ [[]]) := by show _ = _; unfold growL; rw [if_pos (by rw [hkk]; exact HN.out)]
            clear hkk
            have ownV : wc.ownsRow (w.heap.size + 1) 27 1 (.slice V nL cV) nL vs := by have := own.outer; rw [← HN.out] at this; exact this
            have HB0 : Hid (Blk ((wc.alloc (.cells #[] 55)).alloc (.cells #[.slice (some ⟨wc.heap.size, 0, none⟩) 0 0] 27)) (wc.heap.size + 1) #[.slice (some ⟨wc.heap.size, 0, none⟩) 0 0]) := by
              have := Blk.new (wc.alloc (.cells #[] 55)) 27 #[.slice (some ⟨wc.heap.size, 0, none⟩) 0 0]
              rw [World.size_alloc] at this
              exact this
            go_wp2_with (at_builtin; refine wpList_append_new rfl _ _ 33 rfl (w.heap.size + 1) 27 i1 (.slice none 0 0) 1 24 Try.underlying33 hj1 hy0 hy1 hy2 rfl (by decide) _ nL vs rfl ((ownV.alloc _).alloc _) (wc.heap.size + 1) 1 1 #[.slice (some ⟨wc.heap.size, 0, none⟩) 0 0] rfl HB0.out rfl (by decide) (one_sl _ _ _) ?c2 ?c3 ?c4 ?_)
            case c2 => unfold maxLen; omega
            case c3 => omega
            case c4 => simp; omega
            intro G cG w4 hw4 hg4 hb4
            have P4 := own.push (by decide) (B := some ⟨wc.heap.size, 0, none⟩) (c := 0) (v' := .slice G (nL + 1) cG) (w1 := (wc.alloc (.cells #[] 55)).alloc (.cells #[.slice (some ⟨wc.heap.size, 0, none⟩) 0 0] 27)) (w2 := w4)
              ((own_new (w := wc) (g := wc.heap.size) (base := w.heap.size + 1) (e := 55) (size := 4) #[] 0 rfl hWz (by simp) (by simp)).alloc _) (fun b hb => by injection hb with hb; subst hb; exact Nat.le_refl _) (by repeat (first | exact Ext.refl _ | assumption | refine Ext.alloc ?_ _ | refine Ext.drew ?_ | refine Ext.drewN ?_ _ | refine Ext.trans ?_ (by assumption))) (by rw [← HN.out]; exact hw4) (by rw [← HN.out]; exact hg4)
            have e4 := own_ext (a := W0) ((he.alloc _).alloc _) ((ownV.alloc _).alloc _) (by rw [HSZ.out]; exact Nat.le_refl _) hg4
            have HP4 := Lib.hid P4
            clear P4 hw4 hg4 hb4 ownV hi hz0 hz1 hz2 hj1 hy0 hy1 hy2
            go_wp2
            go_meet
            refine ⟨G, cG, vs ++ [.slice (some ⟨wc.heap.size, 0, none⟩) 0 0], ?_, ?_, e4⟩
            · rw [HE.out, List.length_append, ← HN.out]; rfl
            · rw [HE.out, List.length_append, ← HN.out]; exact HP4.out
          · have d1 : ((k : Int) == (nL : Int)) = false := by simp; omega
            have HE : Hid (growL LL k = LL) := by show _ = _; unfold growL; rw [if_neg (by rw [← HN.out]; exact hkk)]
            clear hkk
            go_wp2
            go_meet
            exact ⟨V, cV, vs, by rw [HE.out, ← HN.out], by rw [HE.out]; exact own, he⟩
        case rest =>
          clear own he x0 x1 x2 x3
          obtain ⟨G, cG, vs', rfl, own, he⟩ := hcut
          have HKG := Lib.hid (growL_len LL k HK.out)
          have HRW : Hid (((growL LL k).getD k []).length ≤ j * 4) := by show _ ≤ _; rw [growL_getD]; exact HROW.out k
          generalize growL LL k = M at *
          obtain ⟨gV, capV, B, m, cB, e1, v1, f1, hvs, hRl, ownR, hgz, _⟩ := own.look HKG.out
          injection e1 with e1 e2 e3
          clear e2
          subst e1 e3
          have hm : m ≤ j := by have := HRW.out; omega
          obtain ⟨x0, x1, x2, x3⟩ := HX.out _ he
          have bx := (x.ext he).all.1 1
          simp only [List.getElem?_toArray, List.getElem?_cons_zero, List.getElem?_cons_succ] at bx
          obtain ⟨nM, hnM⟩ : ∃ nM, nM = M.length := ⟨_, rfl⟩
          have HM := Lib.hid hnM
          rw [← hnM]
          have hkM : (k : Int) < (nM : Int) := by have := HKG.out; omega
          clear hnM hRl
          have hWz : w.heap.size + 1 ≤ wc.heap.size := by have := he.size; have := HSZ.out; omega
          have hbk := Blk.new wc 55 #[.int .i64 p0, .int .i64 p1, .int .i64 p2, .int .i64 p3]
          go_wp2
          go_region_law (refine step_append_new (by rfl) _ _ 27 (by rfl) (w.heap.size + 1) 55 i0 (.agg #[.int .i64 0, .int .i64 0, .int .i64 0, .int .i64 0]) 4 32 Try.underlying27 hi hz0 hz1 hz2 (by rfl) (by decide) (.slice B m cB) m (ints (M.getD k [])) (by rfl) (by first | exact ownR.alloc _ | exact ownR.drew.alloc _) wc.heap.size 1 1 #[.int .i64 p0, .int .i64 p1, .int .i64 p2, .int .i64 p3] (by rfl) (by exact hbk) (by rfl) (by decide) (ints_one [p0, p1, p2, p3]) (by unfold maxLen; omega) (by omega) (by simp; omega) ?_; intro G1 c1 w4 own4 hg4 hb4; obtain ⟨z1, z2, z3⟩ := own.cell_after (by decide) HKG.out hvs ((Ext.refl wc).drew.alloc _) hg4; have HP := Lib.hid (own.put (by decide) HKG.out hvs (news := [p0, p1, p2, p3]) ((Ext.refl wc).drew.alloc _) (by rw [ints_app]; exact own4) hg4 hb4); have e4 := own_ext (a := W0) ((he.drew).alloc _) (ownR.drew.alloc _) (by rw [HSZ.out]; exact Nat.le_refl _) hg4)
          all_goals
            clear own4 hg4 hb4 hi hz0 hz1 hz2 hj1 hy0 hy1 hy2 x0 x1 x2 x3 bx v1 f1 hbk ownR own
            go_wp2
            go_roundw
            case rel => exact ⟨j + 1, _, by omega, by go_num, by rw [HS2.out, HG.out, HM.out]; exact HP.out, e4.setCell (by rw [HSZ.out]; exact hgz) _⟩
            case measure => simp [intOf]; omega
    · obtain rfl : j = n := by omega
      obtain ⟨V, cV, rfl⟩ := own_form own.outer
      go_wp2
      go_ret
      exact ⟨V, cV, vs, rfl, own.low (Nat.le_succ _), hwW.trans he⟩
end Go.Proofs.Ytohpgjkflgnfgaa
