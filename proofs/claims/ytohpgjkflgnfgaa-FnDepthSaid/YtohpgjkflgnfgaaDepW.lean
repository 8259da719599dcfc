/-
  The walk of FnDepth. No conditions.
-/
import Derived.Test.YtohpgjkflgnfgaaDraw7
import Derived.Test.YtohpgjkflgnfgaaDepP
import Derived.Test.YtohpgjkflgnfgaaOpen3
set_option linter.unusedSimpArgs false
set_option linter.unusedVariables false
namespace Go.Proofs.Ytohpgjkflgnfgaa
open Go.RowKit
theorem own_src {w : World} {base : Nat} {e : TypeId} {size n c : Nat} {A : Option Addr} {xs : List Value} (h : w.ownsRow base e size (.slice A n c) n xs) : A = none → n = 0 ∧ c = 0 := by
  rintro rfl
  obtain ⟨_, ⟨h1, h2⟩ | ⟨g, cap, cur, h1, _⟩⟩ := h
  · injection h1 with _ h3 h4
    exact ⟨h3, h4⟩
  · cases h1
theorem lays_yes {N : Int} {L : List Int} {n : Nat} (h : validC N L n = true) : (lays N L n).length = (layersTo L n).length := by unfold lays; rw [if_pos h]
set_option maxRecDepth 20000 in
set_option maxHeartbeats 6400000 in
theorem walk_FnDepth (w : World) (A : Option Addr) (n c : Nat) (l : List Int) (rd : Rd w A (bys l)) (hl : l.length = n) (hn : n ≤ maxLen) (wl : ∀ x ∈ l, 0 ≤ x ∧ x < 256) :
    Calls Try.prog 6 #[.slice A n c] w fun e w' => e = .returned (.bool true) ∧ Ext w w' := by
  clear wl
  have HL := Lib.hid hl
  clear hl
  unfold maxLen at hn
  by_cases hbig : 1048576 < n
  · have hd : decide (1048576 < n) = true := by simpa using hbig
    go_enter Try.func6, Try.ntmps6
    go_wp2_with fail
    refine (big_any A n c _).mono ?_
    rintro e w1 ⟨rfl, rfl⟩
    go_wp2
    go_ret
    exact ⟨rfl, (by repeat (first | exact Ext.refl _ | assumption | refine Ext.alloc ?_ _ | refine Ext.drew ?_ | refine Ext.drewN ?_ _ | refine Ext.trans ?_ (by assumption)))⟩
  · have hd : decide (1048576 < n) = false := by simpa using hbig
    go_enter Try.func6, Try.ntmps6
    go_wp2_with fail
    refine (big_any A n c _).mono ?_
    rintro e w1 ⟨rfl, rfl⟩
    go_wp2_with fail
    refine (drawConcat_ok A n c l _ rd HL.out (by omega)).mono ?_
    rintro e w1 ⟨M, M', G, G', q, q', cG, cG', L, L', rfl, hq, hq', own1, own2, h1⟩
    have HLa : Hid (L.length = q * 4) := by show _ = _; have := own1.1; rwa [ints_length] at this
    have HLb : Hid (L'.length = q' * 4) := by show _ = _; have := own2.1; rwa [ints_length] at this
    have rG := (Fr.of_own own1).rd
    have rG' := (Fr.of_own own2).rd
    have HSA := Lib.hid (own_src own1)
    have HSB := Lib.hid (own_src own2)
    clear own1 own2 hd hbig rd HL
    obtain ⟨ok, N2, R, r, hR⟩ : ∃ (ok : Bool) (N2 : Int) (R : List Int) (r : Nat), (catOk M M' L L' q q' ∧ ok = true ∧ N2 = M ∧ R = L ++ L' ∧ r = q + q') ∨ (¬ catOk M M' L L' q q' ∧ ok = false ∧ N2 = 0 ∧ R = [] ∧ r = 0) := by
      by_cases h : catOk M M' L L' q q'
      · exact ⟨_, _, _, _, .inl ⟨h, rfl, rfl, rfl, rfl⟩⟩
      · exact ⟨_, _, _, _, .inr ⟨h, rfl, rfl, rfl, rfl⟩⟩
    have HR := Lib.hid hR
    clear hR
    go_wp2_with fail
    refine (spec_concat' M M' G G' q q' cG cG' L L' _ (rG.ext (by repeat (first | exact Ext.refl _ | assumption | refine Ext.alloc ?_ _ | refine Ext.drew ?_ | refine Ext.drewN ?_ _ | refine Ext.trans ?_ (by assumption)))) (rG'.ext (by repeat (first | exact Ext.refl _ | assumption | refine Ext.alloc ?_ _ | refine Ext.drew ?_ | refine Ext.drewN ?_ _ | refine Ext.trans ?_ (by assumption)))) HLa.out HLb.out (by omega) (by omega) HSA.out HSB.out ok N2 R r HR.out).mono ?_
    rintro e w2 ⟨H, cH, rfl, fH, h2⟩
    have x : Blk w2 w1.heap.size #[.int .i64 M, .slice G q cG] := Blk.to (Blk.new w1 29 _) h2 (by repeat (first | exact Ext.refl _ | assumption | refine Ext.alloc ?_ _ | refine Ext.drew ?_ | refine Ext.drewN ?_ _ | refine Ext.trans ?_ (by assumption)))
    have y := (Blk.new (w1.alloc (.cells #[.int .i64 M, .slice G q cG] 29)) 29 #[.int .i64 M', .slice G' q' cG']).ext h2
    simp only [World.size_alloc] at y
    have e2 : Ext w1 w2 := Ext.trans (by repeat (first | exact Ext.refl _ | assumption | refine Ext.alloc ?_ _ | refine Ext.drew ?_ | refine Ext.drewN ?_ _ | refine Ext.trans ?_ (by assumption))) h2
    clear h2
    have rH := fH.rd
    clear fH
    rcases HR.out with ⟨hok, rfl, rfl, rfl, rfl⟩ | ⟨_, rfl, rfl, rfl, rfl⟩
    · have HK := Lib.hid hok
      clear hok HR
      have z := Blk.new w2 29 #[.int .i64 N2, .slice H (q + q') cH]
      replace x := x.ext ((Ext.refl w2).alloc (.cells #[.int .i64 N2, .slice H (q + q') cH] 29))
      replace y := y.ext ((Ext.refl w2).alloc (.cells #[.int .i64 N2, .slice H (q + q') cH] 29))
      have e3 := e2.alloc (.cells #[.int .i64 N2, .slice H (q + q') cH] 29)
      replace rH := rH.ext ((Ext.refl w2).alloc (.cells #[.int .i64 N2, .slice H (q + q') cH] 29))
      have HDI := Lib.hid (fun W (hW : Ext (w2.alloc (.cells #[.int .i64 N2, .slice H (q + q') cH] 29)) W) => impl_depth N2 H (q + q') cH (L ++ L') W (rH.ext hW) (by have := HLa.out; have := HLb.out; simp; omega) (by omega))
      have HDS := Lib.hid (fun W (hW : Ext (w2.alloc (.cells #[.int .i64 N2, .slice H (q + q') cH] 29)) W) => spec_depth N2 H (q + q') cH (L ++ L') W (rH.ext hW) (by have := HLa.out; have := HLb.out; simp; omega) (by omega))
      have HDA := Lib.hid (fun W (hW : Ext (w2.alloc (.cells #[.int .i64 N2, .slice H (q + q') cH] 29)) W) => impl_depth N2 G q cG L W (rG.ext (e3.trans hW)) HLa.out (by omega))
      have HDB := Lib.hid (fun W (hW : Ext (w2.alloc (.cells #[.int .i64 N2, .slice H (q + q') cH] 29)) W) => impl_depth M' G' q' cG' L' W (rG'.ext (e3.trans hW)) HLb.out (by omega))
      have HTI := Lib.hid (fun W (hW : Ext (w2.alloc (.cells #[.int .i64 N2, .slice H (q + q') cH] 29)) W) => impl_tcount N2 H (q + q') cH (L ++ L') W (rH.ext hW) (by have := HLa.out; have := HLb.out; simp; omega) (by omega))
      have HTA := Lib.hid (fun W (hW : Ext (w2.alloc (.cells #[.int .i64 N2, .slice H (q + q') cH] 29)) W) => impl_tcount N2 G q cG L W (rG.ext (e3.trans hW)) HLa.out (by omega))
      have HTB := Lib.hid (fun W (hW : Ext (w2.alloc (.cells #[.int .i64 N2, .slice H (q + q') cH] 29)) W) => impl_tcount M' G' q' cG' L' W (rG'.ext (e3.trans hW)) HLb.out (by omega))
      have H2I := Lib.hid (fun W (hW : Ext (w2.alloc (.cells #[.int .i64 N2, .slice H (q + q') cH] 29)) W) => impl_two N2 H (q + q') cH (L ++ L') W (rH.ext hW) (by have := HLa.out; have := HLb.out; simp; omega) (by omega))
      have H2A := Lib.hid (fun W (hW : Ext (w2.alloc (.cells #[.int .i64 N2, .slice H (q + q') cH] 29)) W) => impl_two N2 G q cG L W (rG.ext (e3.trans hW)) HLa.out (by omega))
      have H2B := Lib.hid (fun W (hW : Ext (w2.alloc (.cells #[.int .i64 N2, .slice H (q + q') cH] 29)) W) => impl_two M' G' q' cG' L' W (rG'.ext (e3.trans hW)) HLb.out (by omega))
      rw [cntTo_cat _ L L' q HLa.out, cntTo_cat _ L L' q HLa.out] at HTI
      rw [cntTo_cat _ L L' q HLa.out] at H2I
      have k1 := cntTo_le (isK 7) L q
      have k2 := cntTo_le (isK 8) L q
      have k3 := cntTo_le (isK 7) L' q'
      have k4 := cntTo_le (isK 8) L' q'
      have k5 := cntTo_le isTwo L q
      have k6 := cntTo_le isTwo L' q'
      obtain ⟨v1, v2, v3, v4⟩ := HK.out
      have HDC := Lib.hid (depth_cat L L' q q' HLa.out)
      have dd1 := lays_len N2 (L ++ L') (q + q')
      have dd2 := lays_len N2 L q
      have dd3 := lays_len M' L' q'
      rw [← lays_yes v1, ← lays_yes v2, ← lays_yes v4] at HDC
      generalize (lays N2 (L ++ L') (q + q')).length = dj at *
      generalize (lays N2 L q).length = da at *
      generalize (lays M' L' q').length = db at *
      generalize cntTo (isK 7) L q = a7 at *
      generalize cntTo (isK 8) L q = a8 at *
      generalize cntTo (isK 7) L' q' = b7 at *
      generalize cntTo (isK 8) L' q' = b8 at *
      generalize cntTo isTwo L q = a2 at *
      generalize cntTo isTwo L' q' = b2 at *
      have HTI2 : Hid (∀ W, Ext (w2.alloc (.cells #[.int .i64 N2, .slice H (q + q') cH] 29)) W → Calls Try.prog 26 #[.agg #[.int .i64 N2, .slice H (q + q') cH]] W fun e w' => e = .returned (.int .i64 (((a7 : Int) + (a8 : Int)) + ((b7 : Int) + (b8 : Int)))) ∧ Ext W w') := by
        show ∀ W, _
        intro W hW
        have := HTI.out W hW
        rwa [show (((a7 + b7 : Nat) : Int) + ((a8 + b8 : Nat) : Int)) = ((a7 : Int) + (a8 : Int)) + ((b7 : Int) + (b8 : Int)) from by omega] at this
      have H2I2 : Hid (∀ W, Ext (w2.alloc (.cells #[.int .i64 N2, .slice H (q + q') cH] 29)) W → Calls Try.prog 27 #[.agg #[.int .i64 N2, .slice H (q + q') cH]] W fun e w' => e = .returned (.int .i64 ((a2 : Int) + (b2 : Int))) ∧ Ext W w') := by
        show ∀ W, _
        intro W hW
        have := H2I.out W hW
        rwa [show ((a2 + b2 : Nat) : Int) = (a2 : Int) + (b2 : Int) from by omega] at this
      obtain ⟨c1, c2, c3⟩ := HDC.out
      clear HTI H2I HDC v1 v2 v3 v4 HK rG rG' rH HLa HLb HSA HSB
      generalize hA : (a7 : Int) + (a8 : Int) = tA at *
      generalize hB : (b7 : Int) + (b8 : Int) = tB at *
      have tA0 : 0 ≤ tA ∧ tA ≤ 160 := by omega
      have tB0 : 0 ≤ tB ∧ tB ≤ 160 := by omega
      have h04 := h1.trans e3
      clear hA hB k1 k2 k3 k4 e3 e2
      have xc := x.all.1
      have yc := y.all.1
      have zc := z.all.1
      go_wp2_with fail
      refine (HDI.out _ (Ext.refl _)).mono ?_
      rintro e w4 ⟨rfl, h4⟩
      have h05 := h04.trans h4
      have KDA := Lib.hid (fun W (hW : Ext w4 W) => HDA.out W (h4.trans hW))
      have KDB := Lib.hid (fun W (hW : Ext w4 W) => HDB.out W (h4.trans hW))
      have KDS := Lib.hid (fun W (hW : Ext w4 W) => HDS.out W (h4.trans hW))
      have KTI := Lib.hid (fun W (hW : Ext w4 W) => HTI2.out W (h4.trans hW))
      have KTA := Lib.hid (fun W (hW : Ext w4 W) => HTA.out W (h4.trans hW))
      have KTB := Lib.hid (fun W (hW : Ext w4 W) => HTB.out W (h4.trans hW))
      have K2I := Lib.hid (fun W (hW : Ext w4 W) => H2I2.out W (h4.trans hW))
      have K2A := Lib.hid (fun W (hW : Ext w4 W) => H2A.out W (h4.trans hW))
      have K2B := Lib.hid (fun W (hW : Ext w4 W) => H2B.out W (h4.trans hW))
      have x0 := (x.ext h4).all.1 0
      have x1 := (x.ext h4).all.1 1
      have y0 := (y.ext h4).all.1 0
      have y1 := (y.ext h4).all.1 1
      have z0 := (z.ext h4).all.1 0
      have z1 := (z.ext h4).all.1 1
      simp only [List.getElem?_toArray, List.getElem?_cons_zero, List.getElem?_cons_succ] at x0 x1 y0 y1 z0 z1
      clear HDA HDB HDS HTI2 HTA HTB H2I2 H2A H2B xc yc zc x y z h4 h04 HDI h1
      have wa : IntKind.i64.wrap ((da : Int) + (db : Int)) = (da : Int) + (db : Int) := IntWalk.i64_in _ (by omega)
      have wb : IntKind.i64.wrap (tA + tB) = tA + tB := IntWalk.i64_in _ (by omega)
      have wc : IntKind.i64.wrap ((a2 : Int) + (b2 : Int)) = (a2 : Int) + (b2 : Int) := IntWalk.i64_in _ (by omega)
      have d1 : decide ((dj : Int) ≤ (da : Int) + (db : Int)) = true := decide_eq_true (by omega)
      have d2 : decide (da ≤ dj) = true := decide_eq_true c2
      have d3 : decide (db ≤ dj) = true := decide_eq_true c3
      have d2' : decide ((da : Int) ≤ (dj : Int)) = true := decide_eq_true (by omega)
      have d3' : decide ((db : Int) ≤ (dj : Int)) = true := decide_eq_true (by omega)
      generalize w2.heap.size = Z at *
      generalize w1.heap.size = Y at *
      clear k5 k6 dd1 dd2 dd3 c1 c2 c3 tA0 tB0 hq hq' hn
      go_wp2_with fail
      go_region_held3 (fun w' => w'.cell? ⟨Y, 0, none⟩ = some (.int .i64 N2) ∧ w'.cell? ⟨Y, 1, none⟩ = some (.slice G q cG) ∧ w'.cell? ⟨Y + 1, 0, none⟩ = some (.int .i64 M') ∧ w'.cell? ⟨Y + 1, 1, none⟩ = some (.slice G' q' cG') ∧ w'.cell? ⟨Z, 0, none⟩ = some (.int .i64 N2) ∧ w'.cell? ⟨Z, 1, none⟩ = some (.slice H (q + q') cH) ∧ Ext w4 w')
        (first | exact ⟨x0, x1, y0, y1, z0, z1, (Ext.refl w4).drew⟩ | (go_split_ands; exact ⟨Ext.cell hx (by assumption), Ext.cell hx (by assumption), Ext.cell hx (by assumption), Ext.cell hx (by assumption), Ext.cell hx (by assumption), Ext.cell hx (by assumption), Ext.trans (by assumption) hx⟩))
        (first | (go_at_call 10; go_split_ands; (first | (with_reducible refine (KDA.out _ (by assumption)).mono ?_) | (with_reducible refine (KDB.out _ (by assumption)).mono ?_)); rintro e w' ⟨rfl, hx⟩) | (go_at_call 8; go_split_ands; refine (KDS.out _ (by assumption)).mono ?_; rintro e w' ⟨rfl, hx⟩) | (go_at_call 26; go_split_ands; (first | (with_reducible refine (KTA.out _ (by assumption)).mono ?_) | (with_reducible refine (KTB.out _ (by assumption)).mono ?_) | (with_reducible refine (KTI.out _ (by assumption)).mono ?_)); rintro e w' ⟨rfl, hx⟩) | (go_at_call 27; go_split_ands; (first | (with_reducible refine (K2A.out _ (by assumption)).mono ?_) | (with_reducible refine (K2B.out _ (by assumption)).mono ?_) | (with_reducible refine (K2I.out _ (by assumption)).mono ?_)); rintro e w' ⟨rfl, hx⟩))
      all_goals go_split_ands
      all_goals go_wp2
      all_goals go_ret
      all_goals exact ⟨rfl, h05.trans (by assumption)⟩
    · have da := (Lib.hid (fun W (hW : Ext w2 W) => impl_depth M G q cG L W (rG.ext (e2.trans hW)) HLa.out (by omega)))
      have ds := (Lib.hid (fun W (hW : Ext w2 W) => spec_depth M G q cG L W (rG.ext (e2.trans hW)) HLa.out (by omega)))
      generalize (lays M L q).length = dd at *
      have x0 := x.all.1 0
      have x1 := x.all.1 1
      simp only [List.getElem?_toArray, List.getElem?_cons_zero, List.getElem?_cons_succ] at x0 x1
      have q0 := Ext.cell ((Ext.refl w2).alloc (.cells #[.int .i64 0, .slice H 0 cH] 29)) x0
      have q1 := Ext.cell ((Ext.refl w2).alloc (.cells #[.int .i64 0, .slice H 0 cH] 29)) x1
      have h02 := h1.trans e2
      clear x y HR rH rG rG' HSA HSB HLa HLb
      go_wp2_with fail
      go_region_held3 (fun w' => w'.cell? ⟨w1.heap.size, 0, none⟩ = some (.int .i64 M) ∧ w'.cell? ⟨w1.heap.size, 1, none⟩ = some (.slice G q cG) ∧ Ext w2 w')
        (first | exact ⟨q0, q1, ((Ext.refl w2).alloc _).drew⟩ | (go_split_ands; exact ⟨Ext.cell hx (by assumption), Ext.cell hx (by assumption), Ext.trans (by assumption) hx⟩))
        (first | (go_at_call 10; go_split_ands; refine (da.out _ (by assumption)).mono ?_; rintro e w' ⟨rfl, hx⟩) | (go_at_call 8; go_split_ands; refine (ds.out _ (by assumption)).mono ?_; rintro e w' ⟨rfl, hx⟩))
      all_goals go_split_ands
      all_goals go_wp2
      all_goals go_ret
      all_goals exact ⟨by simp, h02.trans (by assumption)⟩
end Go.Proofs.Ytohpgjkflgnfgaa
