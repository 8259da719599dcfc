/-
  The walk of the law on ParseCircuit. Conditions: the library's variables read as their initialisers lay them.
-/
import Derived.Test.YtkhgkaiadfebmaaDoorPcW
set_option linter.unusedSimpArgs false
set_option linter.unusedVariables false
namespace Go.Proofs.YtkhgkaiadfebmaaDoor
open Go.RowKit
set_option maxRecDepth 20000 in
set_option maxHeartbeats 3200000 in
theorem walk_FnExactParseCircuit (w : World) (hO : LibOk w) (s : ByteArray) (hs : s.size ≤ maxLen) :
    Calls Tryd.prog 4 #[.string s] w fun e w' => e = .returned (.bool true) ∧ Ext w w' := by
  unfold maxLen at hs
  by_cases hbig : s.size ≤ 1048576
  · obtain ⟨N2, R, r, ok, hR⟩ := pcR_ex s
    obtain ⟨hRl, hr60⟩ := hR.len
    obtain ⟨K, A, B, C, O, v, o, hl, m, T, U, GG, S⟩ := pcS_ex hR hbig
    have HCs := Lib.hid (fun W h => spec_pc K A B C O s N2 R r ok v o hl m T U GG S W hbig h)
    have HCi := Lib.hid (fun W h => impl_pc K A B C O s N2 R r ok v o hl m T U GG S W hbig h)
    have HRl := Lib.hid hRl
    have HO := Lib.hid hO
    have hok : (ok != ok) = false := by simp
    clear S hR hRl hO
    go_enter Tryd.func4, Tryd.ntmps4
    go_wp2_with fail
    refine (HCs.out _ HO.out).mono ?_
    rintro e w3 ⟨G, cG, rfl, fG, h03⟩
    have zz3 := h03.size
    go_wp2_with fail
    refine (HCi.out _ (HO.out.ext (h03.alloc _))).mono ?_
    rintro e w5 ⟨G', cG', rfl, fG', h5⟩
    have y := (Blk.new w3 30 #[.int .i64 N2, .slice G r cG]).ext h5
    obtain ⟨yc, yf, yz⟩ := y.all
    have zz5 := h5.size
    simp only [World.size_alloc] at fG' zz5
    replace fG := fG.ext (Ext.trans ((Ext.refl w3).alloc _) h5)
    have h05 := (h03.alloc _).trans h5
    clear h5 h03
    go_wp2_with fail
    refine (eqCircuit_any N2 N2 G' G r r cG' cG R R _ (fG'.ext ((Ext.refl _).alloc _)).rd (fG.ext ((Ext.refl _).alloc _)).rd HRl.out HRl.out (by omega) (by omega)).mono ?_
    rintro e w6 ⟨rfl, h6⟩
    clear yc yf yz
    replace y := Blk.to y h6 (by repeat (first | exact Ext.refl _ | assumption | refine Ext.alloc ?_ _ | refine Ext.drew ?_ | refine Ext.drewN ?_ _ | refine Ext.trans ?_ (by assumption)))
    obtain ⟨yc, yf, yz⟩ := y.all
    have u := (Blk.new w5 30 #[.int .i64 N2, .slice G' r cG']).ext h6
    obtain ⟨uc, uf, uz⟩ := u.all
    have zz6 := h6.size
    simp only [World.size_alloc] at zz6
    replace fG := fG.ext (Ext.trans ((Ext.refl w5).alloc _) h6)
    replace fG' := fG'.ext (Ext.trans ((Ext.refl w5).alloc _) h6)
    have h06 := (h05.alloc _).trans h6
    clear h6 h05
    go_wp2_with fail
    refine (markCircuit_any N2 G' r cG' _ _ R 1 _ fG' HRl.out (by omega) (by omega) (by omega)).mono ?_
    rintro e w10 ⟨rfl, fM, ch1⟩
    clear yc yf yz uc uf uz
    replace y := y.chg ch1 (.inl (by omega))
    replace u := u.chg ch1 (.inr (by omega))
    replace fG := fG.chg ch1 (.inl (by omega))
    have h0a := h06.chg ch1 (by omega)
    have zz10 := ch1.size
    clear ch1 fG' h06
    obtain ⟨yc, yf, yz⟩ := y.all
    obtain ⟨uc, uf, uz⟩ := u.all
    have hlt : ¬ (1 + (r : Int) * 4 < 0) := by omega
    have hne : ((1 + (r : Int) * 4) != (1 + (r : Int) * 4)) = false := by simp
    go_wp2_with fail
    refine (heldCircuit_any N2 G' r cG' 1 _ fM.rd (by omega) (by omega) (by omega)).mono ?_
    rintro e w11 ⟨rfl, h11⟩
    clear yc yf yz
    replace y := Blk.to y h11 (by repeat (first | exact Ext.refl _ | assumption | refine Ext.alloc ?_ _ | refine Ext.drew ?_ | refine Ext.drewN ?_ _ | refine Ext.trans ?_ (by assumption)))
    obtain ⟨yc, yf, yz⟩ := y.all
    clear uc uf uz
    replace u := Blk.to u h11 (by repeat (first | exact Ext.refl _ | assumption | refine Ext.alloc ?_ _ | refine Ext.drew ?_ | refine Ext.drewN ?_ _ | refine Ext.trans ?_ (by assumption)))
    obtain ⟨uc, uf, uz⟩ := u.all
    replace fG := fG.ext h11
    replace fM := fM.ext h11
    have h0b := h0a.trans h11
    clear h11 h0a
    go_wp2_with fail
    refine (HCi.out _ (HO.out.ext h0b)).mono ?_
    rintro e w13 ⟨G2, cG2, rfl, fG2, h13⟩
    clear yc yf yz
    replace y := Blk.to y h13 (by repeat (first | exact Ext.refl _ | assumption | refine Ext.alloc ?_ _ | refine Ext.drew ?_ | refine Ext.drewN ?_ _ | refine Ext.trans ?_ (by assumption)))
    obtain ⟨yc, yf, yz⟩ := y.all
    clear uc uf uz
    replace u := Blk.to u h13 (by repeat (first | exact Ext.refl _ | assumption | refine Ext.alloc ?_ _ | refine Ext.drew ?_ | refine Ext.drewN ?_ _ | refine Ext.trans ?_ (by assumption)))
    obtain ⟨uc, uf, uz⟩ := u.all
    replace fG := fG.ext h13
    replace fM := fM.ext h13
    have h0c := h0b.trans h13
    clear h13 h0b
    go_wp2_with fail
    refine (eqCircuit_any N2 N2 G2 G r r cG2 cG R R _ (fG2.ext ((Ext.refl _).alloc _)).rd (fG.ext ((Ext.refl _).alloc _)).rd HRl.out HRl.out (by omega) (by omega)).mono ?_
    rintro e w14 ⟨rfl, h14⟩
    clear yc yf yz
    replace y := Blk.to y h14 (by repeat (first | exact Ext.refl _ | assumption | refine Ext.alloc ?_ _ | refine Ext.drew ?_ | refine Ext.drewN ?_ _ | refine Ext.trans ?_ (by assumption)))
    obtain ⟨yc, yf, yz⟩ := y.all
    clear uc uf uz
    replace u := Blk.to u h14 (by repeat (first | exact Ext.refl _ | assumption | refine Ext.alloc ?_ _ | refine Ext.drew ?_ | refine Ext.drewN ?_ _ | refine Ext.trans ?_ (by assumption)))
    obtain ⟨uc, uf, uz⟩ := u.all
    have h0d := (h0c.alloc _).trans h14
    replace fM := fM.ext (Ext.trans ((Ext.refl w13).alloc _) h14)
    clear h14 h0c
    go_wp2_with fail
    refine (heldCircuit_any N2 G' r cG' 1 _ fM.rd (by omega) (by omega) (by omega)).mono ?_
    rintro e w15 ⟨rfl, h15⟩
    go_wp2
    go_ret
    exact ⟨rfl, h0d.trans h15⟩
  · go_enter Tryd.func4, Tryd.ntmps4
    go_wp2
    go_ret
    exact ⟨rfl, (by repeat (first | exact Ext.refl _ | assumption | refine Ext.alloc ?_ _ | refine Ext.drew ?_ | refine Ext.drewN ?_ _ | refine Ext.trans ?_ (by assumption)))⟩
end Go.Proofs.YtkhgkaiadfebmaaDoor
