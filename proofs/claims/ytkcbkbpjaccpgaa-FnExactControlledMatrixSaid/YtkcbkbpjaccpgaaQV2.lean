/-
  Contracts of DivSqrt2. No conditions.
-/
import Derived.Test.YtkcbkbpjaccpgaaQV
set_option linter.unusedSimpArgs false
set_option linter.unusedVariables false
namespace Go.Proofs.Ytkcbkbpjaccpgaa
open Go.RowKit
theorem bool4 (x y z u : Bool) : (x = true ∨ (x = false ∧ y = true) ∨ (x = false ∧ y = false ∧ z = true) ∨ (x = false ∧ y = false ∧ z = false ∧ u = true)) ∨ (x = false ∧ y = false ∧ z = false ∧ u = false) := by
  cases x <;> cases y <;> cases z <;> cases u <;> simp
set_option maxHeartbeats 1600000 in
theorem impl_div_no (a b c d : Int) (w : World) (hv : vZ a b c d = false) : Calls Try.prog 38 #[.agg #[.int .i64 a, .int .i64 b, .int .i64 c, .int .i64 d]] w (DivR w false) := by
  have HC := Lib.hid (fun W => impl_vZ a b c d W)
  rw [hv] at HC
  clear hv
  go_enter Try.func38, Try.ntmps38
  go_wp2_with fail
  refine (HC.out _).mono ?_
  rintro e w1 ⟨rfl, h1⟩
  have rr := Blk.to (Blk.new (w.alloc (.cells #[.int .i64 a, .int .i64 b, .int .i64 c, .int .i64 d] 40)) 40 #[.int .i64 0, .int .i64 0, .int .i64 0, .int .i64 0]) h1 (by repeat (first | exact Ext.refl _ | assumption | refine Ext.alloc ?_ _ | refine Ext.drew ?_ | refine Ext.drewN ?_ _ | refine Ext.trans ?_ (by assumption)))
  simp only [World.size_alloc] at rr
  obtain ⟨rc, rf, rz⟩ := rr.all
  have h01 : Ext w w1 := Ext.trans (by repeat (first | exact Ext.refl _ | assumption | refine Ext.alloc ?_ _ | refine Ext.drew ?_ | refine Ext.drewN ?_ _ | refine Ext.trans ?_ (by assumption))) h1
  clear h1
  go_wp2
  refine bodyPost_ret (v := .tuple #[.agg #[.int .i64 0, .int .i64 0, .int .i64 0, .int .i64 0], .bool false]) (by simp [results, Try.results38, go_sem, rc]) rfl (DivR.mk 0 0 0 0 ?_)
  exact (((h01.setCell (Nat.le_succ _) _).setCell (Nat.le_succ _) _).setCell (Nat.le_succ _) _).setCell (Nat.le_succ _) _
set_option maxHeartbeats 1600000 in
theorem impl_div_yes (a b c d : Int) (w : World) (hv : vZ a b c d = true) : Calls Try.prog 38 #[.agg #[.int .i64 a, .int .i64 b, .int .i64 c, .int .i64 d]] w (DivR w (!((b - d).tmod 2 != 0) && !((a + c).tmod 2 != 0) && !((b + d).tmod 2 != 0) && !((c - a).tmod 2 != 0))) := by
  have HC := Lib.hid (fun W => impl_vZ a b c d W)
  rw [hv] at HC
  obtain ⟨ha, hb, hc, hd⟩ := vZ_bd hv
  clear hv
  obtain ⟨t, ht⟩ : ∃ t, t = (!((b - d).tmod 2 != 0) && !((a + c).tmod 2 != 0) && !((b + d).tmod 2 != 0) && !((c - a).tmod 2 != 0)) := ⟨_, rfl⟩
  rw [← ht]
  rcases bool4 ((b - d).tmod 2 != 0) ((a + c).tmod 2 != 0) ((b + d).tmod 2 != 0) ((c - a).tmod 2 != 0) with key | ⟨e1, e2, e3, e4⟩
  · rcases key with e1 | ⟨e1, e2⟩ | ⟨e1, e2, e3⟩ | ⟨e1, e2, e3, e4⟩
    all_goals
      have HT : Hid (t = false) := by show t = _; rw [ht]; simp_all
      clear ht
      go_enter Try.func38, Try.ntmps38
      go_wp2_with fail
      refine (HC.out _).mono ?_
      rintro e w1 ⟨rfl, h1⟩
      have x := Blk.to (Blk.new w 40 #[.int .i64 a, .int .i64 b, .int .i64 c, .int .i64 d]) h1 (by repeat (first | exact Ext.refl _ | assumption | refine Ext.alloc ?_ _ | refine Ext.drew ?_ | refine Ext.drewN ?_ _ | refine Ext.trans ?_ (by assumption)))
      have rr := Blk.to (Blk.new (w.alloc (.cells #[.int .i64 a, .int .i64 b, .int .i64 c, .int .i64 d] 40)) 40 #[.int .i64 0, .int .i64 0, .int .i64 0, .int .i64 0]) h1 (by repeat (first | exact Ext.refl _ | assumption | refine Ext.alloc ?_ _ | refine Ext.drew ?_ | refine Ext.drewN ?_ _ | refine Ext.trans ?_ (by assumption)))
      simp only [World.size_alloc] at rr
      obtain ⟨xc, xf, xz⟩ := x.all
      obtain ⟨rc, rf, rz⟩ := rr.all
      have y := (Blk.new ((w.alloc (.cells #[.int .i64 a, .int .i64 b, .int .i64 c, .int .i64 d] 40)).alloc (.cells #[.int .i64 0, .int .i64 0, .int .i64 0, .int .i64 0] 40)) 40 #[.int .i64 (b - d), .int .i64 (a + c), .int .i64 (b + d), .int .i64 (c - a)]).ext h1
      simp only [World.size_alloc] at y
      obtain ⟨yc, yf, yz⟩ := y.all
      have h01 : Ext w w1 := Ext.trans (by repeat (first | exact Ext.refl _ | assumption | refine Ext.alloc ?_ _ | refine Ext.drew ?_ | refine Ext.drewN ?_ _ | refine Ext.trans ?_ (by assumption))) h1
      clear h1
      go_wp2
      refine bodyPost_ret (v := .tuple #[.agg #[.int .i64 0, .int .i64 0, .int .i64 0, .int .i64 0], .bool false]) (by simp [results, Try.results38, go_sem, rc, rz]; done) rfl (by rw [HT.out]; exact DivR.mk 0 0 0 0 (by repeat (first | (with_reducible assumption) | (with_reducible exact Ext.refl _) | ((with_reducible refine Ext.setCell ?_ ?_ _); rotate_left; (first | exact Nat.le_refl _ | exact Nat.le_succ _ | (simp; done) | (simp; omega))) | (with_reducible refine Ext.alloc ?_ _) | (with_reducible refine Ext.drew ?_) | (with_reducible refine Ext.drewN ?_ _))))
  · have HT : Hid (t = true) := by show t = _; rw [ht, e1, e2, e3, e4]; rfl
    clear ht
    go_enter Try.func38, Try.ntmps38
    go_wp2_with fail
    refine (HC.out _).mono ?_
    rintro e w1 ⟨rfl, h1⟩
    have x := Blk.to (Blk.new w 40 #[.int .i64 a, .int .i64 b, .int .i64 c, .int .i64 d]) h1 (by repeat (first | exact Ext.refl _ | assumption | refine Ext.alloc ?_ _ | refine Ext.drew ?_ | refine Ext.drewN ?_ _ | refine Ext.trans ?_ (by assumption)))
    have rr := Blk.to (Blk.new (w.alloc (.cells #[.int .i64 a, .int .i64 b, .int .i64 c, .int .i64 d] 40)) 40 #[.int .i64 0, .int .i64 0, .int .i64 0, .int .i64 0]) h1 (by repeat (first | exact Ext.refl _ | assumption | refine Ext.alloc ?_ _ | refine Ext.drew ?_ | refine Ext.drewN ?_ _ | refine Ext.trans ?_ (by assumption)))
    simp only [World.size_alloc] at rr
    obtain ⟨xc, xf, xz⟩ := x.all
    obtain ⟨rc, rf, rz⟩ := rr.all
    have y := (Blk.new ((w.alloc (.cells #[.int .i64 a, .int .i64 b, .int .i64 c, .int .i64 d] 40)).alloc (.cells #[.int .i64 0, .int .i64 0, .int .i64 0, .int .i64 0] 40)) 40 #[.int .i64 (b - d), .int .i64 (a + c), .int .i64 (b + d), .int .i64 (c - a)]).ext h1
    simp only [World.size_alloc] at y
    obtain ⟨yc, yf, yz⟩ := y.all
    have h01 : Ext w w1 := Ext.trans (by repeat (first | exact Ext.refl _ | assumption | refine Ext.alloc ?_ _ | refine Ext.drew ?_ | refine Ext.drewN ?_ _ | refine Ext.trans ?_ (by assumption))) h1
    clear h1
    go_wp2
    refine bodyPost_ret (v := .tuple #[.agg #[.int .i64 ((b - d).tdiv 2), .int .i64 ((a + c).tdiv 2), .int .i64 ((b + d).tdiv 2), .int .i64 ((c - a).tdiv 2)], .bool true]) (by simp [results, Try.results38, go_sem, rc, rz]; done) rfl (by rw [HT.out]; exact DivR.mk _ _ _ _ (by repeat (first | (with_reducible assumption) | (with_reducible exact Ext.refl _) | ((with_reducible refine Ext.setCell ?_ ?_ _); rotate_left; (first | exact Nat.le_refl _ | exact Nat.le_succ _ | (simp; done) | (simp; omega))) | (with_reducible refine Ext.alloc ?_ _) | (with_reducible refine Ext.drew ?_) | (with_reducible refine Ext.drewN ?_ _))))
set_option maxHeartbeats 1600000 in
theorem spec_div_no (a b c d : Int) (w : World) (hv : vZ a b c d = false) : Calls Try.prog 36 #[.agg #[.int .i64 a, .int .i64 b, .int .i64 c, .int .i64 d]] w (DivR w false) := by
  have HC := Lib.hid (fun W => spec_vZ a b c d W)
  rw [hv] at HC
  clear hv
  go_enter Try.func36, Try.ntmps36
  go_wp2_with fail
  refine (HC.out _).mono ?_
  rintro e w1 ⟨rfl, h1⟩
  have rr := Blk.to (Blk.new (w.alloc (.cells #[.int .i64 a, .int .i64 b, .int .i64 c, .int .i64 d] 40)) 40 #[.int .i64 0, .int .i64 0, .int .i64 0, .int .i64 0]) h1 (by repeat (first | exact Ext.refl _ | assumption | refine Ext.alloc ?_ _ | refine Ext.drew ?_ | refine Ext.drewN ?_ _ | refine Ext.trans ?_ (by assumption)))
  simp only [World.size_alloc] at rr
  obtain ⟨rc, rf, rz⟩ := rr.all
  have h01 : Ext w w1 := Ext.trans (by repeat (first | exact Ext.refl _ | assumption | refine Ext.alloc ?_ _ | refine Ext.drew ?_ | refine Ext.drewN ?_ _ | refine Ext.trans ?_ (by assumption))) h1
  clear h1
  go_wp2
  refine bodyPost_ret (v := .tuple #[.agg #[.int .i64 0, .int .i64 0, .int .i64 0, .int .i64 0], .bool false]) (by simp [results, Try.results36, go_sem, rc]) rfl (DivR.mk 0 0 0 0 ?_)
  exact (((h01.setCell (Nat.le_succ _) _).setCell (Nat.le_succ _) _).setCell (Nat.le_succ _) _).setCell (Nat.le_succ _) _
set_option maxHeartbeats 1600000 in
theorem spec_div_yes (a b c d : Int) (w : World) (hv : vZ a b c d = true) : Calls Try.prog 36 #[.agg #[.int .i64 a, .int .i64 b, .int .i64 c, .int .i64 d]] w (DivR w (!((b - d).tmod 2 != 0) && !((a + c).tmod 2 != 0) && !((b + d).tmod 2 != 0) && !((c - a).tmod 2 != 0))) := by
  have HC := Lib.hid (fun W => spec_vZ a b c d W)
  rw [hv] at HC
  obtain ⟨ha, hb, hc, hd⟩ := vZ_bd hv
  clear hv
  obtain ⟨t, ht⟩ : ∃ t, t = (!((b - d).tmod 2 != 0) && !((a + c).tmod 2 != 0) && !((b + d).tmod 2 != 0) && !((c - a).tmod 2 != 0)) := ⟨_, rfl⟩
  rw [← ht]
  rcases bool4 ((b - d).tmod 2 != 0) ((a + c).tmod 2 != 0) ((b + d).tmod 2 != 0) ((c - a).tmod 2 != 0) with key | ⟨e1, e2, e3, e4⟩
  · rcases key with e1 | ⟨e1, e2⟩ | ⟨e1, e2, e3⟩ | ⟨e1, e2, e3, e4⟩
    all_goals
      have HT : Hid (t = false) := by show t = _; rw [ht]; simp_all
      clear ht
      go_enter Try.func36, Try.ntmps36
      go_wp2_with fail
      refine (HC.out _).mono ?_
      rintro e w1 ⟨rfl, h1⟩
      have x := Blk.to (Blk.new w 40 #[.int .i64 a, .int .i64 b, .int .i64 c, .int .i64 d]) h1 (by repeat (first | exact Ext.refl _ | assumption | refine Ext.alloc ?_ _ | refine Ext.drew ?_ | refine Ext.drewN ?_ _ | refine Ext.trans ?_ (by assumption)))
      have rr := Blk.to (Blk.new (w.alloc (.cells #[.int .i64 a, .int .i64 b, .int .i64 c, .int .i64 d] 40)) 40 #[.int .i64 0, .int .i64 0, .int .i64 0, .int .i64 0]) h1 (by repeat (first | exact Ext.refl _ | assumption | refine Ext.alloc ?_ _ | refine Ext.drew ?_ | refine Ext.drewN ?_ _ | refine Ext.trans ?_ (by assumption)))
      simp only [World.size_alloc] at rr
      obtain ⟨xc, xf, xz⟩ := x.all
      obtain ⟨rc, rf, rz⟩ := rr.all
      have h01 : Ext w w1 := Ext.trans (by repeat (first | exact Ext.refl _ | assumption | refine Ext.alloc ?_ _ | refine Ext.drew ?_ | refine Ext.drewN ?_ _ | refine Ext.trans ?_ (by assumption))) h1
      clear h1
      go_wp2
      refine bodyPost_ret (v := .tuple #[.agg #[.int .i64 0, .int .i64 0, .int .i64 0, .int .i64 0], .bool false]) (by simp [results, Try.results36, go_sem, rc, rz]; done) rfl (by rw [HT.out]; exact DivR.mk 0 0 0 0 (by repeat (first | (with_reducible assumption) | (with_reducible exact Ext.refl _) | ((with_reducible refine Ext.setCell ?_ ?_ _); rotate_left; (first | exact Nat.le_refl _ | exact Nat.le_succ _ | (simp; done) | (simp; omega))) | (with_reducible refine Ext.alloc ?_ _) | (with_reducible refine Ext.drew ?_) | (with_reducible refine Ext.drewN ?_ _))))
  · have HT : Hid (t = true) := by show t = _; rw [ht, e1, e2, e3, e4]; rfl
    clear ht
    go_enter Try.func36, Try.ntmps36
    go_wp2_with fail
    refine (HC.out _).mono ?_
    rintro e w1 ⟨rfl, h1⟩
    have x := Blk.to (Blk.new w 40 #[.int .i64 a, .int .i64 b, .int .i64 c, .int .i64 d]) h1 (by repeat (first | exact Ext.refl _ | assumption | refine Ext.alloc ?_ _ | refine Ext.drew ?_ | refine Ext.drewN ?_ _ | refine Ext.trans ?_ (by assumption)))
    have rr := Blk.to (Blk.new (w.alloc (.cells #[.int .i64 a, .int .i64 b, .int .i64 c, .int .i64 d] 40)) 40 #[.int .i64 0, .int .i64 0, .int .i64 0, .int .i64 0]) h1 (by repeat (first | exact Ext.refl _ | assumption | refine Ext.alloc ?_ _ | refine Ext.drew ?_ | refine Ext.drewN ?_ _ | refine Ext.trans ?_ (by assumption)))
    simp only [World.size_alloc] at rr
    obtain ⟨xc, xf, xz⟩ := x.all
    obtain ⟨rc, rf, rz⟩ := rr.all
    have h01 : Ext w w1 := Ext.trans (by repeat (first | exact Ext.refl _ | assumption | refine Ext.alloc ?_ _ | refine Ext.drew ?_ | refine Ext.drewN ?_ _ | refine Ext.trans ?_ (by assumption))) h1
    clear h1
    go_wp2
    refine bodyPost_ret (v := .tuple #[.agg #[.int .i64 ((b - d).tdiv 2), .int .i64 ((a + c).tdiv 2), .int .i64 ((b + d).tdiv 2), .int .i64 ((c - a).tdiv 2)], .bool true]) (by simp [results, Try.results36, go_sem, rc, rz]; done) rfl (by rw [HT.out]; exact DivR.mk _ _ _ _ (by repeat (first | (with_reducible assumption) | (with_reducible exact Ext.refl _) | ((with_reducible refine Ext.setCell ?_ ?_ _); rotate_left; (first | exact Nat.le_refl _ | exact Nat.le_succ _ | (simp; done) | (simp; omega))) | (with_reducible refine Ext.alloc ?_ _) | (with_reducible refine Ext.drew ?_) | (with_reducible refine Ext.drewN ?_ _))))
theorem impl_div (a b c d : Int) (w : World) : Calls Try.prog 38 #[.agg #[.int .i64 a, .int .i64 b, .int .i64 c, .int .i64 d]] w (DivR w (dv a b c d)) := by
  cases hv : vZ a b c d with
  | true =>
    have e0 : dv a b c d = (!((b - d).tmod 2 != 0) && !((a + c).tmod 2 != 0) && !((b + d).tmod 2 != 0) && !((c - a).tmod 2 != 0)) := by unfold dv; rw [hv]; rfl
    rw [e0]
    exact impl_div_yes a b c d w hv
  | false =>
    have e0 : dv a b c d = false := by unfold dv; rw [hv]; rfl
    rw [e0]
    exact impl_div_no a b c d w hv
theorem spec_div (a b c d : Int) (w : World) : Calls Try.prog 36 #[.agg #[.int .i64 a, .int .i64 b, .int .i64 c, .int .i64 d]] w (DivR w (dv a b c d)) := by
  cases hv : vZ a b c d with
  | true =>
    have e0 : dv a b c d = (!((b - d).tmod 2 != 0) && !((a + c).tmod 2 != 0) && !((b + d).tmod 2 != 0) && !((c - a).tmod 2 != 0)) := by unfold dv; rw [hv]; rfl
    rw [e0]
    exact spec_div_yes a b c d w hv
  | false =>
    have e0 : dv a b c d = false := by unfold dv; rw [hv]; rfl
    rw [e0]
    exact spec_div_no a b c d w hv
end Go.Proofs.Ytkcbkbpjaccpgaa
