/-
  Contracts of l9Bent and DrawIsValidGate: some gate, some number. Conditions: the code is at most 2^20 bytes.
-/
import Derived.Test.YtkhgkaiadfebmaaDoorDraw4
set_option linter.unusedSimpArgs false
set_option linter.unusedVariables false
namespace Go.Proofs.YtkhgkaiadfebmaaDoor
open Go.RowKit
set_option maxHeartbeats 1600000 in
theorem l9Bent_ok (g : Nat) (A : Option Addr) (n c : Nat) (l : List Int) (m : Nat) (w : World) (h : CurOk w g A n c l) (h1 : 1 ≤ m) (h4 : m ≤ 4) :
    Calls Tryd.prog 59 #[.pointer (some ⟨g, 0, none⟩), .int .i64 m] w fun e w' => SomeGate w w' g A n c l e := by
  have hgw := h.lt
  have hb0 := Blk.new w 23 #[.int .i64 0, .int .i64 0, .int .i64 0, .int .i64 0]
  go_enter Tryd.func59, Tryd.ntmps59
  go_wp2_with fail
  refine (l9Gate_ok g A n c l m _ (h.ext ((Ext.refl w).alloc _)) h1 h4).mono ?_
  rintro e w1 ⟨k, x, y, z, rfl, ok1, ch1⟩
  have hz1 := ch1.size
  simp only [World.size_alloc] at hz1
  replace hb0 := (hb0.chg ch1 (.inr (by omega))).ext ((Ext.refl w1).alloc (.cells #[.int .i64 k, .int .i64 x, .int .i64 y, .int .i64 z] 23))
  have hb1 := Blk.new w1 23 #[.int .i64 k, .int .i64 x, .int .i64 y, .int .i64 z]
  have ch01 := (((Ext.refl w).alloc (.cells #[.int .i64 0, .int .i64 0, .int .i64 0, .int .i64 0] 23)).chgs ch1).alloc (.cells #[.int .i64 k, .int .i64 x, .int .i64 y, .int .i64 z] 23)
  have ok1' := ok1.ext ((Ext.refl w1).alloc (.cells #[.int .i64 k, .int .i64 x, .int .i64 y, .int .i64 z] 23))
  have hg1 := ok1.lt
  clear ch1 h ok1
  go_wp2_with fail
  refine (l1Below_ok g A n c l 10 _ ok1' (by omega)).mono ?_
  rintro e w2 ⟨q, hq, rfl, ok2, ch2⟩
  have hz2 := ch2.size
  simp only [World.size_alloc] at hz2
  replace hb0 := hb0.chg ch2 (.inr (by omega))
  replace hb1 := hb1.chg ch2 (.inr (by omega))
  have ch02 := ch01.trans ch2
  obtain ⟨bc, bf, bz⟩ := hb0.all
  obtain ⟨ec, ef, ez⟩ := hb1.all
  clear ch2 ch01 ok1' hq
  have hne : w.heap.size ≠ w1.heap.size := by omega
  by_cases q0 : q = 0
  · subst q0
    go_wp2_with fail
    refine (l1Below_ok g A n c l 15 _ ok2 (by omega)).mono ?_
    rintro e w3 ⟨v, hv, rfl, ok3, ch3⟩
    have hz3 := ch3.size
    replace hb0 := hb0.chg ch3 (.inr (by omega))
    replace hb1 := hb1.chg ch3 (.inr (by omega))
    have ch03 := ch02.trans ch3
    have hv15 : v < 15 := by omega
    clear bc bf bz ec ef ez ch3 ch02 ok2 hv
    obtain ⟨bc, bf, bz⟩ := hb0.all
    obtain ⟨ec, ef, ez⟩ := hb1.all
    go_wp2
    exact bodyPost_ret (v := .agg #[.int .i64 ((v : Int) - 1), .int .i64 x, .int .i64 y, .int .i64 z]) (by simp [results, Tryd.results59, go_sem, bc, bz, hne]) rfl ⟨_, _, _, _, rfl, CurOk.new ok3 (lo := w.heap.size) (hi := w1.heap.size + 1) (by repeat (first | (with_reducible exact Chg.refl _ _ _) | (with_reducible refine Chg.alloc ?_ _) | (with_reducible refine Chg.drew ?_) | (with_reducible refine Chg.drewN ?_ _) | (with_reducible refine Chg.setCell ?_ ?_ ?_ _; rotate_left; (first | exact Nat.le_refl _ | (simp; done) | (simp; omega)); (first | exact Nat.lt_succ_self _ | (simp; done) | (simp; omega))) | assumption)) hgw, ch03.new (l := w.heap.size) (h := w1.heap.size + 1) (by repeat (first | (with_reducible exact Chg.refl _ _ _) | (with_reducible refine Chg.alloc ?_ _) | (with_reducible refine Chg.drew ?_) | (with_reducible refine Chg.drewN ?_ _) | (with_reducible refine Chg.setCell ?_ ?_ ?_ _; rotate_left; (first | exact Nat.le_refl _ | (simp; done) | (simp; omega)); (first | exact Nat.lt_succ_self _ | (simp; done) | (simp; omega))) | assumption)) (Nat.le_refl _)⟩
  · have n0 : ((q : Int) == 0) = false := by simp; omega
    by_cases q1 : q = 1
    · subst q1
      go_wp2_with fail
      refine (l1PickInt_ok g A n c l _ 4 4 w2.heap.size (w2.heap.size + 1) [0, (m : Int), -1, y] _ (ok2.ext ((Ext.refl w2).alloc _)) (Fr.of_blk (Blk.new w2 _ _) (Nat.le_refl _) (Nat.lt_succ_self _) ?hx) (by have := ok2.lt; omega) rfl (by omega) (by omega)).mono ?_
      case hx =>
        intro j u hu
        (rcases j with _ | _ | _ | _ | j) <;> simp_all [ints]
      rintro e w3 ⟨v, _, rfl, ok3, ch3⟩
      have hz3 := ch3.size
      simp only [World.size_alloc] at hz3
      replace hb0 := (hb0.ext ((Ext.refl w2).alloc (.cells #[.int .i64 0, .int .i64 ((m : Int)), .int .i64 (-1), .int .i64 y] 3))).chg ch3 (.inr (by omega))
      replace hb1 := (hb1.ext ((Ext.refl w2).alloc (.cells #[.int .i64 0, .int .i64 ((m : Int)), .int .i64 (-1), .int .i64 y] 3))).chg ch3 (.inr (by omega))
      have ch03 := (ch02.alloc (.cells #[.int .i64 0, .int .i64 ((m : Int)), .int .i64 (-1), .int .i64 y] 3)).trans ch3
      clear bc bf bz ec ef ez ch3 ch02 ok2
      obtain ⟨bc, bf, bz⟩ := hb0.all
      obtain ⟨ec, ef, ez⟩ := hb1.all
      go_wp2
      exact bodyPost_ret (v := .agg #[.int .i64 k, .int .i64 v, .int .i64 y, .int .i64 z]) (by simp [results, Tryd.results59, go_sem, bc, bz, hne]) rfl ⟨_, _, _, _, rfl, CurOk.new ok3 (lo := w.heap.size) (hi := w1.heap.size + 1) (by repeat (first | (with_reducible exact Chg.refl _ _ _) | (with_reducible refine Chg.alloc ?_ _) | (with_reducible refine Chg.drew ?_) | (with_reducible refine Chg.drewN ?_ _) | (with_reducible refine Chg.setCell ?_ ?_ ?_ _; rotate_left; (first | exact Nat.le_refl _ | (simp; done) | (simp; omega)); (first | exact Nat.lt_succ_self _ | (simp; done) | (simp; omega))) | assumption)) hgw, ch03.new (l := w.heap.size) (h := w1.heap.size + 1) (by repeat (first | (with_reducible exact Chg.refl _ _ _) | (with_reducible refine Chg.alloc ?_ _) | (with_reducible refine Chg.drew ?_) | (with_reducible refine Chg.drewN ?_ _) | (with_reducible refine Chg.setCell ?_ ?_ ?_ _; rotate_left; (first | exact Nat.le_refl _ | (simp; done) | (simp; omega)); (first | exact Nat.lt_succ_self _ | (simp; done) | (simp; omega))) | assumption)) (Nat.le_refl _)⟩
    · have n1 : ((q : Int) == 1) = false := by simp; omega
      by_cases q2 : q = 2
      · subst q2
        go_wp2_with fail
        refine (l1PickInt_ok g A n c l _ 4 4 w2.heap.size (w2.heap.size + 1) [0, (m : Int), -1, x] _ (ok2.ext ((Ext.refl w2).alloc _)) (Fr.of_blk (Blk.new w2 _ _) (Nat.le_refl _) (Nat.lt_succ_self _) ?hx) (by have := ok2.lt; omega) rfl (by omega) (by omega)).mono ?_
        case hx =>
          intro j u hu
          (rcases j with _ | _ | _ | _ | j) <;> simp_all [ints]
        rintro e w3 ⟨v, _, rfl, ok3, ch3⟩
        have hz3 := ch3.size
        simp only [World.size_alloc] at hz3
        replace hb0 := (hb0.ext ((Ext.refl w2).alloc (.cells #[.int .i64 0, .int .i64 ((m : Int)), .int .i64 (-1), .int .i64 x] 3))).chg ch3 (.inr (by omega))
        replace hb1 := (hb1.ext ((Ext.refl w2).alloc (.cells #[.int .i64 0, .int .i64 ((m : Int)), .int .i64 (-1), .int .i64 x] 3))).chg ch3 (.inr (by omega))
        have ch03 := (ch02.alloc (.cells #[.int .i64 0, .int .i64 ((m : Int)), .int .i64 (-1), .int .i64 x] 3)).trans ch3
        clear bc bf bz ec ef ez ch3 ch02 ok2
        obtain ⟨bc, bf, bz⟩ := hb0.all
        obtain ⟨ec, ef, ez⟩ := hb1.all
        go_wp2
        exact bodyPost_ret (v := .agg #[.int .i64 k, .int .i64 x, .int .i64 v, .int .i64 z]) (by simp [results, Tryd.results59, go_sem, bc, bz, hne]) rfl ⟨_, _, _, _, rfl, CurOk.new ok3 (lo := w.heap.size) (hi := w1.heap.size + 1) (by repeat (first | (with_reducible exact Chg.refl _ _ _) | (with_reducible refine Chg.alloc ?_ _) | (with_reducible refine Chg.drew ?_) | (with_reducible refine Chg.drewN ?_ _) | (with_reducible refine Chg.setCell ?_ ?_ ?_ _; rotate_left; (first | exact Nat.le_refl _ | (simp; done) | (simp; omega)); (first | exact Nat.lt_succ_self _ | (simp; done) | (simp; omega))) | assumption)) hgw, ch03.new (l := w.heap.size) (h := w1.heap.size + 1) (by repeat (first | (with_reducible exact Chg.refl _ _ _) | (with_reducible refine Chg.alloc ?_ _) | (with_reducible refine Chg.drew ?_) | (with_reducible refine Chg.drewN ?_ _) | (with_reducible refine Chg.setCell ?_ ?_ ?_ _; rotate_left; (first | exact Nat.le_refl _ | (simp; done) | (simp; omega)); (first | exact Nat.lt_succ_self _ | (simp; done) | (simp; omega))) | assumption)) (Nat.le_refl _)⟩
      · have n2 : ((q : Int) == 2) = false := by simp; omega
        by_cases q3 : q = 3
        · subst q3
          go_wp2_with fail
          refine (l1PickInt_ok g A n c l _ 4 4 w2.heap.size (w2.heap.size + 1) [0, 1, (m : Int), -1] _ (ok2.ext ((Ext.refl w2).alloc _)) (Fr.of_blk (Blk.new w2 _ _) (Nat.le_refl _) (Nat.lt_succ_self _) ?hx) (by have := ok2.lt; omega) rfl (by omega) (by omega)).mono ?_
          case hx =>
            intro j u hu
            (rcases j with _ | _ | _ | _ | j) <;> simp_all [ints]
          rintro e w3 ⟨v, _, rfl, ok3, ch3⟩
          have hz3 := ch3.size
          simp only [World.size_alloc] at hz3
          replace hb0 := (hb0.ext ((Ext.refl w2).alloc (.cells #[.int .i64 0, .int .i64 1, .int .i64 ((m : Int)), .int .i64 (-1)] 3))).chg ch3 (.inr (by omega))
          replace hb1 := (hb1.ext ((Ext.refl w2).alloc (.cells #[.int .i64 0, .int .i64 1, .int .i64 ((m : Int)), .int .i64 (-1)] 3))).chg ch3 (.inr (by omega))
          have ch03 := (ch02.alloc (.cells #[.int .i64 0, .int .i64 1, .int .i64 ((m : Int)), .int .i64 (-1)] 3)).trans ch3
          clear bc bf bz ec ef ez ch3 ch02 ok2
          obtain ⟨bc, bf, bz⟩ := hb0.all
          obtain ⟨ec, ef, ez⟩ := hb1.all
          go_wp2
          exact bodyPost_ret (v := .agg #[.int .i64 k, .int .i64 x, .int .i64 y, .int .i64 v]) (by simp [results, Tryd.results59, go_sem, bc, bz, hne]) rfl ⟨_, _, _, _, rfl, CurOk.new ok3 (lo := w.heap.size) (hi := w1.heap.size + 1) (by repeat (first | (with_reducible exact Chg.refl _ _ _) | (with_reducible refine Chg.alloc ?_ _) | (with_reducible refine Chg.drew ?_) | (with_reducible refine Chg.drewN ?_ _) | (with_reducible refine Chg.setCell ?_ ?_ ?_ _; rotate_left; (first | exact Nat.le_refl _ | (simp; done) | (simp; omega)); (first | exact Nat.lt_succ_self _ | (simp; done) | (simp; omega))) | assumption)) hgw, ch03.new (l := w.heap.size) (h := w1.heap.size + 1) (by repeat (first | (with_reducible exact Chg.refl _ _ _) | (with_reducible refine Chg.alloc ?_ _) | (with_reducible refine Chg.drew ?_) | (with_reducible refine Chg.drewN ?_ _) | (with_reducible refine Chg.setCell ?_ ?_ ?_ _; rotate_left; (first | exact Nat.le_refl _ | (simp; done) | (simp; omega)); (first | exact Nat.lt_succ_self _ | (simp; done) | (simp; omega))) | assumption)) (Nat.le_refl _)⟩
        · have n3 : ((q : Int) == 3) = false := by simp; omega
          go_wp2
          exact bodyPost_ret (v := .agg #[.int .i64 k, .int .i64 x, .int .i64 y, .int .i64 z]) (by simp [results, Tryd.results59, go_sem, bc, bz, hne]) rfl ⟨_, _, _, _, rfl, CurOk.new ok2 (lo := w.heap.size) (hi := w1.heap.size + 1) (by repeat (first | (with_reducible exact Chg.refl _ _ _) | (with_reducible refine Chg.alloc ?_ _) | (with_reducible refine Chg.drew ?_) | (with_reducible refine Chg.drewN ?_ _) | (with_reducible refine Chg.setCell ?_ ?_ ?_ _; rotate_left; (first | exact Nat.le_refl _ | (simp; done) | (simp; omega)); (first | exact Nat.lt_succ_self _ | (simp; done) | (simp; omega))) | assumption)) hgw, ch02.new (l := w.heap.size) (h := w1.heap.size + 1) (by repeat (first | (with_reducible exact Chg.refl _ _ _) | (with_reducible refine Chg.alloc ?_ _) | (with_reducible refine Chg.drew ?_) | (with_reducible refine Chg.drewN ?_ _) | (with_reducible refine Chg.setCell ?_ ?_ ?_ _; rotate_left; (first | exact Nat.le_refl _ | (simp; done) | (simp; omega)); (first | exact Nat.lt_succ_self _ | (simp; done) | (simp; omega))) | assumption)) (Nat.le_refl _)⟩
end Go.Proofs.YtkhgkaiadfebmaaDoor
