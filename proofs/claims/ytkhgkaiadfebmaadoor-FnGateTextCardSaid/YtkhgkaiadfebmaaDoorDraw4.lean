/-
  Contracts of the drawing functions for gates: what is drawn is some gate. Conditions: the code is at most 2^20 bytes.
-/
import Derived.Test.YtkhgkaiadfebmaaDoorDraw3
import Derived.Test.YtkhgkaiadfebmaaDoorGate
set_option linter.unusedSimpArgs false
set_option linter.unusedVariables false
namespace Go.Proofs.YtkhgkaiadfebmaaDoor
open Go.RowKit
theorem CurOk.new {a b : World} {lo hi g : Nat} {A : Option Addr} {n c : Nat} {l : List Int} (h : CurOk a g A n c l) (k : Chg a b lo hi) (hlo : g < lo) : CurOk b g A n c l := h.chg k (Nat.le_of_lt hlo) (h.cur.chg k (.inl hlo))
/-- Some gate of this kind was handed back; the cursor is as good as before. -/
def SomeGate (w w' : World) (g : Nat) (A : Option Addr) (n c : Nat) (l : List Int) (e : Ending) : Prop := ∃ k x y z : Int, e = .returned (.agg #[.int .i64 k, .int .i64 x, .int .i64 y, .int .i64 z]) ∧ CurOk w' g A n c l ∧ Chg w w' g (g + 1)
set_option maxHeartbeats 800000 in
theorem l9On_ok (g : Nat) (A : Option Addr) (n c : Nat) (l : List Int) (kind : Int) (m : Nat) (w : World) (h : CurOk w g A n c l) (h1 : 1 ≤ m) (h4 : m ≤ 4) (ha : arity kind ≤ m) :
    Calls Tryd.prog 65 #[.pointer (some ⟨g, 0, none⟩), .int .i64 kind, .int .i64 m] w fun e w' => SomeGate w w' g A n c l e := by
  have hgw := h.lt
  have hb0 := Blk.new w 23 #[.int .i64 0, .int .i64 0, .int .i64 0, .int .i64 0]
  have hbd := arity_bd kind
  generalize har : arity kind = ar at *
  have HAR := Lib.hid har
  clear har
  have hca := fun W => spec_arity kind W
  rw [HAR.out] at hca
  have HCA := Lib.hid hca
  clear hca
  go_enter Tryd.func65, Tryd.ntmps65
  go_wp2_with fail
  refine (l8Perm_ok g A n c l m _ (h.ext ((Ext.refl w).alloc _)) h1 h4).mono ?_
  rintro e w1 ⟨gp, cP, L, rfl, hown, ok1, ch1⟩
  replace hb0 := hb0.chg ch1 (.inr (by omega))
  obtain ⟨bc, bf, bz⟩ := hb0.all
  have ch01 := ((Ext.refl w).alloc (.cells #[.int .i64 0, .int .i64 0, .int .i64 0, .int .i64 0] 23)).chgs ch1
  have hz1 := ch1.size
  simp at hz1
  clear ch1 h
  have c0 := own_cell hown 0 (by omega)
  generalize L.getD 0 0 = a0 at *
  have hmI : (0 : Int) < (m : Int) := by omega
  obtain hr | hr | hr : ar ≤ 1 ∨ ar = 2 ∨ ar = 3 := by omega
  · have t1 : decide ((1 : Int) < ar) = false := by simp; omega
    have t2 : decide ((2 : Int) < ar) = false := by simp; omega
    clear hown hr
    go_wp2_with fail
    refine (HCA.out _).mono ?_
    rintro e w2 ⟨rfl, rfl⟩
    go_wp2_with fail
    refine (HCA.out _).mono ?_
    rintro e w2 ⟨rfl, rfl⟩
    go_wp2
    exact bodyPost_ret (v := .agg #[.int .i64 kind, .int .i64 a0, .int .i64 0, .int .i64 0]) (by simp [results, Tryd.results65, go_sem, bc, bz]) rfl ⟨_, _, _, _, rfl, CurOk.new ok1 (lo := w.heap.size) (hi := w.heap.size + 1) (by repeat (first | (with_reducible exact Chg.refl _ _ _) | (with_reducible refine Chg.alloc ?_ _) | (with_reducible refine Chg.drew ?_) | (with_reducible refine Chg.drewN ?_ _) | (with_reducible refine Chg.setCell ?_ ?_ ?_ _; rotate_left; (first | exact Nat.le_refl _ | (simp; done) | (simp; omega)); (first | exact Nat.lt_succ_self _ | (simp; done) | (simp; omega))) | assumption)) hgw, ch01.new (l := w.heap.size) (h := w.heap.size + 1) (by repeat (first | (with_reducible exact Chg.refl _ _ _) | (with_reducible refine Chg.alloc ?_ _) | (with_reducible refine Chg.drew ?_) | (with_reducible refine Chg.drewN ?_ _) | (with_reducible refine Chg.setCell ?_ ?_ ?_ _; rotate_left; (first | exact Nat.le_refl _ | (simp; done) | (simp; omega)); (first | exact Nat.lt_succ_self _ | (simp; done) | (simp; omega))) | assumption)) (Nat.le_refl _)⟩
  · subst hr
    have c1 := own_cell hown 1 (by omega)
    generalize L.getD 1 0 = a1 at *
    have hmI1 : (1 : Int) < (m : Int) := by omega
    clear hown
    have hpz := lt_of_cell c1
    simp only at hpz
    go_wp2_with fail
    refine (HCA.out _).mono ?_
    rintro e w2 ⟨rfl, rfl⟩
    go_wp2_with fail
    refine (HCA.out _).mono ?_
    rintro e w2 ⟨rfl, rfl⟩
    go_wp2
    exact bodyPost_ret (v := .agg #[.int .i64 kind, .int .i64 a0, .int .i64 a1, .int .i64 0]) (by simp [results, Tryd.results65, go_sem, bc, bz]) rfl ⟨_, _, _, _, rfl, CurOk.new ok1 (lo := w.heap.size) (hi := w.heap.size + 1) (by repeat (first | (with_reducible exact Chg.refl _ _ _) | (with_reducible refine Chg.alloc ?_ _) | (with_reducible refine Chg.drew ?_) | (with_reducible refine Chg.drewN ?_ _) | (with_reducible refine Chg.setCell ?_ ?_ ?_ _; rotate_left; (first | exact Nat.le_refl _ | (simp; done) | (simp; omega)); (first | exact Nat.lt_succ_self _ | (simp; done) | (simp; omega))) | assumption)) hgw, ch01.new (l := w.heap.size) (h := w.heap.size + 1) (by repeat (first | (with_reducible exact Chg.refl _ _ _) | (with_reducible refine Chg.alloc ?_ _) | (with_reducible refine Chg.drew ?_) | (with_reducible refine Chg.drewN ?_ _) | (with_reducible refine Chg.setCell ?_ ?_ ?_ _; rotate_left; (first | exact Nat.le_refl _ | (simp; done) | (simp; omega)); (first | exact Nat.lt_succ_self _ | (simp; done) | (simp; omega))) | assumption)) (Nat.le_refl _)⟩
  · subst hr
    have c1 := own_cell hown 1 (by omega)
    have c2 := own_cell hown 2 (by omega)
    generalize L.getD 1 0 = a1 at *
    generalize L.getD 2 0 = a2 at *
    have hmI1 : (1 : Int) < (m : Int) := by omega
    have hmI2 : (2 : Int) < (m : Int) := by omega
    clear hown
    have hpz := lt_of_cell c1
    simp only at hpz
    go_wp2_with fail
    refine (HCA.out _).mono ?_
    rintro e w2 ⟨rfl, rfl⟩
    go_wp2_with fail
    refine (HCA.out _).mono ?_
    rintro e w2 ⟨rfl, rfl⟩
    go_wp2
    exact bodyPost_ret (v := .agg #[.int .i64 kind, .int .i64 a0, .int .i64 a1, .int .i64 a2]) (by simp [results, Tryd.results65, go_sem, bc, bz]) rfl ⟨_, _, _, _, rfl, CurOk.new ok1 (lo := w.heap.size) (hi := w.heap.size + 1) (by repeat (first | (with_reducible exact Chg.refl _ _ _) | (with_reducible refine Chg.alloc ?_ _) | (with_reducible refine Chg.drew ?_) | (with_reducible refine Chg.drewN ?_ _) | (with_reducible refine Chg.setCell ?_ ?_ ?_ _; rotate_left; (first | exact Nat.le_refl _ | (simp; done) | (simp; omega)); (first | exact Nat.lt_succ_self _ | (simp; done) | (simp; omega))) | assumption)) hgw, ch01.new (l := w.heap.size) (h := w.heap.size + 1) (by repeat (first | (with_reducible exact Chg.refl _ _ _) | (with_reducible refine Chg.alloc ?_ _) | (with_reducible refine Chg.drew ?_) | (with_reducible refine Chg.drewN ?_ _) | (with_reducible refine Chg.setCell ?_ ?_ ?_ _; rotate_left; (first | exact Nat.le_refl _ | (simp; done) | (simp; omega)); (first | exact Nat.lt_succ_self _ | (simp; done) | (simp; omega))) | assumption)) (Nat.le_refl _)⟩
set_option maxHeartbeats 800000 in
theorem l9Gate_ok1 (g : Nat) (A : Option Addr) (n c : Nat) (l : List Int) (w : World) (h : CurOk w g A n c l) :
    Calls Tryd.prog 45 #[.pointer (some ⟨g, 0, none⟩), .int .i64 1] w fun e w' => SomeGate w w' g A n c l e := by
  have hgw := h.lt
  have hb0 := (Blk.new w 23 #[.int .i64 0, .int .i64 0, .int .i64 0, .int .i64 0]).ext ((Ext.refl _).alloc (.cells #[.int .i64 0, .int .i64 8, .int .i64 11, .int .i64 12, .int .i64 12] 3))
  go_enter Tryd.func45, Tryd.ntmps45
  go_wp2_with fail
  refine (l1Below_ok g A n c l 8 _ (h.ext (((Ext.refl w).alloc _).alloc _)) (by omega)).mono ?_
  rintro e w1 ⟨x, hx, rfl, ok1, ch1⟩
  have hxq : x < 8 := by omega
  have hz1 := ch1.size
  simp at hz1
  replace hb0 := hb0.chg ch1 (.inr (by omega))
  have ch01 := (((Ext.refl w).alloc (.cells #[.int .i64 0, .int .i64 0, .int .i64 0, .int .i64 0] 23)).alloc (.cells #[.int .i64 0, .int .i64 8, .int .i64 11, .int .i64 12, .int .i64 12] 3)).chgs ch1
  clear hx ch1 h
  go_wp2_with fail
  refine (l1Once_ok g A n c l 2 _ ok1 (by omega)).mono ?_
  rintro e w2 ⟨b, rfl, ok2, ch2⟩
  have hz2 := ch2.size
  replace hb0 := hb0.chg ch2 (.inr (by omega))
  have ch02 := ch01.trans ch2
  clear ch01 ch2 ok1
  cases b with
  | true =>
    go_wp2_with fail
    refine (l1PickInt_ok g A n c l _ 8 8 w2.heap.size (w2.heap.size + 1) [4, 7, 5, 8, 9, 9, 9, 9] _ (ok2.ext ((Ext.refl w2).alloc _)) (Fr.of_blk (Blk.new w2 _ _) (Nat.le_refl _) (Nat.lt_succ_self _) ?hx) (by have := ok2.lt; omega) rfl (by omega) (by omega)).mono ?_
    case hx =>
      intro j u hu
      (rcases j with _ | _ | _ | _ | _ | _ | _ | _ | j) <;> simp_all [ints]
    rintro e w3 ⟨v, _, rfl, ok3, ch3⟩
    have hz3 := ch3.size
    simp at hz3
    replace hb0 := (hb0.ext ((Ext.refl w2).alloc (.cells #[.int .i64 4, .int .i64 7, .int .i64 5, .int .i64 8, .int .i64 9, .int .i64 9, .int .i64 9, .int .i64 9] 3))).chg ch3 (.inr (by omega))
    have ch03 := (ch02.alloc (.cells #[.int .i64 4, .int .i64 7, .int .i64 5, .int .i64 8, .int .i64 9, .int .i64 9, .int .i64 9, .int .i64 9] 3)).trans ch3
    clear ch02 ch3 ok2
    generalize v = kd at *
    by_cases ha : arity kd ≤ 1
    · have hd : decide ((1 : Int) < arity kd) = false := by simp; omega
      go_wp2_with fail
      refine (spec_arity _ _).mono ?_
      rintro e w4 ⟨rfl, rfl⟩
      go_wp2_with fail
      refine (l9On_ok g A n c l kd 1 _ ok3 (by omega) (by omega) ha).mono ?_
      rintro e w4 ⟨k', x', y', z', rfl, ok4, ch4⟩
      replace hb0 := hb0.chg ch4 (.inr (by omega))
      obtain ⟨bc, bf, bz⟩ := hb0.all
      have ch04 := ch03.trans ch4
      clear ch03 ch4 ok3
      go_wp2
      exact bodyPost_ret (v := .agg #[.int .i64 k', .int .i64 x', .int .i64 y', .int .i64 z']) (by simp [results, Tryd.results45, go_sem, bc, bz]) rfl ⟨_, _, _, _, rfl, CurOk.new ok4 (lo := w.heap.size) (hi := w.heap.size + 1) (by repeat (first | (with_reducible exact Chg.refl _ _ _) | (with_reducible refine Chg.alloc ?_ _) | (with_reducible refine Chg.drew ?_) | (with_reducible refine Chg.drewN ?_ _) | (with_reducible refine Chg.setCell ?_ ?_ ?_ _; rotate_left; (first | exact Nat.le_refl _ | (simp; done) | (simp; omega)); (first | exact Nat.lt_succ_self _ | (simp; done) | (simp; omega))) | assumption)) hgw, ch04.new (l := w.heap.size) (h := w.heap.size + 1) (by repeat (first | (with_reducible exact Chg.refl _ _ _) | (with_reducible refine Chg.alloc ?_ _) | (with_reducible refine Chg.drew ?_) | (with_reducible refine Chg.drewN ?_ _) | (with_reducible refine Chg.setCell ?_ ?_ ?_ _; rotate_left; (first | exact Nat.le_refl _ | (simp; done) | (simp; omega)); (first | exact Nat.lt_succ_self _ | (simp; done) | (simp; omega))) | assumption)) (Nat.le_refl _)⟩
    · have hd : decide ((1 : Int) < arity kd) = true := by simp; omega
      go_wp2_with fail
      refine (spec_arity _ _).mono ?_
      rintro e w4 ⟨rfl, rfl⟩
      go_wp2_with fail
      refine (l9On_ok g A n c l 4 1 _ ok3 (by omega) (by omega) (by decide)).mono ?_
      rintro e w4 ⟨k', x', y', z', rfl, ok4, ch4⟩
      replace hb0 := hb0.chg ch4 (.inr (by omega))
      obtain ⟨bc, bf, bz⟩ := hb0.all
      have ch04 := ch03.trans ch4
      clear ch03 ch4 ok3
      go_wp2
      exact bodyPost_ret (v := .agg #[.int .i64 k', .int .i64 x', .int .i64 y', .int .i64 z']) (by simp [results, Tryd.results45, go_sem, bc, bz]) rfl ⟨_, _, _, _, rfl, CurOk.new ok4 (lo := w.heap.size) (hi := w.heap.size + 1) (by repeat (first | (with_reducible exact Chg.refl _ _ _) | (with_reducible refine Chg.alloc ?_ _) | (with_reducible refine Chg.drew ?_) | (with_reducible refine Chg.drewN ?_ _) | (with_reducible refine Chg.setCell ?_ ?_ ?_ _; rotate_left; (first | exact Nat.le_refl _ | (simp; done) | (simp; omega)); (first | exact Nat.lt_succ_self _ | (simp; done) | (simp; omega))) | assumption)) hgw, ch04.new (l := w.heap.size) (h := w.heap.size + 1) (by repeat (first | (with_reducible exact Chg.refl _ _ _) | (with_reducible refine Chg.alloc ?_ _) | (with_reducible refine Chg.drew ?_) | (with_reducible refine Chg.drewN ?_ _) | (with_reducible refine Chg.setCell ?_ ?_ ?_ _; rotate_left; (first | exact Nat.le_refl _ | (simp; done) | (simp; omega)); (first | exact Nat.lt_succ_self _ | (simp; done) | (simp; omega))) | assumption)) (Nat.le_refl _)⟩
  | false =>
    by_cases ha : arity (1 + (x : Int)) ≤ 1
    · have hd : decide ((1 : Int) < arity (1 + (x : Int))) = false := by simp; omega
      go_wp2_with fail
      refine (spec_arity _ _).mono ?_
      rintro e w4 ⟨rfl, rfl⟩
      go_wp2_with fail
      refine (l9On_ok g A n c l (1 + (x : Int)) 1 _ ok2 (by omega) (by omega) ha).mono ?_
      rintro e w4 ⟨k', x', y', z', rfl, ok4, ch4⟩
      replace hb0 := hb0.chg ch4 (.inr (by omega))
      obtain ⟨bc, bf, bz⟩ := hb0.all
      have ch04 := ch02.trans ch4
      clear ch02 ch4 ok2
      go_wp2
      exact bodyPost_ret (v := .agg #[.int .i64 k', .int .i64 x', .int .i64 y', .int .i64 z']) (by simp [results, Tryd.results45, go_sem, bc, bz]) rfl ⟨_, _, _, _, rfl, CurOk.new ok4 (lo := w.heap.size) (hi := w.heap.size + 1) (by repeat (first | (with_reducible exact Chg.refl _ _ _) | (with_reducible refine Chg.alloc ?_ _) | (with_reducible refine Chg.drew ?_) | (with_reducible refine Chg.drewN ?_ _) | (with_reducible refine Chg.setCell ?_ ?_ ?_ _; rotate_left; (first | exact Nat.le_refl _ | (simp; done) | (simp; omega)); (first | exact Nat.lt_succ_self _ | (simp; done) | (simp; omega))) | assumption)) hgw, ch04.new (l := w.heap.size) (h := w.heap.size + 1) (by repeat (first | (with_reducible exact Chg.refl _ _ _) | (with_reducible refine Chg.alloc ?_ _) | (with_reducible refine Chg.drew ?_) | (with_reducible refine Chg.drewN ?_ _) | (with_reducible refine Chg.setCell ?_ ?_ ?_ _; rotate_left; (first | exact Nat.le_refl _ | (simp; done) | (simp; omega)); (first | exact Nat.lt_succ_self _ | (simp; done) | (simp; omega))) | assumption)) (Nat.le_refl _)⟩
    · have hd : decide ((1 : Int) < arity (1 + (x : Int))) = true := by simp; omega
      go_wp2_with fail
      refine (spec_arity _ _).mono ?_
      rintro e w4 ⟨rfl, rfl⟩
      go_wp2_with fail
      refine (l9On_ok g A n c l 4 1 _ ok2 (by omega) (by omega) (by decide)).mono ?_
      rintro e w4 ⟨k', x', y', z', rfl, ok4, ch4⟩
      replace hb0 := hb0.chg ch4 (.inr (by omega))
      obtain ⟨bc, bf, bz⟩ := hb0.all
      have ch04 := ch02.trans ch4
      clear ch02 ch4 ok2
      go_wp2
      exact bodyPost_ret (v := .agg #[.int .i64 k', .int .i64 x', .int .i64 y', .int .i64 z']) (by simp [results, Tryd.results45, go_sem, bc, bz]) rfl ⟨_, _, _, _, rfl, CurOk.new ok4 (lo := w.heap.size) (hi := w.heap.size + 1) (by repeat (first | (with_reducible exact Chg.refl _ _ _) | (with_reducible refine Chg.alloc ?_ _) | (with_reducible refine Chg.drew ?_) | (with_reducible refine Chg.drewN ?_ _) | (with_reducible refine Chg.setCell ?_ ?_ ?_ _; rotate_left; (first | exact Nat.le_refl _ | (simp; done) | (simp; omega)); (first | exact Nat.lt_succ_self _ | (simp; done) | (simp; omega))) | assumption)) hgw, ch04.new (l := w.heap.size) (h := w.heap.size + 1) (by repeat (first | (with_reducible exact Chg.refl _ _ _) | (with_reducible refine Chg.alloc ?_ _) | (with_reducible refine Chg.drew ?_) | (with_reducible refine Chg.drewN ?_ _) | (with_reducible refine Chg.setCell ?_ ?_ ?_ _; rotate_left; (first | exact Nat.le_refl _ | (simp; done) | (simp; omega)); (first | exact Nat.lt_succ_self _ | (simp; done) | (simp; omega))) | assumption)) (Nat.le_refl _)⟩
set_option maxHeartbeats 800000 in
theorem l9Gate_ok2 (g : Nat) (A : Option Addr) (n c : Nat) (l : List Int) (w : World) (h : CurOk w g A n c l) :
    Calls Tryd.prog 45 #[.pointer (some ⟨g, 0, none⟩), .int .i64 2] w fun e w' => SomeGate w w' g A n c l e := by
  have hgw := h.lt
  have hb0 := (Blk.new w 23 #[.int .i64 0, .int .i64 0, .int .i64 0, .int .i64 0]).ext ((Ext.refl _).alloc (.cells #[.int .i64 0, .int .i64 8, .int .i64 11, .int .i64 12, .int .i64 12] 3))
  go_enter Tryd.func45, Tryd.ntmps45
  go_wp2_with fail
  refine (l1Below_ok g A n c l 11 _ (h.ext (((Ext.refl w).alloc _).alloc _)) (by omega)).mono ?_
  rintro e w1 ⟨x, hx, rfl, ok1, ch1⟩
  have hxq : x < 11 := by omega
  have hz1 := ch1.size
  simp at hz1
  replace hb0 := hb0.chg ch1 (.inr (by omega))
  have ch01 := (((Ext.refl w).alloc (.cells #[.int .i64 0, .int .i64 0, .int .i64 0, .int .i64 0] 23)).alloc (.cells #[.int .i64 0, .int .i64 8, .int .i64 11, .int .i64 12, .int .i64 12] 3)).chgs ch1
  clear hx ch1 h
  go_wp2_with fail
  refine (l1Once_ok g A n c l 2 _ ok1 (by omega)).mono ?_
  rintro e w2 ⟨b, rfl, ok2, ch2⟩
  have hz2 := ch2.size
  replace hb0 := hb0.chg ch2 (.inr (by omega))
  have ch02 := ch01.trans ch2
  clear ch01 ch2 ok1
  cases b with
  | true =>
    go_wp2_with fail
    refine (l1PickInt_ok g A n c l _ 8 8 w2.heap.size (w2.heap.size + 1) [4, 7, 5, 8, 9, 9, 9, 9] _ (ok2.ext ((Ext.refl w2).alloc _)) (Fr.of_blk (Blk.new w2 _ _) (Nat.le_refl _) (Nat.lt_succ_self _) ?hx) (by have := ok2.lt; omega) rfl (by omega) (by omega)).mono ?_
    case hx =>
      intro j u hu
      (rcases j with _ | _ | _ | _ | _ | _ | _ | _ | j) <;> simp_all [ints]
    rintro e w3 ⟨v, _, rfl, ok3, ch3⟩
    have hz3 := ch3.size
    simp at hz3
    replace hb0 := (hb0.ext ((Ext.refl w2).alloc (.cells #[.int .i64 4, .int .i64 7, .int .i64 5, .int .i64 8, .int .i64 9, .int .i64 9, .int .i64 9, .int .i64 9] 3))).chg ch3 (.inr (by omega))
    have ch03 := (ch02.alloc (.cells #[.int .i64 4, .int .i64 7, .int .i64 5, .int .i64 8, .int .i64 9, .int .i64 9, .int .i64 9, .int .i64 9] 3)).trans ch3
    clear ch02 ch3 ok2
    generalize v = kd at *
    by_cases ha : arity kd ≤ 2
    · have hd : decide ((2 : Int) < arity kd) = false := by simp; omega
      go_wp2_with fail
      refine (spec_arity _ _).mono ?_
      rintro e w4 ⟨rfl, rfl⟩
      go_wp2_with fail
      refine (l9On_ok g A n c l kd 2 _ ok3 (by omega) (by omega) ha).mono ?_
      rintro e w4 ⟨k', x', y', z', rfl, ok4, ch4⟩
      replace hb0 := hb0.chg ch4 (.inr (by omega))
      obtain ⟨bc, bf, bz⟩ := hb0.all
      have ch04 := ch03.trans ch4
      clear ch03 ch4 ok3
      go_wp2
      exact bodyPost_ret (v := .agg #[.int .i64 k', .int .i64 x', .int .i64 y', .int .i64 z']) (by simp [results, Tryd.results45, go_sem, bc, bz]) rfl ⟨_, _, _, _, rfl, CurOk.new ok4 (lo := w.heap.size) (hi := w.heap.size + 1) (by repeat (first | (with_reducible exact Chg.refl _ _ _) | (with_reducible refine Chg.alloc ?_ _) | (with_reducible refine Chg.drew ?_) | (with_reducible refine Chg.drewN ?_ _) | (with_reducible refine Chg.setCell ?_ ?_ ?_ _; rotate_left; (first | exact Nat.le_refl _ | (simp; done) | (simp; omega)); (first | exact Nat.lt_succ_self _ | (simp; done) | (simp; omega))) | assumption)) hgw, ch04.new (l := w.heap.size) (h := w.heap.size + 1) (by repeat (first | (with_reducible exact Chg.refl _ _ _) | (with_reducible refine Chg.alloc ?_ _) | (with_reducible refine Chg.drew ?_) | (with_reducible refine Chg.drewN ?_ _) | (with_reducible refine Chg.setCell ?_ ?_ ?_ _; rotate_left; (first | exact Nat.le_refl _ | (simp; done) | (simp; omega)); (first | exact Nat.lt_succ_self _ | (simp; done) | (simp; omega))) | assumption)) (Nat.le_refl _)⟩
    · have hd : decide ((2 : Int) < arity kd) = true := by simp; omega
      go_wp2_with fail
      refine (spec_arity _ _).mono ?_
      rintro e w4 ⟨rfl, rfl⟩
      go_wp2_with fail
      refine (l9On_ok g A n c l 4 2 _ ok3 (by omega) (by omega) (by decide)).mono ?_
      rintro e w4 ⟨k', x', y', z', rfl, ok4, ch4⟩
      replace hb0 := hb0.chg ch4 (.inr (by omega))
      obtain ⟨bc, bf, bz⟩ := hb0.all
      have ch04 := ch03.trans ch4
      clear ch03 ch4 ok3
      go_wp2
      exact bodyPost_ret (v := .agg #[.int .i64 k', .int .i64 x', .int .i64 y', .int .i64 z']) (by simp [results, Tryd.results45, go_sem, bc, bz]) rfl ⟨_, _, _, _, rfl, CurOk.new ok4 (lo := w.heap.size) (hi := w.heap.size + 1) (by repeat (first | (with_reducible exact Chg.refl _ _ _) | (with_reducible refine Chg.alloc ?_ _) | (with_reducible refine Chg.drew ?_) | (with_reducible refine Chg.drewN ?_ _) | (with_reducible refine Chg.setCell ?_ ?_ ?_ _; rotate_left; (first | exact Nat.le_refl _ | (simp; done) | (simp; omega)); (first | exact Nat.lt_succ_self _ | (simp; done) | (simp; omega))) | assumption)) hgw, ch04.new (l := w.heap.size) (h := w.heap.size + 1) (by repeat (first | (with_reducible exact Chg.refl _ _ _) | (with_reducible refine Chg.alloc ?_ _) | (with_reducible refine Chg.drew ?_) | (with_reducible refine Chg.drewN ?_ _) | (with_reducible refine Chg.setCell ?_ ?_ ?_ _; rotate_left; (first | exact Nat.le_refl _ | (simp; done) | (simp; omega)); (first | exact Nat.lt_succ_self _ | (simp; done) | (simp; omega))) | assumption)) (Nat.le_refl _)⟩
  | false =>
    by_cases ha : arity (1 + (x : Int)) ≤ 2
    · have hd : decide ((2 : Int) < arity (1 + (x : Int))) = false := by simp; omega
      go_wp2_with fail
      refine (spec_arity _ _).mono ?_
      rintro e w4 ⟨rfl, rfl⟩
      go_wp2_with fail
      refine (l9On_ok g A n c l (1 + (x : Int)) 2 _ ok2 (by omega) (by omega) ha).mono ?_
      rintro e w4 ⟨k', x', y', z', rfl, ok4, ch4⟩
      replace hb0 := hb0.chg ch4 (.inr (by omega))
      obtain ⟨bc, bf, bz⟩ := hb0.all
      have ch04 := ch02.trans ch4
      clear ch02 ch4 ok2
      go_wp2
      exact bodyPost_ret (v := .agg #[.int .i64 k', .int .i64 x', .int .i64 y', .int .i64 z']) (by simp [results, Tryd.results45, go_sem, bc, bz]) rfl ⟨_, _, _, _, rfl, CurOk.new ok4 (lo := w.heap.size) (hi := w.heap.size + 1) (by repeat (first | (with_reducible exact Chg.refl _ _ _) | (with_reducible refine Chg.alloc ?_ _) | (with_reducible refine Chg.drew ?_) | (with_reducible refine Chg.drewN ?_ _) | (with_reducible refine Chg.setCell ?_ ?_ ?_ _; rotate_left; (first | exact Nat.le_refl _ | (simp; done) | (simp; omega)); (first | exact Nat.lt_succ_self _ | (simp; done) | (simp; omega))) | assumption)) hgw, ch04.new (l := w.heap.size) (h := w.heap.size + 1) (by repeat (first | (with_reducible exact Chg.refl _ _ _) | (with_reducible refine Chg.alloc ?_ _) | (with_reducible refine Chg.drew ?_) | (with_reducible refine Chg.drewN ?_ _) | (with_reducible refine Chg.setCell ?_ ?_ ?_ _; rotate_left; (first | exact Nat.le_refl _ | (simp; done) | (simp; omega)); (first | exact Nat.lt_succ_self _ | (simp; done) | (simp; omega))) | assumption)) (Nat.le_refl _)⟩
    · have hd : decide ((2 : Int) < arity (1 + (x : Int))) = true := by simp; omega
      go_wp2_with fail
      refine (spec_arity _ _).mono ?_
      rintro e w4 ⟨rfl, rfl⟩
      go_wp2_with fail
      refine (l9On_ok g A n c l 4 2 _ ok2 (by omega) (by omega) (by decide)).mono ?_
      rintro e w4 ⟨k', x', y', z', rfl, ok4, ch4⟩
      replace hb0 := hb0.chg ch4 (.inr (by omega))
      obtain ⟨bc, bf, bz⟩ := hb0.all
      have ch04 := ch02.trans ch4
      clear ch02 ch4 ok2
      go_wp2
      exact bodyPost_ret (v := .agg #[.int .i64 k', .int .i64 x', .int .i64 y', .int .i64 z']) (by simp [results, Tryd.results45, go_sem, bc, bz]) rfl ⟨_, _, _, _, rfl, CurOk.new ok4 (lo := w.heap.size) (hi := w.heap.size + 1) (by repeat (first | (with_reducible exact Chg.refl _ _ _) | (with_reducible refine Chg.alloc ?_ _) | (with_reducible refine Chg.drew ?_) | (with_reducible refine Chg.drewN ?_ _) | (with_reducible refine Chg.setCell ?_ ?_ ?_ _; rotate_left; (first | exact Nat.le_refl _ | (simp; done) | (simp; omega)); (first | exact Nat.lt_succ_self _ | (simp; done) | (simp; omega))) | assumption)) hgw, ch04.new (l := w.heap.size) (h := w.heap.size + 1) (by repeat (first | (with_reducible exact Chg.refl _ _ _) | (with_reducible refine Chg.alloc ?_ _) | (with_reducible refine Chg.drew ?_) | (with_reducible refine Chg.drewN ?_ _) | (with_reducible refine Chg.setCell ?_ ?_ ?_ _; rotate_left; (first | exact Nat.le_refl _ | (simp; done) | (simp; omega)); (first | exact Nat.lt_succ_self _ | (simp; done) | (simp; omega))) | assumption)) (Nat.le_refl _)⟩
set_option maxHeartbeats 800000 in
theorem l9Gate_ok3 (g : Nat) (A : Option Addr) (n c : Nat) (l : List Int) (w : World) (h : CurOk w g A n c l) :
    Calls Tryd.prog 45 #[.pointer (some ⟨g, 0, none⟩), .int .i64 3] w fun e w' => SomeGate w w' g A n c l e := by
  have hgw := h.lt
  have hb0 := (Blk.new w 23 #[.int .i64 0, .int .i64 0, .int .i64 0, .int .i64 0]).ext ((Ext.refl _).alloc (.cells #[.int .i64 0, .int .i64 8, .int .i64 11, .int .i64 12, .int .i64 12] 3))
  go_enter Tryd.func45, Tryd.ntmps45
  go_wp2_with fail
  refine (l1Below_ok g A n c l 12 _ (h.ext (((Ext.refl w).alloc _).alloc _)) (by omega)).mono ?_
  rintro e w1 ⟨x, hx, rfl, ok1, ch1⟩
  have hxq : x < 12 := by omega
  have hz1 := ch1.size
  simp at hz1
  replace hb0 := hb0.chg ch1 (.inr (by omega))
  have ch01 := (((Ext.refl w).alloc (.cells #[.int .i64 0, .int .i64 0, .int .i64 0, .int .i64 0] 23)).alloc (.cells #[.int .i64 0, .int .i64 8, .int .i64 11, .int .i64 12, .int .i64 12] 3)).chgs ch1
  clear hx ch1 h
  go_wp2_with fail
  refine (l1Once_ok g A n c l 2 _ ok1 (by omega)).mono ?_
  rintro e w2 ⟨b, rfl, ok2, ch2⟩
  have hz2 := ch2.size
  replace hb0 := hb0.chg ch2 (.inr (by omega))
  have ch02 := ch01.trans ch2
  clear ch01 ch2 ok1
  cases b with
  | true =>
    go_wp2_with fail
    refine (l1PickInt_ok g A n c l _ 8 8 w2.heap.size (w2.heap.size + 1) [4, 7, 5, 8, 9, 9, 9, 9] _ (ok2.ext ((Ext.refl w2).alloc _)) (Fr.of_blk (Blk.new w2 _ _) (Nat.le_refl _) (Nat.lt_succ_self _) ?hx) (by have := ok2.lt; omega) rfl (by omega) (by omega)).mono ?_
    case hx =>
      intro j u hu
      (rcases j with _ | _ | _ | _ | _ | _ | _ | _ | j) <;> simp_all [ints]
    rintro e w3 ⟨v, _, rfl, ok3, ch3⟩
    have hz3 := ch3.size
    simp at hz3
    replace hb0 := (hb0.ext ((Ext.refl w2).alloc (.cells #[.int .i64 4, .int .i64 7, .int .i64 5, .int .i64 8, .int .i64 9, .int .i64 9, .int .i64 9, .int .i64 9] 3))).chg ch3 (.inr (by omega))
    have ch03 := (ch02.alloc (.cells #[.int .i64 4, .int .i64 7, .int .i64 5, .int .i64 8, .int .i64 9, .int .i64 9, .int .i64 9, .int .i64 9] 3)).trans ch3
    clear ch02 ch3 ok2
    generalize v = kd at *
    by_cases ha : arity kd ≤ 3
    · have hd : decide ((3 : Int) < arity kd) = false := by simp; omega
      go_wp2_with fail
      refine (spec_arity _ _).mono ?_
      rintro e w4 ⟨rfl, rfl⟩
      go_wp2_with fail
      refine (l9On_ok g A n c l kd 3 _ ok3 (by omega) (by omega) ha).mono ?_
      rintro e w4 ⟨k', x', y', z', rfl, ok4, ch4⟩
      replace hb0 := hb0.chg ch4 (.inr (by omega))
      obtain ⟨bc, bf, bz⟩ := hb0.all
      have ch04 := ch03.trans ch4
      clear ch03 ch4 ok3
      go_wp2
      exact bodyPost_ret (v := .agg #[.int .i64 k', .int .i64 x', .int .i64 y', .int .i64 z']) (by simp [results, Tryd.results45, go_sem, bc, bz]) rfl ⟨_, _, _, _, rfl, CurOk.new ok4 (lo := w.heap.size) (hi := w.heap.size + 1) (by repeat (first | (with_reducible exact Chg.refl _ _ _) | (with_reducible refine Chg.alloc ?_ _) | (with_reducible refine Chg.drew ?_) | (with_reducible refine Chg.drewN ?_ _) | (with_reducible refine Chg.setCell ?_ ?_ ?_ _; rotate_left; (first | exact Nat.le_refl _ | (simp; done) | (simp; omega)); (first | exact Nat.lt_succ_self _ | (simp; done) | (simp; omega))) | assumption)) hgw, ch04.new (l := w.heap.size) (h := w.heap.size + 1) (by repeat (first | (with_reducible exact Chg.refl _ _ _) | (with_reducible refine Chg.alloc ?_ _) | (with_reducible refine Chg.drew ?_) | (with_reducible refine Chg.drewN ?_ _) | (with_reducible refine Chg.setCell ?_ ?_ ?_ _; rotate_left; (first | exact Nat.le_refl _ | (simp; done) | (simp; omega)); (first | exact Nat.lt_succ_self _ | (simp; done) | (simp; omega))) | assumption)) (Nat.le_refl _)⟩
    · have hd : decide ((3 : Int) < arity kd) = true := by simp; omega
      go_wp2_with fail
      refine (spec_arity _ _).mono ?_
      rintro e w4 ⟨rfl, rfl⟩
      go_wp2_with fail
      refine (l9On_ok g A n c l 4 3 _ ok3 (by omega) (by omega) (by decide)).mono ?_
      rintro e w4 ⟨k', x', y', z', rfl, ok4, ch4⟩
      replace hb0 := hb0.chg ch4 (.inr (by omega))
      obtain ⟨bc, bf, bz⟩ := hb0.all
      have ch04 := ch03.trans ch4
      clear ch03 ch4 ok3
      go_wp2
      exact bodyPost_ret (v := .agg #[.int .i64 k', .int .i64 x', .int .i64 y', .int .i64 z']) (by simp [results, Tryd.results45, go_sem, bc, bz]) rfl ⟨_, _, _, _, rfl, CurOk.new ok4 (lo := w.heap.size) (hi := w.heap.size + 1) (by repeat (first | (with_reducible exact Chg.refl _ _ _) | (with_reducible refine Chg.alloc ?_ _) | (with_reducible refine Chg.drew ?_) | (with_reducible refine Chg.drewN ?_ _) | (with_reducible refine Chg.setCell ?_ ?_ ?_ _; rotate_left; (first | exact Nat.le_refl _ | (simp; done) | (simp; omega)); (first | exact Nat.lt_succ_self _ | (simp; done) | (simp; omega))) | assumption)) hgw, ch04.new (l := w.heap.size) (h := w.heap.size + 1) (by repeat (first | (with_reducible exact Chg.refl _ _ _) | (with_reducible refine Chg.alloc ?_ _) | (with_reducible refine Chg.drew ?_) | (with_reducible refine Chg.drewN ?_ _) | (with_reducible refine Chg.setCell ?_ ?_ ?_ _; rotate_left; (first | exact Nat.le_refl _ | (simp; done) | (simp; omega)); (first | exact Nat.lt_succ_self _ | (simp; done) | (simp; omega))) | assumption)) (Nat.le_refl _)⟩
  | false =>
    by_cases ha : arity (1 + (x : Int)) ≤ 3
    · have hd : decide ((3 : Int) < arity (1 + (x : Int))) = false := by simp; omega
      go_wp2_with fail
      refine (spec_arity _ _).mono ?_
      rintro e w4 ⟨rfl, rfl⟩
      go_wp2_with fail
      refine (l9On_ok g A n c l (1 + (x : Int)) 3 _ ok2 (by omega) (by omega) ha).mono ?_
      rintro e w4 ⟨k', x', y', z', rfl, ok4, ch4⟩
      replace hb0 := hb0.chg ch4 (.inr (by omega))
      obtain ⟨bc, bf, bz⟩ := hb0.all
      have ch04 := ch02.trans ch4
      clear ch02 ch4 ok2
      go_wp2
      exact bodyPost_ret (v := .agg #[.int .i64 k', .int .i64 x', .int .i64 y', .int .i64 z']) (by simp [results, Tryd.results45, go_sem, bc, bz]) rfl ⟨_, _, _, _, rfl, CurOk.new ok4 (lo := w.heap.size) (hi := w.heap.size + 1) (by repeat (first | (with_reducible exact Chg.refl _ _ _) | (with_reducible refine Chg.alloc ?_ _) | (with_reducible refine Chg.drew ?_) | (with_reducible refine Chg.drewN ?_ _) | (with_reducible refine Chg.setCell ?_ ?_ ?_ _; rotate_left; (first | exact Nat.le_refl _ | (simp; done) | (simp; omega)); (first | exact Nat.lt_succ_self _ | (simp; done) | (simp; omega))) | assumption)) hgw, ch04.new (l := w.heap.size) (h := w.heap.size + 1) (by repeat (first | (with_reducible exact Chg.refl _ _ _) | (with_reducible refine Chg.alloc ?_ _) | (with_reducible refine Chg.drew ?_) | (with_reducible refine Chg.drewN ?_ _) | (with_reducible refine Chg.setCell ?_ ?_ ?_ _; rotate_left; (first | exact Nat.le_refl _ | (simp; done) | (simp; omega)); (first | exact Nat.lt_succ_self _ | (simp; done) | (simp; omega))) | assumption)) (Nat.le_refl _)⟩
    · have hd : decide ((3 : Int) < arity (1 + (x : Int))) = true := by simp; omega
      go_wp2_with fail
      refine (spec_arity _ _).mono ?_
      rintro e w4 ⟨rfl, rfl⟩
      go_wp2_with fail
      refine (l9On_ok g A n c l 4 3 _ ok2 (by omega) (by omega) (by decide)).mono ?_
      rintro e w4 ⟨k', x', y', z', rfl, ok4, ch4⟩
      replace hb0 := hb0.chg ch4 (.inr (by omega))
      obtain ⟨bc, bf, bz⟩ := hb0.all
      have ch04 := ch02.trans ch4
      clear ch02 ch4 ok2
      go_wp2
      exact bodyPost_ret (v := .agg #[.int .i64 k', .int .i64 x', .int .i64 y', .int .i64 z']) (by simp [results, Tryd.results45, go_sem, bc, bz]) rfl ⟨_, _, _, _, rfl, CurOk.new ok4 (lo := w.heap.size) (hi := w.heap.size + 1) (by repeat (first | (with_reducible exact Chg.refl _ _ _) | (with_reducible refine Chg.alloc ?_ _) | (with_reducible refine Chg.drew ?_) | (with_reducible refine Chg.drewN ?_ _) | (with_reducible refine Chg.setCell ?_ ?_ ?_ _; rotate_left; (first | exact Nat.le_refl _ | (simp; done) | (simp; omega)); (first | exact Nat.lt_succ_self _ | (simp; done) | (simp; omega))) | assumption)) hgw, ch04.new (l := w.heap.size) (h := w.heap.size + 1) (by repeat (first | (with_reducible exact Chg.refl _ _ _) | (with_reducible refine Chg.alloc ?_ _) | (with_reducible refine Chg.drew ?_) | (with_reducible refine Chg.drewN ?_ _) | (with_reducible refine Chg.setCell ?_ ?_ ?_ _; rotate_left; (first | exact Nat.le_refl _ | (simp; done) | (simp; omega)); (first | exact Nat.lt_succ_self _ | (simp; done) | (simp; omega))) | assumption)) (Nat.le_refl _)⟩
set_option maxHeartbeats 800000 in
theorem l9Gate_ok4 (g : Nat) (A : Option Addr) (n c : Nat) (l : List Int) (w : World) (h : CurOk w g A n c l) :
    Calls Tryd.prog 45 #[.pointer (some ⟨g, 0, none⟩), .int .i64 4] w fun e w' => SomeGate w w' g A n c l e := by
  have hgw := h.lt
  have hb0 := (Blk.new w 23 #[.int .i64 0, .int .i64 0, .int .i64 0, .int .i64 0]).ext ((Ext.refl _).alloc (.cells #[.int .i64 0, .int .i64 8, .int .i64 11, .int .i64 12, .int .i64 12] 3))
  go_enter Tryd.func45, Tryd.ntmps45
  go_wp2_with fail
  refine (l1Below_ok g A n c l 12 _ (h.ext (((Ext.refl w).alloc _).alloc _)) (by omega)).mono ?_
  rintro e w1 ⟨x, hx, rfl, ok1, ch1⟩
  have hxq : x < 12 := by omega
  have hz1 := ch1.size
  simp at hz1
  replace hb0 := hb0.chg ch1 (.inr (by omega))
  have ch01 := (((Ext.refl w).alloc (.cells #[.int .i64 0, .int .i64 0, .int .i64 0, .int .i64 0] 23)).alloc (.cells #[.int .i64 0, .int .i64 8, .int .i64 11, .int .i64 12, .int .i64 12] 3)).chgs ch1
  clear hx ch1 h
  go_wp2_with fail
  refine (l1Once_ok g A n c l 2 _ ok1 (by omega)).mono ?_
  rintro e w2 ⟨b, rfl, ok2, ch2⟩
  have hz2 := ch2.size
  replace hb0 := hb0.chg ch2 (.inr (by omega))
  have ch02 := ch01.trans ch2
  clear ch01 ch2 ok1
  cases b with
  | true =>
    go_wp2_with fail
    refine (l1PickInt_ok g A n c l _ 8 8 w2.heap.size (w2.heap.size + 1) [4, 7, 5, 8, 9, 9, 9, 9] _ (ok2.ext ((Ext.refl w2).alloc _)) (Fr.of_blk (Blk.new w2 _ _) (Nat.le_refl _) (Nat.lt_succ_self _) ?hx) (by have := ok2.lt; omega) rfl (by omega) (by omega)).mono ?_
    case hx =>
      intro j u hu
      (rcases j with _ | _ | _ | _ | _ | _ | _ | _ | j) <;> simp_all [ints]
    rintro e w3 ⟨v, _, rfl, ok3, ch3⟩
    have hz3 := ch3.size
    simp at hz3
    replace hb0 := (hb0.ext ((Ext.refl w2).alloc (.cells #[.int .i64 4, .int .i64 7, .int .i64 5, .int .i64 8, .int .i64 9, .int .i64 9, .int .i64 9, .int .i64 9] 3))).chg ch3 (.inr (by omega))
    have ch03 := (ch02.alloc (.cells #[.int .i64 4, .int .i64 7, .int .i64 5, .int .i64 8, .int .i64 9, .int .i64 9, .int .i64 9, .int .i64 9] 3)).trans ch3
    clear ch02 ch3 ok2
    generalize v = kd at *
    by_cases ha : arity kd ≤ 4
    · have hd : decide ((4 : Int) < arity kd) = false := by simp; omega
      go_wp2_with fail
      refine (spec_arity _ _).mono ?_
      rintro e w4 ⟨rfl, rfl⟩
      go_wp2_with fail
      refine (l9On_ok g A n c l kd 4 _ ok3 (by omega) (by omega) ha).mono ?_
      rintro e w4 ⟨k', x', y', z', rfl, ok4, ch4⟩
      replace hb0 := hb0.chg ch4 (.inr (by omega))
      obtain ⟨bc, bf, bz⟩ := hb0.all
      have ch04 := ch03.trans ch4
      clear ch03 ch4 ok3
      go_wp2
      exact bodyPost_ret (v := .agg #[.int .i64 k', .int .i64 x', .int .i64 y', .int .i64 z']) (by simp [results, Tryd.results45, go_sem, bc, bz]) rfl ⟨_, _, _, _, rfl, CurOk.new ok4 (lo := w.heap.size) (hi := w.heap.size + 1) (by repeat (first | (with_reducible exact Chg.refl _ _ _) | (with_reducible refine Chg.alloc ?_ _) | (with_reducible refine Chg.drew ?_) | (with_reducible refine Chg.drewN ?_ _) | (with_reducible refine Chg.setCell ?_ ?_ ?_ _; rotate_left; (first | exact Nat.le_refl _ | (simp; done) | (simp; omega)); (first | exact Nat.lt_succ_self _ | (simp; done) | (simp; omega))) | assumption)) hgw, ch04.new (l := w.heap.size) (h := w.heap.size + 1) (by repeat (first | (with_reducible exact Chg.refl _ _ _) | (with_reducible refine Chg.alloc ?_ _) | (with_reducible refine Chg.drew ?_) | (with_reducible refine Chg.drewN ?_ _) | (with_reducible refine Chg.setCell ?_ ?_ ?_ _; rotate_left; (first | exact Nat.le_refl _ | (simp; done) | (simp; omega)); (first | exact Nat.lt_succ_self _ | (simp; done) | (simp; omega))) | assumption)) (Nat.le_refl _)⟩
    · have hd : decide ((4 : Int) < arity kd) = true := by simp; omega
      go_wp2_with fail
      refine (spec_arity _ _).mono ?_
      rintro e w4 ⟨rfl, rfl⟩
      go_wp2_with fail
      refine (l9On_ok g A n c l 4 4 _ ok3 (by omega) (by omega) (by decide)).mono ?_
      rintro e w4 ⟨k', x', y', z', rfl, ok4, ch4⟩
      replace hb0 := hb0.chg ch4 (.inr (by omega))
      obtain ⟨bc, bf, bz⟩ := hb0.all
      have ch04 := ch03.trans ch4
      clear ch03 ch4 ok3
      go_wp2
      exact bodyPost_ret (v := .agg #[.int .i64 k', .int .i64 x', .int .i64 y', .int .i64 z']) (by simp [results, Tryd.results45, go_sem, bc, bz]) rfl ⟨_, _, _, _, rfl, CurOk.new ok4 (lo := w.heap.size) (hi := w.heap.size + 1) (by repeat (first | (with_reducible exact Chg.refl _ _ _) | (with_reducible refine Chg.alloc ?_ _) | (with_reducible refine Chg.drew ?_) | (with_reducible refine Chg.drewN ?_ _) | (with_reducible refine Chg.setCell ?_ ?_ ?_ _; rotate_left; (first | exact Nat.le_refl _ | (simp; done) | (simp; omega)); (first | exact Nat.lt_succ_self _ | (simp; done) | (simp; omega))) | assumption)) hgw, ch04.new (l := w.heap.size) (h := w.heap.size + 1) (by repeat (first | (with_reducible exact Chg.refl _ _ _) | (with_reducible refine Chg.alloc ?_ _) | (with_reducible refine Chg.drew ?_) | (with_reducible refine Chg.drewN ?_ _) | (with_reducible refine Chg.setCell ?_ ?_ ?_ _; rotate_left; (first | exact Nat.le_refl _ | (simp; done) | (simp; omega)); (first | exact Nat.lt_succ_self _ | (simp; done) | (simp; omega))) | assumption)) (Nat.le_refl _)⟩
  | false =>
    by_cases ha : arity (1 + (x : Int)) ≤ 4
    · have hd : decide ((4 : Int) < arity (1 + (x : Int))) = false := by simp; omega
      go_wp2_with fail
      refine (spec_arity _ _).mono ?_
      rintro e w4 ⟨rfl, rfl⟩
      go_wp2_with fail
      refine (l9On_ok g A n c l (1 + (x : Int)) 4 _ ok2 (by omega) (by omega) ha).mono ?_
      rintro e w4 ⟨k', x', y', z', rfl, ok4, ch4⟩
      replace hb0 := hb0.chg ch4 (.inr (by omega))
      obtain ⟨bc, bf, bz⟩ := hb0.all
      have ch04 := ch02.trans ch4
      clear ch02 ch4 ok2
      go_wp2
      exact bodyPost_ret (v := .agg #[.int .i64 k', .int .i64 x', .int .i64 y', .int .i64 z']) (by simp [results, Tryd.results45, go_sem, bc, bz]) rfl ⟨_, _, _, _, rfl, CurOk.new ok4 (lo := w.heap.size) (hi := w.heap.size + 1) (by repeat (first | (with_reducible exact Chg.refl _ _ _) | (with_reducible refine Chg.alloc ?_ _) | (with_reducible refine Chg.drew ?_) | (with_reducible refine Chg.drewN ?_ _) | (with_reducible refine Chg.setCell ?_ ?_ ?_ _; rotate_left; (first | exact Nat.le_refl _ | (simp; done) | (simp; omega)); (first | exact Nat.lt_succ_self _ | (simp; done) | (simp; omega))) | assumption)) hgw, ch04.new (l := w.heap.size) (h := w.heap.size + 1) (by repeat (first | (with_reducible exact Chg.refl _ _ _) | (with_reducible refine Chg.alloc ?_ _) | (with_reducible refine Chg.drew ?_) | (with_reducible refine Chg.drewN ?_ _) | (with_reducible refine Chg.setCell ?_ ?_ ?_ _; rotate_left; (first | exact Nat.le_refl _ | (simp; done) | (simp; omega)); (first | exact Nat.lt_succ_self _ | (simp; done) | (simp; omega))) | assumption)) (Nat.le_refl _)⟩
    · have hd : decide ((4 : Int) < arity (1 + (x : Int))) = true := by simp; omega
      go_wp2_with fail
      refine (spec_arity _ _).mono ?_
      rintro e w4 ⟨rfl, rfl⟩
      go_wp2_with fail
      refine (l9On_ok g A n c l 4 4 _ ok2 (by omega) (by omega) (by decide)).mono ?_
      rintro e w4 ⟨k', x', y', z', rfl, ok4, ch4⟩
      replace hb0 := hb0.chg ch4 (.inr (by omega))
      obtain ⟨bc, bf, bz⟩ := hb0.all
      have ch04 := ch02.trans ch4
      clear ch02 ch4 ok2
      go_wp2
      exact bodyPost_ret (v := .agg #[.int .i64 k', .int .i64 x', .int .i64 y', .int .i64 z']) (by simp [results, Tryd.results45, go_sem, bc, bz]) rfl ⟨_, _, _, _, rfl, CurOk.new ok4 (lo := w.heap.size) (hi := w.heap.size + 1) (by repeat (first | (with_reducible exact Chg.refl _ _ _) | (with_reducible refine Chg.alloc ?_ _) | (with_reducible refine Chg.drew ?_) | (with_reducible refine Chg.drewN ?_ _) | (with_reducible refine Chg.setCell ?_ ?_ ?_ _; rotate_left; (first | exact Nat.le_refl _ | (simp; done) | (simp; omega)); (first | exact Nat.lt_succ_self _ | (simp; done) | (simp; omega))) | assumption)) hgw, ch04.new (l := w.heap.size) (h := w.heap.size + 1) (by repeat (first | (with_reducible exact Chg.refl _ _ _) | (with_reducible refine Chg.alloc ?_ _) | (with_reducible refine Chg.drew ?_) | (with_reducible refine Chg.drewN ?_ _) | (with_reducible refine Chg.setCell ?_ ?_ ?_ _; rotate_left; (first | exact Nat.le_refl _ | (simp; done) | (simp; omega)); (first | exact Nat.lt_succ_self _ | (simp; done) | (simp; omega))) | assumption)) (Nat.le_refl _)⟩
theorem l9Gate_ok (g : Nat) (A : Option Addr) (n c : Nat) (l : List Int) (m : Nat) (w : World) (h : CurOk w g A n c l) (h1 : 1 ≤ m) (h4 : m ≤ 4) :
    Calls Tryd.prog 45 #[.pointer (some ⟨g, 0, none⟩), .int .i64 m] w fun e w' => SomeGate w w' g A n c l e := by
  obtain rfl | rfl | rfl | rfl : m = 1 ∨ m = 2 ∨ m = 3 ∨ m = 4 := by omega
  · exact l9Gate_ok1 g A n c l w h
  · exact l9Gate_ok2 g A n c l w h
  · exact l9Gate_ok3 g A n c l w h
  · exact l9Gate_ok4 g A n c l w h
end Go.Proofs.YtkhgkaiadfebmaaDoor
