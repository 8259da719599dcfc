/-
  Contracts of l9Bent and DrawIsValidGate: some gate, some number. Conditions: the code is at most 2^20 bytes.
-/
import Derived.Test.YtmalnnddpoefmaaDraw4
set_option linter.unusedSimpArgs false
set_option linter.unusedVariables false
namespace Go.Proofs.Ytmalnnddpoefmaa
open Go.RowKit
set_option maxHeartbeats 1600000 in
theorem l9Bent_ok (g : Nat) (A : Option Addr) (n c : Nat) (l : List Int) (m : Nat) (w : World) (h : CurOk w g A n c l) (h1 : 1 ≤ m) (h4 : m ≤ 4) :
    Calls Try.prog 16 #[.pointer (some ⟨g, 0, none⟩), .int .i64 m] w fun e w' => SomeGate w w' g A n c l e := by
  have hgw := h.lt
  have hb0 := Blk.new w 25 #[.int .i64 0, .int .i64 0, .int .i64 0, .int .i64 0]
  go_enter Try.func16, Try.ntmps16
  go_wp2_with fail
  refine (l9Gate_ok g A n c l m _ (h.ext ((Ext.refl w).alloc _)) h1 h4).mono ?_
  rintro e w1 ⟨k, x, y, z, rfl, ok1, ch1⟩
  have hz1 := ch1.size
  simp only [World.size_alloc] at hz1
  replace hb0 := (hb0.chg ch1 (.inr (by omega))).ext ((Ext.refl w1).alloc (.cells #[.int .i64 k, .int .i64 x, .int .i64 y, .int .i64 z] 25))
  have hb1 := Blk.new w1 25 #[.int .i64 k, .int .i64 x, .int .i64 y, .int .i64 z]
  have ch01 := (((Ext.refl w).alloc (.cells #[.int .i64 0, .int .i64 0, .int .i64 0, .int .i64 0] 25)).chgs ch1).alloc (.cells #[.int .i64 k, .int .i64 x, .int .i64 y, .int .i64 z] 25)
  have ok1' := ok1.ext ((Ext.refl w1).alloc (.cells #[.int .i64 k, .int .i64 x, .int .i64 y, .int .i64 z] 25))
  have hg1 := ok1.lt
  clear ch1 h ok1
  go_wp2_with fail
  refine (l1Below_ok g A n c l 10 _ ok1' (by omega)).mono ?_
  rintro e w2 ⟨q, hq, rfl, ok2, ch2⟩
  have hz2 := ch2.size
  simp only [World.size_alloc] at hz2
  replace hb0 := hb0.chg ch2 (.inr (by omega))
  replace hb1 := hb1.chg ch2 (.inr (by omega))
  have ch02 := ch01.trans ch2
  obtain ⟨bc, bf, bz⟩ := hb0.all
  obtain ⟨ec, ef, ez⟩ := hb1.all
  clear ch2 ch01 ok1' hq
  have hne : w.heap.size ≠ w1.heap.size := by omega
  by_cases q0 : q = 0
  · subst q0
    go_wp2_with fail
    refine (l1Below_ok g A n c l 15 _ ok2 (by omega)).mono ?_
    rintro e w3 ⟨v, hv, rfl, ok3, ch3⟩
    have hz3 := ch3.size
    replace hb0 := hb0.chg ch3 (.inr (by omega))
    replace hb1 := hb1.chg ch3 (.inr (by omega))
    have ch03 := ch02.trans ch3
    have hv15 : v < 15 := by omega
    clear bc bf bz ec ef ez ch3 ch02 ok2 hv
    obtain ⟨bc, bf, bz⟩ := hb0.all
    obtain ⟨ec, ef, ez⟩ := hb1.all
    go_wp2
    exact bodyPost_ret (v := .agg #[.int .i64 ((v : Int) - 1), .int .i64 x, .int .i64 y, .int .i64 z]) (by simp [results, Try.results16, go_sem, bc, bz, hne]) rfl ⟨_, _, _, _, rfl, CurOk.new ok3 (lo := w.heap.size) (hi := w1.heap.size + 1) (by repeat (first | (with_reducible exact Chg.refl _ _ _) | (with_reducible refine Chg.alloc ?_ _) | (with_reducible refine Chg.drew ?_) | (with_reducible refine Chg.drewN ?_ _) | (with_reducible refine Chg.setCell ?_ ?_ ?_ _; rotate_left; (first | exact Nat.le_refl _ | (simp; done) | (simp; omega)); (first | exact Nat.lt_succ_self _ | (simp; done) | (simp; omega))) | assumption)) hgw, ch03.new (l := w.heap.size) (h := w1.heap.size + 1) (by repeat (first | (with_reducible exact Chg.refl _ _ _) | (with_reducible refine Chg.alloc ?_ _) | (with_reducible refine Chg.drew ?_) | (with_reducible refine Chg.drewN ?_ _) | (with_reducible refine Chg.setCell ?_ ?_ ?_ _; rotate_left; (first | exact Nat.le_refl _ | (simp; done) | (simp; omega)); (first | exact Nat.lt_succ_self _ | (simp; done) | (simp; omega))) | assumption)) (Nat.le_refl _)⟩
  · have n0 : ((q : Int) == 0) = false := by simp; omega
    by_cases q1 : q = 1
    · subst q1
      go_wp2_with fail
      refine (l1PickInt_ok g A n c l _ 4 4 w2.heap.size (w2.heap.size + 1) [0, (m : Int), -1, y] _ (ok2.ext ((Ext.refl w2).alloc _)) (Fr.of_blk (Blk.new w2 _ _) (Nat.le_refl _) (Nat.lt_succ_self _) ?hx) (by have := ok2.lt; omega) rfl (by omega) (by omega)).mono ?_
      case hx =>
        intro j u hu
        (rcases j with _ | _ | _ | _ | j) <;> simp_all [ints]
      rintro e w3 ⟨v, _, rfl, ok3, ch3⟩
      have hz3 := ch3.size
      simp only [World.size_alloc] at hz3
      replace hb0 := (hb0.ext ((Ext.refl w2).alloc (.cells #[.int .i64 0, .int .i64 ((m : Int)), .int .i64 (-1), .int .i64 y] 3))).chg ch3 (.inr (by omega))
      replace hb1 := (hb1.ext ((Ext.refl w2).alloc (.cells #[.int .i64 0, .int .i64 ((m : Int)), .int .i64 (-1), .int .i64 y] 3))).chg ch3 (.inr (by omega))
      have ch03 := (ch02.alloc (.cells #[.int .i64 0, .int .i64 ((m : Int)), .int .i64 (-1), .int .i64 y] 3)).trans ch3
      clear bc bf bz ec ef ez ch3 ch02 ok2
      obtain ⟨bc, bf, bz⟩ := hb0.all
      obtain ⟨ec, ef, ez⟩ := hb1.all
      go_wp2
      exact bodyPost_ret (v := .agg #[.int .i64 k, .int .i64 v, .int .i64 y, .int .i64 z]) (by simp [results, Try.results16, go_sem, bc, bz, hne]) rfl ⟨_, _, _, _, rfl, CurOk.new ok3 (lo := w.heap.size) (hi := w1.heap.size + 1) (by repeat (first | (with_reducible exact Chg.refl _ _ _) | (with_reducible refine Chg.alloc ?_ _) | (with_reducible refine Chg.drew ?_) | (with_reducible refine Chg.drewN ?_ _) | (with_reducible refine Chg.setCell ?_ ?_ ?_ _; rotate_left; (first | exact Nat.le_refl _ | (simp; done) | (simp; omega)); (first | exact Nat.lt_succ_self _ | (simp; done) | (simp; omega))) | assumption)) hgw, ch03.new (l := w.heap.size) (h := w1.heap.size + 1) (by repeat (first | (with_reducible exact Chg.refl _ _ _) | (with_reducible refine Chg.alloc ?_ _) | (with_reducible refine Chg.drew ?_) | (with_reducible refine Chg.drewN ?_ _) | (with_reducible refine Chg.setCell ?_ ?_ ?_ _; rotate_left; (first | exact Nat.le_refl _ | (simp; done) | (simp; omega)); (first | exact Nat.lt_succ_self _ | (simp; done) | (simp; omega))) | assumption)) (Nat.le_refl _)⟩
    · have n1 : ((q : Int) == 1) = false := by simp; omega
      by_cases q2 : q = 2
      · subst q2
        go_wp2_with fail
        refine (l1PickInt_ok g A n c l _ 4 4 w2.heap.size (w2.heap.size + 1) [0, (m : Int), -1, x] _ (ok2.ext ((Ext.refl w2).alloc _)) (Fr.of_blk (Blk.new w2 _ _) (Nat.le_refl _) (Nat.lt_succ_self _) ?hx) (by have := ok2.lt; omega) rfl (by omega) (by omega)).mono ?_
        case hx =>
          intro j u hu
          (rcases j with _ | _ | _ | _ | j) <;> simp_all [ints]
        rintro e w3 ⟨v, _, rfl, ok3, ch3⟩
        have hz3 := ch3.size
        simp only [World.size_alloc] at hz3
        replace hb0 := (hb0.ext ((Ext.refl w2).alloc (.cells #[.int .i64 0, .int .i64 ((m : Int)), .int .i64 (-1), .int .i64 x] 3))).chg ch3 (.inr (by omega))
        replace hb1 := (hb1.ext ((Ext.refl w2).alloc (.cells #[.int .i64 0, .int .i64 ((m : Int)), .int .i64 (-1), .int .i64 x] 3))).chg ch3 (.inr (by omega))
        have ch03 := (ch02.alloc (.cells #[.int .i64 0, .int .i64 ((m : Int)), .int .i64 (-1), .int .i64 x] 3)).trans ch3
        clear bc bf bz ec ef ez ch3 ch02 ok2
        obtain ⟨bc, bf, bz⟩ := hb0.all
        obtain ⟨ec, ef, ez⟩ := hb1.all
        go_wp2
        exact bodyPost_ret (v := .agg #[.int .i64 k, .int .i64 x, .int .i64 v, .int .i64 z]) (by simp [results, Try.results16, go_sem, bc, bz, hne]) rfl ⟨_, _, _, _, rfl, CurOk.new ok3 (lo := w.heap.size) (hi := w1.heap.size + 1) (by repeat (first | (with_reducible exact Chg.refl _ _ _) | (with_reducible refine Chg.alloc ?_ _) | (with_reducible refine Chg.drew ?_) | (with_reducible refine Chg.drewN ?_ _) | (with_reducible refine Chg.setCell ?_ ?_ ?_ _; rotate_left; (first | exact Nat.le_refl _ | (simp; done) | (simp; omega)); (first | exact Nat.lt_succ_self _ | (simp; done) | (simp; omega))) | assumption)) hgw, ch03.new (l := w.heap.size) (h := w1.heap.size + 1) (by repeat (first | (with_reducible exact Chg.refl _ _ _) | (with_reducible refine Chg.alloc ?_ _) | (with_reducible refine Chg.drew ?_) | (with_reducible refine Chg.drewN ?_ _) | (with_reducible refine Chg.setCell ?_ ?_ ?_ _; rotate_left; (first | exact Nat.le_refl _ | (simp; done) | (simp; omega)); (first | exact Nat.lt_succ_self _ | (simp; done) | (simp; omega))) | assumption)) (Nat.le_refl _)⟩
      · have n2 : ((q : Int) == 2) = false := by simp; omega
        by_cases q3 : q = 3
        · subst q3
          go_wp2_with fail
          refine (l1PickInt_ok g A n c l _ 4 4 w2.heap.size (w2.heap.size + 1) [0, 1, (m : Int), -1] _ (ok2.ext ((Ext.refl w2).alloc _)) (Fr.of_blk (Blk.new w2 _ _) (Nat.le_refl _) (Nat.lt_succ_self _) ?hx) (by have := ok2.lt; omega) rfl (by omega) (by omega)).mono ?_
          case hx =>
            intro j u hu
            (rcases j with _ | _ | _ | _ | j) <;> simp_all [ints]
          rintro e w3 ⟨v, _, rfl, ok3, ch3⟩
          have hz3 := ch3.size
          simp only [World.size_alloc] at hz3
          replace hb0 := (hb0.ext ((Ext.refl w2).alloc (.cells #[.int .i64 0, .int .i64 1, .int .i64 ((m : Int)), .int .i64 (-1)] 3))).chg ch3 (.inr (by omega))
          replace hb1 := (hb1.ext ((Ext.refl w2).alloc (.cells #[.int .i64 0, .int .i64 1, .int .i64 ((m : Int)), .int .i64 (-1)] 3))).chg ch3 (.inr (by omega))
          have ch03 := (ch02.alloc (.cells #[.int .i64 0, .int .i64 1, .int .i64 ((m : Int)), .int .i64 (-1)] 3)).trans ch3
          clear bc bf bz ec ef ez ch3 ch02 ok2
          obtain ⟨bc, bf, bz⟩ := hb0.all
          obtain ⟨ec, ef, ez⟩ := hb1.all
          go_wp2
          exact bodyPost_ret (v := .agg #[.int .i64 k, .int .i64 x, .int .i64 y, .int .i64 v]) (by simp [results, Try.results16, go_sem, bc, bz, hne]) rfl ⟨_, _, _, _, rfl, CurOk.new ok3 (lo := w.heap.size) (hi := w1.heap.size + 1) (by repeat (first | (with_reducible exact Chg.refl _ _ _) | (with_reducible refine Chg.alloc ?_ _) | (with_reducible refine Chg.drew ?_) | (with_reducible refine Chg.drewN ?_ _) | (with_reducible refine Chg.setCell ?_ ?_ ?_ _; rotate_left; (first | exact Nat.le_refl _ | (simp; done) | (simp; omega)); (first | exact Nat.lt_succ_self _ | (simp; done) | (simp; omega))) | assumption)) hgw, ch03.new (l := w.heap.size) (h := w1.heap.size + 1) (by repeat (first | (with_reducible exact Chg.refl _ _ _) | (with_reducible refine Chg.alloc ?_ _) | (with_reducible refine Chg.drew ?_) | (with_reducible refine Chg.drewN ?_ _) | (with_reducible refine Chg.setCell ?_ ?_ ?_ _; rotate_left; (first | exact Nat.le_refl _ | (simp; done) | (simp; omega)); (first | exact Nat.lt_succ_self _ | (simp; done) | (simp; omega))) | assumption)) (Nat.le_refl _)⟩
        · have n3 : ((q : Int) == 3) = false := by simp; omega
          go_wp2
          exact bodyPost_ret (v := .agg #[.int .i64 k, .int .i64 x, .int .i64 y, .int .i64 z]) (by simp [results, Try.results16, go_sem, bc, bz, hne]) rfl ⟨_, _, _, _, rfl, CurOk.new ok2 (lo := w.heap.size) (hi := w1.heap.size + 1) (by repeat (first | (with_reducible exact Chg.refl _ _ _) | (with_reducible refine Chg.alloc ?_ _) | (with_reducible refine Chg.drew ?_) | (with_reducible refine Chg.drewN ?_ _) | (with_reducible refine Chg.setCell ?_ ?_ ?_ _; rotate_left; (first | exact Nat.le_refl _ | (simp; done) | (simp; omega)); (first | exact Nat.lt_succ_self _ | (simp; done) | (simp; omega))) | assumption)) hgw, ch02.new (l := w.heap.size) (h := w1.heap.size + 1) (by repeat (first | (with_reducible exact Chg.refl _ _ _) | (with_reducible refine Chg.alloc ?_ _) | (with_reducible refine Chg.drew ?_) | (with_reducible refine Chg.drewN ?_ _) | (with_reducible refine Chg.setCell ?_ ?_ ?_ _; rotate_left; (first | exact Nat.le_refl _ | (simp; done) | (simp; omega)); (first | exact Nat.lt_succ_self _ | (simp; done) | (simp; omega))) | assumption)) (Nat.le_refl _)⟩
theorem rd_below {w : World} {A : Option Addr} {l : List Int} (hA : Rd w A (bys l)) : ∀ a, A = some a → l ≠ [] → a.block < w.heap.size := by
  intro a ha hne
  obtain ⟨g, off, e, hc⟩ := hA.bys_ (by cases l; exact absurd rfl hne; simp)
  have := lt_of_cell (hc 0 (by cases l; exact absurd rfl hne; simp))
  rw [ha] at e
  injection e with e
  rw [e]; exact this
set_option maxHeartbeats 800000 in
theorem drawValidGate_ok (A : Option Addr) (n c : Nat) (l : List Int) (w : World) (hA : Rd w A (bys l)) (hl : l.length = n) (hn : n ≤ 1048576) :
    Calls Try.prog 5 #[.slice A n c] w fun e w' => ∃ k x y z m : Int, e = .returned (.tuple #[.agg #[.int .i64 k, .int .i64 x, .int .i64 y, .int .i64 z], .int .i64 m]) ∧ Ext w w' := by
  have hAw := rd_below hA
  have hb0 := Blk.new w 25 #[.int .i64 0, .int .i64 0, .int .i64 0, .int .i64 0]
  go_enter Try.func5, Try.ntmps5
  go_wp2_with fail
  refine (l1New_any A n c l _ (hA.ext (by repeat (first | exact Ext.refl _ | assumption | refine Ext.alloc ?_ _ | refine Ext.drew ?_ | refine Ext.drewN ?_ _ | refine Ext.trans ?_ (by assumption)))) hl hn).mono ?_
  rintro e w1 ⟨g, rfl, hg, hcur, h1⟩
  simp only [World.size_alloc] at hg
  have h01 : Ext w w1 := (by repeat (first | exact Ext.refl _ | assumption | refine Ext.alloc ?_ _ | refine Ext.drew ?_ | refine Ext.drewN ?_ _ | refine Ext.trans ?_ (by assumption)))
  have ok : CurOk w1 g A n c l := ⟨hA.ext h01, hl, hn, hcur, fun hne a ha => Nat.lt_of_lt_of_le (hAw a ha hne) (by omega)⟩
  replace hb0 := hb0.ext h1
  have z1 := h1.size
  simp only [World.size_alloc] at z1
  have hgw : g < w1.heap.size := ok.lt
  clear hcur hAw hA hl h1
  go_wp2_with fail
  refine (l1Below_ok g A n c l 4 _ ok (by omega)).mono ?_
  rintro e w2 ⟨x, hx, rfl, ok2, ch2⟩
  have hx4 : x < 4 := by omega
  have z2 := ch2.size
  have ch02 := h01.chg ch2 (by omega)
  replace hb0 := hb0.chg ch2 (.inl (by omega))
  clear hx ok ch2
  go_wp2_with fail
  rw [show (1 : Int) + (x : Int) = ((x + 1 : Nat) : Int) from by omega]
  refine (l9Bent_ok g A n c l (x + 1) _ ok2 (by omega) (by omega)).mono ?_
  rintro e w3 ⟨k', x', y', z', rfl, ok3, ch3⟩
  have z3 := ch3.size
  have ch03 := (ch02.chg ch3 (by omega)).alloc (.cells #[.int .i64 k', .int .i64 x', .int .i64 y', .int .i64 z'] 25)
  replace hb0 := (hb0.chg ch3 (.inl (by omega))).ext ((Ext.refl w3).alloc (.cells #[.int .i64 k', .int .i64 x', .int .i64 y', .int .i64 z'] 25))
  have hb1 := Blk.new w3 25 #[.int .i64 k', .int .i64 x', .int .i64 y', .int .i64 z']
  have hg3 := ok3.lt
  clear ch3 ok2 ch02
  go_wp2_with fail
  refine (l1Once_ok g A n c l 8 _ (ok3.ext ((Ext.refl w3).alloc _)) (by omega)).mono ?_
  rintro e w4 ⟨b, rfl, ok4, ch4⟩
  have z4 := ch4.size
  simp only [World.size_alloc] at z4
  have ch04 := ch03.chg ch4 (by omega)
  replace hb0 := hb0.chg ch4 (.inl (by omega))
  replace hb1 := hb1.chg ch4 (.inr (by omega))
  clear ch4 ch03 ok3
  have hne : w.heap.size ≠ w3.heap.size := by omega
  cases b with
  | true =>
    go_wp2_with fail
    refine (l1PickInt_ok g A n c l _ 3 3 w4.heap.size (w4.heap.size + 1) [0, 5, -1] _ (ok4.ext ((Ext.refl w4).alloc _)) (Fr.of_blk (Blk.new w4 _ _) (Nat.le_refl _) (Nat.lt_succ_self _) ?hx) (by have := ok4.lt; omega) rfl (by omega) (by omega)).mono ?_
    case hx =>
      intro j u hu
      (rcases j with _ | _ | _ | j) <;> simp_all [ints]
    rintro e w5 ⟨v, _, rfl, ok5, ch5⟩
    have z5 := ch5.size
    simp only [World.size_alloc] at z5
    have ch05 := (ch04.alloc (.cells #[.int .i64 0, .int .i64 5, .int .i64 (-1)] 3)).chg ch5 (by omega)
    replace hb0 := (hb0.ext ((Ext.refl w4).alloc (.cells #[.int .i64 0, .int .i64 5, .int .i64 (-1)] 3))).chg ch5 (.inl (by omega))
    replace hb1 := (hb1.ext ((Ext.refl w4).alloc (.cells #[.int .i64 0, .int .i64 5, .int .i64 (-1)] 3))).chg ch5 (.inr (by omega))
    obtain ⟨bc, bf, bz⟩ := hb0.all
    obtain ⟨ec, ef, ez⟩ := hb1.all
    clear ch5 ch04 ok4
    go_wp2
    exact bodyPost_ret (v := .tuple #[.agg #[.int .i64 k', .int .i64 x', .int .i64 y', .int .i64 z'], .int .i64 v]) (by simp [results, Try.results5, go_sem, bc, bz, hne]) rfl ⟨_, _, _, _, _, rfl, (((ch05.setCell (Nat.le_refl _) _).setCell (Nat.le_refl _) _).setCell (Nat.le_refl _) _).setCell (Nat.le_refl _) _⟩
  | false =>
    obtain ⟨bc, bf, bz⟩ := hb0.all
    obtain ⟨ec, ef, ez⟩ := hb1.all
    go_wp2
    exact bodyPost_ret (v := .tuple #[.agg #[.int .i64 k', .int .i64 x', .int .i64 y', .int .i64 z'], .int .i64 ((x : Int) + 1)]) (by simp [results, Try.results5, go_sem, bc, bz, hne]) rfl ⟨_, _, _, _, _, rfl, (((ch04.setCell (Nat.le_refl _) _).setCell (Nat.le_refl _) _).setCell (Nat.le_refl _) _).setCell (Nat.le_refl _) _⟩
end Go.Proofs.Ytmalnnddpoefmaa
