/-
  The contract of DrawConcatCircuits: some two circuits. Conditions: the code is at most 2^20 bytes.
-/
import Derived.Test.YtohpgjkflgnfgaaDraw6
set_option linter.unusedSimpArgs false
set_option linter.unusedVariables false
namespace Go.Proofs.Ytohpgjkflgnfgaa
open Go.RowKit
def TwoCirc (w : World) (e : Ending) (w' : World) : Prop :=
  ∃ (M M' : Int) (G G' : Option Addr) (q q' cG cG' : Nat) (L L' : List Int), e = .returned (.tuple #[.agg #[.int .i64 M, .slice G q cG], .agg #[.int .i64 M', .slice G' q' cG']]) ∧ q ≤ 80 ∧ q' ≤ 80 ∧
    w'.ownsRow w.heap.size 55 4 (.slice G q cG) q (ints L) ∧ w'.ownsRow w.heap.size 55 4 (.slice G' q' cG') q' (ints L') ∧ Ext w w'
theorem rd_below2 {w : World} {A : Option Addr} {l : List Int} (hA : Rd w A (bys l)) : ∀ a, A = some a → l ≠ [] → a.block < w.heap.size := by
  intro a ha hne
  obtain ⟨g, off, e, hc⟩ := hA.bys_ (by cases l; exact absurd rfl hne; simp)
  have := lt_of_cell (hc 0 (by cases l; exact absurd rfl hne; simp))
  rw [ha] at e
  injection e with e
  rw [e]; exact this
set_option maxRecDepth 20000 in
set_option maxHeartbeats 1600000 in
theorem drawConcat_ok (A : Option Addr) (n c : Nat) (l : List Int) (w : World) (hA : Rd w A (bys l)) (hl : l.length = n) (hn : n ≤ 1048576) :
    Calls Try.prog 24 #[.slice A n c] w (TwoCirc w) := by
  have hAw := rd_below2 hA
  have r1 := (Blk.new w 29 #[.int .i64 0, .slice none 0 0]).ext ((Ext.refl _).alloc (.cells #[.int .i64 0, .slice none 0 0] 29))
  have r2 := Blk.new (w.alloc (.cells #[.int .i64 0, .slice none 0 0] 29)) 29 #[.int .i64 0, .slice none 0 0]
  simp only [World.size_alloc] at r2
  go_enter Try.func24, Try.ntmps24
  go_wp2_with fail
  refine (l1New_any A n c l _ (hA.ext (by repeat (first | exact Ext.refl _ | assumption | refine Ext.alloc ?_ _ | refine Ext.drew ?_ | refine Ext.drewN ?_ _ | refine Ext.trans ?_ (by assumption)))) hl hn).mono ?_
  rintro e w1 ⟨g, rfl, hg, hcur, h1⟩
  simp only [World.size_alloc] at hg
  have h01 : Ext w w1 := (by repeat (first | exact Ext.refl _ | assumption | refine Ext.alloc ?_ _ | refine Ext.drew ?_ | refine Ext.drewN ?_ _ | refine Ext.trans ?_ (by assumption)))
  have ok1 : CurOk w1 g A n c l := ⟨hA.ext h01, hl, hn, hcur, fun hne a ha => Nat.lt_of_lt_of_le (hAw a ha hne) (by omega)⟩
  replace r1 := r1.ext h1
  replace r2 := r2.ext h1
  have hg1 := ok1.lt
  clear hcur hAw hA hl h1
  go_wp2_with fail
  refine (l1Below_ok g A n c l 3 _ ok1 (by omega)).mono ?_
  rintro e w2 ⟨x, hx, rfl, ok2, ch2⟩
  have hx3 : x < 3 := by omega
  replace r1 := r1.chg ch2 (.inl (by omega))
  replace r2 := r2.chg ch2 (.inl (by omega))
  have h02 := h01.chg ch2 (by omega)
  have zz2 := ch2.size
  clear hx ok1 ch2 h01
  go_wp2_with fail
  refine (l1Once_ok g A n c l 5 _ ok2 (by omega)).mono ?_
  rintro e w3 ⟨b, rfl, ok3, ch3⟩
  replace r1 := r1.chg ch3 (.inl (by omega))
  replace r2 := r2.chg ch3 (.inl (by omega))
  have h03 := h02.chg ch3 (by omega)
  have zz3 := ch3.size
  clear ok2 ch3 h02
  cases b with
  | true =>
    go_wp2_with fail
    refine (l11Bent_ok g A n c l 8 _ ok3 (by omega)).mono ?_
    rintro e w4 ⟨M, G, q, cG, L, hM, rfl, hq, hqq, own4, ok4, ch4⟩
    clear hM hqq
    replace r1 := r1.chg ch4 (.inl (by omega))
    replace r2 := r2.chg ch4 (.inl (by omega))
    have h04 := h03.chg ch4 (by omega)
    have zz4 := ch4.size
    clear ok3 ch4 h03
    go_wp2_with fail
    refine (l11Bent_ok g A n c l 8 _ ok4 (by omega)).mono ?_
    rintro e w5 ⟨M', G', q', cG', L', hM', rfl, hq', hqq', own5, ok5, ch5⟩
    clear hM' hqq'
    replace own4 := own_chg2 own4 ch5 (by omega)
    replace r1 := r1.chg ch5 (.inl (by omega))
    replace r2 := r2.chg ch5 (.inl (by omega))
    have h05 := h04.chg ch5 (by omega)
    have zz5 := ch5.size
    obtain ⟨xc, xf, xz⟩ := r1.all
    obtain ⟨yc, yf, yz⟩ := r2.all
    have chS : Chg w5 ((((w5.setCell ⟨w.heap.size, 0, none⟩ (.int .i64 M)).setCell ⟨w.heap.size, 1, none⟩ (.slice G q cG)).setCell ⟨w.heap.size + 1, 0, none⟩ (.int .i64 M')).setCell ⟨w.heap.size + 1, 1, none⟩ (.slice G' q' cG')) w.heap.size (w.heap.size + 1 + 1) :=
      ((((Chg.refl w5 w.heap.size (w.heap.size + 1 + 1)).setCell (p := ⟨w.heap.size, 0, none⟩) (Nat.le_refl _) (by simp only; omega) _).setCell (p := ⟨w.heap.size, 1, none⟩) (Nat.le_refl _) (by simp only; omega) _).setCell (p := ⟨w.heap.size + 1, 0, none⟩) (Nat.le_succ _) (Nat.lt_succ_self _) _).setCell (p := ⟨w.heap.size + 1, 1, none⟩) (Nat.le_succ _) (Nat.lt_succ_self _) _
    have HO1 := Lib.hid (own_low (base' := w.heap.size) (own_chg2 own4 chS (by omega)) (by omega))
    have HO2 := Lib.hid (own_low (base' := w.heap.size) (own_chg2 own5 chS (by omega)) (by omega))
    have HH := Lib.hid (h05.chg chS (Nat.le_refl _))
    clear chS own4 own5 h05 ok4 ok5 ch5 h04
    go_wp2
    exact bodyPost_ret (v := .tuple #[.agg #[.int .i64 M, .slice G q cG], .agg #[.int .i64 M', .slice G' q' cG']]) (by simp [results, Try.results24, go_sem, xc, yc]) rfl ⟨M, M', G, G', q, q', cG, cG', L, L', rfl, hq, hq', HO1.out, HO2.out, HH.out⟩
  | false =>
    go_wp2_with fail
    rw [show (1 : Int) + (x : Int) = ((x + 1 : Nat) : Int) from by omega]
    refine (l11Right_ok g A n c l (x + 1) 8 _ ok3 (by omega) (by omega) (by omega)).mono ?_
    rintro e w4 ⟨M, G, q, cG, L, hM, rfl, hq, hqq, own4, ok4, ch4⟩
    clear hM hqq
    replace r1 := r1.chg ch4 (.inl (by omega))
    replace r2 := r2.chg ch4 (.inl (by omega))
    have h04 := h03.chg ch4 (by omega)
    have zz4 := ch4.size
    clear ok3 ch4 h03
    go_wp2_with fail
    refine (l11Right_ok g A n c l (x + 1) 8 _ ok4 (by omega) (by omega) (by omega)).mono ?_
    rintro e w5 ⟨M', G', q', cG', L', hM', rfl, hq', hqq', own5, ok5, ch5⟩
    clear hM' hqq'
    replace own4 := own_chg2 own4 ch5 (by omega)
    replace r1 := r1.chg ch5 (.inl (by omega))
    replace r2 := r2.chg ch5 (.inl (by omega))
    have h05 := h04.chg ch5 (by omega)
    have zz5 := ch5.size
    obtain ⟨xc, xf, xz⟩ := r1.all
    obtain ⟨yc, yf, yz⟩ := r2.all
    have chS : Chg w5 ((((w5.setCell ⟨w.heap.size, 0, none⟩ (.int .i64 M)).setCell ⟨w.heap.size, 1, none⟩ (.slice G q cG)).setCell ⟨w.heap.size + 1, 0, none⟩ (.int .i64 M')).setCell ⟨w.heap.size + 1, 1, none⟩ (.slice G' q' cG')) w.heap.size (w.heap.size + 1 + 1) :=
      ((((Chg.refl w5 w.heap.size (w.heap.size + 1 + 1)).setCell (p := ⟨w.heap.size, 0, none⟩) (Nat.le_refl _) (by simp only; omega) _).setCell (p := ⟨w.heap.size, 1, none⟩) (Nat.le_refl _) (by simp only; omega) _).setCell (p := ⟨w.heap.size + 1, 0, none⟩) (Nat.le_succ _) (Nat.lt_succ_self _) _).setCell (p := ⟨w.heap.size + 1, 1, none⟩) (Nat.le_succ _) (Nat.lt_succ_self _) _
    have HO1 := Lib.hid (own_low (base' := w.heap.size) (own_chg2 own4 chS (by omega)) (by omega))
    have HO2 := Lib.hid (own_low (base' := w.heap.size) (own_chg2 own5 chS (by omega)) (by omega))
    have HH := Lib.hid (h05.chg chS (Nat.le_refl _))
    clear chS own4 own5 h05 ok4 ok5 ch5 h04
    go_wp2
    exact bodyPost_ret (v := .tuple #[.agg #[.int .i64 M, .slice G q cG], .agg #[.int .i64 M', .slice G' q' cG']]) (by simp [results, Try.results24, go_sem, xc, yc]) rfl ⟨M, M', G, G', q, q', cG, cG', L, L', rfl, hq, hq', HO1.out, HO2.out, HH.out⟩
end Go.Proofs.Ytohpgjkflgnfgaa
