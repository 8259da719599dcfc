/-
  Contracts of the drawing functions for texts: some text of bounded size. Conditions: the code is at most 2^20 bytes; the variable gateNames reads as the thirteen names.
-/
import Derived.Test.YtkhgkaiadfebmaaDoorDraw5
import Derived.Test.YtkhgkaiadfebmaaDoorPcA
import Derived.Deep.RegionHeld3
set_option linter.unusedSimpArgs false
set_option linter.unusedVariables false
namespace Go.Proofs.YtkhgkaiadfebmaaDoor
open Go.RowKit
theorem l1PickS_ok (g : Nat) (A : Option Addr) (n c : Nat) (l : List Int) (B : Option Addr) (m c' lo hi : Nat) (L : List ByteArray) (w : World) (h : CurOk w g A n c l) (hB : Fr w lo hi B (strN L)) (hlo : g < lo) (hL : L.length = m) (hm : 0 < m) (hm' : m ≤ 1000000) :
    Calls Tryd.prog 62 #[.pointer (some ⟨g, 0, none⟩), .slice B m c'] w fun e w' => ∃ v ∈ L, e = .returned (.string v) ∧ CurOk w' g A n c l ∧ Chg w w' g (g + 1) := by
  have HL := Lib.hid hL
  clear hL
  go_enter Tryd.func62, Tryd.ntmps62
  go_wp2_with fail
  refine (l1Below_ok g A n c l m _ h (by omega)).mono ?_
  rintro e w1 ⟨x, hx, rfl, h1, ch⟩
  have hxm : x < m := by omega
  have hxl : x < L.length := by have := HL.out; omega
  obtain ⟨gb, off, rfl, hc⟩ := (hB.chg ch (.inr hlo)).rd (strN_ne (x := x) hxl)
  have c1 := hc x (.string L[x]) (by simp [strN, hxl])
  have HM := Lib.hid (List.getElem_mem hxl)
  generalize L[x] = v at c1 HM
  clear hc hx
  have hxI : (x : Int) < (m : Int) := by omega
  go_wp2
  go_ret
  exact ⟨v, HM.out, rfl, h1, ch⟩
/-- Some text was handed back, at most 16 bytes longer; the cursor is as good as before. -/
def SomeTurn (s : ByteArray) (w : World) (g : Nat) (A : Option Addr) (n c : Nat) (l : List Int) (e : Ending) (w' : World) : Prop := ∃ t : ByteArray, e = .returned (.string t) ∧ t.size ≤ s.size + 16 ∧ CurOk w' g A n c l ∧ Chg w w' g (g + 1)
set_option maxRecDepth 20000 in
set_option maxHeartbeats 1600000 in
theorem l1Turned_ok (g : Nat) (A : Option Addr) (n c : Nat) (l : List Int) (s : ByteArray) (hs : s.size ≤ 10000) (B : Option Addr) (m c' lo hi : Nat) (L : List ByteArray) (w : World) (h : CurOk w g A n c l) (hB : Fr w lo hi B (strN L)) (hlo : g < lo) (hL : L.length = m) (hm : 0 < m) (hm' : m ≤ 1000000) (h16 : ∀ v ∈ L, v.size ≤ 16) :
    Calls Tryd.prog 44 #[.pointer (some ⟨g, 0, none⟩), .string s, .slice B m c'] w (SomeTurn s w g A n c l) := by
  have HB := Lib.hid (fun W (hc : CurOk W g A n c l) (hk : Chg w W g (g + 1)) => l1PickS_ok g A n c l B m c' lo hi L W hc (hB.chg hk (.inr hlo)) hlo hL hm hm')
  have H16 := Lib.hid h16
  clear hB hL h16
  go_enter Tryd.func44, Tryd.ntmps44
  go_wp2_with fail
  refine (l1Below_ok g A n c l ((s.size : Int) + 1) _ h (by omega)).mono ?_
  rintro e w1 ⟨a, ha, rfl, ok1, ch1⟩
  have ha2 : a ≤ s.size := by omega
  clear ha h
  go_wp2_with fail
  refine (l1Below_ok g A n c l 6 _ ok1 (by omega)).mono ?_
  rintro e w2 ⟨x, hx, rfl, ok2, ch2⟩
  have ch02 := ch1.trans ch2
  clear hx ch1 ch2 ok1
  have haI : (a : Int) ≤ (s.size : Int) := by omega
  by_cases h0 : x = 0
  · subst h0
    go_wp2
    have okd := ok2.ext (Ext.drew (Ext.refl _))
    have chd := ch02.drew
    go_region_law (first | (go_simp; go_at_call 62; refine (HB.out _ okd chd).mono ?_; rintro e w' ⟨v, hv, rfl, okx, chx⟩; have hv16 := H16.out _ hv; have hb1 : ¬ (9223372036854775807 < a + v.size) := (by omega); have hb2 : ¬ (9223372036854775807 < a + v.size + (s.size - a)) := (by omega)))
    all_goals go_wp2
    all_goals go_ret
    all_goals exact ⟨_, rfl, by simp only [ByteArray.size_append, ByteArray.size_extract]; omega, okx, chd.trans chx⟩
  · have hx0 : ((x : Int) == 0) = false := by simp; omega
    by_cases h1 : x = 1
    · subst h1
      go_wp2
      go_ret
      exact ⟨_, rfl, by rw [ByteArray.size_extract]; omega, ok2, ch02⟩
    · have hx1 : ((x : Int) == 1) = false := by simp; omega
      go_wp2
      go_ret
      exact ⟨_, rfl, by omega, ok2, ch02⟩
theorem rd_below3 {w : World} {A : Option Addr} {l : List Int} (hA : Rd w A (bys l)) : ∀ a, A = some a → l ≠ [] → a.block < w.heap.size := by
  intro a ha hne
  obtain ⟨g, off, e, hc⟩ := hA.bys_ (by cases l; exact absurd rfl hne; simp)
  have := lt_of_cell (hc 0 (by cases l; exact absurd rfl hne; simp))
  rw [ha] at e
  injection e with e
  rw [e]; exact this
theorem fmtC_size (N : Int) (L : List Int) (n : Nat) : (fmtC N L n).size ≤ 8 + 11 * n := by
  unfold fmtC
  split
  · exact fc_size N L n
  · exact Nat.zero_le _
set_option maxHeartbeats 800000 in
theorem drawInvGate_ok (A : Option Addr) (n c : Nat) (l : List Int) (w : World) (hA : Rd w A (bys l)) (hl : l.length = n) (hn : n ≤ 1048576) :
    Calls Tryd.prog 40 #[.slice A n c] w fun e w' => ∃ k x y z : Int, e = .returned (.agg #[.int .i64 k, .int .i64 x, .int .i64 y, .int .i64 z]) ∧ Ext w w' := by
  have hAw := rd_below3 hA
  have hb0 := Blk.new w 23 #[.int .i64 0, .int .i64 0, .int .i64 0, .int .i64 0]
  go_enter Tryd.func40, Tryd.ntmps40
  go_wp2_with fail
  refine (l1New_any A n c l _ (hA.ext (by repeat (first | exact Ext.refl _ | assumption | refine Ext.alloc ?_ _ | refine Ext.drew ?_ | refine Ext.drewN ?_ _ | refine Ext.trans ?_ (by assumption)))) hl hn).mono ?_
  rintro e w1 ⟨g, rfl, hg, hcur, h1⟩
  simp only [World.size_alloc] at hg
  have h01 : Ext w w1 := (by repeat (first | exact Ext.refl _ | assumption | refine Ext.alloc ?_ _ | refine Ext.drew ?_ | refine Ext.drewN ?_ _ | refine Ext.trans ?_ (by assumption)))
  have ok : CurOk w1 g A n c l := ⟨hA.ext h01, hl, hn, hcur, fun hne a ha => Nat.lt_of_lt_of_le (hAw a ha hne) (by omega)⟩
  replace hb0 := hb0.ext h1
  clear hcur hAw hA hl h1
  go_wp2_with fail
  refine (l1Below_ok g A n c l 4 _ ok (by omega)).mono ?_
  rintro e w2 ⟨x, hx, rfl, ok2, ch2⟩
  have hx4 : x < 4 := by omega
  have ch02 := h01.chg ch2 (by omega)
  replace hb0 := hb0.chg ch2 (.inl (by omega))
  clear hx ok ch2
  go_wp2_with fail
  rw [show (1 : Int) + (x : Int) = ((x + 1 : Nat) : Int) from by omega]
  refine (l9Bent_ok g A n c l (x + 1) _ ok2 (by omega) (by omega)).mono ?_
  rintro e w3 ⟨k', x', y', z', rfl, ok3, ch3⟩
  have ch03 := ch02.chg ch3 (by omega)
  replace hb0 := hb0.chg ch3 (.inl (by omega))
  obtain ⟨bc, bf, bz⟩ := hb0.all
  clear ch3 ok2 ch02 ok3
  go_wp2
  refine bodyPost_ret (v := .agg #[.int .i64 k', .int .i64 x', .int .i64 y', .int .i64 z']) (by simp [results, Tryd.results40, go_sem, bc, bz]; done) rfl ⟨k', x', y', z', rfl, (by repeat (first | (with_reducible assumption) | (with_reducible exact Ext.refl _) | ((with_reducible refine Ext.setCell ?_ ?_ _); rotate_left; (first | exact Nat.le_refl _ | exact Nat.le_succ _ | (simp; done) | (simp; omega))) | (with_reducible refine Ext.alloc ?_ _) | (with_reducible refine Ext.drew ?_) | (with_reducible refine Ext.drewN ?_ _)))⟩
theorem drawFmtGate_ok (A : Option Addr) (n c : Nat) (l : List Int) (w : World) (hA : Rd w A (bys l)) (hl : l.length = n) (hn : n ≤ 1048576) :
    Calls Tryd.prog 16 #[.slice A n c] w fun e w' => ∃ k x y z : Int, e = .returned (.agg #[.int .i64 k, .int .i64 x, .int .i64 y, .int .i64 z]) ∧ Ext w w' := by
  have hb0 := Blk.new w 23 #[.int .i64 0, .int .i64 0, .int .i64 0, .int .i64 0]
  go_enter Tryd.func16, Tryd.ntmps16
  go_wp2_with fail
  refine (drawInvGate_ok A n c l _ (hA.ext (by repeat (first | exact Ext.refl _ | assumption | refine Ext.alloc ?_ _ | refine Ext.drew ?_ | refine Ext.drewN ?_ _ | refine Ext.trans ?_ (by assumption)))) hl hn).mono ?_
  rintro e w3 ⟨k', x', y', z', rfl, h1⟩
  have h03 : Ext w w3 := Ext.trans (by repeat (first | exact Ext.refl _ | assumption | refine Ext.alloc ?_ _ | refine Ext.drew ?_ | refine Ext.drewN ?_ _ | refine Ext.trans ?_ (by assumption))) h1
  replace hb0 := hb0.ext h1
  obtain ⟨bc, bf, bz⟩ := hb0.all
  clear h1
  go_wp2
  refine bodyPost_ret (v := .agg #[.int .i64 k', .int .i64 x', .int .i64 y', .int .i64 z']) (by simp [results, Tryd.results16, go_sem, bc, bz]; done) rfl ⟨k', x', y', z', rfl, (by repeat (first | (with_reducible assumption) | (with_reducible exact Ext.refl _) | ((with_reducible refine Ext.setCell ?_ ?_ _); rotate_left; (first | exact Nat.le_refl _ | exact Nat.le_succ _ | (simp; done) | (simp; omega))) | (with_reducible refine Ext.alloc ?_ _) | (with_reducible refine Ext.drew ?_) | (with_reducible refine Ext.drewN ?_ _)))⟩
set_option maxHeartbeats 800000 in
theorem drawParseGate_ok (A : Option Addr) (n c : Nat) (l : List Int) (w : World) (hA : Rd w A (bys l)) (hl : l.length = n) (hn : n ≤ 1048576) (hN : Names w) :
    Calls Tryd.prog 18 #[.slice A n c] w fun e w' => ∃ t : ByteArray, e = .returned (.string t) ∧ t.size ≤ 10000 ∧ Ext w w' := by
  have hAw := rd_below3 hA
  go_enter Tryd.func18, Tryd.ntmps18
  go_wp2_with fail
  refine (l1New_any A n c l _ hA hl hn).mono ?_
  rintro e w1 ⟨g, rfl, hg, hcur, h01⟩
  have ok : CurOk w1 g A n c l := ⟨hA.ext h01, hl, hn, hcur, fun hne a ha => Nat.lt_of_lt_of_le (hAw a ha hne) (by omega)⟩
  clear hcur hAw hA hl
  go_wp2_with fail
  refine (l9Gate_ok4 g A n c l _ ok).mono ?_
  rintro e w3 ⟨k', x', y', z', rfl, ok3, ch3⟩
  have ch03 := h01.chg ch3 (by omega)
  clear ch3 ok
  have hfz := fmtG_size k' x' y' z'
  have HF := Lib.hid (fun W (h : Names W) => spec_fmtGate k' x' y' z' W h)
  generalize fmtG k' x' y' z' = f at *
  go_wp2_with fail
  refine (HF.out _ (hN.ext ch03)).mono ?_
  rintro e w4 ⟨rfl, h4⟩
  have h04 := ch03.trans h4
  replace ok3 := ok3.ext h4
  have hg4 := ok3.lt
  clear h4 ch03
  go_wp2_with fail
  refine (l1Turned_ok g A n c l f (by omega) _ 5 5 w4.heap.size (w4.heap.size + 1) [⟨#[32]⟩, ⟨#[48]⟩, ⟨#[49]⟩, ⟨#[120]⟩, ⟨#[100]⟩] _ (ok3.ext ((Ext.refl w4).alloc _)) (Fr.of_blk (Blk.new w4 _ _) (Nat.le_refl _) (Nat.lt_succ_self _) ?hx) (by omega) rfl (by omega) (by omega) ?h16).mono ?_
  case hx =>
    intro j u hu
    (rcases j with _ | _ | _ | _ | _ | j) <;> simp_all [strN]
  case h16 =>
    intro v hv
    simp only [List.mem_cons, List.not_mem_nil, or_false] at hv
    rcases hv with rfl | rfl | rfl | rfl | rfl <;> decide
  rintro e w5 ⟨t, rfl, ht, ok5, ch5⟩
  have h05 := (h04.alloc (.cells #[.string ⟨#[32]⟩, .string ⟨#[48]⟩, .string ⟨#[49]⟩, .string ⟨#[120]⟩, .string ⟨#[100]⟩] 9)).chg ch5 (by omega)
  go_wp2
  go_ret
  exact ⟨t, rfl, by omega, h05⟩
end Go.Proofs.YtkhgkaiadfebmaaDoor
