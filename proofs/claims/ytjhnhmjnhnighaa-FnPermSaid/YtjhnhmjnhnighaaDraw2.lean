/-
  Contracts of the drawing functions for permutations. Conditions: the code is at most 2^20 bytes.
-/
import Derived.Test.YtjhnhmjnhnighaaDraw
set_option linter.unusedSimpArgs false
set_option linter.unusedVariables false
namespace Go.Proofs.Ytjhnhmjnhnighaa
open Go.RowKit

theorem CurOk.lt {w : World} {g : Nat} {A : Option Addr} {n c : Nat} {l : List Int} (h : CurOk w g A n c l) : g < w.heap.size := h.cur.lt
theorem Chg.ext {a b c : World} {lo hi : Nat} (h : Chg a b lo hi) (k : Ext b c) : Chg a c lo hi := h.trans (Chg.of_ext k lo hi)
theorem Chg.new {a b c : World} {lo hi l h : Nat} (x : Chg a b lo hi) (k : Chg b c l h) (hl : a.heap.size ≤ l) : Chg a c lo hi :=
  ⟨k.os.trans x.os, k.tape.trans x.tape, k.output.trans x.output, Nat.le_trans x.size k.size, fun i hi' hn => (k.block i (Nat.lt_of_lt_of_le hi' x.size) (fun ⟨p, _⟩ => by omega)).trans (x.block i hi' hn)⟩
theorem Ext.chgs {a b c : World} {lo hi : Nat} (h : Ext a b) (k : Chg b c lo hi) : Chg a c lo hi := (Chg.of_ext h lo hi).trans k

theorem own_pos {w : World} {base : Nat} {e : TypeId} {size n : Nat} {v : Value} {xs : List Value} (h : w.ownsRow base e size v n xs) (hn : 0 < n) : ∃ g cap, v = .slice (some ⟨g, 0, none⟩) n cap ∧ base ≤ g ∧ g < w.heap.size ∧ n ≤ cap := by
  obtain ⟨_, ⟨_, h0⟩ | ⟨g, cap, cur, hv, hb, hh, hc, _⟩⟩ := h
  · omega
  · exact ⟨g, cap, hv, hb, lt_of_blk hh, hc⟩
theorem own_chg {a b : World} {lo hi base : Nat} {e : TypeId} {size n : Nat} {v : Value} {xs : List Value} (h : a.ownsRow base e size v n xs) (k : Chg a b lo hi) (hd : hi ≤ base) : b.ownsRow base e size v n xs := by
  obtain ⟨hl, h | ⟨g, cap, cur, hv, hb, hh, r⟩⟩ := h
  · exact ⟨hl, .inl h⟩
  · exact ⟨hl, .inr ⟨g, cap, cur, hv, hb, (k.block g (lt_of_blk hh) (fun ⟨_, y⟩ => by omega)).trans hh, r⟩⟩
theorem own_setInt {w : World} {base : Nat} {e : TypeId} {g n cap : Nat} {L : List Int} (h : w.ownsRow base e 1 (.slice (some ⟨g, 0, none⟩) n cap) n (ints L)) (j : Nat) (x : Int) : (w.setCell ⟨g, j, none⟩ (.int .i64 x)).ownsRow base e 1 (.slice (some ⟨g, 0, none⟩) n cap) n (ints (L.set j x)) := by
  have := (h.stored j (.int .i64 x)).1
  unfold ints at *
  rw [List.map_set]
  exact this
theorem own_cell {w : World} {base : Nat} {e : TypeId} {g n cap : Nat} {L : List Int} (h : w.ownsRow base e 1 (.slice (some ⟨g, 0, none⟩) n cap) n (ints L)) (j : Nat) (hj : j < n) : w.cell? ⟨g, j, none⟩ = some (.int .i64 (L.getD j 0)) := by
  have hl := h.1
  rw [ints_length, Nat.mul_one] at hl
  rw [h.cellAt j (by omega)]
  simp [ints, List.getElem?_eq_getElem (show j < L.length by omega), List.getD]
set_option maxHeartbeats 800000 in
theorem l8Perm_ok (g : Nat) (A : Option Addr) (n c : Nat) (l : List Int) (m : Nat) (w : World) (h : CurOk w g A n c l) (h1 : 1 ≤ m) (h4 : m ≤ 4) :
    Calls Try.prog 68 #[.pointer (some ⟨g, 0, none⟩), .int .i64 m] w fun e w' => ∃ gp cP L, e = .returned (.slice (some ⟨gp, 0, none⟩) m cP) ∧ w'.ownsRow w.heap.size 3 1 (.slice (some ⟨gp, 0, none⟩) m cP) m (ints L) ∧ CurOk w' g A n c l ∧ Chg w w' g (g + 1) := by
  have hgw := h.lt
  go_enter Try.func68, Try.ntmps68
  go_wp2_with fail
  refine (spec_idPerm_own m _ h1 h4).mono ?_
  rintro e w1 ⟨v, rfl, hown, e1⟩
  obtain ⟨gp, cP, rfl, hg1, hg2, hcP⟩ := own_pos hown (by omega)
  have h1' := h.ext e1
  go_wp2
  go_loopw [6, 7, 8] (fun i _ _ wr => ∃ (j : Nat) (L : List Int), j < m ∧ i = .int .i64 j ∧ wr.ownsRow w.heap.size 3 1 (.slice (some ⟨gp, 0, none⟩) m cP) m (ints L) ∧ CurOk wr g A n c l ∧ Chg w wr g (g + 1)) (fun i _ _ _ => (intOf i).toNat)
  case atStart => exact ⟨m - 1, marks 0 m, by omega, by congr 1; omega, hown, h1', Chg.of_ext e1 _ _⟩
  case round =>
    clear hown h1' e1
    obtain ⟨j, L, hjm, rfl, hown, hcur, hch⟩ := hrel
    by_cases hj : 0 < j
    · have hjI : (0 : Int) < (j : Int) := by omega
      go_wp2_with fail
      refine (l1Below_ok g A n c l _ _ hcur (by omega)).mono ?_
      rintro e w2 ⟨k, hk, rfl, hcur2, ch2⟩
      have hkm : k < m := by omega
      clear hk
      have hown2 := own_chg hown ch2 (by omega)
      have cj := own_cell hown2 j hjm
      have ck := own_cell hown2 k hkm
      have fj := hown2.frozenAt j
      have hs1 := own_setInt hown2 j (L.getD k 0)
      have ck1 := own_cell hs1 k hkm
      have fk1 := hs1.frozenAt k
      have HS := Lib.hid (own_setInt hs1 k (L.getD j 0))
      generalize ((L.set j (L.getD k 0)).getD k 0) = q at ck1
      generalize L.getD k 0 = y at *
      generalize L.getD j 0 = x at *
      clear hs1 hown hown2
      have hjI2 : (j : Int) < (m : Int) := by omega
      have hkI2 : (k : Int) < (m : Int) := by omega
      go_wp2
      go_roundw
      case rel =>
        have chA : Chg w2 ((w2.setCell ⟨gp, j, none⟩ (.int .i64 y)).setCell ⟨gp, k, none⟩ (.int .i64 x)) gp (gp + 1) := ((Chg.refl w2 gp (gp + 1)).setCell (p := ⟨gp, j, none⟩) (Nat.le_refl gp) (Nat.lt_succ_self gp) _).setCell (p := ⟨gp, k, none⟩) (Nat.le_refl gp) (Nat.lt_succ_self gp) _
        exact ⟨j - 1, (L.set j y).set k x, by omega, by congr 1; omega, HS.out, hcur2.chg chA (by omega) (hcur2.cur.chg chA (.inl (by omega))), (hch.trans ch2).new chA hg1⟩
      case measure => simp [intOf]; omega
    · have hj0 : j = 0 := by omega
      subst hj0
      go_wp2
      go_ret
      exact ⟨_, _, L, rfl, hown, hcur, hch⟩
theorem Fr.take {w : World} {lo hi : Nat} {A : Option Addr} {l : List Int} (h : Fr w lo hi A (ints l)) (j : Nat) : Fr w lo hi A (ints (l.take j)) := fun hn => by
  obtain ⟨g, off, cur, t, e, h1, h2, hh, hc⟩ := h (by rintro h0; apply hn; cases l <;> simp_all [ints])
  refine ⟨g, off, cur, t, e, h1, h2, hh, fun i u hu => hc i u ?_⟩
  unfold ints at hu ⊢
  rw [List.map_take, List.getElem?_take] at hu
  split at hu
  · exact hu
  · cases hu
set_option maxHeartbeats 800000 in
theorem l8Bent_ok (g : Nat) (A : Option Addr) (n c : Nat) (l : List Int) (w : World) (h : CurOk w g A n c l) :
    Calls Try.prog 67 #[.pointer (some ⟨g, 0, none⟩)] w fun e w' => ∃ P m cP L, e = .returned (.slice P m cP) ∧ L.length = m ∧ m ≤ 5 ∧ m ≤ cP ∧ Fr w' w.heap.size w'.heap.size P (ints L) ∧ CurOk w' g A n c l ∧ Chg w w' g (g + 1) := by
  have hgw := h.lt
  go_enter Try.func67, Try.ntmps67
  go_wp2_with fail
  refine (l1Below_ok g A n c l 4 _ h (by omega)).mono ?_
  rintro e w1 ⟨x, hx, rfl, h1, ch1⟩
  have z1 := ch1.size
  go_wp2_with fail
  rw [show (1 : Int) + (x : Int) = ((x + 1 : Nat) : Int) from by omega]
  refine (l8Perm_ok g A n c l (x + 1) _ h1 (by omega) (by omega)).mono ?_
  rintro e w2 ⟨gp, cP, L, rfl, hown, h2, ch2⟩
  have hx4 : x < 4 := by omega
  clear hx
  go_wp2_with fail
  refine (l1Below_ok g A n c l 8 _ h2 (by omega)).mono ?_
  rintro e w3 ⟨y, hy, rfl, h3, ch3⟩
  clear hy
  have z2 := ch2.size
  have z3 := ch3.size
  have hg1 := (own_pos hown (by omega))
  obtain ⟨_, _, hv', hgp, hgp2, hcP⟩ := hg1
  injection hv' with hv' _ hv''
  injection hv' with hv'
  injection hv' with hv'
  subst hv' hv''
  have hown3 := own_chg hown ch3 (by omega)
  have ch03 := (ch1.trans ch2).trans ch3
  clear hown ch1 ch2 ch3 h1 h2
  by_cases hy0 : y = 0
  · subst hy0
    go_wp2_with fail
    refine (l1Below_ok g A n c l _ _ h3 (by omega)).mono ?_
    rintro e w4 ⟨k, hk, rfl, h4, ch4⟩
    have hkx : k < x + 1 := by omega
    clear hk
    have hown4 := own_chg hown3 ch4 (by omega)
    have z4 := ch4.size
    go_wp2_with fail
    refine (l1PickInt_ok g A n c l _ 5 5 w4.heap.size (w4.heap.size + 1) [0, 1, 4, -1, 9223372036854775807] _ (h4.ext ((Ext.refl w4).alloc _)) (Fr.of_blk (Blk.new w4 _ _) (Nat.le_refl _) (Nat.lt_succ_self _) ?hx) (by have := h4.lt; omega) rfl (by omega) (by omega)).mono ?_
    case hx =>
      intro j u hu
      (rcases j with _ | _ | _ | _ | _ | j) <;> simp_all [ints]
    rintro e w5 ⟨v, _, rfl, h5, ch5⟩
    have hown5 := own_chg (own_at hown4 ((Ext.refl w4).alloc _)) ch5 (by omega)
    have z5 := ch5.size
    simp at z5
    have ck := own_cell hown5 k hkx
    have fk := hown5.frozenAt k
    have HS := Lib.hid (own_setInt hown5 k v)
    generalize L.getD k 0 = q at ck
    have ch05 := (ch03.trans ch4).trans (((Chg.refl w4 g (g + 1)).alloc (.cells #[.int .i64 0, .int .i64 1, .int .i64 4, .int .i64 (-1), .int .i64 9223372036854775807] 3)).trans ch5)
    clear hown3 hown4 hown5 ch4 ch5 h3 h4 ch03
    have hkI : (k : Int) < (x : Int) + 1 := by omega
    go_wp2
    go_ret
    have chA : Chg w5 (w5.setCell ⟨gp, k, none⟩ (.int .i64 v)) gp (gp + 1) := (Chg.refl w5 gp (gp + 1)).setCell (p := ⟨gp, k, none⟩) (Nat.le_refl gp) (Nat.lt_succ_self gp) _
    have hl := HS.out.1
    rw [ints_length, Nat.mul_one] at hl
    exact ⟨_, _, _, L.set k v, rfl, hl, by omega, hcP, (Fr.of_own HS.out).mono (by omega) (Nat.le_refl _), h5.chg chA (by omega) (h5.cur.chg chA (.inl (by omega))), ch05.new chA (by omega)⟩
  · have n0 : ((y : Int) == 0) = false := by simp; omega
    by_cases hy1 : y = 1
    · subst hy1
      go_wp2_with fail
      refine (l1Below_ok g A n c l _ _ h3 (by omega)).mono ?_
      rintro e w4 ⟨k, hk, rfl, h4, ch4⟩
      have hkx : k < x + 1 := by omega
      clear hk
      have hown4 := own_chg hown3 ch4 (by omega)
      have HF := Lib.hid (((Fr.of_own hown4).mono (lo' := w.heap.size) (by omega) (Nat.le_refl _)))
      have hl := hown4.1
      rw [ints_length, Nat.mul_one] at hl
      have HLL := Lib.hid hl
      clear hl hown3 hown4 h3
      have hkc : k ≤ cP := by omega
      go_wp2
      go_ret
      exact ⟨_, _, _, L.take k, rfl, by have := HLL.out; simp; omega, by omega, by omega, Fr.take HF.out k, h4, ch03.trans ch4⟩
    · have n1 : ((y : Int) == 1) = false := by simp; omega
      by_cases hy2 : y = 2
      · subst hy2
        obtain ⟨i0, hi, hz0, hz1, hz2⟩ := info_parts info_int'
        go_wp2_with (first | (at_builtin; refine wpList_append_own _ rfl _ _ 22 rfl w1.heap.size 3 i0 (.int .i64 0) 1 8 Try.underlying22 hi hz0 hz1 hz2 rfl (by decide) _ _ _ rfl (hown3.alloc _) ⟨w3.heap.size, 0, none⟩ 1 1 [.int .i64 ((x : Int) + 1)] rfl rfl ?c1 ?c2 ?c3 ?c4 ?c5 ?_))
        case c1 =>
          intro i u hu
          (rcases i with _ | i) <;> simp_all [Addr.add]
        case c2 => intro u hu; simp at hu; subst hu; rfl
        case c3 => unfold maxLen; omega
        case c4 => omega
        case c5 => simp; omega
        intro v' w4 hown' hgrow _
        obtain ⟨P, cc, rfl, hcc⟩ := own_form' hown'
        have hl := hown'.1
        have HF := Lib.hid (((Fr.of_own hown').mono (lo' := w.heap.size) (by omega) (Nat.le_refl _)))
        have ch4 : Chg w3 w4 gp (gp + 1) := ((Chg.refl w3 gp (gp + 1)).alloc (.cells #[.int .i64 ((x : Int) + 1)] 3)).trans ⟨hgrow.os, hgrow.tape, hgrow.output, hgrow.size, fun k hk hn => hgrow.block k hk (by intro e; simp [Value.ownBlock] at e; omega)⟩
        clear hown' hgrow hown3 hi hz0 hz1 hz2
        go_wp2
        go_ret
        refine ⟨_, _, _, L ++ [(x : Int) + 1], rfl, ?_, by omega, hcc, by simpa [ints] using HF.out, h3.chg ch4 (by omega) (h3.cur.chg ch4 (.inl (by omega))), ch03.new ch4 (by omega)⟩
        simp [ints] at hl ⊢
        omega
      · have n2 : ((y : Int) == 2) = false := by simp; omega
        have HF := Lib.hid (((Fr.of_own hown3).mono (lo' := w.heap.size) (by omega) (Nat.le_refl _)))
        have hl := hown3.1
        rw [ints_length, Nat.mul_one] at hl
        have HLL := Lib.hid hl
        clear hl hown3
        go_wp2
        go_ret
        exact ⟨_, _, _, L, rfl, HLL.out, by omega, hcP, HF.out, h3, ch03⟩
end Go.Proofs.Ytjhnhmjnhnighaa
