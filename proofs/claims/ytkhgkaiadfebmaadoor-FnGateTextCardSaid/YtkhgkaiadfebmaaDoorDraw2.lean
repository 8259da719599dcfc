/-
  Contracts of the drawing functions for permutations. Conditions: the code is at most 2^20 bytes.
-/
import Derived.Test.YtkhgkaiadfebmaaDoorDraw
set_option linter.unusedSimpArgs false
set_option linter.unusedVariables false
namespace Go.Proofs.YtkhgkaiadfebmaaDoor
open Go.RowKit

theorem CurOk.lt {w : World} {g : Nat} {A : Option Addr} {n c : Nat} {l : List Int} (h : CurOk w g A n c l) : g < w.heap.size := h.cur.lt
theorem Chg.ext {a b c : World} {lo hi : Nat} (h : Chg a b lo hi) (k : Ext b c) : Chg a c lo hi := h.trans (Chg.of_ext k lo hi)
theorem Chg.new {a b c : World} {lo hi l h : Nat} (x : Chg a b lo hi) (k : Chg b c l h) (hl : a.heap.size ≤ l) : Chg a c lo hi :=
  ⟨k.os.trans x.os, k.tape.trans x.tape, k.output.trans x.output, Nat.le_trans x.size k.size, fun i hi' hn => (k.block i (Nat.lt_of_lt_of_le hi' x.size) (fun ⟨p, _⟩ => by omega)).trans (x.block i hi' hn)⟩
theorem Ext.chgs {a b c : World} {lo hi : Nat} (h : Ext a b) (k : Chg b c lo hi) : Chg a c lo hi := (Chg.of_ext h lo hi).trans k

theorem own_pos {w : World} {base : Nat} {e : TypeId} {size n : Nat} {v : Value} {xs : List Value} (h : w.ownsRow base e size v n xs) (hn : 0 < n) : ∃ g cap, v = .slice (some ⟨g, 0, none⟩) n cap ∧ base ≤ g ∧ g < w.heap.size ∧ n ≤ cap := by
  obtain ⟨_, ⟨_, h0⟩ | ⟨g, cap, cur, hv, hb, hh, hc, _⟩⟩ := h
  · omega
  · exact ⟨g, cap, hv, hb, lt_of_blk hh, hc⟩
theorem own_chg {a b : World} {lo hi base : Nat} {e : TypeId} {size n : Nat} {v : Value} {xs : List Value} (h : a.ownsRow base e size v n xs) (k : Chg a b lo hi) (hd : hi ≤ base) : b.ownsRow base e size v n xs := by
  obtain ⟨hl, h | ⟨g, cap, cur, hv, hb, hh, r⟩⟩ := h
  · exact ⟨hl, .inl h⟩
  · exact ⟨hl, .inr ⟨g, cap, cur, hv, hb, (k.block g (lt_of_blk hh) (fun ⟨_, y⟩ => by omega)).trans hh, r⟩⟩
theorem own_setInt {w : World} {base : Nat} {e : TypeId} {g n cap : Nat} {L : List Int} (h : w.ownsRow base e 1 (.slice (some ⟨g, 0, none⟩) n cap) n (ints L)) (j : Nat) (x : Int) : (w.setCell ⟨g, j, none⟩ (.int .i64 x)).ownsRow base e 1 (.slice (some ⟨g, 0, none⟩) n cap) n (ints (L.set j x)) := by
  have := (h.stored j (.int .i64 x)).1
  unfold ints at *
  rw [List.map_set]
  exact this
theorem own_cell {w : World} {base : Nat} {e : TypeId} {g n cap : Nat} {L : List Int} (h : w.ownsRow base e 1 (.slice (some ⟨g, 0, none⟩) n cap) n (ints L)) (j : Nat) (hj : j < n) : w.cell? ⟨g, j, none⟩ = some (.int .i64 (L.getD j 0)) := by
  have hl := h.1
  rw [ints_length, Nat.mul_one] at hl
  rw [h.cellAt j (by omega)]
  simp [ints, List.getElem?_eq_getElem (show j < L.length by omega), List.getD]
set_option maxHeartbeats 800000 in
theorem l8Perm_ok (g : Nat) (A : Option Addr) (n c : Nat) (l : List Int) (m : Nat) (w : World) (h : CurOk w g A n c l) (h1 : 1 ≤ m) (h4 : m ≤ 4) :
    Calls Tryd.prog 73 #[.pointer (some ⟨g, 0, none⟩), .int .i64 m] w fun e w' => ∃ gp cP L, e = .returned (.slice (some ⟨gp, 0, none⟩) m cP) ∧ w'.ownsRow w.heap.size 3 1 (.slice (some ⟨gp, 0, none⟩) m cP) m (ints L) ∧ CurOk w' g A n c l ∧ Chg w w' g (g + 1) := by
  have hgw := h.lt
  go_enter Tryd.func73, Tryd.ntmps73
  go_wp2_with fail
  refine (spec_idPerm_own m _ h1 h4).mono ?_
  rintro e w1 ⟨v, rfl, hown, e1⟩
  obtain ⟨gp, cP, rfl, hg1, hg2, hcP⟩ := own_pos hown (by omega)
  have h1' := h.ext e1
  go_wp2
  go_loopw [6, 7, 8] (fun i _ _ wr => ∃ (j : Nat) (L : List Int), j < m ∧ i = .int .i64 j ∧ wr.ownsRow w.heap.size 3 1 (.slice (some ⟨gp, 0, none⟩) m cP) m (ints L) ∧ CurOk wr g A n c l ∧ Chg w wr g (g + 1)) (fun i _ _ _ => (intOf i).toNat)
  case atStart => exact ⟨m - 1, marks 0 m, by omega, by congr 1; omega, hown, h1', Chg.of_ext e1 _ _⟩
  case round =>
    clear hown h1' e1
    obtain ⟨j, L, hjm, rfl, hown, hcur, hch⟩ := hrel
    by_cases hj : 0 < j
    · have hjI : (0 : Int) < (j : Int) := by omega
      go_wp2_with fail
      refine (l1Below_ok g A n c l _ _ hcur (by omega)).mono ?_
      rintro e w2 ⟨k, hk, rfl, hcur2, ch2⟩
      have hkm : k < m := by omega
      clear hk
      have hown2 := own_chg hown ch2 (by omega)
      have cj := own_cell hown2 j hjm
      have ck := own_cell hown2 k hkm
      have fj := hown2.frozenAt j
      have hs1 := own_setInt hown2 j (L.getD k 0)
      have ck1 := own_cell hs1 k hkm
      have fk1 := hs1.frozenAt k
      have HS := Lib.hid (own_setInt hs1 k (L.getD j 0))
      generalize ((L.set j (L.getD k 0)).getD k 0) = q at ck1
      generalize L.getD k 0 = y at *
      generalize L.getD j 0 = x at *
      clear hs1 hown hown2
      have hjI2 : (j : Int) < (m : Int) := by omega
      have hkI2 : (k : Int) < (m : Int) := by omega
      go_wp2
      go_roundw
      case rel =>
        have chA : Chg w2 ((w2.setCell ⟨gp, j, none⟩ (.int .i64 y)).setCell ⟨gp, k, none⟩ (.int .i64 x)) gp (gp + 1) := ((Chg.refl w2 gp (gp + 1)).setCell (p := ⟨gp, j, none⟩) (Nat.le_refl gp) (Nat.lt_succ_self gp) _).setCell (p := ⟨gp, k, none⟩) (Nat.le_refl gp) (Nat.lt_succ_self gp) _
        exact ⟨j - 1, (L.set j y).set k x, by omega, by congr 1; omega, HS.out, hcur2.chg chA (by omega) (hcur2.cur.chg chA (.inl (by omega))), (hch.trans ch2).new chA hg1⟩
      case measure => simp [intOf]; omega
    · have hj0 : j = 0 := by omega
      subst hj0
      go_wp2
      go_ret
      exact ⟨_, _, L, rfl, hown, hcur, hch⟩
theorem Fr.take {w : World} {lo hi : Nat} {A : Option Addr} {l : List Int} (h : Fr w lo hi A (ints l)) (j : Nat) : Fr w lo hi A (ints (l.take j)) := fun hn => by
  obtain ⟨g, off, cur, t, e, h1, h2, hh, hc⟩ := h (by rintro h0; apply hn; cases l <;> simp_all [ints])
  refine ⟨g, off, cur, t, e, h1, h2, hh, fun i u hu => hc i u ?_⟩
  unfold ints at hu ⊢
  rw [List.map_take, List.getElem?_take] at hu
  split at hu
  · exact hu
  · cases hu
end Go.Proofs.YtkhgkaiadfebmaaDoor
