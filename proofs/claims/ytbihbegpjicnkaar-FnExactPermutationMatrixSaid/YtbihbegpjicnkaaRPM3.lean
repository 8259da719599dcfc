/-
  Contracts of the program's flipped and of PermutationMatrix. Conditions: a square of at most 16 rows; the slice reads as a list.
-/
import Derived.Test.YtbihbegpjicnkaaRPM2
import Derived.Test.YtbihbegpjicnkaaRPerm5
set_option linter.unusedSimpArgs false
set_option linter.unusedVariables false
namespace Go.Proofs.YtbihbegpjicnkaaR
open Go.RowKit
set_option maxRecDepth 20000 in
set_option maxHeartbeats 1600000 in
theorem impl_cols (A : Option Addr) (n c : Nat) (LL : List (List Int)) (vs : List Value) (w : World) (hA : Rd2 w 5 A LL vs) (hs : sq LL n) (hn : n ≤ 16) :
    Calls Try.prog 24 #[.slice A n c] w fun e w' => ∃ G cG vs', e = .returned (.slice G n cG) ∧ Own2 w' w.heap.size 38 52 5 (.slice G n cG) (flipTo LL n n) vs' ∧ Ext w w' := by
  have HS := Lib.hid hs
  clear hs
  obtain ⟨i0, hi, hz0, hz1, hz2⟩ := info_parts info_dom
  obtain ⟨i1, hj1, hy0, hy1, hy2⟩ := info_parts info_sld
  have own0 := own_new (w := w) (g := w.heap.size) (base := w.heap.size) (e := 38) (size := 1) #[] 0 rfl (Nat.le_refl _) (by simp) (by simp)
  go_enter Try.func24, Try.ntmps24
  go_wp2
  go_loopw [3, 4, 5, 7, 11] (fun v _ _ _ i wr => ∃ (j : Nat) (vs' : List Value), j ≤ n ∧ i = .int .i64 j ∧ Own2 wr w.heap.size 38 52 5 v (flipTo LL n j) vs' ∧ Ext w wr) (fun _ _ _ _ i _ => n - (intOf i).toNat)
  case atStart => exact ⟨0, [], Nat.zero_le _, rfl, Own2.nil own0, (by repeat (first | exact Ext.refl _ | assumption | refine Ext.alloc ?_ _ | refine Ext.drew ?_ | refine Ext.drewN ?_ _ | refine Ext.trans ?_ (by assumption)))⟩
  case round =>
    clear own0
    obtain ⟨k, vs', hk, rfl, own, he⟩ := hrel
    by_cases hklt : k < n
    · have HST := Lib.hid (flip_step LL n k)
      have HLN := Lib.hid (flipTo_length LL n k)
      generalize flipTo LL n k = M at *
      obtain ⟨V, cV, rfl⟩ := own_form own.outer
      have ownV : wr.ownsRow w.heap.size 38 1 (.slice V k cV) k vs' := by have := own.outer; rw [HLN.out] at this; exact this
      rw [HLN.out]
      have hkI : (k : Int) < (n : Int) := by omega
      have zz := he.size
      obtain ⟨wo, rfl⟩ : ∃ wo : World, wo = wr := ⟨_, rfl⟩
      have own1 := own_new (w := wo) (g := wo.heap.size) (base := wo.heap.size) (e := 52) (size := 5) #[] 0 rfl (Nat.le_refl _) (by simp) (by simp)
      go_wp2_with fail
      go_loopw [5, 7, 17] (fun v _ i wx => ∃ j : Nat, j ≤ n ∧ i = .int .i64 j ∧ wx.ownsRow wo.heap.size 52 5 v j (ints (colTo LL k j)) ∧ Ext wo wx) (fun _ _ i _ => n - (intOf i).toNat)
      case atStart => exact ⟨0, Nat.zero_le _, rfl, own1, (by repeat (first | exact Ext.refl _ | assumption | refine Ext.alloc ?_ _ | refine Ext.drew ?_ | refine Ext.drewN ?_ _ | refine Ext.trans ?_ (by assumption)))⟩
      case round =>
        clear own1
        obtain ⟨j, hj, rfl, ownR, hx⟩ := hrel
        by_cases hlt : j < n
        · obtain ⟨g, off, B, cB, rfl, x0, rB, hRl⟩ := sq_row (hA.ext (he.trans hx)) HS.out hlt
          obtain ⟨gB, oB, rfl, hc⟩ := rB.five hRl (by omega)
          obtain ⟨y0, y1, y2, y3, y4⟩ := hc k hklt
          have HST2 : Hid (colTo LL k (j + 1) = colTo LL k j ++ [(LL.getD j []).getD (k * 5) 0, (LL.getD j []).getD (k * 5 + 1) 0, (LL.getD j []).getD (k * 5 + 2) 0, (LL.getD j []).getD (k * 5 + 3) 0, (LL.getD j []).getD (k * 5 + 4) 0]) := rfl
          generalize (LL.getD j []).getD (k * 5) 0 = p0 at *
          generalize (LL.getD j []).getD (k * 5 + 1) 0 = p1 at *
          generalize (LL.getD j []).getD (k * 5 + 2) 0 = p2 at *
          generalize (LL.getD j []).getD (k * 5 + 3) 0 = p3 at *
          generalize (LL.getD j []).getD (k * 5 + 4) 0 = p4 at *
          have HB0 : Hid (Blk (wr.alloc (.cells #[.int .i64 p0, .int .i64 p1, .int .i64 p2, .int .i64 p3, .int .i64 p4] 52)) wr.heap.size #[.int .i64 p0, .int .i64 p1, .int .i64 p2, .int .i64 p3, .int .i64 p4]) := Blk.new _ _ _
          have zz2 := hx.size
          have hjI : (j : Int) < (n : Int) := by omega
          clear hc rB hRl
          go_wp2_with (at_builtin; refine wpList_append_new rfl _ _ 38 rfl wo.heap.size 52 i0 (.agg #[.int .i64 0, .int .i64 0, .int .i64 0, .int .i64 0, .int .i64 0]) 5 40 Try.underlying38 hi hz0 hz1 hz2 rfl (by decide) _ j (ints (colTo LL k j)) rfl (ownR.alloc _) wr.heap.size 1 1 #[.int .i64 p0, .int .i64 p1, .int .i64 p2, .int .i64 p3, .int .i64 p4] rfl HB0.out rfl (by decide) (ints_one5 [p0, p1, p2, p3, p4]) ?c2 ?c3 ?c4 ?_)
          case c2 => unfold maxLen; omega
          case c3 => omega
          case c4 => simp; omega
          intro G4 c4 w4 own4 hg4 _
          have e4 := own_ext (a := wo) (hx.alloc _) (ownR.alloc _) (Nat.le_refl _) hg4
          have HO4 := Lib.hid own4
          clear own4 hg4 ownR x0 y0 y1 y2 y3 y4 hi hz0 hz1 hz2
          go_wp2
          go_roundw
          case rel => exact ⟨j + 1, by omega, by go_num, by rw [HST2.out, ints_app5]; exact HO4.out, e4⟩
          case measure => simp [intOf]; omega
        · obtain rfl : j = n := by omega
          obtain ⟨G, cG, rfl⟩ := own_form ownR
          have zz2 := hx.size
          have HB0 : Hid (Blk (wr.alloc (.cells #[.slice G j cG] 38)) wr.heap.size #[.slice G j cG]) := Blk.new _ _ _
          have ownV2 := own_ext2 ownV hx
          go_wp2_with (at_builtin; refine wpList_append_new rfl _ _ 23 rfl w.heap.size 38 i1 (.slice none 0 0) 1 24 Try.underlying23 hj1 hy0 hy1 hy2 rfl (by decide) _ k vs' rfl (ownV2.alloc _) wr.heap.size 1 1 #[.slice G j cG] rfl HB0.out rfl (by decide) (one_sl5 _ _ _) ?c2 ?c3 ?c4 ?_)
          case c2 => unfold maxLen; omega
          case c3 => omega
          case c4 => simp; omega
          intro G4 c4 w4 hw4 hg4 hb4
          have P4 := own.pushR (by decide) (B := G) (m := j) (c := cG) (R0 := colTo LL k j) (v' := .slice G4 (k + 1) c4) (w1 := wr.alloc (.cells #[.slice G j cG] 38)) (w2 := w4)
            (own_low5 (ownR.alloc _) zz) (fun b hb => (ownR.lt b hb).1) (hx.alloc _) (by rw [HLN.out]; exact hw4) (by rw [HLN.out]; exact hg4)
          have e4 := own_ext (a := w) ((he.trans hx).alloc _) (ownV2.alloc _) (Nat.le_refl _) hg4
          have HP4 := Lib.hid P4
          clear P4 hw4 hg4 hb4 ownV ownV2 ownR own hi hz0 hz1 hz2 hj1 hy0 hy1 hy2
          go_wp2
          go_roundw
          case rel => exact ⟨k + 1, _, by omega, by go_num, by rw [HST.out]; exact HP4.out, e4⟩
          case measure => simp [intOf]; omega
    · obtain rfl : k = n := by omega
      have HLN := Lib.hid (flipTo_length LL k k)
      obtain ⟨V, cV, rfl⟩ := own_form own.outer
      rw [HLN.out] at own ⊢
      go_wp2
      go_ret
      exact ⟨V, cV, vs', rfl, own, he⟩
/-- The columns of a permutation's matrix. -/
def basTo (p : List Int) (N : Nat) : Nat → List (List Int)
  | 0 => []
  | i + 1 => basTo p N i ++ [bas N (pix p i)]
theorem basTo_length (p : List Int) (N : Nat) : ∀ i, (basTo p N i).length = i
  | 0 => rfl
  | i + 1 => by rw [basTo, List.length_append, basTo_length p N i]; rfl
theorem basTo_row (p : List Int) (N : Nat) : ∀ i (j : Nat) (R : List Int), (basTo p N i)[j]? = some R → R.length = N * 5
  | 0, j, R, h => by simp [basTo] at h
  | i + 1, j, R, h => by
    rw [basTo] at h
    rcases Nat.lt_or_ge j i with h1 | h1
    · rw [List.getElem?_append_left (by rw [basTo_length]; exact h1)] at h
      exact basTo_row p N i j R h
    · rw [List.getElem?_append_right (by rw [basTo_length]; exact h1), basTo_length] at h
      rcases Nat.lt_or_ge (j - i) 1 with h2 | h2
      · rw [show j - i = 0 from by omega] at h
        simp at h
        rw [← h, bas_length]
      · rw [List.getElem?_eq_none (by simpa using h2)] at h; cases h
def pmat (p : List Int) : List (List Int) := if isPerm p = true then flipTo (basTo p (2 ^ p.length) (2 ^ p.length)) (2 ^ p.length) (2 ^ p.length) else []
end Go.Proofs.YtbihbegpjicnkaaR
