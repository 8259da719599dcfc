/-
  Contracts of the functions that exchange rows and columns. Conditions: a square of at most 16 rows.
-/
import Derived.Test.YtbihbegpjicnkaaRPM
import Derived.Outline
set_option linter.unusedSimpArgs false
set_option linter.unusedVariables false
namespace Go.Proofs.YtbihbegpjicnkaaR
open Go.RowKit
theorem sq_row {w : World} {A : Option Addr} {LL : List (List Int)} {vs : List Value} {n j : Nat} (h : Rd2 w 5 A LL vs) (hs : sq LL n) (hj : j < n) :
    ∃ g off B c, A = some ⟨g, off, none⟩ ∧ w.cell? ⟨g, off + j, none⟩ = some (.slice B n c) ∧ Rd w B (ints (LL.getD j [])) ∧ (LL.getD j []).length = n * 5 := by
  obtain ⟨g, off, B, m, c, e, h1, h2, h3, h4⟩ := h.look (j := j) (by rw [hs.1]; exact hj)
  have hR : LL[j]? = some (LL.getD j []) := by simp [List.getD, show j < LL.length by rw [hs.1]; exact hj]
  have h5 := hs.2 j _ hR
  obtain rfl : m = n := by omega
  exact ⟨g, off, B, c, e, h1, h4, h5⟩
theorem own_low5 {w : World} {base base' : Nat} {e : TypeId} {size n : Nat} {v : Value} {xs : List Value} (h : w.ownsRow base e size v n xs) (hb : base' ≤ base) : w.ownsRow base' e size v n xs := by
  obtain ⟨h1, h2 | ⟨g, cap, cur, h3, h4, h5⟩⟩ := h
  · exact ⟨h1, .inl h2⟩
  · exact ⟨h1, .inr ⟨g, cap, cur, h3, Nat.le_trans hb h4, h5⟩⟩
theorem one_sl5 (A : Option Addr) (n c : Nat) : ∀ u ∈ (#[Value.slice A n c] : Array Value).toList, u.oneCell' = true := by intro u hu; simp at hu; subst hu; rfl
theorem ints_one5 (L : List Int) : ∀ u ∈ ints L, u.oneCell' = true := by
  intro u hu
  simp only [ints, List.mem_map] at hu
  obtain ⟨x, _, rfl⟩ := hu
  rfl
set_option maxHeartbeats 800000 in
theorem spec_col (A : Option Addr) (n c : Nat) (LL : List (List Int)) (vs : List Value) (k : Nat) (w : World) (hA : Rd2 w 5 A LL vs) (hs : sq LL n) (hn : n ≤ 16) (hk : k < n) :
    Calls Try.prog 40 #[.slice A n c, .int .i64 k] w fun e w' => ∃ G cG, e = .returned (.slice G n cG) ∧ w'.ownsRow w.heap.size 52 5 (.slice G n cG) n (ints (colTo LL k n)) ∧ Ext w w' := by
  have HS := Lib.hid hs
  clear hs
  obtain ⟨i0, hi, hz0, hz1, hz2⟩ := info_parts info_dom
  have own0 := own_new (w := w) (g := w.heap.size) (base := w.heap.size) (e := 52) (size := 5) #[] 0 rfl (Nat.le_refl _) (by simp) (by simp)
  go_enter Try.func40, Try.ntmps40
  go_wp2
  go_loopw [5, 6] (fun v i wr => ∃ j : Nat, j ≤ n ∧ i = .int .i64 j ∧ wr.ownsRow w.heap.size 52 5 v j (ints (colTo LL k j)) ∧ Ext w wr) (fun _ i _ => n - (intOf i).toNat)
  case atStart => exact ⟨0, Nat.zero_le _, rfl, own0, (by repeat (first | exact Ext.refl _ | assumption | refine Ext.alloc ?_ _ | refine Ext.drew ?_ | refine Ext.drewN ?_ _ | refine Ext.trans ?_ (by assumption)))⟩
  case round =>
    clear own0
    obtain ⟨j, hj, rfl, own, he⟩ := hrel
    by_cases hlt : j < n
    · obtain ⟨g, off, B, cB, rfl, x0, rB, hRl⟩ := sq_row (hA.ext he) HS.out hlt
      obtain ⟨gB, oB, rfl, hc⟩ := rB.five hRl (by omega)
      obtain ⟨y0, y1, y2, y3, y4⟩ := hc k hk
      have HST : Hid (colTo LL k (j + 1) = colTo LL k j ++ [(LL.getD j []).getD (k * 5) 0, (LL.getD j []).getD (k * 5 + 1) 0, (LL.getD j []).getD (k * 5 + 2) 0, (LL.getD j []).getD (k * 5 + 3) 0, (LL.getD j []).getD (k * 5 + 4) 0]) := rfl
      generalize (LL.getD j []).getD (k * 5) 0 = p0 at *
      generalize (LL.getD j []).getD (k * 5 + 1) 0 = p1 at *
      generalize (LL.getD j []).getD (k * 5 + 2) 0 = p2 at *
      generalize (LL.getD j []).getD (k * 5 + 3) 0 = p3 at *
      generalize (LL.getD j []).getD (k * 5 + 4) 0 = p4 at *
      have HB0 : Hid (Blk (wr.alloc (.cells #[.int .i64 p0, .int .i64 p1, .int .i64 p2, .int .i64 p3, .int .i64 p4] 52)) wr.heap.size #[.int .i64 p0, .int .i64 p1, .int .i64 p2, .int .i64 p3, .int .i64 p4]) := Blk.new _ _ _
      have zz := he.size
      have hjI : (j : Int) < (n : Int) := by omega
      have hkI : (k : Int) < (n : Int) := by omega
      clear hc rB hRl
      go_wp2_with (at_builtin; refine wpList_append_new rfl _ _ 38 rfl w.heap.size 52 i0 (.agg #[.int .i64 0, .int .i64 0, .int .i64 0, .int .i64 0, .int .i64 0]) 5 40 Try.underlying38 hi hz0 hz1 hz2 rfl (by decide) _ j (ints (colTo LL k j)) rfl (own.alloc _) wr.heap.size 1 1 #[.int .i64 p0, .int .i64 p1, .int .i64 p2, .int .i64 p3, .int .i64 p4] rfl HB0.out rfl (by decide) (ints_one5 [p0, p1, p2, p3, p4]) ?c2 ?c3 ?c4 ?_)
      case c2 => unfold maxLen; omega
      case c3 => omega
      case c4 => simp; omega
      intro G4 c4 w4 own4 hg4 _
      have e4 := own_ext (a := w) (he.alloc _) (own.alloc _) (Nat.le_refl _) hg4
      have HO4 := Lib.hid own4
      clear own4 hg4 own x0 y0 y1 y2 y3 y4 hi hz0 hz1 hz2
      go_wp2
      go_roundw
      case rel => exact ⟨j + 1, by omega, by go_num, by rw [HST.out, ints_app5]; exact HO4.out, e4⟩
      case measure => simp [intOf]; omega
    · obtain rfl : j = n := by omega
      obtain ⟨G, cG, rfl⟩ := own_form own
      go_wp2
      go_ret
      exact ⟨G, cG, rfl, own, he⟩
theorem flip_step (LL : List (List Int)) (n i : Nat) : flipTo LL n (i + 1) = flipTo LL n i ++ [colTo LL i n] := rfl
set_option maxHeartbeats 800000 in
theorem spec_cols (A : Option Addr) (n c : Nat) (LL : List (List Int)) (vs : List Value) (w : World) (hA : Rd2 w 5 A LL vs) (hs : sq LL n) (hn : n ≤ 16) :
    Calls Try.prog 20 #[.slice A n c] w fun e w' => ∃ G cG vs', e = .returned (.slice G n cG) ∧ Own2 w' w.heap.size 38 52 5 (.slice G n cG) (flipTo LL n n) vs' ∧ Ext w w' := by
  have HS := Lib.hid hs
  clear hs
  obtain ⟨i1, hj1, hy0, hy1, hy2⟩ := info_parts info_sld
  have own0 := own_new (w := w) (g := w.heap.size) (base := w.heap.size) (e := 38) (size := 1) #[] 0 rfl (Nat.le_refl _) (by simp) (by simp)
  go_enter Try.func20, Try.ntmps20
  go_wp2
  go_loopw [3, 4] (fun v i wr => ∃ (j : Nat) (vs' : List Value), j ≤ n ∧ i = .int .i64 j ∧ Own2 wr w.heap.size 38 52 5 v (flipTo LL n j) vs' ∧ Ext w wr) (fun _ i _ => n - (intOf i).toNat)
  case atStart => exact ⟨0, [], Nat.zero_le _, rfl, Own2.nil own0, (by repeat (first | exact Ext.refl _ | assumption | refine Ext.alloc ?_ _ | refine Ext.drew ?_ | refine Ext.drewN ?_ _ | refine Ext.trans ?_ (by assumption)))⟩
  case round =>
    clear own0
    obtain ⟨j, vs', hj, rfl, own, he⟩ := hrel
    by_cases hlt : j < n
    · have HST := Lib.hid (flip_step LL n j)
      have HLN := Lib.hid (flipTo_length LL n j)
      generalize flipTo LL n j = M at *
      obtain ⟨V, cV, rfl⟩ := own_form own.outer
      have ownV : wr.ownsRow w.heap.size 38 1 (.slice V j cV) j vs' := by have := own.outer; rw [HLN.out] at this; exact this
      rw [HLN.out]
      have hjI : (j : Int) < (n : Int) := by omega
      have zz := he.size
      go_wp2_with fail
      refine (spec_col A n c LL vs j _ (hA.ext he) HS.out hn hlt).mono ?_
      rintro e w2 ⟨G, cG, rfl, ownC, h2⟩
      have zz2 := h2.size
      have HB0 : Hid (Blk (w2.alloc (.cells #[.slice G n cG] 38)) w2.heap.size #[.slice G n cG]) := Blk.new _ _ _
      have ownV2 := own_ext2 ownV h2
      go_wp2_with (at_builtin; refine wpList_append_new rfl _ _ 23 rfl w.heap.size 38 i1 (.slice none 0 0) 1 24 Try.underlying23 hj1 hy0 hy1 hy2 rfl (by decide) _ j vs' rfl (ownV2.alloc _) w2.heap.size 1 1 #[.slice G n cG] rfl HB0.out rfl (by decide) (one_sl5 _ _ _) ?c2 ?c3 ?c4 ?_)
      case c2 => unfold maxLen; omega
      case c3 => omega
      case c4 => simp; omega
      intro G4 c4 w4 hw4 hg4 hb4
      have P4 := own.pushR (by decide) (B := G) (m := n) (c := cG) (R0 := colTo LL j n) (v' := .slice G4 (j + 1) c4) (w1 := w2.alloc (.cells #[.slice G n cG] 38)) (w2 := w4)
        (own_low5 (ownC.alloc _) zz) (fun b hb => (ownC.lt b hb).1) (h2.alloc _) (by rw [HLN.out]; exact hw4) (by rw [HLN.out]; exact hg4)
      have e4 := own_ext (a := w) ((he.trans h2).alloc _) (ownV2.alloc _) (Nat.le_refl _) hg4
      have HP4 := Lib.hid P4
      clear P4 hw4 hg4 hb4 ownV ownV2 ownC own hj1 hy0 hy1 hy2
      go_wp2
      go_roundw
      case rel => exact ⟨j + 1, _, by omega, by go_num, by rw [HST.out]; exact HP4.out, e4⟩
      case measure => simp [intOf]; omega
    · obtain rfl : j = n := by omega
      have HLN := Lib.hid (flipTo_length LL j j)
      obtain ⟨V, cV, rfl⟩ := own_form own.outer
      rw [HLN.out] at own ⊢
      go_wp2
      go_ret
      exact ⟨V, cV, vs', rfl, own, he⟩
end Go.Proofs.YtbihbegpjicnkaaR
