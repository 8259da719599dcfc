/-
  Rows and columns of matrices over D[omega]: plain definitions, and the contracts of OneDOmega and BasisState. Conditions: one to four qubits, an index in range.
-/
import Derived.Test.YtkcbkbpjaccpgaaQs
import Derived.Test.YtkcbkbpjaccpgaaRows2
import Derived.Test.YtkcbkbpjaccpgaaGate
set_option linter.unusedSimpArgs false
set_option linter.unusedVariables false
namespace Go.Proofs.Ytkcbkbpjaccpgaa
open Go.RowKit
def cell5 (R : List Int) (k : Nat) : List Int := [R.getD (k * 5) 0, R.getD (k * 5 + 1) 0, R.getD (k * 5 + 2) 0, R.getD (k * 5 + 3) 0, R.getD (k * 5 + 4) 0]
def colTo (LL : List (List Int)) (k : Nat) : Nat → List Int
  | 0 => []
  | j + 1 => colTo LL k j ++ cell5 (LL.getD j []) k
def flipTo (LL : List (List Int)) (n : Nat) : Nat → List (List Int)
  | 0 => []
  | i + 1 => flipTo LL n i ++ [colTo LL i n]
def bas (N i : Nat) : List Int := (List.replicate (N * 5) 0).set (i * 5) 1
theorem bas_length (N i : Nat) : (bas N i).length = N * 5 := by simp [bas]
theorem colTo_length (LL : List (List Int)) (k : Nat) : ∀ j, (colTo LL k j).length = j * 5
  | 0 => rfl
  | j + 1 => by rw [colTo, List.length_append, colTo_length LL k j]; simp only [cell5, List.length_cons, List.length_nil]; omega
theorem flipTo_length (LL : List (List Int)) (n : Nat) : ∀ i, (flipTo LL n i).length = i
  | 0 => rfl
  | i + 1 => by rw [flipTo, List.length_append, flipTo_length LL n i]; rfl
/-- n rows of n numbers. -/
def sq (LL : List (List Int)) (n : Nat) : Prop := LL.length = n ∧ ∀ (j : Nat) (R : List Int), LL[j]? = some R → R.length = n * 5
theorem ints_app5 (a b : List Int) : ints (a ++ b) = ints a ++ ints b := by simp [ints]
theorem info_dom : (Try.prog.info? 42).map (fun i => (i.zero, i.size, i.bytes)) = some (some (.agg #[.int .i64 0, .int .i64 0, .int .i64 0, .int .i64 0, .int .i64 0]), 5, 40) := by kernel_rfl
theorem info_sld : (Try.prog.info? 36).map (fun i => (i.zero, i.size, i.bytes)) = some (some (.slice none 0 0), 1, 24) := by kernel_rfl
theorem made5 (m : Nat) (z : Array Value) (hs : 0 < z.size) (h : ∀ i, i < z.size → z[i]! = .int .i64 0) : (madeCells z m).toList = ints (List.replicate m 0) := by
  unfold madeCells ints
  rw [Array.toList_map, List.map_replicate, List.eq_replicate_iff]
  refine ⟨by simp, fun b hb => ?_⟩
  simp only [List.mem_map] at hb
  obtain ⟨i, _, rfl⟩ := hb
  exact h _ (Nat.mod_lt _ hs)
theorem set_noop (n a b : Nat) (h : b ≠ a) : ((List.replicate n (0 : Int)).set a 1).set b 0 = (List.replicate n (0 : Int)).set a 1 := by
  apply List.ext_getElem?
  intro i
  by_cases hi : b = i
  · subst hi
    rw [List.getElem?_set, if_pos rfl, List.getElem?_set_ne (fun e => h e.symm)]
    simp only [List.length_set, List.length_replicate, List.getElem?_replicate]
  · rw [List.getElem?_set_ne hi]
theorem ints_set (l : List Int) (j : Nat) (x : Int) : (ints l).set j (.int .i64 x) = ints (l.set j x) := by simp [ints, List.map_set]
theorem own_five {w : World} {base g N : Nat} {e : TypeId} (h : w.ownsRow base e 5 (.slice (some ⟨g, 0, none⟩) N N) N (ints (List.replicate (N * 5) 0))) (i : Nat) (hi : i < N) :
    w.cell? ⟨g, i * 5, none⟩ = some (.int .i64 0) ∧ w.cell? ⟨g, i * 5 + 1, none⟩ = some (.int .i64 0) ∧ w.cell? ⟨g, i * 5 + 2, none⟩ = some (.int .i64 0) ∧ w.cell? ⟨g, i * 5 + 3, none⟩ = some (.int .i64 0) ∧ w.cell? ⟨g, i * 5 + 4, none⟩ = some (.int .i64 0) ∧
    w.frozen? ⟨g, i * 5, none⟩ = false ∧ w.frozen? ⟨g, i * 5 + 1, none⟩ = false ∧ w.frozen? ⟨g, i * 5 + 2, none⟩ = false ∧ w.frozen? ⟨g, i * 5 + 3, none⟩ = false ∧ w.frozen? ⟨g, i * 5 + 4, none⟩ = false ∧
    (((((w.setCell ⟨g, i * 5, none⟩ (.int .i64 1)).setCell ⟨g, i * 5 + 1, none⟩ (.int .i64 0)).setCell ⟨g, i * 5 + 2, none⟩ (.int .i64 0)).setCell ⟨g, i * 5 + 3, none⟩ (.int .i64 0)).setCell ⟨g, i * 5 + 4, none⟩ (.int .i64 0)).ownsRow base e 5 (.slice (some ⟨g, 0, none⟩) N N) N (ints (bas N i)) := by
  have at_ : ∀ j, j < N * 5 → w.cell? ⟨g, j, none⟩ = some (.int .i64 0) := by
    intro j hj
    rw [h.cellAt j hj]
    simp [ints, hj]
  refine ⟨at_ _ (by omega), at_ _ (by omega), at_ _ (by omega), at_ _ (by omega), at_ _ (by omega), h.frozenAt _, h.frozenAt _, h.frozenAt _, h.frozenAt _, h.frozenAt _, ?_⟩
  have h1 := (h.stored (i * 5) (.int .i64 1)).1
  have h2 := (h1.stored (i * 5 + 1) (.int .i64 0)).1
  have h3 := (h2.stored (i * 5 + 2) (.int .i64 0)).1
  have h4 := (h3.stored (i * 5 + 3) (.int .i64 0)).1
  have h5 := (h4.stored (i * 5 + 4) (.int .i64 0)).1
  rw [ints_set, ints_set, ints_set, ints_set, ints_set, set_noop _ _ _ (by omega), set_noop _ _ _ (by omega), set_noop _ _ _ (by omega), set_noop _ _ _ (by omega)] at h5
  exact h5
theorem impl_one (w : World) : Calls Try.prog 34 #[] w fun e w' => e = .returned (.agg #[.int .i64 1, .int .i64 0, .int .i64 0, .int .i64 0, .int .i64 0]) ∧ Ext w w' := by
  go_enter Try.func34, Try.ntmps34
  go_wp2
  refine bodyPost_ret (v := .agg #[.int .i64 1, .int .i64 0, .int .i64 0, .int .i64 0, .int .i64 0]) (by simp [results, Try.results34, go_sem]) rfl ⟨rfl, (by repeat (first | exact Ext.refl _ | assumption | refine Ext.alloc ?_ _ | refine Ext.drew ?_ | refine Ext.drewN ?_ _ | refine Ext.trans ?_ (by assumption)))⟩
theorem spec_one (w : World) : Calls Try.prog 31 #[] w fun e w' => e = .returned (.agg #[.int .i64 1, .int .i64 0, .int .i64 0, .int .i64 0, .int .i64 0]) ∧ Ext w w' := by
  go_enter Try.func31, Try.ntmps31
  go_wp2
  refine bodyPost_ret (v := .agg #[.int .i64 1, .int .i64 0, .int .i64 0, .int .i64 0, .int .i64 0]) (by simp [results, Try.results31, go_sem]) rfl ⟨rfl, (by repeat (first | exact Ext.refl _ | assumption | refine Ext.alloc ?_ _ | refine Ext.drew ?_ | refine Ext.drewN ?_ _ | refine Ext.trans ?_ (by assumption)))⟩
set_option maxHeartbeats 800000 in
theorem impl_basis1 (i : Nat) (w : World) (hi : i < 2) : Calls Try.prog 28 #[.int .i64 1, .int .i64 i] w fun e w' => e = .returned (.slice (some ⟨w.heap.size, 0, none⟩) 2 2) ∧ w'.ownsRow w.heap.size 42 5 (.slice (some ⟨w.heap.size, 0, none⟩) 2 2) 2 (ints (bas 2 i)) ∧ Ext w w' := by
  have hb : inB (i : Int) 0 1 = true := by unfold inB; simp; omega
  have hn : inB (1 : Int) 1 4 = true := rfl
  obtain ⟨i0, hi0, hz0, hz1, hz2⟩ := info_parts info_dom
  have hiI : (i : Int) < 2 := by omega
  go_enter Try.func28, Try.ntmps28
  go_wp2_with (first | (go_at_call 18; refine (impl_in _ _ _ _).mono ?_; rintro e w' ⟨rfl, rfl⟩) | (at_make; refine wpList_make_full _ rfl _ _ 36 rfl w.heap.size 42 i0 (.agg #[.int .i64 0, .int .i64 0, .int .i64 0, .int .i64 0, .int .i64 0]) 5 Try.underlying36 hi0 hz0 hz1 .i64 .i64 _ _ 2 rfl rfl rfl rfl ?b2 ?b3 ?b4 ?_))
  case b2 => rw [hz2]; omega
  case b3 => unfold maxLen; omega
  case b4 => exact Nat.le_refl _
  intro w1 hown hgrow
  have h01 : Ext w w1 := (Ext.refl w).grown hgrow (by simp)
  rw [made5 _ _ (by simp) (by intro i hi; simp at hi; (obtain rfl | rfl | rfl | rfl | rfl : i = 0 ∨ i = 1 ∨ i = 2 ∨ i = 3 ∨ i = 4 := by omega) <;> rfl)] at hown
  clear hgrow hi0 hz0 hz1 hz2
  go_wp2_with fail
  refine (impl_one _).mono ?_
  rintro e w2 ⟨rfl, h2⟩
  have h02 := h01.trans h2
  have own2 := own_ext2 hown h2
  obtain ⟨c0, c1, c2, c3, c4, f0, f1, f2, f3, f4, O⟩ := own_five own2 i (by omega)
  have HO := Lib.hid O
  have hgz := (own2.lt _ rfl).2
  clear O own2 hown h01 h2
  go_wp2
  go_ret
  exact ⟨rfl, HO.out, ((((h02.setCell (Nat.le_refl _) _).setCell (Nat.le_refl _) _).setCell (Nat.le_refl _) _).setCell (Nat.le_refl _) _).setCell (Nat.le_refl _) _⟩
set_option maxHeartbeats 800000 in
theorem impl_basis2 (i : Nat) (w : World) (hi : i < 4) : Calls Try.prog 28 #[.int .i64 2, .int .i64 i] w fun e w' => e = .returned (.slice (some ⟨w.heap.size, 0, none⟩) 4 4) ∧ w'.ownsRow w.heap.size 42 5 (.slice (some ⟨w.heap.size, 0, none⟩) 4 4) 4 (ints (bas 4 i)) ∧ Ext w w' := by
  have hb : inB (i : Int) 0 3 = true := by unfold inB; simp; omega
  have hn : inB (2 : Int) 1 4 = true := rfl
  obtain ⟨i0, hi0, hz0, hz1, hz2⟩ := info_parts info_dom
  have hiI : (i : Int) < 4 := by omega
  go_enter Try.func28, Try.ntmps28
  go_wp2_with (first | (go_at_call 18; refine (impl_in _ _ _ _).mono ?_; rintro e w' ⟨rfl, rfl⟩) | (at_make; refine wpList_make_full _ rfl _ _ 36 rfl w.heap.size 42 i0 (.agg #[.int .i64 0, .int .i64 0, .int .i64 0, .int .i64 0, .int .i64 0]) 5 Try.underlying36 hi0 hz0 hz1 .i64 .i64 _ _ 4 rfl rfl rfl rfl ?b2 ?b3 ?b4 ?_))
  case b2 => rw [hz2]; omega
  case b3 => unfold maxLen; omega
  case b4 => exact Nat.le_refl _
  intro w1 hown hgrow
  have h01 : Ext w w1 := (Ext.refl w).grown hgrow (by simp)
  rw [made5 _ _ (by simp) (by intro i hi; simp at hi; (obtain rfl | rfl | rfl | rfl | rfl : i = 0 ∨ i = 1 ∨ i = 2 ∨ i = 3 ∨ i = 4 := by omega) <;> rfl)] at hown
  clear hgrow hi0 hz0 hz1 hz2
  go_wp2_with fail
  refine (impl_one _).mono ?_
  rintro e w2 ⟨rfl, h2⟩
  have h02 := h01.trans h2
  have own2 := own_ext2 hown h2
  obtain ⟨c0, c1, c2, c3, c4, f0, f1, f2, f3, f4, O⟩ := own_five own2 i (by omega)
  have HO := Lib.hid O
  have hgz := (own2.lt _ rfl).2
  clear O own2 hown h01 h2
  go_wp2
  go_ret
  exact ⟨rfl, HO.out, ((((h02.setCell (Nat.le_refl _) _).setCell (Nat.le_refl _) _).setCell (Nat.le_refl _) _).setCell (Nat.le_refl _) _).setCell (Nat.le_refl _) _⟩
set_option maxHeartbeats 800000 in
theorem impl_basis3 (i : Nat) (w : World) (hi : i < 8) : Calls Try.prog 28 #[.int .i64 3, .int .i64 i] w fun e w' => e = .returned (.slice (some ⟨w.heap.size, 0, none⟩) 8 8) ∧ w'.ownsRow w.heap.size 42 5 (.slice (some ⟨w.heap.size, 0, none⟩) 8 8) 8 (ints (bas 8 i)) ∧ Ext w w' := by
  have hb : inB (i : Int) 0 7 = true := by unfold inB; simp; omega
  have hn : inB (3 : Int) 1 4 = true := rfl
  obtain ⟨i0, hi0, hz0, hz1, hz2⟩ := info_parts info_dom
  have hiI : (i : Int) < 8 := by omega
  go_enter Try.func28, Try.ntmps28
  go_wp2_with (first | (go_at_call 18; refine (impl_in _ _ _ _).mono ?_; rintro e w' ⟨rfl, rfl⟩) | (at_make; refine wpList_make_full _ rfl _ _ 36 rfl w.heap.size 42 i0 (.agg #[.int .i64 0, .int .i64 0, .int .i64 0, .int .i64 0, .int .i64 0]) 5 Try.underlying36 hi0 hz0 hz1 .i64 .i64 _ _ 8 rfl rfl rfl rfl ?b2 ?b3 ?b4 ?_))
  case b2 => rw [hz2]; omega
  case b3 => unfold maxLen; omega
  case b4 => exact Nat.le_refl _
  intro w1 hown hgrow
  have h01 : Ext w w1 := (Ext.refl w).grown hgrow (by simp)
  rw [made5 _ _ (by simp) (by intro i hi; simp at hi; (obtain rfl | rfl | rfl | rfl | rfl : i = 0 ∨ i = 1 ∨ i = 2 ∨ i = 3 ∨ i = 4 := by omega) <;> rfl)] at hown
  clear hgrow hi0 hz0 hz1 hz2
  go_wp2_with fail
  refine (impl_one _).mono ?_
  rintro e w2 ⟨rfl, h2⟩
  have h02 := h01.trans h2
  have own2 := own_ext2 hown h2
  obtain ⟨c0, c1, c2, c3, c4, f0, f1, f2, f3, f4, O⟩ := own_five own2 i (by omega)
  have HO := Lib.hid O
  have hgz := (own2.lt _ rfl).2
  clear O own2 hown h01 h2
  go_wp2
  go_ret
  exact ⟨rfl, HO.out, ((((h02.setCell (Nat.le_refl _) _).setCell (Nat.le_refl _) _).setCell (Nat.le_refl _) _).setCell (Nat.le_refl _) _).setCell (Nat.le_refl _) _⟩
set_option maxHeartbeats 800000 in
theorem impl_basis4 (i : Nat) (w : World) (hi : i < 16) : Calls Try.prog 28 #[.int .i64 4, .int .i64 i] w fun e w' => e = .returned (.slice (some ⟨w.heap.size, 0, none⟩) 16 16) ∧ w'.ownsRow w.heap.size 42 5 (.slice (some ⟨w.heap.size, 0, none⟩) 16 16) 16 (ints (bas 16 i)) ∧ Ext w w' := by
  have hb : inB (i : Int) 0 15 = true := by unfold inB; simp; omega
  have hn : inB (4 : Int) 1 4 = true := rfl
  obtain ⟨i0, hi0, hz0, hz1, hz2⟩ := info_parts info_dom
  have hiI : (i : Int) < 16 := by omega
  go_enter Try.func28, Try.ntmps28
  go_wp2_with (first | (go_at_call 18; refine (impl_in _ _ _ _).mono ?_; rintro e w' ⟨rfl, rfl⟩) | (at_make; refine wpList_make_full _ rfl _ _ 36 rfl w.heap.size 42 i0 (.agg #[.int .i64 0, .int .i64 0, .int .i64 0, .int .i64 0, .int .i64 0]) 5 Try.underlying36 hi0 hz0 hz1 .i64 .i64 _ _ 16 rfl rfl rfl rfl ?b2 ?b3 ?b4 ?_))
  case b2 => rw [hz2]; omega
  case b3 => unfold maxLen; omega
  case b4 => exact Nat.le_refl _
  intro w1 hown hgrow
  have h01 : Ext w w1 := (Ext.refl w).grown hgrow (by simp)
  rw [made5 _ _ (by simp) (by intro i hi; simp at hi; (obtain rfl | rfl | rfl | rfl | rfl : i = 0 ∨ i = 1 ∨ i = 2 ∨ i = 3 ∨ i = 4 := by omega) <;> rfl)] at hown
  clear hgrow hi0 hz0 hz1 hz2
  go_wp2_with fail
  refine (impl_one _).mono ?_
  rintro e w2 ⟨rfl, h2⟩
  have h02 := h01.trans h2
  have own2 := own_ext2 hown h2
  obtain ⟨c0, c1, c2, c3, c4, f0, f1, f2, f3, f4, O⟩ := own_five own2 i (by omega)
  have HO := Lib.hid O
  have hgz := (own2.lt _ rfl).2
  clear O own2 hown h01 h2
  go_wp2
  go_ret
  exact ⟨rfl, HO.out, ((((h02.setCell (Nat.le_refl _) _).setCell (Nat.le_refl _) _).setCell (Nat.le_refl _) _).setCell (Nat.le_refl _) _).setCell (Nat.le_refl _) _⟩
set_option maxHeartbeats 800000 in
theorem spec_basis1 (i : Nat) (w : World) (hi : i < 2) : Calls Try.prog 25 #[.int .i64 1, .int .i64 i] w fun e w' => e = .returned (.slice (some ⟨w.heap.size, 0, none⟩) 2 2) ∧ w'.ownsRow w.heap.size 42 5 (.slice (some ⟨w.heap.size, 0, none⟩) 2 2) 2 (ints (bas 2 i)) ∧ Ext w w' := by
  have hb : inB (i : Int) 0 1 = true := by unfold inB; simp; omega
  have hn : inB (1 : Int) 1 4 = true := rfl
  obtain ⟨i0, hi0, hz0, hz1, hz2⟩ := info_parts info_dom
  have hiI : (i : Int) < 2 := by omega
  go_enter Try.func25, Try.ntmps25
  go_wp2_with (first | (go_at_call 13; refine (spec_in _ _ _ _).mono ?_; rintro e w' ⟨rfl, rfl⟩) | (at_make; refine wpList_make_full _ rfl _ _ 36 rfl w.heap.size 42 i0 (.agg #[.int .i64 0, .int .i64 0, .int .i64 0, .int .i64 0, .int .i64 0]) 5 Try.underlying36 hi0 hz0 hz1 .i64 .i64 _ _ 2 rfl rfl rfl rfl ?b2 ?b3 ?b4 ?_))
  case b2 => rw [hz2]; omega
  case b3 => unfold maxLen; omega
  case b4 => exact Nat.le_refl _
  intro w1 hown hgrow
  have h01 : Ext w w1 := (Ext.refl w).grown hgrow (by simp)
  rw [made5 _ _ (by simp) (by intro i hi; simp at hi; (obtain rfl | rfl | rfl | rfl | rfl : i = 0 ∨ i = 1 ∨ i = 2 ∨ i = 3 ∨ i = 4 := by omega) <;> rfl)] at hown
  clear hgrow hi0 hz0 hz1 hz2
  go_wp2_with fail
  refine (spec_one _).mono ?_
  rintro e w2 ⟨rfl, h2⟩
  have h02 := h01.trans h2
  have own2 := own_ext2 hown h2
  obtain ⟨c0, c1, c2, c3, c4, f0, f1, f2, f3, f4, O⟩ := own_five own2 i (by omega)
  have HO := Lib.hid O
  have hgz := (own2.lt _ rfl).2
  clear O own2 hown h01 h2
  go_wp2
  go_ret
  exact ⟨rfl, HO.out, ((((h02.setCell (Nat.le_refl _) _).setCell (Nat.le_refl _) _).setCell (Nat.le_refl _) _).setCell (Nat.le_refl _) _).setCell (Nat.le_refl _) _⟩
set_option maxHeartbeats 800000 in
theorem spec_basis2 (i : Nat) (w : World) (hi : i < 4) : Calls Try.prog 25 #[.int .i64 2, .int .i64 i] w fun e w' => e = .returned (.slice (some ⟨w.heap.size, 0, none⟩) 4 4) ∧ w'.ownsRow w.heap.size 42 5 (.slice (some ⟨w.heap.size, 0, none⟩) 4 4) 4 (ints (bas 4 i)) ∧ Ext w w' := by
  have hb : inB (i : Int) 0 3 = true := by unfold inB; simp; omega
  have hn : inB (2 : Int) 1 4 = true := rfl
  obtain ⟨i0, hi0, hz0, hz1, hz2⟩ := info_parts info_dom
  have hiI : (i : Int) < 4 := by omega
  go_enter Try.func25, Try.ntmps25
  go_wp2_with (first | (go_at_call 13; refine (spec_in _ _ _ _).mono ?_; rintro e w' ⟨rfl, rfl⟩) | (at_make; refine wpList_make_full _ rfl _ _ 36 rfl w.heap.size 42 i0 (.agg #[.int .i64 0, .int .i64 0, .int .i64 0, .int .i64 0, .int .i64 0]) 5 Try.underlying36 hi0 hz0 hz1 .i64 .i64 _ _ 4 rfl rfl rfl rfl ?b2 ?b3 ?b4 ?_))
  case b2 => rw [hz2]; omega
  case b3 => unfold maxLen; omega
  case b4 => exact Nat.le_refl _
  intro w1 hown hgrow
  have h01 : Ext w w1 := (Ext.refl w).grown hgrow (by simp)
  rw [made5 _ _ (by simp) (by intro i hi; simp at hi; (obtain rfl | rfl | rfl | rfl | rfl : i = 0 ∨ i = 1 ∨ i = 2 ∨ i = 3 ∨ i = 4 := by omega) <;> rfl)] at hown
  clear hgrow hi0 hz0 hz1 hz2
  go_wp2_with fail
  refine (spec_one _).mono ?_
  rintro e w2 ⟨rfl, h2⟩
  have h02 := h01.trans h2
  have own2 := own_ext2 hown h2
  obtain ⟨c0, c1, c2, c3, c4, f0, f1, f2, f3, f4, O⟩ := own_five own2 i (by omega)
  have HO := Lib.hid O
  have hgz := (own2.lt _ rfl).2
  clear O own2 hown h01 h2
  go_wp2
  go_ret
  exact ⟨rfl, HO.out, ((((h02.setCell (Nat.le_refl _) _).setCell (Nat.le_refl _) _).setCell (Nat.le_refl _) _).setCell (Nat.le_refl _) _).setCell (Nat.le_refl _) _⟩
set_option maxHeartbeats 800000 in
theorem spec_basis3 (i : Nat) (w : World) (hi : i < 8) : Calls Try.prog 25 #[.int .i64 3, .int .i64 i] w fun e w' => e = .returned (.slice (some ⟨w.heap.size, 0, none⟩) 8 8) ∧ w'.ownsRow w.heap.size 42 5 (.slice (some ⟨w.heap.size, 0, none⟩) 8 8) 8 (ints (bas 8 i)) ∧ Ext w w' := by
  have hb : inB (i : Int) 0 7 = true := by unfold inB; simp; omega
  have hn : inB (3 : Int) 1 4 = true := rfl
  obtain ⟨i0, hi0, hz0, hz1, hz2⟩ := info_parts info_dom
  have hiI : (i : Int) < 8 := by omega
  go_enter Try.func25, Try.ntmps25
  go_wp2_with (first | (go_at_call 13; refine (spec_in _ _ _ _).mono ?_; rintro e w' ⟨rfl, rfl⟩) | (at_make; refine wpList_make_full _ rfl _ _ 36 rfl w.heap.size 42 i0 (.agg #[.int .i64 0, .int .i64 0, .int .i64 0, .int .i64 0, .int .i64 0]) 5 Try.underlying36 hi0 hz0 hz1 .i64 .i64 _ _ 8 rfl rfl rfl rfl ?b2 ?b3 ?b4 ?_))
  case b2 => rw [hz2]; omega
  case b3 => unfold maxLen; omega
  case b4 => exact Nat.le_refl _
  intro w1 hown hgrow
  have h01 : Ext w w1 := (Ext.refl w).grown hgrow (by simp)
  rw [made5 _ _ (by simp) (by intro i hi; simp at hi; (obtain rfl | rfl | rfl | rfl | rfl : i = 0 ∨ i = 1 ∨ i = 2 ∨ i = 3 ∨ i = 4 := by omega) <;> rfl)] at hown
  clear hgrow hi0 hz0 hz1 hz2
  go_wp2_with fail
  refine (spec_one _).mono ?_
  rintro e w2 ⟨rfl, h2⟩
  have h02 := h01.trans h2
  have own2 := own_ext2 hown h2
  obtain ⟨c0, c1, c2, c3, c4, f0, f1, f2, f3, f4, O⟩ := own_five own2 i (by omega)
  have HO := Lib.hid O
  have hgz := (own2.lt _ rfl).2
  clear O own2 hown h01 h2
  go_wp2
  go_ret
  exact ⟨rfl, HO.out, ((((h02.setCell (Nat.le_refl _) _).setCell (Nat.le_refl _) _).setCell (Nat.le_refl _) _).setCell (Nat.le_refl _) _).setCell (Nat.le_refl _) _⟩
set_option maxHeartbeats 800000 in
theorem spec_basis4 (i : Nat) (w : World) (hi : i < 16) : Calls Try.prog 25 #[.int .i64 4, .int .i64 i] w fun e w' => e = .returned (.slice (some ⟨w.heap.size, 0, none⟩) 16 16) ∧ w'.ownsRow w.heap.size 42 5 (.slice (some ⟨w.heap.size, 0, none⟩) 16 16) 16 (ints (bas 16 i)) ∧ Ext w w' := by
  have hb : inB (i : Int) 0 15 = true := by unfold inB; simp; omega
  have hn : inB (4 : Int) 1 4 = true := rfl
  obtain ⟨i0, hi0, hz0, hz1, hz2⟩ := info_parts info_dom
  have hiI : (i : Int) < 16 := by omega
  go_enter Try.func25, Try.ntmps25
  go_wp2_with (first | (go_at_call 13; refine (spec_in _ _ _ _).mono ?_; rintro e w' ⟨rfl, rfl⟩) | (at_make; refine wpList_make_full _ rfl _ _ 36 rfl w.heap.size 42 i0 (.agg #[.int .i64 0, .int .i64 0, .int .i64 0, .int .i64 0, .int .i64 0]) 5 Try.underlying36 hi0 hz0 hz1 .i64 .i64 _ _ 16 rfl rfl rfl rfl ?b2 ?b3 ?b4 ?_))
  case b2 => rw [hz2]; omega
  case b3 => unfold maxLen; omega
  case b4 => exact Nat.le_refl _
  intro w1 hown hgrow
  have h01 : Ext w w1 := (Ext.refl w).grown hgrow (by simp)
  rw [made5 _ _ (by simp) (by intro i hi; simp at hi; (obtain rfl | rfl | rfl | rfl | rfl : i = 0 ∨ i = 1 ∨ i = 2 ∨ i = 3 ∨ i = 4 := by omega) <;> rfl)] at hown
  clear hgrow hi0 hz0 hz1 hz2
  go_wp2_with fail
  refine (spec_one _).mono ?_
  rintro e w2 ⟨rfl, h2⟩
  have h02 := h01.trans h2
  have own2 := own_ext2 hown h2
  obtain ⟨c0, c1, c2, c3, c4, f0, f1, f2, f3, f4, O⟩ := own_five own2 i (by omega)
  have HO := Lib.hid O
  have hgz := (own2.lt _ rfl).2
  clear O own2 hown h01 h2
  go_wp2
  go_ret
  exact ⟨rfl, HO.out, ((((h02.setCell (Nat.le_refl _) _).setCell (Nat.le_refl _) _).setCell (Nat.le_refl _) _).setCell (Nat.le_refl _) _).setCell (Nat.le_refl _) _⟩
theorem impl_basis (m i : Nat) (w : World) (h1 : 1 ≤ m) (h4 : m ≤ 4) (hi : i < 2 ^ m) : Calls Try.prog 28 #[.int .i64 m, .int .i64 i] w fun e w' => e = .returned (.slice (some ⟨w.heap.size, 0, none⟩) (2 ^ m) (2 ^ m)) ∧ w'.ownsRow w.heap.size 42 5 (.slice (some ⟨w.heap.size, 0, none⟩) (2 ^ m) (2 ^ m)) (2 ^ m) (ints (bas (2 ^ m) i)) ∧ Ext w w' := by
  obtain rfl | rfl | rfl | rfl : m = 1 ∨ m = 2 ∨ m = 3 ∨ m = 4 := by omega
  · exact impl_basis1 i w hi
  · exact impl_basis2 i w hi
  · exact impl_basis3 i w hi
  · exact impl_basis4 i w hi
theorem spec_basis (m i : Nat) (w : World) (h1 : 1 ≤ m) (h4 : m ≤ 4) (hi : i < 2 ^ m) : Calls Try.prog 25 #[.int .i64 m, .int .i64 i] w fun e w' => e = .returned (.slice (some ⟨w.heap.size, 0, none⟩) (2 ^ m) (2 ^ m)) ∧ w'.ownsRow w.heap.size 42 5 (.slice (some ⟨w.heap.size, 0, none⟩) (2 ^ m) (2 ^ m)) (2 ^ m) (ints (bas (2 ^ m) i)) ∧ Ext w w' := by
  obtain rfl | rfl | rfl | rfl : m = 1 ∨ m = 2 ∨ m = 3 ∨ m = 4 := by omega
  · exact spec_basis1 i w hi
  · exact spec_basis2 i w hi
  · exact spec_basis3 i w hi
  · exact spec_basis4 i w hi
end Go.Proofs.Ytkcbkbpjaccpgaa
