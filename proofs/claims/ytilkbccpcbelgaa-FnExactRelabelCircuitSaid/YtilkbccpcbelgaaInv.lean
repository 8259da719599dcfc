/-
  Contracts of InverseCircuit. Conditions: the slices read as rows.
-/
import Derived.Test.YtilkbccpcbelgaaCat3
import Derived.Test.YtilkbccpcbelgaaPerm4
set_option linter.unusedSimpArgs false
set_option linter.unusedVariables false
namespace Go.Proofs.Ytilkbccpcbelgaa
open Go.RowKit
/-- The first j gates of the inverse of the n gates in the row L. -/
def invC (L : List Int) (n : Nat) : Nat → List Int
  | 0 => []
  | j + 1 => invC L n j ++ [invK (L.getD ((n - 1 - j) * 4) 0), L.getD ((n - 1 - j) * 4 + 1) 0, L.getD ((n - 1 - j) * 4 + 2) 0, L.getD ((n - 1 - j) * 4 + 3) 0]
theorem invC_length (L : List Int) (n : Nat) : ∀ j, (invC L n j).length = j * 4
  | 0 => rfl
  | j + 1 => by simp [invC, invC_length L n j]; omega
set_option maxHeartbeats 800000 in
theorem impl_inverted (A : Option Addr) (n c : Nat) (L : List Int) (w : World) (hA : Rd w A (ints L)) (hl : L.length = n * 4) (hn : n ≤ 1048576) :
    Calls Try.prog 63 #[.slice A n c] w fun e w' => ∃ G cG, e = .returned (.slice G n cG) ∧ Fr w' w.heap.size w'.heap.size G (ints (invC L n n)) ∧ Ext w w' := by
  have HL := Lib.hid hl
  clear hl
  obtain ⟨i0, hi, hz0, hz1, hz2⟩ := info_parts info_gate
  have HO := Lib.hid (own_new (w := w) (g := w.heap.size) (base := w.heap.size) (e := 80) (size := 4) #[] 0 rfl (Nat.le_refl _) (by simp) (by simp))
  go_enter Try.func63, Try.ntmps63
  go_wp2
  go_loopw [3, 4] (fun v i wr => ∃ j m : Nat, j + m = n ∧ i = .int .i64 ((m : Int) - 1) ∧ wr.ownsRow w.heap.size 80 4 v j (ints (invC L n j)) ∧ Ext w wr) (fun _ i _ => (intOf i + 1).toNat)
  case atStart => exact ⟨0, n, by omega, rfl, HO.out, (by repeat (first | exact Ext.refl _ | assumption | refine Ext.alloc ?_ _ | refine Ext.drew ?_ | refine Ext.drewN ?_ _ | refine Ext.trans ?_ (by assumption)))⟩
  case round =>
    obtain ⟨j, m, hjm, rfl, hown, he⟩ := hrel
    cases m with
    | zero =>
      obtain rfl : j = n := by omega
      obtain ⟨G, cap, rfl⟩ := own_form hown
      have hf := Fr.of_own hown
      clear hown hi hz0 hz1 hz2
      go_wp2
      go_ret
      exact ⟨_, _, rfl, hf, he⟩
    | succ m =>
      rw [show (((m + 1 : Nat) : Int) - 1) = (m : Int) from by omega]
      have hmn : m < n := by omega
      obtain ⟨g, off, rfl, hc⟩ := (hA.ext he).four HL.out (by omega)
      obtain ⟨x0, x1, x2, x3⟩ := hc m hmn
      have HS : Hid (invC L n (j + 1) = invC L n j ++ [invK (L.getD (m * 4) 0), L.getD (m * 4 + 1) 0, L.getD (m * 4 + 2) 0, L.getD (m * 4 + 3) 0]) := by
        show _ = _
        rw [invC, show n - 1 - j = m from by omega]
      clear hc
      generalize L.getD (m * 4) 0 = p0 at *
      generalize L.getD (m * 4 + 1) 0 = p1 at *
      generalize L.getD (m * 4 + 2) 0 = p2 at *
      generalize L.getD (m * 4 + 3) 0 = p3 at *
      have HJ := Lib.hid hjm
      clear hjm
      go_wp2_with fail
      refine (impl_inverseGate p0 p1 p2 p3 _).mono ?_
      rintro e w2 ⟨rfl, h2⟩
      clear x0 x1 x2 x3
      replace hown := own_at hown h2
      replace he := he.trans h2
      have zz := he.size
      clear h2
      have rd2 : Rd (w2.alloc (.cells #[.int .i64 (invK p0), .int .i64 p1, .int .i64 p2, .int .i64 p3] 80)) (some ⟨w2.heap.size, 0, none⟩) (ints [invK p0, p1, p2, p3]) :=
        (Fr.of_blk (lo := 0) (hi := w2.heap.size + 1) (off := 0) (Blk.new w2 80 #[.int .i64 (invK p0), .int .i64 p1, .int .i64 p2, .int .i64 p3]) (Nat.zero_le _) (Nat.lt_succ_self _) (fun j u hu => by rw [Nat.zero_add]; simpa [ints] using hu)).rd
      go_wp2_with (at_builtin; refine wpList_append_rd rfl _ _ 26 rfl w.heap.size 80 i0 (.agg #[.int .i64 0, .int .i64 0, .int .i64 0, .int .i64 0]) 4 32 Try.underlying26 hi hz0 hz1 hz2 rfl (by decide) _ j (ints (invC L n j)) rfl (hown.alloc _) (some ⟨w2.heap.size, 0, none⟩) 1 1 (ints [invK p0, p1, p2, p3]) rfl rfl rd2 (fun h => by cases h) (ints_one _) ?c3 ?c4 ?c5 ?_)
      case c3 => have := HJ.out; unfold maxLen; omega
      case c4 => have := HJ.out; omega
      case c5 => simp; omega
      intro v' w3 hown' hgrow
      have he' := own_ext (he.alloc _) (hown.alloc _) (Nat.le_refl _) hgrow
      have HO' : Hid (w3.ownsRow w.heap.size 80 4 v' (j + 1) (ints (invC L n (j + 1)))) := by
        show World.ownsRow _ _ _ _ _ _ _
        rw [HS.out, ints_app]; exact hown'
      clear hown' hgrow hown he rd2
      go_wp2
      go_roundw
      case rel => exact ⟨j + 1, m, by have := HJ.out; omega, rfl, HO'.out, he'⟩
      case measure => simp [intOf]
set_option maxRecDepth 20000 in
set_option maxHeartbeats 1600000 in
theorem impl_inverseC (N : Int) (A : Option Addr) (n : Nat) (L : List Int) (w : World) (hA : Rd w A (ints L)) (hl : L.length = n * 4) (hn : n ≤ 1048576) (N2 : Int) (R : List Int) (r : Nat) (hR : (validC N L n = true ∧ N2 = N ∧ R = invC L n n ∧ r = n) ∨ (validC N L n = false ∧ N2 = 0 ∧ R = [] ∧ r = 0)) :
    Calls Try.prog 23 #[.agg #[.int .i64 N, .slice A n n]] w fun e w' => ∃ G cG, e = .returned (.agg #[.int .i64 N2, .slice G r cG]) ∧ Fr w' w.heap.size w'.heap.size G (ints R) ∧ Ext w w' := by
  have HL := Lib.hid hl
  clear hl
  rcases hR with ⟨ok, rfl, rfl, rfl⟩ | ⟨ok, rfl, rfl, rfl⟩
  · go_enter Try.func23, Try.ntmps23
    go_wp2_with fail
    refine (impl_validC N2 A r r L _ (hA.ext (by repeat (first | exact Ext.refl _ | assumption | refine Ext.alloc ?_ _ | refine Ext.drew ?_ | refine Ext.drewN ?_ _ | refine Ext.trans ?_ (by assumption)))) HL.out (by omega)).mono ?_
    rintro e w1 ⟨rfl, h1⟩
    have x := Blk.to (Blk.new w 28 #[.int .i64 N2, .slice A r r]) h1 (by repeat (first | exact Ext.refl _ | assumption | refine Ext.alloc ?_ _ | refine Ext.drew ?_ | refine Ext.drewN ?_ _ | refine Ext.trans ?_ (by assumption)))
    have rr := (Blk.new (w.alloc (.cells #[.int .i64 N2, .slice A r r] 28)) 28 #[.int .i64 0, .slice none 0 0]).ext h1
    simp only [World.size_alloc] at rr
    have h01 : Ext w w1 := (by repeat (first | exact Ext.refl _ | assumption | refine Ext.alloc ?_ _ | refine Ext.drew ?_ | refine Ext.drewN ?_ _ | refine Ext.trans ?_ (by assumption)))
    obtain ⟨xc, xf, xz⟩ := x.all
    obtain ⟨rrc, rrf, rrz⟩ := rr.all
    have x0 := xc 0
    have x1 := xc 1
    simp only [List.getElem?_toArray, List.getElem?_cons_zero, List.getElem?_cons_succ] at x0 x1
    clear h1
    go_wp2_with fail
    clear xc xf xz rrc rrf rrz
    go_region_held3 (fun w' => w'.cell? ⟨w.heap.size, 0, none⟩ = some (.int .i64 N2) ∧ w'.cell? ⟨w.heap.size, 1, none⟩ = some (.slice A r r) ∧ Ext w w')
      (first | exact ⟨x0, x1, h01.drew⟩ | (go_split_ands; exact ⟨Ext.cell hx (by assumption), Ext.cell hx (by assumption), Ext.trans (by assumption) hx⟩) | (go_split_ands; exact ⟨by go_keep, by go_keep, Ext.setCell (Ext.setCell (by assumption) (Nat.le_succ _) _) (Nat.le_succ _) _⟩))
      (first | (go_at_call 63; go_split_ands; refine (impl_inverted A r r L _ (hA.ext (by assumption)) HL.out hn).mono ?_; rintro e w2 ⟨G, cG, rfl, fG, hx⟩; have rr2 := rr.drew.ext hx; obtain ⟨rrc, rrf, rrz⟩ := rr2.all))
    go_wp2_with fail
    have hrz : w.heap.size + 1 + 1 ≤ w1.drew.heap.size := rr.all.2.2
    have hz2 : w.heap.size ≤ w1.drew.heap.size := h01.size
    exact bodyPost_ret (v := .agg #[.int .i64 N2, .slice G r cG]) (by simp [results, Try.results23, go_sem, rrc, rrz]) rfl ⟨G, cG, rfl, by rw [size_set2]; exact (fG.set2 (C := w.heap.size + 1) hrz _ _).mono hz2 (Nat.le_refl _), ((h01.drew.trans hx).setCell (Nat.le_succ _) _).setCell (Nat.le_succ _) _⟩
  · go_enter Try.func23, Try.ntmps23
    go_wp2_with fail
    refine (impl_validC N A n n L _ (hA.ext (by repeat (first | exact Ext.refl _ | assumption | refine Ext.alloc ?_ _ | refine Ext.drew ?_ | refine Ext.drewN ?_ _ | refine Ext.trans ?_ (by assumption)))) HL.out (by omega)).mono ?_
    rintro e w1 ⟨rfl, h1⟩
    have rr := (Blk.new (w.alloc (.cells #[.int .i64 N, .slice A n n] 28)) 28 #[.int .i64 0, .slice none 0 0]).ext h1
    simp only [World.size_alloc] at rr
    obtain ⟨rrc, rrf, rrz⟩ := rr.all
    have h01 : Ext w w1 := (by repeat (first | exact Ext.refl _ | assumption | refine Ext.alloc ?_ _ | refine Ext.drew ?_ | refine Ext.drewN ?_ _ | refine Ext.trans ?_ (by assumption)))
    clear h1
    go_wp2
    exact bodyPost_ret (v := .agg #[.int .i64 0, .slice none 0 0]) (by simp [results, Try.results23, go_sem, rrc, rrz]) rfl ⟨none, 0, rfl, Fr.nil _ _ _ _, (h01.setCell (Nat.le_succ _) _).setCell (Nat.le_succ _) _⟩
set_option maxHeartbeats 800000 in
theorem spec_inverted (A : Option Addr) (n c : Nat) (L : List Int) (w : World) (hA : Rd w A (ints L)) (hl : L.length = n * 4) (hn : n ≤ 1048576) :
    Calls Try.prog 62 #[.slice A n c] w fun e w' => ∃ G cG, e = .returned (.slice G n cG) ∧ Fr w' w.heap.size w'.heap.size G (ints (invC L n n)) ∧ Ext w w' := by
  have HL := Lib.hid hl
  clear hl
  obtain ⟨i0, hi, hz0, hz1, hz2⟩ := info_parts info_gate
  have HO := Lib.hid (own_new (w := w) (g := w.heap.size) (base := w.heap.size) (e := 80) (size := 4) #[] 0 rfl (Nat.le_refl _) (by simp) (by simp))
  go_enter Try.func62, Try.ntmps62
  go_wp2
  go_loopw [3, 4] (fun v i wr => ∃ j m : Nat, j + m = n ∧ i = .int .i64 ((m : Int) - 1) ∧ wr.ownsRow w.heap.size 80 4 v j (ints (invC L n j)) ∧ Ext w wr) (fun _ i _ => (intOf i + 1).toNat)
  case atStart => exact ⟨0, n, by omega, rfl, HO.out, (by repeat (first | exact Ext.refl _ | assumption | refine Ext.alloc ?_ _ | refine Ext.drew ?_ | refine Ext.drewN ?_ _ | refine Ext.trans ?_ (by assumption)))⟩
  case round =>
    obtain ⟨j, m, hjm, rfl, hown, he⟩ := hrel
    cases m with
    | zero =>
      obtain rfl : j = n := by omega
      obtain ⟨G, cap, rfl⟩ := own_form hown
      have hf := Fr.of_own hown
      clear hown hi hz0 hz1 hz2
      go_wp2
      go_ret
      exact ⟨_, _, rfl, hf, he⟩
    | succ m =>
      rw [show (((m + 1 : Nat) : Int) - 1) = (m : Int) from by omega]
      have hmn : m < n := by omega
      obtain ⟨g, off, rfl, hc⟩ := (hA.ext he).four HL.out (by omega)
      obtain ⟨x0, x1, x2, x3⟩ := hc m hmn
      have HS : Hid (invC L n (j + 1) = invC L n j ++ [invK (L.getD (m * 4) 0), L.getD (m * 4 + 1) 0, L.getD (m * 4 + 2) 0, L.getD (m * 4 + 3) 0]) := by
        show _ = _
        rw [invC, show n - 1 - j = m from by omega]
      clear hc
      generalize L.getD (m * 4) 0 = p0 at *
      generalize L.getD (m * 4 + 1) 0 = p1 at *
      generalize L.getD (m * 4 + 2) 0 = p2 at *
      generalize L.getD (m * 4 + 3) 0 = p3 at *
      have HJ := Lib.hid hjm
      clear hjm
      go_wp2_with fail
      refine (spec_inverseGate p0 p1 p2 p3 _).mono ?_
      rintro e w2 ⟨rfl, h2⟩
      clear x0 x1 x2 x3
      replace hown := own_at hown h2
      replace he := he.trans h2
      have zz := he.size
      clear h2
      have rd2 : Rd (w2.alloc (.cells #[.int .i64 (invK p0), .int .i64 p1, .int .i64 p2, .int .i64 p3] 80)) (some ⟨w2.heap.size, 0, none⟩) (ints [invK p0, p1, p2, p3]) :=
        (Fr.of_blk (lo := 0) (hi := w2.heap.size + 1) (off := 0) (Blk.new w2 80 #[.int .i64 (invK p0), .int .i64 p1, .int .i64 p2, .int .i64 p3]) (Nat.zero_le _) (Nat.lt_succ_self _) (fun j u hu => by rw [Nat.zero_add]; simpa [ints] using hu)).rd
      go_wp2_with (at_builtin; refine wpList_append_rd rfl _ _ 26 rfl w.heap.size 80 i0 (.agg #[.int .i64 0, .int .i64 0, .int .i64 0, .int .i64 0]) 4 32 Try.underlying26 hi hz0 hz1 hz2 rfl (by decide) _ j (ints (invC L n j)) rfl (hown.alloc _) (some ⟨w2.heap.size, 0, none⟩) 1 1 (ints [invK p0, p1, p2, p3]) rfl rfl rd2 (fun h => by cases h) (ints_one _) ?c3 ?c4 ?c5 ?_)
      case c3 => have := HJ.out; unfold maxLen; omega
      case c4 => have := HJ.out; omega
      case c5 => simp; omega
      intro v' w3 hown' hgrow
      have he' := own_ext (he.alloc _) (hown.alloc _) (Nat.le_refl _) hgrow
      have HO' : Hid (w3.ownsRow w.heap.size 80 4 v' (j + 1) (ints (invC L n (j + 1)))) := by
        show World.ownsRow _ _ _ _ _ _ _
        rw [HS.out, ints_app]; exact hown'
      clear hown' hgrow hown he rd2
      go_wp2
      go_roundw
      case rel => exact ⟨j + 1, m, by have := HJ.out; omega, rfl, HO'.out, he'⟩
      case measure => simp [intOf]
set_option maxRecDepth 20000 in
set_option maxHeartbeats 1600000 in
theorem spec_inverseC (N : Int) (A : Option Addr) (n : Nat) (L : List Int) (w : World) (hA : Rd w A (ints L)) (hl : L.length = n * 4) (hn : n ≤ 1048576) (N2 : Int) (R : List Int) (r : Nat) (hR : (validC N L n = true ∧ N2 = N ∧ R = invC L n n ∧ r = n) ∨ (validC N L n = false ∧ N2 = 0 ∧ R = [] ∧ r = 0)) :
    Calls Try.prog 22 #[.agg #[.int .i64 N, .slice A n n]] w fun e w' => ∃ G cG, e = .returned (.agg #[.int .i64 N2, .slice G r cG]) ∧ Fr w' w.heap.size w'.heap.size G (ints R) ∧ Ext w w' := by
  have HL := Lib.hid hl
  clear hl
  rcases hR with ⟨ok, rfl, rfl, rfl⟩ | ⟨ok, rfl, rfl, rfl⟩
  · go_enter Try.func22, Try.ntmps22
    go_wp2_with fail
    refine (spec_validC N2 A r r L _ (hA.ext (by repeat (first | exact Ext.refl _ | assumption | refine Ext.alloc ?_ _ | refine Ext.drew ?_ | refine Ext.drewN ?_ _ | refine Ext.trans ?_ (by assumption)))) HL.out (by omega)).mono ?_
    rintro e w1 ⟨rfl, h1⟩
    have x := Blk.to (Blk.new w 28 #[.int .i64 N2, .slice A r r]) h1 (by repeat (first | exact Ext.refl _ | assumption | refine Ext.alloc ?_ _ | refine Ext.drew ?_ | refine Ext.drewN ?_ _ | refine Ext.trans ?_ (by assumption)))
    have rr := (Blk.new (w.alloc (.cells #[.int .i64 N2, .slice A r r] 28)) 28 #[.int .i64 0, .slice none 0 0]).ext h1
    simp only [World.size_alloc] at rr
    have h01 : Ext w w1 := (by repeat (first | exact Ext.refl _ | assumption | refine Ext.alloc ?_ _ | refine Ext.drew ?_ | refine Ext.drewN ?_ _ | refine Ext.trans ?_ (by assumption)))
    obtain ⟨xc, xf, xz⟩ := x.all
    obtain ⟨rrc, rrf, rrz⟩ := rr.all
    have x0 := xc 0
    have x1 := xc 1
    simp only [List.getElem?_toArray, List.getElem?_cons_zero, List.getElem?_cons_succ] at x0 x1
    clear h1
    go_wp2_with fail
    clear xc xf xz rrc rrf rrz
    go_region_held3 (fun w' => w'.cell? ⟨w.heap.size, 0, none⟩ = some (.int .i64 N2) ∧ w'.cell? ⟨w.heap.size, 1, none⟩ = some (.slice A r r) ∧ Ext w w')
      (first | exact ⟨x0, x1, h01.drew⟩ | (go_split_ands; exact ⟨Ext.cell hx (by assumption), Ext.cell hx (by assumption), Ext.trans (by assumption) hx⟩) | (go_split_ands; exact ⟨by go_keep, by go_keep, Ext.setCell (Ext.setCell (by assumption) (Nat.le_succ _) _) (Nat.le_succ _) _⟩))
      (first | (go_at_call 62; go_split_ands; refine (spec_inverted A r r L _ (hA.ext (by assumption)) HL.out hn).mono ?_; rintro e w2 ⟨G, cG, rfl, fG, hx⟩; have rr2 := rr.drew.ext hx; obtain ⟨rrc, rrf, rrz⟩ := rr2.all))
    go_wp2_with fail
    have hrz : w.heap.size + 1 + 1 ≤ w1.drew.heap.size := rr.all.2.2
    have hz2 : w.heap.size ≤ w1.drew.heap.size := h01.size
    exact bodyPost_ret (v := .agg #[.int .i64 N2, .slice G r cG]) (by simp [results, Try.results22, go_sem, rrc, rrz]) rfl ⟨G, cG, rfl, by rw [size_set2]; exact (fG.set2 (C := w.heap.size + 1) hrz _ _).mono hz2 (Nat.le_refl _), ((h01.drew.trans hx).setCell (Nat.le_succ _) _).setCell (Nat.le_succ _) _⟩
  · go_enter Try.func22, Try.ntmps22
    go_wp2_with fail
    refine (spec_validC N A n n L _ (hA.ext (by repeat (first | exact Ext.refl _ | assumption | refine Ext.alloc ?_ _ | refine Ext.drew ?_ | refine Ext.drewN ?_ _ | refine Ext.trans ?_ (by assumption)))) HL.out (by omega)).mono ?_
    rintro e w1 ⟨rfl, h1⟩
    have rr := (Blk.new (w.alloc (.cells #[.int .i64 N, .slice A n n] 28)) 28 #[.int .i64 0, .slice none 0 0]).ext h1
    simp only [World.size_alloc] at rr
    obtain ⟨rrc, rrf, rrz⟩ := rr.all
    have h01 : Ext w w1 := (by repeat (first | exact Ext.refl _ | assumption | refine Ext.alloc ?_ _ | refine Ext.drew ?_ | refine Ext.drewN ?_ _ | refine Ext.trans ?_ (by assumption)))
    clear h1
    go_wp2
    exact bodyPost_ret (v := .agg #[.int .i64 0, .slice none 0 0]) (by simp [results, Try.results22, go_sem, rrc, rrz]) rfl ⟨none, 0, rfl, Fr.nil _ _ _ _, (h01.setCell (Nat.le_succ _) _).setCell (Nat.le_succ _) _⟩
end Go.Proofs.Ytilkbccpcbelgaa
