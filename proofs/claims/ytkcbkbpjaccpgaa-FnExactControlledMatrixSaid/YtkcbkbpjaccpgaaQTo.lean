/-
  Contracts of the helpers that copy and measure numbers of D[omega] and slices of them. Conditions: the slices read as rows.
-/
import Derived.Test.YtkcbkbpjaccpgaaPM
set_option linter.unusedSimpArgs false
set_option linter.unusedVariables false
namespace Go.Proofs.Ytkcbkbpjaccpgaa
open Go.RowKit
def szL (left : Int) (n : Nat) : Int := if left - n < 0 then -1 else left - n
theorem Fr.fiveO {w : World} {lo hi g off : Nat} {L : List Int} {n j : Nat} (h : Fr w lo hi (some ⟨g, off, none⟩) (ints L)) (hL : L.length = n * 5) (hj : j < n) :
    (∃ v, w.cell? ⟨g, off + j * 5, none⟩ = some v) ∧ (∃ v, w.cell? ⟨g, off + j * 5 + 1, none⟩ = some v) ∧ (∃ v, w.cell? ⟨g, off + j * 5 + 2, none⟩ = some v) ∧ (∃ v, w.cell? ⟨g, off + j * 5 + 3, none⟩ = some v) ∧ (∃ v, w.cell? ⟨g, off + j * 5 + 4, none⟩ = some v) ∧
      w.frozen? ⟨g, off + j * 5, none⟩ = false ∧ w.frozen? ⟨g, off + j * 5 + 1, none⟩ = false ∧ w.frozen? ⟨g, off + j * 5 + 2, none⟩ = false ∧ w.frozen? ⟨g, off + j * 5 + 3, none⟩ = false ∧ w.frozen? ⟨g, off + j * 5 + 4, none⟩ = false := by
  obtain ⟨g', off', e', _, _, hc, hf⟩ := h.int (by omega)
  injection e' with e'
  injection e' with e1 e2
  subst e1 e2
  exact ⟨⟨_, hc _ (by omega)⟩, ⟨_, hc (j * 5 + 1) (by omega)⟩, ⟨_, hc (j * 5 + 2) (by omega)⟩, ⟨_, hc (j * 5 + 3) (by omega)⟩, ⟨_, hc (j * 5 + 4) (by omega)⟩, hf _, hf (j * 5 + 1), hf (j * 5 + 2), hf (j * 5 + 3), hf (j * 5 + 4)⟩
/-- One number of a row replaced. -/
def put5 (L : List Int) (j : Nat) (p0 p1 p2 p3 p4 : Int) : List Int := L.take (j * 5) ++ [p0, p1, p2, p3, p4] ++ L.drop (j * 5 + 5)
theorem put5_length (L : List Int) (j : Nat) (p0 p1 p2 p3 p4 : Int) (h : j * 5 + 5 ≤ L.length) : (put5 L j p0 p1 p2 p3 p4).length = L.length := by simp [put5]; omega
theorem set5_list (post : List Int) (a b c d e p0 p1 p2 p3 p4 : Int) : ∀ pre : List Int, (((((pre ++ a :: b :: c :: d :: e :: post).set pre.length p0).set (pre.length + 1) p1).set (pre.length + 2) p2).set (pre.length + 3) p3).set (pre.length + 4) p4 = pre ++ p0 :: p1 :: p2 :: p3 :: p4 :: post
  | [] => rfl
  | x :: pre => by
    have := set5_list post a b c d e p0 p1 p2 p3 p4 pre
    simp only [List.cons_append, List.length_cons, List.set_cons_succ, show pre.length + 1 + 1 = (pre.length + 1) + 1 from rfl, show pre.length + 1 + 2 = (pre.length + 2) + 1 from rfl, show pre.length + 1 + 3 = (pre.length + 3) + 1 from rfl, show pre.length + 1 + 4 = (pre.length + 4) + 1 from rfl]
    rw [this]
theorem Fr.set5 {w : World} {lo hi g off : Nat} {L : List Int} {n j : Nat} (h : Fr w lo hi (some ⟨g, off, none⟩) (ints L)) (hL : L.length = n * 5) (hj : j < n) (p0 p1 p2 p3 p4 : Int) :
    Fr (((((w.setCell ⟨g, off + j * 5, none⟩ (.int .i64 p0)).setCell ⟨g, off + j * 5 + 1, none⟩ (.int .i64 p1)).setCell ⟨g, off + j * 5 + 2, none⟩ (.int .i64 p2)).setCell ⟨g, off + j * 5 + 3, none⟩ (.int .i64 p3)).setCell ⟨g, off + j * 5 + 4, none⟩ (.int .i64 p4)) lo hi (some ⟨g, off, none⟩)
      (ints (put5 L j p0 p1 p2 p3 p4)) := by
  have h1 := h.set_int (j * 5) p0 (by omega)
  have h2 := h1.set_int (j * 5 + 1) p1 (by simp; omega)
  have h3 := h2.set_int (j * 5 + 2) p2 (by simp; omega)
  have h4 := h3.set_int (j * 5 + 3) p3 (by simp; omega)
  have h5 := h4.set_int (j * 5 + 4) p4 (by simp; omega)
  have e : ((((L.set (j * 5) p0).set (j * 5 + 1) p1).set (j * 5 + 2) p2).set (j * 5 + 3) p3).set (j * 5 + 4) p4 = put5 L j p0 p1 p2 p3 p4 := by
    unfold put5
    obtain ⟨pre, post, a, b, c, d, f, hp, e1, e2, e3⟩ : ∃ pre post : List Int, ∃ a b c d f : Int, pre.length = j * 5 ∧ L = pre ++ a :: b :: c :: d :: f :: post ∧ L.take (j * 5) = pre ∧ L.drop (j * 5 + 5) = post :=
      ⟨L.take (j * 5), L.drop (j * 5 + 5), L[j * 5], L[j * 5 + 1], L[j * 5 + 2], L[j * 5 + 3], L[j * 5 + 4], by simp; omega, by
        rw [← List.drop_eq_getElem_cons (i := j * 5 + 4) (by omega), ← List.drop_eq_getElem_cons (i := j * 5 + 3) (by omega), ← List.drop_eq_getElem_cons (i := j * 5 + 2) (by omega), ← List.drop_eq_getElem_cons (i := j * 5 + 1) (by omega), ← List.drop_eq_getElem_cons (i := j * 5) (by omega), List.take_append_drop], rfl, rfl⟩
    rw [e2, e3, e1, ← hp, set5_list]
    simp
  rw [e] at h5
  exact h5
theorem szDOmegaS_any (A : Option Addr) (n c : Nat) (left : Int) (w : World) (hn : n ≤ 9223372036854775807) (h0 : 0 ≤ left) (h1 : left ≤ 1048576) : Calls Try.prog 11 #[.slice A n c, .int .i64 left] w fun e w' => e = .returned (.int .i64 (szL left n)) ∧ w = w' := by
  by_cases h : left - n < 0
  all_goals
    go_enter Try.func11, Try.ntmps11
    go_wp2
    go_ret
    exact ⟨ret_int (by unfold szL; simp [h]; try omega), rfl⟩
theorem toZ_any (a b c d : Int) (w : World) : Calls Try.prog 32 #[.agg #[.int .i64 a, .int .i64 b, .int .i64 c, .int .i64 d]] w fun e w' => e = .returned (.agg #[.int .i64 a, .int .i64 b, .int .i64 c, .int .i64 d]) ∧ Ext w w' := by
  go_enter Try.func32, Try.ntmps32
  go_wp2
  refine bodyPost_ret (v := .agg #[.int .i64 a, .int .i64 b, .int .i64 c, .int .i64 d]) (by simp [results, Try.results32, go_sem]) rfl ⟨rfl, (by repeat (first | exact Ext.refl _ | assumption | refine Ext.alloc ?_ _ | refine Ext.drew ?_ | refine Ext.drewN ?_ _ | refine Ext.trans ?_ (by assumption)))⟩
set_option maxHeartbeats 800000 in
theorem toD_any (a b c d k : Int) (w : World) : Calls Try.prog 26 #[.agg #[.int .i64 a, .int .i64 b, .int .i64 c, .int .i64 d, .int .i64 k]] w fun e w' => e = .returned (.agg #[.int .i64 a, .int .i64 b, .int .i64 c, .int .i64 d, .int .i64 k]) ∧ Ext w w' := by
  go_enter Try.func26, Try.ntmps26
  go_wp2_with fail
  refine (toZ_any _ _ _ _ _).mono ?_
  rintro e w1 ⟨rfl, h1⟩
  have x := Blk.to (Blk.new w 51 #[.int .i64 a, .int .i64 b, .int .i64 c, .int .i64 d, .int .i64 k]) h1 (by repeat (first | exact Ext.refl _ | assumption | refine Ext.alloc ?_ _ | refine Ext.drew ?_ | refine Ext.drewN ?_ _ | refine Ext.trans ?_ (by assumption)))
  have y := Blk.to (Blk.new (w.alloc (.cells #[.int .i64 a, .int .i64 b, .int .i64 c, .int .i64 d, .int .i64 k] 51)) 42 #[.int .i64 0, .int .i64 0, .int .i64 0, .int .i64 0, .int .i64 0]) h1 (by repeat (first | exact Ext.refl _ | assumption | refine Ext.alloc ?_ _ | refine Ext.drew ?_ | refine Ext.drewN ?_ _ | refine Ext.trans ?_ (by assumption)))
  have z := (Blk.new ((w.alloc (.cells #[.int .i64 a, .int .i64 b, .int .i64 c, .int .i64 d, .int .i64 k] 51)).alloc (.cells #[.int .i64 0, .int .i64 0, .int .i64 0, .int .i64 0, .int .i64 0] 42)) 42 #[.int .i64 0, .int .i64 0, .int .i64 0, .int .i64 0, .int .i64 0]).ext h1
  simp only [World.size_alloc] at y z
  obtain ⟨xc, xf, xz⟩ := x.all
  obtain ⟨yc, yf, yz⟩ := y.all
  obtain ⟨zc, zf, zz⟩ := z.all
  have h01 : Ext w w1 := Ext.trans (by repeat (first | exact Ext.refl _ | assumption | refine Ext.alloc ?_ _ | refine Ext.drew ?_ | refine Ext.drewN ?_ _ | refine Ext.trans ?_ (by assumption))) h1
  clear h1
  go_wp2
  refine bodyPost_ret (v := .agg #[.int .i64 a, .int .i64 b, .int .i64 c, .int .i64 d, .int .i64 k]) (by simp [results, Try.results26, go_sem, xc, yc, zc, xz, yz, zz]) rfl ⟨rfl, (by repeat (first | (with_reducible assumption) | (with_reducible exact Ext.refl _) | ((with_reducible refine Ext.setCell ?_ ?_ _); rotate_left; (first | exact Nat.le_refl _ | exact Nat.le_succ _ | (simp; done) | (simp; omega))) | (with_reducible refine Ext.alloc ?_ _) | (with_reducible refine Ext.drew ?_) | (with_reducible refine Ext.drewN ?_ _)))⟩
set_option maxHeartbeats 800000 in
theorem toDOmegaS_at (A : Option Addr) (n c : Nat) (L : List Int) (w : World) (hA : Rd w A (ints L)) (hl : L.length = n * 5) (hn : n ≤ 1048576) :
    Calls Try.prog 16 #[.slice A n c] w fun e w' => e = .returned (.slice (some ⟨w.heap.size, 0, none⟩) n n) ∧ Fr w' w.heap.size w'.heap.size (some ⟨w.heap.size, 0, none⟩) (ints L) ∧ Ext w w' ∧ w.heap.size < w'.heap.size := by
  have HL := Lib.hid hl
  clear hl
  obtain ⟨i0, hi, hz0, hz1, hz2⟩ := info_parts info_dom
  go_enter Try.func16, Try.ntmps16
  go_wp2_with (at_make; refine wpList_make_full _ rfl _ _ 36 rfl w.heap.size 42 i0 (.agg #[.int .i64 0, .int .i64 0, .int .i64 0, .int .i64 0, .int .i64 0]) 5 Try.underlying36 hi hz0 hz1 .i64 .i64 _ _ n rfl rfl rfl rfl ?b2 ?b3 ?b4 ?_)
  case b2 => rw [hz2]; omega
  case b3 => unfold maxLen; omega
  case b4 => exact Nat.le_refl _
  intro w1 hown hgrow
  have hf := Fr.of_own hown
  have he : Ext w w1 := (Ext.refl w).grown hgrow (by simp)
  have hlt : w.heap.size < w1.heap.size := (hown.lt _ rfl).2
  clear hown hgrow hi hz0 hz1 hz2
  rw [made5 _ _ (by simp) (by intro i hi; simp at hi; (obtain rfl | rfl | rfl | rfl | rfl : i = 0 ∨ i = 1 ∨ i = 2 ∨ i = 3 ∨ i = 4 := by omega) <;> rfl)] at hf
  rw [show List.replicate (n * 5) (0 : Int) = L.take (0 * 5) ++ List.replicate ((n - 0) * 5) 0 from by simp] at hf
  go_wp2
  go_loopw [4] (fun i wr => ∃ j : Nat, j ≤ n ∧ i = .int .i64 j ∧ Fr wr w.heap.size w1.heap.size (some ⟨w.heap.size, 0, none⟩) (ints (L.take (j * 5) ++ List.replicate ((n - j) * 5) 0)) ∧ Ext w wr ∧ w1.heap.size ≤ wr.heap.size) (fun i _ => n - (intOf i).toNat)
  case atStart => exact ⟨0, Nat.zero_le _, rfl, hf, he, Nat.le_refl _⟩
  case round =>
    obtain ⟨j, hj, rfl, hf, he, hz⟩ := hrel
    by_cases hjn : j < n
    · obtain ⟨g, off, rfl, hc⟩ := (hA.ext he).five HL.out (by omega)
      obtain ⟨x0, x1, x2, x3, x4⟩ := hc j hjn
      have hlen : Hid ((L.take (j * 5) ++ List.replicate ((n - j) * 5) 0).length = n * 5) := by show _ = _; have := HL.out; simp; omega
      have HT := Lib.hid (take5 L j (by have := HL.out; omega))
      generalize L.getD (j * 5) 0 = p0 at *
      generalize L.getD (j * 5 + 1) 0 = p1 at *
      generalize L.getD (j * 5 + 2) 0 = p2 at *
      generalize L.getD (j * 5 + 3) 0 = p3 at *
      generalize L.getD (j * 5 + 4) 0 = p4 at *
      clear hc
      go_wp2_with fail
      refine (toD_any _ _ _ _ _ _).mono ?_
      rintro e w2 ⟨rfl, h2⟩
      clear x0 x1 x2 x3 x4
      obtain ⟨hz2, he2, hf2⟩ := (⟨Nat.le_trans hz h2.size, he.trans h2, hf.ext h2⟩ : w1.heap.size ≤ w2.heap.size ∧ Ext w w2 ∧ Fr w2 _ _ _ _)
      clear hf hz he h2
      obtain ⟨⟨v0, y0⟩, ⟨v1, y1⟩, ⟨v2, y2⟩, ⟨v3, y3⟩, ⟨v4, y4⟩, f0, f1, f2, f3, f4⟩ := hf2.fiveO hlen.out hjn
      have HS := hf2.set5 hlen.out hjn p0 p1 p2 p3 p4
      simp only [Nat.zero_add] at y0 y1 y2 y3 y4 f0 f1 f2 f3 f4 HS
      replace HS := Lib.hid HS
      have hbz : w.heap.size < w2.heap.size := by omega
      go_wp2
      go_roundw
      case rel =>
        refine ⟨j + 1, by omega, by go_num, ?_, ?_, by simpa [World.setCell] using hz2⟩
        · have e : put5 (L.take (j * 5) ++ List.replicate ((n - j) * 5) 0) j p0 p1 p2 p3 p4 = L.take ((j + 1) * 5) ++ List.replicate ((n - (j + 1)) * 5) 0 := by
            have hl := HL.out
            unfold put5
            rw [HT.out, List.take_append_of_le_length (by simp; omega), List.take_take, Nat.min_self, List.drop_append, List.drop_eq_nil_of_le (by simp; omega), List.nil_append, List.drop_replicate]
            congr 2
            simp
            omega
          rw [e] at HS
          exact HS.out
        · exact ((((he2.setCell (by simp) _).setCell (by simp) _).setCell (by simp) _).setCell (by simp) _).setCell (by simp) _
      case measure => simp [intOf]; omega
    · have hjn : j = n := by omega
      subst hjn
      go_wp2
      go_ret
      refine ⟨rfl, ?_, he, Nat.lt_of_lt_of_le hlt hz⟩
      rw [Nat.sub_self, Nat.zero_mul, List.replicate_zero, List.append_nil, List.take_of_length_le (by have := HL.out; omega)] at hf
      exact hf.mono (Nat.le_refl _) hz
theorem toDOmegaS_any (A : Option Addr) (n c : Nat) (L : List Int) (w : World) (hA : Rd w A (ints L)) (hl : L.length = n * 5) (hn : n ≤ 1048576) :
    Calls Try.prog 16 #[.slice A n c] w fun e w' => ∃ B, e = .returned (.slice B n n) ∧ Fr w' w.heap.size w'.heap.size B (ints L) ∧ Ext w w' :=
  (toDOmegaS_at A n c L w hA hl hn).mono fun _ _ ⟨h1, h2, h3, _⟩ => ⟨_, h1, h2, h3⟩
end Go.Proofs.Ytkcbkbpjaccpgaa
