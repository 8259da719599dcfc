/-
  Contracts of the helpers on slices of ints. Conditions: the slices read as lists; what is written lies in new memory.
-/
import Derived.Test.YtbihbegpjicnkaaRBase
import Derived.Deep.QuietTactic
import Derived.BigQuiet
import Derived.Outline
set_option linter.unusedSimpArgs false
set_option linter.unusedVariables false
namespace Go.Proofs.YtbihbegpjicnkaaR
open Go.RowKit

theorem take_getD (l : List Int) (k : Nat) (h : k < l.length) : l.take (k + 1) = l.take k ++ [l.getD k 0] := by
  rw [List.take_succ_eq_append_getElem h]; simp [List.getD, h]
theorem eq_of_take {l l' : List Int} {n : Nat} (h1 : l.length = n) (h2 : l'.length = n) (h : l.take n = l'.take n) : l = l' := by
  rw [List.take_of_length_le (by omega), List.take_of_length_le (by omega)] at h; exact h
theorem ne_of_getD {l l' : List Int} {k : Nat} (h : l.getD k 0 ≠ l'.getD k 0) : l ≠ l' := by rintro rfl; exact h rfl

set_option maxHeartbeats 400000 in
theorem eqIntS_any (A B : Option Addr) (n m c c' : Nat) (l l' : List Int) (w : World) (hA : Rd w A (ints l)) (hB : Rd w B (ints l')) (hl : l.length = n) (hl' : l'.length = m) (hn : n ≤ 9223372036854775806) (hm : m ≤ 9223372036854775806) :
    Calls Try.prog 9 #[.slice A n c, .slice B m c'] w fun e w' => e = .returned (.bool (decide (l = l'))) ∧ Ext w w' := by
  have HL := Lib.hid hl
  have HL' := Lib.hid hl'
  clear hl hl'
  by_cases hnm : n = m
  · subst hnm
    go_enter Try.func9, Try.ntmps9
    go_wp2
    go_loopw [5] (fun i wr => ∃ k : Nat, k ≤ n ∧ i = .int .i64 k ∧ Hid (l.take k = l'.take k) ∧ Ext w wr) (fun i _ => n - (intOf i).toNat)
    case atStart => exact ⟨0, Nat.zero_le _, rfl, Lib.hid rfl, Ext.refl _⟩
    case round =>
      obtain ⟨k, hk, rfl, heq, he⟩ := hrel
      by_cases hlt : k < n
      · obtain ⟨g, off, rfl, hc⟩ := (hA.ext he).int (by have := HL.out; omega)
        obtain ⟨g', off', rfl, hc'⟩ := (hB.ext he).int (by have := HL'.out; omega)
        have c1 := hc k (by have := HL.out; omega)
        have c2 := hc' k (by have := HL'.out; omega)
        obtain ⟨x, hx⟩ : ∃ x, x = l.getD k 0 := ⟨_, rfl⟩
        obtain ⟨y, hy⟩ : ∃ y, y = l'.getD k 0 := ⟨_, rfl⟩
        rw [← hx] at c1
        rw [← hy] at c2
        have HX := Lib.hid hx
        have HY := Lib.hid hy
        clear hx hy hc hc'
        by_cases hxy : x = y
        · subst hxy
          go_wp2
          go_quiet (fail)
          go_wp2
          go_roundw
          case rel => exact ⟨k + 1, by omega, by go_num, Lib.hid (by rw [take_getD l k (by have := HL.out; omega), take_getD l' k (by have := HL'.out; omega), heq.out, ← HX.out, ← HY.out]), (by repeat (first | exact Ext.refl _ | assumption | refine Ext.alloc ?_ _ | refine Ext.drew ?_ | refine Ext.drewN ?_ _ | refine Ext.trans ?_ (by assumption)))⟩
          case measure => simp [intOf]; omega
        · have hne : (x != y) = true := by simpa using hxy
          have HN : Hid (¬ l = l') := ne_of_getD (by rw [← HX.out, ← HY.out]; exact hxy)
          have HXY := Lib.hid hxy
          clear hxy
          go_wp2
          go_quiet (fail)
          go_wp2
          go_ret
          exact ⟨ret_bool (by simp [HN.out]), (by repeat (first | exact Ext.refl _ | assumption | refine Ext.alloc ?_ _ | refine Ext.drew ?_ | refine Ext.drewN ?_ _ | refine Ext.trans ?_ (by assumption)))⟩
      · have hkn : k = n := by omega
        subst hkn
        go_wp2
        go_ret
        exact ⟨ret_bool (by simp [eq_of_take HL.out HL'.out heq.out]), (by repeat (first | exact Ext.refl _ | assumption | refine Ext.alloc ?_ _ | refine Ext.drew ?_ | refine Ext.drewN ?_ _ | refine Ext.trans ?_ (by assumption)))⟩
  · have hne : ((n : Int) != (m : Int)) = true := by simp; omega
    go_enter Try.func9, Try.ntmps9
    go_wp2
    go_ret
    exact ⟨ret_bool (by simp; intro h; have h1 := HL.out; have h2 := HL'.out; rw [h] at h1; omega), (by repeat (first | exact Ext.refl _ | assumption | refine Ext.alloc ?_ _ | refine Ext.drew ?_ | refine Ext.drewN ?_ _ | refine Ext.trans ?_ (by assumption)))⟩

/-- k, k + 1, .. : what mark writes. -/
def marks (k : Int) (n : Nat) : List Int := (List.range n).map (fun i : Nat => k + (i : Int))
theorem marks_length (k : Int) (n : Nat) : (marks k n).length = n := by simp [marks]
theorem marks_getD (k : Int) (n j : Nat) (h : j < n) : (marks k n).getD j 0 = k + j := by simp [marks, List.getD, h]
theorem marks_step (l : List Int) (k : Int) (j : Nat) (h : j < l.length) : (marks k j ++ l.drop j).set j (k + j) = marks k (j + 1) ++ l.drop (j + 1) := by
  rw [List.set_append, if_neg (by rw [marks_length]; omega), marks_length, Nat.sub_self, List.drop_eq_getElem_cons h, List.set_cons_zero]
  simp [marks, List.range_succ]

set_option maxHeartbeats 400000 in
theorem markIntS_any (A : Option Addr) (n c lo hi : Nat) (l : List Int) (k : Int) (w : World) (hA : Fr w lo hi A (ints l)) (hl : l.length = n) (hn : n ≤ 4611686018427387904) (hk0 : 0 ≤ k) (hk1 : k ≤ 2147483648) :
    Calls Try.prog 10 #[.slice A n c, .int .i64 k] w fun e w' => e = .returned (.int .i64 (k + n)) ∧ Fr w' lo hi A (ints (marks k n)) ∧ Chg w w' lo hi := by
  have HL := Lib.hid hl
  clear hl
  go_enter Try.func10, Try.ntmps10
  go_wp2
  go_loopw [1, 5] (fun q i wr => ∃ j : Nat, j ≤ n ∧ i = .int .i64 j ∧ q = .int .i64 (k + j) ∧ Fr wr lo hi A (ints (marks k j ++ l.drop j)) ∧ Chg w wr lo hi) (fun _ i _ => n - (intOf i).toNat)
  case atStart => exact ⟨0, Nat.zero_le _, rfl, by simp, by simpa [marks] using hA, Chg.refl _ _ _⟩
  case round =>
    obtain ⟨j, hj, rfl, rfl, hf, hch⟩ := hrel
    by_cases hlt : j < n
    · have hlen : Hid ((marks k j ++ l.drop j).length = n) := by show _ = _; have := HL.out; simp [marks_length]; omega
      obtain ⟨g, off, rfl, hg1, hg2, hc, hfz⟩ := hf.int (by have := hlen.out; omega)
      have c1 := hc j (by have := hlen.out; omega)
      have f1 := hfz j
      have HS := Lib.hid (hf.set_int j (k + j) (by have := hlen.out; omega))
      clear hc hfz
      obtain ⟨x, hx⟩ : ∃ x, x = (marks k j ++ l.drop j).getD j 0 := ⟨_, rfl⟩
      rw [← hx] at c1
      clear hx
      go_wp2
      go_roundw
      case rel => exact ⟨j + 1, by omega, by go_num, by go_num, by rw [← marks_step l k j (by have := HL.out; omega)]; exact HS.out, hch.setCell hg1 hg2 _⟩
      case measure => simp [intOf]; omega
    · have hjn : j = n := by omega
      subst hjn
      go_wp2
      go_ret
      exact ⟨rfl, by rw [List.drop_eq_nil_of_le (by have := HL.out; omega), List.append_nil] at hf; exact hf, hch⟩
theorem info_int : (Try.prog.info? 3).map (fun i => (i.zero, i.size, i.bytes)) = some (some (.int .i64 0), 1, 8) := by kernel_rfl
set_option maxHeartbeats 400000 in
theorem toIntS_any (A : Option Addr) (n c : Nat) (l : List Int) (w : World) (hA : Rd w A (ints l)) (hl : l.length = n) (hn : n ≤ 1048576) :
    Calls Try.prog 6 #[.slice A n c] w fun e w' => ∃ B, e = .returned (.slice B n n) ∧ Fr w' w.heap.size w'.heap.size B (ints l) ∧ Ext w w' := by
  have HL := Lib.hid hl
  clear hl
  obtain ⟨i0, hi, hz0, hz1, hz2⟩ := info_parts info_int
  go_enter Try.func6, Try.ntmps6
  go_wp2_with (at_make; refine wpList_make_full _ rfl _ _ 22 rfl w.heap.size 3 i0 (.int .i64 0) 1 Try.underlying22 hi hz0 hz1 .i64 .i64 _ _ n rfl rfl rfl rfl ?b2 ?b3 ?b4 ?_)
  case b2 => rw [hz2]; omega
  case b3 => unfold maxLen; omega
  case b4 => exact Nat.le_refl _
  intro w1 hown hgrow
  have hf := Fr.of_own hown
  have he : Ext w w1 := (Ext.refl w).grown hgrow (by simp)
  have hlt : w.heap.size < w1.heap.size := (hown.lt _ rfl).2
  clear hown hgrow hi hz0 hz1 hz2
  rw [show (madeCells #[Value.int .i64 0] n).toList = ints ([] ++ List.replicate (n - 0) 0) from by simp [ints, toList_madeCells_one]] at hf
  go_wp2
  go_loopw [4] (fun i wr => ∃ j : Nat, j ≤ n ∧ i = .int .i64 j ∧ Fr wr w.heap.size w1.heap.size (some ⟨w.heap.size, 0, none⟩) (ints (l.take j ++ List.replicate (n - j) 0)) ∧ Ext w wr ∧ w1.heap.size ≤ wr.heap.size) (fun i _ => n - (intOf i).toNat)
  case atStart => exact ⟨0, Nat.zero_le _, rfl, hf, he, Nat.le_refl _⟩
  case round =>
    obtain ⟨j, hj, rfl, hf, he, hz⟩ := hrel
    by_cases hjn : j < n
    · obtain ⟨g, off, rfl, hc⟩ := (hA.ext he).int (by have := HL.out; omega)
      have c1 := hc j (by have := HL.out; omega)
      have hlen : Hid ((l.take j ++ List.replicate (n - j) 0).length = n) := by show _ = _; have := HL.out; simp; omega
      obtain ⟨g', off', e', hg1, hg2, hc', hfz⟩ := hf.int (by have := hlen.out; omega)
      injection e' with e'
      injection e' with e1 e2
      subst e1 e2
      have c2 := hc' j (by have := hlen.out; omega)
      have f2 := hfz j
      rw [Nat.zero_add] at c2 f2
      have HS := Lib.hid (hf.set_int j (l.getD j 0) (by have := hlen.out; omega))
      clear hc hc' hfz
      obtain ⟨x, hx⟩ : ∃ x, x = l.getD j 0 := ⟨_, rfl⟩
      obtain ⟨y, hy⟩ : ∃ y, y = (l.take j ++ List.replicate (n - j) 0).getD j 0 := ⟨_, rfl⟩
      rw [← hx] at c1 HS
      rw [← hy] at c2
      have HX := Lib.hid hx
      clear hx hy
      go_wp2
      go_roundw
      case rel =>
        refine ⟨j + 1, by omega, by go_num, ?_, he.setCell (by simp) _, by simpa [World.setCell] using hz⟩
        have e : (l.take j ++ List.replicate (n - j) 0).set j x = l.take (j + 1) ++ List.replicate (n - (j + 1)) 0 := by
          have hl := HL.out
          rw [List.set_append, if_neg (by simp; omega), take_getD l j (by omega), HX.out]
          rw [show j - (List.take j l).length = 0 from by simp; omega, show n - j = (n - (j + 1)) + 1 from by omega, List.replicate_succ, List.set_cons_zero]
          simp
        rw [e] at HS
        simpa using HS.out
      case measure => simp [intOf]; omega
    · have hjn : j = n := by omega
      subst hjn
      go_wp2
      go_ret
      refine ⟨_, rfl, ?_, he⟩
      rw [Nat.sub_self, List.replicate_zero, List.append_nil, List.take_of_length_le (by have := HL.out; omega)] at hf
      exact hf.mono (Nat.le_refl _) hz
end Go.Proofs.YtbihbegpjicnkaaR
