/-
  Contracts of TwoQubitCount, EqualCircuit, IsValidCircuit. Conditions: the slices read as rows.
-/
import Derived.Test.YtkhgkaiadfebmaaDoorCirc2
import Derived.Test.YtkhgkaiadfebmaaDoorValid2
set_option linter.unusedSimpArgs false
set_option linter.unusedVariables false
namespace Go.Proofs.YtkhgkaiadfebmaaDoor
open Go.RowKit

/-- A circuit on N qubits whose n gates lie in the row L is valid. -/
def validC (N : Int) (L : List Int) (n : Nat) : Bool := decide ((1 ≤ N ∧ N ≤ 4) ∧ n ≤ 60 ∧ ∀ j, j < n → validG (L.getD (j * 4) 0) (L.getD (j * 4 + 1) 0) (L.getD (j * 4 + 2) 0) (L.getD (j * 4 + 3) 0) N = true)
theorem validC_no {N : Int} {L : List Int} {n j : Nat} (hj : j < n) (h : validG (L.getD (j * 4) 0) (L.getD (j * 4 + 1) 0) (L.getD (j * 4 + 2) 0) (L.getD (j * 4 + 3) 0) N = false) : validC N L n = false := by
  unfold validC; rw [decide_eq_false_iff_not]; rintro ⟨_, _, h3⟩; rw [h3 j hj] at h; cases h
theorem validC_out {N : Int} {L : List Int} {n : Nat} (h : ¬ ((1 ≤ N ∧ N ≤ 4) ∧ n ≤ 60)) : validC N L n = false := by
  unfold validC; rw [decide_eq_false_iff_not]; rintro ⟨h1, h2, _⟩; exact h ⟨h1, h2⟩
theorem validC_yes {N : Int} {L : List Int} {n : Nat} (h : (1 ≤ N ∧ N ≤ 4) ∧ n ≤ 60) (h3 : ∀ j, j < n → validG (L.getD (j * 4) 0) (L.getD (j * 4 + 1) 0) (L.getD (j * 4 + 2) 0) (L.getD (j * 4 + 3) 0) N = true) : validC N L n = true := by
  unfold validC; rw [decide_eq_true_eq]; exact ⟨h.1, h.2, h3⟩
theorem all_succ {P : Nat → Prop} {j : Nat} (h : ∀ i, i < j → P i) (hj : P j) : ∀ i, i < j + 1 → P i := fun i hi => by
  rcases Nat.lt_or_ge i j with h1 | h1
  · exact h i h1
  · obtain rfl : i = j := by omega
    exact hj
set_option maxHeartbeats 400000 in
theorem impl_validC (N : Int) (A : Option Addr) (n c : Nat) (L : List Int) (w : World) (hA : Rd w A (ints L)) (hl : L.length = n * 4) (hn : n ≤ 1152921504606846976) :
    Calls Tryd.prog 52 #[.agg #[.int .i64 N, .slice A n c]] w fun e w' => e = .returned (.bool (validC N L n)) ∧ Ext w w' := by
  have HL := Lib.hid hl
  clear hl
  by_cases hN : 1 ≤ N ∧ N ≤ 4
  · have hb : inB N 1 4 = true := by unfold inB; simp; omega
    have hb' : (!inB N 1 4) = false := by rw [hb]; rfl
    by_cases h60 : n ≤ 60
    · have d60 : ¬ ((60 : Int) < (n : Int)) := by omega
      go_enter Tryd.func52, Tryd.ntmps52
      go_wp2_with (go_at_call 50; refine (impl_in _ _ _ _).mono ?_; rintro e w' ⟨rfl, rfl⟩)
      have hb0 := Blk.new w 30 #[.int .i64 N, .slice A n c]
      go_loopw [4, 18] (fun _ i wr => ∃ j : Nat, j ≤ n ∧ i = .int .i64 j ∧ Hid (∀ j', j' < j → validG (L.getD (j' * 4) 0) (L.getD (j' * 4 + 1) 0) (L.getD (j' * 4 + 2) 0) (L.getD (j' * 4 + 3) 0) N = true) ∧ Ext w wr ∧ Blk wr w.heap.size #[.int .i64 N, .slice A n c]) (fun _ i _ => n - (intOf i).toNat)
      case atStart => exact ⟨0, Nat.zero_le _, rfl, by show ∀ j, _; intro j hj; omega, (by repeat (first | exact Ext.refl _ | assumption | refine Ext.alloc ?_ _ | refine Ext.drew ?_ | refine Ext.drewN ?_ _ | refine Ext.trans ?_ (by assumption))), hb0⟩
      case round =>
        clear hb0
        obtain ⟨j, hj, rfl, hok, he, hblk⟩ := hrel
        by_cases hlt : j < n
        · obtain ⟨g, off, rfl, hc⟩ := (hA.ext he).four HL.out (by omega)
          obtain ⟨x0, x1, x2, x3⟩ := hc j hlt
          have HC := Lib.hid (fun W => impl_validGate (L.getD (j * 4) 0) (L.getD (j * 4 + 1) 0) (L.getD (j * 4 + 2) 0) (L.getD (j * 4 + 3) 0) N W)
          obtain ⟨d, hd⟩ : ∃ d, d = validG (L.getD (j * 4) 0) (L.getD (j * 4 + 1) 0) (L.getD (j * 4 + 2) 0) (L.getD (j * 4 + 3) 0) N := ⟨_, rfl⟩
          rw [← hd] at HC
          have HD := Lib.hid hd
          clear hd hc
          obtain ⟨bc, bf, bz⟩ := hblk.all
          clear bf
          generalize hp0 : L.getD (j * 4) 0 = p0 at x0 HC HD
          generalize hp1 : L.getD (j * 4 + 1) 0 = p1 at x1 HC HD
          generalize hp2 : L.getD (j * 4 + 2) 0 = p2 at x2 HC HD
          generalize hp3 : L.getD (j * 4 + 3) 0 = p3 at x3 HC HD
          have HP := Lib.hid (And.intro hp0 (And.intro hp1 (And.intro hp2 hp3)))
          clear hp0 hp1 hp2 hp3
          cases d with
          | true =>
            go_wp2_with fail
            refine (HC.out _).mono ?_
            rintro e w2 ⟨rfl, h2⟩
            have hblk2 := hblk.to h2 (by repeat (first | exact Ext.refl _ | assumption | refine Ext.alloc ?_ _ | refine Ext.drew ?_ | refine Ext.drewN ?_ _ | refine Ext.trans ?_ (by assumption)))
            have he2 : Ext w w2 := (by repeat (first | exact Ext.refl _ | assumption | refine Ext.alloc ?_ _ | refine Ext.drew ?_ | refine Ext.drewN ?_ _ | refine Ext.trans ?_ (by assumption)))
            clear bc bz x0 x1 x2 x3
            go_wp2
            go_roundw
            case rel =>
              refine ⟨j + 1, by omega, by go_num, ?_, he2, hblk2⟩
              obtain ⟨e0, e1, e2, e3⟩ := HP.out
              exact all_succ hok.out (by rw [e0, e1, e2, e3]; exact HD.out.symm)
            case measure => simp [intOf]; omega
          | false =>
            go_wp2_with fail
            refine (HC.out _).mono ?_
            rintro e w2 ⟨rfl, h2⟩
            go_wp2
            go_ret
            obtain ⟨e0, e1, e2, e3⟩ := HP.out
            exact ⟨ret_bool (validC_no hlt (by rw [e0, e1, e2, e3]; exact HD.out.symm)).symm, (by repeat (first | exact Ext.refl _ | assumption | refine Ext.alloc ?_ _ | refine Ext.drew ?_ | refine Ext.drewN ?_ _ | refine Ext.trans ?_ (by assumption)))⟩
        · have hjn : j = n := by omega
          subst hjn
          go_wp2
          go_ret
          exact ⟨ret_bool (validC_yes ⟨hN, h60⟩ hok.out).symm, he⟩
    · have d60 : (60 : Int) < (n : Int) := by omega
      go_enter Tryd.func52, Tryd.ntmps52
      go_wp2_with (go_at_call 50; refine (impl_in _ _ _ _).mono ?_; rintro e w' ⟨rfl, rfl⟩)
      go_ret
      exact ⟨ret_bool (validC_out (by omega)).symm, (by repeat (first | exact Ext.refl _ | assumption | refine Ext.alloc ?_ _ | refine Ext.drew ?_ | refine Ext.drewN ?_ _ | refine Ext.trans ?_ (by assumption)))⟩
  · have hb : inB N 1 4 = false := by unfold inB; rw [Bool.and_eq_false_iff]; simp; omega
    go_enter Tryd.func52, Tryd.ntmps52
    go_wp2_with (go_at_call 50; refine (impl_in _ _ _ _).mono ?_; rintro e w' ⟨rfl, rfl⟩)
    go_ret
    exact ⟨ret_bool (validC_out (by omega)).symm, (by repeat (first | exact Ext.refl _ | assumption | refine Ext.alloc ?_ _ | refine Ext.drew ?_ | refine Ext.drewN ?_ _ | refine Ext.trans ?_ (by assumption)))⟩
set_option maxHeartbeats 800000 in
theorem spec_validC (N : Int) (A : Option Addr) (n c : Nat) (L : List Int) (w : World) (hA : Rd w A (ints L)) (hl : L.length = n * 4) (hn : n ≤ 1152921504606846976) :
    Calls Tryd.prog 26 #[.agg #[.int .i64 N, .slice A n c]] w fun e w' => e = .returned (.bool (validC N L n)) ∧ Ext w w' := by
  have HL := Lib.hid hl
  clear hl
  go_enter Tryd.func26, Tryd.ntmps26
  go_wp2
  have hb0 := Blk.new w 30 #[.int .i64 N, .slice A n c]
  go_loopw [3] (fun i wr => ∃ j : Nat, j ≤ n ∧ i = .int .i64 j ∧ Hid (∀ j', j' < j → validG (L.getD (j' * 4) 0) (L.getD (j' * 4 + 1) 0) (L.getD (j' * 4 + 2) 0) (L.getD (j' * 4 + 3) 0) N = true) ∧ Ext w wr ∧ Blk wr w.heap.size #[.int .i64 N, .slice A n c]) (fun i _ => n - (intOf i).toNat)
  case atStart => exact ⟨0, Nat.zero_le _, rfl, by show ∀ j, _; intro j hj; omega, (by repeat (first | exact Ext.refl _ | assumption | refine Ext.alloc ?_ _ | refine Ext.drew ?_ | refine Ext.drewN ?_ _ | refine Ext.trans ?_ (by assumption))), hb0⟩
  case round =>
    clear hb0
    obtain ⟨j, hj, rfl, hok, he, hblk⟩ := hrel
    obtain ⟨bc, bf, bz⟩ := hblk.all
    have b0 := bc 0
    have b1 := bc 1
    simp only [List.getElem?_toArray, List.getElem?_cons_zero, List.getElem?_cons_succ] at b0 b1
    clear bc bf
    by_cases hlt : j < n
    · obtain ⟨g, off, rfl, hc⟩ := (hA.ext he).four HL.out (by omega)
      obtain ⟨x0, x1, x2, x3⟩ := hc j hlt
      have HC := Lib.hid (fun W => spec_validGate (L.getD (j * 4) 0) (L.getD (j * 4 + 1) 0) (L.getD (j * 4 + 2) 0) (L.getD (j * 4 + 3) 0) N W)
      obtain ⟨d, hd⟩ : ∃ d, d = validG (L.getD (j * 4) 0) (L.getD (j * 4 + 1) 0) (L.getD (j * 4 + 2) 0) (L.getD (j * 4 + 3) 0) N := ⟨_, rfl⟩
      rw [← hd] at HC
      have HD := Lib.hid hd
      clear hd hc
      generalize hp0 : L.getD (j * 4) 0 = p0 at x0 HC HD
      generalize hp1 : L.getD (j * 4 + 1) 0 = p1 at x1 HC HD
      generalize hp2 : L.getD (j * 4 + 2) 0 = p2 at x2 HC HD
      generalize hp3 : L.getD (j * 4 + 3) 0 = p3 at x3 HC HD
      have HP := Lib.hid (And.intro hp0 (And.intro hp1 (And.intro hp2 hp3)))
      clear hp0 hp1 hp2 hp3
      cases d with
      | true =>
        go_wp2
        go_region_held3 (fun w' => w'.cell? ⟨g, off + j * 4, none⟩ = some (.int .i64 p0) ∧ w'.cell? ⟨g, off + j * 4 + 1, none⟩ = some (.int .i64 p1) ∧ w'.cell? ⟨g, off + j * 4 + 2, none⟩ = some (.int .i64 p2) ∧ w'.cell? ⟨g, off + j * 4 + 3, none⟩ = some (.int .i64 p3) ∧ w'.cell? ⟨w.heap.size, 0, none⟩ = some (.int .i64 N) ∧ w'.cell? ⟨w.heap.size, 1, none⟩ = some (.slice (some ⟨g, off, none⟩) n c) ∧ Ext wr w')
          (first | exact ⟨x0, x1, x2, x3, b0, b1, (Ext.refl wr).drew⟩ | (go_split_ands; exact ⟨Ext.cell hx (by assumption), Ext.cell hx (by assumption), Ext.cell hx (by assumption), Ext.cell hx (by assumption), Ext.cell hx (by assumption), Ext.cell hx (by assumption), Ext.trans (by assumption) hx⟩))
          (first | (go_at_call 46; refine (HC.out _).mono ?_; rintro e w' ⟨rfl, hx⟩))
        go_split_ands
        go_wp2
        go_roundw
        case rel =>
          obtain ⟨e0, e1, e2, e3⟩ := HP.out
          exact ⟨j + 1, by omega, by go_num, all_succ hok.out (by rw [e0, e1, e2, e3]; exact HD.out.symm), he.trans (by assumption), hblk.ext (by assumption)⟩
        case measure => simp [intOf]; omega
      | false =>
        go_wp2
        go_region_held3 (fun w' => w'.cell? ⟨g, off + j * 4, none⟩ = some (.int .i64 p0) ∧ w'.cell? ⟨g, off + j * 4 + 1, none⟩ = some (.int .i64 p1) ∧ w'.cell? ⟨g, off + j * 4 + 2, none⟩ = some (.int .i64 p2) ∧ w'.cell? ⟨g, off + j * 4 + 3, none⟩ = some (.int .i64 p3) ∧ w'.cell? ⟨w.heap.size, 0, none⟩ = some (.int .i64 N) ∧ w'.cell? ⟨w.heap.size, 1, none⟩ = some (.slice (some ⟨g, off, none⟩) n c) ∧ Ext wr w')
          (first | exact ⟨x0, x1, x2, x3, b0, b1, (Ext.refl wr).drew⟩ | (go_split_ands; exact ⟨Ext.cell hx (by assumption), Ext.cell hx (by assumption), Ext.cell hx (by assumption), Ext.cell hx (by assumption), Ext.cell hx (by assumption), Ext.cell hx (by assumption), Ext.trans (by assumption) hx⟩))
          (first | (go_at_call 46; refine (HC.out _).mono ?_; rintro e w' ⟨rfl, hx⟩))
        go_split_ands
        go_wp2
        go_ret
        obtain ⟨e0, e1, e2, e3⟩ := HP.out
        exact ⟨ret_bool (validC_no hlt (by rw [e0, e1, e2, e3]; exact HD.out.symm)).symm, he.trans (by assumption)⟩
    · have hjn : j = n := by omega
      subst hjn
      by_cases hN : 1 ≤ N ∧ N ≤ 4
      · have hb : inB N 1 4 = true := by unfold inB; simp; omega
        go_wp2_with (go_at_call 53; refine (spec_in _ _ _ _).mono ?_; rintro e w' ⟨rfl, rfl⟩)
        go_ret
        refine ⟨ret_bool ?_, he⟩
        by_cases h60 : j ≤ 60
        · rw [validC_yes ⟨hN, h60⟩ hok.out]; simp; omega
        · rw [validC_out (by omega)]; simp; omega
      · have hb : inB N 1 4 = false := by unfold inB; rw [Bool.and_eq_false_iff]; simp; omega
        go_wp2_with (go_at_call 53; refine (spec_in _ _ _ _).mono ?_; rintro e w' ⟨rfl, rfl⟩)
        go_ret
        exact ⟨ret_bool (validC_out (by omega)).symm, he⟩
theorem impl_equalC (N N' : Int) (A B : Option Addr) (n m c c' : Nat) (L L' : List Int) (w : World) (hA : Rd w A (ints L)) (hB : Rd w B (ints L')) (hl : L.length = n * 4) (hl' : L'.length = m * 4) (hn : n ≤ 1152921504606846976) (hm : m ≤ 1152921504606846976) :
    Calls Tryd.prog 28 #[.agg #[.int .i64 N, .slice A n c], .agg #[.int .i64 N', .slice B m c']] w fun e w' => e = .returned (.bool (decide (N = N' ∧ L = L'))) ∧ Ext w w' := by
  have HC := Lib.hid (fun W (hW : Ext w W) => implSame_any A B n m c c' L L' W (hA.ext hW) (hB.ext hW) hl hl' hn hm)
  clear hA hB hl hl'
  by_cases hN : N = N'
  · subst hN
    go_enter Tryd.func28, Tryd.ntmps28
    go_wp2_with fail
    refine (HC.out _ (by repeat (first | exact Ext.refl _ | assumption | refine Ext.alloc ?_ _ | refine Ext.drew ?_ | refine Ext.drewN ?_ _ | refine Ext.trans ?_ (by assumption)))).mono ?_
    rintro e w1 ⟨rfl, h1⟩
    go_wp2
    go_ret
    exact ⟨ret_bool (by simp), (by repeat (first | exact Ext.refl _ | assumption | refine Ext.alloc ?_ _ | refine Ext.drew ?_ | refine Ext.drewN ?_ _ | refine Ext.trans ?_ (by assumption)))⟩
  · have hN1 : (N == N') = false := by simpa using hN
    go_enter Tryd.func28, Tryd.ntmps28
    go_wp2
    go_ret
    exact ⟨ret_bool (by simp [hN]), (by repeat (first | exact Ext.refl _ | assumption | refine Ext.alloc ?_ _ | refine Ext.drew ?_ | refine Ext.drewN ?_ _ | refine Ext.trans ?_ (by assumption)))⟩
theorem spec_equalC (N N' : Int) (A B : Option Addr) (n m c c' : Nat) (L L' : List Int) (w : World) (hA : Rd w A (ints L)) (hB : Rd w B (ints L')) (hl : L.length = n * 4) (hl' : L'.length = m * 4) (hn : n ≤ 1152921504606846976) (hm : m ≤ 1152921504606846976) :
    Calls Tryd.prog 27 #[.agg #[.int .i64 N, .slice A n c], .agg #[.int .i64 N', .slice B m c']] w fun e w' => e = .returned (.bool (decide (N = N' ∧ L = L'))) ∧ Ext w w' := by
  have HC := Lib.hid (fun W (hW : Ext w W) => l11Gates_any A B n m c c' L L' W (hA.ext hW) (hB.ext hW) hl hl' hn hm)
  clear hA hB hl hl'
  by_cases hN : N = N'
  · subst hN
    go_enter Tryd.func27, Tryd.ntmps27
    go_wp2_with fail
    refine (HC.out _ (by repeat (first | exact Ext.refl _ | assumption | refine Ext.alloc ?_ _ | refine Ext.drew ?_ | refine Ext.drewN ?_ _ | refine Ext.trans ?_ (by assumption)))).mono ?_
    rintro e w1 ⟨rfl, h1⟩
    go_wp2
    go_ret
    exact ⟨ret_bool (by simp), (by repeat (first | exact Ext.refl _ | assumption | refine Ext.alloc ?_ _ | refine Ext.drew ?_ | refine Ext.drewN ?_ _ | refine Ext.trans ?_ (by assumption)))⟩
  · have hN1 : (N == N') = false := by simpa using hN
    go_enter Tryd.func27, Tryd.ntmps27
    go_wp2
    go_ret
    exact ⟨ret_bool (by simp [hN]), (by repeat (first | exact Ext.refl _ | assumption | refine Ext.alloc ?_ _ | refine Ext.drew ?_ | refine Ext.drewN ?_ _ | refine Ext.trans ?_ (by assumption)))⟩
end Go.Proofs.YtkhgkaiadfebmaaDoor
