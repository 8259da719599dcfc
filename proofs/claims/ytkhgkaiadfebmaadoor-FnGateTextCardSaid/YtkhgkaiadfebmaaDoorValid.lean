/-
  Contracts of IsValidGate. No conditions but that the number of qubits fits an int.
-/
import Derived.Test.YtkhgkaiadfebmaaDoorPerm
import Derived.Maps.Own
import Derived.Maps.Views
set_option linter.unusedSimpArgs false
set_option linter.unusedVariables false
namespace Go.Proofs.YtkhgkaiadfebmaaDoor
open Go.RowKit Go.Maps

/-- The j-th of the three qubits is as it must be, ar the number of qubits that the gate has, top the greatest that is allowed. -/
def okQ (ar : Nat) (all : List Int) (top : Int) (j : Nat) : Prop := if j < ar then (0 ≤ all.getD j 0 ∧ all.getD j 0 ≤ top) ∧ ¬ all.getD j 0 ∈ all.take j else all.getD j 0 = 0
instance (ar : Nat) (all : List Int) (top : Int) (j : Nat) : Decidable (okQ ar all top j) := by unfold okQ; exact inferInstance
def validG (k a b c n : Int) : Bool := decide ((1 ≤ n ∧ n ≤ 4) ∧ arity k ≠ 0 ∧ okQ (arity k).toNat [a, b, c] (n - 1) 0 ∧ okQ (arity k).toNat [a, b, c] (n - 1) 1 ∧ okQ (arity k).toNat [a, b, c] (n - 1) 2)
theorem valid_no {k a b c n : Int} {j : Nat} (hj : j < 3) (h : ¬ okQ (arity k).toNat [a, b, c] (n - 1) j) : validG k a b c n = false := by
  unfold validG
  rw [decide_eq_false_iff_not]
  rintro ⟨_, _, h0, h1, h2⟩
  obtain rfl | rfl | rfl : j = 0 ∨ j = 1 ∨ j = 2 := by omega
  · exact h h0
  · exact h h1
  · exact h h2
theorem valid_out {k a b c n : Int} (h : ¬ (1 ≤ n ∧ n ≤ 4)) : validG k a b c n = false := by
  unfold validG; rw [decide_eq_false_iff_not]; rintro ⟨h1, _⟩; exact h h1
theorem valid_ar {k a b c n : Int} (h : arity k = 0) : validG k a b c n = false := by
  unfold validG; rw [decide_eq_false_iff_not]; rintro ⟨_, h1, _⟩; exact h1 h
theorem valid_yes {k a b c n : Int} (h : 1 ≤ n ∧ n ≤ 4) (ha : arity k ≠ 0) (hq : ∀ j, j < 3 → okQ (arity k).toNat [a, b, c] (n - 1) j) : validG k a b c n = true := by
  unfold validG; rw [decide_eq_true_eq]; exact ⟨h, ha, hq 0 (by omega), hq 1 (by omega), hq 2 (by omega)⟩
theorem quiet_v {P : Program} {f : FuncId} {args : Array Value} {w : World} {n : Nat} {v : Value}
    (h : Calls P f args (w.drewN n) fun e w' => e = .returned v ∧ w.drewN n = w') : Calls P f args (w.drewN n) fun e w'' => e = .returned v ∧ ∃ m, w'' = w.drewN m :=
  h.mono fun _ _ ⟨he, hm⟩ => ⟨he, n, hm.symm⟩
theorem Rd.take' {w : World} {A : Option Addr} {l : List Int} (h : Rd w A (ints l)) (j : Nat) : Rd w A (ints (l.take j)) := fun hn => by
  obtain ⟨g, off, e, hc⟩ := h (by rintro h0; apply hn; cases l <;> simp_all [ints])
  refine ⟨g, off, e, fun i u hu => hc i u ?_⟩
  unfold ints at hu ⊢
  rw [List.map_take, List.getElem?_take] at hu
  split at hu
  · exact hu
  · cases hu
theorem three_at {w : World} {g : Nat} {a b c : Int} (h : ∀ i, w.cell? ⟨g, i, none⟩ = #[Value.int .i64 a, .int .i64 b, .int .i64 c][i]?) (j : Nat) (hj : j < 3) : w.cell? ⟨g, j, none⟩ = some (.int .i64 ([a, b, c].getD j 0)) := by
  rw [h j]
  obtain rfl | rfl | rfl : j = 0 ∨ j = 1 ∨ j = 2 := by omega
  all_goals rfl

set_option maxHeartbeats 1600000 in
theorem spec_validGate (k a b c n : Int) (w : World) : Calls Tryd.prog 46 #[.agg #[.int .i64 k, .int .i64 a, .int .i64 b, .int .i64 c], .int .i64 n] w fun e w' => e = .returned (.bool (validG k a b c n)) ∧ Ext w w' := by
  have hb := arity_bd k
  have HQ := Lib.hid (qubits_length k a b c)
  have HTK : Hid (∀ j, j ≤ (arity k).toNat → (qubits k a b c).take j = [a, b, c].take j) := by
    show ∀ j, _
    intro j hj
    rw [qubits, List.take_take, Nat.min_eq_left hj]
  obtain ⟨m, hm⟩ : ∃ m, IntKind.i64.wrap (n - 1) = m := ⟨_, rfl⟩
  have HM : Hid (1 ≤ n ∧ n ≤ 4 → m = n - 1) := by
    show _ → _
    intro hn
    rw [← hm]
    exact IntWalk.i64_in _ (by omega)
  go_enter Tryd.func46, Tryd.ntmps46
  go_wp2_with fail
  refine (spec_gateQubits' _ _ _ _ _).mono ?_
  rintro e w1 ⟨B, cB, rfl, fB, h1, hcB⟩
  have x := (Blk.new _ _ _).ext h1
  obtain ⟨xc, xf, xz⟩ := x.all
  obtain ⟨ar, har⟩ : ∃ ar, ar = (arity k).toNat := ⟨_, rfl⟩
  rw [← har] at HQ hcB HTK ⊢
  have har3 : ar ≤ 3 := by omega
  have HAR := Lib.hid har
  clear har hb
  go_wp2
  clear xc xf xz x
  have h1' := h1.alloc (.cells #[.int .i64 a, .int .i64 b, .int .i64 c] 3)
  have hB := (Blk.new w1 3 #[.int .i64 a, .int .i64 b, .int .i64 c])
  have fB1 := (fB.ext ((Ext.refl w1).alloc (.cells #[.int .i64 a, .int .i64 b, .int .i64 c] 3))).rd
  generalize w1.alloc (.cells #[.int .i64 a, .int .i64 b, .int .i64 c] 3) = w2 at *
  clear fB
  go_loopw [7] (fun i wr => ∃ j : Nat, j ≤ 3 ∧ i = .int .i64 j ∧ Hid (1 ≤ n ∧ n ≤ 4 → ∀ i, i < j → okQ ar [a, b, c] (n - 1) i) ∧ Ext w2 wr) (fun i _ => 3 - (intOf i).toNat)
  case atStart => exact ⟨0, by omega, rfl, by show _ → _; intro _ i hi; omega, Ext.refl _⟩
  case round =>
    obtain ⟨j, hj, rfl, hok, he⟩ := hrel
    by_cases hlt : j < 3
    · obtain ⟨bc, bf, bz⟩ := (hB.ext he).all
      have c1 := three_at bc j hlt
      clear bc bf
      have fBr := fB1.ext he
      obtain ⟨y, hy⟩ : ∃ y, y = [a, b, c].getD j 0 := ⟨_, rfl⟩
      rw [← hy] at c1
      have HY := Lib.hid hy
      clear hy
      by_cases hja : j < ar
      · have d1 : decide (ar ≤ j) = false := by simp; omega
        have d2 : decide (j < ar) = true := by simp; omega
        have d3 : (j : Int) < 3 := by omega
        have hjc : j ≤ cB := by omega
        obtain ⟨g, off, rfl, _⟩ := fBr.int (by have := HQ.out; omega)
        by_cases hin : 0 ≤ y ∧ y ≤ m
        · have hb2 : inB y 0 m = true := by unfold inB; simp; omega
          have hb3 : (!inB y 0 m) = false := by rw [hb2]; rfl
          obtain ⟨d, hdd⟩ : ∃ d, d = decide (y ∈ (qubits k a b c).take j) := ⟨_, rfl⟩
          have hcall := fun W (hW : Ext w2 W) => l1HasInt_any (some ⟨g, off, none⟩) j cB ((qubits k a b c).take j) y W ((fB1.ext hW).take' j) (by have := HQ.out; simp; omega) (by omega)
          rw [← hdd] at hcall
          have HC := Lib.hid hcall
          rw [HTK.out j (by omega)] at hdd
          have HD := Lib.hid hdd
          clear hdd hcall
          cases d with
          | true =>
            go_wp2
            go_quiet ((first | (go_at_call 53; exact quiet_v (spec_in _ _ _ _)) | (go_at_call 66; exact quiet_v (HC.out _ (Ext.drewN he _)))))
            go_wp2
            go_ret
            refine ⟨ret_bool ?_, (by repeat (first | exact Ext.refl _ | assumption | refine Ext.alloc ?_ _ | refine Ext.drew ?_ | refine Ext.drewN ?_ _ | refine Ext.trans ?_ (by assumption)))⟩
            exact (valid_no (j := j) hlt (by rw [← HAR.out]; unfold okQ; rw [if_pos hja, ← HY.out]; exact fun h => h.2 (of_decide_eq_true HD.out.symm))).symm
          | false =>
            go_wp2
            go_quiet ((first | (go_at_call 53; exact quiet_v (spec_in _ _ _ _)) | (go_at_call 66; exact quiet_v (HC.out _ (Ext.drewN he _)))))
            go_wp2
            go_roundw
            case rel =>
              refine ⟨j + 1, by omega, by go_num, ?_, (by repeat (first | exact Ext.refl _ | assumption | refine Ext.alloc ?_ _ | refine Ext.drew ?_ | refine Ext.drewN ?_ _ | refine Ext.trans ?_ (by assumption)))⟩
              show _ → _
              intro hn i hi
              rcases Nat.lt_or_ge i j with h | h
              · exact hok.out hn i h
              · obtain rfl : i = j := by omega
                unfold okQ
                rw [if_pos hja, ← HY.out, ← HM.out hn]
                exact ⟨hin, of_decide_eq_false HD.out.symm⟩
            case measure => simp [intOf]; omega
        · have hb2 : inB y 0 m = false := by unfold inB; rw [Bool.and_eq_false_iff]; simp; omega
          have HIN := Lib.hid hin
          clear hin
          go_wp2
          go_quiet ((first | (go_at_call 53; exact quiet_v (spec_in _ _ _ _))))
          go_wp2
          go_ret
          refine ⟨ret_bool ?_, (by repeat (first | exact Ext.refl _ | assumption | refine Ext.alloc ?_ _ | refine Ext.drew ?_ | refine Ext.drewN ?_ _ | refine Ext.trans ?_ (by assumption)))⟩
          by_cases hn : 1 ≤ n ∧ n ≤ 4
          · exact (valid_no (j := j) hlt (by rw [← HAR.out]; unfold okQ; rw [if_pos hja, ← HY.out, ← HM.out hn]; exact fun h => HIN.out h.1)).symm
          · exact (valid_out hn).symm
      · have d1 : decide (ar ≤ j) = true := by simp; omega
        have d2 : decide (j < ar) = false := by simp; omega
        have d3 : (j : Int) < 3 := by omega
        by_cases hy0 : y = 0
        · subst hy0
          go_wp2
          go_quiet (fail)
          go_wp2
          go_roundw
          case rel =>
            refine ⟨j + 1, by omega, by go_num, ?_, (by repeat (first | exact Ext.refl _ | assumption | refine Ext.alloc ?_ _ | refine Ext.drew ?_ | refine Ext.drewN ?_ _ | refine Ext.trans ?_ (by assumption)))⟩
            show _ → _
            intro hn i hi
            rcases Nat.lt_or_ge i j with h | h
            · exact hok.out hn i h
            · obtain rfl : i = j := by omega
              unfold okQ
              rw [if_neg hja]
              exact HY.out.symm
          case measure => simp [intOf]; omega
        · have hy1 : (y != 0) = true := by simpa using hy0
          have HY0 := Lib.hid hy0
          clear hy0
          go_wp2
          go_quiet (fail)
          go_wp2
          go_ret
          refine ⟨ret_bool ?_, (by repeat (first | exact Ext.refl _ | assumption | refine Ext.alloc ?_ _ | refine Ext.drew ?_ | refine Ext.drewN ?_ _ | refine Ext.trans ?_ (by assumption)))⟩
          exact (valid_no (j := j) hlt (by rw [← HAR.out]; unfold okQ; rw [if_neg hja, ← HY.out]; exact HY0.out)).symm
    · have hj3 : j = 3 := by omega
      subst hj3
      by_cases h0 : ar = 0
      · subst h0
        go_wp2
        go_ret
        exact ⟨ret_bool (valid_ar (by have := HAR.out; have := arity_bd k; omega)).symm, (by repeat (first | exact Ext.refl _ | assumption | refine Ext.alloc ?_ _ | refine Ext.drew ?_ | refine Ext.drewN ?_ _ | refine Ext.trans ?_ (by assumption)))⟩
      · have d1 : decide (0 < ar) = true := by simp; omega
        have d1' : (0 : Int) < (ar : Int) := by omega
        go_wp2_with (go_at_call 53; refine (spec_in _ _ _ _).mono ?_; rintro e w' ⟨rfl, rfl⟩)
        go_ret
        refine ⟨ret_bool ?_, (by repeat (first | exact Ext.refl _ | assumption | refine Ext.alloc ?_ _ | refine Ext.drew ?_ | refine Ext.drewN ?_ _ | refine Ext.trans ?_ (by assumption)))⟩
        by_cases hn : 1 ≤ n ∧ n ≤ 4
        · rw [valid_yes hn (by have := HAR.out; omega) (fun i hi => by rw [← HAR.out]; exact hok.out hn i hi)]
          unfold inB; simp; omega
        · rw [valid_out hn]
          unfold inB; rw [Bool.and_eq_false_iff]; simp; omega
end Go.Proofs.YtkhgkaiadfebmaaDoor
