/-
  Contracts of IsPermutation. Conditions: the slice reads as a list.
-/
import Derived.Test.YtbihbegpjicnkaaRPerm2
set_option linter.unusedSimpArgs false
set_option linter.unusedVariables false
namespace Go.Proofs.YtbihbegpjicnkaaR
open Go.RowKit

theorem Blk.set_ {w : World} {g : Nat} {cs : Array Value} (x : Blk w g cs) (i : Nat) (u : Value) : Blk (w.setCell ⟨g, i, none⟩ u) g (cs.setIfInBounds i u) := by
  obtain ⟨t, ht⟩ := x
  exact ⟨t, by simp [World.setCell, Array.getElem?_modify, ht]⟩

def isPerm (l : List Int) : Bool := decide (1 ≤ l.length ∧ l.length ≤ 4 ∧ (∀ x ∈ l, 0 ≤ x ∧ x < l.length) ∧ l.Nodup)
theorem isPerm_iff (l : List Int) : isPerm l = true ↔ 1 ≤ l.length ∧ l.length ≤ 4 ∧ (∀ x ∈ l, 0 ≤ x ∧ x < l.length) ∧ l.Nodup := by simp [isPerm]
theorem isPerm_len {l : List Int} (h : ¬ (1 ≤ l.length ∧ l.length ≤ 4)) : isPerm l = false := by
  cases hb : isPerm l
  · rfl
  · have := (isPerm_iff l).1 hb; omega
theorem getD_mem {l : List Int} {j : Nat} (h : j < l.length) : l.getD j 0 ∈ l := by simp [List.getD, h]
theorem isPerm_range {l : List Int} {j : Nat} (h : j < l.length) (hx : ¬ (0 ≤ l.getD j 0 ∧ l.getD j 0 < l.length)) : isPerm l = false := by
  cases hb : isPerm l
  · rfl
  · exact absurd (((isPerm_iff l).1 hb).2.2.1 _ (getD_mem h)) hx
theorem nodup_take_succ {l : List Int} {j : Nat} (h : j < l.length) : (l.take (j + 1)).Nodup ↔ (l.take j).Nodup ∧ ¬ l.getD j 0 ∈ l.take j := by
  rw [take_getD l j h, List.nodup_append]
  constructor
  · rintro ⟨h1, _, h3⟩; exact ⟨h1, fun hm => h3 _ hm _ (by simp) rfl⟩
  · rintro ⟨h1, h2⟩; exact ⟨h1, by simp, fun a ha b hb => by simp at hb; subst hb; rintro rfl; exact h2 ha⟩
theorem isPerm_dup {l : List Int} {j : Nat} (h : j < l.length) (hx : l.getD j 0 ∈ l.take j) : isPerm l = false := by
  cases hb : isPerm l
  · rfl
  · have h1 := ((isPerm_iff l).1 hb).2.2.2
    have h2 : (l.take (j + 1)).Nodup := (List.take_sublist (j + 1) l).nodup h1
    exact absurd hx ((nodup_take_succ h).1 h2).2
theorem isPerm_done {l : List Int} (h1 : 1 ≤ l.length) (h4 : l.length ≤ 4) (hr : ∀ x ∈ l.take l.length, 0 ≤ x ∧ x < l.length) (hn : (l.take l.length).Nodup) : isPerm l = true := by
  rw [List.take_length] at hr hn
  exact (isPerm_iff l).2 ⟨h1, h4, hr, hn⟩
theorem range_take_succ {l : List Int} {j : Nat} {n : Int} (h : j < l.length) (hr : ∀ x ∈ l.take j, 0 ≤ x ∧ x < n) (hx : 0 ≤ l.getD j 0 ∧ l.getD j 0 < n) : ∀ x ∈ l.take (j + 1), 0 ≤ x ∧ x < n := by
  intro x hx'
  rw [mem_take_succ h] at hx'
  rcases hx' with h1 | h1
  · exact hr x h1
  · subst h1; exact hx

theorem quiet_l {P : Program} {f : FuncId} {args : Array Value} {w : World} {n : Nat} {v : Value}
    (h : Calls P f args (w.drewN n) fun e w' => e = .returned v ∧ w.drewN n = w') : Calls P f args (w.drewN n) fun e w'' => e = .returned v ∧ ∃ m, w'' = w.drewN m :=
  h.mono fun _ _ ⟨he, hm⟩ => ⟨he, n, hm.symm⟩
theorem Rd.take {w : World} {A : Option Addr} {l : List Int} (h : Rd w A (ints l)) (j : Nat) : Rd w A (ints (l.take j)) := fun hn => by
  obtain ⟨g, off, e, hc⟩ := h (by rintro h0; apply hn; cases l <;> simp_all [ints])
  refine ⟨g, off, e, fun i u hu => hc i u ?_⟩
  unfold ints at hu ⊢
  rw [List.map_take, List.getElem?_take] at hu
  split at hu
  · exact hu
  · cases hu

set_option maxHeartbeats 800000 in
theorem spec_isPerm (A : Option Addr) (n c : Nat) (l : List Int) (w : World) (hA : Rd w A (ints l)) (hl : l.length = n) (hn : n ≤ 9223372036854775806) (hnc : n ≤ c) :
    Calls Try.prog 17 #[.slice A n c] w fun e w' => e = .returned (.bool (isPerm l)) ∧ Ext w w' := by
  have HL := Lib.hid hl
  clear hl
  go_enter Try.func17, Try.ntmps17
  go_wp2
  go_loopw [3] (fun i wr => ∃ j : Nat, j ≤ n ∧ i = .int .i64 j ∧ Hid (∀ x ∈ l.take j, 0 ≤ x ∧ x < (n : Int)) ∧ Hid ((l.take j).Nodup) ∧ Ext w wr) (fun i _ => n - (intOf i).toNat)
  case atStart => exact ⟨0, Nat.zero_le _, rfl, by show ∀ x, _; simp, by show List.Nodup _; simp, Ext.refl _⟩
  case round =>
    obtain ⟨j, hj, rfl, hr, hd, he⟩ := hrel
    by_cases hlt : j < n
    · obtain ⟨g, off, rfl, hc⟩ := (hA.ext he).int (by have := HL.out; omega)
      have c1 := hc j (by have := HL.out; omega)
      obtain ⟨y, hy⟩ : ∃ y, y = l.getD j 0 := ⟨_, rfl⟩
      rw [← hy] at c1
      have HY := Lib.hid hy
      clear hy hc
      by_cases hin : 0 ≤ y ∧ y < (n : Int)
      · have hb : inB y 0 ((n : Int) - 1) = true := by unfold inB; simp; omega
        have hb' : (!inB y 0 ((n : Int) - 1)) = false := by rw [hb]; rfl
        obtain ⟨d, hdd⟩ : ∃ d, d = decide (y ∈ l.take j) := ⟨_, rfl⟩
        have hcall := fun W (hW : Ext w W) => l1HasInt_any (some ⟨g, off, none⟩) j c (l.take j) y W ((hA.ext hW).take j) (by have := HL.out; simp; omega) (by omega)
        rw [← hdd] at hcall
        have HC := Lib.hid hcall
        have HD := Lib.hid hdd
        clear hdd hcall
        cases d with
        | true =>
          go_wp2
          go_quiet ((first | (go_at_call 30; exact quiet_l (spec_in _ _ _ _)) | (go_at_call 38; exact quiet_l (HC.out _ (Ext.drewN he _)))))
          go_wp2
          go_ret
          exact ⟨ret_bool (isPerm_dup (j := j) (by have := HL.out; omega) (by rw [← HY.out]; exact of_decide_eq_true HD.out.symm)).symm, (by repeat (first | exact Ext.refl _ | assumption | refine Ext.alloc ?_ _ | refine Ext.drew ?_ | refine Ext.drewN ?_ _ | refine Ext.trans ?_ (by assumption)))⟩
        | false =>
          go_wp2
          go_quiet ((first | (go_at_call 30; exact quiet_l (spec_in _ _ _ _)) | (go_at_call 38; exact quiet_l (HC.out _ (Ext.drewN he _)))))
          go_wp2
          go_roundw
          case rel =>
            have hlen := HL.out
            refine ⟨j + 1, by omega, by go_num, ?_, ?_, (by repeat (first | exact Ext.refl _ | assumption | refine Ext.alloc ?_ _ | refine Ext.drew ?_ | refine Ext.drewN ?_ _ | refine Ext.trans ?_ (by assumption)))⟩
            · exact range_take_succ (by omega) hr.out (by rw [← HY.out]; exact hin)
            · exact (nodup_take_succ (by omega)).2 ⟨hd.out, by rw [← HY.out]; exact of_decide_eq_false HD.out.symm⟩
          case measure => simp [intOf]; omega
      · have hb : inB y 0 ((n : Int) - 1) = false := by unfold inB; rw [Bool.and_eq_false_iff]; simp; omega
        have HIN := Lib.hid hin
        clear hin
        go_wp2
        go_quiet ((first | (go_at_call 30; exact quiet_l (spec_in _ _ _ _))))
        go_wp2
        go_ret
        exact ⟨ret_bool (isPerm_range (j := j) (by have := HL.out; omega) (by have := HIN.out; rw [← HY.out, HL.out]; exact this)).symm, (by repeat (first | exact Ext.refl _ | assumption | refine Ext.alloc ?_ _ | refine Ext.drew ?_ | refine Ext.drewN ?_ _ | refine Ext.trans ?_ (by assumption)))⟩
    · have hjn : j = n := by omega
      subst hjn
      go_wp2_with (go_at_call 30; refine (spec_in _ _ _ _).mono ?_; rintro e w' ⟨rfl, rfl⟩)
      go_ret
      refine ⟨ret_bool ?_, (by repeat (first | exact Ext.refl _ | assumption | refine Ext.alloc ?_ _ | refine Ext.drew ?_ | refine Ext.drewN ?_ _ | refine Ext.trans ?_ (by assumption)))⟩
      have hlen := HL.out
      subst hlen
      by_cases h14 : 1 ≤ l.length ∧ l.length ≤ 4
      · rw [isPerm_done h14.1 h14.2 hr.out hd.out]; unfold inB; simp; omega
      · rw [isPerm_len h14]; unfold inB; rw [Bool.and_eq_false_iff]; simp; omega
def seenB (l : List Int) (j : Nat) (v : Int) : Value := .bool (decide (v ∈ l.take j))
theorem seen_at (l : List Int) (j v : Nat) (hv : v < 4) : #[seenB l j 0, seenB l j 1, seenB l j 2, seenB l j 3][v]? = some (.bool (decide ((v : Int) ∈ l.take j))) := by
  obtain rfl | rfl | rfl | rfl : v = 0 ∨ v = 1 ∨ v = 2 ∨ v = 3 := by omega
  all_goals simp [seenB]
theorem seen_step (l : List Int) (j v : Nat) (hv : v < 4) (hj : j < l.length) (hy : (v : Int) = l.getD j 0) :
    (#[seenB l j 0, seenB l j 1, seenB l j 2, seenB l j 3]).setIfInBounds v (.bool true) = #[seenB l (j + 1) 0, seenB l (j + 1) 1, seenB l (j + 1) 2, seenB l (j + 1) 3] := by
  have h : ∀ u, seenB l (j + 1) u = .bool (decide (u ∈ l.take j ∨ (v : Int) = u)) := by
    intro u
    unfold seenB
    rw [hy]
    simp only [mem_take_succ hj]
  simp only [h]
  obtain rfl | rfl | rfl | rfl : v = 0 ∨ v = 1 ∨ v = 2 ∨ v = 3 := by omega
  all_goals simp [seenB]
set_option maxHeartbeats 1600000 in
theorem impl_isPerm (A : Option Addr) (n c : Nat) (l : List Int) (w : World) (hA : Rd w A (ints l)) (hl : l.length = n) (hn : n ≤ 9223372036854775806) :
    Calls Try.prog 21 #[.slice A n c] w fun e w' => e = .returned (.bool (isPerm l)) ∧ Ext w w' := by
  have HL := Lib.hid hl
  clear hl
  by_cases h14 : 1 ≤ n ∧ n ≤ 4
  · obtain ⟨h1, h4⟩ := h14
    have hb : inB n 1 4 = true := by unfold inB; simp; omega
    go_enter Try.func21, Try.ntmps21
    go_wp2_with (go_at_call 35; refine (impl_in _ _ _ _).mono ?_; rintro e w' ⟨rfl, rfl⟩)
    go_loopw [5, 13] (fun _ i wr => ∃ j : Nat, j ≤ n ∧ i = .int .i64 j ∧ Hid (∀ x ∈ l.take j, 0 ≤ x ∧ x < (n : Int)) ∧ Hid ((l.take j).Nodup) ∧ Ext w wr ∧ Blk wr w.heap.size #[seenB l j 0, seenB l j 1, seenB l j 2, seenB l j 3]) (fun _ i _ => n - (intOf i).toNat)
    case atStart => exact ⟨0, Nat.zero_le _, rfl, by show ∀ x, _; simp, by show List.Nodup _; simp, (by repeat (first | exact Ext.refl _ | assumption | refine Ext.alloc ?_ _ | refine Ext.drew ?_ | refine Ext.drewN ?_ _ | refine Ext.trans ?_ (by assumption))), by simpa [seenB] using Blk.new w _ _⟩
    case round =>
      obtain ⟨j, hj, rfl, hr, hd, he, hblk⟩ := hrel
      by_cases hlt : j < n
      · obtain ⟨g, off, rfl, hc⟩ := (hA.ext he).int (by have := HL.out; omega)
        have c1 := hc j (by have := HL.out; omega)
        obtain ⟨y, hy⟩ : ∃ y, y = l.getD j 0 := ⟨_, rfl⟩
        rw [← hy] at c1
        have HY := Lib.hid hy
        clear hy hc
        by_cases hin : 0 ≤ y ∧ y < (n : Int)
        · obtain ⟨v, rfl⟩ := Int.eq_ofNat_of_zero_le hin.1
          have hvn : v < n := by omega
          have hv4 : v < 4 := by omega
          have hv4' : ((v : Int)) < 4 := by omega
          have hv0 : (0 : Int) ≤ (v : Int) := by omega
          have hb2 : inB v 0 ((n : Int) - 1) = true := by unfold inB; simp; omega
          have hb' : (!inB v 0 ((n : Int) - 1)) = false := by rw [hb2]; rfl
          obtain ⟨bc, bf, bz⟩ := hblk.all
          have c2 := bc v
          have f2 := bf v
          rw [seen_at l j v hv4] at c2
          clear bc bf
          obtain ⟨d, hdd⟩ : ∃ d, d = decide ((v : Int) ∈ l.take j) := ⟨_, rfl⟩
          rw [← hdd] at c2
          have HD := Lib.hid hdd
          clear hdd hin
          cases d with
          | true =>
            go_wp2_with (go_at_call 35; refine (impl_in _ _ _ _).mono ?_; rintro e w' ⟨rfl, rfl⟩)
            go_ret
            exact ⟨ret_bool (isPerm_dup (j := j) (by have := HL.out; omega) (by rw [← HY.out]; exact of_decide_eq_true HD.out.symm)).symm, (by repeat (first | exact Ext.refl _ | assumption | refine Ext.alloc ?_ _ | refine Ext.drew ?_ | refine Ext.drewN ?_ _ | refine Ext.trans ?_ (by assumption)))⟩
          | false =>
            have HB := Lib.hid (hblk.set_ v (.bool true))
            go_wp2_with (go_at_call 35; refine (impl_in _ _ _ _).mono ?_; rintro e w' ⟨rfl, rfl⟩)
            go_roundw
            case rel =>
              have hlen := HL.out
              refine ⟨j + 1, by omega, by go_num, ?_, ?_, he.setCell (by simp) _, ?_⟩
              · exact range_take_succ (by omega) hr.out (by rw [← HY.out]; omega)
              · exact (nodup_take_succ (by omega)).2 ⟨hd.out, by rw [← HY.out]; exact of_decide_eq_false HD.out.symm⟩
              · rw [← seen_step l j v hv4 (by omega) HY.out]; exact HB.out
            case measure => simp [intOf]; omega
        · have hb2 : inB y 0 ((n : Int) - 1) = false := by unfold inB; rw [Bool.and_eq_false_iff]; simp; omega
          have HIN := Lib.hid hin
          clear hin
          go_wp2_with (go_at_call 35; refine (impl_in _ _ _ _).mono ?_; rintro e w' ⟨rfl, rfl⟩)
          go_ret
          exact ⟨ret_bool (isPerm_range (j := j) (by have := HL.out; omega) (by have := HIN.out; rw [← HY.out, HL.out]; exact this)).symm, (by repeat (first | exact Ext.refl _ | assumption | refine Ext.alloc ?_ _ | refine Ext.drew ?_ | refine Ext.drewN ?_ _ | refine Ext.trans ?_ (by assumption)))⟩
      · have hjn : j = n := by omega
        subst hjn
        go_wp2
        go_ret
        have hlen := HL.out
        subst hlen
        exact ⟨ret_bool (isPerm_done h1 h4 hr.out hd.out).symm, (by repeat (first | exact Ext.refl _ | assumption | refine Ext.alloc ?_ _ | refine Ext.drew ?_ | refine Ext.drewN ?_ _ | refine Ext.trans ?_ (by assumption)))⟩
  · have hb : inB n 1 4 = false := by unfold inB; rw [Bool.and_eq_false_iff]; simp; omega
    go_enter Try.func21, Try.ntmps21
    go_wp2_with (go_at_call 35; refine (impl_in _ _ _ _).mono ?_; rintro e w' ⟨rfl, rfl⟩)
    go_ret
    exact ⟨ret_bool (isPerm_len (by rw [HL.out]; exact h14)).symm, (by repeat (first | exact Ext.refl _ | assumption | refine Ext.alloc ?_ _ | refine Ext.drew ?_ | refine Ext.drewN ?_ _ | refine Ext.trans ?_ (by assumption)))⟩
end Go.Proofs.YtbihbegpjicnkaaR
