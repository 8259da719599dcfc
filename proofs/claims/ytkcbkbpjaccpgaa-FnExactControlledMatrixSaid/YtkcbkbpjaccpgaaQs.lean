/-
  Contracts of the helpers on slices of numbers of D[omega]: a slice of n numbers is a row of 5 n ints. Conditions: the slices read as rows; what is written lies in new memory.
-/
import Derived.Test.YtkcbkbpjaccpgaaInts
import Derived.Deep.RegionHeld3
import Derived.WalkSpells
import Derived.StillTactics
import Derived.Laws.Pointers
set_option linter.unusedSimpArgs false
set_option linter.unusedVariables false
namespace Go.Proofs.Ytkcbkbpjaccpgaa
open Go.RowKit
theorem Rd.five {w : World} {A : Option Addr} {L : List Int} {n : Nat} (h : Rd w A (ints L)) (hL : L.length = n * 5) (hn : 0 < n) :
    ∃ g off, A = some ⟨g, off, none⟩ ∧ ∀ j, j < n → w.cell? ⟨g, off + j * 5, none⟩ = some (.int .i64 (L.getD (j * 5) 0)) ∧ w.cell? ⟨g, off + j * 5 + 1, none⟩ = some (.int .i64 (L.getD (j * 5 + 1) 0)) ∧
      w.cell? ⟨g, off + j * 5 + 2, none⟩ = some (.int .i64 (L.getD (j * 5 + 2) 0)) ∧ w.cell? ⟨g, off + j * 5 + 3, none⟩ = some (.int .i64 (L.getD (j * 5 + 3) 0)) ∧ w.cell? ⟨g, off + j * 5 + 4, none⟩ = some (.int .i64 (L.getD (j * 5 + 4) 0)) := by
  obtain ⟨g, off, e, hc⟩ := h.int (by omega)
  exact ⟨g, off, e, fun j hj => ⟨hc _ (by omega), hc (j * 5 + 1) (by omega), hc (j * 5 + 2) (by omega), hc (j * 5 + 3) (by omega), hc (j * 5 + 4) (by omega)⟩⟩
theorem take5 (L : List Int) (j : Nat) (h : j * 5 + 4 < L.length) : L.take ((j + 1) * 5) = L.take (j * 5) ++ [L.getD (j * 5) 0, L.getD (j * 5 + 1) 0, L.getD (j * 5 + 2) 0, L.getD (j * 5 + 3) 0, L.getD (j * 5 + 4) 0] := by
  rw [show (j + 1) * 5 = j * 5 + 1 + 1 + 1 + 1 + 1 from by omega, take_getD _ _ (by omega), take_getD _ _ (by omega), take_getD _ _ (by omega), take_getD _ _ (by omega), take_getD _ _ (by omega)]
  simp
theorem eqZ_any (a b c d a' b' c' d' : Int) (w : World) : Calls Try.prog 35 #[.agg #[.int .i64 a, .int .i64 b, .int .i64 c, .int .i64 d], .agg #[.int .i64 a', .int .i64 b', .int .i64 c', .int .i64 d']] w fun e w' => e = .returned (.bool (decide (a = a' ∧ b = b' ∧ c = c' ∧ d = d'))) ∧ Ext w w' := by
  go_enter Try.func35, Try.ntmps35
  go_wp2
  all_goals go_ret
  all_goals (refine ⟨ret_bool ?_, (by repeat (first | exact Ext.refl _ | assumption | refine Ext.alloc ?_ _ | refine Ext.drew ?_ | refine Ext.drewN ?_ _ | refine Ext.trans ?_ (by assumption)))⟩; simp_all)
set_option maxHeartbeats 800000 in
theorem eqD_any (a b c d k a' b' c' d' k' : Int) (w : World) : Calls Try.prog 29 #[.agg #[.int .i64 a, .int .i64 b, .int .i64 c, .int .i64 d, .int .i64 k], .agg #[.int .i64 a', .int .i64 b', .int .i64 c', .int .i64 d', .int .i64 k']] w fun e w' => e = .returned (.bool (decide (a = a' ∧ b = b' ∧ c = c' ∧ d = d' ∧ k = k'))) ∧ Ext w w' := by
  have HC := Lib.hid (fun W => eqZ_any a b c d a' b' c' d' W)
  obtain ⟨t, ht⟩ : ∃ t, t = decide (a = a' ∧ b = b' ∧ c = c' ∧ d = d') := ⟨_, rfl⟩
  rw [← ht] at HC
  have HT := Lib.hid ht
  clear ht
  by_cases hk : k = k'
  · subst hk
    have HR : Hid (t = decide (a = a' ∧ b = b' ∧ c = c' ∧ d = d' ∧ k = k)) := by show t = _; rw [HT.out]; simp
    cases t with
    | true =>
      go_enter Try.func29, Try.ntmps29
      go_wp2_with fail
      refine (HC.out _).mono ?_
      rintro e w1 ⟨rfl, h1⟩
      have x := Blk.to (Blk.new w 42 #[.int .i64 a, .int .i64 b, .int .i64 c, .int .i64 d, .int .i64 k]) h1 (by repeat (first | exact Ext.refl _ | assumption | refine Ext.alloc ?_ _ | refine Ext.drew ?_ | refine Ext.drewN ?_ _ | refine Ext.trans ?_ (by assumption)))
      have y := (Blk.new (w.alloc (.cells #[.int .i64 a, .int .i64 b, .int .i64 c, .int .i64 d, .int .i64 k] 42)) 42 #[.int .i64 a', .int .i64 b', .int .i64 c', .int .i64 d', .int .i64 k]).ext h1
      simp only [World.size_alloc] at y
      obtain ⟨xc, xf, xz⟩ := x.all
      obtain ⟨yc, yf, yz⟩ := y.all
      go_wp2
      go_ret
      exact ⟨ret_bool HR.out, (by repeat (first | exact Ext.refl _ | assumption | refine Ext.alloc ?_ _ | refine Ext.drew ?_ | refine Ext.drewN ?_ _ | refine Ext.trans ?_ (by assumption)))⟩
    | false =>
      go_enter Try.func29, Try.ntmps29
      go_wp2_with fail
      refine (HC.out _).mono ?_
      rintro e w1 ⟨rfl, h1⟩
      go_wp2
      go_ret
      exact ⟨ret_bool HR.out, (by repeat (first | exact Ext.refl _ | assumption | refine Ext.alloc ?_ _ | refine Ext.drew ?_ | refine Ext.drewN ?_ _ | refine Ext.trans ?_ (by assumption)))⟩
  · have hk1 : (k != k') = true := by simpa using hk
    have HR : Hid (false = decide (a = a' ∧ b = b' ∧ c = c' ∧ d = d' ∧ k = k')) := by show false = _; simp [hk]
    clear hk
    cases t with
    | true =>
      go_enter Try.func29, Try.ntmps29
      go_wp2_with fail
      refine (HC.out _).mono ?_
      rintro e w1 ⟨rfl, h1⟩
      have x := Blk.to (Blk.new w 42 #[.int .i64 a, .int .i64 b, .int .i64 c, .int .i64 d, .int .i64 k]) h1 (by repeat (first | exact Ext.refl _ | assumption | refine Ext.alloc ?_ _ | refine Ext.drew ?_ | refine Ext.drewN ?_ _ | refine Ext.trans ?_ (by assumption)))
      have y := (Blk.new (w.alloc (.cells #[.int .i64 a, .int .i64 b, .int .i64 c, .int .i64 d, .int .i64 k] 42)) 42 #[.int .i64 a', .int .i64 b', .int .i64 c', .int .i64 d', .int .i64 k']).ext h1
      simp only [World.size_alloc] at y
      obtain ⟨xc, xf, xz⟩ := x.all
      obtain ⟨yc, yf, yz⟩ := y.all
      go_wp2
      go_ret
      exact ⟨ret_bool HR.out, (by repeat (first | exact Ext.refl _ | assumption | refine Ext.alloc ?_ _ | refine Ext.drew ?_ | refine Ext.drewN ?_ _ | refine Ext.trans ?_ (by assumption)))⟩
    | false =>
      go_enter Try.func29, Try.ntmps29
      go_wp2_with fail
      refine (HC.out _).mono ?_
      rintro e w1 ⟨rfl, h1⟩
      go_wp2
      go_ret
      exact ⟨ret_bool HR.out, (by repeat (first | exact Ext.refl _ | assumption | refine Ext.alloc ?_ _ | refine Ext.drew ?_ | refine Ext.drewN ?_ _ | refine Ext.trans ?_ (by assumption)))⟩
set_option maxHeartbeats 1600000 in
theorem eqDOmegaS_any (A B : Option Addr) (n m c c' : Nat) (L L' : List Int) (w : World) (hA : Rd w A (ints L)) (hB : Rd w B (ints L')) (hl : L.length = n * 5) (hl' : L'.length = m * 5) (hn : n ≤ 1152921504606846976) (hm : m ≤ 1152921504606846976) :
    Calls Try.prog 21 #[.slice A n c, .slice B m c'] w fun e w' => e = .returned (.bool (decide (L = L'))) ∧ Ext w w' := by
  have HL := Lib.hid hl
  have HL' := Lib.hid hl'
  clear hl hl'
  by_cases hnm : n = m
  · subst hnm
    go_enter Try.func21, Try.ntmps21
    go_wp2
    go_loopw [5] (fun i wr => ∃ k : Nat, k ≤ n ∧ i = .int .i64 k ∧ Hid (L.take (k * 5) = L'.take (k * 5)) ∧ Ext w wr) (fun i _ => n - (intOf i).toNat)
    case atStart => exact ⟨0, Nat.zero_le _, rfl, Lib.hid (by simp), Ext.refl _⟩
    case round =>
      obtain ⟨k, hk, rfl, heq, he⟩ := hrel
      by_cases hlt : k < n
      · obtain ⟨g, off, rfl, hc⟩ := (hA.ext he).five HL.out (by omega)
        obtain ⟨g', off', rfl, hc'⟩ := (hB.ext he).five HL'.out (by omega)
        obtain ⟨x0, x1, x2, x3, x4⟩ := hc k hlt
        obtain ⟨y0, y1, y2, y3, y4⟩ := hc' k hlt
        have HT := Lib.hid (take5 L k (by have := HL.out; omega))
        have HT' := Lib.hid (take5 L' k (by have := HL'.out; omega))
        generalize L.getD (k * 5) 0 = p0 at *
        generalize L.getD (k * 5 + 1) 0 = p1 at *
        generalize L.getD (k * 5 + 2) 0 = p2 at *
        generalize L.getD (k * 5 + 3) 0 = p3 at *
        generalize L.getD (k * 5 + 4) 0 = p4 at *
        generalize L'.getD (k * 5) 0 = q0 at *
        generalize L'.getD (k * 5 + 1) 0 = q1 at *
        generalize L'.getD (k * 5 + 2) 0 = q2 at *
        generalize L'.getD (k * 5 + 3) 0 = q3 at *
        generalize L'.getD (k * 5 + 4) 0 = q4 at *
        clear hc hc'
        obtain ⟨d, hd⟩ : ∃ d, d = decide (p0 = q0 ∧ p1 = q1 ∧ p2 = q2 ∧ p3 = q3 ∧ p4 = q4) := ⟨_, rfl⟩
        have hcall := fun W => eqD_any p0 p1 p2 p3 p4 q0 q1 q2 q3 q4 W
        rw [← hd] at hcall
        have HC := Lib.hid hcall
        have HD := Lib.hid hd
        clear hcall hd
        cases d with
        | true =>
          go_wp2
          go_region_held3 (fun w' => w'.cell? ⟨g, off + k * 5, none⟩ = some (.int .i64 p0) ∧ w'.cell? ⟨g, off + k * 5 + 1, none⟩ = some (.int .i64 p1) ∧ w'.cell? ⟨g, off + k * 5 + 2, none⟩ = some (.int .i64 p2) ∧ w'.cell? ⟨g, off + k * 5 + 3, none⟩ = some (.int .i64 p3) ∧ w'.cell? ⟨g, off + k * 5 + 4, none⟩ = some (.int .i64 p4) ∧ w'.cell? ⟨g', off' + k * 5, none⟩ = some (.int .i64 q0) ∧ w'.cell? ⟨g', off' + k * 5 + 1, none⟩ = some (.int .i64 q1) ∧ w'.cell? ⟨g', off' + k * 5 + 2, none⟩ = some (.int .i64 q2) ∧ w'.cell? ⟨g', off' + k * 5 + 3, none⟩ = some (.int .i64 q3) ∧ w'.cell? ⟨g', off' + k * 5 + 4, none⟩ = some (.int .i64 q4) ∧ Ext wr w')
            (first | exact ⟨x0, x1, x2, x3, x4, y0, y1, y2, y3, y4, (Ext.refl wr).drew⟩ | (go_split_ands; exact ⟨Ext.cell hx (by assumption), Ext.cell hx (by assumption), Ext.cell hx (by assumption), Ext.cell hx (by assumption), Ext.cell hx (by assumption), Ext.cell hx (by assumption), Ext.cell hx (by assumption), Ext.cell hx (by assumption), Ext.cell hx (by assumption), Ext.cell hx (by assumption), Ext.trans (by assumption) hx⟩))
            (first | (go_at_call 29; refine (HC.out _).mono ?_; rintro e w' ⟨rfl, hx⟩))
          go_split_ands
          go_wp2
          go_roundw
          case rel =>
            obtain ⟨e0, e1, e2, e3, e4⟩ := of_decide_eq_true HD.out.symm
            exact ⟨k + 1, by omega, by go_num, Lib.hid (by rw [HT.out, HT'.out, heq.out, e0, e1, e2, e3, e4]), he.trans (by assumption)⟩
          case measure => simp [intOf]; omega
        | false =>
          have HN : Hid (¬ L = L') := by
            rintro rfl
            have h1 := HT.out.symm.trans HT'.out
            rw [List.append_cancel_left_eq] at h1
            have := of_decide_eq_false HD.out.symm
            simp at h1
            exact this h1
          go_wp2
          go_region_held3 (fun w' => w'.cell? ⟨g, off + k * 5, none⟩ = some (.int .i64 p0) ∧ w'.cell? ⟨g, off + k * 5 + 1, none⟩ = some (.int .i64 p1) ∧ w'.cell? ⟨g, off + k * 5 + 2, none⟩ = some (.int .i64 p2) ∧ w'.cell? ⟨g, off + k * 5 + 3, none⟩ = some (.int .i64 p3) ∧ w'.cell? ⟨g, off + k * 5 + 4, none⟩ = some (.int .i64 p4) ∧ w'.cell? ⟨g', off' + k * 5, none⟩ = some (.int .i64 q0) ∧ w'.cell? ⟨g', off' + k * 5 + 1, none⟩ = some (.int .i64 q1) ∧ w'.cell? ⟨g', off' + k * 5 + 2, none⟩ = some (.int .i64 q2) ∧ w'.cell? ⟨g', off' + k * 5 + 3, none⟩ = some (.int .i64 q3) ∧ w'.cell? ⟨g', off' + k * 5 + 4, none⟩ = some (.int .i64 q4) ∧ Ext wr w')
            (first | exact ⟨x0, x1, x2, x3, x4, y0, y1, y2, y3, y4, (Ext.refl wr).drew⟩ | (go_split_ands; exact ⟨Ext.cell hx (by assumption), Ext.cell hx (by assumption), Ext.cell hx (by assumption), Ext.cell hx (by assumption), Ext.cell hx (by assumption), Ext.cell hx (by assumption), Ext.cell hx (by assumption), Ext.cell hx (by assumption), Ext.cell hx (by assumption), Ext.cell hx (by assumption), Ext.trans (by assumption) hx⟩))
            (first | (go_at_call 29; refine (HC.out _).mono ?_; rintro e w' ⟨rfl, hx⟩))
          go_split_ands
          go_wp2
          go_ret
          exact ⟨ret_bool (by simp [HN.out]), he.trans (by assumption)⟩
      · have hkn : k = n := by omega
        subst hkn
        go_wp2
        go_ret
        exact ⟨ret_bool (by simp [eq_of_take HL.out HL'.out heq.out]), (by repeat (first | exact Ext.refl _ | assumption | refine Ext.alloc ?_ _ | refine Ext.drew ?_ | refine Ext.drewN ?_ _ | refine Ext.trans ?_ (by assumption)))⟩
  · have hne : ((n : Int) != (m : Int)) = true := by simp; omega
    go_enter Try.func21, Try.ntmps21
    go_wp2
    go_ret
    exact ⟨ret_bool (by simp; intro h; have h1 := HL.out; have h2 := HL'.out; rw [h] at h1; omega), (by repeat (first | exact Ext.refl _ | assumption | refine Ext.alloc ?_ _ | refine Ext.drew ?_ | refine Ext.drewN ?_ _ | refine Ext.trans ?_ (by assumption)))⟩
theorem Fr.fiveAt {w : World} {lo hi : Nat} {A : Option Addr} {L : List Int} {n j : Nat} (h : Fr w lo hi A (ints L)) (hL : L.length = n * 5) (hj : j < n) :
    ∃ g off, A = some ⟨g, off, none⟩ ∧ lo ≤ g ∧ g < hi ∧ (∃ v, w.cell? ⟨g, off + j * 5, none⟩ = some v) ∧ (∃ v, w.cell? ⟨g, off + j * 5 + 1, none⟩ = some v) ∧ (∃ v, w.cell? ⟨g, off + j * 5 + 2, none⟩ = some v) ∧ (∃ v, w.cell? ⟨g, off + j * 5 + 3, none⟩ = some v) ∧ (∃ v, w.cell? ⟨g, off + j * 5 + 4, none⟩ = some v) ∧
      w.frozen? ⟨g, off + j * 5, none⟩ = false ∧ w.frozen? ⟨g, off + j * 5 + 1, none⟩ = false ∧ w.frozen? ⟨g, off + j * 5 + 2, none⟩ = false ∧ w.frozen? ⟨g, off + j * 5 + 3, none⟩ = false ∧ w.frozen? ⟨g, off + j * 5 + 4, none⟩ = false := by
  obtain ⟨g, off, e, h1, h2, hc, hf⟩ := h.int (by omega)
  exact ⟨g, off, e, h1, h2, ⟨_, hc _ (by omega)⟩, ⟨_, hc (j * 5 + 1) (by omega)⟩, ⟨_, hc (j * 5 + 2) (by omega)⟩, ⟨_, hc (j * 5 + 3) (by omega)⟩, ⟨_, hc (j * 5 + 4) (by omega)⟩, hf _, hf (j * 5 + 1), hf (j * 5 + 2), hf (j * 5 + 3), hf (j * 5 + 4)⟩
theorem Fr.mark5 {w : World} {lo hi g off : Nat} {L : List Int} {k : Int} {n j : Nat} (h : Fr w lo hi (some ⟨g, off, none⟩) (ints (marks k (j * 5) ++ L.drop (j * 5)))) (hL : L.length = n * 5) (hj : j < n) (q0 q1 q2 q3 q4 : Int)
    (e0 : q0 = k + (j : Int) * 5) (e1 : q1 = k + (j : Int) * 5 + 1) (e2 : q2 = k + (j : Int) * 5 + 2) (e3 : q3 = k + (j : Int) * 5 + 3) (e4 : q4 = k + (j : Int) * 5 + 4) :
    Fr (((((w.setCell ⟨g, off + j * 5, none⟩ (.int .i64 q0)).setCell ⟨g, off + j * 5 + 1, none⟩ (.int .i64 q1)).setCell ⟨g, off + j * 5 + 2, none⟩ (.int .i64 q2)).setCell ⟨g, off + j * 5 + 3, none⟩ (.int .i64 q3)).setCell ⟨g, off + j * 5 + 4, none⟩ (.int .i64 q4)) lo hi (some ⟨g, off, none⟩)
      (ints (marks k ((j + 1) * 5) ++ L.drop ((j + 1) * 5))) := by
  obtain rfl : q0 = k + ((j * 5 : Nat) : Int) := by omega
  obtain rfl : q1 = k + ((j * 5 + 1 : Nat) : Int) := by omega
  obtain rfl : q2 = k + ((j * 5 + 1 + 1 : Nat) : Int) := by omega
  obtain rfl : q3 = k + ((j * 5 + 1 + 1 + 1 : Nat) : Int) := by omega
  obtain rfl : q4 = k + ((j * 5 + 1 + 1 + 1 + 1 : Nat) : Int) := by omega
  clear e0 e1 e2 e3 e4
  have h1 := h.set_int (j * 5) (k + ((j * 5 : Nat) : Int)) (by simp [marks_length]; omega)
  rw [marks_step L k (j * 5) (by omega)] at h1
  have h2 := h1.set_int (j * 5 + 1) (k + ((j * 5 + 1 : Nat) : Int)) (by simp [marks_length]; omega)
  rw [marks_step L k (j * 5 + 1) (by omega)] at h2
  have h3 := h2.set_int (j * 5 + 1 + 1) (k + ((j * 5 + 1 + 1 : Nat) : Int)) (by simp [marks_length]; omega)
  rw [marks_step L k (j * 5 + 1 + 1) (by omega)] at h3
  have h4 := h3.set_int (j * 5 + 1 + 1 + 1) (k + ((j * 5 + 1 + 1 + 1 : Nat) : Int)) (by simp [marks_length]; omega)
  rw [marks_step L k (j * 5 + 1 + 1 + 1) (by omega)] at h4
  have h5 := h4.set_int (j * 5 + 1 + 1 + 1 + 1) (k + ((j * 5 + 1 + 1 + 1 + 1 : Nat) : Int)) (by simp [marks_length]; omega)
  rw [marks_step L k (j * 5 + 1 + 1 + 1 + 1) (by omega)] at h5
  rw [show (j + 1) * 5 = j * 5 + 1 + 1 + 1 + 1 + 1 from by omega]
  exact h5
set_option maxHeartbeats 800000 in
theorem markDOmegaS_any (A : Option Addr) (n c lo hi : Nat) (L : List Int) (k : Int) (w : World) (hA : Fr w lo hi A (ints L)) (hl : L.length = n * 5) (hn : n ≤ 1048576) (hk0 : 0 ≤ k) (hk1 : k ≤ 2147483648) :
    Calls Try.prog 22 #[.slice A n c, .int .i64 k] w fun e w' => e = .returned (.int .i64 (k + (n : Int) * 5)) ∧ Fr w' lo hi A (ints (marks k (n * 5))) ∧ Chg w w' lo hi := by
  have HL := Lib.hid hl
  clear hl
  go_enter Try.func22, Try.ntmps22
  go_wp2
  go_loopw [1, 5] (fun q i wr => ∃ j : Nat, j ≤ n ∧ i = .int .i64 j ∧ q = .int .i64 (k + (j : Int) * 5) ∧ Fr wr lo hi A (ints (marks k (j * 5) ++ L.drop (j * 5))) ∧ Chg w wr lo hi) (fun _ i _ => n - (intOf i).toNat)
  case atStart => exact ⟨0, Nat.zero_le _, rfl, by simp, by simpa [marks] using hA, Chg.refl _ _ _⟩
  case round =>
    obtain ⟨j, hj, rfl, rfl, hf, hch⟩ := hrel
    by_cases hlt : j < n
    · have hlen : Hid ((marks k (j * 5) ++ L.drop (j * 5)).length = n * 5) := by show _ = _; have := HL.out; simp [marks_length]; omega
      obtain ⟨g, off, rfl, hg1, hg2, ⟨v0, y0⟩, ⟨v1, y1⟩, ⟨v2, y2⟩, ⟨v3, y3⟩, ⟨v4, y4⟩, f0, f1, f2, f3, f4⟩ := hf.fiveAt hlen.out hlt
      have HS := Lib.hid (hf.mark5 HL.out hlt (k + (j : Int) * 5) (k + (j : Int) * 5 + 1) (k + (j : Int) * 5 + 1 + 1) (k + (j : Int) * 5 + 1 + 1 + 1) (k + (j : Int) * 5 + 1 + 1 + 1 + 1) rfl rfl (by omega) (by omega) (by omega))
      clear hf
      go_wp2
      go_roundw
      case rel => exact ⟨j + 1, by omega, by go_num, by go_num, HS.out, ((((hch.setCell hg1 hg2 _).setCell hg1 hg2 _).setCell hg1 hg2 _).setCell hg1 hg2 _).setCell hg1 hg2 _⟩
      case measure => simp [intOf]; omega
    · have hjn : j = n := by omega
      subst hjn
      go_wp2
      go_ret
      exact ⟨rfl, by rw [List.drop_eq_nil_of_le (by have := HL.out; omega), List.append_nil] at hf; exact hf, hch⟩
set_option maxHeartbeats 800000 in
theorem heldDOmegaS_any (A : Option Addr) (n c : Nat) (k : Int) (w : World) (hA : Rd w A (ints (marks k (n * 5)))) (hn : n ≤ 1048576) (hk0 : 0 ≤ k) (hk1 : k ≤ 2147483648) :
    Calls Try.prog 23 #[.slice A n c, .int .i64 k] w fun e w' => e = .returned (.int .i64 (k + (n : Int) * 5)) ∧ Ext w w' := by
  go_enter Try.func23, Try.ntmps23
  go_wp2
  go_loopw [1, 5] (fun q i wr => ∃ j : Nat, j ≤ n ∧ i = .int .i64 j ∧ q = .int .i64 (k + (j : Int) * 5) ∧ Ext w wr) (fun _ i _ => n - (intOf i).toNat)
  case atStart => exact ⟨0, Nat.zero_le _, rfl, by simp, Ext.refl _⟩
  case round =>
    obtain ⟨j, hj, rfl, rfl, he⟩ := hrel
    by_cases hlt : j < n
    · obtain ⟨g, off, rfl, hc⟩ := (hA.ext he).five (marks_length _ _) (by omega)
      obtain ⟨x0, x1, x2, x3, x4⟩ := hc j hlt
      rw [marks_getD k (n * 5) _ (by omega), show k + ((j * 5 : Nat) : Int) = k + (j : Int) * 5 from by omega] at x0
      rw [marks_getD k (n * 5) _ (by omega), show k + ((j * 5 + 1 : Nat) : Int) = k + (j : Int) * 5 + 1 from by omega] at x1
      rw [marks_getD k (n * 5) _ (by omega), show k + ((j * 5 + 2 : Nat) : Int) = k + (j : Int) * 5 + 1 + 1 from by omega] at x2
      rw [marks_getD k (n * 5) _ (by omega), show k + ((j * 5 + 3 : Nat) : Int) = k + (j : Int) * 5 + 1 + 1 + 1 from by omega] at x3
      rw [marks_getD k (n * 5) _ (by omega), show k + ((j * 5 + 4 : Nat) : Int) = k + (j : Int) * 5 + 1 + 1 + 1 + 1 from by omega] at x4
      clear hc
      go_wp2
      go_roundw
      case rel => exact ⟨j + 1, by omega, by go_num, by go_num, (by repeat (first | exact Ext.refl _ | assumption | refine Ext.alloc ?_ _ | refine Ext.drew ?_ | refine Ext.drewN ?_ _ | refine Ext.trans ?_ (by assumption)))⟩
      case measure => simp [intOf]; omega
    · have hjn : j = n := by omega
      subst hjn
      go_wp2
      go_ret
      exact ⟨rfl, (by repeat (first | exact Ext.refl _ | assumption | refine Ext.alloc ?_ _ | refine Ext.drew ?_ | refine Ext.drewN ?_ _ | refine Ext.trans ?_ (by assumption)))⟩
end Go.Proofs.Ytkcbkbpjaccpgaa
