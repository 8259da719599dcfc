/-
  Contracts of the helpers on slices of gates: a slice of n gates is a row of 4 n ints. Conditions: the slices read as rows; what is written lies in new memory.
-/
import Derived.Test.YtkhgkaiadfebmaaDoorGate
import Derived.Test.YtkhgkaiadfebmaaDoorInts
import Derived.Deep.RegionHeld3
import Derived.WalkSpells
import Derived.StillTactics
import Derived.Laws.Pointers
set_option linter.unusedSimpArgs false
set_option linter.unusedVariables false
namespace Go.Proofs.YtkhgkaiadfebmaaDoor
open Go.RowKit

theorem Rd.four {w : World} {A : Option Addr} {L : List Int} {n : Nat} (h : Rd w A (ints L)) (hL : L.length = n * 4) (hn : 0 < n) :
    ∃ g off, A = some ⟨g, off, none⟩ ∧ ∀ j, j < n → w.cell? ⟨g, off + j * 4, none⟩ = some (.int .i64 (L.getD (j * 4) 0)) ∧ w.cell? ⟨g, off + j * 4 + 1, none⟩ = some (.int .i64 (L.getD (j * 4 + 1) 0)) ∧
      w.cell? ⟨g, off + j * 4 + 2, none⟩ = some (.int .i64 (L.getD (j * 4 + 2) 0)) ∧ w.cell? ⟨g, off + j * 4 + 3, none⟩ = some (.int .i64 (L.getD (j * 4 + 3) 0)) := by
  obtain ⟨g, off, e, hc⟩ := h.int (by omega)
  exact ⟨g, off, e, fun j hj => ⟨hc _ (by omega), hc (j * 4 + 1) (by omega), hc (j * 4 + 2) (by omega), hc (j * 4 + 3) (by omega)⟩⟩
theorem take4 (L : List Int) (j : Nat) (h : j * 4 + 3 < L.length) : L.take ((j + 1) * 4) = L.take (j * 4) ++ [L.getD (j * 4) 0, L.getD (j * 4 + 1) 0, L.getD (j * 4 + 2) 0, L.getD (j * 4 + 3) 0] := by
  rw [show (j + 1) * 4 = j * 4 + 1 + 1 + 1 + 1 from by omega, take_getD _ _ (by omega), take_getD _ _ (by omega), take_getD _ _ (by omega), take_getD _ _ (by omega)]
  simp

theorem eqGate_exact (k a b c k' a' b' c' : Int) (w : World) : Calls Tryd.prog 9 #[.agg #[.int .i64 k, .int .i64 a, .int .i64 b, .int .i64 c], .agg #[.int .i64 k', .int .i64 a', .int .i64 b', .int .i64 c']] w fun e w' => e = .returned (.bool (decide (k = k' ∧ a = a' ∧ b = b' ∧ c = c'))) ∧
    (w.alloc (.cells #[.int .i64 k, .int .i64 a, .int .i64 b, .int .i64 c] 23)).alloc (.cells #[.int .i64 k', .int .i64 a', .int .i64 b', .int .i64 c'] 23) = w' := by
  go_enter Tryd.func9, Tryd.ntmps9
  go_wp2
  all_goals go_ret
  all_goals (refine ⟨ret_bool ?_, ?_⟩ <;> simp_all)
set_option maxHeartbeats 1600000 in
theorem eqGateS_any (A B : Option Addr) (n m c c' : Nat) (L L' : List Int) (w : World) (hA : Rd w A (ints L)) (hB : Rd w B (ints L')) (hl : L.length = n * 4) (hl' : L'.length = m * 4) (hn : n ≤ 1152921504606846976) (hm : m ≤ 1152921504606846976) :
    Calls Tryd.prog 37 #[.slice A n c, .slice B m c'] w fun e w' => e = .returned (.bool (decide (L = L'))) ∧ Ext w w' := by
  have HL := Lib.hid hl
  have HL' := Lib.hid hl'
  clear hl hl'
  by_cases hnm : n = m
  · subst hnm
    go_enter Tryd.func37, Tryd.ntmps37
    go_wp2
    go_loopw [5] (fun i wr => ∃ k : Nat, k ≤ n ∧ i = .int .i64 k ∧ Hid (L.take (k * 4) = L'.take (k * 4)) ∧ Ext w wr) (fun i _ => n - (intOf i).toNat)
    case atStart => exact ⟨0, Nat.zero_le _, rfl, Lib.hid (by simp), Ext.refl _⟩
    case round =>
      obtain ⟨k, hk, rfl, heq, he⟩ := hrel
      by_cases hlt : k < n
      · obtain ⟨g, off, rfl, hc⟩ := (hA.ext he).four HL.out (by omega)
        obtain ⟨g', off', rfl, hc'⟩ := (hB.ext he).four HL'.out (by omega)
        obtain ⟨x0, x1, x2, x3⟩ := hc k hlt
        obtain ⟨y0, y1, y2, y3⟩ := hc' k hlt
        have hz := lt_of_cell x0
        have hz' := lt_of_cell y0
        simp at hz hz'
        have HT := Lib.hid (take4 L k (by have := HL.out; omega))
        have HT' := Lib.hid (take4 L' k (by have := HL'.out; omega))
        generalize L.getD (k * 4) 0 = p0 at *
        generalize L.getD (k * 4 + 1) 0 = p1 at *
        generalize L.getD (k * 4 + 2) 0 = p2 at *
        generalize L.getD (k * 4 + 3) 0 = p3 at *
        generalize L'.getD (k * 4) 0 = q0 at *
        generalize L'.getD (k * 4 + 1) 0 = q1 at *
        generalize L'.getD (k * 4 + 2) 0 = q2 at *
        generalize L'.getD (k * 4 + 3) 0 = q3 at *
        clear hc hc'
        obtain ⟨d, hd⟩ : ∃ d, d = decide (p0 = q0 ∧ p1 = q1 ∧ p2 = q2 ∧ p3 = q3) := ⟨_, rfl⟩
        have hcall := fun W => eqGate_exact p0 p1 p2 p3 q0 q1 q2 q3 W
        rw [← hd] at hcall
        have HC := Lib.hid hcall
        have HD := Lib.hid hd
        clear hcall hd
        cases d with
        | true =>
          go_wp2
          go_region_held3 (fun w' => w'.cell? ⟨g, off + k * 4, none⟩ = some (.int .i64 p0) ∧ w'.cell? ⟨g, off + k * 4 + 1, none⟩ = some (.int .i64 p1) ∧ w'.cell? ⟨g, off + k * 4 + 2, none⟩ = some (.int .i64 p2) ∧ w'.cell? ⟨g, off + k * 4 + 3, none⟩ = some (.int .i64 p3) ∧ w'.cell? ⟨g', off' + k * 4, none⟩ = some (.int .i64 q0) ∧ w'.cell? ⟨g', off' + k * 4 + 1, none⟩ = some (.int .i64 q1) ∧ w'.cell? ⟨g', off' + k * 4 + 2, none⟩ = some (.int .i64 q2) ∧ w'.cell? ⟨g', off' + k * 4 + 3, none⟩ = some (.int .i64 q3)) (go_keep)
            (first | (go_at_call 9; refine (HC.out _).mono ?_; rintro e w' ⟨rfl, rfl⟩))
          go_wp2
          go_roundw
          case rel =>
            obtain ⟨e0, e1, e2, e3⟩ := of_decide_eq_true HD.out.symm
            exact ⟨k + 1, by omega, by go_num, Lib.hid (by rw [HT.out, HT'.out, heq.out, e0, e1, e2, e3]), (by repeat (first | exact Ext.refl _ | assumption | refine Ext.alloc ?_ _ | refine Ext.drew ?_ | refine Ext.drewN ?_ _ | refine Ext.trans ?_ (by assumption)))⟩
          case measure => simp [intOf]; omega
        | false =>
          have HN : Hid (¬ L = L') := by
            rintro rfl
            have h1 := HT.out.symm.trans HT'.out
            rw [List.append_cancel_left_eq] at h1
            have := of_decide_eq_false HD.out.symm
            simp at h1
            exact this h1
          go_wp2
          go_region_held3 (fun w' => w'.cell? ⟨g, off + k * 4, none⟩ = some (.int .i64 p0) ∧ w'.cell? ⟨g, off + k * 4 + 1, none⟩ = some (.int .i64 p1) ∧ w'.cell? ⟨g, off + k * 4 + 2, none⟩ = some (.int .i64 p2) ∧ w'.cell? ⟨g, off + k * 4 + 3, none⟩ = some (.int .i64 p3) ∧ w'.cell? ⟨g', off' + k * 4, none⟩ = some (.int .i64 q0) ∧ w'.cell? ⟨g', off' + k * 4 + 1, none⟩ = some (.int .i64 q1) ∧ w'.cell? ⟨g', off' + k * 4 + 2, none⟩ = some (.int .i64 q2) ∧ w'.cell? ⟨g', off' + k * 4 + 3, none⟩ = some (.int .i64 q3)) (go_keep)
            (first | (go_at_call 9; refine (HC.out _).mono ?_; rintro e w' ⟨rfl, rfl⟩))
          go_wp2
          go_ret
          exact ⟨ret_bool (by simp [HN.out]), (by repeat (first | exact Ext.refl _ | assumption | refine Ext.alloc ?_ _ | refine Ext.drew ?_ | refine Ext.drewN ?_ _ | refine Ext.trans ?_ (by assumption)))⟩
      · have hkn : k = n := by omega
        subst hkn
        go_wp2
        go_ret
        exact ⟨ret_bool (by simp [eq_of_take HL.out HL'.out heq.out]), (by repeat (first | exact Ext.refl _ | assumption | refine Ext.alloc ?_ _ | refine Ext.drew ?_ | refine Ext.drewN ?_ _ | refine Ext.trans ?_ (by assumption)))⟩
  · have hne : ((n : Int) != (m : Int)) = true := by simp; omega
    go_enter Tryd.func37, Tryd.ntmps37
    go_wp2
    go_ret
    exact ⟨ret_bool (by simp; intro h; have h1 := HL.out; have h2 := HL'.out; rw [h] at h1; omega), (by repeat (first | exact Ext.refl _ | assumption | refine Ext.alloc ?_ _ | refine Ext.drew ?_ | refine Ext.drewN ?_ _ | refine Ext.trans ?_ (by assumption)))⟩
theorem made_zero (m : Nat) (z : Array Value) (hs : 0 < z.size) (h : ∀ i, i < z.size → z[i]! = .int .i64 0) : (madeCells z m).toList = ints (List.replicate m 0) := by
  unfold madeCells ints
  rw [Array.toList_map, List.map_replicate, List.eq_replicate_iff]
  refine ⟨by simp, fun b hb => ?_⟩
  simp only [List.mem_map] at hb
  obtain ⟨i, _, rfl⟩ := hb
  exact h _ (Nat.mod_lt _ hs)
theorem Fr.four0 {w : World} {lo hi g : Nat} {L : List Int} {n j : Nat} (h : Fr w lo hi (some ⟨g, 0, none⟩) (ints L)) (hL : L.length = n * 4) (hj : j < n) :
    (∃ v, w.cell? ⟨g, j * 4, none⟩ = some v) ∧ (∃ v, w.cell? ⟨g, j * 4 + 1, none⟩ = some v) ∧ (∃ v, w.cell? ⟨g, j * 4 + 2, none⟩ = some v) ∧ (∃ v, w.cell? ⟨g, j * 4 + 3, none⟩ = some v) ∧
      w.frozen? ⟨g, j * 4, none⟩ = false ∧ w.frozen? ⟨g, j * 4 + 1, none⟩ = false ∧ w.frozen? ⟨g, j * 4 + 2, none⟩ = false ∧ w.frozen? ⟨g, j * 4 + 3, none⟩ = false := by
  obtain ⟨g', off', e', _, _, hc, hf⟩ := h.int (by omega)
  injection e' with e'
  injection e' with e1 e2
  subst e1 e2
  simp only [Nat.zero_add] at hc hf
  exact ⟨⟨_, hc _ (by omega)⟩, ⟨_, hc _ (by omega)⟩, ⟨_, hc _ (by omega)⟩, ⟨_, hc _ (by omega)⟩, hf _, hf _, hf _, hf _⟩
theorem set_split (l : List Int) (j : Nat) (x : Int) (hj : j < l.length) : l.set j x = l.take j ++ [x] ++ l.drop (j + 1) := by
  rw [List.set_eq_take_append_cons_drop, if_pos hj]; simp
theorem set4_list (post : List Int) (a b c d p0 p1 p2 p3 : Int) : ∀ pre : List Int, ((((pre ++ a :: b :: c :: d :: post).set pre.length p0).set (pre.length + 1) p1).set (pre.length + 2) p2).set (pre.length + 3) p3 = pre ++ p0 :: p1 :: p2 :: p3 :: post
  | [] => rfl
  | x :: pre => by
    have := set4_list post a b c d p0 p1 p2 p3 pre
    simp only [List.cons_append, List.length_cons, List.set_cons_succ, show pre.length + 1 + 1 = (pre.length + 1) + 1 from rfl, show pre.length + 1 + 2 = (pre.length + 2) + 1 from rfl, show pre.length + 1 + 3 = (pre.length + 3) + 1 from rfl]
    rw [this]
theorem Fr.set4 {w : World} {lo hi g : Nat} {L : List Int} {n j : Nat} (h : Fr w lo hi (some ⟨g, 0, none⟩) (ints L)) (hL : L.length = n * 4) (hj : j < n) (p0 p1 p2 p3 : Int) :
    Fr ((((w.setCell ⟨g, j * 4, none⟩ (.int .i64 p0)).setCell ⟨g, j * 4 + 1, none⟩ (.int .i64 p1)).setCell ⟨g, j * 4 + 2, none⟩ (.int .i64 p2)).setCell ⟨g, j * 4 + 3, none⟩ (.int .i64 p3)) lo hi (some ⟨g, 0, none⟩)
      (ints (L.take (j * 4) ++ [p0, p1, p2, p3] ++ L.drop (j * 4 + 4))) := by
  have h1 := h.set_int (j * 4) p0 (by omega)
  have h2 := h1.set_int (j * 4 + 1) p1 (by simp; omega)
  have h3 := h2.set_int (j * 4 + 2) p2 (by simp; omega)
  have h4 := h3.set_int (j * 4 + 3) p3 (by simp; omega)
  simp only [Nat.zero_add] at h4
  have e : (((L.set (j * 4) p0).set (j * 4 + 1) p1).set (j * 4 + 2) p2).set (j * 4 + 3) p3 = L.take (j * 4) ++ [p0, p1, p2, p3] ++ L.drop (j * 4 + 4) := by
    obtain ⟨pre, post, a, b, c, d, hp, e1, e2, e3⟩ : ∃ pre post : List Int, ∃ a b c d : Int, pre.length = j * 4 ∧ L = pre ++ a :: b :: c :: d :: post ∧ L.take (j * 4) = pre ∧ L.drop (j * 4 + 4) = post :=
      ⟨L.take (j * 4), L.drop (j * 4 + 4), L[j * 4], L[j * 4 + 1], L[j * 4 + 2], L[j * 4 + 3], by simp; omega, by
        rw [← List.drop_eq_getElem_cons (i := j * 4 + 3) (by omega), ← List.drop_eq_getElem_cons (i := j * 4 + 2) (by omega), ← List.drop_eq_getElem_cons (i := j * 4 + 1) (by omega), ← List.drop_eq_getElem_cons (i := j * 4) (by omega), List.take_append_drop], rfl, rfl⟩
    rw [e2, e3, e1, ← hp, set4_list]
    simp
  rw [e] at h4
  exact h4
end Go.Proofs.YtkhgkaiadfebmaaDoor
