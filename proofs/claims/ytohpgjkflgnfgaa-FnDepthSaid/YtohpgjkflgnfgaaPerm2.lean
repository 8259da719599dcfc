/-
  Contracts of ActsOn, IdentityPermutation and IsPermutation. Conditions: the slices read as lists.
-/
import Derived.Test.YtohpgjkflgnfgaaPerm
set_option linter.unusedSimpArgs false
set_option linter.unusedVariables false
namespace Go.Proofs.Ytohpgjkflgnfgaa
open Go.RowKit

theorem spec_actsOn (k a b c q : Int) (w : World) : Calls Try.prog 60 #[.agg #[.int .i64 k, .int .i64 a, .int .i64 b, .int .i64 c], .int .i64 q] w fun e w' => e = .returned (.bool (decide (q ∈ qubits k a b c))) ∧ Ext w w' := by
  have hb := arity_bd k
  go_enter Try.func60, Try.ntmps60
  go_wp2_with fail
  refine (spec_gateQubits _ _ _ _ _).mono ?_
  rintro e w1 ⟨B, c', rfl, hf, h1⟩
  go_wp2_with fail
  refine (l1HasInt_any B _ c' (qubits k a b c) q _ hf.rd (qubits_length _ _ _ _) (by omega)).mono ?_
  rintro e w2 ⟨rfl, rfl⟩
  go_wp2
  go_ret
  exact ⟨rfl, (by repeat (first | exact Ext.refl _ | assumption | refine Ext.alloc ?_ _ | refine Ext.drew ?_ | refine Ext.drewN ?_ _ | refine Ext.trans ?_ (by assumption)))⟩
set_option maxHeartbeats 400000 in
theorem impl_actsOn (k a b c q : Int) (w : World) : Calls Try.prog 52 #[.agg #[.int .i64 k, .int .i64 a, .int .i64 b, .int .i64 c], .int .i64 q] w fun e w' => e = .returned (.bool (decide (q ∈ qubits k a b c))) ∧ Ext w w' := by
  have hb := arity_bd k
  have HQ := Lib.hid (qubits_length k a b c)
  go_enter Try.func52, Try.ntmps52
  go_wp2_with fail
  refine (impl_gateQubits _ _ _ _ _).mono ?_
  rintro e w1 ⟨B, c', rfl, hf, h1⟩
  obtain ⟨n, hn⟩ : ∃ n, n = (arity k).toNat := ⟨_, rfl⟩
  rw [← hn] at HQ ⊢
  have hn3 : n ≤ 3 := by omega
  clear hn hb
  have hA := hf.rd
  clear hf
  obtain ⟨l, hl⟩ : ∃ l, l = qubits k a b c := ⟨_, rfl⟩
  rw [← hl] at HQ hA
  have HE := Lib.hid hl
  clear hl
  go_wp2
  go_loopw [6, 10] (fun _ i wr => ∃ j : Nat, j ≤ n ∧ i = .int .i64 j ∧ Hid (¬ q ∈ l.take j) ∧ Ext w1 wr) (fun _ i _ => n - (intOf i).toNat)
  case atStart => exact ⟨0, Nat.zero_le _, rfl, by show ¬ _; simp, Ext.refl _⟩
  case round =>
    obtain ⟨j, hj, rfl, hno, he⟩ := hrel
    by_cases hlt : j < n
    · obtain ⟨g, off, rfl, hc⟩ := (hA.ext he).int (by have := HQ.out; omega)
      have c1 := hc j (by have := HQ.out; omega)
      obtain ⟨y, hy⟩ : ∃ y, y = l.getD j 0 := ⟨_, rfl⟩
      rw [← hy] at c1
      have HY := Lib.hid hy
      clear hy hc
      by_cases hxy : y = q
      · subst hxy
        have HM : Hid (y ∈ l) := by
          show y ∈ l
          have h : j < l.length := by have := HQ.out; omega
          rw [HY.out]
          simp [List.getD, h]
        go_wp2
        go_ret
        exact ⟨ret_bool (by rw [← HE.out]; simp [HM.out]), (by repeat (first | exact Ext.refl _ | assumption | refine Ext.alloc ?_ _ | refine Ext.drew ?_ | refine Ext.drewN ?_ _ | refine Ext.trans ?_ (by assumption)))⟩
      · have hne : (y == q) = false := by simpa using hxy
        have HXY := Lib.hid hxy
        clear hxy
        go_wp2
        go_roundw
        case rel =>
          refine ⟨j + 1, by omega, by go_num, ?_, (by repeat (first | exact Ext.refl _ | assumption | refine Ext.alloc ?_ _ | refine Ext.drew ?_ | refine Ext.drewN ?_ _ | refine Ext.trans ?_ (by assumption)))⟩
          show ¬ _
          rw [mem_take_succ (by have := HQ.out; omega), ← HY.out]
          rintro (h | h)
          · exact hno.out h
          · exact HXY.out h
        case measure => simp [intOf]; omega
    · have hjn : j = n := by omega
      subst hjn
      go_wp2
      go_ret
      refine ⟨ret_bool ?_, (by repeat (first | exact Ext.refl _ | assumption | refine Ext.alloc ?_ _ | refine Ext.drew ?_ | refine Ext.drewN ?_ _ | refine Ext.trans ?_ (by assumption)))⟩
      have := hno.out
      rw [List.take_of_length_le (by have := HQ.out; omega)] at this
      rw [← HE.out]
      simp [this]
/-- 0, 1, .., n - 1 where n is a number of qubits. -/
def idPerm (n : Int) : List Int := if 1 ≤ n ∧ n ≤ 4 then marks 0 n.toNat else []
theorem marks_succ (k : Int) (n : Nat) : marks k (n + 1) = marks k n ++ [k + n] := by simp [marks, List.range_succ]
theorem spec_idPerm_no (n : Int) (w : World) (hn : ¬ (1 ≤ n ∧ n ≤ 4)) : Calls Try.prog 64 #[.int .i64 n] w fun e w' => ∃ B c, e = .returned (.slice B 0 c) ∧ Ext w w' := by
  have hb : inB n 1 4 = false := by unfold inB; simp; omega
  clear hn
  go_enter Try.func64, Try.ntmps64
  first
  | (go_wp2_with (go_at_call 47; refine (spec_in _ _ _ _).mono ?_; rintro e w' ⟨rfl, rfl⟩)
     go_ret
     exact ⟨_, _, rfl, (by repeat (first | exact Ext.refl _ | assumption | refine Ext.alloc ?_ _ | refine Ext.drew ?_ | refine Ext.drewN ?_ _ | refine Ext.trans ?_ (by assumption)))⟩)
  | (go_wp2_with (go_at_call 47; refine (spec_in _ _ _ _).mono ?_; rintro e w' ⟨rfl, rfl⟩)
     refine wp_loop_rounds 1 ?_
     rw [rounds_succ]
     go_wp2_with (go_at_call 47; refine (spec_in _ _ _ _).mono ?_; rintro e w' ⟨rfl, rfl⟩)
     go_ret
     exact ⟨_, _, rfl, (by repeat (first | exact Ext.refl _ | assumption | refine Ext.alloc ?_ _ | refine Ext.drew ?_ | refine Ext.drewN ?_ _ | refine Ext.trans ?_ (by assumption)))⟩)
set_option maxHeartbeats 400000 in
theorem spec_idPerm_own (n : Nat) (w : World) (h1 : 1 ≤ n) (h4 : n ≤ 4) : Calls Try.prog 64 #[.int .i64 n] w fun e w' => ∃ v, e = .returned v ∧ w'.ownsRow w.heap.size 3 1 v n (ints (marks 0 n)) ∧ Ext w w' := by
  have hb : inB n 1 4 = true := by unfold inB; simp; omega
  obtain ⟨i0, hi, hz0, hz1, hz2⟩ := info_parts info_int'
  go_enter Try.func64, Try.ntmps64
  go_wp2_with (go_at_call 47; refine (spec_in _ _ _ _).mono ?_; rintro e w' ⟨rfl, rfl⟩)
  go_loopw [3, 4] (fun v i wr => ∃ j : Nat, j ≤ n ∧ i = .int .i64 j ∧ wr.ownsRow w.heap.size 3 1 v j (ints (marks 0 j)) ∧ Ext w wr) (fun _ i _ => n - (intOf i).toNat)
  case atStart => exact ⟨0, Nat.zero_le _, rfl, own_new #[] 0 rfl (Nat.le_refl _) (by simp) (by simp), (by repeat (first | exact Ext.refl _ | assumption | refine Ext.alloc ?_ _ | refine Ext.drew ?_ | refine Ext.drewN ?_ _ | refine Ext.trans ?_ (by assumption)))⟩
  case round =>
    obtain ⟨j, hj, rfl, hown, he⟩ := hrel
    by_cases hlt : j < n
    · go_wp2_with (first | (go_at_call 47; refine (spec_in _ _ _ _).mono ?_; rintro e w' ⟨rfl, rfl⟩) | (at_builtin; refine wpList_append_own _ rfl _ _ 69 rfl w.heap.size 3 i0 (.int .i64 0) 1 8 Try.underlying69 hi hz0 hz1 hz2 rfl (by decide) _ _ _ rfl (hown.alloc _) ⟨wr.heap.size, 0, none⟩ 1 1 [.int .i64 j] rfl rfl ?c1 ?c2 ?c3 ?c4 ?c5 ?_))
      case c1 =>
        intro i u hu
        (rcases i with _ | i) <;> simp_all [Addr.add]
      case c2 => intro u hu; simp at hu; subst hu; rfl
      case c3 => unfold maxLen; omega
      case c4 => omega
      case c5 => have := he.size; simp; omega
      · intro v' w1 hown' hgrow _
        have he' := own_ext (he.alloc _) (hown.alloc _) (Nat.le_refl _) hgrow
        have HO : Hid (w1.ownsRow w.heap.size 3 1 v' (j + 1) (ints (marks 0 (j + 1)))) := by
          show World.ownsRow _ _ _ _ _ _ _
          rw [marks_succ]; simpa [ints] using hown'
        clear hown' hgrow hown he
        go_wp2
        go_roundw
        case rel => exact ⟨j + 1, by omega, by go_num, HO.out, he'⟩
        case measure => simp [intOf]; omega
    · have hjn : j = n := by omega
      subst hjn
      have HO := Lib.hid hown
      clear hown hi hz0 hz1 hz2
      go_wp2_with (go_at_call 47; refine (spec_in _ _ _ _).mono ?_; rintro e w' ⟨rfl, rfl⟩)
      go_ret
      exact ⟨_, rfl, HO.out, he⟩
theorem spec_idPerm_yes' (n : Nat) (w : World) (h1 : 1 ≤ n) (h4 : n ≤ 4) : Calls Try.prog 64 #[.int .i64 n] w fun e w' => ∃ B c, e = .returned (.slice B n c) ∧ n ≤ c ∧ Fr w' w.heap.size w'.heap.size B (ints (marks 0 n)) ∧ Ext w w' :=
  (spec_idPerm_own n w h1 h4).mono fun _ _ ⟨v, h1, h2, h3⟩ => by
    obtain ⟨B, c, rfl, hc⟩ := own_form' h2
    exact ⟨B, c, h1, hc, Fr.of_own h2, h3⟩
theorem spec_idPerm_yes (n : Nat) (w : World) (h1 : 1 ≤ n) (h4 : n ≤ 4) : Calls Try.prog 64 #[.int .i64 n] w fun e w' => ∃ B c, e = .returned (.slice B n c) ∧ Fr w' w.heap.size w'.heap.size B (ints (marks 0 n)) ∧ Ext w w' :=
  (spec_idPerm_yes' n w h1 h4).mono fun _ _ ⟨B, c, h1, _, h2, h3⟩ => ⟨B, c, h1, h2, h3⟩
end Go.Proofs.Ytohpgjkflgnfgaa
