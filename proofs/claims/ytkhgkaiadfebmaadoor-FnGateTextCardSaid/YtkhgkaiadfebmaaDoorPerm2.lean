/-
  Contracts of ActsOn, IdentityPermutation and IsPermutation. Conditions: the slices read as lists.
-/
import Derived.Test.YtkhgkaiadfebmaaDoorPerm
set_option linter.unusedSimpArgs false
set_option linter.unusedVariables false
namespace Go.Proofs.YtkhgkaiadfebmaaDoor
open Go.RowKit

/-- 0, 1, .., n - 1 where n is a number of qubits. -/
def idPerm (n : Int) : List Int := if 1 ≤ n ∧ n ≤ 4 then marks 0 n.toNat else []
theorem marks_succ (k : Int) (n : Nat) : marks k (n + 1) = marks k n ++ [k + n] := by simp [marks, List.range_succ]
theorem spec_idPerm_no (n : Int) (w : World) (hn : ¬ (1 ≤ n ∧ n ≤ 4)) : Calls Tryd.prog 80 #[.int .i64 n] w fun e w' => ∃ B c, e = .returned (.slice B 0 c) ∧ Ext w w' := by
  have hb : inB n 1 4 = false := by unfold inB; simp; omega
  clear hn
  go_enter Tryd.func80, Tryd.ntmps80
  first
  | (go_wp2_with (go_at_call 53; refine (spec_in _ _ _ _).mono ?_; rintro e w' ⟨rfl, rfl⟩)
     go_ret
     exact ⟨_, _, rfl, (by repeat (first | exact Ext.refl _ | assumption | refine Ext.alloc ?_ _ | refine Ext.drew ?_ | refine Ext.drewN ?_ _ | refine Ext.trans ?_ (by assumption)))⟩)
  | (go_wp2_with (go_at_call 53; refine (spec_in _ _ _ _).mono ?_; rintro e w' ⟨rfl, rfl⟩)
     refine wp_loop_rounds 1 ?_
     rw [rounds_succ]
     go_wp2_with (go_at_call 53; refine (spec_in _ _ _ _).mono ?_; rintro e w' ⟨rfl, rfl⟩)
     go_ret
     exact ⟨_, _, rfl, (by repeat (first | exact Ext.refl _ | assumption | refine Ext.alloc ?_ _ | refine Ext.drew ?_ | refine Ext.drewN ?_ _ | refine Ext.trans ?_ (by assumption)))⟩)
set_option maxHeartbeats 400000 in
theorem spec_idPerm_own (n : Nat) (w : World) (h1 : 1 ≤ n) (h4 : n ≤ 4) : Calls Tryd.prog 80 #[.int .i64 n] w fun e w' => ∃ v, e = .returned v ∧ w'.ownsRow w.heap.size 3 1 v n (ints (marks 0 n)) ∧ Ext w w' := by
  have hb : inB n 1 4 = true := by unfold inB; simp; omega
  obtain ⟨i0, hi, hz0, hz1, hz2⟩ := info_parts info_int'
  go_enter Tryd.func80, Tryd.ntmps80
  go_wp2_with (go_at_call 53; refine (spec_in _ _ _ _).mono ?_; rintro e w' ⟨rfl, rfl⟩)
  go_loopw [3, 4] (fun v i wr => ∃ j : Nat, j ≤ n ∧ i = .int .i64 j ∧ wr.ownsRow w.heap.size 3 1 v j (ints (marks 0 j)) ∧ Ext w wr) (fun _ i _ => n - (intOf i).toNat)
  case atStart => exact ⟨0, Nat.zero_le _, rfl, own_new #[] 0 rfl (Nat.le_refl _) (by simp) (by simp), (by repeat (first | exact Ext.refl _ | assumption | refine Ext.alloc ?_ _ | refine Ext.drew ?_ | refine Ext.drewN ?_ _ | refine Ext.trans ?_ (by assumption)))⟩
  case round =>
    obtain ⟨j, hj, rfl, hown, he⟩ := hrel
    by_cases hlt : j < n
    · go_wp2_with (first | (go_at_call 53; refine (spec_in _ _ _ _).mono ?_; rintro e w' ⟨rfl, rfl⟩) | (at_builtin; refine wpList_append_own _ rfl _ _ 55 rfl w.heap.size 3 i0 (.int .i64 0) 1 8 Tryd.underlying55 hi hz0 hz1 hz2 rfl (by decide) _ _ _ rfl (hown.alloc _) ⟨wr.heap.size, 0, none⟩ 1 1 [.int .i64 j] rfl rfl ?c1 ?c2 ?c3 ?c4 ?c5 ?_))
      case c1 =>
        intro i u hu
        (rcases i with _ | i) <;> simp_all [Addr.add]
      case c2 => intro u hu; simp at hu; subst hu; rfl
      case c3 => unfold maxLen; omega
      case c4 => omega
      case c5 => have := he.size; simp; omega
      · intro v' w1 hown' hgrow _
        have he' := own_ext (he.alloc _) (hown.alloc _) (Nat.le_refl _) hgrow
        have HO : Hid (w1.ownsRow w.heap.size 3 1 v' (j + 1) (ints (marks 0 (j + 1)))) := by
          show World.ownsRow _ _ _ _ _ _ _
          rw [marks_succ]; simpa [ints] using hown'
        clear hown' hgrow hown he
        go_wp2
        go_roundw
        case rel => exact ⟨j + 1, by omega, by go_num, HO.out, he'⟩
        case measure => simp [intOf]; omega
    · have hjn : j = n := by omega
      subst hjn
      have HO := Lib.hid hown
      clear hown hi hz0 hz1 hz2
      go_wp2_with (go_at_call 53; refine (spec_in _ _ _ _).mono ?_; rintro e w' ⟨rfl, rfl⟩)
      go_ret
      exact ⟨_, rfl, HO.out, he⟩
theorem spec_idPerm_yes' (n : Nat) (w : World) (h1 : 1 ≤ n) (h4 : n ≤ 4) : Calls Tryd.prog 80 #[.int .i64 n] w fun e w' => ∃ B c, e = .returned (.slice B n c) ∧ n ≤ c ∧ Fr w' w.heap.size w'.heap.size B (ints (marks 0 n)) ∧ Ext w w' :=
  (spec_idPerm_own n w h1 h4).mono fun _ _ ⟨v, h1, h2, h3⟩ => by
    obtain ⟨B, c, rfl, hc⟩ := own_form' h2
    exact ⟨B, c, h1, hc, Fr.of_own h2, h3⟩
theorem spec_idPerm_yes (n : Nat) (w : World) (h1 : 1 ≤ n) (h4 : n ≤ 4) : Calls Tryd.prog 80 #[.int .i64 n] w fun e w' => ∃ B c, e = .returned (.slice B n c) ∧ Fr w' w.heap.size w'.heap.size B (ints (marks 0 n)) ∧ Ext w w' :=
  (spec_idPerm_yes' n w h1 h4).mono fun _ _ ⟨B, c, h1, _, h2, h3⟩ => ⟨B, c, h1, h2, h3⟩
end Go.Proofs.YtkhgkaiadfebmaaDoor
