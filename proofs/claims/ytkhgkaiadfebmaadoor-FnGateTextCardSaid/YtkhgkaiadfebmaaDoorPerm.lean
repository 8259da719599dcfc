/-
  Contracts of the functions on permutations. Conditions: the slices read as lists.
-/
import Derived.Test.YtkhgkaiadfebmaaDoorGate
import Derived.Test.YtkhgkaiadfebmaaDoorInts
import Derived.Deep.RegionHeld3
import Derived.WalkSpells
import Derived.StillTactics
import Derived.Laws.Pointers
set_option linter.unusedSimpArgs false
set_option linter.unusedVariables false
namespace Go.Proofs.YtkhgkaiadfebmaaDoor
open Go.RowKit

theorem mem_take_succ {l : List Int} {x : Int} {k : Nat} (hk : k < l.length) : x ∈ l.take (k + 1) ↔ x ∈ l.take k ∨ l.getD k 0 = x := by
  rw [take_getD l k hk]; simp [eq_comm]

set_option maxHeartbeats 400000 in
theorem l1HasInt_any (A : Option Addr) (n c : Nat) (l : List Int) (x : Int) (w : World) (hA : Rd w A (ints l)) (hl : l.length = n) (hn : n ≤ 9223372036854775806) :
    Calls Tryd.prog 66 #[.slice A n c, .int .i64 x] w fun e w' => e = .returned (.bool (decide (x ∈ l))) ∧ w = w' := by
  have HL := Lib.hid hl
  clear hl
  go_enter Tryd.func66, Tryd.ntmps66
  go_wp2
  go_loop [5] (fun i => ∃ k : Nat, k ≤ n ∧ i = .int .i64 k ∧ Hid (¬ x ∈ l.take k)) (fun i => n - (intOf i).toNat)
  case atStart => exact ⟨0, Nat.zero_le _, rfl, by show ¬ _; simp⟩
  case round =>
    obtain ⟨k, hk, rfl, hno⟩ := hrel
    by_cases hlt : k < n
    · obtain ⟨g, off, rfl, hc⟩ := hA.int (by have := HL.out; omega)
      have c1 := hc k (by have := HL.out; omega)
      obtain ⟨y, hy⟩ : ∃ y, y = l.getD k 0 := ⟨_, rfl⟩
      rw [← hy] at c1
      have HY := Lib.hid hy
      clear hy hc
      by_cases hxy : y = x
      · subst hxy
        have HM : Hid (y ∈ l) := by
          show y ∈ l
          have h : k < l.length := by have := HL.out; omega
          rw [HY.out]
          simp [List.getD, h]
        go_wp2
        go_ret
        exact ⟨ret_bool (by simp [HM.out]), rfl⟩
      · have hne : (y == x) = false := by simpa using hxy
        have HXY := Lib.hid hxy
        clear hxy
        go_wp2
        go_round
        case rel =>
          refine ⟨k + 1, by omega, by go_num, ?_⟩
          show ¬ _
          rw [mem_take_succ (by have := HL.out; omega), ← HY.out]
          rintro (h | h)
          · exact hno.out h
          · exact HXY.out h
        case measure => simp [intOf]; omega
    · have hkn : k = n := by omega
      subst hkn
      go_wp2
      go_ret
      refine ⟨ret_bool ?_, rfl⟩
      have := hno.out
      rw [List.take_of_length_le (by have := HL.out; omega)] at this
      simp [this]

def qubits (k a b c : Int) : List Int := [a, b, c].take (arity k).toNat
theorem qubits_length (k a b c : Int) : (qubits k a b c).length = (arity k).toNat := by
  have := arity_bd k
  simp [qubits]; omega

set_option maxHeartbeats 1600000 in
theorem impl_gateQubits (k a b c : Int) (w : World) : Calls Tryd.prog 41 #[.agg #[.int .i64 k, .int .i64 a, .int .i64 b, .int .i64 c]] w fun e w' => ∃ B c', e = .returned (.slice B (arity k).toNat c') ∧ Fr w' w.heap.size w'.heap.size B (ints (qubits k a b c)) ∧ Ext w w' := by
  have hq : Hid (qubits k a b c = [a, b, c].take (arity k).toNat) := rfl
  have hb := arity_bd k
  obtain har | har | har | har : arity k = 0 ∨ arity k = 1 ∨ arity k = 2 ∨ arity k = 3 := by omega
  all_goals
    clear hb
    go_enter Tryd.func41, Tryd.ntmps41
    go_wp2_with fail
    go_region_held3 (fun w' => w'.cell? ⟨w.heap.size, 0, none⟩ = some (.int .i64 k) ∧ w'.cell? ⟨w.heap.size, 1, none⟩ = some (.int .i64 a) ∧ w'.cell? ⟨w.heap.size, 2, none⟩ = some (.int .i64 b) ∧ w'.cell? ⟨w.heap.size, 3, none⟩ = some (.int .i64 c)) (go_keep)
      (first | (go_at_call 34; refine (impl_arity _ _).mono ?_; rintro e w' ⟨rfl, rfl⟩))
  all_goals go_wp2
  all_goals go_ret
  all_goals refine ⟨_, _, (by rw [har]; rfl), ?_, (by repeat (first | exact Ext.refl _ | assumption | refine Ext.alloc ?_ _ | refine Ext.drew ?_ | refine Ext.drewN ?_ _ | refine Ext.trans ?_ (by assumption)))⟩
  all_goals
    rw [hq.out, har]
    refine Fr.of_blk (cs := #[.int .i64 a, .int .i64 b, .int .i64 c]) (Blk.drew (by simpa using Blk.new (w.alloc _) _ _)) (by simp) (by simp) ?_
    intro j u hu
    (rcases j with _ | _ | _ | j) <;> simp_all [ints]
theorem own_form' {w : World} {base : Nat} {e : TypeId} {size n : Nat} {v : Value} {xs : List Value} (h : w.ownsRow base e size v n xs) : ∃ A c, v = .slice A n c ∧ n ≤ c := by
  obtain ⟨_, ⟨rfl, rfl⟩ | ⟨g, cap, cur, rfl, _, _, hc, _⟩⟩ := h
  · exact ⟨_, _, rfl, Nat.le_refl _⟩
  · exact ⟨_, _, rfl, hc⟩
theorem info_int' : (Tryd.prog.info? 3).map (fun i => (i.zero, i.size, i.bytes)) = some (some (.int .i64 0), 1, 8) := by kernel_rfl
theorem spec_gateQubits_0 (k a b c : Int) (w : World) (har : arity k = 0) : Calls Tryd.prog 48 #[.agg #[.int .i64 k, .int .i64 a, .int .i64 b, .int .i64 c]] w fun e w' => ∃ B c', e = .returned (.slice B (arity k).toNat c') ∧ Fr w' w.heap.size w'.heap.size B (ints (qubits k a b c)) ∧ Ext w w' ∧ (arity k).toNat ≤ c' := by
  have hq : Hid (qubits k a b c = [a, b, c].take (arity k).toNat) := rfl
  go_enter Tryd.func48, Tryd.ntmps48
  go_wp2_with (first | (go_at_call 31; refine (spec_arity _ _).mono ?_; rintro e w' ⟨rfl, rfl⟩))
  go_ret
  exact ⟨_, _, (by rw [har]; rfl), by rw [hq.out, har]; exact Fr.nil _ _ _ _, (by repeat (first | exact Ext.refl _ | assumption | refine Ext.alloc ?_ _ | refine Ext.drew ?_ | refine Ext.drewN ?_ _ | refine Ext.trans ?_ (by assumption))), by rw [har]; decide⟩
theorem spec_gateQubits_1 (k a b c : Int) (w : World) (har : arity k = 1) : Calls Tryd.prog 48 #[.agg #[.int .i64 k, .int .i64 a, .int .i64 b, .int .i64 c]] w fun e w' => ∃ B c', e = .returned (.slice B (arity k).toNat c') ∧ Fr w' w.heap.size w'.heap.size B (ints (qubits k a b c)) ∧ Ext w w' ∧ (arity k).toNat ≤ c' := by
  have hq : Hid (qubits k a b c = [a]) := by show _ = _; simp [qubits, har]
  obtain ⟨i0, hi, hz0, hz1, hz2⟩ := info_parts info_int'
  have HO := own_new (w := (w.alloc (.cells #[.int .i64 k, .int .i64 a, .int .i64 b, .int .i64 c] 23)).alloc (.cells #[.int .i64 a, .int .i64 b, .int .i64 c] 3)) (g := w.heap.size + 1 + 1) (base := w.heap.size) (e := 3) (size := 1) #[] 0 (by simp) (by omega) (by simp) (by simp)
  go_enter Tryd.func48, Tryd.ntmps48
  go_wp2_with (first | (go_at_call 31; refine (spec_arity _ _).mono ?_; rintro e w' ⟨rfl, rfl⟩) | (at_builtin; refine wpList_append_own _ rfl _ _ 55 rfl w.heap.size 3 i0 (.int .i64 0) 1 8 Tryd.underlying55 hi hz0 hz1 hz2 rfl (by decide) _ 0 [] rfl ?hown ⟨w.heap.size + 1, 0, none⟩ 1 3 (ints [a]) rfl rfl ?hnews ?h1 ?h63 ?hb ?hbase ?_))
  case hown => exact HO
  case hnews =>
    intro j u hu
    (rcases j with _ | _ | _ | j) <;> simp_all [ints, Addr.add, go_sem]
  case h1 => intro u hu; simp [ints] at hu; (rcases hu with rfl | rfl | rfl | rfl) <;> rfl
  case h63 => decide
  case hb => decide
  case hbase => simp; omega
  intro v' w1 hown' hgrow _
  obtain ⟨B, cap, rfl, hcap⟩ := own_form' hown'
  have hf := Fr.of_own hown'
  have he := own_ext (a := w) (by repeat (first | exact Ext.refl _ | refine Ext.alloc ?_ _)) HO (Nat.le_refl _) hgrow
  clear hown' hgrow hi hz0 hz1 hz2 HO
  go_wp2
  go_ret
  exact ⟨_, _, (by rw [har]; rfl), by rw [hq.out]; simpa using hf, he, by rw [har]; simpa using hcap⟩
theorem spec_gateQubits_2 (k a b c : Int) (w : World) (har : arity k = 2) : Calls Tryd.prog 48 #[.agg #[.int .i64 k, .int .i64 a, .int .i64 b, .int .i64 c]] w fun e w' => ∃ B c', e = .returned (.slice B (arity k).toNat c') ∧ Fr w' w.heap.size w'.heap.size B (ints (qubits k a b c)) ∧ Ext w w' ∧ (arity k).toNat ≤ c' := by
  have hq : Hid (qubits k a b c = [a,b]) := by show _ = _; simp [qubits, har]
  obtain ⟨i0, hi, hz0, hz1, hz2⟩ := info_parts info_int'
  have HO := own_new (w := (w.alloc (.cells #[.int .i64 k, .int .i64 a, .int .i64 b, .int .i64 c] 23)).alloc (.cells #[.int .i64 a, .int .i64 b, .int .i64 c] 3)) (g := w.heap.size + 1 + 1) (base := w.heap.size) (e := 3) (size := 1) #[] 0 (by simp) (by omega) (by simp) (by simp)
  go_enter Tryd.func48, Tryd.ntmps48
  go_wp2_with (first | (go_at_call 31; refine (spec_arity _ _).mono ?_; rintro e w' ⟨rfl, rfl⟩) | (at_builtin; refine wpList_append_own _ rfl _ _ 55 rfl w.heap.size 3 i0 (.int .i64 0) 1 8 Tryd.underlying55 hi hz0 hz1 hz2 rfl (by decide) _ 0 [] rfl ?hown ⟨w.heap.size + 1, 0, none⟩ 2 3 (ints [a,b]) rfl rfl ?hnews ?h1 ?h63 ?hb ?hbase ?_))
  case hown => exact HO
  case hnews =>
    intro j u hu
    (rcases j with _ | _ | _ | j) <;> simp_all [ints, Addr.add, go_sem]
  case h1 => intro u hu; simp [ints] at hu; (rcases hu with rfl | rfl | rfl | rfl) <;> rfl
  case h63 => decide
  case hb => decide
  case hbase => simp; omega
  intro v' w1 hown' hgrow _
  obtain ⟨B, cap, rfl, hcap⟩ := own_form' hown'
  have hf := Fr.of_own hown'
  have he := own_ext (a := w) (by repeat (first | exact Ext.refl _ | refine Ext.alloc ?_ _)) HO (Nat.le_refl _) hgrow
  clear hown' hgrow hi hz0 hz1 hz2 HO
  go_wp2
  go_ret
  exact ⟨_, _, (by rw [har]; rfl), by rw [hq.out]; simpa using hf, he, by rw [har]; simpa using hcap⟩
theorem spec_gateQubits_3 (k a b c : Int) (w : World) (har : arity k = 3) : Calls Tryd.prog 48 #[.agg #[.int .i64 k, .int .i64 a, .int .i64 b, .int .i64 c]] w fun e w' => ∃ B c', e = .returned (.slice B (arity k).toNat c') ∧ Fr w' w.heap.size w'.heap.size B (ints (qubits k a b c)) ∧ Ext w w' ∧ (arity k).toNat ≤ c' := by
  have hq : Hid (qubits k a b c = [a,b,c]) := by show _ = _; simp [qubits, har]
  obtain ⟨i0, hi, hz0, hz1, hz2⟩ := info_parts info_int'
  have HO := own_new (w := (w.alloc (.cells #[.int .i64 k, .int .i64 a, .int .i64 b, .int .i64 c] 23)).alloc (.cells #[.int .i64 a, .int .i64 b, .int .i64 c] 3)) (g := w.heap.size + 1 + 1) (base := w.heap.size) (e := 3) (size := 1) #[] 0 (by simp) (by omega) (by simp) (by simp)
  go_enter Tryd.func48, Tryd.ntmps48
  go_wp2_with (first | (go_at_call 31; refine (spec_arity _ _).mono ?_; rintro e w' ⟨rfl, rfl⟩) | (at_builtin; refine wpList_append_own _ rfl _ _ 55 rfl w.heap.size 3 i0 (.int .i64 0) 1 8 Tryd.underlying55 hi hz0 hz1 hz2 rfl (by decide) _ 0 [] rfl ?hown ⟨w.heap.size + 1, 0, none⟩ 3 3 (ints [a,b,c]) rfl rfl ?hnews ?h1 ?h63 ?hb ?hbase ?_))
  case hown => exact HO
  case hnews =>
    intro j u hu
    (rcases j with _ | _ | _ | j) <;> simp_all [ints, Addr.add, go_sem]
  case h1 => intro u hu; simp [ints] at hu; (rcases hu with rfl | rfl | rfl | rfl) <;> rfl
  case h63 => decide
  case hb => decide
  case hbase => simp; omega
  intro v' w1 hown' hgrow _
  obtain ⟨B, cap, rfl, hcap⟩ := own_form' hown'
  have hf := Fr.of_own hown'
  have he := own_ext (a := w) (by repeat (first | exact Ext.refl _ | refine Ext.alloc ?_ _)) HO (Nat.le_refl _) hgrow
  clear hown' hgrow hi hz0 hz1 hz2 HO
  go_wp2
  go_ret
  exact ⟨_, _, (by rw [har]; rfl), by rw [hq.out]; simpa using hf, he, by rw [har]; simpa using hcap⟩
theorem spec_gateQubits' (k a b c : Int) (w : World) : Calls Tryd.prog 48 #[.agg #[.int .i64 k, .int .i64 a, .int .i64 b, .int .i64 c]] w fun e w' => ∃ B c', e = .returned (.slice B (arity k).toNat c') ∧ Fr w' w.heap.size w'.heap.size B (ints (qubits k a b c)) ∧ Ext w w' ∧ (arity k).toNat ≤ c' := by
  have hb := arity_bd k
  obtain har | har | har | har : arity k = 0 ∨ arity k = 1 ∨ arity k = 2 ∨ arity k = 3 := by omega
  · exact spec_gateQubits_0 k a b c w har
  · exact spec_gateQubits_1 k a b c w har
  · exact spec_gateQubits_2 k a b c w har
  · exact spec_gateQubits_3 k a b c w har
theorem spec_gateQubits (k a b c : Int) (w : World) : Calls Tryd.prog 48 #[.agg #[.int .i64 k, .int .i64 a, .int .i64 b, .int .i64 c]] w fun e w' => ∃ B c', e = .returned (.slice B (arity k).toNat c') ∧ Fr w' w.heap.size w'.heap.size B (ints (qubits k a b c)) ∧ Ext w w' :=
  (spec_gateQubits' k a b c w).mono fun _ _ ⟨B, c', h1, h2, h3, _⟩ => ⟨B, c', h1, h2, h3⟩
end Go.Proofs.YtkhgkaiadfebmaaDoor
