/-
  Contracts of GateName and GateKind. Conditions: the variable gateNames reads as the thirteen names.
-/
import Derived.Test.YtkhgkaiadfebmaaDoorGate
set_option linter.unusedSimpArgs false
set_option linter.unusedVariables false
namespace Go.Proofs.YtkhgkaiadfebmaaDoor
open Go.RowKit
def gateNm : List ByteArray := [⟨#[]⟩, ⟨#[120]⟩, ⟨#[121]⟩, ⟨#[122]⟩, ⟨#[104]⟩, ⟨#[115]⟩, ⟨#[115, 100]⟩, ⟨#[116]⟩, ⟨#[116, 100]⟩, ⟨#[99, 120]⟩, ⟨#[99, 122]⟩, ⟨#[115, 119, 97, 112]⟩, ⟨#[99, 99, 120]⟩]
def gateNameS (k : Int) : ByteArray := if 1 ≤ k ∧ k ≤ 12 then gateNm.getD k.toNat ⟨#[]⟩ else ⟨#[]⟩
def strN (L : List ByteArray) : List Value := L.map Value.string
theorem strN_ne {L : List ByteArray} {x : Nat} (h : x < L.length) : strN L ≠ [] := by
  intro h0
  have h1 : (strN L).length = L.length := by simp [strN]
  rw [h0] at h1; simp at h1; omega
/-- The package's table of names. -/
def Names (w : World) : Prop := ∃ A c, w.cell? ⟨0, 0, none⟩ = some (.slice A 13 c) ∧ Rd w A (strN gateNm)
theorem Names.ext {a b : World} (h : Names a) (he : Ext a b) : Names b := by
  obtain ⟨A, c, h1, h2⟩ := h
  exact ⟨A, c, he.cell h1, h2.ext he⟩
theorem ret_strN {a b : ByteArray} (h : a = b) : Ending.returned (.string a) = .returned (.string b) := by rw [h]
theorem impl_gateName (k : Int) (w : World) (hN : Names w) : Calls Tryd.prog 20 #[.int .i64 k] w fun e w' => e = .returned (.string (gateNameS k)) ∧ w = w' := by
  by_cases hk : 1 ≤ k ∧ k ≤ 12
  · obtain ⟨q, rfl⟩ := Int.eq_ofNat_of_zero_le (show 0 ≤ k by omega)
    have hG : Hid (gateNameS (q : Int) = gateNm.getD q ⟨#[]⟩) := by show _ = _; unfold gateNameS; rw [if_pos hk]; rfl
    have hb : inB (q : Int) 1 12 = true := by unfold inB; simp; omega
    have hq : q < gateNm.length := by have : gateNm.length = 13 := rfl; omega
    obtain ⟨A, c, h0, h1⟩ := hN
    obtain ⟨g, off, rfl, hc⟩ := h1 (strN_ne hq)
    have c1 := hc q (.string (gateNm.getD q ⟨#[]⟩)) (by simp [strN, List.getD, hq])
    generalize gateNm.getD q ⟨#[]⟩ = s at *
    have hqI : (q : Int) < 13 := by omega
    clear hc h1 hq hk
    go_enter Tryd.func20, Tryd.ntmps20
    go_wp2_with (go_at_call 50; refine (impl_in _ _ _ _).mono ?_; rintro e w' ⟨rfl, rfl⟩)
    go_ret
    exact ⟨ret_strN hG.out.symm, rfl⟩
  · have hG : Hid (gateNameS k = ⟨#[]⟩) := by show _ = _; unfold gateNameS; rw [if_neg hk]
    have hb : inB k 1 12 = false := by unfold inB; rw [Bool.and_eq_false_iff]; simp; omega
    clear hN hk
    go_enter Tryd.func20, Tryd.ntmps20
    go_wp2_with (go_at_call 50; refine (impl_in _ _ _ _).mono ?_; rintro e w' ⟨rfl, rfl⟩)
    go_ret
    exact ⟨ret_strN hG.out.symm, rfl⟩
set_option maxRecDepth 20000 in
set_option maxHeartbeats 1600000 in
theorem spec_gateName (k : Int) (w : World) : Calls Tryd.prog 47 #[.int .i64 k] w fun e w' => e = .returned (.string (gateNameS k)) ∧ Ext w w' := by
  by_cases hk : 1 ≤ k ∧ k ≤ 12
  · obtain rfl | rfl | rfl | rfl | rfl | rfl | rfl | rfl | rfl | rfl | rfl | rfl : k = 1 ∨ k = 2 ∨ k = 3 ∨ k = 4 ∨ k = 5 ∨ k = 6 ∨ k = 7 ∨ k = 8 ∨ k = 9 ∨ k = 10 ∨ k = 11 ∨ k = 12 := by omega
    all_goals
      clear hk
      go_enter Tryd.func47, Tryd.ntmps47
      go_wp2
      go_ret
      exact ⟨rfl, (by repeat (first | exact Ext.refl _ | assumption | refine Ext.alloc ?_ _ | refine Ext.drew ?_ | refine Ext.drewN ?_ _ | refine Ext.trans ?_ (by assumption)))⟩
  · have hG : Hid (gateNameS k = ⟨#[]⟩) := by show _ = _; unfold gateNameS; rw [if_neg hk]
    have hb : inB k 1 12 = false := by unfold inB; rw [Bool.and_eq_false_iff]; simp; omega
    clear hk
    go_enter Tryd.func47, Tryd.ntmps47
    go_wp2_with (go_at_call 53; refine (spec_in _ _ _ _).mono ?_; rintro e w' ⟨rfl, rfl⟩)
    go_ret
    exact ⟨ret_strN hG.out.symm, (by repeat (first | exact Ext.refl _ | assumption | refine Ext.alloc ?_ _ | refine Ext.drew ?_ | refine Ext.drewN ?_ _ | refine Ext.trans ?_ (by assumption)))⟩
def kindFrom (s : ByteArray) : Nat → Nat → Int
  | 0, _ => 0
  | f + 1, k => if gateNameS (k : Int) = s then (k : Int) else kindFrom s f (k + 1)
def kindOf (s : ByteArray) : Int := kindFrom s 12 1
theorem toList_ne {t s : ByteArray} (h : ¬ t = s) : (t.toList == s.toList) = false := by
  rw [ByteArray.toList_eq, ByteArray.toList_eq]
  rw [beq_eq_false_iff_ne]
  intro h1
  apply h
  apply ByteArray.ext
  exact Array.toList_inj.1 h1
theorem impl_gateName_ext (k : Int) (w : World) (hN : Names w) : Calls Tryd.prog 20 #[.int .i64 k] w fun e w' => e = .returned (.string (gateNameS k)) ∧ Ext w w' :=
  (impl_gateName k w hN).mono fun _ _ ⟨h1, h2⟩ => ⟨h1, by subst h2; exact Ext.refl _⟩
theorem spec_gateName_ext (k : Int) (w : World) (hN : Names w) : Calls Tryd.prog 47 #[.int .i64 k] w fun e w' => e = .returned (.string (gateNameS k)) ∧ Ext w w' := spec_gateName k w
set_option maxHeartbeats 800000 in
theorem impl_gateKind (s : ByteArray) (w : World) (hN : Names w) : Calls Tryd.prog 21 #[.string s] w fun e w' => e = .returned (.int .i64 (kindOf s)) ∧ Ext w w' := by
  go_enter Tryd.func21, Tryd.ntmps21
  go_wp2
  go_loopw [3] (fun i wr => ∃ k f : Nat, k + f = 13 ∧ 1 ≤ k ∧ i = .int .i64 k ∧ Hid (kindFrom s f k = kindOf s) ∧ Ext w wr) (fun i _ => 13 - (intOf i).toNat)
  case atStart => exact ⟨1, 12, rfl, Nat.le_refl _, rfl, Lib.hid rfl, (by repeat (first | exact Ext.refl _ | assumption | refine Ext.alloc ?_ _ | refine Ext.drew ?_ | refine Ext.drewN ?_ _ | refine Ext.trans ?_ (by assumption)))⟩
  case round =>
    obtain ⟨k, f, hkf, hk1, rfl, hd, he⟩ := hrel
    by_cases hlt : k ≤ 12
    · cases f with
      | zero => omega
      | succ f =>
      have hlI : (k : Int) ≤ 12 := by omega
      have HK : Hid (kindFrom s (f + 1) k = if gateNameS (k : Int) = s then (k : Int) else kindFrom s f (k + 1)) := rfl
      go_wp2_with fail
      refine (impl_gateName_ext (k : Int) _ (hN.ext he)).mono ?_
      rintro e w2 ⟨rfl, h2⟩
      generalize gateNameS (k : Int) = t at *
      by_cases ht : t = s
      · subst ht
        go_wp2
        go_ret
        exact ⟨ret_int (by rw [← hd.out, HK.out]; simp), he.trans h2⟩
      · have hts : (t.toList == s.toList) = false := toList_ne ht
        have HTS := Lib.hid ht
        clear ht
        go_wp2
        go_roundw
        case rel => exact ⟨k + 1, f, by omega, by omega, by go_num, Lib.hid (by rw [← hd.out, HK.out, if_neg HTS.out]), he.trans h2⟩
        case measure => simp [intOf]; omega
    · obtain rfl : k = 13 := by omega
      obtain rfl : f = 0 := by omega
      go_wp2
      go_ret
      exact ⟨ret_int (by rw [← hd.out]; rfl), he⟩
set_option maxHeartbeats 800000 in
theorem spec_gateKind (s : ByteArray) (w : World) (hN : Names w) : Calls Tryd.prog 30 #[.string s] w fun e w' => e = .returned (.int .i64 (kindOf s)) ∧ Ext w w' := by
  go_enter Tryd.func30, Tryd.ntmps30
  go_wp2
  go_loopw [3] (fun i wr => ∃ k f : Nat, k + f = 13 ∧ 1 ≤ k ∧ i = .int .i64 k ∧ Hid (kindFrom s f k = kindOf s) ∧ Ext w wr) (fun i _ => 13 - (intOf i).toNat)
  case atStart => exact ⟨1, 12, rfl, Nat.le_refl _, rfl, Lib.hid rfl, (by repeat (first | exact Ext.refl _ | assumption | refine Ext.alloc ?_ _ | refine Ext.drew ?_ | refine Ext.drewN ?_ _ | refine Ext.trans ?_ (by assumption)))⟩
  case round =>
    obtain ⟨k, f, hkf, hk1, rfl, hd, he⟩ := hrel
    by_cases hlt : k ≤ 12
    · cases f with
      | zero => omega
      | succ f =>
      have hlI : (k : Int) ≤ 12 := by omega
      have HK : Hid (kindFrom s (f + 1) k = if gateNameS (k : Int) = s then (k : Int) else kindFrom s f (k + 1)) := rfl
      go_wp2_with fail
      refine (spec_gateName_ext (k : Int) _ (hN.ext he)).mono ?_
      rintro e w2 ⟨rfl, h2⟩
      generalize gateNameS (k : Int) = t at *
      by_cases ht : t = s
      · subst ht
        go_wp2
        go_ret
        exact ⟨ret_int (by rw [← hd.out, HK.out]; simp), he.trans h2⟩
      · have hts : (t.toList == s.toList) = false := toList_ne ht
        have HTS := Lib.hid ht
        clear ht
        go_wp2
        go_roundw
        case rel => exact ⟨k + 1, f, by omega, by omega, by go_num, Lib.hid (by rw [← hd.out, HK.out, if_neg HTS.out]), he.trans h2⟩
        case measure => simp [intOf]; omega
    · obtain rfl : k = 13 := by omega
      obtain rfl : f = 0 := by omega
      go_wp2
      go_ret
      exact ⟨ret_int (by rw [← hd.out]; rfl), he⟩
end Go.Proofs.YtkhgkaiadfebmaaDoor
