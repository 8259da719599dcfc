/-
  Contracts of PermuteIndex, and its law's walk. Conditions: the slice reads as a list.
-/
import Derived.Test.YtbihbegpjicnkaaRPerm4
import Derived.WalkLawsBesides
import Derived.Laws.BitsAllLaws
import Derived.Laws.BitsLemmas
set_option linter.unusedSimpArgs false
set_option linter.unusedVariables false
namespace Go.Proofs.YtbihbegpjicnkaaR
open Go.RowKit

theorem toNat_ofInt (a : Nat) (ha : a < 9223372036854775808) : (BitVec.ofInt 64 (a : Int)).toNat = a := by
  rw [BitVec.ofInt_natCast, BitVec.toNat_ofNat]; exact Nat.mod_eq_of_lt (by omega)
theorem bits_or (a b : Nat) (ha : a < 256) (hb : b < 256) : bits .or .i64 (a : Int) (b : Int) = ((a ||| b : Nat) : Int) := by
  have hx : a ||| b < 2 ^ 8 := Nat.or_lt_two_pow (by omega) (by omega)
  show IntKind.i64.wrap ((BitVec.ofInt 64 (a : Int) ||| BitVec.ofInt 64 (b : Int)).toNat : Int) = _
  rw [BitVec.toNat_or, toNat_ofInt a (by omega), toNat_ofInt b (by omega)]
  exact IntWalk.i64_in _ (by omega)
theorem bits_and1 (a : Nat) (ha : a < 256) : bits .and .i64 (a : Int) 1 = ((a % 2 : Nat) : Int) := by
  show IntKind.i64.wrap ((BitVec.ofInt 64 (a : Int) &&& BitVec.ofInt 64 ((1 : Nat) : Int)).toNat : Int) = _
  rw [BitVec.toNat_and, toNat_ofInt a (by omega), toNat_ofInt 1 (by omega), Nat.and_one_is_mod]
  exact IntWalk.i64_in _ (by omega)

/-- The index i with its bits moved, as far as the first j places of p tell it. -/
def pixTo (p : List Int) (i : Nat) : Nat → Nat
  | 0 => 0
  | j + 1 => pixTo p i j ||| (i / 2 ^ j % 2 * 2 ^ (p.getD j 0).toNat)
def pix (p : List Int) (i : Int) : Nat := if isPerm p = true ∧ 0 ≤ i ∧ i < 2 ^ p.length then pixTo p i.toNat p.length else 0
theorem pix_piece {i j v : Nat} (hv : v < 4) : i / 2 ^ j % 2 * 2 ^ v < 16 := by
  have h1 : i / 2 ^ j % 2 < 2 := Nat.mod_lt _ (by omega)
  have h2 : 2 ^ v ≤ 8 := by obtain rfl | rfl | rfl | rfl : v = 0 ∨ v = 1 ∨ v = 2 ∨ v = 3 := by omega
                            all_goals decide
  have h3 := Nat.mul_le_mul (show i / 2 ^ j % 2 ≤ 1 by omega) h2
  omega
theorem pixTo_lt (p : List Int) (i : Nat) (hp : isPerm p = true) : ∀ j, j ≤ p.length → pixTo p i j < 16
  | 0, _ => by simp [pixTo]
  | j + 1, hj => by
    obtain ⟨v, hv, hvn⟩ := perm_at hp (j := j) (by omega)
    have := (isPerm_iff p).1 hp
    have h1 := pixTo_lt p i hp j (by omega)
    have h2 := pix_piece (i := i) (j := j) (v := v) (by omega)
    rw [pixTo, ← hv, Int.toNat_natCast]
    exact Nat.or_lt_two_pow (n := 4) (by omega) (by omega)
theorem pix_step (p : List Int) (i j v : Nat) (hp : isPerm p = true) (hj : j < p.length) (hv : (v : Int) = p.getD j 0) (hv4 : v < 4) (hi : i < 16) :
    bits BinOp.or IntKind.i64 (pixTo p i j : Int) (wrap64 (bits BinOp.and IntKind.i64 ((i : Int) / 2 ^ j) 1 * 2 ^ v)) = ((pixTo p i (j + 1) : Nat) : Int) := by
  have h1 := pixTo_lt p i hp j (by omega)
  have h2 := pix_piece (i := i) (j := j) (v := v) hv4
  have hd : i / 2 ^ j < 256 := Nat.lt_of_le_of_lt (Nat.div_le_self _ _) (by omega)
  have e1 : ((i : Int) / 2 ^ j) = ((i / 2 ^ j : Nat) : Int) := by simp
  rw [e1, bits_and1 _ hd]
  have e2 : ((i / 2 ^ j % 2 : Nat) : Int) * 2 ^ v = ((i / 2 ^ j % 2 * 2 ^ v : Nat) : Int) := by simp
  rw [e2, IntWalk.wrap64_in _ (by omega), bits_or _ _ (by omega) (by omega), pixTo, ← hv]
  simp

theorem impl_pix_np (A : Option Addr) (n cA : Nat) (p : List Int) (i : Int) (w : World) (hA : Rd w A (ints p)) (hl : p.length = n) (hn : n ≤ 9223372036854775806) (hcA : n ≤ cA) (hp : isPerm p = false) :
    Calls Try.prog 23 #[.slice A n cA, .int .i64 i] w fun e w' => e = .returned (.int .i64 0) ∧ Ext w w' := by
  have hcp := fun W (hW : Ext w W) => impl_isPerm A n cA p W (hA.ext hW) hl hn
  rw [hp] at hcp
  have HP := Lib.hid hcp
  clear hcp hp hl
  go_enter Try.func23, Try.ntmps23
  go_wp2_with fail
  refine (HP.out _ (by repeat (first | exact Ext.refl _ | assumption | refine Ext.alloc ?_ _ | refine Ext.drew ?_ | refine Ext.drewN ?_ _ | refine Ext.trans ?_ (by assumption)))).mono ?_
  rintro e w1 ⟨rfl, h1⟩
  go_wp2
  go_ret
  exact ⟨rfl, (by repeat (first | exact Ext.refl _ | assumption | refine Ext.alloc ?_ _ | refine Ext.drew ?_ | refine Ext.drewN ?_ _ | refine Ext.trans ?_ (by assumption)))⟩
theorem spec_pix_np (A : Option Addr) (n cA : Nat) (p : List Int) (i : Int) (w : World) (hA : Rd w A (ints p)) (hl : p.length = n) (hn : n ≤ 9223372036854775806) (hcA : n ≤ cA) (hp : isPerm p = false) :
    Calls Try.prog 19 #[.slice A n cA, .int .i64 i] w fun e w' => e = .returned (.int .i64 0) ∧ Ext w w' := by
  have hcp := fun W (hW : Ext w W) => spec_isPerm A n cA p W (hA.ext hW) hl hn hcA
  rw [hp] at hcp
  have HP := Lib.hid hcp
  clear hcp hp hl
  go_enter Try.func19, Try.ntmps19
  go_wp2_with fail
  refine (HP.out _ (by repeat (first | exact Ext.refl _ | assumption | refine Ext.alloc ?_ _ | refine Ext.drew ?_ | refine Ext.drewN ?_ _ | refine Ext.trans ?_ (by assumption)))).mono ?_
  rintro e w1 ⟨rfl, h1⟩
  go_wp2
  go_ret
  exact ⟨rfl, (by repeat (first | exact Ext.refl _ | assumption | refine Ext.alloc ?_ _ | refine Ext.drew ?_ | refine Ext.drewN ?_ _ | refine Ext.trans ?_ (by assumption)))⟩
theorem impl_pix_out1 (A : Option Addr) (cA : Nat) (p : List Int) (i : Int) (w : World) (hA : Rd w A (ints p)) (hl : p.length = 1) (hcA : 1 ≤ cA) (hp : isPerm p = true) (hi : ¬ (0 ≤ i ∧ i < 2)) :
    Calls Try.prog 23 #[.slice A 1 cA, .int .i64 i] w fun e w' => e = .returned (.int .i64 0) ∧ Ext w w' := by
  have hcp := fun W (hW : Ext w W) => impl_isPerm A 1 cA p W (hA.ext hW) hl (by omega)
  rw [hp] at hcp
  have HP := Lib.hid hcp
  have hb : inB i 0 1 = false := by unfold inB; rw [Bool.and_eq_false_iff]; simp; omega
  clear hcp hp hl
  go_enter Try.func23, Try.ntmps23
  go_wp2_with fail
  refine (HP.out _ (by repeat (first | exact Ext.refl _ | assumption | refine Ext.alloc ?_ _ | refine Ext.drew ?_ | refine Ext.drewN ?_ _ | refine Ext.trans ?_ (by assumption)))).mono ?_
  rintro e w1 ⟨rfl, h1⟩
  go_wp2_with fail
  refine (impl_in _ _ _ _).mono ?_
  rintro e w2 ⟨rfl, rfl⟩
  go_wp2
  go_ret
  exact ⟨rfl, (by repeat (first | exact Ext.refl _ | assumption | refine Ext.alloc ?_ _ | refine Ext.drew ?_ | refine Ext.drewN ?_ _ | refine Ext.trans ?_ (by assumption)))⟩
set_option maxHeartbeats 800000 in
theorem impl_pix_in1 (A : Option Addr) (cA : Nat) (p : List Int) (i : Nat) (w : World) (hA : Rd w A (ints p)) (hl : p.length = 1) (hcA : 1 ≤ cA) (hp : isPerm p = true) (hi : i < 2) :
    Calls Try.prog 23 #[.slice A 1 cA, .int .i64 i] w fun e w' => e = .returned (.int .i64 (pixTo p i 1)) ∧ Ext w w' := by
  have hcp := fun W (hW : Ext w W) => impl_isPerm A 1 cA p W (hA.ext hW) hl (by omega)
  rw [hp] at hcp
  have HP := Lib.hid hcp
  have hb : inB i 0 1 = true := by unfold inB; simp; omega
  have HL := Lib.hid hl
  have HPP := Lib.hid hp
  clear hcp hp hl
  go_enter Try.func23, Try.ntmps23
  go_wp2_with fail
  refine (HP.out _ (by repeat (first | exact Ext.refl _ | assumption | refine Ext.alloc ?_ _ | refine Ext.drew ?_ | refine Ext.drewN ?_ _ | refine Ext.trans ?_ (by assumption)))).mono ?_
  rintro e w1 ⟨rfl, h1⟩
  have h01 : Ext w w1 := (by repeat (first | exact Ext.refl _ | assumption | refine Ext.alloc ?_ _ | refine Ext.drew ?_ | refine Ext.drewN ?_ _ | refine Ext.trans ?_ (by assumption)))
  clear h1
  go_wp2_with fail
  refine (impl_in _ _ _ _).mono ?_
  rintro e w2 ⟨rfl, rfl⟩
  obtain ⟨k, hk⟩ : ∃ k, k = i := ⟨_, rfl⟩
  go_wp2
  go_loopw [5,6,7,22] (fun v5 _ _ i wr => ∃ j : Nat, j ≤ 1 ∧ i = .int .i64 j ∧ v5 = .int .i64 (pixTo p k j) ∧ Ext w wr) (fun _ _ _ i _ => 1 - (intOf i).toNat)
  case atStart => exact ⟨0, Nat.zero_le _, rfl, rfl, h01⟩
  case round =>
    subst hk
    obtain ⟨j, hj, rfl, rfl, he⟩ := hrel
    by_cases hlt : j < 1
    · obtain ⟨g, off, rfl, hc⟩ := (hA.ext he).int (by have := HL.out; omega)
      have c1 := hc j (by have := HL.out; omega)
      obtain ⟨v, hv, hvn⟩ := perm_at HPP.out (j := j) (by have := HL.out; omega)
      rw [← hv] at c1
      have hvn' : v < 1 := by have := HL.out; omega
      have HST := Lib.hid (pix_step p k j v HPP.out (by have := HL.out; omega) hv (by omega) (by omega))
      clear hv hc hvn
      have hv0 : (0 : Int) ≤ (v : Int) := by omega
      obtain ⟨o, ho⟩ : ∃ o, o = pixTo p k j := ⟨_, rfl⟩
      rw [← ho] at HST ⊢
      clear ho
      go_wp2
      go_roundw
      case rel => exact ⟨j + 1, by omega, by go_num, by rw [HST.out], (by repeat (first | exact Ext.refl _ | assumption | refine Ext.alloc ?_ _ | refine Ext.drew ?_ | refine Ext.drewN ?_ _ | refine Ext.trans ?_ (by assumption)))⟩
      case measure => simp [intOf]; omega
    · have hjn : j = 1 := by omega
      subst hjn
      go_wp2
      go_ret
      exact ⟨rfl, he⟩
theorem impl_pix_out2 (A : Option Addr) (cA : Nat) (p : List Int) (i : Int) (w : World) (hA : Rd w A (ints p)) (hl : p.length = 2) (hcA : 2 ≤ cA) (hp : isPerm p = true) (hi : ¬ (0 ≤ i ∧ i < 4)) :
    Calls Try.prog 23 #[.slice A 2 cA, .int .i64 i] w fun e w' => e = .returned (.int .i64 0) ∧ Ext w w' := by
  have hcp := fun W (hW : Ext w W) => impl_isPerm A 2 cA p W (hA.ext hW) hl (by omega)
  rw [hp] at hcp
  have HP := Lib.hid hcp
  have hb : inB i 0 3 = false := by unfold inB; rw [Bool.and_eq_false_iff]; simp; omega
  clear hcp hp hl
  go_enter Try.func23, Try.ntmps23
  go_wp2_with fail
  refine (HP.out _ (by repeat (first | exact Ext.refl _ | assumption | refine Ext.alloc ?_ _ | refine Ext.drew ?_ | refine Ext.drewN ?_ _ | refine Ext.trans ?_ (by assumption)))).mono ?_
  rintro e w1 ⟨rfl, h1⟩
  go_wp2_with fail
  refine (impl_in _ _ _ _).mono ?_
  rintro e w2 ⟨rfl, rfl⟩
  go_wp2
  go_ret
  exact ⟨rfl, (by repeat (first | exact Ext.refl _ | assumption | refine Ext.alloc ?_ _ | refine Ext.drew ?_ | refine Ext.drewN ?_ _ | refine Ext.trans ?_ (by assumption)))⟩
set_option maxHeartbeats 800000 in
theorem impl_pix_in2 (A : Option Addr) (cA : Nat) (p : List Int) (i : Nat) (w : World) (hA : Rd w A (ints p)) (hl : p.length = 2) (hcA : 2 ≤ cA) (hp : isPerm p = true) (hi : i < 4) :
    Calls Try.prog 23 #[.slice A 2 cA, .int .i64 i] w fun e w' => e = .returned (.int .i64 (pixTo p i 2)) ∧ Ext w w' := by
  have hcp := fun W (hW : Ext w W) => impl_isPerm A 2 cA p W (hA.ext hW) hl (by omega)
  rw [hp] at hcp
  have HP := Lib.hid hcp
  have hb : inB i 0 3 = true := by unfold inB; simp; omega
  have HL := Lib.hid hl
  have HPP := Lib.hid hp
  clear hcp hp hl
  go_enter Try.func23, Try.ntmps23
  go_wp2_with fail
  refine (HP.out _ (by repeat (first | exact Ext.refl _ | assumption | refine Ext.alloc ?_ _ | refine Ext.drew ?_ | refine Ext.drewN ?_ _ | refine Ext.trans ?_ (by assumption)))).mono ?_
  rintro e w1 ⟨rfl, h1⟩
  have h01 : Ext w w1 := (by repeat (first | exact Ext.refl _ | assumption | refine Ext.alloc ?_ _ | refine Ext.drew ?_ | refine Ext.drewN ?_ _ | refine Ext.trans ?_ (by assumption)))
  clear h1
  go_wp2_with fail
  refine (impl_in _ _ _ _).mono ?_
  rintro e w2 ⟨rfl, rfl⟩
  obtain ⟨k, hk⟩ : ∃ k, k = i := ⟨_, rfl⟩
  go_wp2
  go_loopw [5,6,7,22] (fun v5 _ _ i wr => ∃ j : Nat, j ≤ 2 ∧ i = .int .i64 j ∧ v5 = .int .i64 (pixTo p k j) ∧ Ext w wr) (fun _ _ _ i _ => 2 - (intOf i).toNat)
  case atStart => exact ⟨0, Nat.zero_le _, rfl, rfl, h01⟩
  case round =>
    subst hk
    obtain ⟨j, hj, rfl, rfl, he⟩ := hrel
    by_cases hlt : j < 2
    · obtain ⟨g, off, rfl, hc⟩ := (hA.ext he).int (by have := HL.out; omega)
      have c1 := hc j (by have := HL.out; omega)
      obtain ⟨v, hv, hvn⟩ := perm_at HPP.out (j := j) (by have := HL.out; omega)
      rw [← hv] at c1
      have hvn' : v < 2 := by have := HL.out; omega
      have HST := Lib.hid (pix_step p k j v HPP.out (by have := HL.out; omega) hv (by omega) (by omega))
      clear hv hc hvn
      have hv0 : (0 : Int) ≤ (v : Int) := by omega
      obtain ⟨o, ho⟩ : ∃ o, o = pixTo p k j := ⟨_, rfl⟩
      rw [← ho] at HST ⊢
      clear ho
      go_wp2
      go_roundw
      case rel => exact ⟨j + 1, by omega, by go_num, by rw [HST.out], (by repeat (first | exact Ext.refl _ | assumption | refine Ext.alloc ?_ _ | refine Ext.drew ?_ | refine Ext.drewN ?_ _ | refine Ext.trans ?_ (by assumption)))⟩
      case measure => simp [intOf]; omega
    · have hjn : j = 2 := by omega
      subst hjn
      go_wp2
      go_ret
      exact ⟨rfl, he⟩
theorem impl_pix_out3 (A : Option Addr) (cA : Nat) (p : List Int) (i : Int) (w : World) (hA : Rd w A (ints p)) (hl : p.length = 3) (hcA : 3 ≤ cA) (hp : isPerm p = true) (hi : ¬ (0 ≤ i ∧ i < 8)) :
    Calls Try.prog 23 #[.slice A 3 cA, .int .i64 i] w fun e w' => e = .returned (.int .i64 0) ∧ Ext w w' := by
  have hcp := fun W (hW : Ext w W) => impl_isPerm A 3 cA p W (hA.ext hW) hl (by omega)
  rw [hp] at hcp
  have HP := Lib.hid hcp
  have hb : inB i 0 7 = false := by unfold inB; rw [Bool.and_eq_false_iff]; simp; omega
  clear hcp hp hl
  go_enter Try.func23, Try.ntmps23
  go_wp2_with fail
  refine (HP.out _ (by repeat (first | exact Ext.refl _ | assumption | refine Ext.alloc ?_ _ | refine Ext.drew ?_ | refine Ext.drewN ?_ _ | refine Ext.trans ?_ (by assumption)))).mono ?_
  rintro e w1 ⟨rfl, h1⟩
  go_wp2_with fail
  refine (impl_in _ _ _ _).mono ?_
  rintro e w2 ⟨rfl, rfl⟩
  go_wp2
  go_ret
  exact ⟨rfl, (by repeat (first | exact Ext.refl _ | assumption | refine Ext.alloc ?_ _ | refine Ext.drew ?_ | refine Ext.drewN ?_ _ | refine Ext.trans ?_ (by assumption)))⟩
set_option maxHeartbeats 800000 in
theorem impl_pix_in3 (A : Option Addr) (cA : Nat) (p : List Int) (i : Nat) (w : World) (hA : Rd w A (ints p)) (hl : p.length = 3) (hcA : 3 ≤ cA) (hp : isPerm p = true) (hi : i < 8) :
    Calls Try.prog 23 #[.slice A 3 cA, .int .i64 i] w fun e w' => e = .returned (.int .i64 (pixTo p i 3)) ∧ Ext w w' := by
  have hcp := fun W (hW : Ext w W) => impl_isPerm A 3 cA p W (hA.ext hW) hl (by omega)
  rw [hp] at hcp
  have HP := Lib.hid hcp
  have hb : inB i 0 7 = true := by unfold inB; simp; omega
  have HL := Lib.hid hl
  have HPP := Lib.hid hp
  clear hcp hp hl
  go_enter Try.func23, Try.ntmps23
  go_wp2_with fail
  refine (HP.out _ (by repeat (first | exact Ext.refl _ | assumption | refine Ext.alloc ?_ _ | refine Ext.drew ?_ | refine Ext.drewN ?_ _ | refine Ext.trans ?_ (by assumption)))).mono ?_
  rintro e w1 ⟨rfl, h1⟩
  have h01 : Ext w w1 := (by repeat (first | exact Ext.refl _ | assumption | refine Ext.alloc ?_ _ | refine Ext.drew ?_ | refine Ext.drewN ?_ _ | refine Ext.trans ?_ (by assumption)))
  clear h1
  go_wp2_with fail
  refine (impl_in _ _ _ _).mono ?_
  rintro e w2 ⟨rfl, rfl⟩
  obtain ⟨k, hk⟩ : ∃ k, k = i := ⟨_, rfl⟩
  go_wp2
  go_loopw [5,6,7,22] (fun v5 _ _ i wr => ∃ j : Nat, j ≤ 3 ∧ i = .int .i64 j ∧ v5 = .int .i64 (pixTo p k j) ∧ Ext w wr) (fun _ _ _ i _ => 3 - (intOf i).toNat)
  case atStart => exact ⟨0, Nat.zero_le _, rfl, rfl, h01⟩
  case round =>
    subst hk
    obtain ⟨j, hj, rfl, rfl, he⟩ := hrel
    by_cases hlt : j < 3
    · obtain ⟨g, off, rfl, hc⟩ := (hA.ext he).int (by have := HL.out; omega)
      have c1 := hc j (by have := HL.out; omega)
      obtain ⟨v, hv, hvn⟩ := perm_at HPP.out (j := j) (by have := HL.out; omega)
      rw [← hv] at c1
      have hvn' : v < 3 := by have := HL.out; omega
      have HST := Lib.hid (pix_step p k j v HPP.out (by have := HL.out; omega) hv (by omega) (by omega))
      clear hv hc hvn
      have hv0 : (0 : Int) ≤ (v : Int) := by omega
      obtain ⟨o, ho⟩ : ∃ o, o = pixTo p k j := ⟨_, rfl⟩
      rw [← ho] at HST ⊢
      clear ho
      go_wp2
      go_roundw
      case rel => exact ⟨j + 1, by omega, by go_num, by rw [HST.out], (by repeat (first | exact Ext.refl _ | assumption | refine Ext.alloc ?_ _ | refine Ext.drew ?_ | refine Ext.drewN ?_ _ | refine Ext.trans ?_ (by assumption)))⟩
      case measure => simp [intOf]; omega
    · have hjn : j = 3 := by omega
      subst hjn
      go_wp2
      go_ret
      exact ⟨rfl, he⟩
theorem impl_pix_out4 (A : Option Addr) (cA : Nat) (p : List Int) (i : Int) (w : World) (hA : Rd w A (ints p)) (hl : p.length = 4) (hcA : 4 ≤ cA) (hp : isPerm p = true) (hi : ¬ (0 ≤ i ∧ i < 16)) :
    Calls Try.prog 23 #[.slice A 4 cA, .int .i64 i] w fun e w' => e = .returned (.int .i64 0) ∧ Ext w w' := by
  have hcp := fun W (hW : Ext w W) => impl_isPerm A 4 cA p W (hA.ext hW) hl (by omega)
  rw [hp] at hcp
  have HP := Lib.hid hcp
  have hb : inB i 0 15 = false := by unfold inB; rw [Bool.and_eq_false_iff]; simp; omega
  clear hcp hp hl
  go_enter Try.func23, Try.ntmps23
  go_wp2_with fail
  refine (HP.out _ (by repeat (first | exact Ext.refl _ | assumption | refine Ext.alloc ?_ _ | refine Ext.drew ?_ | refine Ext.drewN ?_ _ | refine Ext.trans ?_ (by assumption)))).mono ?_
  rintro e w1 ⟨rfl, h1⟩
  go_wp2_with fail
  refine (impl_in _ _ _ _).mono ?_
  rintro e w2 ⟨rfl, rfl⟩
  go_wp2
  go_ret
  exact ⟨rfl, (by repeat (first | exact Ext.refl _ | assumption | refine Ext.alloc ?_ _ | refine Ext.drew ?_ | refine Ext.drewN ?_ _ | refine Ext.trans ?_ (by assumption)))⟩
set_option maxHeartbeats 800000 in
theorem impl_pix_in4 (A : Option Addr) (cA : Nat) (p : List Int) (i : Nat) (w : World) (hA : Rd w A (ints p)) (hl : p.length = 4) (hcA : 4 ≤ cA) (hp : isPerm p = true) (hi : i < 16) :
    Calls Try.prog 23 #[.slice A 4 cA, .int .i64 i] w fun e w' => e = .returned (.int .i64 (pixTo p i 4)) ∧ Ext w w' := by
  have hcp := fun W (hW : Ext w W) => impl_isPerm A 4 cA p W (hA.ext hW) hl (by omega)
  rw [hp] at hcp
  have HP := Lib.hid hcp
  have hb : inB i 0 15 = true := by unfold inB; simp; omega
  have HL := Lib.hid hl
  have HPP := Lib.hid hp
  clear hcp hp hl
  go_enter Try.func23, Try.ntmps23
  go_wp2_with fail
  refine (HP.out _ (by repeat (first | exact Ext.refl _ | assumption | refine Ext.alloc ?_ _ | refine Ext.drew ?_ | refine Ext.drewN ?_ _ | refine Ext.trans ?_ (by assumption)))).mono ?_
  rintro e w1 ⟨rfl, h1⟩
  have h01 : Ext w w1 := (by repeat (first | exact Ext.refl _ | assumption | refine Ext.alloc ?_ _ | refine Ext.drew ?_ | refine Ext.drewN ?_ _ | refine Ext.trans ?_ (by assumption)))
  clear h1
  go_wp2_with fail
  refine (impl_in _ _ _ _).mono ?_
  rintro e w2 ⟨rfl, rfl⟩
  obtain ⟨k, hk⟩ : ∃ k, k = i := ⟨_, rfl⟩
  go_wp2
  go_loopw [5,6,7,22] (fun v5 _ _ i wr => ∃ j : Nat, j ≤ 4 ∧ i = .int .i64 j ∧ v5 = .int .i64 (pixTo p k j) ∧ Ext w wr) (fun _ _ _ i _ => 4 - (intOf i).toNat)
  case atStart => exact ⟨0, Nat.zero_le _, rfl, rfl, h01⟩
  case round =>
    subst hk
    obtain ⟨j, hj, rfl, rfl, he⟩ := hrel
    by_cases hlt : j < 4
    · obtain ⟨g, off, rfl, hc⟩ := (hA.ext he).int (by have := HL.out; omega)
      have c1 := hc j (by have := HL.out; omega)
      obtain ⟨v, hv, hvn⟩ := perm_at HPP.out (j := j) (by have := HL.out; omega)
      rw [← hv] at c1
      have hvn' : v < 4 := by have := HL.out; omega
      have HST := Lib.hid (pix_step p k j v HPP.out (by have := HL.out; omega) hv (by omega) (by omega))
      clear hv hc hvn
      have hv0 : (0 : Int) ≤ (v : Int) := by omega
      obtain ⟨o, ho⟩ : ∃ o, o = pixTo p k j := ⟨_, rfl⟩
      rw [← ho] at HST ⊢
      clear ho
      go_wp2
      go_roundw
      case rel => exact ⟨j + 1, by omega, by go_num, by rw [HST.out], (by repeat (first | exact Ext.refl _ | assumption | refine Ext.alloc ?_ _ | refine Ext.drew ?_ | refine Ext.drewN ?_ _ | refine Ext.trans ?_ (by assumption)))⟩
      case measure => simp [intOf]; omega
    · have hjn : j = 4 := by omega
      subst hjn
      go_wp2
      go_ret
      exact ⟨rfl, he⟩
theorem spec_pix_out1 (A : Option Addr) (cA : Nat) (p : List Int) (i : Int) (w : World) (hA : Rd w A (ints p)) (hl : p.length = 1) (hcA : 1 ≤ cA) (hp : isPerm p = true) (hi : ¬ (0 ≤ i ∧ i < 2)) :
    Calls Try.prog 19 #[.slice A 1 cA, .int .i64 i] w fun e w' => e = .returned (.int .i64 0) ∧ Ext w w' := by
  have hcp := fun W (hW : Ext w W) => spec_isPerm A 1 cA p W (hA.ext hW) hl (by omega) hcA
  rw [hp] at hcp
  have HP := Lib.hid hcp
  have hb : inB i 0 1 = false := by unfold inB; rw [Bool.and_eq_false_iff]; simp; omega
  clear hcp hp hl
  go_enter Try.func19, Try.ntmps19
  go_wp2_with fail
  refine (HP.out _ (by repeat (first | exact Ext.refl _ | assumption | refine Ext.alloc ?_ _ | refine Ext.drew ?_ | refine Ext.drewN ?_ _ | refine Ext.trans ?_ (by assumption)))).mono ?_
  rintro e w1 ⟨rfl, h1⟩
  go_wp2_with fail
  refine (spec_in _ _ _ _).mono ?_
  rintro e w2 ⟨rfl, rfl⟩
  go_wp2
  go_ret
  exact ⟨rfl, (by repeat (first | exact Ext.refl _ | assumption | refine Ext.alloc ?_ _ | refine Ext.drew ?_ | refine Ext.drewN ?_ _ | refine Ext.trans ?_ (by assumption)))⟩
set_option maxHeartbeats 800000 in
theorem spec_pix_in1 (A : Option Addr) (cA : Nat) (p : List Int) (i : Nat) (w : World) (hA : Rd w A (ints p)) (hl : p.length = 1) (hcA : 1 ≤ cA) (hp : isPerm p = true) (hi : i < 2) :
    Calls Try.prog 19 #[.slice A 1 cA, .int .i64 i] w fun e w' => e = .returned (.int .i64 (pixTo p i 1)) ∧ Ext w w' := by
  have hcp := fun W (hW : Ext w W) => spec_isPerm A 1 cA p W (hA.ext hW) hl (by omega) hcA
  rw [hp] at hcp
  have HP := Lib.hid hcp
  have hb : inB i 0 1 = true := by unfold inB; simp; omega
  have HL := Lib.hid hl
  have HPP := Lib.hid hp
  clear hcp hp hl
  go_enter Try.func19, Try.ntmps19
  go_wp2_with fail
  refine (HP.out _ (by repeat (first | exact Ext.refl _ | assumption | refine Ext.alloc ?_ _ | refine Ext.drew ?_ | refine Ext.drewN ?_ _ | refine Ext.trans ?_ (by assumption)))).mono ?_
  rintro e w1 ⟨rfl, h1⟩
  have h01 : Ext w w1 := (by repeat (first | exact Ext.refl _ | assumption | refine Ext.alloc ?_ _ | refine Ext.drew ?_ | refine Ext.drewN ?_ _ | refine Ext.trans ?_ (by assumption)))
  clear h1
  go_wp2_with fail
  refine (spec_in _ _ _ _).mono ?_
  rintro e w2 ⟨rfl, rfl⟩
  obtain ⟨k, hk⟩ : ∃ k, k = i := ⟨_, rfl⟩
  go_wp2
  go_loopw [5,6] (fun v5 i wr => ∃ j : Nat, j ≤ 1 ∧ i = .int .i64 j ∧ v5 = .int .i64 (pixTo p k j) ∧ Ext w wr) (fun _ i _ => 1 - (intOf i).toNat)
  case atStart => exact ⟨0, Nat.zero_le _, rfl, rfl, h01⟩
  case round =>
    subst hk
    obtain ⟨j, hj, rfl, rfl, he⟩ := hrel
    by_cases hlt : j < 1
    · obtain ⟨g, off, rfl, hc⟩ := (hA.ext he).int (by have := HL.out; omega)
      have c1 := hc j (by have := HL.out; omega)
      obtain ⟨v, hv, hvn⟩ := perm_at HPP.out (j := j) (by have := HL.out; omega)
      rw [← hv] at c1
      have hvn' : v < 1 := by have := HL.out; omega
      have HST := Lib.hid (pix_step p k j v HPP.out (by have := HL.out; omega) hv (by omega) (by omega))
      clear hv hc hvn
      have hv0 : (0 : Int) ≤ (v : Int) := by omega
      obtain ⟨o, ho⟩ : ∃ o, o = pixTo p k j := ⟨_, rfl⟩
      rw [← ho] at HST ⊢
      clear ho
      go_wp2
      go_roundw
      case rel => exact ⟨j + 1, by omega, by go_num, by rw [HST.out], (by repeat (first | exact Ext.refl _ | assumption | refine Ext.alloc ?_ _ | refine Ext.drew ?_ | refine Ext.drewN ?_ _ | refine Ext.trans ?_ (by assumption)))⟩
      case measure => simp [intOf]; omega
    · have hjn : j = 1 := by omega
      subst hjn
      go_wp2
      go_ret
      exact ⟨rfl, he⟩
theorem spec_pix_out2 (A : Option Addr) (cA : Nat) (p : List Int) (i : Int) (w : World) (hA : Rd w A (ints p)) (hl : p.length = 2) (hcA : 2 ≤ cA) (hp : isPerm p = true) (hi : ¬ (0 ≤ i ∧ i < 4)) :
    Calls Try.prog 19 #[.slice A 2 cA, .int .i64 i] w fun e w' => e = .returned (.int .i64 0) ∧ Ext w w' := by
  have hcp := fun W (hW : Ext w W) => spec_isPerm A 2 cA p W (hA.ext hW) hl (by omega) hcA
  rw [hp] at hcp
  have HP := Lib.hid hcp
  have hb : inB i 0 3 = false := by unfold inB; rw [Bool.and_eq_false_iff]; simp; omega
  clear hcp hp hl
  go_enter Try.func19, Try.ntmps19
  go_wp2_with fail
  refine (HP.out _ (by repeat (first | exact Ext.refl _ | assumption | refine Ext.alloc ?_ _ | refine Ext.drew ?_ | refine Ext.drewN ?_ _ | refine Ext.trans ?_ (by assumption)))).mono ?_
  rintro e w1 ⟨rfl, h1⟩
  go_wp2_with fail
  refine (spec_in _ _ _ _).mono ?_
  rintro e w2 ⟨rfl, rfl⟩
  go_wp2
  go_ret
  exact ⟨rfl, (by repeat (first | exact Ext.refl _ | assumption | refine Ext.alloc ?_ _ | refine Ext.drew ?_ | refine Ext.drewN ?_ _ | refine Ext.trans ?_ (by assumption)))⟩
set_option maxHeartbeats 800000 in
theorem spec_pix_in2 (A : Option Addr) (cA : Nat) (p : List Int) (i : Nat) (w : World) (hA : Rd w A (ints p)) (hl : p.length = 2) (hcA : 2 ≤ cA) (hp : isPerm p = true) (hi : i < 4) :
    Calls Try.prog 19 #[.slice A 2 cA, .int .i64 i] w fun e w' => e = .returned (.int .i64 (pixTo p i 2)) ∧ Ext w w' := by
  have hcp := fun W (hW : Ext w W) => spec_isPerm A 2 cA p W (hA.ext hW) hl (by omega) hcA
  rw [hp] at hcp
  have HP := Lib.hid hcp
  have hb : inB i 0 3 = true := by unfold inB; simp; omega
  have HL := Lib.hid hl
  have HPP := Lib.hid hp
  clear hcp hp hl
  go_enter Try.func19, Try.ntmps19
  go_wp2_with fail
  refine (HP.out _ (by repeat (first | exact Ext.refl _ | assumption | refine Ext.alloc ?_ _ | refine Ext.drew ?_ | refine Ext.drewN ?_ _ | refine Ext.trans ?_ (by assumption)))).mono ?_
  rintro e w1 ⟨rfl, h1⟩
  have h01 : Ext w w1 := (by repeat (first | exact Ext.refl _ | assumption | refine Ext.alloc ?_ _ | refine Ext.drew ?_ | refine Ext.drewN ?_ _ | refine Ext.trans ?_ (by assumption)))
  clear h1
  go_wp2_with fail
  refine (spec_in _ _ _ _).mono ?_
  rintro e w2 ⟨rfl, rfl⟩
  obtain ⟨k, hk⟩ : ∃ k, k = i := ⟨_, rfl⟩
  go_wp2
  go_loopw [5,6] (fun v5 i wr => ∃ j : Nat, j ≤ 2 ∧ i = .int .i64 j ∧ v5 = .int .i64 (pixTo p k j) ∧ Ext w wr) (fun _ i _ => 2 - (intOf i).toNat)
  case atStart => exact ⟨0, Nat.zero_le _, rfl, rfl, h01⟩
  case round =>
    subst hk
    obtain ⟨j, hj, rfl, rfl, he⟩ := hrel
    by_cases hlt : j < 2
    · obtain ⟨g, off, rfl, hc⟩ := (hA.ext he).int (by have := HL.out; omega)
      have c1 := hc j (by have := HL.out; omega)
      obtain ⟨v, hv, hvn⟩ := perm_at HPP.out (j := j) (by have := HL.out; omega)
      rw [← hv] at c1
      have hvn' : v < 2 := by have := HL.out; omega
      have HST := Lib.hid (pix_step p k j v HPP.out (by have := HL.out; omega) hv (by omega) (by omega))
      clear hv hc hvn
      have hv0 : (0 : Int) ≤ (v : Int) := by omega
      obtain ⟨o, ho⟩ : ∃ o, o = pixTo p k j := ⟨_, rfl⟩
      rw [← ho] at HST ⊢
      clear ho
      go_wp2
      go_roundw
      case rel => exact ⟨j + 1, by omega, by go_num, by rw [HST.out], (by repeat (first | exact Ext.refl _ | assumption | refine Ext.alloc ?_ _ | refine Ext.drew ?_ | refine Ext.drewN ?_ _ | refine Ext.trans ?_ (by assumption)))⟩
      case measure => simp [intOf]; omega
    · have hjn : j = 2 := by omega
      subst hjn
      go_wp2
      go_ret
      exact ⟨rfl, he⟩
theorem spec_pix_out3 (A : Option Addr) (cA : Nat) (p : List Int) (i : Int) (w : World) (hA : Rd w A (ints p)) (hl : p.length = 3) (hcA : 3 ≤ cA) (hp : isPerm p = true) (hi : ¬ (0 ≤ i ∧ i < 8)) :
    Calls Try.prog 19 #[.slice A 3 cA, .int .i64 i] w fun e w' => e = .returned (.int .i64 0) ∧ Ext w w' := by
  have hcp := fun W (hW : Ext w W) => spec_isPerm A 3 cA p W (hA.ext hW) hl (by omega) hcA
  rw [hp] at hcp
  have HP := Lib.hid hcp
  have hb : inB i 0 7 = false := by unfold inB; rw [Bool.and_eq_false_iff]; simp; omega
  clear hcp hp hl
  go_enter Try.func19, Try.ntmps19
  go_wp2_with fail
  refine (HP.out _ (by repeat (first | exact Ext.refl _ | assumption | refine Ext.alloc ?_ _ | refine Ext.drew ?_ | refine Ext.drewN ?_ _ | refine Ext.trans ?_ (by assumption)))).mono ?_
  rintro e w1 ⟨rfl, h1⟩
  go_wp2_with fail
  refine (spec_in _ _ _ _).mono ?_
  rintro e w2 ⟨rfl, rfl⟩
  go_wp2
  go_ret
  exact ⟨rfl, (by repeat (first | exact Ext.refl _ | assumption | refine Ext.alloc ?_ _ | refine Ext.drew ?_ | refine Ext.drewN ?_ _ | refine Ext.trans ?_ (by assumption)))⟩
set_option maxHeartbeats 800000 in
theorem spec_pix_in3 (A : Option Addr) (cA : Nat) (p : List Int) (i : Nat) (w : World) (hA : Rd w A (ints p)) (hl : p.length = 3) (hcA : 3 ≤ cA) (hp : isPerm p = true) (hi : i < 8) :
    Calls Try.prog 19 #[.slice A 3 cA, .int .i64 i] w fun e w' => e = .returned (.int .i64 (pixTo p i 3)) ∧ Ext w w' := by
  have hcp := fun W (hW : Ext w W) => spec_isPerm A 3 cA p W (hA.ext hW) hl (by omega) hcA
  rw [hp] at hcp
  have HP := Lib.hid hcp
  have hb : inB i 0 7 = true := by unfold inB; simp; omega
  have HL := Lib.hid hl
  have HPP := Lib.hid hp
  clear hcp hp hl
  go_enter Try.func19, Try.ntmps19
  go_wp2_with fail
  refine (HP.out _ (by repeat (first | exact Ext.refl _ | assumption | refine Ext.alloc ?_ _ | refine Ext.drew ?_ | refine Ext.drewN ?_ _ | refine Ext.trans ?_ (by assumption)))).mono ?_
  rintro e w1 ⟨rfl, h1⟩
  have h01 : Ext w w1 := (by repeat (first | exact Ext.refl _ | assumption | refine Ext.alloc ?_ _ | refine Ext.drew ?_ | refine Ext.drewN ?_ _ | refine Ext.trans ?_ (by assumption)))
  clear h1
  go_wp2_with fail
  refine (spec_in _ _ _ _).mono ?_
  rintro e w2 ⟨rfl, rfl⟩
  obtain ⟨k, hk⟩ : ∃ k, k = i := ⟨_, rfl⟩
  go_wp2
  go_loopw [5,6] (fun v5 i wr => ∃ j : Nat, j ≤ 3 ∧ i = .int .i64 j ∧ v5 = .int .i64 (pixTo p k j) ∧ Ext w wr) (fun _ i _ => 3 - (intOf i).toNat)
  case atStart => exact ⟨0, Nat.zero_le _, rfl, rfl, h01⟩
  case round =>
    subst hk
    obtain ⟨j, hj, rfl, rfl, he⟩ := hrel
    by_cases hlt : j < 3
    · obtain ⟨g, off, rfl, hc⟩ := (hA.ext he).int (by have := HL.out; omega)
      have c1 := hc j (by have := HL.out; omega)
      obtain ⟨v, hv, hvn⟩ := perm_at HPP.out (j := j) (by have := HL.out; omega)
      rw [← hv] at c1
      have hvn' : v < 3 := by have := HL.out; omega
      have HST := Lib.hid (pix_step p k j v HPP.out (by have := HL.out; omega) hv (by omega) (by omega))
      clear hv hc hvn
      have hv0 : (0 : Int) ≤ (v : Int) := by omega
      obtain ⟨o, ho⟩ : ∃ o, o = pixTo p k j := ⟨_, rfl⟩
      rw [← ho] at HST ⊢
      clear ho
      go_wp2
      go_roundw
      case rel => exact ⟨j + 1, by omega, by go_num, by rw [HST.out], (by repeat (first | exact Ext.refl _ | assumption | refine Ext.alloc ?_ _ | refine Ext.drew ?_ | refine Ext.drewN ?_ _ | refine Ext.trans ?_ (by assumption)))⟩
      case measure => simp [intOf]; omega
    · have hjn : j = 3 := by omega
      subst hjn
      go_wp2
      go_ret
      exact ⟨rfl, he⟩
theorem spec_pix_out4 (A : Option Addr) (cA : Nat) (p : List Int) (i : Int) (w : World) (hA : Rd w A (ints p)) (hl : p.length = 4) (hcA : 4 ≤ cA) (hp : isPerm p = true) (hi : ¬ (0 ≤ i ∧ i < 16)) :
    Calls Try.prog 19 #[.slice A 4 cA, .int .i64 i] w fun e w' => e = .returned (.int .i64 0) ∧ Ext w w' := by
  have hcp := fun W (hW : Ext w W) => spec_isPerm A 4 cA p W (hA.ext hW) hl (by omega) hcA
  rw [hp] at hcp
  have HP := Lib.hid hcp
  have hb : inB i 0 15 = false := by unfold inB; rw [Bool.and_eq_false_iff]; simp; omega
  clear hcp hp hl
  go_enter Try.func19, Try.ntmps19
  go_wp2_with fail
  refine (HP.out _ (by repeat (first | exact Ext.refl _ | assumption | refine Ext.alloc ?_ _ | refine Ext.drew ?_ | refine Ext.drewN ?_ _ | refine Ext.trans ?_ (by assumption)))).mono ?_
  rintro e w1 ⟨rfl, h1⟩
  go_wp2_with fail
  refine (spec_in _ _ _ _).mono ?_
  rintro e w2 ⟨rfl, rfl⟩
  go_wp2
  go_ret
  exact ⟨rfl, (by repeat (first | exact Ext.refl _ | assumption | refine Ext.alloc ?_ _ | refine Ext.drew ?_ | refine Ext.drewN ?_ _ | refine Ext.trans ?_ (by assumption)))⟩
set_option maxHeartbeats 800000 in
theorem spec_pix_in4 (A : Option Addr) (cA : Nat) (p : List Int) (i : Nat) (w : World) (hA : Rd w A (ints p)) (hl : p.length = 4) (hcA : 4 ≤ cA) (hp : isPerm p = true) (hi : i < 16) :
    Calls Try.prog 19 #[.slice A 4 cA, .int .i64 i] w fun e w' => e = .returned (.int .i64 (pixTo p i 4)) ∧ Ext w w' := by
  have hcp := fun W (hW : Ext w W) => spec_isPerm A 4 cA p W (hA.ext hW) hl (by omega) hcA
  rw [hp] at hcp
  have HP := Lib.hid hcp
  have hb : inB i 0 15 = true := by unfold inB; simp; omega
  have HL := Lib.hid hl
  have HPP := Lib.hid hp
  clear hcp hp hl
  go_enter Try.func19, Try.ntmps19
  go_wp2_with fail
  refine (HP.out _ (by repeat (first | exact Ext.refl _ | assumption | refine Ext.alloc ?_ _ | refine Ext.drew ?_ | refine Ext.drewN ?_ _ | refine Ext.trans ?_ (by assumption)))).mono ?_
  rintro e w1 ⟨rfl, h1⟩
  have h01 : Ext w w1 := (by repeat (first | exact Ext.refl _ | assumption | refine Ext.alloc ?_ _ | refine Ext.drew ?_ | refine Ext.drewN ?_ _ | refine Ext.trans ?_ (by assumption)))
  clear h1
  go_wp2_with fail
  refine (spec_in _ _ _ _).mono ?_
  rintro e w2 ⟨rfl, rfl⟩
  obtain ⟨k, hk⟩ : ∃ k, k = i := ⟨_, rfl⟩
  go_wp2
  go_loopw [5,6] (fun v5 i wr => ∃ j : Nat, j ≤ 4 ∧ i = .int .i64 j ∧ v5 = .int .i64 (pixTo p k j) ∧ Ext w wr) (fun _ i _ => 4 - (intOf i).toNat)
  case atStart => exact ⟨0, Nat.zero_le _, rfl, rfl, h01⟩
  case round =>
    subst hk
    obtain ⟨j, hj, rfl, rfl, he⟩ := hrel
    by_cases hlt : j < 4
    · obtain ⟨g, off, rfl, hc⟩ := (hA.ext he).int (by have := HL.out; omega)
      have c1 := hc j (by have := HL.out; omega)
      obtain ⟨v, hv, hvn⟩ := perm_at HPP.out (j := j) (by have := HL.out; omega)
      rw [← hv] at c1
      have hvn' : v < 4 := by have := HL.out; omega
      have HST := Lib.hid (pix_step p k j v HPP.out (by have := HL.out; omega) hv (by omega) (by omega))
      clear hv hc hvn
      have hv0 : (0 : Int) ≤ (v : Int) := by omega
      obtain ⟨o, ho⟩ : ∃ o, o = pixTo p k j := ⟨_, rfl⟩
      rw [← ho] at HST ⊢
      clear ho
      go_wp2
      go_roundw
      case rel => exact ⟨j + 1, by omega, by go_num, by rw [HST.out], (by repeat (first | exact Ext.refl _ | assumption | refine Ext.alloc ?_ _ | refine Ext.drew ?_ | refine Ext.drewN ?_ _ | refine Ext.trans ?_ (by assumption)))⟩
      case measure => simp [intOf]; omega
    · have hjn : j = 4 := by omega
      subst hjn
      go_wp2
      go_ret
      exact ⟨rfl, he⟩
theorem impl_pix (A : Option Addr) (n cA : Nat) (p : List Int) (i : Int) (w : World) (hA : Rd w A (ints p)) (hl : p.length = n) (hn : n ≤ 9223372036854775806) (hcA : n ≤ cA) :
    Calls Try.prog 23 #[.slice A n cA, .int .i64 i] w fun e w' => e = .returned (.int .i64 (pix p i)) ∧ Ext w w' := by
  cases hp : isPerm p with
  | false =>
    have e : pix p i = 0 := by unfold pix; rw [if_neg (by rw [hp]; simp)]
    rw [e]
    exact impl_pix_np A n cA p i w hA hl hn hcA hp
  | true =>
    have h4 := (isPerm_iff p).1 hp
    subst hl
    by_cases hi : 0 ≤ i ∧ i < 2 ^ p.length
    · obtain ⟨k, rfl⟩ := Int.eq_ofNat_of_zero_le hi.1
      have e : pix p (k : Int) = pixTo p k p.length := by unfold pix; rw [if_pos ⟨hp, hi⟩]; rfl
      rw [e]
      have hk := hi.2
      obtain hl | hl | hl | hl : p.length = 1 ∨ p.length = 2 ∨ p.length = 3 ∨ p.length = 4 := by omega
      · rw [hl] at hk hcA ⊢; exact impl_pix_in1 A cA p k w hA hl hcA hp (by omega)
      · rw [hl] at hk hcA ⊢; exact impl_pix_in2 A cA p k w hA hl hcA hp (by omega)
      · rw [hl] at hk hcA ⊢; exact impl_pix_in3 A cA p k w hA hl hcA hp (by omega)
      · rw [hl] at hk hcA ⊢; exact impl_pix_in4 A cA p k w hA hl hcA hp (by omega)
    · have e : pix p i = 0 := by unfold pix; rw [if_neg (by rintro ⟨_, h⟩; exact hi h)]
      rw [e]
      obtain hl | hl | hl | hl : p.length = 1 ∨ p.length = 2 ∨ p.length = 3 ∨ p.length = 4 := by omega
      · rw [hl] at hi hcA ⊢; exact impl_pix_out1 A cA p i w hA hl hcA hp (by omega)
      · rw [hl] at hi hcA ⊢; exact impl_pix_out2 A cA p i w hA hl hcA hp (by omega)
      · rw [hl] at hi hcA ⊢; exact impl_pix_out3 A cA p i w hA hl hcA hp (by omega)
      · rw [hl] at hi hcA ⊢; exact impl_pix_out4 A cA p i w hA hl hcA hp (by omega)
theorem spec_pix (A : Option Addr) (n cA : Nat) (p : List Int) (i : Int) (w : World) (hA : Rd w A (ints p)) (hl : p.length = n) (hn : n ≤ 9223372036854775806) (hcA : n ≤ cA) :
    Calls Try.prog 19 #[.slice A n cA, .int .i64 i] w fun e w' => e = .returned (.int .i64 (pix p i)) ∧ Ext w w' := by
  cases hp : isPerm p with
  | false =>
    have e : pix p i = 0 := by unfold pix; rw [if_neg (by rw [hp]; simp)]
    rw [e]
    exact spec_pix_np A n cA p i w hA hl hn hcA hp
  | true =>
    have h4 := (isPerm_iff p).1 hp
    subst hl
    by_cases hi : 0 ≤ i ∧ i < 2 ^ p.length
    · obtain ⟨k, rfl⟩ := Int.eq_ofNat_of_zero_le hi.1
      have e : pix p (k : Int) = pixTo p k p.length := by unfold pix; rw [if_pos ⟨hp, hi⟩]; rfl
      rw [e]
      have hk := hi.2
      obtain hl | hl | hl | hl : p.length = 1 ∨ p.length = 2 ∨ p.length = 3 ∨ p.length = 4 := by omega
      · rw [hl] at hk hcA ⊢; exact spec_pix_in1 A cA p k w hA hl hcA hp (by omega)
      · rw [hl] at hk hcA ⊢; exact spec_pix_in2 A cA p k w hA hl hcA hp (by omega)
      · rw [hl] at hk hcA ⊢; exact spec_pix_in3 A cA p k w hA hl hcA hp (by omega)
      · rw [hl] at hk hcA ⊢; exact spec_pix_in4 A cA p k w hA hl hcA hp (by omega)
    · have e : pix p i = 0 := by unfold pix; rw [if_neg (by rintro ⟨_, h⟩; exact hi h)]
      rw [e]
      obtain hl | hl | hl | hl : p.length = 1 ∨ p.length = 2 ∨ p.length = 3 ∨ p.length = 4 := by omega
      · rw [hl] at hi hcA ⊢; exact spec_pix_out1 A cA p i w hA hl hcA hp (by omega)
      · rw [hl] at hi hcA ⊢; exact spec_pix_out2 A cA p i w hA hl hcA hp (by omega)
      · rw [hl] at hi hcA ⊢; exact spec_pix_out3 A cA p i w hA hl hcA hp (by omega)
      · rw [hl] at hi hcA ⊢; exact spec_pix_out4 A cA p i w hA hl hcA hp (by omega)
end Go.Proofs.YtbihbegpjicnkaaR
