/-
  Contracts of the validity tests of numbers, states and matrices, and of QubitCount. Conditions: the slices read as rows.
-/
import Derived.Test.YtkcbkbpjaccpgaaQV2
import Derived.Test.YtkcbkbpjaccpgaaRows2
set_option linter.unusedSimpArgs false
set_option linter.unusedVariables false
namespace Go.Proofs.Ytkcbkbpjaccpgaa
open Go.RowKit
theorem vD_zno {a b c d k : Int} (h : vZ a b c d = false) : vD a b c d k = false := by unfold vD; rw [h]; rfl
theorem vD_rno {a b c d k : Int} (h : inB k 0 60 = false) : vD a b c d k = false := by unfold vD; rw [h]; simp
theorem vD_k0 {a b c d : Int} (h : vZ a b c d = true) : vD a b c d 0 = true := by unfold vD; rw [h]; rfl
theorem vD_k1 {a b c d k : Int} (h : vZ a b c d = true) (h1 : inB k 0 60 = true) (h2 : k ≠ 0) : vD a b c d k = !dv a b c d := by
  unfold vD; rw [h, h1, show (k == 0) = false from by simpa using h2]; simp
set_option maxHeartbeats 800000 in
theorem impl_vD_a (a b c d k : Int) (t z : Bool) (w : World) (HD : Hid (∀ W, Calls Try.prog 38 #[.agg #[.int .i64 a, .int .i64 b, .int .i64 c, .int .i64 d]] W (DivR W t)))
    (HZ : Hid (∀ W, Calls Try.prog 39 #[.agg #[.int .i64 a, .int .i64 b, .int .i64 c, .int .i64 d]] W fun e w' => e = .returned (.bool z) ∧ Ext W w'))
    (r u : Bool) (hr : inB k 0 60 = r) (hk : (k == 0) = u) :
    Calls Try.prog 33 #[.agg #[.int .i64 a, .int .i64 b, .int .i64 c, .int .i64 d, .int .i64 k]] w fun e w' => e = .returned (.bool (z && r && (u || !t))) ∧ Ext w w' := by
  cases z <;> cases r <;> cases u <;> cases t
  all_goals
    go_enter Try.func33, Try.ntmps33
    go_wp2_with fail
    refine (HD.out _).mono ?_
    rintro e w1 ⟨z0, z1, z2, z3, rfl, h1⟩
    have x := (Blk.new w 42 #[.int .i64 a, .int .i64 b, .int .i64 c, .int .i64 d, .int .i64 k]).ext h1
    obtain ⟨xc, xf, xz⟩ := x.all
    have h01 : Ext w w1 := Ext.trans (by repeat (first | exact Ext.refl _ | assumption | refine Ext.alloc ?_ _ | refine Ext.drew ?_ | refine Ext.drewN ?_ _ | refine Ext.trans ?_ (by assumption))) h1
    go_wp2_with fail
    refine (HZ.out _).mono ?_
    rintro e w2 ⟨rfl, h2⟩
    clear xc xf xz
    replace x := Blk.to x h2 (by repeat (first | exact Ext.refl _ | assumption | refine Ext.alloc ?_ _ | refine Ext.drew ?_ | refine Ext.drewN ?_ _ | refine Ext.trans ?_ (by assumption)))
    obtain ⟨xc, xf, xz⟩ := x.all
    have h02 : Ext w w2 := Ext.trans (by repeat (first | exact Ext.refl _ | assumption | refine Ext.alloc ?_ _ | refine Ext.drew ?_ | refine Ext.drewN ?_ _ | refine Ext.trans ?_ (by assumption))) h2
    clear h1 h2 h01
    go_wp2_with (go_at_call 18; refine (impl_in _ _ _ _).mono ?_; rintro e w' ⟨rfl, rfl⟩)
    go_ret
    exact ⟨rfl, (by repeat (first | exact Ext.refl _ | assumption | refine Ext.alloc ?_ _ | refine Ext.drew ?_ | refine Ext.drewN ?_ _ | refine Ext.trans ?_ (by assumption)))⟩
theorem impl_vD (a b c d k : Int) (w : World) : Calls Try.prog 33 #[.agg #[.int .i64 a, .int .i64 b, .int .i64 c, .int .i64 d, .int .i64 k]] w fun e w' => e = .returned (.bool (vD a b c d k)) ∧ Ext w w' :=
  impl_vD_a a b c d k (dv a b c d) (vZ a b c d) w (Lib.hid (fun W => impl_div a b c d W)) (Lib.hid (fun W => impl_vZ a b c d W)) _ _ rfl rfl
set_option maxHeartbeats 800000 in
theorem spec_vD_a (a b c d k : Int) (t z : Bool) (w : World) (HD : Hid (∀ W, Calls Try.prog 36 #[.agg #[.int .i64 a, .int .i64 b, .int .i64 c, .int .i64 d]] W (DivR W t)))
    (HZ : Hid (∀ W, Calls Try.prog 37 #[.agg #[.int .i64 a, .int .i64 b, .int .i64 c, .int .i64 d]] W fun e w' => e = .returned (.bool z) ∧ Ext W w'))
    (r u : Bool) (hr : inB k 0 60 = r) (hk : (k == 0) = u) :
    Calls Try.prog 30 #[.agg #[.int .i64 a, .int .i64 b, .int .i64 c, .int .i64 d, .int .i64 k]] w fun e w' => e = .returned (.bool (z && r && (u || !t))) ∧ Ext w w' := by
  cases z <;> cases r <;> cases u <;> cases t
  all_goals
    go_enter Try.func30, Try.ntmps30
    go_wp2_with fail
    refine (HD.out _).mono ?_
    rintro e w1 ⟨z0, z1, z2, z3, rfl, h1⟩
    have x := (Blk.new w 42 #[.int .i64 a, .int .i64 b, .int .i64 c, .int .i64 d, .int .i64 k]).ext h1
    obtain ⟨xc, xf, xz⟩ := x.all
    have h01 : Ext w w1 := Ext.trans (by repeat (first | exact Ext.refl _ | assumption | refine Ext.alloc ?_ _ | refine Ext.drew ?_ | refine Ext.drewN ?_ _ | refine Ext.trans ?_ (by assumption))) h1
    go_wp2_with fail
    refine (HZ.out _).mono ?_
    rintro e w2 ⟨rfl, h2⟩
    clear xc xf xz
    replace x := Blk.to x h2 (by repeat (first | exact Ext.refl _ | assumption | refine Ext.alloc ?_ _ | refine Ext.drew ?_ | refine Ext.drewN ?_ _ | refine Ext.trans ?_ (by assumption)))
    obtain ⟨xc, xf, xz⟩ := x.all
    have h02 : Ext w w2 := Ext.trans (by repeat (first | exact Ext.refl _ | assumption | refine Ext.alloc ?_ _ | refine Ext.drew ?_ | refine Ext.drewN ?_ _ | refine Ext.trans ?_ (by assumption))) h2
    clear h1 h2 h01
    go_wp2_with (go_at_call 13; refine (spec_in _ _ _ _).mono ?_; rintro e w' ⟨rfl, rfl⟩)
    go_ret
    exact ⟨rfl, (by repeat (first | exact Ext.refl _ | assumption | refine Ext.alloc ?_ _ | refine Ext.drew ?_ | refine Ext.drewN ?_ _ | refine Ext.trans ?_ (by assumption)))⟩
theorem spec_vD (a b c d k : Int) (w : World) : Calls Try.prog 30 #[.agg #[.int .i64 a, .int .i64 b, .int .i64 c, .int .i64 d, .int .i64 k]] w fun e w' => e = .returned (.bool (vD a b c d k)) ∧ Ext w w' :=
  spec_vD_a a b c d k (dv a b c d) (vZ a b c d) w (Lib.hid (fun W => spec_div a b c d W)) (Lib.hid (fun W => spec_vZ a b c d W)) _ _ rfl rfl
def qc (n : Nat) : Int := if n = 2 then 1 else if n = 4 then 2 else if n = 8 then 3 else if n = 16 then 4 else 0
theorem qc_cases (n : Nat) : (n = 2 ∧ qc n = 1) ∨ (n = 4 ∧ qc n = 2) ∨ (n = 8 ∧ qc n = 3) ∨ (n = 16 ∧ qc n = 4) ∨ (n ≠ 2 ∧ n ≠ 4 ∧ n ≠ 8 ∧ n ≠ 16 ∧ qc n = 0) := by
  unfold qc; (repeat' split) <;> omega
set_option maxHeartbeats 800000 in
theorem impl_qc (A : Option Addr) (n c : Nat) (w : World) (hn : n ≤ 4611686018427387904) : Calls Try.prog 19 #[.slice A n c] w fun e w' => e = .returned (.int .i64 (qc n)) ∧ Ext w w' := by
  have HQ := Lib.hid (qc_cases n)
  go_enter Try.func19, Try.ntmps19
  go_wp2
  go_loopw [3] (fun i wr => ∃ k : Nat, 1 ≤ k ∧ k ≤ 5 ∧ i = .int .i64 k ∧ Hid ((2 ≤ k → n ≠ 2) ∧ (3 ≤ k → n ≠ 4) ∧ (4 ≤ k → n ≠ 8) ∧ (5 ≤ k → n ≠ 16)) ∧ Ext w wr) (fun i _ => 5 - (intOf i).toNat)
  case atStart => exact ⟨1, by omega, by omega, rfl, Lib.hid ⟨by omega, by omega, by omega, by omega⟩, (by repeat (first | exact Ext.refl _ | assumption | refine Ext.alloc ?_ _ | refine Ext.drew ?_ | refine Ext.drewN ?_ _ | refine Ext.trans ?_ (by assumption)))⟩
  case round =>
    obtain ⟨k, hk1, hk5, rfl, hno, he⟩ := hrel
    obtain rfl | rfl | rfl | rfl | rfl : k = 1 ∨ k = 2 ∨ k = 3 ∨ k = 4 ∨ k = 5 := by omega
    · by_cases h : n = 2
      · subst h
        go_wp2
        go_ret
        exact ⟨rfl, he⟩
      · have hb : ((n : Int) == 2) = false := by simp; omega
        have HH := Lib.hid h
        clear h
        go_wp2
        go_roundw
        case rel => exact ⟨2, by omega, by omega, by go_num, Lib.hid ⟨fun _ => HH.out, by omega, by omega, by omega⟩, he⟩
        case measure => simp [intOf]
    · by_cases h : n = 4
      · subst h
        go_wp2
        go_ret
        exact ⟨rfl, he⟩
      · have hb : ((n : Int) == 4) = false := by simp; omega
        have HH := Lib.hid h
        clear h
        go_wp2
        go_roundw
        case rel => exact ⟨3, by omega, by omega, by go_num, Lib.hid ⟨fun _ => hno.out.1 (by omega), fun _ => HH.out, by omega, by omega⟩, he⟩
        case measure => simp [intOf]
    · by_cases h : n = 8
      · subst h
        go_wp2
        go_ret
        exact ⟨rfl, he⟩
      · have hb : ((n : Int) == 8) = false := by simp; omega
        have HH := Lib.hid h
        clear h
        go_wp2
        go_roundw
        case rel => exact ⟨4, by omega, by omega, by go_num, Lib.hid ⟨fun _ => hno.out.1 (by omega), fun _ => hno.out.2.1 (by omega), fun _ => HH.out, by omega⟩, he⟩
        case measure => simp [intOf]
    · by_cases h : n = 16
      · subst h
        go_wp2
        go_ret
        exact ⟨rfl, he⟩
      · have hb : ((n : Int) == 16) = false := by simp; omega
        have HH := Lib.hid h
        clear h
        go_wp2
        go_roundw
        case rel => exact ⟨5, by omega, by omega, by go_num, Lib.hid ⟨fun _ => hno.out.1 (by omega), fun _ => hno.out.2.1 (by omega), fun _ => hno.out.2.2.1 (by omega), fun _ => HH.out⟩, he⟩
        case measure => simp [intOf]
    · go_wp2
      go_ret
      exact ⟨ret_int (by have h1 := hno.out; have h2 := HQ.out; omega), he⟩
set_option maxHeartbeats 800000 in
theorem spec_qc (A : Option Addr) (n c : Nat) (w : World) (hn : n ≤ 4611686018427387904) : Calls Try.prog 14 #[.slice A n c] w fun e w' => e = .returned (.int .i64 (qc n)) ∧ Ext w w' := by
  have HQ := Lib.hid (qc_cases n)
  go_enter Try.func14, Try.ntmps14
  go_wp2
  go_loopw [3] (fun i wr => ∃ k : Nat, 1 ≤ k ∧ k ≤ 5 ∧ i = .int .i64 k ∧ Hid ((2 ≤ k → n ≠ 2) ∧ (3 ≤ k → n ≠ 4) ∧ (4 ≤ k → n ≠ 8) ∧ (5 ≤ k → n ≠ 16)) ∧ Ext w wr) (fun i _ => 5 - (intOf i).toNat)
  case atStart => exact ⟨1, by omega, by omega, rfl, Lib.hid ⟨by omega, by omega, by omega, by omega⟩, (by repeat (first | exact Ext.refl _ | assumption | refine Ext.alloc ?_ _ | refine Ext.drew ?_ | refine Ext.drewN ?_ _ | refine Ext.trans ?_ (by assumption)))⟩
  case round =>
    obtain ⟨k, hk1, hk5, rfl, hno, he⟩ := hrel
    obtain rfl | rfl | rfl | rfl | rfl : k = 1 ∨ k = 2 ∨ k = 3 ∨ k = 4 ∨ k = 5 := by omega
    · by_cases h : n = 2
      · subst h
        go_wp2
        go_ret
        exact ⟨rfl, he⟩
      · have hb : ((n : Int) == 2) = false := by simp; omega
        have HH := Lib.hid h
        clear h
        go_wp2
        go_roundw
        case rel => exact ⟨2, by omega, by omega, by go_num, Lib.hid ⟨fun _ => HH.out, by omega, by omega, by omega⟩, he⟩
        case measure => simp [intOf]
    · by_cases h : n = 4
      · subst h
        go_wp2
        go_ret
        exact ⟨rfl, he⟩
      · have hb : ((n : Int) == 4) = false := by simp; omega
        have HH := Lib.hid h
        clear h
        go_wp2
        go_roundw
        case rel => exact ⟨3, by omega, by omega, by go_num, Lib.hid ⟨fun _ => hno.out.1 (by omega), fun _ => HH.out, by omega, by omega⟩, he⟩
        case measure => simp [intOf]
    · by_cases h : n = 8
      · subst h
        go_wp2
        go_ret
        exact ⟨rfl, he⟩
      · have hb : ((n : Int) == 8) = false := by simp; omega
        have HH := Lib.hid h
        clear h
        go_wp2
        go_roundw
        case rel => exact ⟨4, by omega, by omega, by go_num, Lib.hid ⟨fun _ => hno.out.1 (by omega), fun _ => hno.out.2.1 (by omega), fun _ => HH.out, by omega⟩, he⟩
        case measure => simp [intOf]
    · by_cases h : n = 16
      · subst h
        go_wp2
        go_ret
        exact ⟨rfl, he⟩
      · have hb : ((n : Int) == 16) = false := by simp; omega
        have HH := Lib.hid h
        clear h
        go_wp2
        go_roundw
        case rel => exact ⟨5, by omega, by omega, by go_num, Lib.hid ⟨fun _ => hno.out.1 (by omega), fun _ => hno.out.2.1 (by omega), fun _ => hno.out.2.2.1 (by omega), fun _ => HH.out⟩, he⟩
        case measure => simp [intOf]
    · go_wp2
      go_ret
      exact ⟨ret_int (by have h1 := hno.out; have h2 := HQ.out; omega), he⟩
/-- The first j numbers of a row are valid. -/
def allD (L : List Int) : Nat → Bool
  | 0 => true
  | j + 1 => allD L j && vD (L.getD (j * 5) 0) (L.getD (j * 5 + 1) 0) (L.getD (j * 5 + 2) 0) (L.getD (j * 5 + 3) 0) (L.getD (j * 5 + 4) 0)
theorem allD_no (L : List Int) (k : Nat) (h : vD (L.getD (k * 5) 0) (L.getD (k * 5 + 1) 0) (L.getD (k * 5 + 2) 0) (L.getD (k * 5 + 3) 0) (L.getD (k * 5 + 4) 0) = false) : ∀ n, k < n → allD L n = false
  | 0, hk => by omega
  | n + 1, hk => by
    by_cases e : k = n
    · subst e; rw [allD, h]; simp
    · rw [allD, allD_no L k h n (by omega)]; rfl
def vS (L : List Int) (n : Nat) : Bool := !(qc n == 0) && allD L n
set_option maxHeartbeats 800000 in
theorem impl_vS (A : Option Addr) (n c : Nat) (L : List Int) (w : World) (hA : Rd w A (ints L)) (hl : L.length = n * 5) (hn : n ≤ 1048576) :
    Calls Try.prog 27 #[.slice A n c] w fun e w' => e = .returned (.bool (vS L n)) ∧ Ext w w' := by
  have HL := Lib.hid hl
  clear hl
  obtain ⟨q, hq⟩ : ∃ q, q = qc n := ⟨_, rfl⟩
  have HC := Lib.hid (fun W => impl_qc A n c W (by omega))
  have HV : Hid (vS L n = (!(q == 0) && allD L n)) := by show _ = _; rw [hq]; rfl
  rw [← hq] at HC
  clear hq
  by_cases hz : q = 0
  · subst hz
    go_enter Try.func27, Try.ntmps27
    go_wp2_with fail
    refine (HC.out _).mono ?_
    rintro e w1 ⟨rfl, h1⟩
    go_wp2
    go_ret
    exact ⟨ret_bool (by rw [HV.out]; rfl), (by repeat (first | exact Ext.refl _ | assumption | refine Ext.alloc ?_ _ | refine Ext.drew ?_ | refine Ext.drewN ?_ _ | refine Ext.trans ?_ (by assumption)))⟩
  · have hzb : (q == 0) = false := by simpa using hz
    have HV2 : Hid (vS L n = allD L n) := by show _ = _; rw [HV.out, hzb]; simp
    have HZ := Lib.hid hz
    clear hz HV
    go_enter Try.func27, Try.ntmps27
    go_wp2_with fail
    refine (HC.out _).mono ?_
    rintro e w1 ⟨rfl, h1⟩
    have h01 : Ext w w1 := (by repeat (first | exact Ext.refl _ | assumption | refine Ext.alloc ?_ _ | refine Ext.drew ?_ | refine Ext.drewN ?_ _ | refine Ext.trans ?_ (by assumption)))
    clear h1
    go_wp2
    go_loopw [4, 10] (fun _ i wr => ∃ k : Nat, k ≤ n ∧ i = .int .i64 k ∧ Hid (allD L k = true) ∧ Ext w wr) (fun _ i _ => n - (intOf i).toNat)
    case atStart => exact ⟨0, Nat.zero_le _, rfl, Lib.hid rfl, h01⟩
    case round =>
      obtain ⟨k, hk, rfl, hd, he⟩ := hrel
      by_cases hlt : k < n
      · obtain ⟨g, off, rfl, hc⟩ := (hA.ext he).five HL.out (by omega)
        obtain ⟨x0, x1, x2, x3, x4⟩ := hc k hlt
        have HST : Hid (allD L (k + 1) = (allD L k && vD (L.getD (k * 5) 0) (L.getD (k * 5 + 1) 0) (L.getD (k * 5 + 2) 0) (L.getD (k * 5 + 3) 0) (L.getD (k * 5 + 4) 0))) := rfl
        have HNO := Lib.hid (fun h => allD_no L k h n hlt)
        generalize L.getD (k * 5) 0 = p0 at *
        generalize L.getD (k * 5 + 1) 0 = p1 at *
        generalize L.getD (k * 5 + 2) 0 = p2 at *
        generalize L.getD (k * 5 + 3) 0 = p3 at *
        generalize L.getD (k * 5 + 4) 0 = p4 at *
        clear hc
        have hcall := fun W => impl_vD p0 p1 p2 p3 p4 W
        obtain ⟨t, ht⟩ : ∃ t, t = vD p0 p1 p2 p3 p4 := ⟨_, rfl⟩
        rw [← ht] at hcall HST HNO
        clear ht
        have HCV := Lib.hid hcall
        clear hcall
        have hkI : (k : Int) < (n : Int) := by omega
        cases t with
        | true =>
          go_wp2_with fail
          refine (HCV.out _).mono ?_
          rintro e w2 ⟨rfl, h2⟩
          have h02 : Ext w w2 := (he.alloc _).trans h2
          go_wp2
          go_roundw
          case rel => exact ⟨k + 1, by omega, by go_num, Lib.hid (by rw [HST.out, hd.out]; rfl), h02⟩
          case measure => simp [intOf]; omega
        | false =>
          have HN2 := Lib.hid (HNO.out rfl)
          clear HNO
          go_wp2_with fail
          refine (HCV.out _).mono ?_
          rintro e w2 ⟨rfl, h2⟩
          have h02 : Ext w w2 := (he.alloc _).trans h2
          go_wp2
          go_ret
          exact ⟨ret_bool (by rw [HV2.out, HN2.out]), h02⟩
      · obtain rfl : k = n := by omega
        go_wp2
        go_ret
        exact ⟨ret_bool (by rw [HV2.out, hd.out]), he⟩
set_option maxHeartbeats 800000 in
theorem spec_vS (A : Option Addr) (n c : Nat) (L : List Int) (w : World) (hA : Rd w A (ints L)) (hl : L.length = n * 5) (hn : n ≤ 1048576) :
    Calls Try.prog 24 #[.slice A n c] w fun e w' => e = .returned (.bool (vS L n)) ∧ Ext w w' := by
  have HL := Lib.hid hl
  clear hl
  obtain ⟨q, hq⟩ : ∃ q, q = qc n := ⟨_, rfl⟩
  have HC := Lib.hid (fun A W => spec_qc A n c W (by omega))
  have HV : Hid (vS L n = (!(q == 0) && allD L n)) := by show _ = _; rw [hq]; rfl
  have hq0 : 0 ≤ q := by have := qc_cases n; omega
  rw [← hq] at HC
  clear hq
  go_enter Try.func24, Try.ntmps24
  go_wp2
  go_loopw [3] (fun i wr => ∃ k : Nat, k ≤ n ∧ i = .int .i64 k ∧ Hid (allD L k = true) ∧ Ext w wr) (fun i _ => n - (intOf i).toNat)
  case atStart => exact ⟨0, Nat.zero_le _, rfl, Lib.hid rfl, (by repeat (first | exact Ext.refl _ | assumption | refine Ext.alloc ?_ _ | refine Ext.drew ?_ | refine Ext.drewN ?_ _ | refine Ext.trans ?_ (by assumption)))⟩
  case round =>
    obtain ⟨k, hk, rfl, hd, he⟩ := hrel
    by_cases hlt : k < n
    · obtain ⟨g, off, rfl, hc⟩ := (hA.ext he).five HL.out (by omega)
      obtain ⟨x0, x1, x2, x3, x4⟩ := hc k hlt
      have HST : Hid (allD L (k + 1) = (allD L k && vD (L.getD (k * 5) 0) (L.getD (k * 5 + 1) 0) (L.getD (k * 5 + 2) 0) (L.getD (k * 5 + 3) 0) (L.getD (k * 5 + 4) 0))) := rfl
      have HNO := Lib.hid (fun h => allD_no L k h n hlt)
      generalize L.getD (k * 5) 0 = p0 at *
      generalize L.getD (k * 5 + 1) 0 = p1 at *
      generalize L.getD (k * 5 + 2) 0 = p2 at *
      generalize L.getD (k * 5 + 3) 0 = p3 at *
      generalize L.getD (k * 5 + 4) 0 = p4 at *
      clear hc
      have hcall := fun W => spec_vD p0 p1 p2 p3 p4 W
      obtain ⟨t, ht⟩ : ∃ t, t = vD p0 p1 p2 p3 p4 := ⟨_, rfl⟩
      rw [← ht] at hcall HST HNO
      clear ht
      have HCV := Lib.hid hcall
      clear hcall
      have hkI : (k : Int) < (n : Int) := by omega
      cases t with
      | true =>
        go_wp2_with fail
        refine (HCV.out _).mono ?_
        rintro e w2 ⟨rfl, h2⟩
        have h02 : Ext w w2 := he.trans h2
        go_wp2
        go_roundw
        case rel => exact ⟨k + 1, by omega, by go_num, Lib.hid (by rw [HST.out, hd.out]; rfl), h02⟩
        case measure => simp [intOf]; omega
      | false =>
        have HN2 := Lib.hid (HNO.out rfl)
        clear HNO
        go_wp2_with fail
        refine (HCV.out _).mono ?_
        rintro e w2 ⟨rfl, h2⟩
        have h02 : Ext w w2 := he.trans h2
        go_wp2
        go_ret
        exact ⟨ret_bool (by rw [HV.out, HN2.out]; simp), h02⟩
    · obtain rfl : k = n := by omega
      go_wp2_with fail
      refine (HC.out _ _).mono ?_
      rintro e w2 ⟨rfl, h2⟩
      go_wp2
      go_ret
      exact ⟨ret_bool (by rw [HV.out, hd.out, Bool.and_true]; by_cases h : q = 0; · subst h; rfl
                          rw [show (q == 0) = false from by simpa using h]; simp; omega), he.trans h2⟩
/-- The first j rows of a matrix are states of n numbers. -/
def rowsOk (LL : List (List Int)) (n : Nat) : Nat → Bool
  | 0 => true
  | j + 1 => rowsOk LL n j && (decide ((LL.getD j []).length = n * 5) && vS (LL.getD j []) n)
theorem rowsOk_no (LL : List (List Int)) (n k : Nat) (h : (decide ((LL.getD k []).length = n * 5) && vS (LL.getD k []) n) = false) : ∀ m, k < m → rowsOk LL n m = false
  | 0, hk => by omega
  | m + 1, hk => by
    by_cases e : k = m
    · subst e; rw [rowsOk, h]; simp
    · rw [rowsOk, rowsOk_no LL n k h m (by omega)]; rfl
theorem rowsOk_at (LL : List (List Int)) (n : Nat) : ∀ m, rowsOk LL n m = true → ∀ k, k < m → (LL.getD k []).length = n * 5 ∧ vS (LL.getD k []) n = true
  | 0, _, k, hk => by omega
  | m + 1, h, k, hk => by
    rw [rowsOk, Bool.and_eq_true, Bool.and_eq_true] at h
    by_cases e : k = m
    · subst e; exact ⟨of_decide_eq_true h.2.1, h.2.2⟩
    · exact rowsOk_at LL n m h.1 k (by omega)
def vM (LL : List (List Int)) (n : Nat) : Bool := rowsOk LL n n && decide (0 < n)
set_option maxHeartbeats 800000 in
theorem impl_vM (A : Option Addr) (n c : Nat) (LL : List (List Int)) (vs : List Value) (w : World) (hA : Rd2 w 5 A LL vs) (hl : LL.length = n) (hn : n ≤ 1048576) (hs : ∀ j, (LL.getD j []).length ≤ 1048576 * 5) :
    Calls Try.prog 17 #[.slice A n c] w fun e w' => e = .returned (.bool (vM LL n)) ∧ Ext w w' := by
  have HL := Lib.hid hl
  have HS := Lib.hid hs
  clear hl hs
  have HV : Hid (vM LL n = (rowsOk LL n n && decide (0 < n))) := rfl
  go_enter Try.func17, Try.ntmps17
  go_wp2
  go_loopw [4,7] (fun _ i wr => ∃ k : Nat, k ≤ n ∧ i = .int .i64 k ∧ Hid (rowsOk LL n k = true) ∧ Ext w wr) (fun _ i _ => n - (intOf i).toNat)
  case atStart => exact ⟨0, Nat.zero_le _, rfl, Lib.hid rfl, (by repeat (first | exact Ext.refl _ | assumption | refine Ext.alloc ?_ _ | refine Ext.drew ?_ | refine Ext.drewN ?_ _ | refine Ext.trans ?_ (by assumption)))⟩
  case round =>
    obtain ⟨k, hk, rfl, hd, he⟩ := hrel
    by_cases hlt : k < n
    · obtain ⟨g, off, B, m, cB, rfl, x0, _, hBl, rB⟩ := (hA.ext he).look (j := k) (by have := HL.out; omega)
      have hm : m ≤ 1048576 := by have := HS.out k; omega
      have HST : Hid (rowsOk LL n (k + 1) = (rowsOk LL n k && (decide ((LL.getD k []).length = n * 5) && vS (LL.getD k []) n))) := rfl
      have HNO := Lib.hid (fun h => rowsOk_no LL n k h n hlt)
      have hkI : (k : Int) < (n : Int) := by omega
      by_cases hmn : m = n
      · obtain rfl := hmn
        have hdl : decide ((LL.getD k []).length = m * 5) = true := by simpa using hBl
        rw [hdl, Bool.true_and] at HST HNO
        have hcall := fun W hW => impl_vS B m cB (LL.getD k []) W hW hBl (by omega)
        obtain ⟨t, ht⟩ : ∃ t, t = vS (LL.getD k []) m := ⟨_, rfl⟩
        rw [← ht] at hcall HST HNO
        have HCV := Lib.hid hcall
        clear hcall ht hdl hBl
        cases t with
        | true =>
          go_wp2_with fail
          refine (HCV.out _ rB).mono ?_
          rintro e w2 ⟨rfl, h2⟩
          have h02 : Ext w w2 := he.trans h2
          go_wp2
          go_roundw
          case rel => exact ⟨k + 1, by omega, by go_num, Lib.hid (by rw [HST.out, hd.out]; rfl), h02⟩
          case measure => simp [intOf]; omega
        | false =>
          have HN2 := Lib.hid (HNO.out rfl)
          clear HNO
          go_wp2_with fail
          refine (HCV.out _ rB).mono ?_
          rintro e w2 ⟨rfl, h2⟩
          have h02 : Ext w w2 := he.trans h2
          go_wp2
          go_ret
          exact ⟨ret_bool (by rw [HV.out, HN2.out]; rfl), h02⟩
      · have hne : ((m : Int) != (n : Int)) = true := by simp; omega
        have hdl : decide ((LL.getD k []).length = n * 5) = false := decide_eq_false (by omega)
        have HNO2 : Hid (rowsOk LL n n = false) := HNO.out (by rw [hdl]; rfl)
        clear hdl HNO HST hBl hmn rB
        go_wp2
        go_ret
        exact ⟨ret_bool (by rw [HV.out, HNO2.out]; rfl), he⟩
    · obtain rfl : k = n := by omega
      go_wp2
      go_ret
      exact ⟨ret_bool (by rw [HV.out, hd.out]; simp), he⟩
set_option maxHeartbeats 800000 in
theorem spec_vM (A : Option Addr) (n c : Nat) (LL : List (List Int)) (vs : List Value) (w : World) (hA : Rd2 w 5 A LL vs) (hl : LL.length = n) (hn : n ≤ 1048576) (hs : ∀ j, (LL.getD j []).length ≤ 1048576 * 5) :
    Calls Try.prog 12 #[.slice A n c] w fun e w' => e = .returned (.bool (vM LL n)) ∧ Ext w w' := by
  have HL := Lib.hid hl
  have HS := Lib.hid hs
  clear hl hs
  have HV : Hid (vM LL n = (rowsOk LL n n && decide (0 < n))) := rfl
  go_enter Try.func12, Try.ntmps12
  go_wp2
  go_loopw [3] (fun i wr => ∃ k : Nat, k ≤ n ∧ i = .int .i64 k ∧ Hid (rowsOk LL n k = true) ∧ Ext w wr) (fun i _ => n - (intOf i).toNat)
  case atStart => exact ⟨0, Nat.zero_le _, rfl, Lib.hid rfl, (by repeat (first | exact Ext.refl _ | assumption | refine Ext.alloc ?_ _ | refine Ext.drew ?_ | refine Ext.drewN ?_ _ | refine Ext.trans ?_ (by assumption)))⟩
  case round =>
    obtain ⟨k, hk, rfl, hd, he⟩ := hrel
    by_cases hlt : k < n
    · obtain ⟨g, off, B, m, cB, rfl, x0, _, hBl, rB⟩ := (hA.ext he).look (j := k) (by have := HL.out; omega)
      have hm : m ≤ 1048576 := by have := HS.out k; omega
      have HST : Hid (rowsOk LL n (k + 1) = (rowsOk LL n k && (decide ((LL.getD k []).length = n * 5) && vS (LL.getD k []) n))) := rfl
      have HNO := Lib.hid (fun h => rowsOk_no LL n k h n hlt)
      have hkI : (k : Int) < (n : Int) := by omega
      by_cases hmn : m = n
      · obtain rfl := hmn
        have hdl : decide ((LL.getD k []).length = m * 5) = true := by simpa using hBl
        rw [hdl, Bool.true_and] at HST HNO
        have hcall := fun W hW => spec_vS B m cB (LL.getD k []) W hW hBl (by omega)
        obtain ⟨t, ht⟩ : ∃ t, t = vS (LL.getD k []) m := ⟨_, rfl⟩
        rw [← ht] at hcall HST HNO
        have HCV := Lib.hid hcall
        clear hcall ht hdl hBl
        cases t with
        | true =>
          go_wp2_with fail
          refine (HCV.out _ rB).mono ?_
          rintro e w2 ⟨rfl, h2⟩
          have h02 : Ext w w2 := he.trans h2
          go_wp2
          go_roundw
          case rel => exact ⟨k + 1, by omega, by go_num, Lib.hid (by rw [HST.out, hd.out]; rfl), h02⟩
          case measure => simp [intOf]; omega
        | false =>
          have HN2 := Lib.hid (HNO.out rfl)
          clear HNO
          go_wp2_with fail
          refine (HCV.out _ rB).mono ?_
          rintro e w2 ⟨rfl, h2⟩
          have h02 : Ext w w2 := he.trans h2
          go_wp2
          go_ret
          exact ⟨ret_bool (by rw [HV.out, HN2.out]; rfl), h02⟩
      · have hne : ((m : Int) != (n : Int)) = true := by simp; omega
        have hdl : decide ((LL.getD k []).length = n * 5) = false := decide_eq_false (by omega)
        have HNO2 : Hid (rowsOk LL n n = false) := HNO.out (by rw [hdl]; rfl)
        clear hdl HNO HST hBl hmn rB
        go_wp2
        go_ret
        exact ⟨ret_bool (by rw [HV.out, HNO2.out]; rfl), he⟩
    · obtain rfl : k = n := by omega
      go_wp2
      go_ret
      exact ⟨ret_bool (by rw [HV.out, hd.out]; simp), he⟩
end Go.Proofs.Ytkcbkbpjaccpgaa
