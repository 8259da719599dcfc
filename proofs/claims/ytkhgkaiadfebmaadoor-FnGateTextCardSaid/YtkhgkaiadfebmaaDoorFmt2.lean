/-
  Contracts of FormatCircuit; the walks of the laws on FormatGate and FormatCircuit. Conditions: the slices read as rows; the variable gateNames reads as the thirteen names.
-/
import Derived.Test.YtkhgkaiadfebmaaDoorFmt
import Derived.Test.YtkhgkaiadfebmaaDoorCirc3
set_option linter.unusedSimpArgs false
set_option linter.unusedVariables false
namespace Go.Proofs.YtkhgkaiadfebmaaDoor
open Go.RowKit
def fc (N : Int) (L : List Int) : Nat → ByteArray
  | 0 => (⟨#[113, 117, 98, 105, 116, 115, 32]⟩ : ByteArray) ++ dg N
  | j + 1 => (fc N L j ++ ⟨#[10]⟩) ++ fmtG (L.getD (j * 4) 0) (L.getD (j * 4 + 1) 0) (L.getD (j * 4 + 2) 0) (L.getD (j * 4 + 3) 0)
theorem fc_size (N : Int) (L : List Int) : ∀ j, (fc N L j).size ≤ 8 + 11 * j
  | 0 => by
    have h2 := dg_size N
    have h3 : (ByteArray.mk #[113, 117, 98, 105, 116, 115, 32]).size = 7 := rfl
    rw [fc, ByteArray.size_append, h3]; omega
  | j + 1 => by
    have h1 := fc_size N L j
    have h2 := fmtG_size (L.getD (j * 4) 0) (L.getD (j * 4 + 1) 0) (L.getD (j * 4 + 2) 0) (L.getD (j * 4 + 3) 0)
    have h3 : (ByteArray.mk #[10]).size = 1 := rfl
    rw [fc, ByteArray.size_append, ByteArray.size_append, h3]; omega
def fmtC (N : Int) (L : List Int) (n : Nat) : ByteArray := if validC N L n = true then fc N L n else ⟨#[]⟩
theorem validC_n60 {N : Int} {L : List Int} {n : Nat} (h : validC N L n = true) : n ≤ 60 ∧ 1 ≤ N ∧ N ≤ 4 := by
  unfold validC at h; rw [decide_eq_true_eq] at h; exact ⟨h.2.1, h.1.1, h.1.2⟩
set_option maxHeartbeats 1600000 in
theorem impl_fmtCirc (N : Int) (A : Option Addr) (n c : Nat) (L : List Int) (w : World) (hA : Rd w A (ints L)) (hl : L.length = n * 4) (hn : n ≤ 1048576) (hN : Names w) :
    Calls Tryd.prog 23 #[.agg #[.int .i64 N, .slice A n c]] w fun e w' => e = .returned (.string (fmtC N L n)) ∧ Ext w w' := by
  have hcall := fun W (hW : Ext w W) => impl_validC N A n c L W (hA.ext hW) hl (by omega)
  have HL := Lib.hid hl
  clear hl
  cases hv : validC N L n with
  | false =>
    rw [hv] at hcall
    have HC := Lib.hid hcall
    have HF : Hid (fmtC N L n = ⟨#[]⟩) := by show _ = _; unfold fmtC; rw [hv]; rfl
    clear hcall hv
    go_enter Tryd.func23, Tryd.ntmps23
    go_wp2_with fail
    refine (HC.out _ (by repeat (first | exact Ext.refl _ | assumption | refine Ext.alloc ?_ _ | refine Ext.drew ?_ | refine Ext.drewN ?_ _ | refine Ext.trans ?_ (by assumption)))).mono ?_
    rintro e w1 ⟨rfl, h1⟩
    go_wp2
    go_ret
    exact ⟨ret_strN HF.out.symm, (by repeat (first | exact Ext.refl _ | assumption | refine Ext.alloc ?_ _ | refine Ext.drew ?_ | refine Ext.drewN ?_ _ | refine Ext.trans ?_ (by assumption)))⟩
  | true =>
    rw [hv] at hcall
    have HC := Lib.hid hcall
    have HF : Hid (fmtC N L n = fc N L n) := by show _ = _; unfold fmtC; rw [hv]; rfl
    obtain ⟨hn60, hN1, hN4⟩ := validC_n60 hv
    obtain ⟨m, rfl⟩ := Int.eq_ofNat_of_zero_le (show 0 ≤ N by omega)
    have hm4 : m ≤ 4 := by omega
    have H0 : Hid (fc (m : Int) L 0 = (⟨#[113, 117, 98, 105, 116, 115, 32]⟩ : ByteArray) ++ dg (m : Int)) := rfl
    have hd0 := dg_size (m : Int)
    clear hcall hv hN1 hN4
    go_enter Tryd.func23, Tryd.ntmps23
    go_wp2_with fail
    refine (HC.out _ (by repeat (first | exact Ext.refl _ | assumption | refine Ext.alloc ?_ _ | refine Ext.drew ?_ | refine Ext.drewN ?_ _ | refine Ext.trans ?_ (by assumption)))).mono ?_
    rintro e w1 ⟨rfl, h1⟩
    have x := (Blk.new w 30 #[.int .i64 m, .slice A n c]).ext h1
    obtain ⟨xc, xf, xz⟩ := x.all
    have h01 : Ext w w1 := Ext.trans (by repeat (first | exact Ext.refl _ | assumption | refine Ext.alloc ?_ _ | refine Ext.drew ?_ | refine Ext.drewN ?_ _ | refine Ext.trans ?_ (by assumption))) h1
    clear h1
    go_wp2_with fail
    refine (impl_fmtInt m hm4 _).mono ?_
    rintro e w2 ⟨rfl, h2⟩
    clear xc xf xz
    replace x := Blk.to x h2 (Ext.refl _)
    obtain ⟨xc, xf, xz⟩ := x.all
    have h02 := h01.trans h2
    clear h2 h01
    have HXX := Lib.hid x
    have HD0 := Lib.hid hd0
    obtain ⟨q0, hq0⟩ : ∃ q, q = dg (m : Int) := ⟨_, rfl⟩
    rw [← hq0] at H0 HD0 ⊢
    have hd1 := HD0.out
    clear hq0 hd0 x
    go_wp2
    clear xc xf xz hd1
    go_loopw [3, 5, 16] (fun s _ i wr => ∃ j : Nat, j ≤ n ∧ i = .int .i64 j ∧ s = .string (fc (m : Int) L j) ∧ Ext w2 wr) (fun _ _ i _ => n - (intOf i).toNat)
    case atStart => exact ⟨0, Nat.zero_le _, rfl, by rw [H0.out], (by repeat (first | exact Ext.refl _ | assumption | refine Ext.alloc ?_ _ | refine Ext.drew ?_ | refine Ext.drewN ?_ _ | refine Ext.trans ?_ (by assumption)))⟩
    case round =>
      obtain ⟨j, hj, rfl, rfl, he⟩ := hrel
      have x := HXX.out.ext he
      obtain ⟨xc, xf, xz⟩ := x.all
      have hwr := h02.trans he
      by_cases hlt : j < n
      · obtain ⟨g, off, rfl, hc⟩ := (hA.ext hwr).four HL.out (by omega)
        obtain ⟨c0, c1, c2, c3⟩ := hc j hlt
        have HST : Hid (fc (m : Int) L (j + 1) = (fc (m : Int) L j ++ ⟨#[10]⟩) ++ fmtG (L.getD (j * 4) 0) (L.getD (j * 4 + 1) 0) (L.getD (j * 4 + 2) 0) (L.getD (j * 4 + 3) 0)) := rfl
        have hfz := fc_size (m : Int) L j
        have hgz := fmtG_size (L.getD (j * 4) 0) (L.getD (j * 4 + 1) 0) (L.getD (j * 4 + 2) 0) (L.getD (j * 4 + 3) 0)
        generalize L.getD (j * 4) 0 = p0 at *
        generalize L.getD (j * 4 + 1) 0 = p1 at *
        generalize L.getD (j * 4 + 2) 0 = p2 at *
        generalize L.getD (j * 4 + 3) 0 = p3 at *
        have hs1 : (fc (m : Int) L j).size ≤ 1000 := by omega
        generalize fc (m : Int) L j = f at *
        have hjI : (j : Int) < (n : Int) := by omega
        clear hc hfz x
        go_wp2_with fail
        refine (impl_fmtGate p0 p1 p2 p3 _ (hN.ext (by repeat (first | exact Ext.refl _ | assumption | refine Ext.alloc ?_ _ | refine Ext.drew ?_ | refine Ext.drewN ?_ _ | refine Ext.trans ?_ (by assumption))))).mono ?_
        rintro e w4 ⟨rfl, h4⟩
        have h04 : Ext w2 w4 := Ext.trans (by repeat (first | exact Ext.refl _ | assumption | refine Ext.alloc ?_ _ | refine Ext.drew ?_ | refine Ext.drewN ?_ _ | refine Ext.trans ?_ (by assumption))) h4
        generalize fmtG p0 p1 p2 p3 = t at *
        clear xc xf xz c0 c1 c2 c3 hwr
        go_wp2
        go_roundw
        case rel => exact ⟨j + 1, by omega, by go_num, by rw [HST.out], h04⟩
        case measure => simp [intOf]; omega
      · obtain rfl : n = j := by omega
        go_wp2
        go_ret
        exact ⟨ret_strN HF.out.symm, h02.trans he⟩
set_option maxHeartbeats 1600000 in
theorem spec_fmtCirc (N : Int) (A : Option Addr) (n c : Nat) (L : List Int) (w : World) (hA : Rd w A (ints L)) (hl : L.length = n * 4) (hn : n ≤ 1048576) (hN : Names w) :
    Calls Tryd.prog 25 #[.agg #[.int .i64 N, .slice A n c]] w fun e w' => e = .returned (.string (fmtC N L n)) ∧ Ext w w' := by
  have hcall := fun W (hW : Ext w W) => spec_validC N A n c L W (hA.ext hW) hl (by omega)
  have HL := Lib.hid hl
  clear hl
  cases hv : validC N L n with
  | false =>
    rw [hv] at hcall
    have HC := Lib.hid hcall
    have HF : Hid (fmtC N L n = ⟨#[]⟩) := by show _ = _; unfold fmtC; rw [hv]; rfl
    clear hcall hv
    go_enter Tryd.func25, Tryd.ntmps25
    go_wp2_with fail
    refine (HC.out _ (by repeat (first | exact Ext.refl _ | assumption | refine Ext.alloc ?_ _ | refine Ext.drew ?_ | refine Ext.drewN ?_ _ | refine Ext.trans ?_ (by assumption)))).mono ?_
    rintro e w1 ⟨rfl, h1⟩
    go_wp2
    go_ret
    exact ⟨ret_strN HF.out.symm, (by repeat (first | exact Ext.refl _ | assumption | refine Ext.alloc ?_ _ | refine Ext.drew ?_ | refine Ext.drewN ?_ _ | refine Ext.trans ?_ (by assumption)))⟩
  | true =>
    rw [hv] at hcall
    have HC := Lib.hid hcall
    have HF : Hid (fmtC N L n = fc N L n) := by show _ = _; unfold fmtC; rw [hv]; rfl
    obtain ⟨hn60, hN1, hN4⟩ := validC_n60 hv
    obtain ⟨m, rfl⟩ := Int.eq_ofNat_of_zero_le (show 0 ≤ N by omega)
    have hm4 : m ≤ 4 := by omega
    have H0 : Hid (fc (m : Int) L 0 = (⟨#[113, 117, 98, 105, 116, 115, 32]⟩ : ByteArray) ++ dg (m : Int)) := rfl
    have hd0 := dg_size (m : Int)
    clear hcall hv hN1 hN4
    go_enter Tryd.func25, Tryd.ntmps25
    go_wp2_with fail
    refine (HC.out _ (by repeat (first | exact Ext.refl _ | assumption | refine Ext.alloc ?_ _ | refine Ext.drew ?_ | refine Ext.drewN ?_ _ | refine Ext.trans ?_ (by assumption)))).mono ?_
    rintro e w1 ⟨rfl, h1⟩
    have x := (Blk.new w 30 #[.int .i64 m, .slice A n c]).ext h1
    obtain ⟨xc, xf, xz⟩ := x.all
    have h01 : Ext w w1 := Ext.trans (by repeat (first | exact Ext.refl _ | assumption | refine Ext.alloc ?_ _ | refine Ext.drew ?_ | refine Ext.drewN ?_ _ | refine Ext.trans ?_ (by assumption))) h1
    clear h1
    go_wp2_with fail
    refine (spec_fmtInt m hm4 _).mono ?_
    rintro e w2 ⟨rfl, h2⟩
    clear xc xf xz
    replace x := Blk.to x h2 (Ext.refl _)
    obtain ⟨xc, xf, xz⟩ := x.all
    have h02 := h01.trans h2
    clear h2 h01
    have HXX := Lib.hid x
    have HD0 := Lib.hid hd0
    obtain ⟨q0, hq0⟩ : ∃ q, q = dg (m : Int) := ⟨_, rfl⟩
    rw [← hq0] at H0 HD0 ⊢
    have hd1 := HD0.out
    clear hq0 hd0 x
    go_wp2
    clear xc xf xz hd1
    go_loopw [3, 4] (fun s i wr => ∃ j : Nat, j ≤ n ∧ i = .int .i64 j ∧ s = .string (fc (m : Int) L j) ∧ Ext w2 wr) (fun _ i _ => n - (intOf i).toNat)
    case atStart => exact ⟨0, Nat.zero_le _, rfl, by rw [H0.out], (by repeat (first | exact Ext.refl _ | assumption | refine Ext.alloc ?_ _ | refine Ext.drew ?_ | refine Ext.drewN ?_ _ | refine Ext.trans ?_ (by assumption)))⟩
    case round =>
      obtain ⟨j, hj, rfl, rfl, he⟩ := hrel
      have x := HXX.out.ext he
      obtain ⟨xc, xf, xz⟩ := x.all
      have hwr := h02.trans he
      by_cases hlt : j < n
      · obtain ⟨g, off, rfl, hc⟩ := (hA.ext hwr).four HL.out (by omega)
        obtain ⟨c0, c1, c2, c3⟩ := hc j hlt
        have HST : Hid (fc (m : Int) L (j + 1) = (fc (m : Int) L j ++ ⟨#[10]⟩) ++ fmtG (L.getD (j * 4) 0) (L.getD (j * 4 + 1) 0) (L.getD (j * 4 + 2) 0) (L.getD (j * 4 + 3) 0)) := rfl
        have hfz := fc_size (m : Int) L j
        have hgz := fmtG_size (L.getD (j * 4) 0) (L.getD (j * 4 + 1) 0) (L.getD (j * 4 + 2) 0) (L.getD (j * 4 + 3) 0)
        generalize L.getD (j * 4) 0 = p0 at *
        generalize L.getD (j * 4 + 1) 0 = p1 at *
        generalize L.getD (j * 4 + 2) 0 = p2 at *
        generalize L.getD (j * 4 + 3) 0 = p3 at *
        have hs1 : (fc (m : Int) L j).size ≤ 1000 := by omega
        generalize fc (m : Int) L j = f at *
        have hjI : (j : Int) < (n : Int) := by omega
        clear hc hfz x
        go_wp2_with fail
        refine (spec_fmtGate p0 p1 p2 p3 _ (hN.ext (by repeat (first | exact Ext.refl _ | assumption | refine Ext.alloc ?_ _ | refine Ext.drew ?_ | refine Ext.drewN ?_ _ | refine Ext.trans ?_ (by assumption))))).mono ?_
        rintro e w4 ⟨rfl, h4⟩
        have h04 : Ext w2 w4 := Ext.trans (by repeat (first | exact Ext.refl _ | assumption | refine Ext.alloc ?_ _ | refine Ext.drew ?_ | refine Ext.drewN ?_ _ | refine Ext.trans ?_ (by assumption))) h4
        generalize fmtG p0 p1 p2 p3 = t at *
        clear xc xf xz c0 c1 c2 c3 hwr
        go_wp2
        go_roundw
        case rel => exact ⟨j + 1, by omega, by go_num, by rw [HST.out], h04⟩
        case measure => simp [intOf]; omega
      · obtain rfl : n = j := by omega
        go_wp2
        go_ret
        exact ⟨ret_strN HF.out.symm, h02.trans he⟩
end Go.Proofs.YtkhgkaiadfebmaaDoor
