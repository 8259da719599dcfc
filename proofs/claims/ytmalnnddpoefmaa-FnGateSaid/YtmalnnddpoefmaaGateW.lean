/-
  The walk of FnGate. No conditions.
-/
import Derived.Test.YtmalnnddpoefmaaDraw5
import Derived.Test.YtmalnnddpoefmaaOpen3
import Derived.Test.YtmalnnddpoefmaaValid2
import Derived.Deep.RegionHeld3
import Derived.Laws.StructEq
set_option linter.unusedSimpArgs false
set_option linter.unusedVariables false
namespace Go.Proofs.Ytmalnnddpoefmaa
open Go.RowKit
theorem inv_inv (k : Int) : invK (invK k) = k := by
  unfold invK
  repeat' split
  all_goals omega
theorem arity_inv (k : Int) : arity (invK k) = arity k := by
  unfold invK arity
  repeat' split
  all_goals omega
theorem qubits_inv (k a b c : Int) : qubits (invK k) a b c = qubits k a b c := by unfold qubits; rw [arity_inv]
theorem valid_inv (k a b c n : Int) : validG (invK k) a b c n = validG k a b c n := by unfold validG; rw [arity_inv]
theorem cliff_inv (k : Int) : cliff (invK k) = cliff k := by
  by_cases h5 : k = 5
  · subst h5; rfl
  by_cases h6 : k = 6
  · subst h6; rfl
  by_cases h7 : k = 7
  · subst h7; rfl
  by_cases h8 : k = 8
  · subst h8; rfl
  rw [show invK k = k from by unfold invK; simp [h5, h6, h7, h8]]
theorem gateNe (p0 p1 p2 p3 : Int) (w : World) : (binOp .neq 25 (.agg #[.int .i64 p0, .int .i64 p1, .int .i64 p2, .int .i64 p3]) (.agg #[.int .i64 p0, .int .i64 p1, .int .i64 p2, .int .i64 p3])).run Try.prog w = .ok (.bool false) w := by
  rw [run_neq_struct, run_equalIn_struct w 9999 25 _ _ (by kernel_rfl) (by kernel_rfl)]
  simp [go_sem, Program.fieldsOf, Try.underlying25, Try.underlying3]
theorem gateEq (p0 p1 p2 p3 : Int) (w : World) : (binOp .eql 25 (.agg #[.int .i64 p0, .int .i64 p1, .int .i64 p2, .int .i64 p3]) (.agg #[.int .i64 p0, .int .i64 p1, .int .i64 p2, .int .i64 p3])).run Try.prog w = .ok (.bool true) w := by
  rw [run_eql_struct, run_equalIn_struct w 9999 25 _ _ (by kernel_rfl) (by kernel_rfl)]
  simp [go_sem, Program.fieldsOf, Try.underlying25, Try.underlying3]
theorem gateGuard : Try.prog.eqGuardType Try.prog.depth 25 = false := by kernel_rfl
set_option maxRecDepth 20000 in
set_option maxHeartbeats 6400000 in
theorem walk_FnGate (w : World) (A : Option Addr) (n c : Nat) (l : List Int) (rd : Rd w A (bys l)) (hl : l.length = n) (hn : n ≤ maxLen) (wl : ∀ x ∈ l, 0 ≤ x ∧ x < 256) :
    Calls Try.prog 3 #[.slice A n c] w fun e w' => e = .returned (.bool true) ∧ Ext w w' := by
  clear wl
  have HL := Lib.hid hl
  clear hl
  unfold maxLen at hn
  by_cases hbig : 1048576 < n
  · have hd : decide (1048576 < n) = true := by simpa using hbig
    go_enter Try.func3, Try.ntmps3
    go_wp2_with fail
    refine (big_any A n c _).mono ?_
    rintro e w1 ⟨rfl, rfl⟩
    go_wp2
    go_ret
    exact ⟨rfl, (by repeat (first | exact Ext.refl _ | assumption | refine Ext.alloc ?_ _ | refine Ext.drew ?_ | refine Ext.drewN ?_ _ | refine Ext.trans ?_ (by assumption)))⟩
  · have hd : decide (1048576 < n) = false := by simpa using hbig
    go_enter Try.func3, Try.ntmps3
    go_wp2_with fail
    refine (big_any A n c _).mono ?_
    rintro e w1 ⟨rfl, rfl⟩
    go_wp2_with fail
    refine (drawValidGate_ok A n c l _ rd HL.out (by omega)).mono ?_
    rintro e w1 ⟨k, x, y, z, m, rfl, h1⟩
    clear rd HL hbig hn
    have HI := Lib.hid (fun W => impl_inverseGate k x y z W)
    have HSI := Lib.hid (fun W => spec_inverseGate k x y z W)
    have HI2 := Lib.hid (fun W => impl_inverseGate (invK k) x y z W)
    have HV := Lib.hid (fun W => impl_validGate k x y z m W)
    have HSV := Lib.hid (fun W => spec_validGate k x y z m W)
    have HV2 := Lib.hid (fun W => impl_validGate (invK k) x y z m W)
    have HQ := Lib.hid (fun W => impl_gateQubits k x y z W)
    have HQ2 := Lib.hid (fun W => impl_gateQubits (invK k) x y z W)
    have HA := Lib.hid (fun W => impl_arity k W)
    have HF := Lib.hid (fun W => impl_isClifford k x y z W)
    have HF2 := Lib.hid (fun W => impl_isClifford (invK k) x y z W)
    rw [inv_inv] at HI2
    rw [valid_inv] at HV2
    rw [qubits_inv, arity_inv] at HQ2
    rw [cliff_inv] at HF2
    obtain ⟨ar, har⟩ : ∃ ar : Nat, arity k = (ar : Int) := ⟨(arity k).toNat, by have := arity_bd k; omega⟩
    have hQl : Hid ((qubits k x y z).length = ar) := by show _ = _; rw [qubits_length, har]; simp
    have har3 : ar ≤ 3 := by have := arity_bd k; omega
    rw [har] at HA HQ HQ2
    simp only [Int.toNat_natCast] at HQ HQ2
    clear har
    generalize invK k = k2 at *
    generalize validG k x y z m = b at *
    generalize cliff k = cf at *
    generalize qubits k x y z = Q at *
    have hguard := gateGuard
    have gne := fun W => gateNe k2 x y z W
    have geq := fun W => gateEq k x y z W
    have bb : (b != b) = false := by simp
    go_wp2_with fail
    refine (HI.out _).mono ?_
    rintro e w2 ⟨rfl, h2⟩
    have g1 := (Blk.new w1 25 #[.int .i64 k, .int .i64 x, .int .i64 y, .int .i64 z]).ext h2
    have h02 := (h1.alloc _).trans h2
    clear h1 h2
    go_wp2_with fail
    have g1' := g1.ext ((Ext.refl w2).alloc (.cells #[.int .i64 k2, .int .i64 x, .int .i64 y, .int .i64 z] 25))
    have g2 := Blk.new w2 25 #[.int .i64 k2, .int .i64 x, .int .i64 y, .int .i64 z]
    have h03 := h02.alloc (.cells #[.int .i64 k2, .int .i64 x, .int .i64 y, .int .i64 z] 25)
    generalize w2.alloc (.cells #[.int .i64 k2, .int .i64 x, .int .i64 y, .int .i64 z] 25) = W3 at *
    generalize w1.heap.size = D1 at *
    generalize w2.heap.size = D2 at *
    clear g1 h02
    have a0 := g1'.all.1 0
    have a1 := g1'.all.1 1
    have a2 := g1'.all.1 2
    have a3 := g1'.all.1 3
    have b0 := g2.all.1 0
    have b1 := g2.all.1 1
    have b2 := g2.all.1 2
    have b3 := g2.all.1 3
    simp only [List.getElem?_toArray, List.getElem?_cons_zero, List.getElem?_cons_succ] at a0 a1 a2 a3 b0 b1 b2 b3
    go_region_held3 (fun w' => w'.cell? ⟨D1, 0, none⟩ = some (.int .i64 k) ∧ w'.cell? ⟨D1, 1, none⟩ = some (.int .i64 x) ∧ w'.cell? ⟨D1, 2, none⟩ = some (.int .i64 y) ∧ w'.cell? ⟨D1, 3, none⟩ = some (.int .i64 z) ∧ w'.cell? ⟨D2, 0, none⟩ = some (.int .i64 k2) ∧ w'.cell? ⟨D2, 1, none⟩ = some (.int .i64 x) ∧ w'.cell? ⟨D2, 2, none⟩ = some (.int .i64 y) ∧ w'.cell? ⟨D2, 3, none⟩ = some (.int .i64 z) ∧ Ext w w')
      (first | exact ⟨a0, a1, a2, a3, b0, b1, b2, b3, h03.drew⟩ | (go_split_ands; exact ⟨Ext.cell hx (by assumption), Ext.cell hx (by assumption), Ext.cell hx (by assumption), Ext.cell hx (by assumption), Ext.cell hx (by assumption), Ext.cell hx (by assumption), Ext.cell hx (by assumption), Ext.cell hx (by assumption), Ext.trans (by assumption) hx⟩))
      (first | (go_at_call 7; go_split_ands; refine (HSI.out _).mono ?_; rintro e w' ⟨rfl, hx⟩) | (go_at_call 8; go_split_ands; refine (HV.out _).mono ?_; rintro e w' ⟨rfl, hx⟩) | (go_at_call 9; go_split_ands; refine (HSV.out _).mono ?_; rintro e w' ⟨rfl, hx⟩))
    go_split_ands
    obtain ⟨W7, hW7⟩ : ∃ W7, W7 = w' := ⟨_, rfl⟩
    have c0 : W7.cell? ⟨D1, 0, none⟩ = some (.int .i64 k) := by rw [hW7]; assumption
    have c1 : W7.cell? ⟨D1, 1, none⟩ = some (.int .i64 x) := by rw [hW7]; assumption
    have c2 : W7.cell? ⟨D1, 2, none⟩ = some (.int .i64 y) := by rw [hW7]; assumption
    have c3 : W7.cell? ⟨D1, 3, none⟩ = some (.int .i64 z) := by rw [hW7]; assumption
    have d0 : W7.cell? ⟨D2, 0, none⟩ = some (.int .i64 k2) := by rw [hW7]; assumption
    have d1 : W7.cell? ⟨D2, 1, none⟩ = some (.int .i64 x) := by rw [hW7]; assumption
    have d2 : W7.cell? ⟨D2, 2, none⟩ = some (.int .i64 y) := by rw [hW7]; assumption
    have d3 : W7.cell? ⟨D2, 3, none⟩ = some (.int .i64 z) := by rw [hW7]; assumption
    have h07 : Ext w W7 := by rw [hW7]; assumption
    rw [← hW7]
    clear hW7 a0 a1 a2 a3 b0 b1 b2 b3 gne g1' g2
    go_wp2_with fail
    go_region_held3 (fun w' => w'.cell? ⟨D1, 0, none⟩ = some (.int .i64 k) ∧ w'.cell? ⟨D1, 1, none⟩ = some (.int .i64 x) ∧ w'.cell? ⟨D1, 2, none⟩ = some (.int .i64 y) ∧ w'.cell? ⟨D1, 3, none⟩ = some (.int .i64 z) ∧ w'.cell? ⟨D2, 0, none⟩ = some (.int .i64 k2) ∧ w'.cell? ⟨D2, 1, none⟩ = some (.int .i64 x) ∧ w'.cell? ⟨D2, 2, none⟩ = some (.int .i64 y) ∧ w'.cell? ⟨D2, 3, none⟩ = some (.int .i64 z) ∧ Ext w w')
      (first | exact ⟨c0, c1, c2, c3, d0, d1, d2, d3, h07.drew⟩ | (go_split_ands; exact ⟨Ext.cell hx (by assumption), Ext.cell hx (by assumption), Ext.cell hx (by assumption), Ext.cell hx (by assumption), Ext.cell hx (by assumption), Ext.cell hx (by assumption), Ext.cell hx (by assumption), Ext.cell hx (by assumption), Ext.trans (by assumption) hx⟩))
      (first | (go_at_call 6; go_split_ands; refine (HI2.out _).mono ?_; rintro e w' ⟨rfl, hx⟩) | (go_at_call 8; go_split_ands; (first | (with_reducible refine (HV.out _).mono ?_; rintro e w' ⟨rfl, hx⟩) | (refine (HV2.out _).mono ?_; rintro e w' ⟨rfl, hx⟩))) | (go_at_call 11; go_split_ands; (first | (with_reducible refine (HQ.out _).mono ?_; rintro e w' ⟨Bg, cg, rfl, fBg, hx⟩) | (refine (HQ2.out _).mono ?_; rintro e w' ⟨Bh, ch, rfl, fBh, hx⟩))) | (go_at_call 10; go_split_ands; refine (sameInts_any Bh Bg ar ar ch cg Q Q _ (by first | exact fBh.rd | exact (fBh.ext hx).rd) (by first | exact fBg.rd | exact (fBg.ext hx).rd) hQl.out hQl.out (by omega) (by omega)).mono ?_; rintro e w' ⟨rfl, hx⟩) | (go_at_call 12; go_split_ands; refine (HA.out _).mono ?_; rintro e w' ⟨rfl, rfl⟩) | (go_at_call 13; go_split_ands; (first | (with_reducible refine (HF.out _).mono ?_; rintro e w' ⟨rfl, hx⟩) | (refine (HF2.out _).mono ?_; rintro e w' ⟨rfl, hx⟩))))
    go_split_ands
    go_wp2
    go_ret
    exact ⟨rfl, by assumption⟩
end Go.Proofs.Ytmalnnddpoefmaa
