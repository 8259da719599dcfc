/-
  Contracts of the gate movers and of RelabelCircuit. Conditions: the slices read as rows.
-/
import Derived.Test.YtilkbccpcbelgaaInv
import Derived.RegionTactic
set_option linter.unusedSimpArgs false
set_option linter.unusedVariables false
namespace Go.Proofs.Ytilkbccpcbelgaa
open Go.RowKit
/-- A gate with its qubits moved by p. -/
def mvA (p : List Int) (a : Int) : Int := p.getD a.toNat 0
def mvB (p : List Int) (k b : Int) : Int := if 1 < arity k then p.getD b.toNat 0 else 0
def mvC (p : List Int) (k c : Int) : Int := if 2 < arity k then p.getD c.toNat 0 else 0
theorem validG_parts {k a b c N : Int} (h : validG k a b c N = true) : (1 ≤ N ∧ N ≤ 4) ∧ arity k ≠ 0 ∧ okQ (arity k).toNat [a, b, c] (N - 1) 0 ∧ okQ (arity k).toNat [a, b, c] (N - 1) 1 ∧ okQ (arity k).toNat [a, b, c] (N - 1) 2 := by
  simpa [validG] using h
set_option maxHeartbeats 800000 in
theorem impl_moved1 (k b c : Int) (a n cA : Nat) (A : Option Addr) (p : List Int) (w : World) (hA : Rd w A (ints p)) (hl : p.length = n) (ha : a < n) (har : arity k = 1) :
    Calls Try.prog 67 #[.agg #[.int .i64 k, .int .i64 a, .int .i64 b, .int .i64 c], .slice A n cA] w fun e w' => e = .returned (.agg #[.int .i64 k, .int .i64 (p.getD a 0), .int .i64 0, .int .i64 0]) ∧ Ext w w' := by
  obtain ⟨g, off, rfl, hc⟩ := hA.int (by omega)
  have ca := hc a (by omega)
  generalize p.getD a 0 = pa at *
  have hgz := lt_of_cell ca
  simp only at hgz
  have aI : (a : Int) < (n : Int) := by omega
  have ca1 := fun o => (((Ext.refl w).alloc o).cell ca)
  have ca2 := fun o o' => ((((Ext.refl w).alloc o).alloc o').cell ca)
  have ca3 := fun o o' o'' => (((((Ext.refl w).alloc o).alloc o').alloc o'').cell ca)
  clear hc hA hl
  have hca := fun W => impl_arity k W
  rw [har] at hca
  have HCA := Lib.hid hca
  clear hca
  go_enter Try.func67, Try.ntmps67
  go_wp2_with (go_at_call 76; refine (HCA.out _).mono ?_; rintro e w2 ⟨rfl, rfl⟩)
  go_region
  go_wp2_with (go_at_call 76; refine (HCA.out _).mono ?_; rintro e w2 ⟨rfl, rfl⟩)
  exact bodyPost_ret (v := .agg #[.int .i64 k, .int .i64 pa, .int .i64 0, .int .i64 0]) (by simp [results, Try.results67, go_sem]) rfl ⟨rfl, (by repeat (first | exact Ext.refl _ | assumption | refine Ext.alloc ?_ _ | refine Ext.drew ?_ | refine Ext.drewN ?_ _ | refine Ext.trans ?_ (by assumption)))⟩
set_option maxHeartbeats 800000 in
theorem impl_moved2 (k c : Int) (a b n cA : Nat) (A : Option Addr) (p : List Int) (w : World) (hA : Rd w A (ints p)) (hl : p.length = n) (ha : a < n) (hb : b < n) (har : arity k = 2) :
    Calls Try.prog 67 #[.agg #[.int .i64 k, .int .i64 a, .int .i64 b, .int .i64 c], .slice A n cA] w fun e w' => e = .returned (.agg #[.int .i64 k, .int .i64 (p.getD a 0), .int .i64 (p.getD b 0), .int .i64 0]) ∧ Ext w w' := by
  obtain ⟨g, off, rfl, hc⟩ := hA.int (by omega)
  have ca := hc a (by omega)
  have cb := hc b (by omega)
  generalize p.getD a 0 = pa at *
  generalize p.getD b 0 = pb at *
  have hgz := lt_of_cell ca
  simp only at hgz
  have aI : (a : Int) < (n : Int) := by omega
  have bI : (b : Int) < (n : Int) := by omega
  have ca1 := fun o => (((Ext.refl w).alloc o).cell ca)
  have ca2 := fun o o' => ((((Ext.refl w).alloc o).alloc o').cell ca)
  have ca3 := fun o o' o'' => (((((Ext.refl w).alloc o).alloc o').alloc o'').cell ca)
  have cb3 := fun o o' o'' => (((((Ext.refl w).alloc o).alloc o').alloc o'').cell cb)
  clear hc hA hl
  have hca := fun W => impl_arity k W
  rw [har] at hca
  have HCA := Lib.hid hca
  clear hca
  go_enter Try.func67, Try.ntmps67
  go_wp2_with (go_at_call 76; refine (HCA.out _).mono ?_; rintro e w2 ⟨rfl, rfl⟩)
  go_region
  go_wp2_with (go_at_call 76; refine (HCA.out _).mono ?_; rintro e w2 ⟨rfl, rfl⟩)
  exact bodyPost_ret (v := .agg #[.int .i64 k, .int .i64 pa, .int .i64 pb, .int .i64 0]) (by simp [results, Try.results67, go_sem]) rfl ⟨rfl, (by repeat (first | exact Ext.refl _ | assumption | refine Ext.alloc ?_ _ | refine Ext.drew ?_ | refine Ext.drewN ?_ _ | refine Ext.trans ?_ (by assumption)))⟩
set_option maxHeartbeats 800000 in
theorem impl_moved3 (k : Int) (a b c n cA : Nat) (A : Option Addr) (p : List Int) (w : World) (hA : Rd w A (ints p)) (hl : p.length = n) (ha : a < n) (hb : b < n) (hc : c < n) (har : arity k = 3) :
    Calls Try.prog 67 #[.agg #[.int .i64 k, .int .i64 a, .int .i64 b, .int .i64 c], .slice A n cA] w fun e w' => e = .returned (.agg #[.int .i64 k, .int .i64 (p.getD a 0), .int .i64 (p.getD b 0), .int .i64 (p.getD c 0)]) ∧ Ext w w' := by
  obtain ⟨g, off, rfl, hcc⟩ := hA.int (by omega)
  have ca := hcc a (by omega)
  have cb := hcc b (by omega)
  have cc := hcc c (by omega)
  generalize p.getD a 0 = pa at *
  generalize p.getD b 0 = pb at *
  generalize p.getD c 0 = pc at *
  have hgz := lt_of_cell ca
  simp only at hgz
  have aI : (a : Int) < (n : Int) := by omega
  have bI : (b : Int) < (n : Int) := by omega
  have cI : (c : Int) < (n : Int) := by omega
  have ca1 := fun o => (((Ext.refl w).alloc o).cell ca)
  have ca2 := fun o o' => ((((Ext.refl w).alloc o).alloc o').cell ca)
  have ca3 := fun o o' o'' => (((((Ext.refl w).alloc o).alloc o').alloc o'').cell ca)
  have cb3 := fun o o' o'' => (((((Ext.refl w).alloc o).alloc o').alloc o'').cell cb)
  have cc3 := fun o o' o'' => (((((Ext.refl w).alloc o).alloc o').alloc o'').cell cc)
  clear hcc hA hl
  have hca := fun W => impl_arity k W
  rw [har] at hca
  have HCA := Lib.hid hca
  clear hca
  go_enter Try.func67, Try.ntmps67
  go_wp2_with (go_at_call 76; refine (HCA.out _).mono ?_; rintro e w2 ⟨rfl, rfl⟩)
  go_region
  go_wp2_with (go_at_call 76; refine (HCA.out _).mono ?_; rintro e w2 ⟨rfl, rfl⟩)
  exact bodyPost_ret (v := .agg #[.int .i64 k, .int .i64 pa, .int .i64 pb, .int .i64 pc]) (by simp [results, Try.results67, go_sem]) rfl ⟨rfl, (by repeat (first | exact Ext.refl _ | assumption | refine Ext.alloc ?_ _ | refine Ext.drew ?_ | refine Ext.drewN ?_ _ | refine Ext.trans ?_ (by assumption)))⟩
theorem impl_movedG (k a b c : Int) (n cA : Nat) (A : Option Addr) (p : List Int) (w : World) (hA : Rd w A (ints p)) (hl : p.length = n) (hv : validG k a b c n = true) :
    Calls Try.prog 67 #[.agg #[.int .i64 k, .int .i64 a, .int .i64 b, .int .i64 c], .slice A n cA] w fun e w' => e = .returned (.agg #[.int .i64 k, .int .i64 (mvA p a), .int .i64 (mvB p k b), .int .i64 (mvC p k c)]) ∧ Ext w w' := by
  obtain ⟨hN, h0, q0, q1, q2⟩ := validG_parts hv
  have hbd := arity_bd k
  unfold mvA mvB mvC
  obtain har | har | har : arity k = 1 ∨ arity k = 2 ∨ arity k = 3 := by omega
  · rw [har] at q0 q1 q2 ⊢
    simp [okQ] at q0 q1 q2
    obtain ⟨a', rfl⟩ := Int.eq_ofNat_of_zero_le q0.1
    simpa using impl_moved1 k b c a' n cA A p w hA hl (by omega) har
  · rw [har] at q0 q1 q2 ⊢
    simp [okQ] at q0 q1 q2
    obtain ⟨a', rfl⟩ := Int.eq_ofNat_of_zero_le q0.1
    obtain ⟨b', rfl⟩ := Int.eq_ofNat_of_zero_le q1.1.1
    simpa using impl_moved2 k c a' b' n cA A p w hA hl (by omega) (by omega) har
  · rw [har] at q0 q1 q2 ⊢
    simp [okQ] at q0 q1 q2
    obtain ⟨a', rfl⟩ := Int.eq_ofNat_of_zero_le q0.1
    obtain ⟨b', rfl⟩ := Int.eq_ofNat_of_zero_le q1.1.1
    obtain ⟨c', rfl⟩ := Int.eq_ofNat_of_zero_le q2.1.1
    simpa using impl_moved3 k a' b' c' n cA A p w hA hl (by omega) (by omega) (by omega) har
set_option maxHeartbeats 800000 in
theorem spec_moved1 (k b c : Int) (a n cA : Nat) (A : Option Addr) (p : List Int) (w : World) (hA : Rd w A (ints p)) (hl : p.length = n) (ha : a < n) (har : arity k = 1) :
    Calls Try.prog 65 #[.agg #[.int .i64 k, .int .i64 a, .int .i64 b, .int .i64 c], .slice A n cA] w fun e w' => e = .returned (.agg #[.int .i64 k, .int .i64 (p.getD a 0), .int .i64 0, .int .i64 0]) ∧ Ext w w' := by
  obtain ⟨g, off, rfl, hc⟩ := hA.int (by omega)
  have ca := hc a (by omega)
  generalize p.getD a 0 = pa at *
  have hgz := lt_of_cell ca
  simp only at hgz
  have aI : (a : Int) < (n : Int) := by omega
  have ca1 := fun o => (((Ext.refl w).alloc o).cell ca)
  have ca2 := fun o o' => ((((Ext.refl w).alloc o).alloc o').cell ca)
  have ca3 := fun o o' o'' => (((((Ext.refl w).alloc o).alloc o').alloc o'').cell ca)
  clear hc hA hl
  have hca := fun W => spec_arity k W
  rw [har] at hca
  have HCA := Lib.hid hca
  clear hca
  go_enter Try.func65, Try.ntmps65
  go_wp2_with (go_at_call 97; refine (HCA.out _).mono ?_; rintro e w2 ⟨rfl, rfl⟩)
  go_region
  go_wp2_with (go_at_call 97; refine (HCA.out _).mono ?_; rintro e w2 ⟨rfl, rfl⟩)
  exact bodyPost_ret (v := .agg #[.int .i64 k, .int .i64 pa, .int .i64 0, .int .i64 0]) (by simp [results, Try.results65, go_sem]) rfl ⟨rfl, (by repeat (first | exact Ext.refl _ | assumption | refine Ext.alloc ?_ _ | refine Ext.drew ?_ | refine Ext.drewN ?_ _ | refine Ext.trans ?_ (by assumption)))⟩
set_option maxHeartbeats 800000 in
theorem spec_moved2 (k c : Int) (a b n cA : Nat) (A : Option Addr) (p : List Int) (w : World) (hA : Rd w A (ints p)) (hl : p.length = n) (ha : a < n) (hb : b < n) (har : arity k = 2) :
    Calls Try.prog 65 #[.agg #[.int .i64 k, .int .i64 a, .int .i64 b, .int .i64 c], .slice A n cA] w fun e w' => e = .returned (.agg #[.int .i64 k, .int .i64 (p.getD a 0), .int .i64 (p.getD b 0), .int .i64 0]) ∧ Ext w w' := by
  obtain ⟨g, off, rfl, hc⟩ := hA.int (by omega)
  have ca := hc a (by omega)
  have cb := hc b (by omega)
  generalize p.getD a 0 = pa at *
  generalize p.getD b 0 = pb at *
  have hgz := lt_of_cell ca
  simp only at hgz
  have aI : (a : Int) < (n : Int) := by omega
  have bI : (b : Int) < (n : Int) := by omega
  have ca1 := fun o => (((Ext.refl w).alloc o).cell ca)
  have ca2 := fun o o' => ((((Ext.refl w).alloc o).alloc o').cell ca)
  have ca3 := fun o o' o'' => (((((Ext.refl w).alloc o).alloc o').alloc o'').cell ca)
  have cb3 := fun o o' o'' => (((((Ext.refl w).alloc o).alloc o').alloc o'').cell cb)
  clear hc hA hl
  have hca := fun W => spec_arity k W
  rw [har] at hca
  have HCA := Lib.hid hca
  clear hca
  go_enter Try.func65, Try.ntmps65
  go_wp2_with (go_at_call 97; refine (HCA.out _).mono ?_; rintro e w2 ⟨rfl, rfl⟩)
  go_region
  go_wp2_with (go_at_call 97; refine (HCA.out _).mono ?_; rintro e w2 ⟨rfl, rfl⟩)
  exact bodyPost_ret (v := .agg #[.int .i64 k, .int .i64 pa, .int .i64 pb, .int .i64 0]) (by simp [results, Try.results65, go_sem]) rfl ⟨rfl, (by repeat (first | exact Ext.refl _ | assumption | refine Ext.alloc ?_ _ | refine Ext.drew ?_ | refine Ext.drewN ?_ _ | refine Ext.trans ?_ (by assumption)))⟩
set_option maxHeartbeats 800000 in
theorem spec_moved3 (k : Int) (a b c n cA : Nat) (A : Option Addr) (p : List Int) (w : World) (hA : Rd w A (ints p)) (hl : p.length = n) (ha : a < n) (hb : b < n) (hc : c < n) (har : arity k = 3) :
    Calls Try.prog 65 #[.agg #[.int .i64 k, .int .i64 a, .int .i64 b, .int .i64 c], .slice A n cA] w fun e w' => e = .returned (.agg #[.int .i64 k, .int .i64 (p.getD a 0), .int .i64 (p.getD b 0), .int .i64 (p.getD c 0)]) ∧ Ext w w' := by
  obtain ⟨g, off, rfl, hcc⟩ := hA.int (by omega)
  have ca := hcc a (by omega)
  have cb := hcc b (by omega)
  have cc := hcc c (by omega)
  generalize p.getD a 0 = pa at *
  generalize p.getD b 0 = pb at *
  generalize p.getD c 0 = pc at *
  have hgz := lt_of_cell ca
  simp only at hgz
  have aI : (a : Int) < (n : Int) := by omega
  have bI : (b : Int) < (n : Int) := by omega
  have cI : (c : Int) < (n : Int) := by omega
  have ca1 := fun o => (((Ext.refl w).alloc o).cell ca)
  have ca2 := fun o o' => ((((Ext.refl w).alloc o).alloc o').cell ca)
  have ca3 := fun o o' o'' => (((((Ext.refl w).alloc o).alloc o').alloc o'').cell ca)
  have cb3 := fun o o' o'' => (((((Ext.refl w).alloc o).alloc o').alloc o'').cell cb)
  have cc3 := fun o o' o'' => (((((Ext.refl w).alloc o).alloc o').alloc o'').cell cc)
  clear hcc hA hl
  have hca := fun W => spec_arity k W
  rw [har] at hca
  have HCA := Lib.hid hca
  clear hca
  go_enter Try.func65, Try.ntmps65
  go_wp2_with (go_at_call 97; refine (HCA.out _).mono ?_; rintro e w2 ⟨rfl, rfl⟩)
  go_region
  go_wp2_with (go_at_call 97; refine (HCA.out _).mono ?_; rintro e w2 ⟨rfl, rfl⟩)
  exact bodyPost_ret (v := .agg #[.int .i64 k, .int .i64 pa, .int .i64 pb, .int .i64 pc]) (by simp [results, Try.results65, go_sem]) rfl ⟨rfl, (by repeat (first | exact Ext.refl _ | assumption | refine Ext.alloc ?_ _ | refine Ext.drew ?_ | refine Ext.drewN ?_ _ | refine Ext.trans ?_ (by assumption)))⟩
theorem spec_movedG (k a b c : Int) (n cA : Nat) (A : Option Addr) (p : List Int) (w : World) (hA : Rd w A (ints p)) (hl : p.length = n) (hv : validG k a b c n = true) :
    Calls Try.prog 65 #[.agg #[.int .i64 k, .int .i64 a, .int .i64 b, .int .i64 c], .slice A n cA] w fun e w' => e = .returned (.agg #[.int .i64 k, .int .i64 (mvA p a), .int .i64 (mvB p k b), .int .i64 (mvC p k c)]) ∧ Ext w w' := by
  obtain ⟨hN, h0, q0, q1, q2⟩ := validG_parts hv
  have hbd := arity_bd k
  unfold mvA mvB mvC
  obtain har | har | har : arity k = 1 ∨ arity k = 2 ∨ arity k = 3 := by omega
  · rw [har] at q0 q1 q2 ⊢
    simp [okQ] at q0 q1 q2
    obtain ⟨a', rfl⟩ := Int.eq_ofNat_of_zero_le q0.1
    simpa using spec_moved1 k b c a' n cA A p w hA hl (by omega) har
  · rw [har] at q0 q1 q2 ⊢
    simp [okQ] at q0 q1 q2
    obtain ⟨a', rfl⟩ := Int.eq_ofNat_of_zero_le q0.1
    obtain ⟨b', rfl⟩ := Int.eq_ofNat_of_zero_le q1.1.1
    simpa using spec_moved2 k c a' b' n cA A p w hA hl (by omega) (by omega) har
  · rw [har] at q0 q1 q2 ⊢
    simp [okQ] at q0 q1 q2
    obtain ⟨a', rfl⟩ := Int.eq_ofNat_of_zero_le q0.1
    obtain ⟨b', rfl⟩ := Int.eq_ofNat_of_zero_le q1.1.1
    obtain ⟨c', rfl⟩ := Int.eq_ofNat_of_zero_le q2.1.1
    simpa using spec_moved3 k a' b' c' n cA A p w hA hl (by omega) (by omega) (by omega) har
end Go.Proofs.Ytilkbccpcbelgaa
