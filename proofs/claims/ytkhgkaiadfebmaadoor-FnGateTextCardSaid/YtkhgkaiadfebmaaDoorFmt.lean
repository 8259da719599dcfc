/-
  Contracts of FormatInt at small numbers and of FormatGate. Conditions: a number from 0 to 4; the variable gateNames reads as the thirteen names.
-/
import Derived.Test.YtkhgkaiadfebmaaDoorName
import Derived.Test.YtkhgkaiadfebmaaDoorValid2
import Derived.Laws.BytesArg
set_option linter.unusedSimpArgs false
set_option linter.unusedVariables false
namespace Go.Proofs.YtkhgkaiadfebmaaDoor
open Go.RowKit
def digs : List ByteArray := [⟨#[48]⟩, ⟨#[49]⟩, ⟨#[50]⟩, ⟨#[51]⟩, ⟨#[52]⟩]
def dg (q : Int) : ByteArray := digs.getD q.toNat ⟨#[]⟩
theorem dg_size (q : Int) : (dg q).size ≤ 1 := by
  unfold dg
  rcases Nat.lt_or_ge q.toNat 5 with h | h
  · obtain h | h | h | h | h : q.toNat = 0 ∨ q.toNat = 1 ∨ q.toNat = 2 ∨ q.toNat = 3 ∨ q.toNat = 4 := by omega
    all_goals (rw [h]; exact Nat.le_refl 1)
  · rw [List.getD_eq_getElem?_getD, List.getElem?_eq_none (by simpa [digs] using h)]; exact Nat.zero_le _
theorem app_nil (q : ByteArray) : q ++ (⟨#[]⟩ : ByteArray) = q := by apply ByteArray.ext; simp
theorem smallN (i : Nat) (hi : i ≤ 4) (w : World) : Calls Tryd.prog 90 #[.int .i64 i] w fun e w' => e = .returned (.string (dg i)) ∧ w = w' := by
  obtain rfl | rfl | rfl | rfl | rfl : i = 0 ∨ i = 1 ∨ i = 2 ∨ i = 3 ∨ i = 4 := by omega
  all_goals
    go_enter Tryd.func90, Tryd.ntmps90
    go_wp2
    go_ret
    exact ⟨rfl, rfl⟩
theorem fmtIntN (i : Nat) (hi : i ≤ 4) (w : World) : Calls Tryd.prog 79 #[.int .i64 i, .int .i64 10] w fun e w' => e = .returned (.string (dg i)) ∧ w = w' := by
  have h1 : (i : Int) < 100 := by omega
  go_enter Tryd.func79, Tryd.ntmps79
  go_wp2_with fail
  refine (smallN i hi _).mono ?_
  rintro e w1 ⟨rfl, rfl⟩
  go_wp2
  go_ret
  exact ⟨rfl, rfl⟩
theorem itoaI (i : Nat) (hi : i ≤ 4) (w : World) : Calls Tryd.prog 72 #[.int .i64 i] w fun e w' => e = .returned (.string (dg i)) ∧ w = w' := by
  go_enter Tryd.func72, Tryd.ntmps72
  go_wp2_with fail
  refine (fmtIntN i hi _).mono ?_
  rintro e w1 ⟨rfl, rfl⟩
  go_wp2
  go_ret
  exact ⟨rfl, rfl⟩
theorem itoaN (i : Nat) (hi : i ≤ 4) (w : World) : Calls Tryd.prog 61 #[.int .i64 i] w fun e w' => e = .returned (.string (dg i)) ∧ w = w' := by
  go_enter Tryd.func61, Tryd.ntmps61
  go_wp2_with fail
  refine (itoaI i hi _).mono ?_
  rintro e w1 ⟨rfl, rfl⟩
  go_wp2
  go_ret
  exact ⟨rfl, rfl⟩
theorem impl_fmtInt (i : Nat) (hi : i ≤ 4) (w : World) : Calls Tryd.prog 42 #[.int .i64 i] w fun e w' => e = .returned (.string (dg i)) ∧ Ext w w' := by
  go_enter Tryd.func42, Tryd.ntmps42
  go_wp2_with fail
  refine (itoaN i hi _).mono ?_
  rintro e w1 ⟨rfl, rfl⟩
  go_wp2
  go_ret
  exact ⟨rfl, (by repeat (first | exact Ext.refl _ | assumption | refine Ext.alloc ?_ _ | refine Ext.drew ?_ | refine Ext.drewN ?_ _ | refine Ext.trans ?_ (by assumption)))⟩
set_option maxRecDepth 20000 in
set_option maxHeartbeats 800000 in
theorem spec_fmtInt1 (i : Int) (h : i = 1 ∨ i = 2 ∨ i = 3 ∨ i = 4) (w : World) : Calls Tryd.prog 49 #[.int .i64 i] w fun e w' => e = .returned (.string (dg i)) ∧ Ext w w' := by
  have HD : Hid (dg i = strOfNums [48 + i]) := by
    show _ = _
    obtain rfl | rfl | rfl | rfl := h <;> decide
  have hn1 : (strOfNums [48 + i]).size = 1 := by simp [strOfNums, ByteArray.size]
  have HN1 := Lib.hid hn1
  clear hn1
  have hi0 : (i == 0) = false := by simp; omega
  have hi1 : ¬ (i < 0) := by omega
  have hi2 : 0 ≤ i := by omega
  have hi4 : 1 ≤ i := by omega
  have hi3 : i ≤ 4 := by omega
  have him : i % 10 = i := by omega
  have hid : i / 10 = 0 := by omega
  have hin : (i != 0) = true := by simp; omega
  have HH := Lib.hid h
  clear h
  go_enter Tryd.func49, Tryd.ntmps49
  go_wp2
  go_loopw [0, 4, 5] (fun v s _ wr => ((v = .int .i64 i ∧ s = .string ⟨#[]⟩) ∨ (v = .int .i64 0 ∧ s = .string (dg i))) ∧ Ext w wr) (fun v _ _ _ => (intOf v).toNat)
  case atStart => exact ⟨.inl ⟨rfl, rfl⟩, (by repeat (first | exact Ext.refl _ | assumption | refine Ext.alloc ?_ _ | refine Ext.drew ?_ | refine Ext.drewN ?_ _ | refine Ext.trans ?_ (by assumption)))⟩
  case round =>
    obtain ⟨⟨rfl, rfl⟩ | ⟨rfl, rfl⟩, he⟩ := hrel
    · have hcell : ∀ j, j < 1 → (wr.alloc (.cells #[.int .u8 (48 + i)] 5)).cell? ⟨wr.heap.size, 0 + j, none⟩ = some (.int .u8 ([48 + i].getD j 0)) := by
        intro j hj
        obtain rfl : j = 0 := by omega
        exact cell_of_row _ _ _ _ _ _ (heap_alloc_new wr _)
      have hconv := run_convert_bytes_arg (P := Tryd.prog) (wr.alloc (.cells #[.int .u8 (48 + i)] 5)) 35 5 Tryd.underlying35 Tryd.underlying5 wr.heap.size 0 1 1 [48 + i] rfl hcell 9 Tryd.underlying9
      clear hcell
      have hn1 := HN1.out
      generalize strOfNums [48 + i] = q at *
      go_wp2
      go_roundw
      case rel => exact ⟨.inr ⟨by simp [hid], by rw [HD.out, app_nil]⟩, (by repeat (first | exact Ext.refl _ | assumption | refine Ext.alloc ?_ _ | refine Ext.drew ?_ | refine Ext.drewN ?_ _ | refine Ext.trans ?_ (by assumption)))⟩
      case measure => simp [intOf]; omega
    · go_wp2
      go_ret
      exact ⟨rfl, he⟩
theorem spec_fmtInt (i : Nat) (hi : i ≤ 4) (w : World) : Calls Tryd.prog 49 #[.int .i64 i] w fun e w' => e = .returned (.string (dg i)) ∧ Ext w w' := by
  obtain rfl | h : i = 0 ∨ (i = 1 ∨ i = 2 ∨ i = 3 ∨ i = 4) := by omega
  · go_enter Tryd.func49, Tryd.ntmps49
    go_wp2
    go_ret
    exact ⟨rfl, (by repeat (first | exact Ext.refl _ | assumption | refine Ext.alloc ?_ _ | refine Ext.drew ?_ | refine Ext.drewN ?_ _ | refine Ext.trans ?_ (by assumption)))⟩
  · exact spec_fmtInt1 i (by omega) w
theorem valid_bd {k a b c n : Int} (h : validG k a b c n = true) : arity k ≠ 0 ∧ ∀ j, j < (arity k).toNat → 0 ≤ (qubits k a b c).getD j 0 ∧ (qubits k a b c).getD j 0 ≤ n - 1 := by
  unfold validG at h
  rw [decide_eq_true_eq] at h
  obtain ⟨_, h1, q0, q1, q2⟩ := h
  refine ⟨h1, fun j hj => ?_⟩
  have hb := arity_bd k
  have hg : (qubits k a b c).getD j 0 = [a, b, c].getD j 0 := by
    unfold qubits
    rw [List.getD_eq_getElem?_getD, List.getElem?_take, if_pos hj, ← List.getD_eq_getElem?_getD]
  rw [hg]
  obtain rfl | rfl | rfl : j = 0 ∨ j = 1 ∨ j = 2 := by omega
  · unfold okQ at q0; rw [if_pos hj] at q0; exact q0.1
  · unfold okQ at q1; rw [if_pos hj] at q1; exact q1.1
  · unfold okQ at q2; rw [if_pos hj] at q2; exact q2.1
theorem gateNameS_size (k : Int) : (gateNameS k).size ≤ 4 := by
  unfold gateNameS
  split
  · rename_i h
    obtain h | h | h | h | h | h | h | h | h | h | h | h : k = 1 ∨ k = 2 ∨ k = 3 ∨ k = 4 ∨ k = 5 ∨ k = 6 ∨ k = 7 ∨ k = 8 ∨ k = 9 ∨ k = 10 ∨ k = 11 ∨ k = 12 := by omega
    all_goals (subst h; decide)
  · exact Nat.zero_le _
/-- s and then each of the first j numbers behind a space. -/
def fq (s : ByteArray) (l : List Int) : Nat → ByteArray
  | 0 => s
  | j + 1 => (fq s l j ++ ⟨#[32]⟩) ++ dg (l.getD j 0)
theorem fq_size (s : ByteArray) (l : List Int) : ∀ j, (fq s l j).size ≤ s.size + 2 * j
  | 0 => Nat.le_refl _
  | j + 1 => by
    have h1 := fq_size s l j
    have h2 := dg_size (l.getD j 0)
    have h3 : (ByteArray.mk #[32]).size = 1 := rfl
    rw [fq, ByteArray.size_append, ByteArray.size_append, h3]
    omega
def fmtG (k a b c : Int) : ByteArray := if validG k a b c 4 = true then fq (gateNameS k) (qubits k a b c) (arity k).toNat else ⟨#[]⟩
theorem fmtG_size (k a b c : Int) : (fmtG k a b c).size ≤ 10 := by
  unfold fmtG
  split
  · have h1 := fq_size (gateNameS k) (qubits k a b c) (arity k).toNat
    have h2 := gateNameS_size k
    have h3 := arity_bd k
    omega
  · exact Nat.zero_le _
set_option maxHeartbeats 800000 in
theorem impl_fmtGate (k a b c : Int) (w : World) (hN : Names w) : Calls Tryd.prog 17 #[.agg #[.int .i64 k, .int .i64 a, .int .i64 b, .int .i64 c]] w fun e w' => e = .returned (.string (fmtG k a b c)) ∧ Ext w w' := by
  cases hv : validG k a b c 4 with
  | false =>
    have hcall := fun W => impl_validGate k a b c 4 W
    rw [hv] at hcall
    have HC := Lib.hid hcall
    have HF : Hid (fmtG k a b c = ⟨#[]⟩) := by show _ = _; unfold fmtG; rw [hv]; rfl
    clear hcall hv
    go_enter Tryd.func17, Tryd.ntmps17
    go_wp2_with fail
    refine (HC.out _).mono ?_
    rintro e w1 ⟨rfl, h1⟩
    go_wp2
    go_ret
    exact ⟨ret_strN HF.out.symm, (by repeat (first | exact Ext.refl _ | assumption | refine Ext.alloc ?_ _ | refine Ext.drew ?_ | refine Ext.drewN ?_ _ | refine Ext.trans ?_ (by assumption)))⟩
  | true =>
    have hcall := fun W => impl_validGate k a b c 4 W
    rw [hv] at hcall
    have HC := Lib.hid hcall
    have HF : Hid (fmtG k a b c = fq (gateNameS k) (qubits k a b c) (arity k).toNat) := by show _ = _; unfold fmtG; rw [hv]; rfl
    have HQ := Lib.hid (valid_bd hv).2
    have hb := arity_bd k
    obtain ⟨r, hr⟩ : ∃ r : Nat, r = (arity k).toNat := ⟨_, rfl⟩
    have HR := Lib.hid hr
    have hr3 : r ≤ 3 := by omega
    have hql := qubits_length k a b c
    rw [← hr] at HF HQ hql
    have hGQ := fun W => impl_gateQubits k a b c W
    simp only [← hr] at hGQ
    have HGQ := Lib.hid hGQ
    have HQL := Lib.hid hql
    have HNS := Lib.hid (gateNameS_size k)
    have HGN := Lib.hid (fun W (h : Names W) => impl_gateName_ext k W h)
    generalize gateNameS k = nm at *
    generalize qubits k a b c = ql at *
    clear hcall hv hr hGQ hql hb
    go_enter Tryd.func17, Tryd.ntmps17
    go_wp2_with fail
    refine (HC.out _).mono ?_
    rintro e w1 ⟨rfl, h1⟩
    have x := (Blk.new w 23 #[.int .i64 k, .int .i64 a, .int .i64 b, .int .i64 c]).ext h1
    obtain ⟨xc, xf, xz⟩ := x.all
    have h01 : Ext w w1 := Ext.trans (by repeat (first | exact Ext.refl _ | assumption | refine Ext.alloc ?_ _ | refine Ext.drew ?_ | refine Ext.drewN ?_ _ | refine Ext.trans ?_ (by assumption))) h1
    go_wp2_with fail
    refine (HGN.out _ (hN.ext h01)).mono ?_
    rintro e w2 ⟨rfl, h2⟩
    clear xc xf xz
    replace x := Blk.to x h2 (Ext.refl _)
    obtain ⟨xc, xf, xz⟩ := x.all
    have h02 := h01.trans h2
    clear h1 h2 h01
    go_wp2_with fail
    refine (HGQ.out _).mono ?_
    rintro e w3 ⟨B, cB, rfl, fB, h3⟩
    have h03 := h02.trans h3
    clear xc xf xz x h02
    go_wp2
    go_loopw [3, 5, 15] (fun s _ i wr => ∃ j : Nat, j ≤ r ∧ i = .int .i64 j ∧ s = .string (fq nm ql j) ∧ Ext w3 wr) (fun _ _ i _ => r - (intOf i).toNat)
    case atStart => exact ⟨0, Nat.zero_le _, rfl, rfl, (by repeat (first | exact Ext.refl _ | assumption | refine Ext.alloc ?_ _ | refine Ext.drew ?_ | refine Ext.drewN ?_ _ | refine Ext.trans ?_ (by assumption)))⟩
    case round =>
      obtain ⟨j, hj, rfl, rfl, he⟩ := hrel
      by_cases hlt : j < r
      · obtain ⟨g, off, rfl, hc⟩ := (fB.ext he).rd.int (by have := HQL.out; omega)
        have c1 := hc j (by have := HQL.out; omega)
        have hq := HQ.out j hlt
        have HST : Hid (fq nm ql (j + 1) = (fq nm ql j ++ ⟨#[32]⟩) ++ dg (ql.getD j 0)) := rfl
        have hfz := fq_size nm ql j
        have hnz := HNS.out
        obtain ⟨q, hqe⟩ : ∃ q : Nat, (q : Int) = ql.getD j 0 := ⟨(ql.getD j 0).toNat, by omega⟩
        rw [← hqe] at c1 HST hq
        have hq4 : q ≤ 4 := by omega
        have hdz := dg_size (q : Int)
        have hs1 : (fq nm ql j).size ≤ 20 := by omega
        generalize fq nm ql j = f at *
        have hrI : (j : Int) < (r : Int) := by omega
        clear hc hqe hq hfz hnz
        go_wp2_with fail
        refine (impl_fmtInt q hq4 _).mono ?_
        rintro e w4 ⟨rfl, h4⟩
        have h04 := he.trans h4
        generalize dg (q : Int) = t at *
        go_wp2
        go_roundw
        case rel => exact ⟨j + 1, by omega, by go_num, by rw [HST.out], h04⟩
        case measure => simp [intOf]; omega
      · obtain rfl : j = r := by omega
        go_wp2
        go_ret
        exact ⟨ret_strN HF.out.symm, h03.trans he⟩
set_option maxHeartbeats 800000 in
theorem spec_fmtGate (k a b c : Int) (w : World) (hN : Names w) : Calls Tryd.prog 19 #[.agg #[.int .i64 k, .int .i64 a, .int .i64 b, .int .i64 c]] w fun e w' => e = .returned (.string (fmtG k a b c)) ∧ Ext w w' := by
  cases hv : validG k a b c 4 with
  | false =>
    have hcall := fun W => spec_validGate k a b c 4 W
    rw [hv] at hcall
    have HC := Lib.hid hcall
    have HF : Hid (fmtG k a b c = ⟨#[]⟩) := by show _ = _; unfold fmtG; rw [hv]; rfl
    clear hcall hv
    go_enter Tryd.func19, Tryd.ntmps19
    go_wp2_with fail
    refine (HC.out _).mono ?_
    rintro e w1 ⟨rfl, h1⟩
    go_wp2
    go_ret
    exact ⟨ret_strN HF.out.symm, (by repeat (first | exact Ext.refl _ | assumption | refine Ext.alloc ?_ _ | refine Ext.drew ?_ | refine Ext.drewN ?_ _ | refine Ext.trans ?_ (by assumption)))⟩
  | true =>
    have hcall := fun W => spec_validGate k a b c 4 W
    rw [hv] at hcall
    have HC := Lib.hid hcall
    have HF : Hid (fmtG k a b c = fq (gateNameS k) (qubits k a b c) (arity k).toNat) := by show _ = _; unfold fmtG; rw [hv]; rfl
    have HQ := Lib.hid (valid_bd hv).2
    have hb := arity_bd k
    obtain ⟨r, hr⟩ : ∃ r : Nat, r = (arity k).toNat := ⟨_, rfl⟩
    have HR := Lib.hid hr
    have hr3 : r ≤ 3 := by omega
    have hql := qubits_length k a b c
    rw [← hr] at HF HQ hql
    have hGQ := fun W => spec_gateQubits k a b c W
    simp only [← hr] at hGQ
    have HGQ := Lib.hid hGQ
    have HQL := Lib.hid hql
    have HNS := Lib.hid (gateNameS_size k)
    have HGN := Lib.hid (fun W (h : Names W) => spec_gateName_ext k W h)
    generalize gateNameS k = nm at *
    generalize qubits k a b c = ql at *
    clear hcall hv hr hGQ hql hb
    go_enter Tryd.func19, Tryd.ntmps19
    go_wp2_with fail
    refine (HC.out _).mono ?_
    rintro e w1 ⟨rfl, h1⟩
    have x := (Blk.new w 23 #[.int .i64 k, .int .i64 a, .int .i64 b, .int .i64 c]).ext h1
    obtain ⟨xc, xf, xz⟩ := x.all
    have h01 : Ext w w1 := Ext.trans (by repeat (first | exact Ext.refl _ | assumption | refine Ext.alloc ?_ _ | refine Ext.drew ?_ | refine Ext.drewN ?_ _ | refine Ext.trans ?_ (by assumption))) h1
    go_wp2_with fail
    refine (HGN.out _ (hN.ext h01)).mono ?_
    rintro e w2 ⟨rfl, h2⟩
    clear xc xf xz
    replace x := Blk.to x h2 (Ext.refl _)
    obtain ⟨xc, xf, xz⟩ := x.all
    have h02 := h01.trans h2
    clear h1 h2 h01
    go_wp2_with fail
    refine (HGQ.out _).mono ?_
    rintro e w3 ⟨B, cB, rfl, fB, h3⟩
    have h03 := h02.trans h3
    clear xc xf xz x h02
    go_wp2
    go_loopw [3, 5] (fun s i wr => ∃ j : Nat, j ≤ r ∧ i = .int .i64 j ∧ s = .string (fq nm ql j) ∧ Ext w3 wr) (fun _ i _ => r - (intOf i).toNat)
    case atStart => exact ⟨0, Nat.zero_le _, rfl, rfl, (by repeat (first | exact Ext.refl _ | assumption | refine Ext.alloc ?_ _ | refine Ext.drew ?_ | refine Ext.drewN ?_ _ | refine Ext.trans ?_ (by assumption)))⟩
    case round =>
      obtain ⟨j, hj, rfl, rfl, he⟩ := hrel
      by_cases hlt : j < r
      · obtain ⟨g, off, rfl, hc⟩ := (fB.ext he).rd.int (by have := HQL.out; omega)
        have c1 := hc j (by have := HQL.out; omega)
        have hq := HQ.out j hlt
        have HST : Hid (fq nm ql (j + 1) = (fq nm ql j ++ ⟨#[32]⟩) ++ dg (ql.getD j 0)) := rfl
        have hfz := fq_size nm ql j
        have hnz := HNS.out
        obtain ⟨q, hqe⟩ : ∃ q : Nat, (q : Int) = ql.getD j 0 := ⟨(ql.getD j 0).toNat, by omega⟩
        rw [← hqe] at c1 HST hq
        have hq4 : q ≤ 4 := by omega
        have hdz := dg_size (q : Int)
        have hs1 : (fq nm ql j).size ≤ 20 := by omega
        generalize fq nm ql j = f at *
        have hrI : (j : Int) < (r : Int) := by omega
        clear hc hqe hq hfz hnz
        go_wp2_with fail
        refine (spec_fmtInt q hq4 _).mono ?_
        rintro e w4 ⟨rfl, h4⟩
        have h04 := he.trans h4
        generalize dg (q : Int) = t at *
        go_wp2
        go_roundw
        case rel => exact ⟨j + 1, by omega, by go_num, by rw [HST.out], h04⟩
        case measure => simp [intOf]; omega
      · obtain rfl : j = r := by omega
        go_wp2
        go_ret
        exact ⟨ret_strN HF.out.symm, h03.trans he⟩
end Go.Proofs.YtkhgkaiadfebmaaDoor
