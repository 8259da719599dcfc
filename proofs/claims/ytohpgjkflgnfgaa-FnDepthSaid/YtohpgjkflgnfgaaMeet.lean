/-
  Contracts of the functions that ask whether gates share a qubit. Conditions: the slices read as rows.
-/
import Derived.Test.YtohpgjkflgnfgaaCirc3
import Derived.Test.YtohpgjkflgnfgaaPerm2
set_option linter.unusedSimpArgs false
set_option linter.unusedVariables false
namespace Go.Proofs.Ytohpgjkflgnfgaa
open Go.RowKit
theorem Rd.fourAt' {w : World} {L : List Int} {g off n j : Nat} (h : Rd w (some ⟨g, off, none⟩) (ints L)) (hL : L.length = n * 4) (hj : j < n) :
    w.cell? ⟨g, off + j * 4, none⟩ = some (.int .i64 (L.getD (j * 4) 0)) ∧ w.cell? ⟨g, off + j * 4 + 1, none⟩ = some (.int .i64 (L.getD (j * 4 + 1) 0)) ∧ w.cell? ⟨g, off + j * 4 + 2, none⟩ = some (.int .i64 (L.getD (j * 4 + 2) 0)) ∧ w.cell? ⟨g, off + j * 4 + 3, none⟩ = some (.int .i64 (L.getD (j * 4 + 3) 0)) := by
  obtain ⟨g', off', e, hc⟩ := h.four hL (by omega)
  injection e with e
  injection e with e1 e2
  subst e1 e2
  exact hc j hj
def meets2 (P Q : List Int) : Bool := P.any (fun q => decide (q ∈ Q))
theorem meets2_iff (P Q : List Int) : meets2 P Q = true ↔ ∃ q, q ∈ P ∧ q ∈ Q := by simp [meets2]
theorem meets2_comm (P Q : List Int) : meets2 P Q = meets2 Q P := by
  rw [Bool.eq_iff_iff, meets2_iff, meets2_iff]
  exact ⟨fun ⟨q, a, b⟩ => ⟨q, b, a⟩, fun ⟨q, a, b⟩ => ⟨q, b, a⟩⟩
def qAt (R : List Int) (j : Nat) : List Int := qubits (R.getD (j * 4) 0) (R.getD (j * 4 + 1) 0) (R.getD (j * 4 + 2) 0) (R.getD (j * 4 + 3) 0)
/-- Does one of the first j gates of a row share a qubit with Q? -/
def anyM (R Q : List Int) : Nat → Bool
  | 0 => false
  | j + 1 => anyM R Q j || meets2 (qAt R j) Q
theorem meets2_take {P Q : List Int} {j : Nat} (h : meets2 (P.take j) Q = false) (hj : j < P.length) (hn : ¬ P.getD j 0 ∈ Q) : meets2 (P.take (j + 1)) Q = false := by
  rw [Bool.eq_false_iff] at h ⊢
  rw [Ne, meets2_iff] at h ⊢
  rw [take_getD P j hj]
  rintro ⟨q, h1, h2⟩
  rw [List.mem_append] at h1
  rcases h1 with h1 | h1
  · exact h ⟨q, h1, h2⟩
  · simp at h1
    subst h1
    exact hn h2
theorem meets2_at {P Q : List Int} {j : Nat} (hj : j < P.length) (hn : P.getD j 0 ∈ Q) : meets2 P Q = true := by
  rw [meets2_iff]
  exact ⟨_, by simp [List.getD, hj], hn⟩
set_option maxHeartbeats 800000 in
theorem spec_meets (k a b c k' a' b' c' : Int) (w : World) : Calls Try.prog 48 #[.agg #[.int .i64 k, .int .i64 a, .int .i64 b, .int .i64 c], .agg #[.int .i64 k', .int .i64 a', .int .i64 b', .int .i64 c']] w fun e w' => e = .returned (.bool (meets2 (qubits k a b c) (qubits k' a' b' c'))) ∧ Ext w w' := by
  have hb := arity_bd k
  have HQ := Lib.hid (qubits_length k a b c)
  have HC := Lib.hid (fun q W => spec_actsOn k' a' b' c' q W)
  have HG := Lib.hid (fun W => spec_gateQubits k a b c W)
  obtain ⟨n, hn⟩ : ∃ n, n = (arity k).toNat := ⟨_, rfl⟩
  obtain ⟨l, hl⟩ : ∃ l, l = qubits k a b c := ⟨_, rfl⟩
  obtain ⟨Q, hQ⟩ : ∃ Q, Q = qubits k' a' b' c' := ⟨_, rfl⟩
  rw [← hl, ← hn] at HQ HG
  rw [← hQ] at HC
  rw [← hl, ← hQ]
  have hn3 : n ≤ 3 := by omega
  clear hl hQ hn hb
  go_enter Try.func48, Try.ntmps48
  go_wp2_with fail
  refine (HG.out _).mono ?_
  rintro e w1 ⟨B, cB, rfl, hf, h1⟩
  have x := (Blk.new (w.alloc (.cells #[.int .i64 k, .int .i64 a, .int .i64 b, .int .i64 c] 55)) 55 #[.int .i64 k', .int .i64 a', .int .i64 b', .int .i64 c']).ext h1
  simp only [World.size_alloc] at x
  have h01 : Ext w w1 := Ext.trans (by repeat (first | exact Ext.refl _ | assumption | refine Ext.alloc ?_ _ | refine Ext.drew ?_ | refine Ext.drewN ?_ _ | refine Ext.trans ?_ (by assumption))) h1
  clear h1
  have hA := hf.rd
  clear hf
  go_wp2
  go_loopw [6] (fun i wr => ∃ j : Nat, j ≤ n ∧ i = .int .i64 j ∧ Hid (meets2 (l.take j) Q = false) ∧ Ext w1 wr) (fun i _ => n - (intOf i).toNat)
  case atStart => exact ⟨0, Nat.zero_le _, rfl, Lib.hid rfl, Ext.refl _⟩
  case round =>
    obtain ⟨j, hj, rfl, hno, he⟩ := hrel
    obtain ⟨bc, bf, bz⟩ := (x.ext he).all
    by_cases hlt : j < n
    · obtain ⟨g, off, rfl, hc⟩ := (hA.ext he).int (by have := HQ.out; omega)
      have c1 := hc j (by have := HQ.out; omega)
      have HJ : Hid (j < l.length) := by show _ < _; have := HQ.out; omega
      obtain ⟨y, hy⟩ : ∃ y, y = l.getD j 0 := ⟨_, rfl⟩
      rw [← hy] at c1
      have HY := Lib.hid hy
      clear hy hc
      have b0 := bc 0
      have b1 := bc 1
      have b2 := bc 2
      have b3 := bc 3
      simp only [List.getElem?_toArray, List.getElem?_cons_zero, List.getElem?_cons_succ] at b0 b1 b2 b3
      clear bc bf
      have HCy := Lib.hid (HC.out y)
      obtain ⟨d, hd⟩ : ∃ d, d = decide (y ∈ Q) := ⟨_, rfl⟩
      rw [← hd] at HCy
      have HD := Lib.hid hd
      clear hd
      cases d with
      | true =>
        go_wp2
        go_region_held3 (fun w' => w'.cell? ⟨g, off + j, none⟩ = some (.int .i64 y) ∧ w'.cell? ⟨w.heap.size + 1, 0, none⟩ = some (.int .i64 k') ∧ w'.cell? ⟨w.heap.size + 1, 1, none⟩ = some (.int .i64 a') ∧ w'.cell? ⟨w.heap.size + 1, 2, none⟩ = some (.int .i64 b') ∧ w'.cell? ⟨w.heap.size + 1, 3, none⟩ = some (.int .i64 c') ∧ Ext wr w')
          (first | exact ⟨c1, b0, b1, b2, b3, (Ext.refl wr).drew⟩ | (go_split_ands; exact ⟨Ext.cell hx (by assumption), Ext.cell hx (by assumption), Ext.cell hx (by assumption), Ext.cell hx (by assumption), Ext.cell hx (by assumption), Ext.trans (by assumption) hx⟩))
          (first | (go_at_call 60; refine (HCy.out _).mono ?_; rintro e w' ⟨rfl, hx⟩))
        go_split_ands
        go_wp2
        go_ret
        exact ⟨ret_bool (meets2_at HJ.out (by rw [← HY.out]; exact of_decide_eq_true HD.out.symm)).symm, h01.trans (he.trans (by assumption))⟩
      | false =>
        go_wp2
        go_region_held3 (fun w' => w'.cell? ⟨g, off + j, none⟩ = some (.int .i64 y) ∧ w'.cell? ⟨w.heap.size + 1, 0, none⟩ = some (.int .i64 k') ∧ w'.cell? ⟨w.heap.size + 1, 1, none⟩ = some (.int .i64 a') ∧ w'.cell? ⟨w.heap.size + 1, 2, none⟩ = some (.int .i64 b') ∧ w'.cell? ⟨w.heap.size + 1, 3, none⟩ = some (.int .i64 c') ∧ Ext wr w')
          (first | exact ⟨c1, b0, b1, b2, b3, (Ext.refl wr).drew⟩ | (go_split_ands; exact ⟨Ext.cell hx (by assumption), Ext.cell hx (by assumption), Ext.cell hx (by assumption), Ext.cell hx (by assumption), Ext.cell hx (by assumption), Ext.trans (by assumption) hx⟩))
          (first | (go_at_call 60; refine (HCy.out _).mono ?_; rintro e w' ⟨rfl, hx⟩))
        go_split_ands
        go_wp2
        go_roundw
        case rel => exact ⟨j + 1, by omega, by go_num, Lib.hid (meets2_take hno.out HJ.out (by rw [← HY.out]; exact of_decide_eq_false HD.out.symm)), he.trans (by assumption)⟩
        case measure => simp [intOf]; omega
    · obtain rfl : j = n := by omega
      go_wp2
      go_ret
      exact ⟨ret_bool (by have := hno.out; rw [List.take_of_length_le (by have := HQ.out; omega)] at this; exact this.symm), h01.trans he⟩
set_option maxHeartbeats 800000 in
theorem impl_meets (k a b c k' a' b' c' : Int) (w : World) : Calls Try.prog 34 #[.agg #[.int .i64 k, .int .i64 a, .int .i64 b, .int .i64 c], .agg #[.int .i64 k', .int .i64 a', .int .i64 b', .int .i64 c']] w fun e w' => e = .returned (.bool (meets2 (qubits k a b c) (qubits k' a' b' c'))) ∧ Ext w w' := by
  have hb := arity_bd k
  have HQ := Lib.hid (qubits_length k a b c)
  have HC := Lib.hid (fun q W => impl_actsOn k' a' b' c' q W)
  have HG := Lib.hid (fun W => impl_gateQubits k a b c W)
  obtain ⟨n, hn⟩ : ∃ n, n = (arity k).toNat := ⟨_, rfl⟩
  obtain ⟨l, hl⟩ : ∃ l, l = qubits k a b c := ⟨_, rfl⟩
  obtain ⟨Q, hQ⟩ : ∃ Q, Q = qubits k' a' b' c' := ⟨_, rfl⟩
  rw [← hl, ← hn] at HQ HG
  rw [← hQ] at HC
  rw [← hl, ← hQ]
  have hn3 : n ≤ 3 := by omega
  clear hl hQ hn hb
  go_enter Try.func34, Try.ntmps34
  go_wp2_with fail
  refine (HG.out _).mono ?_
  rintro e w1 ⟨B, cB, rfl, hf, h1⟩
  have x := (Blk.new (w.alloc (.cells #[.int .i64 k, .int .i64 a, .int .i64 b, .int .i64 c] 55)) 55 #[.int .i64 k', .int .i64 a', .int .i64 b', .int .i64 c']).ext h1
  simp only [World.size_alloc] at x
  have h01 : Ext w w1 := Ext.trans (by repeat (first | exact Ext.refl _ | assumption | refine Ext.alloc ?_ _ | refine Ext.drew ?_ | refine Ext.drewN ?_ _ | refine Ext.trans ?_ (by assumption))) h1
  clear h1
  have hA := hf.rd
  clear hf
  go_wp2
  go_loopw [6, 10] (fun _ i wr => ∃ j : Nat, j ≤ n ∧ i = .int .i64 j ∧ Hid (meets2 (l.take j) Q = false) ∧ Ext w1 wr) (fun _ i _ => n - (intOf i).toNat)
  case atStart => exact ⟨0, Nat.zero_le _, rfl, Lib.hid rfl, Ext.refl _⟩
  case round =>
    obtain ⟨j, hj, rfl, hno, he⟩ := hrel
    obtain ⟨bc, bf, bz⟩ := (x.ext he).all
    by_cases hlt : j < n
    · obtain ⟨g, off, rfl, hc⟩ := (hA.ext he).int (by have := HQ.out; omega)
      have c1 := hc j (by have := HQ.out; omega)
      have HJ : Hid (j < l.length) := by show _ < _; have := HQ.out; omega
      obtain ⟨y, hy⟩ : ∃ y, y = l.getD j 0 := ⟨_, rfl⟩
      rw [← hy] at c1
      have HY := Lib.hid hy
      clear hy hc
      have b0 := bc 0
      have b1 := bc 1
      have b2 := bc 2
      have b3 := bc 3
      simp only [List.getElem?_toArray, List.getElem?_cons_zero, List.getElem?_cons_succ] at b0 b1 b2 b3
      clear bc bf
      have HCy := Lib.hid (HC.out y)
      obtain ⟨d, hd⟩ : ∃ d, d = decide (y ∈ Q) := ⟨_, rfl⟩
      rw [← hd] at HCy
      have HD := Lib.hid hd
      clear hd
      cases d with
      | true =>
        go_wp2_with fail
        refine (HCy.out _).mono ?_
        rintro e w2 ⟨rfl, h2⟩
        go_wp2
        go_ret
        exact ⟨ret_bool (meets2_at HJ.out (by rw [← HY.out]; exact of_decide_eq_true HD.out.symm)).symm, h01.trans (he.trans h2)⟩
      | false =>
        go_wp2_with fail
        refine (HCy.out _).mono ?_
        rintro e w2 ⟨rfl, h2⟩
        go_wp2
        go_roundw
        case rel => exact ⟨j + 1, by omega, by go_num, Lib.hid (meets2_take hno.out HJ.out (by rw [← HY.out]; exact of_decide_eq_false HD.out.symm)), he.trans h2⟩
        case measure => simp [intOf]; omega
    · obtain rfl : j = n := by omega
      go_wp2
      go_ret
      exact ⟨ret_bool (by have := hno.out; rw [List.take_of_length_le (by have := HQ.out; omega)] at this; exact this.symm), h01.trans he⟩
theorem anyM_at {R Q : List Int} : ∀ {n j : Nat}, j < n → meets2 (qAt R j) Q = true → anyM R Q n = true
  | 0, j, h, _ => by omega
  | n + 1, j, h, hm => by
    rcases Nat.lt_or_ge j n with h1 | h1
    · simp [anyM, anyM_at h1 hm]
    · obtain rfl : j = n := by omega
      simp [anyM, hm]
set_option maxHeartbeats 800000 in
theorem spec_any (A : Option Addr) (n cA : Nat) (R : List Int) (k a b c : Int) (w : World) (hA : Rd w A (ints R)) (hl : R.length = n * 4) (hn : n ≤ 1152921504606846976) :
    Calls Try.prog 32 #[.slice A n cA, .agg #[.int .i64 k, .int .i64 a, .int .i64 b, .int .i64 c]] w fun e w' => e = .returned (.bool (anyM R (qubits k a b c) n)) ∧ Ext w w' := by
  have HL := Lib.hid hl
  clear hl
  have HC := Lib.hid (fun p0 p1 p2 p3 W => spec_meets p0 p1 p2 p3 k a b c W)
  obtain ⟨Q, hQ⟩ : ∃ Q, Q = qubits k a b c := ⟨_, rfl⟩
  rw [← hQ] at HC ⊢
  clear hQ
  have x := Blk.new w 55 #[.int .i64 k, .int .i64 a, .int .i64 b, .int .i64 c]
  go_enter Try.func32, Try.ntmps32
  go_wp2
  go_loopw [5] (fun i wr => ∃ j : Nat, j ≤ n ∧ i = .int .i64 j ∧ Hid (anyM R Q j = false) ∧ Ext w wr ∧ Blk wr w.heap.size #[.int .i64 k, .int .i64 a, .int .i64 b, .int .i64 c]) (fun i _ => n - (intOf i).toNat)
  case atStart => exact ⟨0, Nat.zero_le _, rfl, Lib.hid rfl, (by repeat (first | exact Ext.refl _ | assumption | refine Ext.alloc ?_ _ | refine Ext.drew ?_ | refine Ext.drewN ?_ _ | refine Ext.trans ?_ (by assumption))), x⟩
  case round =>
    clear x
    obtain ⟨j, hj, rfl, hno, he, x⟩ := hrel
    obtain ⟨bc, bf, bz⟩ := x.all
    by_cases hlt : j < n
    · obtain ⟨g, off, rfl, hc⟩ := (hA.ext he).four HL.out (by omega)
      obtain ⟨x0, x1, x2, x3⟩ := hc j hlt
      have HQ : Hid (qAt R j = qubits (R.getD (j * 4) 0) (R.getD (j * 4 + 1) 0) (R.getD (j * 4 + 2) 0) (R.getD (j * 4 + 3) 0)) := rfl
      generalize R.getD (j * 4) 0 = p0 at *
      generalize R.getD (j * 4 + 1) 0 = p1 at *
      generalize R.getD (j * 4 + 2) 0 = p2 at *
      generalize R.getD (j * 4 + 3) 0 = p3 at *
      have HCy := Lib.hid (HC.out p0 p1 p2 p3)
      rw [← HQ.out] at HCy
      have b0 := bc 0
      have b1 := bc 1
      have b2 := bc 2
      have b3 := bc 3
      simp only [List.getElem?_toArray, List.getElem?_cons_zero, List.getElem?_cons_succ] at b0 b1 b2 b3
      clear bc bf hc HQ
      obtain ⟨d, hd⟩ : ∃ d, d = meets2 (qAt R j) Q := ⟨_, rfl⟩
      rw [← hd] at HCy
      have HD := Lib.hid hd
      clear hd
      cases d with
      | true =>
        go_wp2
        go_region_held3 (fun w' => w'.cell? ⟨g, off + j * 4, none⟩ = some (.int .i64 p0) ∧ w'.cell? ⟨g, off + j * 4 + 1, none⟩ = some (.int .i64 p1) ∧ w'.cell? ⟨g, off + j * 4 + 2, none⟩ = some (.int .i64 p2) ∧ w'.cell? ⟨g, off + j * 4 + 3, none⟩ = some (.int .i64 p3) ∧ w'.cell? ⟨w.heap.size, 0, none⟩ = some (.int .i64 k) ∧ w'.cell? ⟨w.heap.size, 1, none⟩ = some (.int .i64 a) ∧ w'.cell? ⟨w.heap.size, 2, none⟩ = some (.int .i64 b) ∧ w'.cell? ⟨w.heap.size, 3, none⟩ = some (.int .i64 c) ∧ Ext wr w')
          (first | exact ⟨x0, x1, x2, x3, b0, b1, b2, b3, (Ext.refl wr).drew⟩ | (go_split_ands; exact ⟨Ext.cell hx (by assumption), Ext.cell hx (by assumption), Ext.cell hx (by assumption), Ext.cell hx (by assumption), Ext.cell hx (by assumption), Ext.cell hx (by assumption), Ext.cell hx (by assumption), Ext.cell hx (by assumption), Ext.trans (by assumption) hx⟩))
          (first | (go_at_call 48; refine (HCy.out _).mono ?_; rintro e w' ⟨rfl, hx⟩))
        go_split_ands
        go_wp2
        go_ret
        exact ⟨ret_bool (anyM_at hlt HD.out.symm).symm, he.trans (by assumption)⟩
      | false =>
        go_wp2
        go_region_held3 (fun w' => w'.cell? ⟨g, off + j * 4, none⟩ = some (.int .i64 p0) ∧ w'.cell? ⟨g, off + j * 4 + 1, none⟩ = some (.int .i64 p1) ∧ w'.cell? ⟨g, off + j * 4 + 2, none⟩ = some (.int .i64 p2) ∧ w'.cell? ⟨g, off + j * 4 + 3, none⟩ = some (.int .i64 p3) ∧ w'.cell? ⟨w.heap.size, 0, none⟩ = some (.int .i64 k) ∧ w'.cell? ⟨w.heap.size, 1, none⟩ = some (.int .i64 a) ∧ w'.cell? ⟨w.heap.size, 2, none⟩ = some (.int .i64 b) ∧ w'.cell? ⟨w.heap.size, 3, none⟩ = some (.int .i64 c) ∧ Ext wr w')
          (first | exact ⟨x0, x1, x2, x3, b0, b1, b2, b3, (Ext.refl wr).drew⟩ | (go_split_ands; exact ⟨Ext.cell hx (by assumption), Ext.cell hx (by assumption), Ext.cell hx (by assumption), Ext.cell hx (by assumption), Ext.cell hx (by assumption), Ext.cell hx (by assumption), Ext.cell hx (by assumption), Ext.cell hx (by assumption), Ext.trans (by assumption) hx⟩))
          (first | (go_at_call 48; refine (HCy.out _).mono ?_; rintro e w' ⟨rfl, hx⟩))
        go_split_ands
        go_wp2
        go_roundw
        case rel => exact ⟨j + 1, by omega, by go_num, Lib.hid (by rw [anyM, hno.out, ← HD.out]; rfl), he.trans (by assumption), x.ext (by assumption)⟩
        case measure => simp [intOf]; omega
    · obtain rfl : j = n := by omega
      go_wp2
      go_ret
      exact ⟨ret_bool hno.out.symm, he⟩
end Go.Proofs.Ytohpgjkflgnfgaa
