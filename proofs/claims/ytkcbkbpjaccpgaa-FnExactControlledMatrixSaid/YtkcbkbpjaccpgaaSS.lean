/-
  Contracts of the helpers on slices of slices of structs of ints. Conditions: the slices read as rows; what is written lies in new memory.
-/
import Derived.Test.YtkcbkbpjaccpgaaQs
import Derived.Test.YtkcbkbpjaccpgaaRows2
set_option linter.unusedSimpArgs false
set_option linter.unusedVariables false
namespace Go.Proofs.Ytkcbkbpjaccpgaa
open Go.RowKit
def tot : List (List Int) → Nat
  | [] => 0
  | R :: t => R.length + tot t
theorem tot_append : ∀ (a b : List (List Int)), tot (a ++ b) = tot a + tot b
  | [], b => by simp [tot]
  | R :: a, b => by simp [tot, tot_append a b]; omega
theorem take_getD2 (LL : List (List Int)) (k : Nat) (h : k < LL.length) : LL.take (k + 1) = LL.take k ++ [LL.getD k []] := by
  rw [List.take_succ_eq_append_getElem h]; simp [List.getD, h]
theorem drop_getD2 (LL : List (List Int)) (k : Nat) (h : k < LL.length) : LL.drop k = LL.getD k [] :: LL.drop (k + 1) := by
  rw [List.drop_eq_getElem_cons h]; simp [List.getD, h]
theorem tot_step (LL : List (List Int)) (j : Nat) (h : j < LL.length) : tot (LL.take (j + 1)) = tot (LL.take j) + (LL.getD j []).length := by
  rw [take_getD2 LL j h, tot_append]; simp [tot]
theorem tot_take (LL : List (List Int)) (j : Nat) : tot (LL.take j) ≤ tot LL := by
  have h := tot_append (LL.take j) (LL.drop j)
  rw [List.take_append_drop] at h
  omega
theorem row_le_tot (LL : List (List Int)) (j : Nat) : (LL.getD j []).length ≤ tot LL := by
  rcases Nat.lt_or_ge j LL.length with h | h
  · have h1 := tot_step LL j h
    have := tot_take LL (j + 1)
    omega
  · simp [List.getD, h]
def mrows (k : Int) : List (List Int) → List (List Int)
  | [] => []
  | R :: t => marks k R.length :: mrows (k + R.length) t
theorem mrows_append (b : List (List Int)) : ∀ (a : List (List Int)) (k : Int), mrows k (a ++ b) = mrows k a ++ mrows (k + tot a) b
  | [], k => by simp [mrows, tot]
  | R :: a, k => by simp [mrows, tot, mrows_append b a]; congr 1; omega
theorem mrows_length : ∀ (a : List (List Int)) (k : Int), (mrows k a).length = a.length
  | [], k => rfl
  | R :: a, k => by simp [mrows, mrows_length a]
theorem mrows_step (LL : List (List Int)) (j : Nat) (h : j < LL.length) (k : Int) : mrows k (LL.take (j + 1)) = mrows k (LL.take j) ++ [marks (k + tot (LL.take j)) (LL.getD j []).length] := by
  rw [take_getD2 LL j h, mrows_append]; rfl
theorem mrows_getD (LL : List (List Int)) (j : Nat) (h : j < LL.length) (k : Int) : (mrows k LL).getD j [] = marks (k + tot (LL.take j)) (LL.getD j []).length := by
  have h1 := mrows_step LL j h k
  have h2 : mrows k LL = mrows k (LL.take (j + 1)) ++ mrows (k + tot (LL.take (j + 1))) (LL.drop (j + 1)) := by rw [← mrows_append, List.take_append_drop]
  have hl : (mrows k (LL.take j)).length = j := by rw [mrows_length]; simp; omega
  rw [h2, h1, List.getD_eq_getElem?_getD, List.append_assoc, List.getElem?_append_right (by omega), hl]
  simp
theorem mrows_set (LL : List (List Int)) (j : Nat) (h : j < LL.length) (k : Int) : (mrows k (LL.take j) ++ LL.drop j).set j (marks (k + tot (LL.take j)) (LL.getD j []).length) = mrows k (LL.take (j + 1)) ++ LL.drop (j + 1) := by
  have hl : (mrows k (LL.take j)).length = j := by rw [mrows_length]; simp; omega
  rw [List.set_append, if_neg (by omega), hl, Nat.sub_self, drop_getD2 LL j h, List.set_cons_zero, mrows_step LL j h]
  simp
theorem mrows_at (LL : List (List Int)) (j : Nat) (h : j < LL.length) (k : Int) : (mrows k (LL.take j) ++ LL.drop j)[j]? = some (LL.getD j []) := by
  have hl : (mrows k (LL.take j)).length = j := by rw [mrows_length]; simp; omega
  rw [List.getElem?_append_right (by omega), hl, Nat.sub_self, drop_getD2 LL j h]; rfl
theorem eq_of_take2 {l l' : List (List Int)} {n : Nat} (h1 : l.length = n) (h2 : l'.length = n) (h : l.take n = l'.take n) : l = l' := by
  rw [List.take_of_length_le (by omega), List.take_of_length_le (by omega)] at h; exact h
theorem ne_of_getD2 {l l' : List (List Int)} {k : Nat} (h : l.getD k [] ≠ l'.getD k []) : l ≠ l' := by rintro rfl; exact h rfl
set_option maxHeartbeats 800000 in
theorem eqDOmegaSS_any (A B : Option Addr) (n m c c' : Nat) (LL LL' : List (List Int)) (vs vs' : List Value) (w : World) (hA : Rd2 w 5 A LL vs) (hB : Rd2 w 5 B LL' vs') (hl : LL.length = n) (hl' : LL'.length = m) (hn : n ≤ 9223372036854775806) (hm : m ≤ 9223372036854775806)
    (hs : ∀ j, (LL.getD j []).length ≤ 1152921504606846976) (hs' : ∀ j, (LL'.getD j []).length ≤ 1152921504606846976) :
    Calls Try.prog 8 #[.slice A n c, .slice B m c'] w fun e w' => e = .returned (.bool (decide (LL = LL'))) ∧ Ext w w' := by
  have HL := Lib.hid hl
  have HL' := Lib.hid hl'
  have HS := Lib.hid hs
  have HS' := Lib.hid hs'
  clear hl hl' hs hs'
  by_cases hnm : n = m
  · subst hnm
    go_enter Try.func8, Try.ntmps8
    go_wp2
    go_loopw [5] (fun i wr => ∃ k : Nat, k ≤ n ∧ i = .int .i64 k ∧ Hid (LL.take k = LL'.take k) ∧ Ext w wr) (fun i _ => n - (intOf i).toNat)
    case atStart => exact ⟨0, Nat.zero_le _, rfl, Lib.hid rfl, Ext.refl _⟩
    case round =>
      obtain ⟨k, hk, rfl, heq, he⟩ := hrel
      by_cases hlt : k < n
      · obtain ⟨g, off, R, m1, c1, rfl, x0, _, hr1, rR⟩ := (hA.ext he).look (j := k) (by have := HL.out; omega)
        obtain ⟨g', off', R', m2, c2, rfl, x1, _, hr2, rR'⟩ := (hB.ext he).look (j := k) (by have := HL'.out; omega)
        have HC := Lib.hid (fun W (hW : Ext wr W) => eqDOmegaS_any R R' m1 m2 c1 c2 (LL.getD k []) (LL'.getD k []) W (rR.ext hW) (rR'.ext hW) hr1 hr2 (by have := HS.out k; omega) (by have := HS'.out k; omega))
        obtain ⟨d, hd⟩ : ∃ d, d = decide (LL.getD k [] = LL'.getD k []) := ⟨_, rfl⟩
        rw [← hd] at HC
        have HD := Lib.hid hd
        clear hd rR rR' hr1 hr2
        have hkI : (k : Int) < (n : Int) := by omega
        cases d with
        | true =>
          go_wp2
          go_region_held3 (fun w' => w'.cell? ⟨g, off + k, none⟩ = some (.slice R m1 c1) ∧ w'.cell? ⟨g', off' + k, none⟩ = some (.slice R' m2 c2) ∧ Ext wr w')
            (first | exact ⟨x0, x1, (Ext.refl wr).drew⟩ | (go_split_ands; exact ⟨Ext.cell hq (by assumption), Ext.cell hq (by assumption), Ext.trans (by assumption) hq⟩))
            (first | (go_at_call 21; go_split_ands; refine (HC.out _ (by assumption)).mono ?_; rintro e w' ⟨rfl, hq⟩))
          go_split_ands
          go_wp2
          go_roundw
          case rel => exact ⟨k + 1, by omega, by go_num, Lib.hid (by rw [take_getD2 LL k (by have := HL.out; omega), take_getD2 LL' k (by have := HL'.out; omega), heq.out, of_decide_eq_true HD.out.symm]), he.trans (by assumption)⟩
          case measure => simp [intOf]; omega
        | false =>
          have HN : Hid (¬ LL = LL') := ne_of_getD2 (of_decide_eq_false HD.out.symm)
          go_wp2
          go_region_held3 (fun w' => w'.cell? ⟨g, off + k, none⟩ = some (.slice R m1 c1) ∧ w'.cell? ⟨g', off' + k, none⟩ = some (.slice R' m2 c2) ∧ Ext wr w')
            (first | exact ⟨x0, x1, (Ext.refl wr).drew⟩ | (go_split_ands; exact ⟨Ext.cell hq (by assumption), Ext.cell hq (by assumption), Ext.trans (by assumption) hq⟩))
            (first | (go_at_call 21; go_split_ands; refine (HC.out _ (by assumption)).mono ?_; rintro e w' ⟨rfl, hq⟩))
          go_split_ands
          go_wp2
          go_ret
          exact ⟨ret_bool (by simp [HN.out]), he.trans (by assumption)⟩
      · obtain rfl : k = n := by omega
        go_wp2
        go_ret
        exact ⟨ret_bool (by simp [eq_of_take2 HL.out HL'.out heq.out]), (by repeat (first | exact Ext.refl _ | assumption | refine Ext.alloc ?_ _ | refine Ext.drew ?_ | refine Ext.drewN ?_ _ | refine Ext.trans ?_ (by assumption)))⟩
  · have hne : ((n : Int) != (m : Int)) = true := by simp; omega
    go_enter Try.func8, Try.ntmps8
    go_wp2
    go_ret
    exact ⟨ret_bool (by simp; intro h; have h1 := HL.out; have h2 := HL'.out; rw [h] at h1; omega), (by repeat (first | exact Ext.refl _ | assumption | refine Ext.alloc ?_ _ | refine Ext.drew ?_ | refine Ext.drewN ?_ _ | refine Ext.trans ?_ (by assumption)))⟩
set_option maxHeartbeats 800000 in
theorem markDOmegaSS_any (A : Option Addr) (n c lo hi : Nat) (LL : List (List Int)) (vs : List Value) (k : Int) (w : World) (hA : Fr2 w 5 lo hi A LL vs) (hl : LL.length = n) (hn : n ≤ 4611686018427387904) (hk0 : 0 ≤ k) (hk1 : k + tot LL ≤ 2147483648) (hs : tot LL ≤ 5242880) (hs2 : ∀ j, (LL.getD j []).length ≤ 1048576 * 5) :
    Calls Try.prog 9 #[.slice A n c, .int .i64 k] w fun e w' => e = .returned (.int .i64 (k + tot LL)) ∧ Fr2 w' 5 lo hi A (mrows k LL) vs ∧ Chg w w' lo hi := by
  have HL := Lib.hid hl
  have HK := Lib.hid hk1
  have HT := Lib.hid hs
  have HS := Lib.hid hs2
  clear hl hk1 hs hs2
  go_enter Try.func9, Try.ntmps9
  go_wp2
  go_loopw [1, 5] (fun q i wr => ∃ j : Nat, j ≤ n ∧ i = .int .i64 j ∧ q = .int .i64 (k + (tot (LL.take j) : Int)) ∧ Fr2 wr 5 lo hi A (mrows k (LL.take j) ++ LL.drop j) vs ∧ Chg w wr lo hi) (fun _ i _ => n - (intOf i).toNat)
  case atStart => exact ⟨0, Nat.zero_le _, rfl, by simp [tot], by simpa [mrows] using hA, Chg.refl _ _ _⟩
  case round =>
    obtain ⟨j, hj, rfl, rfl, hf, hch⟩ := hrel
    by_cases hlt : j < n
    · have HJ : Hid (j < LL.length) := by show _ < _; have := HL.out; omega
      have hR := mrows_at LL j HJ.out k
      obtain ⟨B, m, cB, hv, hBl, fB⟩ := hf.inner j _ hR
      obtain ⟨g, off, cur, t, rfl, g1, g2, hh, hc⟩ := hf.outer (by rintro rfl; simp at hv)
      have x0 : wr.cell? ⟨g, off + j, none⟩ = some (.slice B m cB) := (cell_of_row wr g (off + j) cur t (0, 0) hh).trans (hc j _ hv)
      obtain ⟨l, h2, hl1, hl2, fR, HU⟩ := hf.upd hR hv
      have HUU := Lib.hid HU
      have HST := Lib.hid (tot_step LL j HJ.out)
      have HTT := Lib.hid (tot_take LL (j + 1))
      have HBl := Lib.hid hBl
      obtain ⟨T, hT⟩ : ∃ T, T = tot (LL.take j) := ⟨_, rfl⟩
      have HTE := Lib.hid hT
      rw [← hT]
      have hkT : 0 ≤ k + (T : Int) := by omega
      have hkT2 : k + (T : Int) ≤ 2147483648 := by have := HST.out; have := HTT.out; have := HK.out; omega
      have hm : m ≤ 1048576 := by have := HS.out j; omega
      clear HU hc hh hv hBl hR hT fB
      have hjI : (j : Int) < (n : Int) := by omega
      go_wp2_with fail
      refine (markDOmegaS_any B m cB l h2 (LL.getD j []) (k + (T : Int)) _ fR HBl.out hm hkT hkT2).mono ?_
      rintro e w2 ⟨rfl, fM, ch⟩
      have HF := Lib.hid (HUU.out w2 (marks (k + (T : Int)) (LL.getD j []).length) ch (by rw [HBl.out]; exact fM) (marks_length _ _))
      have ch2 := hch.trans (ch.mono hl1 hl2)
      clear fM ch x0
      go_wp2
      go_roundw
      case rel =>
        refine ⟨j + 1, by omega, by go_num, ?_, ?_, ch2⟩
        · have := HST.out; have := HBl.out; have := HTE.out
          congr 1
          omega
        · rw [← mrows_set LL j HJ.out k, ← HTE.out]
          exact HF.out
      case measure => simp [intOf]; omega
    · obtain rfl : j = n := by omega
      have HX : Hid (LL.take j = LL) := by show _ = _; exact List.take_of_length_le (by have := HL.out; omega)
      go_wp2
      go_ret
      rw [HX.out] at hf ⊢
      exact ⟨rfl, by rw [List.drop_eq_nil_of_le (by have := HL.out; omega), List.append_nil] at hf; exact hf, hch⟩
set_option maxHeartbeats 800000 in
theorem heldDOmegaSS_any (A : Option Addr) (n c : Nat) (LL : List (List Int)) (vs : List Value) (k : Int) (w : World) (hA : Rd2 w 5 A (mrows k LL) vs) (hl : LL.length = n) (hn : n ≤ 4611686018427387904) (hk0 : 0 ≤ k) (hk1 : k + tot LL ≤ 2147483648) (hs : tot LL ≤ 5242880) (hs2 : ∀ j, (LL.getD j []).length ≤ 1048576 * 5) :
    Calls Try.prog 10 #[.slice A n c, .int .i64 k] w fun e w' => e = .returned (.int .i64 (k + tot LL)) ∧ Ext w w' := by
  have HL := Lib.hid hl
  have HK := Lib.hid hk1
  have HT := Lib.hid hs
  have HS := Lib.hid hs2
  clear hl hk1 hs hs2
  go_enter Try.func10, Try.ntmps10
  go_wp2
  go_loopw [1, 5] (fun q i wr => ∃ j : Nat, j ≤ n ∧ i = .int .i64 j ∧ q = .int .i64 (k + (tot (LL.take j) : Int)) ∧ Ext w wr) (fun _ i _ => n - (intOf i).toNat)
  case atStart => exact ⟨0, Nat.zero_le _, rfl, by simp [tot], Ext.refl _⟩
  case round =>
    obtain ⟨j, hj, rfl, rfl, he⟩ := hrel
    by_cases hlt : j < n
    · have HJ : Hid (j < LL.length) := by show _ < _; have := HL.out; omega
      obtain ⟨g, off, B, m, cB, rfl, x0, _, hBl, rB⟩ := (hA.ext he).look (j := j) (by rw [mrows_length]; exact HJ.out)
      rw [mrows_getD LL j HJ.out k] at hBl rB
      rw [marks_length] at hBl
      have HST := Lib.hid (tot_step LL j HJ.out)
      have HTT := Lib.hid (tot_take LL (j + 1))
      have HBl := Lib.hid hBl
      obtain ⟨T, hT⟩ : ∃ T, T = tot (LL.take j) := ⟨_, rfl⟩
      have HTE := Lib.hid hT
      rw [← hT] at rB ⊢
      have hkT : 0 ≤ k + (T : Int) := by omega
      have hkT2 : k + (T : Int) ≤ 2147483648 := by have := HST.out; have := HTT.out; have := HK.out; omega
      have hm : m ≤ 1048576 := by have := HS.out j; omega
      have hneg : ¬ (k + (T : Int) + (m : Int) * 5 < 0) := by omega
      rw [hBl] at rB
      clear hT hBl
      have hjI : (j : Int) < (n : Int) := by omega
      go_wp2_with fail
      refine (heldDOmegaS_any B m cB (k + (T : Int)) _ rB hm hkT hkT2).mono ?_
      rintro e w2 ⟨rfl, h2⟩
      clear x0
      go_wp2
      go_roundw
      case rel =>
        refine ⟨j + 1, by omega, by go_num, ?_, he.trans h2⟩
        have := HST.out; have := HBl.out; have := HTE.out
        congr 1
        omega
      case measure => simp [intOf]; omega
    · obtain rfl : j = n := by omega
      have HX : Hid (LL.take j = LL) := by show _ = _; exact List.take_of_length_le (by have := HL.out; omega)
      go_wp2
      go_ret
      rw [HX.out]
      exact ⟨rfl, he⟩
end Go.Proofs.Ytkcbkbpjaccpgaa
