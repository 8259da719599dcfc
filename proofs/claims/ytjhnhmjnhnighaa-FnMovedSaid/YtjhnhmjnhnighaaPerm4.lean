/-
  Contracts of ComposePermutations, InversePermutation. Conditions: the slices read as lists.
-/
import Derived.Test.YtjhnhmjnhnighaaPerm3
set_option linter.unusedSimpArgs false
set_option linter.unusedVariables false
namespace Go.Proofs.Ytjhnhmjnhnighaa
open Go.RowKit

/-- q after p -/
def compTo (p q : List Int) (j : Nat) : List Int := (p.take j).map fun x => q.getD x.toNat 0
theorem compTo_succ (p q : List Int) (j v : Nat) (hj : j < p.length) (hv : (v : Int) = p.getD j 0) : compTo p q (j + 1) = compTo p q j ++ [q.getD v 0] := by
  unfold compTo
  rw [take_getD p j hj, List.map_append, ← hv]
  simp
theorem compTo_length (p q : List Int) (j : Nat) (hj : j ≤ p.length) : (compTo p q j).length = j := by simp [compTo]; omega
def composeP (p q : List Int) : List Int := if isPerm p = true ∧ isPerm q = true ∧ p.length = q.length then compTo p q p.length else []
theorem perm_at {l : List Int} (h : isPerm l = true) {j : Nat} (hj : j < l.length) : ∃ v : Nat, (v : Int) = l.getD j 0 ∧ v < l.length := by
  have := ((isPerm_iff l).1 h).2.2.1 _ (getD_mem hj)
  exact ⟨(l.getD j 0).toNat, by omega, by omega⟩

theorem own_at {a b : World} {base : Nat} {e : TypeId} {size n : Nat} {v : Value} {xs : List Value} (h : a.ownsRow base e size v n xs) (he : Ext a b) : b.ownsRow base e size v n xs := by
  obtain ⟨hl, h | ⟨g, cap, cur, hv, hb, hh, r⟩⟩ := h
  · exact ⟨hl, .inl h⟩
  · exact ⟨hl, .inr ⟨g, cap, cur, hv, hb, he.blk hh, r⟩⟩
theorem own_base {w : World} {base : Nat} {e : TypeId} {size n : Nat} {v : Value} {xs : List Value} (h : w.ownsRow base e size v n xs) : v = .slice none 0 0 ∨ base ≤ w.heap.size := by
  obtain ⟨_, ⟨h, _⟩ | ⟨g, cap, cur, hv, hb, hh, _⟩⟩ := h
  · exact .inl h
  · have := lt_of_blk hh; exact .inr (by omega)

set_option maxHeartbeats 400000 in
theorem impl_compose_no (A B : Option Addr) (n m cA cB : Nat) (p q : List Int) (w : World) (hA : Rd w A (ints p)) (hB : Rd w B (ints q)) (hl : p.length = n) (hl' : q.length = m) (hn : n ≤ 9223372036854775806) (hm : m ≤ 9223372036854775806) (hcA : n ≤ cA) (hcB : m ≤ cB)
    (hno : ¬ (isPerm p = true ∧ isPerm q = true ∧ n = m)) :
    Calls Try.prog 23 #[.slice A n cA, .slice B m cB] w fun e w' => ∃ G c, e = .returned (.slice G 0 c) ∧ Ext w w' := by
  have HP := Lib.hid (fun W (hW : Ext w W) => impl_isPerm A n cA p W (hA.ext hW) hl hn)
  have HQ := Lib.hid (fun W (hW : Ext w W) => impl_isPerm B m cB q W (hB.ext hW) hl' hm)
  clear hl hl' hA hB
  cases hp : isPerm p with
  | false =>
    rw [hp] at HP
    clear hno hp
    go_enter Try.func23, Try.ntmps23
    go_wp2_with fail
    refine (HP.out _ (by repeat (first | exact Ext.refl _ | assumption | refine Ext.alloc ?_ _ | refine Ext.drew ?_ | refine Ext.drewN ?_ _ | refine Ext.trans ?_ (by assumption)))).mono ?_
    rintro e w1 ⟨rfl, h1⟩
    go_wp2
    go_ret
    exact ⟨_, _, rfl, (by repeat (first | exact Ext.refl _ | assumption | refine Ext.alloc ?_ _ | refine Ext.drew ?_ | refine Ext.drewN ?_ _ | refine Ext.trans ?_ (by assumption)))⟩
  | true =>
    rw [hp] at HP
    cases hq : isPerm q with
    | false =>
      rw [hq] at HQ
      clear hno hp hq
      go_enter Try.func23, Try.ntmps23
      go_wp2_with fail
      refine (HP.out _ (by repeat (first | exact Ext.refl _ | assumption | refine Ext.alloc ?_ _ | refine Ext.drew ?_ | refine Ext.drewN ?_ _ | refine Ext.trans ?_ (by assumption)))).mono ?_
      rintro e w1 ⟨rfl, h1⟩
      go_wp2_with fail
      refine (HQ.out _ (by repeat (first | exact Ext.refl _ | assumption | refine Ext.alloc ?_ _ | refine Ext.drew ?_ | refine Ext.drewN ?_ _ | refine Ext.trans ?_ (by assumption)))).mono ?_
      rintro e w2 ⟨rfl, h2⟩
      go_wp2
      go_ret
      exact ⟨_, _, rfl, (by repeat (first | exact Ext.refl _ | assumption | refine Ext.alloc ?_ _ | refine Ext.drew ?_ | refine Ext.drewN ?_ _ | refine Ext.trans ?_ (by assumption)))⟩
    | true =>
      rw [hq] at HQ
      have hne : ((n : Int) != (m : Int)) = true := by simp; intro h; exact hno ⟨by first | exact hp | rfl, by first | exact hq | rfl, by omega⟩
      clear hno hp hq
      go_enter Try.func23, Try.ntmps23
      go_wp2_with fail
      refine (HP.out _ (by repeat (first | exact Ext.refl _ | assumption | refine Ext.alloc ?_ _ | refine Ext.drew ?_ | refine Ext.drewN ?_ _ | refine Ext.trans ?_ (by assumption)))).mono ?_
      rintro e w1 ⟨rfl, h1⟩
      go_wp2_with fail
      refine (HQ.out _ (by repeat (first | exact Ext.refl _ | assumption | refine Ext.alloc ?_ _ | refine Ext.drew ?_ | refine Ext.drewN ?_ _ | refine Ext.trans ?_ (by assumption)))).mono ?_
      rintro e w2 ⟨rfl, h2⟩
      go_wp2
      go_ret
      exact ⟨_, _, rfl, (by repeat (first | exact Ext.refl _ | assumption | refine Ext.alloc ?_ _ | refine Ext.drew ?_ | refine Ext.drewN ?_ _ | refine Ext.trans ?_ (by assumption)))⟩
set_option maxHeartbeats 800000 in
theorem impl_compose_yes (A B : Option Addr) (n cA cB : Nat) (p q : List Int) (w : World) (hA : Rd w A (ints p)) (hB : Rd w B (ints q)) (hl : p.length = n) (hl' : q.length = n) (hcA : n ≤ cA) (hcB : n ≤ cB) (hp : isPerm p = true) (hq : isPerm q = true) :
    Calls Try.prog 23 #[.slice A n cA, .slice B n cB] w fun e w' => ∃ G c, e = .returned (.slice G n c) ∧ Fr w' w.heap.size w'.heap.size G (ints (compTo p q n)) ∧ Ext w w' ∧ n ≤ c := by
  have hn4 : n ≤ 4 := by have := (isPerm_iff p).1 hp; omega
  have hcp := fun W (hW : Ext w W) => impl_isPerm A n cA p W (hA.ext hW) hl (by omega)
  have hcq := fun W (hW : Ext w W) => impl_isPerm B n cB q W (hB.ext hW) hl' (by omega)
  rw [hp] at hcp
  rw [hq] at hcq
  have HP := Lib.hid hcp
  have HQ := Lib.hid hcq
  have HL := Lib.hid hl
  have HL' := Lib.hid hl'
  have HPP := Lib.hid hp
  clear hcp hcq hl hl' hp hq
  obtain ⟨i0, hi, hz0, hz1, hz2⟩ := info_parts info_int'
  go_enter Try.func23, Try.ntmps23
  go_wp2_with fail
  refine (HP.out _ (by repeat (first | exact Ext.refl _ | assumption | refine Ext.alloc ?_ _ | refine Ext.drew ?_ | refine Ext.drewN ?_ _ | refine Ext.trans ?_ (by assumption)))).mono ?_
  rintro e w1 ⟨rfl, h1⟩
  go_wp2_with fail
  refine (HQ.out _ (by repeat (first | exact Ext.refl _ | assumption | refine Ext.alloc ?_ _ | refine Ext.drew ?_ | refine Ext.drewN ?_ _ | refine Ext.trans ?_ (by assumption)))).mono ?_
  rintro e w2 ⟨rfl, h2⟩
  have h02 : Ext w w2 := (by repeat (first | exact Ext.refl _ | assumption | refine Ext.alloc ?_ _ | refine Ext.drew ?_ | refine Ext.drewN ?_ _ | refine Ext.trans ?_ (by assumption)))
  have hz2' : w.heap.size ≤ w2.heap.size := h02.size
  go_wp2_with fail
  go_loopw [5,7,26] (fun v5 _ i wr => ∃ j : Nat, j ≤ n ∧ i = .int .i64 j ∧ wr.ownsRow w2.heap.size 3 1 v5 j (ints (compTo p q j)) ∧ Ext w wr ∧ w2.heap.size ≤ wr.heap.size) (fun _ _ i _ => n - (intOf i).toNat)
  case atStart => exact ⟨0, Nat.zero_le _, rfl, (own_new #[] 0 rfl (Nat.le_refl _) (by simp) (by simp)), (by repeat (first | exact Ext.refl _ | assumption | refine Ext.alloc ?_ _ | refine Ext.drew ?_ | refine Ext.drewN ?_ _ | refine Ext.trans ?_ (by assumption))), by first | omega | (simp; done) | (simp; omega)⟩
  case round =>
    obtain ⟨j, hj, rfl, hown, he, hbs⟩ := hrel
    by_cases hlt : j < n
    · obtain ⟨g, off, rfl, hc⟩ := (hA.ext he).int (by have := HL.out; omega)
      obtain ⟨g', off', rfl, hc'⟩ := (hB.ext he).int (by have := HL'.out; omega)
      have c1 := hc j (by have := HL.out; omega)
      obtain ⟨v, hv, hvn⟩ := perm_at HPP.out (j := j) (by have := HL.out; omega)
      rw [← hv] at c1
      have hvn' : v < n := by have := HL.out; omega
      have c2 := hc' v (by have := HL'.out; omega)
      obtain ⟨y, hy⟩ : ∃ y, y = q.getD v 0 := ⟨_, rfl⟩
      rw [← hy] at c2
      have HV := Lib.hid hv
      have HY := Lib.hid hy
      clear hv hy hc hc' hvn
      have hv0 : (0 : Int) ≤ (v : Int) := by omega
      have hvI : (v : Int) < (n : Int) := by omega
      go_wp2_with (first | (at_builtin; refine wpList_append_own _ rfl _ _ 22 rfl w2.heap.size 3 i0 (.int .i64 0) 1 8 Try.underlying22 hi hz0 hz1 hz2 rfl (by decide) _ _ _ rfl (hown.alloc _) ⟨wr.heap.size, 0, none⟩ 1 1 [.int .i64 y] rfl rfl ?c1 ?c2 ?c3 ?c4 ?c5 ?_))
      case c1 =>
        intro i u hu
        (rcases i with _ | i) <;> simp_all [Addr.add]
      case c2 => intro u hu; simp at hu; subst hu; rfl
      case c3 => unfold maxLen; omega
      case c4 => omega
      case c5 => simp; omega
      · intro v' w3 hown' hgrow _
        have he' := own_ext (he.alloc _) (hown.alloc _) (by omega) hgrow
        have HO : Hid (w3.ownsRow w2.heap.size 3 1 v' (j + 1) (ints (compTo p q (j + 1)))) := by
          show World.ownsRow _ _ _ _ _ _ _
          rw [compTo_succ p q j v (by have := HL.out; omega) HV.out, ← HY.out]; simpa [ints] using hown'
        have hbs' : w2.heap.size ≤ w3.heap.size := by have := hgrow.size; simp at this; omega
        clear hown' hgrow hown he
        go_wp2
        go_roundw
        case rel => exact ⟨j + 1, by omega, by go_num, HO.out, he', hbs'⟩
        case measure => simp [intOf]; omega
    · have hjn : j = n := by omega
      subst hjn
      obtain ⟨G, cap, rfl, hcap⟩ := own_form' hown
      have hf := (Fr.of_own hown).mono (lo' := w.heap.size) (by omega) (Nat.le_refl _)
      clear hown hi hz0 hz1 hz2
      go_wp2
      go_ret
      exact ⟨_, _, rfl, hf, he, hcap⟩
set_option maxHeartbeats 400000 in
theorem spec_compose_no (A B : Option Addr) (n m cA cB : Nat) (p q : List Int) (w : World) (hA : Rd w A (ints p)) (hB : Rd w B (ints q)) (hl : p.length = n) (hl' : q.length = m) (hn : n ≤ 9223372036854775806) (hm : m ≤ 9223372036854775806) (hcA : n ≤ cA) (hcB : m ≤ cB)
    (hno : ¬ (isPerm p = true ∧ isPerm q = true ∧ n = m)) :
    Calls Try.prog 22 #[.slice A n cA, .slice B m cB] w fun e w' => ∃ G c, e = .returned (.slice G 0 c) ∧ Ext w w' := by
  have HP := Lib.hid (fun W (hW : Ext w W) => spec_isPerm A n cA p W (hA.ext hW) hl hn hcA)
  have HQ := Lib.hid (fun W (hW : Ext w W) => spec_isPerm B m cB q W (hB.ext hW) hl' hm hcB)
  clear hl hl' hA hB
  cases hp : isPerm p with
  | false =>
    rw [hp] at HP
    clear hno hp
    go_enter Try.func22, Try.ntmps22
    go_wp2_with fail
    refine (HP.out _ (by repeat (first | exact Ext.refl _ | assumption | refine Ext.alloc ?_ _ | refine Ext.drew ?_ | refine Ext.drewN ?_ _ | refine Ext.trans ?_ (by assumption)))).mono ?_
    rintro e w1 ⟨rfl, h1⟩
    go_wp2
    go_ret
    exact ⟨_, _, rfl, (by repeat (first | exact Ext.refl _ | assumption | refine Ext.alloc ?_ _ | refine Ext.drew ?_ | refine Ext.drewN ?_ _ | refine Ext.trans ?_ (by assumption)))⟩
  | true =>
    rw [hp] at HP
    cases hq : isPerm q with
    | false =>
      rw [hq] at HQ
      clear hno hp hq
      go_enter Try.func22, Try.ntmps22
      go_wp2_with fail
      refine (HP.out _ (by repeat (first | exact Ext.refl _ | assumption | refine Ext.alloc ?_ _ | refine Ext.drew ?_ | refine Ext.drewN ?_ _ | refine Ext.trans ?_ (by assumption)))).mono ?_
      rintro e w1 ⟨rfl, h1⟩
      go_wp2_with fail
      refine (HQ.out _ (by repeat (first | exact Ext.refl _ | assumption | refine Ext.alloc ?_ _ | refine Ext.drew ?_ | refine Ext.drewN ?_ _ | refine Ext.trans ?_ (by assumption)))).mono ?_
      rintro e w2 ⟨rfl, h2⟩
      go_wp2
      go_ret
      exact ⟨_, _, rfl, (by repeat (first | exact Ext.refl _ | assumption | refine Ext.alloc ?_ _ | refine Ext.drew ?_ | refine Ext.drewN ?_ _ | refine Ext.trans ?_ (by assumption)))⟩
    | true =>
      rw [hq] at HQ
      have hne : ((n : Int) != (m : Int)) = true := by simp; intro h; exact hno ⟨by first | exact hp | rfl, by first | exact hq | rfl, by omega⟩
      clear hno hp hq
      go_enter Try.func22, Try.ntmps22
      go_wp2_with fail
      refine (HP.out _ (by repeat (first | exact Ext.refl _ | assumption | refine Ext.alloc ?_ _ | refine Ext.drew ?_ | refine Ext.drewN ?_ _ | refine Ext.trans ?_ (by assumption)))).mono ?_
      rintro e w1 ⟨rfl, h1⟩
      go_wp2_with fail
      refine (HQ.out _ (by repeat (first | exact Ext.refl _ | assumption | refine Ext.alloc ?_ _ | refine Ext.drew ?_ | refine Ext.drewN ?_ _ | refine Ext.trans ?_ (by assumption)))).mono ?_
      rintro e w2 ⟨rfl, h2⟩
      go_wp2
      go_ret
      exact ⟨_, _, rfl, (by repeat (first | exact Ext.refl _ | assumption | refine Ext.alloc ?_ _ | refine Ext.drew ?_ | refine Ext.drewN ?_ _ | refine Ext.trans ?_ (by assumption)))⟩
set_option maxHeartbeats 800000 in
theorem spec_compose_yes (A B : Option Addr) (n cA cB : Nat) (p q : List Int) (w : World) (hA : Rd w A (ints p)) (hB : Rd w B (ints q)) (hl : p.length = n) (hl' : q.length = n) (hcA : n ≤ cA) (hcB : n ≤ cB) (hp : isPerm p = true) (hq : isPerm q = true) :
    Calls Try.prog 22 #[.slice A n cA, .slice B n cB] w fun e w' => ∃ G c, e = .returned (.slice G n c) ∧ Fr w' w.heap.size w'.heap.size G (ints (compTo p q n)) ∧ Ext w w' ∧ n ≤ c := by
  have hn4 : n ≤ 4 := by have := (isPerm_iff p).1 hp; omega
  have hcp := fun W (hW : Ext w W) => spec_isPerm A n cA p W (hA.ext hW) hl (by omega) hcA
  have hcq := fun W (hW : Ext w W) => spec_isPerm B n cB q W (hB.ext hW) hl' (by omega) hcB
  rw [hp] at hcp
  rw [hq] at hcq
  have HP := Lib.hid hcp
  have HQ := Lib.hid hcq
  have HL := Lib.hid hl
  have HL' := Lib.hid hl'
  have HPP := Lib.hid hp
  clear hcp hcq hl hl' hp hq
  obtain ⟨i0, hi, hz0, hz1, hz2⟩ := info_parts info_int'
  go_enter Try.func22, Try.ntmps22
  go_wp2_with fail
  refine (HP.out _ (by repeat (first | exact Ext.refl _ | assumption | refine Ext.alloc ?_ _ | refine Ext.drew ?_ | refine Ext.drewN ?_ _ | refine Ext.trans ?_ (by assumption)))).mono ?_
  rintro e w1 ⟨rfl, h1⟩
  go_wp2_with fail
  refine (HQ.out _ (by repeat (first | exact Ext.refl _ | assumption | refine Ext.alloc ?_ _ | refine Ext.drew ?_ | refine Ext.drewN ?_ _ | refine Ext.trans ?_ (by assumption)))).mono ?_
  rintro e w2 ⟨rfl, h2⟩
  have h02 : Ext w w2 := (by repeat (first | exact Ext.refl _ | assumption | refine Ext.alloc ?_ _ | refine Ext.drew ?_ | refine Ext.drewN ?_ _ | refine Ext.trans ?_ (by assumption)))
  have hz2' : w.heap.size ≤ w2.heap.size := h02.size
  go_wp2_with fail
  go_loopw [5,6] (fun v5 i wr => ∃ j : Nat, j ≤ n ∧ i = .int .i64 j ∧ wr.ownsRow w.heap.size 3 1 v5 j (ints (compTo p q j)) ∧ Ext w wr ∧ w.heap.size ≤ wr.heap.size) (fun _ i _ => n - (intOf i).toNat)
  case atStart => exact ⟨0, Nat.zero_le _, rfl, (own_at (own_new (w := w) #[] 0 rfl (Nat.le_refl _) (by simp) (by simp)) (h1.trans h2)), (by repeat (first | exact Ext.refl _ | assumption | refine Ext.alloc ?_ _ | refine Ext.drew ?_ | refine Ext.drewN ?_ _ | refine Ext.trans ?_ (by assumption))), by first | omega | (simp; done) | (simp; omega)⟩
  case round =>
    obtain ⟨j, hj, rfl, hown, he, hbs⟩ := hrel
    by_cases hlt : j < n
    · obtain ⟨g, off, rfl, hc⟩ := (hA.ext he).int (by have := HL.out; omega)
      obtain ⟨g', off', rfl, hc'⟩ := (hB.ext he).int (by have := HL'.out; omega)
      have c1 := hc j (by have := HL.out; omega)
      obtain ⟨v, hv, hvn⟩ := perm_at HPP.out (j := j) (by have := HL.out; omega)
      rw [← hv] at c1
      have hvn' : v < n := by have := HL.out; omega
      have c2 := hc' v (by have := HL'.out; omega)
      obtain ⟨y, hy⟩ : ∃ y, y = q.getD v 0 := ⟨_, rfl⟩
      rw [← hy] at c2
      have HV := Lib.hid hv
      have HY := Lib.hid hy
      clear hv hy hc hc' hvn
      have hv0 : (0 : Int) ≤ (v : Int) := by omega
      have hvI : (v : Int) < (n : Int) := by omega
      go_wp2_with (first | (at_builtin; refine wpList_append_own _ rfl _ _ 22 rfl w.heap.size 3 i0 (.int .i64 0) 1 8 Try.underlying22 hi hz0 hz1 hz2 rfl (by decide) _ _ _ rfl (hown.alloc _) ⟨wr.heap.size, 0, none⟩ 1 1 [.int .i64 y] rfl rfl ?c1 ?c2 ?c3 ?c4 ?c5 ?_))
      case c1 =>
        intro i u hu
        (rcases i with _ | i) <;> simp_all [Addr.add]
      case c2 => intro u hu; simp at hu; subst hu; rfl
      case c3 => unfold maxLen; omega
      case c4 => omega
      case c5 => simp; omega
      · intro v' w3 hown' hgrow _
        have he' := own_ext (he.alloc _) (hown.alloc _) (by omega) hgrow
        have HO : Hid (w3.ownsRow w.heap.size 3 1 v' (j + 1) (ints (compTo p q (j + 1)))) := by
          show World.ownsRow _ _ _ _ _ _ _
          rw [compTo_succ p q j v (by have := HL.out; omega) HV.out, ← HY.out]; simpa [ints] using hown'
        have hbs' : w.heap.size ≤ w3.heap.size := by have := hgrow.size; simp at this; omega
        clear hown' hgrow hown he
        go_wp2
        go_roundw
        case rel => exact ⟨j + 1, by omega, by go_num, HO.out, he', hbs'⟩
        case measure => simp [intOf]; omega
    · have hjn : j = n := by omega
      subst hjn
      obtain ⟨G, cap, rfl, hcap⟩ := own_form' hown
      have hf := (Fr.of_own hown).mono (lo' := w.heap.size) (by omega) (Nat.le_refl _)
      clear hown hi hz0 hz1 hz2
      go_wp2
      go_ret
      exact ⟨_, _, rfl, hf, he, hcap⟩
/-- The inverse, as far as the first j places tell it. -/
def invTo (p : List Int) (n : Nat) : Nat → List Int
  | 0 => List.replicate n 0
  | j + 1 => (invTo p n j).set (p.getD j 0).toNat j
theorem invTo_length (p : List Int) (n : Nat) : ∀ j, (invTo p n j).length = n
  | 0 => by simp [invTo]
  | j + 1 => by simp [invTo, invTo_length p n j]
theorem impl_inverse_no (A : Option Addr) (n cA : Nat) (p : List Int) (w : World) (hA : Rd w A (ints p)) (hl : p.length = n) (hn : n ≤ 9223372036854775806) (hcA : n ≤ cA) (hno : isPerm p = false) :
    Calls Try.prog 27 #[.slice A n cA] w fun e w' => ∃ G c, e = .returned (.slice G 0 c) ∧ Ext w w' := by
  have hcp := fun W (hW : Ext w W) => impl_isPerm A n cA p W (hA.ext hW) hl hn
  rw [hno] at hcp
  have HP := Lib.hid hcp
  clear hcp hl hA hno
  go_enter Try.func27, Try.ntmps27
  go_wp2_with fail
  refine (HP.out _ (by repeat (first | exact Ext.refl _ | assumption | refine Ext.alloc ?_ _ | refine Ext.drew ?_ | refine Ext.drewN ?_ _ | refine Ext.trans ?_ (by assumption)))).mono ?_
  rintro e w1 ⟨rfl, h1⟩
  go_wp2
  go_ret
  exact ⟨_, _, rfl, (by repeat (first | exact Ext.refl _ | assumption | refine Ext.alloc ?_ _ | refine Ext.drew ?_ | refine Ext.drewN ?_ _ | refine Ext.trans ?_ (by assumption)))⟩
set_option maxHeartbeats 800000 in
theorem impl_inverse_yes (A : Option Addr) (n cA : Nat) (p : List Int) (w : World) (hA : Rd w A (ints p)) (hl : p.length = n) (hcA : n ≤ cA) (hp : isPerm p = true) :
    Calls Try.prog 27 #[.slice A n cA] w fun e w' => ∃ G, e = .returned (.slice G n n) ∧ Fr w' w.heap.size w'.heap.size G (ints (invTo p n n)) ∧ Ext w w' := by
  have hn4 : n ≤ 4 := by have := (isPerm_iff p).1 hp; omega
  have hcp := fun W (hW : Ext w W) => impl_isPerm A n cA p W (hA.ext hW) hl (by omega)
  rw [hp] at hcp
  have HP := Lib.hid hcp
  have HL := Lib.hid hl
  have HPP := Lib.hid hp
  clear hcp hl hp
  obtain ⟨i0, hi, hz0, hz1, hz2⟩ := info_parts info_int'
  go_enter Try.func27, Try.ntmps27
  go_wp2_with fail
  refine (HP.out _ (by repeat (first | exact Ext.refl _ | assumption | refine Ext.alloc ?_ _ | refine Ext.drew ?_ | refine Ext.drewN ?_ _ | refine Ext.trans ?_ (by assumption)))).mono ?_
  rintro e w1 ⟨rfl, h1⟩
  have h01 : Ext w w1 := (by repeat (first | exact Ext.refl _ | assumption | refine Ext.alloc ?_ _ | refine Ext.drew ?_ | refine Ext.drewN ?_ _ | refine Ext.trans ?_ (by assumption)))
  go_wp2_with (at_make; refine wpList_make_full _ rfl _ _ 22 rfl w1.heap.size 3 i0 (.int .i64 0) 1 Try.underlying22 hi hz0 hz1 .i64 .i64 _ _ n rfl rfl rfl rfl ?b2 ?b3 ?b4 ?_)
  case b2 => rw [hz2]; omega
  case b3 => unfold maxLen; omega
  case b4 => exact Nat.le_refl _
  intro w2 hown hgrow
  have hf := Fr.of_own hown
  have he : Ext w w2 := h01.grown hgrow (by simp)
  have hlt : w1.heap.size < w2.heap.size := (hown.lt _ rfl).2
  have hz01 := h01.size
  clear hown hgrow hi hz0 hz1 hz2 h1
  rw [show (madeCells #[Value.int .i64 0] n).toList = ints (invTo p n 0) from by simp [ints, invTo, toList_madeCells_one]] at hf
  go_wp2
  go_loopw [4,5,14] (fun _ _ i wr => ∃ j : Nat, j ≤ n ∧ i = .int .i64 j ∧ Fr wr w1.heap.size w2.heap.size (some ⟨w1.heap.size, 0, none⟩) (ints (invTo p n j)) ∧ Ext w wr ∧ w2.heap.size ≤ wr.heap.size) (fun _ _ i _ => n - (intOf i).toNat)
  case atStart => exact ⟨0, Nat.zero_le _, rfl, hf, he, Nat.le_refl _⟩
  case round =>
    clear hf he
    obtain ⟨j, hj, rfl, hf, he, hz⟩ := hrel
    by_cases hjn : j < n
    · obtain ⟨g, off, rfl, hc⟩ := (hA.ext he).int (by have := HL.out; omega)
      have c1 := hc j (by have := HL.out; omega)
      obtain ⟨v, hv, hvn⟩ := perm_at HPP.out (j := j) (by have := HL.out; omega)
      rw [← hv] at c1
      have hvn' : v < n := by have := HL.out; omega
      have hlen := Lib.hid (invTo_length p n j)
      obtain ⟨g', off', e', hg1, hg2, hc', hfz⟩ := hf.int (by have := hlen.out; omega)
      injection e' with e'
      injection e' with e1 e2
      subst e1 e2
      have c2 := hc' v (by have := hlen.out; omega)
      have f2 := hfz v
      rw [Nat.zero_add] at c2 f2
      have HS := Lib.hid (hf.set_int v j (by have := hlen.out; omega))
      obtain ⟨y, hy⟩ : ∃ y, y = (invTo p n j).getD v 0 := ⟨_, rfl⟩
      rw [← hy] at c2
      have HV := Lib.hid hv
      clear hc hc' hfz hv hy hvn
      have hv0 : (0 : Int) ≤ (v : Int) := by omega
      have hvI : (v : Int) < (n : Int) := by omega
      have hbz : w1.heap.size < wr.heap.size := by omega
      go_wp2
      go_roundw
      case rel =>
        refine ⟨j + 1, by omega, by go_num, ?_, he.setCell (by simp; omega) _, by simpa [World.setCell] using hz⟩
        have e : invTo p n (j + 1) = (invTo p n j).set v j := by rw [invTo, ← HV.out]; simp
        rw [e]
        simpa using HS.out
      case measure => simp [intOf]; omega
    · have hjn : j = n := by omega
      subst hjn
      go_wp2
      go_ret
      exact ⟨_, rfl, hf.mono hz01 hz, he⟩
theorem spec_inverse_no (A : Option Addr) (n cA : Nat) (p : List Int) (w : World) (hA : Rd w A (ints p)) (hl : p.length = n) (hn : n ≤ 9223372036854775806) (hcA : n ≤ cA) (hno : isPerm p = false) :
    Calls Try.prog 26 #[.slice A n cA] w fun e w' => ∃ G c, e = .returned (.slice G 0 c) ∧ Ext w w' := by
  have hcp := fun W (hW : Ext w W) => spec_isPerm A n cA p W (hA.ext hW) hl hn hcA
  rw [hno] at hcp
  have HP := Lib.hid hcp
  clear hcp hl hA hno
  go_enter Try.func26, Try.ntmps26
  go_wp2_with fail
  refine (HP.out _ (by repeat (first | exact Ext.refl _ | assumption | refine Ext.alloc ?_ _ | refine Ext.drew ?_ | refine Ext.drewN ?_ _ | refine Ext.trans ?_ (by assumption)))).mono ?_
  rintro e w1 ⟨rfl, h1⟩
  go_wp2
  go_ret
  exact ⟨_, _, rfl, (by repeat (first | exact Ext.refl _ | assumption | refine Ext.alloc ?_ _ | refine Ext.drew ?_ | refine Ext.drewN ?_ _ | refine Ext.trans ?_ (by assumption)))⟩
set_option maxHeartbeats 800000 in
theorem spec_inverse_yes (A : Option Addr) (n cA : Nat) (p : List Int) (w : World) (hA : Rd w A (ints p)) (hl : p.length = n) (hcA : n ≤ cA) (hp : isPerm p = true) :
    Calls Try.prog 26 #[.slice A n cA] w fun e w' => ∃ G, e = .returned (.slice G n n) ∧ Fr w' w.heap.size w'.heap.size G (ints (invTo p n n)) ∧ Ext w w' := by
  have hn4 : n ≤ 4 := by have := (isPerm_iff p).1 hp; omega
  have hcp := fun W (hW : Ext w W) => spec_isPerm A n cA p W (hA.ext hW) hl (by omega) hcA
  rw [hp] at hcp
  have HP := Lib.hid hcp
  have HL := Lib.hid hl
  have HPP := Lib.hid hp
  clear hcp hl hp
  obtain ⟨i0, hi, hz0, hz1, hz2⟩ := info_parts info_int'
  go_enter Try.func26, Try.ntmps26
  go_wp2_with fail
  refine (HP.out _ (by repeat (first | exact Ext.refl _ | assumption | refine Ext.alloc ?_ _ | refine Ext.drew ?_ | refine Ext.drewN ?_ _ | refine Ext.trans ?_ (by assumption)))).mono ?_
  rintro e w1 ⟨rfl, h1⟩
  have h01 : Ext w w1 := (by repeat (first | exact Ext.refl _ | assumption | refine Ext.alloc ?_ _ | refine Ext.drew ?_ | refine Ext.drewN ?_ _ | refine Ext.trans ?_ (by assumption)))
  go_wp2_with (at_make; refine wpList_make_full _ rfl _ _ 22 rfl w1.heap.size 3 i0 (.int .i64 0) 1 Try.underlying22 hi hz0 hz1 .i64 .i64 _ _ n rfl rfl rfl rfl ?b2 ?b3 ?b4 ?_)
  case b2 => rw [hz2]; omega
  case b3 => unfold maxLen; omega
  case b4 => exact Nat.le_refl _
  intro w2 hown hgrow
  have hf := Fr.of_own hown
  have he : Ext w w2 := h01.grown hgrow (by simp)
  have hlt : w1.heap.size < w2.heap.size := (hown.lt _ rfl).2
  have hz01 := h01.size
  clear hown hgrow hi hz0 hz1 hz2 h1
  rw [show (madeCells #[Value.int .i64 0] n).toList = ints (invTo p n 0) from by simp [ints, invTo, toList_madeCells_one]] at hf
  go_wp2
  go_loopw [4] (fun i wr => ∃ j : Nat, j ≤ n ∧ i = .int .i64 j ∧ Fr wr w1.heap.size w2.heap.size (some ⟨w1.heap.size, 0, none⟩) (ints (invTo p n j)) ∧ Ext w wr ∧ w2.heap.size ≤ wr.heap.size) (fun i _ => n - (intOf i).toNat)
  case atStart => exact ⟨0, Nat.zero_le _, rfl, hf, he, Nat.le_refl _⟩
  case round =>
    clear hf he
    obtain ⟨j, hj, rfl, hf, he, hz⟩ := hrel
    by_cases hjn : j < n
    · obtain ⟨g, off, rfl, hc⟩ := (hA.ext he).int (by have := HL.out; omega)
      have c1 := hc j (by have := HL.out; omega)
      obtain ⟨v, hv, hvn⟩ := perm_at HPP.out (j := j) (by have := HL.out; omega)
      rw [← hv] at c1
      have hvn' : v < n := by have := HL.out; omega
      have hlen := Lib.hid (invTo_length p n j)
      obtain ⟨g', off', e', hg1, hg2, hc', hfz⟩ := hf.int (by have := hlen.out; omega)
      injection e' with e'
      injection e' with e1 e2
      subst e1 e2
      have c2 := hc' v (by have := hlen.out; omega)
      have f2 := hfz v
      rw [Nat.zero_add] at c2 f2
      have HS := Lib.hid (hf.set_int v j (by have := hlen.out; omega))
      obtain ⟨y, hy⟩ : ∃ y, y = (invTo p n j).getD v 0 := ⟨_, rfl⟩
      rw [← hy] at c2
      have HV := Lib.hid hv
      clear hc hc' hfz hv hy hvn
      have hv0 : (0 : Int) ≤ (v : Int) := by omega
      have hvI : (v : Int) < (n : Int) := by omega
      have hbz : w1.heap.size < wr.heap.size := by omega
      go_wp2
      go_roundw
      case rel =>
        refine ⟨j + 1, by omega, by go_num, ?_, he.setCell (by simp; omega) _, by simpa [World.setCell] using hz⟩
        have e : invTo p n (j + 1) = (invTo p n j).set v j := by rw [invTo, ← HV.out]; simp
        rw [e]
        simpa using HS.out
      case measure => simp [intOf]; omega
    · have hjn : j = n := by omega
      subst hjn
      go_wp2
      go_ret
      exact ⟨_, rfl, hf.mono hz01 hz, he⟩
end Go.Proofs.Ytjhnhmjnhnighaa
