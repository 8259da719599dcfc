/-
  Contract of DrawComposePermutations; the walks of FnPerm and FnMoved need it. Conditions: the code is at most 2^20 bytes.
-/
import Derived.Test.YtjhnhmjnhnighaaDraw2
import Derived.Test.YtjhnhmjnhnighaaWalkE
set_option linter.unusedSimpArgs false
set_option linter.unusedVariables false
namespace Go.Proofs.Ytjhnhmjnhnighaa
open Go.RowKit

theorem own_cap {w : World} {base : Nat} {e : TypeId} {size n cap : Nat} {A : Option Addr} {xs : List Value} (h : w.ownsRow base e size (.slice A n cap) n xs) : n ≤ cap := by
  obtain ⟨B, c, hv, hc⟩ := own_form' h
  injection hv with _ _ hv
  omega
/-- Two slices in new memory. -/
def TwoRows (w w' : World) (e : Ending) : Prop := ∃ (P P' : Option Addr) (m cP m' cP' : Nat) (L L' : List Int), e = .returned (.tuple #[.slice P m cP, .slice P' m' cP']) ∧ (L.length = m ∧ m ≤ 5 ∧ m ≤ cP) ∧ (L'.length = m' ∧ m' ≤ 5 ∧ m' ≤ cP') ∧
  Fr w' w.heap.size w'.heap.size P (ints L) ∧ Fr w' w.heap.size w'.heap.size P' (ints L') ∧ Ext w w'
set_option maxHeartbeats 400000 in
theorem drawCompose_ok (A : Option Addr) (n c : Nat) (l : List Int) (w : World) (hA : Rd w A (bys l)) (hl : l.length = n) (hn : n ≤ 1048576) :
    Calls Try.prog 40 #[.slice A n c] w fun e w' => TwoRows w w' e := by
  have hAw : ∀ a, A = some a → l ≠ [] → a.block < w.heap.size := by
    intro a ha hne
    obtain ⟨g, off, e, hc⟩ := hA.bys_ (by cases l; exact absurd rfl hne; simp)
    have := lt_of_cell (hc 0 (by cases l; exact absurd rfl hne; simp))
    rw [ha] at e
    injection e with e
    rw [e]; exact this
  go_enter Try.func40, Try.ntmps40
  go_wp2_with fail
  refine (l1New_any A n c l _ hA hl hn).mono ?_
  rintro e w1 ⟨g, rfl, hg, hcur, h1⟩
  have ok : CurOk w1 g A n c l := ⟨hA.ext h1, hl, hn, hcur, fun hne a ha => Nat.lt_of_lt_of_le (hAw a ha hne) hg⟩
  have z1 := h1.size
  clear hcur hAw hA hl
  go_wp2_with fail
  refine (l1Below_ok g A n c l 4 _ ok (by omega)).mono ?_
  rintro e w2 ⟨x, hx, rfl, ok2, ch2⟩
  have hx4 : x < 4 := by omega
  have z2 := ch2.size
  clear hx ok
  go_wp2_with fail
  refine (l1Once_ok g A n c l 4 _ ok2 (by omega)).mono ?_
  rintro e w3 ⟨b, rfl, ok3, ch3⟩
  have z3 := ch3.size
  have hg3 := ok3.lt
  clear ok2
  have h03 : Ext w w3 := (h1.chg ch2 hg).chg ch3 hg
  clear h1 ch2 ch3
  cases b with
  | true =>
    go_wp2_with fail
    refine (l8Bent_ok g A n c l _ ok3).mono ?_
    rintro e w4 ⟨P, m, cP, L, rfl, hL, hm5, hmc, fP, ok4, ch4⟩
    have z4 := ch4.size
    go_wp2_with fail
    refine (l8Bent_ok g A n c l _ ok4).mono ?_
    rintro e w5 ⟨P', m', cP', L', rfl, hL', hm5', hmc', fP', ok5, ch5⟩
    have z5 := ch5.size
    have HT : Hid (TwoRows w w5 (.returned (.tuple #[.slice P m cP, .slice P' m' cP']))) := ⟨P, P', m, cP, m', cP', L, L', rfl, ⟨hL, hm5, hmc⟩, ⟨hL', hm5', hmc'⟩, (fP.chg ch5 (.inr (by omega))).mono (by omega) (by omega), fP'.mono (by omega) (Nat.le_refl _), (h03.chg ch4 hg).chg ch5 hg⟩
    clear hL hL' fP fP' ok4 ok5 ch4 ch5 ok3 h03 hm5 hmc hm5' hmc'
    go_wp2
    go_ret2
    exact HT.out
  | false =>
    go_wp2_with fail
    rw [show (1 : Int) + (x : Int) = ((x + 1 : Nat) : Int) from by omega]
    refine (l8Perm_ok g A n c l (x + 1) _ ok3 (by omega) (by omega)).mono ?_
    rintro e w4 ⟨gp, cP, L, rfl, hown, ok4, ch4⟩
    have z4 := ch4.size
    have hmc := own_cap hown
    have hL := hown.1
    rw [ints_length, Nat.mul_one] at hL
    have fP := Fr.of_own hown
    clear hown
    go_wp2_with fail
    first
    | (refine (l8Perm_ok g A n c l (x + 1) _ ok4 (by omega) (by omega)).mono ?_)
    | (rw [show (1 : Int) + (x : Int) = ((x + 1 : Nat) : Int) from by omega]; refine (l8Perm_ok g A n c l (x + 1) _ ok4 (by omega) (by omega)).mono ?_)
    rintro e w5 ⟨gp', cP', L', rfl, hown', ok5, ch5⟩
    have z5 := ch5.size
    have hmc' := own_cap hown'
    have hL' := hown'.1
    rw [ints_length, Nat.mul_one] at hL'
    have fP' := Fr.of_own hown'
    clear hown'
    have HT : Hid (TwoRows w w5 (.returned (.tuple #[.slice (some ⟨gp, 0, none⟩) (x + 1) cP, .slice (some ⟨gp', 0, none⟩) (x + 1) cP']))) := ⟨_, _, x + 1, cP, x + 1, cP', L, L', rfl, ⟨hL, by omega, hmc⟩, ⟨hL', by omega, hmc'⟩, (fP.chg ch5 (.inr (by omega))).mono (by omega) (by omega), fP'.mono (by omega) (Nat.le_refl _), (h03.chg ch4 hg).chg ch5 hg⟩
    clear hL hL' fP fP' ok4 ok5 ch4 ch5 ok3 h03 hmc hmc'
    go_wp2
    go_ret2
    exact HT.out
end Go.Proofs.Ytjhnhmjnhnighaa
