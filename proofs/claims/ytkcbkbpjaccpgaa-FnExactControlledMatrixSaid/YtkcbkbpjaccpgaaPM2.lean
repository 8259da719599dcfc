/-
  Contracts of the functions that exchange rows and columns. Conditions: a square of at most 16 rows.
-/
import Derived.Test.YtkcbkbpjaccpgaaPM
import Derived.Outline
set_option linter.unusedSimpArgs false
set_option linter.unusedVariables false
namespace Go.Proofs.Ytkcbkbpjaccpgaa
open Go.RowKit
theorem sq_row {w : World} {A : Option Addr} {LL : List (List Int)} {vs : List Value} {n j : Nat} (h : Rd2 w 5 A LL vs) (hs : sq LL n) (hj : j < n) :
    ∃ g off B c, A = some ⟨g, off, none⟩ ∧ w.cell? ⟨g, off + j, none⟩ = some (.slice B n c) ∧ Rd w B (ints (LL.getD j [])) ∧ (LL.getD j []).length = n * 5 := by
  obtain ⟨g, off, B, m, c, e, h1, h2, h3, h4⟩ := h.look (j := j) (by rw [hs.1]; exact hj)
  have hR : LL[j]? = some (LL.getD j []) := by simp [List.getD, show j < LL.length by rw [hs.1]; exact hj]
  have h5 := hs.2 j _ hR
  obtain rfl : m = n := by omega
  exact ⟨g, off, B, c, e, h1, h4, h5⟩
theorem own_low5 {w : World} {base base' : Nat} {e : TypeId} {size n : Nat} {v : Value} {xs : List Value} (h : w.ownsRow base e size v n xs) (hb : base' ≤ base) : w.ownsRow base' e size v n xs := by
  obtain ⟨h1, h2 | ⟨g, cap, cur, h3, h4, h5⟩⟩ := h
  · exact ⟨h1, .inl h2⟩
  · exact ⟨h1, .inr ⟨g, cap, cur, h3, Nat.le_trans hb h4, h5⟩⟩
theorem one_sl5 (A : Option Addr) (n c : Nat) : ∀ u ∈ (#[Value.slice A n c] : Array Value).toList, u.oneCell' = true := by intro u hu; simp at hu; subst hu; rfl
theorem ints_one5 (L : List Int) : ∀ u ∈ ints L, u.oneCell' = true := by
  intro u hu
  simp only [ints, List.mem_map] at hu
  obtain ⟨x, _, rfl⟩ := hu
  rfl
theorem flip_step (LL : List (List Int)) (n i : Nat) : flipTo LL n (i + 1) = flipTo LL n i ++ [colTo LL i n] := rfl
end Go.Proofs.Ytkcbkbpjaccpgaa
