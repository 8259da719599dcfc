/-
  Contracts of ComposePermutations, InversePermutation. Conditions: the slices read as lists.
-/
import Derived.Test.YtkhgkaiadfebmaaDoorPerm3
set_option linter.unusedSimpArgs false
set_option linter.unusedVariables false
namespace Go.Proofs.YtkhgkaiadfebmaaDoor
open Go.RowKit

/-- q after p -/
def compTo (p q : List Int) (j : Nat) : List Int := (p.take j).map fun x => q.getD x.toNat 0
theorem compTo_succ (p q : List Int) (j v : Nat) (hj : j < p.length) (hv : (v : Int) = p.getD j 0) : compTo p q (j + 1) = compTo p q j ++ [q.getD v 0] := by
  unfold compTo
  rw [take_getD p j hj, List.map_append, ← hv]
  simp
theorem compTo_length (p q : List Int) (j : Nat) (hj : j ≤ p.length) : (compTo p q j).length = j := by simp [compTo]; omega
def composeP (p q : List Int) : List Int := if isPerm p = true ∧ isPerm q = true ∧ p.length = q.length then compTo p q p.length else []
theorem perm_at {l : List Int} (h : isPerm l = true) {j : Nat} (hj : j < l.length) : ∃ v : Nat, (v : Int) = l.getD j 0 ∧ v < l.length := by
  have := ((isPerm_iff l).1 h).2.2.1 _ (getD_mem hj)
  exact ⟨(l.getD j 0).toNat, by omega, by omega⟩

theorem own_at {a b : World} {base : Nat} {e : TypeId} {size n : Nat} {v : Value} {xs : List Value} (h : a.ownsRow base e size v n xs) (he : Ext a b) : b.ownsRow base e size v n xs := by
  obtain ⟨hl, h | ⟨g, cap, cur, hv, hb, hh, r⟩⟩ := h
  · exact ⟨hl, .inl h⟩
  · exact ⟨hl, .inr ⟨g, cap, cur, hv, hb, he.blk hh, r⟩⟩
theorem own_base {w : World} {base : Nat} {e : TypeId} {size n : Nat} {v : Value} {xs : List Value} (h : w.ownsRow base e size v n xs) : v = .slice none 0 0 ∨ base ≤ w.heap.size := by
  obtain ⟨_, ⟨h, _⟩ | ⟨g, cap, cur, hv, hb, hh, _⟩⟩ := h
  · exact .inl h
  · have := lt_of_blk hh; exact .inr (by omega)

/-- The inverse, as far as the first j places tell it. -/
def invTo (p : List Int) (n : Nat) : Nat → List Int
  | 0 => List.replicate n 0
  | j + 1 => (invTo p n j).set (p.getD j 0).toNat j
theorem invTo_length (p : List Int) (n : Nat) : ∀ j, (invTo p n j).length = n
  | 0 => by simp [invTo]
  | j + 1 => by simp [invTo, invTo_length p n j]
end Go.Proofs.YtkhgkaiadfebmaaDoor
