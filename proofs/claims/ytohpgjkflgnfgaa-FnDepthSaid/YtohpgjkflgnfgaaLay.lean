/-
  Contracts of CircuitLayers: plain definitions. No conditions.
-/
import Derived.Test.YtohpgjkflgnfgaaMeet
import Derived.Test.YtohpgjkflgnfgaaRows2
set_option linter.unusedSimpArgs false
set_option linter.unusedVariables false
namespace Go.Proofs.Ytohpgjkflgnfgaa
open Go.RowKit
def gAt (L : List Int) (j : Nat) : List Int := [L.getD (j * 4) 0, L.getD (j * 4 + 1) 0, L.getD (j * 4 + 2) 0, L.getD (j * 4 + 3) 0]
def rowAny (R Q : List Int) : Bool := anyM R Q (R.length / 4)
def findAt (LL : List (List Int)) (Q : List Int) : Nat → Nat
  | 0 => 0
  | k + 1 => if rowAny (LL.getD k []) Q = true then k + 1 else findAt LL Q k
def growL (LL : List (List Int)) (k : Nat) : List (List Int) := if k = LL.length then LL ++ [[]] else LL
def putG (LL : List (List Int)) (k : Nat) (g : List Int) : List (List Int) := (growL LL k).set k ((growL LL k).getD k [] ++ g)
def layStep (LL : List (List Int)) (L : List Int) (j : Nat) : List (List Int) := putG LL (findAt LL (qAt L j) LL.length) (gAt L j)
def layersTo (L : List Int) : Nat → List (List Int)
  | 0 => []
  | j + 1 => layStep (layersTo L j) L j
theorem findAt_le (LL : List (List Int)) (Q : List Int) : ∀ k, findAt LL Q k ≤ k
  | 0 => Nat.le_refl _
  | k + 1 => by have := findAt_le LL Q k; simp only [findAt]; split <;> omega
theorem growL_len (LL : List (List Int)) (k : Nat) (hk : k ≤ LL.length) : k < (growL LL k).length := by
  unfold growL; split
  · simp; omega
  · omega
theorem putG_len (LL : List (List Int)) (k : Nat) (g : List Int) : (putG LL k g).length = if k = LL.length then LL.length + 1 else LL.length := by
  unfold putG growL; split <;> simp
theorem layersTo_len (L : List Int) : ∀ j, (layersTo L j).length ≤ j
  | 0 => Nat.le_refl _
  | j + 1 => by have := layersTo_len L j; simp only [layersTo, layStep, putG_len]; split <;> omega
theorem growL_getD (LL : List (List Int)) (k i : Nat) : (growL LL k).getD i [] = LL.getD i [] := by
  unfold growL
  split
  · simp only [List.getD_eq_getElem?_getD]
    rcases Nat.lt_or_ge i LL.length with h | h
    · rw [List.getElem?_append_left h]
    · rw [List.getElem?_append_right h, List.getElem?_eq_none (l := LL) h]
      cases i - LL.length <;> simp
  · rfl
theorem putG_getD (LL : List (List Int)) (k i : Nat) (g : List Int) (hk : k ≤ LL.length) : (putG LL k g).getD i [] = if i = k then LL.getD k [] ++ g else LL.getD i [] := by
  unfold putG
  split
  · rename_i h
    subst h
    rw [growL_getD, List.getD_eq_getElem?_getD, List.getElem?_set_self (growL_len LL _ hk)]
    rfl
  · rename_i h
    rw [List.getD_eq_getElem?_getD, List.getElem?_set_ne (fun e => h e.symm), ← List.getD_eq_getElem?_getD, growL_getD]
/-- No row of the layers is longer than the gates so far. -/
theorem layersTo_row (L : List Int) : ∀ j i, ((layersTo L j).getD i []).length ≤ j * 4
  | 0, i => by simp [layersTo]
  | j + 1, i => by
    have := layersTo_row L j i
    rw [layersTo, layStep, putG_getD _ _ _ _ (findAt_le _ _ _)]
    split
    · rename_i h; subst h
      rw [List.length_append]; simp only [gAt, List.length_cons, List.length_nil]; omega
    · omega
end Go.Proofs.Ytohpgjkflgnfgaa
