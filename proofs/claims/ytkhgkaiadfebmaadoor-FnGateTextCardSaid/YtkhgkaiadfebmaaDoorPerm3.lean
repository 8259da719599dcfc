/-
  Contracts of IsPermutation. Conditions: the slice reads as a list.
-/
import Derived.Test.YtkhgkaiadfebmaaDoorPerm2
set_option linter.unusedSimpArgs false
set_option linter.unusedVariables false
namespace Go.Proofs.YtkhgkaiadfebmaaDoor
open Go.RowKit

theorem Blk.set_ {w : World} {g : Nat} {cs : Array Value} (x : Blk w g cs) (i : Nat) (u : Value) : Blk (w.setCell ⟨g, i, none⟩ u) g (cs.setIfInBounds i u) := by
  obtain ⟨t, ht⟩ := x
  exact ⟨t, by simp [World.setCell, Array.getElem?_modify, ht]⟩

def isPerm (l : List Int) : Bool := decide (1 ≤ l.length ∧ l.length ≤ 4 ∧ (∀ x ∈ l, 0 ≤ x ∧ x < l.length) ∧ l.Nodup)
theorem isPerm_iff (l : List Int) : isPerm l = true ↔ 1 ≤ l.length ∧ l.length ≤ 4 ∧ (∀ x ∈ l, 0 ≤ x ∧ x < l.length) ∧ l.Nodup := by simp [isPerm]
theorem isPerm_len {l : List Int} (h : ¬ (1 ≤ l.length ∧ l.length ≤ 4)) : isPerm l = false := by
  cases hb : isPerm l
  · rfl
  · have := (isPerm_iff l).1 hb; omega
theorem getD_mem {l : List Int} {j : Nat} (h : j < l.length) : l.getD j 0 ∈ l := by simp [List.getD, h]
theorem isPerm_range {l : List Int} {j : Nat} (h : j < l.length) (hx : ¬ (0 ≤ l.getD j 0 ∧ l.getD j 0 < l.length)) : isPerm l = false := by
  cases hb : isPerm l
  · rfl
  · exact absurd (((isPerm_iff l).1 hb).2.2.1 _ (getD_mem h)) hx
theorem nodup_take_succ {l : List Int} {j : Nat} (h : j < l.length) : (l.take (j + 1)).Nodup ↔ (l.take j).Nodup ∧ ¬ l.getD j 0 ∈ l.take j := by
  rw [take_getD l j h, List.nodup_append]
  constructor
  · rintro ⟨h1, _, h3⟩; exact ⟨h1, fun hm => h3 _ hm _ (by simp) rfl⟩
  · rintro ⟨h1, h2⟩; exact ⟨h1, by simp, fun a ha b hb => by simp at hb; subst hb; rintro rfl; exact h2 ha⟩
theorem isPerm_dup {l : List Int} {j : Nat} (h : j < l.length) (hx : l.getD j 0 ∈ l.take j) : isPerm l = false := by
  cases hb : isPerm l
  · rfl
  · have h1 := ((isPerm_iff l).1 hb).2.2.2
    have h2 : (l.take (j + 1)).Nodup := (List.take_sublist (j + 1) l).nodup h1
    exact absurd hx ((nodup_take_succ h).1 h2).2
theorem isPerm_done {l : List Int} (h1 : 1 ≤ l.length) (h4 : l.length ≤ 4) (hr : ∀ x ∈ l.take l.length, 0 ≤ x ∧ x < l.length) (hn : (l.take l.length).Nodup) : isPerm l = true := by
  rw [List.take_length] at hr hn
  exact (isPerm_iff l).2 ⟨h1, h4, hr, hn⟩
theorem range_take_succ {l : List Int} {j : Nat} {n : Int} (h : j < l.length) (hr : ∀ x ∈ l.take j, 0 ≤ x ∧ x < n) (hx : 0 ≤ l.getD j 0 ∧ l.getD j 0 < n) : ∀ x ∈ l.take (j + 1), 0 ≤ x ∧ x < n := by
  intro x hx'
  rw [mem_take_succ h] at hx'
  rcases hx' with h1 | h1
  · exact hr x h1
  · subst h1; exact hx

theorem quiet_l {P : Program} {f : FuncId} {args : Array Value} {w : World} {n : Nat} {v : Value}
    (h : Calls P f args (w.drewN n) fun e w' => e = .returned v ∧ w.drewN n = w') : Calls P f args (w.drewN n) fun e w'' => e = .returned v ∧ ∃ m, w'' = w.drewN m :=
  h.mono fun _ _ ⟨he, hm⟩ => ⟨he, n, hm.symm⟩
theorem Rd.take {w : World} {A : Option Addr} {l : List Int} (h : Rd w A (ints l)) (j : Nat) : Rd w A (ints (l.take j)) := fun hn => by
  obtain ⟨g, off, e, hc⟩ := h (by rintro h0; apply hn; cases l <;> simp_all [ints])
  refine ⟨g, off, e, fun i u hu => hc i u ?_⟩
  unfold ints at hu ⊢
  rw [List.map_take, List.getElem?_take] at hu
  split at hu
  · exact hu
  · cases hu

end Go.Proofs.YtkhgkaiadfebmaaDoor
