/-
  Words for memory, over any program: a world that only grew (Ext), a slice that reads as cells (Rd), a slice in new memory (Fr). No conditions.
-/
import Derived.Test.YtinhhhnbdpphmaaRows
import Derived.WalkKit
import Derived.ProofKit
import Derived.OpenShut
import Derived.ShutString
import Derived.ChangeOld
import Derived.Below
import Derived.Lib.Hide
import Derived.Deep.Draws
import Derived.Laws.OwnMore
import Derived.Laws.Rows
set_option linter.unusedSimpArgs false
set_option linter.unusedVariables false
namespace Go.Proofs.Ytinhhhnbdpphmaa
open Go.RowKit

theorem ret_int {k : IntKind} {a b : Int} (h : a = b) : Ending.returned (.int k a) = .returned (.int k b) := by rw [h]
theorem ret_bool {a b : Bool} (h : a = b) : Ending.returned (.bool a) = .returned (.bool b) := by rw [h]

/-- b is a with new blocks: nothing that was there has changed. -/
def Ext (a b : World) : Prop := Below a.heap.size a b

theorem Ext.refl (a : World) : Ext a a := Below.refl _ _
theorem Ext.size {a b : World} (h : Ext a b) : a.heap.size ≤ b.heap.size := Below.size h
theorem Ext.below {a b : World} (h : Ext a b) : Below a.heap.size a b := h
theorem Ext.trans {a b c : World} (h : Ext a b) (k : Ext b c) : Ext a c := Below.trans h (Below.mono k (Below.size h))
theorem Ext.alloc {a b : World} (h : Ext a b) (o : Obj) : Ext a (b.alloc o) := Below.alloc h (Below.size h) o
theorem Ext.drew {a b : World} (h : Ext a b) : Ext a b.drew := Below.drew h
theorem Ext.drewN {a b : World} (h : Ext a b) (n : Nat) : Ext a (b.drewN n) := ⟨h.os, h.tape, h.output, h.size, h.block⟩
theorem Ext.setCell {a b : World} (h : Ext a b) {p : Addr} (hp : a.heap.size ≤ p.block) (u : Value) : Ext a (b.setCell p u) := Below.setCell h hp u
theorem Ext.grown {a b c : World} {row : Option Nat} (h : Ext a b) (hg : b.grownBy c row) (hr : ∀ k, row = some k → a.heap.size ≤ k) : Ext a c :=
  Below.grown h hg h.size hr
theorem Ext.blk {a b : World} (h : Ext a b) {g : Nat} {o : Obj} (ho : a.heap[g]? = some o) : b.heap[g]? = some o := by
  have hg : g < a.heap.size := by
    rcases Nat.lt_or_ge g a.heap.size with hlt | hge
    · exact hlt
    · rw [Array.getElem?_eq_none hge] at ho; cases ho
  exact (h.block g hg).trans ho
theorem lt_of_cell {w : World} {p : Addr} {v : Value} (h : w.cell? p = some v) : p.block < w.heap.size := by
  rcases Nat.lt_or_ge p.block w.heap.size with hlt | hge
  · exact hlt
  · simp [World.cell?, Array.getElem?_eq_none hge] at h
theorem Ext.cell {a b : World} (h : Ext a b) {p : Addr} {v : Value} (hc : a.cell? p = some v) : b.cell? p = some v :=
  (Below.cell h (lt_of_cell hc)).trans hc

/-- Block g is just the cells cs, none frozen. -/
def Blk (w : World) (g : Nat) (cs : Array Value) : Prop := ∃ t, w.heap[g]? = some (.cells cs t (0, 0))
theorem Blk.new (w : World) (t : TypeId) (cs : Array Value) : Blk (w.alloc (.cells cs t)) w.heap.size cs := ⟨t, heap_alloc_new w _⟩
theorem Blk.ext {a b : World} {g : Nat} {cs : Array Value} (x : Blk a g cs) (h : Ext a b) : Blk b g cs := by
  obtain ⟨t, ht⟩ := x
  exact ⟨t, h.blk ht⟩
theorem Blk.to {a b c : World} {g : Nat} {cs : Array Value} (x : Blk a g cs) (h : Ext b c) (hab : Ext a b) : Blk c g cs := x.ext (hab.trans h)
theorem Blk.all {w : World} {g : Nat} {cs : Array Value} (x : Blk w g cs) : (∀ i, w.cell? ⟨g, i, none⟩ = cs[i]?) ∧ (∀ i, w.frozen? ⟨g, i, none⟩ = false) ∧ g < w.heap.size := by
  obtain ⟨t, ht⟩ := x
  refine ⟨fun i => cell_of_row w g i cs t (0, 0) ht, fun i => by simp [World.frozen?, ht], ?_⟩
  rcases Nat.lt_or_ge g w.heap.size with hlt | hge
  · exact hlt
  · rw [Array.getElem?_eq_none hge] at ht; cases ht

/-- The slice with address A reads as the cells xs (of an empty one nothing is said). -/
def Rd (w : World) (A : Option Addr) (xs : List Value) : Prop :=
  xs ≠ [] → ∃ g off, A = some ⟨g, off, none⟩ ∧ ∀ j u, xs[j]? = some u → w.cell? ⟨g, off + j, none⟩ = some u
theorem Rd.nil (w : World) (A : Option Addr) : Rd w A [] := fun h => absurd rfl h
theorem Rd.ext {a b : World} {A : Option Addr} {xs : List Value} (h : Rd a A xs) (he : Ext a b) : Rd b A xs := fun hn => by
  obtain ⟨g, off, e, hc⟩ := h hn
  exact ⟨g, off, e, fun j u hu => he.cell (hc j u hu)⟩
theorem Rd.drew {w : World} {A : Option Addr} {xs : List Value} (h : Rd w A xs) : Rd w.drew A xs := h
theorem Rd.drewN {w : World} {A : Option Addr} {xs : List Value} (h : Rd w A xs) (n : Nat) : Rd (w.drewN n) A xs := h

/-- The slice with address A lies in a block from base on, not frozen, and reads as the cells xs. -/
def Fr (w : World) (base : Nat) (A : Option Addr) (xs : List Value) : Prop :=
  xs ≠ [] → ∃ g off cur t, A = some ⟨g, off, none⟩ ∧ base ≤ g ∧ w.heap[g]? = some (.cells cur t (0, 0)) ∧ ∀ j u, xs[j]? = some u → cur[off + j]? = some u
theorem Fr.nil (w : World) (base : Nat) (A : Option Addr) : Fr w base A [] := fun h => absurd rfl h
theorem Fr.rd {w : World} {base : Nat} {A : Option Addr} {xs : List Value} (h : Fr w base A xs) : Rd w A xs := fun hn => by
  obtain ⟨g, off, cur, t, e, _, hh, hc⟩ := h hn
  exact ⟨g, off, e, fun j u hu => (cell_of_row w g (off + j) cur t (0, 0) hh).trans (hc j u hu)⟩
theorem Fr.ext {a b : World} {base : Nat} {A : Option Addr} {xs : List Value} (h : Fr a base A xs) (he : Ext a b) : Fr b base A xs := fun hn => by
  obtain ⟨g, off, cur, t, e, hb, hh, hc⟩ := h hn
  exact ⟨g, off, cur, t, e, hb, he.blk hh, hc⟩
theorem Fr.mono {w : World} {base base' : Nat} {A : Option Addr} {xs : List Value} (h : Fr w base A xs) (hb : base' ≤ base) : Fr w base' A xs := fun hn => by
  obtain ⟨g, off, cur, t, e, hb', hh, hc⟩ := h hn
  exact ⟨g, off, cur, t, e, Nat.le_trans hb hb', hh, hc⟩
theorem Fr.of_own {w : World} {base : Nat} {e : TypeId} {size n c : Nat} {A : Option Addr} {xs : List Value} (h : w.ownsRow base e size (.slice A n c) n xs) : Fr w base A xs := fun hn => by
  obtain ⟨hl, ⟨_, h0⟩ | ⟨g, cap, cur, hv, hb, hh, _, _, _, hx⟩⟩ := h
  · subst h0; simp at hl; exact absurd hl hn
  · injection hv with hA
    refine ⟨g, 0, cur, e, hA, hb, hh, fun j u hu => ?_⟩
    rw [← hx] at hu
    rw [Nat.zero_add, ← Array.getElem?_toList]
    rw [List.getElem?_take] at hu
    split at hu
    · exact hu
    · cases hu

/-- A slice of ints. -/
def ints (l : List Int) : List Value := l.map (Value.int .i64)
theorem ints_length (l : List Int) : (ints l).length = l.length := by simp [ints]
theorem Rd.int {w : World} {A : Option Addr} {l : List Int} (h : Rd w A (ints l)) (hn : 0 < l.length) :
    ∃ g off, A = some ⟨g, off, none⟩ ∧ ∀ j, j < l.length → w.cell? ⟨g, off + j, none⟩ = some (.int .i64 (l.getD j 0)) := by
  obtain ⟨g, off, e, hc⟩ := h (by intro h0; rw [← ints_length, h0] at hn; simp at hn)
  exact ⟨g, off, e, fun j hj => hc j _ (by simp [ints, hj])⟩
end Go.Proofs.Ytinhhhnbdpphmaa
