/-
  Words for memory, over any program: a world that only grew (Ext), a slice that reads as cells (Rd), a slice in new memory (Fr). No conditions.
-/
import Derived.Test.YtkhgkaiadfebmaaDoorRows
import Derived.WalkKit
import Derived.ProofKit
import Derived.OpenShut
import Derived.ShutString
import Derived.ChangeOld
import Derived.Below
import Derived.Lib.Hide
import Derived.Deep.Draws
import Derived.Laws.OwnMore
import Derived.Laws.Rows
set_option linter.unusedSimpArgs false
set_option linter.unusedVariables false
namespace Go.Proofs.YtkhgkaiadfebmaaDoor
open Go.RowKit

theorem ret_int {k : IntKind} {a b : Int} (h : a = b) : Ending.returned (.int k a) = .returned (.int k b) := by rw [h]
theorem ret_bool {a b : Bool} (h : a = b) : Ending.returned (.bool a) = .returned (.bool b) := by rw [h]

/-- b is a with new blocks: nothing that was there has changed. -/
def Ext (a b : World) : Prop := Below a.heap.size a b

theorem Ext.refl (a : World) : Ext a a := Below.refl _ _
theorem Ext.size {a b : World} (h : Ext a b) : a.heap.size ≤ b.heap.size := Below.size h
theorem Ext.below {a b : World} (h : Ext a b) : Below a.heap.size a b := h
theorem Ext.trans {a b c : World} (h : Ext a b) (k : Ext b c) : Ext a c := Below.trans h (Below.mono k (Below.size h))
theorem Ext.alloc {a b : World} (h : Ext a b) (o : Obj) : Ext a (b.alloc o) := Below.alloc h (Below.size h) o
theorem Ext.drew {a b : World} (h : Ext a b) : Ext a b.drew := Below.drew h
theorem Ext.drewN {a b : World} (h : Ext a b) (n : Nat) : Ext a (b.drewN n) := ⟨h.os, h.tape, h.output, h.size, h.block⟩
theorem Ext.setCell {a b : World} (h : Ext a b) {p : Addr} (hp : a.heap.size ≤ p.block) (u : Value) : Ext a (b.setCell p u) := Below.setCell h hp u
theorem Ext.grown {a b c : World} {row : Option Nat} (h : Ext a b) (hg : b.grownBy c row) (hr : ∀ k, row = some k → a.heap.size ≤ k) : Ext a c :=
  Below.grown h hg h.size hr
theorem Ext.blk {a b : World} (h : Ext a b) {g : Nat} {o : Obj} (ho : a.heap[g]? = some o) : b.heap[g]? = some o := by
  have hg : g < a.heap.size := by
    rcases Nat.lt_or_ge g a.heap.size with hlt | hge
    · exact hlt
    · rw [Array.getElem?_eq_none hge] at ho; cases ho
  exact (h.block g hg).trans ho
theorem lt_of_cell {w : World} {p : Addr} {v : Value} (h : w.cell? p = some v) : p.block < w.heap.size := by
  rcases Nat.lt_or_ge p.block w.heap.size with hlt | hge
  · exact hlt
  · simp [World.cell?, Array.getElem?_eq_none hge] at h
theorem Ext.cell {a b : World} (h : Ext a b) {p : Addr} {v : Value} (hc : a.cell? p = some v) : b.cell? p = some v :=
  (Below.cell h (lt_of_cell hc)).trans hc

/-- Block g is just the cells cs, none frozen. -/
def Blk (w : World) (g : Nat) (cs : Array Value) : Prop := ∃ t, w.heap[g]? = some (.cells cs t (0, 0))
theorem Blk.new (w : World) (t : TypeId) (cs : Array Value) : Blk (w.alloc (.cells cs t)) w.heap.size cs := ⟨t, heap_alloc_new w _⟩
theorem Blk.ext {a b : World} {g : Nat} {cs : Array Value} (x : Blk a g cs) (h : Ext a b) : Blk b g cs := by
  obtain ⟨t, ht⟩ := x
  exact ⟨t, h.blk ht⟩
theorem Blk.to {a b c : World} {g : Nat} {cs : Array Value} (x : Blk a g cs) (h : Ext b c) (hab : Ext a b) : Blk c g cs := x.ext (hab.trans h)
theorem Blk.all {w : World} {g : Nat} {cs : Array Value} (x : Blk w g cs) : (∀ i, w.cell? ⟨g, i, none⟩ = cs[i]?) ∧ (∀ i, w.frozen? ⟨g, i, none⟩ = false) ∧ g < w.heap.size := by
  obtain ⟨t, ht⟩ := x
  refine ⟨fun i => cell_of_row w g i cs t (0, 0) ht, fun i => by simp [World.frozen?, ht], ?_⟩
  rcases Nat.lt_or_ge g w.heap.size with hlt | hge
  · exact hlt
  · rw [Array.getElem?_eq_none hge] at ht; cases ht

/-- The slice with address A reads as the cells xs (of an empty one nothing is said). -/
def Rd (w : World) (A : Option Addr) (xs : List Value) : Prop :=
  xs ≠ [] → ∃ g off, A = some ⟨g, off, none⟩ ∧ ∀ j u, xs[j]? = some u → w.cell? ⟨g, off + j, none⟩ = some u
theorem Rd.nil (w : World) (A : Option Addr) : Rd w A [] := fun h => absurd rfl h
theorem Rd.ext {a b : World} {A : Option Addr} {xs : List Value} (h : Rd a A xs) (he : Ext a b) : Rd b A xs := fun hn => by
  obtain ⟨g, off, e, hc⟩ := h hn
  exact ⟨g, off, e, fun j u hu => he.cell (hc j u hu)⟩
theorem Rd.drew {w : World} {A : Option Addr} {xs : List Value} (h : Rd w A xs) : Rd w.drew A xs := h
theorem Rd.drewN {w : World} {A : Option Addr} {xs : List Value} (h : Rd w A xs) (n : Nat) : Rd (w.drewN n) A xs := h

/-- The slice with address A lies in a block from lo on and before hi, not frozen, and reads as the cells xs. -/
def Fr (w : World) (lo hi : Nat) (A : Option Addr) (xs : List Value) : Prop :=
  xs ≠ [] → ∃ g off cur t, A = some ⟨g, off, none⟩ ∧ lo ≤ g ∧ g < hi ∧ w.heap[g]? = some (.cells cur t (0, 0)) ∧ ∀ j u, xs[j]? = some u → cur[off + j]? = some u
theorem Fr.nil (w : World) (lo hi : Nat) (A : Option Addr) : Fr w lo hi A [] := fun h => absurd rfl h
theorem Fr.rd {w : World} {lo hi : Nat} {A : Option Addr} {xs : List Value} (h : Fr w lo hi A xs) : Rd w A xs := fun hn => by
  obtain ⟨g, off, cur, t, e, _, _, hh, hc⟩ := h hn
  exact ⟨g, off, e, fun j u hu => (cell_of_row w g (off + j) cur t (0, 0) hh).trans (hc j u hu)⟩
theorem Fr.ext {a b : World} {lo hi : Nat} {A : Option Addr} {xs : List Value} (h : Fr a lo hi A xs) (he : Ext a b) : Fr b lo hi A xs := fun hn => by
  obtain ⟨g, off, cur, t, e, hb, hb', hh, hc⟩ := h hn
  exact ⟨g, off, cur, t, e, hb, hb', he.blk hh, hc⟩
theorem Fr.mono {w : World} {lo hi lo' hi' : Nat} {A : Option Addr} {xs : List Value} (h : Fr w lo hi A xs) (hb : lo' ≤ lo) (hb' : hi ≤ hi') : Fr w lo' hi' A xs := fun hn => by
  obtain ⟨g, off, cur, t, e, h1, h2, hh, hc⟩ := h hn
  exact ⟨g, off, cur, t, e, Nat.le_trans hb h1, Nat.lt_of_lt_of_le h2 hb', hh, hc⟩
theorem lt_of_blk {w : World} {g : Nat} {o : Obj} (h : w.heap[g]? = some o) : g < w.heap.size := by
  rcases Nat.lt_or_ge g w.heap.size with hlt | hge
  · exact hlt
  · rw [Array.getElem?_eq_none hge] at h; cases h
theorem Fr.of_own {w : World} {base : Nat} {e : TypeId} {size n c : Nat} {A : Option Addr} {xs : List Value} (h : w.ownsRow base e size (.slice A n c) n xs) : Fr w base w.heap.size A xs := fun hn => by
  obtain ⟨hl, ⟨_, h0⟩ | ⟨g, cap, cur, hv, hb, hh, _, _, _, hx⟩⟩ := h
  · subst h0; simp at hl; exact absurd hl hn
  · injection hv with hA
    refine ⟨g, 0, cur, e, hA, hb, lt_of_blk hh, hh, fun j u hu => ?_⟩
    rw [← hx] at hu
    rw [Nat.zero_add, ← Array.getElem?_toList]
    rw [List.getElem?_take] at hu
    split at hu
    · exact hu
    · cases hu

theorem own_new {w : World} {g base : Nat} {e : TypeId} {size : Nat} (cur : Array Value) (cap : Nat) (hg : g = w.heap.size) (hb : base ≤ g) (hm : cap ≤ maxLen) (hs : cur.size = cap * size) :
    (w.alloc (.cells cur e)).ownsRow base e size (.slice (some ⟨g, 0, none⟩) 0 cap) 0 [] := by
  subst hg; exact World.ownsRow_made w cur cap hb hm hs
theorem own_form {w : World} {base : Nat} {e : TypeId} {size n : Nat} {v : Value} {xs : List Value} (h : w.ownsRow base e size v n xs) : ∃ A c, v = .slice A n c := by
  obtain ⟨_, ⟨rfl, rfl⟩ | ⟨g, cap, cur, rfl, _⟩⟩ := h
  · exact ⟨_, _, rfl⟩
  · exact ⟨_, _, rfl⟩
theorem own_ext {a w w' : World} {base : Nat} {e : TypeId} {size n : Nat} {v : Value} {xs : List Value} (he : Ext a w) (h : w.ownsRow base e size v n xs) (hb : a.heap.size ≤ base) (hg : w.grownBy w' v.ownBlock) : Ext a w' :=
  he.grown hg (fun k hk => Nat.le_trans hb (h.lt k hk).1)
theorem Fr.of_blk {w : World} {lo hi g off : Nat} {cs : Array Value} {xs : List Value} (x : Blk w g cs) (h1 : lo ≤ g) (h2 : g < hi) (hx : ∀ j u, xs[j]? = some u → cs[off + j]? = some u) : Fr w lo hi (some ⟨g, off, none⟩) xs := fun _ => by
  obtain ⟨t, ht⟩ := x
  exact ⟨g, off, cs, t, rfl, h1, h2, ht, hx⟩
theorem Blk.drew {w : World} {g : Nat} {cs : Array Value} (x : Blk w g cs) : Blk w.drew g cs := x
theorem Blk.drewN {w : World} {g : Nat} {cs : Array Value} (x : Blk w g cs) (n : Nat) : Blk (w.drewN n) g cs := x

/-- From a to b: new blocks, and of the old ones only those from lo on and before hi may have changed. -/
structure Chg (a b : World) (lo hi : Nat) : Prop where
  os : b.os = a.os
  tape : b.tape = a.tape
  output : b.output = a.output
  size : a.heap.size ≤ b.heap.size
  block : ∀ k, k < a.heap.size → ¬ (lo ≤ k ∧ k < hi) → b.heap[k]? = a.heap[k]?
theorem Chg.refl (a : World) (lo hi : Nat) : Chg a a lo hi := ⟨rfl, rfl, rfl, Nat.le_refl _, fun _ _ _ => rfl⟩
theorem Chg.trans {a b c : World} {lo hi : Nat} (h : Chg a b lo hi) (k : Chg b c lo hi) : Chg a c lo hi :=
  ⟨k.os.trans h.os, k.tape.trans h.tape, k.output.trans h.output, Nat.le_trans h.size k.size, fun i hi' hn => (k.block i (Nat.lt_of_lt_of_le hi' h.size) hn).trans (h.block i hi' hn)⟩
theorem Chg.of_ext {a b : World} (h : Ext a b) (lo hi : Nat) : Chg a b lo hi := ⟨h.os, h.tape, h.output, h.size, fun k hk _ => h.block k hk⟩
theorem Chg.mono {a b : World} {lo hi lo' hi' : Nat} (h : Chg a b lo hi) (h1 : lo' ≤ lo) (h2 : hi ≤ hi') : Chg a b lo' hi' :=
  ⟨h.os, h.tape, h.output, h.size, fun k hk hn => h.block k hk (fun ⟨x, y⟩ => hn ⟨by omega, by omega⟩)⟩
theorem Chg.setCell {a b : World} {lo hi : Nat} (h : Chg a b lo hi) {p : Addr} (h1 : lo ≤ p.block) (h2 : p.block < hi) (u : Value) : Chg a (b.setCell p u) lo hi :=
  h.trans ⟨rfl, rfl, rfl, by simp [World.setCell], fun k hk hn => Below.heap_setCell b p u k (by rintro rfl; exact hn ⟨h1, h2⟩)⟩
theorem Chg.drew {a b : World} {lo hi : Nat} (h : Chg a b lo hi) : Chg a b.drew lo hi := ⟨h.os, h.tape, h.output, h.size, h.block⟩
theorem Chg.drewN {a b : World} {lo hi : Nat} (h : Chg a b lo hi) (n : Nat) : Chg a (b.drewN n) lo hi := ⟨h.os, h.tape, h.output, h.size, h.block⟩
theorem Chg.alloc {a b : World} {lo hi : Nat} (h : Chg a b lo hi) (o : Obj) : Chg a (b.alloc o) lo hi := h.trans (Chg.of_ext ((Ext.refl b).alloc o) lo hi)
theorem Ext.chg {a b c : World} {lo hi : Nat} (h : Ext a b) (k : Chg b c lo hi) (hlo : a.heap.size ≤ lo) : Ext a c :=
  ⟨k.os.trans h.os, k.tape.trans h.tape, k.output.trans h.output, Nat.le_trans h.size k.size, fun i hi' => (k.block i (Nat.lt_of_lt_of_le hi' h.size) (fun ⟨x, _⟩ => by omega)).trans (h.block i hi')⟩
theorem Fr.chg {a b : World} {lo hi l h : Nat} {A : Option Addr} {xs : List Value} (f : Fr a l h A xs) (k : Chg a b lo hi) (hd : h ≤ lo ∨ hi ≤ l) : Fr b l h A xs := fun hn => by
  obtain ⟨g, off, cur, t, e, h1, h2, hh, hc⟩ := f hn
  exact ⟨g, off, cur, t, e, h1, h2, (k.block g (lt_of_blk hh) (fun ⟨x, y⟩ => by omega)).trans hh, hc⟩
theorem Blk.chg {a b : World} {lo hi g : Nat} {cs : Array Value} (x : Blk a g cs) (k : Chg a b lo hi) (hd : g < lo ∨ hi ≤ g) : Blk b g cs := by
  obtain ⟨t, ht⟩ := x
  exact ⟨t, (k.block g (lt_of_blk ht) (fun ⟨x, y⟩ => by omega)).trans ht⟩
/-- What reads in a world a reads in a later one in which only blocks that are new since a have changed. -/
theorem Rd.old {a b : World} {A : Option Addr} {xs : List Value} (h : Rd a A xs) (he : Ext a b) : Rd b A xs := h.ext he

/-- A slice of ints. -/
def ints (l : List Int) : List Value := l.map (Value.int .i64)
theorem ints_length (l : List Int) : (ints l).length = l.length := by simp [ints]
theorem Fr.int {w : World} {lo hi : Nat} {A : Option Addr} {l : List Int} (h : Fr w lo hi A (ints l)) (hn : 0 < l.length) :
    ∃ g off, A = some ⟨g, off, none⟩ ∧ lo ≤ g ∧ g < hi ∧ (∀ j, j < l.length → w.cell? ⟨g, off + j, none⟩ = some (.int .i64 (l.getD j 0))) ∧ ∀ j, w.frozen? ⟨g, off + j, none⟩ = false := by
  obtain ⟨g, off, cur, t, e, h1, h2, hh, hc⟩ := h (by intro h0; rw [← ints_length, h0] at hn; simp at hn)
  exact ⟨g, off, e, h1, h2, fun j hj => (cell_of_row w g (off + j) cur t (0, 0) hh).trans (hc j _ (by simp [ints, hj])), fun j => by simp [World.frozen?, hh]⟩
theorem Rd.int {w : World} {A : Option Addr} {l : List Int} (h : Rd w A (ints l)) (hn : 0 < l.length) :
    ∃ g off, A = some ⟨g, off, none⟩ ∧ ∀ j, j < l.length → w.cell? ⟨g, off + j, none⟩ = some (.int .i64 (l.getD j 0)) := by
  obtain ⟨g, off, e, hc⟩ := h (by intro h0; rw [← ints_length, h0] at hn; simp at hn)
  exact ⟨g, off, e, fun j hj => hc j _ (by simp [ints, hj])⟩
/-- One int stored into a row of ints in new memory. -/
theorem Fr.set_int {w : World} {lo hi : Nat} {g off : Nat} {l : List Int} (h : Fr w lo hi (some ⟨g, off, none⟩) (ints l)) (j : Nat) (x : Int) (hj : j < l.length) :
    Fr (w.setCell ⟨g, off + j, none⟩ (.int .i64 x)) lo hi (some ⟨g, off, none⟩) (ints (l.set j x)) := fun hn => by
  obtain ⟨g', off', cur, t, e, h1, h2, hh, hc⟩ := h (by intro h0; have := ints_length l; rw [h0] at this; simp at this; omega)
  injection e with e
  injection e with e1 e2
  subst e1 e2
  refine ⟨g, off, cur.setIfInBounds (off + j) (.int .i64 x), t, rfl, h1, h2, ?_, fun i u hu => ?_⟩
  · simp [World.setCell, Array.getElem?_modify, hh]
  · unfold ints at hu
    rw [List.map_set, List.getElem?_set] at hu
    have hcj := hc j (.int .i64 l[j]) (by simp [ints, hj])
    have hlt : off + j < cur.size := by
      rcases Nat.lt_or_ge (off + j) cur.size with hlt | hge
      · exact hlt
      · rw [Array.getElem?_eq_none hge] at hcj; cases hcj
    rw [Array.getElem?_setIfInBounds]
    by_cases hij : j = i
    · subst hij
      simp [hj] at hu
      simp [hlt, hu]
    · rw [if_neg hij] at hu
      rw [if_neg (by omega)]
      exact hc i u hu
end Go.Proofs.YtkhgkaiadfebmaaDoor
