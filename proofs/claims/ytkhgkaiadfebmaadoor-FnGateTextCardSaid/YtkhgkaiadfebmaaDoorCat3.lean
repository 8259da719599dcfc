/-
  The contract of the reference's ConcatCircuits. Conditions: the slices read as rows.
-/
import Derived.Test.YtkhgkaiadfebmaaDoorCat2
set_option linter.unusedSimpArgs false
set_option linter.unusedVariables false
namespace Go.Proofs.YtkhgkaiadfebmaaDoor
open Go.RowKit
theorem Fr.set2 {w : World} {lo hi C : Nat} {G : Option Addr} {xs : List Value} (f : Fr w lo hi G xs) (hC : C + 1 ≤ lo) (x y : Value) : Fr ((w.setCell ⟨C, 0, none⟩ x).setCell ⟨C, 1, none⟩ y) lo hi G xs :=
  f.chg (((Chg.refl w C (C + 1)).setCell (p := ⟨C, 0, none⟩) (Nat.le_refl _) (Nat.lt_succ_self _) x).setCell (p := ⟨C, 1, none⟩) (Nat.le_refl _) (Nat.lt_succ_self _) y) (.inr hC)
theorem size_set2 (w : World) (C : Nat) (x y : Value) : ((w.setCell ⟨C, 0, none⟩ x).setCell ⟨C, 1, none⟩ y).heap.size = w.heap.size := by simp [World.setCell]
theorem size_new {w v : World} {o : Obj} (h : Ext (w.alloc o) v) : w.heap.size + 1 ≤ v.heap.size := by have := h.size; rwa [World.size_alloc] at this
theorem own_other {w : World} {base : Nat} {e : TypeId} {size n : Nat} {v : Value} {xs : List Value} {g : Nat} {cs : Array Value} {t : TypeId} (h : w.ownsRow base e size v n xs) (hg : w.heap[g]? = some (.cells cs t (0, 0))) (hne : t ≠ e) : v.ownBlock ≠ some g := by
  obtain ⟨hl, ⟨rfl, h0⟩ | ⟨g', cap, cur, rfl, hb, hh, _⟩⟩ := h
  · simp [Value.ownBlock]
  · intro e
    simp [Value.ownBlock] at e
    subst e
    rw [hg] at hh
    injection hh with hh
    injection hh with _ hh
    exact hne hh
theorem step_append_rd0 {P : Program} {w : World} {ops : Array Oper} {o : Oper} {a : Act} {K : Act → World → Prop} {Q : Exit → Act → World → Prop} {E : Prop} (hgd : o.guard = none) (s x : Operand) (t : TypeId)
    (ho : o.op = .call { callee := .builtin .append, args := #[s, x], argTypes := #[t, t] })
    (base : Nat) (e : TypeId) (i : TypeInfo) (z : Value) (size bytes : Nat) (ht : P.underlying t = some (.slice e)) (hi : P.info? e = some i) (hz : i.zero = some z)
    (hsize : i.size = size) (hby : i.bytes = bytes) (hzs : z.cells.size = size) (hsz : 0 < size)
    (v : Value) (hs : a.eval s = v) (hown : w.ownsRow base e size v 0 [])
    (A : Option Addr) (m c : Nat) (news : List Value) (hx : a.eval x = .slice A m c) (hl : news.length = m * size) (rd : Rd w A news) (hsrc : A = none → m = 0 ∧ c = 0) (h1 : ∀ u ∈ news, u.oneCell' = true)
    (h63 : m ≤ maxLen) (hbytes : m * bytes ≤ 140737488355328) (hbase : base ≤ w.heap.size)
    (h0 : ∀ G cG w', w'.ownsRow base e size (.slice G m cG) m news → (∀ a0, Ext a0 w → a0.heap.size ≤ base → Ext a0 w') → (∀ g o, w.heap[g]? = some o → v.ownBlock ≠ some g → w'.heap[g]? = some o) → K (a.put o.dst (.slice G m cG)) w') :
    if Region.wanted o (yielded ops a.tmps) = true then Oper.wp P o a w K Q else E := by
  refine step_append_rd hgd s x t ho base e i z size bytes ht hi hz hsize hby hzs hsz v 0 [] hs hown A m c news hx hl rd hsrc h1 (by omega) (by simpa using hbytes) hbase ?_
  intro G cG w' h2 h3 h4
  simp only [Nat.zero_add, List.nil_append] at h2 ⊢
  exact h0 G cG w' h2 h3 h4
end Go.Proofs.YtkhgkaiadfebmaaDoor
