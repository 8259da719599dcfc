/-
  Appending a row that reads as cells; copies of rows of gates; markCircuit and heldCircuit. Conditions: the slices read as rows.
-/
import Derived.Test.YtkhgkaiadfebmaaDoorGates2
import Derived.Test.YtkhgkaiadfebmaaDoorCirc3
import Derived.Laws.AppendOwnNone
import Derived.Deep.AppendLies
import Derived.Deep.DeepCutAuto
import Derived.Deep.RegionHeld3
set_option linter.unusedSimpArgs false
set_option linter.unusedVariables false
namespace Go.Proofs.YtkhgkaiadfebmaaDoor
open Go.RowKit
theorem wpList_append_rd {P : Program} {w : World} {ops : Array Oper} {rest : List Oper} {o : Oper} {a : Act} {Q : Exit → Act → World → Prop} (hgd : o.guard = none) (s x : Operand) (t : TypeId)
    (ho : o.op = .call { callee := .builtin .append, args := #[s, x], argTypes := #[t, t] })
    (base : Nat) (e : TypeId) (i : TypeInfo) (z : Value) (size bytes : Nat) (ht : P.underlying t = some (.slice e)) (hi : P.info? e = some i) (hz : i.zero = some z)
    (hsize : i.size = size) (hby : i.bytes = bytes) (hzs : z.cells.size = size) (hsz : 0 < size)
    (v : Value) (n : Nat) (xs : List Value) (hs : a.eval s = v) (hown : w.ownsRow base e size v n xs)
    (A : Option Addr) (m c : Nat) (news : List Value) (hx : a.eval x = .slice A m c) (hl : news.length = m * size) (rd : Rd w A news) (hsrc : A = none → m = 0 ∧ c = 0) (h1 : ∀ u ∈ news, u.oneCell' = true)
    (h63 : n + m ≤ maxLen) (hbytes : (n + m) * bytes ≤ 140737488355328) (hbase : base ≤ w.heap.size)
    (h : ∀ v' w', w'.ownsRow base e size v' (n + m) (xs ++ news) → w.grownBy w' v.ownBlock → wpList P ops Q rest (a.put o.dst v') w') : wpList P ops Q (o :: rest) a w := by
  cases A with
  | none =>
    obtain ⟨rfl, rfl⟩ := hsrc rfl
    have hnil : news = [] := by simpa using hl
    subst hnil
    exact wpList_append_own_none hgd s x t ho base e i size ht hi v n xs hs hown hx (h v w (by simpa using hown) ⟨rfl, rfl, rfl, Nat.le_refl _, fun _ _ _ => rfl⟩)
  | some ad =>
    refine wpList_append_own w hgd s x t ho base e i z size bytes ht hi hz hsize hby hzs hsz v n xs hs hown ad m c news hx hl ?_ h1 h63 hbytes hbase (fun v' w' h2 h3 _ => h v' w' h2 h3)
    intro j u hu
    obtain ⟨g, off, e', hc⟩ := rd (by rintro rfl; simp at hu)
    injection e' with e'
    subst e'
    have hcj := hc j u hu
    cases j <;> simpa [Addr.add] using hcj
theorem step_append_rd {P : Program} {w : World} {ops : Array Oper} {o : Oper} {a : Act} {K : Act → World → Prop} {Q : Exit → Act → World → Prop} {E : Prop} (hgd : o.guard = none) (s x : Operand) (t : TypeId)
    (ho : o.op = .call { callee := .builtin .append, args := #[s, x], argTypes := #[t, t] })
    (base : Nat) (e : TypeId) (i : TypeInfo) (z : Value) (size bytes : Nat) (ht : P.underlying t = some (.slice e)) (hi : P.info? e = some i) (hz : i.zero = some z)
    (hsize : i.size = size) (hby : i.bytes = bytes) (hzs : z.cells.size = size) (hsz : 0 < size)
    (v : Value) (n : Nat) (xs : List Value) (hs : a.eval s = v) (hown : w.ownsRow base e size v n xs)
    (A : Option Addr) (m c : Nat) (news : List Value) (hx : a.eval x = .slice A m c) (hl : news.length = m * size) (rd : Rd w A news) (hsrc : A = none → m = 0 ∧ c = 0) (h1 : ∀ u ∈ news, u.oneCell' = true)
    (h63 : n + m ≤ maxLen) (hbytes : (n + m) * bytes ≤ 140737488355328) (hbase : base ≤ w.heap.size)
    (h0 : ∀ G cG w', w'.ownsRow base e size (.slice G (n + m) cG) (n + m) (xs ++ news) → (∀ a0, Ext a0 w → a0.heap.size ≤ base → Ext a0 w') → (∀ g o, w.heap[g]? = some o → v.ownBlock ≠ some g → w'.heap[g]? = some o) → K (a.put o.dst (.slice G (n + m) cG)) w') :
    if Region.wanted o (yielded ops a.tmps) = true then Oper.wp P o a w K Q else E := by
  have h : ∀ v' w', w'.ownsRow base e size v' (n + m) (xs ++ news) → w.grownBy w' v.ownBlock → K (a.put o.dst v') w' := fun v' w' h2 h3 => by
    obtain ⟨G, cG, rfl⟩ := own_form h2
    exact h0 G cG w' h2 (fun a0 ha hb => own_ext ha hown hb h3) (fun g o ht hne => (h3.block g (lt_of_blk ht) (fun e => hne e.symm)).trans ht)
  have hw : Region.wanted o (yielded ops a.tmps) = true := by simp [Region.wanted, hgd]
  rw [if_pos hw]
  cases A with
  | none =>
    obtain ⟨rfl, rfl⟩ := hsrc rfl
    have hnil : news = [] := by simpa using hl
    subst hnil
    have hrun := run_append_owned_none (P := P) (w := w) base t o.type e i size ht hi v n xs hown
    unfold Oper.wp
    simp [execOp, ho, resolve, invoke, builtin, hs, hx, hrun, Result.andThen]
    exact h v w (by simpa using hown) ⟨rfl, rfl, rfl, Nat.le_refl _, fun _ _ _ => rfl⟩
  | some ad =>
    refine wp_append_own w s x t ho base e i z size bytes ht hi hz hsize hby hzs hsz v n xs hs hown ad m c news hx hl ?_ h1 h63 hbytes hbase (fun v' w' h2 h3 _ => h v' w' h2 h3)
    intro j u hu
    obtain ⟨g, off, e', hc⟩ := rd (by rintro rfl; simp at hu)
    injection e' with e'
    subst e'
    have hcj := hc j u hu
    cases j <;> simpa [Addr.add] using hcj
theorem own_low {w : World} {base base' : Nat} {e : TypeId} {size n : Nat} {v : Value} {xs : List Value} (h : w.ownsRow base e size v n xs) (hb : base' ≤ base) : w.ownsRow base' e size v n xs := by
  obtain ⟨h1, h2 | ⟨g, cap, cur, h3, h4, h5⟩⟩ := h
  · exact ⟨h1, .inl h2⟩
  · exact ⟨h1, .inr ⟨g, cap, cur, h3, Nat.le_trans hb h4, h5⟩⟩
theorem heap_set2 {w : World} {g : Nat} {t : TypeId} {a b x y : Value} (h : w.heap[g]? = some (.cells #[a, b] t (0, 0))) : ((w.setCell ⟨g, 0, none⟩ x).setCell ⟨g, 1, none⟩ y).heap[g]? = some (.cells #[x, y] t (0, 0)) := by
  simp [World.setCell, Array.getElem?_modify, h]
theorem heap_set2_ne {w : World} {g k : Nat} {x y : Value} (hk : k ≠ g) : ((w.setCell ⟨g, 0, none⟩ x).setCell ⟨g, 1, none⟩ y).heap[k]? = w.heap[k]? := by
  rw [Below.heap_setCell _ _ _ k (by simpa using hk), Below.heap_setCell _ _ _ k (by simpa using hk)]
theorem Fr.of_own_set {w : World} {base : Nat} {e : TypeId} {size n c : Nat} {A : Option Addr} {xs : List Value} {g : Nat} {cs : Array Value} {t : TypeId} (h : w.ownsRow base e size (.slice A n c) n xs) (hg : w.heap[g]? = some (.cells cs t (0, 0))) (hne : t ≠ e) (x y : Value) :
    Fr ((w.setCell ⟨g, 0, none⟩ x).setCell ⟨g, 1, none⟩ y) base ((w.setCell ⟨g, 0, none⟩ x).setCell ⟨g, 1, none⟩ y).heap.size A xs := fun hn => by
  obtain ⟨hl, ⟨_, h0⟩ | ⟨g', cap, cur, hv, hb, hh, h5, h6, h7, hx⟩⟩ := h
  · subst h0; simp at hl; exact absurd hl hn
  · have hgg : g' ≠ g := by
      rintro rfl
      rw [hg] at hh
      injection hh with hh
      injection hh with _ hh
      exact hne hh
    obtain ⟨g2, off, cur2, t2, e1, e2, e3, e4, e5⟩ := Fr.of_own (A := A) (c := c) ⟨hl, .inr ⟨g', cap, cur, hv, hb, hh, h5, h6, h7, hx⟩⟩ hn
    injection hv with hA
    have e0 := e1
    rw [hA] at e1
    injection e1 with e1
    injection e1 with e1 _
    subst e1
    exact ⟨_, off, cur2, t2, e0, e2, by simpa [World.setCell] using e3, (heap_set2_ne hgg).trans e4, e5⟩
theorem ints_one (L : List Int) : ∀ u ∈ ints L, u.oneCell' = true := by
  intro u hu
  simp only [ints, List.mem_map] at hu
  obtain ⟨x, _, rfl⟩ := hu
  rfl
theorem src_some {w : World} {A : Option Addr} {L : List Int} {n : Nat} (h : Rd w A (ints L)) (hl : L.length = n * 4) : A = none → n = 0 ∧ n = 0 := by
  rintro rfl
  rcases Nat.eq_zero_or_pos n with h0 | h0
  · exact ⟨h0, h0⟩
  · obtain ⟨g, off, e, _⟩ := h.int (by omega)
    cases e
theorem markCircuit_any (N : Int) (A : Option Addr) (n c lo hi : Nat) (L : List Int) (k : Int) (w : World) (hA : Fr w lo hi A (ints L)) (hl : L.length = n * 4) (hn : n ≤ 1048576) (hk0 : 0 ≤ k) (hk1 : k ≤ 2147483648) :
    Calls Tryd.prog 13 #[.agg #[.int .i64 N, .slice A n c], .int .i64 k] w fun e w' => e = .returned (.int .i64 (k + (n : Int) * 4)) ∧ Fr w' lo hi A (ints (marks k (n * 4))) ∧ Chg w w' lo hi := by
  have HL := Lib.hid hl
  clear hl
  go_enter Tryd.func13, Tryd.ntmps13
  go_wp2_with fail
  refine (markGateS_any A n c lo hi L k _ (hA.ext (by repeat (first | exact Ext.refl _ | assumption | refine Ext.alloc ?_ _ | refine Ext.drew ?_ | refine Ext.drewN ?_ _ | refine Ext.trans ?_ (by assumption)))) HL.out hn hk0 hk1).mono ?_
  rintro e w1 ⟨rfl, fA, ch⟩
  have ch' := (Chg.of_ext ((Ext.refl w).alloc (.cells #[.int .i64 N, .slice A n c] 30)) lo hi).trans ch
  clear ch hA
  go_wp2
  go_ret
  exact ⟨rfl, fA, ch'⟩
theorem heldCircuit_any (N : Int) (A : Option Addr) (n c : Nat) (k : Int) (w : World) (hA : Rd w A (ints (marks k (n * 4)))) (hn : n ≤ 1048576) (hk0 : 0 ≤ k) (hk1 : k ≤ 2147483648) :
    Calls Tryd.prog 14 #[.agg #[.int .i64 N, .slice A n c], .int .i64 k] w fun e w' => e = .returned (.int .i64 (k + (n : Int) * 4)) ∧ Ext w w' := by
  have hlt : ¬ (k + (n : Int) * 4 < 0) := by omega
  go_enter Tryd.func14, Tryd.ntmps14
  go_wp2_with fail
  refine (heldGateS_any A n c k _ (hA.ext (by repeat (first | exact Ext.refl _ | assumption | refine Ext.alloc ?_ _ | refine Ext.drew ?_ | refine Ext.drewN ?_ _ | refine Ext.trans ?_ (by assumption)))) hn hk0 hk1).mono ?_
  rintro e w1 ⟨rfl, h1⟩
  go_wp2
  go_ret
  exact ⟨rfl, (by repeat (first | exact Ext.refl _ | assumption | refine Ext.alloc ?_ _ | refine Ext.drew ?_ | refine Ext.drewN ?_ _ | refine Ext.trans ?_ (by assumption)))⟩
end Go.Proofs.YtkhgkaiadfebmaaDoor
