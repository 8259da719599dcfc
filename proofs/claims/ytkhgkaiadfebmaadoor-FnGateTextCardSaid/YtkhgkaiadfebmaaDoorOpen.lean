/-
  How the arguments of a law open: their values and cells, out of what can be read as data. No conditions.
-/
import Derived.Test.YtkhgkaiadfebmaaDoorBase
import Derived.Lib.SmallJoins
import Derived.Deep.Slices
import Derived.Deep.Fields
import Derived.ChangeSame
set_option linter.unusedSimpArgs false
set_option linter.unusedVariables false
namespace Go.Proofs.YtkhgkaiadfebmaaDoor
open Go.RowKit Go.ChangeShapes Go.WideShapes Go.Joins Go.Deep

theorem own : ownKnob Tryd.prog.godebug = none := by kernel_rfl
theorem laidOut : laidOutB Tryd.prog = true := by kernel_rfl

section
variable {H : Type} {enc : TypeId × Value → H} {P : Program} {w : World} {base : Nat} {spare : Nat → Bool} {held : Bool}

theorem open_gate {r : Reach} {b0 : Nat} {t : TypeId} {f0 f1 f2 f3 : Field} {v : Value} {d : DataW H} {p : List MemPlace} (hs : P.underlying t = some (.struct #[f0, f1, f2, f3]))
    (hi : P.underlying f0.type = some (.int .i64)) (hone : (oneCellFields P #[f0, f1, f2, f3] && (f1.type == f0.type) && (f2.type == f0.type) && (f3.type == f0.type)) = true) (hC : P.cellsOf t = 4)
    (hv : Value.okWide P w r b0 t v) (h : DataW.Trod enc P w base spare held t v d p) :
    ∃ k a b c : Int, v = .agg #[.int .i64 k, .int .i64 a, .int .i64 b, .int .i64 c] ∧ (Lit.int .i64 k).wf = true ∧ (Lit.int .i64 a).wf = true ∧ (Lit.int .i64 b).wf = true ∧ (Lit.int .i64 c).wf = true := by
  simp only [Bool.and_eq_true, beq_iff_eq] at hone
  obtain ⟨⟨⟨ho, e1⟩, e2⟩, e3⟩ := hone
  obtain ⟨v0, v1, v2, v3, y0, y1, y2, y3, n, rfl, _, _, h0, h1, h2, h3⟩ := open_agg4 hs ho hC hv h
  rw [e1] at h1; rw [e2] at h2; rw [e3] at h3
  obtain ⟨k, q0, _, w0⟩ := DataW.trod_int hi h0
  obtain ⟨a, q1, _, w1⟩ := DataW.trod_int hi h1
  obtain ⟨b, q2, _, w2⟩ := DataW.trod_int hi h2
  obtain ⟨c, q3, _, w3⟩ := DataW.trod_int hi h3
  simp at q0 q1 q2 q3
  subst q0 q1 q2 q3
  exact ⟨k, a, b, c, rfl, w0, w1, w2, w3⟩

theorem flat_at {α β : Type} (f : α → List β) (size : Nat) (hs : 0 < size) : ∀ (l : List α), (∀ a ∈ l, (f a).length = size) → ∀ j u, (l.flatMap f)[j]? = some u → ∃ a, l[j / size]? = some a ∧ (f a)[j % size]? = some u
  | [], _, j, u, h => by simp at h
  | a :: l, hl, j, u, h => by
    rw [List.flatMap_cons] at h
    have ha := hl a (by simp)
    by_cases hj : j < size
    · rw [List.getElem?_append_left (by omega)] at h
      refine ⟨a, ?_, ?_⟩
      · rw [Nat.div_eq_of_lt hj]; rfl
      · rw [Nat.mod_eq_of_lt hj]; exact h
    · rw [List.getElem?_append_right (by omega), ha] at h
      obtain ⟨b, h1, h2⟩ := flat_at f size hs l (fun x hx => hl x (by simp [hx])) (j - size) u h
      have e1 : j / size = (j - size) / size + 1 := Nat.div_eq_sub_div hs (by omega)
      have e2 : j % size = (j - size) % size := Nat.mod_eq_sub_mod (by omega)
      exact ⟨b, by rw [e1, List.getElem?_cons_succ]; exact h1, by rw [e2]; exact h2⟩

theorem rd_of_cells {x : Addr} {xs : List Value} (h : ∀ j u, xs[j]? = some u → w.cell? (x.add j) = some u) : Rd w (some x) xs := fun hn => by
  obtain ⟨b, off, spot⟩ := x
  cases xs with
  | nil => exact absurd rfl hn
  | cons u us =>
    have h0 := h 0 u rfl
    have hspot : spot = none := by simpa [Addr.add] using World.cell?_spot h0
    subst hspot
    refine ⟨b, off, rfl, fun j v hv => ?_⟩
    have := h j v hv
    rwa [show (⟨b, off, none⟩ : Addr).add j = ⟨b, off + j, none⟩ from by unfold Addr.add; split <;> simp_all] at this

theorem list_of {α : Type} (Q : Nat → α → Prop) : ∀ n, (∀ i, i < n → ∃ a, Q i a) → ∃ l : List α, l.length = n ∧ ∀ i a, l[i]? = some a → Q i a
  | 0, _ => ⟨[], rfl, by simp⟩
  | n + 1, h => by
    obtain ⟨l, hl, hq⟩ := list_of Q n (fun i hi => h i (by omega))
    obtain ⟨a, ha⟩ := h n (by omega)
    refine ⟨l ++ [a], by simp [hl], fun i b hb => ?_⟩
    rcases Nat.lt_or_ge i l.length with h1 | h1
    · rw [List.getElem?_append_left h1] at hb; exact hq i b hb
    · rw [List.getElem?_append_right h1] at hb
      have : i = l.length := by
        rcases Nat.lt_or_ge (i - l.length) 1 with h2 | h2
        · omega
        · rw [List.getElem?_eq_none (by simpa using h2)] at hb; cases hb
      subst this
      simp at hb
      subst hb
      rw [hl]; exact ha

/-- A slice that came in, element by element: each element's cells are f of a datum of which Q holds. -/
theorem open_sliceOf {α : Type} (f : α → List Value) (size : Nat) (Q : α → Prop) {t e : TypeId} {A : Option Addr} {n c : Nat} {d : DataW H} {p : List MemPlace} (ht : P.underlying t = some (.slice e)) (hC : P.cellsOf e = size) (hs : 0 < size)
    (hel : ∀ fuel cs x, DataW.trod enc P w base spare held fuel e cs = some x → ∃ a : α, cs = f a ∧ Q a)
    (h : DataW.Trod enc P w base spare held t (.slice A n c) d p) :
    ∃ l : List α, Rd w A (l.flatMap f) ∧ l.length = n ∧ n ≤ maxLen ∧ (∀ a ∈ l, Q a ∧ (f a).length = size) := by
  obtain ⟨fuel, hf⟩ := h
  rcases open_slice ht hf with ⟨hcs, _⟩ | ⟨a, len, cap, m, k, D, Pl, hcs, hb, hl, hm, hmm, hx, hi⟩
  · simp [Value.cells] at hcs
    obtain ⟨rfl, rfl, rfl⟩ := hcs
    exact ⟨[], Rd.nil _ _, rfl, Nat.zero_le _, by simp⟩
  · simp [Value.cells] at hcs
    obtain ⟨rfl, rfl, rfl⟩ := hcs
    have hnm : n ≤ m := by rw [hmm]; split <;> omega
    obtain ⟨l, hll, hq⟩ := list_of (fun i (b : α) => Q b ∧ (f b).length = size ∧ ∀ j u, (f b)[j]? = some u → w.cell? (a.add (i * size + j)) = some u) n (fun i hin => by
      obtain ⟨cs', hc, ht'⟩ := hi i (by omega)
      obtain ⟨b, rfl, hQ⟩ := hel _ _ _ ht'
      rw [hC] at hc
      obtain ⟨_, hcl, hat⟩ := World.cells?_some hc
      refine ⟨b, hQ, hcl, fun j u hu => ?_⟩
      have hj : j < size := by
        rcases Nat.lt_or_ge j size with h1 | h1
        · exact h1
        · rw [List.getElem?_eq_none (by omega)] at hu; cases hu
      rw [← Go.Deep.add_add, hat j hj, hu])
    refine ⟨l, rd_of_cells fun j u hu => ?_, hll, by omega, fun b hb => ?_⟩
    · obtain ⟨b, h1, h2⟩ := flat_at f size hs l (fun b hb => by obtain ⟨i, hib⟩ := List.getElem?_of_mem hb; exact (hq i b hib).2.1) j u hu
      have := (hq _ _ h1).2.2 _ _ h2
      rwa [show j / size * size + j % size = j from by rw [Nat.mul_comm]; exact Nat.div_add_mod j size] at this
    · obtain ⟨i, hib⟩ := List.getElem?_of_mem hb
      exact ⟨(hq i b hib).1, (hq i b hib).2.1⟩

theorem ints_flat (l : List Int) : ints l = l.flatMap (fun x : Int => [Value.int .i64 x]) := by unfold ints; induction l <;> simp_all
theorem open_intS {t e : TypeId} {A : Option Addr} {n c : Nat} {d : DataW H} {p : List MemPlace} (ht : P.underlying t = some (.slice e)) (he : P.underlying e = some (.int .i64)) (hC : P.cellsOf e = 1)
    (h : DataW.Trod enc P w base spare held t (.slice A n c) d p) :
    ∃ l : List Int, Rd w A (ints l) ∧ l.length = n ∧ n ≤ maxLen ∧ ∀ x ∈ l, (Lit.int .i64 x).wf = true := by
  obtain ⟨l, h1, h2, h3, h4⟩ := open_sliceOf (fun x : Int => [.int .i64 x]) 1 (fun x => (Lit.int .i64 x).wf = true) ht hC (by omega) (fun _ _ _ hx => by
    obtain ⟨n, e, _, wn⟩ := DataW.trod_int he hx
    exact ⟨n, e, wn⟩) h
  refine ⟨l, ?_, h2, h3, fun x hx => (h4 x hx).1⟩
  rw [ints_flat]; exact h1

theorem open_token {r : Reach} {b0 : Nat} {t : TypeId} {f0 f1 : Field} {v : Value} {d : DataW H} {p : List MemPlace} (hs : P.underlying t = some (.struct #[f0, f1]))
    (hi : P.underlying f0.type = some (.int .i64)) (hst : P.underlying f1.type = some .string) (hone : oneCellFields P #[f0, f1] = true) (hC : P.cellsOf t = 2)
    (hv : Value.okWide P w r b0 t v) (h : DataW.Trod enc P w base spare held t v d p) :
    ∃ (k : Int) (s : ByteArray), v = .agg #[.int .i64 k, .string s] ∧ (Lit.int .i64 k).wf = true ∧ s.size ≤ maxLen := by
  obtain ⟨v0, v1, y0, y1, n, rfl, _, _, h0, h1⟩ := open_agg2 hs hone hC hv h
  obtain ⟨k, q0, _, w0⟩ := DataW.trod_int hi h0
  obtain ⟨s, q1, _, w1⟩ := DataW.trod_string hst h1
  simp at q0 q1
  subst q0 q1
  exact ⟨k, s, rfl, w0, w1⟩
end
end Go.Proofs.YtkhgkaiadfebmaaDoor
