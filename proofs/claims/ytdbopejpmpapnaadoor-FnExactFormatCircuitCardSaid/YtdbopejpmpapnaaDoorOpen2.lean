/-
  How slices of gates and circuits among a law's arguments open. No conditions.
-/
import Derived.Test.YtdbopejpmpapnaaDoorOpen
set_option linter.unusedSimpArgs false
set_option linter.unusedVariables false
namespace Go.Proofs.YtdbopejpmpapnaaDoor
open Go.RowKit Go.ChangeShapes Go.WideShapes Go.Joins Go.Deep

section
variable {H : Type} {enc : TypeId × Value → H} {P : Program} {w : World} {base : Nat} {spare : Nat → Bool} {held : Bool}

theorem ints_flatMap {α : Type} (f : α → List Int) (l : List α) : l.flatMap (fun a => ints (f a)) = ints (l.flatMap f) := by
  induction l with
  | nil => rfl
  | cons a l ih => simp only [List.flatMap_cons, ih]; simp [ints]
theorem flat_len {α : Type} (f : α → List Int) (size : Nat) : ∀ (l : List α), (∀ a ∈ l, (f a).length = size) → (l.flatMap f).length = l.length * size
  | [], _ => by simp
  | a :: l, h => by rw [List.flatMap_cons, List.length_append, h a (by simp), flat_len f size l (fun b hb => h b (by simp [hb]))]; simp [Nat.add_mul]; omega
/-- A struct of int fields, cell by cell. -/
theorem trod_intFields {t ti : TypeId} {fs : Array Field} {fuel : Nat} {cs : List Value} {x : DataW H × List MemPlace} (hs : P.underlying t = some (.struct fs)) (hi : P.underlying ti = some (.int .i64))
    (hone : (oneCellFields P fs && fs.all (fun f => f.type == ti)) = true) (hC : P.cellsOf t = fs.size) (h : DataW.trod enc P w base spare held fuel t cs = some x) :
    ∃ l : List Int, cs = ints l ∧ l.length = fs.size ∧ ∀ y ∈ l, (Lit.int .i64 y).wf = true := by
  simp only [Bool.and_eq_true] at hone
  obtain ⟨ho, hty⟩ := hone
  obtain ⟨xs, n, _, _, hlen, hxl, hf⟩ := DataW.trod_struct hs h
  rw [hC] at hlen
  obtain ⟨l, hl, hq⟩ := list_of (fun i (y : Int) => cs[i]? = some (.int .i64 y) ∧ (Lit.int .i64 y).wf = true) fs.size (fun i hi' => by
    have hfi : fs[i]? = some fs[i] := Array.getElem?_eq_getElem hi'
    obtain ⟨o, k⟩ := hone_of ho i fs[i] hfi
    have h1 := hf i fs[i] hfi
    have ht : fs[i].type = ti := by
      have := Array.all_eq_true.1 hty i hi'
      simpa using this
    rw [o, k, ht] at h1
    have hc : cs[i]? = some (cs[i]'(by omega)) := List.getElem?_eq_getElem (by omega)
    rw [show (cs.drop i).take 1 = [cs[i]'(by omega)] from by rw [List.drop_eq_getElem_cons (by omega)]; rfl] at h1
    have hx : xs[i]? = some (xs[i]'(by omega)) := List.getElem?_eq_getElem (by omega)
    rw [hx] at h1
    obtain ⟨y, e, _, wy⟩ := DataW.trod_int hi h1
    simp at e
    exact ⟨y, by rw [hc, e], wy⟩)
  refine ⟨l, ?_, hl, fun y hy => by obtain ⟨i, hiy⟩ := List.getElem?_of_mem hy; exact (hq i y hiy).2⟩
  apply List.ext_getElem?
  intro i
  unfold ints
  rw [List.getElem?_map]
  rcases Nat.lt_or_ge i fs.size with h1 | h1
  · have : l[i]? = some (l[i]'(by omega)) := List.getElem?_eq_getElem (by omega)
    rw [(hq i _ this).1, this]; rfl
  · rw [List.getElem?_eq_none (by omega), List.getElem?_eq_none (by omega)]; rfl

/-- A slice of structs of int fields is a row of ints. -/
theorem open_rows {t e ti : TypeId} {fs : Array Field} {A : Option Addr} {n c size : Nat} {d : DataW H} {p : List MemPlace} (ht : P.underlying t = some (.slice e)) (hs : P.underlying e = some (.struct fs)) (hi : P.underlying ti = some (.int .i64))
    (hone : (oneCellFields P fs && fs.all (fun f => f.type == ti)) = true) (hC : (P.cellsOf e = fs.size ∧ fs.size = size ∧ 0 < size))
    (h : DataW.Trod enc P w base spare held t (.slice A n c) d p) :
    ∃ L : List Int, Rd w A (ints L) ∧ L.length = n * size ∧ n ≤ maxLen ∧ ∀ x ∈ L, (Lit.int .i64 x).wf = true := by
  obtain ⟨hC1, hC2, hC3⟩ := hC
  obtain ⟨l, h1, h2, h3, h4⟩ := open_sliceOf (fun y : List Int => ints y) size (fun y => y.length = size ∧ ∀ x ∈ y, (Lit.int .i64 x).wf = true) ht (hC1.trans hC2) hC3 (fun _ _ _ hx => by
    obtain ⟨y, e, hl, hw⟩ := trod_intFields hs hi hone hC1 hx
    exact ⟨y, e, by omega, hw⟩) h
  refine ⟨l.flatMap id, ?_, ?_, h3, ?_⟩
  · rw [← ints_flatMap]; exact h1
  · rw [flat_len id size l (fun a ha => (h4 a ha).1.1), h2]
  · intro x hx
    simp only [List.mem_flatMap, id] at hx
    obtain ⟨y, hy, hxy⟩ := hx
    exact (h4 y hy).1.2 x hxy

theorem open_circuit {r : Reach} {b0 : Nat} {t e ti : TypeId} {fs : Array Field} {f0 f1 : Field} {v : Value} {d : DataW H} {p : List MemPlace} (hs : P.underlying t = some (.struct #[f0, f1])) (hi : P.underlying f0.type = some (.int .i64))
    (hsl : P.underlying f1.type = some (.slice e)) (hg : P.underlying e = some (.struct fs)) (hi2 : P.underlying ti = some (.int .i64)) (hone2 : (oneCellFields P fs && fs.all (fun f => f.type == ti)) = true) (hC2 : (P.cellsOf e = fs.size ∧ fs.size = 4))
    (hone : oneCellFields P #[f0, f1] = true) (hC : P.cellsOf t = 2)
    (hv : Value.okWide P w r b0 t v) (h : DataW.Trod enc P w base spare held t v d p) :
    ∃ (N : Int) (A : Option Addr) (n c : Nat) (L : List Int), v = .agg #[.int .i64 N, .slice A n c] ∧ (Lit.int .i64 N).wf = true ∧ Rd w A (ints L) ∧ L.length = n * 4 ∧ n ≤ maxLen ∧ ∀ x ∈ L, (Lit.int .i64 x).wf = true := by
  obtain ⟨v0, v1, y0, y1, n, rfl, _, _, h0, h1⟩ := open_agg2 hs hone hC hv h
  obtain ⟨N, q0, _, w0⟩ := DataW.trod_int hi h0
  simp at q0
  subst q0
  have hv1 : ∃ A n c, v1 = .slice A n c := by
    rcases open_slice hsl h1 with ⟨hcs, _⟩ | ⟨a, len, cap, m, k, D, Pl, hcs, _⟩
    · simp at hcs; exact ⟨_, _, _, hcs⟩
    · simp at hcs; exact ⟨_, _, _, hcs⟩
  obtain ⟨A, m, c, rfl⟩ := hv1
  obtain ⟨L, r1, r2, r3, r4⟩ := open_rows (size := 4) (A := A) (n := m) (c := c) (d := y1.1) (p := y1.2) hsl hg hi2 hone2 ⟨hC2.1, hC2.2, by omega⟩ ⟨n, by simpa [Value.cells] using h1⟩
  exact ⟨N, A, m, c, L, rfl, w0, r1, r2, r3, r4⟩
end
end Go.Proofs.YtdbopejpmpapnaaDoor
