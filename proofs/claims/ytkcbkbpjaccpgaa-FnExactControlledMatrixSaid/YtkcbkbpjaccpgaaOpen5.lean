/-
  How a slice (of slices) of numbers of D[omega] among a law's arguments opens. No conditions.
-/
import Derived.Test.YtkcbkbpjaccpgaaOpen2
import Derived.Test.YtkcbkbpjaccpgaaOpen4
set_option linter.unusedSimpArgs false
set_option linter.unusedVariables false
namespace Go.Proofs.Ytkcbkbpjaccpgaa
open Go.RowKit Go.ChangeShapes Go.WideShapes Go.Joins Go.Deep
section
variable {H : Type} {enc : TypeId × Value → H} {P : Program} {w : World} {base : Nat} {spare : Nat → Bool} {held : Bool}
/-- A struct of a struct of four int fields and one int field, cell by cell. -/
theorem trod_dom {t ti : TypeId} {f0 f1 : Field} {fs : Array Field} {fuel : Nat} {cs : List Value} {x : DataW H × List MemPlace} (hs : P.underlying t = some (.struct #[f0, f1])) (hs0 : P.underlying f0.type = some (.struct fs)) (hi : P.underlying ti = some (.int .i64)) (hi1 : P.underlying f1.type = some (.int .i64))
    (hone : (oneCellFields P fs && fs.all (fun f => f.type == ti)) = true) (hC : P.cellsOf f0.type = fs.size ∧ fs.size = 4 ∧ P.cellsOf t = 5 ∧ f0.offset = 0 ∧ f1.offset = 4 ∧ P.cellsOf f1.type = 1) (h : DataW.trod enc P w base spare held fuel t cs = some x) :
    ∃ l : List Int, cs = ints l ∧ l.length = 5 ∧ ∀ y ∈ l, (Lit.int .i64 y).wf = true := by
  obtain ⟨c1, c2, c3, c4, c5, c6⟩ := hC
  obtain ⟨y0, y1, n, _, hlen, h0, h1⟩ := trod_struct2 hs h
  rw [c3] at hlen
  rw [c4, c1, c2] at h0
  rw [c5, c6] at h1
  obtain ⟨l, e, hl, hw⟩ := trod_intFields hs0 hi hone c1 h0
  obtain ⟨v, rfl⟩ : ∃ v, cs = ints l ++ [v] := by
    have e1 : cs.take 4 ++ cs.drop 4 = cs := List.take_append_drop 4 cs
    have e2 : (cs.drop 4).length = 1 := by simp; omega
    obtain ⟨v, hv⟩ := List.length_eq_one_iff.1 e2
    rw [List.drop_zero] at e
    exact ⟨v, by rw [← e1, hv, e]⟩
  have e4 : (ints l).length = 4 := by rw [ints_length]; omega
  rw [List.drop_left' e4] at h1
  obtain ⟨k, e5, _, wk⟩ := DataW.trod_int hi1 h1
  simp at e5
  subst e5
  refine ⟨l ++ [k], by simp [ints], by simp; omega, fun y hy => ?_⟩
  rcases List.mem_append.1 hy with hy | hy
  · exact hw y hy
  · rw [List.mem_singleton.1 hy]; exact wk
theorem open_rowsD {t e ti : TypeId} {f0 f1 : Field} {fs : Array Field} {A : Option Addr} {n c : Nat} {d : DataW H} {p : List MemPlace} (ht : P.underlying t = some (.slice e)) (hs : P.underlying e = some (.struct #[f0, f1])) (hs0 : P.underlying f0.type = some (.struct fs)) (hi : P.underlying ti = some (.int .i64)) (hi1 : P.underlying f1.type = some (.int .i64))
    (hone : (oneCellFields P fs && fs.all (fun f => f.type == ti)) = true) (hC : P.cellsOf f0.type = fs.size ∧ fs.size = 4 ∧ P.cellsOf e = 5 ∧ f0.offset = 0 ∧ f1.offset = 4 ∧ P.cellsOf f1.type = 1)
    (h : DataW.Trod enc P w base spare held t (.slice A n c) d p) :
    ∃ L : List Int, Rd w A (ints L) ∧ L.length = n * 5 ∧ n ≤ maxLen ∧ ∀ x ∈ L, (Lit.int .i64 x).wf = true := by
  obtain ⟨l, h1, h2, h3, h4⟩ := open_sliceOf (fun y : List Int => ints y) 5 (fun y => y.length = 5 ∧ ∀ x ∈ y, (Lit.int .i64 x).wf = true) ht hC.2.2.1 (by omega) (fun _ _ _ hx => by
    obtain ⟨y, e, hl, hw⟩ := trod_dom hs hs0 hi hi1 hone hC hx
    exact ⟨y, e, by omega, hw⟩) h
  refine ⟨l.flatMap id, ?_, ?_, h3, ?_⟩
  · rw [← ints_flatMap]; exact h1
  · rw [flat_len id 5 l (fun a ha => (h4 a ha).1.1), h2]
  · intro x hx
    simp only [List.mem_flatMap, id] at hx
    obtain ⟨y, hy, hxy⟩ := hx
    exact (h4 y hy).1.2 x hxy
theorem open_rows2D {t e2 e ti : TypeId} {f0 f1 : Field} {fs : Array Field} {A : Option Addr} {n c : Nat} {d : DataW H} {p : List MemPlace} (ht : P.underlying t = some (.slice e2)) (he2 : P.underlying e2 = some (.slice e)) (hs : P.underlying e = some (.struct #[f0, f1])) (hs0 : P.underlying f0.type = some (.struct fs)) (hi : P.underlying ti = some (.int .i64)) (hi1 : P.underlying f1.type = some (.int .i64))
    (hone : (oneCellFields P fs && fs.all (fun f => f.type == ti)) = true) (hC2 : P.cellsOf e2 = 1) (hC : P.cellsOf f0.type = fs.size ∧ fs.size = 4 ∧ P.cellsOf e = 5 ∧ f0.offset = 0 ∧ f1.offset = 4 ∧ P.cellsOf f1.type = 1)
    (h : DataW.Trod enc P w base spare held t (.slice A n c) d p) :
    ∃ (LL : List (List Int)) (vs : List Value), Rd2 w 5 A LL vs ∧ LL.length = n ∧ n ≤ maxLen ∧ (∀ j, (LL.getD j []).length ≤ maxLen * 5) ∧ ∀ R ∈ LL, ∀ x ∈ R, (Lit.int .i64 x).wf = true := by
  obtain ⟨l, h1, h2, h3, h4⟩ := open_sliceOf (fun a : Value × List Int => [a.1]) 1 (fun a => ∃ B m c, a.1 = .slice B m c ∧ a.2.length = m * 5 ∧ Rd w B (ints a.2) ∧ m ≤ maxLen ∧ ∀ x ∈ a.2, (Lit.int .i64 x).wf = true) ht hC2 (by omega) (fun fuel cs x hx => by
    have hcs : ∃ B m c, cs = [.slice B m c] := by
      rcases open_slice he2 hx with ⟨hcs, _⟩ | ⟨a, len, cap, m, k, D, Pl, hcs, _⟩
      · exact ⟨_, _, _, hcs⟩
      · exact ⟨_, _, _, hcs⟩
    obtain ⟨B, m, c', rfl⟩ := hcs
    obtain ⟨R, r1, r2, r3, r4⟩ := open_rowsD (A := B) (n := m) (c := c') (d := x.1) (p := x.2) he2 hs hs0 hi hi1 hone hC ⟨fuel, by simpa [Value.cells] using hx⟩
    exact ⟨(.slice B m c', R), rfl, B, m, c', rfl, r2, r1, r3, r4⟩) h
  rw [flat_fst] at h1
  refine ⟨l.map Prod.snd, l.map Prod.fst, ⟨h1, by simp, fun j R hR => ?_⟩, by simpa using h2, h3, fun j => ?_, fun R hR => ?_⟩
  · rw [List.getElem?_map, Option.map_eq_some_iff] at hR
    obtain ⟨a, ha, rfl⟩ := hR
    obtain ⟨⟨B, m, c', e1, e2, e3, _⟩, _⟩ := h4 a (List.mem_of_getElem? ha)
    exact ⟨B, m, c', by rw [List.getElem?_map, ha]; simp [e1], e2, e3⟩
  · rw [List.getD_eq_getElem?_getD, List.getElem?_map]
    cases ha : l[j]? with
    | none => simp
    | some a =>
      obtain ⟨⟨B, m, c', e1, e2, e3, e4, _⟩, _⟩ := h4 a (List.mem_of_getElem? ha)
      simp only [Option.map_some, Option.getD_some]
      rw [e2]
      exact Nat.mul_le_mul_right _ e4
  · simp only [List.mem_map] at hR
    obtain ⟨a, ha, rfl⟩ := hR
    obtain ⟨⟨B, m, c', e1, e2, e3, e4, e5⟩, _⟩ := h4 a ha
    exact e5
end
end Go.Proofs.Ytkcbkbpjaccpgaa
