/-
  How a slice of slices of structs of ints among a law's arguments opens. No conditions.
-/
import Derived.Test.YtkcbkbpjaccpgaaOpen2
import Derived.Test.YtkcbkbpjaccpgaaRows2
set_option linter.unusedSimpArgs false
set_option linter.unusedVariables false
namespace Go.Proofs.Ytkcbkbpjaccpgaa
open Go.RowKit Go.ChangeShapes Go.WideShapes Go.Joins Go.Deep
section
variable {H : Type} {enc : TypeId × Value → H} {P : Program} {w : World} {base : Nat} {spare : Nat → Bool} {held : Bool}
theorem flat_fst {α β : Type} : ∀ l : List (α × β), l.flatMap (fun a => [a.1]) = l.map Prod.fst
  | [] => rfl
  | a :: l => by simp [flat_fst l]
theorem open_rows2 {t e2 e ti : TypeId} {fs : Array Field} {A : Option Addr} {n c size : Nat} {d : DataW H} {p : List MemPlace} (ht : P.underlying t = some (.slice e2)) (he2 : P.underlying e2 = some (.slice e)) (hs : P.underlying e = some (.struct fs)) (hi : P.underlying ti = some (.int .i64))
    (hone : (oneCellFields P fs && fs.all (fun f => f.type == ti)) = true) (hC : (P.cellsOf e2 = 1 ∧ P.cellsOf e = fs.size ∧ fs.size = size ∧ 0 < size))
    (h : DataW.Trod enc P w base spare held t (.slice A n c) d p) :
    ∃ (LL : List (List Int)) (vs : List Value), Rd2 w size A LL vs ∧ LL.length = n ∧ n ≤ maxLen ∧ (∀ j, (LL.getD j []).length ≤ maxLen * size) ∧ ∀ R ∈ LL, ∀ x ∈ R, (Lit.int .i64 x).wf = true := by
  obtain ⟨l, h1, h2, h3, h4⟩ := open_sliceOf (fun a : Value × List Int => [a.1]) 1 (fun a => ∃ B m c, a.1 = .slice B m c ∧ a.2.length = m * size ∧ Rd w B (ints a.2) ∧ m ≤ maxLen ∧ ∀ x ∈ a.2, (Lit.int .i64 x).wf = true) ht hC.1 (by omega) (fun fuel cs x hx => by
    have hcs : ∃ B m c, cs = [.slice B m c] := by
      rcases open_slice he2 hx with ⟨hcs, _⟩ | ⟨a, len, cap, m, k, D, Pl, hcs, _⟩
      · exact ⟨_, _, _, hcs⟩
      · exact ⟨_, _, _, hcs⟩
    obtain ⟨B, m, c', rfl⟩ := hcs
    obtain ⟨R, r1, r2, r3, r4⟩ := open_rows (size := size) (A := B) (n := m) (c := c') (d := x.1) (p := x.2) he2 hs hi hone hC.2 ⟨fuel, by simpa [Value.cells] using hx⟩
    exact ⟨(.slice B m c', R), rfl, B, m, c', rfl, r2, r1, r3, r4⟩) h
  rw [flat_fst] at h1
  refine ⟨l.map Prod.snd, l.map Prod.fst, ⟨h1, by simp, fun j R hR => ?_⟩, by simpa using h2, h3, fun j => ?_, fun R hR => ?_⟩
  · rw [List.getElem?_map, Option.map_eq_some_iff] at hR
    obtain ⟨a, ha, rfl⟩ := hR
    obtain ⟨⟨B, m, c', e1, e2, e3, _⟩, _⟩ := h4 a (List.mem_of_getElem? ha)
    exact ⟨B, m, c', by rw [List.getElem?_map, ha]; simp [e1], e2, e3⟩
  · rw [List.getD_eq_getElem?_getD, List.getElem?_map]
    cases ha : l[j]? with
    | none => simp
    | some a =>
      obtain ⟨⟨B, m, c', e1, e2, e3, e4, _⟩, _⟩ := h4 a (List.mem_of_getElem? ha)
      simp only [Option.map_some, Option.getD_some]
      rw [e2]
      exact Nat.mul_le_mul_right _ e4
  · simp only [List.mem_map] at hR
    obtain ⟨a, ha, rfl⟩ := hR
    obtain ⟨⟨B, m, c', e1, e2, e3, e4, e5⟩, _⟩ := h4 a ha
    exact e5
end
end Go.Proofs.Ytkcbkbpjaccpgaa
