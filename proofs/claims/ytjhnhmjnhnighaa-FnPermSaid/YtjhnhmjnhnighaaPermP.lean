/-
  Plain facts on permutations of up to four places, by looking at each. No conditions.
-/
import Derived.Test.YtjhnhmjnhnighaaPerm5
set_option linter.unusedSimpArgs false
set_option linter.unusedVariables false
namespace Go.Proofs.Ytjhnhmjnhnighaa

def perms : List (List Int) :=
  ((List.range 4).map fun a : Nat => [(a : Int)]) ++ ((List.range 4).flatMap fun a : Nat => (List.range 4).map fun b : Nat => [(a : Int), (b : Int)]) ++
  ((List.range 4).flatMap fun a : Nat => (List.range 4).flatMap fun b : Nat => (List.range 4).map fun c : Nat => [(a : Int), (b : Int), (c : Int)]) ++
  ((List.range 4).flatMap fun a : Nat => (List.range 4).flatMap fun b : Nat => (List.range 4).flatMap fun c : Nat => (List.range 4).map fun d : Nat => [(a : Int), (b : Int), (c : Int), (d : Int)])
def permsOk : List (List Int) := perms.filter isPerm
theorem small_mem {x : Int} (h0 : 0 ≤ x) (h1 : x < 4) : ∃ a : Nat, a < 4 ∧ (a : Int) = x := ⟨x.toNat, by omega, by omega⟩
theorem perm_mem {p : List Int} (h : isPerm p = true) : p ∈ permsOk := by
  refine List.mem_filter.2 ⟨?_, h⟩
  have hp := (isPerm_iff p).1 h
  obtain ⟨h1, h4, hr, _⟩ := hp
  have hx : ∀ x ∈ p, ∃ a : Nat, a < 4 ∧ (a : Int) = x := fun x hx => small_mem (hr x hx).1 (by have := (hr x hx).2; omega)
  clear hr h
  unfold perms
  match p, h1, h4, hx with
  | [x], _, _, hx =>
    obtain ⟨a, ha, rfl⟩ := hx x (by simp)
    exact List.mem_append_left _ (List.mem_append_left _ (List.mem_append_left _ (List.mem_map.2 ⟨a, List.mem_range.2 ha, rfl⟩)))
  | [x, y], _, _, hx =>
    obtain ⟨a, ha, rfl⟩ := hx x (by simp)
    obtain ⟨b, hb, rfl⟩ := hx y (by simp)
    exact List.mem_append_left _ (List.mem_append_left _ (List.mem_append_right _ (List.mem_flatMap.2 ⟨a, List.mem_range.2 ha, List.mem_map.2 ⟨b, List.mem_range.2 hb, rfl⟩⟩)))
  | [x, y, z], _, _, hx =>
    obtain ⟨a, ha, rfl⟩ := hx x (by simp)
    obtain ⟨b, hb, rfl⟩ := hx y (by simp)
    obtain ⟨c, hc, rfl⟩ := hx z (by simp)
    exact List.mem_append_left _ (List.mem_append_right _ (List.mem_flatMap.2 ⟨a, List.mem_range.2 ha, List.mem_flatMap.2 ⟨b, List.mem_range.2 hb, List.mem_map.2 ⟨c, List.mem_range.2 hc, rfl⟩⟩⟩))
  | [x, y, z, u], _, _, hx =>
    obtain ⟨a, ha, rfl⟩ := hx x (by simp)
    obtain ⟨b, hb, rfl⟩ := hx y (by simp)
    obtain ⟨c, hc, rfl⟩ := hx z (by simp)
    obtain ⟨d, hd, rfl⟩ := hx u (by simp)
    exact List.mem_append_right _ (List.mem_flatMap.2 ⟨a, List.mem_range.2 ha, List.mem_flatMap.2 ⟨b, List.mem_range.2 hb, List.mem_flatMap.2 ⟨c, List.mem_range.2 hc, List.mem_map.2 ⟨d, List.mem_range.2 hd, rfl⟩⟩⟩⟩)
def invP (p : List Int) : List Int := invTo p p.length p.length
theorem inv_all : ∀ p ∈ permsOk, composeP p (invP p) = marks 0 p.length ∧ composeP (invP p) p = marks 0 p.length ∧ composeP (marks 0 p.length) p = p := by decide +kernel
theorem inv_facts {p : List Int} (h : isPerm p = true) : composeP p (invP p) = marks 0 p.length ∧ composeP (invP p) p = marks 0 p.length ∧ composeP (marks 0 p.length) p = p := inv_all p (perm_mem h)
theorem pix_all : ∀ p ∈ permsOk, ∀ q ∈ permsOk, p.length = q.length → ∀ i ∈ List.range (2 ^ p.length), pix q (pix p i) = pix (composeP p q) i := by decide +kernel
theorem pix_comp {p q : List Int} (hp : isPerm p = true) (hq : isPerm q = true) (hl : p.length = q.length) {i : Nat} (hi : i < 2 ^ p.length) : pix q (pix p i) = pix (composeP p q) i :=
  pix_all p (perm_mem hp) q (perm_mem hq) hl i (List.mem_range.2 hi)
end Go.Proofs.Ytjhnhmjnhnighaa
