/-
  ControlledMatrix: plain definitions, and one number of a slice of slices replaced. No conditions.
-/
import Derived.Test.YtkcbkbpjaccpgaaIM
import Derived.Test.YtkcbkbpjaccpgaaQV3
import Derived.Test.YtkcbkbpjaccpgaaQTo
import Derived.WalkLawsBesides
import Derived.Laws.BitsAllLaws
import Derived.Laws.BitsLemmas
import Derived.Laws.StructEq
set_option linter.unusedSimpArgs false
set_option linter.unusedVariables false
namespace Go.Proofs.Ytkcbkbpjaccpgaa
open Go.RowKit
def bitq (x q : Nat) : Nat := x / 2 ^ q % 2
def zero5 (L : List Int) (k : Nat) : Prop := L.getD (k * 5) 0 = 0 ∧ L.getD (k * 5 + 1) 0 = 0 ∧ L.getD (k * 5 + 2) 0 = 0 ∧ L.getD (k * 5 + 3) 0 = 0 ∧ L.getD (k * 5 + 4) 0 = 0
def okAt (q : Nat) (LL : List (List Int)) (i k : Nat) : Prop := bitq i q = bitq k q ∨ zero5 (LL.getD i []) k
def cmRow (q : Nat) (R O : List Int) : Nat → List Int
  | 0 => O
  | k + 1 => if bitq k q = 1 then put5 (cmRow q R O k) k (R.getD (k * 5) 0) (R.getD (k * 5 + 1) 0) (R.getD (k * 5 + 2) 0) (R.getD (k * 5 + 3) 0) (R.getD (k * 5 + 4) 0) else cmRow q R O k
def cmTo (q n : Nat) (LL : List (List Int)) : Nat → List (List Int)
  | 0 => idTo n n
  | i + 1 => (cmTo q n LL i).set i (cmRow q (LL.getD i []) ((cmTo q n LL i).getD i []) n)
def cmOk (q n : Nat) (LL : List (List Int)) : Prop := ∀ i, i < n → ∀ k, k < n → okAt q LL i k
def cmAll (Q : Int) (LL : List (List Int)) (n : Nat) : Prop := vM LL n = true ∧ 0 ≤ Q ∧ Q ≤ qc n - 1 ∧ cmOk Q.toNat n LL
theorem cmRow_length (q : Nat) (R O : List Int) (n : Nat) (hO : O.length = n * 5) : ∀ k, k ≤ n → (cmRow q R O k).length = n * 5
  | 0, _ => hO
  | k + 1, hk => by
    have ih := cmRow_length q R O n hO k (by omega)
    rw [cmRow]
    split
    · rw [put5_length _ _ _ _ _ _ _ (by rw [ih]; omega), ih]
    · exact ih
theorem sq_set {M : List (List Int)} {n j : Nat} {R : List Int} (h : sq M n) (hR : R.length = n * 5) : sq (M.set j R) n := by
  refine ⟨by rw [List.length_set]; exact h.1, fun i S hS => ?_⟩
  by_cases hij : j = i
  · subst hij
    have hj : j < M.length := by have := (List.getElem?_eq_some_iff.1 hS).1; simpa using this
    rw [List.getElem?_set_self hj] at hS
    injection hS with hS
    rw [← hS]; exact hR
  · rw [List.getElem?_set_ne hij] at hS
    exact h.2 i S hS
theorem sq_getD {M : List (List Int)} {n j : Nat} (h : sq M n) (hj : j < n) : (M.getD j []).length = n * 5 := by
  refine h.2 j _ ?_
  simp [List.getD, show j < M.length by rw [h.1]; exact hj]
theorem cmTo_sq (q n : Nat) (LL : List (List Int)) : ∀ i, i ≤ n → sq (cmTo q n LL i) n
  | 0, _ => ⟨idTo_length _ _, idTo_row _ _⟩
  | i + 1, hi => by
    have ih := cmTo_sq q n LL i (by omega)
    exact sq_set ih (cmRow_length _ _ _ _ (sq_getD ih (by omega)) n (Nat.le_refl _))
theorem set_getD_self {M : List (List Int)} {j : Nat} (hj : j < M.length) : M.set j (M.getD j []) = M := by
  apply List.ext_getElem?
  intro i
  by_cases hij : j = i
  · subst hij; rw [List.getElem?_set_self hj]; simp [List.getD, hj]
  · rw [List.getElem?_set_ne hij]
theorem set_at {M : List (List Int)} {j : Nat} {R : List Int} (hj : j < M.length) : (M.set j R).getD j [] = R := by
  simp [List.getD, hj]
/-- One number in a row of a slice of slices in new memory replaced. -/
theorem Fr2.put5 {w w1 : World} {lo hi j g off m c k : Nat} {A : Option Addr} {M : List (List Int)} {vs : List Value} (h : Fr2 w 5 lo hi A M vs) (hj : j < M.length) (hv : vs[j]? = some (.slice (some ⟨g, off, none⟩) m c)) (hm : (M.getD j []).length = m * 5) (hk : k < m) (he : Ext w w1) (p0 p1 p2 p3 p4 : Int) :
    Fr2 (((((w1.setCell ⟨g, off + k * 5, none⟩ (.int .i64 p0)).setCell ⟨g, off + k * 5 + 1, none⟩ (.int .i64 p1)).setCell ⟨g, off + k * 5 + 2, none⟩ (.int .i64 p2)).setCell ⟨g, off + k * 5 + 3, none⟩ (.int .i64 p3)).setCell ⟨g, off + k * 5 + 4, none⟩ (.int .i64 p4)) 5 lo hi A (M.set j (put5 (M.getD j []) k p0 p1 p2 p3 p4)) vs ∧ lo ≤ g := by
  have hR : M[j]? = some (M.getD j []) := by simp [List.getD, hj]
  obtain ⟨l, z, h1, h2, h3, h4⟩ := (h.ext he).upd hR hv
  obtain ⟨g', off', e', l1, l2, _⟩ := h3.int (by omega)
  injection e' with e'
  injection e' with e1 e2
  subst e1 e2
  refine ⟨h4 _ _ (((((Chg.refl w1 l z).setCell (p := ⟨g, _, none⟩) l1 l2 _).setCell (p := ⟨g, _, none⟩) l1 l2 _).setCell (p := ⟨g, _, none⟩) l1 l2 _).setCell (p := ⟨g, _, none⟩) l1 l2 _ |>.setCell (p := ⟨g, _, none⟩) l1 l2 _) (h3.set5 hm hk p0 p1 p2 p3 p4) (put5_length _ _ _ _ _ _ _ (by omega)), by omega⟩
theorem Fr2.nil6 (w : World) (sz lo hi : Nat) (A : Option Addr) : Fr2 w sz lo hi A [] [] :=
  ⟨Fr.nil _ _ _ _, rfl, fun j R hR => by simp at hR, fun i j u v b _ h => by simp at h, fun j u a h => by simp at h⟩
theorem toNat_ofInt6 (a : Nat) (ha : a < 9223372036854775808) : (BitVec.ofInt 64 (a : Int)).toNat = a := by
  rw [BitVec.ofInt_natCast, BitVec.toNat_ofNat]; exact Nat.mod_eq_of_lt (by omega)
theorem bit_and1 (a : Nat) (ha : a < 256) : bits .and .i64 (a : Int) 1 = ((a % 2 : Nat) : Int) := by
  show IntKind.i64.wrap ((BitVec.ofInt 64 (a : Int) &&& BitVec.ofInt 64 ((1 : Nat) : Int)).toNat : Int) = _
  rw [BitVec.toNat_and, toNat_ofInt6 a (by omega), toNat_ofInt6 1 (by omega), Nat.and_one_is_mod]
  exact IntWalk.i64_in _ (by omega)
theorem bit_sh (a q : Nat) (ha : a < 256) : bits .and .i64 ((a : Int) / 2 ^ q) 1 = (bitq a q : Int) := by
  have e1 : ((a : Int) / 2 ^ q) = ((a / 2 ^ q : Nat) : Int) := by simp
  rw [e1, bit_and1 _ (Nat.lt_of_le_of_lt (Nat.div_le_self _ _) ha)]
  rfl
theorem bit_xor (a b : Nat) (ha : a < 16) (hb : b < 16) : bits .xor .i64 (a : Int) (b : Int) = ((a ^^^ b : Nat) : Int) := by
  have hx : a ^^^ b < 2 ^ 4 := Nat.xor_lt_two_pow (by omega) (by omega)
  show IntKind.i64.wrap ((BitVec.ofInt 64 (a : Int) ^^^ BitVec.ofInt 64 (b : Int)).toNat : Int) = _
  rw [BitVec.toNat_xor, toNat_ofInt6 a (by omega), toNat_ofInt6 b (by omega)]
  exact IntWalk.i64_in _ (by omega)
theorem bitq_xor : ∀ a : Fin 16, ∀ b : Fin 16, ∀ q : Fin 4, (bitq (a.1 ^^^ b.1) q.1 = 1 ↔ bitq a.1 q.1 ≠ bitq b.1 q.1) := by decide +kernel
theorem bitq_lt (a q : Nat) : bitq a q = 0 ∨ bitq a q = 1 := by unfold bitq; omega
theorem dom_neq (p0 p1 p2 p3 p4 : Int) (w : World) : (binOp .neq 42 (.agg #[.int .i64 p0, .int .i64 p1, .int .i64 p2, .int .i64 p3, .int .i64 p4]) (.agg #[.int .i64 0, .int .i64 0, .int .i64 0, .int .i64 0, .int .i64 0])).run Try.prog w = .ok (.bool (!decide (p0 = 0 ∧ p1 = 0 ∧ p2 = 0 ∧ p3 = 0 ∧ p4 = 0))) w := by
  rw [run_neq_struct, run_equalIn_struct w 9999 42 _ _ (by kernel_rfl) (by kernel_rfl)]
  simp [go_sem, Program.fieldsOf, Try.underlying42, Try.underlying3]
  by_cases h0 : p0 = 0 <;> by_cases h1 : p1 = 0 <;> by_cases h2 : p2 = 0 <;> by_cases h3 : p3 = 0 <;> by_cases h4 : p4 = 0 <;> simp [h0, h1, h2, h3, h4]
theorem dom_guard : Try.prog.eqGuardType Try.prog.depth 42 = false := by kernel_rfl
end Go.Proofs.Ytkcbkbpjaccpgaa
