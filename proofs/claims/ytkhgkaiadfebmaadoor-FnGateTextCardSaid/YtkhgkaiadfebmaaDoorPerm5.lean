/-
  Contracts of PermuteIndex, and its law's walk. Conditions: the slice reads as a list.
-/
import Derived.Test.YtkhgkaiadfebmaaDoorPerm4
import Derived.WalkLawsBesides
import Derived.Laws.BitsAllLaws
import Derived.Laws.BitsLemmas
set_option linter.unusedSimpArgs false
set_option linter.unusedVariables false
namespace Go.Proofs.YtkhgkaiadfebmaaDoor
open Go.RowKit

theorem toNat_ofInt (a : Nat) (ha : a < 9223372036854775808) : (BitVec.ofInt 64 (a : Int)).toNat = a := by
  rw [BitVec.ofInt_natCast, BitVec.toNat_ofNat]; exact Nat.mod_eq_of_lt (by omega)
theorem bits_or (a b : Nat) (ha : a < 256) (hb : b < 256) : bits .or .i64 (a : Int) (b : Int) = ((a ||| b : Nat) : Int) := by
  have hx : a ||| b < 2 ^ 8 := Nat.or_lt_two_pow (by omega) (by omega)
  show IntKind.i64.wrap ((BitVec.ofInt 64 (a : Int) ||| BitVec.ofInt 64 (b : Int)).toNat : Int) = _
  rw [BitVec.toNat_or, toNat_ofInt a (by omega), toNat_ofInt b (by omega)]
  exact IntWalk.i64_in _ (by omega)
theorem bits_and1 (a : Nat) (ha : a < 256) : bits .and .i64 (a : Int) 1 = ((a % 2 : Nat) : Int) := by
  show IntKind.i64.wrap ((BitVec.ofInt 64 (a : Int) &&& BitVec.ofInt 64 ((1 : Nat) : Int)).toNat : Int) = _
  rw [BitVec.toNat_and, toNat_ofInt a (by omega), toNat_ofInt 1 (by omega), Nat.and_one_is_mod]
  exact IntWalk.i64_in _ (by omega)

/-- The index i with its bits moved, as far as the first j places of p tell it. -/
def pixTo (p : List Int) (i : Nat) : Nat → Nat
  | 0 => 0
  | j + 1 => pixTo p i j ||| (i / 2 ^ j % 2 * 2 ^ (p.getD j 0).toNat)
def pix (p : List Int) (i : Int) : Nat := if isPerm p = true ∧ 0 ≤ i ∧ i < 2 ^ p.length then pixTo p i.toNat p.length else 0
theorem pix_piece {i j v : Nat} (hv : v < 4) : i / 2 ^ j % 2 * 2 ^ v < 16 := by
  have h1 : i / 2 ^ j % 2 < 2 := Nat.mod_lt _ (by omega)
  have h2 : 2 ^ v ≤ 8 := by obtain rfl | rfl | rfl | rfl : v = 0 ∨ v = 1 ∨ v = 2 ∨ v = 3 := by omega
                            all_goals decide
  have h3 := Nat.mul_le_mul (show i / 2 ^ j % 2 ≤ 1 by omega) h2
  omega
theorem pixTo_lt (p : List Int) (i : Nat) (hp : isPerm p = true) : ∀ j, j ≤ p.length → pixTo p i j < 16
  | 0, _ => by simp [pixTo]
  | j + 1, hj => by
    obtain ⟨v, hv, hvn⟩ := perm_at hp (j := j) (by omega)
    have := (isPerm_iff p).1 hp
    have h1 := pixTo_lt p i hp j (by omega)
    have h2 := pix_piece (i := i) (j := j) (v := v) (by omega)
    rw [pixTo, ← hv, Int.toNat_natCast]
    exact Nat.or_lt_two_pow (n := 4) (by omega) (by omega)
theorem pix_step (p : List Int) (i j v : Nat) (hp : isPerm p = true) (hj : j < p.length) (hv : (v : Int) = p.getD j 0) (hv4 : v < 4) (hi : i < 16) :
    bits BinOp.or IntKind.i64 (pixTo p i j : Int) (wrap64 (bits BinOp.and IntKind.i64 ((i : Int) / 2 ^ j) 1 * 2 ^ v)) = ((pixTo p i (j + 1) : Nat) : Int) := by
  have h1 := pixTo_lt p i hp j (by omega)
  have h2 := pix_piece (i := i) (j := j) (v := v) hv4
  have hd : i / 2 ^ j < 256 := Nat.lt_of_le_of_lt (Nat.div_le_self _ _) (by omega)
  have e1 : ((i : Int) / 2 ^ j) = ((i / 2 ^ j : Nat) : Int) := by simp
  rw [e1, bits_and1 _ hd]
  have e2 : ((i / 2 ^ j % 2 : Nat) : Int) * 2 ^ v = ((i / 2 ^ j % 2 * 2 ^ v : Nat) : Int) := by simp
  rw [e2, IntWalk.wrap64_in _ (by omega), bits_or _ _ (by omega) (by omega), pixTo, ← hv]
  simp

end Go.Proofs.YtkhgkaiadfebmaaDoor
