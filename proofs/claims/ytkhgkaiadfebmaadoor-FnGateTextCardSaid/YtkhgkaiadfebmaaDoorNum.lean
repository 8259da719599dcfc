/-
  Plain mathematics: decimal numerals, and a list of bytes cut at a byte. No conditions.
-/
import Derived.Lib.AtoiAll
import Derived.Lib.ItoaMem
import Derived.Lib.Split
import Derived.Lib.SplitLaws
import Derived.Lib.IndexLaws
set_option linter.unusedSimpArgs false
set_option linter.unusedVariables false
namespace Go.Proofs.YtkhgkaiadfebmaaDoor
open Go.Lib
def dig (c : UInt8) : Prop := 48 ≤ c.toNat ∧ c.toNat ≤ 57
theorem dd_big {u : Nat} (h : ¬ u < 10) : decDigits u = decDigits (u / 10) ++ [UInt8.ofNat (48 + u % 10)] := by rw [decDigits, dif_neg h]
theorem of_dig {d : Nat} (h : d < 10) : (UInt8.ofNat (48 + d)).toNat = 48 + d := by
  rw [UInt8.toNat_ofNat']; omega
theorem dd_dig (u : Nat) : ∀ c ∈ decDigits u, dig c := by
  induction u using Nat.strongRecOn with
  | ind u ih =>
    by_cases h : u < 10
    · rw [decDigits_one h]
      intro c hc
      rw [List.mem_singleton.1 hc]
      have := of_dig h
      unfold dig; omega
    · rw [dd_big h]
      intro c hc
      rcases List.mem_append.1 hc with hc | hc
      · exact ih (u / 10) (by omega) c hc
      · rw [List.mem_singleton.1 hc]
        have := of_dig (d := u % 10) (by omega)
        unfold dig; omega
theorem dd_len (u : Nat) : ∀ k, 1 ≤ k → u < 10 ^ k → 1 ≤ (decDigits u).length ∧ (decDigits u).length ≤ k := by
  induction u using Nat.strongRecOn with
  | ind u ih =>
    intro k hk hu
    by_cases h : u < 10
    · rw [decDigits_one h]; simp; exact hk
    · rw [dd_big h]
      obtain ⟨j, rfl⟩ : ∃ j, k = j + 1 := ⟨k - 1, by omega⟩
      rw [Nat.pow_succ] at hu
      have hj : 1 ≤ j := by
        rcases Nat.eq_zero_or_pos j with h0 | h0
        · subst h0; omega
        · exact h0
      have := ih (u / 10) (by omega) j hj (by omega)
      simp; omega
def valStep (a : Nat) (c : UInt8) : Nat := a * 10 + (c.toNat - 48)
def vals (acc : Nat) (l : List UInt8) : Nat := l.foldl valStep acc
theorem vals_nil (acc : Nat) : vals acc [] = acc := rfl
theorem vals_cons (acc : Nat) (c : UInt8) (r : List UInt8) : vals acc (c :: r) = vals (acc * 10 + (c.toNat - 48)) r := by unfold vals; rw [List.foldl_cons]; rfl
theorem vals_app (b : List UInt8) (a : List UInt8) (acc : Nat) : vals acc (a ++ b) = vals (vals acc a) b := by unfold vals; rw [List.foldl_append]
theorem vals_dd (u : Nat) : vals 0 (decDigits u) = u := by
  induction u using Nat.strongRecOn with
  | ind u ih =>
    by_cases h : u < 10
    · rw [decDigits_one h]
      have := of_dig h
      simp only [vals_cons, vals_nil]; omega
    · rw [dd_big h, vals_app, ih (u / 10) (by omega)]
      have := of_dig (d := u % 10) (by omega)
      simp only [vals_cons, vals_nil]; omega
theorem vals_le : ∀ (l : List UInt8) (acc : Nat), acc ≤ vals acc l
  | [], acc => Nat.le_refl _
  | c :: l, acc => by rw [vals_cons]; have := vals_le l (acc * 10 + (c.toNat - 48)); omega
theorem vals_lt : ∀ (l : List UInt8) (acc : Nat), (∀ c ∈ l, dig c) → vals acc l < (acc + 1) * 10 ^ l.length
  | [], acc, _ => by simp [vals_nil]
  | c :: l, acc, h => by
    have h0 := h c (by simp)
    unfold dig at h0
    have := vals_lt l (acc * 10 + (c.toNat - 48)) (fun d hd => h d (by simp [hd]))
    rw [vals_cons, List.length_cons, Nat.pow_succ]
    have h2 : (acc * 10 + (c.toNat - 48) + 1) * 10 ^ l.length ≤ ((acc + 1) * 10) * 10 ^ l.length := Nat.mul_le_mul_right _ (by omega)
    have h3 : (acc + 1) * (10 ^ l.length * 10) = ((acc + 1) * 10) * 10 ^ l.length := by rw [Nat.mul_comm (10 ^ l.length) 10, Nat.mul_assoc]
    omega
theorem parse_ok : ∀ (l : List UInt8) (acc : Nat), (∀ c ∈ l, dig c) → vals acc l < 1844674407370955162 → parseUint10 acc l = .ok (vals acc l)
  | [], acc, _, _ => rfl
  | c :: l, acc, h, hv => by
    have h0 := h c (by simp)
    unfold dig at h0
    rw [vals_cons] at hv ⊢
    have h1 := vals_le l (acc * 10 + (c.toNat - 48))
    rw [parseUint10, if_pos h0, if_neg (by omega), if_neg (by omega), parse_ok l _ (fun d hd => h d (by simp [hd])) hv]
theorem atoi_dd (u : Nat) (hu : u ≤ 999999) : atoiAll (decDigits u) = .ok (u : Int) := by
  have hd := dd_dig u
  have hv := vals_dd u
  have hl := (dd_len u 6 (by omega) (by omega)).1
  have hp : parseUint10 0 (decDigits u) = .ok u := by
    have := parse_ok (decDigits u) 0 hd (by rw [hv]; omega)
    rwa [hv] at this
  cases hl2 : decDigits u with
  | nil => rw [hl2] at hl; simp at hl
  | cons c r =>
    have hc := hd c (by rw [hl2]; simp)
    unfold dig at hc
    rw [hl2] at hp
    unfold atoiAll
    simp only
    rw [if_neg (by omega)]
    unfold parseMag
    rw [if_neg (by simp), hp]
    simp only
    rw [if_neg (by omega), if_neg (by omega), if_neg (by omega)]
theorem dd_inj {u v : Nat} (h : decDigits u = decDigits v) : u = v := by rw [← vals_dd u, h, vals_dd]
/-- l is the numeral of u, at most 999999. -/
def NumW (l : List UInt8) (u : Nat) : Prop := u ≤ 999999 ∧ l = decDigits u
def NumR (l : List UInt8) (v : Int) (ok : Bool) : Prop := (∃ u : Nat, NumW l u ∧ v = u ∧ ok = true) ∨ ((∀ u, ¬ NumW l u) ∧ v = 0 ∧ ok = false)
theorem numR_ex (l : List UInt8) : ∃ v ok, NumR l v ok := by
  by_cases h : ∃ u, NumW l u
  · obtain ⟨u, hu⟩ := h
    exact ⟨u, true, .inl ⟨u, hu, rfl, rfl⟩⟩
  · exact ⟨0, false, .inr ⟨fun u hu => h ⟨u, hu⟩, rfl, rfl⟩⟩
theorem numR_fun {l : List UInt8} {v v' : Int} {ok ok' : Bool} (h : NumR l v ok) (h' : NumR l v' ok') : v = v' ∧ ok = ok' := by
  rcases h with ⟨u, hu, rfl, rfl⟩ | ⟨hn, rfl, rfl⟩ <;> rcases h' with ⟨u', hu', rfl, rfl⟩ | ⟨hn', rfl, rfl⟩
  · have : u = u' := dd_inj (hu.2.symm.trans hu'.2)
    exact ⟨by rw [this], rfl⟩
  · exact absurd hu (hn' u)
  · exact absurd hu' (hn u')
  · exact ⟨rfl, rfl⟩
/-- A list of bytes cut at each b. -/
def splitL (b : UInt8) : List UInt8 → List (List UInt8)
  | [] => [[]]
  | c :: r => if c = b then [] :: splitL b r else match splitL b r with
    | [] => [[c]]
    | h :: t => (c :: h) :: t
theorem splitL_ne (b : UInt8) : ∀ l, splitL b l ≠ []
  | [] => by simp [splitL]
  | c :: r => by
    rw [splitL]
    split
    · simp
    · split <;> simp
theorem splitL_no (b : UInt8) : ∀ l, ¬ b ∈ l → splitL b l = [l]
  | [], _ => rfl
  | c :: r, h => by
    have h1 : c ≠ b := fun e => h (by simp [e])
    rw [splitL, if_neg h1, splitL_no b r (fun e => h (by simp [e]))]
theorem splitL_app (b : UInt8) (r : List UInt8) : ∀ p, ¬ b ∈ p → splitL b (p ++ b :: r) = p :: splitL b r
  | [], _ => by rw [List.nil_append, splitL, if_pos rfl]
  | c :: p, h => by
    have h1 : c ≠ b := fun e => h (by simp [e])
    rw [List.cons_append, splitL, if_neg h1, splitL_app b r p (fun e => h (by simp [e]))]
theorem mem_cut (b : UInt8) : ∀ l : List UInt8, b ∈ l → ∃ p r, l = p ++ b :: r ∧ ¬ b ∈ p
  | [], h => by simp at h
  | c :: l, h => by
    by_cases e : c = b
    · subst e; exact ⟨[], l, rfl, by simp⟩
    · have h1 : b ∈ l := by
        rcases List.mem_cons.1 h with h | h
        · exact absurd h.symm e
        · exact h
      obtain ⟨p, r, rfl, hp⟩ := mem_cut b l h1
      refine ⟨c :: p, r, rfl, fun h2 => ?_⟩
      rcases List.mem_cons.1 h2 with h2 | h2
      · exact e h2.symm
      · exact hp h2
theorem occ_one (b : UInt8) (l : List UInt8) (i : Nat) : occAt l [b] i = true ↔ l[i]? = some b := by
  unfold occAt
  cases h : l.drop i with
  | nil =>
    have : l[i]? = none := by rw [List.getElem?_eq_none]; exact List.drop_eq_nil_iff.1 h
    rw [this]; simp
  | cons c r =>
    have : l[i]? = some c := by
      have h1 := congrArg (·[0]?) h
      simpa using h1
    rw [this]
    simp only [List.isPrefixOf, Bool.and_true, beq_iff_eq, Option.some.injEq]
    exact ⟨Eq.symm, Eq.symm⟩
theorem index_cut (b : UInt8) (p r : List UInt8) (h : ¬ b ∈ p) : index (p ++ b :: r) [b] = p.length := by
  refine index_first (by simp) ((occ_one _ _ _).2 (by simp)) (fun j hj => ?_)
  rw [Bool.eq_false_iff]
  intro h1
  rw [occ_one, List.getElem?_append_left hj] at h1
  exact h (List.mem_of_getElem? h1)
theorem index_no (b : UInt8) (l : List UInt8) (h : ¬ b ∈ l) : index l [b] = -1 := by
  refine index_none (fun j _ => ?_)
  rw [Bool.eq_false_iff]
  intro h1
  rw [occ_one] at h1
  exact h (List.mem_of_getElem? h1)
theorem splitK_eq (b : UInt8) : ∀ (n : Nat) (l : List UInt8), l.length ≤ n → splitK [b] 0 (count l [b]) l = splitL b l := by
  intro n
  induction n with
  | zero =>
    intro l hl
    have : l = [] := List.length_eq_zero_iff.1 (by omega)
    subst this
    rw [count_miss (index_no b [] (by simp))]
    rfl
  | succ n ih =>
    intro l hl
    by_cases h : b ∈ l
    · obtain ⟨p, r, rfl, hp⟩ := mem_cut b l h
      have hi := index_cut b p r hp
      rw [count_hit (by simp) hi, splitL_app b r p hp]
      have e1 : (p ++ b :: r).drop (p.length + [b].length) = r := by rw [List.length_singleton, ← List.drop_drop, List.drop_left' rfl]; rfl
      rw [e1, Nat.add_comm 1, splitK, if_neg (by rw [hi]; simp), hi, Int.toNat_natCast, e1, Nat.add_zero, List.take_left' rfl]
      rw [ih r (by simp at hl; omega)]
    · rw [count_miss (index_no b l h), splitL_no b l h]; rfl
/-- The pieces, as strings. -/
def pieces (b : UInt8) (s : ByteArray) : List ByteArray := (splitL b s.data.toList).map fun l => ⟨l.toArray⟩
theorem splitB_eq (b : UInt8) (s : ByteArray) : splitB ⟨#[b]⟩ 0 (countB s ⟨#[b]⟩) s = pieces b s := by
  have h1 : (splitB ⟨#[b]⟩ 0 (countB s ⟨#[b]⟩) s).map (·.data.toList) = splitL b s.data.toList := by
    rw [splitB_data]
    exact splitK_eq b _ _ (Nat.le_refl _)
  unfold pieces
  rw [← h1, List.map_map]
  refine (List.map_id'' (fun x => ?_) _).symm
  rfl
theorem pieces_length (b : UInt8) (s : ByteArray) : (pieces b s).length = countB s ⟨#[b]⟩ + 1 := by
  rw [← splitB_eq]
  exact splitB_all _ (by exact Nat.le_refl 1) 0 _ s rfl
theorem pieces_pos (b : UInt8) (s : ByteArray) : 0 < (pieces b s).length := by rw [pieces_length]; omega
end Go.Proofs.YtkhgkaiadfebmaaDoor
