/-
  The depth of a concatenation, in plain mathematics: heights of the qubits. No conditions.
-/
import Derived.Test.YtohpgjkflgnfgaaLay4
set_option linter.unusedSimpArgs false
set_option linter.unusedVariables false
namespace Go.Proofs.Ytohpgjkflgnfgaa
open Go.RowKit
def mx (h : Int → Nat) : List Int → Nat
  | [] => 0
  | q :: Q => max (h q) (mx h Q)
theorem mx_ge (h : Int → Nat) : ∀ (Q : List Int) (q : Int), q ∈ Q → h q ≤ mx h Q
  | [], q, hq => by simp at hq
  | a :: Q, q, hq => by
    rw [List.mem_cons] at hq
    simp only [mx]
    rcases hq with rfl | hq
    · omega
    · have := mx_ge h Q q hq; omega
theorem mx_le (h : Int → Nat) (c : Nat) : ∀ (Q : List Int), (∀ q ∈ Q, h q ≤ c) → mx h Q ≤ c
  | [], _ => Nat.zero_le _
  | a :: Q, hq => by
    simp only [mx]
    have := hq a (by simp)
    have := mx_le h c Q (fun q h => hq q (by simp [h]))
    omega
theorem mx_mono {h h' : Int → Nat} (hh : ∀ q, h q ≤ h' q) : ∀ Q, mx h Q ≤ mx h' Q
  | [] => Nat.le_refl _
  | a :: Q => by have := hh a; have := mx_mono hh Q; simp only [mx]; omega
theorem mx_add {h h' : Int → Nat} {c : Nat} (hh : ∀ q, h q ≤ c + h' q) : ∀ Q, mx h Q ≤ c + mx h' Q
  | [] => Nat.zero_le _
  | a :: Q => by have := hh a; have := mx_add hh Q; simp only [mx]; omega
def hStep (h : Int → Nat) (Q : List Int) : Int → Nat := fun q => if q ∈ Q then mx h Q + 1 else h q
def hTo (L : List Int) : Nat → Int → Nat
  | 0 => fun _ => 0
  | j + 1 => hStep (hTo L j) (qAt L j)
def dTo (L : List Int) : Nat → Nat
  | 0 => 0
  | j + 1 => max (dTo L j) (mx (hTo L j) (qAt L j) + 1)
theorem hTo_le (L : List Int) : ∀ j q, hTo L j q ≤ dTo L j
  | 0, q => Nat.le_refl _
  | j + 1, q => by
    have := hTo_le L j q
    simp only [hTo, hStep, dTo]
    split <;> omega
def inRow (R : List Int) (q : Int) : Prop := ∃ i, i < R.length / 4 ∧ q ∈ qAt R i
theorem anyM_iff (R Q : List Int) : ∀ n, anyM R Q n = true ↔ ∃ i, i < n ∧ ∃ q, q ∈ qAt R i ∧ q ∈ Q
  | 0 => by simp [anyM]
  | n + 1 => by
    rw [anyM, Bool.or_eq_true, anyM_iff R Q n, meets2_iff]
    constructor
    · rintro (⟨i, hi, h⟩ | ⟨q, h1, h2⟩)
      · exact ⟨i, by omega, h⟩
      · exact ⟨n, by omega, q, h1, h2⟩
    · rintro ⟨i, hi, q, h1, h2⟩
      rcases Nat.lt_or_ge i n with h | h
      · exact .inl ⟨i, h, q, h1, h2⟩
      · obtain rfl : i = n := by omega
        exact .inr ⟨q, h1, h2⟩
theorem rowAny_iff (R Q : List Int) : rowAny R Q = true ↔ ∃ q, q ∈ Q ∧ inRow R q := by
  unfold rowAny inRow
  rw [anyM_iff]
  exact ⟨fun ⟨i, hi, q, h1, h2⟩ => ⟨q, h2, i, hi, h1⟩, fun ⟨q, h2, i, hi, h1⟩ => ⟨i, hi, q, h1, h2⟩⟩
theorem getD_app_l (a b : List Int) (i : Nat) (h : i < a.length) : (a ++ b).getD i 0 = a.getD i 0 := by
  rw [List.getD_eq_getElem?_getD, List.getD_eq_getElem?_getD, List.getElem?_append_left h]
theorem getD_app_r (a b : List Int) (i : Nat) : (a ++ b).getD (a.length + i) 0 = b.getD i 0 := by
  rw [List.getD_eq_getElem?_getD, List.getD_eq_getElem?_getD, List.getElem?_append_right (by omega), Nat.add_sub_cancel_left]
theorem qAt_app_l (a b : List Int) (n i : Nat) (ha : a.length = n * 4) (h : i < n) : qAt (a ++ b) i = qAt a i := by
  unfold qAt
  rw [getD_app_l _ _ _ (by omega), getD_app_l _ _ _ (by omega), getD_app_l _ _ _ (by omega), getD_app_l _ _ _ (by omega)]
theorem qAt_app_r (a b : List Int) (n i : Nat) (ha : a.length = n * 4) : qAt (a ++ b) (n + i) = qAt b i := by
  unfold qAt
  rw [show (n + i) * 4 = a.length + i * 4 from by omega, getD_app_r, show a.length + i * 4 + 1 = a.length + (i * 4 + 1) from by omega, getD_app_r, show a.length + i * 4 + 2 = a.length + (i * 4 + 2) from by omega, getD_app_r, show a.length + i * 4 + 3 = a.length + (i * 4 + 3) from by omega, getD_app_r]
theorem qAt_gAt (L : List Int) (j : Nat) : qAt (gAt L j) 0 = qAt L j := by
  unfold qAt gAt
  rfl
theorem inRow_app (R L : List Int) (j n : Nat) (hR : R.length = n * 4) (q : Int) : inRow (R ++ gAt L j) q ↔ inRow R q ∨ q ∈ qAt L j := by
  unfold inRow
  have e1 : R.length / 4 = n := by omega
  have e2 : (R ++ gAt L j).length / 4 = n + 1 := by rw [List.length_append]; simp only [gAt, List.length_cons, List.length_nil]; omega
  rw [e1, e2]
  constructor
  · rintro ⟨i, hi, h⟩
    rcases Nat.lt_or_ge i n with h1 | h1
    · rw [qAt_app_l _ _ n i hR h1] at h
      exact .inl ⟨i, h1, h⟩
    · have hin : i = n + 0 := by omega
      rw [hin, qAt_app_r _ _ n 0 hR, qAt_gAt] at h
      exact .inr h
  · rintro (⟨i, hi, h⟩ | h)
    · exact ⟨i, by omega, by rw [qAt_app_l _ _ n i hR hi]; exact h⟩
    · exact ⟨n + 0, by omega, by rw [qAt_app_r _ _ n 0 hR, qAt_gAt]; exact h⟩
theorem findAt_spec (LL : List (List Int)) (Q : List Int) : ∀ k, (∀ i, findAt LL Q k ≤ i → i < k → rowAny (LL.getD i []) Q = false) ∧ (findAt LL Q k = 0 ∨ rowAny (LL.getD (findAt LL Q k - 1) []) Q = true)
  | 0 => ⟨fun i _ h => by omega, .inl rfl⟩
  | k + 1 => by
    obtain ⟨h1, h2⟩ := findAt_spec LL Q k
    by_cases hr : rowAny (LL.getD k []) Q = true
    · rw [findAt_stop hr]
      exact ⟨fun i h h' => by omega, .inr (by simpa using hr)⟩
    · have hr' : rowAny (LL.getD k []) Q = false := by simpa using hr
      rw [findAt_step hr']
      refine ⟨fun i h h' => ?_, h2⟩
      rcases Nat.lt_or_ge i k with h3 | h3
      · exact h1 i h h3
      · obtain rfl : i = k := by omega
        exact hr'
structure LInv (LL : List (List Int)) (h : Int → Nat) : Prop where
  below : ∀ k q, inRow (LL.getD k []) q → k < h q
  le : ∀ q, h q ≤ LL.length
  top : ∀ q, h q = 0 ∨ inRow (LL.getD (h q - 1) []) q
  four : ∀ k, ∃ m, (LL.getD k []).length = m * 4
theorem LInv.find {LL : List (List Int)} {h : Int → Nat} (hI : LInv LL h) (Q : List Int) : findAt LL Q LL.length = mx h Q := by
  obtain ⟨h1, h2⟩ := findAt_spec LL Q LL.length
  have hle := findAt_le LL Q LL.length
  apply Nat.le_antisymm
  · rcases h2 with h2 | h2
    · omega
    · rcases Nat.eq_zero_or_pos (findAt LL Q LL.length) with h0 | h0
      · omega
      · obtain ⟨q, hq, hr⟩ := (rowAny_iff _ _).1 h2
        have := hI.below _ _ hr
        have := mx_ge h Q q hq
        omega
  · apply mx_le
    intro q hq
    rcases hI.top q with h0 | hr
    · omega
    · have hl := hI.le q
      rcases Nat.lt_or_ge (findAt LL Q LL.length) (h q) with h3 | h3
      · have := h1 (h q - 1) (by omega) (by omega)
        rw [(rowAny_iff _ _).2 ⟨q, hq, hr⟩] at this
        cases this
      · exact h3
theorem LInv.step {LL : List (List Int)} {h : Int → Nat} (hI : LInv LL h) (L : List Int) (j : Nat) : LInv (layStep LL L j) (hStep h (qAt L j)) ∧ (layStep LL L j).length = max LL.length (mx h (qAt L j) + 1) := by
  have hf := hI.find (qAt L j)
  have hle := findAt_le LL (qAt L j) LL.length
  rw [hf] at hle
  have hlen : (layStep LL L j).length = max LL.length (mx h (qAt L j) + 1) := by
    unfold layStep
    rw [putG_len, hf]
    split <;> omega
  have hrow : ∀ i q, inRow ((layStep LL L j).getD i []) q ↔ inRow (LL.getD i []) q ∨ (i = mx h (qAt L j) ∧ q ∈ qAt L j) := by
    intro i q
    unfold layStep
    rw [hf, putG_getD _ _ _ _ hle]
    split
    · rename_i hi
      subst hi
      obtain ⟨m, hm⟩ := hI.four (mx h (qAt L j))
      rw [inRow_app _ _ _ m hm]
      simp
    · rename_i hi
      simp [hi]
  refine ⟨⟨fun k q hr => ?_, fun q => ?_, fun q => ?_, fun k => ?_⟩, hlen⟩
  · unfold hStep
    rw [hrow] at hr
    split
    · rename_i hq
      rcases hr with hr | ⟨rfl, _⟩
      · have := hI.below k q hr
        have := mx_ge h _ q hq
        omega
      · omega
    · rename_i hq
      rcases hr with hr | ⟨_, hq'⟩
      · exact hI.below k q hr
      · exact absurd hq' hq
  · rw [hlen]
    unfold hStep
    have := hI.le q
    split <;> omega
  · unfold hStep
    split
    · rename_i hq
      right
      rw [hrow]
      exact .inr ⟨by omega, hq⟩
    · rcases hI.top q with h0 | hr
      · exact .inl h0
      · right
        rw [hrow]
        exact .inl hr
  · unfold layStep
    rw [hf, putG_getD _ _ _ _ hle]
    split
    · obtain ⟨m, hm⟩ := hI.four (mx h (qAt L j))
      exact ⟨m + 1, by rw [List.length_append, hm]; simp only [gAt, List.length_cons, List.length_nil]; omega⟩
    · exact hI.four k
theorem lay_inv (L : List Int) : ∀ j, LInv (layersTo L j) (hTo L j) ∧ (layersTo L j).length = dTo L j
  | 0 => ⟨⟨fun k q h => by obtain ⟨i, hi, _⟩ := h; simp [layersTo] at hi, fun q => Nat.le_refl _, fun q => .inl rfl, fun k => ⟨0, by simp [layersTo]⟩⟩, rfl⟩
  | j + 1 => by
    obtain ⟨h1, h2⟩ := lay_inv L j
    obtain ⟨h3, h4⟩ := h1.step L j
    refine ⟨h3, ?_⟩
    rw [layersTo, h4, h2]
    rfl
theorem hTo_l (a b : List Int) (n : Nat) (ha : a.length = n * 4) : ∀ j, j ≤ n → hTo (a ++ b) j = hTo a j ∧ dTo (a ++ b) j = dTo a j
  | 0, _ => ⟨rfl, rfl⟩
  | j + 1, h => by
    obtain ⟨h1, h2⟩ := hTo_l a b n ha j (by omega)
    simp only [hTo, dTo, h1, h2, qAt_app_l a b n j ha (by omega)]
    refine ⟨?_, ?_⟩ <;> first | trivial | rfl
theorem hTo_r (a b : List Int) (n : Nat) (ha : a.length = n * 4) : ∀ j, (∀ q, hTo b j q ≤ hTo (a ++ b) (n + j) q ∧ hTo (a ++ b) (n + j) q ≤ dTo a n + hTo b j q) ∧ dTo b j ≤ dTo (a ++ b) (n + j) ∧ dTo (a ++ b) (n + j) ≤ dTo a n + dTo b j ∧ dTo a n ≤ dTo (a ++ b) (n + j)
  | 0 => by
    obtain ⟨h1, h2⟩ := hTo_l a b n ha n (Nat.le_refl _)
    simp only [Nat.add_zero, h1, h2]
    refine ⟨fun q => ⟨Nat.zero_le _, ?_⟩, Nat.zero_le _, Nat.le_refl _, Nat.le_refl _⟩
    have := hTo_le a n q
    omega
  | j + 1 => by
    obtain ⟨h1, h2, h3, h4⟩ := hTo_r a b n ha j
    have m1 := mx_mono (fun q => (h1 q).1) (qAt b j)
    have m2 := mx_add (fun q => (h1 q).2) (qAt b j)
    rw [show n + (j + 1) = n + j + 1 from rfl]
    simp only [hTo, dTo, qAt_app_r a b n j ha]
    refine ⟨fun q => ?_, by omega, by omega, by omega⟩
    have := h1 q
    unfold hStep
    split <;> omega
/-- The depth of a concatenation. -/
theorem depth_cat (a b : List Int) (n m : Nat) (ha : a.length = n * 4) : (layersTo (a ++ b) (n + m)).length ≤ (layersTo a n).length + (layersTo b m).length ∧ (layersTo a n).length ≤ (layersTo (a ++ b) (n + m)).length ∧ (layersTo b m).length ≤ (layersTo (a ++ b) (n + m)).length := by
  rw [(lay_inv _ _).2, (lay_inv _ _).2, (lay_inv _ _).2]
  obtain ⟨_, h2, h3, h4⟩ := hTo_r a b n ha m
  exact ⟨h3, h4, h2⟩
theorem cntTo_l (f : Int → Bool) (a b : List Int) (n : Nat) (ha : a.length = n * 4) : ∀ j, j ≤ n → cntTo f (a ++ b) j = cntTo f a j
  | 0, _ => rfl
  | j + 1, h => by rw [cntTo, cntTo, cntTo_l f a b n ha j (by omega), getD_app_l _ _ _ (by omega)]
theorem cntTo_cat (f : Int → Bool) (a b : List Int) (n : Nat) (ha : a.length = n * 4) : ∀ m, cntTo f (a ++ b) (n + m) = cntTo f a n + cntTo f b m
  | 0 => by rw [Nat.add_zero, cntTo_l f a b n ha n (Nat.le_refl _)]; rfl
  | m + 1 => by
    rw [show n + (m + 1) = (n + m) + 1 from rfl, cntTo, cntTo, cntTo_cat f a b n ha m, show (n + m) * 4 = a.length + m * 4 from by omega, getD_app_r]
    omega
end Go.Proofs.Ytohpgjkflgnfgaa
