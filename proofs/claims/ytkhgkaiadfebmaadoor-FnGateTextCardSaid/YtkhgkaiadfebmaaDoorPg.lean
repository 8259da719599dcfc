/-
  The text of a gate and its words: plain mathematics. No conditions.
-/
import Derived.Test.YtkhgkaiadfebmaaDoorLib3
set_option linter.unusedSimpArgs false
set_option linter.unusedVariables false
namespace Go.Proofs.YtkhgkaiadfebmaaDoor
theorem splitL_join (b : UInt8) (r : List UInt8) : ∀ l, splitL b (l ++ b :: r) = splitL b l ++ splitL b r
  | [] => by simp [splitL]
  | c :: l => by
    rw [List.cons_append, splitL, splitL, splitL_join b r l]
    split
    · rfl
    · cases h : splitL b l with
      | nil => exact absurd h (splitL_ne b l)
      | cons h t => rfl
theorem splitL_len (b : UInt8) : ∀ (l p : List UInt8), p ∈ splitL b l → p.length ≤ l.length
  | [], p, h => by simp [splitL] at h; subst h; exact Nat.le_refl _
  | c :: l, p, h => by
    rw [splitL] at h
    split at h
    · rcases List.mem_cons.1 h with h | h
      · subst h; exact Nat.zero_le _
      · have := splitL_len b l p h; simp; omega
    · cases hq : splitL b l with
      | nil => exact absurd hq (splitL_ne b l)
      | cons q t =>
        rw [hq] at h
        rcases List.mem_cons.1 h with h | h
        · have := splitL_len b l q (by rw [hq]; simp)
          subst h; simp; exact this
        · have := splitL_len b l p (by rw [hq]; simp [h])
          simp; omega
theorem pieces_size (b : UInt8) (s : ByteArray) (j : Nat) : ((pieces b s).getD j ⟨#[]⟩).size ≤ s.size := by
  rcases Nat.lt_or_ge j (pieces b s).length with h | h
  · have h1 : (pieces b s).getD j ⟨#[]⟩ ∈ pieces b s := by
      have : (pieces b s).getD j ⟨#[]⟩ = (pieces b s)[j] := by simp [List.getD, h]
      rw [this]; exact List.getElem_mem h
    unfold pieces at h1
    obtain ⟨l, hl, e⟩ := List.mem_map.1 h1
    have h2 := splitL_len b _ l hl
    rw [Array.length_toList] at h2
    have e2 : (pieces b s).getD j ⟨#[]⟩ = ⟨l.toArray⟩ := by unfold pieces; exact e.symm
    rw [e2]
    show l.toArray.size ≤ s.data.size
    rw [List.size_toArray]
    exact h2
  · rw [List.getD_eq_getElem?_getD, List.getElem?_eq_none h]; exact Nat.zero_le _
theorem name_no (k : Int) : ¬ (32 : UInt8) ∈ toL (gateNameS k) ∧ ¬ (10 : UInt8) ∈ toL (gateNameS k) := by
  unfold gateNameS
  split
  · rename_i h
    obtain h | h | h | h | h | h | h | h | h | h | h | h : k = 1 ∨ k = 2 ∨ k = 3 ∨ k = 4 ∨ k = 5 ∨ k = 6 ∨ k = 7 ∨ k = 8 ∨ k = 9 ∨ k = 10 ∨ k = 11 ∨ k = 12 := by omega
    all_goals (subst h; decide)
  · decide
theorem kind_name (k : Int) (h : 1 ≤ k ∧ k ≤ 12) : kindOf (gateNameS k) = k := by
  obtain h | h | h | h | h | h | h | h | h | h | h | h : k = 1 ∨ k = 2 ∨ k = 3 ∨ k = 4 ∨ k = 5 ∨ k = 6 ∨ k = 7 ∨ k = 8 ∨ k = 9 ∨ k = 10 ∨ k = 11 ∨ k = 12 := by omega
  all_goals (subst h; decide)
theorem dig_no (u : Nat) : ¬ (32 : UInt8) ∈ toL (dd u) ∧ ¬ (10 : UInt8) ∈ toL (dd u) := by
  rw [toL_dd]
  refine ⟨fun h => ?_, fun h => ?_⟩
  · have := (dd_dig u _ h).1; revert this; decide
  · have := (dd_dig u _ h).1; revert this; decide
theorem fq_split (nm : ByteArray) (ql : List Int) (hn : ¬ (32 : UInt8) ∈ toL nm) : ∀ j, (∀ i, i < j → 0 ≤ ql.getD i 0 ∧ ql.getD i 0 ≤ 4) → j ≤ ql.length → splitL 32 (toL (fq nm ql j)) = toL nm :: (ql.take j).map (fun q => toL (dg q))
  | 0, _, _ => by rw [fq, splitL_no _ _ hn]; rfl
  | j + 1, h, hj => by
    have ih := fq_split nm ql hn j (fun i hi => h i (by omega)) (by omega)
    have hq := h j (by omega)
    obtain ⟨u, hu⟩ : ∃ u : Nat, (u : Int) = ql.getD j 0 := ⟨(ql.getD j 0).toNat, by omega⟩
    have e1 : toL (fq nm ql (j + 1)) = toL (fq nm ql j) ++ 32 :: toL (dg (ql.getD j 0)) := by
      rw [fq, toL_app, toL_app]
      simp [toL]
    rw [e1, splitL_join, ih, List.take_succ_eq_append_getElem (by omega), List.map_append, ← hu, dg_dd u (by omega), splitL_no _ _ (dig_no u).1]
    have e2 : ql[j] = ql.getD j 0 := by simp [List.getD, show j < ql.length by omega]
    rw [List.map_cons, List.map_nil, e2, ← hu, dg_dd u (by omega)]
    rfl
theorem valid_kind {k a b c n : Int} (h : validG k a b c n = true) : 1 ≤ k ∧ k ≤ 12 := by
  have h1 := (valid_bd h).1
  have := arity_cases k
  omega
/-- The words of a valid gate's text. -/
theorem pg_words {k a b c : Int} (hv : validG k a b c 4 = true) : pieces 32 (fmtG k a b c) = gateNameS k :: (qubits k a b c).map dg := by
  refine pieces_of ?_
  have hf : fmtG k a b c = fq (gateNameS k) (qubits k a b c) (arity k).toNat := by unfold fmtG; rw [if_pos hv]
  rw [hf, fq_split _ _ (name_no k).1 _ (fun i hi => by have := (valid_bd hv).2 i hi; omega) (by rw [qubits_length]; exact Nat.le_refl _)]
  rw [List.take_of_length_le (by rw [qubits_length]; exact Nat.le_refl _)]
  simp
def fld (r i : Nat) (v : Int) : Int := if i < r then v else 0
/-- The number words of a text. -/
structure Nums (ws : List ByteArray) (v0 v1 v2 : Int) (o0 o1 o2 : Bool) : Prop where
  n0 : NumR (toL (ws.getD 1 ⟨#[]⟩)) v0 o0
  n1 : NumR (toL (ws.getD 2 ⟨#[]⟩)) v1 o1
  n2 : NumR (toL (ws.getD 3 ⟨#[]⟩)) v2 o2
theorem nums_ex (ws : List ByteArray) : ∃ v0 v1 v2 o0 o1 o2, Nums ws v0 v1 v2 o0 o1 o2 := by
  obtain ⟨v0, o0, h0⟩ := numR_ex (toL (ws.getD 1 ⟨#[]⟩))
  obtain ⟨v1, o1, h1⟩ := numR_ex (toL (ws.getD 2 ⟨#[]⟩))
  obtain ⟨v2, o2, h2⟩ := numR_ex (toL (ws.getD 3 ⟨#[]⟩))
  exact ⟨v0, v1, v2, o0, o1, o2, h0, h1, h2⟩
theorem word_num {k a b c : Int} (hv : validG k a b c 4 = true) {j : Nat} (hj : j < (arity k).toNat) {v : Int} {o : Bool} (h : NumR (toL ((pieces 32 (fmtG k a b c)).getD (j + 1) ⟨#[]⟩)) v o) : v = (qubits k a b c).getD j 0 ∧ o = true := by
  have hq := (valid_bd hv).2 j hj
  have hl : j < (qubits k a b c).length := by rw [qubits_length]; exact hj
  obtain ⟨u, hu⟩ : ∃ u : Nat, (u : Int) = (qubits k a b c).getD j 0 := ⟨((qubits k a b c).getD j 0).toNat, by omega⟩
  have e : (pieces 32 (fmtG k a b c)).getD (j + 1) ⟨#[]⟩ = dd u := by
    rw [pg_words hv, ← dg_dd u (by omega), hu]
    simp [List.getD, hl]
  rw [e, toL_dd] at h
  obtain ⟨h1, h2⟩ := numR_fun h (.inl ⟨u, ⟨by omega, rfl⟩, rfl, rfl⟩)
  exact ⟨h1.trans hu, h2⟩
theorem valid_zero {k a b c : Int} (hv : validG k a b c 4 = true) (j : Nat) (h3 : j < 3) (hj : ¬ j < (arity k).toNat) : [a, b, c].getD j 0 = 0 := by
  unfold validG at hv
  rw [decide_eq_true_eq] at hv
  obtain ⟨_, _, q0, q1, q2⟩ := hv
  obtain rfl | rfl | rfl : j = 0 ∨ j = 1 ∨ j = 2 := by omega
  · unfold okQ at q0; rw [if_neg hj] at q0; exact q0
  · unfold okQ at q1; rw [if_neg hj] at q1; exact q1
  · unfold okQ at q2; rw [if_neg hj] at q2; exact q2
theorem qubits_at (k a b c : Int) (j : Nat) (hj : j < (arity k).toNat) : (qubits k a b c).getD j 0 = [a, b, c].getD j 0 := by
  unfold qubits
  rw [List.getD_eq_getElem?_getD, List.getElem?_take, if_pos hj, ← List.getD_eq_getElem?_getD]
/-- What a valid gate's text is read as. -/
theorem pg_cand {k a b c : Int} (hv : validG k a b c 4 = true) {s : ByteArray} (hs : fmtG k a b c = s) {v0 v1 v2 : Int} {o0 o1 o2 : Bool} (hn : Nums (pieces 32 s) v0 v1 v2 o0 o1 o2) :
    kindOf ((pieces 32 s).getD 0 ⟨#[]⟩) = k ∧ (pieces 32 s).length = (arity k).toNat + 1 ∧ fld (arity k).toNat 0 v0 = a ∧ fld (arity k).toNat 1 v1 = b ∧ fld (arity k).toNat 2 v2 = c ∧
    (0 < (arity k).toNat → o0 = true) ∧ (1 < (arity k).toNat → o1 = true) ∧ (2 < (arity k).toNat → o2 = true) := by
  subst hs
  refine ⟨?_, ?_, ?_, ?_, ?_, fun h => (word_num hv h hn.n0).2, fun h => (word_num hv h hn.n1).2, fun h => (word_num hv h hn.n2).2⟩
  · rw [pg_words hv]; exact kind_name k (valid_kind hv)
  · rw [pg_words hv]; simp [qubits_length]
  · unfold fld
    split
    · rename_i h; rw [(word_num hv h hn.n0).1, qubits_at k a b c 0 h]; rfl
    · rename_i h; exact (valid_zero hv 0 (by omega) h).symm
  · unfold fld
    split
    · rename_i h; rw [(word_num hv h hn.n1).1, qubits_at k a b c 1 h]; rfl
    · rename_i h; exact (valid_zero hv 1 (by omega) h).symm
  · unfold fld
    split
    · rename_i h; rw [(word_num hv h hn.n2).1, qubits_at k a b c 2 h]; rfl
    · rename_i h; exact (valid_zero hv 2 (by omega) h).symm
theorem fmtG_ne {k a b c : Int} (hv : validG k a b c 4 = true) : fmtG k a b c ≠ ⟨#[]⟩ := by
  intro h
  have h1 := pg_words hv
  rw [h] at h1
  have h2 : pieces 32 ⟨#[]⟩ = [⟨#[]⟩] := rfl
  rw [h2] at h1
  have h3 := congrArg List.length h1
  have h4 := (valid_bd hv).1
  have h5 := arity_bd k
  simp [qubits_length] at h3
  omega
theorem fmtG_valid {k a b c : Int} (h : fmtG k a b c ≠ ⟨#[]⟩) : validG k a b c 4 = true := by
  cases hv : validG k a b c 4 with
  | true => rfl
  | false => exfalso; apply h; unfold fmtG; rw [hv]; rfl
/-- What a text is, read as a gate. -/
def PgR (s : ByteArray) (k a b c : Int) (ok : Bool) : Prop := (validG k a b c 4 = true ∧ fmtG k a b c = s ∧ ok = true) ∨ ((∀ k a b c, validG k a b c 4 = true → fmtG k a b c ≠ s) ∧ k = 0 ∧ a = 0 ∧ b = 0 ∧ c = 0 ∧ ok = false)
theorem pgR_ex (s : ByteArray) : ∃ k a b c ok, PgR s k a b c ok := by
  by_cases h : ∃ k a b c, validG k a b c 4 = true ∧ fmtG k a b c = s
  · obtain ⟨k, a, b, c, h1, h2⟩ := h
    exact ⟨k, a, b, c, true, .inl ⟨h1, h2, rfl⟩⟩
  · exact ⟨0, 0, 0, 0, false, .inr ⟨fun k a b c h1 h2 => h ⟨k, a, b, c, h1, h2⟩, rfl, rfl, rfl, rfl, rfl⟩⟩
/-- The gate that a text's words spell. -/
structure Cand (s : ByteArray) (K : Int) (r : Nat) (v0 v1 v2 : Int) (o0 o1 o2 : Bool) : Prop where
  kind : K = kindOf ((pieces 32 s).getD 0 ⟨#[]⟩)
  ar : (r : Int) = arity K
  nums : Nums (pieces 32 s) v0 v1 v2 o0 o1 o2
theorem Cand.yes {s : ByteArray} {K : Int} {r : Nat} {v0 v1 v2 : Int} {o0 o1 o2 : Bool} (h : Cand s K r v0 v1 v2 o0 o1 o2) {k a b c : Int} (hv : validG k a b c 4 = true) (hs : fmtG k a b c = s) :
    K = k ∧ (pieces 32 s).length = r + 1 ∧ fld r 0 v0 = a ∧ fld r 1 v1 = b ∧ fld r 2 v2 = c ∧ (0 < r → o0 = true) ∧ (1 < r → o1 = true) ∧ (2 < r → o2 = true) := by
  obtain ⟨h1, h2⟩ := pg_cand hv hs h.nums
  have e1 : K = k := h.kind.trans h1
  have e2 : r = (arity k).toNat := by have := h.ar; rw [e1] at this; omega
  rw [e2]
  exact ⟨e1, h2⟩
theorem PgR.hit {s : ByteArray} {k a b c : Int} {ok : Bool} (h : PgR s k a b c ok) {K : Int} {r : Nat} {v0 v1 v2 : Int} {o0 o1 o2 : Bool} (hc : Cand s K r v0 v1 v2 o0 o1 o2) (hs : s ≠ ⟨#[]⟩) (hf : fmtG K (fld r 0 v0) (fld r 1 v1) (fld r 2 v2) = s) :
    k = K ∧ a = fld r 0 v0 ∧ b = fld r 1 v1 ∧ c = fld r 2 v2 ∧ ok = true := by
  rcases h with ⟨h1, h2, h3⟩ | ⟨h1, _⟩
  · obtain ⟨e1, _, e2, e3, e4, _⟩ := hc.yes h1 h2
    exact ⟨e1.symm, e2.symm, e3.symm, e4.symm, h3⟩
  · exact absurd hf (h1 _ _ _ _ (fmtG_valid (by rw [hf]; exact hs)))
theorem PgR.miss {s : ByteArray} {k a b c : Int} {ok : Bool} (h : PgR s k a b c ok) {K : Int} {r : Nat} {v0 v1 v2 : Int} {o0 o1 o2 : Bool} (hc : Cand s K r v0 v1 v2 o0 o1 o2)
    (hn : (pieces 32 s).length ≠ r + 1 ∨ (0 < r ∧ o0 = false) ∨ (1 < r ∧ o1 = false) ∨ (2 < r ∧ o2 = false) ∨ s = ⟨#[]⟩ ∨ validG K (fld r 0 v0) (fld r 1 v1) (fld r 2 v2) 4 = false ∨ fmtG K (fld r 0 v0) (fld r 1 v1) (fld r 2 v2) ≠ s) :
    k = 0 ∧ a = 0 ∧ b = 0 ∧ c = 0 ∧ ok = false := by
  rcases h with ⟨h1, h2, h3⟩ | ⟨_, h⟩
  · exfalso
    obtain ⟨e1, e2, e3, e4, e5, p0, p1, p2⟩ := hc.yes h1 h2
    rw [e1, e3, e4, e5] at hn
    rcases hn with hn | ⟨hr, hn⟩ | ⟨hr, hn⟩ | ⟨hr, hn⟩ | hn | hn | hn
    · exact hn e2
    · rw [p0 hr] at hn; cases hn
    · rw [p1 hr] at hn; cases hn
    · rw [p2 hr] at hn; cases hn
    · exact fmtG_ne h1 (h2.trans hn)
    · rw [h1] at hn; cases hn
    · exact hn h2
  · exact h
end Go.Proofs.YtkhgkaiadfebmaaDoor
