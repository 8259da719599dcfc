/-
  The text of a circuit and its lines: plain mathematics. No conditions.
-/
import Derived.Test.YtkhgkaiadfebmaaDoorPg
import Derived.Test.YtkhgkaiadfebmaaDoorFmt2
set_option linter.unusedSimpArgs false
set_option linter.unusedVariables false
namespace Go.Proofs.YtkhgkaiadfebmaaDoor
theorem splitL_len3 (b : UInt8) : ∀ l, (splitL b l).length ≤ l.length + 1
  | [] => by simp [splitL]
  | c :: l => by
    have ih := splitL_len3 b l
    rw [splitL]
    split
    · simp; omega
    · cases h : splitL b l with
      | nil => simp
      | cons q t => rw [h] at ih; simp at ih ⊢; omega
theorem dg_no (q : Int) : ¬ (32 : UInt8) ∈ toL (dg q) ∧ ¬ (10 : UInt8) ∈ toL (dg q) := by
  unfold dg
  rcases Nat.lt_or_ge q.toNat 5 with h | h
  · obtain h | h | h | h | h : q.toNat = 0 ∨ q.toNat = 1 ∨ q.toNat = 2 ∨ q.toNat = 3 ∨ q.toNat = 4 := by omega
    all_goals (rw [h]; decide)
  · rw [List.getD_eq_getElem?_getD, List.getElem?_eq_none (by simpa [digs] using h)]; decide
theorem fq_no10 (nm : ByteArray) (l : List Int) (h : ¬ (10 : UInt8) ∈ toL nm) : ∀ j, ¬ (10 : UInt8) ∈ toL (fq nm l j)
  | 0 => h
  | j + 1 => by
    have e1 : toL (fq nm l (j + 1)) = toL (fq nm l j) ++ 32 :: toL (dg (l.getD j 0)) := by
      rw [fq, toL_app, toL_app]
      simp [toL]
    rw [e1, List.mem_append, List.mem_cons]
    rintro (h1 | h1 | h1)
    · exact fq_no10 nm l h j h1
    · revert h1; decide
    · exact (dg_no _).2 h1
theorem fmtG_no10 (k a b c : Int) : ¬ (10 : UInt8) ∈ toL (fmtG k a b c) := by
  unfold fmtG
  split
  · exact fq_no10 _ _ (name_no k).2 _
  · decide
def rowG (L : List Int) (j : Nat) : ByteArray := fmtG (L.getD (j * 4) 0) (L.getD (j * 4 + 1) 0) (L.getD (j * 4 + 2) 0) (L.getD (j * 4 + 3) 0)
def quB : ByteArray := ⟨#[113, 117, 98, 105, 116, 115]⟩
def quS : ByteArray := ⟨#[113, 117, 98, 105, 116, 115, 32]⟩
theorem fc_split (N : Int) (L : List Int) : ∀ n, splitL 10 (toL (fc N L n)) = ((quS ++ dg N) :: (List.range n).map (rowG L)).map toL
  | 0 => by
    have h : ¬ (10 : UInt8) ∈ toL (quS ++ dg N) := by
      rw [toL_app, List.mem_append]
      rintro (h1 | h1)
      · revert h1; decide
      · exact (dg_no _).2 h1
    exact splitL_no _ _ h
  | n + 1 => by
    have e1 : toL (fc N L (n + 1)) = toL (fc N L n) ++ 10 :: toL (rowG L n) := by
      rw [fc, toL_app, toL_app]
      simp [toL, rowG]
    rw [e1, splitL_join, fc_split N L n, splitL_no _ (toL (rowG L n)) (fmtG_no10 _ _ _ _), List.range_succ]
    simp [rowG]
theorem head_words (N : Int) : pieces 32 (quS ++ dg N) = [quB, dg N] := by
  refine pieces_of ?_
  have e : toL (quS ++ dg N) = toL quB ++ 32 :: toL (dg N) := by rw [toL_app]; rfl
  rw [e, splitL_app _ _ _ (by decide), splitL_no _ _ (dg_no N).1]
  rfl
/-- What the texts of gates are read as. -/
structure PgF (K A B C : ByteArray → Int) (O : ByteArray → Bool) : Prop where
  all : ∀ s, PgR s (K s) (A s) (B s) (C s) (O s)
theorem pgF_ex : ∃ K A B C O, PgF K A B C O := by
  have h := fun s => pgR_ex s
  exact ⟨fun s => Classical.choose (h s), fun s => Classical.choose (Classical.choose_spec (h s)), fun s => Classical.choose (Classical.choose_spec (Classical.choose_spec (h s))),
    fun s => Classical.choose (Classical.choose_spec (Classical.choose_spec (Classical.choose_spec (h s)))), fun s => Classical.choose (Classical.choose_spec (Classical.choose_spec (Classical.choose_spec (Classical.choose_spec (h s))))),
    ⟨fun s => Classical.choose_spec (Classical.choose_spec (Classical.choose_spec (Classical.choose_spec (Classical.choose_spec (h s)))))⟩⟩
def gl (K A B C : ByteArray → Int) : List ByteArray → List Int
  | [] => []
  | s :: t => [K s, A s, B s, C s] ++ gl K A B C t
theorem gl_app (K A B C : ByteArray → Int) (m : List ByteArray) : ∀ l, gl K A B C (l ++ m) = gl K A B C l ++ gl K A B C m
  | [] => rfl
  | s :: t => by rw [List.cons_append, gl, gl, gl_app K A B C m t, List.append_assoc]
theorem gl_len (K A B C : ByteArray → Int) : ∀ l, (gl K A B C l).length = l.length * 4
  | [] => rfl
  | s :: t => by rw [gl, List.length_append, gl_len K A B C t, List.length_cons]; simp; omega
theorem fmtG_inj {k a b c k' a' b' c' : Int} (h : validG k a b c 4 = true) (h' : validG k' a' b' c' 4 = true) (e : fmtG k a b c = fmtG k' a' b' c') : k = k' ∧ a = a' ∧ b = b' ∧ c = c' := by
  obtain ⟨v0, v1, v2, o0, o1, o2, hn⟩ := nums_ex (pieces 32 (fmtG k a b c))
  obtain ⟨p1, _, p2, p3, p4, _⟩ := pg_cand h rfl hn
  obtain ⟨q1, _, q2, q3, q4, _⟩ := pg_cand h' e.symm hn
  have ek : k = k' := p1.symm.trans q1
  subst ek
  exact ⟨rfl, p2.symm.trans q2, p3.symm.trans q3, p4.symm.trans q4⟩
theorem PgR.of {k a b c k' a' b' c' : Int} {o : Bool} (h : PgR (fmtG k a b c) k' a' b' c' o) (hv : validG k a b c 4 = true) : k' = k ∧ a' = a ∧ b' = b ∧ c' = c ∧ o = true := by
  rcases h with ⟨h1, h2, h3⟩ | ⟨h1, _⟩
  · obtain ⟨e1, e2, e3, e4⟩ := fmtG_inj h1 hv h2
    exact ⟨e1, e2, e3, e4, h3⟩
  · exact absurd rfl (h1 _ _ _ _ hv)
theorem validG_mono {k a b c N : Int} (h : validG k a b c N = true) (h4 : N ≤ 4) : validG k a b c 4 = true := by
  unfold validG at h ⊢
  rw [decide_eq_true_eq] at h ⊢
  obtain ⟨h1, h2, q0, q1, q2⟩ := h
  have hq : ∀ r l j, okQ r l (N - 1) j → okQ r l (4 - 1) j := by
    intro r l j h
    unfold okQ at h ⊢
    split
    · rename_i hj
      rw [if_pos hj] at h
      exact ⟨⟨h.1.1, by have := h.1.2; omega⟩, h.2⟩
    · rename_i hj
      rwa [if_neg hj] at h
  exact ⟨by omega, h2, hq _ _ _ q0, hq _ _ _ q1, hq _ _ _ q2⟩
theorem validC_row {N : Int} {L : List Int} {n j : Nat} (h : validC N L n = true) (hj : j < n) : validG (L.getD (j * 4) 0) (L.getD (j * 4 + 1) 0) (L.getD (j * 4 + 2) 0) (L.getD (j * 4 + 3) 0) 4 = true := by
  have hb := validC_n60 h
  unfold validC at h
  exact validG_mono ((of_decide_eq_true h).2.2 j hj) hb.2.2
section
variable {K A B C : ByteArray → Int} {O : ByteArray → Bool}
theorem gl_rows (hF : PgF K A B C O) {N : Int} {L : List Int} {n : Nat} (hl : L.length = n * 4) (hv : validC N L n = true) : ∀ m, m ≤ n → gl K A B C ((List.range m).map (rowG L)) = L.take (m * 4)
  | 0, _ => by simp [gl]
  | m + 1, h => by
    have ih := gl_rows hF hl hv m (by omega)
    obtain ⟨e1, e2, e3, e4, _⟩ := (hF.all (rowG L m)).of (validC_row hv (show m < n by omega))
    rw [List.range_succ, List.map_append, gl_app, ih, take4 L m (by omega), List.map_cons, List.map_nil, gl, gl, e1, e2, e3, e4]
    rfl
/-- What a valid circuit's text is read as. -/
structure PcY (K A B C : ByteArray → Int) (O : ByteArray → Bool) (s : ByteArray) (N : Int) (L : List Int) (n : Nat) : Prop where
  len : (pieces 10 s).length = n + 1
  n60 : n ≤ 60
  ne : s ≠ ⟨#[]⟩
  head : pieces 32 ((pieces 10 s).getD 0 ⟨#[]⟩) = [quB, dg N]
  oks : ∀ j, j + 1 < (pieces 10 s).length → O ((pieces 10 s).getD (j + 1) ⟨#[]⟩) = true
  rows : gl K A B C ((pieces 10 s).drop 1) = L
  num : ∀ v o, NumR (toL (dg N)) v o → v = N
theorem pc_yes (hF : PgF K A B C O) {N : Int} {L : List Int} {n : Nat} (hl : L.length = n * 4) (hv : validC N L n = true) {s : ByteArray} (hs : fmtC N L n = s) : PcY K A B C O s N L n := by
  obtain ⟨h60, hN1, hN4⟩ := validC_n60 hv
  have hf : fmtC N L n = fc N L n := by unfold fmtC; rw [if_pos hv]
  rw [hf] at hs
  have hp : pieces 10 s = (quS ++ dg N) :: (List.range n).map (rowG L) := by rw [← hs]; exact pieces_of (fc_split N L n)
  have hh := head_words N
  refine ⟨by rw [hp]; simp, h60, ?_, by rw [hp]; exact hh, ?_, ?_, ?_⟩
  · intro h
    rw [h] at hp
    have h2 : pieces 10 ⟨#[]⟩ = [⟨#[]⟩] := rfl
    rw [h2] at hp
    injection hp with e1 e2
    rw [← e1] at hh
    have h3 : pieces 32 ⟨#[]⟩ = [⟨#[]⟩] := rfl
    rw [h3] at hh
    have := congrArg List.length hh
    simp at this
  · intro j hj
    rw [hp] at hj ⊢
    simp only [List.length_cons, List.length_map, List.length_range] at hj
    have e : ((quS ++ dg N) :: (List.range n).map (rowG L)).getD (j + 1) ⟨#[]⟩ = rowG L j := by
      simp [List.getD, show j < n by omega]
    rw [e]
    exact ((hF.all (rowG L j)).of (validC_row hv (show j < n by omega))).2.2.2.2
  · rw [hp]
    show gl K A B C ((List.range n).map (rowG L)) = L
    rw [gl_rows hF hl hv n (Nat.le_refl _), List.take_of_length_le (by omega)]
  · intro v o h
    obtain ⟨u, rfl⟩ := Int.eq_ofNat_of_zero_le (show 0 ≤ N by omega)
    rw [dg_dd u (by omega), toL_dd] at h
    exact (numR_fun h (.inl ⟨u, ⟨by omega, rfl⟩, rfl, rfl⟩)).1
def PcR (s : ByteArray) (N : Int) (L : List Int) (n : Nat) (ok : Bool) : Prop := (L.length = n * 4 ∧ validC N L n = true ∧ fmtC N L n = s ∧ ok = true) ∨ ((∀ N L n, L.length = n * 4 → validC N L n = true → fmtC N L n ≠ s) ∧ N = 0 ∧ L = [] ∧ n = 0 ∧ ok = false)
theorem pcR_ex (s : ByteArray) : ∃ N L n ok, PcR s N L n ok := by
  by_cases h : ∃ N L n, L.length = n * 4 ∧ validC N L n = true ∧ fmtC N L n = s
  · obtain ⟨N, L, n, h1, h2, h3⟩ := h
    exact ⟨N, L, n, true, .inl ⟨h1, h2, h3, rfl⟩⟩
  · exact ⟨0, [], 0, false, .inr ⟨fun N L n h1 h2 h3 => h ⟨N, L, n, h1, h2, h3⟩, rfl, rfl, rfl, rfl⟩⟩
theorem PcR.len {s : ByteArray} {N : Int} {L : List Int} {n : Nat} {ok : Bool} (h : PcR s N L n ok) : L.length = n * 4 ∧ n ≤ 60 := by
  rcases h with ⟨h1, h2, _⟩ | ⟨_, _, rfl, rfl, _⟩
  · exact ⟨h1, (validC_n60 h2).1⟩
  · exact ⟨rfl, by omega⟩
theorem fmtC_valid {N : Int} {L : List Int} {n : Nat} (h : fmtC N L n ≠ ⟨#[]⟩) : validC N L n = true := by
  cases hv : validC N L n with
  | true => rfl
  | false => exfalso; apply h; unfold fmtC; rw [hv]; rfl
theorem PcR.hit (hF : PgF K A B C O) {s : ByteArray} {N : Int} {L : List Int} {n : Nat} {ok : Bool} (h : PcR s N L n ok) {N' : Int} {L' : List Int} {n' : Nat} (hl : L'.length = n' * 4) (hs : s ≠ ⟨#[]⟩) (hf : fmtC N' L' n' = s) :
    N = N' ∧ L = L' ∧ n = n' ∧ ok = true := by
  have hv := fmtC_valid (N := N') (L := L') (n := n') (by rw [hf]; exact hs)
  rcases h with ⟨h1, h2, h3, h4⟩ | ⟨h1, _⟩
  · have y := pc_yes hF h1 h2 h3
    have z := pc_yes hF hl hv hf
    obtain ⟨v, o, hn⟩ := numR_ex (toL (dg N))
    have e1 : dg N = dg N' := by
      have := y.head.symm.trans z.head
      injection this with _ this
      injection this
    have e2 := y.num v o hn
    have e3 := z.num v o (by rw [← e1]; exact hn)
    refine ⟨by rw [← e2, ← e3], y.rows.symm.trans z.rows, ?_, h4⟩
    have := y.len; have := z.len; omega
  · exact absurd hf (h1 _ _ _ hl hv)
theorem PcR.miss {s : ByteArray} {N : Int} {L : List Int} {n : Nat} {ok : Bool} (hF : PgF K A B C O) (h : PcR s N L n ok) (hn : ∀ N L n, PcY K A B C O s N L n → fmtC N L n = s → False) : N = 0 ∧ L = [] ∧ n = 0 ∧ ok = false := by
  rcases h with ⟨h1, h2, h3, h4⟩ | ⟨_, h⟩
  · exact (hn N L n (pc_yes hF h1 h2 h3) h3).elim
  · exact h
/-- The head of a text: its words' number, and the last one's number. -/
structure Head (s : ByteArray) (v : Int) (o : Bool) (hl : Nat) : Prop where
  len : hl = (pieces 32 ((pieces 10 s).getD 0 ⟨#[]⟩)).length
  num : NumR (toL ((pieces 32 ((pieces 10 s).getD 0 ⟨#[]⟩)).getD (hl - 1) ⟨#[]⟩)) v o
theorem head_ex (s : ByteArray) : ∃ v o hl, Head s v o hl := by
  obtain ⟨v, o, h⟩ := numR_ex (toL ((pieces 32 ((pieces 10 s).getD 0 ⟨#[]⟩)).getD ((pieces 32 ((pieces 10 s).getD 0 ⟨#[]⟩)).length - 1) ⟨#[]⟩))
  exact ⟨v, o, _, rfl, h⟩
theorem PcY.cand {s : ByteArray} {N : Int} {L : List Int} {n : Nat} (y : PcY K A B C O s N L n) {v : Int} {o : Bool} {hl : Nat} (h : Head s v o hl) : hl = 2 ∧ (pieces 32 ((pieces 10 s).getD 0 ⟨#[]⟩)).getD 0 ⟨#[]⟩ = quB ∧ v = N := by
  have h1 := h.len
  have h2 := h.num
  rw [y.head] at h1 h2 ⊢
  have h3 : hl = 2 := h1
  subst h3
  exact ⟨rfl, rfl, y.num v o h2⟩
theorem miss_head (hF : PgF K A B C O) {s : ByteArray} {N : Int} {L : List Int} {n : Nat} {ok : Bool} (h : PcR s N L n ok) {v : Int} {o : Bool} {hl : Nat} (hh : Head s v o hl) (hn : hl ≠ 2 ∨ (pieces 32 ((pieces 10 s).getD 0 ⟨#[]⟩)).getD 0 ⟨#[]⟩ ≠ quB) : N = 0 ∧ L = [] ∧ n = 0 ∧ ok = false := by
  refine h.miss hF fun N L n y _ => ?_
  obtain ⟨e1, e2, _⟩ := y.cand hh
  rcases hn with hn | hn
  · exact hn e1
  · exact hn e2
theorem miss_line (hF : PgF K A B C O) {s : ByteArray} {N : Int} {L : List Int} {n : Nat} {ok : Bool} (h : PcR s N L n ok) (j : Nat) (hj : j + 1 < (pieces 10 s).length) (hn : O ((pieces 10 s).getD (j + 1) ⟨#[]⟩) = false) : N = 0 ∧ L = [] ∧ n = 0 ∧ ok = false := by
  refine h.miss hF fun N L n y _ => ?_
  rw [y.oks j hj] at hn
  cases hn
theorem miss_nil (hF : PgF K A B C O) {s : ByteArray} {N : Int} {L : List Int} {n : Nat} {ok : Bool} (h : PcR s N L n ok) (hs : s = ⟨#[]⟩) : N = 0 ∧ L = [] ∧ n = 0 ∧ ok = false :=
  h.miss hF fun N L n y _ => y.ne hs
theorem miss_fmt (hF : PgF K A B C O) {s : ByteArray} {N : Int} {L : List Int} {n : Nat} {ok : Bool} (h : PcR s N L n ok) {v : Int} {o : Bool} {hl m : Nat} (hh : Head s v o hl) (hm : m + 1 = (pieces 10 s).length ∨ (m = 61 ∧ m + 1 ≤ (pieces 10 s).length))
    (hn : fmtC v (gl K A B C (((pieces 10 s).drop 1).take m)) m ≠ s) : N = 0 ∧ L = [] ∧ n = 0 ∧ ok = false := by
  refine h.miss hF fun N L n y hf => hn ?_
  have h1 := y.len
  have h2 := y.n60
  have hmn : m = n := by omega
  subst hmn
  have e1 := (y.cand hh).2.2
  have hd : ((pieces 10 s).drop 1).take m = (pieces 10 s).drop 1 := List.take_of_length_le (by simp; omega)
  rw [hd, e1, y.rows]
  exact hf
theorem gl_next (K A B C : ByteArray → Int) (ps : List ByteArray) (m : Nat) (h : m + 1 < ps.length) : gl K A B C ((ps.drop 1).take (m + 1)) = gl K A B C ((ps.drop 1).take m) ++ [K (ps.getD (m + 1) ⟨#[]⟩), A (ps.getD (m + 1) ⟨#[]⟩), B (ps.getD (m + 1) ⟨#[]⟩), C (ps.getD (m + 1) ⟨#[]⟩)] := by
  have e : (ps.drop 1).take (m + 1) = (ps.drop 1).take m ++ [ps.getD (m + 1) ⟨#[]⟩] := by
    rw [List.take_succ_eq_append_getElem (by simp; omega)]
    simp [List.getD, h, Nat.add_comm]
  rw [e, gl_app]
  rfl
theorem gl_take_len (K A B C : ByteArray → Int) (ps : List ByteArray) (m : Nat) (h : m + 1 ≤ ps.length) : (gl K A B C ((ps.drop 1).take m)).length = m * 4 := by
  rw [gl_len, List.length_take, List.length_drop, Nat.min_eq_left (by omega)]
/-- All that the two readers of a circuit's text need to know of it. -/
structure PcS (K A B C : ByteArray → Int) (O : ByteArray → Bool) (s : ByteArray) (N : Int) (L : List Int) (n : Nat) (ok : Bool) (v : Int) (o : Bool) (hl m : Nat) (T U : Nat → ByteArray) (G : Nat → List Int) : Prop where
  pg : ∀ s, PgR s (K s) (A s) (B s) (C s) (O s)
  m1 : 1 ≤ m
  mz : m ≤ 1048577
  wl : (pieces 10 s).length = m
  at_ : ∀ j, (pieces 10 s).getD j ⟨#[]⟩ = T j
  tz : ∀ j, (T j).size ≤ 1048576
  h1 : 1 ≤ hl
  hz : hl ≤ 1048577
  hw : (pieces 32 (T 0)).length = hl
  u_ : ∀ j, (pieces 32 (T 0)).getD j ⟨#[]⟩ = U j
  uz : ∀ j, (U j).size ≤ 1048576
  num : NumR (toL (U (hl - 1))) v o
  nil1 : s = ⟨#[]⟩ → hl = 1
  mHead : hl ≠ 2 ∨ U 0 ≠ quB → N = 0 ∧ L = [] ∧ n = 0 ∧ ok = false
  mLine : ∀ j, j + 1 < m → O (T (j + 1)) = false → N = 0 ∧ L = [] ∧ n = 0 ∧ ok = false
  mNil : s = ⟨#[]⟩ → N = 0 ∧ L = [] ∧ n = 0 ∧ ok = false
  mFmt : ∀ q, q + 1 = m ∨ (q = 61 ∧ q + 1 ≤ m) → fmtC v (G q) q ≠ s → N = 0 ∧ L = [] ∧ n = 0 ∧ ok = false
  hit : ∀ q, q + 1 ≤ m → s ≠ ⟨#[]⟩ → fmtC v (G q) q = s → N = v ∧ L = G q ∧ n = q ∧ ok = true
  g0 : G 0 = []
  gS : ∀ q, q + 1 < m → G (q + 1) = G q ++ [K (T (q + 1)), A (T (q + 1)), B (T (q + 1)), C (T (q + 1))]
  gL : ∀ q, q + 1 ≤ m → (G q).length = q * 4
theorem pcS_ex {s : ByteArray} {N : Int} {L : List Int} {n : Nat} {ok : Bool} (hR : PcR s N L n ok) (hs : s.size ≤ 1048576) : ∃ K A B C O v o hl m T U G, PcS K A B C O s N L n ok v o hl m T U G := by
  obtain ⟨K, A, B, C, O, hF⟩ := pgF_ex
  obtain ⟨v, o, hl, hh⟩ := head_ex s
  have hlen : ∀ (b : UInt8) (t : ByteArray), t.size ≤ 1048576 → 1 ≤ (pieces b t).length ∧ (pieces b t).length ≤ 1048577 := by
    intro b t ht
    have h1 := splitL_ne b (toL t)
    have h2 := splitL_len3 b (toL t)
    rw [toL_length] at h2
    unfold pieces
    rw [List.length_map]
    refine ⟨?_, by show (splitL b (toL t)).length ≤ _; omega⟩
    rcases Nat.eq_zero_or_pos (splitL b (toL t)).length with h | h
    · exact absurd (List.length_eq_zero_iff.1 h) h1
    · exact h
  have hz : ∀ (b : UInt8) (t : ByteArray) j, t.size ≤ 1048576 → ((pieces b t).getD j ⟨#[]⟩).size ≤ 1048576 := fun b t j ht => Nat.le_trans (pieces_size b t j) ht
  have hlv := hh.len
  exact ⟨K, A, B, C, O, v, o, hl, (pieces 10 s).length, fun j => (pieces 10 s).getD j ⟨#[]⟩, fun j => (pieces 32 ((pieces 10 s).getD 0 ⟨#[]⟩)).getD j ⟨#[]⟩, fun q => gl K A B C (((pieces 10 s).drop 1).take q),
    { pg := hF.all, m1 := (hlen 10 s hs).1, mz := (hlen 10 s hs).2, wl := rfl, at_ := fun _ => rfl, tz := fun j => hz 10 s j hs
      h1 := by rw [hlv]; exact (hlen 32 _ (hz 10 s 0 hs)).1
      hz := by rw [hlv]; exact (hlen 32 _ (hz 10 s 0 hs)).2
      hw := hlv.symm, u_ := fun _ => rfl, uz := fun j => hz 32 _ j (hz 10 s 0 hs), num := hh.num
      nil1 := fun h => by rw [hlv, h]; rfl
      mHead := fun h => miss_head hF hR hh h
      mLine := fun j hj h => miss_line hF hR j hj h
      mNil := fun h => miss_nil hF hR h
      mFmt := fun q hq h => miss_fmt hF hR hh hq h
      hit := fun q hq h1 h2 => hR.hit hF (gl_take_len K A B C _ q hq) h1 h2
      g0 := by simp [gl]
      gS := fun q hq => gl_next K A B C _ q hq
      gL := fun q hq => gl_take_len K A B C _ q hq }⟩
end
end Go.Proofs.YtkhgkaiadfebmaaDoor
