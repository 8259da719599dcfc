/-
  Plain law: the text of good tokens is read back as the same tokens. Conditions: at most 160 tokens, each with a text.
-/
import Derived.Test.YtilkbccpcbelgaaTkz3
set_option linter.unusedSimpArgs false
set_option linter.unusedVariables false
namespace Go.Proofs.Ytilkbccpcbelgaa
theorem at_drop {s : ByteArray} {q : Nat} {a : UInt8} {l : List UInt8} (h : s.data.toList.drop q = a :: l) : ∃ hq : q < s.size, s[q] = a := by
  have hlen : q < s.data.toList.length := by
    rcases Nat.lt_or_ge q s.data.toList.length with h1 | h1
    · exact h1
    · rw [List.drop_eq_nil_of_le h1] at h; cases h
  have hq : q < s.size := by simpa using hlen
  refine ⟨hq, ?_⟩
  rw [List.drop_eq_getElem_cons hlen] at h
  injection h with h1 _
theorem drop_tail {s : List UInt8} {q : Nat} {a : UInt8} {l : List UInt8} (h : s.drop q = a :: l) : s.drop (q + 1) = l := by
  have := congrArg List.tail h
  simpa using this
theorem drop_app : ∀ (w : List UInt8) {s r : List UInt8} {q : Nat}, s.drop q = w ++ r → s.drop (q + w.length) = r
  | [], s, r, q, h => by simpa using h
  | a :: w, s, r, q, h => by
    have h1 := drop_tail (a := a) (l := w ++ r) h
    have h2 := drop_app w h1
    rw [List.length_cons, show q + (w.length + 1) = q + 1 + w.length from by omega]; exact h2
theorem extract_word {s t : ByteArray} {q : Nat} {r : List UInt8} (h : s.data.toList.drop q = t.data.toList ++ r) : s.extract q (q + t.data.toList.length) = t := by
  apply ByteArray.ext
  apply Array.toList_inj.1
  rw [ByteArray.data_extract, Array.toList_extract]
  simp only [List.extract_eq_take_drop]
  rw [h, Nat.add_sub_cancel_left, List.take_left']
  rfl
theorem runE_word {s : ByteArray} : ∀ (w : List UInt8) (q f : Nat) (r : List UInt8), s.data.toList.drop q = w ++ r → (∀ a ∈ w, letB (a.toNat : Int) = true) → (r = [] ∨ ∃ a l, r = a :: l ∧ letB (a.toNat : Int) = false) → w.length ≤ f → runE s f q = q + w.length
  | [], q, f, r, h, hw, hr, hf => by
    rw [List.nil_append] at h
    apply runE_stop
    intro hq
    rcases hr with rfl | ⟨a, l, rfl, ha⟩
    · have h1 := congrArg List.length h
      simp at h1
      have : s.data.toList.length = s.size := by simp
      simp at this
      omega
    · obtain ⟨_, e⟩ := at_drop h
      rw [e]; exact ha
  | a :: w, q, f, r, h, hw, hr, hf => by
    cases f with
    | zero => simp at hf
    | succ f =>
    obtain ⟨hq, e⟩ := at_drop (a := a) (l := w ++ r) h
    rw [runE_go hq (by rw [e]; exact hw a (by simp)), runE_word w (q + 1) f r (drop_tail (a := a) (l := w ++ r) h) (fun b hb => hw b (by simp [hb])) hr (by simpa using hf)]
    simp; omega
/-- A token that has a text. -/
def goodT (t : Tk) : Prop := fmtTok t.1 t.2 ≠ ⟨#[]⟩
theorem good_cases {t : Tk} (h : goodT t) : (t.1 = 1 ∧ wordB t.2 = true) ∨ (t.2 = ⟨#[]⟩ ∧ (t.1 = 2 ∨ t.1 = 3 ∨ t.1 = 4)) := by
  unfold goodT fmtTok at h
  by_cases h1 : t.1 = 1 ∧ wordB t.2 = true
  · exact .inl h1
  · rw [if_neg h1] at h
    cases he : t.2.toList.isEmpty with
    | false => rw [he, if_pos rfl] at h; exact absurd rfl h
    | true =>
      rw [he, if_neg (by decide)] at h
      have hd : t.2 = ⟨#[]⟩ := by
        rw [ByteArray.toList_eq] at he
        have : t.2.data.toList = [] := by simpa using he
        apply ByteArray.ext
        apply Array.toList_inj.1
        rw [this]
      refine .inr ⟨hd, ?_⟩
      by_cases h2 : t.1 = 2
      · exact .inl h2
      · by_cases h3 : t.1 = 3
        · exact .inr (.inl h3)
        · by_cases h4 : t.1 = 4
          · exact .inr (.inr h4)
          · rw [if_neg h2, if_neg h3, if_neg h4] at h; exact absurd rfl h
def sepL (T : List Tk) (j : Nat) : List UInt8 := if 0 < j ∧ (T.getD j tk0).1 ≠ 2 then [32] else []
def tkL (T : List Tk) (j : Nat) : List UInt8 := (fmtTok (T.getD j tk0).1 (T.getD j tk0).2).data.toList
def restL (T : List Tk) : Nat → Nat → List UInt8
  | _, 0 => []
  | j, m + 1 => sepL T j ++ (tkL T j ++ restL T (j + 1) m)
theorem fmtTo_succ (T : List Tk) (j : Nat) : (fmtTo T (j + 1)).data.toList = (fmtTo T j).data.toList ++ (sepL T j ++ tkL T j) := by
  rw [fmtTo, sepL, tkL]
  split
  · simp [ByteArray.data_append]
  · simp [ByteArray.data_append]
theorem fmtTo_rest (T : List Tk) : ∀ m j, (fmtTo T (j + m)).data.toList = (fmtTo T j).data.toList ++ restL T j m
  | 0, j => by simp [restL]
  | m + 1, j => by
    rw [show j + (m + 1) = (j + 1) + m from by omega, fmtTo_rest T m (j + 1), fmtTo_succ, restL]
    simp
theorem tkL_word {T : List Tk} {j : Nat} (h : (T.getD j tk0).1 = 1) (hw : wordB (T.getD j tk0).2 = true) : tkL T j = (T.getD j tk0).2.data.toList := by
  rw [tkL, h, fmtTok1_yes hw]
theorem tkL_mark {T : List Tk} {j : Nat} (he : (T.getD j tk0).2 = ⟨#[]⟩) (h : (T.getD j tk0).1 = 2 ∨ (T.getD j tk0).1 = 3 ∨ (T.getD j tk0).1 = 4) : ((T.getD j tk0).1 = 2 ∧ tkL T j = [59]) ∨ ((T.getD j tk0).1 = 3 ∧ tkL T j = [123]) ∨ ((T.getD j tk0).1 = 4 ∧ tkL T j = [125]) := by
  rw [tkL, he]
  rcases h with h | h | h
  · refine .inl ⟨h, ?_⟩
    rw [h, fmt_mark (by decide)]; rfl
  · refine .inr (.inl ⟨h, ?_⟩)
    rw [h, fmt_mark (by decide)]; rfl
  · refine .inr (.inr ⟨h, ?_⟩)
    rw [h, fmt_mark (by decide)]; rfl
theorem rest_head (T : List Tk) (j m : Nat) (hj : 0 < j) (hg : 0 < m → goodT (T.getD j tk0)) : restL T j m = [] ∨ ∃ a l, restL T j m = a :: l ∧ letB (a.toNat : Int) = false := by
  cases m with
  | zero => exact .inl rfl
  | succ m =>
    refine .inr ?_
    rw [restL]
    by_cases h2 : (T.getD j tk0).1 = 2
    · rw [sepL, if_neg (fun h => h.2 h2)]
      rcases good_cases (hg (by omega)) with ⟨h1, _⟩ | ⟨he, hk⟩
      · rw [h2] at h1; cases h1
      · rcases tkL_mark he hk with ⟨_, e⟩ | ⟨h3, _⟩ | ⟨h3, _⟩
        · rw [e]; exact ⟨59, _, rfl, by decide⟩
        · rw [h2] at h3; cases h3
        · rw [h2] at h3; cases h3
    · rw [sepL, if_pos ⟨hj, h2⟩]
      exact ⟨32, _, rfl, by decide⟩
theorem take_tk {T : List Tk} {j : Nat} (h : j < T.length) : T.take j ++ [T.getD j tk0] = T.take (j + 1) := by
  rw [List.take_succ_eq_append_getElem h]
  simp [List.getD, h]
theorem letB_not {c : Int} (h : letB c = true) : ¬ (c = 32 ∨ c = 10) ∧ ¬ c = 59 ∧ ¬ c = 123 ∧ ¬ c = 125 := by
  unfold letB at h
  simp at h
  omega
theorem word_lets {t : ByteArray} (h : wordB t = true) : (∀ a ∈ t.data.toList, letB (a.toNat : Int) = true) ∧ 1 ≤ t.data.toList.length := by
  simp only [wordB, Bool.and_eq_true, decide_eq_true_eq, List.all_eq_true] at h
  refine ⟨fun a ha => h.1 a ha, ?_⟩
  have : t.data.toList.length = t.size := by simp
  omega
/-- One token at place q. -/
theorem lex_one {s : ByteArray} {T : List Tk} {j q f : Nat} {r : List UInt8} (hd : s.data.toList.drop q = tkL T j ++ r) (hg : goodT (T.getD j tk0)) (hr : r = [] ∨ ∃ a l, r = a :: l ∧ letB (a.toNat : Int) = false) (hj : j < T.length) (h160 : j < 160) :
    lex s (f + 1) q (T.take j) = lex s f (q + (tkL T j).length) (T.take (j + 1)) ∧ q < s.size := by
  have hlen : ¬ (T.take j).length = 160 := by simp; omega
  rcases good_cases hg with ⟨h1, hw⟩ | ⟨he, hk⟩
  · rw [tkL_word h1 hw] at hd ⊢
    obtain ⟨hl, hn⟩ := word_lets hw
    obtain ⟨a, w, hw'⟩ : ∃ a w, (T.getD j tk0).2.data.toList = a :: w := by
      cases hc : (T.getD j tk0).2.data.toList with
      | nil => rw [hc] at hn; simp at hn
      | cons a w => exact ⟨a, w, rfl⟩
    have hd0 := hd
    rw [hw'] at hd0
    obtain ⟨hq, e⟩ := at_drop (l := w ++ r) hd0
    have ha := hl a (by rw [hw']; simp)
    obtain ⟨n1, n2, n3, n4⟩ := letB_not ha
    have hE : wEnd s q = q + (T.getD j tk0).2.data.toList.length := by
      unfold wEnd
      refine runE_word _ q s.size r hd hl hr ?_
      have h2 := congrArg List.length hd
      simp at h2
      have h3 : s.data.toList.length = s.size := by simp
      simp at h3 ⊢
      omega
    have hx : s.extract q (wEnd s q) = (T.getD j tk0).2 := by rw [hE]; exact extract_word hd
    have ht : tokAt s q (s[q].toNat : Int) = some (T.getD j tk0, q + (T.getD j tk0).2.data.toList.length) := by
      rw [e, tokAt_word n2 n3 n4 (by rw [hx]; exact hw), hx, hE]
      have : (1, (T.getD j tk0).2) = T.getD j tk0 := by rw [← h1]
      rw [this]
    refine ⟨?_, hq⟩
    rw [lex_tok hq (by rw [e]; exact n1) ht hlen, take_tk hj]
  · have key : ∀ (c : UInt8) (k : Int), (T.getD j tk0).1 = k → tkL T j = [c] → ¬ ((c.toNat : Int) = 32 ∨ (c.toNat : Int) = 10) → tokAt s q (c.toNat : Int) = some ((k, ⟨#[]⟩), q + 1) → lex s (f + 1) q (T.take j) = lex s f (q + (tkL T j).length) (T.take (j + 1)) ∧ q < s.size := by
      intro c k h1 h2 h3 h4
      rw [h2] at hd ⊢
      obtain ⟨hq, e⟩ := at_drop (a := c) (l := r) hd
      refine ⟨?_, hq⟩
      rw [lex_tok hq (by rw [e]; exact h3) (by rw [e]; exact h4) hlen]
      have : (k, (⟨#[]⟩ : ByteArray)) = T.getD j tk0 := by rw [← h1, ← he]
      rw [this, take_tk hj]
      rfl
    rcases tkL_mark he hk with ⟨h1, h2⟩ | ⟨h1, h2⟩ | ⟨h1, h2⟩
    · exact key 59 2 h1 h2 (by decide) rfl
    · exact key 123 3 h1 h2 (by decide) rfl
    · exact key 125 4 h1 h2 (by decide) rfl
theorem tkL_pos {T : List Tk} {j : Nat} (hg : goodT (T.getD j tk0)) : 0 < (tkL T j).length := by
  rcases good_cases hg with ⟨h1, hw⟩ | ⟨he, hk⟩
  · rw [tkL_word h1 hw]; exact (word_lets hw).2
  · rcases tkL_mark he hk with ⟨_, h2⟩ | ⟨_, h2⟩ | ⟨_, h2⟩ <;> rw [h2] <;> simp
theorem lex_rest {s : ByteArray} {T : List Tk} : ∀ m j q f, s.data.toList.drop q = restL T j m → s.size - q < f → (∀ i, j ≤ i → i < j + m → goodT (T.getD i tk0)) → j + m ≤ 160 → j + m ≤ T.length → lex s f q (T.take j) = some (T.take (j + m))
  | 0, j, q, f, hd, hf, hg, h160, hl => by
    rw [restL] at hd
    have hq : ¬ q < s.size := by
      have h2 := congrArg List.length hd
      simp at h2
      have h3 : s.data.toList.length = s.size := by simp
      simp at h3
      omega
    rw [lex_end hq]; simp
  | m + 1, j, q, f, hd, hf, hg, h160, hl => by
    rw [restL] at hd
    have hgj := hg j (Nat.le_refl _) (by omega)
    have hrh := rest_head T (j + 1) m (by omega) (fun _ => hg (j + 1) (by omega) (by omega))
    have go : ∀ q f, s.data.toList.drop q = tkL T j ++ restL T (j + 1) m → s.size - q < f → lex s f q (T.take j) = some (T.take (j + (m + 1))) := by
      intro q f hd hf
      cases f with
      | zero => omega
      | succ f =>
      obtain ⟨e, hq⟩ := lex_one (f := f) hd hgj hrh (by omega) (by omega)
      rw [e, show j + (m + 1) = (j + 1) + m from by omega]
      have hp := tkL_pos hgj
      exact lex_rest m (j + 1) _ f (drop_app _ hd) (by omega) (fun i h1 h2 => hg i (by omega) (by omega)) (by omega) (by omega)
    by_cases hs : 0 < j ∧ (T.getD j tk0).1 ≠ 2
    · rw [sepL, if_pos hs] at hd
      obtain ⟨hq, e⟩ := at_drop (a := 32) (l := tkL T j ++ restL T (j + 1) m) hd
      cases f with
      | zero => omega
      | succ f =>
      rw [lex_space hq (.inl (by rw [e]; rfl))]
      exact go (q + 1) f (drop_tail (a := 32) (l := tkL T j ++ restL T (j + 1) m) hd) (by omega)
    · rw [sepL, if_neg hs, List.nil_append] at hd
      exact go q f hd hf
theorem lex_fmt (T : List Tk) (hn : T.length ≤ 160) (hg : ∀ i, i < T.length → goodT (T.getD i tk0)) : lexS (fmtTo T T.length) = some T := by
  have h := lex_rest (s := fmtTo T T.length) (T := T) T.length 0 0 ((fmtTo T T.length).size + 1) (by
    have := fmtTo_rest T T.length 0
    rw [Nat.zero_add] at this
    rw [List.drop_zero, this]
    simp [fmtTo]) (by omega) (fun i _ h2 => hg i (by omega)) (by omega) (by omega)
  unfold lexS
  rw [List.take_zero, Nat.zero_add, List.take_of_length_le (Nat.le_refl _)] at h
  exact h
end Go.Proofs.Ytilkbccpcbelgaa
