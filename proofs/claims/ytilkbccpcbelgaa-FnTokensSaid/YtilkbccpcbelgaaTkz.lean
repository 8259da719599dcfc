/-
  Tokenize: what both texts compute, and the contract of impl.Tokenize. Conditions: the text has at most 2^20 bytes.
-/
import Derived.Test.YtilkbccpcbelgaaToks2
import Derived.Test.YtilkbccpcbelgaaCat
set_option linter.unusedSimpArgs false
set_option linter.unusedVariables false
namespace Go.Proofs.Ytilkbccpcbelgaa
open Go.RowKit
/-- The end of the letters from k on. -/
def runE (s : ByteArray) : Nat → Nat → Nat
  | 0, k => k
  | f + 1, k => if h : k < s.size then (if letB (s[k].toNat : Int) = true then runE s f (k + 1) else k) else k
theorem runE_stop {s : ByteArray} {f k : Nat} (h : ∀ h : k < s.size, letB (s[k].toNat : Int) = false) : runE s f k = k := by
  cases f with
  | zero => rfl
  | succ f =>
    rw [runE]
    split
    · rename_i h1
      rw [h h1]; rfl
    · rfl
theorem runE_go {s : ByteArray} {f k : Nat} (h : k < s.size) (hb : letB (s[k].toNat : Int) = true) : runE s (f + 1) k = runE s f (k + 1) := by
  rw [runE, dif_pos h, if_pos hb]
def wEnd (s : ByteArray) (i : Nat) : Nat := runE s s.size i
/-- The token at place i, and where it ends. -/
def tokAt (s : ByteArray) (i : Nat) (c : Int) : Option (Tk × Nat) :=
  if c = 59 then some ((2, ⟨#[]⟩), i + 1) else if c = 123 then some ((3, ⟨#[]⟩), i + 1) else if c = 125 then some ((4, ⟨#[]⟩), i + 1)
  else if wordB (s.extract i (wEnd s i)) = true then some ((1, s.extract i (wEnd s i)), wEnd s i) else none
def lex (s : ByteArray) : Nat → Nat → List Tk → Option (List Tk)
  | 0, _, acc => some acc
  | f + 1, i, acc => if h : i < s.size then (if (s[i].toNat : Int) = 32 ∨ (s[i].toNat : Int) = 10 then lex s f (i + 1) acc else
      match tokAt s i (s[i].toNat : Int) with
      | none => none
      | some (t, k) => if acc.length = 160 then none else lex s f k (acc ++ [t])) else some acc
def lexS (s : ByteArray) : Option (List Tk) := lex s (s.size + 1) 0 []
theorem lex_end {s : ByteArray} {f i : Nat} {acc : List Tk} (h : ¬ i < s.size) : lex s f i acc = some acc := by
  cases f with
  | zero => rfl
  | succ f => rw [lex, dif_neg h]
theorem lex_space {s : ByteArray} {f i : Nat} {acc : List Tk} (h : i < s.size) (hc : (s[i].toNat : Int) = 32 ∨ (s[i].toNat : Int) = 10) : lex s (f + 1) i acc = lex s f (i + 1) acc := by
  rw [lex, dif_pos h, if_pos hc]
theorem lex_tok {s : ByteArray} {f i k : Nat} {acc : List Tk} {t : Tk} (h : i < s.size) (hc : ¬ ((s[i].toNat : Int) = 32 ∨ (s[i].toNat : Int) = 10)) (ht : tokAt s i (s[i].toNat : Int) = some (t, k)) (hl : ¬ acc.length = 160) : lex s (f + 1) i acc = lex s f k (acc ++ [t]) := by
  rw [lex, dif_pos h, if_neg hc, ht]
  simp only
  rw [if_neg hl]
theorem lex_full {s : ByteArray} {f i k : Nat} {acc : List Tk} {t : Tk} (h : i < s.size) (hc : ¬ ((s[i].toNat : Int) = 32 ∨ (s[i].toNat : Int) = 10)) (ht : tokAt s i (s[i].toNat : Int) = some (t, k)) (hl : acc.length = 160) : lex s (f + 1) i acc = none := by
  rw [lex, dif_pos h, if_neg hc, ht]
  simp only
  rw [if_pos hl]
theorem lex_bad {s : ByteArray} {f i : Nat} {acc : List Tk} (h : i < s.size) (hc : ¬ ((s[i].toNat : Int) = 32 ∨ (s[i].toNat : Int) = 10)) (ht : tokAt s i (s[i].toNat : Int) = none) : lex s (f + 1) i acc = none := by
  rw [lex, dif_pos h, if_neg hc, ht]
theorem tokAt_word {s : ByteArray} {i : Nat} {c : Int} (h1 : ¬ c = 59) (h2 : ¬ c = 123) (h3 : ¬ c = 125) (hw : wordB (s.extract i (wEnd s i)) = true) : tokAt s i c = some ((1, s.extract i (wEnd s i)), wEnd s i) := by
  unfold tokAt; rw [if_neg h1, if_neg h2, if_neg h3, if_pos hw]
theorem tokAt_none {s : ByteArray} {i : Nat} {c : Int} (h1 : ¬ c = 59) (h2 : ¬ c = 123) (h3 : ¬ c = 125) (hw : wordB (s.extract i (wEnd s i)) = false) : tokAt s i c = none := by
  unfold tokAt; rw [if_neg h1, if_neg h2, if_neg h3, if_neg (by rw [hw]; decide)]
theorem toks_one (T : List Tk) : ∀ u ∈ toks T, u.oneCell' = true := by
  intro u hu
  simp only [toks, List.mem_flatMap] at hu
  obtain ⟨t, _, ht⟩ := hu
  simp at ht
  rcases ht with rfl | rfl <;> rfl
/-- What the two texts hand back. -/
def TokRes (s : ByteArray) (T : List Tk) (ok : Bool) : Prop := (lexS s = some T ∧ ok = true) ∨ (lexS s = none ∧ ok = false ∧ T = [])
theorem TokRes.some {s : ByteArray} {T acc : List Tk} {ok : Bool} (h : TokRes s T ok) (ha : lexS s = Option.some acc) : T = acc ∧ ok = true := by
  rcases h with ⟨h, rfl⟩ | ⟨h, _⟩
  · rw [ha] at h; injection h with h; exact ⟨h.symm, rfl⟩
  · rw [ha] at h; cases h
theorem TokRes.none {s : ByteArray} {T : List Tk} {ok : Bool} (h : TokRes s T ok) (ha : lexS s = Option.none) : T = [] ∧ ok = false := by
  rcases h with ⟨h, rfl⟩ | ⟨_, h, h'⟩
  · rw [ha] at h; cases h
  · exact ⟨h', h⟩
theorem rd_tok (w : World) (k : Int) (t : ByteArray) : Rd (w.alloc (.cells #[.int .i64 k, .string t] 71)) (some ⟨w.heap.size, 0, none⟩) (toks [(k, t)]) :=
  (Fr.of_blk (lo := 0) (hi := w.heap.size + 1) (off := 0) (Blk.new w 71 #[.int .i64 k, .string t]) (Nat.zero_le _) (Nat.lt_succ_self _) (fun j u hu => by rw [Nat.zero_add]; simpa [toks] using hu)).rd
set_option maxRecDepth 20000 in
set_option maxHeartbeats 3200000 in
theorem impl_tokenize (s : ByteArray) (T : List Tk) (ok : Bool) (w : World) (hs : s.size ≤ 1048576) (hR : TokRes s T ok) :
    Calls Try.prog 48 #[.string s] w fun e w' => ∃ G cG, e = .returned (.tuple #[.slice G T.length cG, .bool ok]) ∧ Fr w' w.heap.size w'.heap.size G (toks T) ∧ Ext w w' := by
  have HR := Lib.hid hR
  clear hR
  obtain ⟨i0, hi, hz0, hz1, hz2⟩ := info_parts info_token
  have HO := Lib.hid (own_new (w := w) (g := w.heap.size) (base := w.heap.size) (e := 71) (size := 2) #[] 0 rfl (Nat.le_refl _) (by simp) (by simp))
  go_enter Try.func48, Try.ntmps48
  go_wp2
  go_loopw [4, 5, 6, 7] (fun v i _ _ wr => ∃ (j f : Nat) (acc : List Tk), j ≤ s.size ∧ i = .int .i64 j ∧ s.size - j < f ∧ acc.length ≤ 160 ∧ Hid (lex s f j acc = lexS s) ∧ wr.ownsRow w.heap.size 71 2 v acc.length (toks acc) ∧ Ext w wr) (fun _ i _ _ _ => s.size - (intOf i).toNat)
  case atStart => exact ⟨0, s.size + 1, [], Nat.zero_le _, rfl, by omega, by simp, Lib.hid rfl, HO.out, (by repeat (first | exact Ext.refl _ | assumption | refine Ext.alloc ?_ _ | refine Ext.drew ?_ | refine Ext.drewN ?_ _ | refine Ext.trans ?_ (by assumption)))⟩
  case round =>
    obtain ⟨j, f, acc, hj, rfl, hf, hacc, hlex, hown, he⟩ := hrel
    by_cases hlt : j < s.size
    · cases f with
      | zero => omega
      | succ f =>
      by_cases h32 : (s[j].toNat : Int) = 32
      · have b32 : ((s[j].toNat : Int) == 32) = true := by simpa using h32
        have HC := Lib.hid h32
        clear h32
        go_wp2
        go_roundw
        case rel => exact ⟨j + 1, f, acc, by omega, by go_num, by omega, hacc, Lib.hid (by rw [← hlex.out, lex_space hlt (.inl HC.out)]), hown, he⟩
        case measure => simp [intOf]; omega
      have b32 : ((s[j].toNat : Int) == 32) = false := by simpa using h32
      by_cases h10 : (s[j].toNat : Int) = 10
      · have b10 : ((s[j].toNat : Int) == 10) = true := by simpa using h10
        have HC := Lib.hid h10
        clear h10 h32
        go_wp2
        go_roundw
        case rel => exact ⟨j + 1, f, acc, by omega, by go_num, by omega, hacc, Lib.hid (by rw [← hlex.out, lex_space hlt (.inr HC.out)]), hown, he⟩
        case measure => simp [intOf]; omega
      have b10 : ((s[j].toNat : Int) == 10) = false := by simpa using h10
      have HNS : Hid (¬ ((s[j].toNat : Int) = 32 ∨ (s[j].toNat : Int) = 10)) := by
        show ¬ _
        rintro (h | h)
        · exact h32 h
        · exact h10 h
      clear h32 h10
      by_cases h59 : (s[j].toNat : Int) = 59
      · have b59 : ((s[j].toNat : Int) == 59) = true := by simpa using h59
        have HT : Hid (tokAt s j (s[j].toNat : Int) = some ((2, ⟨#[]⟩), j + 1)) := by
          show _ = _
          rw [h59]; rfl
        clear h59
        have rd2 := rd_tok wr 2 ⟨#[]⟩
        have zz := he.size
        go_wp2_with (at_builtin; refine wpList_append_rd rfl _ _ 60 rfl w.heap.size 71 i0 (.agg #[.int .i64 0, .string ⟨#[]⟩]) 2 24 Try.underlying60 hi hz0 hz1 hz2 rfl (by decide) _ acc.length (toks acc) rfl (hown.alloc _) (some ⟨wr.heap.size, 0, none⟩) 1 1 (toks [(2, ⟨#[]⟩)]) rfl rfl rd2 (fun h => by cases h) (toks_one _) ?c3 ?c4 ?c5 ?_)
        case c3 => unfold maxLen; omega
        case c4 => omega
        case c5 => simp; omega
        intro v' w3 hown' hgrow
        have he' := own_ext (he.alloc _) (hown.alloc _) (Nat.le_refl _) hgrow
        obtain ⟨G3, c3, rfl⟩ := own_form hown'
        have HO' : Hid (w3.ownsRow w.heap.size 71 2 (.slice G3 (acc.length + 1) c3) (acc ++ [((2 : Int), ByteArray.mk #[])]).length (toks (acc ++ [((2 : Int), ByteArray.mk #[])]))) := by
          show World.ownsRow _ _ _ _ _ _ _
          rw [toks_app, List.length_append]; exact hown'
        clear hown' hgrow hown he rd2
        by_cases hfull : acc.length = 160
        · have b160 : (160 : Int) < ((acc.length + 1 : Nat) : Int) := by omega
          obtain ⟨rfl, rfl⟩ := HR.out.none (by rw [← hlex.out]; exact lex_full hlt HNS.out HT.out hfull)
          clear hfull
          go_wp2
          go_ret2
          exact ⟨none, 0, rfl, Fr.nil _ _ _ _, he'⟩
        · have b160 : ¬ ((160 : Int) < ((acc.length + 1 : Nat) : Int)) := by omega
          go_wp2
          go_roundw
          case rel => exact ⟨j + 1, f, acc ++ [(2, ⟨#[]⟩)], by omega, by go_num, by omega, by simp; omega, Lib.hid (by rw [← hlex.out, lex_tok hlt HNS.out HT.out hfull]), HO'.out, he'⟩
          case measure => simp [intOf]; omega
      have b59 : ((s[j].toNat : Int) == 59) = false := by simpa using h59
      have H59 := Lib.hid h59
      clear h59
      by_cases h123 : (s[j].toNat : Int) = 123
      · have b123 : ((s[j].toNat : Int) == 123) = true := by simpa using h123
        have HT : Hid (tokAt s j (s[j].toNat : Int) = some ((3, ⟨#[]⟩), j + 1)) := by
          show _ = _
          rw [h123]; rfl
        clear h123
        have rd2 := rd_tok wr 3 ⟨#[]⟩
        have zz := he.size
        go_wp2_with (at_builtin; refine wpList_append_rd rfl _ _ 60 rfl w.heap.size 71 i0 (.agg #[.int .i64 0, .string ⟨#[]⟩]) 2 24 Try.underlying60 hi hz0 hz1 hz2 rfl (by decide) _ acc.length (toks acc) rfl (hown.alloc _) (some ⟨wr.heap.size, 0, none⟩) 1 1 (toks [(3, ⟨#[]⟩)]) rfl rfl rd2 (fun h => by cases h) (toks_one _) ?c3 ?c4 ?c5 ?_)
        case c3 => unfold maxLen; omega
        case c4 => omega
        case c5 => simp; omega
        intro v' w3 hown' hgrow
        have he' := own_ext (he.alloc _) (hown.alloc _) (Nat.le_refl _) hgrow
        obtain ⟨G3, c3, rfl⟩ := own_form hown'
        have HO' : Hid (w3.ownsRow w.heap.size 71 2 (.slice G3 (acc.length + 1) c3) (acc ++ [((3 : Int), ByteArray.mk #[])]).length (toks (acc ++ [((3 : Int), ByteArray.mk #[])]))) := by
          show World.ownsRow _ _ _ _ _ _ _
          rw [toks_app, List.length_append]; exact hown'
        clear hown' hgrow hown he rd2
        by_cases hfull : acc.length = 160
        · have b160 : (160 : Int) < ((acc.length + 1 : Nat) : Int) := by omega
          obtain ⟨rfl, rfl⟩ := HR.out.none (by rw [← hlex.out]; exact lex_full hlt HNS.out HT.out hfull)
          clear hfull
          go_wp2
          go_ret2
          exact ⟨none, 0, rfl, Fr.nil _ _ _ _, he'⟩
        · have b160 : ¬ ((160 : Int) < ((acc.length + 1 : Nat) : Int)) := by omega
          go_wp2
          go_roundw
          case rel => exact ⟨j + 1, f, acc ++ [(3, ⟨#[]⟩)], by omega, by go_num, by omega, by simp; omega, Lib.hid (by rw [← hlex.out, lex_tok hlt HNS.out HT.out hfull]), HO'.out, he'⟩
          case measure => simp [intOf]; omega
      have b123 : ((s[j].toNat : Int) == 123) = false := by simpa using h123
      have H123 := Lib.hid h123
      clear h123
      by_cases h125 : (s[j].toNat : Int) = 125
      · have b125 : ((s[j].toNat : Int) == 125) = true := by simpa using h125
        have HT : Hid (tokAt s j (s[j].toNat : Int) = some ((4, ⟨#[]⟩), j + 1)) := by
          show _ = _
          rw [h125]; rfl
        clear h125
        have rd2 := rd_tok wr 4 ⟨#[]⟩
        have zz := he.size
        go_wp2_with (at_builtin; refine wpList_append_rd rfl _ _ 60 rfl w.heap.size 71 i0 (.agg #[.int .i64 0, .string ⟨#[]⟩]) 2 24 Try.underlying60 hi hz0 hz1 hz2 rfl (by decide) _ acc.length (toks acc) rfl (hown.alloc _) (some ⟨wr.heap.size, 0, none⟩) 1 1 (toks [(4, ⟨#[]⟩)]) rfl rfl rd2 (fun h => by cases h) (toks_one _) ?c3 ?c4 ?c5 ?_)
        case c3 => unfold maxLen; omega
        case c4 => omega
        case c5 => simp; omega
        intro v' w3 hown' hgrow
        have he' := own_ext (he.alloc _) (hown.alloc _) (Nat.le_refl _) hgrow
        obtain ⟨G3, c3, rfl⟩ := own_form hown'
        have HO' : Hid (w3.ownsRow w.heap.size 71 2 (.slice G3 (acc.length + 1) c3) (acc ++ [((4 : Int), ByteArray.mk #[])]).length (toks (acc ++ [((4 : Int), ByteArray.mk #[])]))) := by
          show World.ownsRow _ _ _ _ _ _ _
          rw [toks_app, List.length_append]; exact hown'
        clear hown' hgrow hown he rd2
        by_cases hfull : acc.length = 160
        · have b160 : (160 : Int) < ((acc.length + 1 : Nat) : Int) := by omega
          obtain ⟨rfl, rfl⟩ := HR.out.none (by rw [← hlex.out]; exact lex_full hlt HNS.out HT.out hfull)
          clear hfull
          go_wp2
          go_ret2
          exact ⟨none, 0, rfl, Fr.nil _ _ _ _, he'⟩
        · have b160 : ¬ ((160 : Int) < ((acc.length + 1 : Nat) : Int)) := by omega
          go_wp2
          go_roundw
          case rel => exact ⟨j + 1, f, acc ++ [(4, ⟨#[]⟩)], by omega, by go_num, by omega, by simp; omega, Lib.hid (by rw [← hlex.out, lex_tok hlt HNS.out HT.out hfull]), HO'.out, he'⟩
          case measure => simp [intOf]; omega
      have b125 : ((s[j].toNat : Int) == 125) = false := by simpa using h125
      have H125 := Lib.hid h125
      clear h125
      go_wp2
      go_loop [5] (fun i' => ∃ k f2 : Nat, j ≤ k ∧ k ≤ s.size ∧ i' = .int .i64 k ∧ Hid (runE s f2 k = wEnd s j) ∧ s.size - k ≤ f2) (fun i' => s.size - (intOf i').toNat)
      case atStart => exact ⟨j, s.size, Nat.le_refl _, hj, rfl, Lib.hid rfl, by omega⟩
      case round =>
        obtain ⟨k, f2, hjk, hk, rfl, hrun, hf2⟩ := hrel
        have HE : Hid ((∀ h : k < s.size, letB (s[k].toNat : Int) = false) → wEnd s j = k) := by
          show _ → _
          intro h; rw [← hrun.out]; exact runE_stop h
        by_cases hkl : k < s.size
        · obtain ⟨d, hd⟩ : ∃ d, d = letB (s[k].toNat : Int) := ⟨_, rfl⟩
          have hcall := fun W => impl_letter (s[k].toNat : Int) W
          rw [← hd] at hcall
          have HC := Lib.hid hcall
          have HD := Lib.hid hd
          clear hcall hd
          cases d with
          | true =>
            go_wp2_with (go_at_call 83; refine (HC.out _).mono ?_; rintro e w' ⟨rfl, rfl⟩)
            go_round
            case rel =>
              cases f2 with
              | zero => omega
              | succ f2 => exact ⟨k + 1, f2, by omega, by omega, by go_num, Lib.hid (by rw [← hrun.out, runE_go hkl HD.out.symm]), by omega⟩
            case measure => simp [intOf]; omega
          | false =>
            have HK : Hid (wEnd s j = k) := HE.out (fun _ => HD.out.symm)
            have hxz : (s.extract j k).size ≤ 1048576 := by rw [ByteArray.size_extract]; omega
            clear hrun HE hf2
            cases hw : wordB (s.extract j k) with
            | false =>
              go_wp2_with (go_at_call 83; refine (HC.out _).mono ?_; rintro e w' ⟨rfl, rfl⟩)
              refine (impl_validWord (s.extract j k) _ (by omega)).mono ?_
              rintro e w2 ⟨rfl, rfl⟩
              obtain ⟨rfl, rfl⟩ := HR.out.none (by rw [← hlex.out]; exact lex_bad hlt HNS.out (tokAt_none H59.out H123.out H125.out (by rw [HK.out]; exact hw)))
              go_wp2
              go_ret2
              exact ⟨none, 0, rfl, Fr.nil _ _ _ _, he⟩
            | true =>
              have hkj : j < k := by
                have h1 := hw
                simp only [wordB, Bool.and_eq_true, decide_eq_true_eq] at h1
                have h2 := h1.2.1
                rw [ByteArray.size_extract] at h2
                omega
              have HT : Hid (tokAt s j (s[j].toNat : Int) = some ((1, s.extract j k), k)) := by
                show _ = _
                rw [tokAt_word H59.out H123.out H125.out (by rw [HK.out]; exact hw), HK.out]
              go_wp2_with (go_at_call 83; refine (HC.out _).mono ?_; rintro e w' ⟨rfl, rfl⟩)
              refine (impl_validWord (s.extract j k) _ (by omega)).mono ?_
              rintro e w2 ⟨rfl, rfl⟩
              have rd2 := rd_tok wr 1 (s.extract j k)
              have zz := he.size
              go_wp2_with (at_builtin; refine wpList_append_rd rfl _ _ 60 rfl w.heap.size 71 i0 (.agg #[.int .i64 0, .string ⟨#[]⟩]) 2 24 Try.underlying60 hi hz0 hz1 hz2 rfl (by decide) _ acc.length (toks acc) rfl (hown.alloc _) (some ⟨wr.heap.size, 0, none⟩) 1 1 (toks [(1, s.extract j k)]) rfl rfl rd2 (fun h => by cases h) (toks_one _) ?c3 ?c4 ?c5 ?_)
              case c3 => unfold maxLen; omega
              case c4 => omega
              case c5 => simp; omega
              intro v' w3 hown' hgrow
              have he' := own_ext (he.alloc _) (hown.alloc _) (Nat.le_refl _) hgrow
              obtain ⟨G3, c3, rfl⟩ := own_form hown'
              have HO' : Hid (w3.ownsRow w.heap.size 71 2 (.slice G3 (acc.length + 1) c3) (acc ++ [((1 : Int), s.extract j k)]).length (toks (acc ++ [((1 : Int), s.extract j k)]))) := by
                show World.ownsRow _ _ _ _ _ _ _
                rw [toks_app, List.length_append]; exact hown'
              clear hown' hgrow hown he rd2
              by_cases hfull : acc.length = 160
              · have b160 : (160 : Int) < ((acc.length + 1 : Nat) : Int) := by omega
                obtain ⟨rfl, rfl⟩ := HR.out.none (by rw [← hlex.out]; exact lex_full hlt HNS.out HT.out hfull)
                clear hfull
                go_wp2
                go_ret2
                exact ⟨none, 0, rfl, Fr.nil _ _ _ _, he'⟩
              · have b160 : ¬ ((160 : Int) < ((acc.length + 1 : Nat) : Int)) := by omega
                go_wp2
                go_roundw
                case rel => exact ⟨k, f, acc ++ [((1 : Int), s.extract j k)], by omega, rfl, by omega, by simp; omega, Lib.hid (by rw [← hlex.out, lex_tok hlt HNS.out HT.out hfull]), HO'.out, he'⟩
                case measure => simp [intOf]; omega
        · have HK : Hid (wEnd s j = k) := HE.out (fun h => absurd h hkl)
          have hxz : (s.extract j k).size ≤ 1048576 := by rw [ByteArray.size_extract]; omega
          clear hrun HE hf2
          cases hw : wordB (s.extract j k) with
          | false =>
            go_wp2_with fail
            refine (impl_validWord (s.extract j k) _ (by omega)).mono ?_
            rintro e w2 ⟨rfl, rfl⟩
            obtain ⟨rfl, rfl⟩ := HR.out.none (by rw [← hlex.out]; exact lex_bad hlt HNS.out (tokAt_none H59.out H123.out H125.out (by rw [HK.out]; exact hw)))
            go_wp2
            go_ret2
            exact ⟨none, 0, rfl, Fr.nil _ _ _ _, he⟩
          | true =>
            have hkj : j < k := by
              have h1 := hw
              simp only [wordB, Bool.and_eq_true, decide_eq_true_eq] at h1
              have h2 := h1.2.1
              rw [ByteArray.size_extract] at h2
              omega
            have HT : Hid (tokAt s j (s[j].toNat : Int) = some ((1, s.extract j k), k)) := by
              show _ = _
              rw [tokAt_word H59.out H123.out H125.out (by rw [HK.out]; exact hw), HK.out]
            go_wp2_with fail
            refine (impl_validWord (s.extract j k) _ (by omega)).mono ?_
            rintro e w2 ⟨rfl, rfl⟩
            have rd2 := rd_tok wr 1 (s.extract j k)
            have zz := he.size
            go_wp2_with (at_builtin; refine wpList_append_rd rfl _ _ 60 rfl w.heap.size 71 i0 (.agg #[.int .i64 0, .string ⟨#[]⟩]) 2 24 Try.underlying60 hi hz0 hz1 hz2 rfl (by decide) _ acc.length (toks acc) rfl (hown.alloc _) (some ⟨wr.heap.size, 0, none⟩) 1 1 (toks [(1, s.extract j k)]) rfl rfl rd2 (fun h => by cases h) (toks_one _) ?c3 ?c4 ?c5 ?_)
            case c3 => unfold maxLen; omega
            case c4 => omega
            case c5 => simp; omega
            intro v' w3 hown' hgrow
            have he' := own_ext (he.alloc _) (hown.alloc _) (Nat.le_refl _) hgrow
            obtain ⟨G3, c3, rfl⟩ := own_form hown'
            have HO' : Hid (w3.ownsRow w.heap.size 71 2 (.slice G3 (acc.length + 1) c3) (acc ++ [((1 : Int), s.extract j k)]).length (toks (acc ++ [((1 : Int), s.extract j k)]))) := by
              show World.ownsRow _ _ _ _ _ _ _
              rw [toks_app, List.length_append]; exact hown'
            clear hown' hgrow hown he rd2
            by_cases hfull : acc.length = 160
            · have b160 : (160 : Int) < ((acc.length + 1 : Nat) : Int) := by omega
              obtain ⟨rfl, rfl⟩ := HR.out.none (by rw [← hlex.out]; exact lex_full hlt HNS.out HT.out hfull)
              clear hfull
              go_wp2
              go_ret2
              exact ⟨none, 0, rfl, Fr.nil _ _ _ _, he'⟩
            · have b160 : ¬ ((160 : Int) < ((acc.length + 1 : Nat) : Int)) := by omega
              go_wp2
              go_roundw
              case rel => exact ⟨k, f, acc ++ [((1 : Int), s.extract j k)], by omega, rfl, by omega, by simp; omega, Lib.hid (by rw [← hlex.out, lex_tok hlt HNS.out HT.out hfull]), HO'.out, he'⟩
              case measure => simp [intOf]; omega
    · obtain rfl : j = s.size := by omega
      obtain ⟨rfl, rfl⟩ := HR.out.some (by rw [← hlex.out]; exact lex_end hlt)
      obtain ⟨G, cap, rfl⟩ := own_form hown
      have hfr := Fr.of_own hown
      clear hown hi hz0 hz1 hz2
      go_wp2
      go_ret2
      exact ⟨G, cap, rfl, hfr, he⟩
end Go.Proofs.Ytilkbccpcbelgaa
