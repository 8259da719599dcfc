/-
  markText, markTokenS, heldTokenS; the walk of the law on Tokenize. Conditions: the slices read as rows of tokens.
-/
import Derived.Test.YtilkbccpcbelgaaTkz2
import Derived.Laws.BytesArg
set_option linter.unusedSimpArgs false
set_option linter.unusedVariables false
namespace Go.Proofs.Ytilkbccpcbelgaa
open Go.RowKit
def dgs : Nat → Nat → ByteArray → ByteArray
  | 0, _, acc => acc
  | f + 1, m, acc => if m = 0 then acc else dgs f (m / 10) (strOfNums [48 + (m : Int) % 10] ++ acc)
theorem dgs_end (f : Nat) (acc : ByteArray) : dgs f 0 acc = acc := by
  cases f with
  | zero => rfl
  | succ f => rw [dgs, if_pos rfl]
/-- The text of a mark. -/
def mtx (k : Nat) : ByteArray := ⟨#[109]⟩ ++ dgs k k ⟨#[]⟩
theorem nums_one (x : Int) : (strOfNums [x]).size = 1 := by simp [strOfNums, ByteArray.size]
set_option maxRecDepth 20000 in
set_option maxHeartbeats 800000 in
theorem markText_any (k : Nat) (w : World) (h0 : 0 < k) (hk : k ≤ 2147483648) :
    Calls Try.prog 85 #[.int .i64 k] w fun e w' => e = .returned (.string (mtx k)) ∧ Ext w w' := by
  have h0I : ¬ ((k : Int) ≤ 0) := by omega
  have HM : Hid (mtx k = ⟨#[109]⟩ ++ dgs k k ⟨#[]⟩) := rfl
  go_enter Try.func85, Try.ntmps85
  go_wp2
  go_loopw [0, 3] (fun kk o wr => ∃ (m f : Nat) (t : ByteArray), kk = .int .i64 m ∧ o = .string t ∧ m ≤ f ∧ t.size + f ≤ k ∧ Hid (dgs f m t = dgs k k ⟨#[]⟩) ∧ Ext w wr) (fun kk _ _ => (intOf kk).toNat)
  case atStart => exact ⟨k, k, ⟨#[]⟩, rfl, rfl, Nat.le_refl _, by show 0 + k ≤ k; omega, Lib.hid rfl, (by repeat (first | exact Ext.refl _ | assumption | refine Ext.alloc ?_ _ | refine Ext.drew ?_ | refine Ext.drewN ?_ _ | refine Ext.trans ?_ (by assumption)))⟩
  case round =>
    obtain ⟨m, f, t, rfl, rfl, hmf, ht, hd, he⟩ := hrel
    by_cases hm0 : 0 < m
    · cases f with
      | zero => omega
      | succ f =>
      have hmI : (0 : Int) < (m : Int) := by omega
      have hcell : ∀ i, i < 1 → (wr.alloc (.cells #[.int .u8 (48 + (m : Int) % 10)] 5)).cell? ⟨wr.heap.size, 0 + i, none⟩ = some (.int .u8 ([48 + (m : Int) % 10].getD i 0)) := by
        intro i hi
        obtain rfl : i = 0 := by omega
        exact cell_of_row _ _ _ _ _ _ (heap_alloc_new wr _)
      have hconv := run_convert_bytes_arg (P := Try.prog) (wr.alloc (.cells #[.int .u8 (48 + (m : Int) % 10)] 5)) 53 5 Try.underlying53 Try.underlying5 wr.heap.size 0 1 1 [48 + (m : Int) % 10] rfl hcell 9 Try.underlying9
      clear hcell
      have hn1 := nums_one (48 + (m : Int) % 10)
      have HD : Hid (dgs (f + 1) m t = dgs f (m / 10) (strOfNums [48 + (m : Int) % 10] ++ t)) := by
        show _ = _
        rw [dgs, if_neg (by omega)]
      have hsz : (strOfNums [48 + (m : Int) % 10] ++ t).size = 1 + t.size := by rw [ByteArray.size_append, hn1]
      have HZ := Lib.hid hsz
      clear hsz
      generalize strOfNums [48 + (m : Int) % 10] = q at *
      go_wp2
      go_roundw
      case rel => exact ⟨m / 10, f, q ++ t, by simp, rfl, by omega, by have := HZ.out; omega, Lib.hid (by rw [← HD.out, hd.out]), (by repeat (first | exact Ext.refl _ | assumption | refine Ext.alloc ?_ _ | refine Ext.drew ?_ | refine Ext.drewN ?_ _ | refine Ext.trans ?_ (by assumption)))⟩
      case measure => simp [intOf]; omega
    · obtain rfl : m = 0 := by omega
      have hq := hd.out
      rw [dgs_end] at hq
      have HQ := Lib.hid hq
      clear hq
      go_wp2
      go_ret
      exact ⟨ret_str (by rw [HM.out, HQ.out]), he⟩
/-- The marks of a row of tokens. -/
def mTok (k n : Nat) : List Tk := (List.range n).map fun i => (((k + 2 * i : Nat) : Int), mtx (k + 2 * i + 1))
theorem mTok_length (k n : Nat) : (mTok k n).length = n := by simp [mTok]
theorem mTok_getD (k n j : Nat) (h : j < n) : (mTok k n).getD j tk0 = (((k + 2 * j : Nat) : Int), mtx (k + 2 * j + 1)) := by simp [mTok, List.getD, h]
theorem mTok_step (T : List Tk) (k j : Nat) (h : j < T.length) : (mTok k j ++ T.drop j).set j (((k + 2 * j : Nat) : Int), mtx (k + 2 * j + 1)) = mTok k (j + 1) ++ T.drop (j + 1) := by
  rw [List.set_append, if_neg (by rw [mTok_length]; omega), mTok_length, Nat.sub_self, List.drop_eq_getElem_cons h, List.set_cons_zero]
  simp [mTok, List.range_succ]
theorem Fr.addr {w : World} {lo hi : Nat} {A : Option Addr} {xs : List Value} (h : Fr w lo hi A xs) (hn : xs ≠ []) : ∃ g off, A = some ⟨g, off, none⟩ := by
  obtain ⟨g, off, _, _, e, _⟩ := h hn
  exact ⟨g, off, e⟩
theorem toks_ne {T : List Tk} (h : 0 < T.length) : toks T ≠ [] := by
  intro h0
  have := toks_length T
  rw [h0] at this; simp at this; omega
set_option maxRecDepth 20000 in
set_option maxHeartbeats 800000 in
theorem markTokenS_any (A : Option Addr) (n c lo hi : Nat) (T : List Tk) (k : Nat) (w : World) (hA : Fr w lo hi A (toks T)) (hl : T.length = n) (hn : n ≤ 1048576) (hk0 : 0 < k) (hk1 : k ≤ 1048576) :
    Calls Try.prog 49 #[.slice A n c, .int .i64 k] w fun e w' => e = .returned (.int .i64 ((k + 2 * n : Nat) : Int)) ∧ Fr w' lo hi A (toks (mTok k n)) ∧ Chg w w' lo hi := by
  have HL := Lib.hid hl
  clear hl
  go_enter Try.func49, Try.ntmps49
  go_wp2
  go_loopw [1, 5] (fun q i wr => ∃ j : Nat, j ≤ n ∧ i = .int .i64 j ∧ q = .int .i64 ((k + 2 * j : Nat) : Int) ∧ Fr wr lo hi A (toks (mTok k j ++ T.drop j)) ∧ Chg w wr lo hi) (fun _ i _ => n - (intOf i).toNat)
  case atStart => exact ⟨0, Nat.zero_le _, rfl, by simp, by simpa [mTok] using hA, Chg.refl _ _ _⟩
  case round =>
    obtain ⟨j, hj, rfl, rfl, hf, hch⟩ := hrel
    by_cases hlt : j < n
    · have hlen : Hid ((mTok k j ++ T.drop j).length = n) := by show _ = _; have := HL.out; simp [mTok_length]; omega
      obtain ⟨g, off, rfl⟩ := hf.addr (toks_ne (by have := hlen.out; omega))
      obtain ⟨y0, y1, f0, f1, hg1, hg2⟩ := hf.tok (j := j) (by have := hlen.out; omega)
      have hs0 := hf.set_cell (j * 2) (.int .i64 ((k + 2 * j : Nat) : Int)) (by rw [toks_length]; have := hlen.out; omega)
      rw [show off + (j * 2) = off + j * 2 from rfl] at hs0
      have HX := Lib.hid (mTok_step T k j (by have := HL.out; omega))
      have HB : Hid (k + 2 * j + 1 ≤ 4194304 ∧ k + 2 * j + 2 = k + 2 * (j + 1)) := ⟨by omega, by omega⟩
      clear hf
      generalize ((mTok k j ++ T.drop j).getD j tk0).1 = v0 at *
      generalize ((mTok k j ++ T.drop j).getD j tk0).2 = v1 at *
      generalize mTok k j ++ T.drop j = X at *
      generalize k + 2 * j = q at *
      have hq := HB.out.1
      go_wp2_with fail
      rw [show (q : Int) + 1 = ((q + 1 : Nat) : Int) from by omega]
      refine (markText_any (q + 1) _ (by omega) (by omega)).mono ?_
      rintro e w2 ⟨rfl, h2⟩
      replace hs0 := hs0.ext h2
      have hch2 := (hch.setCell (p := ⟨g, off + j * 2, none⟩) hg1 hg2 (.int .i64 (q : Int))).trans (Chg.of_ext h2 lo hi)
      obtain ⟨v2, y1', f1'⟩ : ∃ v2, w2.cell? ⟨g, off + j * 2 + 1, none⟩ = some v2 ∧ w2.frozen? ⟨g, off + j * 2 + 1, none⟩ = false := by
        have hlx : ((toks X).set (j * 2) (.int .i64 (q : Int))).length = X.length * 2 := by rw [List.length_set, toks_length]
        obtain ⟨g', off', cur, t, e, _, _, hh, hc⟩ := hs0 (by intro h0; rw [h0] at hlx; have := hlen.out; simp at hlx; omega)
        injection e with e
        injection e with e1 e2
        subst e1 e2
        exact ⟨_, by rw [Nat.add_assoc]; exact (cell_of_row w2 g _ cur t (0, 0) hh).trans (hc (j * 2 + 1) _ (List.getElem?_eq_getElem (by rw [hlx]; have := hlen.out; omega))), by simp [World.frozen?, hh]⟩
      have HS := Lib.hid (hs0.set_cell (j * 2 + 1) (.string (mtx (q + 1))) (by rw [List.length_set, toks_length]; have := hlen.out; omega))
      rw [toks_set X j ((q : Int), mtx (q + 1)), HX.out, ← Nat.add_assoc] at HS
      clear hs0 y0 y1 f0 f1 h2
      generalize mtx (q + 1) = tx at *
      go_wp2
      go_roundw
      case rel => exact ⟨j + 1, by omega, by go_num, by have := HB.out.2; go_num, HS.out, hch2.setCell hg1 hg2 _⟩
      case measure => simp [intOf]; omega
    · obtain rfl : j = n := by omega
      go_wp2
      go_ret
      exact ⟨rfl, by rw [List.drop_eq_nil_of_le (by have := HL.out; omega), List.append_nil] at hf; exact hf, hch⟩
set_option maxRecDepth 20000 in
set_option maxHeartbeats 800000 in
theorem heldTokenS_any (A : Option Addr) (n c : Nat) (k : Nat) (w : World) (hA : Rd w A (toks (mTok k n))) (hn : n ≤ 1048576) (hk0 : 0 < k) (hk1 : k ≤ 1048576) :
    Calls Try.prog 50 #[.slice A n c, .int .i64 k] w fun e w' => e = .returned (.int .i64 ((k + 2 * n : Nat) : Int)) ∧ Ext w w' := by
  go_enter Try.func50, Try.ntmps50
  go_wp2
  go_loopw [1, 5] (fun q i wr => ∃ j : Nat, j ≤ n ∧ i = .int .i64 j ∧ q = .int .i64 ((k + 2 * j : Nat) : Int) ∧ Ext w wr) (fun _ i _ => n - (intOf i).toNat)
  case atStart => exact ⟨0, Nat.zero_le _, rfl, by simp, Ext.refl _⟩
  case round =>
    obtain ⟨j, hj, rfl, rfl, he⟩ := hrel
    by_cases hlt : j < n
    · obtain ⟨g, off, rfl, hc⟩ := (hA.ext he).tok (by rw [mTok_length]; omega)
      obtain ⟨y0, y1⟩ := hc j (by rw [mTok_length]; omega)
      rw [mTok_getD k n j hlt] at y0 y1
      simp only at y0 y1
      have HB : Hid (k + 2 * j + 1 ≤ 4194304 ∧ k + 2 * j + 2 = k + 2 * (j + 1)) := ⟨by omega, by omega⟩
      have hjI : (j : Int) < (n : Int) := by omega
      clear hc
      generalize k + 2 * j = q at *
      have hq := HB.out.1
      have HMT : Hid (∀ W, Calls Try.prog 85 #[.int .i64 ((q : Int) + 1)] W fun e w' => e = .returned (.string (mtx (q + 1))) ∧ Ext W w') := by
        show ∀ W, _
        intro W
        rw [show (q : Int) + 1 = ((q + 1 : Nat) : Int) from by omega]
        exact markText_any (q + 1) W (by omega) (by omega)
      generalize mtx (q + 1) = tx at *
      go_wp2_with fail
      go_region_held3 (fun w' => w'.cell? ⟨g, off + j * 2 + 1, none⟩ = some (.string tx) ∧ Ext w w')
        (first | exact ⟨y1, he.drew⟩ | (go_split_ands; exact ⟨Ext.cell hx (by assumption), Ext.trans (by assumption) hx⟩))
        (first | (go_at_call 85; go_split_ands; refine (HMT.out _).mono ?_; rintro e w' ⟨rfl, hx⟩))
      go_split_ands
      go_wp2
      go_roundw
      case rel => exact ⟨j + 1, by omega, by go_num, by have := HB.out.2; go_num, by assumption⟩
      case measure => simp [intOf]; omega
    · obtain rfl : j = n := by omega
      go_wp2
      go_ret
      exact ⟨rfl, (by repeat (first | exact Ext.refl _ | assumption | refine Ext.alloc ?_ _ | refine Ext.drew ?_ | refine Ext.drewN ?_ _ | refine Ext.trans ?_ (by assumption)))⟩
theorem lex_len (s : ByteArray) : ∀ (f i : Nat) (acc T : List Tk), acc.length ≤ 160 → lex s f i acc = some T → T.length ≤ 160
  | 0, i, acc, T, h, e => by rw [lex] at e; injection e with e; subst e; exact h
  | f + 1, i, acc, T, h, e => by
    by_cases hlt : i < s.size
    · by_cases hc : (s[i].toNat : Int) = 32 ∨ (s[i].toNat : Int) = 10
      · rw [lex_space hlt hc] at e; exact lex_len s f _ _ _ h e
      · cases ht : tokAt s i (s[i].toNat : Int) with
        | none => rw [lex_bad hlt hc ht] at e; cases e
        | some p =>
          obtain ⟨t, k⟩ := p
          by_cases hf : acc.length = 160
          · rw [lex_full hlt hc ht hf] at e; cases e
          · rw [lex_tok hlt hc ht hf] at e
            exact lex_len s f _ _ _ (by simp; omega) e
    · rw [lex_end hlt] at e; injection e with e; subst e; exact h
theorem TokRes.len {s : ByteArray} {T : List Tk} {ok : Bool} (h : TokRes s T ok) : T.length ≤ 160 := by
  rcases h with ⟨h, _⟩ | ⟨_, _, rfl⟩
  · exact lex_len s _ _ _ _ (by simp) h
  · simp
set_option maxRecDepth 20000 in
set_option maxHeartbeats 1600000 in
theorem walk_FnExactTokenize (w : World) (s : ByteArray) (hs : s.size ≤ maxLen) :
    Calls Try.prog 11 #[.string s] w fun e w' => e = .returned (.bool true) ∧ Ext w w' := by
  unfold maxLen at hs
  by_cases hbig : s.size ≤ 1048576
  · obtain ⟨T, ok, hR⟩ : ∃ T ok, TokRes s T ok := by
      cases h : lexS s with
      | none => exact ⟨_, _, .inr ⟨h, rfl, rfl⟩⟩
      | some T => exact ⟨_, _, .inl ⟨h, rfl⟩⟩
    have HR := Lib.hid hR
    have hT := hR.len
    clear hR
    have HTL : Hid (T.length = T.length) := rfl
    have hok : (ok != ok) = false := by simp
    obtain ⟨n, HN⟩ : ∃ n, Hid (T.length = n) := ⟨_, Lib.hid rfl⟩
    have hn : n ≤ 160 := by rw [← HN.out]; exact hT
    have CI := Lib.hid (fun W => impl_tokenize s T ok W hbig HR.out)
    have CS := Lib.hid (fun W => spec_tokenize s T ok W hbig HR.out)
    rw [HN.out] at CI CS
    clear hT HTL HR
    go_enter Try.func11, Try.ntmps11
    go_wp2_with fail
    refine (CS.out _).mono ?_
    rintro e w1 ⟨G, cG, rfl, fG, h1⟩
    go_wp2_with fail
    refine (CI.out _).mono ?_
    rintro e w2 ⟨G', cG', rfl, fG', h2⟩
    replace fG := fG.ext h2
    have h02 := h1.trans h2
    have zz1 := h1.size
    have zz2 := h2.size
    clear h1 h2
    go_wp2_with fail
    refine (eqTokenS_same G' G n cG' cG T _ fG'.rd fG.rd HN.out (by omega)).mono ?_
    rintro e w3 ⟨rfl, h3⟩
    replace fG := fG.ext h3
    replace fG' := fG'.ext h3
    have h03 := h02.trans h3
    have zz3 := h3.size
    clear h3 h02
    go_wp2_with fail
    refine (markTokenS_any G' n cG' _ _ T 1 _ fG' HN.out (by omega) (by omega) (by omega)).mono ?_
    rintro e w4 ⟨rfl, fM, ch⟩
    replace fG := fG.chg ch (.inl (by omega))
    have h04 := h03.chg ch (by omega)
    clear fG' ch h03
    have hlt : ¬ (((1 + 2 * n : Nat) : Int) < 0) := by omega
    have hne : (((1 + 2 * n : Nat) : Int) != ((1 + 2 * n : Nat) : Int)) = false := by simp
    obtain ⟨q, HQ⟩ : ∃ q : Nat, Hid (1 + 2 * n = q) := ⟨_, Lib.hid rfl⟩
    have CH := Lib.hid (fun (W : World) (h : Rd W G' (toks (mTok 1 n))) => heldTokenS_any G' n cG' 1 W h (by omega) (by omega) (by omega))
    rw [HQ.out] at hlt hne CH ⊢
    go_wp2_with fail
    refine (CH.out _ fM.rd).mono ?_
    rintro e w5 ⟨rfl, h5⟩
    replace fG := fG.ext h5
    replace fM := fM.ext h5
    have h05 := h04.trans h5
    clear h5 h04
    go_wp2_with fail
    refine (CI.out _).mono ?_
    rintro e w6 ⟨G2, cG2, rfl, fG2, h6⟩
    replace fG := fG.ext h6
    replace fM := fM.ext h6
    have h06 := h05.trans h6
    clear h6 h05
    go_wp2_with fail
    refine (eqTokenS_same G2 G n cG2 cG T _ fG2.rd fG.rd HN.out (by omega)).mono ?_
    rintro e w7 ⟨rfl, h7⟩
    replace fM := fM.ext h7
    have h07 := h06.trans h7
    clear h7 h06
    go_wp2_with fail
    refine (CH.out _ fM.rd).mono ?_
    rintro e w8 ⟨rfl, h8⟩
    go_wp2
    go_ret
    exact ⟨rfl, h07.trans h8⟩
  · go_enter Try.func11, Try.ntmps11
    go_wp2
    go_ret
    exact ⟨rfl, (by repeat (first | exact Ext.refl _ | assumption | refine Ext.alloc ?_ _ | refine Ext.drew ?_ | refine Ext.drewN ?_ _ | refine Ext.trans ?_ (by assumption)))⟩
end Go.Proofs.Ytilkbccpcbelgaa
