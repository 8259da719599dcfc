/-
  The contract of spec.Tokenize. Conditions: the text has at most 2^20 bytes.
-/
import Derived.Test.YtilkbccpcbelgaaTkz
import Derived.Test.YtilkbccpcbelgaaPerm4
set_option linter.unusedSimpArgs false
set_option linter.unusedVariables false
namespace Go.Proofs.Ytilkbccpcbelgaa
open Go.RowKit
theorem isEmpty_no {s : ByteArray} (h : 1 ≤ s.size) : s.toList.isEmpty = false := by
  rw [ByteArray.toList_eq]
  have h1 : s.data.toList.length = s.size := by simp
  cases hd : s.data.toList with
  | nil => rw [hd] at h1; simp at h1; omega
  | cons a l => rfl
theorem toList_nil : (ByteArray.mk #[]).toList = [] := by rw [ByteArray.toList_eq]
theorem fmt_mark {k : Int} (h : ¬ k = 1) : fmtTok k ⟨#[]⟩ = if k = 2 then ⟨#[59]⟩ else if k = 3 then ⟨#[123]⟩ else if k = 4 then ⟨#[125]⟩ else ⟨#[]⟩ := by
  unfold fmtTok
  rw [if_neg (fun h1 => h h1.1), toList_nil]
  rfl
theorem fmtTok1_yes {x : ByteArray} (h : wordB x = true) : fmtTok 1 x = x := by unfold fmtTok; rw [if_pos ⟨rfl, h⟩]
theorem fmtTok1_no {x : ByteArray} (h : wordB x = false) : fmtTok 1 x = ⟨#[]⟩ := by
  unfold fmtTok
  rw [if_neg (by rw [h]; simp)]
  split
  · rfl
  · rfl
def markB (c : Int) : Int := if c = 59 then 2 else if c = 123 then 3 else if c = 125 then 4 else 0
theorem spec_mark (c : Int) (w : World) : Calls Try.prog 81 #[.int .u8 c] w fun e w' => e = .returned (.int .i64 (markB c)) ∧ w = w' := by
  have HM : Hid (markB c = if c = 59 then 2 else if c = 123 then 3 else if c = 125 then 4 else 0) := rfl
  go_enter Try.func81, Try.ntmps81
  go_wp2
  all_goals go_ret
  all_goals (refine ⟨ret_int ?_, rfl⟩; rw [HM.out]; simp_all)
set_option maxRecDepth 20000 in
set_option maxHeartbeats 3200000 in
theorem spec_tokenize (s : ByteArray) (T : List Tk) (ok : Bool) (w : World) (hs : s.size ≤ 1048576) (hR : TokRes s T ok) :
    Calls Try.prog 47 #[.string s] w fun e w' => ∃ G cG, e = .returned (.tuple #[.slice G T.length cG, .bool ok]) ∧ Fr w' w.heap.size w'.heap.size G (toks T) ∧ Ext w w' := by
  have HR := Lib.hid hR
  clear hR
  obtain ⟨i0, hi, hz0, hz1, hz2⟩ := info_parts info_token
  have HO := Lib.hid (own_new (w := w) (g := w.heap.size) (base := w.heap.size) (e := 71) (size := 2) #[] 0 rfl (Nat.le_refl _) (by simp) (by simp))
  go_enter Try.func47, Try.ntmps47
  go_wp2
  go_loopw [4, 5, 6, 7] (fun v i _ _ wr => ∃ (j f : Nat) (acc : List Tk), j ≤ s.size ∧ i = .int .i64 j ∧ s.size - j < f ∧ acc.length ≤ 160 ∧ Hid (lex s f j acc = lexS s) ∧ wr.ownsRow w.heap.size 71 2 v acc.length (toks acc) ∧ Ext w wr) (fun _ i _ _ _ => s.size - (intOf i).toNat)
  case atStart => exact ⟨0, s.size + 1, [], Nat.zero_le _, rfl, by omega, by simp, Lib.hid rfl, HO.out, (by repeat (first | exact Ext.refl _ | assumption | refine Ext.alloc ?_ _ | refine Ext.drew ?_ | refine Ext.drewN ?_ _ | refine Ext.trans ?_ (by assumption)))⟩
  case round =>
    obtain ⟨j, f, acc, hj, rfl, hf, hacc, hlex, hown, he⟩ := hrel
    obtain ⟨G0, c0, rfl⟩ := own_form hown
    by_cases hlt : j < s.size
    · cases f with
      | zero => omega
      | succ f =>
      by_cases h32 : (s[j].toNat : Int) = 32
      · have b32 : ((s[j].toNat : Int) == 32) = true := by simpa using h32
        have HC := Lib.hid h32
        clear h32
        go_wp2
        go_roundw
        case rel => exact ⟨j + 1, f, acc, by omega, by go_num, by omega, hacc, Lib.hid (by rw [← hlex.out, lex_space hlt (.inl HC.out)]), hown, he⟩
        case measure => simp [intOf]; omega
      have b32 : ((s[j].toNat : Int) == 32) = false := by simpa using h32
      by_cases h10 : (s[j].toNat : Int) = 10
      · have b10 : ((s[j].toNat : Int) == 10) = true := by simpa using h10
        have HC := Lib.hid h10
        clear h10 h32
        go_wp2
        go_roundw
        case rel => exact ⟨j + 1, f, acc, by omega, by go_num, by omega, hacc, Lib.hid (by rw [← hlex.out, lex_space hlt (.inr HC.out)]), hown, he⟩
        case measure => simp [intOf]; omega
      have b10 : ((s[j].toNat : Int) == 10) = false := by simpa using h10
      have HNS : Hid (¬ ((s[j].toNat : Int) = 32 ∨ (s[j].toNat : Int) = 10)) := by
        show ¬ _
        rintro (h | h)
        · exact h32 h
        · exact h10 h
      clear h32 h10
      have HMK : Hid (∀ W, Calls Try.prog 81 #[.int .u8 (s[j].toNat : Int)] W fun e w' => e = .returned (.int .i64 (markB (s[j].toNat : Int))) ∧ W = w') := fun W => spec_mark _ W
      by_cases h59 : (s[j].toNat : Int) = 59
      · have HT : Hid (tokAt s j (s[j].toNat : Int) = some ((2, ⟨#[]⟩), j + 1)) := by
          show _ = _
          rw [h59]; rfl
        have HM' : Hid (∀ W, Calls Try.prog 81 #[.int .u8 (s[j].toNat : Int)] W fun e w' => e = .returned (.int .i64 2) ∧ W = w') := by
          have := HMK.out
          rw [show markB (s[j].toNat : Int) = 2 from by rw [h59]; rfl] at this
          exact this
        clear h59
        go_wp2_with fail
        refine (HM'.out _).mono ?_
        rintro e w1 ⟨rfl, rfl⟩
        go_wp2_with fail
        refine (spec_formatToken 2 ⟨#[]⟩ _ (by decide)).mono ?_
        rintro e w2 ⟨rfl, h2⟩
        have bD := (Blk.new wr 71 #[.int .i64 2, .string ⟨#[]⟩]).ext h2
        obtain ⟨dc, df, dz⟩ := bD.all
        replace hown := own_at (hown.alloc _) h2
        replace he : Ext w w2 := (he.alloc _).trans h2
        have zz := he.size
        have hfm : fmtTok 2 ⟨#[]⟩ = ⟨#[59]⟩ := by rw [fmt_mark (by decide)]; rfl
        clear h2
        by_cases hfull : acc.length = 160
        · have b160 : ((acc.length : Int) == 160) = true := by simp; omega
          obtain ⟨rfl, rfl⟩ := HR.out.none (by rw [← hlex.out]; exact lex_full hlt HNS.out HT.out hfull)
          clear hfull
          go_wp2
          go_ret2
          exact ⟨_, 0, rfl, Fr.nil _ _ _ _, (by repeat (first | exact Ext.refl _ | assumption | refine Ext.alloc ?_ _ | refine Ext.drew ?_ | refine Ext.drewN ?_ _ | refine Ext.trans ?_ (by assumption)))⟩
        · have b160 : ((acc.length : Int) == 160) = false := by simp; omega
          have rd2 := rd_tok w2 2 ⟨#[]⟩
          have HF := Lib.hid hfull
          clear hfull
          go_wp2_with (at_builtin; refine wpList_append_rd rfl _ _ 60 rfl w.heap.size 71 i0 (.agg #[.int .i64 0, .string ⟨#[]⟩]) 2 24 Try.underlying60 hi hz0 hz1 hz2 rfl (by decide) _ acc.length (toks acc) rfl (hown.alloc _) (some ⟨w2.heap.size, 0, none⟩) 1 1 (toks [(2, ⟨#[]⟩)]) rfl rfl rd2 (fun h => by cases h) (toks_one _) ?c3 ?c4 ?c5 ?_)
          case c3 => unfold maxLen; omega
          case c4 => omega
          case c5 => simp; omega
          intro v' w3 hown' hgrow
          have he' := own_ext (he.alloc _) (hown.alloc _) (Nat.le_refl _) hgrow
          have HO' : Hid (w3.ownsRow w.heap.size 71 2 v' (acc ++ [((2 : Int), ByteArray.mk #[])]).length (toks (acc ++ [((2 : Int), ByteArray.mk #[])]))) := by
            show World.ownsRow _ _ _ _ _ _ _
            rw [toks_app, List.length_append]; exact hown'
          clear hown' hgrow hown he rd2 dc df dz bD
          go_wp2
          go_roundw
          case rel => exact ⟨j + 1, f, acc ++ [(2, ⟨#[]⟩)], by omega, by go_num, by omega, by have := HF.out; simp; omega, Lib.hid (by rw [← hlex.out, lex_tok hlt HNS.out HT.out HF.out]), HO'.out, he'⟩
          case measure => simp [intOf]; omega
      have H59 := Lib.hid h59
      clear h59
      by_cases h123 : (s[j].toNat : Int) = 123
      · have HT : Hid (tokAt s j (s[j].toNat : Int) = some ((3, ⟨#[]⟩), j + 1)) := by
          show _ = _
          rw [h123]; rfl
        have HM' : Hid (∀ W, Calls Try.prog 81 #[.int .u8 (s[j].toNat : Int)] W fun e w' => e = .returned (.int .i64 3) ∧ W = w') := by
          have := HMK.out
          rw [show markB (s[j].toNat : Int) = 3 from by rw [h123]; rfl] at this
          exact this
        clear h123
        go_wp2_with fail
        refine (HM'.out _).mono ?_
        rintro e w1 ⟨rfl, rfl⟩
        go_wp2_with fail
        refine (spec_formatToken 3 ⟨#[]⟩ _ (by decide)).mono ?_
        rintro e w2 ⟨rfl, h2⟩
        have bD := (Blk.new wr 71 #[.int .i64 3, .string ⟨#[]⟩]).ext h2
        obtain ⟨dc, df, dz⟩ := bD.all
        replace hown := own_at (hown.alloc _) h2
        replace he : Ext w w2 := (he.alloc _).trans h2
        have zz := he.size
        have hfm : fmtTok 3 ⟨#[]⟩ = ⟨#[123]⟩ := by rw [fmt_mark (by decide)]; rfl
        clear h2
        by_cases hfull : acc.length = 160
        · have b160 : ((acc.length : Int) == 160) = true := by simp; omega
          obtain ⟨rfl, rfl⟩ := HR.out.none (by rw [← hlex.out]; exact lex_full hlt HNS.out HT.out hfull)
          clear hfull
          go_wp2
          go_ret2
          exact ⟨_, 0, rfl, Fr.nil _ _ _ _, (by repeat (first | exact Ext.refl _ | assumption | refine Ext.alloc ?_ _ | refine Ext.drew ?_ | refine Ext.drewN ?_ _ | refine Ext.trans ?_ (by assumption)))⟩
        · have b160 : ((acc.length : Int) == 160) = false := by simp; omega
          have rd2 := rd_tok w2 3 ⟨#[]⟩
          have HF := Lib.hid hfull
          clear hfull
          go_wp2_with (at_builtin; refine wpList_append_rd rfl _ _ 60 rfl w.heap.size 71 i0 (.agg #[.int .i64 0, .string ⟨#[]⟩]) 2 24 Try.underlying60 hi hz0 hz1 hz2 rfl (by decide) _ acc.length (toks acc) rfl (hown.alloc _) (some ⟨w2.heap.size, 0, none⟩) 1 1 (toks [(3, ⟨#[]⟩)]) rfl rfl rd2 (fun h => by cases h) (toks_one _) ?c3 ?c4 ?c5 ?_)
          case c3 => unfold maxLen; omega
          case c4 => omega
          case c5 => simp; omega
          intro v' w3 hown' hgrow
          have he' := own_ext (he.alloc _) (hown.alloc _) (Nat.le_refl _) hgrow
          have HO' : Hid (w3.ownsRow w.heap.size 71 2 v' (acc ++ [((3 : Int), ByteArray.mk #[])]).length (toks (acc ++ [((3 : Int), ByteArray.mk #[])]))) := by
            show World.ownsRow _ _ _ _ _ _ _
            rw [toks_app, List.length_append]; exact hown'
          clear hown' hgrow hown he rd2 dc df dz bD
          go_wp2
          go_roundw
          case rel => exact ⟨j + 1, f, acc ++ [(3, ⟨#[]⟩)], by omega, by go_num, by omega, by have := HF.out; simp; omega, Lib.hid (by rw [← hlex.out, lex_tok hlt HNS.out HT.out HF.out]), HO'.out, he'⟩
          case measure => simp [intOf]; omega
      have H123 := Lib.hid h123
      clear h123
      by_cases h125 : (s[j].toNat : Int) = 125
      · have HT : Hid (tokAt s j (s[j].toNat : Int) = some ((4, ⟨#[]⟩), j + 1)) := by
          show _ = _
          rw [h125]; rfl
        have HM' : Hid (∀ W, Calls Try.prog 81 #[.int .u8 (s[j].toNat : Int)] W fun e w' => e = .returned (.int .i64 4) ∧ W = w') := by
          have := HMK.out
          rw [show markB (s[j].toNat : Int) = 4 from by rw [h125]; rfl] at this
          exact this
        clear h125
        go_wp2_with fail
        refine (HM'.out _).mono ?_
        rintro e w1 ⟨rfl, rfl⟩
        go_wp2_with fail
        refine (spec_formatToken 4 ⟨#[]⟩ _ (by decide)).mono ?_
        rintro e w2 ⟨rfl, h2⟩
        have bD := (Blk.new wr 71 #[.int .i64 4, .string ⟨#[]⟩]).ext h2
        obtain ⟨dc, df, dz⟩ := bD.all
        replace hown := own_at (hown.alloc _) h2
        replace he : Ext w w2 := (he.alloc _).trans h2
        have zz := he.size
        have hfm : fmtTok 4 ⟨#[]⟩ = ⟨#[125]⟩ := by rw [fmt_mark (by decide)]; rfl
        clear h2
        by_cases hfull : acc.length = 160
        · have b160 : ((acc.length : Int) == 160) = true := by simp; omega
          obtain ⟨rfl, rfl⟩ := HR.out.none (by rw [← hlex.out]; exact lex_full hlt HNS.out HT.out hfull)
          clear hfull
          go_wp2
          go_ret2
          exact ⟨_, 0, rfl, Fr.nil _ _ _ _, (by repeat (first | exact Ext.refl _ | assumption | refine Ext.alloc ?_ _ | refine Ext.drew ?_ | refine Ext.drewN ?_ _ | refine Ext.trans ?_ (by assumption)))⟩
        · have b160 : ((acc.length : Int) == 160) = false := by simp; omega
          have rd2 := rd_tok w2 4 ⟨#[]⟩
          have HF := Lib.hid hfull
          clear hfull
          go_wp2_with (at_builtin; refine wpList_append_rd rfl _ _ 60 rfl w.heap.size 71 i0 (.agg #[.int .i64 0, .string ⟨#[]⟩]) 2 24 Try.underlying60 hi hz0 hz1 hz2 rfl (by decide) _ acc.length (toks acc) rfl (hown.alloc _) (some ⟨w2.heap.size, 0, none⟩) 1 1 (toks [(4, ⟨#[]⟩)]) rfl rfl rd2 (fun h => by cases h) (toks_one _) ?c3 ?c4 ?c5 ?_)
          case c3 => unfold maxLen; omega
          case c4 => omega
          case c5 => simp; omega
          intro v' w3 hown' hgrow
          have he' := own_ext (he.alloc _) (hown.alloc _) (Nat.le_refl _) hgrow
          have HO' : Hid (w3.ownsRow w.heap.size 71 2 v' (acc ++ [((4 : Int), ByteArray.mk #[])]).length (toks (acc ++ [((4 : Int), ByteArray.mk #[])]))) := by
            show World.ownsRow _ _ _ _ _ _ _
            rw [toks_app, List.length_append]; exact hown'
          clear hown' hgrow hown he rd2 dc df dz bD
          go_wp2
          go_roundw
          case rel => exact ⟨j + 1, f, acc ++ [(4, ⟨#[]⟩)], by omega, by go_num, by omega, by have := HF.out; simp; omega, Lib.hid (by rw [← hlex.out, lex_tok hlt HNS.out HT.out HF.out]), HO'.out, he'⟩
          case measure => simp [intOf]; omega
      have H125 := Lib.hid h125
      clear h125
      have HM' : Hid (∀ W, Calls Try.prog 81 #[.int .u8 (s[j].toNat : Int)] W fun e w' => e = .returned (.int .i64 0) ∧ W = w') := by
        have := HMK.out
        rw [show markB (s[j].toNat : Int) = 0 from by unfold markB; rw [if_neg H59.out, if_neg H123.out, if_neg H125.out]] at this
        exact this
      go_wp2_with fail
      refine (HM'.out _).mono ?_
      rintro e w1 ⟨rfl, rfl⟩
      clear HM' HMK
      go_wp2
      go_loop [7] (fun i' => ∃ k f2 : Nat, j ≤ k ∧ k ≤ s.size ∧ i' = .int .i64 k ∧ Hid (runE s f2 k = wEnd s j) ∧ s.size - k ≤ f2) (fun i' => s.size - (intOf i').toNat)
      case atStart => exact ⟨j, s.size, Nat.le_refl _, hj, rfl, Lib.hid rfl, by omega⟩
      case round =>
        obtain ⟨k, f2, hjk, hk, rfl, hrun, hf2⟩ := hrel
        have HE : Hid ((∀ h : k < s.size, letB (s[k].toNat : Int) = false) → wEnd s j = k) := by
          show _ → _
          intro h; rw [← hrun.out]; exact runE_stop h
        by_cases hkl : k < s.size
        · obtain ⟨d, hd⟩ : ∃ d, d = letB (s[k].toNat : Int) := ⟨_, rfl⟩
          have hcall := fun W => spec_letter (s[k].toNat : Int) W
          rw [← hd] at hcall
          have HC := Lib.hid hcall
          have HD := Lib.hid hd
          clear hcall hd
          cases d with
          | true =>
            go_wp2_with (go_at_call 82; refine (HC.out _).mono ?_; rintro e w' ⟨rfl, rfl⟩)
            go_round
            case rel =>
              cases f2 with
              | zero => omega
              | succ f2 => exact ⟨k + 1, f2, by omega, by omega, by go_num, Lib.hid (by rw [← hrun.out, runE_go hkl HD.out.symm]), by omega⟩
            case measure => simp [intOf]; omega
          | false =>
            have HK : Hid (wEnd s j = k) := HE.out (fun _ => HD.out.symm)
            have hxz : (s.extract j k).size ≤ 1048576 := by rw [ByteArray.size_extract]; omega
            clear hrun HE hf2
            go_wp2_with (go_at_call 82; refine (HC.out _).mono ?_; rintro e w' ⟨rfl, rfl⟩)
            refine (spec_formatToken 1 (s.extract j k) _ (by omega)).mono ?_
            rintro e w2 ⟨rfl, h2⟩
            have bD := (Blk.new wr 71 #[.int .i64 1, .string (s.extract j k)]).ext h2
            obtain ⟨dc, df, dz⟩ := bD.all
            replace hown := own_at (hown.alloc _) h2
            replace he : Ext w w2 := (he.alloc _).trans h2
            have zz := he.size
            clear h2
            cases hw : wordB (s.extract j k) with
            | false =>
              have hfm := fmtTok1_no hw
              obtain ⟨rfl, rfl⟩ := HR.out.none (by rw [← hlex.out]; exact lex_bad hlt HNS.out (tokAt_none H59.out H123.out H125.out (by rw [HK.out]; exact hw)))
              go_wp2
              go_ret2
              exact ⟨_, 0, rfl, Fr.nil _ _ _ _, (by repeat (first | exact Ext.refl _ | assumption | refine Ext.alloc ?_ _ | refine Ext.drew ?_ | refine Ext.drewN ?_ _ | refine Ext.trans ?_ (by assumption)))⟩
            | true =>
              have hkj : j < k := by
                have h1 := hw
                simp only [wordB, Bool.and_eq_true, decide_eq_true_eq] at h1
                have h2 := h1.2.1
                rw [ByteArray.size_extract] at h2
                omega
              have HT : Hid (tokAt s j (s[j].toNat : Int) = some ((1, s.extract j k), k)) := by
                show _ = _
                rw [tokAt_word H59.out H123.out H125.out (by rw [HK.out]; exact hw), HK.out]
              have hfm := fmtTok1_yes hw
              have hne : (s.extract j k).toList.isEmpty = false := by
                have h1 := hw
                simp only [wordB, Bool.and_eq_true, decide_eq_true_eq] at h1
                have h2 := h1.2.1
                exact isEmpty_no h2
              by_cases hfull : acc.length = 160
              · have b160 : ((acc.length : Int) == 160) = true := by simp; omega
                obtain ⟨rfl, rfl⟩ := HR.out.none (by rw [← hlex.out]; exact lex_full hlt HNS.out HT.out hfull)
                clear hfull
                go_wp2
                go_ret2
                exact ⟨_, 0, rfl, Fr.nil _ _ _ _, (by repeat (first | exact Ext.refl _ | assumption | refine Ext.alloc ?_ _ | refine Ext.drew ?_ | refine Ext.drewN ?_ _ | refine Ext.trans ?_ (by assumption)))⟩
              · have b160 : ((acc.length : Int) == 160) = false := by simp; omega
                have rd2 := rd_tok w2 1 (s.extract j k)
                have HF := Lib.hid hfull
                clear hfull
                go_wp2_with (at_builtin; refine wpList_append_rd rfl _ _ 60 rfl w.heap.size 71 i0 (.agg #[.int .i64 0, .string ⟨#[]⟩]) 2 24 Try.underlying60 hi hz0 hz1 hz2 rfl (by decide) _ acc.length (toks acc) rfl (hown.alloc _) (some ⟨w2.heap.size, 0, none⟩) 1 1 (toks [(1, s.extract j k)]) rfl rfl rd2 (fun h => by cases h) (toks_one _) ?c3 ?c4 ?c5 ?_)
                case c3 => unfold maxLen; omega
                case c4 => omega
                case c5 => simp; omega
                intro v' w3 hown' hgrow
                have he' := own_ext (he.alloc _) (hown.alloc _) (Nat.le_refl _) hgrow
                have HO' : Hid (w3.ownsRow w.heap.size 71 2 v' (acc ++ [((1 : Int), s.extract j k)]).length (toks (acc ++ [((1 : Int), s.extract j k)]))) := by
                  show World.ownsRow _ _ _ _ _ _ _
                  rw [toks_app, List.length_append]; exact hown'
                clear hown' hgrow hown he rd2 dc df dz bD
                go_wp2
                go_roundw
                case rel => exact ⟨k, f, acc ++ [((1 : Int), s.extract j k)], by omega, by go_num, by omega, by have := HF.out; simp; omega, Lib.hid (by rw [← hlex.out, lex_tok hlt HNS.out HT.out HF.out]), HO'.out, he'⟩
                case measure => simp [intOf]; omega
        · have HK : Hid (wEnd s j = k) := HE.out (fun h => absurd h hkl)
          have hxz : (s.extract j k).size ≤ 1048576 := by rw [ByteArray.size_extract]; omega
          clear hrun HE hf2
          go_wp2_with fail
          refine (spec_formatToken 1 (s.extract j k) _ (by omega)).mono ?_
          rintro e w2 ⟨rfl, h2⟩
          have bD := (Blk.new wr 71 #[.int .i64 1, .string (s.extract j k)]).ext h2
          obtain ⟨dc, df, dz⟩ := bD.all
          replace hown := own_at (hown.alloc _) h2
          replace he : Ext w w2 := (he.alloc _).trans h2
          have zz := he.size
          clear h2
          cases hw : wordB (s.extract j k) with
          | false =>
            have hfm := fmtTok1_no hw
            obtain ⟨rfl, rfl⟩ := HR.out.none (by rw [← hlex.out]; exact lex_bad hlt HNS.out (tokAt_none H59.out H123.out H125.out (by rw [HK.out]; exact hw)))
            go_wp2
            go_ret2
            exact ⟨_, 0, rfl, Fr.nil _ _ _ _, (by repeat (first | exact Ext.refl _ | assumption | refine Ext.alloc ?_ _ | refine Ext.drew ?_ | refine Ext.drewN ?_ _ | refine Ext.trans ?_ (by assumption)))⟩
          | true =>
            have hkj : j < k := by
              have h1 := hw
              simp only [wordB, Bool.and_eq_true, decide_eq_true_eq] at h1
              have h2 := h1.2.1
              rw [ByteArray.size_extract] at h2
              omega
            have HT : Hid (tokAt s j (s[j].toNat : Int) = some ((1, s.extract j k), k)) := by
              show _ = _
              rw [tokAt_word H59.out H123.out H125.out (by rw [HK.out]; exact hw), HK.out]
            have hfm := fmtTok1_yes hw
            have hne : (s.extract j k).toList.isEmpty = false := by
              have h1 := hw
              simp only [wordB, Bool.and_eq_true, decide_eq_true_eq] at h1
              have h2 := h1.2.1
              exact isEmpty_no h2
            by_cases hfull : acc.length = 160
            · have b160 : ((acc.length : Int) == 160) = true := by simp; omega
              obtain ⟨rfl, rfl⟩ := HR.out.none (by rw [← hlex.out]; exact lex_full hlt HNS.out HT.out hfull)
              clear hfull
              go_wp2
              go_ret2
              exact ⟨_, 0, rfl, Fr.nil _ _ _ _, (by repeat (first | exact Ext.refl _ | assumption | refine Ext.alloc ?_ _ | refine Ext.drew ?_ | refine Ext.drewN ?_ _ | refine Ext.trans ?_ (by assumption)))⟩
            · have b160 : ((acc.length : Int) == 160) = false := by simp; omega
              have rd2 := rd_tok w2 1 (s.extract j k)
              have HF := Lib.hid hfull
              clear hfull
              go_wp2_with (at_builtin; refine wpList_append_rd rfl _ _ 60 rfl w.heap.size 71 i0 (.agg #[.int .i64 0, .string ⟨#[]⟩]) 2 24 Try.underlying60 hi hz0 hz1 hz2 rfl (by decide) _ acc.length (toks acc) rfl (hown.alloc _) (some ⟨w2.heap.size, 0, none⟩) 1 1 (toks [(1, s.extract j k)]) rfl rfl rd2 (fun h => by cases h) (toks_one _) ?c3 ?c4 ?c5 ?_)
              case c3 => unfold maxLen; omega
              case c4 => omega
              case c5 => simp; omega
              intro v' w3 hown' hgrow
              have he' := own_ext (he.alloc _) (hown.alloc _) (Nat.le_refl _) hgrow
              have HO' : Hid (w3.ownsRow w.heap.size 71 2 v' (acc ++ [((1 : Int), s.extract j k)]).length (toks (acc ++ [((1 : Int), s.extract j k)]))) := by
                show World.ownsRow _ _ _ _ _ _ _
                rw [toks_app, List.length_append]; exact hown'
              clear hown' hgrow hown he rd2 dc df dz bD
              go_wp2
              go_roundw
              case rel => exact ⟨k, f, acc ++ [((1 : Int), s.extract j k)], by omega, by go_num, by omega, by have := HF.out; simp; omega, Lib.hid (by rw [← hlex.out, lex_tok hlt HNS.out HT.out HF.out]), HO'.out, he'⟩
              case measure => simp [intOf]; omega
    · obtain rfl : j = s.size := by omega
      obtain ⟨rfl, rfl⟩ := HR.out.some (by rw [← hlex.out]; exact lex_end hlt)
      have hfr := Fr.of_own hown
      clear hown hi hz0 hz1 hz2
      go_wp2
      go_ret2
      exact ⟨G0, c0, rfl, hfr, he⟩
end Go.Proofs.Ytilkbccpcbelgaa
