/-
  The walk of FnTokens. No conditions.
-/
import Derived.Test.YtilkbccpcbelgaaDrawT2
import Derived.Test.YtilkbccpcbelgaaTokP
set_option linter.unusedSimpArgs false
set_option linter.unusedVariables false
namespace Go.Proofs.Ytilkbccpcbelgaa
open Go.RowKit
theorem sumTo_small {T : List Tk} (h : smallT T) : ∀ j, j ≤ T.length → sumTo T j ≤ 16 * j
  | 0, _ => by simp [sumTo]
  | j + 1, hj => by
    have h1 := sumTo_small h j (by omega)
    have h2 := h _ (tk_mem (T := T) (j := j) (by omega))
    rw [sumTo]; omega
theorem not_empty {f : ByteArray} (h : f ≠ ⟨#[]⟩) : f.toList.isEmpty = false := by
  apply isEmpty_no
  rcases Nat.lt_or_ge 0 f.size with h1 | h1
  · exact h1
  · exfalso
    apply h
    apply ByteArray.ext
    apply Array.toList_inj.1
    have h2 : f.data.toList.length = f.size := by simp
    have h3 : f.data.toList = [] := List.length_eq_zero_iff.1 (by omega)
    rw [h3]
set_option maxRecDepth 20000 in
set_option maxHeartbeats 1600000 in
theorem walk_FnTokens (w : World) (A : Option Addr) (n c : Nat) (l : List Int) (rd : Rd w A (bys l)) (hl : l.length = n) (hn : n ≤ maxLen) (wl : ∀ x ∈ l, 0 ≤ x ∧ x < 256) :
    Calls Try.prog 12 #[.slice A n c] w fun e w' => e = .returned (.bool true) ∧ Ext w w' := by
  clear wl
  have HL := Lib.hid hl
  clear hl
  unfold maxLen at hn
  by_cases hbig : 1048576 < n
  · have hd : decide (1048576 < n) = true := by simpa using hbig
    go_enter Try.func12, Try.ntmps12
    go_wp2_with fail
    refine (big_any A n c _).mono ?_
    rintro e w1 ⟨rfl, rfl⟩
    go_wp2
    go_ret
    exact ⟨rfl, (by repeat (first | exact Ext.refl _ | assumption | refine Ext.alloc ?_ _ | refine Ext.drew ?_ | refine Ext.drewN ?_ _ | refine Ext.trans ?_ (by assumption)))⟩
  · have hd : decide (1048576 < n) = false := by simpa using hbig
    go_enter Try.func12, Try.ntmps12
    go_wp2_with fail
    refine (big_any A n c _).mono ?_
    rintro e w1 ⟨rfl, rfl⟩
    go_wp2_with fail
    refine (drawTokens_ok A n c l _ rd HL.out (by omega)).mono ?_
    rintro e w1 ⟨G, cG, T, rfl, hT, hT9, fG, h1⟩
    have hsum := sumTo_small hT T.length (Nat.le_refl _)
    have hsize := fmtTo_size T T.length
    obtain ⟨m, hm⟩ : ∃ m, T.length = m := ⟨_, rfl⟩
    obtain ⟨f, hf⟩ : ∃ f, fmtTo T m = f := ⟨_, rfl⟩
    rw [hm] at hsum hsize hT9 ⊢
    rw [hf] at hsize
    have HM := Lib.hid hm
    have HF := Lib.hid hf
    have CI := Lib.hid (fun (W : World) (h : Rd W G (toks T)) => impl_formatTokens G m cG T W h HM.out (by omega) (by omega))
    have CS := Lib.hid (fun (W : World) (h : Rd W G (toks T)) => spec_formatTokens G m cG T W h HM.out (by omega) (by omega))
    rw [HF.out] at CI CS
    obtain ⟨U, ok, hR⟩ : ∃ U ok, TokRes f U ok := by
      cases h : lexS f with
      | none => exact ⟨_, _, .inr ⟨h, rfl, rfl⟩⟩
      | some T => exact ⟨_, _, .inl ⟨h, rfl⟩⟩
    have HR := Lib.hid hR
    have HT := Lib.hid hT
    have hf3 : f.size ≤ 1048576 := by omega
    clear hR rd HL hbig hn hm hf hT hsize hsum
    go_wp2_with fail
    refine (CI.out _ fG.rd).mono ?_
    rintro e w2 ⟨rfl, h2⟩
    replace fG := fG.ext h2
    have h02 := h1.trans h2
    clear h1 h2
    go_wp2_with fail
    refine (CS.out _ fG.rd).mono ?_
    rintro e w3 ⟨rfl, h3⟩
    replace fG := fG.ext h3
    have h03 := h02.trans h3
    clear h02 h3
    go_wp2_with fail
    refine (impl_tokenize f U ok _ hf3 HR.out).mono ?_
    rintro e w4 ⟨G', cG', rfl, fG', h4⟩
    replace fG := fG.ext h4
    have h04 := h03.trans h4
    clear h03 h4
    go_wp2
    go_loopw [7] (fun i wr => ∃ j : Nat, j ≤ m ∧ i = .int .i64 j ∧ Hid (∀ q, q < j → goodT (T.getD q tk0)) ∧ Ext w4 wr) (fun i _ => m - (intOf i).toNat)
    case atStart => exact ⟨0, Nat.zero_le _, rfl, Lib.hid (by intro q hq; omega), Ext.refl _⟩
    case round =>
      obtain ⟨j, hj, rfl, hgood, he⟩ := hrel
      by_cases hlt : j < m
      · obtain ⟨g, off, rfl, hc⟩ := (fG.ext he).rd.tok (by have := HM.out; omega)
        obtain ⟨x0, x1⟩ := hc j (by have := HM.out; omega)
        have hs := HT.out _ (tk_mem (T := T) (j := j) (by have := HM.out; omega))
        obtain ⟨fm, HFM⟩ : ∃ fm, Hid (fmtTok (T.getD j tk0).1 (T.getD j tk0).2 = fm) := ⟨_, Lib.hid rfl⟩
        have CF := Lib.hid (fun W => impl_formatToken (T.getD j tk0).1 (T.getD j tk0).2 W (by omega))
        rw [HFM.out] at CF
        have HGD : Hid (fm ≠ ⟨#[]⟩ → goodT (T.getD j tk0)) := by
          show _ → _
          intro h; unfold goodT; rw [HFM.out]; exact h
        generalize (T.getD j tk0).1 = k at x0 CF
        generalize (T.getD j tk0).2 = s at x1 CF
        clear hc hs HFM
        by_cases hz : fm = ⟨#[]⟩
        · subst hz
          go_wp2_with fail
          refine (CF.out _).mono ?_
          rintro e w5 ⟨rfl, h5⟩
          go_wp2
          go_ret
          exact ⟨rfl, h04.trans (he.trans h5)⟩
        · have hne := not_empty hz
          have HZ := Lib.hid hz
          clear hz
          go_wp2_with fail
          refine (CF.out _).mono ?_
          rintro e w5 ⟨rfl, h5⟩
          go_wp2
          go_roundw
          case rel => exact ⟨j + 1, by omega, by go_num, all_succ hgood.out (HGD.out HZ.out), he.trans h5⟩
          case measure => simp [intOf]; omega
      · obtain rfl : j = m := by omega
        obtain ⟨hU, rfl⟩ := HR.out.some (acc := T) (by rw [← HF.out, ← HM.out]; exact lex_fmt T (by have := HM.out; omega) (fun i hi => hgood.out i (by have := HM.out; omega)))
        subst hU
        rw [HM.out]
        go_wp2_with fail
        refine (sameTokens_same G' G j cG' cG U _ (fG'.ext he).rd (fG.ext he).rd HM.out (by omega)).mono ?_
        rintro e w5 ⟨rfl, h5⟩
        go_wp2
        go_ret
        exact ⟨rfl, h04.trans (he.trans h5)⟩
end Go.Proofs.Ytilkbccpcbelgaa
