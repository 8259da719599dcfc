/-
  Contracts of DrawFormatToken and DrawFormatTokens; sameTokens. Conditions: the code is at most 2^20 bytes.
-/
import Derived.Test.YtilkbccpcbelgaaDrawT
import Derived.Test.YtilkbccpcbelgaaOpen3
import Derived.Laws.StructEq
set_option linter.unusedSimpArgs false
set_option linter.unusedVariables false
namespace Go.Proofs.Ytilkbccpcbelgaa
open Go.RowKit
theorem rd_below2 {w : World} {A : Option Addr} {l : List Int} (hA : Rd w A (bys l)) : ∀ a, A = some a → l ≠ [] → a.block < w.heap.size := by
  intro a ha hne
  obtain ⟨g, off, e, hc⟩ := hA.bys_ (by cases l; exact absurd rfl hne; simp)
  have := lt_of_cell (hc 0 (by cases l; exact absurd rfl hne; simp))
  rw [ha] at e
  injection e with e
  rw [e]; exact this
set_option maxRecDepth 20000 in
set_option maxHeartbeats 1600000 in
theorem drawToken_ok (A : Option Addr) (n c : Nat) (l : List Int) (w : World) (hA : Rd w A (bys l)) (hl : l.length = n) (hn : n ≤ 1048576) :
    Calls Try.prog 87 #[.slice A n c] w fun e w' => ∃ (k : Int) (s : ByteArray), e = .returned (.agg #[.int .i64 k, .string s]) ∧ s.size ≤ 16 ∧ Ext w w' := by
  have hAw := rd_below2 hA
  have hb0 := Blk.new w 71 #[.int .i64 0, .string ⟨#[]⟩]
  go_enter Try.func87, Try.ntmps87
  go_wp2_with fail
  refine (l1New_any A n c l _ (hA.ext (by repeat (first | exact Ext.refl _ | assumption | refine Ext.alloc ?_ _ | refine Ext.drew ?_ | refine Ext.drewN ?_ _ | refine Ext.trans ?_ (by assumption)))) hl hn).mono ?_
  rintro e w1 ⟨g, rfl, hg, hcur, h1⟩
  simp only [World.size_alloc] at hg
  have h01 : Ext w w1 := (by repeat (first | exact Ext.refl _ | assumption | refine Ext.alloc ?_ _ | refine Ext.drew ?_ | refine Ext.drewN ?_ _ | refine Ext.trans ?_ (by assumption)))
  have ok : CurOk w1 g A n c l := ⟨hA.ext h01, hl, hn, hcur, fun hne a ha => Nat.lt_of_lt_of_le (hAw a ha hne) (by omega)⟩
  replace hb0 := hb0.ext h1
  have z1 := h1.size
  simp only [World.size_alloc] at z1
  have hgw : g < w1.heap.size := ok.lt
  clear hcur hAw hA hl h1
  go_wp2_with fail
  refine (l16Token_ok g A n c l _ ok).mono ?_
  rintro e w3 ⟨k', s', rfl, hs', ok3, ch3⟩
  have z3 := ch3.size
  have ch03 := (h01.chg ch3 (by omega)).alloc (.cells #[.int .i64 k', .string s'] 71)
  replace hb0 := (hb0.chg ch3 (.inl (by omega))).ext ((Ext.refl w3).alloc (.cells #[.int .i64 k', .string s'] 71))
  have hb1 := Blk.new w3 71 #[.int .i64 k', .string s']
  have hg3 := ok3.lt
  clear ch3 ok h01
  go_wp2_with fail
  refine (l1Below_ok g A n c l 5 _ (ok3.ext ((Ext.refl w3).alloc _)) (by omega)).mono ?_
  rintro e w4 ⟨q, hq, rfl, ok4, ch4⟩
  have z4 := ch4.size
  simp only [World.size_alloc] at z4
  have ch04 := ch03.chg ch4 (by omega)
  replace hb0 := hb0.chg ch4 (.inl (by omega))
  replace hb1 := hb1.chg ch4 (.inr (by omega))
  clear ch4 ch03 ok3 hq
  have hne : w.heap.size ≠ w3.heap.size := by omega
  have hle : w.heap.size ≤ w3.heap.size := by omega
  by_cases q0 : q = 0
  · subst q0
    go_wp2_with fail
    refine (l1Below_ok g A n c l 7 _ ok4 (by omega)).mono ?_
    rintro e w5 ⟨v, hv, rfl, ok5, ch5⟩
    have hv7 : v < 7 := by omega
    have z5 := ch5.size
    have ch05 := ch04.chg ch5 (by omega)
    replace hb0 := hb0.chg ch5 (.inl (by omega))
    replace hb1 := hb1.chg ch5 (.inr (by omega))
    obtain ⟨bc, bf, bz⟩ := hb0.all
    obtain ⟨ec, ef, ez⟩ := hb1.all
    clear ch5 ch04 ok4 hv
    go_wp2
    exact bodyPost_ret (v := .agg #[.int .i64 ((v : Int) - 1), .string s']) (by simp [results, Try.results87, go_sem, bc, bz, hne]) rfl ⟨_, _, rfl, hs', ((ch05.setCell hle _).setCell (Nat.le_refl _) _).setCell (Nat.le_refl _) _⟩
  · have n0 : ((q : Int) == 0) = false := by simp; omega
    by_cases q1 : q = 1
    · subst q1
      go_wp2_with fail
      refine (l1Pick_ok g A n c l _ 4 4 w4.heap.size (w4.heap.size + 1) [⟨#[]⟩, ⟨#[65]⟩, ⟨#[120]⟩, ⟨#[49, 50, 51, 52, 53, 54, 55, 56, 57]⟩] _ (ok4.ext ((Ext.refl w4).alloc _)) (Fr.of_blk (Blk.new w4 _ _) (Nat.le_refl _) (Nat.lt_succ_self _) ?hx) (by have := ok4.lt; omega) rfl (by omega) (by omega)).mono ?_
      case hx =>
        intro j u hu
        (rcases j with _ | _ | _ | _ | j) <;> simp_all [strC]
      rintro e w5 ⟨v, hv, rfl, ok5, ch5⟩
      have hv16 : v.size ≤ 16 := by
        simp only [List.mem_cons, List.not_mem_nil, or_false] at hv
        rcases hv with rfl | rfl | rfl | rfl <;> decide
      have z5 := ch5.size
      simp only [World.size_alloc] at z5
      generalize ho : Obj.cells _ _ = ob at ch5
      have ch05 := (ch04.alloc ob).chg ch5 (by omega)
      replace hb0 := (hb0.ext ((Ext.refl w4).alloc ob)).chg ch5 (.inl (by omega))
      replace hb1 := (hb1.ext ((Ext.refl w4).alloc ob)).chg ch5 (.inr (by omega))
      obtain ⟨bc, bf, bz⟩ := hb0.all
      obtain ⟨ec, ef, ez⟩ := hb1.all
      clear ch5 ch04 ok4 hv ho ok5
      go_wp2
      exact bodyPost_ret (v := .agg #[.int .i64 k', .string v]) (by simp [results, Try.results87, go_sem, bc, bz, hne]) rfl ⟨_, _, rfl, hv16, ((ch05.setCell hle _).setCell (Nat.le_refl _) _).setCell (Nat.le_refl _) _⟩
    · have n1 : ((q : Int) == 1) = false := by simp; omega
      obtain ⟨bc, bf, bz⟩ := hb0.all
      obtain ⟨ec, ef, ez⟩ := hb1.all
      go_wp2
      exact bodyPost_ret (v := .agg #[.int .i64 k', .string s']) (by simp [results, Try.results87, go_sem, bc, bz, hne]) rfl ⟨_, _, rfl, hs', (ch04.setCell (Nat.le_refl _) _).setCell (Nat.le_refl _) _⟩
set_option maxRecDepth 20000 in
set_option maxHeartbeats 1600000 in
theorem drawTokens_ok (A : Option Addr) (n c : Nat) (l : List Int) (w : World) (hA : Rd w A (bys l)) (hl : l.length = n) (hn : n ≤ 1048576) :
    Calls Try.prog 51 #[.slice A n c] w fun e w' => ∃ (G : Option Addr) (cG : Nat) (T : List Tk), e = .returned (.slice G T.length cG) ∧ smallT T ∧ T.length ≤ 9 ∧ Fr w' w.heap.size w'.heap.size G (toks T) ∧ Ext w w' := by
  have hAw := rd_below2 hA
  have HL := Lib.hid hl
  clear hl
  obtain ⟨i0, hi, hz0, hz1, hz2⟩ := info_parts info_token
  go_enter Try.func51, Try.ntmps51
  go_wp2_with fail
  refine (l1New_any A n c l _ (hA.ext (by repeat (first | exact Ext.refl _ | assumption | refine Ext.alloc ?_ _ | refine Ext.drew ?_ | refine Ext.drewN ?_ _ | refine Ext.trans ?_ (by assumption)))) HL.out hn).mono ?_
  rintro e w1 ⟨g, rfl, hg, hcur, h1⟩
  have ok : CurOk w1 g A n c l := ⟨hA.ext h1, HL.out, hn, hcur, fun hne a ha => Nat.lt_of_lt_of_le (hAw a ha hne) (by omega)⟩
  have hgw : g < w1.heap.size := ok.lt
  have z1 := h1.size
  clear hcur hAw
  go_wp2_with fail
  refine (l16List_ok g A n c l _ ok).mono ?_
  rintro e w2 ⟨v, T, rfl, hT, hT8, hown, ok2, ch2⟩
  have h02 := h1.chg ch2 hg
  have z2 := ch2.size
  clear ok ch2 h1
  go_wp2_with fail
  refine (l1Once_ok g A n c l 4 _ ok2 (by omega)).mono ?_
  rintro e w3 ⟨b, rfl, ok3, ch3⟩
  replace hown := own_chg hown ch3 (by omega)
  have h03 := h02.chg ch3 hg
  have z3 := ch3.size
  have HT := Lib.hid hT
  clear ch3 h02 ok2 hT
  cases b with
  | false =>
    obtain ⟨G, cap, rfl⟩ := own_form hown
    have hf := Fr.of_own hown
    clear hown hi hz0 hz1 hz2
    go_wp2
    go_ret
    exact ⟨G, cap, T, rfl, HT.out, by omega, hf.mono (by omega) (Nat.le_refl _), h03⟩
  | true =>
    go_wp2_with fail
    refine (drawToken_ok A n c l _ (hA.ext h03) HL.out hn).mono ?_
    rintro e w4 ⟨k, s, rfl, hs, h4⟩
    replace hown := own_at hown h4
    have h04 := h03.trans h4
    have z4 := h4.size
    have rd2 := rd_tok w4 k s
    clear h4 h03 ok3
    go_wp2_with (at_builtin; refine wpList_append_rd rfl _ _ 60 rfl w1.heap.size 71 i0 (.agg #[.int .i64 0, .string ⟨#[]⟩]) 2 24 Try.underlying60 hi hz0 hz1 hz2 rfl (by decide) _ T.length (toks T) rfl (hown.alloc _) (some ⟨w4.heap.size, 0, none⟩) 1 1 (toks [(k, s)]) rfl rfl rd2 (fun h => by cases h) (toks_one _) ?c3 ?c4 ?c5 ?_)
    case c3 => unfold maxLen; omega
    case c4 => omega
    case c5 => simp; omega
    intro v' w5 hown' hgrow
    have h05 := own_ext (h04.alloc _) (hown.alloc _) (by omega) hgrow
    obtain ⟨G, cap, rfl⟩ := own_form hown'
    have hf := Fr.of_own hown'
    clear hown hown' hgrow hi hz0 hz1 hz2 rd2
    go_wp2
    go_ret
    exact ⟨G, cap, T ++ [(k, s)], by simp, smallT_app HT.out hs, by simp; omega, by rw [toks_app]; exact hf.mono (by omega) (Nat.le_refl _), h05⟩
theorem tokNe (k : Int) (s : ByteArray) (w : World) : (binOp .neq 71 (.agg #[.int .i64 k, .string s]) (.agg #[.int .i64 k, .string s])).run Try.prog w = .ok (.bool false) w := by
  rw [run_neq_struct, run_equalIn_struct w 9999 71 _ _ (by kernel_rfl) (by kernel_rfl)]
  simp [go_sem, Program.fieldsOf, Try.underlying71, Try.underlying3, Try.underlying9]
theorem tokGuard : Try.prog.eqGuardType Try.prog.depth 71 = false := by kernel_rfl
set_option maxRecDepth 20000 in
set_option maxHeartbeats 800000 in
theorem sameTokens_same (A B : Option Addr) (n c c' : Nat) (T : List Tk) (w : World) (hA : Rd w A (toks T)) (hB : Rd w B (toks T)) (hl : T.length = n) (hn : n ≤ 1048576) :
    Calls Try.prog 53 #[.slice A n c, .slice B n c'] w fun e w' => e = .returned (.bool true) ∧ Ext w w' := by
  have HL := Lib.hid hl
  clear hl
  go_enter Try.func53, Try.ntmps53
  go_wp2
  go_loopw [5] (fun i wr => ∃ j : Nat, j ≤ n ∧ i = .int .i64 j ∧ Ext w wr) (fun i _ => n - (intOf i).toNat)
  case atStart => exact ⟨0, Nat.zero_le _, rfl, (by repeat (first | exact Ext.refl _ | assumption | refine Ext.alloc ?_ _ | refine Ext.drew ?_ | refine Ext.drewN ?_ _ | refine Ext.trans ?_ (by assumption)))⟩
  case round =>
    obtain ⟨j, hj, rfl, he⟩ := hrel
    by_cases hlt : j < n
    · obtain ⟨g, off, rfl, hc⟩ := (hA.ext he).tok (by have := HL.out; omega)
      obtain ⟨g', off', rfl, hc'⟩ := (hB.ext he).tok (by have := HL.out; omega)
      obtain ⟨x0, x1⟩ := hc j (by have := HL.out; omega)
      obtain ⟨y0, y1⟩ := hc' j (by have := HL.out; omega)
      have hjI : (j : Int) < (n : Int) := by omega
      generalize (T.getD j tk0).1 = k at *
      generalize (T.getD j tk0).2 = s at *
      clear hc hc'
      have hguard := tokGuard
      have hneq := fun W => tokNe k s W
      go_wp2
      go_quiet (fail)
      go_wp2
      go_roundw
      case rel => exact ⟨j + 1, by omega, by go_num, (by repeat (first | exact Ext.refl _ | assumption | refine Ext.alloc ?_ _ | refine Ext.drew ?_ | refine Ext.drewN ?_ _ | refine Ext.trans ?_ (by assumption)))⟩
      case measure => simp [intOf]; omega
    · obtain rfl : j = n := by omega
      go_wp2
      go_ret
      exact ⟨rfl, he⟩
end Go.Proofs.Ytilkbccpcbelgaa
