/-
  Contracts of the drawing functions for tokens: some tokens with short texts. Conditions: the code is at most 2^20 bytes.
-/
import Derived.Test.YtilkbccpcbelgaaDraw2
import Derived.Test.YtilkbccpcbelgaaTkz3
set_option linter.unusedSimpArgs false
set_option linter.unusedVariables false
namespace Go.Proofs.Ytilkbccpcbelgaa
open Go.RowKit
theorem CurOk.fresh {a b : World} {lo hi g : Nat} {A : Option Addr} {n c : Nat} {l : List Int} (h : CurOk a g A n c l) (k : Chg a b lo hi) (hlo : g < lo) : CurOk b g A n c l := h.chg k (Nat.le_of_lt hlo) (h.cur.chg k (.inl hlo))
theorem Chg.ofGrown {b c : World} {base : Nat} {e : TypeId} {size n : Nat} {v : Value} {xs : List Value} (own : b.ownsRow base e size v n xs) (hg : b.grownBy c v.ownBlock) : Chg b c base b.heap.size :=
  ⟨hg.os, hg.tape, hg.output, hg.size, fun k hk hn => hg.block k hk (fun h => hn (own.lt k h.symm))⟩
def strC (L : List ByteArray) : List Value := L.map Value.string
theorem strC_ne {L : List ByteArray} {x : Nat} (h : x < L.length) : strC L ≠ [] := by
  intro h0
  have h1 : (strC L).length = L.length := by simp [strC]
  rw [h0] at h1; simp at h1; omega
theorem l1Pick_ok (g : Nat) (A : Option Addr) (n c : Nat) (l : List Int) (B : Option Addr) (m c' lo hi : Nat) (L : List ByteArray) (w : World) (h : CurOk w g A n c l) (hB : Fr w lo hi B (strC L)) (hlo : g < lo) (hL : L.length = m) (hm : 0 < m) (hm' : m ≤ 1000000) :
    Calls Try.prog 108 #[.pointer (some ⟨g, 0, none⟩), .slice B m c'] w fun e w' => ∃ v ∈ L, e = .returned (.string v) ∧ CurOk w' g A n c l ∧ Chg w w' g (g + 1) := by
  have HL := Lib.hid hL
  clear hL
  go_enter Try.func108, Try.ntmps108
  go_wp2_with fail
  refine (l1Below_ok g A n c l m _ h (by omega)).mono ?_
  rintro e w1 ⟨x, hx, rfl, h1, ch⟩
  have hxm : x < m := by omega
  have hxl : x < L.length := by have := HL.out; omega
  obtain ⟨gb, off, rfl, hc⟩ := (hB.chg ch (.inr hlo)).rd (strC_ne hxl)
  have c1 := hc x (.string L[x]) (by simp [strC, hxl])
  have HM := Lib.hid (List.getElem_mem hxl)
  generalize L[x] = v at c1 HM
  clear hc hx
  have hxI : (x : Int) < (m : Int) := by omega
  go_wp2
  go_ret
  exact ⟨v, HM.out, rfl, h1, ch⟩
/-- Some token with a short text was handed back; the cursor is as good as before. -/
def SomeTok (w w' : World) (g : Nat) (A : Option Addr) (n c : Nat) (l : List Int) (e : Ending) : Prop := ∃ (k : Int) (s : ByteArray), e = .returned (.agg #[.int .i64 k, .string s]) ∧ s.size ≤ 16 ∧ CurOk w' g A n c l ∧ Chg w w' g (g + 1)
set_option maxRecDepth 20000 in
set_option maxHeartbeats 800000 in
theorem l16Token_ok (g : Nat) (A : Option Addr) (n c : Nat) (l : List Int) (w : World) (h : CurOk w g A n c l) :
    Calls Try.prog 107 #[.pointer (some ⟨g, 0, none⟩)] w fun e w' => SomeTok w w' g A n c l e := by
  have hgw := h.lt
  have hb0 := Blk.new w 71 #[.int .i64 0, .string ⟨#[]⟩]
  go_enter Try.func107, Try.ntmps107
  go_wp2_with fail
  refine (l1Once_ok g A n c l 2 _ (h.ext ((Ext.refl w).alloc _)) (by omega)).mono ?_
  rintro e w1 ⟨b, rfl, ok1, ch1⟩
  have hz1 := ch1.size
  simp only [World.size_alloc] at hz1
  replace hb0 := hb0.chg ch1 (.inr (by omega))
  have ch01 := ((Ext.refl w).alloc (.cells #[.int .i64 0, .string ⟨#[]⟩] 71)).chgs ch1
  clear ch1 h
  cases b with
  | true =>
    go_wp2_with fail
    refine (l1Pick_ok g A n c l _ 6 6 w1.heap.size (w1.heap.size + 1) [⟨#[97]⟩, ⟨#[104]⟩, ⟨#[113, 117, 98, 105, 116, 115]⟩, ⟨#[48]⟩, ⟨#[114, 101, 112, 101, 97, 116]⟩, ⟨#[49, 50, 51, 52, 53, 54, 55, 56]⟩] _ (ok1.ext ((Ext.refl w1).alloc _)) (Fr.of_blk (Blk.new w1 _ _) (Nat.le_refl _) (Nat.lt_succ_self _) ?hx) (by have := ok1.lt; omega) rfl (by omega) (by omega)).mono ?_
    case hx =>
      intro j u hu
      (rcases j with _ | _ | _ | _ | _ | _ | j) <;> simp_all [strC]
    rintro e w3 ⟨v, hv, rfl, ok3, ch3⟩
    have hv16 : v.size ≤ 16 := by
      simp only [List.mem_cons, List.not_mem_nil, or_false] at hv
      rcases hv with rfl | rfl | rfl | rfl | rfl | rfl <;> decide
    have hz3 := ch3.size
    simp only [World.size_alloc] at hz3
    generalize ho : Obj.cells _ _ = ob at ok3 ch3
    replace hb0 := (hb0.ext ((Ext.refl w1).alloc ob)).chg ch3 (.inr (by omega))
    have ch03 := (ch01.alloc ob).trans ch3
    clear ch01 ch3 ok1 hv ho
    obtain ⟨bc, bf, bz⟩ := hb0.all
    go_wp2
    exact bodyPost_ret (v := .agg #[.int .i64 1, .string v]) (by simp [results, Try.results107, go_sem, bc, bz]) rfl ⟨_, _, rfl, hv16, CurOk.fresh ok3 (lo := w.heap.size) (hi := w.heap.size + 1) (by repeat (first | (with_reducible exact Chg.refl _ _ _) | (with_reducible refine Chg.alloc ?_ _) | (with_reducible refine Chg.drew ?_) | (with_reducible refine Chg.drewN ?_ _) | (with_reducible refine Chg.setCell ?_ ?_ ?_ _; rotate_left; (first | exact Nat.le_refl _ | (simp; done) | (simp; omega)); (first | exact Nat.lt_succ_self _ | (simp; done) | (simp; omega))) | assumption)) hgw, ch03.new (l := w.heap.size) (h := w.heap.size + 1) (by repeat (first | (with_reducible exact Chg.refl _ _ _) | (with_reducible refine Chg.alloc ?_ _) | (with_reducible refine Chg.drew ?_) | (with_reducible refine Chg.drewN ?_ _) | (with_reducible refine Chg.setCell ?_ ?_ ?_ _; rotate_left; (first | exact Nat.le_refl _ | (simp; done) | (simp; omega)); (first | exact Nat.lt_succ_self _ | (simp; done) | (simp; omega))) | assumption)) (Nat.le_refl _)⟩
  | false =>
    go_wp2_with fail
    refine (l1Below_ok g A n c l 3 _ ok1 (by omega)).mono ?_
    rintro e w3 ⟨x, hx, rfl, ok3, ch3⟩
    have hx3 : x < 3 := by omega
    have hz3 := ch3.size
    replace hb0 := hb0.chg ch3 (.inr (by omega))
    have ch03 := ch01.trans ch3
    clear ch01 ch3 ok1 hx
    obtain ⟨bc, bf, bz⟩ := hb0.all
    go_wp2
    exact bodyPost_ret (v := .agg #[.int .i64 (2 + (x : Int)), .string ⟨#[]⟩]) (by simp [results, Try.results107, go_sem, bc, bz]) rfl ⟨_, _, rfl, by decide, CurOk.fresh ok3 (lo := w.heap.size) (hi := w.heap.size + 1) (by repeat (first | (with_reducible exact Chg.refl _ _ _) | (with_reducible refine Chg.alloc ?_ _) | (with_reducible refine Chg.drew ?_) | (with_reducible refine Chg.drewN ?_ _) | (with_reducible refine Chg.setCell ?_ ?_ ?_ _; rotate_left; (first | exact Nat.le_refl _ | (simp; done) | (simp; omega)); (first | exact Nat.lt_succ_self _ | (simp; done) | (simp; omega))) | assumption)) hgw, ch03.new (l := w.heap.size) (h := w.heap.size + 1) (by repeat (first | (with_reducible exact Chg.refl _ _ _) | (with_reducible refine Chg.alloc ?_ _) | (with_reducible refine Chg.drew ?_) | (with_reducible refine Chg.drewN ?_ _) | (with_reducible refine Chg.setCell ?_ ?_ ?_ _; rotate_left; (first | exact Nat.le_refl _ | (simp; done) | (simp; omega)); (first | exact Nat.lt_succ_self _ | (simp; done) | (simp; omega))) | assumption)) (Nat.le_refl _)⟩
def smallT (T : List Tk) : Prop := ∀ t ∈ T, t.2.size ≤ 16
theorem smallT_app {T : List Tk} {t : Tk} (h : smallT T) (ht : t.2.size ≤ 16) : smallT (T ++ [t]) := by
  intro u hu
  rw [List.mem_append] at hu
  rcases hu with hu | hu
  · exact h u hu
  · simp at hu; subst hu; exact ht
set_option maxRecDepth 20000 in
set_option maxHeartbeats 800000 in
theorem l16List_ok (g : Nat) (A : Option Addr) (n c : Nat) (l : List Int) (w : World) (h : CurOk w g A n c l) :
    Calls Try.prog 86 #[.pointer (some ⟨g, 0, none⟩)] w fun e w' => ∃ v T, e = .returned v ∧ smallT T ∧ T.length ≤ 8 ∧ w'.ownsRow w.heap.size 71 2 v T.length (toks T) ∧ CurOk w' g A n c l ∧ Chg w w' g (g + 1) := by
  have hgw := h.lt
  obtain ⟨i0, hi, hz0, hz1, hz2⟩ := info_parts info_token
  have hO := own_new (w := w) (g := w.heap.size) (base := w.heap.size) (e := 71) (size := 2) #[] 0 rfl (Nat.le_refl _) (by simp) (by simp)
  go_enter Try.func86, Try.ntmps86
  go_wp2_with fail
  refine (l1Below_ok g A n c l 8 _ (h.ext ((Ext.refl w).alloc _)) (by omega)).mono ?_
  rintro e w1 ⟨m, hm, rfl, ok1, ch1⟩
  have hm8 : m < 8 := by omega
  replace hO := Lib.hid (own_chg hO ch1 (by omega))
  have ch01 := ((Ext.refl w).alloc (.cells #[] 71)).chgs ch1
  clear hm ch1 h
  go_wp2
  go_loopw [3, 5] (fun v i wr => ∃ (j : Nat) (T : List Tk), j ≤ m ∧ i = .int .i64 j ∧ smallT T ∧ T.length = j ∧ wr.ownsRow w.heap.size 71 2 v T.length (toks T) ∧ CurOk wr g A n c l ∧ Chg w wr g (g + 1)) (fun _ i _ => m - (intOf i).toNat)
  case atStart => exact ⟨0, [], Nat.zero_le _, rfl, by intro t ht; simp at ht, rfl, hO.out, ok1, ch01⟩
  case round =>
    obtain ⟨j, T, hj, rfl, hT, hTl, hown, ok, ch⟩ := hrel
    clear ok1 ch01 hO
    by_cases hlt : j < m
    · have HT := Lib.hid hT
      have HTL := Lib.hid hTl
      clear hT hTl
      go_wp2_with fail
      refine (l16Token_ok g A n c l _ ok).mono ?_
      rintro e w2 ⟨k, s, rfl, hs, ok2, ch2⟩
      replace hown := own_chg hown ch2 (by omega)
      have ch02 := ch.trans ch2
      have zz := ch02.size
      have rd2 := rd_tok w2 k s
      clear ok ch ch2
      have hTb : T.length ≤ 8 := by have := HTL.out; omega
      go_wp2_with (at_builtin; refine wpList_append_rd rfl _ _ 60 rfl w.heap.size 71 i0 (.agg #[.int .i64 0, .string ⟨#[]⟩]) 2 24 Try.underlying60 hi hz0 hz1 hz2 rfl (by decide) _ T.length (toks T) rfl (hown.alloc _) (some ⟨w2.heap.size, 0, none⟩) 1 1 (toks [(k, s)]) rfl rfl rd2 (fun h => by cases h) (toks_one _) ?c3 ?c4 ?c5 ?_)
      case c3 => unfold maxLen; omega
      case c4 => omega
      case c5 => simp; omega
      intro v' w3 hown' hgrow
      have cg := Chg.ofGrown (hown.alloc _) hgrow
      have ok3 := CurOk.fresh (ok2.ext ((Ext.refl w2).alloc _)) cg hgw
      have ch03 := (ch02.alloc _).new cg (Nat.le_refl _)
      have HO' : Hid (w3.ownsRow w.heap.size 71 2 v' (T ++ [(k, s)]).length (toks (T ++ [(k, s)]))) := by
        show World.ownsRow _ _ _ _ _ _ _
        rw [toks_app, List.length_append]; exact hown'
      clear hown' hgrow hown rd2 cg ok2 ch02
      go_wp2
      go_roundw
      case rel => exact ⟨j + 1, T ++ [(k, s)], by omega, by go_num, smallT_app HT.out hs, by have := HTL.out; simp; omega, HO'.out, ok3, ch03⟩
      case measure => simp [intOf]; omega
    · obtain rfl : j = m := by omega
      go_wp2
      go_ret
      exact ⟨_, T, rfl, hT, by omega, hown, ok, ch⟩
end Go.Proofs.Ytilkbccpcbelgaa
