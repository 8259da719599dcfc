/-
  Contracts of the drawing functions for circuits: what is drawn is some circuit. Conditions: the code is at most 2^20 bytes.
-/
import Derived.Test.YtkhgkaiadfebmaaDoorDraw5
import Derived.Test.YtkhgkaiadfebmaaDoorPcA
import Derived.Deep.CutBlock
import Derived.Deep.DeepCutAuto
import Derived.Deep.RegionLaw
import Derived.Deep.LoopGhost
set_option linter.unusedSimpArgs false
set_option linter.unusedVariables false
namespace Go.Proofs.YtkhgkaiadfebmaaDoor
open Go.RowKit
theorem Chg.ofGrown2 {b c : World} {base : Nat} {e : TypeId} {size n : Nat} {v : Value} {xs : List Value} (own : b.ownsRow base e size v n xs) (hg : b.grownBy c v.ownBlock) : Chg b c base b.heap.size :=
  ⟨hg.os, hg.tape, hg.output, hg.size, fun k hk hn => hg.block k hk (fun h => hn (own.lt k h.symm))⟩
theorem own_chg2 {a b : World} {base lo hi : Nat} {e : TypeId} {size n : Nat} {v : Value} {xs : List Value} (h : a.ownsRow base e size v n xs) (k : Chg a b lo hi) (hd : hi ≤ base) : b.ownsRow base e size v n xs := by
  obtain ⟨hl, h | ⟨g, cap, cur, hv, hb, hh, r⟩⟩ := h
  · exact ⟨hl, .inl h⟩
  · exact ⟨hl, .inr ⟨g, cap, cur, hv, hb, (k.block g (lt_of_blk hh) (fun ⟨x, y⟩ => by omega)).trans hh, r⟩⟩
theorem blk_chg2 {a b : World} {lo hi g : Nat} {o : Obj} (h : a.heap[g]? = some o) (k : Chg a b lo hi) (hd : hi ≤ g) : b.heap[g]? = some o := (k.block g (lt_of_blk h) (fun ⟨x, y⟩ => by omega)).trans h
theorem app_gateC {base C : Nat} {v N : Value} {j : Nat} {xs : List Value} (w3 : World) (q0 q1 q2 q3 : Int) (own : w3.ownsRow base 23 4 v j xs) (hC : w3.heap[C]? = some (.cells #[N, v] 30 (0, 0))) (hbase : base ≤ w3.heap.size)
    {ops : Array Oper} {o : Oper} {a : Act} {K : Act → World → Prop} {Q : Exit → Act → World → Prop} {E : Prop} {i0 : TypeInfo} {s x : Operand}
    (hi : Tryd.prog.info? 23 = some i0) (hz0 : i0.zero = some (.agg #[.int .i64 0, .int .i64 0, .int .i64 0, .int .i64 0])) (hz1 : i0.size = 4) (hz2 : i0.bytes = 32)
    (hgd : o.guard = none) (ho : o.op = .call { callee := .builtin .append, args := #[s, x], argTypes := #[28, 28] }) (hs : a.eval s = v) (hx : a.eval x = .slice (some ⟨w3.heap.size, 0, none⟩) 1 1)
    (h63 : j + 1 ≤ maxLen) (hb : (j + 1) * 32 ≤ 140737488355328)
    (h0 : ∀ G cG w4, w4.ownsRow base 23 4 (.slice G (j + 1) cG) (j + 1) (xs ++ ints [q0, q1, q2, q3]) → Chg w3 w4 base (w3.heap.size + 1) → w4.heap[C]? = some (.cells #[N, v] 30 (0, 0)) → K (a.put o.dst (.slice G (j + 1) cG)) w4) :
    if Region.wanted o (yielded ops a.tmps) = true then Oper.wp Tryd.prog o a (w3.alloc (.cells #[.int .i64 q0, .int .i64 q1, .int .i64 q2, .int .i64 q3] 23)) K Q else E := by
  have own' := own.alloc (.cells #[.int .i64 q0, .int .i64 q1, .int .i64 q2, .int .i64 q3] 23)
  have hC' := Ext.blk ((Ext.refl w3).alloc (.cells #[.int .i64 q0, .int .i64 q1, .int .i64 q2, .int .i64 q3] 23)) hC
  refine step_append_new hgd s x 28 ho base 23 i0 (.agg #[.int .i64 0, .int .i64 0, .int .i64 0, .int .i64 0]) 4 32 Tryd.underlying28 hi hz0 hz1 hz2 rfl (by decide) v j xs hs own' w3.heap.size 1 1 #[.int .i64 q0, .int .i64 q1, .int .i64 q2, .int .i64 q3] hx (Blk.new _ _ _) rfl (by decide) (ints_one [q0, q1, q2, q3]) h63 hb (by simp; omega) ?_
  intro G cG w4 own4 hg _
  have cg := Chg.ofGrown2 own' hg
  rw [World.size_alloc] at cg
  exact h0 G cG w4 own4 (((Chg.refl w3 base (w3.heap.size + 1)).alloc _).trans cg) ((hg.block C (lt_of_blk hC') (fun e => own_other own' hC' (by decide) e.symm)).trans hC')
/-- Some circuit of this many qubits was handed back; the cursor is as good as before. -/
def SomeCirc (N : Option Int) (w : World) (g : Nat) (A : Option Addr) (n c : Nat) (l : List Int) (e : Ending) (w' : World) : Prop :=
  ∃ (M : Int) (G : Option Addr) (q cG : Nat) (L : List Int), (∀ x, N = some x → M = x) ∧ e = .returned (.agg #[.int .i64 M, .slice G q cG]) ∧ q ≤ 80 ∧ (N ≠ none → q ≤ 12) ∧ w'.ownsRow w.heap.size 23 4 (.slice G q cG) q (ints L) ∧ CurOk w' g A n c l ∧ Chg w w' g (g + 1)
set_option maxRecDepth 20000 in
set_option maxHeartbeats 1600000 in
theorem l11Right_ok (g : Nat) (A : Option Addr) (n c : Nat) (l : List Int) (m most : Nat) (w : World) (h : CurOk w g A n c l) (h1 : 1 ≤ m) (h4 : m ≤ 4) (hmost : most ≤ 12) :
    Calls Tryd.prog 67 #[.pointer (some ⟨g, 0, none⟩), .int .i64 m, .int .i64 most] w (SomeCirc (some m) w g A n c l) := by
  have hgw := h.lt
  obtain ⟨i0, hi, hz0, hz1, hz2⟩ := info_parts info_gate2
  obtain ⟨W2, hW2⟩ : ∃ W2, W2 = (w.alloc (.cells #[.int .i64 0, .slice none 0 0] 30)).alloc (.cells #[.int .i64 m, .slice none 0 0] 30) := ⟨_, rfl⟩
  have rr0 : Blk W2 w.heap.size #[.int .i64 0, .slice none 0 0] := by rw [hW2]; exact Blk.ext (Blk.new w 30 _) (by repeat (first | exact Ext.refl _ | assumption | refine Ext.alloc ?_ _ | refine Ext.drew ?_ | refine Ext.drewN ?_ _ | refine Ext.trans ?_ (by assumption)))
  have bC0 : W2.heap[w.heap.size + 1]? = some (.cells #[.int .i64 m, .slice none 0 0] 30 (0, 0)) := by
    have := heap_alloc_new (w.alloc (.cells #[.int .i64 0, .slice none 0 0] 30)) (.cells #[.int .i64 m, .slice none 0 0] 30)
    rw [World.size_alloc] at this
    rw [hW2]; exact this
  have hwW : Ext w W2 := by rw [hW2]; exact (by repeat (first | exact Ext.refl _ | assumption | refine Ext.alloc ?_ _ | refine Ext.drew ?_ | refine Ext.drewN ?_ _ | refine Ext.trans ?_ (by assumption)))
  have HW := Lib.hid hW2
  clear hW2
  go_enter Tryd.func67, Tryd.ntmps67
  go_wp2_with fail
  rw [← HW.out]
  refine (l1Below_ok g A n c l ((most : Int) + 1) _ (h.ext hwW) (by omega)).mono ?_
  rintro e w1 ⟨y, hy, rfl, ok1, ch1⟩
  have hy2 : y ≤ 12 := by omega
  have rr1 := rr0.chg ch1 (.inr (by omega))
  have bC1 := blk_chg2 bC0 ch1 (by omega)
  have ch01 := hwW.chgs ch1
  clear hy ch1 h rr0 bC0
  go_wp2
  go_loopw [9] (fun i wr => ∃ (j : Nat) (v : Value) (L : List Int), j ≤ y ∧ i = .int .i64 j ∧ wr.heap[w.heap.size + 1]? = some (.cells #[.int .i64 m, v] 30 (0, 0)) ∧ wr.ownsRow (w.heap.size + 1) 23 4 v j (ints L) ∧ Blk wr w.heap.size #[.int .i64 0, .slice none 0 0] ∧ CurOk wr g A n c l ∧ Chg w wr g (g + 1)) (fun i _ => y - (intOf i).toNat)
  case atStart => exact ⟨0, _, [], Nat.zero_le _, rfl, bC1, World.ownsRow_nil _ _ _ _, rr1, ok1, ch01⟩
  case round =>
    clear ok1 rr1 bC1 ch01
    obtain ⟨j, v, L, hj, rfl, bC, own, rr, ok, ch⟩ := hrel
    have zz := ch.size
    have zC := lt_of_blk bC
    by_cases hlt : j < y
    · have cv := (Blk.all ⟨_, bC⟩).1 1
      simp only [List.getElem?_toArray, List.getElem?_cons_zero, List.getElem?_cons_succ] at cv
      have HC := Lib.hid bC
      have HO := Lib.hid own
      have ok' := ok.ext (Ext.drew (Ext.refl wr))
      clear own bC
      go_wp2_with fail
      go_region_law (first | (go_simp; go_at_call 45; refine (l9Gate_ok g A n c l m _ ok' h1 h4).mono ?_; rintro e w3 ⟨k, x, yy, z, rfl, ok3, ch3⟩; have ch3' : Chg wr w3 g (g + 1) := ⟨ch3.os, ch3.tape, ch3.output, ch3.size, ch3.block⟩; clear ch3; have HO3 := Lib.hid (own_chg2 HO.out ch3' (by omega)); have bC3 := blk_chg2 HC.out ch3' (by omega); have HC3 := Lib.hid bC3; have cv3 := (Blk.all ⟨_, bC3⟩).1 1; simp only [List.getElem?_toArray, List.getElem?_cons_zero, List.getElem?_cons_succ] at cv3; clear bC3; have cv4 := (fun o => Ext.cell ((Ext.refl w3).alloc o) cv3); have zz3 := ch3'.size) | (refine app_gateC w3 k x yy z HO3.out HC3.out (by omega) hi hz0 hz1 hz2 (by rfl) (by rfl) (by rfl) (by rfl) (by unfold maxLen; omega) (by omega) ?_; intro G cG w4 own4 ch4 bk; obtain ⟨bc, bf, bz⟩ := Blk.all ⟨_, bk⟩; have HB := Lib.hid bk; have HO4 := Lib.hid own4; clear bk own4))
      all_goals
        have chS : Chg w3 (w4.setCell ⟨w.heap.size + 1, 1, none⟩ (.slice G (j + 1) cG)) (w.heap.size + 1) (w3.heap.size + 1) := ch4.setCell (p := ⟨w.heap.size + 1, 1, none⟩) (Nat.le_refl _) (show w.heap.size + 1 < w3.heap.size + 1 by omega) _
        have rr4 : Blk (w4.setCell ⟨w.heap.size + 1, 1, none⟩ (.slice G (j + 1) cG)) w.heap.size #[.int .i64 0, .slice none 0 0] := (rr.chg ch3' (.inr (by omega))).chg chS (.inl (Nat.lt_succ_self _))
        clear cv cv3 cv4 hi hz0 hz1 hz2 ok'
        go_wp2
        go_roundw
        case rel => exact ⟨j + 1, _, L ++ [k, x, yy, z], by omega, by go_num, heap_set1' HB.out, own_set1 (by rw [ints_app]; exact HO4.out) HB.out (by decide) 1 _, rr4, CurOk.new ok3 chS (by omega), (ch.trans ch3').new chS (Nat.le_succ _)⟩
        case measure => simp [intOf]; omega
    · obtain rfl : j = y := by omega
      obtain ⟨G, cap, rfl⟩ := own_form own
      obtain ⟨bc, bf, bz⟩ := Blk.all ⟨_, bC⟩
      obtain ⟨rc, rf, rz⟩ := rr.all
      have HO := Lib.hid own
      have HR := Lib.hid rr
      clear own hi hz0 hz1 hz2
      go_wp2
      have chS : Chg wr ((wr.setCell ⟨w.heap.size, 0, none⟩ (.int .i64 m)).setCell ⟨w.heap.size, 1, none⟩ (.slice G j cap)) w.heap.size (w.heap.size + 1) := ((Chg.refl wr w.heap.size (w.heap.size + 1)).setCell (p := ⟨w.heap.size, 0, none⟩) (Nat.le_refl _) (Nat.lt_succ_self _) _).setCell (p := ⟨w.heap.size, 1, none⟩) (Nat.le_refl _) (Nat.lt_succ_self _) _
      exact bodyPost_ret (v := .agg #[.int .i64 m, .slice G j cap]) (by simp [results, Tryd.results67, go_sem, rc, bc]) rfl ⟨m, G, j, cap, L, (fun x hx => by injection hx), rfl, by omega, (fun _ => by omega), own_low (own_chg2 HO.out chS (Nat.le_refl _)) (Nat.le_succ _), CurOk.new ok chS hgw, ch.new chS (Nat.le_refl _)⟩
theorem l1Max_one (b : Int) (w : World) (h : 1 ≤ b) : Calls Tryd.prog 68 #[.int .i64 1, .int .i64 b] w fun e w' => e = .returned (.int .i64 b) ∧ w = w' := by
  have h' : decide (b < 1) = false := by simp; omega
  go_enter Tryd.func68, Tryd.ntmps68
  go_wp2
  go_ret
  exact ⟨rfl, rfl⟩
theorem bent_end {w W : World} {g : Nat} {A : Option Addr} {n c : Nat} {l : List Int} {M : Int} {G : Option Addr} {q cap : Nat} {L : List Int} (hq : q ≤ 80) (own : W.ownsRow (w.heap.size + 1) 23 4 (.slice G q cap) q (ints L)) (ok : CurOk W g A n c l) (ch : Chg w W g (g + 1)) (hgw : g < w.heap.size) :
    SomeCirc none w g A n c l (.returned (.agg #[.int .i64 M, .slice G q cap])) ((W.setCell ⟨w.heap.size, 0, none⟩ (.int .i64 M)).setCell ⟨w.heap.size, 1, none⟩ (.slice G q cap)) := by
  have chS : Chg W ((W.setCell ⟨w.heap.size, 0, none⟩ (.int .i64 M)).setCell ⟨w.heap.size, 1, none⟩ (.slice G q cap)) w.heap.size (w.heap.size + 1) := ((Chg.refl W w.heap.size (w.heap.size + 1)).setCell (p := ⟨w.heap.size, 0, none⟩) (Nat.le_refl _) (Nat.lt_succ_self _) _).setCell (p := ⟨w.heap.size, 1, none⟩) (Nat.le_refl _) (Nat.lt_succ_self _) _
  exact ⟨M, G, q, cap, L, (fun x hx => by cases hx), rfl, hq, (fun h => absurd rfl h), own_low (own_chg2 own chS (Nat.le_refl _)) (Nat.le_succ _), CurOk.new ok chS hgw, ch.new chS (Nat.le_refl _)⟩
set_option maxRecDepth 20000 in
set_option maxHeartbeats 3200000 in
theorem l11Bent_ok (g : Nat) (A : Option Addr) (n c : Nat) (l : List Int) (most : Nat) (w : World) (h : CurOk w g A n c l) (hmost : most ≤ 12) :
    Calls Tryd.prog 51 #[.pointer (some ⟨g, 0, none⟩), .int .i64 most] w (SomeCirc none w g A n c l) := by
  have hgw := h.lt
  obtain ⟨i0, hi, hz0, hz1, hz2⟩ := info_parts info_gate2
  have rr := Blk.new w 30 #[.int .i64 0, .slice none 0 0]
  go_enter Tryd.func51, Tryd.ntmps51
  go_wp2_with fail
  refine (l1Below_ok g A n c l 3 _ (h.ext ((Ext.refl w).alloc _)) (by omega)).mono ?_
  rintro e w1 ⟨y, hy, rfl, ok1, ch1⟩
  have hy3 : y < 3 := by omega
  replace rr := rr.chg ch1 (.inr (by omega))
  have ch01 := ((Ext.refl w).alloc (.cells #[.int .i64 0, .slice none 0 0] 30)).chgs ch1
  have hz1' := ch1.size
  simp only [World.size_alloc] at hz1'
  clear hy ch1 h
  go_wp2_with fail
  rw [show (1 : Int) + (y : Int) = ((y + 1 : Nat) : Int) from by omega]
  refine (l11Right_ok g A n c l (y + 1) most _ ok1 (by omega) (by omega) hmost).mono ?_
  rintro e w2 ⟨M, G, q, cG, L, hM, rfl, hq, hq12', own, ok2, ch2⟩
  have hq12 : q ≤ 12 := hq12' (by simp)
  obtain rfl := hM _ rfl
  replace own := own_low own hz1'
  replace rr := rr.chg ch2 (.inr (by omega))
  have ch02 := ch01.trans ch2
  have hz2' := ch2.size
  obtain ⟨m, hm⟩ : ∃ m : Nat, m = y + 1 := ⟨_, rfl⟩
  rw [← hm]
  have hm1 : 1 ≤ m := by omega
  have hm4 : m ≤ 4 := by omega
  clear ch01 ch2 ok1 hM hm hy3 hq12'
  have hC := heap_alloc_new w2 (.cells #[.int .i64 m, .slice G q cG] 30)
  replace own := own.alloc (.cells #[.int .i64 m, .slice G q cG] 30)
  replace rr := rr.ext ((Ext.refl w2).alloc (.cells #[.int .i64 m, .slice G q cG] 30))
  replace ok2 := ok2.ext ((Ext.refl w2).alloc (.cells #[.int .i64 m, .slice G q cG] 30))
  replace ch02 := ch02.alloc (.cells #[.int .i64 m, .slice G q cG] 30)
  go_wp2_with fail
  refine (l1Below_ok g A n c l 12 _ ok2 (by omega)).mono ?_
  rintro e w3 ⟨r, hr, rfl, ok3, ch3⟩
  replace own := own_chg2 own ch3 (by omega)
  replace rr := rr.chg ch3 (.inr (by omega))
  have bC := blk_chg2 hC ch3 (by omega)
  have ch03 := ch02.trans ch3
  have hz3' := ch3.size
  simp only [World.size_alloc] at hz3'
  clear ch02 ch3 ok2 hr hC
  generalize w2.heap.size = C at *
  by_cases r0 : r = 0
  · subst r0
    obtain ⟨bc, bf, bz⟩ := Blk.all ⟨_, bC⟩
    go_wp2_with fail
    refine (l1PickInt_ok g A n c l _ 5 5 w3.heap.size (w3.heap.size + 1) [0, 1, 4, 5, -1] _ (ok3.ext ((Ext.refl w3).alloc _)) (Fr.of_blk (Blk.new w3 _ _) (Nat.le_refl _) (Nat.lt_succ_self _) ?hx) (by have := ok3.lt; omega) rfl (by omega) (by omega)).mono ?_
    case hx =>
      intro j u hu
      (rcases j with _ | _ | _ | _ | _ | j) <;> simp_all [ints]
    rintro e w4 ⟨v, _, rfl, ok4, ch4⟩
    have ch4' := ((Ext.refl w3).alloc (.cells #[.int .i64 0, .int .i64 1, .int .i64 4, .int .i64 5, .int .i64 (-1)] 3)).chgs ch4
    have chS : Chg w4 (w4.setCell ⟨C, 0, none⟩ (.int .i64 v)) C (C + 1) := (Chg.refl w4 C (C + 1)).setCell (p := ⟨C, 0, none⟩) (Nat.le_refl _) (Nat.lt_succ_self _) _
    have bC4 := blk_chg2 bC ch4' (by omega)
    have bC5 : (w4.setCell ⟨C, 0, none⟩ (.int .i64 v)).heap[C]? = some (.cells #[.int .i64 v, .slice G q cG] 30 (0, 0)) := by simp [World.setCell, Array.getElem?_modify, bC4]
    have HO := Lib.hid (own_set1 (own_chg2 own ch4' (by omega)) bC4 (by decide) 0 (.int .i64 v))
    have rr5 := (rr.chg ch4' (.inr (by omega))).chg chS (.inl (by omega))
    have HOK := Lib.hid (CurOk.new ok4 chS (by omega))
    have HCH := Lib.hid ((ch03.trans ch4').new chS (by omega))
    clear bc bf bz
    obtain ⟨bc, bf, bz⟩ := Blk.all ⟨_, bC4⟩
    obtain ⟨dc, df, dz⟩ := Blk.all ⟨_, bC5⟩
    obtain ⟨rc, rf, rz⟩ := rr5.all
    clear own ok3 ok4 ch4 ch4' ch03 bC rr rr5 chS bC4 bC5
    go_wp2
    exact bodyPost_ret (v := .agg #[.int .i64 v, .slice G q cG]) (by simp [results, Tryd.results51, go_sem, rc, dc]) rfl (bent_end hq HO.out HOK.out HCH.out hgw)
  · have n0 : ((r : Int) == 0) = false := by simp; omega
    by_cases r1 : r = 1
    · subst r1
      have cv := (Blk.all ⟨_, bC⟩).1 1
      have cn := (Blk.all ⟨_, bC⟩).1 0
      simp only [List.getElem?_toArray, List.getElem?_cons_zero, List.getElem?_cons_succ] at cv cn
      have HC := Lib.hid bC
      have HO := Lib.hid own
      have ok' := ok3.ext (Ext.drew (Ext.refl w3))
      have mI : (1 : Int) ≤ (m : Int) := by omega
      clear own bC
      go_wp2_with fail
      go_region_law (first | (go_simp; go_at_call 68; refine (l1Max_one (m : Int) _ mI).mono ?_; rintro e w5 ⟨rfl, rfl⟩) | (go_simp; go_at_call 59; refine (l9Bent_ok g A n c l m _ ok' hm1 hm4).mono ?_; rintro e w5 ⟨k, x, yy, z, rfl, ok5, ch5⟩; have ch5' : Chg w3 w5 g (g + 1) := ⟨ch5.os, ch5.tape, ch5.output, ch5.size, ch5.block⟩; clear ch5; have HO3 := Lib.hid (own_chg2 HO.out ch5' (by omega)); have bC5 := blk_chg2 HC.out ch5' (by omega); have HC3 := Lib.hid bC5; have cv3 := (Blk.all ⟨_, bC5⟩).1 1; simp only [List.getElem?_toArray, List.getElem?_cons_zero, List.getElem?_cons_succ] at cv3; clear bC5; have cv4 := (fun o => Ext.cell ((Ext.refl w5).alloc o) cv3); have zz3 := ch5'.size) | (refine app_gateC w5 k x yy z HO3.out HC3.out (by omega) hi hz0 hz1 hz2 (by rfl) (by rfl) (by rfl) (by rfl) (by unfold maxLen; omega) (by omega) ?_; intro G4 cG4 w4 own4 ch4 bk; obtain ⟨bc, bf, bz⟩ := Blk.all ⟨_, bk⟩; have HB := Lib.hid bk; have HO4 := Lib.hid own4; clear bk own4))
      all_goals
        have chS : Chg w5 (w4.setCell ⟨C, 1, none⟩ (.slice G4 (q + 1) cG4)) (w.heap.size + 1) (w5.heap.size + 1) := ch4.setCell (p := ⟨C, 1, none⟩) (show w.heap.size + 1 ≤ C by omega) (show C < w5.heap.size + 1 by omega) _
        have HOS := Lib.hid (own_set1 HO4.out HB.out (by decide) 1 (.slice G4 (q + 1) cG4))
        rw [← ints_app] at HOS
        obtain ⟨dc, df, dz⟩ := Blk.all ⟨_, heap_set1' (y := .slice G4 (q + 1) cG4) HB.out⟩
        obtain ⟨rc, rf, rz⟩ := ((rr.chg ch5' (.inr (by omega))).chg chS (.inl (by omega))).all
        have HOK := Lib.hid (CurOk.new ok5 chS (by omega))
        have HCH := Lib.hid ((ch03.trans ch5').new chS (by omega))
        clear cv cn cv3 cv4 hi hz0 hz1 hz2 ok' rr ch03 ok3 ok5 ch5' ch4 chS
        go_wp2
        exact bodyPost_ret (v := .agg #[.int .i64 m, .slice G4 (q + 1) cG4]) (by simp [results, Tryd.results51, go_sem, rc, dc]) rfl (bent_end (by omega) HOS.out HOK.out HCH.out hgw)
    · have n1 : ((r : Int) == 1) = false := by simp; omega
      by_cases r2 : r = 2
      · subst r2
        go_wp2_with fail
        refine (l1Once_ok g A n c l 6 _ ok3 (by omega)).mono ?_
        rintro e w4 ⟨b, rfl, ok4, ch4⟩
        replace own := own_chg2 own ch4 (by omega)
        replace rr := rr.chg ch4 (.inr (by omega))
        replace bC := blk_chg2 bC ch4 (by omega)
        replace ch03 := ch03.trans ch4
        have hz4' := ch4.size
        clear ok3 ch4
        cases b with
        | false =>
          obtain ⟨bc, bf, bz⟩ := Blk.all ⟨_, bC⟩
          obtain ⟨rc, rf, rz⟩ := rr.all
          go_wp2
          exact bodyPost_ret (v := .agg #[.int .i64 m, .slice G q cG]) (by simp [results, Tryd.results51, go_sem, rc, bc]) rfl (bent_end hq own ok4 ch03 hgw)
        | true =>
          go_wp2_with fail
          go_loopg [38] (62 - q) (fun k _ wr => ∃ (j : Nat) (v : Value) (L : List Int), j ≤ 61 ∧ k = 62 - j ∧ wr.heap[C]? = some (.cells #[.int .i64 m, v] 30 (0, 0)) ∧ wr.ownsRow (w.heap.size + 1) 23 4 v j (ints L) ∧ Blk wr w.heap.size #[.int .i64 0, .slice none 0 0] ∧ CurOk wr g A n c l ∧ Chg w wr g (g + 1))
          case atStart => exact ⟨q, _, L, by omega, rfl, bC, own, rr, ok4, ch03⟩
          case round =>
            clear bC own rr ok4 ch03
            obtain ⟨j, v, L, hj, rfl, bC, own, rr, ok, ch⟩ := hrel
            obtain ⟨G, cap, rfl⟩ := own_form own
            have zz := ch.size
            have zC := lt_of_blk bC
            have cv := (Blk.all ⟨_, bC⟩).1 1
            simp only [List.getElem?_toArray, List.getElem?_cons_zero, List.getElem?_cons_succ] at cv
            have HC := Lib.hid bC
            have HO := Lib.hid own
            have ok' := ok.ext (Ext.drew (Ext.refl wr))
            clear own bC
            go_wp2_with fail
            go_region_law (first | (go_simp; go_at_call 60; refine (l1Below_ok g A n c l 3 _ ok' (by omega)).mono ?_; rintro e w5 ⟨x, hx, rfl, ok5, ch5⟩; have ch5' : Chg wr w5 g (g + 1) := ⟨ch5.os, ch5.tape, ch5.output, ch5.size, ch5.block⟩; clear ch5; have hx3 : x < 3 := (by omega); clear hx; have HO3 := Lib.hid (own_chg2 HO.out ch5' (by omega)); have bC5 := blk_chg2 HC.out ch5' (by omega); have HC3 := Lib.hid bC5; have cv3 := (Blk.all ⟨_, bC5⟩).1 1; simp only [List.getElem?_toArray, List.getElem?_cons_zero, List.getElem?_cons_succ] at cv3; clear bC5; have zz3 := ch5'.size; have wx : IntKind.i64.wrap (59 + (x : Int)) = 59 + (x : Int) := IntWalk.i64_in _ (by omega)))
            all_goals
              clear cv cv3 ok'
              obtain ⟨bc, bf, bz⟩ := Blk.all ⟨_, HC3.out⟩
              by_cases hjx : (j : Int) < 59 + (x : Int)
              · have HB0 : Hid (Blk (w5.alloc (.cells #[.int .i64 1, .int .i64 0, .int .i64 0, .int .i64 0] 23)) w5.heap.size #[.int .i64 1, .int .i64 0, .int .i64 0, .int .i64 0]) := Blk.new _ _ _
                have own5 := HO3.out
                clear wx
                go_wp2_with (at_builtin; refine wpList_append_new rfl _ _ 28 rfl (w.heap.size + 1) 23 i0 (.agg #[.int .i64 0, .int .i64 0, .int .i64 0, .int .i64 0]) 4 32 Tryd.underlying28 hi hz0 hz1 hz2 rfl (by decide) _ j (ints L) rfl (own5.alloc _) w5.heap.size 1 1 #[.int .i64 1, .int .i64 0, .int .i64 0, .int .i64 0] rfl HB0.out rfl (by decide) (ints_one [1, 0, 0, 0]) ?c2 ?c3 ?c4 ?_)
                case c2 => unfold maxLen; omega
                case c3 => omega
                case c4 => simp; omega
                intro G4 c4 w6 own6 hg6 _
                have bC5' := Ext.blk ((Ext.refl w5).alloc (.cells #[.int .i64 1, .int .i64 0, .int .i64 0, .int .i64 0] 23)) HC3.out
                have bC6 : w6.heap[C]? = some (.cells #[.int .i64 m, .slice G j cap] 30 (0, 0)) := (hg6.block C (lt_of_blk bC5') (fun e => own_other (own5.alloc _) bC5' (by decide) e.symm)).trans bC5'
                have cg := Chg.ofGrown2 (own5.alloc _) hg6
                rw [World.size_alloc] at cg
                have chS : Chg w5 (w6.setCell ⟨C, 1, none⟩ (.slice G4 (j + 1) c4)) (w.heap.size + 1) (w5.heap.size + 1) := (((Chg.refl w5 (w.heap.size + 1) (w5.heap.size + 1)).alloc _).trans cg).setCell (p := ⟨C, 1, none⟩) (show w.heap.size + 1 ≤ C by omega) (show C < w5.heap.size + 1 by omega) _
                have HRR := Lib.hid ((rr.chg ch5' (.inr (by omega))).chg chS (.inl (by omega)))
                have HOK := Lib.hid (CurOk.new ok5 chS (by omega))
                have HCH := Lib.hid ((ch.trans ch5').new chS (by omega))
                have HB6 := Lib.hid bC6
                have HO6 := Lib.hid own6
                clear bc bf bz
                obtain ⟨bc, bf, bz⟩ := Blk.all ⟨_, bC6⟩
                clear bC6 own6 hg6 cg chS bC5' own5 hi hz0 hz1 hz2 rr ok ok5 ch ch5'
                go_wp2
                go_roundg (62 - (j + 1))
                case measure => omega
                case rel => exact ⟨j + 1, _, L ++ [1, 0, 0, 0], by omega, rfl, heap_set1' HB6.out, own_set1 (by rw [ints_app]; exact HO6.out) HB6.out (by decide) 1 _, HRR.out, HOK.out, HCH.out⟩
              · have hjd : decide ((j : Int) < 59 + (x : Int)) = false := by simp; omega
                obtain ⟨rc, rf, rz⟩ := (rr.chg ch5' (.inr (by omega))).all
                clear hi hz0 hz1 hz2
                go_wp2
                exact bodyPost_ret (v := .agg #[.int .i64 m, .slice G j cap]) (by simp [results, Tryd.results51, go_sem, rc, bc]) rfl (bent_end (by omega) HO3.out ok5 (ch.trans ch5') hgw)
      · have n2 : ((r : Int) == 2) = false := by simp; omega
        obtain ⟨bc, bf, bz⟩ := Blk.all ⟨_, bC⟩
        obtain ⟨rc, rf, rz⟩ := rr.all
        go_wp2
        exact bodyPost_ret (v := .agg #[.int .i64 m, .slice G q cG]) (by simp [results, Tryd.results51, go_sem, rc, bc]) rfl (bent_end hq own ok3 ch03 hgw)
end Go.Proofs.YtkhgkaiadfebmaaDoor
