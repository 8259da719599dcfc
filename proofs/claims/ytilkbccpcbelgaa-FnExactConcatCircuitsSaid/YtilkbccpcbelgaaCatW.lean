/-
  The walk of the law on ConcatCircuits. No conditions.
-/
import Derived.Test.YtilkbccpcbelgaaCat3
set_option linter.unusedSimpArgs false
set_option linter.unusedVariables false
namespace Go.Proofs.Ytilkbccpcbelgaa
open Go.RowKit
set_option maxRecDepth 20000 in
set_option maxHeartbeats 6400000 in
theorem walk_FnExactConcatCircuits (w : World) (N : Int) (A : Option Addr) (n c : Nat) (L : List Int) (wN : (Lit.int .i64 N).wf = true) (rd : Rd w A (ints L)) (hl : L.length = n * 4) (hn : n ≤ maxLen) (wl : ∀ x ∈ L, (Lit.int .i64 x).wf = true)
    (N' : Int) (A' : Option Addr) (n' c' : Nat) (L' : List Int) (wN' : (Lit.int .i64 N').wf = true) (rd' : Rd w A' (ints L')) (hl' : L'.length = n' * 4) (hn' : n' ≤ maxLen) (wl' : ∀ x ∈ L', (Lit.int .i64 x).wf = true) :
    Calls Try.prog 3 #[.agg #[.int .i64 N, .slice A n c], .agg #[.int .i64 N', .slice A' n' c']] w fun e w' => e = .returned (.bool true) ∧ Ext w w' := by
  clear wl wN wl' wN'
  have HL := Lib.hid hl
  have HL' := Lib.hid hl'
  clear hl hl'
  unfold maxLen at hn hn'
  by_cases hbig : (1048576 : Int) - n < 0
  · have hz : szL 1048576 n = -1 := by unfold szL; simp [hbig]
    go_enter Try.func3, Try.ntmps3
    go_wp2_with fail
    refine (szCircuit_any _ _ _ _ _ _ hn (by omega) (by omega)).mono ?_
    rintro e w1 ⟨rfl, h1⟩
    go_wp2
    go_ret
    exact ⟨rfl, (by repeat (first | exact Ext.refl _ | assumption | refine Ext.alloc ?_ _ | refine Ext.drew ?_ | refine Ext.drewN ?_ _ | refine Ext.trans ?_ (by assumption)))⟩
  · have hz : szL 1048576 n = 1048576 - n := by unfold szL; simp [hbig]
    have hn2 : n ≤ 1048576 := by omega
    have hnn : ¬ ((1048576 : Int) - n < 0) := by omega
    by_cases hbig' : (1048576 : Int) - n - n' < 0
    · have hz' : szL (1048576 - n) n' = -1 := by unfold szL; simp [hbig']
      go_enter Try.func3, Try.ntmps3
      go_wp2_with fail
      refine (szCircuit_any _ _ _ _ _ _ hn (by omega) (by omega)).mono ?_
      rintro e w1 ⟨rfl, h1⟩
      have x := Blk.to (Blk.new w 24 #[.int .i64 N, .slice A n c]) h1 (by repeat (first | exact Ext.refl _ | assumption | refine Ext.alloc ?_ _ | refine Ext.drew ?_ | refine Ext.drewN ?_ _ | refine Ext.trans ?_ (by assumption)))
      have y := (Blk.new (w.alloc (.cells #[.int .i64 N, .slice A n c] 24)) 24 #[.int .i64 N', .slice A' n' c']).ext h1
      simp only [World.size_alloc] at y
      obtain ⟨xc, xf, xz⟩ := x.all
      obtain ⟨yc, yf, yz⟩ := y.all
      go_wp2_with fail
      refine (szCircuit_any _ _ _ _ _ _ hn' (by omega) (by omega)).mono ?_
      rintro e w2 ⟨rfl, h2⟩
      go_wp2
      go_ret
      exact ⟨rfl, (by repeat (first | exact Ext.refl _ | assumption | refine Ext.alloc ?_ _ | refine Ext.drew ?_ | refine Ext.drewN ?_ _ | refine Ext.trans ?_ (by assumption)))⟩
    · have hz' : szL (1048576 - n) n' = 1048576 - n - n' := by unfold szL; simp [hbig']
      have hn2' : n' ≤ 1048576 := by omega
      obtain ⟨ok, N2, R, r, hR⟩ : ∃ (ok : Bool) (N2 : Int) (R : List Int) (r : Nat), (catOk N N' L L' n n' ∧ ok = true ∧ N2 = N ∧ R = L ++ L' ∧ r = n + n') ∨ (¬ catOk N N' L L' n n' ∧ ok = false ∧ N2 = 0 ∧ R = [] ∧ r = 0) := by
        by_cases h : catOk N N' L L' n n'
        · exact ⟨_, _, _, _, .inl ⟨h, rfl, rfl, rfl, rfl⟩⟩
        · exact ⟨_, _, _, _, .inr ⟨h, rfl, rfl, rfl, rfl⟩⟩
      have HR := Lib.hid hR
      clear hR
      go_enter Try.func3, Try.ntmps3
      go_wp2_with fail
      refine (szCircuit_any _ _ _ _ _ _ hn (by omega) (by omega)).mono ?_
      rintro e w1 ⟨rfl, h1⟩
      have x := Blk.to (Blk.new w 24 #[.int .i64 N, .slice A n c]) h1 (by repeat (first | exact Ext.refl _ | assumption | refine Ext.alloc ?_ _ | refine Ext.drew ?_ | refine Ext.drewN ?_ _ | refine Ext.trans ?_ (by assumption)))
      have y := (Blk.new (w.alloc (.cells #[.int .i64 N, .slice A n c] 24)) 24 #[.int .i64 N', .slice A' n' c']).ext h1
      simp only [World.size_alloc] at y
      obtain ⟨xc, xf, xz⟩ := x.all
      obtain ⟨yc, yf, yz⟩ := y.all
      go_wp2_with fail
      refine (szCircuit_any _ _ _ _ _ _ hn' (by omega) (by omega)).mono ?_
      rintro e w2 ⟨rfl, h2⟩
      clear xc xf xz
      replace x := Blk.to x h2 (by repeat (first | exact Ext.refl _ | assumption | refine Ext.alloc ?_ _ | refine Ext.drew ?_ | refine Ext.drewN ?_ _ | refine Ext.trans ?_ (by assumption)))
      obtain ⟨xc, xf, xz⟩ := x.all
      clear yc yf yz
      replace y := Blk.to y h2 (by repeat (first | exact Ext.refl _ | assumption | refine Ext.alloc ?_ _ | refine Ext.drew ?_ | refine Ext.drewN ?_ _ | refine Ext.trans ?_ (by assumption)))
      obtain ⟨yc, yf, yz⟩ := y.all
      have h02 : Ext w w2 := (by repeat (first | exact Ext.refl _ | assumption | refine Ext.alloc ?_ _ | refine Ext.drew ?_ | refine Ext.drewN ?_ _ | refine Ext.trans ?_ (by assumption)))
      clear h1 h2
      go_upto_region 8 with fail
      have x0 := xc 0
      have x1 := xc 1
      have y0 := yc 0
      have y1 := yc 1
      simp only [List.getElem?_toArray, List.getElem?_cons_zero, List.getElem?_cons_succ] at x0 x1 y0 y1
      clear xc xf xz yc yf yz
      go_cut [6, 7] (fun s6 s7 wx => ∃ b G cG, s6 = .pointer (some ⟨b, 0, none⟩) ∧ s7 = .bool ok ∧ Blk wx b #[.int .i64 N2, .slice G r cG] ∧ Fr wx w2.heap.size wx.heap.size G (ints R) ∧ Ext w2 wx ∧ w2.heap.size ≤ b)
      case first =>
        go_region_held3 (fun w' => w'.cell? ⟨w.heap.size, 0, none⟩ = some (.int .i64 N) ∧ w'.cell? ⟨w.heap.size, 1, none⟩ = some (.slice A n c) ∧ w'.cell? ⟨w.heap.size + 1, 0, none⟩ = some (.int .i64 N') ∧ w'.cell? ⟨w.heap.size + 1, 1, none⟩ = some (.slice A' n' c') ∧ Ext w2 w')
          (first | exact ⟨x0, x1, y0, y1, (Ext.refl w2).drew⟩ | (go_split_ands; exact (fun h => ⟨Ext.cell h x0, Ext.cell h x1, Ext.cell h y0, Ext.cell h y1, h⟩ : Ext w2 _ → _) (by first | assumption | exact Ext.alloc (by assumption) _ | (refine Ext.setCell (Ext.setCell (by assumption) ?_ _) ?_ _ <;> first | exact Nat.le_refl _ | exact hx3.size | exact Nat.le_trans hx3.size hx4.size | exact Nat.le_trans hx3.size (Nat.le_trans hx4.size hx5.size)) | exact Ext.trans (by assumption) hx5 | exact Ext.trans (by assumption) hx4 | exact Ext.trans (by assumption) hx3)))
          (first | (go_at_call_of 15 (Value.agg #[Value.int IntKind.i64 N, Value.slice A n c]); go_split_ands; refine (toCircuit_any N A n c L _ (rd.ext (Ext.trans h02 (by assumption))) HL.out hn2).mono ?_; rintro e w3 ⟨B1, rfl, fB1, hx3⟩) | (go_at_call_of 15 (Value.agg #[Value.int IntKind.i64 N', Value.slice A' n' c']); go_split_ands; refine (toCircuit_any N' A' n' c' L' _ (rd'.ext (Ext.trans h02 (by assumption))) HL'.out hn2').mono ?_; rintro e w4 ⟨B2, rfl, fB2, hx4⟩) | (go_at_call 14; go_split_ands; refine (spec_concat N N' B1 B2 n n' L L' _ (fB1.rd.ext (by first | exact hx4 | exact (Ext.alloc (Ext.refl _) _).trans hx4 | exact hx4.alloc _)) (fB2.rd.ext (by first | exact Ext.refl _ | exact (Ext.refl _).drew | exact (Ext.refl _).alloc _ | exact ((Ext.refl _).drew).alloc _)) HL.out HL'.out hn2 hn2' ok N2 R r HR.out).mono ?_; rintro e w5 ⟨G, cG, rfl, fG, hx5⟩; have he5 := (fun h => Ext.trans h hx5 : Ext w2 _ → Ext w2 w5) (by assumption); (first | (have bk := Ext.blk (hx5) (by first | exact heap_alloc_new w4 (.cells #[.int .i64 0, .slice none 0 0] 28) | exact heap_alloc_new (World.drew w4) (.cells #[.int .i64 0, .slice none 0 0] 28)); obtain ⟨bc, bf, bz⟩ := Blk.all ⟨_, bk⟩; have HB := Lib.hid bk; clear bk) | (have bk := Ext.blk (Ext.trans hx4 hx5) (by first | exact heap_alloc_new w3 (.cells #[.int .i64 0, .slice none 0 0] 28) | exact heap_alloc_new (World.drew w3) (.cells #[.int .i64 0, .slice none 0 0] 28)); obtain ⟨bc, bf, bz⟩ := Blk.all ⟨_, bk⟩; have HB := Lib.hid bk; clear bk) | (have bk := Ext.blk (Ext.trans hx3 (Ext.trans hx4 hx5)) (by first | exact heap_alloc_new w2 (.cells #[.int .i64 0, .slice none 0 0] 28) | exact heap_alloc_new (World.drew w2) (.cells #[.int .i64 0, .slice none 0 0] 28)); obtain ⟨bc, bf, bz⟩ := Blk.all ⟨_, bk⟩; have HB := Lib.hid bk; clear bk) | skip)))
        all_goals (go_wp2_with fail; go_meet)
        · exact ⟨_, G, cG, rfl, rfl, Blk.new _ _ _, (fG.ext ((Ext.refl w5).alloc _)).mono (Nat.le_trans hx3.size hx4.size) (by simp), he5.alloc _, he5.size⟩
        · have q2 : w2.heap.size ≤ w4.heap.size := Nat.le_trans hx3.size hx4.size
          have q5 : w4.heap.size + 1 ≤ (World.alloc w4 (.cells #[.int .i64 0, .slice none 0 0] 28)).heap.size := by rw [World.size_alloc]; exact Nat.le_refl _
          exact ⟨_, G, cG, rfl, rfl, ⟨_, heap_set2 HB.out⟩, by rw [size_set2]; exact (fG.set2 (C := w4.heap.size) q5 _ _).mono (Nat.le_trans q2 (Nat.le_trans (Nat.le_succ _) q5)) (Nat.le_refl _), (he5.setCell (p := ⟨w4.heap.size, 0, none⟩) q2 _).setCell (p := ⟨w4.heap.size, 1, none⟩) q2 _, q2⟩
        · have q2 : w2.heap.size ≤ w3.heap.size := hx3.size
          have q5 : w3.heap.size + 1 ≤ w4.heap.size := by have q : (World.alloc w3 (.cells #[.int .i64 0, .slice none 0 0] 28)).heap.size ≤ w4.heap.size := hx4.size; rwa [World.size_alloc] at q
          exact ⟨_, G, cG, rfl, rfl, ⟨_, heap_set2 HB.out⟩, by rw [size_set2]; exact (fG.set2 (C := w3.heap.size) q5 _ _).mono (Nat.le_trans q2 (Nat.le_trans (Nat.le_succ _) q5)) (Nat.le_refl _), (he5.setCell (p := ⟨w3.heap.size, 0, none⟩) q2 _).setCell (p := ⟨w3.heap.size, 1, none⟩) q2 _, q2⟩
        · have q2 : w2.heap.size ≤ w2.heap.size := Nat.le_refl _
          have q5 : w2.heap.size + 1 ≤ w4.heap.size := by have q : (World.alloc w2 (.cells #[.int .i64 0, .slice none 0 0] 28)).heap.size ≤ w3.heap.size := hx3.size; rw [World.size_alloc] at q; exact Nat.le_trans q hx4.size
          exact ⟨_, G, cG, rfl, rfl, ⟨_, heap_set2 HB.out⟩, by rw [size_set2]; exact (fG.set2 (C := w2.heap.size) q5 _ _).mono (Nat.le_trans q2 (Nat.le_trans (Nat.le_succ _) q5)) (Nat.le_refl _), (he5.setCell (p := ⟨w2.heap.size, 0, none⟩) q2 _).setCell (p := ⟨w2.heap.size, 1, none⟩) q2 _, q2⟩
      case rest =>
        obtain ⟨b, G, cG, rfl, rfl, wb, fG, hx, hbz⟩ := hcut
        have hyz2 : w.heap.size + 1 < w2.heap.size := y.all.2.2
        have hbc : b < wc.heap.size := wb.all.2.2
        replace x := x.ext hx
        replace y := y.ext hx
        obtain ⟨xc, xf, xz⟩ := x.all
        obtain ⟨yc, yf, yz⟩ := y.all
        obtain ⟨wbc, wbf, wbz⟩ := wb.all
        have h0c := h02.trans hx
        have zz2 := h02.size
        have zzc := hx.size
        clear x0 x1 y0 y1 hx
        have HRl : Hid (R.length = r * 4) := by
          show _ = _
          rcases HR.out with ⟨_, _, _, rfl, rfl⟩ | ⟨_, _, _, rfl, rfl⟩
          · have := HL.out; have := HL'.out; simp; omega
          · rfl
        have hr2 : r ≤ 1048576 := by
          rcases HR.out with ⟨_, _, _, _, h⟩ | ⟨_, _, _, _, h⟩ <;> omega
        go_wp2_with fail
        refine (toCircuit_any N A n c L _ (rd.ext h0c) HL.out hn2).mono ?_
        rintro e w3 ⟨D, rfl, fD, h3⟩
        clear xc xf xz
        replace x := Blk.to x h3 (by repeat (first | exact Ext.refl _ | assumption | refine Ext.alloc ?_ _ | refine Ext.drew ?_ | refine Ext.drewN ?_ _ | refine Ext.trans ?_ (by assumption)))
        obtain ⟨xc, xf, xz⟩ := x.all
        clear yc yf yz
        replace y := Blk.to y h3 (by repeat (first | exact Ext.refl _ | assumption | refine Ext.alloc ?_ _ | refine Ext.drew ?_ | refine Ext.drewN ?_ _ | refine Ext.trans ?_ (by assumption)))
        obtain ⟨yc, yf, yz⟩ := y.all
        clear wbc wbf wbz
        replace wb := Blk.to wb h3 (by repeat (first | exact Ext.refl _ | assumption | refine Ext.alloc ?_ _ | refine Ext.drew ?_ | refine Ext.drewN ?_ _ | refine Ext.trans ?_ (by assumption)))
        obtain ⟨wbc, wbf, wbz⟩ := wb.all
        have zz3 := h3.size
        replace fG := fG.ext h3
        replace h0c := h0c.trans h3
        clear h3
        go_wp2_with fail
        refine (toCircuit_any N' A' n' c' L' _ (rd'.ext (h0c.alloc _)) HL'.out hn2').mono ?_
        rintro e w4 ⟨D', rfl, fD', h4⟩
        clear xc xf xz
        replace x := Blk.to x h4 (by repeat (first | exact Ext.refl _ | assumption | refine Ext.alloc ?_ _ | refine Ext.drew ?_ | refine Ext.drewN ?_ _ | refine Ext.trans ?_ (by assumption)))
        obtain ⟨xc, xf, xz⟩ := x.all
        clear yc yf yz
        replace y := Blk.to y h4 (by repeat (first | exact Ext.refl _ | assumption | refine Ext.alloc ?_ _ | refine Ext.drew ?_ | refine Ext.drewN ?_ _ | refine Ext.trans ?_ (by assumption)))
        obtain ⟨yc, yf, yz⟩ := y.all
        clear wbc wbf wbz
        replace wb := Blk.to wb h4 (by repeat (first | exact Ext.refl _ | assumption | refine Ext.alloc ?_ _ | refine Ext.drew ?_ | refine Ext.drewN ?_ _ | refine Ext.trans ?_ (by assumption)))
        obtain ⟨wbc, wbf, wbz⟩ := wb.all
        have z := (Blk.new w3 28 #[.int .i64 N, .slice D n n]).ext h4
        obtain ⟨zc, zf, zz⟩ := z.all
        have zz4 := h4.size
        simp only [World.size_alloc] at fD' zz4
        replace fD := fD.ext (Ext.trans ((Ext.refl w3).alloc _) h4)
        replace fG := fG.ext (Ext.trans ((Ext.refl w3).alloc _) h4)
        replace h0c := (h0c.alloc _).trans h4
        clear h4
        go_wp2_with fail
        refine (impl_concat N N' D D' n n' L L' _ (fD.ext ((Ext.refl _).alloc _)).rd (fD'.ext ((Ext.refl _).alloc _)).rd HL.out HL'.out hn2 hn2' ok N2 R r HR.out).mono ?_
        rintro e w5 ⟨G', cG', rfl, fG', h5⟩
        clear xc xf xz
        replace x := Blk.to x h5 (by repeat (first | exact Ext.refl _ | assumption | refine Ext.alloc ?_ _ | refine Ext.drew ?_ | refine Ext.drewN ?_ _ | refine Ext.trans ?_ (by assumption)))
        obtain ⟨xc, xf, xz⟩ := x.all
        clear yc yf yz
        replace y := Blk.to y h5 (by repeat (first | exact Ext.refl _ | assumption | refine Ext.alloc ?_ _ | refine Ext.drew ?_ | refine Ext.drewN ?_ _ | refine Ext.trans ?_ (by assumption)))
        obtain ⟨yc, yf, yz⟩ := y.all
        clear wbc wbf wbz
        replace wb := Blk.to wb h5 (by repeat (first | exact Ext.refl _ | assumption | refine Ext.alloc ?_ _ | refine Ext.drew ?_ | refine Ext.drewN ?_ _ | refine Ext.trans ?_ (by assumption)))
        obtain ⟨wbc, wbf, wbz⟩ := wb.all
        clear zc zf zz
        replace z := Blk.to z h5 (by repeat (first | exact Ext.refl _ | assumption | refine Ext.alloc ?_ _ | refine Ext.drew ?_ | refine Ext.drewN ?_ _ | refine Ext.trans ?_ (by assumption)))
        obtain ⟨zc, zf, zz⟩ := z.all
        have v := (Blk.new w4 28 #[.int .i64 N', .slice D' n' n']).ext h5
        obtain ⟨vc, vf, vz⟩ := v.all
        have zz5 := h5.size
        simp only [World.size_alloc] at fG' zz5
        replace fD := fD.ext (Ext.trans ((Ext.refl w4).alloc _) h5)
        replace fD' := fD'.ext (Ext.trans ((Ext.refl w4).alloc _) h5)
        replace fG := fG.ext (Ext.trans ((Ext.refl w4).alloc _) h5)
        replace h0c := (h0c.alloc _).trans h5
        clear h5
        go_wp2_with fail
        refine (eqCircuit_any N2 N2 G' G r r cG' cG R R _ (fG'.ext ((Ext.refl _).alloc _)).rd (fG.ext ((Ext.refl _).alloc _)).rd HRl.out HRl.out (by omega) (by omega)).mono ?_
        rintro e w6 ⟨rfl, h6⟩
        clear xc xf xz
        replace x := Blk.to x h6 (by repeat (first | exact Ext.refl _ | assumption | refine Ext.alloc ?_ _ | refine Ext.drew ?_ | refine Ext.drewN ?_ _ | refine Ext.trans ?_ (by assumption)))
        obtain ⟨xc, xf, xz⟩ := x.all
        clear yc yf yz
        replace y := Blk.to y h6 (by repeat (first | exact Ext.refl _ | assumption | refine Ext.alloc ?_ _ | refine Ext.drew ?_ | refine Ext.drewN ?_ _ | refine Ext.trans ?_ (by assumption)))
        obtain ⟨yc, yf, yz⟩ := y.all
        clear wbc wbf wbz
        replace wb := Blk.to wb h6 (by repeat (first | exact Ext.refl _ | assumption | refine Ext.alloc ?_ _ | refine Ext.drew ?_ | refine Ext.drewN ?_ _ | refine Ext.trans ?_ (by assumption)))
        obtain ⟨wbc, wbf, wbz⟩ := wb.all
        clear zc zf zz
        replace z := Blk.to z h6 (by repeat (first | exact Ext.refl _ | assumption | refine Ext.alloc ?_ _ | refine Ext.drew ?_ | refine Ext.drewN ?_ _ | refine Ext.trans ?_ (by assumption)))
        obtain ⟨zc, zf, zz⟩ := z.all
        clear vc vf vz
        replace v := Blk.to v h6 (by repeat (first | exact Ext.refl _ | assumption | refine Ext.alloc ?_ _ | refine Ext.drew ?_ | refine Ext.drewN ?_ _ | refine Ext.trans ?_ (by assumption)))
        obtain ⟨vc, vf, vz⟩ := v.all
        have u := (Blk.new w5 28 #[.int .i64 N2, .slice G' r cG']).ext h6
        obtain ⟨uc, uf, uz⟩ := u.all
        have zz6 := h6.size
        simp only [World.size_alloc] at zz6
        replace fD := fD.ext (Ext.trans ((Ext.refl w5).alloc _) h6)
        replace fD' := fD'.ext (Ext.trans ((Ext.refl w5).alloc _) h6)
        replace fG := fG.ext (Ext.trans ((Ext.refl w5).alloc _) h6)
        replace fG' := fG'.ext (Ext.trans ((Ext.refl w5).alloc _) h6)
        replace h0c := (h0c.alloc _).trans h6
        clear h6
        have p0 := xc 0
        have p1 := xc 1
        have q0 := zc 0
        have q1 := zc 1
        simp only [List.getElem?_toArray, List.getElem?_cons_zero, List.getElem?_cons_succ] at p0 p1 q0 q1
        clear xc xf xz yc yf yz wbc wbf wbz zc zf zz vc vf vz uc uf uz
        go_wp2_with fail
        go_region_held3 (fun w' => w'.cell? ⟨w.heap.size, 0, none⟩ = some (.int .i64 N) ∧ w'.cell? ⟨w.heap.size, 1, none⟩ = some (.slice A n c) ∧ w'.cell? ⟨w3.heap.size, 0, none⟩ = some (.int .i64 N) ∧ w'.cell? ⟨w3.heap.size, 1, none⟩ = some (.slice D n n) ∧ Ext w6 w')
          (first | exact ⟨p0, p1, q0, q1, (Ext.refl w6).drew⟩ | (go_split_ands; exact ⟨Ext.cell hx (by assumption), Ext.cell hx (by assumption), Ext.cell hx (by assumption), Ext.cell hx (by assumption), Ext.trans (by assumption) hx⟩))
          (first | (go_at_call 15; go_split_ands; refine (toCircuit_any N A n c L _ (rd.ext (Ext.trans h0c (by assumption))) HL.out hn2).mono ?_; rintro e w' ⟨E, rfl, fE, hx⟩) | (go_at_call 17; go_split_ands; refine (eqCircuit_any N N D E n n n n L L _ (fD.ext (by assumption)).rd fE.rd HL.out HL.out (by omega) (by omega)).mono ?_; rintro e w7 ⟨rfl, hx⟩))
        go_split_ands
        have e6 : Ext w6 w7 := by assumption
        replace x := x.ext e6
        replace y := y.ext e6
        replace wb := wb.ext e6
        replace z := z.ext e6
        replace v := v.ext e6
        replace u := u.ext e6
        replace fD := fD.ext e6
        replace fD' := fD'.ext e6
        replace fG := fG.ext e6
        replace fG' := fG'.ext e6
        replace h0c := h0c.trans e6
        have zz7 := Ext.size e6
        clear fE hx e6 p0 p1 q0 q1
        obtain ⟨xc, xf, xz⟩ := x.all
        obtain ⟨yc, yf, yz⟩ := y.all
        obtain ⟨wbc, wbf, wbz⟩ := wb.all
        obtain ⟨zc, zf, zz⟩ := z.all
        obtain ⟨vc, vf, vz⟩ := v.all
        obtain ⟨uc, uf, uz⟩ := u.all
        have p0 := yc 0
        have p1 := yc 1
        have q0 := vc 0
        have q1 := vc 1
        simp only [List.getElem?_toArray, List.getElem?_cons_zero, List.getElem?_cons_succ] at p0 p1 q0 q1
        clear xc xf xz yc yf yz wbc wbf wbz zc zf zz vc vf vz uc uf uz
        go_wp2_with fail
        go_region_held3 (fun w' => w'.cell? ⟨w.heap.size + 1, 0, none⟩ = some (.int .i64 N') ∧ w'.cell? ⟨w.heap.size + 1, 1, none⟩ = some (.slice A' n' c') ∧ w'.cell? ⟨w4.heap.size, 0, none⟩ = some (.int .i64 N') ∧ w'.cell? ⟨w4.heap.size, 1, none⟩ = some (.slice D' n' n') ∧ Ext w7 w')
          (first | exact ⟨p0, p1, q0, q1, (Ext.refl w7).drew⟩ | (go_split_ands; exact ⟨Ext.cell hx (by assumption), Ext.cell hx (by assumption), Ext.cell hx (by assumption), Ext.cell hx (by assumption), Ext.trans (by assumption) hx⟩))
          (first | (go_at_call 15; go_split_ands; refine (toCircuit_any N' A' n' c' L' _ (rd'.ext (Ext.trans h0c (by assumption))) HL'.out hn2').mono ?_; rintro e w' ⟨E, rfl, fE, hx⟩) | (go_at_call 17; go_split_ands; refine (eqCircuit_any N' N' D' E n' n' n' n' L' L' _ (fD'.ext (by assumption)).rd fE.rd HL'.out HL'.out (by omega) (by omega)).mono ?_; rintro e w8 ⟨rfl, hx⟩))
        go_split_ands
        have e7 : Ext w7 w8 := by assumption
        replace x := x.ext e7
        replace y := y.ext e7
        replace wb := wb.ext e7
        replace z := z.ext e7
        replace v := v.ext e7
        replace u := u.ext e7
        replace fD := fD.ext e7
        replace fD' := fD'.ext e7
        replace fG := fG.ext e7
        replace fG' := fG'.ext e7
        replace h0c := h0c.trans e7
        have zz8 := Ext.size e7
        clear fE hx e7 p0 p1 q0 q1
        obtain ⟨xc, xf, xz⟩ := x.all
        obtain ⟨yc, yf, yz⟩ := y.all
        obtain ⟨wbc, wbf, wbz⟩ := wb.all
        obtain ⟨zc, zf, zz⟩ := z.all
        obtain ⟨vc, vf, vz⟩ := v.all
        obtain ⟨uc, uf, uz⟩ := u.all
        have hm1 : (0 : Int) ≤ 1 + (n : Int) * 4 := by omega
        go_wp2_with fail
        refine (markCircuit_any N D n n _ _ L 1 _ fD HL.out hn2 (by omega) (by omega)).mono ?_
        rintro e w9 ⟨rfl, _, ch1⟩
        clear xc xf xz yc yf yz wbc wbf wbz zc zf zz vc vf vz uc uf uz
        replace x := x.chg ch1 (.inl (by omega))
        replace y := y.chg ch1 (.inl (by omega))
        replace wb := wb.chg ch1 (.inl (by omega))
        replace z := z.chg ch1 (.inr (by omega))
        replace v := v.chg ch1 (.inr (by omega))
        replace u := u.chg ch1 (.inr (by omega))
        replace fD' := fD'.chg ch1 (.inr (by omega))
        replace fG := fG.chg ch1 (.inl (by omega))
        replace fG' := fG'.chg ch1 (.inr (by omega))
        replace h0c := h0c.chg ch1 (by omega)
        have zz9 := ch1.size
        clear ch1 fD
        obtain ⟨xc, xf, xz⟩ := x.all
        obtain ⟨yc, yf, yz⟩ := y.all
        obtain ⟨wbc, wbf, wbz⟩ := wb.all
        obtain ⟨zc, zf, zz⟩ := z.all
        obtain ⟨vc, vf, vz⟩ := v.all
        obtain ⟨uc, uf, uz⟩ := u.all
        go_wp2_with fail
        refine (markCircuit_any N' D' n' n' _ _ L' _ _ fD' HL'.out hn2' (by omega) (by omega)).mono ?_
        rintro e w10 ⟨rfl, _, ch1⟩
        clear xc xf xz yc yf yz wbc wbf wbz zc zf zz vc vf vz uc uf uz
        replace x := x.chg ch1 (.inl (by omega))
        replace y := y.chg ch1 (.inl (by omega))
        replace wb := wb.chg ch1 (.inl (by omega))
        replace u := u.chg ch1 (.inr (by omega))
        replace fG := fG.chg ch1 (.inl (by omega))
        replace fG' := fG'.chg ch1 (.inr (by omega))
        replace h0c := h0c.chg ch1 (by omega)
        have zz10 := ch1.size
        clear ch1 fD' z v
        obtain ⟨xc, xf, xz⟩ := x.all
        obtain ⟨yc, yf, yz⟩ := y.all
        obtain ⟨wbc, wbf, wbz⟩ := wb.all
        obtain ⟨uc, uf, uz⟩ := u.all
        have hneg : decide ((1 : Int) + (n : Int) * 4 + (n' : Int) * 4 < 0) = false := by simp; omega
        go_wp2_with fail
        refine (eqCircuit_any N2 N2 G' G r r cG' cG R R _ fG'.rd fG.rd HRl.out HRl.out (by omega) (by omega)).mono ?_
        rintro e w11 ⟨rfl, h11⟩
        clear xc xf xz
        replace x := Blk.to x h11 (by repeat (first | exact Ext.refl _ | assumption | refine Ext.alloc ?_ _ | refine Ext.drew ?_ | refine Ext.drewN ?_ _ | refine Ext.trans ?_ (by assumption)))
        obtain ⟨xc, xf, xz⟩ := x.all
        clear yc yf yz
        replace y := Blk.to y h11 (by repeat (first | exact Ext.refl _ | assumption | refine Ext.alloc ?_ _ | refine Ext.drew ?_ | refine Ext.drewN ?_ _ | refine Ext.trans ?_ (by assumption)))
        obtain ⟨yc, yf, yz⟩ := y.all
        clear wbc wbf wbz
        replace wb := Blk.to wb h11 (by repeat (first | exact Ext.refl _ | assumption | refine Ext.alloc ?_ _ | refine Ext.drew ?_ | refine Ext.drewN ?_ _ | refine Ext.trans ?_ (by assumption)))
        obtain ⟨wbc, wbf, wbz⟩ := wb.all
        clear uc uf uz
        replace u := Blk.to u h11 (by repeat (first | exact Ext.refl _ | assumption | refine Ext.alloc ?_ _ | refine Ext.drew ?_ | refine Ext.drewN ?_ _ | refine Ext.trans ?_ (by assumption)))
        obtain ⟨uc, uf, uz⟩ := u.all
        replace fG := fG.ext h11
        replace fG' := fG'.ext h11
        replace h0c := h0c.trans h11
        have zz11 := h11.size
        clear h11
        go_wp2_with fail
        refine (markCircuit_any N2 G' r cG' _ _ R 1 _ fG' HRl.out hr2 (by omega) (by omega)).mono ?_
        rintro e w12 ⟨rfl, fM, ch1⟩
        clear xc xf xz yc yf yz wbc wbf wbz uc uf uz
        replace x := x.chg ch1 (.inl (by omega))
        replace y := y.chg ch1 (.inl (by omega))
        replace wb := wb.chg ch1 (.inl (by omega))
        replace u := u.chg ch1 (.inr (by omega))
        replace fG := fG.chg ch1 (.inl (by omega))
        replace h0c := h0c.chg ch1 (by omega)
        have zz12 := ch1.size
        clear ch1 fG'
        obtain ⟨xc, xf, xz⟩ := x.all
        obtain ⟨yc, yf, yz⟩ := y.all
        obtain ⟨wbc, wbf, wbz⟩ := wb.all
        obtain ⟨uc, uf, uz⟩ := u.all
        have hlt : ¬ (1 + (r : Int) * 4 < 0) := by omega
        have hne : ((1 + (r : Int) * 4) != (1 + (r : Int) * 4)) = false := by simp
        go_wp2_with fail
        refine (heldCircuit_any N2 G' r cG' 1 _ fM.rd hr2 (by omega) (by omega)).mono ?_
        rintro e w13 ⟨rfl, h13⟩
        clear xc xf xz
        replace x := Blk.to x h13 (by repeat (first | exact Ext.refl _ | assumption | refine Ext.alloc ?_ _ | refine Ext.drew ?_ | refine Ext.drewN ?_ _ | refine Ext.trans ?_ (by assumption)))
        obtain ⟨xc, xf, xz⟩ := x.all
        clear yc yf yz
        replace y := Blk.to y h13 (by repeat (first | exact Ext.refl _ | assumption | refine Ext.alloc ?_ _ | refine Ext.drew ?_ | refine Ext.drewN ?_ _ | refine Ext.trans ?_ (by assumption)))
        obtain ⟨yc, yf, yz⟩ := y.all
        clear wbc wbf wbz
        replace wb := Blk.to wb h13 (by repeat (first | exact Ext.refl _ | assumption | refine Ext.alloc ?_ _ | refine Ext.drew ?_ | refine Ext.drewN ?_ _ | refine Ext.trans ?_ (by assumption)))
        obtain ⟨wbc, wbf, wbz⟩ := wb.all
        clear uc uf uz
        replace u := Blk.to u h13 (by repeat (first | exact Ext.refl _ | assumption | refine Ext.alloc ?_ _ | refine Ext.drew ?_ | refine Ext.drewN ?_ _ | refine Ext.trans ?_ (by assumption)))
        obtain ⟨uc, uf, uz⟩ := u.all
        replace fG := fG.ext h13
        replace fM := fM.ext h13
        replace h0c := h0c.trans h13
        have zz13 := h13.size
        clear h13
        go_upto_region 31 with fail
        have x0 := xc 0
        have x1 := xc 1
        have y0 := yc 0
        have y1 := yc 1
        simp only [List.getElem?_toArray, List.getElem?_cons_zero, List.getElem?_cons_succ] at x0 x1 y0 y1
        clear xc xf xz yc yf yz wbc wbf wbz uc uf uz
        go_cut [15, 16] (fun s6 s7 wx => ∃ b G2 cG2, s6 = .pointer (some ⟨b, 0, none⟩) ∧ s7 = .bool ok ∧ Blk wx b #[.int .i64 N2, .slice G2 r cG2] ∧ Fr wx w13.heap.size wx.heap.size G2 (ints R) ∧ Ext w13 wx ∧ w13.heap.size ≤ b)
        case first =>
          go_region_held3 (fun w' => w'.cell? ⟨w.heap.size, 0, none⟩ = some (.int .i64 N) ∧ w'.cell? ⟨w.heap.size, 1, none⟩ = some (.slice A n c) ∧ w'.cell? ⟨w.heap.size + 1, 0, none⟩ = some (.int .i64 N') ∧ w'.cell? ⟨w.heap.size + 1, 1, none⟩ = some (.slice A' n' c') ∧ Ext w13 w')
            (first | exact ⟨x0, x1, y0, y1, (Ext.refl w13).drew⟩ | (go_split_ands; exact (fun h => ⟨Ext.cell h x0, Ext.cell h x1, Ext.cell h y0, Ext.cell h y1, h⟩ : Ext w13 _ → _) (by first | assumption | exact Ext.alloc (by assumption) _ | (refine Ext.setCell (Ext.setCell (by assumption) ?_ _) ?_ _ <;> first | exact Nat.le_refl _ | exact hx3.size | exact Nat.le_trans hx3.size hx4.size | exact Nat.le_trans hx3.size (Nat.le_trans hx4.size hx5.size)) | exact Ext.trans (by assumption) hx5 | exact Ext.trans (by assumption) hx4 | exact Ext.trans (by assumption) hx3)))
            (first | (go_at_call_of 15 (Value.agg #[Value.int IntKind.i64 N, Value.slice A n c]); go_split_ands; refine (toCircuit_any N A n c L _ (rd.ext (Ext.trans h0c (by assumption))) HL.out hn2).mono ?_; rintro e w14 ⟨B1, rfl, fB1, hx3⟩) | (go_at_call_of 15 (Value.agg #[Value.int IntKind.i64 N', Value.slice A' n' c']); go_split_ands; refine (toCircuit_any N' A' n' c' L' _ (rd'.ext (Ext.trans h0c (by assumption))) HL'.out hn2').mono ?_; rintro e w15 ⟨B2, rfl, fB2, hx4⟩) | (go_at_call 16; go_split_ands; refine (impl_concat N N' B1 B2 n n' L L' _ (fB1.rd.ext (by first | exact hx4 | exact (Ext.alloc (Ext.refl _) _).trans hx4 | exact hx4.alloc _)) (fB2.rd.ext (by first | exact Ext.refl _ | exact (Ext.refl _).drew | exact (Ext.refl _).alloc _ | exact ((Ext.refl _).drew).alloc _)) HL.out HL'.out hn2 hn2' ok N2 R r HR.out).mono ?_; rintro e w16 ⟨G2, cG2, rfl, fG2, hx5⟩; have he5 := (fun h => Ext.trans h hx5 : Ext w13 _ → Ext w13 w16) (by assumption); (first | (have bk := Ext.blk (hx5) (by first | exact heap_alloc_new w15 (.cells #[.int .i64 0, .slice none 0 0] 28) | exact heap_alloc_new (World.drew w15) (.cells #[.int .i64 0, .slice none 0 0] 28)); obtain ⟨bc, bf, bz⟩ := Blk.all ⟨_, bk⟩; have HB := Lib.hid bk; clear bk) | (have bk := Ext.blk (Ext.trans hx4 hx5) (by first | exact heap_alloc_new w14 (.cells #[.int .i64 0, .slice none 0 0] 28) | exact heap_alloc_new (World.drew w14) (.cells #[.int .i64 0, .slice none 0 0] 28)); obtain ⟨bc, bf, bz⟩ := Blk.all ⟨_, bk⟩; have HB := Lib.hid bk; clear bk) | (have bk := Ext.blk (Ext.trans hx3 (Ext.trans hx4 hx5)) (by first | exact heap_alloc_new w13 (.cells #[.int .i64 0, .slice none 0 0] 28) | exact heap_alloc_new (World.drew w13) (.cells #[.int .i64 0, .slice none 0 0] 28)); obtain ⟨bc, bf, bz⟩ := Blk.all ⟨_, bk⟩; have HB := Lib.hid bk; clear bk) | skip)))
          all_goals (go_wp2_with fail; go_meet)
          · exact ⟨_, G2, cG2, rfl, rfl, Blk.new _ _ _, (fG2.ext ((Ext.refl w16).alloc _)).mono (Nat.le_trans hx3.size hx4.size) (by simp), he5.alloc _, he5.size⟩
          · have q2 : w13.heap.size ≤ w15.heap.size := Nat.le_trans hx3.size hx4.size
            have q5 : w15.heap.size + 1 ≤ (World.alloc w15 (.cells #[.int .i64 0, .slice none 0 0] 28)).heap.size := by rw [World.size_alloc]; exact Nat.le_refl _
            exact ⟨_, G2, cG2, rfl, rfl, ⟨_, heap_set2 HB.out⟩, by rw [size_set2]; exact (fG2.set2 (C := w15.heap.size) q5 _ _).mono (Nat.le_trans q2 (Nat.le_trans (Nat.le_succ _) q5)) (Nat.le_refl _), (he5.setCell (p := ⟨w15.heap.size, 0, none⟩) q2 _).setCell (p := ⟨w15.heap.size, 1, none⟩) q2 _, q2⟩
          · have q2 : w13.heap.size ≤ w14.heap.size := hx3.size
            have q5 : w14.heap.size + 1 ≤ w15.heap.size := by have q : (World.alloc w14 (.cells #[.int .i64 0, .slice none 0 0] 28)).heap.size ≤ w15.heap.size := hx4.size; rwa [World.size_alloc] at q
            exact ⟨_, G2, cG2, rfl, rfl, ⟨_, heap_set2 HB.out⟩, by rw [size_set2]; exact (fG2.set2 (C := w14.heap.size) q5 _ _).mono (Nat.le_trans q2 (Nat.le_trans (Nat.le_succ _) q5)) (Nat.le_refl _), (he5.setCell (p := ⟨w14.heap.size, 0, none⟩) q2 _).setCell (p := ⟨w14.heap.size, 1, none⟩) q2 _, q2⟩
          · have q2 : w13.heap.size ≤ w13.heap.size := Nat.le_refl _
            have q5 : w13.heap.size + 1 ≤ w15.heap.size := by have q : (World.alloc w13 (.cells #[.int .i64 0, .slice none 0 0] 28)).heap.size ≤ w14.heap.size := hx3.size; rw [World.size_alloc] at q; exact Nat.le_trans q hx4.size
            exact ⟨_, G2, cG2, rfl, rfl, ⟨_, heap_set2 HB.out⟩, by rw [size_set2]; exact (fG2.set2 (C := w13.heap.size) q5 _ _).mono (Nat.le_trans q2 (Nat.le_trans (Nat.le_succ _) q5)) (Nat.le_refl _), (he5.setCell (p := ⟨w13.heap.size, 0, none⟩) q2 _).setCell (p := ⟨w13.heap.size, 1, none⟩) q2 _, q2⟩
        case rest =>
          obtain ⟨b2, G2, cG2, rfl, rfl, hb2, fG2, hx, _⟩ := hcut
          replace wb := wb.ext hx
          replace u := u.ext hx
          obtain ⟨wbc, wbf, wbz⟩ := wb.all
          obtain ⟨uc, uf, uz⟩ := u.all
          obtain ⟨hb2c, hb2f, hb2z⟩ := hb2.all
          replace fG := fG.ext hx
          replace fM := fM.ext hx
          replace h0c := h0c.trans hx
          clear hx x0 x1 y0 y1
          go_wp2_with fail
          refine (eqCircuit_any N2 N2 G2 G r r cG2 cG R R _ fG2.rd fG.rd HRl.out HRl.out (by omega) (by omega)).mono ?_
          rintro e w17 ⟨rfl, h17⟩
          clear wbc wbf wbz
          replace wb := Blk.to wb h17 (by repeat (first | exact Ext.refl _ | assumption | refine Ext.alloc ?_ _ | refine Ext.drew ?_ | refine Ext.drewN ?_ _ | refine Ext.trans ?_ (by assumption)))
          obtain ⟨wbc, wbf, wbz⟩ := wb.all
          clear uc uf uz
          replace u := Blk.to u h17 (by repeat (first | exact Ext.refl _ | assumption | refine Ext.alloc ?_ _ | refine Ext.drew ?_ | refine Ext.drewN ?_ _ | refine Ext.trans ?_ (by assumption)))
          obtain ⟨uc, uf, uz⟩ := u.all
          clear hb2c hb2f hb2z
          replace hb2 := Blk.to hb2 h17 (by repeat (first | exact Ext.refl _ | assumption | refine Ext.alloc ?_ _ | refine Ext.drew ?_ | refine Ext.drewN ?_ _ | refine Ext.trans ?_ (by assumption)))
          obtain ⟨hb2c, hb2f, hb2z⟩ := hb2.all
          go_wp2_with fail
          refine (heldCircuit_any N2 G' r cG' 1 _ (fM.ext h17).rd hr2 (by omega) (by omega)).mono ?_
          rintro e w18 ⟨rfl, h18⟩
          go_wp2
          go_ret
          exact ⟨rfl, h0c.trans (h17.trans h18)⟩
end Go.Proofs.Ytilkbccpcbelgaa
