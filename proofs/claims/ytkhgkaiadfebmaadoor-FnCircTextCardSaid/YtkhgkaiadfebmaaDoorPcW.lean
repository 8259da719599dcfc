/-
  Contracts of ParseCircuit. Conditions: a text of at most 2^20 bytes; the library's variables read as their initialisers lay them.
-/
import Derived.Test.YtkhgkaiadfebmaaDoorPcA
set_option linter.unusedSimpArgs false
set_option linter.unusedVariables false
namespace Go.Proofs.YtkhgkaiadfebmaaDoor
open Go.RowKit
set_option maxRecDepth 20000 in
set_option maxHeartbeats 6400000 in
theorem spec_pc (K A B C : ByteArray → Int) (O : ByteArray → Bool) (s : ByteArray) (N : Int) (L : List Int) (n : Nat) (ok : Bool) (v : Int) (o : Bool) (hl m : Nat) (T U : Nat → ByteArray) (G : Nat → List Int) (S : PcS K A B C O s N L n ok v o hl m T U G) (w : World) (hs : s.size ≤ 1048576) (hO : LibOk w) :
    Calls Tryd.prog 10 #[.string s] w (RetC w N n L ok) := by
  have HSP := Lib.hid (fun W => spec_splitL 10 10 rfl s m T S.wl S.m1 S.at_ W (by omega))
  have HHD := Lib.hid (fun W => spec_splitL 32 32 rfl (T 0) hl U S.hw S.h1 S.u_ W (by have := S.tz 0; omega))
  have HNM := Lib.hid (fun W => spec_parseNumber (U (hl - 1)) v o S.num W (by have := S.uz (hl - 1); omega))
  have HPG := Lib.hid (fun j W (h : LibOk W) => spec_parseGate (T j) (K (T j)) (A (T j)) (B (T j)) (C (T j)) (O (T j)) (S.pg (T j)) W (by have := S.tz j; omega) h)
  have HO := Lib.hid hO
  have HS := Lib.hid S
  have hm1 := S.m1
  have hmz := S.mz
  have hh1 := S.h1
  have hhz := S.hz
  clear S hO
  obtain ⟨i0, hi, hz0, hz1, hz2⟩ := info_parts info_gate2
  have hmI : (0 : Int) < (m : Int) := by omega
  go_enter Tryd.func10, Tryd.ntmps10
  go_wp2_with fail
  refine (HSP.out _).mono ?_
  rintro e w1 ⟨gT, cT, rfl, lT, h1⟩
  have rr := (Blk.new w 30 #[.int .i64 0, .slice none 0 0]).ext h1
  have h01 : Ext w w1 := Ext.trans (by repeat (first | exact Ext.refl _ | assumption | refine Ext.alloc ?_ _ | refine Ext.drew ?_ | refine Ext.drewN ?_ _ | refine Ext.trans ?_ (by assumption))) h1
  have q0 := lT.cell (j := 0) (by omega)
  clear h1
  go_wp2_with fail
  refine (HHD.out _).mono ?_
  rintro e W2 ⟨gU, cU, rfl, lU, h2⟩
  replace rr := rr.ext h2
  replace lT := lT.ext h2
  have hwW := h01.trans h2
  clear h01 h2 q0
  obtain ⟨u9, hu9⟩ : ∃ u, u = U (hl - 1) := ⟨_, rfl⟩
  have qh := lU.cell (j := hl - 1) (by omega)
  rw [← hu9] at HNM qh
  clear hu9
  have hw64 : wrap64 ((hl : Int) - 1) = (hl : Int) - 1 := IntWalk.wrap64_in _ (by omega)
  have hkI : (hl : Int) - 1 < (hl : Int) := by omega
  have hkI0 : (0 : Int) ≤ (hl : Int) - 1 := by omega
  have zU := lt_of_cell qh
  simp only at zU
  have qh2 := fun o => Ext.cell ((Ext.refl W2).alloc o) qh
  go_wp2_with fail
  refine (HNM.out _).mono ?_
  rintro e w5 ⟨rfl, h5⟩
  have bC := Ext.blk h5 (heap_alloc_new W2 (.cells #[.int .i64 0, .slice none 0 0] 30))
  have rrW := rr
  replace rr := rr.ext (Ext.trans ((Ext.refl W2).alloc _) h5)
  have e5 : Ext W2 w5 := Ext.trans ((Ext.refl W2).alloc _) h5
  clear h5 qh qh2 zU hkI hkI0 hw64
  obtain ⟨bc, bf, bz⟩ := Blk.all ⟨_, bC⟩
  go_wp2
  go_loopw [7, 8, 9] (fun i _ _ wr => ∃ (q : Nat) (x : Value), q + 1 ≤ m ∧ q ≤ 61 ∧ i = .int .i64 (q + 1) ∧ wr.heap[W2.heap.size]? = some (.cells #[.int .i64 v, x] 30 (0, 0)) ∧ wr.ownsRow W2.heap.size 23 4 x q (ints (G q)) ∧ Ext W2 wr) (fun i _ _ _ => m - (intOf i).toNat)
  case atStart => exact ⟨0, _, by omega, by omega, rfl, heap_set0' bC, by rw [HS.out.g0]; exact World.ownsRow_nil _ _ _ _, e5.setCell (Nat.le_refl _) _⟩
  case round =>
    clear bC bc bf bz
    obtain ⟨q, x, hq, hq61, rfl, bC, own, he⟩ := hrel
    have hwr := hwW.trans he
    by_cases hin : q + 1 < m ∧ q + 1 ≤ 61
    · obtain ⟨hqm, hq60⟩ := hin
      have hqI : (q : Int) + 1 < (m : Int) := by omega
      have hqI2 : (q : Int) + 1 ≤ 61 := by omega
      have c0 := (lT.ext he).cell hqm
      have HGS := Lib.hid (HS.out.gS q hqm)
      have HG := Lib.hid (HPG.out (q + 1))
      generalize K (T (q + 1)) = k0 at *
      generalize A (T (q + 1)) = k1 at *
      generalize B (T (q + 1)) = k2 at *
      generalize C (T (q + 1)) = k3 at *
      generalize O (T (q + 1)) = ob at *
      generalize T (q + 1) = t at *
      have cv := (Blk.all ⟨_, bC⟩).1 1
      have zC := lt_of_blk bC
      simp only [List.getElem?_toArray, List.getElem?_cons_zero, List.getElem?_cons_succ] at cv
      have HC := Lib.hid bC
      have HOW := Lib.hid own
      clear bC own
      go_wp2_with fail
      refine (HG.out _ (HO.out.ext hwr)).mono ?_
      rintro e w8 ⟨rfl, h8⟩
      clear c0
      replace cv := Ext.cell h8 cv
      have cv2 := fun o => Ext.cell ((Ext.refl w8).alloc o) cv
      have e8 := he.trans h8
      have zC8 := lt_of_cell cv
      simp only at zC8
      have zz8 := h8.size
      have HC8 := Lib.hid (Ext.blk h8 HC.out)
      have HO8 := Lib.hid (own_ext2 HOW.out h8)
      clear h8
      go_wp2_with (at_builtin; refine app_gateL (w8.alloc (.cells #[.int .i64 k0, .int .i64 k1, .int .i64 k2, .int .i64 k3] 23)) k0 k1 k2 k3 (HO8.out.alloc _) (by simp; omega) hi hz0 hz1 hz2 (by rfl) (by rfl) (by rfl) (World.size_alloc _ _) (by rfl) (by unfold maxLen; omega) (by omega) ?_)
      intro G4 cG w4 own4 he4 hk4
      have e4 := he4 _ (e8.alloc _) (Nat.le_refl _)
      have HC4 := Lib.hid (hk4 _ _ _ (Ext.blk ((Ext.refl w8).alloc _) HC8.out) (by decide))
      have HO4 := Lib.hid own4
      obtain ⟨bc, bf, bz⟩ := Blk.all ⟨_, HC4.out⟩
      clear own4 he4 hk4 cv cv2 hi hz0 hz1 hz2
      go_wp2
      go_roundw
      case rel => exact ⟨q + 1, _, by omega, by omega, by go_num, heap_set1' HC4.out, own_set1 (by rw [HGS.out, ints_app]; exact HO4.out) HC4.out (by decide) 1 _, e4.setCell (Nat.le_refl _) _⟩
      case measure => simp [intOf]; omega
    · obtain ⟨Ga, cap, rfl⟩ := own_form own
      have HGL := HS.out.gL q (by omega)
      have HMF := Lib.hid (HS.out.mFmt q (by omega))
      have HMN := Lib.hid HS.out.mNil
      have HH := Lib.hid (HS.out.hit q (by omega))
      have HFR := Lib.hid (Fr.of_own own)
      have HF := Lib.hid (fun W (h : Ext wr W) => spec_fmtCirc v Ga q cap (G q) W (HFR.out.ext h).rd HGL (by omega) (HO.out.ext (hwr.trans h)).names)
      have HC := Lib.hid bC
      have rrr := rrW.ext he
      have hzC : w.heap.size + 1 ≤ W2.heap.size := rrW.all.2.2
      have zC := lt_of_blk bC
      obtain ⟨bc, bf, bz⟩ := Blk.all ⟨_, bC⟩
      obtain ⟨rc, rf, rz⟩ := rrr.all
      clear own bC HGL hi hz0 hz1 hz2
      by_cases hlt : q + 1 < m
      · have hy : (q : Int) + 1 < m := (by omega); have hn : ¬ (q : Int) + 1 ≤ 61 := by omega
        by_cases hse : s = ⟨#[]⟩
        · have HZ := Lib.hid (HMN.out hse)
          subst hse
          go_wp2
          refine bodyPost_ret (v := .tuple #[.agg #[.int .i64 0, .slice none 0 0], .bool false]) (by simp [results, Tryd.results10, go_sem, rc, rz]; done) rfl (RetC.zero HZ.out ?_)
          exact (by repeat (first | (with_reducible assumption) | (with_reducible exact Ext.refl _) | ((with_reducible refine Ext.setCell ?_ ?_ _); rotate_left; (first | exact Nat.le_refl _ | exact Nat.le_succ _ | (simp; done) | (simp; omega))) | (with_reducible refine Ext.alloc ?_ _) | (with_reducible refine Ext.drew ?_) | (with_reducible refine Ext.drewN ?_ _)))
        · have hie := emp_ne hse
          by_cases hf : fmtC v (G q) q = s
          · have HZ := Lib.hid (HH.out hse hf)
            rw [hf] at HF
            clear hse hf
            go_wp2_with fail
            refine (HF.out _ (Ext.refl _)).mono ?_
            rintro e w9 ⟨rfl, h9⟩
            clear bc bf bz rc rf rz
            obtain ⟨bc, bf, bz⟩ := Blk.all ⟨_, Ext.blk h9 HC.out⟩
            replace rrr := rrr.ext h9
            obtain ⟨rc, rf, rz⟩ := rrr.all
            have hw9 := hwr.trans h9
            have HF9 := Lib.hid (HFR.out.ext h9)
            have zz9 := h9.size
            clear h9
            go_wp2
            refine bodyPost_ret (v := .tuple #[.agg #[.int .i64 v, .slice Ga q cap], .bool true]) (by simp [results, Tryd.results10, go_sem, rc, rz, bc]; done) rfl (RetC.hit HZ.out ?_ (by repeat (first | (with_reducible assumption) | (with_reducible exact Ext.refl _) | ((with_reducible refine Ext.setCell ?_ ?_ _); rotate_left; (first | exact Nat.le_refl _ | exact Nat.le_succ _ | (simp; done) | (simp; omega))) | (with_reducible refine Ext.alloc ?_ _) | (with_reducible refine Ext.drew ?_) | (with_reducible refine Ext.drewN ?_ _))))
            rw [size_set2]
            exact (HF9.out.set2 (C := w.heap.size) hzC _ _).mono (by omega) zz9
          · have HZ := Lib.hid (HMF.out hf)
            have hft := toList_ne hf
            generalize fmtC v (G q) q = tt at *
            clear hse hf
            go_wp2_with fail
            refine (HF.out _ (Ext.refl _)).mono ?_
            rintro e w9 ⟨rfl, h9⟩
            clear bc bf bz rc rf rz
            replace rrr := rrr.ext h9
            obtain ⟨rc, rf, rz⟩ := rrr.all
            have hw9 := hwr.trans h9
            clear h9
            go_wp2
            refine bodyPost_ret (v := .tuple #[.agg #[.int .i64 0, .slice none 0 0], .bool false]) (by simp [results, Tryd.results10, go_sem, rc, rz]; done) rfl (RetC.zero HZ.out (by repeat (first | (with_reducible assumption) | (with_reducible exact Ext.refl _) | ((with_reducible refine Ext.setCell ?_ ?_ _); rotate_left; (first | exact Nat.le_refl _ | exact Nat.le_succ _ | (simp; done) | (simp; omega))) | (with_reducible refine Ext.alloc ?_ _) | (with_reducible refine Ext.drew ?_) | (with_reducible refine Ext.drewN ?_ _))))
      · have hn : ¬ (q : Int) + 1 < m := by omega
        by_cases hse : s = ⟨#[]⟩
        · have HZ := Lib.hid (HMN.out hse)
          subst hse
          go_wp2
          refine bodyPost_ret (v := .tuple #[.agg #[.int .i64 0, .slice none 0 0], .bool false]) (by simp [results, Tryd.results10, go_sem, rc, rz]; done) rfl (RetC.zero HZ.out ?_)
          exact (by repeat (first | (with_reducible assumption) | (with_reducible exact Ext.refl _) | ((with_reducible refine Ext.setCell ?_ ?_ _); rotate_left; (first | exact Nat.le_refl _ | exact Nat.le_succ _ | (simp; done) | (simp; omega))) | (with_reducible refine Ext.alloc ?_ _) | (with_reducible refine Ext.drew ?_) | (with_reducible refine Ext.drewN ?_ _)))
        · have hie := emp_ne hse
          by_cases hf : fmtC v (G q) q = s
          · have HZ := Lib.hid (HH.out hse hf)
            rw [hf] at HF
            clear hse hf
            go_wp2_with fail
            refine (HF.out _ (Ext.refl _)).mono ?_
            rintro e w9 ⟨rfl, h9⟩
            clear bc bf bz rc rf rz
            obtain ⟨bc, bf, bz⟩ := Blk.all ⟨_, Ext.blk h9 HC.out⟩
            replace rrr := rrr.ext h9
            obtain ⟨rc, rf, rz⟩ := rrr.all
            have hw9 := hwr.trans h9
            have HF9 := Lib.hid (HFR.out.ext h9)
            have zz9 := h9.size
            clear h9
            go_wp2
            refine bodyPost_ret (v := .tuple #[.agg #[.int .i64 v, .slice Ga q cap], .bool true]) (by simp [results, Tryd.results10, go_sem, rc, rz, bc]; done) rfl (RetC.hit HZ.out ?_ (by repeat (first | (with_reducible assumption) | (with_reducible exact Ext.refl _) | ((with_reducible refine Ext.setCell ?_ ?_ _); rotate_left; (first | exact Nat.le_refl _ | exact Nat.le_succ _ | (simp; done) | (simp; omega))) | (with_reducible refine Ext.alloc ?_ _) | (with_reducible refine Ext.drew ?_) | (with_reducible refine Ext.drewN ?_ _))))
            rw [size_set2]
            exact (HF9.out.set2 (C := w.heap.size) hzC _ _).mono (by omega) zz9
          · have HZ := Lib.hid (HMF.out hf)
            have hft := toList_ne hf
            generalize fmtC v (G q) q = tt at *
            clear hse hf
            go_wp2_with fail
            refine (HF.out _ (Ext.refl _)).mono ?_
            rintro e w9 ⟨rfl, h9⟩
            clear bc bf bz rc rf rz
            replace rrr := rrr.ext h9
            obtain ⟨rc, rf, rz⟩ := rrr.all
            have hw9 := hwr.trans h9
            clear h9
            go_wp2
            refine bodyPost_ret (v := .tuple #[.agg #[.int .i64 0, .slice none 0 0], .bool false]) (by simp [results, Tryd.results10, go_sem, rc, rz]; done) rfl (RetC.zero HZ.out (by repeat (first | (with_reducible assumption) | (with_reducible exact Ext.refl _) | ((with_reducible refine Ext.setCell ?_ ?_ _); rotate_left; (first | exact Nat.le_refl _ | exact Nat.le_succ _ | (simp; done) | (simp; omega))) | (with_reducible refine Ext.alloc ?_ _) | (with_reducible refine Ext.drew ?_) | (with_reducible refine Ext.drewN ?_ _))))
set_option maxRecDepth 20000 in
set_option maxHeartbeats 6400000 in
theorem impl_pc (K A B C : ByteArray → Int) (O : ByteArray → Bool) (s : ByteArray) (N : Int) (L : List Int) (n : Nat) (ok : Bool) (v : Int) (o : Bool) (hl m : Nat) (T U : Nat → ByteArray) (G : Nat → List Int) (S : PcS K A B C O s N L n ok v o hl m T U G) (w : World) (hs : s.size ≤ 1048576) (hO : LibOk w) :
    Calls Tryd.prog 11 #[.string s] w (RetC w N n L ok) := by
  have HSP := Lib.hid (fun W h => impl_splitL 10 10 rfl s m T S.wl S.at_ W (by omega) h)
  have HHD := Lib.hid (fun W h => impl_splitL 32 32 rfl (T 0) hl U S.hw S.u_ W (by have := S.tz 0; omega) h)
  have HNM := Lib.hid (fun W h => impl_parseNumber (U (hl - 1)) v o S.num W (by have := S.uz (hl - 1); omega) h)
  have HPG := Lib.hid (fun j W (h : LibOk W) => impl_parseGate (T j) (K (T j)) (A (T j)) (B (T j)) (C (T j)) (O (T j)) (S.pg (T j)) W (by have := S.tz j; omega) h)
  have HO := Lib.hid hO
  have HS := Lib.hid S
  have hm1 := S.m1
  have hmz := S.mz
  have hh1 := S.h1
  have hhz := S.hz
  clear S hO
  obtain ⟨i0, hi, hz0, hz1, hz2⟩ := info_parts info_gate2
  obtain ⟨W2, hW2⟩ : ∃ W2, W2 = w.alloc (.cells #[.int .i64 0, .slice none 0 0] 30) := ⟨_, rfl⟩
  have rrW : Blk W2 w.heap.size #[.int .i64 0, .slice none 0 0] := by rw [hW2]; exact Blk.new _ _ _
  have HSZ : Hid (W2.heap.size = w.heap.size + 1) := by show _ = _; rw [hW2]; simp
  have hwW : Ext w W2 := by rw [hW2]; exact (by repeat (first | exact Ext.refl _ | assumption | refine Ext.alloc ?_ _ | refine Ext.drew ?_ | refine Ext.drewN ?_ _ | refine Ext.trans ?_ (by assumption)))
  have HW := Lib.hid hW2
  clear hW2
  have bC0 := heap_alloc_new W2 (.cells #[.int .i64 0, .slice none 0 0] 30)
  go_enter Tryd.func11, Tryd.ntmps11
  go_wp2_with fail
  rw [← HW.out, ← HSZ.out]
  refine (HSP.out _ (HO.out.ext (hwW.alloc _))).mono ?_
  rintro e w1 ⟨gT, rfl, lT0, h1⟩
  have bC1 := Ext.blk h1 bC0
  have e1 : Ext W2 w1 := Ext.trans ((Ext.refl W2).alloc _) h1
  have LT0 := Lib.hid lT0
  clear h1 bC0 lT0
  go_wp2
  go_loopw [5, 6, 7, 8, 9, 14] (fun _ _ _ _ _ i wr => ∃ (j q : Nat) (x : Value) (y : Int), j ≤ m ∧ i = .int .i64 j ∧ ((j = 0 ∧ q = 0 ∧ y = 0) ∨ (j = q + 1 ∧ y = v ∧ hl = 2)) ∧ LB wr gT m T ∧ wr.heap[W2.heap.size]? = some (.cells #[.int .i64 y, x] 30 (0, 0)) ∧ wr.ownsRow W2.heap.size 23 4 x q (ints (G q)) ∧ Ext W2 wr) (fun _ _ _ _ _ i _ => m - (intOf i).toNat)
  case atStart => exact ⟨0, 0, _, 0, by omega, rfl, .inl ⟨rfl, rfl, rfl⟩, LT0.out, bC1, by rw [HS.out.g0]; exact World.ownsRow_nil _ _ _ _, e1⟩
  case round =>
    clear bC1 e1
    obtain ⟨j, q, x, y, hj, rfl, hjq, lT, bC, own, he⟩ := hrel
    have hwr := hwW.trans he
    have rrr := rrW.ext he
    have zC := lt_of_blk bC
    have hzC : w.heap.size + 1 ≤ W2.heap.size := rrW.all.2.2
    by_cases hjm : j < m
    · have c0 := lT.cell hjm
      have LTT := Lib.hid lT
      have HC := Lib.hid bC
      have HOW := Lib.hid own
      clear lT own
      rcases hjq with ⟨rfl, rfl, rfl⟩ | ⟨rfl, rfl, hl2⟩
      · obtain ⟨bc, bf, bz⟩ := Blk.all ⟨_, bC⟩
        clear bC
        have hmI : (0 : Int) < (m : Int) := by omega
        go_wp2_with fail
        refine (HHD.out _ (HO.out.ext hwr)).mono ?_
        rintro e w6 ⟨gU, rfl, lU, h6⟩
        clear c0 bc bf bz
        have HC6 := Lib.hid (Ext.blk h6 HC.out)
        have HO6 := Lib.hid (own_ext2 HOW.out h6)
        have LT6 := Lib.hid (LTT.out.ext h6)
        replace rrr := rrr.ext h6
        have hw6 := hwr.trans h6
        have he6 := he.trans h6
        clear h6 he hwr
        by_cases hl2 : hl = 2
        · subst hl2
          obtain ⟨u0, hu0⟩ : ∃ u, u = U 0 := ⟨_, rfl⟩
          obtain ⟨u1, hu1⟩ : ∃ u, u = U 1 := ⟨_, rfl⟩
          have d0 := lU.cell (j := 0) (by omega)
          have d1 := lU.cell (j := 1) (by omega)
          rw [← hu0] at d0
          rw [← hu1] at d1
          have HU0 := Lib.hid hu0
          simp only [show 2 - 1 = 1 from rfl] at HNM
          rw [← hu1] at HNM
          clear hu0 hu1 lU
          by_cases hq : u0 = quB
          · have hft : (u0.toList == [113, 117, 98, 105, 116, 115]) = true := by rw [hq, quB_list]; rfl
            clear hq
            go_wp2_with fail
            refine (HNM.out _ (HO.out.ext hw6)).mono ?_
            rintro e w7 ⟨rfl, h7⟩
            clear d0 d1
            have HC7 := Lib.hid (Ext.blk h7 HC6.out)
            have HO7 := Lib.hid (own_ext2 HO6.out h7)
            have LT7 := Lib.hid (LT6.out.ext h7)
            have he7 := he6.trans h7
            clear h7 he6
            obtain ⟨bc, bf, bz⟩ := Blk.all ⟨_, HC7.out⟩
            go_wp2
            go_roundw
            case rel => exact ⟨1, 0, _, v, by omega, by go_num, .inr ⟨rfl, rfl, by first | rfl | trivial | assumption⟩, LT7.out.set HC7.out 0 _, heap_set0' HC7.out, own_set1 HO7.out HC7.out (by decide) 0 _, he7.setCell (Nat.le_refl _) _⟩
            case measure => simp [intOf]; omega
          · have HZ := Lib.hid (HS.out.mHead (.inr (by rw [← HU0.out]; exact hq)))
            have hft := toList_ne hq
            rw [quB_list] at hft
            clear hq
            obtain ⟨rc, rf, rz⟩ := rrr.all
            go_wp2
            refine bodyPost_ret (v := .tuple #[.agg #[.int .i64 0, .slice none 0 0], .bool false]) (by simp [results, Tryd.results11, go_sem, rc, rz]; done) rfl (RetC.zero HZ.out (by repeat (first | (with_reducible assumption) | (with_reducible exact Ext.refl _) | ((with_reducible refine Ext.setCell ?_ ?_ _); rotate_left; (first | exact Nat.le_refl _ | exact Nat.le_succ _ | (simp; done) | (simp; omega))) | (with_reducible refine Ext.alloc ?_ _) | (with_reducible refine Ext.drew ?_) | (with_reducible refine Ext.drewN ?_ _))))
        · have HZ := Lib.hid (HS.out.mHead (.inl hl2))
          have hlb : ((hl : Int) != 2) = true := by simp; omega
          obtain ⟨rc, rf, rz⟩ := rrr.all
          go_wp2
          refine bodyPost_ret (v := .tuple #[.agg #[.int .i64 0, .slice none 0 0], .bool false]) (by simp [results, Tryd.results11, go_sem, rc, rz]; done) rfl (RetC.zero HZ.out (by repeat (first | (with_reducible assumption) | (with_reducible exact Ext.refl _) | ((with_reducible refine Ext.setCell ?_ ?_ _); rotate_left; (first | exact Nat.le_refl _ | exact Nat.le_succ _ | (simp; done) | (simp; omega))) | (with_reducible refine Ext.alloc ?_ _) | (with_reducible refine Ext.drew ?_) | (with_reducible refine Ext.drewN ?_ _))))
      · have hqI : (q : Int) + 1 < (m : Int) := by omega
        have hqe : ((q : Int) + 1 == 0) = false := by simp; omega
        have HGS := Lib.hid (HS.out.gS q hjm)
        have HML := Lib.hid (HS.out.mLine q hjm)
        have HG := Lib.hid (HPG.out (q + 1))
        generalize K (T (q + 1)) = k0 at *
        generalize A (T (q + 1)) = k1 at *
        generalize B (T (q + 1)) = k2 at *
        generalize C (T (q + 1)) = k3 at *
        generalize O (T (q + 1)) = ob at *
        generalize T (q + 1) = t at *
        have cv := (Blk.all ⟨_, bC⟩).1 1
        simp only [List.getElem?_toArray, List.getElem?_cons_zero, List.getElem?_cons_succ] at cv
        clear bC
        cases ob with
        | false =>
          have HZ := Lib.hid (HML.out rfl)
          go_wp2_with fail
          refine (HG.out _ (HO.out.ext hwr)).mono ?_
          rintro e w8 ⟨rfl, h8⟩
          clear c0 cv
          replace rrr := rrr.ext h8
          obtain ⟨rc, rf, rz⟩ := rrr.all
          have hw8 := hwr.trans h8
          clear h8 hwr
          go_wp2
          refine bodyPost_ret (v := .tuple #[.agg #[.int .i64 0, .slice none 0 0], .bool false]) (by simp [results, Tryd.results11, go_sem, rc, rz]; done) rfl (RetC.zero HZ.out (by repeat (first | (with_reducible assumption) | (with_reducible exact Ext.refl _) | ((with_reducible refine Ext.setCell ?_ ?_ _); rotate_left; (first | exact Nat.le_refl _ | exact Nat.le_succ _ | (simp; done) | (simp; omega))) | (with_reducible refine Ext.alloc ?_ _) | (with_reducible refine Ext.drew ?_) | (with_reducible refine Ext.drewN ?_ _))))
        | true =>
          go_wp2_with fail
          refine (HG.out _ (HO.out.ext hwr)).mono ?_
          rintro e w8 ⟨rfl, h8⟩
          clear c0
          replace cv := Ext.cell h8 cv
          have cv2 := fun o => Ext.cell ((Ext.refl w8).alloc o) cv
          have e8 := he.trans h8
          have zC8 := lt_of_cell cv
          simp only at zC8
          have zz8 := h8.size
          have HC8 := Lib.hid (Ext.blk h8 HC.out)
          have HO8 := Lib.hid (own_ext2 HOW.out h8)
          have LT8 := Lib.hid (LTT.out.ext h8)
          clear h8
          go_wp2_with (at_builtin; refine app_gateL (w8.alloc (.cells #[.int .i64 k0, .int .i64 k1, .int .i64 k2, .int .i64 k3] 23)) k0 k1 k2 k3 (HO8.out.alloc _) (by simp; omega) hi hz0 hz1 hz2 (by rfl) (by rfl) (by rfl) (World.size_alloc _ _) (by rfl) (by unfold maxLen; omega) (by omega) ?_)
          intro G4 cG w4 own4 he4 hk4
          have e4 := he4 _ (e8.alloc _) (Nat.le_refl _)
          have HC4 := Lib.hid (hk4 _ _ _ (Ext.blk ((Ext.refl w8).alloc _) HC8.out) (by decide))
          have HO4 := Lib.hid own4
          have LT4 := Lib.hid ((LT8.out.ext ((Ext.refl w8).alloc _)).keep hk4)
          obtain ⟨bc, bf, bz⟩ := Blk.all ⟨_, HC4.out⟩
          clear own4 he4 hk4 cv cv2 hi hz0 hz1 hz2
          go_wp2
          go_roundw
          case rel => exact ⟨q + 1 + 1, q + 1, _, y, by omega, by go_num, .inr ⟨rfl, rfl, by first | rfl | trivial | assumption⟩, LT4.out.set HC4.out 1 _, heap_set1' HC4.out, own_set1 (by rw [HGS.out, ints_app]; exact HO4.out) HC4.out (by decide) 1 _, e4.setCell (Nat.le_refl _) _⟩
          case measure => simp [intOf]; omega
    · obtain ⟨rfl, rfl, hl2⟩ : j = q + 1 ∧ y = v ∧ hl = 2 := by
        rcases hjq with ⟨h, _, _⟩ | h
        · omega
        · exact h
      have hnI : ¬ ((q : Int) + 1 < (m : Int)) := by omega
      obtain ⟨Ga, cap, rfl⟩ := own_form own
      have HGL := HS.out.gL q (by omega)
      have HMF := Lib.hid (HS.out.mFmt q (by omega))
      have HMN := Lib.hid HS.out.mNil
      have HH := Lib.hid (HS.out.hit q (by omega))
      have HFR := Lib.hid (Fr.of_own own)
      have HF := Lib.hid (fun W (h : Ext wr W) => impl_fmtCirc y Ga q cap (G q) W (HFR.out.ext h).rd HGL (by omega) (HO.out.ext (hwr.trans h)).names)
      have HC := Lib.hid bC
      obtain ⟨bc, bf, bz⟩ := Blk.all ⟨_, bC⟩
      obtain ⟨rc, rf, rz⟩ := rrr.all
      clear own bC HGL hi hz0 hz1 hz2 lT
      by_cases hse : s = ⟨#[]⟩
      · have := HS.out.nil1 hse; omega
      · by_cases hf : fmtC y (G q) q = s
        · have HZ := Lib.hid (HH.out hse hf)
          rw [hf] at HF
          clear hse hf
          go_wp2_with fail
          refine (HF.out _ (Ext.refl _)).mono ?_
          rintro e w9 ⟨rfl, h9⟩
          clear bc bf bz rc rf rz
          obtain ⟨bc, bf, bz⟩ := Blk.all ⟨_, Ext.blk h9 HC.out⟩
          replace rrr := rrr.ext h9
          obtain ⟨rc, rf, rz⟩ := rrr.all
          have hw9 := hwr.trans h9
          have HF9 := Lib.hid (HFR.out.ext h9)
          have zz9 := h9.size
          clear h9
          go_wp2
          refine bodyPost_ret (v := .tuple #[.agg #[.int .i64 y, .slice Ga q cap], .bool true]) (by simp [results, Tryd.results11, go_sem, rc, rz, bc]; done) rfl (RetC.hit HZ.out ?_ (by repeat (first | (with_reducible assumption) | (with_reducible exact Ext.refl _) | ((with_reducible refine Ext.setCell ?_ ?_ _); rotate_left; (first | exact Nat.le_refl _ | exact Nat.le_succ _ | (simp; done) | (simp; omega))) | (with_reducible refine Ext.alloc ?_ _) | (with_reducible refine Ext.drew ?_) | (with_reducible refine Ext.drewN ?_ _))))
          rw [size_set2]
          exact (HF9.out.set2 (C := w.heap.size) hzC _ _).mono (by omega) zz9
        · have HZ := Lib.hid (HMF.out hf)
          have hft := toList_ne hf
          generalize fmtC y (G q) q = tt at *
          clear hse hf
          go_wp2_with fail
          refine (HF.out _ (Ext.refl _)).mono ?_
          rintro e w9 ⟨rfl, h9⟩
          clear bc bf bz rc rf rz
          replace rrr := rrr.ext h9
          obtain ⟨rc, rf, rz⟩ := rrr.all
          have hw9 := hwr.trans h9
          clear h9
          go_wp2
          refine bodyPost_ret (v := .tuple #[.agg #[.int .i64 0, .slice none 0 0], .bool false]) (by simp [results, Tryd.results11, go_sem, rc, rz]; done) rfl (RetC.zero HZ.out (by repeat (first | (with_reducible assumption) | (with_reducible exact Ext.refl _) | ((with_reducible refine Ext.setCell ?_ ?_ _); rotate_left; (first | exact Nat.le_refl _ | exact Nat.le_succ _ | (simp; done) | (simp; omega))) | (with_reducible refine Ext.alloc ?_ _) | (with_reducible refine Ext.drew ?_) | (with_reducible refine Ext.drewN ?_ _))))
end Go.Proofs.YtkhgkaiadfebmaaDoor
