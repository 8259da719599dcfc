/-
  The walks of the laws on circuits that count or compare. No conditions.
-/
import Derived.Test.YtjhnhmjnhnighaaCirc3
set_option linter.unusedSimpArgs false
set_option linter.unusedVariables false
namespace Go.Proofs.Ytjhnhmjnhnighaa
open Go.RowKit
set_option maxHeartbeats 400000 in
theorem walk_FnExactCountGates (w : World) (N : Int) (A : Option Addr) (n c : Nat) (L : List Int) (wN : (Lit.int .i64 N).wf = true) (rd : Rd w A (ints L)) (hl : L.length = n * 4) (hn : n ≤ maxLen) (wl : ∀ x ∈ L, (Lit.int .i64 x).wf = true) (kind : Int) (wk : (Lit.int .i64 kind).wf = true) :
    Calls Try.prog 7 #[.agg #[.int .i64 N, .slice A n c], .int .i64 kind] w fun e w' => e = .returned (.bool true) ∧ Ext w w' := by
  clear wl wN
  have HL := Lib.hid hl
  clear hl
  unfold maxLen at hn
  by_cases hbig : (1048576 : Int) - n < 0
  · have hz : szL 1048576 n = -1 := by unfold szL; simp [hbig]
    go_enter Try.func7, Try.ntmps7
    go_wp2_with fail
    refine (szCircuit_any _ _ _ _ _ _ hn (by omega) (by omega)).mono ?_
    rintro e w1 ⟨rfl, h1⟩
    go_wp2
    go_ret
    exact ⟨rfl, (by repeat (first | exact Ext.refl _ | assumption | refine Ext.alloc ?_ _ | refine Ext.drew ?_ | refine Ext.drewN ?_ _ | refine Ext.trans ?_ (by assumption)))⟩
  · have hz : szL 1048576 n = 1048576 - n := by unfold szL; simp [hbig]
    have hn2 : n ≤ 1048576 := by omega
    go_enter Try.func7, Try.ntmps7
    go_wp2_with fail
    refine (szCircuit_any _ _ _ _ _ _ hn (by omega) (by omega)).mono ?_
    rintro e w1 ⟨rfl, h1⟩
    have x := (Blk.new _ _ _).ext h1
    obtain ⟨xc, xf, xz⟩ := x.all
    go_wp2_with fail
    refine (toCircuit_any _ A n c L _ (rd.ext (by repeat (first | exact Ext.refl _ | assumption | refine Ext.alloc ?_ _ | refine Ext.drew ?_ | refine Ext.drewN ?_ _ | refine Ext.trans ?_ (by assumption)))) HL.out hn2).mono ?_
    rintro e w2 ⟨B, rfl, fB, h2⟩
    clear xc xf xz
    replace x := Blk.to x h2 (by repeat (first | exact Ext.refl _ | assumption | refine Ext.alloc ?_ _ | refine Ext.drew ?_ | refine Ext.drewN ?_ _ | refine Ext.trans ?_ (by assumption)))
    obtain ⟨xc, xf, xz⟩ := x.all
    go_wp2_with fail
    refine (spec_count _ B n n L kind _ fB.rd HL.out (by omega)).mono ?_
    rintro e w3 ⟨rfl, h3⟩
    clear xc xf xz
    replace x := Blk.to x h3 (by repeat (first | exact Ext.refl _ | assumption | refine Ext.alloc ?_ _ | refine Ext.drew ?_ | refine Ext.drewN ?_ _ | refine Ext.trans ?_ (by assumption)))
    obtain ⟨xc, xf, xz⟩ := x.all
    go_wp2_with fail
    refine (toCircuit_any _ A n c L _ (rd.ext (by repeat (first | exact Ext.refl _ | assumption | refine Ext.alloc ?_ _ | refine Ext.drew ?_ | refine Ext.drewN ?_ _ | refine Ext.trans ?_ (by assumption)))) HL.out hn2).mono ?_
    rintro e w4 ⟨D, rfl, fD, h4⟩
    clear xc xf xz
    replace x := Blk.to x h4 (by repeat (first | exact Ext.refl _ | assumption | refine Ext.alloc ?_ _ | refine Ext.drew ?_ | refine Ext.drewN ?_ _ | refine Ext.trans ?_ (by assumption)))
    obtain ⟨xc, xf, xz⟩ := x.all
    go_wp2_with fail
    refine (impl_count _ D n n L kind _ (fD.ext (by repeat (first | exact Ext.refl _ | assumption | refine Ext.alloc ?_ _ | refine Ext.drew ?_ | refine Ext.drewN ?_ _ | refine Ext.trans ?_ (by assumption)))).rd HL.out (by omega)).mono ?_
    rintro e w5 ⟨rfl, h5⟩
    clear xc xf xz
    replace x := Blk.to x h5 (by repeat (first | exact Ext.refl _ | assumption | refine Ext.alloc ?_ _ | refine Ext.drew ?_ | refine Ext.drewN ?_ _ | refine Ext.trans ?_ (by assumption)))
    obtain ⟨xc, xf, xz⟩ := x.all
    have y := (Blk.new w4 42 #[.int .i64 N, .slice D n n]).ext h5
    obtain ⟨yc, yf, yz⟩ := y.all
    have h05 : Ext w w5 := (by repeat (first | exact Ext.refl _ | assumption | refine Ext.alloc ?_ _ | refine Ext.drew ?_ | refine Ext.drewN ?_ _ | refine Ext.trans ?_ (by assumption)))
    have fD5 := fD.ext (Ext.trans ((Ext.refl w4).alloc (.cells #[.int .i64 N, .slice D n n] 42)) h5)
    have x0 := xc 0
    have x1 := xc 1
    have y0 := yc 0
    have y1 := yc 1
    simp only [List.getElem?_toArray, List.getElem?_cons_zero, List.getElem?_cons_succ] at x0 x1 y0 y1
    clear h1 h2 h3 h4 h5 xc xf xz yc yf yz fD fB x y
    go_wp2_with fail
    go_region_held3 (fun w' => w'.cell? ⟨w.heap.size, 0, none⟩ = some (.int .i64 N) ∧ w'.cell? ⟨w.heap.size, 1, none⟩ = some (.slice A n c) ∧ w'.cell? ⟨w4.heap.size, 0, none⟩ = some (.int .i64 N) ∧ w'.cell? ⟨w4.heap.size, 1, none⟩ = some (.slice D n n) ∧ Ext w5 w')
      (first | exact ⟨x0, x1, y0, y1, (Ext.refl w5).drew⟩ | (go_split_ands; exact ⟨Ext.cell hx (by assumption), Ext.cell hx (by assumption), Ext.cell hx (by assumption), Ext.cell hx (by assumption), Ext.trans (by assumption) hx⟩))
      (first | (go_at_call 30; go_split_ands; refine (toCircuit_any N A n c L _ (rd.ext (Ext.trans h05 (by assumption))) HL.out hn2).mono ?_; rintro e w' ⟨E, rfl, fE, hx⟩) | (go_at_call 32; go_split_ands; refine (eqCircuit_any N N D E n n n n L L _ (fD5.ext (by assumption)).rd fE.rd HL.out HL.out (by omega) (by omega)).mono ?_; rintro e w' ⟨rfl, hx⟩))
    go_split_ands
    go_wp2
    go_ret
    exact ⟨rfl, h05.trans (by assumption)⟩
set_option maxHeartbeats 400000 in
theorem walk_FnExactTCount (w : World) (N : Int) (A : Option Addr) (n c : Nat) (L : List Int) (wN : (Lit.int .i64 N).wf = true) (rd : Rd w A (ints L)) (hl : L.length = n * 4) (hn : n ≤ maxLen) (wl : ∀ x ∈ L, (Lit.int .i64 x).wf = true)  :
    Calls Try.prog 8 #[.agg #[.int .i64 N, .slice A n c]] w fun e w' => e = .returned (.bool true) ∧ Ext w w' := by
  clear wl wN
  have HL := Lib.hid hl
  clear hl
  unfold maxLen at hn
  by_cases hbig : (1048576 : Int) - n < 0
  · have hz : szL 1048576 n = -1 := by unfold szL; simp [hbig]
    go_enter Try.func8, Try.ntmps8
    go_wp2_with fail
    refine (szCircuit_any _ _ _ _ _ _ hn (by omega) (by omega)).mono ?_
    rintro e w1 ⟨rfl, h1⟩
    go_wp2
    go_ret
    exact ⟨rfl, (by repeat (first | exact Ext.refl _ | assumption | refine Ext.alloc ?_ _ | refine Ext.drew ?_ | refine Ext.drewN ?_ _ | refine Ext.trans ?_ (by assumption)))⟩
  · have hz : szL 1048576 n = 1048576 - n := by unfold szL; simp [hbig]
    have hn2 : n ≤ 1048576 := by omega
    go_enter Try.func8, Try.ntmps8
    go_wp2_with fail
    refine (szCircuit_any _ _ _ _ _ _ hn (by omega) (by omega)).mono ?_
    rintro e w1 ⟨rfl, h1⟩
    have x := (Blk.new _ _ _).ext h1
    obtain ⟨xc, xf, xz⟩ := x.all
    go_wp2_with fail
    refine (toCircuit_any _ A n c L _ (rd.ext (by repeat (first | exact Ext.refl _ | assumption | refine Ext.alloc ?_ _ | refine Ext.drew ?_ | refine Ext.drewN ?_ _ | refine Ext.trans ?_ (by assumption)))) HL.out hn2).mono ?_
    rintro e w2 ⟨B, rfl, fB, h2⟩
    clear xc xf xz
    replace x := Blk.to x h2 (by repeat (first | exact Ext.refl _ | assumption | refine Ext.alloc ?_ _ | refine Ext.drew ?_ | refine Ext.drewN ?_ _ | refine Ext.trans ?_ (by assumption)))
    obtain ⟨xc, xf, xz⟩ := x.all
    go_wp2_with fail
    refine (spec_tcount _ B n n L  _ fB.rd HL.out (by omega)).mono ?_
    rintro e w3 ⟨rfl, h3⟩
    clear xc xf xz
    replace x := Blk.to x h3 (by repeat (first | exact Ext.refl _ | assumption | refine Ext.alloc ?_ _ | refine Ext.drew ?_ | refine Ext.drewN ?_ _ | refine Ext.trans ?_ (by assumption)))
    obtain ⟨xc, xf, xz⟩ := x.all
    go_wp2_with fail
    refine (toCircuit_any _ A n c L _ (rd.ext (by repeat (first | exact Ext.refl _ | assumption | refine Ext.alloc ?_ _ | refine Ext.drew ?_ | refine Ext.drewN ?_ _ | refine Ext.trans ?_ (by assumption)))) HL.out hn2).mono ?_
    rintro e w4 ⟨D, rfl, fD, h4⟩
    clear xc xf xz
    replace x := Blk.to x h4 (by repeat (first | exact Ext.refl _ | assumption | refine Ext.alloc ?_ _ | refine Ext.drew ?_ | refine Ext.drewN ?_ _ | refine Ext.trans ?_ (by assumption)))
    obtain ⟨xc, xf, xz⟩ := x.all
    go_wp2_with fail
    refine (impl_tcount _ D n n L  _ (fD.ext (by repeat (first | exact Ext.refl _ | assumption | refine Ext.alloc ?_ _ | refine Ext.drew ?_ | refine Ext.drewN ?_ _ | refine Ext.trans ?_ (by assumption)))).rd HL.out (by omega)).mono ?_
    rintro e w5 ⟨rfl, h5⟩
    clear xc xf xz
    replace x := Blk.to x h5 (by repeat (first | exact Ext.refl _ | assumption | refine Ext.alloc ?_ _ | refine Ext.drew ?_ | refine Ext.drewN ?_ _ | refine Ext.trans ?_ (by assumption)))
    obtain ⟨xc, xf, xz⟩ := x.all
    have y := (Blk.new w4 42 #[.int .i64 N, .slice D n n]).ext h5
    obtain ⟨yc, yf, yz⟩ := y.all
    have h05 : Ext w w5 := (by repeat (first | exact Ext.refl _ | assumption | refine Ext.alloc ?_ _ | refine Ext.drew ?_ | refine Ext.drewN ?_ _ | refine Ext.trans ?_ (by assumption)))
    have fD5 := fD.ext (Ext.trans ((Ext.refl w4).alloc (.cells #[.int .i64 N, .slice D n n] 42)) h5)
    have x0 := xc 0
    have x1 := xc 1
    have y0 := yc 0
    have y1 := yc 1
    simp only [List.getElem?_toArray, List.getElem?_cons_zero, List.getElem?_cons_succ] at x0 x1 y0 y1
    clear h1 h2 h3 h4 h5 xc xf xz yc yf yz fD fB x y
    go_wp2_with fail
    go_region_held3 (fun w' => w'.cell? ⟨w.heap.size, 0, none⟩ = some (.int .i64 N) ∧ w'.cell? ⟨w.heap.size, 1, none⟩ = some (.slice A n c) ∧ w'.cell? ⟨w4.heap.size, 0, none⟩ = some (.int .i64 N) ∧ w'.cell? ⟨w4.heap.size, 1, none⟩ = some (.slice D n n) ∧ Ext w5 w')
      (first | exact ⟨x0, x1, y0, y1, (Ext.refl w5).drew⟩ | (go_split_ands; exact ⟨Ext.cell hx (by assumption), Ext.cell hx (by assumption), Ext.cell hx (by assumption), Ext.cell hx (by assumption), Ext.trans (by assumption) hx⟩))
      (first | (go_at_call 30; go_split_ands; refine (toCircuit_any N A n c L _ (rd.ext (Ext.trans h05 (by assumption))) HL.out hn2).mono ?_; rintro e w' ⟨E, rfl, fE, hx⟩) | (go_at_call 32; go_split_ands; refine (eqCircuit_any N N D E n n n n L L _ (fD5.ext (by assumption)).rd fE.rd HL.out HL.out (by omega) (by omega)).mono ?_; rintro e w' ⟨rfl, hx⟩))
    go_split_ands
    go_wp2
    go_ret
    exact ⟨rfl, h05.trans (by assumption)⟩
set_option maxHeartbeats 400000 in
theorem walk_FnExactTwoQubitCount (w : World) (N : Int) (A : Option Addr) (n c : Nat) (L : List Int) (wN : (Lit.int .i64 N).wf = true) (rd : Rd w A (ints L)) (hl : L.length = n * 4) (hn : n ≤ maxLen) (wl : ∀ x ∈ L, (Lit.int .i64 x).wf = true)  :
    Calls Try.prog 10 #[.agg #[.int .i64 N, .slice A n c]] w fun e w' => e = .returned (.bool true) ∧ Ext w w' := by
  clear wl wN
  have HL := Lib.hid hl
  clear hl
  unfold maxLen at hn
  by_cases hbig : (1048576 : Int) - n < 0
  · have hz : szL 1048576 n = -1 := by unfold szL; simp [hbig]
    go_enter Try.func10, Try.ntmps10
    go_wp2_with fail
    refine (szCircuit_any _ _ _ _ _ _ hn (by omega) (by omega)).mono ?_
    rintro e w1 ⟨rfl, h1⟩
    go_wp2
    go_ret
    exact ⟨rfl, (by repeat (first | exact Ext.refl _ | assumption | refine Ext.alloc ?_ _ | refine Ext.drew ?_ | refine Ext.drewN ?_ _ | refine Ext.trans ?_ (by assumption)))⟩
  · have hz : szL 1048576 n = 1048576 - n := by unfold szL; simp [hbig]
    have hn2 : n ≤ 1048576 := by omega
    go_enter Try.func10, Try.ntmps10
    go_wp2_with fail
    refine (szCircuit_any _ _ _ _ _ _ hn (by omega) (by omega)).mono ?_
    rintro e w1 ⟨rfl, h1⟩
    have x := (Blk.new _ _ _).ext h1
    obtain ⟨xc, xf, xz⟩ := x.all
    go_wp2_with fail
    refine (toCircuit_any _ A n c L _ (rd.ext (by repeat (first | exact Ext.refl _ | assumption | refine Ext.alloc ?_ _ | refine Ext.drew ?_ | refine Ext.drewN ?_ _ | refine Ext.trans ?_ (by assumption)))) HL.out hn2).mono ?_
    rintro e w2 ⟨B, rfl, fB, h2⟩
    clear xc xf xz
    replace x := Blk.to x h2 (by repeat (first | exact Ext.refl _ | assumption | refine Ext.alloc ?_ _ | refine Ext.drew ?_ | refine Ext.drewN ?_ _ | refine Ext.trans ?_ (by assumption)))
    obtain ⟨xc, xf, xz⟩ := x.all
    go_wp2_with fail
    refine (spec_two _ B n n L  _ fB.rd HL.out (by omega)).mono ?_
    rintro e w3 ⟨rfl, h3⟩
    clear xc xf xz
    replace x := Blk.to x h3 (by repeat (first | exact Ext.refl _ | assumption | refine Ext.alloc ?_ _ | refine Ext.drew ?_ | refine Ext.drewN ?_ _ | refine Ext.trans ?_ (by assumption)))
    obtain ⟨xc, xf, xz⟩ := x.all
    go_wp2_with fail
    refine (toCircuit_any _ A n c L _ (rd.ext (by repeat (first | exact Ext.refl _ | assumption | refine Ext.alloc ?_ _ | refine Ext.drew ?_ | refine Ext.drewN ?_ _ | refine Ext.trans ?_ (by assumption)))) HL.out hn2).mono ?_
    rintro e w4 ⟨D, rfl, fD, h4⟩
    clear xc xf xz
    replace x := Blk.to x h4 (by repeat (first | exact Ext.refl _ | assumption | refine Ext.alloc ?_ _ | refine Ext.drew ?_ | refine Ext.drewN ?_ _ | refine Ext.trans ?_ (by assumption)))
    obtain ⟨xc, xf, xz⟩ := x.all
    go_wp2_with fail
    refine (impl_two _ D n n L  _ (fD.ext (by repeat (first | exact Ext.refl _ | assumption | refine Ext.alloc ?_ _ | refine Ext.drew ?_ | refine Ext.drewN ?_ _ | refine Ext.trans ?_ (by assumption)))).rd HL.out (by omega)).mono ?_
    rintro e w5 ⟨rfl, h5⟩
    clear xc xf xz
    replace x := Blk.to x h5 (by repeat (first | exact Ext.refl _ | assumption | refine Ext.alloc ?_ _ | refine Ext.drew ?_ | refine Ext.drewN ?_ _ | refine Ext.trans ?_ (by assumption)))
    obtain ⟨xc, xf, xz⟩ := x.all
    have y := (Blk.new w4 42 #[.int .i64 N, .slice D n n]).ext h5
    obtain ⟨yc, yf, yz⟩ := y.all
    have h05 : Ext w w5 := (by repeat (first | exact Ext.refl _ | assumption | refine Ext.alloc ?_ _ | refine Ext.drew ?_ | refine Ext.drewN ?_ _ | refine Ext.trans ?_ (by assumption)))
    have fD5 := fD.ext (Ext.trans ((Ext.refl w4).alloc (.cells #[.int .i64 N, .slice D n n] 42)) h5)
    have x0 := xc 0
    have x1 := xc 1
    have y0 := yc 0
    have y1 := yc 1
    simp only [List.getElem?_toArray, List.getElem?_cons_zero, List.getElem?_cons_succ] at x0 x1 y0 y1
    clear h1 h2 h3 h4 h5 xc xf xz yc yf yz fD fB x y
    go_wp2_with fail
    go_region_held3 (fun w' => w'.cell? ⟨w.heap.size, 0, none⟩ = some (.int .i64 N) ∧ w'.cell? ⟨w.heap.size, 1, none⟩ = some (.slice A n c) ∧ w'.cell? ⟨w4.heap.size, 0, none⟩ = some (.int .i64 N) ∧ w'.cell? ⟨w4.heap.size, 1, none⟩ = some (.slice D n n) ∧ Ext w5 w')
      (first | exact ⟨x0, x1, y0, y1, (Ext.refl w5).drew⟩ | (go_split_ands; exact ⟨Ext.cell hx (by assumption), Ext.cell hx (by assumption), Ext.cell hx (by assumption), Ext.cell hx (by assumption), Ext.trans (by assumption) hx⟩))
      (first | (go_at_call 30; go_split_ands; refine (toCircuit_any N A n c L _ (rd.ext (Ext.trans h05 (by assumption))) HL.out hn2).mono ?_; rintro e w' ⟨E, rfl, fE, hx⟩) | (go_at_call 32; go_split_ands; refine (eqCircuit_any N N D E n n n n L L _ (fD5.ext (by assumption)).rd fE.rd HL.out HL.out (by omega) (by omega)).mono ?_; rintro e w' ⟨rfl, hx⟩))
    go_split_ands
    go_wp2
    go_ret
    exact ⟨rfl, h05.trans (by assumption)⟩
set_option maxHeartbeats 400000 in
theorem walk_FnExactIsValidCircuit (w : World) (N : Int) (A : Option Addr) (n c : Nat) (L : List Int) (wN : (Lit.int .i64 N).wf = true) (rd : Rd w A (ints L)) (hl : L.length = n * 4) (hn : n ≤ maxLen) (wl : ∀ x ∈ L, (Lit.int .i64 x).wf = true)  :
    Calls Try.prog 13 #[.agg #[.int .i64 N, .slice A n c]] w fun e w' => e = .returned (.bool true) ∧ Ext w w' := by
  clear wl wN
  have HL := Lib.hid hl
  clear hl
  unfold maxLen at hn
  by_cases hbig : (1048576 : Int) - n < 0
  · have hz : szL 1048576 n = -1 := by unfold szL; simp [hbig]
    go_enter Try.func13, Try.ntmps13
    go_wp2_with fail
    refine (szCircuit_any _ _ _ _ _ _ hn (by omega) (by omega)).mono ?_
    rintro e w1 ⟨rfl, h1⟩
    go_wp2
    go_ret
    exact ⟨rfl, (by repeat (first | exact Ext.refl _ | assumption | refine Ext.alloc ?_ _ | refine Ext.drew ?_ | refine Ext.drewN ?_ _ | refine Ext.trans ?_ (by assumption)))⟩
  · have hz : szL 1048576 n = 1048576 - n := by unfold szL; simp [hbig]
    have hn2 : n ≤ 1048576 := by omega
    go_enter Try.func13, Try.ntmps13
    go_wp2_with fail
    refine (szCircuit_any _ _ _ _ _ _ hn (by omega) (by omega)).mono ?_
    rintro e w1 ⟨rfl, h1⟩
    have x := (Blk.new _ _ _).ext h1
    obtain ⟨xc, xf, xz⟩ := x.all
    go_wp2_with fail
    refine (toCircuit_any _ A n c L _ (rd.ext (by repeat (first | exact Ext.refl _ | assumption | refine Ext.alloc ?_ _ | refine Ext.drew ?_ | refine Ext.drewN ?_ _ | refine Ext.trans ?_ (by assumption)))) HL.out hn2).mono ?_
    rintro e w2 ⟨B, rfl, fB, h2⟩
    clear xc xf xz
    replace x := Blk.to x h2 (by repeat (first | exact Ext.refl _ | assumption | refine Ext.alloc ?_ _ | refine Ext.drew ?_ | refine Ext.drewN ?_ _ | refine Ext.trans ?_ (by assumption)))
    obtain ⟨xc, xf, xz⟩ := x.all
    go_wp2_with fail
    refine (spec_validC _ B n n L  _ fB.rd HL.out (by omega)).mono ?_
    rintro e w3 ⟨rfl, h3⟩
    clear xc xf xz
    replace x := Blk.to x h3 (by repeat (first | exact Ext.refl _ | assumption | refine Ext.alloc ?_ _ | refine Ext.drew ?_ | refine Ext.drewN ?_ _ | refine Ext.trans ?_ (by assumption)))
    obtain ⟨xc, xf, xz⟩ := x.all
    go_wp2_with fail
    refine (toCircuit_any _ A n c L _ (rd.ext (by repeat (first | exact Ext.refl _ | assumption | refine Ext.alloc ?_ _ | refine Ext.drew ?_ | refine Ext.drewN ?_ _ | refine Ext.trans ?_ (by assumption)))) HL.out hn2).mono ?_
    rintro e w4 ⟨D, rfl, fD, h4⟩
    clear xc xf xz
    replace x := Blk.to x h4 (by repeat (first | exact Ext.refl _ | assumption | refine Ext.alloc ?_ _ | refine Ext.drew ?_ | refine Ext.drewN ?_ _ | refine Ext.trans ?_ (by assumption)))
    obtain ⟨xc, xf, xz⟩ := x.all
    go_wp2_with fail
    refine (impl_validC _ D n n L  _ (fD.ext (by repeat (first | exact Ext.refl _ | assumption | refine Ext.alloc ?_ _ | refine Ext.drew ?_ | refine Ext.drewN ?_ _ | refine Ext.trans ?_ (by assumption)))).rd HL.out (by omega)).mono ?_
    rintro e w5 ⟨rfl, h5⟩
    clear xc xf xz
    replace x := Blk.to x h5 (by repeat (first | exact Ext.refl _ | assumption | refine Ext.alloc ?_ _ | refine Ext.drew ?_ | refine Ext.drewN ?_ _ | refine Ext.trans ?_ (by assumption)))
    obtain ⟨xc, xf, xz⟩ := x.all
    have y := (Blk.new w4 42 #[.int .i64 N, .slice D n n]).ext h5
    obtain ⟨yc, yf, yz⟩ := y.all
    have h05 : Ext w w5 := (by repeat (first | exact Ext.refl _ | assumption | refine Ext.alloc ?_ _ | refine Ext.drew ?_ | refine Ext.drewN ?_ _ | refine Ext.trans ?_ (by assumption)))
    have fD5 := fD.ext (Ext.trans ((Ext.refl w4).alloc (.cells #[.int .i64 N, .slice D n n] 42)) h5)
    have x0 := xc 0
    have x1 := xc 1
    have y0 := yc 0
    have y1 := yc 1
    simp only [List.getElem?_toArray, List.getElem?_cons_zero, List.getElem?_cons_succ] at x0 x1 y0 y1
    clear h1 h2 h3 h4 h5 xc xf xz yc yf yz fD fB x y
    go_wp2_with fail
    go_region_held3 (fun w' => w'.cell? ⟨w.heap.size, 0, none⟩ = some (.int .i64 N) ∧ w'.cell? ⟨w.heap.size, 1, none⟩ = some (.slice A n c) ∧ w'.cell? ⟨w4.heap.size, 0, none⟩ = some (.int .i64 N) ∧ w'.cell? ⟨w4.heap.size, 1, none⟩ = some (.slice D n n) ∧ Ext w5 w')
      (first | exact ⟨x0, x1, y0, y1, (Ext.refl w5).drew⟩ | (go_split_ands; exact ⟨Ext.cell hx (by assumption), Ext.cell hx (by assumption), Ext.cell hx (by assumption), Ext.cell hx (by assumption), Ext.trans (by assumption) hx⟩))
      (first | (go_at_call 30; go_split_ands; refine (toCircuit_any N A n c L _ (rd.ext (Ext.trans h05 (by assumption))) HL.out hn2).mono ?_; rintro e w' ⟨E, rfl, fE, hx⟩) | (go_at_call 32; go_split_ands; refine (eqCircuit_any N N D E n n n n L L _ (fD5.ext (by assumption)).rd fE.rd HL.out HL.out (by omega) (by omega)).mono ?_; rintro e w' ⟨rfl, hx⟩))
    go_split_ands
    go_wp2
    go_ret
    exact ⟨rfl, h05.trans (by assumption)⟩
theorem walk_FnExactIsValidGate (w : World) (k a b c : Int) (w0 : (Lit.int .i64 k).wf = true) (w1 : (Lit.int .i64 a).wf = true) (w2 : (Lit.int .i64 b).wf = true) (w3 : (Lit.int .i64 c).wf = true) (n : Int) (wn : (Lit.int .i64 n).wf = true) :
    Calls Try.prog 4 #[.agg #[.int .i64 k, .int .i64 a, .int .i64 b, .int .i64 c], .int .i64 n] w fun e w' => e = .returned (.bool true) ∧ Ext w w' := by
  go_enter Try.func4, Try.ntmps4
  go_wp2_with fail
  refine (laws_toGate _ _ _ _ _).mono ?_
  rintro e w1 ⟨rfl, h1⟩
  have x := (Blk.new _ _ _).ext h1
  obtain ⟨xc, xf, xz⟩ := x.all
  go_wp2_with fail
  refine (spec_validGate _ _ _ _ _ _).mono ?_
  rintro e w2 ⟨rfl, h2⟩
  clear xc xf xz
  replace x := Blk.to x h2 (by repeat (first | exact Ext.refl _ | assumption | refine Ext.alloc ?_ _ | refine Ext.drew ?_ | refine Ext.drewN ?_ _ | refine Ext.trans ?_ (by assumption)))
  obtain ⟨xc, xf, xz⟩ := x.all
  go_wp2_with fail
  refine (laws_toGate _ _ _ _ _).mono ?_
  rintro e w3 ⟨rfl, h3⟩
  go_wp2_with fail
  refine (impl_validGate _ _ _ _ _ _).mono ?_
  rintro e w4 ⟨rfl, h4⟩
  go_wp2
  go_ret
  exact ⟨rfl, (by repeat (first | exact Ext.refl _ | assumption | refine Ext.alloc ?_ _ | refine Ext.drew ?_ | refine Ext.drewN ?_ _ | refine Ext.trans ?_ (by assumption)))⟩
end Go.Proofs.Ytjhnhmjnhnighaa
