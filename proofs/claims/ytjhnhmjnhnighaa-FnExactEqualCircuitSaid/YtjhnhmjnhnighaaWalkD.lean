/-
  The walk of the law on EqualCircuit. No conditions.
-/
import Derived.Test.YtjhnhmjnhnighaaCirc3
set_option linter.unusedSimpArgs false
set_option linter.unusedVariables false
namespace Go.Proofs.Ytjhnhmjnhnighaa
open Go.RowKit
set_option maxHeartbeats 1600000 in
theorem walk_FnExactEqualCircuit (w : World) (N : Int) (A : Option Addr) (n c : Nat) (L : List Int) (wN : (Lit.int .i64 N).wf = true) (rd : Rd w A (ints L)) (hl : L.length = n * 4) (hn : n ≤ maxLen) (wl : ∀ x ∈ L, (Lit.int .i64 x).wf = true)
    (N' : Int) (A' : Option Addr) (n' c' : Nat) (L' : List Int) (wN' : (Lit.int .i64 N').wf = true) (rd' : Rd w A' (ints L')) (hl' : L'.length = n' * 4) (hn' : n' ≤ maxLen) (wl' : ∀ x ∈ L', (Lit.int .i64 x).wf = true) :
    Calls Try.prog 9 #[.agg #[.int .i64 N, .slice A n c], .agg #[.int .i64 N', .slice A' n' c']] w fun e w' => e = .returned (.bool true) ∧ Ext w w' := by
  clear wl wN wl' wN'
  have HL := Lib.hid hl
  have HL' := Lib.hid hl'
  clear hl hl'
  unfold maxLen at hn hn'
  by_cases hbig : (1048576 : Int) - n < 0
  · have hz : szL 1048576 n = -1 := by unfold szL; simp [hbig]
    go_enter Try.func9, Try.ntmps9
    go_wp2_with fail
    refine (szCircuit_any _ _ _ _ _ _ hn (by omega) (by omega)).mono ?_
    rintro e w1 ⟨rfl, h1⟩
    go_wp2
    go_ret
    exact ⟨rfl, (by repeat (first | exact Ext.refl _ | assumption | refine Ext.alloc ?_ _ | refine Ext.drew ?_ | refine Ext.drewN ?_ _ | refine Ext.trans ?_ (by assumption)))⟩
  · have hz : szL 1048576 n = 1048576 - n := by unfold szL; simp [hbig]
    have hn2 : n ≤ 1048576 := by omega
    have hnn : ¬ ((1048576 : Int) - n < 0) := by omega
    by_cases hbig' : (1048576 : Int) - n - n' < 0
    · have hz' : szL (1048576 - n) n' = -1 := by unfold szL; simp [hbig']
      go_enter Try.func9, Try.ntmps9
      go_wp2_with fail
      refine (szCircuit_any _ _ _ _ _ _ hn (by omega) (by omega)).mono ?_
      rintro e w1 ⟨rfl, h1⟩
      have x := Blk.to (Blk.new w 37 #[.int .i64 N, .slice A n c]) h1 (by repeat (first | exact Ext.refl _ | assumption | refine Ext.alloc ?_ _ | refine Ext.drew ?_ | refine Ext.drewN ?_ _ | refine Ext.trans ?_ (by assumption)))
      have y := (Blk.new (w.alloc (.cells #[.int .i64 N, .slice A n c] 37)) 37 #[.int .i64 N', .slice A' n' c']).ext h1
      simp only [World.size_alloc] at y
      obtain ⟨xc, xf, xz⟩ := x.all
      obtain ⟨yc, yf, yz⟩ := y.all
      go_wp2_with fail
      refine (szCircuit_any _ _ _ _ _ _ hn' (by omega) (by omega)).mono ?_
      rintro e w2 ⟨rfl, h2⟩
      go_wp2
      go_ret
      exact ⟨rfl, (by repeat (first | exact Ext.refl _ | assumption | refine Ext.alloc ?_ _ | refine Ext.drew ?_ | refine Ext.drewN ?_ _ | refine Ext.trans ?_ (by assumption)))⟩
    · have hz' : szL (1048576 - n) n' = 1048576 - n - n' := by unfold szL; simp [hbig']
      have hn2' : n' ≤ 1048576 := by omega
      go_enter Try.func9, Try.ntmps9
      go_wp2_with fail
      refine (szCircuit_any _ _ _ _ _ _ hn (by omega) (by omega)).mono ?_
      rintro e w1 ⟨rfl, h1⟩
      have x := Blk.to (Blk.new w 37 #[.int .i64 N, .slice A n c]) h1 (by repeat (first | exact Ext.refl _ | assumption | refine Ext.alloc ?_ _ | refine Ext.drew ?_ | refine Ext.drewN ?_ _ | refine Ext.trans ?_ (by assumption)))
      have y := (Blk.new (w.alloc (.cells #[.int .i64 N, .slice A n c] 37)) 37 #[.int .i64 N', .slice A' n' c']).ext h1
      simp only [World.size_alloc] at y
      obtain ⟨xc, xf, xz⟩ := x.all
      obtain ⟨yc, yf, yz⟩ := y.all
      go_wp2_with fail
      refine (szCircuit_any _ _ _ _ _ _ hn' (by omega) (by omega)).mono ?_
      rintro e w2 ⟨rfl, h2⟩
      clear xc xf xz
      replace x := Blk.to x h2 (by repeat (first | exact Ext.refl _ | assumption | refine Ext.alloc ?_ _ | refine Ext.drew ?_ | refine Ext.drewN ?_ _ | refine Ext.trans ?_ (by assumption)))
      obtain ⟨xc, xf, xz⟩ := x.all
      clear yc yf yz
      replace y := Blk.to y h2 (by repeat (first | exact Ext.refl _ | assumption | refine Ext.alloc ?_ _ | refine Ext.drew ?_ | refine Ext.drewN ?_ _ | refine Ext.trans ?_ (by assumption)))
      obtain ⟨yc, yf, yz⟩ := y.all
      have h02 : Ext w w2 := (by repeat (first | exact Ext.refl _ | assumption | refine Ext.alloc ?_ _ | refine Ext.drew ?_ | refine Ext.drewN ?_ _ | refine Ext.trans ?_ (by assumption)))
      have x0 := xc 0
      have x1 := xc 1
      have y0 := yc 0
      have y1 := yc 1
      simp only [List.getElem?_toArray, List.getElem?_cons_zero, List.getElem?_cons_succ] at x0 x1 y0 y1
      clear h1 h2 xc xf xz yc yf yz
      go_wp2_with fail
      go_region_held3 (fun w' => w'.cell? ⟨w.heap.size, 0, none⟩ = some (.int .i64 N) ∧ w'.cell? ⟨w.heap.size, 1, none⟩ = some (.slice A n c) ∧ w'.cell? ⟨w.heap.size + 1, 0, none⟩ = some (.int .i64 N') ∧ w'.cell? ⟨w.heap.size + 1, 1, none⟩ = some (.slice A' n' c') ∧ Ext w2 w')
        (first | exact ⟨x0, x1, y0, y1, (Ext.refl w2).drew⟩ | (go_split_ands; exact ⟨Ext.cell hx (by assumption), Ext.cell hx (by assumption), Ext.cell hx (by assumption), Ext.cell hx (by assumption), Ext.trans (by assumption) hx⟩))
        (first | (go_at_call_of 30 (Value.agg #[Value.int IntKind.i64 N, Value.slice A n c]); go_split_ands; refine (toCircuit_any N A n c L _ (rd.ext (Ext.trans h02 (by assumption))) HL.out hn2).mono ?_; rintro e w3 ⟨B1, rfl, fB1, hx⟩) | (go_at_call_of 30 (Value.agg #[Value.int IntKind.i64 N', Value.slice A' n' c']); go_split_ands; refine (toCircuit_any N' A' n' c' L' _ (rd'.ext (Ext.trans h02 (by assumption))) HL'.out hn2').mono ?_; rintro e w4 ⟨B2, rfl, fB2, hx⟩) | (go_at_call 35; go_split_ands; refine (spec_equalC N N' B1 B2 n n' n n' L L' _ (fB1.ext (by assumption)).rd fB2.rd HL.out HL'.out (by omega) (by omega)).mono ?_; rintro e w5 ⟨rfl, hx⟩))
      go_split_ands
      have e25 : Ext w2 w5 := by assumption
      have h05 : Ext w w5 := h02.trans e25
      replace x := x.ext e25
      replace y := y.ext e25
      clear x0 x1 y0 y1
      obtain ⟨xc, xf, xz⟩ := x.all
      obtain ⟨yc, yf, yz⟩ := y.all
      go_wp2_with fail
      refine (toCircuit_any N A n c L _ (rd.ext h05) HL.out hn2).mono ?_
      rintro e w6 ⟨D, rfl, fD, h6⟩
      clear xc xf xz
      replace x := Blk.to x h6 (by repeat (first | exact Ext.refl _ | assumption | refine Ext.alloc ?_ _ | refine Ext.drew ?_ | refine Ext.drewN ?_ _ | refine Ext.trans ?_ (by assumption)))
      obtain ⟨xc, xf, xz⟩ := x.all
      clear yc yf yz
      replace y := Blk.to y h6 (by repeat (first | exact Ext.refl _ | assumption | refine Ext.alloc ?_ _ | refine Ext.drew ?_ | refine Ext.drewN ?_ _ | refine Ext.trans ?_ (by assumption)))
      obtain ⟨yc, yf, yz⟩ := y.all
      go_wp2_with fail
      refine (toCircuit_any N' A' n' c' L' _ (rd'.ext (h05.trans (Ext.trans h6 ((Ext.refl _).alloc _)))) HL'.out hn2').mono ?_
      rintro e w7 ⟨D', rfl, fD', h7⟩
      clear xc xf xz
      replace x := Blk.to x h7 (by repeat (first | exact Ext.refl _ | assumption | refine Ext.alloc ?_ _ | refine Ext.drew ?_ | refine Ext.drewN ?_ _ | refine Ext.trans ?_ (by assumption)))
      obtain ⟨xc, xf, xz⟩ := x.all
      clear yc yf yz
      replace y := Blk.to y h7 (by repeat (first | exact Ext.refl _ | assumption | refine Ext.alloc ?_ _ | refine Ext.drew ?_ | refine Ext.drewN ?_ _ | refine Ext.trans ?_ (by assumption)))
      obtain ⟨yc, yf, yz⟩ := y.all
      have z := (Blk.new w6 42 #[.int .i64 N, .slice D n n]).ext h7
      obtain ⟨zc, zf, zz⟩ := z.all
      replace fD := fD.ext (Ext.trans ((Ext.refl w6).alloc (.cells #[.int .i64 N, .slice D n n] 42)) h7)
      go_wp2_with fail
      refine (impl_equalC N N' D D' n n' n n' L L' _ (fD.ext ((Ext.refl _).alloc _)).rd (fD'.ext ((Ext.refl _).alloc _)).rd HL.out HL'.out (by omega) (by omega)).mono ?_
      rintro e w8 ⟨rfl, h8⟩
      clear xc xf xz
      replace x := Blk.to x h8 (by repeat (first | exact Ext.refl _ | assumption | refine Ext.alloc ?_ _ | refine Ext.drew ?_ | refine Ext.drewN ?_ _ | refine Ext.trans ?_ (by assumption)))
      obtain ⟨xc, xf, xz⟩ := x.all
      clear yc yf yz
      replace y := Blk.to y h8 (by repeat (first | exact Ext.refl _ | assumption | refine Ext.alloc ?_ _ | refine Ext.drew ?_ | refine Ext.drewN ?_ _ | refine Ext.trans ?_ (by assumption)))
      obtain ⟨yc, yf, yz⟩ := y.all
      clear zc zf zz
      replace z := Blk.to z h8 (by repeat (first | exact Ext.refl _ | assumption | refine Ext.alloc ?_ _ | refine Ext.drew ?_ | refine Ext.drewN ?_ _ | refine Ext.trans ?_ (by assumption)))
      obtain ⟨zc, zf, zz⟩ := z.all
      have v := (Blk.new w7 42 #[.int .i64 N', .slice D' n' n']).ext h8
      obtain ⟨vc, vf, vz⟩ := v.all
      replace fD := fD.ext (Ext.trans ((Ext.refl w7).alloc (.cells #[.int .i64 N', .slice D' n' n'] 42)) h8)
      replace fD' := fD'.ext (Ext.trans ((Ext.refl w7).alloc (.cells #[.int .i64 N', .slice D' n' n'] 42)) h8)
      have h08 : Ext w w8 := h05.trans (h6.trans (Ext.trans ((Ext.refl w6).alloc (.cells #[.int .i64 N, .slice D n n] 42)) (h7.trans (Ext.trans ((Ext.refl w7).alloc (.cells #[.int .i64 N', .slice D' n' n'] 42)) h8))))
      have x0 := xc 0
      have x1 := xc 1
      have y0 := yc 0
      have y1 := yc 1
      have z0 := zc 0
      have z1 := zc 1
      have v0 := vc 0
      have v1 := vc 1
      simp only [List.getElem?_toArray, List.getElem?_cons_zero, List.getElem?_cons_succ] at x0 x1 y0 y1 z0 z1 v0 v1
      clear xc xf xz yc yf yz zc zf zz vc vf vz h6 h7 h8 fB1 fB2 hx e25
      go_wp2_with fail
      go_region_held3 (fun w' => w'.cell? ⟨w.heap.size, 0, none⟩ = some (.int .i64 N) ∧ w'.cell? ⟨w.heap.size, 1, none⟩ = some (.slice A n c) ∧ w'.cell? ⟨w.heap.size + 1, 0, none⟩ = some (.int .i64 N') ∧ w'.cell? ⟨w.heap.size + 1, 1, none⟩ = some (.slice A' n' c') ∧ w'.cell? ⟨w6.heap.size, 0, none⟩ = some (.int .i64 N) ∧ w'.cell? ⟨w6.heap.size, 1, none⟩ = some (.slice D n n) ∧ w'.cell? ⟨w7.heap.size, 0, none⟩ = some (.int .i64 N') ∧ w'.cell? ⟨w7.heap.size, 1, none⟩ = some (.slice D' n' n') ∧ Ext w8 w')
        (first | exact ⟨x0, x1, y0, y1, z0, z1, v0, v1, (Ext.refl w8).drew⟩ | (go_split_ands; exact ⟨Ext.cell hx (by assumption), Ext.cell hx (by assumption), Ext.cell hx (by assumption), Ext.cell hx (by assumption), Ext.cell hx (by assumption), Ext.cell hx (by assumption), Ext.cell hx (by assumption), Ext.cell hx (by assumption), Ext.trans (by assumption) hx⟩))
        (first | (go_at_call 30; go_split_ands; refine (toCircuit_any N A n c L _ (rd.ext (Ext.trans h08 (by assumption))) HL.out hn2).mono ?_; rintro e w' ⟨E, rfl, fE, hx⟩) | (go_at_call 32; go_split_ands; refine (eqCircuit_any N N D E n n n n L L _ (fD.ext (by assumption)).rd fE.rd HL.out HL.out (by omega) (by omega)).mono ?_; rintro e w9 ⟨rfl, hx⟩))
      go_split_ands
      have e89 : Ext w8 w9 := by assumption
      have h09 := h08.trans e89
      replace fD' := fD'.ext e89
      replace x0 := e89.cell x0
      replace x1 := e89.cell x1
      replace y0 := e89.cell y0
      replace y1 := e89.cell y1
      replace z0 := e89.cell z0
      replace z1 := e89.cell z1
      replace v0 := e89.cell v0
      replace v1 := e89.cell v1
      clear fE hx
      go_wp2_with fail
      go_region_held3 (fun w' => w'.cell? ⟨w.heap.size, 0, none⟩ = some (.int .i64 N) ∧ w'.cell? ⟨w.heap.size, 1, none⟩ = some (.slice A n c) ∧ w'.cell? ⟨w.heap.size + 1, 0, none⟩ = some (.int .i64 N') ∧ w'.cell? ⟨w.heap.size + 1, 1, none⟩ = some (.slice A' n' c') ∧ w'.cell? ⟨w6.heap.size, 0, none⟩ = some (.int .i64 N) ∧ w'.cell? ⟨w6.heap.size, 1, none⟩ = some (.slice D n n) ∧ w'.cell? ⟨w7.heap.size, 0, none⟩ = some (.int .i64 N') ∧ w'.cell? ⟨w7.heap.size, 1, none⟩ = some (.slice D' n' n') ∧ Ext w9 w')
        (first | exact ⟨x0, x1, y0, y1, z0, z1, v0, v1, (Ext.refl w9).drew⟩ | (go_split_ands; exact ⟨Ext.cell hx (by assumption), Ext.cell hx (by assumption), Ext.cell hx (by assumption), Ext.cell hx (by assumption), Ext.cell hx (by assumption), Ext.cell hx (by assumption), Ext.cell hx (by assumption), Ext.cell hx (by assumption), Ext.trans (by assumption) hx⟩))
        (first | (go_at_call 30; go_split_ands; refine (toCircuit_any N' A' n' c' L' _ (rd'.ext (Ext.trans h09 (by assumption))) HL'.out hn2').mono ?_; rintro e w' ⟨E, rfl, fE, hx⟩) | (go_at_call 32; go_split_ands; refine (eqCircuit_any N' N' D' E n' n' n' n' L' L' _ (fD'.ext (by assumption)).rd fE.rd HL'.out HL'.out (by omega) (by omega)).mono ?_; rintro e w10 ⟨rfl, hx⟩))
      go_split_ands
      go_wp2
      go_ret
      exact ⟨rfl, h09.trans (by assumption)⟩
end Go.Proofs.Ytjhnhmjnhnighaa
