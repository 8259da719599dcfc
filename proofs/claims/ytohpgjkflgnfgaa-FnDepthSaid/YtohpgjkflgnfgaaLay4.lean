/-
  Contracts of CircuitLayers and CircuitDepth for every circuit. Conditions: the slice reads as a row.
-/
import Derived.Test.YtohpgjkflgnfgaaLay3
set_option linter.unusedSimpArgs false
set_option linter.unusedVariables false
namespace Go.Proofs.Ytohpgjkflgnfgaa
open Go.RowKit
def lays (N : Int) (L : List Int) (n : Nat) : List (List Int) := if validC N L n = true then layersTo L n else []
theorem validC_n {N : Int} {L : List Int} {n : Nat} (h : validC N L n = true) : n ≤ 60 := by
  unfold validC at h
  exact (of_decide_eq_true h).2.1
theorem lays_len (N : Int) (L : List Int) (n : Nat) : (lays N L n).length ≤ 60 := by
  unfold lays
  split
  · rename_i h
    have := layersTo_len L n
    have := validC_n h
    omega
  · simp
theorem Fr2.nil (w : World) (sz lo hi : Nat) (A : Option Addr) : Fr2 w sz lo hi A [] [] :=
  ⟨Fr.nil _ _ _ _, rfl, fun j R hR => by simp at hR, fun i j u v b _ h => by simp at h, fun j u a h => by simp at h⟩
theorem impl_layers_no (N : Int) (A : Option Addr) (n c : Nat) (L : List Int) (w : World) (hA : Rd w A (ints L)) (hl : L.length = n * 4) (hn : n ≤ 1048576) (hv : validC N L n = false) :
    Calls Try.prog 13 #[.agg #[.int .i64 N, .slice A n c]] w fun e w' => ∃ G cG, e = .returned (.slice G 0 cG) ∧ Ext w w' := by
  have HL := Lib.hid hl
  clear hl
  go_enter Try.func13, Try.ntmps13
  go_wp2_with fail
  refine (impl_validC N A n c L _ (hA.ext (by repeat (first | exact Ext.refl _ | assumption | refine Ext.alloc ?_ _ | refine Ext.drew ?_ | refine Ext.drewN ?_ _ | refine Ext.trans ?_ (by assumption)))) HL.out (by omega)).mono ?_
  rintro e w1 ⟨rfl, h1⟩
  go_wp2
  go_ret
  exact ⟨_, _, rfl, (by repeat (first | exact Ext.refl _ | assumption | refine Ext.alloc ?_ _ | refine Ext.drew ?_ | refine Ext.drewN ?_ _ | refine Ext.trans ?_ (by assumption)))⟩
theorem impl_layers (N : Int) (A : Option Addr) (n c : Nat) (L : List Int) (w : World) (hA : Rd w A (ints L)) (hl : L.length = n * 4) (hn : n ≤ 1048576) :
    Calls Try.prog 13 #[.agg #[.int .i64 N, .slice A n c]] w fun e w' => ∃ G cG vs, e = .returned (.slice G (lays N L n).length cG) ∧ Fr2 w' 4 w.heap.size w'.heap.size G (lays N L n) vs ∧ Ext w w' := by
  by_cases hv : validC N L n = true
  · refine (impl_layers_yes N A n c L w hA hl (validC_n hv) hv).mono ?_
    rintro e w1 ⟨G, cG, vs, rfl, own, h1⟩
    have e0 : lays N L n = layersTo L n := by unfold lays; rw [if_pos hv]
    rw [e0]
    exact ⟨G, cG, vs, rfl, own.fr (by decide), h1⟩
  · refine (impl_layers_no N A n c L w hA hl hn (by simpa using hv)).mono ?_
    rintro e w1 ⟨G, cG, rfl, h1⟩
    have e0 : lays N L n = [] := by unfold lays; rw [if_neg hv]
    rw [e0]
    exact ⟨G, cG, [], rfl, Fr2.nil _ _ _ _ _, h1⟩
theorem impl_depth (N : Int) (A : Option Addr) (n c : Nat) (L : List Int) (w : World) (hA : Rd w A (ints L)) (hl : L.length = n * 4) (hn : n ≤ 1048576) :
    Calls Try.prog 10 #[.agg #[.int .i64 N, .slice A n c]] w fun e w' => e = .returned (.int .i64 (lays N L n).length) ∧ Ext w w' := by
  have HL := Lib.hid hl
  clear hl
  go_enter Try.func10, Try.ntmps10
  go_wp2_with fail
  refine (impl_layers N A n c L _ (hA.ext (by repeat (first | exact Ext.refl _ | assumption | refine Ext.alloc ?_ _ | refine Ext.drew ?_ | refine Ext.drewN ?_ _ | refine Ext.trans ?_ (by assumption)))) HL.out hn).mono ?_
  rintro e w1 ⟨G, cG, vs, rfl, _, h1⟩
  go_wp2
  go_ret
  exact ⟨rfl, (by repeat (first | exact Ext.refl _ | assumption | refine Ext.alloc ?_ _ | refine Ext.drew ?_ | refine Ext.drewN ?_ _ | refine Ext.trans ?_ (by assumption)))⟩
theorem spec_layers_no (N : Int) (A : Option Addr) (n c : Nat) (L : List Int) (w : World) (hA : Rd w A (ints L)) (hl : L.length = n * 4) (hn : n ≤ 1048576) (hv : validC N L n = false) :
    Calls Try.prog 12 #[.agg #[.int .i64 N, .slice A n c]] w fun e w' => ∃ G cG, e = .returned (.slice G 0 cG) ∧ Ext w w' := by
  have HL := Lib.hid hl
  clear hl
  go_enter Try.func12, Try.ntmps12
  go_wp2_with fail
  refine (spec_validC N A n c L _ (hA.ext (by repeat (first | exact Ext.refl _ | assumption | refine Ext.alloc ?_ _ | refine Ext.drew ?_ | refine Ext.drewN ?_ _ | refine Ext.trans ?_ (by assumption)))) HL.out (by omega)).mono ?_
  rintro e w1 ⟨rfl, h1⟩
  go_wp2
  go_ret
  exact ⟨_, _, rfl, (by repeat (first | exact Ext.refl _ | assumption | refine Ext.alloc ?_ _ | refine Ext.drew ?_ | refine Ext.drewN ?_ _ | refine Ext.trans ?_ (by assumption)))⟩
theorem spec_layers (N : Int) (A : Option Addr) (n c : Nat) (L : List Int) (w : World) (hA : Rd w A (ints L)) (hl : L.length = n * 4) (hn : n ≤ 1048576) :
    Calls Try.prog 12 #[.agg #[.int .i64 N, .slice A n c]] w fun e w' => ∃ G cG vs, e = .returned (.slice G (lays N L n).length cG) ∧ Fr2 w' 4 w.heap.size w'.heap.size G (lays N L n) vs ∧ Ext w w' := by
  by_cases hv : validC N L n = true
  · refine (spec_layers_yes N A n c L w hA hl (validC_n hv) hv).mono ?_
    rintro e w1 ⟨G, cG, vs, rfl, own, h1⟩
    have e0 : lays N L n = layersTo L n := by unfold lays; rw [if_pos hv]
    rw [e0]
    exact ⟨G, cG, vs, rfl, own.fr (by decide), h1⟩
  · refine (spec_layers_no N A n c L w hA hl hn (by simpa using hv)).mono ?_
    rintro e w1 ⟨G, cG, rfl, h1⟩
    have e0 : lays N L n = [] := by unfold lays; rw [if_neg hv]
    rw [e0]
    exact ⟨G, cG, [], rfl, Fr2.nil _ _ _ _ _, h1⟩
theorem spec_depth (N : Int) (A : Option Addr) (n c : Nat) (L : List Int) (w : World) (hA : Rd w A (ints L)) (hl : L.length = n * 4) (hn : n ≤ 1048576) :
    Calls Try.prog 8 #[.agg #[.int .i64 N, .slice A n c]] w fun e w' => e = .returned (.int .i64 (lays N L n).length) ∧ Ext w w' := by
  have HL := Lib.hid hl
  clear hl
  go_enter Try.func8, Try.ntmps8
  go_wp2_with fail
  refine (spec_layers N A n c L _ (hA.ext (by repeat (first | exact Ext.refl _ | assumption | refine Ext.alloc ?_ _ | refine Ext.drew ?_ | refine Ext.drewN ?_ _ | refine Ext.trans ?_ (by assumption)))) HL.out hn).mono ?_
  rintro e w1 ⟨G, cG, vs, rfl, _, h1⟩
  go_wp2
  go_ret
  exact ⟨rfl, (by repeat (first | exact Ext.refl _ | assumption | refine Ext.alloc ?_ _ | refine Ext.drew ?_ | refine Ext.drewN ?_ _ | refine Ext.trans ?_ (by assumption)))⟩
set_option maxRecDepth 20000 in
set_option maxHeartbeats 1600000 in
theorem walk_FnExactCircuitDepth (w : World) (N : Int) (A : Option Addr) (n c : Nat) (L : List Int) (wN : (Lit.int .i64 N).wf = true) (rd : Rd w A (ints L)) (hl : L.length = n * 4) (hn : n ≤ maxLen) (wl : ∀ x ∈ L, (Lit.int .i64 x).wf = true) :
    Calls Try.prog 3 #[.agg #[.int .i64 N, .slice A n c]] w fun e w' => e = .returned (.bool true) ∧ Ext w w' := by
  clear wl wN
  have HL := Lib.hid hl
  clear hl
  unfold maxLen at hn
  by_cases hbig : (1048576 : Int) - n < 0
  · have hz : szL 1048576 n = -1 := by unfold szL; simp [hbig]
    go_enter Try.func3, Try.ntmps3
    go_wp2_with fail
    refine (szCircuit_any _ _ _ _ _ _ hn (by omega) (by omega)).mono ?_
    rintro e w1 ⟨rfl, h1⟩
    go_wp2
    go_ret
    exact ⟨rfl, (by repeat (first | exact Ext.refl _ | assumption | refine Ext.alloc ?_ _ | refine Ext.drew ?_ | refine Ext.drewN ?_ _ | refine Ext.trans ?_ (by assumption)))⟩
  · have hz : szL 1048576 n = 1048576 - n := by unfold szL; simp [hbig]
    have hn2 : n ≤ 1048576 := by omega
    have hnn : ¬ ((1048576 : Int) - n < 0) := by omega
    obtain ⟨d, hd⟩ : ∃ d, d = (lays N L n).length := ⟨_, rfl⟩
    have HCs := Lib.hid (fun A W hW => spec_depth N A n n L W hW HL.out hn2)
    have HCi := Lib.hid (fun A W hW => impl_depth N A n n L W hW HL.out hn2)
    rw [← hd] at HCs HCi
    clear hd
    go_enter Try.func3, Try.ntmps3
    go_wp2_with fail
    refine (szCircuit_any _ _ _ _ _ _ hn (by omega) (by omega)).mono ?_
    rintro e w1 ⟨rfl, h1⟩
    have x := (Blk.new _ _ _).ext h1
    obtain ⟨xc, xf, xz⟩ := x.all
    have h01 : Ext w w1 := (by repeat (first | exact Ext.refl _ | assumption | refine Ext.alloc ?_ _ | refine Ext.drew ?_ | refine Ext.drewN ?_ _ | refine Ext.trans ?_ (by assumption)))
    clear h1
    go_wp2_with fail
    refine (toCircuit_any N A n c L _ (rd.ext h01) HL.out hn2).mono ?_
    rintro e w2 ⟨B1, rfl, fB1, h2⟩
    clear xc xf xz
    replace x := Blk.to x h2 (by repeat (first | exact Ext.refl _ | assumption | refine Ext.alloc ?_ _ | refine Ext.drew ?_ | refine Ext.drewN ?_ _ | refine Ext.trans ?_ (by assumption)))
    obtain ⟨xc, xf, xz⟩ := x.all
    go_wp2_with fail
    refine (HCs.out B1 _ fB1.rd).mono ?_
    rintro e w3 ⟨rfl, h3⟩
    clear xc xf xz
    replace x := Blk.to x h3 (by repeat (first | exact Ext.refl _ | assumption | refine Ext.alloc ?_ _ | refine Ext.drew ?_ | refine Ext.drewN ?_ _ | refine Ext.trans ?_ (by assumption)))
    obtain ⟨xc, xf, xz⟩ := x.all
    have h03 := h01.trans (h2.trans h3)
    clear fB1 h2 h3 h01
    go_wp2_with fail
    refine (toCircuit_any N A n c L _ (rd.ext h03) HL.out hn2).mono ?_
    rintro e w4 ⟨D, rfl, fD, h4⟩
    clear xc xf xz
    replace x := Blk.to x h4 (by repeat (first | exact Ext.refl _ | assumption | refine Ext.alloc ?_ _ | refine Ext.drew ?_ | refine Ext.drewN ?_ _ | refine Ext.trans ?_ (by assumption)))
    obtain ⟨xc, xf, xz⟩ := x.all
    have h04 := h03.trans h4
    clear h4 h03
    go_wp2_with fail
    refine (HCi.out D _ (fD.ext ((Ext.refl _).alloc _)).rd).mono ?_
    rintro e w5 ⟨rfl, h5⟩
    clear xc xf xz
    replace x := Blk.to x h5 (by repeat (first | exact Ext.refl _ | assumption | refine Ext.alloc ?_ _ | refine Ext.drew ?_ | refine Ext.drewN ?_ _ | refine Ext.trans ?_ (by assumption)))
    obtain ⟨xc, xf, xz⟩ := x.all
    have z := (Blk.new w4 29 #[.int .i64 N, .slice D n n]).ext h5
    obtain ⟨zc, zf, zz⟩ := z.all
    replace fD := fD.ext (Ext.trans ((Ext.refl w4).alloc _) h5)
    have h05 := (h04.alloc _).trans h5
    clear h5 h04
    have p0 := xc 0
    have p1 := xc 1
    have q0 := zc 0
    have q1 := zc 1
    simp only [List.getElem?_toArray, List.getElem?_cons_zero, List.getElem?_cons_succ] at p0 p1 q0 q1
    clear xc xf xz zc zf zz
    have hdd : ((d : Int) != (d : Int)) = false := by simp
    go_wp2_with fail
    go_region_held3 (fun w' => w'.cell? ⟨w.heap.size, 0, none⟩ = some (.int .i64 N) ∧ w'.cell? ⟨w.heap.size, 1, none⟩ = some (.slice A n c) ∧ w'.cell? ⟨w4.heap.size, 0, none⟩ = some (.int .i64 N) ∧ w'.cell? ⟨w4.heap.size, 1, none⟩ = some (.slice D n n) ∧ Ext w5 w')
      (first | exact ⟨p0, p1, q0, q1, (Ext.refl w5).drew⟩ | (go_split_ands; exact ⟨Ext.cell hx (by assumption), Ext.cell hx (by assumption), Ext.cell hx (by assumption), Ext.cell hx (by assumption), Ext.trans (by assumption) hx⟩))
      (first | (go_at_call 9; go_split_ands; refine (toCircuit_any N A n c L _ (rd.ext (Ext.trans h05 (by assumption))) HL.out hn2).mono ?_; rintro e w' ⟨E, rfl, fE, hx⟩) | (go_at_call 11; go_split_ands; refine (eqCircuit_any N N D E n n n n L L _ (fD.ext (by assumption)).rd fE.rd HL.out HL.out (by omega) (by omega)).mono ?_; rintro e w7 ⟨rfl, hx⟩))
    go_split_ands
    go_wp2
    go_ret
    exact ⟨rfl, h05.trans (by assumption)⟩
end Go.Proofs.Ytohpgjkflgnfgaa
