/-
  Contracts of RelabelCircuit. Conditions: the slices read as rows.
-/
import Derived.Test.YtilkbccpcbelgaaRel
import Derived.Deep.RegionLaw
set_option linter.unusedSimpArgs false
set_option linter.unusedVariables false
namespace Go.Proofs.Ytilkbccpcbelgaa
open Go.RowKit
def relC (p L : List Int) : Nat → List Int
  | 0 => []
  | j + 1 => relC p L j ++ [L.getD (j * 4) 0, mvA p (L.getD (j * 4 + 1) 0), mvB p (L.getD (j * 4) 0) (L.getD (j * 4 + 2) 0), mvC p (L.getD (j * 4) 0) (L.getD (j * 4 + 3) 0)]
theorem relC_length (p L : List Int) : ∀ j, (relC p L j).length = j * 4
  | 0 => rfl
  | j + 1 => by simp [relC, relC_length p L j]; omega
def relOk (N : Int) (L : List Int) (n : Nat) (p : List Int) : Prop := validC N L n = true ∧ isPerm p = true ∧ (p.length : Int) = N
theorem validC_at {N : Int} {L : List Int} {n j : Nat} (h : validC N L n = true) (hj : j < n) : validG (L.getD (j * 4) 0) (L.getD (j * 4 + 1) 0) (L.getD (j * 4 + 2) 0) (L.getD (j * 4 + 3) 0) N = true := by
  unfold validC at h
  exact (of_decide_eq_true h).2.2 j hj
theorem own_set {w : World} {base : Nat} {e : TypeId} {size n : Nat} {v : Value} {xs : List Value} {g : Nat} {cs : Array Value} {t : TypeId} (h : w.ownsRow base e size v n xs) (hg : w.heap[g]? = some (.cells cs t (0, 0))) (hne : t ≠ e) (i : Nat) (u : Value) :
    (w.setCell ⟨g, i, none⟩ u).ownsRow base e size v n xs := by
  obtain ⟨hl, h0 | ⟨g', cap, cur, hv, hb, hh, hx⟩⟩ := h
  · exact ⟨hl, .inl h0⟩
  · have hgg : g' ≠ g := by
      rintro rfl
      rw [hg] at hh
      injection hh with hh
      injection hh with _ hh
      exact hne hh
    exact ⟨hl, .inr ⟨g', cap, cur, hv, hb, (Below.heap_setCell _ _ _ _ (by simpa using hgg)).trans hh, hx⟩⟩
theorem own_nil (w : World) (base : Nat) (e : TypeId) (size : Nat) : w.ownsRow base e size (.slice none 0 0) 0 [] := ⟨by simp, .inl ⟨rfl, rfl⟩⟩
theorem heap_set1 {w : World} {g : Nat} {t : TypeId} {a b y : Value} (h : w.heap[g]? = some (.cells #[a, b] t (0, 0))) : (w.setCell ⟨g, 1, none⟩ y).heap[g]? = some (.cells #[a, y] t (0, 0)) := by
  simp [World.setCell, Array.getElem?_modify, h]
/-- Appending one gate, made just now, to a row of gates that lies in the second field of a circuit of the call's own. -/
theorem app_gate {w2 : World} {v N : Value} {j : Nat} {xs : List Value} (w3 : World) (q0 q1 q2 q3 : Int) (own : w3.ownsRow w2.heap.size 80 4 v j xs) (hC : w3.heap[w2.heap.size]? = some (.cells #[N, v] 28 (0, 0))) (he : Ext w2 w3)
    {ops : Array Oper} {o : Oper} {a : Act} {K : Act → World → Prop} {Q : Exit → Act → World → Prop} {E : Prop} {i0 : TypeInfo} {s x : Operand}
    (hi : Try.prog.info? 80 = some i0) (hz0 : i0.zero = some (.agg #[.int .i64 0, .int .i64 0, .int .i64 0, .int .i64 0])) (hz1 : i0.size = 4) (hz2 : i0.bytes = 32)
    (hgd : o.guard = none) (ho : o.op = .call { callee := .builtin .append, args := #[s, x], argTypes := #[26, 26] }) (hs : a.eval s = v) (hx : a.eval x = .slice (some ⟨w3.heap.size, 0, none⟩) 1 1)
    (h63 : j + 1 ≤ maxLen) (hb : (j + 1) * 32 ≤ 140737488355328)
    (h0 : ∀ G cG w4, w4.ownsRow w2.heap.size 80 4 (.slice G (j + 1) cG) (j + 1) (xs ++ ints [q0, q1, q2, q3]) → Ext w2 w4 → w4.heap[w2.heap.size]? = some (.cells #[N, v] 28 (0, 0)) → K (a.put o.dst (.slice G (j + 1) cG)) w4) :
    if Region.wanted o (yielded ops a.tmps) = true then Oper.wp Try.prog o a (w3.alloc (.cells #[.int .i64 q0, .int .i64 q1, .int .i64 q2, .int .i64 q3] 80)) K Q else E := by
  have rd2 : Rd (w3.alloc (.cells #[.int .i64 q0, .int .i64 q1, .int .i64 q2, .int .i64 q3] 80)) (some ⟨w3.heap.size, 0, none⟩) (ints [q0, q1, q2, q3]) :=
    (Fr.of_blk (lo := 0) (hi := w3.heap.size + 1) (off := 0) (Blk.new w3 80 #[.int .i64 q0, .int .i64 q1, .int .i64 q2, .int .i64 q3]) (Nat.zero_le _) (Nat.lt_succ_self _) (fun j u hu => by rw [Nat.zero_add]; simpa [ints] using hu)).rd
  have zz := he.size
  have own' := own.alloc (.cells #[.int .i64 q0, .int .i64 q1, .int .i64 q2, .int .i64 q3] 80)
  have hC' := Ext.blk ((Ext.refl w3).alloc (.cells #[.int .i64 q0, .int .i64 q1, .int .i64 q2, .int .i64 q3] 80)) hC
  refine step_append_rd hgd s x 26 ho w2.heap.size 80 i0 (.agg #[.int .i64 0, .int .i64 0, .int .i64 0, .int .i64 0]) 4 32 Try.underlying26 hi hz0 hz1 hz2 rfl (by decide) v j xs hs own' (some ⟨w3.heap.size, 0, none⟩) 1 1 (ints [q0, q1, q2, q3]) hx rfl rd2 (fun h => by cases h) (ints_one _) h63 hb (by simp; omega) ?_
  intro G cG w4 own4 hgr hkb
  exact h0 G cG w4 own4 (hgr w2 (he.alloc _) (Nat.le_refl _)) (hkb _ _ hC' (own_other own' hC' (by decide)))
set_option maxRecDepth 20000 in
set_option maxHeartbeats 3200000 in
theorem impl_relabel_yes (N : Int) (A B : Option Addr) (n m : Nat) (L p : List Int) (w : World) (hA : Rd w A (ints L)) (hB : Rd w B (ints p)) (hl : L.length = n * 4) (hp : p.length = m) (hn : n ≤ 1048576) (hm : m ≤ 1048576) (o1 : validC N L n = true) (o2 : isPerm p = true) (o3 : N = (m : Int)) :
    Calls Try.prog 26 #[.agg #[.int .i64 N, .slice A n n], .slice B m m] w fun e w' => ∃ G cG, e = .returned (.tuple #[.agg #[.int .i64 N, .slice G n cG], .bool true]) ∧ Fr w' w.heap.size w'.heap.size G (ints (relC p L n)) ∧ Ext w w' := by
  have HL := Lib.hid hl
  have HP := Lib.hid hp
  have HN := Lib.hid o3
  have HV := Lib.hid o1
  have hnm : (((m : Int)) != N) = false := by rw [o3]; simp
  clear hl hp o3
  obtain ⟨i0, hi, hz0, hz1, hz2⟩ := info_parts info_gate
  go_enter Try.func26, Try.ntmps26
  go_wp2_with fail
  refine (impl_validC N A n n L _ (hA.ext (by repeat (first | exact Ext.refl _ | assumption | refine Ext.alloc ?_ _ | refine Ext.drew ?_ | refine Ext.drewN ?_ _ | refine Ext.trans ?_ (by assumption)))) HL.out (by omega)).mono ?_
  rintro e w1 ⟨rfl, h1⟩
  have x := Blk.to (Blk.new w 28 #[.int .i64 N, .slice A n n]) h1 (by repeat (first | exact Ext.refl _ | assumption | refine Ext.alloc ?_ _ | refine Ext.drew ?_ | refine Ext.drewN ?_ _ | refine Ext.trans ?_ (by assumption)))
  have rr := (Blk.new (w.alloc (.cells #[.int .i64 N, .slice A n n] 28)) 28 #[.int .i64 0, .slice none 0 0]).ext h1
  simp only [World.size_alloc] at rr
  have h01 : Ext w w1 := (by repeat (first | exact Ext.refl _ | assumption | refine Ext.alloc ?_ _ | refine Ext.drew ?_ | refine Ext.drewN ?_ _ | refine Ext.trans ?_ (by assumption)))
  clear h1
  go_wp2_with fail
  refine (impl_isPerm B m m p _ (hB.ext h01) HP.out (by omega)).mono ?_
  rintro e w2 ⟨rfl, h2⟩
  replace x := x.ext h2
  replace rr := rr.ext h2
  have h02 : Ext w w2 := h01.trans h2
  obtain ⟨xc, xf, xz⟩ := x.all
  obtain ⟨rrc, rrf, rrz⟩ := rr.all
  clear h01 h2
  go_wp2
  clear xc xf rrc rrf
  have hz3 : w.heap.size ≤ w2.heap.size := h02.size
  go_loopw [8, 31] (fun _ i wr => ∃ (j : Nat) (v : Value), j ≤ n ∧ i = .int .i64 j ∧ wr.heap[w2.heap.size]? = some (.cells #[.int .i64 N, v] 28 (0, 0)) ∧ wr.ownsRow w2.heap.size 80 4 v j (ints (relC p L j)) ∧ Ext w2 wr) (fun _ i _ => n - (intOf i).toNat)
  case atStart => exact ⟨0, _, Nat.zero_le _, rfl, heap_alloc_new _ _, own_nil _ _ _ _, (by repeat (first | exact Ext.refl _ | assumption | refine Ext.alloc ?_ _ | refine Ext.drew ?_ | refine Ext.drewN ?_ _ | refine Ext.trans ?_ (by assumption)))⟩
  case round =>
    obtain ⟨j, v, hj, rfl, bC, own, he⟩ := hrel
    by_cases hlt : j < n
    · obtain ⟨g, off, rfl, hc⟩ := (hA.ext (h02.trans he)).four HL.out (by omega)
      obtain ⟨x0, x1, x2, x3⟩ := hc j hlt
      have HG := Lib.hid (validC_at HV.out hlt)
      have HS : Hid (relC p L (j + 1) = relC p L j ++ [L.getD (j * 4) 0, mvA p (L.getD (j * 4 + 1) 0), mvB p (L.getD (j * 4) 0) (L.getD (j * 4 + 2) 0), mvC p (L.getD (j * 4) 0) (L.getD (j * 4 + 3) 0)]) := rfl
      clear hc
      generalize L.getD (j * 4) 0 = p0 at *
      generalize L.getD (j * 4 + 1) 0 = p1 at *
      generalize L.getD (j * 4 + 2) 0 = p2 at *
      generalize L.getD (j * 4 + 3) 0 = p3 at *
      go_wp2_with fail
      obtain ⟨W1, hW1⟩ : ∃ W1, W1 = wr.alloc (.cells #[.int .i64 p0, .int .i64 p1, .int .i64 p2, .int .i64 p3] 80) := ⟨_, rfl⟩
      rw [← hW1]
      have bG : Blk W1 wr.heap.size #[.int .i64 p0, .int .i64 p1, .int .i64 p2, .int .i64 p3] := by rw [hW1]; exact Blk.new _ _ _
      have HC : Hid (W1.heap[w2.heap.size]? = some (.cells #[.int .i64 N, v] 28 (0, 0))) := by
        show _ = _
        rw [hW1]; exact Ext.blk ((Ext.refl wr).alloc _) bC
      have HO : Hid (W1.ownsRow w2.heap.size 80 4 v j (ints (relC p L j))) := by rw [hW1]; exact own.alloc _
      have he1 : Ext w2 W1 := by rw [hW1]; exact he.alloc _
      have h01 : Ext w W1.drew := (h02.trans he1).drew
      clear hW1 own he bC x0 x1 x2 x3
      have d0 := bG.all.1 0
      have d1 := bG.all.1 1
      have d2 := bG.all.1 2
      have d3 := bG.all.1 3
      have cv := (Blk.all ⟨_, HC.out⟩).1 1
      simp only [List.getElem?_toArray, List.getElem?_cons_zero, List.getElem?_cons_succ] at d0 d1 d2 d3 cv
      clear bG
      generalize wr.heap.size = D at *
      go_region_law (first | (go_simp; go_at_call 67; refine (impl_movedG p0 p1 p2 p3 m m B p _ (hB.ext h01) HP.out (by rw [← HN.out]; exact HG.out)).mono ?_; rintro e w3 ⟨rfl, hx0⟩; have hx : Ext W1 w3 := Ext.trans (Ext.drew (Ext.refl W1)) hx0; clear hx0; have cv3 := Ext.cell hx cv; have cv4 := (fun o => Ext.cell ((Ext.refl w3).alloc o) cv3); have he3 := Ext.trans he1 hx; have zz3 := he3.size; have HO3 := Lib.hid (own_at HO.out hx); have HC3 := Lib.hid (Ext.blk hx HC.out); clear hx) | (refine app_gate w3 p0 (mvA p p1) (mvB p p0 p2) (mvC p p0 p3) HO3.out HC3.out he3 hi hz0 hz1 hz2 (by rfl) (by rfl) (by rfl) (by rfl) (by unfold maxLen; omega) (by omega) ?_; intro G cG w4 own4 he4 bk; obtain ⟨bc, bf, bz⟩ := Blk.all ⟨_, bk⟩; have HB := Lib.hid bk; have HO4 := Lib.hid own4; clear bk own4))
      all_goals
        clear cv d0 d1 d2 d3 cv3 cv4 hi hz0 hz1 hz2
        go_wp2
        go_roundw
        case rel => exact ⟨j + 1, _, by omega, by go_num, heap_set1 HB.out, own_set (by rw [HS.out, ints_app]; exact HO4.out) HB.out (by decide) 1 _, he4.setCell (Nat.le_refl _) _⟩
        case measure => simp [intOf]; omega
    · obtain rfl : j = n := by omega
      obtain ⟨G, cap, rfl⟩ := own_form own
      have hf := Fr.of_own own
      obtain ⟨bc, bf, bz⟩ := Blk.all ⟨_, bC⟩
      replace rr := rr.ext he
      obtain ⟨rrc, rrf, rrz⟩ := rr.all
      have hrz : w.heap.size + 1 + 1 ≤ w2.heap.size := by omega
      clear own hi hz0 hz1 hz2 bf
      go_wp2
      exact bodyPost_ret (v := .tuple #[.agg #[.int .i64 N, .slice G j cap], .bool true]) (by simp [results, Try.results26, go_sem, rrc, rrz]) rfl ⟨G, cap, rfl, by rw [size_set2]; exact (hf.set2 (C := w.heap.size + 1) hrz _ _).mono hz3 (Nat.le_refl _), ((h02.trans he).setCell (Nat.le_succ _) _).setCell (Nat.le_succ _) _⟩
set_option maxRecDepth 20000 in
set_option maxHeartbeats 3200000 in
theorem spec_relabel_yes (N : Int) (A B : Option Addr) (n m : Nat) (L p : List Int) (w : World) (hA : Rd w A (ints L)) (hB : Rd w B (ints p)) (hl : L.length = n * 4) (hp : p.length = m) (hn : n ≤ 1048576) (hm : m ≤ 1048576) (o1 : validC N L n = true) (o2 : isPerm p = true) (o3 : N = (m : Int)) :
    Calls Try.prog 24 #[.agg #[.int .i64 N, .slice A n n], .slice B m m] w fun e w' => ∃ G cG, e = .returned (.tuple #[.agg #[.int .i64 N, .slice G n cG], .bool true]) ∧ Fr w' w.heap.size w'.heap.size G (ints (relC p L n)) ∧ Ext w w' := by
  have HL := Lib.hid hl
  have HP := Lib.hid hp
  have HN := Lib.hid o3
  have HV := Lib.hid o1
  have hnm : (((m : Int)) != N) = false := by rw [o3]; simp
  clear hl hp o3
  obtain ⟨i0, hi, hz0, hz1, hz2⟩ := info_parts info_gate
  go_enter Try.func24, Try.ntmps24
  go_wp2_with fail
  refine (spec_validC N A n n L _ (hA.ext (by repeat (first | exact Ext.refl _ | assumption | refine Ext.alloc ?_ _ | refine Ext.drew ?_ | refine Ext.drewN ?_ _ | refine Ext.trans ?_ (by assumption)))) HL.out (by omega)).mono ?_
  rintro e w1 ⟨rfl, h1⟩
  have x := Blk.to (Blk.new w 28 #[.int .i64 N, .slice A n n]) h1 (by repeat (first | exact Ext.refl _ | assumption | refine Ext.alloc ?_ _ | refine Ext.drew ?_ | refine Ext.drewN ?_ _ | refine Ext.trans ?_ (by assumption)))
  have rr := (Blk.new (w.alloc (.cells #[.int .i64 N, .slice A n n] 28)) 28 #[.int .i64 0, .slice none 0 0]).ext h1
  simp only [World.size_alloc] at rr
  have h01 : Ext w w1 := (by repeat (first | exact Ext.refl _ | assumption | refine Ext.alloc ?_ _ | refine Ext.drew ?_ | refine Ext.drewN ?_ _ | refine Ext.trans ?_ (by assumption)))
  clear h1
  go_wp2_with fail
  refine (spec_isPerm B m m p _ (hB.ext h01) HP.out (by omega) (Nat.le_refl _)).mono ?_
  rintro e w2 ⟨rfl, h2⟩
  replace x := x.ext h2
  replace rr := rr.ext h2
  have h02 : Ext w w2 := h01.trans h2
  obtain ⟨xc, xf, xz⟩ := x.all
  obtain ⟨rrc, rrf, rrz⟩ := rr.all
  clear h01 h2
  go_wp2
  clear xc xf rrc rrf
  have hz3 : w.heap.size ≤ w2.heap.size := h02.size
  go_loopw [7] (fun i wr => ∃ (j : Nat) (v : Value), j ≤ n ∧ i = .int .i64 j ∧ wr.heap[w2.heap.size]? = some (.cells #[.int .i64 N, v] 28 (0, 0)) ∧ wr.ownsRow w2.heap.size 80 4 v j (ints (relC p L j)) ∧ Ext w2 wr) (fun i _ => n - (intOf i).toNat)
  case atStart => exact ⟨0, _, Nat.zero_le _, rfl, heap_alloc_new _ _, own_nil _ _ _ _, (by repeat (first | exact Ext.refl _ | assumption | refine Ext.alloc ?_ _ | refine Ext.drew ?_ | refine Ext.drewN ?_ _ | refine Ext.trans ?_ (by assumption)))⟩
  case round =>
    obtain ⟨j, v, hj, rfl, bC, own, he⟩ := hrel
    by_cases hlt : j < n
    · obtain ⟨g, off, rfl, hc⟩ := (hA.ext (h02.trans he)).four HL.out (by omega)
      obtain ⟨x0, x1, x2, x3⟩ := hc j hlt
      have HG := Lib.hid (validC_at HV.out hlt)
      have HS : Hid (relC p L (j + 1) = relC p L j ++ [L.getD (j * 4) 0, mvA p (L.getD (j * 4 + 1) 0), mvB p (L.getD (j * 4) 0) (L.getD (j * 4 + 2) 0), mvC p (L.getD (j * 4) 0) (L.getD (j * 4 + 3) 0)]) := rfl
      clear hc
      generalize L.getD (j * 4) 0 = p0 at *
      generalize L.getD (j * 4 + 1) 0 = p1 at *
      generalize L.getD (j * 4 + 2) 0 = p2 at *
      generalize L.getD (j * 4 + 3) 0 = p3 at *
      have bx := (x.ext he).all.1 1
      have cv := (Blk.all ⟨_, bC⟩).1 1
      simp only [List.getElem?_toArray, List.getElem?_cons_zero, List.getElem?_cons_succ] at bx cv
      have h01 : Ext w wr.drew := (h02.trans he).drew
      have hjI : (j : Int) < (n : Int) := by omega
      have HC := Lib.hid bC
      have HO := Lib.hid own
      have he1 := he
      clear own he bC
      go_wp2_with fail
      go_region_law (first | (go_simp; go_at_call 65; refine (spec_movedG p0 p1 p2 p3 m m B p _ (hB.ext h01) HP.out (by rw [← HN.out]; exact HG.out)).mono ?_; rintro e w3 ⟨rfl, hx0⟩; have hx : Ext wr w3 := Ext.trans (Ext.drew (Ext.refl wr)) hx0; clear hx0; have cv3 := Ext.cell hx cv; have cv4 := (fun o => Ext.cell ((Ext.refl w3).alloc o) cv3); have he3 := Ext.trans he1 hx; have zz3 := he3.size; have HO3 := Lib.hid (own_at HO.out hx); have HC3 := Lib.hid (Ext.blk hx HC.out); clear hx) | (refine app_gate w3 p0 (mvA p p1) (mvB p p0 p2) (mvC p p0 p3) HO3.out HC3.out he3 hi hz0 hz1 hz2 (by rfl) (by rfl) (by rfl) (by rfl) (by unfold maxLen; omega) (by omega) ?_; intro G cG w4 own4 he4 bk; obtain ⟨bc, bf, bz⟩ := Blk.all ⟨_, bk⟩; have HB := Lib.hid bk; have HO4 := Lib.hid own4; clear bk own4))
      all_goals
        clear cv x0 x1 x2 x3 bx cv3 cv4 hi hz0 hz1 hz2
        go_wp2
        go_roundw
        case rel => exact ⟨j + 1, _, by omega, by go_num, heap_set1 HB.out, own_set (by rw [HS.out, ints_app]; exact HO4.out) HB.out (by decide) 1 _, he4.setCell (Nat.le_refl _) _⟩
        case measure => simp [intOf]; omega
    · obtain rfl : j = n := by omega
      have bx := (x.ext he).all.1 1
      simp only [List.getElem?_toArray, List.getElem?_cons_zero, List.getElem?_cons_succ] at bx
      obtain ⟨G, cap, rfl⟩ := own_form own
      have hf := Fr.of_own own
      obtain ⟨bc, bf, bz⟩ := Blk.all ⟨_, bC⟩
      replace rr := rr.ext he
      obtain ⟨rrc, rrf, rrz⟩ := rr.all
      have hrz : w.heap.size + 1 + 1 ≤ w2.heap.size := by omega
      clear own hi hz0 hz1 hz2 bf
      go_wp2
      exact bodyPost_ret (v := .tuple #[.agg #[.int .i64 N, .slice G j cap], .bool true]) (by simp [results, Try.results24, go_sem, rrc, rrz]) rfl ⟨G, cap, rfl, by rw [size_set2]; exact (hf.set2 (C := w.heap.size + 1) hrz _ _).mono hz3 (Nat.le_refl _), ((h02.trans he).setCell (Nat.le_succ _) _).setCell (Nat.le_succ _) _⟩
set_option maxHeartbeats 1600000 in
theorem impl_relabel_no (N : Int) (A B : Option Addr) (n m : Nat) (L p : List Int) (w : World) (hA : Rd w A (ints L)) (hB : Rd w B (ints p)) (hl : L.length = n * 4) (hp : p.length = m) (hn : n ≤ 1048576) (hm : m ≤ 1048576) (hno : ¬ relOk N L n p) :
    Calls Try.prog 26 #[.agg #[.int .i64 N, .slice A n n], .slice B m m] w fun e w' => ∃ G cG, e = .returned (.tuple #[.agg #[.int .i64 0, .slice G 0 cG], .bool false]) ∧ Fr w' w.heap.size w'.heap.size G (ints []) ∧ Ext w w' := by
  have HL := Lib.hid hl
  have HP := Lib.hid hp
  have HX : Hid (validC N L n = true → isPerm p = true → ((m : Int) != N) = true) := by
    show _ → _
    intro q1 q2
    by_cases h : (m : Int) = N
    · exact absurd ⟨q1, q2, by rw [hp]; exact h⟩ hno
    · simpa using h
  clear hl hp hno
  cases o1 : validC N L n with
  | false =>
    go_enter Try.func26, Try.ntmps26
    go_wp2_with fail
    refine (impl_validC N A n n L _ (hA.ext (by repeat (first | exact Ext.refl _ | assumption | refine Ext.alloc ?_ _ | refine Ext.drew ?_ | refine Ext.drewN ?_ _ | refine Ext.trans ?_ (by assumption)))) HL.out (by omega)).mono ?_
    rintro e w1 ⟨rfl, h1⟩
    have rr := (Blk.new (w.alloc (.cells #[.int .i64 N, .slice A n n] 28)) 28 #[.int .i64 0, .slice none 0 0]).ext h1
    simp only [World.size_alloc] at rr
    have h01 : Ext w w1 := (by repeat (first | exact Ext.refl _ | assumption | refine Ext.alloc ?_ _ | refine Ext.drew ?_ | refine Ext.drewN ?_ _ | refine Ext.trans ?_ (by assumption)))
    obtain ⟨rrc, rrf, rrz⟩ := rr.all
    clear h1
    go_wp2
    exact bodyPost_ret (v := .tuple #[.agg #[.int .i64 0, .slice none 0 0], .bool false]) (by simp [results, Try.results26, go_sem, rrc, rrz]) rfl ⟨none, 0, rfl, Fr.nil _ _ _ _, (h01.setCell (Nat.le_succ _) _).setCell (Nat.le_succ _) _⟩
  | true =>
  cases o2 : isPerm p with
  | false =>
    go_enter Try.func26, Try.ntmps26
    go_wp2_with fail
    refine (impl_validC N A n n L _ (hA.ext (by repeat (first | exact Ext.refl _ | assumption | refine Ext.alloc ?_ _ | refine Ext.drew ?_ | refine Ext.drewN ?_ _ | refine Ext.trans ?_ (by assumption)))) HL.out (by omega)).mono ?_
    rintro e w1 ⟨rfl, h1⟩
    have rr := (Blk.new (w.alloc (.cells #[.int .i64 N, .slice A n n] 28)) 28 #[.int .i64 0, .slice none 0 0]).ext h1
    simp only [World.size_alloc] at rr
    have h01 : Ext w w1 := (by repeat (first | exact Ext.refl _ | assumption | refine Ext.alloc ?_ _ | refine Ext.drew ?_ | refine Ext.drewN ?_ _ | refine Ext.trans ?_ (by assumption)))
    clear h1
    go_wp2_with fail
    refine (impl_isPerm B m m p _ (hB.ext h01) HP.out (by omega)).mono ?_
    rintro e w2 ⟨rfl, h2⟩
    replace rr := rr.ext h2
    have h02 : Ext w w2 := h01.trans h2
    obtain ⟨rrc, rrf, rrz⟩ := rr.all
    clear h01 h2
    go_wp2
    exact bodyPost_ret (v := .tuple #[.agg #[.int .i64 0, .slice none 0 0], .bool false]) (by simp [results, Try.results26, go_sem, rrc, rrz]) rfl ⟨none, 0, rfl, Fr.nil _ _ _ _, (h02.setCell (Nat.le_succ _) _).setCell (Nat.le_succ _) _⟩
  | true =>
    have hnm := HX.out o1 o2
    go_enter Try.func26, Try.ntmps26
    go_wp2_with fail
    refine (impl_validC N A n n L _ (hA.ext (by repeat (first | exact Ext.refl _ | assumption | refine Ext.alloc ?_ _ | refine Ext.drew ?_ | refine Ext.drewN ?_ _ | refine Ext.trans ?_ (by assumption)))) HL.out (by omega)).mono ?_
    rintro e w1 ⟨rfl, h1⟩
    have x := Blk.to (Blk.new w 28 #[.int .i64 N, .slice A n n]) h1 (by repeat (first | exact Ext.refl _ | assumption | refine Ext.alloc ?_ _ | refine Ext.drew ?_ | refine Ext.drewN ?_ _ | refine Ext.trans ?_ (by assumption)))
    have rr := (Blk.new (w.alloc (.cells #[.int .i64 N, .slice A n n] 28)) 28 #[.int .i64 0, .slice none 0 0]).ext h1
    simp only [World.size_alloc] at rr
    have h01 : Ext w w1 := (by repeat (first | exact Ext.refl _ | assumption | refine Ext.alloc ?_ _ | refine Ext.drew ?_ | refine Ext.drewN ?_ _ | refine Ext.trans ?_ (by assumption)))
    clear h1
    go_wp2_with fail
    refine (impl_isPerm B m m p _ (hB.ext h01) HP.out (by omega)).mono ?_
    rintro e w2 ⟨rfl, h2⟩
    replace x := x.ext h2
    replace rr := rr.ext h2
    have h02 : Ext w w2 := h01.trans h2
    obtain ⟨xc, xf, xz⟩ := x.all
    obtain ⟨rrc, rrf, rrz⟩ := rr.all
    clear h01 h2
    go_wp2
    exact bodyPost_ret (v := .tuple #[.agg #[.int .i64 0, .slice none 0 0], .bool false]) (by simp [results, Try.results26, go_sem, rrc, rrz]) rfl ⟨none, 0, rfl, Fr.nil _ _ _ _, (h02.setCell (Nat.le_succ _) _).setCell (Nat.le_succ _) _⟩
theorem impl_relabel (N : Int) (A B : Option Addr) (n m : Nat) (L p : List Int) (w : World) (hA : Rd w A (ints L)) (hB : Rd w B (ints p)) (hl : L.length = n * 4) (hp : p.length = m) (hn : n ≤ 1048576) (hm : m ≤ 1048576) (ok : Bool) (N2 : Int) (R : List Int) (r : Nat) (hR : (relOk N L n p ∧ ok = true ∧ N2 = N ∧ R = relC p L n ∧ r = n) ∨ (¬ relOk N L n p ∧ ok = false ∧ N2 = 0 ∧ R = [] ∧ r = 0)) :
    Calls Try.prog 26 #[.agg #[.int .i64 N, .slice A n n], .slice B m m] w fun e w' => ∃ G cG, e = .returned (.tuple #[.agg #[.int .i64 N2, .slice G r cG], .bool ok]) ∧ Fr w' w.heap.size w'.heap.size G (ints R) ∧ Ext w w' := by
  rcases hR with ⟨⟨o1, o2, o3⟩, rfl, rfl, rfl, rfl⟩ | ⟨hno, rfl, rfl, rfl, rfl⟩
  · exact impl_relabel_yes N2 A B r m L p w hA hB hl hp hn hm o1 o2 (by rw [← o3, hp])
  · exact impl_relabel_no N A B n m L p w hA hB hl hp hn hm hno
set_option maxHeartbeats 1600000 in
theorem spec_relabel_no (N : Int) (A B : Option Addr) (n m : Nat) (L p : List Int) (w : World) (hA : Rd w A (ints L)) (hB : Rd w B (ints p)) (hl : L.length = n * 4) (hp : p.length = m) (hn : n ≤ 1048576) (hm : m ≤ 1048576) (hno : ¬ relOk N L n p) :
    Calls Try.prog 24 #[.agg #[.int .i64 N, .slice A n n], .slice B m m] w fun e w' => ∃ G cG, e = .returned (.tuple #[.agg #[.int .i64 0, .slice G 0 cG], .bool false]) ∧ Fr w' w.heap.size w'.heap.size G (ints []) ∧ Ext w w' := by
  have HL := Lib.hid hl
  have HP := Lib.hid hp
  have HX : Hid (validC N L n = true → isPerm p = true → ((m : Int) != N) = true) := by
    show _ → _
    intro q1 q2
    by_cases h : (m : Int) = N
    · exact absurd ⟨q1, q2, by rw [hp]; exact h⟩ hno
    · simpa using h
  clear hl hp hno
  cases o1 : validC N L n with
  | false =>
    go_enter Try.func24, Try.ntmps24
    go_wp2_with fail
    refine (spec_validC N A n n L _ (hA.ext (by repeat (first | exact Ext.refl _ | assumption | refine Ext.alloc ?_ _ | refine Ext.drew ?_ | refine Ext.drewN ?_ _ | refine Ext.trans ?_ (by assumption)))) HL.out (by omega)).mono ?_
    rintro e w1 ⟨rfl, h1⟩
    have rr := (Blk.new (w.alloc (.cells #[.int .i64 N, .slice A n n] 28)) 28 #[.int .i64 0, .slice none 0 0]).ext h1
    simp only [World.size_alloc] at rr
    have h01 : Ext w w1 := (by repeat (first | exact Ext.refl _ | assumption | refine Ext.alloc ?_ _ | refine Ext.drew ?_ | refine Ext.drewN ?_ _ | refine Ext.trans ?_ (by assumption)))
    obtain ⟨rrc, rrf, rrz⟩ := rr.all
    clear h1
    go_wp2
    exact bodyPost_ret (v := .tuple #[.agg #[.int .i64 0, .slice none 0 0], .bool false]) (by simp [results, Try.results24, go_sem, rrc, rrz]) rfl ⟨none, 0, rfl, Fr.nil _ _ _ _, (h01.setCell (Nat.le_succ _) _).setCell (Nat.le_succ _) _⟩
  | true =>
  cases o2 : isPerm p with
  | false =>
    go_enter Try.func24, Try.ntmps24
    go_wp2_with fail
    refine (spec_validC N A n n L _ (hA.ext (by repeat (first | exact Ext.refl _ | assumption | refine Ext.alloc ?_ _ | refine Ext.drew ?_ | refine Ext.drewN ?_ _ | refine Ext.trans ?_ (by assumption)))) HL.out (by omega)).mono ?_
    rintro e w1 ⟨rfl, h1⟩
    have rr := (Blk.new (w.alloc (.cells #[.int .i64 N, .slice A n n] 28)) 28 #[.int .i64 0, .slice none 0 0]).ext h1
    simp only [World.size_alloc] at rr
    have h01 : Ext w w1 := (by repeat (first | exact Ext.refl _ | assumption | refine Ext.alloc ?_ _ | refine Ext.drew ?_ | refine Ext.drewN ?_ _ | refine Ext.trans ?_ (by assumption)))
    clear h1
    go_wp2_with fail
    refine (spec_isPerm B m m p _ (hB.ext h01) HP.out (by omega) (Nat.le_refl _)).mono ?_
    rintro e w2 ⟨rfl, h2⟩
    replace rr := rr.ext h2
    have h02 : Ext w w2 := h01.trans h2
    obtain ⟨rrc, rrf, rrz⟩ := rr.all
    clear h01 h2
    go_wp2
    exact bodyPost_ret (v := .tuple #[.agg #[.int .i64 0, .slice none 0 0], .bool false]) (by simp [results, Try.results24, go_sem, rrc, rrz]) rfl ⟨none, 0, rfl, Fr.nil _ _ _ _, (h02.setCell (Nat.le_succ _) _).setCell (Nat.le_succ _) _⟩
  | true =>
    have hnm := HX.out o1 o2
    go_enter Try.func24, Try.ntmps24
    go_wp2_with fail
    refine (spec_validC N A n n L _ (hA.ext (by repeat (first | exact Ext.refl _ | assumption | refine Ext.alloc ?_ _ | refine Ext.drew ?_ | refine Ext.drewN ?_ _ | refine Ext.trans ?_ (by assumption)))) HL.out (by omega)).mono ?_
    rintro e w1 ⟨rfl, h1⟩
    have x := Blk.to (Blk.new w 28 #[.int .i64 N, .slice A n n]) h1 (by repeat (first | exact Ext.refl _ | assumption | refine Ext.alloc ?_ _ | refine Ext.drew ?_ | refine Ext.drewN ?_ _ | refine Ext.trans ?_ (by assumption)))
    have rr := (Blk.new (w.alloc (.cells #[.int .i64 N, .slice A n n] 28)) 28 #[.int .i64 0, .slice none 0 0]).ext h1
    simp only [World.size_alloc] at rr
    have h01 : Ext w w1 := (by repeat (first | exact Ext.refl _ | assumption | refine Ext.alloc ?_ _ | refine Ext.drew ?_ | refine Ext.drewN ?_ _ | refine Ext.trans ?_ (by assumption)))
    clear h1
    go_wp2_with fail
    refine (spec_isPerm B m m p _ (hB.ext h01) HP.out (by omega) (Nat.le_refl _)).mono ?_
    rintro e w2 ⟨rfl, h2⟩
    replace x := x.ext h2
    replace rr := rr.ext h2
    have h02 : Ext w w2 := h01.trans h2
    obtain ⟨xc, xf, xz⟩ := x.all
    obtain ⟨rrc, rrf, rrz⟩ := rr.all
    clear h01 h2
    go_wp2
    exact bodyPost_ret (v := .tuple #[.agg #[.int .i64 0, .slice none 0 0], .bool false]) (by simp [results, Try.results24, go_sem, rrc, rrz]) rfl ⟨none, 0, rfl, Fr.nil _ _ _ _, (h02.setCell (Nat.le_succ _) _).setCell (Nat.le_succ _) _⟩
theorem spec_relabel (N : Int) (A B : Option Addr) (n m : Nat) (L p : List Int) (w : World) (hA : Rd w A (ints L)) (hB : Rd w B (ints p)) (hl : L.length = n * 4) (hp : p.length = m) (hn : n ≤ 1048576) (hm : m ≤ 1048576) (ok : Bool) (N2 : Int) (R : List Int) (r : Nat) (hR : (relOk N L n p ∧ ok = true ∧ N2 = N ∧ R = relC p L n ∧ r = n) ∨ (¬ relOk N L n p ∧ ok = false ∧ N2 = 0 ∧ R = [] ∧ r = 0)) :
    Calls Try.prog 24 #[.agg #[.int .i64 N, .slice A n n], .slice B m m] w fun e w' => ∃ G cG, e = .returned (.tuple #[.agg #[.int .i64 N2, .slice G r cG], .bool ok]) ∧ Fr w' w.heap.size w'.heap.size G (ints R) ∧ Ext w w' := by
  rcases hR with ⟨⟨o1, o2, o3⟩, rfl, rfl, rfl, rfl⟩ | ⟨hno, rfl, rfl, rfl, rfl⟩
  · exact spec_relabel_yes N2 A B r m L p w hA hB hl hp hn hm o1 o2 (by rw [← o3, hp])
  · exact spec_relabel_no N A B n m L p w hA hB hl hp hn hm hno
end Go.Proofs.Ytilkbccpcbelgaa
