/-
  CircuitFromLayers: plain definitions, appending a row to the gates of a circuit, and the reference's contract. Conditions: the slices read as rows.
-/
import Derived.Test.YtohpgjkflgnfgaaLay2
import Derived.Test.YtohpgjkflgnfgaaSS
import Derived.Test.YtohpgjkflgnfgaaCat3
set_option linter.unusedSimpArgs false
set_option linter.unusedVariables false
namespace Go.Proofs.Ytohpgjkflgnfgaa
open Go.RowKit
/-- Does one of the first k gates of a row share a qubit with an earlier one of the row? -/
def clashTo (R : List Int) : Nat → Bool
  | 0 => false
  | k + 1 => clashTo R k || anyM R (qAt R k) k
def rowClash (R : List Int) : Bool := clashTo R (R.length / 4)
def clashAll (LL : List (List Int)) : Nat → Bool
  | 0 => false
  | j + 1 => clashAll LL j || rowClash (LL.getD j [])
def flOk (N : Int) (LL : List (List Int)) : Prop := clashAll LL LL.length = false ∧ validC N LL.flatten (tot LL / 4) = true
theorem clashTo_at {R : List Int} : ∀ {n k : Nat}, k < n → anyM R (qAt R k) k = true → clashTo R n = true
  | 0, k, h, _ => by omega
  | n + 1, k, h, hm => by
    rcases Nat.lt_or_ge k n with h1 | h1
    · simp [clashTo, clashTo_at h1 hm]
    · obtain rfl : k = n := by omega
      simp [clashTo, hm]
theorem clashAll_at {LL : List (List Int)} : ∀ {n j : Nat}, j < n → rowClash (LL.getD j []) = true → clashAll LL n = true
  | 0, k, h, _ => by omega
  | n + 1, k, h, hm => by
    rcases Nat.lt_or_ge k n with h1 | h1
    · simp [clashAll, clashAll_at h1 hm]
    · obtain rfl : k = n := by omega
      rw [clashAll, hm]; simp
theorem getD_take_lt (R : List Int) (i m : Nat) (h : i < m) : (R.take m).getD i 0 = R.getD i 0 := by
  rw [List.getD_eq_getElem?_getD, List.getD_eq_getElem?_getD, List.getElem?_take, if_pos h]
theorem anyM_take (R Q : List Int) (k : Nat) : ∀ j, j ≤ k → anyM (R.take (k * 4)) Q j = anyM R Q j
  | 0, _ => rfl
  | j + 1, h => by
    rw [anyM, anyM, anyM_take R Q k j (by omega)]
    congr 2
    unfold qAt
    rw [getD_take_lt _ _ _ (by omega), getD_take_lt _ _ _ (by omega), getD_take_lt _ _ _ (by omega), getD_take_lt _ _ _ (by omega)]
theorem flat_step (LL : List (List Int)) (j : Nat) (h : j < LL.length) : (LL.take (j + 1)).flatten = (LL.take j).flatten ++ LL.getD j [] := by
  rw [take_getD2 LL j h, List.flatten_append]; simp
theorem flat_len2 : ∀ LL : List (List Int), LL.flatten.length = tot LL
  | [] => rfl
  | R :: t => by simp only [List.flatten_cons, List.length_append, tot, flat_len2 t]
theorem app_row {w2 : World} {v N : Value} {q : Nat} {xs : List Value} (w3 : World) (B : Option Addr) (m : Nat) (R : List Int) (own : w3.ownsRow w2.heap.size 55 4 v q xs) (hC : w3.heap[w2.heap.size]? = some (.cells #[N, v] 29 (0, 0))) (he : Ext w2 w3)
    (rB : Rd w3 B (ints R)) (hRl : R.length = m * 4)
    {ops : Array Oper} {o : Oper} {a : Act} {K : Act → World → Prop} {Q : Exit → Act → World → Prop} {E : Prop} {i0 : TypeInfo} {s x : Operand}
    (hi : Try.prog.info? 55 = some i0) (hz0 : i0.zero = some (.agg #[.int .i64 0, .int .i64 0, .int .i64 0, .int .i64 0])) (hz1 : i0.size = 4) (hz2 : i0.bytes = 32)
    (hgd : o.guard = none) (ho : o.op = .call { callee := .builtin .append, args := #[s, x], argTypes := #[27, 27] }) (hs : a.eval s = v) (hx : a.eval x = .slice B m m)
    (h63 : q + m ≤ maxLen) (hb : (q + m) * 32 ≤ 140737488355328)
    (h0 : ∀ G cG w4, w4.ownsRow w2.heap.size 55 4 (.slice G (q + m) cG) (q + m) (xs ++ ints R) → Ext w2 w4 → w4.heap[w2.heap.size]? = some (.cells #[N, v] 29 (0, 0)) → K (a.put o.dst (.slice G (q + m) cG)) w4) :
    if Region.wanted o (yielded ops a.tmps) = true then Oper.wp Try.prog o a w3 K Q else E := by
  refine step_append_rd hgd s x 27 ho w2.heap.size 55 i0 (.agg #[.int .i64 0, .int .i64 0, .int .i64 0, .int .i64 0]) 4 32 Try.underlying27 hi hz0 hz1 hz2 rfl (by decide) v q xs hs own B m m (ints R) hx (by rw [ints_length]; exact hRl) rB (src_some rB hRl) (ints_one _) h63 hb he.size ?_
  intro G cG w4 own4 hgr hkb
  exact h0 G cG w4 own4 (hgr w2 he (Nat.le_refl _)) (hkb _ _ hC (own_other own hC (by decide)))
theorem own_set1 {w : World} {base : Nat} {e : TypeId} {size n : Nat} {v : Value} {xs : List Value} {g : Nat} {cs : Array Value} {t : TypeId} (h : w.ownsRow base e size v n xs) (hg : w.heap[g]? = some (.cells cs t (0, 0))) (hne : t ≠ e) (i : Nat) (u : Value) :
    (w.setCell ⟨g, i, none⟩ u).ownsRow base e size v n xs := own_set3 h (own_other h hg hne)
theorem heap_set1' {w : World} {g : Nat} {t : TypeId} {a b y : Value} (h : w.heap[g]? = some (.cells #[a, b] t (0, 0))) : (w.setCell ⟨g, 1, none⟩ y).heap[g]? = some (.cells #[a, y] t (0, 0)) := by
  simp [World.setCell, Array.getElem?_modify, h]
def RetC (w : World) (N2 : Int) (r : Nat) (R : List Int) (ok : Bool) (e : Ending) (w' : World) : Prop :=
  ∃ G cG, e = .returned (.tuple #[.agg #[.int .i64 N2, .slice G r cG], .bool ok]) ∧ Fr w' w.heap.size w'.heap.size G (ints R) ∧ Ext w w'
theorem RetC.mk {w w' : World} {N2 : Int} {r : Nat} {R : List Int} {ok : Bool} (G : Option Addr) (cG : Nat) (h1 : Fr w' w.heap.size w'.heap.size G (ints R)) (h2 : Ext w w') : RetC w N2 r R ok (.returned (.tuple #[.agg #[.int .i64 N2, .slice G r cG], .bool ok])) w' :=
  ⟨G, cG, rfl, h1, h2⟩
set_option maxRecDepth 20000 in
set_option maxHeartbeats 6400000 in
theorem spec_fromL (N : Int) (A : Option Addr) (n : Nat) (LL : List (List Int)) (vs : List Value) (w : World) (hA : Rd2 w 4 A LL vs) (hl : LL.length = n) (hcap : ∀ (j : Nat) B m c, vs[j]? = some (Value.slice B m c) → c = m) (hn : n ≤ 1048576) (ht : tot LL ≤ 4194304)
    (ok : Bool) (N2 : Int) (R : List Int) (r : Nat) (hR : (flOk N LL ∧ ok = true ∧ N2 = N ∧ R = LL.flatten ∧ r = tot LL / 4) ∨ (¬ flOk N LL ∧ ok = false ∧ N2 = 0 ∧ R = [] ∧ r = 0)) :
    Calls Try.prog 19 #[.int .i64 N, .slice A n n] w (RetC w N2 r R ok) := by
  have HL := Lib.hid hl
  have HR := Lib.hid hR
  have HT := Lib.hid ht
  have HCAP := Lib.hid hcap
  clear hl hR ht hcap
  obtain ⟨i0, hi, hz0, hz1, hz2⟩ := info_parts info_gate
  obtain ⟨W2, hW2⟩ : ∃ W2, W2 = w.alloc (.cells #[.int .i64 0, .slice none 0 0] 29) := ⟨_, rfl⟩
  have rr : Blk W2 w.heap.size #[.int .i64 0, .slice none 0 0] := by rw [hW2]; exact Blk.new _ _ _
  have HSZ : Hid (W2.heap.size = w.heap.size + 1) := by show _ = _; rw [hW2]; simp
  have hwW : Ext w W2 := by rw [hW2]; exact (by repeat (first | exact Ext.refl _ | assumption | refine Ext.alloc ?_ _ | refine Ext.drew ?_ | refine Ext.drewN ?_ _ | refine Ext.trans ?_ (by assumption)))
  have HW := Lib.hid hW2
  clear hW2
  have rA := hA.ext hwW
  go_enter Try.func19, Try.ntmps19
  go_wp2
  rw [← HW.out]
  have hC0 : (W2.alloc (.cells #[.int .i64 N, .slice none 0 0] 29)).heap[W2.heap.size]? = some (.cells #[.int .i64 N, .slice none 0 0] 29 (0, 0)) := heap_alloc_new _ _
  rw [← HSZ.out]
  go_loopw [7, 8] (fun i _ wr => ∃ (j q : Nat) (v : Value), j ≤ n ∧ i = .int .i64 j ∧ Hid (tot (LL.take j) = q * 4) ∧ Hid (clashAll LL j = false) ∧ wr.heap[W2.heap.size]? = some (.cells #[.int .i64 N, v] 29 (0, 0)) ∧ wr.ownsRow W2.heap.size 55 4 v q (ints (LL.take j).flatten) ∧ Ext W2 wr) (fun i _ _ => n - (intOf i).toNat)
  case atStart => exact ⟨0, 0, _, Nat.zero_le _, rfl, Lib.hid rfl, Lib.hid rfl, hC0, World.ownsRow_nil _ _ _ _, (by repeat (first | exact Ext.refl _ | assumption | refine Ext.alloc ?_ _ | refine Ext.drew ?_ | refine Ext.drewN ?_ _ | refine Ext.trans ?_ (by assumption)))⟩
  case round =>
    clear hC0
    obtain ⟨j, q, v, hj, rfl, HQ, HCL, bC, own, he⟩ := hrel
    by_cases hlt : j < n
    · obtain ⟨g, off, B, m, cB, rfl, x0, hv, hRl, rB⟩ := (rA.ext he).look (j := j) (by have := HL.out; omega)
      obtain rfl := HCAP.out j B m cB hv
      have HJ : Hid (j < LL.length) := by show _ < _; have := HL.out; omega
      have HRW := Lib.hid (row_le_tot LL j)
      have HST := Lib.hid (tot_step LL j HJ.out)
      have HFL := Lib.hid (flat_step LL j HJ.out)
      have HTT := Lib.hid (tot_take LL j)
      have HCA : Hid (clashAll LL (j + 1) = (clashAll LL j || rowClash (LL.getD j []))) := rfl
      have HNO : Hid (rowClash (LL.getD j []) = true → ¬ flOk N LL) := fun h hf => by
        have := clashAll_at HJ.out h
        rw [hf.1] at this
        cases this
      have HRl := Lib.hid hRl
      have hm : cB ≤ 1048576 := by have := HRW.out; have := HT.out; omega
      have hq : q ≤ 1048576 := by have := HQ.out; have := HTT.out; have := HT.out; omega
      clear hv hRl
      generalize LL.getD j [] = R0 at *
      have cv := (Blk.all ⟨_, bC⟩).1 1
      simp only [List.getElem?_toArray, List.getElem?_cons_zero, List.getElem?_cons_succ] at cv
      have hjI : (j : Int) < (n : Int) := by omega
      obtain ⟨wo, rfl⟩ : ∃ wo : World, wo = wr := ⟨_, rfl⟩
      go_wp2_with fail
      go_loopw [8] (fun s wx => ∃ k : Nat, k ≤ cB ∧ s = .int .i64 k ∧ Hid (clashTo R0 k = false) ∧ Ext wo wx) (fun s _ => cB - (intOf s).toNat)
      case atStart => exact ⟨0, Nat.zero_le _, rfl, Lib.hid rfl, Ext.refl _⟩
      case round =>
        obtain ⟨k, hk, rfl, hf, hx⟩ := hrel
        have x1 := Ext.cell hx x0
        by_cases hkm : k < cB
        · obtain ⟨gB, oB, rfl, hcB⟩ := (rB.ext hx).four HRl.out (by omega)
          obtain ⟨y0, y1, y2, y3⟩ := hcB k hkm
          have HQ2 : Hid (qAt R0 k = qubits (R0.getD (k * 4) 0) (R0.getD (k * 4 + 1) 0) (R0.getD (k * 4 + 2) 0) (R0.getD (k * 4 + 3) 0)) := rfl
          generalize R0.getD (k * 4) 0 = r0 at *
          generalize R0.getD (k * 4 + 1) 0 = r1 at *
          generalize R0.getD (k * 4 + 2) 0 = r2 at *
          generalize R0.getD (k * 4 + 3) 0 = r3 at *
          have HC := Lib.hid (fun W (hW : Ext wr W) => spec_any (some ⟨gB, oB, none⟩) k cB (R0.take (k * 4)) r0 r1 r2 r3 W (((rB.ext hx).ext hW).take' (k * 4)) (by have := HRl.out; simp; omega) (by omega))
          rw [← HQ2.out, anyM_take R0 _ k k (Nat.le_refl _)] at HC
          obtain ⟨d, hd⟩ : ∃ d, d = anyM R0 (qAt R0 k) k := ⟨_, rfl⟩
          rw [← hd] at HC
          have HD := Lib.hid hd
          clear hd hcB HQ2
          have kI : (k : Int) < (cB : Int) := by omega
          have kI2 : (k : Int) ≤ (cB : Int) := by omega
          cases d with
          | true =>
            have HF : Hid (¬ flOk N LL) := HNO.out (clashTo_at (by have := HRl.out; omega) HD.out.symm)
            go_wp2
            go_region_held3 (fun w' => w'.cell? ⟨g, off + j, none⟩ = some (.slice (some ⟨gB, oB, none⟩) cB cB) ∧ w'.cell? ⟨gB, oB + k * 4, none⟩ = some (.int .i64 r0) ∧ w'.cell? ⟨gB, oB + k * 4 + 1, none⟩ = some (.int .i64 r1) ∧ w'.cell? ⟨gB, oB + k * 4 + 2, none⟩ = some (.int .i64 r2) ∧ w'.cell? ⟨gB, oB + k * 4 + 3, none⟩ = some (.int .i64 r3) ∧ Ext wr w')
              (first | exact ⟨x1, y0, y1, y2, y3, (Ext.refl wr).drew⟩ | (go_split_ands; exact ⟨Ext.cell hq2 (by assumption), Ext.cell hq2 (by assumption), Ext.cell hq2 (by assumption), Ext.cell hq2 (by assumption), Ext.cell hq2 (by assumption), Ext.trans (by assumption) hq2⟩))
              (first | (go_at_call 32; go_split_ands; refine (HC.out _ (by assumption)).mono ?_; rintro e w6 ⟨rfl, hq2⟩))
            go_split_ands
            have e6 : Ext wr w6 := by assumption
            have h06 := hwW.trans (he.trans (hx.trans e6))
            have rr6 := rr.ext (he.trans (hx.trans e6))
            obtain ⟨rc, rf, rz⟩ := rr6.all
            rcases HR.out with ⟨h, _⟩ | ⟨_, rfl, rfl, rfl, rfl⟩
            · exact absurd h HF.out
            · clear x0 x1 y0 y1 y2 y3 cv e6
              go_wp2
              refine bodyPost_ret (v := .tuple #[.agg #[.int .i64 0, .slice none 0 0], .bool false]) (by simp [results, Try.results19, go_sem, rc]) rfl (RetC.mk none 0 (Fr.nil _ _ _ _) ?_)
              exact (h06.setCell (by simp) _).setCell (by simp) _
          | false =>
            go_wp2
            go_region_held3 (fun w' => w'.cell? ⟨g, off + j, none⟩ = some (.slice (some ⟨gB, oB, none⟩) cB cB) ∧ w'.cell? ⟨gB, oB + k * 4, none⟩ = some (.int .i64 r0) ∧ w'.cell? ⟨gB, oB + k * 4 + 1, none⟩ = some (.int .i64 r1) ∧ w'.cell? ⟨gB, oB + k * 4 + 2, none⟩ = some (.int .i64 r2) ∧ w'.cell? ⟨gB, oB + k * 4 + 3, none⟩ = some (.int .i64 r3) ∧ Ext wr w')
              (first | exact ⟨x1, y0, y1, y2, y3, (Ext.refl wr).drew⟩ | (go_split_ands; exact ⟨Ext.cell hq2 (by assumption), Ext.cell hq2 (by assumption), Ext.cell hq2 (by assumption), Ext.cell hq2 (by assumption), Ext.cell hq2 (by assumption), Ext.trans (by assumption) hq2⟩))
              (first | (go_at_call 32; go_split_ands; refine (HC.out _ (by assumption)).mono ?_; rintro e w6 ⟨rfl, hq2⟩))
            go_split_ands
            go_wp2
            go_roundw
            case rel => exact ⟨k + 1, by omega, by go_num, Lib.hid (by rw [clashTo, hf.out, ← HD.out]; rfl), hx.trans (by assumption)⟩
            case measure => simp [intOf]; omega
        · obtain rfl : k = cB := by omega
          have HN : Hid (clashAll LL (j + 1) = false) := by
            show _ = _
            rw [HCA.out, HCL.out]
            have : rowClash R0 = clashTo R0 k := by unfold rowClash; rw [HRl.out]; congr 1; omega
            rw [this, hf.out]; rfl
          have bC1 := Ext.blk hx bC
          have own1 := own_ext2 own hx
          have rB1 := rB.ext hx
          have he1 := he.trans hx
          replace cv := Ext.cell hx cv
          have HB1 := Lib.hid bC1
          clear x0 own bC hx he rB bC1
          go_wp2
          go_region_law (refine app_row _ B k R0 (by first | exact own1 | exact own1.drew) (by exact HB1.out) (by first | exact he1 | exact he1.drew) (by first | exact rB1 | exact rB1.drew) HRl.out hi hz0 hz1 hz2 (by rfl) (by rfl) (by rfl) (by rfl) (by unfold maxLen; omega) (by omega) ?_; intro G cG w4 own4 he4 bk; obtain ⟨bc, bf, bz⟩ := Blk.all ⟨_, bk⟩; have HB := Lib.hid bk; have HO4 := Lib.hid own4; clear bk own4)
          all_goals
            clear cv x1 hi hz0 hz1 hz2 own1 rB1 he1
            go_wp2
            go_roundw
            case rel => exact ⟨j + 1, q + k, _, by omega, by go_num, Lib.hid (by rw [HST.out, HQ.out, HRl.out]; omega), HN, heap_set1' HB.out, own_set1 (by rw [HFL.out, ints_app]; exact HO4.out) HB.out (by decide) 1 _, he4.setCell (Nat.le_refl _) _⟩
            case measure => simp [intOf]; omega
    · obtain rfl : j = n := by omega
      obtain ⟨G, cap, rfl⟩ := own_form own
      have HX : Hid (LL.take j = LL) := by show _ = _; exact List.take_of_length_le (by have := HL.out; omega)
      rw [HX.out] at HQ own
      have hq : q ≤ 1048576 := by have := HQ.out; have := HT.out; omega
      have HQ4 : Hid (tot LL / 4 = q) := by show _ = _; have := HQ.out; omega
      have hf := Fr.of_own own
      have rG := hf.rd
      have hz2' : w.heap.size + 1 + 1 ≤ wr.heap.size := by have := lt_of_blk bC; have := HSZ.out; omega
      clear own hi hz0 hz1 hz2
      have cb := Blk.all ⟨_, bC⟩
      obtain ⟨bc, bf, bz⟩ := cb
      have hv := fun W (hW : Ext wr W) => spec_validC N G q cap LL.flatten W (rG.ext hW) (by rw [flat_len2, HQ.out]) (by omega)
      obtain ⟨d, hd⟩ : ∃ d, d = validC N LL.flatten q := ⟨_, rfl⟩
      rw [← hd] at hv
      have HV := Lib.hid hv
      have HD := Lib.hid hd
      clear hv hd
      cases d with
      | true =>
        have HF : Hid (flOk N LL) := ⟨by rw [HL.out]; exact HCL.out, by rw [HQ4.out]; exact HD.out.symm⟩
        rcases HR.out with ⟨_, rfl, e2, rfl, e4⟩ | ⟨h, _⟩
        · subst e2
          obtain rfl : q = r := by rw [e4]; exact HQ4.out.symm
          clear e4 HR
          go_wp2_with fail
          refine (HV.out _ (Ext.refl _)).mono ?_
          rintro e w6 ⟨rfl, h6⟩
          have rr6 := rr.ext (he.trans h6)
          obtain ⟨rc, rf, rz⟩ := rr6.all
          clear bc bf bz
          obtain ⟨bc, bf, bz⟩ := Blk.all ⟨_, Ext.blk h6 bC⟩
          have zz6 := h6.size
          go_wp2
          refine bodyPost_ret (v := .tuple #[.agg #[.int .i64 N2, .slice G q cap], .bool true]) (by simp [results, Try.results19, go_sem, rc, bc]) rfl (RetC.mk G cap ?_ ?_)
          · rw [size_set2]
            exact ((hf.ext h6).set2 (C := w.heap.size) (by rw [HSZ.out]; exact Nat.le_refl _) _ _).mono (by rw [HSZ.out]; exact Nat.le_succ _) zz6
          · exact ((hwW.trans (he.trans h6)).setCell (by simp) _).setCell (by simp) _
        · exact absurd HF.out h
      | false =>
        have HF : Hid (¬ flOk N LL) := fun h => by have := h.2; rw [HQ4.out, ← HD.out] at this; cases this
        rcases HR.out with ⟨h, _⟩ | ⟨_, rfl, rfl, rfl, rfl⟩
        · exact absurd h HF.out
        · go_wp2_with fail
          refine (HV.out _ (Ext.refl _)).mono ?_
          rintro e w6 ⟨rfl, h6⟩
          have rr6 := rr.ext (he.trans h6)
          obtain ⟨rc, rf, rz⟩ := rr6.all
          clear bc bf bz
          go_wp2
          refine bodyPost_ret (v := .tuple #[.agg #[.int .i64 0, .slice none 0 0], .bool false]) (by simp [results, Try.results19, go_sem, rc]) rfl (RetC.mk none 0 (Fr.nil _ _ _ _) ?_)
          exact ((hwW.trans (he.trans h6)).setCell (by simp) _).setCell (by simp) _
end Go.Proofs.Ytohpgjkflgnfgaa
