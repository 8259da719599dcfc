/-
  Contracts of the helpers that copy and measure slices of slices of structs of ints. Conditions: the slices read as rows.
-/
import Derived.Test.YtkcbkbpjaccpgaaSS
import Derived.Test.YtkcbkbpjaccpgaaQTo
set_option linter.unusedSimpArgs false
set_option linter.unusedVariables false
namespace Go.Proofs.Ytkcbkbpjaccpgaa
open Go.RowKit
def SzR (sz n : Nat) (LL : List (List Int)) (w : World) (e : Ending) (w' : World) : Prop :=
  Ext w w' ∧ (e = .returned (.int .i64 (-1)) ∨ ∃ r : Int, 0 ≤ r ∧ r ≤ 1048576 ∧ e = .returned (.int .i64 r) ∧ n ≤ 1048576 ∧ tot LL ≤ 1048576 * sz)
def capOk (vs : List Value) : Prop := ∀ (j : Nat) B m c, vs[j]? = some (Value.slice B m c) → c = m
theorem Fr.set_val {w : World} {lo hi : Nat} {g off : Nat} {xs : List Value} (h : Fr w lo hi (some ⟨g, off, none⟩) xs) (j : Nat) (x : Value) (hj : j < xs.length) :
    Fr (w.setCell ⟨g, off + j, none⟩ x) lo hi (some ⟨g, off, none⟩) (xs.set j x) := fun hn => by
  obtain ⟨g', off', cur, t, e, h1, h2, hh, hc⟩ := h (by rintro rfl; simp at hj)
  injection e with e
  injection e with e1 e2
  subst e1 e2
  refine ⟨g, off, cur.setIfInBounds (off + j) x, t, rfl, h1, h2, ?_, fun i u hu => ?_⟩
  · simp [World.setCell, Array.getElem?_modify, hh]
  · have hcj := hc j xs[j] (by simp [hj])
    have hlt : off + j < cur.size := by
      rcases Nat.lt_or_ge (off + j) cur.size with hlt | hge
      · exact hlt
      · rw [Array.getElem?_eq_none hge] at hcj; cases hcj
    rw [List.getElem?_set] at hu
    rw [Array.getElem?_setIfInBounds]
    by_cases hij : j = i
    · subst hij
      simp [hj] at hu
      simp [hlt, hu]
    · rw [if_neg hij] at hu
      rw [if_neg (by omega)]
      exact hc i u hu
/-- All rows lie before a block. -/
def rowsB (vs : List Value) (hi : Nat) : Prop := ∀ (k : Nat) (y : Value) (b : Nat), vs[k]? = some y → y.ownBlock = some b → b < hi
/-- A row stored into a slice of slices in new memory; the row lies in a block that is new. -/
theorem Fr2.fill {w w1 : World} {sz lo g j m : Nat} {LL : List (List Int)} {vs : List Value} {R : List Int} (h : Fr2 w sz lo w.heap.size (some ⟨g, 0, none⟩) LL vs) (hk : rowsB vs w.heap.size) (hj : j < LL.length) (he : Ext w w1)
    (hR : R.length = m * sz) (hb2 : w.heap.size < w1.heap.size) (fR : Fr w1 w.heap.size w1.heap.size (some ⟨w.heap.size, 0, none⟩) (ints R)) (hlo : lo ≤ w.heap.size) (hg : g < w.heap.size) :
    Fr2 (w1.setCell ⟨g, j, none⟩ (.slice (some ⟨w.heap.size, 0, none⟩) m m)) sz lo w1.heap.size (some ⟨g, 0, none⟩) (LL.set j R) (vs.set j (.slice (some ⟨w.heap.size, 0, none⟩) m m)) ∧ rowsB (vs.set j (.slice (some ⟨w.heap.size, 0, none⟩) m m)) w1.heap.size := by
  have hjv : j < vs.length := by rw [h.len]; exact hj
  have ch : Chg w1 (w1.setCell ⟨g, j, none⟩ (.slice (some ⟨w.heap.size, 0, none⟩) m m)) g (g + 1) := (Chg.refl w1 g (g + 1)).setCell (p := ⟨g, j, none⟩) (Nat.le_refl _) (Nat.lt_succ_self _) _
  have at_ : ∀ (k : Nat) (y : Value), (vs.set j (.slice (some ⟨w.heap.size, 0, none⟩) m m))[k]? = some y → (k = j ∧ y = .slice (some ⟨w.heap.size, 0, none⟩) m m) ∨ (k ≠ j ∧ vs[k]? = some y) := by
    intro k y hy
    by_cases hkj : j = k
    · subst hkj
      rw [List.getElem?_set_self hjv] at hy
      injection hy with hy
      exact .inl ⟨rfl, hy.symm⟩
    · rw [List.getElem?_set_ne hkj] at hy
      exact .inr ⟨fun e => hkj e.symm, hy⟩
  refine ⟨⟨?_, by simp [h.len], fun i S hS => ?_, fun i k u v b hik hu hv hb => ?_, fun i u a hu ha => ?_⟩, fun k y b hy hb => ?_⟩
  · have := (h.outer.ext he).set_val j (.slice (some ⟨w.heap.size, 0, none⟩) m m) hjv
    rw [Nat.zero_add] at this
    exact this.mono (Nat.le_refl _) (Nat.le_of_lt hb2)
  · by_cases hij : j = i
    · subst hij
      rw [List.getElem?_set_self hj] at hS
      injection hS with hS
      subst hS
      exact ⟨_, m, m, by rw [List.getElem?_set_self hjv], hR, (fR.chg ch (.inr hg)).mono hlo (Nat.le_refl _)⟩
    · rw [List.getElem?_set_ne hij] at hS
      obtain ⟨B, m', c', e1, e2, e3⟩ := h.inner i S hS
      refine ⟨B, m', c', by rw [List.getElem?_set_ne hij]; exact e1, e2, fun hne => ?_⟩
      obtain ⟨ga, oa, cura, ta, ea, a1, a2, ha, hca⟩ := e3 hne
      refine ⟨ga, oa, cura, ta, ea, a1, Nat.lt_trans a2 hb2, (ch.block ga (lt_of_blk (he.blk ha)) (fun ⟨x, y⟩ => ?_)).trans (he.blk ha), hca⟩
      subst ea
      exact h.off i _ _ e1 rfl (show some ga = some g by congr 1; omega)
  · rcases at_ i u hu with ⟨hi, rfl⟩ | ⟨hi, hu⟩ <;> rcases at_ k v hv with ⟨hk', rfl⟩ | ⟨hk', hv⟩
    · omega
    · intro e
      injection hb with hb
      subst hb
      exact Nat.lt_irrefl _ (hk k v _ hv e)
    · intro e
      injection e with e
      subst e
      exact Nat.lt_irrefl _ (hk i u _ hu hb)
    · exact h.apart i k u v b hik hu hv hb
  · injection ha with ha
    subst ha
    rcases at_ i u hu with ⟨hi, rfl⟩ | ⟨hi, hu⟩
    · intro e
      injection e with e
      change w.heap.size = g at e
      omega
    · exact h.off i u _ hu rfl
  · rcases at_ k y hy with ⟨_, rfl⟩ | ⟨_, hy⟩
    · injection hb with hb
      subst hb
      exact hb2
    · exact Nat.lt_trans (hk k y b hy hb) hb2
theorem Fr2.made {w : World} {sz lo g n : Nat} (h : Fr w lo w.heap.size (some ⟨g, 0, none⟩) (List.replicate n (Value.slice none 0 0))) : Fr2 w sz lo w.heap.size (some ⟨g, 0, none⟩) (List.replicate n []) (List.replicate n (.slice none 0 0)) := by
  have at_ : ∀ (k : Nat) (y : Value), (List.replicate n (Value.slice none 0 0))[k]? = some y → y = .slice none 0 0 := by
    intro k y hy
    exact List.eq_of_mem_replicate (List.mem_of_getElem? hy)
  refine ⟨h, by simp, fun j R hR => ?_, fun i j u v b hij hu hv hb => ?_, fun j u a hu ha => ?_⟩
  · have hj : j < n := by have := (List.getElem?_eq_some_iff.1 hR).1; simpa using this
    have : R = [] := List.eq_of_mem_replicate (List.mem_of_getElem? hR)
    subst this
    exact ⟨none, 0, 0, by simp [hj], by simp, Fr.nil _ _ _ _⟩
  · rw [at_ i u hu] at hb; cases hb
  · rw [at_ j u hu]; simp [Value.ownBlock]
theorem fill_set (LL : List (List Int)) (n j : Nat) (hl : LL.length = n) (hj : j < n) : (LL.take j ++ List.replicate (n - j) []).set j (LL.getD j []) = LL.take (j + 1) ++ List.replicate (n - (j + 1)) [] := by
  rw [List.set_append, if_neg (by simp; omega), take_getD2 LL j (by omega)]
  rw [show j - (List.take j LL).length = 0 from by simp; omega, show n - j = (n - (j + 1)) + 1 from by omega, List.replicate_succ, List.set_cons_zero]
  simp
set_option maxHeartbeats 800000 in
theorem szDOmegaSS_any (A : Option Addr) (n c : Nat) (LL : List (List Int)) (vs : List Value) (w : World) (hA : Rd2 w 5 A LL vs) (hl : LL.length = n) (hn : n ≤ 9223372036854775807) (hs : ∀ j, (LL.getD j []).length ≤ 9223372036854775807 * 5) :
    Calls Try.prog 4 #[.slice A n c, .int .i64 1048576] w (SzR 5 n LL w) := by
  have HL := Lib.hid hl
  have HS := Lib.hid hs
  clear hl hs
  by_cases hbig : (1048576 : Int) - n < 0
  · go_enter Try.func4, Try.ntmps4
    go_wp2
    go_ret
    exact ⟨(by repeat (first | exact Ext.refl _ | assumption | refine Ext.alloc ?_ _ | refine Ext.drew ?_ | refine Ext.drewN ?_ _ | refine Ext.trans ?_ (by assumption))), .inl rfl⟩
  · go_enter Try.func4, Try.ntmps4
    go_wp2
    go_loopw [1, 5] (fun l i wr => ∃ (j : Nat) (q : Int), j ≤ n ∧ i = .int .i64 j ∧ l = .int .i64 q ∧ 0 ≤ q ∧ q ≤ 1048576 ∧ Hid (q * 5 + tot (LL.take j) ≤ 1048576 * 5) ∧ Ext w wr) (fun _ i _ => n - (intOf i).toNat)
    case atStart => exact ⟨0, 1048576 - n, Nat.zero_le _, rfl, by simp, by omega, by omega, Lib.hid (by simp [tot]; omega), Ext.refl _⟩
    case round =>
      obtain ⟨j, q, hj, rfl, rfl, hq0, hq1, HQ, he⟩ := hrel
      by_cases hlt : j < n
      · obtain ⟨g, off, B, m, cB, rfl, x0, _, hBl, rB⟩ := (hA.ext he).look (j := j) (by have := HL.out; omega)
        have hm : m ≤ 9223372036854775807 := by have := HS.out j; omega
        have HST := Lib.hid (tot_step LL j (by have := HL.out; omega))
        have HBl := Lib.hid hBl
        have hjI : (j : Int) < (n : Int) := by omega
        clear hBl rB
        by_cases hz : q - m < 0
        · have hzz : szL q m = -1 := by unfold szL; simp [hz]
          go_wp2_with fail
          refine (szDOmegaS_any B m cB q _ hm hq0 hq1).mono ?_
          rintro e w2 ⟨rfl, rfl⟩
          rw [hzz]
          go_wp2
          go_ret
          exact ⟨he, .inl rfl⟩
        · have hzz : szL q m = q - m := by unfold szL; simp [hz]
          go_wp2_with fail
          refine (szDOmegaS_any B m cB q _ hm hq0 hq1).mono ?_
          rintro e w2 ⟨rfl, rfl⟩
          rw [hzz]
          clear hzz
          go_wp2
          go_roundw
          case rel => exact ⟨j + 1, q - m, by omega, by go_num, rfl, by omega, by omega, Lib.hid (by have := HQ.out; have := HST.out; have := HBl.out; omega), he⟩
          case measure => simp [intOf]; omega
      · obtain rfl : j = n := by omega
        have HX : Hid (LL.take j = LL) := by show _ = _; exact List.take_of_length_le (by have := HL.out; omega)
        rw [HX.out] at HQ
        go_wp2
        go_ret
        exact ⟨he, .inr ⟨q, hq0, hq1, rfl, by omega, by have := HQ.out; omega⟩⟩
theorem info_slDOmega : (Try.prog.info? 36).map (fun i => (i.zero, i.size, i.bytes)) = some (some (.slice none 0 0), 1, 24) := by kernel_rfl
def ToDOmega (n : Nat) (LL : List (List Int)) (w : World) (e : Ending) (w' : World) : Prop := ∃ B vs', e = .returned (.slice B n n) ∧ Fr2 w' 5 w.heap.size w'.heap.size B LL vs' ∧ capOk vs' ∧ Ext w w'
set_option maxHeartbeats 800000 in
theorem toDOmegaSS_any (A : Option Addr) (n c : Nat) (LL : List (List Int)) (vs : List Value) (w : World) (hA : Rd2 w 5 A LL vs) (hl : LL.length = n) (hn : n ≤ 1048576) (hs : ∀ j, (LL.getD j []).length ≤ 1048576 * 5) :
    Calls Try.prog 6 #[.slice A n c] w (ToDOmega n LL w) := by
  have HL := Lib.hid hl
  have HS := Lib.hid hs
  clear hl hs
  obtain ⟨i0, hi, hz0, hz1, hz2⟩ := info_parts info_slDOmega
  go_enter Try.func6, Try.ntmps6
  go_wp2_with (at_make; refine wpList_make_full _ rfl _ _ 24 rfl w.heap.size 36 i0 (.slice none 0 0) 1 Try.underlying24 hi hz0 hz1 .i64 .i64 _ _ n rfl rfl rfl rfl ?b2 ?b3 ?b4 ?_)
  case b2 => rw [hz2]; omega
  case b3 => unfold maxLen; omega
  case b4 => exact Nat.le_refl _
  intro w1 hown hgrow
  have hf := Fr.of_own hown
  have he : Ext w w1 := (Ext.refl w).grown hgrow (by simp)
  have hlt : w.heap.size < w1.heap.size := (hown.lt _ rfl).2
  clear hown hgrow hi hz0 hz1 hz2
  rw [toList_madeCells_one] at hf
  have hf2 : Fr2 w1 5 w.heap.size w1.heap.size (some ⟨w.heap.size, 0, none⟩) (LL.take 0 ++ List.replicate (n - 0) []) (List.replicate n (.slice none 0 0)) := by simpa using Fr2.made hf
  have hc0 : capOk (List.replicate n (.slice none 0 0)) := by
    intro j B m c h
    have := List.eq_of_mem_replicate (List.mem_of_getElem? h)
    injection this with _ h1 h2
    omega
  have hb0 : rowsB (List.replicate n (.slice none 0 0)) w1.heap.size := by
    intro k y b hy hb
    rw [List.eq_of_mem_replicate (List.mem_of_getElem? hy)] at hb
    cases hb
  clear hf
  go_wp2
  go_loopw [4] (fun i wr => ∃ (j : Nat) (vs' : List Value), j ≤ n ∧ i = .int .i64 j ∧ Fr2 wr 5 w.heap.size wr.heap.size (some ⟨w.heap.size, 0, none⟩) (LL.take j ++ List.replicate (n - j) []) vs' ∧ capOk vs' ∧ rowsB vs' wr.heap.size ∧ Ext w wr ∧ w.heap.size < wr.heap.size) (fun i _ => n - (intOf i).toNat)
  case atStart => exact ⟨0, _, Nat.zero_le _, rfl, hf2, hc0, hb0, he, hlt⟩
  case round =>
    clear hf2 hc0 hb0 he hlt
    obtain ⟨j, vs', hj, rfl, hf, hc, hb, he, hz⟩ := hrel
    by_cases hjn : j < n
    · obtain ⟨g, off, B, m, cB, rfl, x0, _, hBl, rB⟩ := (hA.ext he).look (j := j) (by have := HL.out; omega)
      have hm : m ≤ 1048576 := by have := HS.out j; omega
      have HBl := Lib.hid hBl
      have HLn : Hid (j < (LL.take j ++ List.replicate (n - j) []).length) := by show _ < _; have := HL.out; simp; omega
      clear hBl
      have hjI : (j : Int) < (n : Int) := by omega
      go_wp2_with fail
      refine (toDOmegaS_at B m cB (LL.getD j []) _ rB HBl.out hm).mono ?_
      rintro e w2 ⟨rfl, fR, h2, hz2⟩
      obtain ⟨F1, F2⟩ := hf.fill hb HLn.out h2 HBl.out hz2 fR (Nat.le_of_lt hz) hz
      have e2 := he.trans h2
      have hz3 : w.heap.size < w2.heap.size := Nat.lt_trans hz hz2
      obtain ⟨_, _, cur, t, e0, _, _, hh, hcc⟩ := (hf.outer.ext h2) (by intro h0; have := hf.len; rw [h0] at this; have := HLn.out; simp at *; omega)
      injection e0 with e0
      injection e0 with e01 e02
      subst e01 e02
      have hjv : j < vs'.length := by rw [hf.len]; exact HLn.out
      have c2 := (cell_of_row w2 w.heap.size (0 + j) cur t (0, 0) hh).trans (hcc j vs'[j] (by simp [hjv]))
      rw [Nat.zero_add] at c2
      have f2 : w2.frozen? ⟨w.heap.size, j, none⟩ = false := by simp [World.frozen?, hh]
      obtain ⟨y, hy⟩ : ∃ y, y = vs'[j] := ⟨_, rfl⟩
      rw [← hy] at c2
      have HF1 := Lib.hid F1
      have HF2 := Lib.hid F2
      have HC : Hid (capOk (vs'.set j (.slice (some ⟨wr.heap.size, 0, none⟩) m m))) := by
        intro k B' m' c' hk
        by_cases hkj : j = k
        · subst hkj
          rw [List.getElem?_set_self hjv] at hk
          injection hk with hk
          injection hk with _ h1 h2
          omega
        · rw [List.getElem?_set_ne hkj] at hk
          exact hc k B' m' c' hk
      clear F1 F2 hcc hh hy x0 fR hf rB
      go_wp2
      go_roundw
      case rel =>
        refine ⟨j + 1, _, by omega, by go_num, ?_, HC.out, ?_, e2.setCell (by simp) _, by simpa [World.setCell] using hz3⟩
        · rw [← fill_set LL n j HL.out hjn]
          simpa [World.setCell] using HF1.out
        · simpa [World.setCell] using HF2.out
      case measure => simp [intOf]; omega
    · obtain rfl : j = n := by omega
      have HX : Hid (LL.take j ++ List.replicate (j - j) [] = LL) := by show _ = _; rw [Nat.sub_self]; simp; exact List.take_of_length_le (by have := HL.out; omega)
      rw [HX.out] at hf
      go_wp2
      go_ret
      exact ⟨_, vs', rfl, hf, hc, he⟩
end Go.Proofs.Ytkcbkbpjaccpgaa
