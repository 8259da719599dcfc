/-
  Rows of tokens: counted, copied, compared; the walk of the law on FormatTokens. Conditions: the slices read as rows of tokens.
-/
import Derived.Test.YtilkbccpcbelgaaToks
import Derived.Test.YtilkbccpcbelgaaOpen
import Derived.Test.YtilkbccpcbelgaaGates
set_option linter.unusedSimpArgs false
set_option linter.unusedVariables false
namespace Go.Proofs.Ytilkbccpcbelgaa
open Go.RowKit
section
open Go.ChangeShapes Go.WideShapes Go.Joins Go.Deep
variable {H : Type} {enc : TypeId × Value → H} {P : Program} {w : World} {base : Nat} {spare : Nat → Bool} {held : Bool}
theorem open_tokenS {t e : TypeId} {f0 f1 : Field} {A : Option Addr} {n c : Nat} {d : DataW H} {p : List MemPlace} (ht : P.underlying t = some (.slice e)) (hs : P.underlying e = some (.struct #[f0, f1]))
    (hi : P.underlying f0.type = some (.int .i64)) (hst : P.underlying f1.type = some .string) (hone : oneCellFields P #[f0, f1] = true) (hC : P.cellsOf e = 2)
    (h : DataW.Trod enc P w base spare held t (.slice A n c) d p) :
    ∃ T : List Tk, Rd w A (toks T) ∧ T.length = n ∧ n ≤ maxLen ∧ ∀ t ∈ T, (Lit.int .i64 t.1).wf = true ∧ t.2.size ≤ maxLen := by
  obtain ⟨l, h1, h2, h3, h4⟩ := open_sliceOf (fun t : Tk => [.int .i64 t.1, .string t.2]) 2 (fun t => (Lit.int .i64 t.1).wf = true ∧ t.2.size ≤ maxLen) ht hC (by omega) (fun _ cs _ hx => by
    obtain ⟨xs, n, _, _, hlen, hxl, hf⟩ := DataW.trod_struct hs hx
    rw [hC] at hlen
    obtain ⟨o0, k0⟩ := hone_of hone 0 f0 rfl
    obtain ⟨o1, k1⟩ := hone_of hone 1 f1 rfl
    have q0 := hf 0 f0 rfl
    have q1 := hf 1 f1 rfl
    rw [o0, k0] at q0
    rw [o1, k1] at q1
    obtain ⟨c0, c1, rfl⟩ : ∃ c0 c1, cs = [c0, c1] := by
      match cs, hlen with
      | [c0, c1], _ => exact ⟨c0, c1, rfl⟩
    have hx0 : xs[0]? = some (xs[0]'(by rw [hxl]; simp)) := List.getElem?_eq_getElem _
    have hx1 : xs[1]? = some (xs[1]'(by rw [hxl]; simp)) := List.getElem?_eq_getElem _
    rw [hx0] at q0
    rw [hx1] at q1
    obtain ⟨k, e0, _, w0⟩ := DataW.trod_int hi q0
    obtain ⟨s, e1, _, w1⟩ := DataW.trod_string hst q1
    simp at e0 e1
    subst e0 e1
    exact ⟨(k, s), rfl, w0, w1⟩) h
  exact ⟨l, h1, h2, h3, fun x hx => (h4 x hx).1⟩
end
theorem Fr.set_cell {w : World} {lo hi : Nat} {g off : Nat} {xs : List Value} (h : Fr w lo hi (some ⟨g, off, none⟩) xs) (j : Nat) (u : Value) (hj : j < xs.length) :
    Fr (w.setCell ⟨g, off + j, none⟩ u) lo hi (some ⟨g, off, none⟩) (xs.set j u) := fun hn => by
  obtain ⟨g', off', cur, t, e, h1, h2, hh, hc⟩ := h (by intro h0; rw [h0] at hj; simp at hj)
  injection e with e
  injection e with e1 e2
  subst e1 e2
  refine ⟨g, off, cur.setIfInBounds (off + j) u, t, rfl, h1, h2, ?_, fun i v hv => ?_⟩
  · simp [World.setCell, Array.getElem?_modify, hh]
  · rw [List.getElem?_set] at hv
    have hcj := hc j xs[j] (by simp [hj])
    have hlt : off + j < cur.size := by
      rcases Nat.lt_or_ge (off + j) cur.size with hlt | hge
      · exact hlt
      · rw [Array.getElem?_eq_none hge] at hcj; cases hcj
    rw [Array.getElem?_setIfInBounds]
    by_cases hij : j = i
    · subst hij
      simp [hj] at hv
      simp [hlt, hv]
    · rw [if_neg hij] at hv
      rw [if_neg (by omega)]
      exact hc i v hv
theorem toks_set : ∀ (T : List Tk) (j : Nat) (t : Tk), ((toks T).set (j * 2) (.int .i64 t.1)).set (j * 2 + 1) (.string t.2) = toks (T.set j t)
  | [], j, t => by simp [toks]
  | a :: T, 0, t => rfl
  | a :: T, j + 1, t => by
    rw [toks_cons, List.set_cons_succ, toks_cons, ← toks_set T j t, show (j + 1) * 2 = j * 2 + 1 + 1 from by omega]
    simp
theorem Fr.tok {w : World} {lo hi g off : Nat} {T : List Tk} (h : Fr w lo hi (some ⟨g, off, none⟩) (toks T)) {j : Nat} (hj : j < T.length) :
    w.cell? ⟨g, off + j * 2, none⟩ = some (.int .i64 (T.getD j tk0).1) ∧ w.cell? ⟨g, off + j * 2 + 1, none⟩ = some (.string (T.getD j tk0).2) ∧ w.frozen? ⟨g, off + j * 2, none⟩ = false ∧ w.frozen? ⟨g, off + j * 2 + 1, none⟩ = false ∧ lo ≤ g ∧ g < hi := by
  obtain ⟨g', off', cur, t, e, h1, h2, hh, hc⟩ := h (by intro h0; have := toks_length T; rw [h0] at this; simp at this; omega)
  injection e with e
  injection e with e1 e2
  subst e1 e2
  have ha := toks_at T j hj
  exact ⟨(cell_of_row w g _ cur t (0, 0) hh).trans (hc _ _ ha.1), by rw [Nat.add_assoc]; exact (cell_of_row w g _ cur t (0, 0) hh).trans (hc _ _ ha.2), by simp [World.frozen?, hh], by simp [World.frozen?, hh], h1, h2⟩
theorem Fr.set_tok {w : World} {lo hi g off : Nat} {T : List Tk} (h : Fr w lo hi (some ⟨g, off, none⟩) (toks T)) (j : Nat) (t : Tk) (hj : j < T.length) :
    Fr ((w.setCell ⟨g, off + j * 2, none⟩ (.int .i64 t.1)).setCell ⟨g, off + j * 2 + 1, none⟩ (.string t.2)) lo hi (some ⟨g, off, none⟩) (toks (T.set j t)) := by
  have hl := toks_length T
  have h1 := h.set_cell (j * 2) (.int .i64 t.1) (by omega)
  have h2 := h1.set_cell (j * 2 + 1) (.string t.2) (by rw [List.length_set]; omega)
  rw [toks_set] at h2
  rw [Nat.add_assoc]; exact h2
theorem tk_ext {T T' : List Tk} (h : T.length = T'.length) (hj : ∀ j, j < T.length → T.getD j tk0 = T'.getD j tk0) : T = T' := by
  apply List.ext_getElem h
  intro i h1 h2
  have := hj i h1
  simpa [List.getD, h1, h2] using this
theorem take_set_tk {T : List Tk} {n j : Nat} {t : Tk} (hl : T.length = n) (hj : j < n) (ht : T.getD j tk0 = t) : (T.take j ++ List.replicate (n - j) tk0).set j t = T.take (j + 1) ++ List.replicate (n - (j + 1)) tk0 := by
  have hm : (List.take j T).length = j := by simp; omega
  rw [List.set_append, if_neg (by omega), hm, Nat.sub_self, show n - j = (n - (j + 1)) + 1 from by omega, List.replicate_succ, List.set_cons_zero]
  rw [List.take_succ_eq_append_getElem (by omega), show T[j] = t from by simpa [List.getD, show j < T.length by omega] using ht]
  simp
theorem made_toks (n : Nat) : (madeCells #[Value.int .i64 0, .string ⟨#[]⟩] (n * 2)).toList = toks (List.replicate n tk0) := by
  unfold madeCells
  rw [Array.toList_map]
  simp only [Array.toList_range]
  induction n with
  | zero => rfl
  | succ n ih =>
    rw [show (n + 1) * 2 = n * 2 + 1 + 1 from by omega, List.range_succ, List.range_succ, List.map_append, List.map_append, ih, List.replicate_succ', toks_app]
    have e0 : n * 2 % 2 = 0 := by omega
    have e1 : (n * 2 + 1) % 2 = 1 := by omega
    simp [e0, e1, toks, tk0]
set_option maxRecDepth 20000 in
set_option maxHeartbeats 800000 in
theorem szTokenS_any (A : Option Addr) (n c : Nat) (T : List Tk) (w : World) (hA : Rd w A (toks T)) (hl : T.length = n) (hn : n ≤ maxLen) (hs : ∀ t ∈ T, t.2.size ≤ maxLen) :
    Calls Try.prog 42 #[.slice A n c, .int .i64 1048576] w fun e w' => ∃ z : Int, e = .returned (.int .i64 z) ∧ (z = -1 ∨ (0 ≤ z ∧ n + sumTo T n ≤ 1048576)) ∧ Ext w w' := by
  unfold maxLen at hn hs
  have HL := Lib.hid hl
  have HS := Lib.hid hs
  clear hl hs
  by_cases hbig : (1048576 : Int) - n < 0
  · go_enter Try.func42, Try.ntmps42
    go_wp2
    go_ret
    exact ⟨-1, rfl, .inl rfl, Ext.refl _⟩
  · go_enter Try.func42, Try.ntmps42
    go_wp2
    go_loopw [1, 5] (fun l i wr => ∃ (j : Nat) (z : Int), j ≤ n ∧ i = .int .i64 j ∧ l = .int .i64 z ∧ 0 ≤ z ∧ z ≤ 1048576 ∧ Hid (z = 1048576 - n - (sumTo T j : Int)) ∧ Ext w wr) (fun _ i _ => n - (intOf i).toNat)
    case atStart => exact ⟨0, _, Nat.zero_le _, rfl, rfl, by omega, by omega, Lib.hid (by simp [sumTo]), (by repeat (first | exact Ext.refl _ | assumption | refine Ext.alloc ?_ _ | refine Ext.drew ?_ | refine Ext.drewN ?_ _ | refine Ext.trans ?_ (by assumption)))⟩
    case round =>
      obtain ⟨j, z, hj, rfl, rfl, hz0, hz1, hz, he⟩ := hrel
      by_cases hlt : j < n
      · obtain ⟨g, off, rfl, hc⟩ := (hA.ext he).tok (by have := HL.out; omega)
        obtain ⟨x0, x1⟩ := hc j (by have := HL.out; omega)
        have hsz := HS.out _ (tk_mem (T := T) (j := j) (by have := HL.out; omega))
        have HT : Hid (sumTo T (j + 1) = sumTo T j + (T.getD j tk0).2.size) := rfl
        generalize (T.getD j tk0).1 = k at *
        generalize (T.getD j tk0).2 = s at *
        clear hc
        by_cases hneg : z - s.size < 0
        · have hq : szLeft z s.size = -1 := by unfold szLeft; simp [hneg]
          go_wp2_with fail
          refine (szToken_any k s z _ (by omega) hz0 hz1).mono ?_
          rintro e w2 ⟨rfl, h2⟩
          go_wp2
          go_ret
          exact ⟨-1, rfl, .inl rfl, (by repeat (first | exact Ext.refl _ | assumption | refine Ext.alloc ?_ _ | refine Ext.drew ?_ | refine Ext.drewN ?_ _ | refine Ext.trans ?_ (by assumption)))⟩
        · have hq : szLeft z s.size = z - s.size := by unfold szLeft; simp [hneg]
          go_wp2_with fail
          refine (szToken_any k s z _ (by omega) hz0 hz1).mono ?_
          rintro e w2 ⟨rfl, h2⟩
          go_wp2
          go_roundw
          case rel => exact ⟨j + 1, z - s.size, by omega, by go_num, rfl, by omega, by omega, Lib.hid (by have := HT.out; have := hz.out; omega), (by repeat (first | exact Ext.refl _ | assumption | refine Ext.alloc ?_ _ | refine Ext.drew ?_ | refine Ext.drewN ?_ _ | refine Ext.trans ?_ (by assumption)))⟩
          case measure => simp [intOf]; omega
      · obtain rfl : j = n := by omega
        go_wp2
        go_ret
        exact ⟨z, rfl, .inr ⟨hz0, by have := hz.out; omega⟩, he⟩
theorem info_token : (Try.prog.info? 71).map (fun i => (i.zero, i.size, i.bytes)) = some (some (.agg #[.int .i64 0, .string ⟨#[]⟩]), 2, 24) := by kernel_rfl
set_option maxRecDepth 20000 in
set_option maxHeartbeats 800000 in
theorem toTokenS_any (A : Option Addr) (n c : Nat) (T : List Tk) (w : World) (hA : Rd w A (toks T)) (hl : T.length = n) (hn : n ≤ 1048576) :
    Calls Try.prog 44 #[.slice A n c] w fun e w' => ∃ B, e = .returned (.slice B n n) ∧ Fr w' w.heap.size w'.heap.size B (toks T) ∧ Ext w w' := by
  have HL := Lib.hid hl
  clear hl
  obtain ⟨i0, hi, hz0, hz1, hz2⟩ := info_parts info_token
  go_enter Try.func44, Try.ntmps44
  go_wp2_with (at_make; refine wpList_make_full _ rfl _ _ 60 rfl w.heap.size 71 i0 (.agg #[.int .i64 0, .string ⟨#[]⟩]) 2 Try.underlying60 hi hz0 hz1 .i64 .i64 _ _ n rfl rfl rfl rfl ?b2 ?b3 ?b4 ?_)
  case b2 => rw [hz2]; omega
  case b3 => unfold maxLen; omega
  case b4 => exact Nat.le_refl _
  intro w1 hown hgrow
  have hf := Fr.of_own hown
  have he : Ext w w1 := (Ext.refl w).grown hgrow (by simp)
  have hlt : w.heap.size < w1.heap.size := (hown.lt _ rfl).2
  clear hown hgrow hi hz0 hz1 hz2
  replace hf : Fr w1 w.heap.size w1.heap.size (some ⟨w.heap.size, 0, none⟩) (toks (T.take 0 ++ List.replicate (n - 0) tk0)) := by
    have e := made_toks n
    simp only [List.take_zero, List.nil_append, Nat.sub_zero]
    rw [← e]; exact hf
  go_wp2
  go_loopw [4] (fun i wr => ∃ j : Nat, j ≤ n ∧ i = .int .i64 j ∧ Fr wr w.heap.size w1.heap.size (some ⟨w.heap.size, 0, none⟩) (toks (T.take j ++ List.replicate (n - j) tk0)) ∧ Ext w wr ∧ w1.heap.size ≤ wr.heap.size) (fun i _ => n - (intOf i).toNat)
  case atStart => exact ⟨0, Nat.zero_le _, rfl, hf, he, Nat.le_refl _⟩
  case round =>
    obtain ⟨j, hj, rfl, hf, he, hz⟩ := hrel
    by_cases hjn : j < n
    · obtain ⟨g, off, rfl, hc⟩ := (hA.ext he).tok (by have := HL.out; omega)
      obtain ⟨x0, x1⟩ := hc j (by have := HL.out; omega)
      have hlen : Hid ((T.take j ++ List.replicate (n - j) tk0).length = n) := by show _ = _; have := HL.out; simp; omega
      obtain ⟨t, HT⟩ : ∃ t, Hid (T.getD j tk0 = t) := ⟨_, Lib.hid rfl⟩
      rw [HT.out] at x0 x1
      obtain ⟨k, s⟩ := t
      simp only at x0 x1
      clear hc
      go_wp2_with fail
      refine (laws_toToken k s _).mono ?_
      rintro e w2 ⟨rfl, h2⟩
      clear x0 x1
      replace hf := hf.ext h2
      replace he := he.trans h2
      replace hz := Nat.le_trans hz h2.size
      have hjl : j < (T.take j ++ List.replicate (n - j) tk0).length := by rw [hlen.out]; exact hjn
      obtain ⟨y0, y1, f0, f1, _, _⟩ := hf.tok hjl
      have HS := Lib.hid (hf.set_tok j (k, s) hjl)
      rw [Nat.zero_add] at y0 y1 f0 f1 HS
      have hbz : w.heap.size < w2.heap.size := by omega
      clear hf h2 hjl
      generalize ((T.take j ++ List.replicate (n - j) tk0).getD j tk0).1 = v0 at *
      generalize ((T.take j ++ List.replicate (n - j) tk0).getD j tk0).2 = v1 at *
      go_wp2
      go_roundw
      case rel =>
        refine ⟨j + 1, by omega, by go_num, ?_, (he.setCell (by simp) _).setCell (by simp) _, by simpa [World.setCell] using hz⟩
        have h3 := HS.out
        rw [take_set_tk HL.out hjn HT.out] at h3
        exact h3
      case measure => simp [intOf]; omega
    · obtain rfl : j = n := by omega
      go_wp2
      go_ret
      refine ⟨_, rfl, ?_, he⟩
      rw [Nat.sub_self, List.replicate_zero, List.append_nil, List.take_of_length_le (by have := HL.out; omega)] at hf
      exact hf.mono (Nat.le_refl _) hz
theorem eqToken_same (k : Int) (s : ByteArray) (w : World) : Calls Try.prog 80 #[.agg #[.int .i64 k, .string s], .agg #[.int .i64 k, .string s]] w fun e w' => e = .returned (.bool true) ∧ Ext w w' := by
  go_enter Try.func80, Try.ntmps80
  go_wp2
  go_ret
  exact ⟨rfl, (by repeat (first | exact Ext.refl _ | assumption | refine Ext.alloc ?_ _ | refine Ext.drew ?_ | refine Ext.drewN ?_ _ | refine Ext.trans ?_ (by assumption)))⟩
set_option maxRecDepth 20000 in
set_option maxHeartbeats 800000 in
theorem eqTokenS_same (A B : Option Addr) (n c c' : Nat) (T : List Tk) (w : World) (hA : Rd w A (toks T)) (hB : Rd w B (toks T)) (hl : T.length = n) (hn : n ≤ 1048576) :
    Calls Try.prog 46 #[.slice A n c, .slice B n c'] w fun e w' => e = .returned (.bool true) ∧ Ext w w' := by
  have HL := Lib.hid hl
  clear hl
  go_enter Try.func46, Try.ntmps46
  go_wp2
  go_loopw [5] (fun i wr => ∃ j : Nat, j ≤ n ∧ i = .int .i64 j ∧ Ext w wr) (fun i _ => n - (intOf i).toNat)
  case atStart => exact ⟨0, Nat.zero_le _, rfl, (by repeat (first | exact Ext.refl _ | assumption | refine Ext.alloc ?_ _ | refine Ext.drew ?_ | refine Ext.drewN ?_ _ | refine Ext.trans ?_ (by assumption)))⟩
  case round =>
    obtain ⟨j, hj, rfl, he⟩ := hrel
    by_cases hlt : j < n
    · obtain ⟨g, off, rfl, hc⟩ := (hA.ext he).tok (by have := HL.out; omega)
      obtain ⟨g', off', rfl, hc'⟩ := (hB.ext he).tok (by have := HL.out; omega)
      obtain ⟨x0, x1⟩ := hc j (by have := HL.out; omega)
      obtain ⟨y0, y1⟩ := hc' j (by have := HL.out; omega)
      have hjI : (j : Int) < (n : Int) := by omega
      generalize (T.getD j tk0).1 = k at *
      generalize (T.getD j tk0).2 = s at *
      clear hc hc'
      go_wp2
      go_region_held3 (fun w' => w'.cell? ⟨g, off + j * 2, none⟩ = some (.int .i64 k) ∧ w'.cell? ⟨g, off + j * 2 + 1, none⟩ = some (.string s) ∧ w'.cell? ⟨g', off' + j * 2, none⟩ = some (.int .i64 k) ∧ w'.cell? ⟨g', off' + j * 2 + 1, none⟩ = some (.string s) ∧ Ext w w')
        (first | exact ⟨x0, x1, y0, y1, he.drew⟩ | (go_split_ands; exact ⟨Ext.cell hx (by assumption), Ext.cell hx (by assumption), Ext.cell hx (by assumption), Ext.cell hx (by assumption), Ext.trans (by assumption) hx⟩))
        (first | (go_at_call 80; go_split_ands; refine (eqToken_same k s _).mono ?_; rintro e w' ⟨rfl, hx⟩))
      go_split_ands
      go_wp2
      go_roundw
      case rel => exact ⟨j + 1, by omega, by go_num, by assumption⟩
      case measure => simp [intOf]; omega
    · obtain rfl : j = n := by omega
      go_wp2
      go_ret
      exact ⟨rfl, he⟩
set_option maxHeartbeats 800000 in
theorem walk_FnExactFormatTokens (w : World) (A : Option Addr) (n c : Nat) (T : List Tk) (rd : Rd w A (toks T)) (hl : T.length = n) (hn : n ≤ maxLen) (wl : ∀ t ∈ T, (Lit.int .i64 t.1).wf = true ∧ t.2.size ≤ maxLen) :
    Calls Try.prog 10 #[.slice A n c] w fun e w' => e = .returned (.bool true) ∧ Ext w w' := by
  have HL := Lib.hid hl
  have HW := Lib.hid wl
  clear hl wl
  go_enter Try.func10, Try.ntmps10
  go_wp2_with fail
  refine (szTokenS_any A n c T _ rd HL.out hn (fun t ht => (HW.out t ht).2)).mono ?_
  rintro e w1 ⟨z, rfl, hz, h1⟩
  rcases hz with rfl | ⟨hz, hs⟩
  · go_wp2
    go_ret
    exact ⟨rfl, h1⟩
  · have HS := Lib.hid hs
    have hn2 : n ≤ 1048576 := by omega
    have hzz : ¬ z < 0 := by omega
    clear hs hn
    go_wp2_with fail
    refine (toTokenS_any A n c T _ (rd.ext h1) HL.out hn2).mono ?_
    rintro e w2 ⟨B, rfl, fB, h2⟩
    go_wp2_with fail
    refine (spec_formatTokens B n n T _ fB.rd HL.out hn2 (by have := HS.out; omega)).mono ?_
    rintro e w3 ⟨rfl, h3⟩
    have h03 := h1.trans (h2.trans h3)
    clear fB h1 h2 h3
    go_wp2_with fail
    refine (toTokenS_any A n c T _ (rd.ext h03) HL.out hn2).mono ?_
    rintro e w4 ⟨D, rfl, fD, h4⟩
    go_wp2_with fail
    refine (impl_formatTokens D n n T _ fD.rd HL.out hn2 (by have := HS.out; omega)).mono ?_
    rintro e w5 ⟨rfl, h5⟩
    replace fD := fD.ext h5
    have h05 := h03.trans (h4.trans h5)
    clear h4 h5 h03
    generalize fmtTo T n = f
    go_wp2_with fail
    refine (toTokenS_any A n c T _ (rd.ext h05) HL.out hn2).mono ?_
    rintro e w6 ⟨E, rfl, fE, h6⟩
    go_wp2_with fail
    refine (eqTokenS_same D E n n n T _ (fD.ext h6).rd fE.rd HL.out hn2).mono ?_
    rintro e w7 ⟨rfl, h7⟩
    go_wp2
    go_ret
    exact ⟨rfl, h05.trans (h6.trans h7)⟩
end Go.Proofs.Ytilkbccpcbelgaa
