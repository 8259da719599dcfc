/-
  Contracts of the reference's SplitByte, FormatInt and ParseNumber. Conditions: a text of at most 2^30 bytes; a number of at most six digits.
-/
import Derived.Test.YtkhgkaiadfebmaaDoorLib
set_option linter.unusedSimpArgs false
set_option linter.unusedVariables false
namespace Go.Proofs.YtkhgkaiadfebmaaDoor
open Go.RowKit
def toL (s : ByteArray) : List UInt8 := s.data.toList
theorem toL_length (s : ByteArray) : (toL s).length = s.size := by unfold toL; rw [Array.length_toList]; rfl
theorem toL_at (s : ByteArray) (k : Nat) (h : k < s.size) : (toL s)[k]? = some s[k] := by
  have h1 : k < (toL s).length := by rw [toL_length]; exact h
  rw [List.getElem?_eq_getElem h1]
  rfl
theorem toL_extract (s : ByteArray) (a b : Nat) : toL (s.extract a b) = ((toL s).drop a).take (b - a) := Lib.extract_data s a b
theorem mk_toL (s : ByteArray) : (⟨(toL s).toArray⟩ : ByteArray) = s := by apply ByteArray.ext; unfold toL; simp
theorem pieces_of {b : UInt8} {s : ByteArray} {ps : List ByteArray} (h : splitL b (toL s) = ps.map toL) : pieces b s = ps := by
  unfold pieces
  show (splitL b (toL s)).map _ = _
  rw [h, List.map_map]
  refine List.map_id'' (fun x => ?_) _
  exact mk_toL x
structure SpI (b : UInt8) (s : ByteArray) (k fr : Nat) (done : List ByteArray) : Prop where
  eq : splitL b (toL s) = done.map toL ++ splitL b ((toL s).drop fr)
  no : ¬ b ∈ ((toL s).drop fr).take (k - fr)
theorem SpI.fin {b : UInt8} {s : ByteArray} {fr : Nat} {done : List ByteArray} (h : SpI b s s.size fr done) : pieces b s = done ++ [s.extract fr s.size] := by
  have h2 := h.no
  rw [List.take_of_length_le (by rw [List.length_drop, toL_length]; exact Nat.le_refl _)] at h2
  refine pieces_of ?_
  rw [h.eq, splitL_no b _ h2, List.map_append, List.map_cons, List.map_nil, toL_extract, List.take_of_length_le (by rw [List.length_drop, toL_length]; exact Nat.le_refl _)]
theorem SpI.hit {b : UInt8} {s : ByteArray} {k fr : Nat} {done : List ByteArray} (h : SpI b s k fr done) (hf : fr ≤ k) (hk : k < s.size) (hb : s[k] = b) : SpI b s (k + 1) (k + 1) (done ++ [s.extract fr k]) := by
  refine ⟨?_, by simp⟩
  have h1 : (toL s).drop fr = ((toL s).drop fr).take (k - fr) ++ b :: (toL s).drop (k + 1) := by
    have h2 := List.take_append_drop (k - fr) ((toL s).drop fr)
    rw [List.drop_drop, show fr + (k - fr) = k from by omega] at h2
    have h3 : (toL s).drop k = b :: (toL s).drop (k + 1) := by
      rw [List.drop_eq_getElem_cons (by rw [toL_length]; exact hk)]
      congr 1
    rw [← h3, h2]
  rw [h.eq, h1, splitL_app b _ _ h.no, List.map_append, List.map_cons, List.map_nil, toL_extract]
  simp
theorem SpI.miss {b : UInt8} {s : ByteArray} {k fr : Nat} {done : List ByteArray} (h : SpI b s k fr done) (hf : fr ≤ k) (hk : k < s.size) (hb : s[k] ≠ b) : SpI b s (k + 1) fr done := by
  refine ⟨h.eq, ?_⟩
  rw [show k + 1 - fr = (k - fr) + 1 from by omega]
  have hl : k - fr < ((toL s).drop fr).length := by rw [List.length_drop, toL_length]; omega
  rw [List.take_succ_eq_append_getElem hl]
  intro h1
  rcases List.mem_append.1 h1 with h1 | h1
  · exact h.no h1
  · have h2 := List.mem_singleton.1 h1
    rw [List.getElem_drop] at h2
    apply hb
    rw [h2]
    have h3 : fr + (k - fr) = k := by omega
    have h4 := toL_at s k hk
    have h5 : (toL s)[fr + (k - fr)]? = some s[k] := by rw [h3]; exact h4
    rw [List.getElem?_eq_getElem (by rw [toL_length]; omega)] at h5
    exact (Option.some.inj h5).symm
theorem strN_snoc (l : List ByteArray) (x : ByteArray) : strN (l ++ [x]) = strN l ++ [.string x] := by simp [strN]
theorem info_str : (Tryd.prog.info? 9).map (fun i => (i.zero, i.size, i.bytes)) = some (some (.string ByteArray.empty), 1, 16) := by kernel_rfl
theorem one_str (x : ByteArray) : ∀ u ∈ (#[Value.string x] : Array Value).toList, u.oneCell' = true := by intro u hu; simp at hu; subst hu; rfl
set_option maxHeartbeats 1600000 in
theorem spec_split (b : UInt8) (x : Int) (hb : (b.toNat : Int) = x) (s : ByteArray) (w : World) (hs : s.size ≤ 1073741824) :
    Calls Tryd.prog 29 #[.string s, .int .u8 x] w fun e w' => ∃ A c, e = .returned (.slice A (pieces b s).length c) ∧ w'.ownsRow w.heap.size 9 1 (.slice A (pieces b s).length c) (pieces b s).length (strN (pieces b s)) ∧ Ext w w' := by
  obtain ⟨i0, hi, hz0, hz1, hz2⟩ := info_parts info_str
  have own0 := own_new (w := w) (g := w.heap.size) (base := w.heap.size) (e := 9) (size := 1) #[] 0 rfl (Nat.le_refl _) (by simp) (by simp)
  have HSF := Lib.hid (fun fr done => SpI.fin (b := b) (s := s) (fr := fr) (done := done))
  obtain ⟨ps, hps⟩ : ∃ ps, ps = pieces b s := ⟨_, rfl⟩
  rw [← hps] at HSF ⊢
  have HBX := Lib.hid hb
  clear hb hps
  go_enter Tryd.func29, Tryd.ntmps29
  go_wp2
  go_loopw [5, 6, 7] (fun v f i wr => ∃ (k fr : Nat) (done : List ByteArray), k ≤ s.size + 1 ∧ i = .int .i64 k ∧ f = .int .i64 fr ∧ fr ≤ k ∧ done.length ≤ k ∧ wr.ownsRow w.heap.size 9 1 v done.length (strN done) ∧ Hid ((k ≤ s.size → SpI b s k fr done) ∧ (k = s.size + 1 → ps = done)) ∧ Ext w wr) (fun _ _ i _ => s.size + 1 - (intOf i).toNat)
  case atStart => exact ⟨0, 0, [], Nat.zero_le _, rfl, rfl, Nat.le_refl _, Nat.le_refl _, own0, Lib.hid ⟨fun _ => ⟨by simp, by simp⟩, fun h => by omega⟩, (by repeat (first | exact Ext.refl _ | assumption | refine Ext.alloc ?_ _ | refine Ext.drew ?_ | refine Ext.drewN ?_ _ | refine Ext.trans ?_ (by assumption)))⟩
  case round =>
    clear own0
    obtain ⟨k, fr, done, hk, rfl, rfl, hfr, hdl, own, HSP, he⟩ := hrel
    by_cases hle : k ≤ s.size
    · have HI := Lib.hid (HSP.out.1 hle)
      have zz := he.size
      by_cases hkn : k = s.size
      · have HP : Hid (ps = done ++ [s.extract fr k]) := by
          show _ = _
          rw [hkn]
          exact HSF.out fr done (by have := HI.out; rwa [hkn] at this)
        have hkb : ((k : Int) == (s.size : Int)) = true := by simp; omega
        have HKN := Lib.hid hkn
        clear hkn
        have hex : s.extract fr k = s.extract fr k := rfl
        have HB0 : Hid (Blk (wr.alloc (.cells #[.string (s.extract fr k)] 9)) wr.heap.size #[.string (s.extract fr k)]) := Blk.new _ _ _
        obtain ⟨V, cV, rfl⟩ := own_form own
        go_wp2_with (at_builtin; refine wpList_append_new rfl _ _ 45 rfl w.heap.size 9 i0 (.string ByteArray.empty) 1 16 Tryd.underlying45 hi hz0 hz1 hz2 rfl (by decide) _ done.length (strN done) rfl (own.alloc _) wr.heap.size 1 1 #[.string (s.extract fr k)] rfl HB0.out rfl (by decide) (one_str _) ?c2 ?c3 ?c4 ?_)
        case c2 => unfold maxLen; omega
        case c3 => omega
        case c4 => first | omega | (simp; omega)
        intro G4 c4 w4 own4 hg4 _
        have e4 := own_ext (a := w) (he.alloc _) (own.alloc _) (Nat.le_refl _) hg4
        have HO4 := Lib.hid own4
        clear own4 hg4 own hi hz0 hz1 hz2
        go_wp2
        go_roundw
        case rel =>
          refine ⟨k + 1, k + 1, done ++ [s.extract fr k], by omega, by go_num, by go_num, Nat.le_refl _, by simp; omega, ?_, Lib.hid ⟨fun h => by have := HKN.out; omega, fun _ => HP.out⟩, e4⟩
          rw [strN_snoc, List.length_append]
          exact HO4.out
        case measure => simp [intOf]; omega
      · have hlt : k < s.size := by omega
        have hkb : ((k : Int) == (s.size : Int)) = false := by simp; omega
        by_cases hbb : s[k] = b
        · have HH := Lib.hid (HI.out.hit hfr hlt hbb)
          have hxb : ((s[k].toNat : Int) == x) = true := by rw [hbb, ← HBX.out]; simp
          clear hkn hbb
          have HB0 : Hid (Blk (wr.alloc (.cells #[.string (s.extract fr k)] 9)) wr.heap.size #[.string (s.extract fr k)]) := Blk.new _ _ _
          obtain ⟨V, cV, rfl⟩ := own_form own
          go_wp2_with (at_builtin; refine wpList_append_new rfl _ _ 45 rfl w.heap.size 9 i0 (.string ByteArray.empty) 1 16 Tryd.underlying45 hi hz0 hz1 hz2 rfl (by decide) _ done.length (strN done) rfl (own.alloc _) wr.heap.size 1 1 #[.string (s.extract fr k)] rfl HB0.out rfl (by decide) (one_str _) ?d2 ?d3 ?d4 ?_)
          case d2 => unfold maxLen; omega
          case d3 => omega
          case d4 => first | omega | (simp; omega)
          intro G4 c4 w4 own4 hg4 _
          have e4 := own_ext (a := w) (he.alloc _) (own.alloc _) (Nat.le_refl _) hg4
          have HO4 := Lib.hid own4
          clear own4 hg4 own hi hz0 hz1 hz2
          go_wp2
          go_roundw
          case rel =>
            refine ⟨k + 1, k + 1, done ++ [s.extract fr k], by omega, by go_num, by go_num, Nat.le_refl _, by simp; omega, ?_, Lib.hid ⟨fun h => HH.out, fun h => by omega⟩, e4⟩
            rw [strN_snoc, List.length_append]
            exact HO4.out
          case measure => simp [intOf]; omega
        · have HH := Lib.hid (HI.out.miss hfr hlt hbb)
          have hxb : ((s[k].toNat : Int) == x) = false := by
            rw [← HBX.out, beq_eq_false_iff_ne]
            intro h
            apply hbb
            apply UInt8.toNat_inj.1
            omega
          clear hkn hbb
          go_wp2
          go_roundw
          case rel => exact ⟨k + 1, fr, done, by omega, by go_num, rfl, by omega, by omega, own, Lib.hid ⟨fun h => HH.out, fun h => by omega⟩, he⟩
          case measure => simp [intOf]; omega
    · have HP : Hid (ps = done) := HSP.out.2 (by omega)
      obtain ⟨V, cV, rfl⟩ := own_form own
      have HO := Lib.hid own
      clear own
      go_wp2
      go_ret
      rw [HP.out]
      exact ⟨V, cV, rfl, HO.out, he⟩
end Go.Proofs.YtkhgkaiadfebmaaDoor
