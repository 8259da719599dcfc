/-
  Contracts of ParseGate. Conditions: a text of at most 2^30 bytes; the library's variables read as their initialisers lay them.
-/
import Derived.Test.YtkhgkaiadfebmaaDoorLib4
import Derived.Test.YtkhgkaiadfebmaaDoorPg
set_option linter.unusedSimpArgs false
set_option linter.unusedVariables false
namespace Go.Proofs.YtkhgkaiadfebmaaDoor
open Go.RowKit
theorem Blk.set {w : World} {g : Nat} {cs : Array Value} (x : Blk w g cs) (i : Nat) (v : Value) : Blk (w.setCell ⟨g, i, none⟩ v) g (cs.setIfInBounds i v) := by
  obtain ⟨t, ht⟩ := x
  exact ⟨t, by simp [World.setCell, Array.getElem?_modify, ht]⟩
theorem Blk.keep {w : World} {g h : Nat} {cs : Array Value} (x : Blk w g cs) (i : Nat) (v : Value) (hn : h ≠ g) : Blk (w.setCell ⟨h, i, none⟩ v) g cs := by
  obtain ⟨t, ht⟩ := x
  exact ⟨t, by simp [World.setCell, Array.getElem?_modify, ht, hn]⟩
theorem getD_pad (l : List ByteArray) (j : Nat) : (l ++ [(⟨#[]⟩ : ByteArray), (⟨#[]⟩ : ByteArray), (⟨#[]⟩ : ByteArray)]).getD j (⟨#[]⟩ : ByteArray) = l.getD j (⟨#[]⟩ : ByteArray) := by
  rw [List.getD_eq_getElem?_getD, List.getD_eq_getElem?_getD]
  rcases Nat.lt_or_ge j l.length with h | h
  · rw [List.getElem?_append_left h]
  · rw [List.getElem?_append_right h, List.getElem?_eq_none h]
    rcases Nat.lt_or_ge (j - l.length) 3 with h1 | h1
    · obtain h2 | h2 | h2 : j - l.length = 0 ∨ j - l.length = 1 ∨ j - l.length = 2 := by omega
      all_goals (rw [h2]; rfl)
    · rw [List.getElem?_eq_none (by simpa using h1)]
theorem ret_pg {k a b c k1 a1 b1 c1 : Int} {o o1 : Bool} (h : k = k1 ∧ a = a1 ∧ b = b1 ∧ c = c1 ∧ o = o1) : Ending.returned (.tuple #[.agg #[.int .i64 k1, .int .i64 a1, .int .i64 b1, .int .i64 c1], .bool o1]) = Ending.returned (.tuple #[.agg #[.int .i64 k, .int .i64 a, .int .i64 b, .int .i64 c], .bool o]) := by
  obtain ⟨rfl, rfl, rfl, rfl, rfl⟩ := h; rfl
theorem emp_size {s : ByteArray} (h : s.size = 0) : s = ⟨#[]⟩ := toL_inj (List.length_eq_zero_iff.1 ((toL_length s).trans h))
theorem emp_ne {s : ByteArray} (h : ¬ s = ⟨#[]⟩) : s.toList.isEmpty = false := by
  rw [List.isEmpty_eq_false_iff, ByteArray.toList_eq]
  exact fun h1 => h (toL_inj h1)
theorem strN_pad (l : List ByteArray) : strN (l ++ [(⟨#[]⟩ : ByteArray), (⟨#[]⟩ : ByteArray), (⟨#[]⟩ : ByteArray)]) = strN l ++ [.string ⟨#[]⟩, .string ⟨#[]⟩, .string ⟨#[]⟩] := by simp [strN]
theorem splitL_len2 (b : UInt8) : ∀ l, (splitL b l).length ≤ l.length + 1
  | [] => by simp [splitL]
  | c :: l => by
    have ih := splitL_len2 b l
    rw [splitL]
    split
    · simp; omega
    · cases h : splitL b l with
      | nil => simp
      | cons q t => rw [h] at ih; simp at ih ⊢; omega
theorem pieces_len_le (b : UInt8) (s : ByteArray) : (pieces b s).length ≤ s.size + 1 := by
  unfold pieces
  rw [List.length_map]
  have := splitL_len2 b (toL s)
  rw [toL_length] at this
  exact this
set_option maxRecDepth 20000 in
set_option maxHeartbeats 3200000 in
theorem spec_pg0 (s : ByteArray) (K v0 v1 v2 : Int) (o0 o1 o2 : Bool) (hc : Cand s K 0 v0 v1 v2 o0 o1 o2) (k a b c : Int) (ok : Bool) (hR : PgR s k a b c ok) (w : World) (hs : s.size ≤ 1073741824) (hO : LibOk w) :
    Calls Tryd.prog 7 #[.string s] w fun e w' => e = .returned (.tuple #[.agg #[.int .i64 k, .int .i64 a, .int .i64 b, .int .i64 c], .bool ok]) ∧ Ext w w' := by
  have HH : Hid (s ≠ ⟨#[]⟩ → fmtG K 0 0 0 = s → k = K ∧ a = 0 ∧ b = 0 ∧ c = 0 ∧ ok = true) := fun h1 h2 => hR.hit hc h1 h2
  have HM : Hid ((pieces 32 s).length ≠ 0 + 1 ∨ (0 < 0 ∧ o0 = false) ∨ (1 < 0 ∧ o1 = false) ∨ (2 < 0 ∧ o2 = false) ∨ s = ⟨#[]⟩ ∨ validG K 0 0 0 4 = false ∨ fmtG K 0 0 0 ≠ s → k = 0 ∧ a = 0 ∧ b = 0 ∧ c = 0 ∧ ok = false) := fun h => hR.miss hc h
  have HAR : Hid (arity K = 0) := by show _ = _; have := hc.ar; omega
  have HK := Lib.hid hc.kind
  have HO := Lib.hid hO
  have hwp := pieces_pos 32 s
  have hz0 := pieces_size 32 s 0
  have hz1 := pieces_size 32 s 1
  have hz2 := pieces_size 32 s 2
  have hz3 := pieces_size 32 s 3
  have HN0 := Lib.hid (fun W => spec_parseNumber ((pieces 32 s).getD 1 ⟨#[]⟩) v0 o0 hc.nums.n0 W (by omega))
  have HN1 := Lib.hid (fun W => spec_parseNumber ((pieces 32 s).getD 2 ⟨#[]⟩) v1 o1 hc.nums.n1 W (by omega))
  have HN2 := Lib.hid (fun W => spec_parseNumber ((pieces 32 s).getD 3 ⟨#[]⟩) v2 o2 hc.nums.n2 W (by omega))
  have HGK := Lib.hid (fun W (h : LibOk W) => spec_gateKind ((pieces 32 s).getD 0 ⟨#[]⟩) W h.names)
  rw [← HK.out] at HGK
  have hAR : ∀ W, Calls Tryd.prog 31 #[.int .i64 K] W fun e w' => e = .returned (.int .i64 0) ∧ W = w' := fun W => by have h := spec_arity K W; rw [HAR.out] at h; exact h
  have HARC := Lib.hid hAR
  clear hAR
  have HPAD := Lib.hid (getD_pad (pieces 32 s))
  have HSP := Lib.hid (fun W => spec_split 32 32 rfl s W hs)
  obtain ⟨ws, hws⟩ : ∃ ws, ws = pieces 32 s := ⟨_, rfl⟩
  rw [← hws] at HM HN0 HN1 HN2 HGK HPAD HSP hwp
  obtain ⟨n, hn⟩ : ∃ n, n = ws.length := ⟨_, rfl⟩
  have HNL := Lib.hid hn.symm
  rw [← hn] at HSP hwp
  have hn30 : n ≤ 1073741825 := by have := pieces_len_le 32 s; rw [hn, hws]; omega
  obtain ⟨t0, ht0⟩ : ∃ t, t = ws.getD 0 ⟨#[]⟩ := ⟨_, rfl⟩
  have HT0 := Lib.hid ht0.symm
  obtain ⟨t1, ht1⟩ : ∃ t, t = ws.getD 1 ⟨#[]⟩ := ⟨_, rfl⟩
  have HT1 := Lib.hid ht1.symm
  obtain ⟨t2, ht2⟩ : ∃ t, t = ws.getD 2 ⟨#[]⟩ := ⟨_, rfl⟩
  have HT2 := Lib.hid ht2.symm
  obtain ⟨t3, ht3⟩ : ∃ t, t = ws.getD 3 ⟨#[]⟩ := ⟨_, rfl⟩
  have HT3 := Lib.hid ht3.symm
  rw [← ht0] at HGK
  rw [← ht1] at HN0
  rw [← ht2] at HN1
  rw [← ht3] at HN2
  clear hws hn ht0 ht1 ht2 ht3 hz0 hz1 hz2 hz3 hc hR hO
  obtain ⟨i0, hi, hz0, hz1, hz2⟩ := info_parts info_str
  go_enter Tryd.func7, Tryd.ntmps7
  go_wp2_with fail
  refine (HSP.out _).mono ?_
  rintro e w1 ⟨A, cA, rfl, own1, h1⟩
  have rr := (Blk.new w 23 #[.int .i64 0, .int .i64 0, .int .i64 0, .int .i64 0]).ext h1
  have h01 : Ext w w1 := Ext.trans (by repeat (first | exact Ext.refl _ | assumption | refine Ext.alloc ?_ _ | refine Ext.drew ?_ | refine Ext.drewN ?_ _ | refine Ext.trans ?_ (by assumption))) h1
  have zz1 := h1.size
  simp only [World.size_alloc] at zz1 own1
  have HB0 : Hid (Blk (w1.alloc (.cells #[.string ⟨#[]⟩, .string ⟨#[]⟩, .string ⟨#[]⟩] 9)) w1.heap.size #[.string ⟨#[]⟩, .string ⟨#[]⟩, .string ⟨#[]⟩]) := Blk.new _ _ _
  go_wp2_with (at_builtin; refine wpList_append_new rfl _ _ 45 rfl (w.heap.size + 1) 9 i0 (.string ByteArray.empty) 1 16 Tryd.underlying45 hi hz0 hz1 hz2 rfl (by decide) _ n (strN ws) rfl (own1.alloc _) w1.heap.size 3 3 #[.string ⟨#[]⟩, .string ⟨#[]⟩, .string ⟨#[]⟩] rfl HB0.out rfl (by decide) (by intro u hu; simp at hu; subst hu; rfl) ?c2 ?c3 ?c4 ?_)
  case c2 => unfold maxLen; omega
  case c3 => omega
  case c4 => first | omega | (simp; omega)
  intro G4 c4 w4 own4 hg4 _
  have e4 := own_ext (a := w.alloc (.cells #[.int .i64 0, .int .i64 0, .int .i64 0, .int .i64 0] 23)) (h1.alloc _) (own1.alloc _) (by simp) hg4
  have HE4 := Lib.hid e4
  have h04 : Ext w w4 := Ext.trans (by repeat (first | exact Ext.refl _ | assumption | refine Ext.alloc ?_ _ | refine Ext.drew ?_ | refine Ext.drewN ?_ _ | refine Ext.trans ?_ (by assumption))) e4
  replace rr := (Blk.new w 23 #[.int .i64 0, .int .i64 0, .int .i64 0, .int .i64 0]).ext e4
  have rW : Rd w4 G4 (strN (ws ++ [(⟨#[]⟩ : ByteArray), (⟨#[]⟩ : ByteArray), (⟨#[]⟩ : ByteArray)])) := by have := (Fr.of_own own4).rd; rw [strN_pad]; exact this
  obtain ⟨gW, oW, rfl, hcW⟩ := rW (by simp [strN])
  have hlw : (ws ++ [(⟨#[]⟩ : ByteArray), (⟨#[]⟩ : ByteArray), (⟨#[]⟩ : ByteArray)]).length = n + 3 := by rw [List.length_append, HNL.out]; rfl
  have q0 := hcW 0 (.string t0) (by rw [strs_at (by rw [hlw]; omega), HPAD.out, HT0.out])
  have q1 := hcW 1 (.string t1) (by rw [strs_at (by rw [hlw]; omega), HPAD.out, HT1.out])
  have q2 := hcW 2 (.string t2) (by rw [strs_at (by rw [hlw]; omega), HPAD.out, HT2.out])
  have q3 := hcW 3 (.string t3) (by rw [strs_at (by rw [hlw]; omega), HPAD.out, HT3.out])
  clear hlw
  clear rW hcW own1 own4 hg4 hi hz0 hz1 hz2 HB0 HE4 e4 h1 h01
  rw [Nat.add_zero] at q0
  have hnI : (0 : Int) < (n : Int) + 3 := by omega
  have hnI1 : (1 : Int) < (n : Int) + 3 := by omega
  have hnI2 : (2 : Int) < (n : Int) + 3 := by omega
  have hnI3 : (3 : Int) < (n : Int) + 3 := by omega
  go_wp2_with fail
  refine (HGK.out _ (HO.out.ext h04)).mono ?_
  rintro e w5 ⟨rfl, h5⟩
  replace rr := rr.ext h5
  have h05 := h04.trans h5
  replace q1 := h5.cell q1
  replace q2 := h5.cell q2
  replace q3 := h5.cell q3
  clear q0 h5 h04
  have hrz := rr.all.2.2
  have rr5 := rr
  have x := Blk.new w5 23 #[.int .i64 K, .int .i64 0, .int .i64 0, .int .i64 0]
  replace rr := rr.ext ((Ext.refl w5).alloc (.cells #[.int .i64 K, .int .i64 0, .int .i64 0, .int .i64 0] 23))
  have hW : Ext w5 (w5.alloc (.cells #[.int .i64 K, .int .i64 0, .int .i64 0, .int .i64 0] 23)) := (Ext.refl w5).alloc _
  go_wp2_with fail
  refine (HARC.out _).mono ?_
  rintro e w6 ⟨rfl, rfl⟩
  have xs := x
  have rs := rr
  have hS := hW
  have hWW := h05.trans hS
  obtain ⟨xc, xf, xz⟩ := x.all
  obtain ⟨rc, rf, rz⟩ := rr.all
  obtain ⟨yc, yf, yz⟩ := rr5.all
  by_cases hse : s = ⟨#[]⟩
  · have HZ := Lib.hid (HM.out (.inr (.inr (.inr (.inr (.inl hse))))))
    subst hse
    go_wp2
    refine bodyPost_ret (v := .tuple #[.agg #[.int .i64 0, .int .i64 0, .int .i64 0, .int .i64 0], .bool false]) (by simp [results, Tryd.results7, go_sem, rc, rz, yc, yz]; done) rfl ⟨ret_pg HZ.out, ?_⟩
    have hx0 := h05.trans hW
    exact (by repeat (first | (with_reducible assumption) | (with_reducible exact Ext.refl _) | ((with_reducible refine Ext.setCell ?_ ?_ _); rotate_left; (first | exact Nat.le_refl _ | exact Nat.le_succ _ | (simp; done) | (simp; omega))) | (with_reducible refine Ext.alloc ?_ _) | (with_reducible refine Ext.drew ?_) | (with_reducible refine Ext.drewN ?_ _)))
  · have hie := emp_ne hse
    by_cases hf : fmtG K 0 0 0 = s
    · have HZ := Lib.hid (HH.out hse hf)
      have HF := Lib.hid (fun W (h : LibOk W) => spec_fmtGate K 0 0 0 W h.names)
      rw [hf] at HF
      clear hse hf
      go_wp2_with fail
      refine (HF.out _ (HO.out.ext hWW)).mono ?_
      rintro e w9 ⟨rfl, h9⟩
      clear xc xf xz rc rf rz
      replace x := xs.ext h9
      replace rr := rs.ext h9
      obtain ⟨xc, xf, xz⟩ := x.all
      obtain ⟨rc, rf, rz⟩ := rr.all
      have h09 := hWW.trans h9
      clear hWW h9
      go_wp2
      refine bodyPost_ret (v := .tuple #[.agg #[.int .i64 K, .int .i64 0, .int .i64 0, .int .i64 0], .bool true]) (by simp [results, Tryd.results7, go_sem, rc, rz]; done) rfl ⟨ret_pg HZ.out, (by repeat (first | (with_reducible assumption) | (with_reducible exact Ext.refl _) | ((with_reducible refine Ext.setCell ?_ ?_ _); rotate_left; (first | exact Nat.le_refl _ | exact Nat.le_succ _ | (simp; done) | (simp; omega))) | (with_reducible refine Ext.alloc ?_ _) | (with_reducible refine Ext.drew ?_) | (with_reducible refine Ext.drewN ?_ _)))⟩
    · have HZ := Lib.hid (HM.out (.inr (.inr (.inr (.inr (.inr (.inr hf)))))))
      have HF := Lib.hid (fun W (h : LibOk W) => spec_fmtGate K 0 0 0 W h.names)
      have hft := toList_ne hf
      generalize fmtG K 0 0 0 = q at *
      clear hse hf
      go_wp2_with fail
      refine (HF.out _ (HO.out.ext hWW)).mono ?_
      rintro e w9 ⟨rfl, h9⟩
      clear xc xf xz rc rf rz
      replace x := xs.ext h9
      replace rr := rs.ext h9
      obtain ⟨xc, xf, xz⟩ := x.all
      obtain ⟨rc, rf, rz⟩ := rr.all
      have h09 := hWW.trans h9
      clear hWW h9
      go_wp2
      refine bodyPost_ret (v := .tuple #[.agg #[.int .i64 0, .int .i64 0, .int .i64 0, .int .i64 0], .bool false]) (by simp [results, Tryd.results7, go_sem, rc, rz]; done) rfl ⟨ret_pg HZ.out, (by repeat (first | (with_reducible assumption) | (with_reducible exact Ext.refl _) | ((with_reducible refine Ext.setCell ?_ ?_ _); rotate_left; (first | exact Nat.le_refl _ | exact Nat.le_succ _ | (simp; done) | (simp; omega))) | (with_reducible refine Ext.alloc ?_ _) | (with_reducible refine Ext.drew ?_) | (with_reducible refine Ext.drewN ?_ _)))⟩
set_option maxRecDepth 20000 in
set_option maxHeartbeats 3200000 in
theorem spec_pg1 (s : ByteArray) (K v0 v1 v2 : Int) (o0 o1 o2 : Bool) (hc : Cand s K 1 v0 v1 v2 o0 o1 o2) (k a b c : Int) (ok : Bool) (hR : PgR s k a b c ok) (w : World) (hs : s.size ≤ 1073741824) (hO : LibOk w) :
    Calls Tryd.prog 7 #[.string s] w fun e w' => e = .returned (.tuple #[.agg #[.int .i64 k, .int .i64 a, .int .i64 b, .int .i64 c], .bool ok]) ∧ Ext w w' := by
  have HH : Hid (s ≠ ⟨#[]⟩ → fmtG K v0 0 0 = s → k = K ∧ a = v0 ∧ b = 0 ∧ c = 0 ∧ ok = true) := fun h1 h2 => hR.hit hc h1 h2
  have HM : Hid ((pieces 32 s).length ≠ 1 + 1 ∨ (0 < 1 ∧ o0 = false) ∨ (1 < 1 ∧ o1 = false) ∨ (2 < 1 ∧ o2 = false) ∨ s = ⟨#[]⟩ ∨ validG K v0 0 0 4 = false ∨ fmtG K v0 0 0 ≠ s → k = 0 ∧ a = 0 ∧ b = 0 ∧ c = 0 ∧ ok = false) := fun h => hR.miss hc h
  have HAR : Hid (arity K = 1) := by show _ = _; have := hc.ar; omega
  have HK := Lib.hid hc.kind
  have HO := Lib.hid hO
  have hwp := pieces_pos 32 s
  have hz0 := pieces_size 32 s 0
  have hz1 := pieces_size 32 s 1
  have hz2 := pieces_size 32 s 2
  have hz3 := pieces_size 32 s 3
  have HN0 := Lib.hid (fun W => spec_parseNumber ((pieces 32 s).getD 1 ⟨#[]⟩) v0 o0 hc.nums.n0 W (by omega))
  have HN1 := Lib.hid (fun W => spec_parseNumber ((pieces 32 s).getD 2 ⟨#[]⟩) v1 o1 hc.nums.n1 W (by omega))
  have HN2 := Lib.hid (fun W => spec_parseNumber ((pieces 32 s).getD 3 ⟨#[]⟩) v2 o2 hc.nums.n2 W (by omega))
  have HGK := Lib.hid (fun W (h : LibOk W) => spec_gateKind ((pieces 32 s).getD 0 ⟨#[]⟩) W h.names)
  rw [← HK.out] at HGK
  have hAR : ∀ W, Calls Tryd.prog 31 #[.int .i64 K] W fun e w' => e = .returned (.int .i64 1) ∧ W = w' := fun W => by have h := spec_arity K W; rw [HAR.out] at h; exact h
  have HARC := Lib.hid hAR
  clear hAR
  have HPAD := Lib.hid (getD_pad (pieces 32 s))
  have HSP := Lib.hid (fun W => spec_split 32 32 rfl s W hs)
  obtain ⟨ws, hws⟩ : ∃ ws, ws = pieces 32 s := ⟨_, rfl⟩
  rw [← hws] at HM HN0 HN1 HN2 HGK HPAD HSP hwp
  obtain ⟨n, hn⟩ : ∃ n, n = ws.length := ⟨_, rfl⟩
  have HNL := Lib.hid hn.symm
  rw [← hn] at HSP hwp
  have hn30 : n ≤ 1073741825 := by have := pieces_len_le 32 s; rw [hn, hws]; omega
  obtain ⟨t0, ht0⟩ : ∃ t, t = ws.getD 0 ⟨#[]⟩ := ⟨_, rfl⟩
  have HT0 := Lib.hid ht0.symm
  obtain ⟨t1, ht1⟩ : ∃ t, t = ws.getD 1 ⟨#[]⟩ := ⟨_, rfl⟩
  have HT1 := Lib.hid ht1.symm
  obtain ⟨t2, ht2⟩ : ∃ t, t = ws.getD 2 ⟨#[]⟩ := ⟨_, rfl⟩
  have HT2 := Lib.hid ht2.symm
  obtain ⟨t3, ht3⟩ : ∃ t, t = ws.getD 3 ⟨#[]⟩ := ⟨_, rfl⟩
  have HT3 := Lib.hid ht3.symm
  rw [← ht0] at HGK
  rw [← ht1] at HN0
  rw [← ht2] at HN1
  rw [← ht3] at HN2
  clear hws hn ht0 ht1 ht2 ht3 hz0 hz1 hz2 hz3 hc hR hO
  obtain ⟨i0, hi, hz0, hz1, hz2⟩ := info_parts info_str
  go_enter Tryd.func7, Tryd.ntmps7
  go_wp2_with fail
  refine (HSP.out _).mono ?_
  rintro e w1 ⟨A, cA, rfl, own1, h1⟩
  have rr := (Blk.new w 23 #[.int .i64 0, .int .i64 0, .int .i64 0, .int .i64 0]).ext h1
  have h01 : Ext w w1 := Ext.trans (by repeat (first | exact Ext.refl _ | assumption | refine Ext.alloc ?_ _ | refine Ext.drew ?_ | refine Ext.drewN ?_ _ | refine Ext.trans ?_ (by assumption))) h1
  have zz1 := h1.size
  simp only [World.size_alloc] at zz1 own1
  have HB0 : Hid (Blk (w1.alloc (.cells #[.string ⟨#[]⟩, .string ⟨#[]⟩, .string ⟨#[]⟩] 9)) w1.heap.size #[.string ⟨#[]⟩, .string ⟨#[]⟩, .string ⟨#[]⟩]) := Blk.new _ _ _
  go_wp2_with (at_builtin; refine wpList_append_new rfl _ _ 45 rfl (w.heap.size + 1) 9 i0 (.string ByteArray.empty) 1 16 Tryd.underlying45 hi hz0 hz1 hz2 rfl (by decide) _ n (strN ws) rfl (own1.alloc _) w1.heap.size 3 3 #[.string ⟨#[]⟩, .string ⟨#[]⟩, .string ⟨#[]⟩] rfl HB0.out rfl (by decide) (by intro u hu; simp at hu; subst hu; rfl) ?c2 ?c3 ?c4 ?_)
  case c2 => unfold maxLen; omega
  case c3 => omega
  case c4 => first | omega | (simp; omega)
  intro G4 c4 w4 own4 hg4 _
  have e4 := own_ext (a := w.alloc (.cells #[.int .i64 0, .int .i64 0, .int .i64 0, .int .i64 0] 23)) (h1.alloc _) (own1.alloc _) (by simp) hg4
  have HE4 := Lib.hid e4
  have h04 : Ext w w4 := Ext.trans (by repeat (first | exact Ext.refl _ | assumption | refine Ext.alloc ?_ _ | refine Ext.drew ?_ | refine Ext.drewN ?_ _ | refine Ext.trans ?_ (by assumption))) e4
  replace rr := (Blk.new w 23 #[.int .i64 0, .int .i64 0, .int .i64 0, .int .i64 0]).ext e4
  have rW : Rd w4 G4 (strN (ws ++ [(⟨#[]⟩ : ByteArray), (⟨#[]⟩ : ByteArray), (⟨#[]⟩ : ByteArray)])) := by have := (Fr.of_own own4).rd; rw [strN_pad]; exact this
  obtain ⟨gW, oW, rfl, hcW⟩ := rW (by simp [strN])
  have hlw : (ws ++ [(⟨#[]⟩ : ByteArray), (⟨#[]⟩ : ByteArray), (⟨#[]⟩ : ByteArray)]).length = n + 3 := by rw [List.length_append, HNL.out]; rfl
  have q0 := hcW 0 (.string t0) (by rw [strs_at (by rw [hlw]; omega), HPAD.out, HT0.out])
  have q1 := hcW 1 (.string t1) (by rw [strs_at (by rw [hlw]; omega), HPAD.out, HT1.out])
  have q2 := hcW 2 (.string t2) (by rw [strs_at (by rw [hlw]; omega), HPAD.out, HT2.out])
  have q3 := hcW 3 (.string t3) (by rw [strs_at (by rw [hlw]; omega), HPAD.out, HT3.out])
  clear hlw
  clear rW hcW own1 own4 hg4 hi hz0 hz1 hz2 HB0 HE4 e4 h1 h01
  rw [Nat.add_zero] at q0
  have hnI : (0 : Int) < (n : Int) + 3 := by omega
  have hnI1 : (1 : Int) < (n : Int) + 3 := by omega
  have hnI2 : (2 : Int) < (n : Int) + 3 := by omega
  have hnI3 : (3 : Int) < (n : Int) + 3 := by omega
  go_wp2_with fail
  refine (HGK.out _ (HO.out.ext h04)).mono ?_
  rintro e w5 ⟨rfl, h5⟩
  replace rr := rr.ext h5
  have h05 := h04.trans h5
  replace q1 := h5.cell q1
  replace q2 := h5.cell q2
  replace q3 := h5.cell q3
  clear q0 h5 h04
  have hrz := rr.all.2.2
  have x := Blk.new w5 23 #[.int .i64 K, .int .i64 0, .int .i64 0, .int .i64 0]
  replace rr := rr.ext ((Ext.refl w5).alloc (.cells #[.int .i64 K, .int .i64 0, .int .i64 0, .int .i64 0] 23))
  have hW : Ext w5 (w5.alloc (.cells #[.int .i64 K, .int .i64 0, .int .i64 0, .int .i64 0] 23)) := (Ext.refl w5).alloc _
  go_wp2_with fail
  refine (HARC.out _).mono ?_
  rintro e w6 ⟨rfl, rfl⟩
  have p1 := hW.cell q1
  have xs := x
  have rs := rr
  have hS := hW
  obtain ⟨xc, xf, xz⟩ := x.all
  obtain ⟨rc, rf, rz⟩ := rr.all
  go_wp2_with fail
  refine (HN0.out _).mono ?_
  rintro e u0 ⟨rfl, g0⟩
  clear xc xf xz rc rf rz p1
  replace x := xs.ext g0
  replace x : Blk u0 w5.heap.size #[.int .i64 K, .int .i64 0, .int .i64 0, .int .i64 0] := x
  replace rr := rs.ext g0
  replace hW := hS.trans g0
  clear xs rs hS g0
  have xs : Blk _ w5.heap.size #[.int .i64 K, .int .i64 v0, .int .i64 0, .int .i64 0] := x.set 1 (.int .i64 v0)
  have rs := rr.keep (h := w5.heap.size) 1 (.int .i64 v0) (by omega)
  have hS := hW.setCell (p := ⟨w5.heap.size, 1, none⟩) (Nat.le_refl _) (.int .i64 v0)
  have hWW := h05.trans hS
  obtain ⟨xc, xf, xz⟩ := x.all
  obtain ⟨rc, rf, rz⟩ := rr.all
  by_cases hse : s = ⟨#[]⟩
  · have HZ := Lib.hid (HM.out (.inr (.inr (.inr (.inr (.inl hse))))))
    subst hse
    go_wp2
    refine bodyPost_ret (v := .tuple #[.agg #[.int .i64 0, .int .i64 0, .int .i64 0, .int .i64 0], .bool false]) (by simp [results, Tryd.results7, go_sem, rc, rz]; done) rfl ⟨ret_pg HZ.out, ?_⟩
    have hx0 := h05.trans hW
    exact (by repeat (first | (with_reducible assumption) | (with_reducible exact Ext.refl _) | ((with_reducible refine Ext.setCell ?_ ?_ _); rotate_left; (first | exact Nat.le_refl _ | exact Nat.le_succ _ | (simp; done) | (simp; omega))) | (with_reducible refine Ext.alloc ?_ _) | (with_reducible refine Ext.drew ?_) | (with_reducible refine Ext.drewN ?_ _)))
  · have hie := emp_ne hse
    by_cases hf : fmtG K v0 0 0 = s
    · have HZ := Lib.hid (HH.out hse hf)
      have HF := Lib.hid (fun W (h : LibOk W) => spec_fmtGate K v0 0 0 W h.names)
      rw [hf] at HF
      clear hse hf
      go_wp2_with fail
      refine (HF.out _ (HO.out.ext hWW)).mono ?_
      rintro e w9 ⟨rfl, h9⟩
      clear xc xf xz rc rf rz
      replace x := xs.ext h9
      replace rr := rs.ext h9
      obtain ⟨xc, xf, xz⟩ := x.all
      obtain ⟨rc, rf, rz⟩ := rr.all
      have h09 := hWW.trans h9
      clear hWW h9
      go_wp2
      refine bodyPost_ret (v := .tuple #[.agg #[.int .i64 K, .int .i64 v0, .int .i64 0, .int .i64 0], .bool true]) (by simp [results, Tryd.results7, go_sem, rc, rz]; done) rfl ⟨ret_pg HZ.out, (by repeat (first | (with_reducible assumption) | (with_reducible exact Ext.refl _) | ((with_reducible refine Ext.setCell ?_ ?_ _); rotate_left; (first | exact Nat.le_refl _ | exact Nat.le_succ _ | (simp; done) | (simp; omega))) | (with_reducible refine Ext.alloc ?_ _) | (with_reducible refine Ext.drew ?_) | (with_reducible refine Ext.drewN ?_ _)))⟩
    · have HZ := Lib.hid (HM.out (.inr (.inr (.inr (.inr (.inr (.inr hf)))))))
      have HF := Lib.hid (fun W (h : LibOk W) => spec_fmtGate K v0 0 0 W h.names)
      have hft := toList_ne hf
      generalize fmtG K v0 0 0 = q at *
      clear hse hf
      go_wp2_with fail
      refine (HF.out _ (HO.out.ext hWW)).mono ?_
      rintro e w9 ⟨rfl, h9⟩
      clear xc xf xz rc rf rz
      replace x := xs.ext h9
      replace rr := rs.ext h9
      obtain ⟨xc, xf, xz⟩ := x.all
      obtain ⟨rc, rf, rz⟩ := rr.all
      have h09 := hWW.trans h9
      clear hWW h9
      go_wp2
      refine bodyPost_ret (v := .tuple #[.agg #[.int .i64 0, .int .i64 0, .int .i64 0, .int .i64 0], .bool false]) (by simp [results, Tryd.results7, go_sem, rc, rz]; done) rfl ⟨ret_pg HZ.out, (by repeat (first | (with_reducible assumption) | (with_reducible exact Ext.refl _) | ((with_reducible refine Ext.setCell ?_ ?_ _); rotate_left; (first | exact Nat.le_refl _ | exact Nat.le_succ _ | (simp; done) | (simp; omega))) | (with_reducible refine Ext.alloc ?_ _) | (with_reducible refine Ext.drew ?_) | (with_reducible refine Ext.drewN ?_ _)))⟩
set_option maxRecDepth 20000 in
set_option maxHeartbeats 3200000 in
theorem spec_pg2 (s : ByteArray) (K v0 v1 v2 : Int) (o0 o1 o2 : Bool) (hc : Cand s K 2 v0 v1 v2 o0 o1 o2) (k a b c : Int) (ok : Bool) (hR : PgR s k a b c ok) (w : World) (hs : s.size ≤ 1073741824) (hO : LibOk w) :
    Calls Tryd.prog 7 #[.string s] w fun e w' => e = .returned (.tuple #[.agg #[.int .i64 k, .int .i64 a, .int .i64 b, .int .i64 c], .bool ok]) ∧ Ext w w' := by
  have HH : Hid (s ≠ ⟨#[]⟩ → fmtG K v0 v1 0 = s → k = K ∧ a = v0 ∧ b = v1 ∧ c = 0 ∧ ok = true) := fun h1 h2 => hR.hit hc h1 h2
  have HM : Hid ((pieces 32 s).length ≠ 2 + 1 ∨ (0 < 2 ∧ o0 = false) ∨ (1 < 2 ∧ o1 = false) ∨ (2 < 2 ∧ o2 = false) ∨ s = ⟨#[]⟩ ∨ validG K v0 v1 0 4 = false ∨ fmtG K v0 v1 0 ≠ s → k = 0 ∧ a = 0 ∧ b = 0 ∧ c = 0 ∧ ok = false) := fun h => hR.miss hc h
  have HAR : Hid (arity K = 2) := by show _ = _; have := hc.ar; omega
  have HK := Lib.hid hc.kind
  have HO := Lib.hid hO
  have hwp := pieces_pos 32 s
  have hz0 := pieces_size 32 s 0
  have hz1 := pieces_size 32 s 1
  have hz2 := pieces_size 32 s 2
  have hz3 := pieces_size 32 s 3
  have HN0 := Lib.hid (fun W => spec_parseNumber ((pieces 32 s).getD 1 ⟨#[]⟩) v0 o0 hc.nums.n0 W (by omega))
  have HN1 := Lib.hid (fun W => spec_parseNumber ((pieces 32 s).getD 2 ⟨#[]⟩) v1 o1 hc.nums.n1 W (by omega))
  have HN2 := Lib.hid (fun W => spec_parseNumber ((pieces 32 s).getD 3 ⟨#[]⟩) v2 o2 hc.nums.n2 W (by omega))
  have HGK := Lib.hid (fun W (h : LibOk W) => spec_gateKind ((pieces 32 s).getD 0 ⟨#[]⟩) W h.names)
  rw [← HK.out] at HGK
  have hAR : ∀ W, Calls Tryd.prog 31 #[.int .i64 K] W fun e w' => e = .returned (.int .i64 2) ∧ W = w' := fun W => by have h := spec_arity K W; rw [HAR.out] at h; exact h
  have HARC := Lib.hid hAR
  clear hAR
  have HPAD := Lib.hid (getD_pad (pieces 32 s))
  have HSP := Lib.hid (fun W => spec_split 32 32 rfl s W hs)
  obtain ⟨ws, hws⟩ : ∃ ws, ws = pieces 32 s := ⟨_, rfl⟩
  rw [← hws] at HM HN0 HN1 HN2 HGK HPAD HSP hwp
  obtain ⟨n, hn⟩ : ∃ n, n = ws.length := ⟨_, rfl⟩
  have HNL := Lib.hid hn.symm
  rw [← hn] at HSP hwp
  have hn30 : n ≤ 1073741825 := by have := pieces_len_le 32 s; rw [hn, hws]; omega
  obtain ⟨t0, ht0⟩ : ∃ t, t = ws.getD 0 ⟨#[]⟩ := ⟨_, rfl⟩
  have HT0 := Lib.hid ht0.symm
  obtain ⟨t1, ht1⟩ : ∃ t, t = ws.getD 1 ⟨#[]⟩ := ⟨_, rfl⟩
  have HT1 := Lib.hid ht1.symm
  obtain ⟨t2, ht2⟩ : ∃ t, t = ws.getD 2 ⟨#[]⟩ := ⟨_, rfl⟩
  have HT2 := Lib.hid ht2.symm
  obtain ⟨t3, ht3⟩ : ∃ t, t = ws.getD 3 ⟨#[]⟩ := ⟨_, rfl⟩
  have HT3 := Lib.hid ht3.symm
  rw [← ht0] at HGK
  rw [← ht1] at HN0
  rw [← ht2] at HN1
  rw [← ht3] at HN2
  clear hws hn ht0 ht1 ht2 ht3 hz0 hz1 hz2 hz3 hc hR hO
  obtain ⟨i0, hi, hz0, hz1, hz2⟩ := info_parts info_str
  go_enter Tryd.func7, Tryd.ntmps7
  go_wp2_with fail
  refine (HSP.out _).mono ?_
  rintro e w1 ⟨A, cA, rfl, own1, h1⟩
  have rr := (Blk.new w 23 #[.int .i64 0, .int .i64 0, .int .i64 0, .int .i64 0]).ext h1
  have h01 : Ext w w1 := Ext.trans (by repeat (first | exact Ext.refl _ | assumption | refine Ext.alloc ?_ _ | refine Ext.drew ?_ | refine Ext.drewN ?_ _ | refine Ext.trans ?_ (by assumption))) h1
  have zz1 := h1.size
  simp only [World.size_alloc] at zz1 own1
  have HB0 : Hid (Blk (w1.alloc (.cells #[.string ⟨#[]⟩, .string ⟨#[]⟩, .string ⟨#[]⟩] 9)) w1.heap.size #[.string ⟨#[]⟩, .string ⟨#[]⟩, .string ⟨#[]⟩]) := Blk.new _ _ _
  go_wp2_with (at_builtin; refine wpList_append_new rfl _ _ 45 rfl (w.heap.size + 1) 9 i0 (.string ByteArray.empty) 1 16 Tryd.underlying45 hi hz0 hz1 hz2 rfl (by decide) _ n (strN ws) rfl (own1.alloc _) w1.heap.size 3 3 #[.string ⟨#[]⟩, .string ⟨#[]⟩, .string ⟨#[]⟩] rfl HB0.out rfl (by decide) (by intro u hu; simp at hu; subst hu; rfl) ?c2 ?c3 ?c4 ?_)
  case c2 => unfold maxLen; omega
  case c3 => omega
  case c4 => first | omega | (simp; omega)
  intro G4 c4 w4 own4 hg4 _
  have e4 := own_ext (a := w.alloc (.cells #[.int .i64 0, .int .i64 0, .int .i64 0, .int .i64 0] 23)) (h1.alloc _) (own1.alloc _) (by simp) hg4
  have HE4 := Lib.hid e4
  have h04 : Ext w w4 := Ext.trans (by repeat (first | exact Ext.refl _ | assumption | refine Ext.alloc ?_ _ | refine Ext.drew ?_ | refine Ext.drewN ?_ _ | refine Ext.trans ?_ (by assumption))) e4
  replace rr := (Blk.new w 23 #[.int .i64 0, .int .i64 0, .int .i64 0, .int .i64 0]).ext e4
  have rW : Rd w4 G4 (strN (ws ++ [(⟨#[]⟩ : ByteArray), (⟨#[]⟩ : ByteArray), (⟨#[]⟩ : ByteArray)])) := by have := (Fr.of_own own4).rd; rw [strN_pad]; exact this
  obtain ⟨gW, oW, rfl, hcW⟩ := rW (by simp [strN])
  have hlw : (ws ++ [(⟨#[]⟩ : ByteArray), (⟨#[]⟩ : ByteArray), (⟨#[]⟩ : ByteArray)]).length = n + 3 := by rw [List.length_append, HNL.out]; rfl
  have q0 := hcW 0 (.string t0) (by rw [strs_at (by rw [hlw]; omega), HPAD.out, HT0.out])
  have q1 := hcW 1 (.string t1) (by rw [strs_at (by rw [hlw]; omega), HPAD.out, HT1.out])
  have q2 := hcW 2 (.string t2) (by rw [strs_at (by rw [hlw]; omega), HPAD.out, HT2.out])
  have q3 := hcW 3 (.string t3) (by rw [strs_at (by rw [hlw]; omega), HPAD.out, HT3.out])
  clear hlw
  clear rW hcW own1 own4 hg4 hi hz0 hz1 hz2 HB0 HE4 e4 h1 h01
  rw [Nat.add_zero] at q0
  have hnI : (0 : Int) < (n : Int) + 3 := by omega
  have hnI1 : (1 : Int) < (n : Int) + 3 := by omega
  have hnI2 : (2 : Int) < (n : Int) + 3 := by omega
  have hnI3 : (3 : Int) < (n : Int) + 3 := by omega
  go_wp2_with fail
  refine (HGK.out _ (HO.out.ext h04)).mono ?_
  rintro e w5 ⟨rfl, h5⟩
  replace rr := rr.ext h5
  have h05 := h04.trans h5
  replace q1 := h5.cell q1
  replace q2 := h5.cell q2
  replace q3 := h5.cell q3
  clear q0 h5 h04
  have hrz := rr.all.2.2
  have x := Blk.new w5 23 #[.int .i64 K, .int .i64 0, .int .i64 0, .int .i64 0]
  replace rr := rr.ext ((Ext.refl w5).alloc (.cells #[.int .i64 K, .int .i64 0, .int .i64 0, .int .i64 0] 23))
  have hW : Ext w5 (w5.alloc (.cells #[.int .i64 K, .int .i64 0, .int .i64 0, .int .i64 0] 23)) := (Ext.refl w5).alloc _
  go_wp2_with fail
  refine (HARC.out _).mono ?_
  rintro e w6 ⟨rfl, rfl⟩
  have p1 := hW.cell q1
  have xs := x
  have rs := rr
  have hS := hW
  obtain ⟨xc, xf, xz⟩ := x.all
  obtain ⟨rc, rf, rz⟩ := rr.all
  go_wp2_with fail
  refine (HN0.out _).mono ?_
  rintro e u0 ⟨rfl, g0⟩
  clear xc xf xz rc rf rz p1
  replace x := xs.ext g0
  replace x : Blk u0 w5.heap.size #[.int .i64 K, .int .i64 0, .int .i64 0, .int .i64 0] := x
  replace rr := rs.ext g0
  replace hW := hS.trans g0
  clear xs rs hS g0
  have p2 := hW.cell q2
  have xs := x.set 1 (.int .i64 v0)
  have rs := rr.keep (h := w5.heap.size) 1 (.int .i64 v0) (by omega)
  have hS := hW.setCell (p := ⟨w5.heap.size, 1, none⟩) (Nat.le_refl _) (.int .i64 v0)
  have pp2 := hS.cell q2
  obtain ⟨xc, xf, xz⟩ := x.all
  obtain ⟨rc, rf, rz⟩ := rr.all
  go_wp2_with fail
  refine (HN1.out _).mono ?_
  rintro e u1 ⟨rfl, g1⟩
  clear xc xf xz rc rf rz p2 pp2
  replace x := xs.ext g1
  replace x : Blk u1 w5.heap.size #[.int .i64 K, .int .i64 v0, .int .i64 0, .int .i64 0] := x
  replace rr := rs.ext g1
  replace hW := hS.trans g1
  clear xs rs hS g1
  have xs : Blk _ w5.heap.size #[.int .i64 K, .int .i64 v0, .int .i64 v1, .int .i64 0] := x.set 2 (.int .i64 v1)
  have rs := rr.keep (h := w5.heap.size) 2 (.int .i64 v1) (by omega)
  have hS := hW.setCell (p := ⟨w5.heap.size, 2, none⟩) (Nat.le_refl _) (.int .i64 v1)
  have hWW := h05.trans hS
  obtain ⟨xc, xf, xz⟩ := x.all
  obtain ⟨rc, rf, rz⟩ := rr.all
  by_cases hse : s = ⟨#[]⟩
  · have HZ := Lib.hid (HM.out (.inr (.inr (.inr (.inr (.inl hse))))))
    subst hse
    go_wp2
    refine bodyPost_ret (v := .tuple #[.agg #[.int .i64 0, .int .i64 0, .int .i64 0, .int .i64 0], .bool false]) (by simp [results, Tryd.results7, go_sem, rc, rz]; done) rfl ⟨ret_pg HZ.out, ?_⟩
    have hx0 := h05.trans hW
    exact (by repeat (first | (with_reducible assumption) | (with_reducible exact Ext.refl _) | ((with_reducible refine Ext.setCell ?_ ?_ _); rotate_left; (first | exact Nat.le_refl _ | exact Nat.le_succ _ | (simp; done) | (simp; omega))) | (with_reducible refine Ext.alloc ?_ _) | (with_reducible refine Ext.drew ?_) | (with_reducible refine Ext.drewN ?_ _)))
  · have hie := emp_ne hse
    by_cases hf : fmtG K v0 v1 0 = s
    · have HZ := Lib.hid (HH.out hse hf)
      have HF := Lib.hid (fun W (h : LibOk W) => spec_fmtGate K v0 v1 0 W h.names)
      rw [hf] at HF
      clear hse hf
      go_wp2_with fail
      refine (HF.out _ (HO.out.ext hWW)).mono ?_
      rintro e w9 ⟨rfl, h9⟩
      clear xc xf xz rc rf rz
      replace x := xs.ext h9
      replace rr := rs.ext h9
      obtain ⟨xc, xf, xz⟩ := x.all
      obtain ⟨rc, rf, rz⟩ := rr.all
      have h09 := hWW.trans h9
      clear hWW h9
      go_wp2
      refine bodyPost_ret (v := .tuple #[.agg #[.int .i64 K, .int .i64 v0, .int .i64 v1, .int .i64 0], .bool true]) (by simp [results, Tryd.results7, go_sem, rc, rz]; done) rfl ⟨ret_pg HZ.out, (by repeat (first | (with_reducible assumption) | (with_reducible exact Ext.refl _) | ((with_reducible refine Ext.setCell ?_ ?_ _); rotate_left; (first | exact Nat.le_refl _ | exact Nat.le_succ _ | (simp; done) | (simp; omega))) | (with_reducible refine Ext.alloc ?_ _) | (with_reducible refine Ext.drew ?_) | (with_reducible refine Ext.drewN ?_ _)))⟩
    · have HZ := Lib.hid (HM.out (.inr (.inr (.inr (.inr (.inr (.inr hf)))))))
      have HF := Lib.hid (fun W (h : LibOk W) => spec_fmtGate K v0 v1 0 W h.names)
      have hft := toList_ne hf
      generalize fmtG K v0 v1 0 = q at *
      clear hse hf
      go_wp2_with fail
      refine (HF.out _ (HO.out.ext hWW)).mono ?_
      rintro e w9 ⟨rfl, h9⟩
      clear xc xf xz rc rf rz
      replace x := xs.ext h9
      replace rr := rs.ext h9
      obtain ⟨xc, xf, xz⟩ := x.all
      obtain ⟨rc, rf, rz⟩ := rr.all
      have h09 := hWW.trans h9
      clear hWW h9
      go_wp2
      refine bodyPost_ret (v := .tuple #[.agg #[.int .i64 0, .int .i64 0, .int .i64 0, .int .i64 0], .bool false]) (by simp [results, Tryd.results7, go_sem, rc, rz]; done) rfl ⟨ret_pg HZ.out, (by repeat (first | (with_reducible assumption) | (with_reducible exact Ext.refl _) | ((with_reducible refine Ext.setCell ?_ ?_ _); rotate_left; (first | exact Nat.le_refl _ | exact Nat.le_succ _ | (simp; done) | (simp; omega))) | (with_reducible refine Ext.alloc ?_ _) | (with_reducible refine Ext.drew ?_) | (with_reducible refine Ext.drewN ?_ _)))⟩
set_option maxRecDepth 20000 in
set_option maxHeartbeats 3200000 in
theorem spec_pg3 (s : ByteArray) (K v0 v1 v2 : Int) (o0 o1 o2 : Bool) (hc : Cand s K 3 v0 v1 v2 o0 o1 o2) (k a b c : Int) (ok : Bool) (hR : PgR s k a b c ok) (w : World) (hs : s.size ≤ 1073741824) (hO : LibOk w) :
    Calls Tryd.prog 7 #[.string s] w fun e w' => e = .returned (.tuple #[.agg #[.int .i64 k, .int .i64 a, .int .i64 b, .int .i64 c], .bool ok]) ∧ Ext w w' := by
  have HH : Hid (s ≠ ⟨#[]⟩ → fmtG K v0 v1 v2 = s → k = K ∧ a = v0 ∧ b = v1 ∧ c = v2 ∧ ok = true) := fun h1 h2 => hR.hit hc h1 h2
  have HM : Hid ((pieces 32 s).length ≠ 3 + 1 ∨ (0 < 3 ∧ o0 = false) ∨ (1 < 3 ∧ o1 = false) ∨ (2 < 3 ∧ o2 = false) ∨ s = ⟨#[]⟩ ∨ validG K v0 v1 v2 4 = false ∨ fmtG K v0 v1 v2 ≠ s → k = 0 ∧ a = 0 ∧ b = 0 ∧ c = 0 ∧ ok = false) := fun h => hR.miss hc h
  have HAR : Hid (arity K = 3) := by show _ = _; have := hc.ar; omega
  have HK := Lib.hid hc.kind
  have HO := Lib.hid hO
  have hwp := pieces_pos 32 s
  have hz0 := pieces_size 32 s 0
  have hz1 := pieces_size 32 s 1
  have hz2 := pieces_size 32 s 2
  have hz3 := pieces_size 32 s 3
  have HN0 := Lib.hid (fun W => spec_parseNumber ((pieces 32 s).getD 1 ⟨#[]⟩) v0 o0 hc.nums.n0 W (by omega))
  have HN1 := Lib.hid (fun W => spec_parseNumber ((pieces 32 s).getD 2 ⟨#[]⟩) v1 o1 hc.nums.n1 W (by omega))
  have HN2 := Lib.hid (fun W => spec_parseNumber ((pieces 32 s).getD 3 ⟨#[]⟩) v2 o2 hc.nums.n2 W (by omega))
  have HGK := Lib.hid (fun W (h : LibOk W) => spec_gateKind ((pieces 32 s).getD 0 ⟨#[]⟩) W h.names)
  rw [← HK.out] at HGK
  have hAR : ∀ W, Calls Tryd.prog 31 #[.int .i64 K] W fun e w' => e = .returned (.int .i64 3) ∧ W = w' := fun W => by have h := spec_arity K W; rw [HAR.out] at h; exact h
  have HARC := Lib.hid hAR
  clear hAR
  have HPAD := Lib.hid (getD_pad (pieces 32 s))
  have HSP := Lib.hid (fun W => spec_split 32 32 rfl s W hs)
  obtain ⟨ws, hws⟩ : ∃ ws, ws = pieces 32 s := ⟨_, rfl⟩
  rw [← hws] at HM HN0 HN1 HN2 HGK HPAD HSP hwp
  obtain ⟨n, hn⟩ : ∃ n, n = ws.length := ⟨_, rfl⟩
  have HNL := Lib.hid hn.symm
  rw [← hn] at HSP hwp
  have hn30 : n ≤ 1073741825 := by have := pieces_len_le 32 s; rw [hn, hws]; omega
  obtain ⟨t0, ht0⟩ : ∃ t, t = ws.getD 0 ⟨#[]⟩ := ⟨_, rfl⟩
  have HT0 := Lib.hid ht0.symm
  obtain ⟨t1, ht1⟩ : ∃ t, t = ws.getD 1 ⟨#[]⟩ := ⟨_, rfl⟩
  have HT1 := Lib.hid ht1.symm
  obtain ⟨t2, ht2⟩ : ∃ t, t = ws.getD 2 ⟨#[]⟩ := ⟨_, rfl⟩
  have HT2 := Lib.hid ht2.symm
  obtain ⟨t3, ht3⟩ : ∃ t, t = ws.getD 3 ⟨#[]⟩ := ⟨_, rfl⟩
  have HT3 := Lib.hid ht3.symm
  rw [← ht0] at HGK
  rw [← ht1] at HN0
  rw [← ht2] at HN1
  rw [← ht3] at HN2
  clear hws hn ht0 ht1 ht2 ht3 hz0 hz1 hz2 hz3 hc hR hO
  obtain ⟨i0, hi, hz0, hz1, hz2⟩ := info_parts info_str
  go_enter Tryd.func7, Tryd.ntmps7
  go_wp2_with fail
  refine (HSP.out _).mono ?_
  rintro e w1 ⟨A, cA, rfl, own1, h1⟩
  have rr := (Blk.new w 23 #[.int .i64 0, .int .i64 0, .int .i64 0, .int .i64 0]).ext h1
  have h01 : Ext w w1 := Ext.trans (by repeat (first | exact Ext.refl _ | assumption | refine Ext.alloc ?_ _ | refine Ext.drew ?_ | refine Ext.drewN ?_ _ | refine Ext.trans ?_ (by assumption))) h1
  have zz1 := h1.size
  simp only [World.size_alloc] at zz1 own1
  have HB0 : Hid (Blk (w1.alloc (.cells #[.string ⟨#[]⟩, .string ⟨#[]⟩, .string ⟨#[]⟩] 9)) w1.heap.size #[.string ⟨#[]⟩, .string ⟨#[]⟩, .string ⟨#[]⟩]) := Blk.new _ _ _
  go_wp2_with (at_builtin; refine wpList_append_new rfl _ _ 45 rfl (w.heap.size + 1) 9 i0 (.string ByteArray.empty) 1 16 Tryd.underlying45 hi hz0 hz1 hz2 rfl (by decide) _ n (strN ws) rfl (own1.alloc _) w1.heap.size 3 3 #[.string ⟨#[]⟩, .string ⟨#[]⟩, .string ⟨#[]⟩] rfl HB0.out rfl (by decide) (by intro u hu; simp at hu; subst hu; rfl) ?c2 ?c3 ?c4 ?_)
  case c2 => unfold maxLen; omega
  case c3 => omega
  case c4 => first | omega | (simp; omega)
  intro G4 c4 w4 own4 hg4 _
  have e4 := own_ext (a := w.alloc (.cells #[.int .i64 0, .int .i64 0, .int .i64 0, .int .i64 0] 23)) (h1.alloc _) (own1.alloc _) (by simp) hg4
  have HE4 := Lib.hid e4
  have h04 : Ext w w4 := Ext.trans (by repeat (first | exact Ext.refl _ | assumption | refine Ext.alloc ?_ _ | refine Ext.drew ?_ | refine Ext.drewN ?_ _ | refine Ext.trans ?_ (by assumption))) e4
  replace rr := (Blk.new w 23 #[.int .i64 0, .int .i64 0, .int .i64 0, .int .i64 0]).ext e4
  have rW : Rd w4 G4 (strN (ws ++ [(⟨#[]⟩ : ByteArray), (⟨#[]⟩ : ByteArray), (⟨#[]⟩ : ByteArray)])) := by have := (Fr.of_own own4).rd; rw [strN_pad]; exact this
  obtain ⟨gW, oW, rfl, hcW⟩ := rW (by simp [strN])
  have hlw : (ws ++ [(⟨#[]⟩ : ByteArray), (⟨#[]⟩ : ByteArray), (⟨#[]⟩ : ByteArray)]).length = n + 3 := by rw [List.length_append, HNL.out]; rfl
  have q0 := hcW 0 (.string t0) (by rw [strs_at (by rw [hlw]; omega), HPAD.out, HT0.out])
  have q1 := hcW 1 (.string t1) (by rw [strs_at (by rw [hlw]; omega), HPAD.out, HT1.out])
  have q2 := hcW 2 (.string t2) (by rw [strs_at (by rw [hlw]; omega), HPAD.out, HT2.out])
  have q3 := hcW 3 (.string t3) (by rw [strs_at (by rw [hlw]; omega), HPAD.out, HT3.out])
  clear hlw
  clear rW hcW own1 own4 hg4 hi hz0 hz1 hz2 HB0 HE4 e4 h1 h01
  rw [Nat.add_zero] at q0
  have hnI : (0 : Int) < (n : Int) + 3 := by omega
  have hnI1 : (1 : Int) < (n : Int) + 3 := by omega
  have hnI2 : (2 : Int) < (n : Int) + 3 := by omega
  have hnI3 : (3 : Int) < (n : Int) + 3 := by omega
  go_wp2_with fail
  refine (HGK.out _ (HO.out.ext h04)).mono ?_
  rintro e w5 ⟨rfl, h5⟩
  replace rr := rr.ext h5
  have h05 := h04.trans h5
  replace q1 := h5.cell q1
  replace q2 := h5.cell q2
  replace q3 := h5.cell q3
  clear q0 h5 h04
  have hrz := rr.all.2.2
  have x := Blk.new w5 23 #[.int .i64 K, .int .i64 0, .int .i64 0, .int .i64 0]
  replace rr := rr.ext ((Ext.refl w5).alloc (.cells #[.int .i64 K, .int .i64 0, .int .i64 0, .int .i64 0] 23))
  have hW : Ext w5 (w5.alloc (.cells #[.int .i64 K, .int .i64 0, .int .i64 0, .int .i64 0] 23)) := (Ext.refl w5).alloc _
  go_wp2_with fail
  refine (HARC.out _).mono ?_
  rintro e w6 ⟨rfl, rfl⟩
  have p1 := hW.cell q1
  have xs := x
  have rs := rr
  have hS := hW
  obtain ⟨xc, xf, xz⟩ := x.all
  obtain ⟨rc, rf, rz⟩ := rr.all
  go_wp2_with fail
  refine (HN0.out _).mono ?_
  rintro e u0 ⟨rfl, g0⟩
  clear xc xf xz rc rf rz p1
  replace x := xs.ext g0
  replace x : Blk u0 w5.heap.size #[.int .i64 K, .int .i64 0, .int .i64 0, .int .i64 0] := x
  replace rr := rs.ext g0
  replace hW := hS.trans g0
  clear xs rs hS g0
  have p2 := hW.cell q2
  have xs := x.set 1 (.int .i64 v0)
  have rs := rr.keep (h := w5.heap.size) 1 (.int .i64 v0) (by omega)
  have hS := hW.setCell (p := ⟨w5.heap.size, 1, none⟩) (Nat.le_refl _) (.int .i64 v0)
  have pp2 := hS.cell q2
  obtain ⟨xc, xf, xz⟩ := x.all
  obtain ⟨rc, rf, rz⟩ := rr.all
  go_wp2_with fail
  refine (HN1.out _).mono ?_
  rintro e u1 ⟨rfl, g1⟩
  clear xc xf xz rc rf rz p2 pp2
  replace x := xs.ext g1
  replace x : Blk u1 w5.heap.size #[.int .i64 K, .int .i64 v0, .int .i64 0, .int .i64 0] := x
  replace rr := rs.ext g1
  replace hW := hS.trans g1
  clear xs rs hS g1
  have p3 := hW.cell q3
  have xs := x.set 2 (.int .i64 v1)
  have rs := rr.keep (h := w5.heap.size) 2 (.int .i64 v1) (by omega)
  have hS := hW.setCell (p := ⟨w5.heap.size, 2, none⟩) (Nat.le_refl _) (.int .i64 v1)
  have pp3 := hS.cell q3
  obtain ⟨xc, xf, xz⟩ := x.all
  obtain ⟨rc, rf, rz⟩ := rr.all
  go_wp2_with fail
  refine (HN2.out _).mono ?_
  rintro e u2 ⟨rfl, g2⟩
  clear xc xf xz rc rf rz p3 pp3
  replace x := xs.ext g2
  replace x : Blk u2 w5.heap.size #[.int .i64 K, .int .i64 v0, .int .i64 v1, .int .i64 0] := x
  replace rr := rs.ext g2
  replace hW := hS.trans g2
  clear xs rs hS g2
  have xs : Blk _ w5.heap.size #[.int .i64 K, .int .i64 v0, .int .i64 v1, .int .i64 v2] := x.set 3 (.int .i64 v2)
  have rs := rr.keep (h := w5.heap.size) 3 (.int .i64 v2) (by omega)
  have hS := hW.setCell (p := ⟨w5.heap.size, 3, none⟩) (Nat.le_refl _) (.int .i64 v2)
  have hWW := h05.trans hS
  obtain ⟨xc, xf, xz⟩ := x.all
  obtain ⟨rc, rf, rz⟩ := rr.all
  by_cases hse : s = ⟨#[]⟩
  · have HZ := Lib.hid (HM.out (.inr (.inr (.inr (.inr (.inl hse))))))
    subst hse
    go_wp2
    refine bodyPost_ret (v := .tuple #[.agg #[.int .i64 0, .int .i64 0, .int .i64 0, .int .i64 0], .bool false]) (by simp [results, Tryd.results7, go_sem, rc, rz]; done) rfl ⟨ret_pg HZ.out, ?_⟩
    have hx0 := h05.trans hW
    exact (by repeat (first | (with_reducible assumption) | (with_reducible exact Ext.refl _) | ((with_reducible refine Ext.setCell ?_ ?_ _); rotate_left; (first | exact Nat.le_refl _ | exact Nat.le_succ _ | (simp; done) | (simp; omega))) | (with_reducible refine Ext.alloc ?_ _) | (with_reducible refine Ext.drew ?_) | (with_reducible refine Ext.drewN ?_ _)))
  · have hie := emp_ne hse
    by_cases hf : fmtG K v0 v1 v2 = s
    · have HZ := Lib.hid (HH.out hse hf)
      have HF := Lib.hid (fun W (h : LibOk W) => spec_fmtGate K v0 v1 v2 W h.names)
      rw [hf] at HF
      clear hse hf
      go_wp2_with fail
      refine (HF.out _ (HO.out.ext hWW)).mono ?_
      rintro e w9 ⟨rfl, h9⟩
      clear xc xf xz rc rf rz
      replace x := xs.ext h9
      replace rr := rs.ext h9
      obtain ⟨xc, xf, xz⟩ := x.all
      obtain ⟨rc, rf, rz⟩ := rr.all
      have h09 := hWW.trans h9
      clear hWW h9
      go_wp2
      refine bodyPost_ret (v := .tuple #[.agg #[.int .i64 K, .int .i64 v0, .int .i64 v1, .int .i64 v2], .bool true]) (by simp [results, Tryd.results7, go_sem, rc, rz]; done) rfl ⟨ret_pg HZ.out, (by repeat (first | (with_reducible assumption) | (with_reducible exact Ext.refl _) | ((with_reducible refine Ext.setCell ?_ ?_ _); rotate_left; (first | exact Nat.le_refl _ | exact Nat.le_succ _ | (simp; done) | (simp; omega))) | (with_reducible refine Ext.alloc ?_ _) | (with_reducible refine Ext.drew ?_) | (with_reducible refine Ext.drewN ?_ _)))⟩
    · have HZ := Lib.hid (HM.out (.inr (.inr (.inr (.inr (.inr (.inr hf)))))))
      have HF := Lib.hid (fun W (h : LibOk W) => spec_fmtGate K v0 v1 v2 W h.names)
      have hft := toList_ne hf
      generalize fmtG K v0 v1 v2 = q at *
      clear hse hf
      go_wp2_with fail
      refine (HF.out _ (HO.out.ext hWW)).mono ?_
      rintro e w9 ⟨rfl, h9⟩
      clear xc xf xz rc rf rz
      replace x := xs.ext h9
      replace rr := rs.ext h9
      obtain ⟨xc, xf, xz⟩ := x.all
      obtain ⟨rc, rf, rz⟩ := rr.all
      have h09 := hWW.trans h9
      clear hWW h9
      go_wp2
      refine bodyPost_ret (v := .tuple #[.agg #[.int .i64 0, .int .i64 0, .int .i64 0, .int .i64 0], .bool false]) (by simp [results, Tryd.results7, go_sem, rc, rz]; done) rfl ⟨ret_pg HZ.out, (by repeat (first | (with_reducible assumption) | (with_reducible exact Ext.refl _) | ((with_reducible refine Ext.setCell ?_ ?_ _); rotate_left; (first | exact Nat.le_refl _ | exact Nat.le_succ _ | (simp; done) | (simp; omega))) | (with_reducible refine Ext.alloc ?_ _) | (with_reducible refine Ext.drew ?_) | (with_reducible refine Ext.drewN ?_ _)))⟩
set_option maxRecDepth 20000 in
set_option maxHeartbeats 1600000 in
theorem impl_pg_len (s : ByteArray) (K v0 v1 v2 : Int) (r : Nat) (o0 o1 o2 : Bool) (hc : Cand s K r v0 v1 v2 o0 o1 o2) (k a b c : Int) (ok : Bool) (hR : PgR s k a b c ok) (w : World) (hs : s.size ≤ 1073741824) (hO : LibOk w) (hlen : (pieces 32 s).length ≠ r + 1) :
    Calls Tryd.prog 8 #[.string s] w fun e w' => e = .returned (.tuple #[.agg #[.int .i64 k, .int .i64 a, .int .i64 b, .int .i64 c], .bool ok]) ∧ Ext w w' := by
  have HZ := Lib.hid (hR.miss hc (.inl hlen))
  have HM : Hid (pieces 32 s = pieces 32 s) := rfl
  have HAR : Hid (arity K = r) := hc.ar.symm
  have hr3 : r ≤ 3 := by have := arity_bd K; have := HAR.out; omega
  have HK := Lib.hid hc.kind
  have HO := Lib.hid hO
  have hwp := pieces_pos 32 s
  have hz0 := pieces_size 32 s 0
  have hz1 := pieces_size 32 s 1
  have hz2 := pieces_size 32 s 2
  have hz3 := pieces_size 32 s 3
  have HN0 := Lib.hid (fun W h => impl_parseNumber ((pieces 32 s).getD 1 ⟨#[]⟩) v0 o0 hc.nums.n0 W (by omega) h)
  have HN1 := Lib.hid (fun W h => impl_parseNumber ((pieces 32 s).getD 2 ⟨#[]⟩) v1 o1 hc.nums.n1 W (by omega) h)
  have HN2 := Lib.hid (fun W h => impl_parseNumber ((pieces 32 s).getD 3 ⟨#[]⟩) v2 o2 hc.nums.n2 W (by omega) h)
  have HGK := Lib.hid (fun W (h : LibOk W) => impl_gateKind ((pieces 32 s).getD 0 ⟨#[]⟩) W h.names)
  rw [← HK.out] at HGK
  have hAR : ∀ W, Calls Tryd.prog 34 #[.int .i64 K] W fun e w' => e = .returned (.int .i64 r) ∧ W = w' := fun W => by have h := impl_arity K W; rw [HAR.out] at h; exact h
  have HARC := Lib.hid hAR
  clear hAR
  have HSP := Lib.hid (fun W h => impl_split 32 32 rfl s W hs h)
  obtain ⟨ws, hws⟩ : ∃ ws, ws = pieces 32 s := ⟨_, rfl⟩
  rw [← hws] at HM HN0 HN1 HN2 HGK HSP hwp hlen
  obtain ⟨t0, ht0⟩ : ∃ t, t = ws.getD 0 ⟨#[]⟩ := ⟨_, rfl⟩
  have HT0 := Lib.hid ht0.symm
  obtain ⟨t1, ht1⟩ : ∃ t, t = ws.getD 1 ⟨#[]⟩ := ⟨_, rfl⟩
  have HT1 := Lib.hid ht1.symm
  obtain ⟨t2, ht2⟩ : ∃ t, t = ws.getD 2 ⟨#[]⟩ := ⟨_, rfl⟩
  have HT2 := Lib.hid ht2.symm
  obtain ⟨t3, ht3⟩ : ∃ t, t = ws.getD 3 ⟨#[]⟩ := ⟨_, rfl⟩
  have HT3 := Lib.hid ht3.symm
  rw [← ht0] at HGK
  rw [← ht1] at HN0
  rw [← ht2] at HN1
  rw [← ht3] at HN2
  obtain ⟨n, hn⟩ : ∃ n, n = ws.length := ⟨_, rfl⟩
  have HNL := Lib.hid hn.symm
  rw [← hn] at HSP hwp hlen
  have hn30 : n ≤ 1073741825 := by have := pieces_len_le 32 s; rw [hn, hws]; omega
  clear hws ht0 ht1 ht2 ht3 hz0 hz1 hz2 hz3 hc hR hO
  go_enter Tryd.func8, Tryd.ntmps8
  go_wp2_with fail
  refine (HSP.out _ (HO.out.ext ((Ext.refl _).alloc _))).mono ?_
  rintro e w1 ⟨gW, rfl, rW, h1⟩
  have rr := (Blk.new w 23 #[.int .i64 0, .int .i64 0, .int .i64 0, .int .i64 0]).ext h1
  have h01 : Ext w w1 := Ext.trans (by repeat (first | exact Ext.refl _ | assumption | refine Ext.alloc ?_ _ | refine Ext.drew ?_ | refine Ext.drewN ?_ _ | refine Ext.trans ?_ (by assumption))) h1
  obtain ⟨gW2, oW, eW, hcW⟩ := rW (strN_ne (x := 0) (by rw [HNL.out]; omega))
  injection eW with eW
  injection eW with e1 e2
  subst e1 e2
  have q0 := hcW 0 (.string t0) (by rw [strs_at (by rw [HNL.out]; omega), HT0.out])
  rw [Nat.zero_add] at q0
  clear rW hcW h1
  have hnI : (0 : Int) < (n : Int) := by omega
  go_wp2_with fail
  refine (HGK.out _ (HO.out.ext h01)).mono ?_
  rintro e w5 ⟨rfl, h5⟩
  replace rr := rr.ext h5
  have h05 := h01.trans h5
  clear q0 h5 h01
  have hrz := rr.all.2.2
  have rr5 := rr
  have x := Blk.new w5 23 #[.int .i64 K, .int .i64 0, .int .i64 0, .int .i64 0]
  replace rr := rr.ext ((Ext.refl w5).alloc (.cells #[.int .i64 K, .int .i64 0, .int .i64 0, .int .i64 0] 23))
  go_wp2_with fail
  refine (HARC.out _).mono ?_
  rintro e w6 ⟨rfl, rfl⟩
  have hneb : ((n : Int) != (r : Int) + 1) = true := by simp; omega
  obtain ⟨xc, xf, xz⟩ := x.all
  obtain ⟨rc, rf, rz⟩ := rr.all
  obtain ⟨yc, yf, yz⟩ := rr5.all
  go_wp2
  refine bodyPost_ret (v := .tuple #[.agg #[.int .i64 0, .int .i64 0, .int .i64 0, .int .i64 0], .bool false]) (by simp [results, Tryd.results8, go_sem, rc, rz, yc, yz]; done) rfl ⟨ret_pg HZ.out, (by repeat (first | (with_reducible assumption) | (with_reducible exact Ext.refl _) | ((with_reducible refine Ext.setCell ?_ ?_ _); rotate_left; (first | exact Nat.le_refl _ | exact Nat.le_succ _ | (simp; done) | (simp; omega))) | (with_reducible refine Ext.alloc ?_ _) | (with_reducible refine Ext.drew ?_) | (with_reducible refine Ext.drewN ?_ _)))⟩
set_option maxRecDepth 20000 in
set_option maxHeartbeats 3200000 in
theorem impl_pg0 (s : ByteArray) (K v0 v1 v2 : Int) (o0 o1 o2 : Bool) (hc : Cand s K 0 v0 v1 v2 o0 o1 o2) (k a b c : Int) (ok : Bool) (hR : PgR s k a b c ok) (w : World) (hs : s.size ≤ 1073741824) (hO : LibOk w) (hlen : (pieces 32 s).length = 1) :
    Calls Tryd.prog 8 #[.string s] w fun e w' => e = .returned (.tuple #[.agg #[.int .i64 k, .int .i64 a, .int .i64 b, .int .i64 c], .bool ok]) ∧ Ext w w' := by
  have HH : Hid (s ≠ ⟨#[]⟩ → fmtG K 0 0 0 = s → k = K ∧ a = 0 ∧ b = 0 ∧ c = 0 ∧ ok = true) := fun h1 h2 => hR.hit hc h1 h2
  have HM : Hid ((pieces 32 s).length ≠ 0 + 1 ∨ (0 < 0 ∧ o0 = false) ∨ (1 < 0 ∧ o1 = false) ∨ (2 < 0 ∧ o2 = false) ∨ s = ⟨#[]⟩ ∨ validG K 0 0 0 4 = false ∨ fmtG K 0 0 0 ≠ s → k = 0 ∧ a = 0 ∧ b = 0 ∧ c = 0 ∧ ok = false) := fun h => hR.miss hc h
  have HAR : Hid (arity K = 0) := by show _ = _; have := hc.ar; omega
  have HK := Lib.hid hc.kind
  have HO := Lib.hid hO
  have hwp := pieces_pos 32 s
  have hz0 := pieces_size 32 s 0
  have hz1 := pieces_size 32 s 1
  have hz2 := pieces_size 32 s 2
  have hz3 := pieces_size 32 s 3
  have HN0 := Lib.hid (fun W h => impl_parseNumber ((pieces 32 s).getD 1 ⟨#[]⟩) v0 o0 hc.nums.n0 W (by omega) h)
  have HN1 := Lib.hid (fun W h => impl_parseNumber ((pieces 32 s).getD 2 ⟨#[]⟩) v1 o1 hc.nums.n1 W (by omega) h)
  have HN2 := Lib.hid (fun W h => impl_parseNumber ((pieces 32 s).getD 3 ⟨#[]⟩) v2 o2 hc.nums.n2 W (by omega) h)
  have HGK := Lib.hid (fun W (h : LibOk W) => impl_gateKind ((pieces 32 s).getD 0 ⟨#[]⟩) W h.names)
  rw [← HK.out] at HGK
  have hAR : ∀ W, Calls Tryd.prog 34 #[.int .i64 K] W fun e w' => e = .returned (.int .i64 0) ∧ W = w' := fun W => by have h := impl_arity K W; rw [HAR.out] at h; exact h
  have HARC := Lib.hid hAR
  clear hAR
  have HSP := Lib.hid (fun W h => impl_split 32 32 rfl s W hs h)
  obtain ⟨ws, hws⟩ : ∃ ws, ws = pieces 32 s := ⟨_, rfl⟩
  rw [← hws] at HM HN0 HN1 HN2 HGK HSP hwp hlen
  obtain ⟨t0, ht0⟩ : ∃ t, t = ws.getD 0 ⟨#[]⟩ := ⟨_, rfl⟩
  have HT0 := Lib.hid ht0.symm
  obtain ⟨t1, ht1⟩ : ∃ t, t = ws.getD 1 ⟨#[]⟩ := ⟨_, rfl⟩
  have HT1 := Lib.hid ht1.symm
  obtain ⟨t2, ht2⟩ : ∃ t, t = ws.getD 2 ⟨#[]⟩ := ⟨_, rfl⟩
  have HT2 := Lib.hid ht2.symm
  obtain ⟨t3, ht3⟩ : ∃ t, t = ws.getD 3 ⟨#[]⟩ := ⟨_, rfl⟩
  have HT3 := Lib.hid ht3.symm
  rw [← ht0] at HGK
  rw [← ht1] at HN0
  rw [← ht2] at HN1
  rw [← ht3] at HN2
  have HNL := Lib.hid hlen
  rw [hlen] at HSP
  clear hws ht0 ht1 ht2 ht3 hz0 hz1 hz2 hz3 hc hR hO
  go_enter Tryd.func8, Tryd.ntmps8
  go_wp2_with fail
  refine (HSP.out _ (HO.out.ext ((Ext.refl _).alloc _))).mono ?_
  rintro e w1 ⟨gW, rfl, rW, h1⟩
  have rr := (Blk.new w 23 #[.int .i64 0, .int .i64 0, .int .i64 0, .int .i64 0]).ext h1
  have h01 : Ext w w1 := Ext.trans (by repeat (first | exact Ext.refl _ | assumption | refine Ext.alloc ?_ _ | refine Ext.drew ?_ | refine Ext.drewN ?_ _ | refine Ext.trans ?_ (by assumption))) h1
  obtain ⟨gW2, oW, eW, hcW⟩ := rW (strN_ne (x := 0) (by rw [HNL.out]; omega))
  injection eW with eW
  injection eW with e1 e2
  subst e1 e2
  have q0 := hcW 0 (.string t0) (by rw [strs_at (by rw [HNL.out]; omega), HT0.out])
  rw [Nat.zero_add] at q0
  clear rW hcW h1
  go_wp2_with fail
  refine (HGK.out _ (HO.out.ext h01)).mono ?_
  rintro e w5 ⟨rfl, h5⟩
  replace rr := rr.ext h5
  have h05 := h01.trans h5
  clear q0 h5 h01
  have hrz := rr.all.2.2
  have rr5 := rr
  have x := Blk.new w5 23 #[.int .i64 K, .int .i64 0, .int .i64 0, .int .i64 0]
  replace rr := rr.ext ((Ext.refl w5).alloc (.cells #[.int .i64 K, .int .i64 0, .int .i64 0, .int .i64 0] 23))
  go_wp2_with fail
  refine (HARC.out _).mono ?_
  rintro e w6 ⟨rfl, rfl⟩
  have f0 := Blk.new (w5.alloc (.cells #[.int .i64 K, .int .i64 0, .int .i64 0, .int .i64 0] 23)) 50 #[.pointer (some ⟨w5.heap.size, 1, none⟩), .pointer (some ⟨w5.heap.size, 2, none⟩), .pointer (some ⟨w5.heap.size, 3, none⟩)]
  simp only [World.size_alloc] at f0
  have x0 := x.ext ((Ext.refl _).alloc (.cells #[.pointer (some ⟨w5.heap.size, 1, none⟩), .pointer (some ⟨w5.heap.size, 2, none⟩), .pointer (some ⟨w5.heap.size, 3, none⟩)] 50))
  have rr0 := rr.ext ((Ext.refl _).alloc (.cells #[.pointer (some ⟨w5.heap.size, 1, none⟩), .pointer (some ⟨w5.heap.size, 2, none⟩), .pointer (some ⟨w5.heap.size, 3, none⟩)] 50))
  obtain ⟨xc, xf, xz⟩ := x.all
  obtain ⟨rc, rf, rz⟩ := rr.all
  go_wp2
  go_loopw [33] (fun i wr => ((i = .int .i64 0 ∧ Blk wr w5.heap.size #[.int .i64 K, .int .i64 0, .int .i64 0, .int .i64 0])) ∧ Blk wr (w5.heap.size + 1) #[.pointer (some ⟨w5.heap.size, 1, none⟩), .pointer (some ⟨w5.heap.size, 2, none⟩), .pointer (some ⟨w5.heap.size, 3, none⟩)] ∧ Blk wr w.heap.size #[.int .i64 0, .int .i64 0, .int .i64 0, .int .i64 0] ∧ Ext w5 wr) (fun i _ => 0 - (intOf i).toNat)
  case atStart => exact ⟨⟨rfl, x0⟩, f0, rr0, ((Ext.refl w5).alloc _).alloc _⟩
  case round =>
    clear xc xf xz rc rf rz x rr rr5 f0 x0 rr0
    obtain ⟨⟨rfl, x⟩, fF, rr, he⟩ := hrel
    have hWW := h05.trans he
    obtain ⟨xc, xf, xz⟩ := x.all
    obtain ⟨rc, rf, rz⟩ := rr.all
    obtain ⟨vb, hvb⟩ : ∃ vb, vb = validG K 0 0 0 4 := ⟨_, rfl⟩
    have hVC := fun W => impl_validGate K 0 0 0 4 W
    rw [← hvb] at hVC
    have HVC := Lib.hid hVC
    clear hVC
    cases vb with
    | false =>
      have HZ := Lib.hid (HM.out (.inr (.inr (.inr (.inr (.inr (.inl hvb.symm)))))))
      clear hvb
      go_wp2_with fail
      refine (HVC.out _).mono ?_
      rintro e w9 ⟨rfl, h9⟩
      clear xc xf xz rc rf rz
      replace x := x.ext h9
      replace rr := rr.ext h9
      obtain ⟨xc, xf, xz⟩ := x.all
      obtain ⟨rc, rf, rz⟩ := rr.all
      have h09 := hWW.trans h9
      clear hWW h9
      go_wp2
      refine bodyPost_ret (v := .tuple #[.agg #[.int .i64 0, .int .i64 0, .int .i64 0, .int .i64 0], .bool false]) (by simp [results, Tryd.results8, go_sem, rc, rz]; done) rfl ⟨ret_pg HZ.out, (by repeat (first | (with_reducible assumption) | (with_reducible exact Ext.refl _) | ((with_reducible refine Ext.setCell ?_ ?_ _); rotate_left; (first | exact Nat.le_refl _ | exact Nat.le_succ _ | (simp; done) | (simp; omega))) | (with_reducible refine Ext.alloc ?_ _) | (with_reducible refine Ext.drew ?_) | (with_reducible refine Ext.drewN ?_ _)))⟩
    | true =>
      have HVT := Lib.hid hvb.symm
      clear hvb
      go_wp2_with fail
      refine (HVC.out _).mono ?_
      rintro e w9 ⟨rfl, h9⟩
      clear xc xf xz rc rf rz
      replace x := x.ext h9
      replace rr := rr.ext h9
      obtain ⟨xc, xf, xz⟩ := x.all
      obtain ⟨rc, rf, rz⟩ := rr.all
      have h09 := hWW.trans h9
      clear hWW h9
      have HF := Lib.hid (fun W (h : LibOk W) => impl_fmtGate K 0 0 0 W h.names)
      by_cases hf : fmtG K 0 0 0 = s
      · have HZ := Lib.hid (HH.out (by rw [← hf]; exact fmtG_ne HVT.out) hf)
        rw [hf] at HF
        clear hf
        go_wp2_with fail
        refine (HF.out _ (HO.out.ext h09)).mono ?_
        rintro e wa ⟨rfl, ha⟩
        clear xc xf xz rc rf rz
        replace x := x.ext ha
        replace rr := rr.ext ha
        obtain ⟨xc, xf, xz⟩ := x.all
        obtain ⟨rc, rf, rz⟩ := rr.all
        have h0a := h09.trans ha
        clear h09 ha
        go_wp2
        refine bodyPost_ret (v := .tuple #[.agg #[.int .i64 K, .int .i64 0, .int .i64 0, .int .i64 0], .bool true]) (by simp [results, Tryd.results8, go_sem, rc, rz]; done) rfl ⟨ret_pg HZ.out, (by repeat (first | (with_reducible assumption) | (with_reducible exact Ext.refl _) | ((with_reducible refine Ext.setCell ?_ ?_ _); rotate_left; (first | exact Nat.le_refl _ | exact Nat.le_succ _ | (simp; done) | (simp; omega))) | (with_reducible refine Ext.alloc ?_ _) | (with_reducible refine Ext.drew ?_) | (with_reducible refine Ext.drewN ?_ _)))⟩
      · have HZ := Lib.hid (HM.out (.inr (.inr (.inr (.inr (.inr (.inr hf)))))))
        have hft := toList_ne hf
        generalize fmtG K 0 0 0 = q at *
        clear hf
        go_wp2_with fail
        refine (HF.out _ (HO.out.ext h09)).mono ?_
        rintro e wa ⟨rfl, ha⟩
        clear xc xf xz rc rf rz
        replace x := x.ext ha
        replace rr := rr.ext ha
        obtain ⟨xc, xf, xz⟩ := x.all
        obtain ⟨rc, rf, rz⟩ := rr.all
        have h0a := h09.trans ha
        clear h09 ha
        go_wp2
        refine bodyPost_ret (v := .tuple #[.agg #[.int .i64 0, .int .i64 0, .int .i64 0, .int .i64 0], .bool false]) (by simp [results, Tryd.results8, go_sem, rc, rz]; done) rfl ⟨ret_pg HZ.out, (by repeat (first | (with_reducible assumption) | (with_reducible exact Ext.refl _) | ((with_reducible refine Ext.setCell ?_ ?_ _); rotate_left; (first | exact Nat.le_refl _ | exact Nat.le_succ _ | (simp; done) | (simp; omega))) | (with_reducible refine Ext.alloc ?_ _) | (with_reducible refine Ext.drew ?_) | (with_reducible refine Ext.drewN ?_ _)))⟩
set_option maxRecDepth 20000 in
set_option maxHeartbeats 3200000 in
theorem impl_pg1 (s : ByteArray) (K v0 v1 v2 : Int) (o0 o1 o2 : Bool) (hc : Cand s K 1 v0 v1 v2 o0 o1 o2) (k a b c : Int) (ok : Bool) (hR : PgR s k a b c ok) (w : World) (hs : s.size ≤ 1073741824) (hO : LibOk w) (hlen : (pieces 32 s).length = 2) :
    Calls Tryd.prog 8 #[.string s] w fun e w' => e = .returned (.tuple #[.agg #[.int .i64 k, .int .i64 a, .int .i64 b, .int .i64 c], .bool ok]) ∧ Ext w w' := by
  have HH : Hid (s ≠ ⟨#[]⟩ → fmtG K v0 0 0 = s → k = K ∧ a = v0 ∧ b = 0 ∧ c = 0 ∧ ok = true) := fun h1 h2 => hR.hit hc h1 h2
  have HM : Hid ((pieces 32 s).length ≠ 1 + 1 ∨ (0 < 1 ∧ o0 = false) ∨ (1 < 1 ∧ o1 = false) ∨ (2 < 1 ∧ o2 = false) ∨ s = ⟨#[]⟩ ∨ validG K v0 0 0 4 = false ∨ fmtG K v0 0 0 ≠ s → k = 0 ∧ a = 0 ∧ b = 0 ∧ c = 0 ∧ ok = false) := fun h => hR.miss hc h
  have HAR : Hid (arity K = 1) := by show _ = _; have := hc.ar; omega
  have HK := Lib.hid hc.kind
  have HO := Lib.hid hO
  have hwp := pieces_pos 32 s
  have hz0 := pieces_size 32 s 0
  have hz1 := pieces_size 32 s 1
  have hz2 := pieces_size 32 s 2
  have hz3 := pieces_size 32 s 3
  have HN0 := Lib.hid (fun W h => impl_parseNumber ((pieces 32 s).getD 1 ⟨#[]⟩) v0 o0 hc.nums.n0 W (by omega) h)
  have HN1 := Lib.hid (fun W h => impl_parseNumber ((pieces 32 s).getD 2 ⟨#[]⟩) v1 o1 hc.nums.n1 W (by omega) h)
  have HN2 := Lib.hid (fun W h => impl_parseNumber ((pieces 32 s).getD 3 ⟨#[]⟩) v2 o2 hc.nums.n2 W (by omega) h)
  have HGK := Lib.hid (fun W (h : LibOk W) => impl_gateKind ((pieces 32 s).getD 0 ⟨#[]⟩) W h.names)
  rw [← HK.out] at HGK
  have hAR : ∀ W, Calls Tryd.prog 34 #[.int .i64 K] W fun e w' => e = .returned (.int .i64 1) ∧ W = w' := fun W => by have h := impl_arity K W; rw [HAR.out] at h; exact h
  have HARC := Lib.hid hAR
  clear hAR
  have HSP := Lib.hid (fun W h => impl_split 32 32 rfl s W hs h)
  obtain ⟨ws, hws⟩ : ∃ ws, ws = pieces 32 s := ⟨_, rfl⟩
  rw [← hws] at HM HN0 HN1 HN2 HGK HSP hwp hlen
  obtain ⟨t0, ht0⟩ : ∃ t, t = ws.getD 0 ⟨#[]⟩ := ⟨_, rfl⟩
  have HT0 := Lib.hid ht0.symm
  obtain ⟨t1, ht1⟩ : ∃ t, t = ws.getD 1 ⟨#[]⟩ := ⟨_, rfl⟩
  have HT1 := Lib.hid ht1.symm
  obtain ⟨t2, ht2⟩ : ∃ t, t = ws.getD 2 ⟨#[]⟩ := ⟨_, rfl⟩
  have HT2 := Lib.hid ht2.symm
  obtain ⟨t3, ht3⟩ : ∃ t, t = ws.getD 3 ⟨#[]⟩ := ⟨_, rfl⟩
  have HT3 := Lib.hid ht3.symm
  rw [← ht0] at HGK
  rw [← ht1] at HN0
  rw [← ht2] at HN1
  rw [← ht3] at HN2
  have HNL := Lib.hid hlen
  rw [hlen] at HSP
  clear hws ht0 ht1 ht2 ht3 hz0 hz1 hz2 hz3 hc hR hO
  go_enter Tryd.func8, Tryd.ntmps8
  go_wp2_with fail
  refine (HSP.out _ (HO.out.ext ((Ext.refl _).alloc _))).mono ?_
  rintro e w1 ⟨gW, rfl, rW, h1⟩
  have rr := (Blk.new w 23 #[.int .i64 0, .int .i64 0, .int .i64 0, .int .i64 0]).ext h1
  have h01 : Ext w w1 := Ext.trans (by repeat (first | exact Ext.refl _ | assumption | refine Ext.alloc ?_ _ | refine Ext.drew ?_ | refine Ext.drewN ?_ _ | refine Ext.trans ?_ (by assumption))) h1
  obtain ⟨gW2, oW, eW, hcW⟩ := rW (strN_ne (x := 0) (by rw [HNL.out]; omega))
  injection eW with eW
  injection eW with e1 e2
  subst e1 e2
  have q0 := hcW 0 (.string t0) (by rw [strs_at (by rw [HNL.out]; omega), HT0.out])
  rw [Nat.zero_add] at q0
  have q1 := hcW 1 (.string t1) (by rw [strs_at (by rw [HNL.out]; omega), HT1.out])
  rw [Nat.zero_add] at q1
  clear rW hcW h1
  go_wp2_with fail
  refine (HGK.out _ (HO.out.ext h01)).mono ?_
  rintro e w5 ⟨rfl, h5⟩
  replace rr := rr.ext h5
  have h05 := h01.trans h5
  replace q1 := h5.cell q1
  clear q0 h5 h01
  have hrz := rr.all.2.2
  have rr5 := rr
  have x := Blk.new w5 23 #[.int .i64 K, .int .i64 0, .int .i64 0, .int .i64 0]
  replace rr := rr.ext ((Ext.refl w5).alloc (.cells #[.int .i64 K, .int .i64 0, .int .i64 0, .int .i64 0] 23))
  go_wp2_with fail
  refine (HARC.out _).mono ?_
  rintro e w6 ⟨rfl, rfl⟩
  have f0 := Blk.new (w5.alloc (.cells #[.int .i64 K, .int .i64 0, .int .i64 0, .int .i64 0] 23)) 50 #[.pointer (some ⟨w5.heap.size, 1, none⟩), .pointer (some ⟨w5.heap.size, 2, none⟩), .pointer (some ⟨w5.heap.size, 3, none⟩)]
  simp only [World.size_alloc] at f0
  have x0 := x.ext ((Ext.refl _).alloc (.cells #[.pointer (some ⟨w5.heap.size, 1, none⟩), .pointer (some ⟨w5.heap.size, 2, none⟩), .pointer (some ⟨w5.heap.size, 3, none⟩)] 50))
  have rr0 := rr.ext ((Ext.refl _).alloc (.cells #[.pointer (some ⟨w5.heap.size, 1, none⟩), .pointer (some ⟨w5.heap.size, 2, none⟩), .pointer (some ⟨w5.heap.size, 3, none⟩)] 50))
  obtain ⟨xc, xf, xz⟩ := x.all
  obtain ⟨rc, rf, rz⟩ := rr.all
  go_wp2
  go_loopw [33] (fun i wr => ((i = .int .i64 0 ∧ Blk wr w5.heap.size #[.int .i64 K, .int .i64 0, .int .i64 0, .int .i64 0]) ∨ (i = .int .i64 1 ∧ Blk wr w5.heap.size #[.int .i64 K, .int .i64 v0, .int .i64 0, .int .i64 0])) ∧ Blk wr (w5.heap.size + 1) #[.pointer (some ⟨w5.heap.size, 1, none⟩), .pointer (some ⟨w5.heap.size, 2, none⟩), .pointer (some ⟨w5.heap.size, 3, none⟩)] ∧ Blk wr w.heap.size #[.int .i64 0, .int .i64 0, .int .i64 0, .int .i64 0] ∧ Ext w5 wr) (fun i _ => 1 - (intOf i).toNat)
  case atStart => exact ⟨.inl ⟨rfl, x0⟩, f0, rr0, ((Ext.refl w5).alloc _).alloc _⟩
  case round =>
    clear xc xf xz rc rf rz x rr rr5 f0 x0 rr0
    obtain ⟨⟨rfl, x⟩ | ⟨rfl, x⟩, fF, rr, he⟩ := hrel
    · have p1 := he.cell q1
      obtain ⟨xc, xf, xz⟩ := x.all
      obtain ⟨rc, rf, rz⟩ := rr.all
      obtain ⟨fc, ff, fz⟩ := fF.all
      cases o0 with
      | false =>
        have HZ := Lib.hid (HM.out (.inr (.inl ⟨by omega, rfl⟩)))
        go_wp2_with fail
        refine (HN0.out _ (HO.out.ext (h05.trans he))).mono ?_
        rintro e u ⟨rfl, g⟩
        clear xc xf xz rc rf rz fc ff fz p1
        replace rr := rr.ext g
        obtain ⟨rc, rf, rz⟩ := rr.all
        have h0u := h05.trans (he.trans g)
        clear g he
        go_wp2
        refine bodyPost_ret (v := .tuple #[.agg #[.int .i64 0, .int .i64 0, .int .i64 0, .int .i64 0], .bool false]) (by simp [results, Tryd.results8, go_sem, rc, rz]; done) rfl ⟨ret_pg HZ.out, (by repeat (first | (with_reducible assumption) | (with_reducible exact Ext.refl _) | ((with_reducible refine Ext.setCell ?_ ?_ _); rotate_left; (first | exact Nat.le_refl _ | exact Nat.le_succ _ | (simp; done) | (simp; omega))) | (with_reducible refine Ext.alloc ?_ _) | (with_reducible refine Ext.drew ?_) | (with_reducible refine Ext.drewN ?_ _)))⟩
      | true =>
        go_wp2_with fail
        refine (HN0.out _ (HO.out.ext (h05.trans he))).mono ?_
        rintro e u ⟨rfl, g⟩
        clear xc xf xz rc rf rz fc ff fz p1
        replace rr := rr.ext g
        replace x := x.ext g
        replace fF := fF.ext g
        replace he := he.trans g
        clear g
        obtain ⟨xc, xf, xz⟩ := x.all
        obtain ⟨rc, rf, rz⟩ := rr.all
        obtain ⟨fc, ff, fz⟩ := fF.all
        have X := Lib.hid (x.set 1 (.int .i64 v0))
        have RR := Lib.hid (rr.keep (h := w5.heap.size) 1 (.int .i64 v0) (by omega))
        have FF := Lib.hid (fF.keep (h := w5.heap.size) 1 (.int .i64 v0) (by omega))
        have HE := Lib.hid (he.setCell (p := ⟨w5.heap.size, 1, none⟩) (Nat.le_refl _) (.int .i64 v0))
        go_wp2
        go_roundw
        case rel => exact ⟨.inr (⟨rfl, X.out⟩), FF.out, RR.out, HE.out⟩
        case measure => simp [intOf]
    · have hWW := h05.trans he
      obtain ⟨xc, xf, xz⟩ := x.all
      obtain ⟨rc, rf, rz⟩ := rr.all
      obtain ⟨vb, hvb⟩ : ∃ vb, vb = validG K v0 0 0 4 := ⟨_, rfl⟩
      have hVC := fun W => impl_validGate K v0 0 0 4 W
      rw [← hvb] at hVC
      have HVC := Lib.hid hVC
      clear hVC
      cases vb with
      | false =>
        have HZ := Lib.hid (HM.out (.inr (.inr (.inr (.inr (.inr (.inl hvb.symm)))))))
        clear hvb
        go_wp2_with fail
        refine (HVC.out _).mono ?_
        rintro e w9 ⟨rfl, h9⟩
        clear xc xf xz rc rf rz
        replace x := x.ext h9
        replace rr := rr.ext h9
        obtain ⟨xc, xf, xz⟩ := x.all
        obtain ⟨rc, rf, rz⟩ := rr.all
        have h09 := hWW.trans h9
        clear hWW h9
        go_wp2
        refine bodyPost_ret (v := .tuple #[.agg #[.int .i64 0, .int .i64 0, .int .i64 0, .int .i64 0], .bool false]) (by simp [results, Tryd.results8, go_sem, rc, rz]; done) rfl ⟨ret_pg HZ.out, (by repeat (first | (with_reducible assumption) | (with_reducible exact Ext.refl _) | ((with_reducible refine Ext.setCell ?_ ?_ _); rotate_left; (first | exact Nat.le_refl _ | exact Nat.le_succ _ | (simp; done) | (simp; omega))) | (with_reducible refine Ext.alloc ?_ _) | (with_reducible refine Ext.drew ?_) | (with_reducible refine Ext.drewN ?_ _)))⟩
      | true =>
        have HVT := Lib.hid hvb.symm
        clear hvb
        go_wp2_with fail
        refine (HVC.out _).mono ?_
        rintro e w9 ⟨rfl, h9⟩
        clear xc xf xz rc rf rz
        replace x := x.ext h9
        replace rr := rr.ext h9
        obtain ⟨xc, xf, xz⟩ := x.all
        obtain ⟨rc, rf, rz⟩ := rr.all
        have h09 := hWW.trans h9
        clear hWW h9
        have HF := Lib.hid (fun W (h : LibOk W) => impl_fmtGate K v0 0 0 W h.names)
        by_cases hf : fmtG K v0 0 0 = s
        · have HZ := Lib.hid (HH.out (by rw [← hf]; exact fmtG_ne HVT.out) hf)
          rw [hf] at HF
          clear hf
          go_wp2_with fail
          refine (HF.out _ (HO.out.ext h09)).mono ?_
          rintro e wa ⟨rfl, ha⟩
          clear xc xf xz rc rf rz
          replace x := x.ext ha
          replace rr := rr.ext ha
          obtain ⟨xc, xf, xz⟩ := x.all
          obtain ⟨rc, rf, rz⟩ := rr.all
          have h0a := h09.trans ha
          clear h09 ha
          go_wp2
          refine bodyPost_ret (v := .tuple #[.agg #[.int .i64 K, .int .i64 v0, .int .i64 0, .int .i64 0], .bool true]) (by simp [results, Tryd.results8, go_sem, rc, rz]; done) rfl ⟨ret_pg HZ.out, (by repeat (first | (with_reducible assumption) | (with_reducible exact Ext.refl _) | ((with_reducible refine Ext.setCell ?_ ?_ _); rotate_left; (first | exact Nat.le_refl _ | exact Nat.le_succ _ | (simp; done) | (simp; omega))) | (with_reducible refine Ext.alloc ?_ _) | (with_reducible refine Ext.drew ?_) | (with_reducible refine Ext.drewN ?_ _)))⟩
        · have HZ := Lib.hid (HM.out (.inr (.inr (.inr (.inr (.inr (.inr hf)))))))
          have hft := toList_ne hf
          generalize fmtG K v0 0 0 = q at *
          clear hf
          go_wp2_with fail
          refine (HF.out _ (HO.out.ext h09)).mono ?_
          rintro e wa ⟨rfl, ha⟩
          clear xc xf xz rc rf rz
          replace x := x.ext ha
          replace rr := rr.ext ha
          obtain ⟨xc, xf, xz⟩ := x.all
          obtain ⟨rc, rf, rz⟩ := rr.all
          have h0a := h09.trans ha
          clear h09 ha
          go_wp2
          refine bodyPost_ret (v := .tuple #[.agg #[.int .i64 0, .int .i64 0, .int .i64 0, .int .i64 0], .bool false]) (by simp [results, Tryd.results8, go_sem, rc, rz]; done) rfl ⟨ret_pg HZ.out, (by repeat (first | (with_reducible assumption) | (with_reducible exact Ext.refl _) | ((with_reducible refine Ext.setCell ?_ ?_ _); rotate_left; (first | exact Nat.le_refl _ | exact Nat.le_succ _ | (simp; done) | (simp; omega))) | (with_reducible refine Ext.alloc ?_ _) | (with_reducible refine Ext.drew ?_) | (with_reducible refine Ext.drewN ?_ _)))⟩
set_option maxRecDepth 20000 in
set_option maxHeartbeats 3200000 in
theorem impl_pg2 (s : ByteArray) (K v0 v1 v2 : Int) (o0 o1 o2 : Bool) (hc : Cand s K 2 v0 v1 v2 o0 o1 o2) (k a b c : Int) (ok : Bool) (hR : PgR s k a b c ok) (w : World) (hs : s.size ≤ 1073741824) (hO : LibOk w) (hlen : (pieces 32 s).length = 3) :
    Calls Tryd.prog 8 #[.string s] w fun e w' => e = .returned (.tuple #[.agg #[.int .i64 k, .int .i64 a, .int .i64 b, .int .i64 c], .bool ok]) ∧ Ext w w' := by
  have HH : Hid (s ≠ ⟨#[]⟩ → fmtG K v0 v1 0 = s → k = K ∧ a = v0 ∧ b = v1 ∧ c = 0 ∧ ok = true) := fun h1 h2 => hR.hit hc h1 h2
  have HM : Hid ((pieces 32 s).length ≠ 2 + 1 ∨ (0 < 2 ∧ o0 = false) ∨ (1 < 2 ∧ o1 = false) ∨ (2 < 2 ∧ o2 = false) ∨ s = ⟨#[]⟩ ∨ validG K v0 v1 0 4 = false ∨ fmtG K v0 v1 0 ≠ s → k = 0 ∧ a = 0 ∧ b = 0 ∧ c = 0 ∧ ok = false) := fun h => hR.miss hc h
  have HAR : Hid (arity K = 2) := by show _ = _; have := hc.ar; omega
  have HK := Lib.hid hc.kind
  have HO := Lib.hid hO
  have hwp := pieces_pos 32 s
  have hz0 := pieces_size 32 s 0
  have hz1 := pieces_size 32 s 1
  have hz2 := pieces_size 32 s 2
  have hz3 := pieces_size 32 s 3
  have HN0 := Lib.hid (fun W h => impl_parseNumber ((pieces 32 s).getD 1 ⟨#[]⟩) v0 o0 hc.nums.n0 W (by omega) h)
  have HN1 := Lib.hid (fun W h => impl_parseNumber ((pieces 32 s).getD 2 ⟨#[]⟩) v1 o1 hc.nums.n1 W (by omega) h)
  have HN2 := Lib.hid (fun W h => impl_parseNumber ((pieces 32 s).getD 3 ⟨#[]⟩) v2 o2 hc.nums.n2 W (by omega) h)
  have HGK := Lib.hid (fun W (h : LibOk W) => impl_gateKind ((pieces 32 s).getD 0 ⟨#[]⟩) W h.names)
  rw [← HK.out] at HGK
  have hAR : ∀ W, Calls Tryd.prog 34 #[.int .i64 K] W fun e w' => e = .returned (.int .i64 2) ∧ W = w' := fun W => by have h := impl_arity K W; rw [HAR.out] at h; exact h
  have HARC := Lib.hid hAR
  clear hAR
  have HSP := Lib.hid (fun W h => impl_split 32 32 rfl s W hs h)
  obtain ⟨ws, hws⟩ : ∃ ws, ws = pieces 32 s := ⟨_, rfl⟩
  rw [← hws] at HM HN0 HN1 HN2 HGK HSP hwp hlen
  obtain ⟨t0, ht0⟩ : ∃ t, t = ws.getD 0 ⟨#[]⟩ := ⟨_, rfl⟩
  have HT0 := Lib.hid ht0.symm
  obtain ⟨t1, ht1⟩ : ∃ t, t = ws.getD 1 ⟨#[]⟩ := ⟨_, rfl⟩
  have HT1 := Lib.hid ht1.symm
  obtain ⟨t2, ht2⟩ : ∃ t, t = ws.getD 2 ⟨#[]⟩ := ⟨_, rfl⟩
  have HT2 := Lib.hid ht2.symm
  obtain ⟨t3, ht3⟩ : ∃ t, t = ws.getD 3 ⟨#[]⟩ := ⟨_, rfl⟩
  have HT3 := Lib.hid ht3.symm
  rw [← ht0] at HGK
  rw [← ht1] at HN0
  rw [← ht2] at HN1
  rw [← ht3] at HN2
  have HNL := Lib.hid hlen
  rw [hlen] at HSP
  clear hws ht0 ht1 ht2 ht3 hz0 hz1 hz2 hz3 hc hR hO
  go_enter Tryd.func8, Tryd.ntmps8
  go_wp2_with fail
  refine (HSP.out _ (HO.out.ext ((Ext.refl _).alloc _))).mono ?_
  rintro e w1 ⟨gW, rfl, rW, h1⟩
  have rr := (Blk.new w 23 #[.int .i64 0, .int .i64 0, .int .i64 0, .int .i64 0]).ext h1
  have h01 : Ext w w1 := Ext.trans (by repeat (first | exact Ext.refl _ | assumption | refine Ext.alloc ?_ _ | refine Ext.drew ?_ | refine Ext.drewN ?_ _ | refine Ext.trans ?_ (by assumption))) h1
  obtain ⟨gW2, oW, eW, hcW⟩ := rW (strN_ne (x := 0) (by rw [HNL.out]; omega))
  injection eW with eW
  injection eW with e1 e2
  subst e1 e2
  have q0 := hcW 0 (.string t0) (by rw [strs_at (by rw [HNL.out]; omega), HT0.out])
  rw [Nat.zero_add] at q0
  have q1 := hcW 1 (.string t1) (by rw [strs_at (by rw [HNL.out]; omega), HT1.out])
  rw [Nat.zero_add] at q1
  have q2 := hcW 2 (.string t2) (by rw [strs_at (by rw [HNL.out]; omega), HT2.out])
  rw [Nat.zero_add] at q2
  clear rW hcW h1
  go_wp2_with fail
  refine (HGK.out _ (HO.out.ext h01)).mono ?_
  rintro e w5 ⟨rfl, h5⟩
  replace rr := rr.ext h5
  have h05 := h01.trans h5
  replace q1 := h5.cell q1
  replace q2 := h5.cell q2
  clear q0 h5 h01
  have hrz := rr.all.2.2
  have rr5 := rr
  have x := Blk.new w5 23 #[.int .i64 K, .int .i64 0, .int .i64 0, .int .i64 0]
  replace rr := rr.ext ((Ext.refl w5).alloc (.cells #[.int .i64 K, .int .i64 0, .int .i64 0, .int .i64 0] 23))
  go_wp2_with fail
  refine (HARC.out _).mono ?_
  rintro e w6 ⟨rfl, rfl⟩
  have f0 := Blk.new (w5.alloc (.cells #[.int .i64 K, .int .i64 0, .int .i64 0, .int .i64 0] 23)) 50 #[.pointer (some ⟨w5.heap.size, 1, none⟩), .pointer (some ⟨w5.heap.size, 2, none⟩), .pointer (some ⟨w5.heap.size, 3, none⟩)]
  simp only [World.size_alloc] at f0
  have x0 := x.ext ((Ext.refl _).alloc (.cells #[.pointer (some ⟨w5.heap.size, 1, none⟩), .pointer (some ⟨w5.heap.size, 2, none⟩), .pointer (some ⟨w5.heap.size, 3, none⟩)] 50))
  have rr0 := rr.ext ((Ext.refl _).alloc (.cells #[.pointer (some ⟨w5.heap.size, 1, none⟩), .pointer (some ⟨w5.heap.size, 2, none⟩), .pointer (some ⟨w5.heap.size, 3, none⟩)] 50))
  obtain ⟨xc, xf, xz⟩ := x.all
  obtain ⟨rc, rf, rz⟩ := rr.all
  go_wp2
  go_loopw [33] (fun i wr => ((i = .int .i64 0 ∧ Blk wr w5.heap.size #[.int .i64 K, .int .i64 0, .int .i64 0, .int .i64 0]) ∨ (i = .int .i64 1 ∧ Blk wr w5.heap.size #[.int .i64 K, .int .i64 v0, .int .i64 0, .int .i64 0]) ∨ (i = .int .i64 2 ∧ Blk wr w5.heap.size #[.int .i64 K, .int .i64 v0, .int .i64 v1, .int .i64 0])) ∧ Blk wr (w5.heap.size + 1) #[.pointer (some ⟨w5.heap.size, 1, none⟩), .pointer (some ⟨w5.heap.size, 2, none⟩), .pointer (some ⟨w5.heap.size, 3, none⟩)] ∧ Blk wr w.heap.size #[.int .i64 0, .int .i64 0, .int .i64 0, .int .i64 0] ∧ Ext w5 wr) (fun i _ => 2 - (intOf i).toNat)
  case atStart => exact ⟨.inl ⟨rfl, x0⟩, f0, rr0, ((Ext.refl w5).alloc _).alloc _⟩
  case round =>
    clear xc xf xz rc rf rz x rr rr5 f0 x0 rr0
    obtain ⟨⟨rfl, x⟩ | ⟨rfl, x⟩ | ⟨rfl, x⟩, fF, rr, he⟩ := hrel
    · have p1 := he.cell q1
      obtain ⟨xc, xf, xz⟩ := x.all
      obtain ⟨rc, rf, rz⟩ := rr.all
      obtain ⟨fc, ff, fz⟩ := fF.all
      cases o0 with
      | false =>
        have HZ := Lib.hid (HM.out (.inr (.inl ⟨by omega, rfl⟩)))
        go_wp2_with fail
        refine (HN0.out _ (HO.out.ext (h05.trans he))).mono ?_
        rintro e u ⟨rfl, g⟩
        clear xc xf xz rc rf rz fc ff fz p1
        replace rr := rr.ext g
        obtain ⟨rc, rf, rz⟩ := rr.all
        have h0u := h05.trans (he.trans g)
        clear g he
        go_wp2
        refine bodyPost_ret (v := .tuple #[.agg #[.int .i64 0, .int .i64 0, .int .i64 0, .int .i64 0], .bool false]) (by simp [results, Tryd.results8, go_sem, rc, rz]; done) rfl ⟨ret_pg HZ.out, (by repeat (first | (with_reducible assumption) | (with_reducible exact Ext.refl _) | ((with_reducible refine Ext.setCell ?_ ?_ _); rotate_left; (first | exact Nat.le_refl _ | exact Nat.le_succ _ | (simp; done) | (simp; omega))) | (with_reducible refine Ext.alloc ?_ _) | (with_reducible refine Ext.drew ?_) | (with_reducible refine Ext.drewN ?_ _)))⟩
      | true =>
        go_wp2_with fail
        refine (HN0.out _ (HO.out.ext (h05.trans he))).mono ?_
        rintro e u ⟨rfl, g⟩
        clear xc xf xz rc rf rz fc ff fz p1
        replace rr := rr.ext g
        replace x := x.ext g
        replace fF := fF.ext g
        replace he := he.trans g
        clear g
        obtain ⟨xc, xf, xz⟩ := x.all
        obtain ⟨rc, rf, rz⟩ := rr.all
        obtain ⟨fc, ff, fz⟩ := fF.all
        have X := Lib.hid (x.set 1 (.int .i64 v0))
        have RR := Lib.hid (rr.keep (h := w5.heap.size) 1 (.int .i64 v0) (by omega))
        have FF := Lib.hid (fF.keep (h := w5.heap.size) 1 (.int .i64 v0) (by omega))
        have HE := Lib.hid (he.setCell (p := ⟨w5.heap.size, 1, none⟩) (Nat.le_refl _) (.int .i64 v0))
        go_wp2
        go_roundw
        case rel => exact ⟨.inr (.inl ⟨rfl, X.out⟩), FF.out, RR.out, HE.out⟩
        case measure => simp [intOf]
    · have p2 := he.cell q2
      obtain ⟨xc, xf, xz⟩ := x.all
      obtain ⟨rc, rf, rz⟩ := rr.all
      obtain ⟨fc, ff, fz⟩ := fF.all
      cases o1 with
      | false =>
        have HZ := Lib.hid (HM.out (.inr (.inr (.inl ⟨by omega, rfl⟩))))
        go_wp2_with fail
        refine (HN1.out _ (HO.out.ext (h05.trans he))).mono ?_
        rintro e u ⟨rfl, g⟩
        clear xc xf xz rc rf rz fc ff fz p2
        replace rr := rr.ext g
        obtain ⟨rc, rf, rz⟩ := rr.all
        have h0u := h05.trans (he.trans g)
        clear g he
        go_wp2
        refine bodyPost_ret (v := .tuple #[.agg #[.int .i64 0, .int .i64 0, .int .i64 0, .int .i64 0], .bool false]) (by simp [results, Tryd.results8, go_sem, rc, rz]; done) rfl ⟨ret_pg HZ.out, (by repeat (first | (with_reducible assumption) | (with_reducible exact Ext.refl _) | ((with_reducible refine Ext.setCell ?_ ?_ _); rotate_left; (first | exact Nat.le_refl _ | exact Nat.le_succ _ | (simp; done) | (simp; omega))) | (with_reducible refine Ext.alloc ?_ _) | (with_reducible refine Ext.drew ?_) | (with_reducible refine Ext.drewN ?_ _)))⟩
      | true =>
        go_wp2_with fail
        refine (HN1.out _ (HO.out.ext (h05.trans he))).mono ?_
        rintro e u ⟨rfl, g⟩
        clear xc xf xz rc rf rz fc ff fz p2
        replace rr := rr.ext g
        replace x := x.ext g
        replace fF := fF.ext g
        replace he := he.trans g
        clear g
        obtain ⟨xc, xf, xz⟩ := x.all
        obtain ⟨rc, rf, rz⟩ := rr.all
        obtain ⟨fc, ff, fz⟩ := fF.all
        have X := Lib.hid (x.set 2 (.int .i64 v1))
        have RR := Lib.hid (rr.keep (h := w5.heap.size) 2 (.int .i64 v1) (by omega))
        have FF := Lib.hid (fF.keep (h := w5.heap.size) 2 (.int .i64 v1) (by omega))
        have HE := Lib.hid (he.setCell (p := ⟨w5.heap.size, 2, none⟩) (Nat.le_refl _) (.int .i64 v1))
        go_wp2
        go_roundw
        case rel => exact ⟨.inr (.inr (⟨rfl, X.out⟩)), FF.out, RR.out, HE.out⟩
        case measure => simp [intOf]
    · have hWW := h05.trans he
      obtain ⟨xc, xf, xz⟩ := x.all
      obtain ⟨rc, rf, rz⟩ := rr.all
      obtain ⟨vb, hvb⟩ : ∃ vb, vb = validG K v0 v1 0 4 := ⟨_, rfl⟩
      have hVC := fun W => impl_validGate K v0 v1 0 4 W
      rw [← hvb] at hVC
      have HVC := Lib.hid hVC
      clear hVC
      cases vb with
      | false =>
        have HZ := Lib.hid (HM.out (.inr (.inr (.inr (.inr (.inr (.inl hvb.symm)))))))
        clear hvb
        go_wp2_with fail
        refine (HVC.out _).mono ?_
        rintro e w9 ⟨rfl, h9⟩
        clear xc xf xz rc rf rz
        replace x := x.ext h9
        replace rr := rr.ext h9
        obtain ⟨xc, xf, xz⟩ := x.all
        obtain ⟨rc, rf, rz⟩ := rr.all
        have h09 := hWW.trans h9
        clear hWW h9
        go_wp2
        refine bodyPost_ret (v := .tuple #[.agg #[.int .i64 0, .int .i64 0, .int .i64 0, .int .i64 0], .bool false]) (by simp [results, Tryd.results8, go_sem, rc, rz]; done) rfl ⟨ret_pg HZ.out, (by repeat (first | (with_reducible assumption) | (with_reducible exact Ext.refl _) | ((with_reducible refine Ext.setCell ?_ ?_ _); rotate_left; (first | exact Nat.le_refl _ | exact Nat.le_succ _ | (simp; done) | (simp; omega))) | (with_reducible refine Ext.alloc ?_ _) | (with_reducible refine Ext.drew ?_) | (with_reducible refine Ext.drewN ?_ _)))⟩
      | true =>
        have HVT := Lib.hid hvb.symm
        clear hvb
        go_wp2_with fail
        refine (HVC.out _).mono ?_
        rintro e w9 ⟨rfl, h9⟩
        clear xc xf xz rc rf rz
        replace x := x.ext h9
        replace rr := rr.ext h9
        obtain ⟨xc, xf, xz⟩ := x.all
        obtain ⟨rc, rf, rz⟩ := rr.all
        have h09 := hWW.trans h9
        clear hWW h9
        have HF := Lib.hid (fun W (h : LibOk W) => impl_fmtGate K v0 v1 0 W h.names)
        by_cases hf : fmtG K v0 v1 0 = s
        · have HZ := Lib.hid (HH.out (by rw [← hf]; exact fmtG_ne HVT.out) hf)
          rw [hf] at HF
          clear hf
          go_wp2_with fail
          refine (HF.out _ (HO.out.ext h09)).mono ?_
          rintro e wa ⟨rfl, ha⟩
          clear xc xf xz rc rf rz
          replace x := x.ext ha
          replace rr := rr.ext ha
          obtain ⟨xc, xf, xz⟩ := x.all
          obtain ⟨rc, rf, rz⟩ := rr.all
          have h0a := h09.trans ha
          clear h09 ha
          go_wp2
          refine bodyPost_ret (v := .tuple #[.agg #[.int .i64 K, .int .i64 v0, .int .i64 v1, .int .i64 0], .bool true]) (by simp [results, Tryd.results8, go_sem, rc, rz]; done) rfl ⟨ret_pg HZ.out, (by repeat (first | (with_reducible assumption) | (with_reducible exact Ext.refl _) | ((with_reducible refine Ext.setCell ?_ ?_ _); rotate_left; (first | exact Nat.le_refl _ | exact Nat.le_succ _ | (simp; done) | (simp; omega))) | (with_reducible refine Ext.alloc ?_ _) | (with_reducible refine Ext.drew ?_) | (with_reducible refine Ext.drewN ?_ _)))⟩
        · have HZ := Lib.hid (HM.out (.inr (.inr (.inr (.inr (.inr (.inr hf)))))))
          have hft := toList_ne hf
          generalize fmtG K v0 v1 0 = q at *
          clear hf
          go_wp2_with fail
          refine (HF.out _ (HO.out.ext h09)).mono ?_
          rintro e wa ⟨rfl, ha⟩
          clear xc xf xz rc rf rz
          replace x := x.ext ha
          replace rr := rr.ext ha
          obtain ⟨xc, xf, xz⟩ := x.all
          obtain ⟨rc, rf, rz⟩ := rr.all
          have h0a := h09.trans ha
          clear h09 ha
          go_wp2
          refine bodyPost_ret (v := .tuple #[.agg #[.int .i64 0, .int .i64 0, .int .i64 0, .int .i64 0], .bool false]) (by simp [results, Tryd.results8, go_sem, rc, rz]; done) rfl ⟨ret_pg HZ.out, (by repeat (first | (with_reducible assumption) | (with_reducible exact Ext.refl _) | ((with_reducible refine Ext.setCell ?_ ?_ _); rotate_left; (first | exact Nat.le_refl _ | exact Nat.le_succ _ | (simp; done) | (simp; omega))) | (with_reducible refine Ext.alloc ?_ _) | (with_reducible refine Ext.drew ?_) | (with_reducible refine Ext.drewN ?_ _)))⟩
set_option maxRecDepth 20000 in
set_option maxHeartbeats 3200000 in
theorem impl_pg3 (s : ByteArray) (K v0 v1 v2 : Int) (o0 o1 o2 : Bool) (hc : Cand s K 3 v0 v1 v2 o0 o1 o2) (k a b c : Int) (ok : Bool) (hR : PgR s k a b c ok) (w : World) (hs : s.size ≤ 1073741824) (hO : LibOk w) (hlen : (pieces 32 s).length = 4) :
    Calls Tryd.prog 8 #[.string s] w fun e w' => e = .returned (.tuple #[.agg #[.int .i64 k, .int .i64 a, .int .i64 b, .int .i64 c], .bool ok]) ∧ Ext w w' := by
  have HH : Hid (s ≠ ⟨#[]⟩ → fmtG K v0 v1 v2 = s → k = K ∧ a = v0 ∧ b = v1 ∧ c = v2 ∧ ok = true) := fun h1 h2 => hR.hit hc h1 h2
  have HM : Hid ((pieces 32 s).length ≠ 3 + 1 ∨ (0 < 3 ∧ o0 = false) ∨ (1 < 3 ∧ o1 = false) ∨ (2 < 3 ∧ o2 = false) ∨ s = ⟨#[]⟩ ∨ validG K v0 v1 v2 4 = false ∨ fmtG K v0 v1 v2 ≠ s → k = 0 ∧ a = 0 ∧ b = 0 ∧ c = 0 ∧ ok = false) := fun h => hR.miss hc h
  have HAR : Hid (arity K = 3) := by show _ = _; have := hc.ar; omega
  have HK := Lib.hid hc.kind
  have HO := Lib.hid hO
  have hwp := pieces_pos 32 s
  have hz0 := pieces_size 32 s 0
  have hz1 := pieces_size 32 s 1
  have hz2 := pieces_size 32 s 2
  have hz3 := pieces_size 32 s 3
  have HN0 := Lib.hid (fun W h => impl_parseNumber ((pieces 32 s).getD 1 ⟨#[]⟩) v0 o0 hc.nums.n0 W (by omega) h)
  have HN1 := Lib.hid (fun W h => impl_parseNumber ((pieces 32 s).getD 2 ⟨#[]⟩) v1 o1 hc.nums.n1 W (by omega) h)
  have HN2 := Lib.hid (fun W h => impl_parseNumber ((pieces 32 s).getD 3 ⟨#[]⟩) v2 o2 hc.nums.n2 W (by omega) h)
  have HGK := Lib.hid (fun W (h : LibOk W) => impl_gateKind ((pieces 32 s).getD 0 ⟨#[]⟩) W h.names)
  rw [← HK.out] at HGK
  have hAR : ∀ W, Calls Tryd.prog 34 #[.int .i64 K] W fun e w' => e = .returned (.int .i64 3) ∧ W = w' := fun W => by have h := impl_arity K W; rw [HAR.out] at h; exact h
  have HARC := Lib.hid hAR
  clear hAR
  have HSP := Lib.hid (fun W h => impl_split 32 32 rfl s W hs h)
  obtain ⟨ws, hws⟩ : ∃ ws, ws = pieces 32 s := ⟨_, rfl⟩
  rw [← hws] at HM HN0 HN1 HN2 HGK HSP hwp hlen
  obtain ⟨t0, ht0⟩ : ∃ t, t = ws.getD 0 ⟨#[]⟩ := ⟨_, rfl⟩
  have HT0 := Lib.hid ht0.symm
  obtain ⟨t1, ht1⟩ : ∃ t, t = ws.getD 1 ⟨#[]⟩ := ⟨_, rfl⟩
  have HT1 := Lib.hid ht1.symm
  obtain ⟨t2, ht2⟩ : ∃ t, t = ws.getD 2 ⟨#[]⟩ := ⟨_, rfl⟩
  have HT2 := Lib.hid ht2.symm
  obtain ⟨t3, ht3⟩ : ∃ t, t = ws.getD 3 ⟨#[]⟩ := ⟨_, rfl⟩
  have HT3 := Lib.hid ht3.symm
  rw [← ht0] at HGK
  rw [← ht1] at HN0
  rw [← ht2] at HN1
  rw [← ht3] at HN2
  have HNL := Lib.hid hlen
  rw [hlen] at HSP
  clear hws ht0 ht1 ht2 ht3 hz0 hz1 hz2 hz3 hc hR hO
  go_enter Tryd.func8, Tryd.ntmps8
  go_wp2_with fail
  refine (HSP.out _ (HO.out.ext ((Ext.refl _).alloc _))).mono ?_
  rintro e w1 ⟨gW, rfl, rW, h1⟩
  have rr := (Blk.new w 23 #[.int .i64 0, .int .i64 0, .int .i64 0, .int .i64 0]).ext h1
  have h01 : Ext w w1 := Ext.trans (by repeat (first | exact Ext.refl _ | assumption | refine Ext.alloc ?_ _ | refine Ext.drew ?_ | refine Ext.drewN ?_ _ | refine Ext.trans ?_ (by assumption))) h1
  obtain ⟨gW2, oW, eW, hcW⟩ := rW (strN_ne (x := 0) (by rw [HNL.out]; omega))
  injection eW with eW
  injection eW with e1 e2
  subst e1 e2
  have q0 := hcW 0 (.string t0) (by rw [strs_at (by rw [HNL.out]; omega), HT0.out])
  rw [Nat.zero_add] at q0
  have q1 := hcW 1 (.string t1) (by rw [strs_at (by rw [HNL.out]; omega), HT1.out])
  rw [Nat.zero_add] at q1
  have q2 := hcW 2 (.string t2) (by rw [strs_at (by rw [HNL.out]; omega), HT2.out])
  rw [Nat.zero_add] at q2
  have q3 := hcW 3 (.string t3) (by rw [strs_at (by rw [HNL.out]; omega), HT3.out])
  rw [Nat.zero_add] at q3
  clear rW hcW h1
  go_wp2_with fail
  refine (HGK.out _ (HO.out.ext h01)).mono ?_
  rintro e w5 ⟨rfl, h5⟩
  replace rr := rr.ext h5
  have h05 := h01.trans h5
  replace q1 := h5.cell q1
  replace q2 := h5.cell q2
  replace q3 := h5.cell q3
  clear q0 h5 h01
  have hrz := rr.all.2.2
  have rr5 := rr
  have x := Blk.new w5 23 #[.int .i64 K, .int .i64 0, .int .i64 0, .int .i64 0]
  replace rr := rr.ext ((Ext.refl w5).alloc (.cells #[.int .i64 K, .int .i64 0, .int .i64 0, .int .i64 0] 23))
  go_wp2_with fail
  refine (HARC.out _).mono ?_
  rintro e w6 ⟨rfl, rfl⟩
  have f0 := Blk.new (w5.alloc (.cells #[.int .i64 K, .int .i64 0, .int .i64 0, .int .i64 0] 23)) 50 #[.pointer (some ⟨w5.heap.size, 1, none⟩), .pointer (some ⟨w5.heap.size, 2, none⟩), .pointer (some ⟨w5.heap.size, 3, none⟩)]
  simp only [World.size_alloc] at f0
  have x0 := x.ext ((Ext.refl _).alloc (.cells #[.pointer (some ⟨w5.heap.size, 1, none⟩), .pointer (some ⟨w5.heap.size, 2, none⟩), .pointer (some ⟨w5.heap.size, 3, none⟩)] 50))
  have rr0 := rr.ext ((Ext.refl _).alloc (.cells #[.pointer (some ⟨w5.heap.size, 1, none⟩), .pointer (some ⟨w5.heap.size, 2, none⟩), .pointer (some ⟨w5.heap.size, 3, none⟩)] 50))
  obtain ⟨xc, xf, xz⟩ := x.all
  obtain ⟨rc, rf, rz⟩ := rr.all
  go_wp2
  go_loopw [33] (fun i wr => ((i = .int .i64 0 ∧ Blk wr w5.heap.size #[.int .i64 K, .int .i64 0, .int .i64 0, .int .i64 0]) ∨ (i = .int .i64 1 ∧ Blk wr w5.heap.size #[.int .i64 K, .int .i64 v0, .int .i64 0, .int .i64 0]) ∨ (i = .int .i64 2 ∧ Blk wr w5.heap.size #[.int .i64 K, .int .i64 v0, .int .i64 v1, .int .i64 0]) ∨ (i = .int .i64 3 ∧ Blk wr w5.heap.size #[.int .i64 K, .int .i64 v0, .int .i64 v1, .int .i64 v2])) ∧ Blk wr (w5.heap.size + 1) #[.pointer (some ⟨w5.heap.size, 1, none⟩), .pointer (some ⟨w5.heap.size, 2, none⟩), .pointer (some ⟨w5.heap.size, 3, none⟩)] ∧ Blk wr w.heap.size #[.int .i64 0, .int .i64 0, .int .i64 0, .int .i64 0] ∧ Ext w5 wr) (fun i _ => 3 - (intOf i).toNat)
  case atStart => exact ⟨.inl ⟨rfl, x0⟩, f0, rr0, ((Ext.refl w5).alloc _).alloc _⟩
  case round =>
    clear xc xf xz rc rf rz x rr rr5 f0 x0 rr0
    obtain ⟨⟨rfl, x⟩ | ⟨rfl, x⟩ | ⟨rfl, x⟩ | ⟨rfl, x⟩, fF, rr, he⟩ := hrel
    · have p1 := he.cell q1
      obtain ⟨xc, xf, xz⟩ := x.all
      obtain ⟨rc, rf, rz⟩ := rr.all
      obtain ⟨fc, ff, fz⟩ := fF.all
      cases o0 with
      | false =>
        have HZ := Lib.hid (HM.out (.inr (.inl ⟨by omega, rfl⟩)))
        go_wp2_with fail
        refine (HN0.out _ (HO.out.ext (h05.trans he))).mono ?_
        rintro e u ⟨rfl, g⟩
        clear xc xf xz rc rf rz fc ff fz p1
        replace rr := rr.ext g
        obtain ⟨rc, rf, rz⟩ := rr.all
        have h0u := h05.trans (he.trans g)
        clear g he
        go_wp2
        refine bodyPost_ret (v := .tuple #[.agg #[.int .i64 0, .int .i64 0, .int .i64 0, .int .i64 0], .bool false]) (by simp [results, Tryd.results8, go_sem, rc, rz]; done) rfl ⟨ret_pg HZ.out, (by repeat (first | (with_reducible assumption) | (with_reducible exact Ext.refl _) | ((with_reducible refine Ext.setCell ?_ ?_ _); rotate_left; (first | exact Nat.le_refl _ | exact Nat.le_succ _ | (simp; done) | (simp; omega))) | (with_reducible refine Ext.alloc ?_ _) | (with_reducible refine Ext.drew ?_) | (with_reducible refine Ext.drewN ?_ _)))⟩
      | true =>
        go_wp2_with fail
        refine (HN0.out _ (HO.out.ext (h05.trans he))).mono ?_
        rintro e u ⟨rfl, g⟩
        clear xc xf xz rc rf rz fc ff fz p1
        replace rr := rr.ext g
        replace x := x.ext g
        replace fF := fF.ext g
        replace he := he.trans g
        clear g
        obtain ⟨xc, xf, xz⟩ := x.all
        obtain ⟨rc, rf, rz⟩ := rr.all
        obtain ⟨fc, ff, fz⟩ := fF.all
        have X := Lib.hid (x.set 1 (.int .i64 v0))
        have RR := Lib.hid (rr.keep (h := w5.heap.size) 1 (.int .i64 v0) (by omega))
        have FF := Lib.hid (fF.keep (h := w5.heap.size) 1 (.int .i64 v0) (by omega))
        have HE := Lib.hid (he.setCell (p := ⟨w5.heap.size, 1, none⟩) (Nat.le_refl _) (.int .i64 v0))
        go_wp2
        go_roundw
        case rel => exact ⟨.inr (.inl ⟨rfl, X.out⟩), FF.out, RR.out, HE.out⟩
        case measure => simp [intOf]
    · have p2 := he.cell q2
      obtain ⟨xc, xf, xz⟩ := x.all
      obtain ⟨rc, rf, rz⟩ := rr.all
      obtain ⟨fc, ff, fz⟩ := fF.all
      cases o1 with
      | false =>
        have HZ := Lib.hid (HM.out (.inr (.inr (.inl ⟨by omega, rfl⟩))))
        go_wp2_with fail
        refine (HN1.out _ (HO.out.ext (h05.trans he))).mono ?_
        rintro e u ⟨rfl, g⟩
        clear xc xf xz rc rf rz fc ff fz p2
        replace rr := rr.ext g
        obtain ⟨rc, rf, rz⟩ := rr.all
        have h0u := h05.trans (he.trans g)
        clear g he
        go_wp2
        refine bodyPost_ret (v := .tuple #[.agg #[.int .i64 0, .int .i64 0, .int .i64 0, .int .i64 0], .bool false]) (by simp [results, Tryd.results8, go_sem, rc, rz]; done) rfl ⟨ret_pg HZ.out, (by repeat (first | (with_reducible assumption) | (with_reducible exact Ext.refl _) | ((with_reducible refine Ext.setCell ?_ ?_ _); rotate_left; (first | exact Nat.le_refl _ | exact Nat.le_succ _ | (simp; done) | (simp; omega))) | (with_reducible refine Ext.alloc ?_ _) | (with_reducible refine Ext.drew ?_) | (with_reducible refine Ext.drewN ?_ _)))⟩
      | true =>
        go_wp2_with fail
        refine (HN1.out _ (HO.out.ext (h05.trans he))).mono ?_
        rintro e u ⟨rfl, g⟩
        clear xc xf xz rc rf rz fc ff fz p2
        replace rr := rr.ext g
        replace x := x.ext g
        replace fF := fF.ext g
        replace he := he.trans g
        clear g
        obtain ⟨xc, xf, xz⟩ := x.all
        obtain ⟨rc, rf, rz⟩ := rr.all
        obtain ⟨fc, ff, fz⟩ := fF.all
        have X := Lib.hid (x.set 2 (.int .i64 v1))
        have RR := Lib.hid (rr.keep (h := w5.heap.size) 2 (.int .i64 v1) (by omega))
        have FF := Lib.hid (fF.keep (h := w5.heap.size) 2 (.int .i64 v1) (by omega))
        have HE := Lib.hid (he.setCell (p := ⟨w5.heap.size, 2, none⟩) (Nat.le_refl _) (.int .i64 v1))
        go_wp2
        go_roundw
        case rel => exact ⟨.inr (.inr (.inl ⟨rfl, X.out⟩)), FF.out, RR.out, HE.out⟩
        case measure => simp [intOf]
    · have p3 := he.cell q3
      obtain ⟨xc, xf, xz⟩ := x.all
      obtain ⟨rc, rf, rz⟩ := rr.all
      obtain ⟨fc, ff, fz⟩ := fF.all
      cases o2 with
      | false =>
        have HZ := Lib.hid (HM.out (.inr (.inr (.inr (.inl ⟨by omega, rfl⟩)))))
        go_wp2_with fail
        refine (HN2.out _ (HO.out.ext (h05.trans he))).mono ?_
        rintro e u ⟨rfl, g⟩
        clear xc xf xz rc rf rz fc ff fz p3
        replace rr := rr.ext g
        obtain ⟨rc, rf, rz⟩ := rr.all
        have h0u := h05.trans (he.trans g)
        clear g he
        go_wp2
        refine bodyPost_ret (v := .tuple #[.agg #[.int .i64 0, .int .i64 0, .int .i64 0, .int .i64 0], .bool false]) (by simp [results, Tryd.results8, go_sem, rc, rz]; done) rfl ⟨ret_pg HZ.out, (by repeat (first | (with_reducible assumption) | (with_reducible exact Ext.refl _) | ((with_reducible refine Ext.setCell ?_ ?_ _); rotate_left; (first | exact Nat.le_refl _ | exact Nat.le_succ _ | (simp; done) | (simp; omega))) | (with_reducible refine Ext.alloc ?_ _) | (with_reducible refine Ext.drew ?_) | (with_reducible refine Ext.drewN ?_ _)))⟩
      | true =>
        go_wp2_with fail
        refine (HN2.out _ (HO.out.ext (h05.trans he))).mono ?_
        rintro e u ⟨rfl, g⟩
        clear xc xf xz rc rf rz fc ff fz p3
        replace rr := rr.ext g
        replace x := x.ext g
        replace fF := fF.ext g
        replace he := he.trans g
        clear g
        obtain ⟨xc, xf, xz⟩ := x.all
        obtain ⟨rc, rf, rz⟩ := rr.all
        obtain ⟨fc, ff, fz⟩ := fF.all
        have X := Lib.hid (x.set 3 (.int .i64 v2))
        have RR := Lib.hid (rr.keep (h := w5.heap.size) 3 (.int .i64 v2) (by omega))
        have FF := Lib.hid (fF.keep (h := w5.heap.size) 3 (.int .i64 v2) (by omega))
        have HE := Lib.hid (he.setCell (p := ⟨w5.heap.size, 3, none⟩) (Nat.le_refl _) (.int .i64 v2))
        go_wp2
        go_roundw
        case rel => exact ⟨.inr (.inr (.inr (⟨rfl, X.out⟩))), FF.out, RR.out, HE.out⟩
        case measure => simp [intOf]
    · have hWW := h05.trans he
      obtain ⟨xc, xf, xz⟩ := x.all
      obtain ⟨rc, rf, rz⟩ := rr.all
      obtain ⟨vb, hvb⟩ : ∃ vb, vb = validG K v0 v1 v2 4 := ⟨_, rfl⟩
      have hVC := fun W => impl_validGate K v0 v1 v2 4 W
      rw [← hvb] at hVC
      have HVC := Lib.hid hVC
      clear hVC
      cases vb with
      | false =>
        have HZ := Lib.hid (HM.out (.inr (.inr (.inr (.inr (.inr (.inl hvb.symm)))))))
        clear hvb
        go_wp2_with fail
        refine (HVC.out _).mono ?_
        rintro e w9 ⟨rfl, h9⟩
        clear xc xf xz rc rf rz
        replace x := x.ext h9
        replace rr := rr.ext h9
        obtain ⟨xc, xf, xz⟩ := x.all
        obtain ⟨rc, rf, rz⟩ := rr.all
        have h09 := hWW.trans h9
        clear hWW h9
        go_wp2
        refine bodyPost_ret (v := .tuple #[.agg #[.int .i64 0, .int .i64 0, .int .i64 0, .int .i64 0], .bool false]) (by simp [results, Tryd.results8, go_sem, rc, rz]; done) rfl ⟨ret_pg HZ.out, (by repeat (first | (with_reducible assumption) | (with_reducible exact Ext.refl _) | ((with_reducible refine Ext.setCell ?_ ?_ _); rotate_left; (first | exact Nat.le_refl _ | exact Nat.le_succ _ | (simp; done) | (simp; omega))) | (with_reducible refine Ext.alloc ?_ _) | (with_reducible refine Ext.drew ?_) | (with_reducible refine Ext.drewN ?_ _)))⟩
      | true =>
        have HVT := Lib.hid hvb.symm
        clear hvb
        go_wp2_with fail
        refine (HVC.out _).mono ?_
        rintro e w9 ⟨rfl, h9⟩
        clear xc xf xz rc rf rz
        replace x := x.ext h9
        replace rr := rr.ext h9
        obtain ⟨xc, xf, xz⟩ := x.all
        obtain ⟨rc, rf, rz⟩ := rr.all
        have h09 := hWW.trans h9
        clear hWW h9
        have HF := Lib.hid (fun W (h : LibOk W) => impl_fmtGate K v0 v1 v2 W h.names)
        by_cases hf : fmtG K v0 v1 v2 = s
        · have HZ := Lib.hid (HH.out (by rw [← hf]; exact fmtG_ne HVT.out) hf)
          rw [hf] at HF
          clear hf
          go_wp2_with fail
          refine (HF.out _ (HO.out.ext h09)).mono ?_
          rintro e wa ⟨rfl, ha⟩
          clear xc xf xz rc rf rz
          replace x := x.ext ha
          replace rr := rr.ext ha
          obtain ⟨xc, xf, xz⟩ := x.all
          obtain ⟨rc, rf, rz⟩ := rr.all
          have h0a := h09.trans ha
          clear h09 ha
          go_wp2
          refine bodyPost_ret (v := .tuple #[.agg #[.int .i64 K, .int .i64 v0, .int .i64 v1, .int .i64 v2], .bool true]) (by simp [results, Tryd.results8, go_sem, rc, rz]; done) rfl ⟨ret_pg HZ.out, (by repeat (first | (with_reducible assumption) | (with_reducible exact Ext.refl _) | ((with_reducible refine Ext.setCell ?_ ?_ _); rotate_left; (first | exact Nat.le_refl _ | exact Nat.le_succ _ | (simp; done) | (simp; omega))) | (with_reducible refine Ext.alloc ?_ _) | (with_reducible refine Ext.drew ?_) | (with_reducible refine Ext.drewN ?_ _)))⟩
        · have HZ := Lib.hid (HM.out (.inr (.inr (.inr (.inr (.inr (.inr hf)))))))
          have hft := toList_ne hf
          generalize fmtG K v0 v1 v2 = q at *
          clear hf
          go_wp2_with fail
          refine (HF.out _ (HO.out.ext h09)).mono ?_
          rintro e wa ⟨rfl, ha⟩
          clear xc xf xz rc rf rz
          replace x := x.ext ha
          replace rr := rr.ext ha
          obtain ⟨xc, xf, xz⟩ := x.all
          obtain ⟨rc, rf, rz⟩ := rr.all
          have h0a := h09.trans ha
          clear h09 ha
          go_wp2
          refine bodyPost_ret (v := .tuple #[.agg #[.int .i64 0, .int .i64 0, .int .i64 0, .int .i64 0], .bool false]) (by simp [results, Tryd.results8, go_sem, rc, rz]; done) rfl ⟨ret_pg HZ.out, (by repeat (first | (with_reducible assumption) | (with_reducible exact Ext.refl _) | ((with_reducible refine Ext.setCell ?_ ?_ _); rotate_left; (first | exact Nat.le_refl _ | exact Nat.le_succ _ | (simp; done) | (simp; omega))) | (with_reducible refine Ext.alloc ?_ _) | (with_reducible refine Ext.drew ?_) | (with_reducible refine Ext.drewN ?_ _)))⟩
end Go.Proofs.YtkhgkaiadfebmaaDoor
