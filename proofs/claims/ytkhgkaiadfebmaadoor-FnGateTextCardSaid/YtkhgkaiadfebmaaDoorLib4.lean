/-
  Contracts of the reference's l1Read and ParseNumber. Conditions: a text of at most 2^30 bytes.
-/
import Derived.Test.YtkhgkaiadfebmaaDoorLib3
set_option linter.unusedSimpArgs false
set_option linter.unusedVariables false
namespace Go.Proofs.YtkhgkaiadfebmaaDoor
open Go.RowKit
theorem numR_bad {l : List UInt8} {v : Int} {ok : Bool} (h : NumR l v ok) (hn : ∀ u, ¬ NumW l u) : v = 0 ∧ ok = false := by
  rcases h with ⟨u, hu, _, _⟩ | ⟨_, h1, h2⟩
  · exact absurd hu (hn u)
  · exact ⟨h1, h2⟩
theorem numW_len {l : List UInt8} {u : Nat} (h : NumW l u) : 1 ≤ l.length ∧ l.length ≤ 6 := by
  rw [h.2]; exact dd_len u 6 (by omega) (by have := h.1; omega)
theorem numW_dig {l : List UInt8} {u : Nat} (h : NumW l u) : ∀ c ∈ l, dig c := by rw [h.2]; exact dd_dig u
theorem numW_val {l : List UInt8} {u : Nat} (h : NumW l u) : vals 0 l = u := by rw [h.2]; exact vals_dd u
theorem toL_mem (s : ByteArray) (k : Nat) (h : k < s.size) : s[k] ∈ toL s := List.mem_of_getElem? (toL_at s k h)
theorem toL_take (s : ByteArray) (k : Nat) (h : k < s.size) : (toL s).take (k + 1) = (toL s).take k ++ [s[k]] := by
  rw [List.take_succ_eq_append_getElem (by rw [toL_length]; exact h)]
  congr 2
theorem val_step (s : ByteArray) (k : Nat) (h : k < s.size) : vals 0 ((toL s).take (k + 1)) = vals 0 ((toL s).take k) * 10 + (s[k].toNat - 48) := by
  rw [toL_take s k h, vals_app, vals_cons, vals_nil]
/-- The first k bytes are digits. -/
def digK (s : ByteArray) (k : Nat) : Prop := ∀ c ∈ (toL s).take k, dig c
theorem digK_step {s : ByteArray} {k : Nat} (h : k < s.size) (hd : digK s k) (hc : dig s[k]) : digK s (k + 1) := by
  intro c hm
  rw [toL_take s k h] at hm
  rcases List.mem_append.1 hm with hm | hm
  · exact hd c hm
  · rw [List.mem_singleton.1 hm]; exact hc
theorem digK_lt {s : ByteArray} {k : Nat} (hd : digK s k) (hk : k ≤ 5) : vals 0 ((toL s).take k) ≤ 99999 := by
  have h1 := vals_lt ((toL s).take k) 0 hd
  have h2 : ((toL s).take k).length ≤ k := List.length_take_le _ _
  have h3 : 10 ^ ((toL s).take k).length ≤ 10 ^ 5 := Nat.pow_le_pow_right (by omega) (by omega)
  omega
theorem digK_lt6 {s : ByteArray} {k : Nat} (hd : digK s k) (hk : k ≤ 6) : vals 0 ((toL s).take k) ≤ 999999 := by
  have h1 := vals_lt ((toL s).take k) 0 hd
  have h2 : ((toL s).take k).length ≤ k := List.length_take_le _ _
  have h3 : 10 ^ ((toL s).take k).length ≤ 10 ^ 6 := Nat.pow_le_pow_right (by omega) (by omega)
  omega
def ReadNeg (w : World) (e : Ending) (w' : World) : Prop := ∃ (z : Int) (b : Bool), e = .returned (.tuple #[.int .i64 z, .bool b]) ∧ (b = true → z < 0) ∧ Ext w w'
theorem ReadNeg.no {w w' : World} (h : Ext w w') : ReadNeg w (.returned (.tuple #[.int .i64 0, .bool false])) w' := ⟨0, false, rfl, (fun h => by cases h), h⟩
set_option maxRecDepth 20000 in
set_option maxHeartbeats 1600000 in
theorem spec_read_pos (s : ByteArray) (v : Int) (ok : Bool) (hR : NumR (toL s) v ok) (w : World) (hs : s.size ≤ 1073741824) (h0 : 0 < s.size) (h45 : s[0].toNat ≠ 45) :
    Calls Tryd.prog 56 #[.string s, .int .i64 6] w fun e w' => e = .returned (.tuple #[.int .i64 v, .bool ok]) ∧ Ext w w' := by
  have h0I : (0 : Int) < (s.size : Int) := by omega
  have hb45 : ((s[0].toNat : Int) == 45) = false := by rw [beq_eq_false_iff_ne]; omega
  have h1I : ¬ ((s.size : Int) < 1) := by omega
  by_cases h6 : 6 < s.size
  · obtain ⟨rfl, rfl⟩ := numR_bad hR (fun u hu => by have := (numW_len hu).2; rw [toL_length] at this; omega)
    have h6I : (6 : Int) < (s.size : Int) := by omega
    clear hR h45
    go_enter Tryd.func56, Tryd.ntmps56
    go_wp2
    go_ret2
    exact ⟨rfl, (by repeat (first | exact Ext.refl _ | assumption | refine Ext.alloc ?_ _ | refine Ext.drew ?_ | refine Ext.drewN ?_ _ | refine Ext.trans ?_ (by assumption)))⟩
  · have h6I : ¬ ((6 : Int) < (s.size : Int)) := by omega
    have hsz : s.size ≤ 6 := by omega
    have HR := Lib.hid hR
    clear hR h45 h6
    go_enter Tryd.func56, Tryd.ntmps56
    go_wp2
    go_loopw [8, 9] (fun n i wr => ∃ k : Nat, k ≤ s.size ∧ i = .int .i64 k ∧ n = .int .i64 (vals 0 ((toL s).take k) : Nat) ∧ Hid (digK s k) ∧ Ext w wr) (fun _ i _ => s.size - (intOf i).toNat)
    case atStart => exact ⟨0, Nat.zero_le _, rfl, by simp [vals_nil], Lib.hid (by intro c hc; simp at hc), (by repeat (first | exact Ext.refl _ | assumption | refine Ext.alloc ?_ _ | refine Ext.drew ?_ | refine Ext.drewN ?_ _ | refine Ext.trans ?_ (by assumption)))⟩
    case round =>
      obtain ⟨k, hk, rfl, rfl, hd, he⟩ := hrel
      by_cases hlt : k < s.size
      · have hV := digK_lt hd.out (by omega)
        have HST := Lib.hid (val_step s k hlt)
        have HD := Lib.hid (fun hc => digK_step hlt hd.out hc)
        have HM := Lib.hid (toL_mem s k hlt)
        have hc255 : s[k].toNat < 256 := UInt8.toNat_lt _
        generalize vals 0 ((toL s).take k) = V at *
        obtain ⟨c, hc⟩ : ∃ c : UInt8, c = s[k] := ⟨_, rfl⟩
        have HC := Lib.hid hc
        have hkI : (k : Int) < (s.size : Int) := by omega
        by_cases hlo : s[k].toNat < 48
        · obtain ⟨h1, h2⟩ := numR_bad HR.out (fun u hu => by have := (numW_dig hu _ HM.out).1; omega)
          have H1 := Lib.hid h1
          have H2 := Lib.hid h2
          clear h1 h2 hc
          go_wp2
          go_ret2
          rw [H1.out, H2.out]
          exact ⟨rfl, he⟩
        · by_cases hhi : 57 < s[k].toNat
          · obtain ⟨h1, h2⟩ := numR_bad HR.out (fun u hu => by have := (numW_dig hu _ HM.out).2; omega)
            have H1 := Lib.hid h1
            have H2 := Lib.hid h2
            clear h1 h2 hc
            go_wp2
            go_ret2
            rw [H1.out, H2.out]
            exact ⟨rfl, he⟩
          · clear hc
            go_wp2
            go_roundw
            case rel =>
              refine ⟨k + 1, by omega, by go_num, ?_, Lib.hid (HD.out ⟨by omega, by omega⟩), he⟩
              rw [HST.out]
              congr 1
              omega
            case measure => simp [intOf]; omega
      · have hkn : k = s.size := by omega
        have HV : Hid (vals 0 ((toL s).take k) = vals 0 (toL s)) := by show _ = _; rw [List.take_of_length_le (by rw [toL_length]; omega)]
        have hV6 := digK_lt6 hd.out (by omega)
        have HKN := Lib.hid hkn
        obtain ⟨V, hVe⟩ : ∃ V, V = vals 0 ((toL s).take k) := ⟨_, rfl⟩
        rw [← hVe] at HV hV6 ⊢
        have HVE := Lib.hid hVe
        have hks : ¬ ((k : Int) < (s.size : Int)) := by omega
        clear hkn hVe
        go_wp2_with fail
        refine (spec_fmtNat V hV6 _).mono ?_
        rintro e w2 ⟨rfl, h2⟩
        by_cases hse : dd V = s
        · have hnum : NumW (toL s) V := ⟨hV6, by rw [← hse, toL_dd]⟩
          obtain ⟨h1, h2'⟩ := numR_fun HR.out (.inl ⟨V, hnum, rfl, rfl⟩)
          have H1 := Lib.hid h1
          have H2 := Lib.hid h2'
          rw [hse]
          clear h1 h2' hnum hse
          go_wp2
          go_ret2
          rw [H1.out, H2.out]
          exact ⟨rfl, he.trans h2⟩
        · obtain ⟨h1, h2'⟩ := numR_bad HR.out (fun u hu => hse (by
            have h3 : V = u := by rw [HV.out]; exact numW_val hu
            apply toL_inj; rw [toL_dd, h3]; exact hu.2.symm))
          have H1 := Lib.hid h1
          have H2 := Lib.hid h2'
          have hst := toList_ne hse
          generalize dd V = t at *
          clear h1 h2' hse
          go_wp2
          go_ret2
          rw [H1.out, H2.out]
          exact ⟨rfl, he.trans h2⟩
set_option maxRecDepth 20000 in
set_option maxHeartbeats 1600000 in
theorem spec_read_neg (s : ByteArray) (w : World) (hs : s.size ≤ 1073741824) (h0 : 0 < s.size) (h45 : s[0].toNat = 45) :
    Calls Tryd.prog 56 #[.string s, .int .i64 6] w (ReadNeg w) := by
  have h0I : (0 : Int) < (s.size : Int) := by omega
  have hb45 : ((s[0].toNat : Int) == 45) = true := by rw [beq_iff_eq]; omega
  have HH : Hid (toL s ≠ Lib.decDigits 0) := by
    show toL s ≠ _
    intro h
    have h1 := toL_mem s 0 h0
    rw [h] at h1
    have := (dd_dig 0 _ h1).1
    omega
  obtain ⟨t, ht⟩ : ∃ t, t = s.extract 1 s.size := ⟨_, rfl⟩
  have htz : t.size = s.size - 1 := by rw [ht, ByteArray.size_extract]; omega
  have h1s : 1 ≤ s.size := by omega
  have HTE := Lib.hid ht.symm
  clear h45 ht
  by_cases h1 : t.size < 1
  · have h1I : (t.size : Int) < 1 := by omega
    have hex := HTE.out
    go_enter Tryd.func56, Tryd.ntmps56
    go_wp2
    go_ret2
    exact ReadNeg.no (by repeat (first | exact Ext.refl _ | assumption | refine Ext.alloc ?_ _ | refine Ext.drew ?_ | refine Ext.drewN ?_ _ | refine Ext.trans ?_ (by assumption)))
  · by_cases h6 : 6 < t.size
    · have h1I : ¬ ((t.size : Int) < 1) := by omega
      have h6I : (6 : Int) < (t.size : Int) := by omega
      have hex := HTE.out
      go_enter Tryd.func56, Tryd.ntmps56
      go_wp2
      go_ret2
      exact ReadNeg.no (by repeat (first | exact Ext.refl _ | assumption | refine Ext.alloc ?_ _ | refine Ext.drew ?_ | refine Ext.drewN ?_ _ | refine Ext.trans ?_ (by assumption)))
    · have h1I : ¬ ((t.size : Int) < 1) := by omega
      have h6I : ¬ ((6 : Int) < (t.size : Int)) := by omega
      have hsz : t.size ≤ 6 := by omega
      have hex := HTE.out
      go_enter Tryd.func56, Tryd.ntmps56
      go_wp2
      clear hex
      go_loopw [8, 9] (fun n i wr => ∃ k : Nat, k ≤ t.size ∧ i = .int .i64 k ∧ n = .int .i64 (vals 0 ((toL t).take k) : Nat) ∧ Hid (digK t k) ∧ Ext w wr) (fun _ i _ => t.size - (intOf i).toNat)
      case atStart => exact ⟨0, Nat.zero_le _, rfl, by simp [vals_nil], Lib.hid (by intro c hc; simp at hc), (by repeat (first | exact Ext.refl _ | assumption | refine Ext.alloc ?_ _ | refine Ext.drew ?_ | refine Ext.drewN ?_ _ | refine Ext.trans ?_ (by assumption)))⟩
      case round =>
        obtain ⟨k, hk, rfl, rfl, hd, he⟩ := hrel
        by_cases hlt : k < t.size
        · have hV := digK_lt hd.out (by omega)
          have HST := Lib.hid (val_step t k hlt)
          have HD := Lib.hid (fun hc => digK_step hlt hd.out hc)
          have hc255 : t[k].toNat < 256 := UInt8.toNat_lt _
          generalize vals 0 ((toL t).take k) = V at *
          have hkI : (k : Int) < (t.size : Int) := by omega
          by_cases hlo : t[k].toNat < 48
          · go_wp2
            go_ret2
            exact ReadNeg.no he
          · by_cases hhi : 57 < t[k].toNat
            · go_wp2
              go_ret2
              exact ReadNeg.no he
            · go_wp2
              go_roundw
              case rel =>
                refine ⟨k + 1, by omega, by go_num, ?_, Lib.hid (HD.out ⟨by omega, by omega⟩), he⟩
                rw [HST.out]
                congr 1
                omega
              case measure => simp [intOf]; omega
        · have hV6 := digK_lt6 hd.out (by omega)
          obtain ⟨V, hVe⟩ : ∃ V, V = vals 0 ((toL t).take k) := ⟨_, rfl⟩
          rw [← hVe] at hV6 ⊢
          have hks : ¬ ((k : Int) < (t.size : Int)) := by omega
          clear hVe
          rcases Nat.eq_zero_or_pos V with hV0 | hV0
          · subst hV0
            have hne : ¬ dd 0 = s := by
              intro h
              apply HH.out
              rw [← h, toL_dd]
            have hst := toList_ne hne
            have HF := Lib.hid (spec_fmtNat 0 (by omega))
            generalize dd 0 = q at *
            clear hne
            go_wp2_with fail
            refine (HF.out _).mono ?_
            rintro e w2 ⟨rfl, h2⟩
            go_wp2
            go_ret2
            exact ReadNeg.no (he.trans h2)
          · have hVI : (0 : Int) < (V : Int) := by omega
            go_wp2_with fail
            refine (spec_fmtNeg (-(V : Int)) (by omega) (by omega) _).mono ?_
            rintro e w2 ⟨q, rfl, h2⟩
            by_cases hse : q = s
            · subst hse
              go_wp2
              go_ret2
              exact ⟨_, _, rfl, (fun _ => by omega), he.trans h2⟩
            · have hst := toList_ne hse
              clear hse
              go_wp2
              go_ret2
              exact ReadNeg.no (he.trans h2)
theorem spec_read_nil (s : ByteArray) (w : World) (h0 : s.size = 0) :
    Calls Tryd.prog 56 #[.string s, .int .i64 6] w fun e w' => e = .returned (.tuple #[.int .i64 0, .bool false]) ∧ Ext w w' := by
  obtain rfl : s = ⟨#[]⟩ := toL_inj (List.length_eq_zero_iff.1 ((toL_length s).trans h0))
  clear h0
  go_enter Tryd.func56, Tryd.ntmps56
  go_wp2
  go_ret2
  exact ⟨rfl, (by repeat (first | exact Ext.refl _ | assumption | refine Ext.alloc ?_ _ | refine Ext.drew ?_ | refine Ext.drewN ?_ _ | refine Ext.trans ?_ (by assumption)))⟩
theorem spec_parseNumber (s : ByteArray) (v : Int) (ok : Bool) (hR : NumR s.data.toList v ok) (w : World) (hs : s.size ≤ 1073741824) :
    Calls Tryd.prog 32 #[.string s] w fun e w' => e = .returned (.tuple #[.int .i64 v, .bool ok]) ∧ Ext w w' := by
  change NumR (toL s) v ok at hR
  rcases Nat.eq_zero_or_pos s.size with h0 | h0
  · obtain ⟨rfl, rfl⟩ := numR_bad hR (fun u hu => by have := (numW_len hu).1; rw [toL_length] at this; omega)
    have HC := Lib.hid (fun W => spec_read_nil s W h0)
    clear hR h0
    go_enter Tryd.func32, Tryd.ntmps32
    go_wp2_with fail
    refine (HC.out _).mono ?_
    rintro e w1 ⟨rfl, h1⟩
    go_wp2
    go_ret2
    exact ⟨rfl, h1⟩
  · by_cases h45 : s[0].toNat = 45
    · obtain ⟨rfl, rfl⟩ := numR_bad hR (fun u hu => by have := (numW_dig hu _ (toL_mem s 0 h0)).1; omega)
      have HC := Lib.hid (fun W => spec_read_neg s W hs h0 h45)
      clear hR h45
      go_enter Tryd.func32, Tryd.ntmps32
      go_wp2_with fail
      refine (HC.out _).mono ?_
      rintro e w1 ⟨z, b, rfl, hz, h1⟩
      cases b with
      | false =>
        clear hz
        go_wp2
        go_ret2
        exact ⟨rfl, h1⟩
      | true =>
        have hz0 := hz rfl
        clear hz
        go_wp2
        go_ret2
        exact ⟨rfl, h1⟩
    · have HC := Lib.hid (fun W => spec_read_pos s v ok hR W hs h0 h45)
      have hv : (ok = true ∧ 0 ≤ v) ∨ (ok = false ∧ v = 0) := by
        rcases hR with ⟨u, _, rfl, rfl⟩ | ⟨_, rfl, rfl⟩
        · exact .inl ⟨rfl, by omega⟩
        · exact .inr ⟨rfl, rfl⟩
      clear hR h45
      rcases hv with ⟨rfl, hv0⟩ | ⟨rfl, rfl⟩
      · have hvn : ¬ v < 0 := by omega
        go_enter Tryd.func32, Tryd.ntmps32
        go_wp2_with fail
        refine (HC.out _).mono ?_
        rintro e w1 ⟨rfl, h1⟩
        go_wp2
        go_ret2
        exact ⟨rfl, h1⟩
      · go_enter Tryd.func32, Tryd.ntmps32
        go_wp2_with fail
        refine (HC.out _).mono ?_
        rintro e w1 ⟨rfl, h1⟩
        go_wp2
        go_ret2
        exact ⟨rfl, h1⟩
end Go.Proofs.YtkhgkaiadfebmaaDoor
