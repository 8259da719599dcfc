/-
  Contracts of the reference's FormatInt and ParseNumber. Conditions: a number of at most six digits; a text of at most 2^30 bytes.
-/
import Derived.Test.YtkhgkaiadfebmaaDoorLib2
set_option linter.unusedSimpArgs false
set_option linter.unusedVariables false
namespace Go.Proofs.YtkhgkaiadfebmaaDoor
open Go.RowKit
def dd (u : Nat) : ByteArray := ⟨(Lib.decDigits u).toArray⟩
theorem toL_dd (u : Nat) : toL (dd u) = Lib.decDigits u := by simp [toL, dd]
theorem dd_size (u : Nat) : (dd u).size = (Lib.decDigits u).length := by rw [← toL_length, toL_dd]
theorem dg_dd (u : Nat) (h : u ≤ 4) : dg (u : Int) = dd u := by
  obtain rfl | rfl | rfl | rfl | rfl : u = 0 ∨ u = 1 ∨ u = 2 ∨ u = 3 ∨ u = 4 := by omega
  all_goals (unfold dd; rw [Lib.decDigits_one (by omega)]; rfl)
def finD (m : Nat) (t : ByteArray) : ByteArray := if m = 0 then t else dd m ++ t
theorem toL_app (a b : ByteArray) : toL (a ++ b) = toL a ++ toL b := by simp [toL]
theorem toL_inj {a b : ByteArray} (h : toL a = toL b) : a = b := by rw [← mk_toL a, h, mk_toL]
theorem nums_dig (m : Nat) : toL (strOfNums [48 + (m : Int) % 10]) = [UInt8.ofNat (48 + m % 10)] := by
  have h : (48 + (m : Int) % 10).toNat = 48 + m % 10 := by omega
  simp [toL, strOfNums, h]
theorem fin_step {m : Nat} (h : m ≠ 0) (t : ByteArray) : finD (m / 10) (strOfNums [48 + (m : Int) % 10] ++ t) = finD m t := by
  apply toL_inj
  unfold finD
  rw [if_neg h]
  by_cases h1 : m < 10
  · rw [if_pos (by omega), toL_app, toL_app, nums_dig, toL_dd, Lib.decDigits_one h1, show m % 10 = m from by omega]
  · rw [if_neg (by omega), toL_app, toL_app, toL_app, nums_dig, toL_dd, toL_dd, dd_big h1]
    simp
set_option maxRecDepth 20000 in
set_option maxHeartbeats 800000 in
theorem spec_fmtPos (u : Nat) (h0 : 0 < u) (hu : u ≤ 999999) (w : World) : Calls Tryd.prog 49 #[.int .i64 u] w fun e w' => e = .returned (.string (dd u)) ∧ Ext w w' := by
  have hi0 : ((u : Int) == 0) = false := by simp; omega
  have hi1 : ¬ ((u : Int) < 0) := by omega
  have hF : Hid (finD u ⟨#[]⟩ = dd u) := by show _ = _; unfold finD; rw [if_neg (by omega), app_nil]
  generalize dd u = R at *
  go_enter Tryd.func49, Tryd.ntmps49
  go_wp2
  go_loopw [0, 4, 5] (fun v s _ wr => ∃ (m f : Nat) (t : ByteArray), v = .int .i64 m ∧ s = .string t ∧ f ≤ 6 ∧ Hid (m < 10 ^ f) ∧ m ≤ 999999 ∧ t.size + f ≤ 6 ∧ Hid (finD m t = R) ∧ Ext w wr) (fun v _ _ _ => (intOf v).toNat)
  case atStart => exact ⟨u, 6, ⟨#[]⟩, rfl, rfl, Nat.le_refl _, Lib.hid (by omega), hu, Nat.le_refl _, hF, (by repeat (first | exact Ext.refl _ | assumption | refine Ext.alloc ?_ _ | refine Ext.drew ?_ | refine Ext.drewN ?_ _ | refine Ext.trans ?_ (by assumption)))⟩
  case round =>
    obtain ⟨m, f, t, rfl, rfl, hf6, hf, hm9, ht, hd, he⟩ := hrel
    by_cases hm0 : m = 0
    · subst hm0
      have HR : Hid (t = R) := by have := hd.out; unfold finD at this; rw [if_pos rfl] at this; exact this
      clear hd hf
      go_wp2
      go_ret
      exact ⟨ret_strN HR.out, he⟩
    · have hmb : ((m : Int) != 0) = true := by simp; omega
      obtain ⟨g, rfl⟩ : ∃ g, f = g + 1 := by
        rcases Nat.eq_zero_or_pos f with h | h
        · subst h; have := hf.out; simp at this; omega
        · exact ⟨f - 1, by omega⟩
      have HG : Hid (m / 10 < 10 ^ g) := by show _ < _; have := hf.out; rw [Nat.pow_succ] at this; omega
      have HST := Lib.hid (fin_step hm0 t)
      have hmI : (0 : Int) < (m : Int) := by omega
      clear hm0 hf
      have hcell : ∀ j, j < 1 → (wr.alloc (.cells #[.int .u8 (48 + (m : Int) % 10)] 5)).cell? ⟨wr.heap.size, 0 + j, none⟩ = some (.int .u8 ([48 + (m : Int) % 10].getD j 0)) := by
        intro j hj
        obtain rfl : j = 0 := by omega
        exact cell_of_row _ _ _ _ _ _ (heap_alloc_new wr _)
      have hconv := run_convert_bytes_arg (P := Tryd.prog) (wr.alloc (.cells #[.int .u8 (48 + (m : Int) % 10)] 5)) 35 5 Tryd.underlying35 Tryd.underlying5 wr.heap.size 0 1 1 [48 + (m : Int) % 10] rfl hcell 9 Tryd.underlying9
      clear hcell
      have hn1 : (strOfNums [48 + (m : Int) % 10]).size = 1 := by simp [strOfNums, ByteArray.size]
      have HZ : Hid ((strOfNums [48 + (m : Int) % 10] ++ t).size = 1 + t.size) := by show _ = _; rw [ByteArray.size_append, hn1]
      generalize strOfNums [48 + (m : Int) % 10] = q at *
      go_wp2
      go_roundw
      case rel => exact ⟨m / 10, g, q ++ t, by simp, rfl, by omega, HG, by omega, by have := HZ.out; omega, Lib.hid (by rw [HST.out, hd.out]), (by repeat (first | exact Ext.refl _ | assumption | refine Ext.alloc ?_ _ | refine Ext.drew ?_ | refine Ext.drewN ?_ _ | refine Ext.trans ?_ (by assumption)))⟩
      case measure => simp [intOf]; omega
theorem spec_fmtNat (u : Nat) (hu : u ≤ 999999) (w : World) : Calls Tryd.prog 49 #[.int .i64 u] w fun e w' => e = .returned (.string (dd u)) ∧ Ext w w' := by
  rcases Nat.eq_zero_or_pos u with h | h
  · subst h
    have := spec_fmtInt 0 (by omega) w
    rw [dg_dd 0 (by omega)] at this
    exact this
  · exact spec_fmtPos u h hu w
def SomeStr0 (w : World) (e : Ending) (w' : World) : Prop := ∃ t : ByteArray, e = .returned (.string t) ∧ Ext w w'
set_option maxRecDepth 20000 in
set_option maxHeartbeats 1600000 in
theorem spec_fmtNeg (x : Int) (h0 : x < 0) (hx : -999999 ≤ x) (w : World) : Calls Tryd.prog 49 #[.int .i64 x] w (SomeStr0 w) := by
  have hi0 : (x == 0) = false := by simp; omega
  go_enter Tryd.func49, Tryd.ntmps49
  go_wp2
  go_loopw [0, 4, 5] (fun v s _ wr => ∃ (y : Int) (f : Nat) (t : ByteArray), v = .int .i64 y ∧ s = .string t ∧ f ≤ 6 ∧ y ≤ 0 ∧ -999999 ≤ y ∧ Hid (y.natAbs < 10 ^ f) ∧ t.size + f ≤ 6 ∧ Ext w wr) (fun v _ _ _ => (intOf v).natAbs)
  case atStart => exact ⟨x, 6, ⟨#[]⟩, rfl, rfl, Nat.le_refl _, by omega, hx, Lib.hid (by omega), Nat.le_refl _, (by repeat (first | exact Ext.refl _ | assumption | refine Ext.alloc ?_ _ | refine Ext.drew ?_ | refine Ext.drewN ?_ _ | refine Ext.trans ?_ (by assumption)))⟩
  case round =>
    obtain ⟨y, f, t, rfl, rfl, hf6, hy0, hy9, hf, ht, he⟩ := hrel
    by_cases hm0 : y = 0
    · subst hm0
      clear hf
      go_wp2
      go_ret
      exact ⟨_, rfl, he⟩
    · have hmb : (y != 0) = true := by simp; omega
      obtain ⟨g, rfl⟩ : ∃ g, f = g + 1 := by
        rcases Nat.eq_zero_or_pos f with h | h
        · subst h; have := hf.out; simp at this; omega
        · exact ⟨f - 1, by omega⟩
      obtain ⟨z, rfl⟩ : ∃ z : Nat, y = -(z : Int) := ⟨y.natAbs, by omega⟩
      have hz0 : z ≠ 0 := by omega
      have e1 : (-(z : Int)).tmod 10 = -((z % 10 : Nat) : Int) := by rw [Int.neg_tmod]; rfl
      have e2 : (-(z : Int)).tdiv 10 = -((z / 10 : Nat) : Int) := by rw [Int.neg_tdiv]; rfl
      have HG : Hid (z / 10 < 10 ^ g) := by show _ < _; have := hf.out; rw [Nat.pow_succ] at this; omega
      obtain ⟨d, hd⟩ : ∃ d : Nat, d = z % 10 := ⟨_, rfl⟩
      obtain ⟨c, hc⟩ : ∃ c : Nat, c = z / 10 := ⟨_, rfl⟩
      rw [← hd] at e1
      rw [← hc] at e2 HG
      have hd9 : d ≤ 9 := by omega
      have hcz : c < z := by omega
      clear hd hc hf hm0
      by_cases hd0 : d = 0
      · subst hd0
        have hcell : ∀ j, j < 1 → (wr.alloc (.cells #[.int .u8 (48)] 5)).cell? ⟨wr.heap.size, 0 + j, none⟩ = some (.int .u8 ([48].getD j 0)) := by
          intro j hj
          obtain rfl : j = 0 := by omega
          exact cell_of_row _ _ _ _ _ _ (heap_alloc_new wr _)
        have hconv := run_convert_bytes_arg (P := Tryd.prog) (wr.alloc (.cells #[.int .u8 (48)] 5)) 35 5 Tryd.underlying35 Tryd.underlying5 wr.heap.size 0 1 1 [48] rfl hcell 9 Tryd.underlying9
        clear hcell
        have hn1 : (strOfNums [48]).size = 1 := by simp [strOfNums, ByteArray.size]
        have HZ : Hid ((strOfNums [48] ++ t).size = 1 + t.size) := by show _ = _; rw [ByteArray.size_append, hn1]
        generalize strOfNums [48] = q at *
        go_wp2
        go_roundw
        case rel => exact ⟨-(c : Int), g, q ++ t, rfl, rfl, by omega, by omega, by omega, Lib.hid (by have := HG.out; omega), by have := HZ.out; omega, (by repeat (first | exact Ext.refl _ | assumption | refine Ext.alloc ?_ _ | refine Ext.drew ?_ | refine Ext.drewN ?_ _ | refine Ext.trans ?_ (by assumption)))⟩
        case measure => simp [intOf]; omega
      · have hd1 : 0 < d := by omega
        clear hd0
        have hcell : ∀ j, j < 1 → (wr.alloc (.cells #[.int .u8 (48 + (d : Int))] 5)).cell? ⟨wr.heap.size, 0 + j, none⟩ = some (.int .u8 ([48 + (d : Int)].getD j 0)) := by
          intro j hj
          obtain rfl : j = 0 := by omega
          exact cell_of_row _ _ _ _ _ _ (heap_alloc_new wr _)
        have hconv := run_convert_bytes_arg (P := Tryd.prog) (wr.alloc (.cells #[.int .u8 (48 + (d : Int))] 5)) 35 5 Tryd.underlying35 Tryd.underlying5 wr.heap.size 0 1 1 [48 + (d : Int)] rfl hcell 9 Tryd.underlying9
        clear hcell
        have hn1 : (strOfNums [48 + (d : Int)]).size = 1 := by simp [strOfNums, ByteArray.size]
        have HZ : Hid ((strOfNums [48 + (d : Int)] ++ t).size = 1 + t.size) := by show _ = _; rw [ByteArray.size_append, hn1]
        generalize strOfNums [48 + (d : Int)] = q at *
        go_wp2
        go_roundw
        case rel => exact ⟨-(c : Int), g, q ++ t, rfl, rfl, by omega, by omega, by omega, Lib.hid (by have := HG.out; omega), by have := HZ.out; omega, (by repeat (first | exact Ext.refl _ | assumption | refine Ext.alloc ?_ _ | refine Ext.drew ?_ | refine Ext.drewN ?_ _ | refine Ext.trans ?_ (by assumption)))⟩
        case measure => simp [intOf]; omega
end Go.Proofs.YtkhgkaiadfebmaaDoor
