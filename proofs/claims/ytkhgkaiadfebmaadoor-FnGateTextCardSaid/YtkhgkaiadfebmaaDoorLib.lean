/-
  Contracts of SplitByte and of the program's ParseNumber, over the library's contracts. Conditions: the library's variables read as their initialisers lay them.
-/
import Derived.Test.YtkhgkaiadfebmaaDoorNum
import Derived.Test.YtkhgkaiadfebmaaDoorShelf
import Derived.Test.YtkhgkaiadfebmaaDoorFmt
import Derived.Test.YtkhgkaiadfebmaaDoorRows2
import Derived.Lib.AppendIntMem
import Derived.Lib.AtoiErrMem
set_option linter.unusedSimpArgs false
set_option linter.unusedVariables false
namespace Go.Proofs.YtkhgkaiadfebmaaDoor
open Go.RowKit
/-- What the library reads of its variables. -/
structure LibOk (w : World) : Prop where
  names : Names w
  syn : ∃ tp p, w.cell? ⟨2, 0, none⟩ = some (.iface tp p)
  rng : ∃ tp p, w.cell? ⟨3, 0, none⟩ = some (.iface tp p)
  pow : Lib.TabIs Tryd.prog w "internal/strconv.uint64pow10" .u64 Lib.pow10Tab
  mxl : ∃ m, w.cell? ⟨1, 0, none⟩ = some (.int .i64 m)
theorem pow_glob : Tryd.prog.globalNamed "internal/strconv.uint64pow10" = some 4 := by kernel_rfl
theorem tab_ext {a b : World} (h : Lib.TabIs Tryd.prog a "internal/strconv.uint64pow10" .u64 Lib.pow10Tab) (he : Ext a b) : Lib.TabIs Tryd.prog b "internal/strconv.uint64pow10" .u64 Lib.pow10Tab := by
  have hc := World.var?_cell pow_glob h 0
  have hl : 4 < a.heap.size := by
    refine lt_of_cell (p := ⟨4, 0, none⟩) (v := .int .u64 1) (hc.trans ?_)
    rfl
  unfold Lib.TabIs at h ⊢
  rw [← h]
  simp only [World.var?, pow_glob, Option.bind_some]
  rw [he.block _ hl]
theorem LibOk.ext {a b : World} (h : LibOk a) (he : Ext a b) : LibOk b := by
  obtain ⟨h1, ⟨t1, p1, h2⟩, ⟨t2, p2, h3⟩, h4, ⟨m, h5⟩⟩ := h
  exact ⟨h1.ext he, ⟨t1, p1, he.cell h2⟩, ⟨t2, p2, he.cell h3⟩, tab_ext h4 he, ⟨m, he.cell h5⟩⟩
theorem strs_at {L : List ByteArray} {j : Nat} (h : j < L.length) : (strN L)[j]? = some (.string (L.getD j ⟨#[]⟩)) := by simp [strN, List.getD, h]
theorem impl_split (b : UInt8) (x : Int) (hb : (b.toNat : Int) = x) (s : ByteArray) (w : World) (hs : s.size ≤ 1073741824) (hO : LibOk w) :
    Calls Tryd.prog 33 #[.string s, .int .u8 x] w fun e w' => ∃ g, e = .returned (.slice (some ⟨g, 0, none⟩) (pieces b s).length (pieces b s).length) ∧ Rd w' (some ⟨g, 0, none⟩) (strN (pieces b s)) ∧ Ext w w' := by
  have hcell : ∀ j, j < 1 → (w.alloc (.cells #[.int .u8 x] 5)).cell? ⟨w.heap.size, 0 + j, none⟩ = some (.int .u8 ([x].getD j 0)) := by
    intro j hj
    obtain rfl : j = 0 := by omega
    exact cell_of_row _ _ _ _ _ _ (heap_alloc_new w _)
  have hconv := run_convert_bytes_arg (P := Tryd.prog) (w.alloc (.cells #[.int .u8 x] 5)) 35 5 Tryd.underlying35 Tryd.underlying5 w.heap.size 0 1 1 [x] rfl hcell 9 Tryd.underlying9
  have hsn : strOfNums [x] = ⟨#[b]⟩ := by subst hb; simp [strOfNums]
  rw [hsn] at hconv
  obtain ⟨m, hm⟩ := (hO.ext ((Ext.refl w).alloc (.cells #[.int .u8 x] 5))).mxl
  have HM := Lib.hid hm
  have HP := Lib.hid (pieces_length b s)
  have HB := Lib.hid (splitB_eq b s)
  generalize pieces b s = ps at *
  clear hcell hsn hm
  go_enter Tryd.func33, Tryd.ntmps33
  go_wp2_with fail
  refine (Tryd.strings_Split s ⟨#[b]⟩ m _ (by omega) HM.out (Nat.le_refl 1)).mono ?_
  rintro e w1 ⟨rfl, rfl⟩
  rw [← HP.out, HB.out]
  go_wp2
  go_ret
  refine ⟨_, rfl, fun _ => ⟨_, 0, rfl, fun j u hu => ?_⟩, (by repeat (first | exact Ext.refl _ | assumption | refine Ext.alloc ?_ _ | refine Ext.drew ?_ | refine Ext.drewN ?_ _ | refine Ext.trans ?_ (by assumption)))⟩
  have hb := Blk.new (w.alloc (.cells #[.int .u8 x] 5)) 9 (ps.map Value.string).toArray
  simp only [World.size_alloc] at hb
  refine (hb.all.1 _).trans ?_
  rw [Nat.zero_add]
  simpa [strN] using hu
theorem numW_atoi {l : List UInt8} {u : Nat} (h : NumW l u) : Lib.atoiAll l = .ok (u : Int) := by rw [h.2]; exact atoi_dd u h.1
theorem numR_no {l : List UInt8} {v : Int} {ok : Bool} (h : NumR l v ok) (hn : ∀ u : Nat, Lib.atoiAll l = .ok (u : Int) → 999999 < u ∨ l ≠ Lib.decDigits u) : v = 0 ∧ ok = false := by
  rcases h with ⟨u, hu, _, _⟩ | ⟨_, h1, h2⟩
  · rcases hn u (numW_atoi hu) with h3 | h3
    · have := hu.1; omega
    · exact absurd hu.2 h3
  · exact ⟨h1, h2⟩
theorem atoi_bad (s : ByteArray) (hlim : s.size ≤ 281474976710656) (hno : ∀ u, Lib.atoiAll s.data.toList ≠ .ok u) (w : World) (hO : LibOk w) :
    Calls Tryd.prog 70 #[.string s] w fun e w' => ∃ (x : Int) (tp : TypeId) (p : Value), e = .returned (.tuple #[.int .i64 x, .iface tp p]) ∧ Ext w w' := by
  obtain ⟨t1, p1, h1⟩ := hO.syn
  obtain ⟨t2, p2, h2⟩ := hO.rng
  cases h : Lib.atoiAll s.data.toList with
  | ok u => exact absurd h (hno u)
  | range => exact (Any.strconv_Atoi_range Tryd.laysC172 s hlim h (.iface t2 p2) w h2 (Or.inr ⟨t2, p2, rfl⟩)).mono fun e w' ⟨_, h3, _, _, h4⟩ => ⟨_, _, _, h3, h4⟩
  | _ => exact (Any.strconv_Atoi_syntax Tryd.laysC172 s hlim h (.iface t1 p1) w h1 (Or.inr ⟨t1, p1, rfl⟩)).mono fun e w' ⟨_, h3, _, _, h4⟩ => ⟨_, _, _, h3, h4⟩
theorem str_eq_of {s : ByteArray} {l : List UInt8} (h : s.data.toList = l) : s = ⟨l.toArray⟩ := by
  apply ByteArray.ext
  rw [← h]
set_option maxHeartbeats 1600000 in
theorem impl_parseNum (s : ByteArray) (v : Int) (ok : Bool) (hR : NumR s.data.toList v ok) (w : World) (hs : s.size ≤ 1073741824) (hO : LibOk w) :
    Calls Tryd.prog 58 #[.string s, .int .i64 0, .int .i64 999999] w fun e w' => e = .returned (.tuple #[.int .i64 v, .bool ok]) ∧ Ext w w' := by
  have HO := Lib.hid hO
  by_cases hex : ∃ u, Lib.atoiAll s.data.toList = .ok u
  rotate_left
  · have hno : ∀ u, Lib.atoiAll s.data.toList ≠ .ok u := fun u h => hex ⟨u, h⟩
    obtain ⟨rfl, rfl⟩ := numR_no hR (fun u h => absurd h (hno u))
    have HC := Lib.hid (atoi_bad s (by omega) hno w hO)
    clear hno hex hR hO
    go_enter Tryd.func58, Tryd.ntmps58
    go_wp2_with fail
    refine (HC.out).mono ?_
    rintro e w1 ⟨x, tp, p, rfl, h1⟩
    go_wp2
    go_ret2
    exact ⟨rfl, h1⟩
  · obtain ⟨u, ha⟩ := hex
    have HC : Hid (∀ W, Calls Tryd.prog 70 #[.string s] W fun e w' => e = .returned (.tuple #[.int .i64 u, .nilIface]) ∧ Ext W w') := fun W => (Tryd.strconv_Atoi_ok s (by omega) u ha W).mono fun e w' ⟨h1, h2⟩ => ⟨h1, by
      rcases h2 with rfl | ⟨t, rfl⟩
      · exact Ext.refl _
      · exact Lib.bytesWorld_below _ _ _⟩
    by_cases hr : 0 ≤ u ∧ u ≤ 999999
    · obtain ⟨hr0, hr1⟩ := hr
      obtain ⟨n, rfl⟩ := Int.eq_ofNat_of_zero_le hr0
      have HI : Hid (∀ W (hW : LibOk W), Calls Tryd.prog 61 #[.int .i64 n] W fun e w' => e = .returned (.string ⟨(Lib.decDigits n).toArray⟩) ∧ Ext W w') := fun W hW => (Tryd.strconv_Itoa n (by omega) (by omega) W hW.pow).mono fun e w' ⟨h1, k, os, h2⟩ => ⟨by rw [h1, Lib.itoa_nonneg], by rw [h2]; exact Lib.below_grow _ _ (Nat.le_refl _) _ _⟩
      by_cases he : s.data.toList = Lib.decDigits n
      · have hse := str_eq_of he
        obtain ⟨rfl, rfl⟩ : v = (n : Int) ∧ ok = true := numR_fun hR (.inl ⟨n, ⟨by omega, he⟩, rfl, rfl⟩)
        rw [← hse] at HI
        clear ha hR hO he hse
        have hn0 : ¬ ((n : Int) < 0) := by omega
        have hn1 : ¬ (999999 < (n : Int)) := by omega
        go_enter Tryd.func58, Tryd.ntmps58
        go_wp2_with fail
        refine (HC.out _).mono ?_
        rintro e w1 ⟨rfl, h1⟩
        go_wp2_with fail
        refine (HI.out _ (HO.out.ext h1)).mono ?_
        rintro e w2 ⟨rfl, h2⟩
        go_wp2
        go_ret2
        exact ⟨rfl, h1.trans h2⟩
      · obtain ⟨rfl, rfl⟩ := numR_no hR (fun u h => by rw [ha] at h; injection h with h; right; rwa [show u = n from by omega])
        have hse : ¬ (⟨(Lib.decDigits n).toArray⟩ : ByteArray) = s := by rintro rfl; exact he rfl
        have hst := toList_ne hse
        generalize (⟨(Lib.decDigits n).toArray⟩ : ByteArray) = t at *
        clear ha hR hO he hse
        have hn0 : ¬ ((n : Int) < 0) := by omega
        have hn1 : ¬ (999999 < (n : Int)) := by omega
        go_enter Tryd.func58, Tryd.ntmps58
        go_wp2_with fail
        refine (HC.out _).mono ?_
        rintro e w1 ⟨rfl, h1⟩
        go_wp2_with fail
        refine (HI.out _ (HO.out.ext h1)).mono ?_
        rintro e w2 ⟨rfl, h2⟩
        go_wp2
        go_ret2
        exact ⟨rfl, h1.trans h2⟩
    · obtain ⟨rfl, rfl⟩ := numR_no hR (fun n h => by rw [ha] at h; injection h with h; left; omega)
      clear ha hR hO
      by_cases h0 : u < 0
      · go_enter Tryd.func58, Tryd.ntmps58
        go_wp2_with fail
        refine (HC.out _).mono ?_
        rintro e w1 ⟨rfl, h1⟩
        go_wp2
        go_ret2
        exact ⟨rfl, h1⟩
      · have hb : 999999 < u := by omega
        go_enter Tryd.func58, Tryd.ntmps58
        go_wp2_with fail
        refine (HC.out _).mono ?_
        rintro e w1 ⟨rfl, h1⟩
        go_wp2
        go_ret2
        exact ⟨rfl, h1⟩
theorem impl_parseNumber (s : ByteArray) (v : Int) (ok : Bool) (hR : NumR s.data.toList v ok) (w : World) (hs : s.size ≤ 1073741824) (hO : LibOk w) :
    Calls Tryd.prog 35 #[.string s] w fun e w' => e = .returned (.tuple #[.int .i64 v, .bool ok]) ∧ Ext w w' := by
  have HC := Lib.hid (fun W h => impl_parseNum s v ok hR W hs h)
  have HO := Lib.hid hO
  clear hR hO
  go_enter Tryd.func35, Tryd.ntmps35
  go_wp2_with fail
  refine (HC.out _ HO.out).mono ?_
  rintro e w1 ⟨rfl, h1⟩
  go_wp2
  go_ret2
  exact ⟨rfl, h1⟩
end Go.Proofs.YtkhgkaiadfebmaaDoor
