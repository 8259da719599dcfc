/-
  Contracts of the drawing functions: a cursor yields numbers in range, whatever they are. Conditions: the code is at most 2^20 bytes.
-/
import Derived.Test.YtkhgkaiadfebmaaDoorPerm5
set_option linter.unusedSimpArgs false
set_option linter.unusedVariables false
namespace Go.Proofs.YtkhgkaiadfebmaaDoor
open Go.RowKit

/-- A row of bytes. -/
def bys (l : List Int) : List Value := l.map (Value.int .u8)
theorem Rd.bys_ {w : World} {A : Option Addr} {l : List Int} (h : Rd w A (bys l)) (hn : 0 < l.length) :
    ∃ g off, A = some ⟨g, off, none⟩ ∧ ∀ j, j < l.length → w.cell? ⟨g, off + j, none⟩ = some (.int .u8 (l.getD j 0)) := by
  obtain ⟨g, off, e, hc⟩ := h (by intro h0; have : (bys l).length = l.length := by simp [bys]
                                  rw [h0] at this; simp at this; omega)
  exact ⟨g, off, e, fun j hj => hc j _ (by simp [bys, hj])⟩
/-- Block g is a cursor over a slice of n bytes with address A. -/
def Cur (w : World) (g : Nat) (A : Option Addr) (n c : Nat) : Prop := ∃ (i : Nat) (h : Int), i ≤ n ∧ Blk w g #[.slice A n c, .int .i64 i, .int .i64 h]
theorem Cur.ext {a b : World} {g : Nat} {A : Option Addr} {n c : Nat} (h : Cur a g A n c) (he : Ext a b) : Cur b g A n c := by
  obtain ⟨i, k, hi, hb⟩ := h
  exact ⟨i, k, hi, hb.ext he⟩
theorem Cur.chg {a b : World} {lo hi g : Nat} {A : Option Addr} {n c : Nat} (h : Cur a g A n c) (k : Chg a b lo hi) (hd : g < lo ∨ hi ≤ g) : Cur b g A n c := by
  obtain ⟨i, x, h1, hb⟩ := h
  exact ⟨i, x, h1, hb.chg k hd⟩
theorem Cur.lt {w : World} {g : Nat} {A : Option Addr} {n c : Nat} (h : Cur w g A n c) : g < w.heap.size := by
  obtain ⟨i, x, h1, hb⟩ := h
  exact hb.all.2.2
theorem and255 (y : Int) : 0 ≤ bits .and .i64 y 255 ∧ bits .and .i64 y 255 ≤ 255 := by
  have h : bits .and .i64 y 255 = IntKind.i64.wrap ((BitVec.ofInt 64 y &&& BitVec.ofInt 64 ((255 : Nat) : Int)).toNat : Int) := rfl
  have h2 : (BitVec.ofInt 64 y &&& BitVec.ofInt 64 ((255 : Nat) : Int)).toNat ≤ 255 := by
    rw [BitVec.toNat_and, toNat_ofInt 255 (by omega)]
    exact Nat.and_le_right
  rw [h, IntWalk.i64_in _ (by omega)]
  omega

theorem byte_end {e : Ending} {Q : Prop} (y : Int) (he : e = .returned (.int .i64 (bits .and .i64 y 255))) (hq : Q) : ∃ x : Nat, x < 256 ∧ e = .returned (.int .i64 x) ∧ Q := by
  have h := and255 y
  exact ⟨(bits .and .i64 y 255).toNat, by omega, by rw [he, Int.toNat_of_nonneg h.1], hq⟩
theorem Cur.set2 {w : World} {g : Nat} {A : Option Addr} {n c i : Nat} {h : Int} (hb : Blk w g #[.slice A n c, .int .i64 i, .int .i64 h]) (hi : i ≤ n) (h' : Int) (a b : Nat) : Cur (((w.setCell ⟨g, 2, none⟩ (.int .i64 h')).drewN a).drewN b) g A n c :=
  ⟨i, h', hi, (((by simpa using hb.set_ 2 (.int .i64 h') : Blk (w.setCell ⟨g, 2, none⟩ (.int .i64 h')) g #[.slice A n c, .int .i64 i, .int .i64 h'])).drewN a).drewN b⟩
theorem Cur.set21 {w : World} {g : Nat} {A : Option Addr} {n c i : Nat} {h : Int} (hb : Blk w g #[.slice A n c, .int .i64 i, .int .i64 h]) (hi : i < n) (h' : Int) (a : Nat) (v : Value) (hv : v = .int .i64 ((i + 1 : Nat) : Int)) :
    Cur (((w.setCell ⟨g, 2, none⟩ (.int .i64 h')).drewN a).setCell ⟨g, 1, none⟩ v) g A n c := by
  subst hv
  exact ⟨i + 1, h', hi, by simpa using ((hb.set_ 2 (.int .i64 h')).drewN a).set_ 1 (.int .i64 ((i + 1 : Nat) : Int))⟩
set_option maxRecDepth 100000 in
set_option maxHeartbeats 400000 in
theorem l1New_any (A : Option Addr) (n c : Nat) (l : List Int) (w : World) (hA : Rd w A (bys l)) (hl : l.length = n) (hn : n ≤ 1048576) :
    Calls Tryd.prog 43 #[.slice A n c] w fun e w' => ∃ g, e = .returned (.pointer (some ⟨g, 0, none⟩)) ∧ w.heap.size ≤ g ∧ Cur w' g A n c ∧ Ext w w' := by
  have HL := Lib.hid hl
  clear hl
  go_enter Tryd.func43, Tryd.ntmps43
  go_wp2
  go_loopw [3, 4] (fun q i wr => ∃ (j : Nat) (h : Int), j ≤ n ∧ i = .int .i64 j ∧ q = .int .i64 h ∧ Ext w wr) (fun _ i _ => n - (intOf i).toNat)
  case atStart => exact ⟨0, _, Nat.zero_le _, rfl, rfl, Ext.refl _⟩
  case round =>
    obtain ⟨j, h, hj, rfl, rfl, he⟩ := hrel
    by_cases hlt : j < n
    · have d0 : decide (j < n) = true := by simpa using hlt
      obtain ⟨g, off, rfl, hc⟩ := (hA.ext he).bys_ (by have := HL.out; omega)
      have c1 := hc j (by have := HL.out; omega)
      generalize l.getD j 0 = y at c1
      clear hc
      by_cases h4 : j < 4000
      · go_wp2
        go_roundw
        case rel => exact ⟨j + 1, _, by omega, by go_num, rfl, he⟩
        case measure => simp [intOf]; omega
      · go_wp2
        go_ret
        exact ⟨_, rfl, he.size, ⟨0, _, Nat.zero_le _, Blk.new _ _ _⟩, (by repeat (first | exact Ext.refl _ | assumption | refine Ext.alloc ?_ _ | refine Ext.drew ?_ | refine Ext.drewN ?_ _ | refine Ext.trans ?_ (by assumption)))⟩
    · have d0 : decide (j < n) = false := by simpa using hlt
      go_wp2
      go_ret
      exact ⟨_, rfl, he.size, ⟨0, _, Nat.zero_le _, Blk.new _ _ _⟩, (by repeat (first | exact Ext.refl _ | assumption | refine Ext.alloc ?_ _ | refine Ext.drew ?_ | refine Ext.drewN ?_ _ | refine Ext.trans ?_ (by assumption)))⟩
set_option maxHeartbeats 800000 in
theorem l1Byte_any (g : Nat) (A : Option Addr) (n c : Nat) (l : List Int) (w : World) (hA : Rd w A (bys l)) (hl : l.length = n) (hn : n ≤ 1048576) (hg : Cur w g A n c) (hag : l ≠ [] → ∀ a, A = some a → a.block < g) :
    Calls Tryd.prog 71 #[.pointer (some ⟨g, 0, none⟩)] w fun e w' => ∃ x : Nat, x < 256 ∧ e = .returned (.int .i64 x) ∧ Cur w' g A n c ∧ Chg w w' g (g + 1) := by
  have HL := Lib.hid hl
  clear hl
  obtain ⟨i, h, hin, hb⟩ := hg
  obtain ⟨bc, bf, bz⟩ := hb.all
  have c0 := bc 0
  have c1 := bc 1
  have c2 := bc 2
  simp only [List.getElem?_toArray, List.getElem?_cons_zero, List.getElem?_cons_succ] at c0 c1 c2
  have f1 := bf 1
  have f2 := bf 2
  clear bc bf
  by_cases hlt : i < n
  · have d0 : decide (i < n) = true := by simpa using hlt
    obtain ⟨ga, off, rfl, hc⟩ := hA.bys_ (by have := HL.out; omega)
    have y1 := hc i (by have := HL.out; omega)
    generalize l.getD i 0 = y at y1
    clear hc
    have hne : ga ≠ g := by
      have := hag (by rintro rfl; have := HL.out; simp at this; omega) _ rfl
      simp at this; omega
    go_enter Tryd.func71, Tryd.ntmps71
    go_wp2
    go_quiet (fail)
    go_wp2
    go_quiet (fail)
    go_wp2
    go_quiet (fail)
    go_wp2
    go_ret
    exact byte_end _ rfl ⟨Cur.set21 hb hlt _ _ _ (by go_num), (((Chg.refl w g (g + 1)).setCell (p := ⟨g, 2, none⟩) (Nat.le_refl g) (Nat.lt_succ_self g) _).drewN _).setCell (p := ⟨g, 1, none⟩) (Nat.le_refl g) (Nat.lt_succ_self g) _⟩
  · have d0 : decide (i < n) = false := by simpa using hlt
    go_enter Tryd.func71, Tryd.ntmps71
    go_wp2
    go_quiet (fail)
    go_wp2
    go_quiet (fail)
    go_wp2
    go_ret
    exact byte_end _ rfl ⟨Cur.set2 hb hin _ _ _, (((Chg.refl w g (g + 1)).setCell (p := ⟨g, 2, none⟩) (Nat.le_refl g) (Nat.lt_succ_self g) _).drewN _).drewN _⟩
/-- What goes with a cursor: it lies in block g over bytes l, and the bytes lie below it. -/
structure CurOk (w : World) (g : Nat) (A : Option Addr) (n c : Nat) (l : List Int) : Prop where
  rd : Rd w A (bys l)
  len : l.length = n
  small : n ≤ 1048576
  cur : Cur w g A n c
  off : l ≠ [] → ∀ a, A = some a → a.block < g
theorem CurOk.chg {a b : World} {lo hi g : Nat} {A : Option Addr} {n c : Nat} {l : List Int} (h : CurOk a g A n c l) (k : Chg a b lo hi) (hlo : g ≤ lo) (hc : Cur b g A n c) : CurOk b g A n c l := by
  refine ⟨fun hn => ?_, h.len, h.small, hc, h.off⟩
  obtain ⟨ga, off, e, hcell⟩ := h.rd hn
  refine ⟨ga, off, e, fun j u hu => ?_⟩
  have h1 := hcell j u hu
  have h2 := h.off (by rintro rfl; exact hn rfl) _ e
  rw [World.cell?_of_block (w := a) (k.block ga (lt_of_cell h1) (fun ⟨x, _⟩ => by simp at h2; omega))]
  exact h1
theorem CurOk.ext {a b : World} {g : Nat} {A : Option Addr} {n c : Nat} {l : List Int} (h : CurOk a g A n c l) (he : Ext a b) : CurOk b g A n c l := ⟨h.rd.ext he, h.len, h.small, h.cur.ext he, h.off⟩
theorem l1Byte_ok (g : Nat) (A : Option Addr) (n c : Nat) (l : List Int) (w : World) (h : CurOk w g A n c l) :
    Calls Tryd.prog 71 #[.pointer (some ⟨g, 0, none⟩)] w fun e w' => ∃ x : Nat, x < 256 ∧ e = .returned (.int .i64 x) ∧ CurOk w' g A n c l ∧ Chg w w' g (g + 1) :=
  (l1Byte_any g A n c l w h.rd h.len h.small h.cur h.off).mono fun _ _ ⟨x, h1, h2, h3, h4⟩ => ⟨x, h1, h2, h.chg h4 (Nat.le_refl _) h3, h4⟩
set_option maxHeartbeats 400000 in
theorem l1Below_ok (g : Nat) (A : Option Addr) (n c : Nat) (l : List Int) (m : Int) (w : World) (h : CurOk w g A n c l) (hm : m ≤ 1000000) :
    Calls Tryd.prog 60 #[.pointer (some ⟨g, 0, none⟩), .int .i64 m] w fun e w' => ∃ x : Nat, ((x : Int) < m ∨ (m ≤ 0 ∧ x = 0)) ∧ e = .returned (.int .i64 x) ∧ CurOk w' g A n c l ∧ Chg w w' g (g + 1) := by
  by_cases h0 : m ≤ 0
  · go_enter Tryd.func60, Tryd.ntmps60
    go_wp2
    go_ret
    exact ⟨0, .inr ⟨h0, rfl⟩, rfl, h, Chg.refl _ _ _⟩
  · obtain ⟨k, rfl⟩ := Int.eq_ofNat_of_zero_le (a := m) (by omega)
    have hm0 : ((k : Int) == 0) = false := by simp; omega
    by_cases h1 : (k : Int) ≤ 256
    · go_enter Tryd.func60, Tryd.ntmps60
      go_wp2_with fail
      refine (l1Byte_ok g A n c l _ h).mono ?_
      rintro e w1 ⟨x, hx, rfl, h1', ch⟩
      go_wp2
      go_ret
      exact ⟨x % k, .inl (by have := Nat.mod_lt x (show k > 0 by omega); omega), by simp, h1', ch⟩
    · go_enter Tryd.func60, Tryd.ntmps60
      go_wp2_with fail
      refine (l1Byte_ok g A n c l _ h).mono ?_
      rintro e w1 ⟨x, hx, rfl, h1', ch⟩
      go_wp2_with fail
      refine (l1Byte_ok g A n c l _ h1').mono ?_
      rintro e w2 ⟨y, hy, rfl, h2', ch2⟩
      go_wp2_with fail
      refine (l1Byte_ok g A n c l _ h2').mono ?_
      rintro e w3 ⟨z, hz, rfl, h3', ch3⟩
      go_wp2_with fail
      refine (l1Byte_ok g A n c l _ h3').mono ?_
      rintro e w4 ⟨u, hu, rfl, h4', ch4⟩
      go_wp2
      go_ret
      refine ⟨(x * 16777216 + y * 65536 + z * 256 + u) % k, .inl (by have := Nat.mod_lt (x * 16777216 + y * 65536 + z * 256 + u) (show k > 0 by omega); omega), by simp, h4', ch.trans (ch2.trans (ch3.trans ch4))⟩
theorem l1Once_ok (g : Nat) (A : Option Addr) (n c : Nat) (l : List Int) (m : Int) (w : World) (h : CurOk w g A n c l) (hm : m ≤ 1000000) :
    Calls Tryd.prog 63 #[.pointer (some ⟨g, 0, none⟩), .int .i64 m] w fun e w' => ∃ b : Bool, e = .returned (.bool b) ∧ CurOk w' g A n c l ∧ Chg w w' g (g + 1) := by
  go_enter Tryd.func63, Tryd.ntmps63
  go_wp2_with fail
  refine (l1Below_ok g A n c l m _ h hm).mono ?_
  rintro e w1 ⟨x, hx, rfl, h1, ch⟩
  clear hx
  go_wp2
  go_ret
  exact ⟨_, rfl, h1, ch⟩
theorem l1PickInt_ok (g : Nat) (A : Option Addr) (n c : Nat) (l : List Int) (B : Option Addr) (m c' lo hi : Nat) (L : List Int) (w : World) (h : CurOk w g A n c l) (hB : Fr w lo hi B (ints L)) (hlo : g < lo) (hL : L.length = m) (hm : 0 < m) (hm' : m ≤ 1000000) :
    Calls Tryd.prog 64 #[.pointer (some ⟨g, 0, none⟩), .slice B m c'] w fun e w' => ∃ v ∈ L, e = .returned (.int .i64 v) ∧ CurOk w' g A n c l ∧ Chg w w' g (g + 1) := by
  have HL := Lib.hid hL
  clear hL
  go_enter Tryd.func64, Tryd.ntmps64
  go_wp2_with fail
  refine (l1Below_ok g A n c l m _ h (by omega)).mono ?_
  rintro e w1 ⟨x, hx, rfl, h1, ch⟩
  have hxm : x < m := by omega
  obtain ⟨gb, off, rfl, hc⟩ := (hB.chg ch (.inr hlo)).rd.int (by have := HL.out; omega)
  have c1 := hc x (by have := HL.out; omega)
  have HM := Lib.hid (getD_mem (l := L) (j := x) (by have := HL.out; omega))
  generalize L.getD x 0 = v at c1 HM
  clear hc hx
  have hxI : (x : Int) < (m : Int) := by omega
  go_wp2
  go_ret
  exact ⟨v, HM.out, rfl, h1, ch⟩
end Go.Proofs.YtkhgkaiadfebmaaDoor
