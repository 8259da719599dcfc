/-
  Contracts of ParseGate; the walk of the law on ParseGate. Conditions: a text of at most 2^30 bytes; the library's variables read as their initialisers lay them.
-/
import Derived.Test.YtkhgkaiadfebmaaDoorPgW
set_option linter.unusedSimpArgs false
set_option linter.unusedVariables false
namespace Go.Proofs.YtkhgkaiadfebmaaDoor
open Go.RowKit
theorem cand_ex (s : ByteArray) : ∃ (K : Int) (r : Nat) (v0 v1 v2 : Int) (o0 o1 o2 : Bool), Cand s K r v0 v1 v2 o0 o1 o2 ∧ r ≤ 3 := by
  obtain ⟨v0, v1, v2, o0, o1, o2, hn⟩ := nums_ex (pieces 32 s)
  have hb := arity_bd (kindOf ((pieces 32 s).getD 0 ⟨#[]⟩))
  exact ⟨_, (arity (kindOf ((pieces 32 s).getD 0 ⟨#[]⟩))).toNat, v0, v1, v2, o0, o1, o2, ⟨rfl, by omega, hn⟩, by omega⟩
theorem spec_parseGate (s : ByteArray) (k a b c : Int) (ok : Bool) (hR : PgR s k a b c ok) (w : World) (hs : s.size ≤ 1073741824) (hO : LibOk w) :
    Calls Tryd.prog 7 #[.string s] w fun e w' => e = .returned (.tuple #[.agg #[.int .i64 k, .int .i64 a, .int .i64 b, .int .i64 c], .bool ok]) ∧ Ext w w' := by
  obtain ⟨K, r, v0, v1, v2, o0, o1, o2, hc, hr⟩ := cand_ex s
  obtain rfl | rfl | rfl | rfl : r = 0 ∨ r = 1 ∨ r = 2 ∨ r = 3 := by omega
  · exact spec_pg0 s K v0 v1 v2 o0 o1 o2 hc k a b c ok hR w hs hO
  · exact spec_pg1 s K v0 v1 v2 o0 o1 o2 hc k a b c ok hR w hs hO
  · exact spec_pg2 s K v0 v1 v2 o0 o1 o2 hc k a b c ok hR w hs hO
  · exact spec_pg3 s K v0 v1 v2 o0 o1 o2 hc k a b c ok hR w hs hO
theorem impl_parseGate (s : ByteArray) (k a b c : Int) (ok : Bool) (hR : PgR s k a b c ok) (w : World) (hs : s.size ≤ 1073741824) (hO : LibOk w) :
    Calls Tryd.prog 8 #[.string s] w fun e w' => e = .returned (.tuple #[.agg #[.int .i64 k, .int .i64 a, .int .i64 b, .int .i64 c], .bool ok]) ∧ Ext w w' := by
  obtain ⟨K, r, v0, v1, v2, o0, o1, o2, hc, hr⟩ := cand_ex s
  by_cases hl : (pieces 32 s).length = r + 1
  · obtain rfl | rfl | rfl | rfl : r = 0 ∨ r = 1 ∨ r = 2 ∨ r = 3 := by omega
    · exact impl_pg0 s K v0 v1 v2 o0 o1 o2 hc k a b c ok hR w hs hO hl
    · exact impl_pg1 s K v0 v1 v2 o0 o1 o2 hc k a b c ok hR w hs hO hl
    · exact impl_pg2 s K v0 v1 v2 o0 o1 o2 hc k a b c ok hR w hs hO hl
    · exact impl_pg3 s K v0 v1 v2 o0 o1 o2 hc k a b c ok hR w hs hO hl
  · exact impl_pg_len s K v0 v1 v2 r o0 o1 o2 hc k a b c ok hR w hs hO hl
set_option maxHeartbeats 800000 in
theorem walk_FnExactParseGate (w : World) (hO : LibOk w) (s : ByteArray) (hs : s.size ≤ maxLen) :
    Calls Tryd.prog 3 #[.string s] w fun e w' => e = .returned (.bool true) ∧ Ext w w' := by
  unfold maxLen at hs
  by_cases hbig : s.size ≤ 1048576
  · obtain ⟨k, a, b, c, ok, hR⟩ := pgR_ex s
    have HS := Lib.hid (fun W h => spec_parseGate s k a b c ok hR W (by omega) h)
    have HI := Lib.hid (fun W h => impl_parseGate s k a b c ok hR W (by omega) h)
    have HE := Lib.hid (fun W => laws_eqGate k a b c k a b c W)
    simp only [decide_true, and_self] at HE
    have hok : (ok != ok) = false := by simp
    have HO := Lib.hid hO
    clear hR hO
    go_enter Tryd.func3, Tryd.ntmps3
    go_wp2_with fail
    refine (HS.out _ HO.out).mono ?_
    rintro e w1 ⟨rfl, h1⟩
    have y := Blk.new w1 23 #[.int .i64 k, .int .i64 a, .int .i64 b, .int .i64 c]
    have h01 : Ext w (w1.alloc (.cells #[.int .i64 k, .int .i64 a, .int .i64 b, .int .i64 c] 23)) := h1.alloc _
    go_wp2_with fail
    refine (HI.out _ (HO.out.ext h01)).mono ?_
    rintro e w2 ⟨rfl, h2⟩
    replace y := y.ext h2
    obtain ⟨yc, yf, yz⟩ := y.all
    have h02 := h01.trans h2
    clear h1 h01 h2
    go_wp2_with fail
    refine (HE.out _).mono ?_
    rintro e w3 ⟨rfl, h3⟩
    have h03 := (h02.alloc _).trans h3
    go_wp2
    go_ret
    exact ⟨rfl, h03⟩
  · go_enter Tryd.func3, Tryd.ntmps3
    go_wp2
    go_ret
    exact ⟨rfl, (by repeat (first | exact Ext.refl _ | assumption | refine Ext.alloc ?_ _ | refine Ext.drew ?_ | refine Ext.drewN ?_ _ | refine Ext.trans ?_ (by assumption)))⟩
end Go.Proofs.YtkhgkaiadfebmaaDoor
