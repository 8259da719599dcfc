/-
  Contracts of the program's IsValidGate, which keeps a set in a map. No conditions.
-/
import Derived.Test.YtkhgkaiadfebmaaDoorValid
set_option linter.unusedSimpArgs false
set_option linter.unusedVariables false
namespace Go.Proofs.YtkhgkaiadfebmaaDoor
open Go.RowKit Go.Maps

/-- Block b is a map of ints to bools that is true at the members of S. -/
def SetM (w : World) (b n : Nat) (S : List Int) : Prop :=
  ∃ D : DataW Unit, w.ownsMap Tryd.prog 3 (plainElem Tryd.prog 4) b n D ∧ IsMap D ∧ ∀ q : Int, D.atKey (.int .i64 q) (.lit (.bool false)) = .lit (.bool (decide (q ∈ S)))
theorem SetM.made (w : World) : SetM (w.alloc (.map #[] 0)) w.heap.size 0 [] :=
  ⟨.map [], World.ownsMap_made w _ _ _, isMap_empty, fun q => by simp [DataW.atKey]⟩
theorem SetM.kept {w w' : World} {b n : Nat} {S : List Int} {row : Option Nat} (h : SetM w b n S) (hg : w.grownBy w' row) (hne : some b ≠ row) : SetM w' b n S := by
  obtain ⟨D, h1, h2, h3⟩ := h
  exact ⟨D, h1.kept hg hne, h2, h3⟩
theorem SetM.lt {w : World} {b n : Nat} {S : List Int} (h : SetM w b n S) : b < w.heap.size := by
  obtain ⟨D, h1, _⟩ := h
  exact h1.lt
set_option maxRecDepth 20000 in
theorem SetM.look {w : World} {b n : Nat} {S : List Int} (h : SetM w b n S) (q : Int) (hq : (Lit.int .i64 q).wf = true) :
    (Instr.lookup 66 (.map (some b)) (.int .i64 q) false).run Tryd.prog w = .ok (.bool (decide (q ∈ S))) w := by
  obtain ⟨D, h1, h2, h3⟩ := h
  obtain ⟨v, ps, hrun, hv⟩ := h1.lookup (int_keyed Tryd.underlying3) Tryd.underlying66 (z := .bool false) (by kernel_rfl) (plainElem_bool Tryd.underlying4 false) (keyOf_int_mk Tryd.underlying3 hq)
  rw [h3 q] at hv
  have : v = .bool (decide (q ∈ S)) := by
    unfold plainElem at hv
    rw [Tryd.underlying4] at hv
    split at hv <;> simp_all
  rw [hrun, this]
theorem SetM.upd {w : World} {b n : Nat} {S : List Int} (h : SetM w b n S) (q : Int) (hq : (Lit.int .i64 q).wf = true) (hn : n < maxLen) :
    ∃ w', (Instr.mapUpdate 66 (.map (some b)) (.int .i64 q) (.bool true)).run Tryd.prog w = .ok () w' ∧ SetM w' b (n + 1) (S ++ [q]) ∧ w.grownBy w' (some b) := by
  obtain ⟨D, h1, h2, h3⟩ := h
  obtain ⟨w', hrun, ho, hg⟩ := h1.update (int_keyed Tryd.underlying3) Tryd.underlying66 hn (keyOf_int_mk Tryd.underlying3 hq) (plainElem_bool Tryd.underlying4 true)
  refine ⟨w', hrun, ⟨_, ho, h2.put _ _, fun p => ?_⟩, hg⟩
  by_cases hp : p = q
  · subst hp
    rw [atKey_put_same h2 (by trivial)]
    simp
  · rw [atKey_put_other (by intro e; injection e with _ e; exact hp e), h3 p]
    simp [hp]
theorem Blk.grown {w w' : World} {g b : Nat} {cs : Array Value} (x : Blk w g cs) (hg : w.grownBy w' (some b)) (hne : g ≠ b) : Blk w' g cs := by
  obtain ⟨t, ht⟩ := x
  exact ⟨t, (hg.block g (lt_of_blk ht) (by simpa using hne)).trans ht⟩

theorem impl_validGate_out (k a b c n : Int) (w : World) (hn : ¬ (1 ≤ n ∧ n ≤ 4)) : Calls Tryd.prog 36 #[.agg #[.int .i64 k, .int .i64 a, .int .i64 b, .int .i64 c], .int .i64 n] w fun e w' => e = .returned (.bool false) ∧ Ext w w' := by
  have hb : inB n 1 4 = false := by unfold inB; rw [Bool.and_eq_false_iff]; simp; omega
  go_enter Tryd.func36, Tryd.ntmps36
  go_wp2_with (go_at_call 50; refine (impl_in _ _ _ _).mono ?_; rintro e w' ⟨rfl, rfl⟩)
  go_ret
  exact ⟨rfl, (by repeat (first | exact Ext.refl _ | assumption | refine Ext.alloc ?_ _ | refine Ext.drew ?_ | refine Ext.drewN ?_ _ | refine Ext.trans ?_ (by assumption)))⟩
theorem impl_validGate_ar (k a b c n : Int) (w : World) (hn : 1 ≤ n ∧ n ≤ 4) (har : arity k = 0) : Calls Tryd.prog 36 #[.agg #[.int .i64 k, .int .i64 a, .int .i64 b, .int .i64 c], .int .i64 n] w fun e w' => e = .returned (.bool false) ∧ Ext w w' := by
  have hb : inB n 1 4 = true := by unfold inB; simp; omega
  have hb' : (!inB n 1 4) = false := by rw [hb]; rfl
  go_enter Tryd.func36, Tryd.ntmps36
  go_wp2_with (first | (go_at_call 50; refine (impl_in _ _ _ _).mono ?_; rintro e w' ⟨rfl, rfl⟩) | (go_at_call 34; refine (impl_arity _ _).mono ?_; rintro e w' ⟨rfl, rfl⟩))
  go_ret
  exact ⟨rfl, (by repeat (first | exact Ext.refl _ | assumption | refine Ext.alloc ?_ _ | refine Ext.drew ?_ | refine Ext.drewN ?_ _ | refine Ext.trans ?_ (by assumption)))⟩
set_option maxHeartbeats 1600000 in
theorem impl_validGate_in (k a b c n : Int) (w : World) (hn : 1 ≤ n ∧ n ≤ 4) (har : arity k ≠ 0) : Calls Tryd.prog 36 #[.agg #[.int .i64 k, .int .i64 a, .int .i64 b, .int .i64 c], .int .i64 n] w fun e w' => e = .returned (.bool (validG k a b c n)) ∧ Ext w w' := by
  have hb : inB n 1 4 = true := by unfold inB; simp; omega
  have hb' : (!inB n 1 4) = false := by rw [hb]; rfl
  have hbd := arity_bd k
  obtain ⟨ar, har2⟩ := Int.eq_ofNat_of_zero_le hbd.1
  have hcall := fun W => impl_arity k W
  rw [har2] at hcall hbd har
  have HC := Lib.hid hcall
  have HAR := Lib.hid har2
  have har3 : ar ≤ 3 := by omega
  have har0 : ((ar : Int) == 0) = false := by simpa using har
  clear hcall har2 hbd har
  have hmm := @run_makeMap Tryd.prog
  go_enter Tryd.func36, Tryd.ntmps36
  go_wp2_with (first | (go_at_call 50; refine (impl_in _ _ _ _).mono ?_; rintro e w' ⟨rfl, rfl⟩) | (go_at_call 34; refine (HC.out _).mono ?_; rintro e w' ⟨rfl, rfl⟩))
  have hb0 := Blk.new w 23 #[.int .i64 k, .int .i64 a, .int .i64 b, .int .i64 c]
  have hb1 := Blk.new (w.alloc (.cells #[.int .i64 k, .int .i64 a, .int .i64 b, .int .i64 c] 23)) 3 #[.int .i64 a, .int .i64 b, .int .i64 c]
  have hb2 := SetM.made ((w.alloc (.cells #[.int .i64 k, .int .i64 a, .int .i64 b, .int .i64 c] 23)).alloc (.cells #[.int .i64 a, .int .i64 b, .int .i64 c] 3))
  simp only [World.size_alloc] at hb1 hb2
  clear hmm hb hb'
  go_loopw [7, 8, 28] (fun _ _ i wr => ∃ j m : Nat, j ≤ 3 ∧ m ≤ 3 ∧ i = .int .i64 j ∧ Hid (∀ i, i < j → okQ ar [a, b, c] (n - 1) i) ∧ SetM wr (w.heap.size + 1 + 1) m ([a, b, c].take (min j ar)) ∧ m ≤ j ∧
      Blk wr w.heap.size #[.int .i64 k, .int .i64 a, .int .i64 b, .int .i64 c] ∧ Blk wr (w.heap.size + 1) #[.int .i64 a, .int .i64 b, .int .i64 c] ∧ Ext w wr) (fun _ _ i _ => 3 - (intOf i).toNat)
  case atStart =>
    exact ⟨0, 0, by omega, by omega, rfl, by show ∀ i, _; intro i hi; omega, by simpa using hb2, by omega, (hb0.ext ((Ext.refl _).alloc _)).ext ((Ext.refl _).alloc _), hb1.ext ((Ext.refl _).alloc _), (by repeat (first | exact Ext.refl _ | assumption | refine Ext.alloc ?_ _ | refine Ext.drew ?_ | refine Ext.drewN ?_ _ | refine Ext.trans ?_ (by assumption)))⟩
  case round =>
    clear hb0 hb1 hb2
    obtain ⟨j, m, hj, hm3, rfl, hok, hset, hmj, hb0, hb1, he⟩ := hrel
    by_cases hlt : j < 3
    · obtain ⟨xc, xf, xz⟩ := hb0.all
      obtain ⟨bc, bf, bz⟩ := hb1.all
      have c1 := three_at bc j hlt
      have c0 := xc 0
      simp only [List.getElem?_toArray, List.getElem?_cons_zero] at c0
      clear bc bf xc xf
      obtain ⟨y, hy⟩ : ∃ y, y = [a, b, c].getD j 0 := ⟨_, rfl⟩
      rw [← hy] at c1
      have HY := Lib.hid hy
      clear hy
      have d3 : (j : Int) < 3 := by omega
      by_cases hja : j < ar
      · have d1 : decide (ar ≤ j) = false := by simp; omega
        rw [Nat.min_eq_left (Nat.le_of_lt hja)] at hset
        by_cases hin : 0 ≤ y ∧ y ≤ n - 1
        · have hb2 : inB y 0 (n - 1) = true := by unfold inB; simp; omega
          have hb3 : (!inB y 0 (n - 1)) = false := by rw [hb2]; rfl
          have hwf : (Lit.int .i64 y).wf = true := WalkArith.wf_i64 (by omega)
          have hlook := hset.look y hwf
          obtain ⟨d, hdd⟩ : ∃ d, d = decide (y ∈ [a, b, c].take j) := ⟨_, rfl⟩
          rw [← hdd] at hlook
          have HD := Lib.hid hdd
          clear hdd
          cases d with
          | true =>
            clear hwf
            go_wp2_with (first | (go_at_call 50; refine (impl_in _ _ _ _).mono ?_; rintro e w' ⟨rfl, rfl⟩) | (go_at_call 34; refine (HC.out _).mono ?_; rintro e w' ⟨rfl, rfl⟩))
            go_ret
            exact ⟨ret_bool (valid_no (j := j) hlt (by rw [HAR.out]; unfold okQ; rw [if_pos (by simpa using hja), ← HY.out]; exact fun h => h.2 (of_decide_eq_true HD.out.symm))).symm, (by repeat (first | exact Ext.refl _ | assumption | refine Ext.alloc ?_ _ | refine Ext.drew ?_ | refine Ext.drewN ?_ _ | refine Ext.trans ?_ (by assumption)))⟩
          | false =>
            obtain ⟨w2, hupd, hset2, hg⟩ := hset.upd y hwf (by unfold maxLen; omega)
            have HS2 := Lib.hid hset2
            have HG := Lib.hid hg
            clear hset2 hg hwf
            go_wp2_with (first | (go_at_call 50; refine (impl_in _ _ _ _).mono ?_; rintro e w' ⟨rfl, rfl⟩) | (go_at_call 34; refine (HC.out _).mono ?_; rintro e w' ⟨rfl, rfl⟩))
            go_roundw
            case rel =>
              refine ⟨j + 1, m + 1, by omega, by omega, by go_num, ?_, ?_, by omega, hb0.grown HG.out (by omega), hb1.grown HG.out (by omega), he.grown HG.out (by intro k hk; injection hk with hk; omega)⟩
              · show ∀ i, _
                intro i hi
                rcases Nat.lt_or_ge i j with h | h
                · exact hok.out i h
                · obtain rfl : i = j := by omega
                  unfold okQ
                  rw [if_pos hja, ← HY.out]
                  exact ⟨hin, of_decide_eq_false HD.out.symm⟩
              · rw [Nat.min_eq_left hja, take_getD _ _ (by simpa using hlt), ← HY.out]
                exact HS2.out
            case measure => simp [intOf]; omega
        · have hb2 : inB y 0 (n - 1) = false := by unfold inB; rw [Bool.and_eq_false_iff]; simp; omega
          have HIN := Lib.hid hin
          clear hin
          go_wp2_with (first | (go_at_call 50; refine (impl_in _ _ _ _).mono ?_; rintro e w' ⟨rfl, rfl⟩) | (go_at_call 34; refine (HC.out _).mono ?_; rintro e w' ⟨rfl, rfl⟩))
          go_ret
          exact ⟨ret_bool (valid_no (j := j) hlt (by rw [HAR.out]; unfold okQ; rw [if_pos (by simpa using hja), ← HY.out]; exact fun h => HIN.out h.1)).symm, (by repeat (first | exact Ext.refl _ | assumption | refine Ext.alloc ?_ _ | refine Ext.drew ?_ | refine Ext.drewN ?_ _ | refine Ext.trans ?_ (by assumption)))⟩
      · have d1 : decide (ar ≤ j) = true := by simp; omega
        by_cases hy0 : y = 0
        · subst hy0
          go_wp2_with (first | (go_at_call 50; refine (impl_in _ _ _ _).mono ?_; rintro e w' ⟨rfl, rfl⟩) | (go_at_call 34; refine (HC.out _).mono ?_; rintro e w' ⟨rfl, rfl⟩))
          go_roundw
          case rel =>
            refine ⟨j + 1, m, by omega, by omega, by go_num, ?_, ?_, by omega, hb0, hb1, he⟩
            · show ∀ i, _
              intro i hi
              rcases Nat.lt_or_ge i j with h | h
              · exact hok.out i h
              · obtain rfl : i = j := by omega
                unfold okQ
                rw [if_neg hja]
                exact HY.out.symm
            · rw [Nat.min_eq_right (by omega)] at hset ⊢
              exact hset
          case measure => simp [intOf]; omega
        · have hy1 : (y != 0) = true := by simpa using hy0
          have HY0 := Lib.hid hy0
          clear hy0
          go_wp2_with (first | (go_at_call 50; refine (impl_in _ _ _ _).mono ?_; rintro e w' ⟨rfl, rfl⟩) | (go_at_call 34; refine (HC.out _).mono ?_; rintro e w' ⟨rfl, rfl⟩))
          go_ret
          exact ⟨ret_bool (valid_no (j := j) hlt (by rw [HAR.out]; unfold okQ; rw [if_neg (by simpa using hja), ← HY.out]; exact HY0.out)).symm, (by repeat (first | exact Ext.refl _ | assumption | refine Ext.alloc ?_ _ | refine Ext.drew ?_ | refine Ext.drewN ?_ _ | refine Ext.trans ?_ (by assumption)))⟩
    · have hj3 : j = 3 := by omega
      subst hj3
      go_wp2
      go_ret
      exact ⟨ret_bool (valid_yes hn (by have := HAR.out; simp at har0; omega) (fun i hi => by rw [HAR.out]; exact hok.out i hi)).symm, (by repeat (first | exact Ext.refl _ | assumption | refine Ext.alloc ?_ _ | refine Ext.drew ?_ | refine Ext.drewN ?_ _ | refine Ext.trans ?_ (by assumption)))⟩
theorem impl_validGate (k a b c n : Int) (w : World) : Calls Tryd.prog 36 #[.agg #[.int .i64 k, .int .i64 a, .int .i64 b, .int .i64 c], .int .i64 n] w fun e w' => e = .returned (.bool (validG k a b c n)) ∧ Ext w w' := by
  by_cases hn : 1 ≤ n ∧ n ≤ 4
  · by_cases har : arity k = 0
    · rw [valid_ar har]; exact impl_validGate_ar k a b c n w hn har
    · exact impl_validGate_in k a b c n w hn har
  · rw [valid_out hn]; exact impl_validGate_out k a b c n w hn
end Go.Proofs.YtkhgkaiadfebmaaDoor
