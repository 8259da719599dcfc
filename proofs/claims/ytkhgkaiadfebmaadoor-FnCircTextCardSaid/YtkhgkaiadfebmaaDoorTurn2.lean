/-
  Contracts of DrawFormatCircuit and DrawParseCircuit. Conditions: the code is at most 2^20 bytes; the variable gateNames reads as the thirteen names.
-/
import Derived.Test.YtkhgkaiadfebmaaDoorDraw6
import Derived.Test.YtkhgkaiadfebmaaDoorTurn
set_option linter.unusedSimpArgs false
set_option linter.unusedVariables false
namespace Go.Proofs.YtkhgkaiadfebmaaDoor
open Go.RowKit
set_option maxHeartbeats 800000 in
theorem drawFmtCirc_ok (A : Option Addr) (n c : Nat) (l : List Int) (w : World) (hA : Rd w A (bys l)) (hl : l.length = n) (hn : n ≤ 1048576) :
    Calls Tryd.prog 22 #[.slice A n c] w fun e w' => ∃ (M : Int) (G : Option Addr) (q cG : Nat) (L : List Int), e = .returned (.agg #[.int .i64 M, .slice G q cG]) ∧ q ≤ 80 ∧ L.length = q * 4 ∧ Fr w' w.heap.size w'.heap.size G (ints L) ∧ Ext w w' := by
  have hAw := rd_below3 hA
  have hb0 := Blk.new w 30 #[.int .i64 0, .slice none 0 0]
  go_enter Tryd.func22, Tryd.ntmps22
  go_wp2_with fail
  refine (l1New_any A n c l _ (hA.ext (by repeat (first | exact Ext.refl _ | assumption | refine Ext.alloc ?_ _ | refine Ext.drew ?_ | refine Ext.drewN ?_ _ | refine Ext.trans ?_ (by assumption)))) hl hn).mono ?_
  rintro e w1 ⟨g, rfl, hg, hcur, h1⟩
  simp only [World.size_alloc] at hg
  have h01 : Ext w w1 := (by repeat (first | exact Ext.refl _ | assumption | refine Ext.alloc ?_ _ | refine Ext.drew ?_ | refine Ext.drewN ?_ _ | refine Ext.trans ?_ (by assumption)))
  have ok : CurOk w1 g A n c l := ⟨hA.ext h01, hl, hn, hcur, fun hne a ha => Nat.lt_of_lt_of_le (hAw a ha hne) (by omega)⟩
  replace hb0 := hb0.ext h1
  have z1 := h1.size
  simp only [World.size_alloc] at z1
  clear hcur hAw hA hl h1
  go_wp2_with fail
  refine (l11Bent_ok g A n c l 8 _ ok (by omega)).mono ?_
  rintro e w2 ⟨M, G, q, cG, L, _, rfl, hq, _, own, ok2, ch2⟩
  have h02 := h01.chg ch2 (by omega)
  replace hb0 := hb0.chg ch2 (.inl (by omega))
  have hLl : L.length = q * 4 := by have := own.1; rwa [ints_length] at this
  have hf := Fr.of_own own
  have z2 := ch2.size
  obtain ⟨bc, bf, bz⟩ := hb0.all
  clear ch2 ok ok2 own
  go_wp2
  refine bodyPost_ret (v := .agg #[.int .i64 M, .slice G q cG]) (by simp [results, Tryd.results22, go_sem, bc, bz]; done) rfl ⟨M, G, q, cG, L, rfl, hq, hLl, ?_, (by repeat (first | (with_reducible assumption) | (with_reducible exact Ext.refl _) | ((with_reducible refine Ext.setCell ?_ ?_ _); rotate_left; (first | exact Nat.le_refl _ | exact Nat.le_succ _ | (simp; done) | (simp; omega))) | (with_reducible refine Ext.alloc ?_ _) | (with_reducible refine Ext.drew ?_) | (with_reducible refine Ext.drewN ?_ _)))⟩
  rw [size_set2]
  exact (hf.set2 (C := w.heap.size) (by omega) _ _).mono (by omega) (Nat.le_refl _)
set_option maxHeartbeats 800000 in
theorem drawParseCirc_ok (A : Option Addr) (n c : Nat) (l : List Int) (w : World) (hA : Rd w A (bys l)) (hl : l.length = n) (hn : n ≤ 1048576) (hN : Names w) :
    Calls Tryd.prog 24 #[.slice A n c] w fun e w' => ∃ t : ByteArray, e = .returned (.string t) ∧ t.size ≤ 10000 ∧ Ext w w' := by
  have hAw := rd_below3 hA
  go_enter Tryd.func24, Tryd.ntmps24
  go_wp2_with fail
  refine (l1New_any A n c l _ hA hl hn).mono ?_
  rintro e w1 ⟨g, rfl, hg, hcur, h01⟩
  have ok : CurOk w1 g A n c l := ⟨hA.ext h01, hl, hn, hcur, fun hne a ha => Nat.lt_of_lt_of_le (hAw a ha hne) (by omega)⟩
  clear hcur hAw hA hl
  go_wp2_with fail
  refine (l11Bent_ok g A n c l 8 _ ok (by omega)).mono ?_
  rintro e w3 ⟨M, G, q, cG, L, _, rfl, hq, _, own, ok3, ch3⟩
  have ch03 := h01.chg ch3 (by omega)
  have hLl : L.length = q * 4 := by have := own.1; rwa [ints_length] at this
  have rG := (Fr.of_own own).rd
  clear ch3 ok own
  have hfz := fmtC_size M L q
  have HF := Lib.hid (fun W (h : Rd W G (ints L)) (hn : Names W) => spec_fmtCirc M G q cG L W h hLl (by omega) hn)
  generalize fmtC M L q = f at *
  go_wp2_with fail
  refine (HF.out _ rG (hN.ext ch03)).mono ?_
  rintro e w4 ⟨rfl, h4⟩
  have h04 := ch03.trans h4
  replace ok3 := ok3.ext h4
  have hg4 := ok3.lt
  clear h4 ch03
  go_wp2_with fail
  refine (l1Turned_ok g A n c l f (by omega) _ 5 5 w4.heap.size (w4.heap.size + 1) [⟨#[32]⟩, ⟨#[10]⟩, ⟨#[48]⟩, ⟨#[120, 32, 48]⟩, ⟨#[10, 104, 32, 48]⟩] _ (ok3.ext ((Ext.refl w4).alloc _)) (Fr.of_blk (Blk.new w4 _ _) (Nat.le_refl _) (Nat.lt_succ_self _) ?hx) (by omega) rfl (by omega) (by omega) ?h16).mono ?_
  case hx =>
    intro j u hu
    (rcases j with _ | _ | _ | _ | _ | j) <;> simp_all [strN]
  case h16 =>
    intro v hv
    simp only [List.mem_cons, List.not_mem_nil, or_false] at hv
    rcases hv with rfl | rfl | rfl | rfl | rfl <;> decide
  rintro e w5 ⟨t, rfl, ht, ok5, ch5⟩
  have h05 := (h04.alloc (.cells #[.string ⟨#[32]⟩, .string ⟨#[10]⟩, .string ⟨#[48]⟩, .string ⟨#[120, 32, 48]⟩, .string ⟨#[10, 104, 32, 48]⟩] 9)).chg ch5 (by omega)
  go_wp2
  go_ret
  exact ⟨t, rfl, by omega, h05⟩
end Go.Proofs.YtkhgkaiadfebmaaDoor
