/-
  Appending a gate to the gates of a circuit of the call's own; rows of strings that lie in one block; the readers' contracts in this form. Conditions: the library's variables read as their initialisers lay them.
-/
import Derived.Test.YtkhgkaiadfebmaaDoorPc
import Derived.Test.YtkhgkaiadfebmaaDoorPgX
import Derived.Test.YtkhgkaiadfebmaaDoorCat3
set_option linter.unusedSimpArgs false
set_option linter.unusedVariables false
namespace Go.Proofs.YtkhgkaiadfebmaaDoor
open Go.RowKit
theorem info_gate2 : (Tryd.prog.info? 23).map (fun i => (i.zero, i.size, i.bytes)) = some (some (.agg #[.int .i64 0, .int .i64 0, .int .i64 0, .int .i64 0]), 4, 32) := by kernel_rfl
theorem quB_list : quB.toList = [113, 117, 98, 105, 116, 115] := by rw [ByteArray.toList_eq]; rfl
theorem own_set1 {w : World} {base : Nat} {e : TypeId} {size n : Nat} {v : Value} {xs : List Value} {g : Nat} {cs : Array Value} {t : TypeId} (h : w.ownsRow base e size v n xs) (hg : w.heap[g]? = some (.cells cs t (0, 0))) (hne : t ≠ e) (i : Nat) (u : Value) :
    (w.setCell ⟨g, i, none⟩ u).ownsRow base e size v n xs := own_set3 h (own_other h hg hne)
theorem heap_set1' {w : World} {g : Nat} {t : TypeId} {a b y : Value} (h : w.heap[g]? = some (.cells #[a, b] t (0, 0))) : (w.setCell ⟨g, 1, none⟩ y).heap[g]? = some (.cells #[a, y] t (0, 0)) := by
  simp [World.setCell, Array.getElem?_modify, h]
theorem heap_set0' {w : World} {g : Nat} {t : TypeId} {a b y : Value} (h : w.heap[g]? = some (.cells #[a, b] t (0, 0))) : (w.setCell ⟨g, 0, none⟩ y).heap[g]? = some (.cells #[y, b] t (0, 0)) := by
  simp [World.setCell, Array.getElem?_modify, h]
def RetC (w : World) (N2 : Int) (r : Nat) (R : List Int) (ok : Bool) (e : Ending) (w' : World) : Prop :=
  ∃ G cG, e = .returned (.tuple #[.agg #[.int .i64 N2, .slice G r cG], .bool ok]) ∧ Fr w' w.heap.size w'.heap.size G (ints R) ∧ Ext w w'
theorem RetC.mk {w w' : World} {N2 : Int} {r : Nat} {R : List Int} {ok : Bool} (G : Option Addr) (cG : Nat) (h1 : Fr w' w.heap.size w'.heap.size G (ints R)) (h2 : Ext w w') : RetC w N2 r R ok (.returned (.tuple #[.agg #[.int .i64 N2, .slice G r cG], .bool ok])) w' :=
  ⟨G, cG, rfl, h1, h2⟩
theorem RetC.zero {w w' : World} {N : Int} {n : Nat} {L : List Int} {ok : Bool} (h : N = 0 ∧ L = [] ∧ n = 0 ∧ ok = false) (h2 : Ext w w') : RetC w N n L ok (.returned (.tuple #[.agg #[.int .i64 0, .slice none 0 0], .bool false])) w' := by
  obtain ⟨rfl, rfl, rfl, rfl⟩ := h
  exact RetC.mk none 0 (Fr.nil _ _ _ _) h2
theorem RetC.hit {w w' : World} {N v : Int} {n q : Nat} {L R : List Int} {ok : Bool} (h : N = v ∧ L = R ∧ n = q ∧ ok = true) {G : Option Addr} {cG : Nat} (h1 : Fr w' w.heap.size w'.heap.size G (ints R)) (h2 : Ext w w') : RetC w N n L ok (.returned (.tuple #[.agg #[.int .i64 v, .slice G q cG], .bool true])) w' := by
  obtain ⟨rfl, rfl, rfl, rfl⟩ := h
  exact RetC.mk G cG h1 h2
/-- Appending one gate, made just now, to a row of gates of the call's own. -/
theorem app_gateL {base : Nat} {v : Value} {j : Nat} {xs : List Value} (w3 : World) (q0 q1 q2 q3 : Int) (own : w3.ownsRow base 23 4 v j xs) (hbase : base ≤ w3.heap.size)
    {ops : Array Oper} {rest : List Oper} {o : Oper} {a : Act} {Q : Exit → Act → World → Prop} {i0 : TypeInfo} {s x : Operand}
    (hi : Tryd.prog.info? 23 = some i0) (hz0 : i0.zero = some (.agg #[.int .i64 0, .int .i64 0, .int .i64 0, .int .i64 0])) (hz1 : i0.size = 4) (hz2 : i0.bytes = 32)
    (hgd : o.guard = none) (ho : o.op = .call { callee := .builtin .append, args := #[s, x], argTypes := #[28, 28] }) (hs : a.eval s = v) {z : Nat} (hz : w3.heap.size = z) (hx : a.eval x = .slice (some ⟨z, 0, none⟩) 1 1)
    (h63 : j + 1 ≤ maxLen) (hb : (j + 1) * 32 ≤ 140737488355328)
    (h0 : ∀ G cG w4, w4.ownsRow base 23 4 (.slice G (j + 1) cG) (j + 1) (xs ++ ints [q0, q1, q2, q3]) → (∀ a0, Ext a0 w3 → a0.heap.size ≤ base → Ext a0 w4) → (∀ (g : Nat) (cs : Array Value) (t : TypeId), w3.heap[g]? = some (.cells cs t (0, 0)) → t ≠ 23 → w4.heap[g]? = some (.cells cs t (0, 0))) → wpList Tryd.prog ops Q rest (a.put o.dst (.slice G (j + 1) cG)) w4) :
    wpList Tryd.prog ops Q (o :: rest) a (w3.alloc (.cells #[.int .i64 q0, .int .i64 q1, .int .i64 q2, .int .i64 q3] 23)) := by
  have rd2 : Rd (w3.alloc (.cells #[.int .i64 q0, .int .i64 q1, .int .i64 q2, .int .i64 q3] 23)) (some ⟨w3.heap.size, 0, none⟩) (ints [q0, q1, q2, q3]) :=
    (Fr.of_blk (lo := 0) (hi := w3.heap.size + 1) (off := 0) (Blk.new w3 23 #[.int .i64 q0, .int .i64 q1, .int .i64 q2, .int .i64 q3]) (Nat.zero_le _) (Nat.lt_succ_self _) (fun j u hu => by rw [Nat.zero_add]; simpa [ints] using hu)).rd
  subst hz
  have own' := own.alloc (.cells #[.int .i64 q0, .int .i64 q1, .int .i64 q2, .int .i64 q3] 23)
  refine wpList_append_rd hgd s x 28 ho base 23 i0 (.agg #[.int .i64 0, .int .i64 0, .int .i64 0, .int .i64 0]) 4 32 Tryd.underlying28 hi hz0 hz1 hz2 rfl (by decide) v j xs hs own' (some ⟨w3.heap.size, 0, none⟩) 1 1 (ints [q0, q1, q2, q3]) hx rfl rd2 (fun h => by cases h) (ints_one _) h63 hb (by simp; omega) ?_
  intro v' w4 own4 hg
  obtain ⟨G, cG, rfl⟩ := own_form own4
  refine h0 G cG w4 own4 (fun a0 ha hb => own_ext (ha.alloc _) own' hb hg) (fun g cs t ht hne => ?_)
  have ht' := Ext.blk ((Ext.refl w3).alloc (.cells #[.int .i64 q0, .int .i64 q1, .int .i64 q2, .int .i64 q3] 23)) ht
  exact (hg.block g (lt_of_blk ht') (fun e => own_other own' ht' hne e.symm)).trans ht'
/-- A row of m strings lies in block g. -/
def LB (w : World) (g m : Nat) (T : Nat → ByteArray) : Prop := ∃ cs, w.heap[g]? = some (.cells cs 9 (0, 0)) ∧ ∀ j, j < m → cs[j]? = some (.string (T j))
theorem LB.cell {w : World} {g m : Nat} {T : Nat → ByteArray} (h : LB w g m T) {j : Nat} (hj : j < m) : w.cell? ⟨g, j, none⟩ = some (.string (T j)) := by
  obtain ⟨cs, h1, h2⟩ := h
  exact ((Blk.all ⟨_, h1⟩).1 j).trans (h2 j hj)
theorem LB.ext {a b : World} {g m : Nat} {T : Nat → ByteArray} (h : LB a g m T) (he : Ext a b) : LB b g m T := by
  obtain ⟨cs, h1, h2⟩ := h
  exact ⟨cs, he.blk h1, h2⟩
theorem LB.keep {a b : World} {g m : Nat} {T : Nat → ByteArray} (h : LB a g m T) (hk : ∀ (g : Nat) (cs : Array Value) (t : TypeId), a.heap[g]? = some (.cells cs t (0, 0)) → t ≠ 23 → b.heap[g]? = some (.cells cs t (0, 0))) : LB b g m T := by
  obtain ⟨cs, h1, h2⟩ := h
  exact ⟨cs, hk _ _ _ h1 (by decide), h2⟩
theorem LB.set {w : World} {g m C : Nat} {T : Nat → ByteArray} {cs : Array Value} (h : LB w g m T) (hC : w.heap[C]? = some (.cells cs 30 (0, 0))) (i : Nat) (u : Value) : LB (w.setCell ⟨C, i, none⟩ u) g m T := by
  obtain ⟨c2, h1, h2⟩ := h
  refine ⟨c2, (Below.heap_setCell _ _ _ _ ?_).trans h1, h2⟩
  intro e
  simp only at e
  subst e
  rw [hC] at h1
  injection h1 with h1
  injection h1 with _ h1
  revert h1; decide
theorem LB.of_own {w : World} {base : Nat} {A : Option Addr} {n c : Nat} {ps : List ByteArray} {T : Nat → ByteArray} (h : w.ownsRow base 9 1 (.slice A n c) n (strN ps)) (hn : ps.length = n) (h1 : 1 ≤ n) (hT : ∀ j, ps.getD j ⟨#[]⟩ = T j) : ∃ g, A = some ⟨g, 0, none⟩ ∧ LB w g n T := by
  obtain ⟨hl, ⟨_, h0⟩ | ⟨g, cap, cur, hv, hb, hh, _, _, _, hx⟩⟩ := h
  · subst h0; rw [← hn] at h1; exfalso; revert h1 hl; simp [strN]; omega
  · injection hv with hA
    refine ⟨g, hA, cur, hh, fun j hj => ?_⟩
    have hu := strs_at (L := ps) (j := j) (by omega)
    rw [hT] at hu
    rw [← hx] at hu
    rw [← Array.getElem?_toList]
    rw [List.getElem?_take] at hu
    split at hu
    · exact hu
    · cases hu
theorem impl_splitL (b : UInt8) (x : Int) (hb : (b.toNat : Int) = x) (s : ByteArray) (m : Nat) (T : Nat → ByteArray) (hl : (pieces b s).length = m) (hT : ∀ j, (pieces b s).getD j ⟨#[]⟩ = T j) (w : World) (hs : s.size ≤ 1073741824) (hO : LibOk w) :
    Calls Tryd.prog 33 #[.string s, .int .u8 x] w fun e w' => ∃ g, e = .returned (.slice (some ⟨g, 0, none⟩) m m) ∧ LB w' g m T ∧ Ext w w' := by
  have hcell : ∀ j, j < 1 → (w.alloc (.cells #[.int .u8 x] 5)).cell? ⟨w.heap.size, 0 + j, none⟩ = some (.int .u8 ([x].getD j 0)) := by
    intro j hj
    obtain rfl : j = 0 := by omega
    exact cell_of_row _ _ _ _ _ _ (heap_alloc_new w _)
  have hconv := run_convert_bytes_arg (P := Tryd.prog) (w.alloc (.cells #[.int .u8 x] 5)) 35 5 Tryd.underlying35 Tryd.underlying5 w.heap.size 0 1 1 [x] rfl hcell 9 Tryd.underlying9
  have hsn : strOfNums [x] = ⟨#[b]⟩ := by subst hb; simp [strOfNums]
  rw [hsn] at hconv
  obtain ⟨mx, hm⟩ := (hO.ext ((Ext.refl w).alloc (.cells #[.int .u8 x] 5))).mxl
  have HM := Lib.hid hm
  have HP := Lib.hid (pieces_length b s)
  have HB := Lib.hid (splitB_eq b s)
  have HT := Lib.hid hT
  have HL := Lib.hid hl
  clear hT hl
  generalize pieces b s = ps at *
  clear hcell hsn hm
  go_enter Tryd.func33, Tryd.ntmps33
  go_wp2_with fail
  refine (Tryd.strings_Split s ⟨#[b]⟩ mx _ (by omega) HM.out (Nat.le_refl 1)).mono ?_
  rintro e w1 ⟨rfl, rfl⟩
  rw [← HP.out, HB.out, HL.out]
  go_wp2
  go_ret
  refine ⟨_, rfl, ⟨(ps.map Value.string).toArray, ?_, fun j hj => ?_⟩, (by repeat (first | exact Ext.refl _ | assumption | refine Ext.alloc ?_ _ | refine Ext.drew ?_ | refine Ext.drewN ?_ _ | refine Ext.trans ?_ (by assumption)))⟩
  · have := heap_alloc_new (w.alloc (.cells #[.int .u8 x] 5)) (.cells (ps.map Value.string).toArray 9)
    simpa only [World.size_alloc] using this
  · have hu := strs_at (L := ps) (j := j) (by have := HL.out; omega)
    rw [HT.out] at hu
    simpa [strN] using hu
theorem spec_splitL (b : UInt8) (x : Int) (hb : (b.toNat : Int) = x) (s : ByteArray) (m : Nat) (T : Nat → ByteArray) (hl : (pieces b s).length = m) (h1 : 1 ≤ m) (hT : ∀ j, (pieces b s).getD j ⟨#[]⟩ = T j) (w : World) (hs : s.size ≤ 1073741824) :
    Calls Tryd.prog 29 #[.string s, .int .u8 x] w fun e w' => ∃ g c, e = .returned (.slice (some ⟨g, 0, none⟩) m c) ∧ LB w' g m T ∧ Ext w w' := by
  refine (spec_split b x hb s w hs).mono ?_
  rintro e w' ⟨A, c, rfl, own, he⟩
  rw [hl] at own
  obtain ⟨g, rfl, h⟩ := LB.of_own own hl h1 hT
  rw [hl]
  exact ⟨g, c, rfl, h, he⟩
end Go.Proofs.YtkhgkaiadfebmaaDoor
