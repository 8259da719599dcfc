/-
  How a slice of bytes among a law's arguments opens; laws.big and laws.at0. No conditions.
-/
import Derived.Test.YtkhgkaiadfebmaaDoorOpen
import Derived.Test.YtkhgkaiadfebmaaDoorDraw
set_option linter.unusedSimpArgs false
set_option linter.unusedVariables false
namespace Go.Proofs.YtkhgkaiadfebmaaDoor
open Go.RowKit Go.ChangeShapes Go.WideShapes Go.Joins Go.Deep
section
variable {H : Type} {enc : TypeId × Value → H} {P : Program} {w : World} {base : Nat} {spare : Nat → Bool} {held : Bool}
theorem bys_flat (l : List Int) : bys l = l.flatMap (fun x : Int => [Value.int .u8 x]) := by unfold bys; induction l <;> simp_all
theorem wf_u8 {x : Int} (h : (Lit.int .u8 x).wf = true) : 0 ≤ x ∧ x < 256 := by
  have h0 : IntKind.u8.min = 0 := by decide
  have h1 : IntKind.u8.max = 255 := by decide
  simp [Lit.wf] at h
  omega
theorem open_byteS {t e : TypeId} {A : Option Addr} {n c : Nat} {d : DataW H} {p : List MemPlace} (ht : P.underlying t = some (.slice e)) (he : P.underlying e = some (.int .u8)) (hC : P.cellsOf e = 1)
    (h : DataW.Trod enc P w base spare held t (.slice A n c) d p) :
    ∃ l : List Int, Rd w A (bys l) ∧ l.length = n ∧ n ≤ maxLen ∧ ∀ x ∈ l, 0 ≤ x ∧ x < 256 := by
  obtain ⟨l, h1, h2, h3, h4⟩ := open_sliceOf (fun x : Int => [.int .u8 x]) 1 (fun x => (Lit.int .u8 x).wf = true) ht hC (by omega) (fun _ _ _ hx => by
    obtain ⟨n, e, _, wn⟩ := DataW.trod_int he hx
    exact ⟨n, e, wn⟩) h
  refine ⟨l, ?_, h2, h3, fun x hx => wf_u8 (h4 x hx).1⟩
  rw [bys_flat]; exact h1
end
theorem big_any (A : Option Addr) (n c : Nat) (w : World) : Calls Tryd.prog 15 #[.slice A n c] w fun e w' => e = .returned (.bool (decide (1048576 < n))) ∧ w = w' := by
  go_enter Tryd.func15, Tryd.ntmps15
  go_wp2
  go_ret
  exact ⟨ret_bool (by rw [Bool.eq_iff_iff]; simp; omega), rfl⟩
end Go.Proofs.YtkhgkaiadfebmaaDoor
