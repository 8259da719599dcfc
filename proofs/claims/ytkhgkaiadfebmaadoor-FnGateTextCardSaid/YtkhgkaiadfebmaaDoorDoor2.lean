/-
  The table gateNames, off what the row lists; and read again behind the call. No conditions.
-/
import Derived.Test.YtkhgkaiadfebmaaDoorName
import Derived.Test.YtkhgkaiadfebmaaDoorOpen
import Derived.Test.YtkhgkaiadfebmaaDoorTie
import Derived.LaidMore
import Derived.SliceStrings
import Derived.ChangeVars
import Derived.Stop.Joined
import Derived.Lib.LaidU8
set_option linter.unusedSimpArgs false
set_option linter.unusedVariables false
namespace Go.Proofs.YtkhgkaiadfebmaaDoor
open Go.ChangeShapes Go.WideShapes Go.ChangeAt Go.WideMaps Go.WideElems Go.RowKit
theorem gNm : Tryd.prog.globalNamed "loop.example/g00506/impl.gateNames" = some 0 := by kernel_rfl
theorem gNmType : (Tryd.prog.globals[0]?).map (·.type) = some 45 := by kernel_rfl
theorem cellsStr : Tryd.prog.cellsOf 9 = 1 := by kernel_rfl
theorem strs_inj {H : Type} : ∀ {l l' : List ByteArray}, (strs l : List (DataW H)) = strs l' → l = l'
  | [], [], _ => rfl
  | [], _ :: _, h => by cases h
  | _ :: _, [], h => by cases h
  | a :: l, b :: l', h => by
    have h1 : (DataW.lit (.string a.data.toList) : DataW H) :: strs l = DataW.lit (.string b.data.toList) :: strs l' := h
    injection h1 with h2 h3
    injection h2 with h2
    injection h2 with h2
    have hab : a = b := by
      apply ByteArray.ext
      exact Array.toList_inj.1 h2
    rw [hab, strs_inj h3]
theorem names_of_reads {W : World} (h : Lib.VarReads Tryd.prog W "loop.example/g00506/impl.gateNames" Rows.laid_loop_example_g00506_impl_gateNames) : Names W := by
  obtain ⟨g0, t0, cs0, f0, p0, hg0, ht0, hv0, hd0⟩ := h
  obtain rfl := Option.some.inj (gNm.symm.trans hg0)
  obtain rfl := Option.some.inj (gNmType.symm.trans ht0)
  rcases open_strings Tryd.underlying45 Tryd.underlying9 cellsStr hd0 with ⟨_, hx⟩ | ⟨a, len, cap, ss, hcs, _, hl, hm, hlen, hx, hcell, _⟩
  · simp [Rows.laid_loop_example_g00506_impl_gateNames] at hx
  simp only [Prod.mk.injEq] at hx
  have h1 : (DataW.slice (strs gateNm) [] : DataW Unit) = .slice (strs (ss.take len)) (strs (ss.drop len)) := hx.1
  injection h1 with h2 h3
  have h4 : gateNm = ss.take len := strs_inj h2
  have h5 : ([] : List ByteArray) = ss.drop len := strs_inj (H := Unit) (by rw [← h3]; rfl)
  have h6 : ss = gateNm := by
    have := List.take_append_drop len ss
    rw [← h4, ← h5, List.append_nil] at this
    exact this.symm
  have h7 : len = 13 := by
    have e1 := congrArg List.length h4
    have e2 := congrArg List.length h5
    have e3 : gateNm.length = 13 := rfl
    have e4 := congrArg List.length h6
    have e5 : len ≤ ss.length := by rw [hlen]; split <;> omega
    simp at e1 e2
    omega
  subst h6 h7
  have hcell0 : W.cell? ⟨0, 0, none⟩ = some (.slice (some a) 13 cap) := by
    have := World.var?_cell hg0 hv0 0
    rw [Array.eq_one_of_toList hcs] at this
    simpa using this
  refine ⟨some a, cap, hcell0, rd_of_cells fun j u hu => ?_⟩
  have hj : j < gateNm.length := by
    rcases Nat.lt_or_ge j gateNm.length with h | h
    · exact h
    · rw [List.getElem?_eq_none (by simpa [strN] using h)] at hu; cases hu
  rw [hcell j hj]
  rw [show (strN gateNm)[j]? = some (.string gateNm[j]) from by simp [strN, hj]] at hu
  injection hu with hu
  rw [← hu]
  simp [List.getD, hj]
theorem vars_back {H : Type} {enc : TypeId × Value → H} {W W' : World} {gs : List (DataW H)} {q : List MemPlace} (hV : DataW.TrodVars enc Tryd.prog W (fun _ => true) ["loop.example/g00506/impl.gateNames"] gs q) (bel : Below W.heap.size W W') :
    ∃ d pv, gs = [d] ∧ DataW.TrodVars enc Tryd.prog W' (fun b => decide (b < W.heap.size)) ["loop.example/g00506/impl.gateNames"] [d] pv := by
  obtain ⟨g, t, cs, fuel, d, p', rfl, hg, ht, hvar, hd, rfl⟩ := trodVars_one hV
  obtain rfl := Option.some.inj (gNm.symm.trans hg)
  obtain rfl := Option.some.inj (gNmType.symm.trans ht)
  obtain ⟨v, hcs, hvc⟩ : ∃ v : Value, cs = #[v] ∧ v.cells = #[v] := by
    rcases open_strings Tryd.underlying45 Tryd.underlying9 cellsStr hd with ⟨h, _⟩ | ⟨a, len, cap, ss, h, _⟩
    · exact ⟨_, Array.eq_one_of_toList h, rfl⟩
    · exact ⟨_, Array.eq_one_of_toList h, rfl⟩
  subst hcs
  have k : DataW.Trod enc Tryd.prog W 0 (fun _ => true) true 45 v d p' := ⟨fuel, by rw [hvc]; exact hd⟩
  have hlt : ∀ x ∈ p', x.block < W.heap.size := DataW.trod_lt fuel _ _ _ hd
  obtain ⟨fuel', k'⟩ := Below.trod laidOut (by kernel_rfl) (of_decide_eq_true (by kernel_rfl)) k bel hlt
  rw [hvc] at k'
  have hc0 : W.cell? ⟨0, 0, none⟩ = some v := by simpa using World.var?_cell hg hvar 0
  have hvar' : W'.var? Tryd.prog "loop.example/g00506/impl.gateNames" = some #[v] := by
    rw [← hvar]
    simp only [World.var?, hg, Option.bind_some]
    rw [bel.block _ (lt_of_cell hc0)]
  exact ⟨d, _, rfl, trodVars_mk1 hg ht hvar' k'⟩
end Go.Proofs.YtkhgkaiadfebmaaDoor
