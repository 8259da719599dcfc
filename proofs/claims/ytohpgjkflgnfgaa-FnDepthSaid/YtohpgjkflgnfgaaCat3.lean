/-
  The contract of the reference's ConcatCircuits. Conditions: the slices read as rows.
-/
import Derived.Test.YtohpgjkflgnfgaaCat2
set_option linter.unusedSimpArgs false
set_option linter.unusedVariables false
namespace Go.Proofs.Ytohpgjkflgnfgaa
open Go.RowKit
theorem Fr.set2 {w : World} {lo hi C : Nat} {G : Option Addr} {xs : List Value} (f : Fr w lo hi G xs) (hC : C + 1 ≤ lo) (x y : Value) : Fr ((w.setCell ⟨C, 0, none⟩ x).setCell ⟨C, 1, none⟩ y) lo hi G xs :=
  f.chg (((Chg.refl w C (C + 1)).setCell (p := ⟨C, 0, none⟩) (Nat.le_refl _) (Nat.lt_succ_self _) x).setCell (p := ⟨C, 1, none⟩) (Nat.le_refl _) (Nat.lt_succ_self _) y) (.inr hC)
theorem size_set2 (w : World) (C : Nat) (x y : Value) : ((w.setCell ⟨C, 0, none⟩ x).setCell ⟨C, 1, none⟩ y).heap.size = w.heap.size := by simp [World.setCell]
theorem size_new {w v : World} {o : Obj} (h : Ext (w.alloc o) v) : w.heap.size + 1 ≤ v.heap.size := by have := h.size; rwa [World.size_alloc] at this
theorem own_other {w : World} {base : Nat} {e : TypeId} {size n : Nat} {v : Value} {xs : List Value} {g : Nat} {cs : Array Value} {t : TypeId} (h : w.ownsRow base e size v n xs) (hg : w.heap[g]? = some (.cells cs t (0, 0))) (hne : t ≠ e) : v.ownBlock ≠ some g := by
  obtain ⟨hl, ⟨rfl, h0⟩ | ⟨g', cap, cur, rfl, hb, hh, _⟩⟩ := h
  · simp [Value.ownBlock]
  · intro e
    simp [Value.ownBlock] at e
    subst e
    rw [hg] at hh
    injection hh with hh
    injection hh with _ hh
    exact hne hh
theorem step_append_rd0 {P : Program} {w : World} {ops : Array Oper} {o : Oper} {a : Act} {K : Act → World → Prop} {Q : Exit → Act → World → Prop} {E : Prop} (hgd : o.guard = none) (s x : Operand) (t : TypeId)
    (ho : o.op = .call { callee := .builtin .append, args := #[s, x], argTypes := #[t, t] })
    (base : Nat) (e : TypeId) (i : TypeInfo) (z : Value) (size bytes : Nat) (ht : P.underlying t = some (.slice e)) (hi : P.info? e = some i) (hz : i.zero = some z)
    (hsize : i.size = size) (hby : i.bytes = bytes) (hzs : z.cells.size = size) (hsz : 0 < size)
    (v : Value) (hs : a.eval s = v) (hown : w.ownsRow base e size v 0 [])
    (A : Option Addr) (m c : Nat) (news : List Value) (hx : a.eval x = .slice A m c) (hl : news.length = m * size) (rd : Rd w A news) (hsrc : A = none → m = 0 ∧ c = 0) (h1 : ∀ u ∈ news, u.oneCell' = true)
    (h63 : m ≤ maxLen) (hbytes : m * bytes ≤ 140737488355328) (hbase : base ≤ w.heap.size)
    (h0 : ∀ G cG w', w'.ownsRow base e size (.slice G m cG) m news → (∀ a0, Ext a0 w → a0.heap.size ≤ base → Ext a0 w') → (∀ g o, w.heap[g]? = some o → v.ownBlock ≠ some g → w'.heap[g]? = some o) → K (a.put o.dst (.slice G m cG)) w') :
    if Region.wanted o (yielded ops a.tmps) = true then Oper.wp P o a w K Q else E := by
  refine step_append_rd hgd s x t ho base e i z size bytes ht hi hz hsize hby hzs hsz v 0 [] hs hown A m c news hx hl rd hsrc h1 (by omega) (by simpa using hbytes) hbase ?_
  intro G cG w' h2 h3 h4
  simp only [Nat.zero_add, List.nil_append] at h2 ⊢
  exact h0 G cG w' h2 h3 h4
set_option maxRecDepth 20000 in
set_option maxHeartbeats 6400000 in
theorem spec_concat' (N N' : Int) (A B : Option Addr) (n m ca cb : Nat) (L L' : List Int) (w : World) (hA : Rd w A (ints L)) (hB : Rd w B (ints L')) (hl : L.length = n * 4) (hl' : L'.length = m * 4) (hn : n ≤ 1048576) (hm : m ≤ 1048576) (hsA : A = none → n = 0 ∧ ca = 0) (hsB : B = none → m = 0 ∧ cb = 0) (ok : Bool) (N2 : Int) (R : List Int) (r : Nat) (hR : (catOk N N' L L' n m ∧ ok = true ∧ N2 = N ∧ R = L ++ L' ∧ r = n + m) ∨ (¬ catOk N N' L L' n m ∧ ok = false ∧ N2 = 0 ∧ R = [] ∧ r = 0)) :
    Calls Try.prog 25 #[.agg #[.int .i64 N, .slice A n ca], .agg #[.int .i64 N', .slice B m cb]] w fun e w' => ∃ G cG, e = .returned (.tuple #[.agg #[.int .i64 N2, .slice G r cG], .bool ok]) ∧ Fr w' w.heap.size w'.heap.size G (ints R) ∧ Ext w w' := by
  have HR := Lib.hid hR
  clear hR
  have HL := Lib.hid hl
  have HL' := Lib.hid hl'
  have HSA := Lib.hid hsA
  have HSB := Lib.hid hsB
  clear hl hl' hsA hsB
  obtain ⟨i0, hi, hz0, hz1, hz2⟩ := info_parts info_gate
  go_enter Try.func25, Try.ntmps25
  go_upto_region 1 with fail
  obtain ⟨W0, hW⟩ : ∃ W0, W0 = ((w.alloc (.cells #[.int .i64 N, .slice A n ca] 29)).alloc (.cells #[.int .i64 N', .slice B m cb] 29)).alloc (.cells #[.int .i64 0, .slice none 0 0] 29) := ⟨_, rfl⟩
  rw [← hW]
  have x : Blk W0 w.heap.size #[.int .i64 N, .slice A n ca] := by rw [hW]; exact Blk.ext (Blk.new w 29 _) (by repeat (first | exact Ext.refl _ | assumption | refine Ext.alloc ?_ _ | refine Ext.drew ?_ | refine Ext.drewN ?_ _ | refine Ext.trans ?_ (by assumption)))
  have y : Blk W0 (w.heap.size + 1) #[.int .i64 N', .slice B m cb] := by
    have := Blk.new (w.alloc (.cells #[.int .i64 N, .slice A n ca] 29)) 29 #[.int .i64 N', .slice B m cb]
    rw [hW]; exact Blk.ext (by simpa using this) (by repeat (first | exact Ext.refl _ | assumption | refine Ext.alloc ?_ _ | refine Ext.drew ?_ | refine Ext.drewN ?_ _ | refine Ext.trans ?_ (by assumption)))
  have hw0 : Ext w W0 := by rw [hW]; exact (by repeat (first | exact Ext.refl _ | assumption | refine Ext.alloc ?_ _ | refine Ext.drew ?_ | refine Ext.drewN ?_ _ | refine Ext.trans ?_ (by assumption)))
  have rr : Blk W0 (w.heap.size + 1 + 1) #[.int .i64 0, .slice none 0 0] := by
    have := Blk.new ((w.alloc (.cells #[.int .i64 N, .slice A n ca] 29)).alloc (.cells #[.int .i64 N', .slice B m cb] 29)) 29 #[.int .i64 0, .slice none 0 0]
    rw [hW]; simpa using this
  have HS0 : Hid (W0.heap.size = w.heap.size + 1 + 1 + 1) := by show _ = _; rw [hW]; simp
  clear hW
  have rA := hA.ext hw0
  have rB := hB.ext hw0
  have x0 := x.all.1 0
  have x1 := x.all.1 1
  have y1 := y.all.1 1
  simp only [List.getElem?_toArray, List.getElem?_cons_zero, List.getElem?_cons_succ] at x0 x1 y1
  go_cut [6] (fun s6 wx => ∃ b G cG, s6 = .pointer (some ⟨b, 0, none⟩) ∧ Blk wx b #[.int .i64 N, .slice G (n + m) cG] ∧ Fr wx W0.heap.size wx.heap.size G (ints (L ++ L')) ∧ Ext W0 wx)
  case first =>
    go_region_held3 (fun w' => w'.cell? ⟨w.heap.size, 0, none⟩ = some (.int .i64 N) ∧ w'.cell? ⟨w.heap.size, 1, none⟩ = some (.slice A n ca) ∧ w'.cell? ⟨w.heap.size + 1, 1, none⟩ = some (.slice B m cb) ∧ Ext W0 w')
      (first | exact ⟨x0, x1, y1, (Ext.refl W0).drew⟩ | (go_split_ands; exact (fun h => ⟨Ext.cell h x0, Ext.cell h x1, Ext.cell h y1, h⟩ : Ext W0 _ → _) (by first | assumption | exact Ext.alloc (by assumption) _ | (refine Ext.setCell (Ext.setCell (by assumption) ?_ _) ?_ _ <;> first | exact h1.size | exact Nat.le_refl _ | exact Nat.le_succ _) | exact Ext.trans (by assumption) h1)))
      (first | (go_split_ands; refine step_append_rd (by rfl) _ _ 27 (by rfl) W0.heap.size 55 i0 (.agg #[.int .i64 0, .int .i64 0, .int .i64 0, .int .i64 0]) 4 32 Try.underlying27 hi hz0 hz1 hz2 (by rfl) (by decide) (.slice G1 n c1) n (ints L) (by rfl) (by first | exact own.out | exact own.out.alloc _) B m cb (ints L') (by rfl) (by rw [ints_length]; exact HL'.out) (rB.ext (by assumption)) HSB.out (ints_one L') (by unfold maxLen; omega) (by omega) (Ext.size (by assumption)) ?_; intro G cG w2 own2 hgr hkb; have he2 := hgr W0 (by assumption) (Nat.le_refl _); clear hgr; (first | (have bk := hkb _ _ HB1.out (own_other own.out HB1.out (by decide)); clear hkb; obtain ⟨bc, bf, bz⟩ := Blk.all ⟨_, bk⟩; have HB := Lib.hid bk; clear bk) | (have bk := hkb w1.heap.size (.cells #[.int .i64 0, .slice none 0 0] 29) (heap_alloc_new w1 _) (fun hk => Nat.lt_irrefl _ (own.out.lt _ hk).2); clear hkb; obtain ⟨bc, bf, bz⟩ := Blk.all ⟨_, bk⟩; have HB := Lib.hid bk; clear bk) | clear hkb)) | (go_split_ands; refine step_append_rd0 (by rfl) _ _ 27 (by rfl) W0.heap.size 55 i0 (.agg #[.int .i64 0, .int .i64 0, .int .i64 0, .int .i64 0]) 4 32 Try.underlying27 hi hz0 hz1 hz2 (by rfl) (by decide) _ (by rfl) (by first | exact own_new #[] 0 (by simp) (by simp) (by simp) (by simp) | exact (own_new #[] 0 (by simp) (by simp) (by simp) (by simp)).alloc _) A n ca (ints L) (by rfl) (by rw [ints_length]; exact HL.out) (rA.ext (by assumption)) HSA.out (ints_one L) (by unfold maxLen; omega) (by omega) (Ext.size (by assumption)) ?_; intro G1 c1 w1 own' hgr hkb; have h1 := hgr W0 (by assumption) (Nat.le_refl _); clear hgr; have own := Lib.hid own'; clear own'; (first | (have bk := hkb W0.heap.size (.cells #[.int .i64 0, .slice none 0 0] 29) (by first | exact (Ext.alloc (Ext.refl _) _).blk (heap_alloc_new W0 _) | exact (Ext.alloc (Ext.refl _) _).blk (heap_alloc_new W0.drew _)) (fun e => absurd (show W0.heap.size + 1 = W0.heap.size from Option.some.inj e) (by omega)); clear hkb; have HB1 := Lib.hid bk; clear bk) | (have bk := hkb (W0.heap.size + 1) (.cells #[.int .i64 0, .slice none 0 0] 29) (by first | (have q := heap_alloc_new (World.alloc W0.drew (.cells #[] 55)) (.cells #[.int .i64 0, .slice none 0 0] 29); rw [World.size_alloc] at q; exact q) | (have q := heap_alloc_new (World.alloc W0 (.cells #[] 55)) (.cells #[.int .i64 0, .slice none 0 0] 29); rw [World.size_alloc] at q; exact q)) (fun e => absurd (show W0.heap.size = W0.heap.size + 1 from Option.some.inj e) (by omega)); clear hkb; have HB1 := Lib.hid bk; clear bk) | clear hkb)))
    all_goals clear hi hz0 hz1 hz2
    all_goals (go_wp2_with fail; go_meet)
    · refine ⟨_, G, cG, rfl, Blk.new _ _ _, ?_, he2.alloc _⟩
      rw [ints_app]
      exact ((Fr.of_own own2).ext ((Ext.refl w2).alloc _)).mono (Nat.le_refl _) (by simp)
    · refine ⟨_, G, cG, rfl, ⟨_, heap_set2 HB.out⟩, ?_, (he2.setCell (p := ⟨w1.heap.size, 0, none⟩) h1.size _).setCell (p := ⟨w1.heap.size, 1, none⟩) h1.size _⟩
      rw [ints_app]
      exact Fr.of_own_set own2 HB.out (by decide) _ _
    · refine ⟨_, G, cG, rfl, ⟨_, heap_set2 HB.out⟩, ?_, (he2.setCell (p := ⟨W0.heap.size + 1, 0, none⟩) (Nat.le_succ _) _).setCell (p := ⟨W0.heap.size + 1, 1, none⟩) (Nat.le_succ _) _⟩
      rw [ints_app]
      exact Fr.of_own_set own2 HB.out (by decide) _ _
    · refine ⟨_, G, cG, rfl, ⟨_, heap_set2 HB.out⟩, ?_, (he2.setCell (Nat.le_refl _) _).setCell (Nat.le_refl _) _⟩
      rw [ints_app]
      exact Fr.of_own_set own2 HB.out (by decide) _ _
  case rest =>
    obtain ⟨b, G, cG, rfl, z, fG, hx⟩ := hcut
    replace x := x.ext hx
    replace y := y.ext hx
    replace rr := rr.ext hx
    obtain ⟨xc, xf, xz⟩ := x.all
    obtain ⟨yc, yf, yz⟩ := y.all
    obtain ⟨zc, zf, zz⟩ := z.all
    obtain ⟨rrc, rrf, rrz⟩ := rr.all
    have h0 := hw0.trans hx
    have HH := Lib.hid hx.size
    clear x0 x1 y1 rA rB hi hz0 hz1 hz2 hx
    rcases HR.out with ⟨⟨o1, o2, e3, o4⟩, rfl, e2, rfl, rfl⟩ | ⟨hno, rfl, rfl, rfl, rfl⟩
    · clear HR
      subst e3
      replace e2 := e2.symm
      subst e2
      go_wp2_with fail
      refine (spec_validC N A n ca L _ (hA.ext h0) HL.out (by omega)).mono ?_
      rintro e w1 ⟨rfl, h1⟩
      clear xc xf xz
      replace x := Blk.to x h1 (by repeat (first | exact Ext.refl _ | assumption | refine Ext.alloc ?_ _ | refine Ext.drew ?_ | refine Ext.drewN ?_ _ | refine Ext.trans ?_ (by assumption)))
      obtain ⟨xc, xf, xz⟩ := x.all
      clear yc yf yz
      replace y := Blk.to y h1 (by repeat (first | exact Ext.refl _ | assumption | refine Ext.alloc ?_ _ | refine Ext.drew ?_ | refine Ext.drewN ?_ _ | refine Ext.trans ?_ (by assumption)))
      obtain ⟨yc, yf, yz⟩ := y.all
      clear zc zf zz
      replace z := Blk.to z h1 (by repeat (first | exact Ext.refl _ | assumption | refine Ext.alloc ?_ _ | refine Ext.drew ?_ | refine Ext.drewN ?_ _ | refine Ext.trans ?_ (by assumption)))
      obtain ⟨zc, zf, zz⟩ := z.all
      clear rrc rrf rrz
      replace rr := Blk.to rr h1 (by repeat (first | exact Ext.refl _ | assumption | refine Ext.alloc ?_ _ | refine Ext.drew ?_ | refine Ext.drewN ?_ _ | refine Ext.trans ?_ (by assumption)))
      obtain ⟨rrc, rrf, rrz⟩ := rr.all
      go_wp2_with fail
      refine (spec_validC N B m cb L' _ (hB.ext (h0.trans h1)) HL'.out (by omega)).mono ?_
      rintro e w2 ⟨rfl, h2⟩
      clear xc xf xz
      replace x := Blk.to x h2 (by repeat (first | exact Ext.refl _ | assumption | refine Ext.alloc ?_ _ | refine Ext.drew ?_ | refine Ext.drewN ?_ _ | refine Ext.trans ?_ (by assumption)))
      obtain ⟨xc, xf, xz⟩ := x.all
      clear yc yf yz
      replace y := Blk.to y h2 (by repeat (first | exact Ext.refl _ | assumption | refine Ext.alloc ?_ _ | refine Ext.drew ?_ | refine Ext.drewN ?_ _ | refine Ext.trans ?_ (by assumption)))
      obtain ⟨yc, yf, yz⟩ := y.all
      clear zc zf zz
      replace z := Blk.to z h2 (by repeat (first | exact Ext.refl _ | assumption | refine Ext.alloc ?_ _ | refine Ext.drew ?_ | refine Ext.drewN ?_ _ | refine Ext.trans ?_ (by assumption)))
      obtain ⟨zc, zf, zz⟩ := z.all
      clear rrc rrf rrz
      replace rr := Blk.to rr h2 (by repeat (first | exact Ext.refl _ | assumption | refine Ext.alloc ?_ _ | refine Ext.drew ?_ | refine Ext.drewN ?_ _ | refine Ext.trans ?_ (by assumption)))
      obtain ⟨rrc, rrf, rrz⟩ := rr.all
      go_wp2_with fail
      refine (spec_validC N G (n + m) cG (L ++ L') _ (fG.ext (h1.trans h2)).rd (by have := HL.out; have := HL'.out; simp; omega) (by omega)).mono ?_
      rintro e w3 ⟨rfl, h3⟩
      clear xc xf xz
      replace x := Blk.to x h3 (by repeat (first | exact Ext.refl _ | assumption | refine Ext.alloc ?_ _ | refine Ext.drew ?_ | refine Ext.drewN ?_ _ | refine Ext.trans ?_ (by assumption)))
      obtain ⟨xc, xf, xz⟩ := x.all
      clear yc yf yz
      replace y := Blk.to y h3 (by repeat (first | exact Ext.refl _ | assumption | refine Ext.alloc ?_ _ | refine Ext.drew ?_ | refine Ext.drewN ?_ _ | refine Ext.trans ?_ (by assumption)))
      obtain ⟨yc, yf, yz⟩ := y.all
      clear zc zf zz
      replace z := Blk.to z h3 (by repeat (first | exact Ext.refl _ | assumption | refine Ext.alloc ?_ _ | refine Ext.drew ?_ | refine Ext.drewN ?_ _ | refine Ext.trans ?_ (by assumption)))
      obtain ⟨zc, zf, zz⟩ := z.all
      clear rrc rrf rrz
      replace rr := Blk.to rr h3 (by repeat (first | exact Ext.refl _ | assumption | refine Ext.alloc ?_ _ | refine Ext.drew ?_ | refine Ext.drewN ?_ _ | refine Ext.trans ?_ (by assumption)))
      obtain ⟨rrc, rrf, rrz⟩ := rr.all
      replace fG := fG.ext (h1.trans (h2.trans h3))
      replace h0 := h0.trans (h1.trans (h2.trans h3))
      have HH3 := Lib.hid (h1.trans (h2.trans h3)).size
      clear h1 h2 h3
      go_wp2
      refine bodyPost_ret (v := .tuple #[.agg #[.int .i64 N, .slice G (n + m) cG], .bool true]) (by simp [results, Try.results25, go_sem, xc, yc, zc, rrc]) rfl ⟨G, cG, rfl, ?_, ?_⟩
      · have ch := ((Chg.refl w3 (w.heap.size + 1 + 1) (w.heap.size + 1 + 1 + 1)).setCell (p := ⟨w.heap.size + 1 + 1, 0, none⟩) (by simp) (by simp) (.int .i64 N)).setCell (p := ⟨w.heap.size + 1 + 1, 1, none⟩) (by simp) (by simp) (.slice G (n + m) cG)
        have q0 := HS0.out
        have q1 := HH3.out
        exact (fG.chg ch (.inr (by omega))).mono (by omega) (by simpa [World.setCell] using q1)
      · exact (h0.setCell (by simp; omega) _).setCell (by simp; omega) _
    · clear HR
      have HN := Lib.hid hno
      clear hno
      cases o1 : validC N L n with
      | false =>
        go_wp2_with fail
        refine (spec_validC N A n ca L _ (hA.ext h0) HL.out (by omega)).mono ?_
        rintro e w1 ⟨rfl, h1⟩
        clear xc xf xz
        replace x := Blk.to x h1 (by repeat (first | exact Ext.refl _ | assumption | refine Ext.alloc ?_ _ | refine Ext.drew ?_ | refine Ext.drewN ?_ _ | refine Ext.trans ?_ (by assumption)))
        obtain ⟨xc, xf, xz⟩ := x.all
        clear yc yf yz
        replace y := Blk.to y h1 (by repeat (first | exact Ext.refl _ | assumption | refine Ext.alloc ?_ _ | refine Ext.drew ?_ | refine Ext.drewN ?_ _ | refine Ext.trans ?_ (by assumption)))
        obtain ⟨yc, yf, yz⟩ := y.all
        clear zc zf zz
        replace z := Blk.to z h1 (by repeat (first | exact Ext.refl _ | assumption | refine Ext.alloc ?_ _ | refine Ext.drew ?_ | refine Ext.drewN ?_ _ | refine Ext.trans ?_ (by assumption)))
        obtain ⟨zc, zf, zz⟩ := z.all
        clear rrc rrf rrz
        replace rr := Blk.to rr h1 (by repeat (first | exact Ext.refl _ | assumption | refine Ext.alloc ?_ _ | refine Ext.drew ?_ | refine Ext.drewN ?_ _ | refine Ext.trans ?_ (by assumption)))
        obtain ⟨rrc, rrf, rrz⟩ := rr.all
        replace h0 := h0.trans h1
        clear h1
        go_wp2
        refine bodyPost_ret (v := .tuple #[.agg #[.int .i64 0, .slice none 0 0], .bool false]) (by simp [results, Try.results25, go_sem, xc, yc, zc, rrc]) rfl ⟨none, 0, rfl, Fr.nil _ _ _ _, ?_⟩
        exact (h0.setCell (by simp; omega) _).setCell (by simp; omega) _
      | true =>
      cases o2 : validC N' L' m with
      | false =>
        go_wp2_with fail
        refine (spec_validC N A n ca L _ (hA.ext h0) HL.out (by omega)).mono ?_
        rintro e w1 ⟨rfl, h1⟩
        clear xc xf xz
        replace x := Blk.to x h1 (by repeat (first | exact Ext.refl _ | assumption | refine Ext.alloc ?_ _ | refine Ext.drew ?_ | refine Ext.drewN ?_ _ | refine Ext.trans ?_ (by assumption)))
        obtain ⟨xc, xf, xz⟩ := x.all
        clear yc yf yz
        replace y := Blk.to y h1 (by repeat (first | exact Ext.refl _ | assumption | refine Ext.alloc ?_ _ | refine Ext.drew ?_ | refine Ext.drewN ?_ _ | refine Ext.trans ?_ (by assumption)))
        obtain ⟨yc, yf, yz⟩ := y.all
        clear zc zf zz
        replace z := Blk.to z h1 (by repeat (first | exact Ext.refl _ | assumption | refine Ext.alloc ?_ _ | refine Ext.drew ?_ | refine Ext.drewN ?_ _ | refine Ext.trans ?_ (by assumption)))
        obtain ⟨zc, zf, zz⟩ := z.all
        clear rrc rrf rrz
        replace rr := Blk.to rr h1 (by repeat (first | exact Ext.refl _ | assumption | refine Ext.alloc ?_ _ | refine Ext.drew ?_ | refine Ext.drewN ?_ _ | refine Ext.trans ?_ (by assumption)))
        obtain ⟨rrc, rrf, rrz⟩ := rr.all
        go_wp2_with fail
        refine (spec_validC N' B m cb L' _ (hB.ext (h0.trans h1)) HL'.out (by omega)).mono ?_
        rintro e w2 ⟨rfl, h2⟩
        clear xc xf xz
        replace x := Blk.to x h2 (by repeat (first | exact Ext.refl _ | assumption | refine Ext.alloc ?_ _ | refine Ext.drew ?_ | refine Ext.drewN ?_ _ | refine Ext.trans ?_ (by assumption)))
        obtain ⟨xc, xf, xz⟩ := x.all
        clear yc yf yz
        replace y := Blk.to y h2 (by repeat (first | exact Ext.refl _ | assumption | refine Ext.alloc ?_ _ | refine Ext.drew ?_ | refine Ext.drewN ?_ _ | refine Ext.trans ?_ (by assumption)))
        obtain ⟨yc, yf, yz⟩ := y.all
        clear zc zf zz
        replace z := Blk.to z h2 (by repeat (first | exact Ext.refl _ | assumption | refine Ext.alloc ?_ _ | refine Ext.drew ?_ | refine Ext.drewN ?_ _ | refine Ext.trans ?_ (by assumption)))
        obtain ⟨zc, zf, zz⟩ := z.all
        clear rrc rrf rrz
        replace rr := Blk.to rr h2 (by repeat (first | exact Ext.refl _ | assumption | refine Ext.alloc ?_ _ | refine Ext.drew ?_ | refine Ext.drewN ?_ _ | refine Ext.trans ?_ (by assumption)))
        obtain ⟨rrc, rrf, rrz⟩ := rr.all
        replace h0 := h0.trans (h1.trans h2)
        clear h1 h2
        go_wp2
        refine bodyPost_ret (v := .tuple #[.agg #[.int .i64 0, .slice none 0 0], .bool false]) (by simp [results, Try.results25, go_sem, xc, yc, zc, rrc]) rfl ⟨none, 0, rfl, Fr.nil _ _ _ _, ?_⟩
        exact (h0.setCell (by simp; omega) _).setCell (by simp; omega) _
      | true =>
      by_cases o3 : N = N'
      · subst o3
        have o4 : validC N (L ++ L') (n + m) = false := by
          cases o4 : validC N (L ++ L') (n + m) with
          | false => rfl
          | true => exact absurd ⟨o1, o2, rfl, o4⟩ HN.out
        go_wp2_with fail
        refine (spec_validC N A n ca L _ (hA.ext h0) HL.out (by omega)).mono ?_
        rintro e w1 ⟨rfl, h1⟩
        clear xc xf xz
        replace x := Blk.to x h1 (by repeat (first | exact Ext.refl _ | assumption | refine Ext.alloc ?_ _ | refine Ext.drew ?_ | refine Ext.drewN ?_ _ | refine Ext.trans ?_ (by assumption)))
        obtain ⟨xc, xf, xz⟩ := x.all
        clear yc yf yz
        replace y := Blk.to y h1 (by repeat (first | exact Ext.refl _ | assumption | refine Ext.alloc ?_ _ | refine Ext.drew ?_ | refine Ext.drewN ?_ _ | refine Ext.trans ?_ (by assumption)))
        obtain ⟨yc, yf, yz⟩ := y.all
        clear zc zf zz
        replace z := Blk.to z h1 (by repeat (first | exact Ext.refl _ | assumption | refine Ext.alloc ?_ _ | refine Ext.drew ?_ | refine Ext.drewN ?_ _ | refine Ext.trans ?_ (by assumption)))
        obtain ⟨zc, zf, zz⟩ := z.all
        clear rrc rrf rrz
        replace rr := Blk.to rr h1 (by repeat (first | exact Ext.refl _ | assumption | refine Ext.alloc ?_ _ | refine Ext.drew ?_ | refine Ext.drewN ?_ _ | refine Ext.trans ?_ (by assumption)))
        obtain ⟨rrc, rrf, rrz⟩ := rr.all
        go_wp2_with fail
        refine (spec_validC N B m cb L' _ (hB.ext (h0.trans h1)) HL'.out (by omega)).mono ?_
        rintro e w2 ⟨rfl, h2⟩
        clear xc xf xz
        replace x := Blk.to x h2 (by repeat (first | exact Ext.refl _ | assumption | refine Ext.alloc ?_ _ | refine Ext.drew ?_ | refine Ext.drewN ?_ _ | refine Ext.trans ?_ (by assumption)))
        obtain ⟨xc, xf, xz⟩ := x.all
        clear yc yf yz
        replace y := Blk.to y h2 (by repeat (first | exact Ext.refl _ | assumption | refine Ext.alloc ?_ _ | refine Ext.drew ?_ | refine Ext.drewN ?_ _ | refine Ext.trans ?_ (by assumption)))
        obtain ⟨yc, yf, yz⟩ := y.all
        clear zc zf zz
        replace z := Blk.to z h2 (by repeat (first | exact Ext.refl _ | assumption | refine Ext.alloc ?_ _ | refine Ext.drew ?_ | refine Ext.drewN ?_ _ | refine Ext.trans ?_ (by assumption)))
        obtain ⟨zc, zf, zz⟩ := z.all
        clear rrc rrf rrz
        replace rr := Blk.to rr h2 (by repeat (first | exact Ext.refl _ | assumption | refine Ext.alloc ?_ _ | refine Ext.drew ?_ | refine Ext.drewN ?_ _ | refine Ext.trans ?_ (by assumption)))
        obtain ⟨rrc, rrf, rrz⟩ := rr.all
        go_wp2_with fail
        refine (spec_validC N G (n + m) cG (L ++ L') _ (fG.ext (h1.trans h2)).rd (by have := HL.out; have := HL'.out; simp; omega) (by omega)).mono ?_
        rintro e w3 ⟨rfl, h3⟩
        clear xc xf xz
        replace x := Blk.to x h3 (by repeat (first | exact Ext.refl _ | assumption | refine Ext.alloc ?_ _ | refine Ext.drew ?_ | refine Ext.drewN ?_ _ | refine Ext.trans ?_ (by assumption)))
        obtain ⟨xc, xf, xz⟩ := x.all
        clear yc yf yz
        replace y := Blk.to y h3 (by repeat (first | exact Ext.refl _ | assumption | refine Ext.alloc ?_ _ | refine Ext.drew ?_ | refine Ext.drewN ?_ _ | refine Ext.trans ?_ (by assumption)))
        obtain ⟨yc, yf, yz⟩ := y.all
        clear zc zf zz
        replace z := Blk.to z h3 (by repeat (first | exact Ext.refl _ | assumption | refine Ext.alloc ?_ _ | refine Ext.drew ?_ | refine Ext.drewN ?_ _ | refine Ext.trans ?_ (by assumption)))
        obtain ⟨zc, zf, zz⟩ := z.all
        clear rrc rrf rrz
        replace rr := Blk.to rr h3 (by repeat (first | exact Ext.refl _ | assumption | refine Ext.alloc ?_ _ | refine Ext.drew ?_ | refine Ext.drewN ?_ _ | refine Ext.trans ?_ (by assumption)))
        obtain ⟨rrc, rrf, rrz⟩ := rr.all
        replace h0 := h0.trans (h1.trans (h2.trans h3))
        clear h1 h2 h3
        go_wp2
        refine bodyPost_ret (v := .tuple #[.agg #[.int .i64 0, .slice none 0 0], .bool false]) (by simp [results, Try.results25, go_sem, xc, yc, zc, rrc]) rfl ⟨none, 0, rfl, Fr.nil _ _ _ _, ?_⟩
        exact (h0.setCell (by simp; omega) _).setCell (by simp; omega) _
      · have o5 : (N != N') = true := by simpa using o3
        go_wp2_with fail
        refine (spec_validC N A n ca L _ (hA.ext h0) HL.out (by omega)).mono ?_
        rintro e w1 ⟨rfl, h1⟩
        clear xc xf xz
        replace x := Blk.to x h1 (by repeat (first | exact Ext.refl _ | assumption | refine Ext.alloc ?_ _ | refine Ext.drew ?_ | refine Ext.drewN ?_ _ | refine Ext.trans ?_ (by assumption)))
        obtain ⟨xc, xf, xz⟩ := x.all
        clear yc yf yz
        replace y := Blk.to y h1 (by repeat (first | exact Ext.refl _ | assumption | refine Ext.alloc ?_ _ | refine Ext.drew ?_ | refine Ext.drewN ?_ _ | refine Ext.trans ?_ (by assumption)))
        obtain ⟨yc, yf, yz⟩ := y.all
        clear zc zf zz
        replace z := Blk.to z h1 (by repeat (first | exact Ext.refl _ | assumption | refine Ext.alloc ?_ _ | refine Ext.drew ?_ | refine Ext.drewN ?_ _ | refine Ext.trans ?_ (by assumption)))
        obtain ⟨zc, zf, zz⟩ := z.all
        clear rrc rrf rrz
        replace rr := Blk.to rr h1 (by repeat (first | exact Ext.refl _ | assumption | refine Ext.alloc ?_ _ | refine Ext.drew ?_ | refine Ext.drewN ?_ _ | refine Ext.trans ?_ (by assumption)))
        obtain ⟨rrc, rrf, rrz⟩ := rr.all
        go_wp2_with fail
        refine (spec_validC N' B m cb L' _ (hB.ext (h0.trans h1)) HL'.out (by omega)).mono ?_
        rintro e w2 ⟨rfl, h2⟩
        clear xc xf xz
        replace x := Blk.to x h2 (by repeat (first | exact Ext.refl _ | assumption | refine Ext.alloc ?_ _ | refine Ext.drew ?_ | refine Ext.drewN ?_ _ | refine Ext.trans ?_ (by assumption)))
        obtain ⟨xc, xf, xz⟩ := x.all
        clear yc yf yz
        replace y := Blk.to y h2 (by repeat (first | exact Ext.refl _ | assumption | refine Ext.alloc ?_ _ | refine Ext.drew ?_ | refine Ext.drewN ?_ _ | refine Ext.trans ?_ (by assumption)))
        obtain ⟨yc, yf, yz⟩ := y.all
        clear zc zf zz
        replace z := Blk.to z h2 (by repeat (first | exact Ext.refl _ | assumption | refine Ext.alloc ?_ _ | refine Ext.drew ?_ | refine Ext.drewN ?_ _ | refine Ext.trans ?_ (by assumption)))
        obtain ⟨zc, zf, zz⟩ := z.all
        clear rrc rrf rrz
        replace rr := Blk.to rr h2 (by repeat (first | exact Ext.refl _ | assumption | refine Ext.alloc ?_ _ | refine Ext.drew ?_ | refine Ext.drewN ?_ _ | refine Ext.trans ?_ (by assumption)))
        obtain ⟨rrc, rrf, rrz⟩ := rr.all
        replace h0 := h0.trans (h1.trans h2)
        clear h1 h2
        go_wp2
        refine bodyPost_ret (v := .tuple #[.agg #[.int .i64 0, .slice none 0 0], .bool false]) (by simp [results, Try.results25, go_sem, xc, yc, zc, rrc]) rfl ⟨none, 0, rfl, Fr.nil _ _ _ _, ?_⟩
        exact (h0.setCell (by simp; omega) _).setCell (by simp; omega) _
theorem spec_concat (N N' : Int) (A B : Option Addr) (n m : Nat) (L L' : List Int) (w : World) (hA : Rd w A (ints L)) (hB : Rd w B (ints L')) (hl : L.length = n * 4) (hl' : L'.length = m * 4) (hn : n ≤ 1048576) (hm : m ≤ 1048576) (ok : Bool) (N2 : Int) (R : List Int) (r : Nat) (hR : (catOk N N' L L' n m ∧ ok = true ∧ N2 = N ∧ R = L ++ L' ∧ r = n + m) ∨ (¬ catOk N N' L L' n m ∧ ok = false ∧ N2 = 0 ∧ R = [] ∧ r = 0)) :
    Calls Try.prog 25 #[.agg #[.int .i64 N, .slice A n n], .agg #[.int .i64 N', .slice B m m]] w fun e w' => ∃ G cG, e = .returned (.tuple #[.agg #[.int .i64 N2, .slice G r cG], .bool ok]) ∧ Fr w' w.heap.size w'.heap.size G (ints R) ∧ Ext w w' :=
  spec_concat' N N' A B n m n m L L' w hA hB hl hl' hn hm (src_some hA hl) (src_some hB hl') ok N2 R r hR
end Go.Proofs.Ytohpgjkflgnfgaa
