/-
  Slices of slices of ints: rows in new memory, each in a block of its own (Own2, Fr2), and what reads so (Rd2). No conditions.
-/
import Derived.Test.YtkhgkaiadfebmaaDoorBase
import Derived.Laws.AppendOwnNone
import Derived.Deep.AppendLies
set_option linter.unusedSimpArgs false
set_option linter.unusedVariables false
namespace Go.Proofs.YtkhgkaiadfebmaaDoor
open Go.RowKit

section
variable {w w1 w2 : World} {base : Nat} {te ti : TypeId} {sz : Nat} {v : Value} {LL : List (List Int)} {vs : List Value}

theorem own_ext2 {a b : World} {base : Nat} {e : TypeId} {size n : Nat} {v : Value} {xs : List Value} (h : a.ownsRow base e size v n xs) (he : Ext a b) : b.ownsRow base e size v n xs := by
  obtain ⟨hl, h | ⟨g, cap, cur, hv, hb, hh, r⟩⟩ := h
  · exact ⟨hl, .inl h⟩
  · exact ⟨hl, .inr ⟨g, cap, cur, hv, hb, he.blk hh, r⟩⟩
theorem own_ne2 {base' : Nat} {e e' : TypeId} {s s' m n : Nat} {u v : Value} {xs ys : List Value} (h1 : w.ownsRow base e s u m xs) (h2 : w.ownsRow base' e' s' v n ys) (hne : e ≠ e') : u.ownBlock = none ∨ u.ownBlock ≠ v.ownBlock := by
  obtain ⟨_, ⟨rfl, _⟩ | ⟨g, cap, cur, rfl, _, hh, _⟩⟩ := h1
  · exact .inl rfl
  · right
    obtain ⟨_, ⟨rfl, _⟩ | ⟨g', cap', cur', rfl, _, hh', _⟩⟩ := h2
    · simp [Value.ownBlock]
    · intro e
      simp only [Value.ownBlock, Option.some.injEq] at e
      subst e
      rw [hh] at hh'
      injection hh' with hh'
      injection hh' with _ hh'
      exact hne hh'
theorem own_set3 {e : TypeId} {size n : Nat} {u : Value} {xs : List Value} {g : Nat} {i : Nat} {x : Value} (h : w.ownsRow base e size u n xs) (hne : u.ownBlock ≠ some g) : (w.setCell ⟨g, i, none⟩ x).ownsRow base e size u n xs := by
  obtain ⟨hl, h0 | ⟨g', cap, cur, rfl, hb, hh, hx⟩⟩ := h
  · exact ⟨hl, .inl h0⟩
  · exact ⟨hl, .inr ⟨g', cap, cur, rfl, hb, (Below.heap_setCell _ _ _ _ (by simpa [Value.ownBlock] using hne)).trans hh, hx⟩⟩
theorem append_block {P : Program} (w : World) (base : Nat) (t ty e : TypeId) (i : TypeInfo) (z : Value) (size bytes : Nat) (ht : P.underlying t = some (.slice e)) (hi : P.info? e = some i) (hz : i.zero = some z)
    (hsize : i.size = size) (hby : i.bytes = bytes) (v : Value) (n : Nat) (xs : List Value) (hown : w.ownsRow base e size v n xs)
    (a : Addr) (m c : Nat) (news : List Value) (hl : news.length = m * size) (hnews : ∀ j u, news[j]? = some u → w.cell? (a.add j) = some u) (h1 : ∀ u ∈ news, u.oneCell' = true)
    (h63 : n + m ≤ maxLen) (hbytes : (n + m) * bytes ≤ 140737488355328) (hm : 0 < m) {v' : Value} {w' : World} (hr : (Builtin.append_ #[t, t] ty #[v, .slice (some a) m c]).run P w = .ok v' w') :
    v'.ownBlock = v.ownBlock ∨ v'.ownBlock = some w.heap.size := by
  subst hsize hby
  simp only [maxLen] at h63
  obtain ⟨hx, ⟨rfl, rfl⟩ | ⟨g, cap, cur, rfl, _, hg, _, _, hcs, _⟩⟩ := hown
  · have := run_append_nil (P := P) w t ty e i z ht hi hz a m c news hl hnews hm (by omega) (by rw [Nat.zero_add] at hbytes; omega)
    rw [this] at hr
    injection hr with h _
    subst h
    exact .inr rfl
  · by_cases hroom : n + m ≤ cap
    · have hfit : n * i.size + news.length ≤ cur.size := by rw [hl, hcs, ← Nat.add_mul]; exact Nat.mul_le_mul_right _ hroom
      have := run_append_room (P := P) w t ty e i ht hi g n cap cur hg a m c news hl hnews h1 hroom hfit
      rw [this] at hr
      injection hr with h _
      subst h
      exact .inl rfl
    · have ho : w.ownsRow base e i.size (.slice (some ⟨g, 0, none⟩) n cap) n xs := ⟨hx, .inr ⟨g, cap, cur, rfl, ‹_›, hg, ‹_›, ‹_›, hcs, ‹_›⟩⟩
      have := run_append_grow (P := P) w t ty e i z ht hi hz ⟨g, 0, none⟩ n cap xs hx (ho.cells (g := g) rfl) a m c news hl hnews (by omega) (by omega) (growslice_fits (by omega) hbytes)
      rw [this] at hr
      injection hr with h _
      subst h
      exact .inr rfl
theorem wp_append_new {P : Program} {w : World} {o : Oper} {a : Act} {K : Act → World → Prop} {Q : Exit → Act → World → Prop} (s x : Operand) (t : TypeId)
    (ho : o.op = .call { callee := .builtin .append, args := #[s, x], argTypes := #[t, t] })
    (base : Nat) (e : TypeId) (i : TypeInfo) (z : Value) (size bytes : Nat) (ht : P.underlying t = some (.slice e)) (hi : P.info? e = some i) (hz : i.zero = some z)
    (hsize : i.size = size) (hby : i.bytes = bytes) (hzs : z.cells.size = size) (hsz : 0 < size)
    (v : Value) (n : Nat) (xs : List Value) (hs : a.eval s = v) (hown : w.ownsRow base e size v n xs)
    (g m c : Nat) (cs : Array Value) (hx : a.eval x = .slice (some ⟨g, 0, none⟩) m c) (hg : Blk w g cs) (hl : cs.size = m * size) (hm : 0 < m) (h1 : ∀ u ∈ cs.toList, u.oneCell' = true)
    (h63 : n + m ≤ maxLen) (hbytes : (n + m) * bytes ≤ 140737488355328) (hbase : base ≤ w.heap.size)
    (h : ∀ G cG w', w'.ownsRow base e size (.slice G (n + m) cG) (n + m) (xs ++ cs.toList) → w.grownBy w' v.ownBlock → (Value.ownBlock (.slice G (n + m) cG) = v.ownBlock ∨ Value.ownBlock (.slice G (n + m) cG) = some w.heap.size) → K (a.put o.dst (.slice G (n + m) cG)) w') : o.wp P a w K Q := by
  have hnews : ∀ j u, cs.toList[j]? = some u → w.cell? ((⟨g, 0, none⟩ : Addr).add j) = some u := by
    intro j u hu
    have := hg.all.1 j
    rw [Array.getElem?_toList] at hu
    rw [hu] at this
    cases j <;> simpa [Addr.add] using this
  obtain ⟨v', w', hr, h2, h3, _⟩ := run_append_own (P := P) w base t o.type e i z size bytes ht hi hz hsize hby hzs hsz v n xs hown ⟨g, 0, none⟩ m c cs.toList (by simpa using hl) hnews h1 h63 hbytes hbase
  have h4 := append_block w base t o.type e i z size bytes ht hi hz hsize hby v n xs hown ⟨g, 0, none⟩ m c cs.toList (by simpa using hl) hnews h1 h63 hbytes hm hr
  obtain ⟨G, cG, rfl⟩ := own_form h2
  unfold Oper.wp execOp
  simp only [ho, resolve, invoke, builtin, Sem.run_bind, Sem.run_pure, Result.andThen_ok, List.map_toArray, List.map_cons, List.map_nil, hs, hx, hr]
  exact h G cG w' h2 h3 h4
theorem step_append_new {P : Program} {w : World} {ops : Array Oper} {o : Oper} {a : Act} {K : Act → World → Prop} {Q : Exit → Act → World → Prop} {E : Prop} (hgd : o.guard = none) (s x : Operand) (t : TypeId)
    (ho : o.op = .call { callee := .builtin .append, args := #[s, x], argTypes := #[t, t] })
    (base : Nat) (e : TypeId) (i : TypeInfo) (z : Value) (size bytes : Nat) (ht : P.underlying t = some (.slice e)) (hi : P.info? e = some i) (hz : i.zero = some z)
    (hsize : i.size = size) (hby : i.bytes = bytes) (hzs : z.cells.size = size) (hsz : 0 < size)
    (v : Value) (n : Nat) (xs : List Value) (hs : a.eval s = v) (hown : w.ownsRow base e size v n xs)
    (g m c : Nat) (cs : Array Value) (hx : a.eval x = .slice (some ⟨g, 0, none⟩) m c) (hg : Blk w g cs) (hl : cs.size = m * size) (hm : 0 < m) (h1 : ∀ u ∈ cs.toList, u.oneCell' = true)
    (h63 : n + m ≤ maxLen) (hbytes : (n + m) * bytes ≤ 140737488355328) (hbase : base ≤ w.heap.size)
    (h : ∀ G cG w', w'.ownsRow base e size (.slice G (n + m) cG) (n + m) (xs ++ cs.toList) → w.grownBy w' v.ownBlock → (Value.ownBlock (.slice G (n + m) cG) = v.ownBlock ∨ Value.ownBlock (.slice G (n + m) cG) = some w.heap.size) → K (a.put o.dst (.slice G (n + m) cG)) w') :
    if Region.wanted o (yielded ops a.tmps) = true then Oper.wp P o a w K Q else E := by
  rw [if_pos (by simp [Region.wanted, hgd])]
  exact wp_append_new s x t ho base e i z size bytes ht hi hz hsize hby hzs hsz v n xs hs hown g m c cs hx hg hl hm h1 h63 hbytes hbase h
theorem wpList_append_new {P : Program} {w : World} {ops : Array Oper} {rest : List Oper} {o : Oper} {a : Act} {Q : Exit → Act → World → Prop} (hgd : o.guard = none) (s x : Operand) (t : TypeId)
    (ho : o.op = .call { callee := .builtin .append, args := #[s, x], argTypes := #[t, t] })
    (base : Nat) (e : TypeId) (i : TypeInfo) (z : Value) (size bytes : Nat) (ht : P.underlying t = some (.slice e)) (hi : P.info? e = some i) (hz : i.zero = some z)
    (hsize : i.size = size) (hby : i.bytes = bytes) (hzs : z.cells.size = size) (hsz : 0 < size)
    (v : Value) (n : Nat) (xs : List Value) (hs : a.eval s = v) (hown : w.ownsRow base e size v n xs)
    (g m c : Nat) (cs : Array Value) (hx : a.eval x = .slice (some ⟨g, 0, none⟩) m c) (hg : Blk w g cs) (hl : cs.size = m * size) (hm : 0 < m) (h1 : ∀ u ∈ cs.toList, u.oneCell' = true)
    (h63 : n + m ≤ maxLen) (hbytes : (n + m) * bytes ≤ 140737488355328) (hbase : base ≤ w.heap.size)
    (h : ∀ G cG w', w'.ownsRow base e size (.slice G (n + m) cG) (n + m) (xs ++ cs.toList) → w.grownBy w' v.ownBlock → (Value.ownBlock (.slice G (n + m) cG) = v.ownBlock ∨ Value.ownBlock (.slice G (n + m) cG) = some w.heap.size) → wpList P ops Q rest (a.put o.dst (.slice G (n + m) cG)) w') : wpList P ops Q (o :: rest) a w :=
  wpList_plain hgd fun _ hK => wp_append_new s x t ho base e i z size bytes ht hi hz hsize hby hzs hsz v n xs hs hown g m c cs hx hg hl hm h1 h63 hbytes hbase fun G cG w' h2 h3 h4 => hK _ _ (h G cG w' h2 h3 h4)

/-- A slice v of the call's own, of slices of the call's own, no two of them in one block; row j reads as LL[j], sz cells an element. -/
structure Own2 (w : World) (base : Nat) (te ti : TypeId) (sz : Nat) (v : Value) (LL : List (List Int)) (vs : List Value) : Prop where
  outer : w.ownsRow base te 1 v LL.length vs
  inner : ∀ (j : Nat) (R : List Int), LL[j]? = some R → ∃ (B : Option Addr) (m c : Nat), vs[j]? = some (Value.slice B m c) ∧ R.length = m * sz ∧ w.ownsRow base ti sz (.slice B m c) m (ints R)
  apart : ∀ (i j : Nat) (u v : Value) (b : Nat), i ≠ j → vs[i]? = some u → vs[j]? = some v → u.ownBlock = some b → v.ownBlock ≠ some b
theorem Own2.len (h : Own2 w base te ti sz v LL vs) : vs.length = LL.length := by have := h.outer.1; omega
theorem Own2.ext (h : Own2 w base te ti sz v LL vs) (he : Ext w w1) : Own2 w1 base te ti sz v LL vs :=
  ⟨own_ext2 h.outer he, fun j R hR => by
    obtain ⟨B, m, c, h1, h2, h3⟩ := h.inner j R hR
    exact ⟨B, m, c, h1, h2, own_ext2 h3 he⟩, h.apart⟩
theorem Own2.low {base' : Nat} (h : Own2 w base te ti sz v LL vs) (hb : base' ≤ base) : Own2 w base' te ti sz v LL vs := by
  have low : ∀ {e : TypeId} {s n : Nat} {v : Value} {xs : List Value}, w.ownsRow base e s v n xs → w.ownsRow base' e s v n xs := by
    rintro e s n v xs ⟨h1, h2 | ⟨g, cap, cur, h3, h4, h5⟩⟩
    · exact ⟨h1, .inl h2⟩
    · exact ⟨h1, .inr ⟨g, cap, cur, h3, Nat.le_trans hb h4, h5⟩⟩
  exact ⟨low h.outer, fun j R hR => by
    obtain ⟨B, m, c, h1, h2, h3⟩ := h.inner j R hR
    exact ⟨B, m, c, h1, h2, low h3⟩, h.apart⟩
theorem Own2.nil (h : w.ownsRow base te 1 v 0 []) : Own2 w base te ti sz v [] [] := ⟨h, fun j R hR => by simp at hR, fun i j u v b _ h => by simp at h⟩
theorem Own2.look (h : Own2 w base te ti sz v LL vs) {j : Nat} (hj : j < LL.length) :
    ∃ g cap B m c, v = .slice (some ⟨g, 0, none⟩) LL.length cap ∧ w.cell? ⟨g, j, none⟩ = some (.slice B m c) ∧ w.frozen? ⟨g, j, none⟩ = false ∧ vs[j]? = some (.slice B m c) ∧ (LL.getD j []).length = m * sz ∧ w.ownsRow base ti sz (.slice B m c) m (ints (LL.getD j [])) ∧ base ≤ g ∧ g < w.heap.size := by
  have hR : LL[j]? = some (LL.getD j []) := by simp [List.getD, hj]
  obtain ⟨B, m, c, h1, h2, h3⟩ := h.inner j _ hR
  obtain ⟨g, cap, rfl⟩ : ∃ g cap, v = .slice (some ⟨g, 0, none⟩) LL.length cap := by
    obtain ⟨_, ⟨_, h0⟩ | ⟨g, cap, cur, rfl, _⟩⟩ := h.outer
    · omega
    · exact ⟨g, cap, rfl⟩
  refine ⟨g, cap, B, m, c, rfl, (h.outer.cellAt j (by omega)).trans h1, h.outer.frozenAt j, h1, h2, h3, (h.outer.lt g rfl).1, (h.outer.lt g rfl).2⟩
theorem Own2.push (h : Own2 w base te ti sz v LL vs) (hne : te ≠ ti) {B : Option Addr} {c : Nat} {v' : Value} (hu : w1.ownsRow base ti sz (.slice B 0 c) 0 []) (hub : ∀ b, Value.ownBlock (.slice B 0 c) = some b → w.heap.size ≤ b) (he : Ext w w1)
    (hw : w2.ownsRow base te 1 v' (LL.length + 1) (vs ++ [.slice B 0 c])) (hg : w1.grownBy w2 v.ownBlock) : Own2 w2 base te ti sz v' (LL ++ [[]]) (vs ++ [.slice B 0 c]) := by
  have ho := own_ext2 h.outer he
  refine ⟨by simpa using hw, fun j R hR => ?_, fun i j u x b hij hi hj hb => ?_⟩
  · rcases Nat.lt_or_ge j LL.length with hj | hj
    · rw [List.getElem?_append_left hj] at hR
      obtain ⟨B', m, c', h1, h2, h3⟩ := h.inner j R hR
      refine ⟨B', m, c', by rw [List.getElem?_append_left (by rw [h.len]; exact hj)]; exact h1, h2, (own_ext2 h3 he).kept hg (own_ne2 (own_ext2 h3 he) ho hne.symm)⟩
    · rw [List.getElem?_append_right hj] at hR
      have hj0 : j = LL.length := by
        rcases Nat.lt_or_ge (j - LL.length) 1 with h1 | h1
        · omega
        · rw [List.getElem?_eq_none (by simpa using h1)] at hR; cases hR
      subst hj0
      simp at hR
      subst hR
      refine ⟨B, 0, c, by rw [← h.len]; simp, by simp, hu.kept hg (own_ne2 hu ho hne.symm)⟩
  · have key : ∀ (k : Nat) (y : Value), vs[k]? = some y → ∀ b, y.ownBlock = some b → b < w.heap.size := by
      intro k y hy b hb
      have hk : k < LL.length := by rw [← h.len]; exact (List.getElem?_eq_some_iff.1 hy).1
      obtain ⟨B', m, c', h1, h2, h3⟩ := h.inner k _ (List.getElem?_eq_getElem hk)
      rw [h1] at hy
      injection hy with hy
      subst hy
      exact (h3.lt b hb).2
    have last : ∀ k y, (vs ++ [.slice B 0 c])[k]? = some y → (vs[k]? = some y) ∨ (k = vs.length ∧ y = .slice B 0 c) := by
      intro k y hy
      rcases Nat.lt_or_ge k vs.length with hk | hk
      · rw [List.getElem?_append_left hk] at hy; exact .inl hy
      · rw [List.getElem?_append_right hk] at hy
        rcases Nat.lt_or_ge (k - vs.length) 1 with h1 | h1
        · have : k - vs.length = 0 := by omega
          rw [this] at hy
          simp at hy
          exact .inr ⟨by omega, hy.symm⟩
        · rw [List.getElem?_eq_none (by simpa using h1)] at hy; cases hy
    rcases last i u hi with hi | ⟨hi, rfl⟩ <;> rcases last j x hj with hj | ⟨hj, rfl⟩
    · exact h.apart i j u x b hij hi hj hb
    · intro e
      have := key i u hi b hb
      have := hub b e
      omega
    · intro e
      have := key j x hj b e
      have := hub b hb
      omega
    · omega
theorem Own2.pushR (h : Own2 w base te ti sz v LL vs) (hne : te ≠ ti) {B : Option Addr} {m c : Nat} {R0 : List Int} {v' : Value} (hu : w1.ownsRow base ti sz (.slice B m c) m (ints R0)) (hub : ∀ b, Value.ownBlock (.slice B m c) = some b → w.heap.size ≤ b) (he : Ext w w1)
    (hw : w2.ownsRow base te 1 v' (LL.length + 1) (vs ++ [.slice B m c])) (hg : w1.grownBy w2 v.ownBlock) : Own2 w2 base te ti sz v' (LL ++ [R0]) (vs ++ [.slice B m c]) := by
  have ho := own_ext2 h.outer he
  refine ⟨by simpa using hw, fun j R hR => ?_, fun i j u x b hij hi hj hb => ?_⟩
  · rcases Nat.lt_or_ge j LL.length with hj | hj
    · rw [List.getElem?_append_left hj] at hR
      obtain ⟨B', m', c', h1, h2, h3⟩ := h.inner j R hR
      refine ⟨B', m', c', by rw [List.getElem?_append_left (by rw [h.len]; exact hj)]; exact h1, h2, (own_ext2 h3 he).kept hg (own_ne2 (own_ext2 h3 he) ho hne.symm)⟩
    · rw [List.getElem?_append_right hj] at hR
      have hj0 : j = LL.length := by
        rcases Nat.lt_or_ge (j - LL.length) 1 with h1 | h1
        · omega
        · rw [List.getElem?_eq_none (by simpa using h1)] at hR; cases hR
      subst hj0
      simp at hR
      subst hR
      have hul := hu.1
      rw [ints_length] at hul
      refine ⟨B, m, c, by rw [← h.len]; simp, hul, hu.kept hg (own_ne2 hu ho hne.symm)⟩
  · have key : ∀ (k : Nat) (y : Value), vs[k]? = some y → ∀ b, y.ownBlock = some b → b < w.heap.size := by
      intro k y hy b hb
      have hk : k < LL.length := by rw [← h.len]; exact (List.getElem?_eq_some_iff.1 hy).1
      obtain ⟨B', m, c', h1, h2, h3⟩ := h.inner k _ (List.getElem?_eq_getElem hk)
      rw [h1] at hy
      injection hy with hy
      subst hy
      exact (h3.lt b hb).2
    have last : ∀ k y, (vs ++ [.slice B m c])[k]? = some y → (vs[k]? = some y) ∨ (k = vs.length ∧ y = .slice B m c) := by
      intro k y hy
      rcases Nat.lt_or_ge k vs.length with hk | hk
      · rw [List.getElem?_append_left hk] at hy; exact .inl hy
      · rw [List.getElem?_append_right hk] at hy
        rcases Nat.lt_or_ge (k - vs.length) 1 with h1 | h1
        · have : k - vs.length = 0 := by omega
          rw [this] at hy
          simp at hy
          exact .inr ⟨by omega, hy.symm⟩
        · rw [List.getElem?_eq_none (by simpa using h1)] at hy; cases hy
    rcases last i u hi with hi | ⟨hi, rfl⟩ <;> rcases last j x hj with hj | ⟨hj, rfl⟩
    · exact h.apart i j u x b hij hi hj hb
    · intro e
      have := key i u hi b hb
      have := hub b e
      omega
    · intro e
      have := key j x hj b e
      have := hub b hb
      omega
    · omega
theorem Own2.put {g n cap : Nat} (h : Own2 w base te ti sz (.slice (some ⟨g, 0, none⟩) n cap) LL vs) (hne : te ≠ ti) {j : Nat} (hj : j < LL.length) {u : Value} (hu : vs[j]? = some u) {B : Option Addr} {m c : Nat} {news : List Int} (he : Ext w w1)
    (own : w2.ownsRow base ti sz (.slice B m c) m (ints (LL.getD j [] ++ news))) (hg : w1.grownBy w2 u.ownBlock) (hb : Value.ownBlock (.slice B m c) = u.ownBlock ∨ Value.ownBlock (.slice B m c) = some w1.heap.size) :
    Own2 (w2.setCell ⟨g, j, none⟩ (.slice B m c)) base te ti sz (.slice (some ⟨g, 0, none⟩) n cap) (LL.set j (LL.getD j [] ++ news)) (vs.set j (.slice B m c)) := by
  have hn : n = LL.length := by
    obtain ⟨_, ⟨h0, _⟩ | ⟨g', cap', cur, h0, _⟩⟩ := h.outer
    · cases h0
    · injection h0
  subst hn
  have hju : j < vs.length := by rw [h.len]; exact hj
  obtain ⟨B0, m0, c0, h1, h2, h3⟩ := h.inner j _ (List.getElem?_eq_getElem hj)
  rw [hu] at h1
  injection h1 with h1
  subst h1
  have ho1 := own_ext2 h.outer he
  have hu1 := own_ext2 h3 he
  have ho2 := ho1.kept hg (.inr (by
    rcases own_ne2 hu1 ho1 hne.symm with h | h
    · rw [h]; simp [Value.ownBlock]
    · exact fun e => h e.symm))
  have hst := ho2.stored j (.slice B m c)
  have hgne : ∀ (y : Value) k (xs : List Value), w2.ownsRow base ti sz y k xs → y.ownBlock ≠ some g := by
    intro y k xs hy
    rcases own_ne2 hy ho2 hne.symm with h | h
    · rw [h]; simp
    · simpa [Value.ownBlock] using h
  refine ⟨by rw [List.length_set]; exact hst.1, fun i R hR => ?_, fun i k x y b hik hx hy hxb => ?_⟩
  · by_cases hij : j = i
    · subst hij
      rw [List.getElem?_set_self hj] at hR
      injection hR with hR
      subst hR
      have hl := own.1
      rw [ints_length] at hl
      refine ⟨B, m, c, by rw [List.getElem?_set_self hju], hl, own_set3 own (hgne _ _ _ own)⟩
    · rw [List.getElem?_set_ne hij] at hR
      obtain ⟨B', m', c', e1, e2, e3⟩ := h.inner i R hR
      have e4 := (own_ext2 e3 he).kept hg (by
        rcases hb1 : Value.ownBlock (.slice B' m' c') with _ | b
        · exact .inl rfl
        · exact .inr (fun e => h.apart i j _ _ b (fun x => hij x.symm) e1 hu hb1 e.symm))
      refine ⟨B', m', c', by rw [List.getElem?_set_ne hij]; exact e1, e2, own_set3 e4 (hgne _ _ _ e4)⟩
  · have key : ∀ (k : Nat) (y : Value), vs[k]? = some y → ∀ b, y.ownBlock = some b → b < w1.heap.size := by
      intro k y hy b hb
      have hk : k < LL.length := by rw [← h.len]; exact (List.getElem?_eq_some_iff.1 hy).1
      obtain ⟨B', m, c', h1, h2, h3⟩ := h.inner k _ (List.getElem?_eq_getElem hk)
      rw [h1] at hy
      injection hy with hy
      subst hy
      exact Nat.lt_of_lt_of_le (h3.lt b hb).2 he.size
    by_cases hij : j = i
    · subst hij
      rw [List.getElem?_set_self hju] at hx
      injection hx with hx
      subst hx
      rw [List.getElem?_set_ne hik] at hy
      intro e
      rcases hb with hb | hb
      · exact h.apart j k _ _ b hik hu hy (hb ▸ hxb) e
      · have := key k y hy b e
        rw [hb] at hxb
        injection hxb with hxb
        omega
    · rw [List.getElem?_set_ne hij] at hx
      by_cases hjk : j = k
      · subst hjk
        rw [List.getElem?_set_self hju] at hy
        injection hy with hy
        subst hy
        intro e
        rcases hb with hb | hb
        · exact h.apart i j _ _ b hik hx hu hxb (hb ▸ e)
        · have := key i x hx b hxb
          rw [hb] at e
          injection e with e
          omega
      · rw [List.getElem?_set_ne hjk] at hy
        exact h.apart i k x y b hik hx hy hxb

theorem Own2.cell_after {g n cap k : Nat} {u : Value} (h : Own2 w base te ti sz (.slice (some ⟨g, 0, none⟩) n cap) LL vs) (hne : te ≠ ti) (hk : k < LL.length) (hu : vs[k]? = some u) (he : Ext w w1) (hg : w1.grownBy w2 u.ownBlock) :
    w2.cell? ⟨g, k, none⟩ = some u ∧ w2.frozen? ⟨g, k, none⟩ = false ∧ g < w2.heap.size := by
  have hn : n = LL.length := by
    obtain ⟨_, ⟨h0, _⟩ | ⟨g', cap', cur, h0, _⟩⟩ := h.outer
    · cases h0
    · injection h0
  subst hn
  obtain ⟨B0, m0, c0, h1, h2, h3⟩ := h.inner k _ (List.getElem?_eq_getElem hk)
  rw [hu] at h1
  injection h1 with h1
  subst h1
  have ho1 := own_ext2 h.outer he
  have hu1 := own_ext2 h3 he
  have ho2 := ho1.kept hg (.inr (by
    rcases own_ne2 hu1 ho1 hne.symm with h | h
    · rw [h]; simp [Value.ownBlock]
    · exact fun e => h e.symm))
  exact ⟨(ho2.cellAt k (by omega)).trans hu, ho2.frozenAt k, (ho2.lt g rfl).2⟩

/-- A slice of slices that reads as the rows LL. -/
structure Rd2 (w : World) (sz : Nat) (A : Option Addr) (LL : List (List Int)) (vs : List Value) : Prop where
  outer : Rd w A vs
  len : vs.length = LL.length
  inner : ∀ (j : Nat) (R : List Int), LL[j]? = some R → ∃ (B : Option Addr) (m c : Nat), vs[j]? = some (Value.slice B m c) ∧ R.length = m * sz ∧ Rd w B (ints R)
/-- The same in new memory, each row in a block of its own. -/
structure Fr2 (w : World) (sz lo hi : Nat) (A : Option Addr) (LL : List (List Int)) (vs : List Value) : Prop where
  outer : Fr w lo hi A vs
  len : vs.length = LL.length
  inner : ∀ (j : Nat) (R : List Int), LL[j]? = some R → ∃ (B : Option Addr) (m c : Nat), vs[j]? = some (Value.slice B m c) ∧ R.length = m * sz ∧ Fr w lo hi B (ints R)
  apart : ∀ (i j : Nat) (u v : Value) (b : Nat), i ≠ j → vs[i]? = some u → vs[j]? = some v → u.ownBlock = some b → v.ownBlock ≠ some b
  off : ∀ (j : Nat) (u : Value) (a : Addr), vs[j]? = some u → A = some a → u.ownBlock ≠ some a.block
theorem Rd2.ext {A : Option Addr} (h : Rd2 w sz A LL vs) (he : Ext w w1) : Rd2 w1 sz A LL vs :=
  ⟨h.outer.ext he, h.len, fun j R hR => by obtain ⟨B, m, c, h1, h2, h3⟩ := h.inner j R hR; exact ⟨B, m, c, h1, h2, h3.ext he⟩⟩
theorem Fr2.rd {lo hi : Nat} {A : Option Addr} (h : Fr2 w sz lo hi A LL vs) : Rd2 w sz A LL vs :=
  ⟨h.outer.rd, h.len, fun j R hR => by obtain ⟨B, m, c, h1, h2, h3⟩ := h.inner j R hR; exact ⟨B, m, c, h1, h2, h3.rd⟩⟩
theorem Fr2.ext {lo hi : Nat} {A : Option Addr} (h : Fr2 w sz lo hi A LL vs) (he : Ext w w1) : Fr2 w1 sz lo hi A LL vs :=
  ⟨h.outer.ext he, h.len, fun j R hR => by obtain ⟨B, m, c, h1, h2, h3⟩ := h.inner j R hR; exact ⟨B, m, c, h1, h2, h3.ext he⟩, h.apart, h.off⟩
theorem Fr2.mono {lo hi lo' hi' : Nat} {A : Option Addr} (h : Fr2 w sz lo hi A LL vs) (h1 : lo' ≤ lo) (h2 : hi ≤ hi') : Fr2 w sz lo' hi' A LL vs :=
  ⟨h.outer.mono h1 h2, h.len, fun j R hR => by obtain ⟨B, m, c, e1, e2, e3⟩ := h.inner j R hR; exact ⟨B, m, c, e1, e2, e3.mono h1 h2⟩, h.apart, h.off⟩
theorem Fr2.chg {lo hi l h' : Nat} {A : Option Addr} (h : Fr2 w sz l h' A LL vs) (k : Chg w w1 lo hi) (hd : h' ≤ lo ∨ hi ≤ l) : Fr2 w1 sz l h' A LL vs :=
  ⟨h.outer.chg k hd, h.len, fun j R hR => by obtain ⟨B, m, c, e1, e2, e3⟩ := h.inner j R hR; exact ⟨B, m, c, e1, e2, e3.chg k hd⟩, h.apart, h.off⟩
theorem Own2.fr {A : Option Addr} {n c : Nat} (h : Own2 w base te ti sz (.slice A n c) LL vs) (hne : te ≠ ti) : Fr2 w sz base w.heap.size A LL vs := by
  have hn : n = LL.length := by
    obtain ⟨_, ⟨h0, h1⟩ | ⟨g', cap', cur, h0, _⟩⟩ := h.outer
    · injection h0; omega
    · injection h0
  subst hn
  refine ⟨Fr.of_own h.outer, h.len, fun j R hR => ?_, h.apart, fun j u a hj hA e => ?_⟩
  · obtain ⟨B, m, c', h1, h2, h3⟩ := h.inner j R hR
    exact ⟨B, m, c', h1, h2, Fr.of_own h3⟩
  · subst hA
    have hk : j < LL.length := by rw [← h.len]; exact (List.getElem?_eq_some_iff.1 hj).1
    obtain ⟨B, m, c', h1, h2, h3⟩ := h.inner j _ (List.getElem?_eq_getElem hk)
    rw [h1] at hj
    injection hj with hj
    subst hj
    rcases own_ne2 h3 h.outer hne.symm with h4 | h4
    · rw [h4] at e; cases e
    · exact h4 e
theorem Rd2.look {A : Option Addr} (h : Rd2 w sz A LL vs) {j : Nat} (hj : j < LL.length) :
    ∃ g off B m c, A = some ⟨g, off, none⟩ ∧ w.cell? ⟨g, off + j, none⟩ = some (.slice B m c) ∧ vs[j]? = some (.slice B m c) ∧ (LL.getD j []).length = m * sz ∧ Rd w B (ints (LL.getD j [])) := by
  have hR : LL[j]? = some (LL.getD j []) := by simp [List.getD, hj]
  obtain ⟨B, m, c, h1, h2, h3⟩ := h.inner j _ hR
  obtain ⟨g, off, e, hc⟩ := h.outer (by rintro rfl; simp at h1)
  exact ⟨g, off, B, m, c, e, hc j _ h1, h1, h2, h3⟩
/-- Row j of a slice of slices in new memory may be rewritten: a range of blocks that holds it and no other row. -/
theorem Fr2.upd {lo hi : Nat} {A B : Option Addr} {m c j : Nat} {R : List Int} (h : Fr2 w sz lo hi A LL vs) (hR : LL[j]? = some R) (hv : vs[j]? = some (.slice B m c)) :
    ∃ l k, lo ≤ l ∧ k ≤ hi ∧ Fr w l k B (ints R) ∧ ∀ w' R', Chg w w' l k → Fr w' l k B (ints R') → R'.length = R.length → Fr2 w' sz lo hi A (LL.set j R') vs := by
  have hj := (List.getElem?_eq_some_iff.1 hR).1
  obtain ⟨B0, m0, c0, h1, h2, h3⟩ := h.inner j R hR
  rw [hv] at h1
  injection h1 with h1
  injection h1 with e1 e2 e3
  subst e1 e2 e3
  by_cases hn : R = []
  · subst hn
    refine ⟨lo, min lo hi, Nat.le_refl _, Nat.min_le_right _ _, Fr.nil _ _ _ _, fun w' R' ch _ hl => ?_⟩
    have hR' : R' = [] := by simpa using hl
    subst hR'
    have : LL.set j [] = LL := by
      apply List.ext_getElem?
      intro i
      by_cases hij : j = i
      · subst hij; rw [List.getElem?_set_self hj, hR]
      · rw [List.getElem?_set_ne hij]
    rw [this]
    have ch' : Chg w w' 0 0 := ⟨ch.os, ch.tape, ch.output, ch.size, fun k hk hn => ch.block k hk (by omega)⟩
    exact h.chg ch' (.inr (Nat.zero_le _))
  · obtain ⟨g, off, cur, t, rfl, g1, g2, hh, hc⟩ := h3 (by intro h0; apply hn; cases R <;> simp_all [ints])
    refine ⟨g, g + 1, g1, g2, fun _ => ⟨g, off, cur, t, rfl, Nat.le_refl _, Nat.lt_succ_self _, hh, hc⟩, fun w' R' ch fr hl => ?_⟩
    refine ⟨fun hne => ?_, by rw [List.length_set]; exact h.len, fun i S hS => ?_, h.apart, h.off⟩
    · obtain ⟨ga, oa, cura, ta, ea, a1, a2, ha, hca⟩ := h.outer hne
      refine ⟨ga, oa, cura, ta, ea, a1, a2, (ch.block ga (lt_of_blk ha) (fun ⟨x, y⟩ => ?_)).trans ha, hca⟩
      have := h.off j _ _ hv ea
      apply this
      show some g = some ga
      congr 1
      omega
    · by_cases hij : j = i
      · subst hij
        rw [List.getElem?_set_self hj] at hS
        injection hS with hS
        subst hS
        exact ⟨_, _, _, hv, by omega, fr.mono g1 g2⟩
      · rw [List.getElem?_set_ne hij] at hS
        obtain ⟨B', m', c', e1, e2, e3⟩ := h.inner i S hS
        refine ⟨B', m', c', e1, e2, fun hne => ?_⟩
        obtain ⟨ga, oa, cura, ta, ea, a1, a2, ha, hca⟩ := e3 hne
        refine ⟨ga, oa, cura, ta, ea, a1, a2, (ch.block ga (lt_of_blk ha) (fun ⟨x, y⟩ => ?_)).trans ha, hca⟩
        subst ea
        exact h.apart j i _ _ g hij hv e1 rfl (show some ga = some g by congr 1; omega)
end
end Go.Proofs.YtkhgkaiadfebmaaDoor
