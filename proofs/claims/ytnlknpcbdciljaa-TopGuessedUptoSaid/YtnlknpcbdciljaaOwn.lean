import Derived.Test.YtnlknpcbdciljaaBase
import Derived.Deep.AppendLies
import Derived.Maps.AppendAt
/- A slice that a call makes for itself: what it owns, what an append does to it, and how it reads when it is done. -/
namespace Go.Proofs.Tp
open Go.RowKit
set_option linter.unusedVariables false
set_option linter.unusedSimpArgs false
/-- v is a row of the call's own (made since w0), whose elements are xs; what the elements lead to lay there in w0. -/
def Ow {α : Type} (k : Kd α) (e : TypeId) (w0 W : World) (v : Value) (xs : List α) : Prop :=
  Ext w0 W ∧ ∃ css : List (List Value), css.length = xs.length ∧ (∀ i (h : i < xs.length) (h' : i < css.length), k.rep w0 xs[i] css[i]) ∧ W.ownsRow w0.heap.size e k.sz v xs.length css.flatten
section
variable {α : Type} {k : Kd α} {e : TypeId} {w0 W W' : World} {v : Value} {xs : List α}
theorem Ow.nil (h : Ext w0 W) : Ow k e w0 W (.slice none 0 0) ([] : List α) := ⟨h, [], rfl, fun i h => by simp at h, World.ownsRow_nil _ _ _ _⟩
theorem grownBy_ext (h : Ext W W') : W.grownBy W' none := ⟨h.os, h.tape, h.output, h.size, fun k hk _ => h.block k hk⟩
theorem Ow.ext (h : Ow k e w0 W v xs) (x : Ext W W') : Ow k e w0 W' v xs := by
  obtain ⟨h1, css, h2, h3, h4⟩ := h
  exact ⟨h1.trans x, css, h2, h3, h4.kept (grownBy_ext x) (by cases v.ownBlock <;> simp)⟩
theorem Ow.alloc (h : Ow k e w0 W v xs) (o : Obj) : Ow k e w0 (W.alloc o) v xs := h.ext (e1 W o)
/-- another row is written -/
theorem Ow.other (h : Ow k e w0 W v xs) {row : Option Nat} (hg : W.grownBy W' row) (hB : Ext w0 W') (hne : v.ownBlock = none ∨ v.ownBlock ≠ row) : Ow k e w0 W' v xs := by
  obtain ⟨h1, css, h2, h3, h4⟩ := h
  exact ⟨hB, css, h2, h3, h4.kept hg hne⟩
theorem Ow.len (h : Ow k e w0 W v xs) : ∃ A c, v = .slice A xs.length c := by
  obtain ⟨h1, css, h2, h3, h4⟩ := h
  rcases h4.2 with ⟨rfl, hn⟩ | ⟨g, cap, cur, rfl, _⟩
  · exact ⟨none, 0, by rw [hn]⟩
  · exact ⟨_, cap, rfl⟩
theorem flatten_len {sz : Nat} : ∀ {css : List (List Value)}, (∀ c ∈ css, c.length = sz) → css.flatten.length = css.length * sz
  | [], _ => by simp
  | c :: css, h => by
    rw [List.flatten_cons, List.length_append, flatten_len (fun c hc => h c (List.mem_cons_of_mem _ hc)), h c List.mem_cons_self, List.length_cons, Nat.add_mul, Nat.one_mul, Nat.add_comm]
theorem flatten_get {sz : Nat} : ∀ {css : List (List Value)}, (∀ c ∈ css, c.length = sz) → ∀ (i j : Nat) (hi : i < css.length), j < sz → css.flatten[i * sz + j]? = css[i][j]?
  | [], _, i, j, hi, _ => by simp at hi
  | c :: css, h, 0, j, _, hj => by
    have hc := h c List.mem_cons_self
    simp [List.getElem?_append_left (show j < c.length by omega)]
  | c :: css, h, i + 1, j, hi, hj => by
    have hc := h c List.mem_cons_self
    have := flatten_get (fun c hc => h c (List.mem_cons_of_mem _ hc)) i j (by simpa using hi) hj
    rw [List.flatten_cons, List.getElem?_append_right (by rw [hc, Nat.add_mul]; omega), hc, show (i + 1) * sz + j - sz = i * sz + j by rw [Nat.add_mul]; omega, this]
    rfl
theorem Ow.sl (h : Ow k e w0 W v xs) (hl : xs.length ≤ 1048576) : Sl k W v xs := by
  obtain ⟨h1, css, h2, h3, h4⟩ := h
  rcases h4.2 with ⟨rfl, hn⟩ | ⟨g, cap, cur, rfl, hb, hg, hnc, hcm, hcs, htake⟩
  · obtain rfl := List.eq_nil_of_length_eq_zero hn
    exact Sl.nil k W none 0
  · refine ⟨_, cap, rfl, hnc, hl, .inr ⟨g, 0, rfl, fun i hi => ?_⟩⟩
    have hi' : i < css.length := by omega
    have hlen : ∀ c ∈ css, c.length = k.sz := by
      intro c hc
      obtain ⟨j, hj, rfl⟩ := List.mem_iff_getElem.1 hc
      exact k.len (h3 j (by omega) hj)
    refine ⟨css[i], k.ext (h3 i hi hi') h1, At.mk fun j hj => ?_⟩
    rw [hlen _ (List.getElem_mem hi')] at hj
    have hlt : i * k.sz + j < xs.length * k.sz := by
      calc i * k.sz + j < i * k.sz + k.sz := by omega
        _ = (i + 1) * k.sz := by rw [Nat.add_mul, Nat.one_mul]
        _ ≤ xs.length * k.sz := Nat.mul_le_mul_right _ hi
    have := h4.cellAt (i * k.sz + j) hlt
    rw [flatten_get hlen i j hi' hj] at this
    simpa using this
/-- what has been read since -/
theorem Ow.of_sl_cells (h : Ow k e w0 W v xs) {g : Nat} {c : Nat} (hv : v = .slice (some ⟨g, 0, none⟩) xs.length c) : w0.heap.size ≤ g ∧ g < W.heap.size := by
  obtain ⟨h1, css, h2, h3, h4⟩ := h
  have := h4.lt g (by rw [hv]; rfl)
  exact this
end
section
variable {P : Program} {ops : Array Oper} {rest : List Oper} {o : Oper} {a : Act} {Q : Exit → Act → World → Prop}
/-- append(v, y): behind it. The goal's world is W with the box of y behind it. -/
theorem app1 {α : Type} {k : Kd α} {e : TypeId} {w0 W : World} {v : Value} {xs : List α} (y : α) (c : List Value) (s x : Operand) (t : TypeId) (z : Value) (bytes : Nat)
    (hgd : o.guard = none) (ho : o.op = .call { callee := .builtin .append, args := #[s, x], argTypes := #[t, t] })
    (ht : P.underlying t = some (.slice e)) (hinfo : (P.info? e).map (fun i => (i.zero, i.size, i.bytes)) = some (some z, k.sz, bytes)) (hz : z.cells.size = k.sz) (hk0 : 0 < k.sz) (hb0 : 0 < bytes)
    (hs : a.eval s = v) (hx : a.eval x = .slice (some ⟨W.heap.size, 0, none⟩) 1 1) (HO : Ow k e w0 W v xs) (hr : k.rep w0 y c) (hl : (xs.length + 1) * bytes ≤ 140737488355328)
    (h : ∀ v1 W1, Ow k e w0 W1 v1 (xs ++ [y]) → W.grownBy W1 v.ownBlock → wpList P ops Q rest (a.put o.dst v1) W1) :
    wpList P ops Q (o :: rest) a (W.alloc (.cells c.toArray e)) := by
  obtain ⟨i0, hi, hzz⟩ := Option.map_eq_some_iff.1 hinfo
  simp only [Prod.mk.injEq] at hzz
  obtain ⟨hz0, hz1, hz2⟩ := hzz
  obtain ⟨hE, css, h2, h3, h4⟩ := HO
  have hcl := k.len hr
  have hlen : xs.length + 1 ≤ 140737488355328 := Nat.le_trans (Nat.le_mul_of_pos_right _ hb0) hl
  refine wpList_append_own (W.alloc (.cells c.toArray e)) hgd s x t ho w0.heap.size e i0 z k.sz bytes ht hi hz0 hz1 hz2 hz hk0 v xs.length css.flatten hs (h4.alloc _) ⟨W.heap.size, 0, none⟩ 1 1 c hx (by rw [hcl, Nat.one_mul])
    (World.news_of_block (cs := c.toArray) (t := e) (fr := (0, 0)) (heap_alloc_new W _)) (k.one hr) (by simp only [maxLen]; omega) hl (by have := hE.size; simp; omega) ?_
  intro v1 W1 hown hg _
  have hg' : W.grownBy W1 v.ownBlock := World.grownBy.trans (World.grownBy_alloc W _ _) hg
  refine h v1 W1 ⟨hE.grown hg' hE.size (fun b hb => (h4.lt b hb).1), css ++ [c], by simp [h2], fun i hi hi' => ?_, by simpa using hown⟩ hg'
  by_cases hlt : i < xs.length
  · rw [List.getElem_append_left hlt, List.getElem_append_left (by omega)]
    exact h3 i hlt (by omega)
  · have : i = xs.length := by simp at hi; omega
    subst this
    rw [List.getElem_append_right (by omega), List.getElem_append_right (by omega)]
    simpa [h2] using hr
/-- append(v, ys...), ys a slice that lay there in w0: behind it. -/
theorem appS {α : Type} {k : Kd α} {e : TypeId} {w0 W : World} {v : Value} {xs ys : List α} (A : Option Addr) (cc : Nat) (s x : Operand) (t : TypeId) (z : Value) (bytes : Nat)
    (hgd : o.guard = none) (ho : o.op = .call { callee := .builtin .append, args := #[s, x], argTypes := #[t, t] })
    (ht : P.underlying t = some (.slice e)) (hinfo : (P.info? e).map (fun i => (i.zero, i.size, i.bytes)) = some (some z, k.sz, bytes)) (hz : z.cells.size = k.sz) (hk0 : 0 < k.sz) (hb0 : 0 < bytes)
    (hs : a.eval s = v) (hx : a.eval x = .slice A ys.length cc) (HO : Ow k e w0 W v xs) (hys : SlA k w0 A ys) (hl : (xs.length + ys.length) * bytes ≤ 140737488355328) (hne : ys ≠ [])
    (h : ∀ v1 W1, Ow k e w0 W1 v1 (xs ++ ys) → W.grownBy W1 v.ownBlock → wpList P ops Q rest (a.put o.dst v1) W1) :
    wpList P ops Q (o :: rest) a W := by
  obtain ⟨i0, hi, hzz⟩ := Option.map_eq_some_iff.1 hinfo
  simp only [Prod.mk.injEq] at hzz
  obtain ⟨hz0, hz1, hz2⟩ := hzz
  obtain ⟨hE, css, h2, h3, h4⟩ := HO
  have hlen : xs.length + ys.length ≤ 140737488355328 := Nat.le_trans (Nat.le_mul_of_pos_right _ hb0) hl
  rcases hys with hys | ⟨b, off, rfl, hat⟩
  · exact absurd hys hne
  -- the elements' cells, chosen once
  have hch : ∃ f : Nat → List Value, ∀ i (hi : i < ys.length), k.rep w0 ys[i] (f i) ∧ At w0 b (off + i * k.sz) (f i) := by
    refine ⟨fun i => if hi : i < ys.length then (hat i hi).choose else [], fun i hi => ?_⟩
    simp only [hi, dif_pos]
    exact (hat i hi).choose_spec
  obtain ⟨f, hf⟩ := hch
  have hfl : ∀ c ∈ (List.range ys.length).map f, c.length = k.sz := by
    intro c hc
    obtain ⟨i, hi, rfl⟩ := List.mem_map.1 hc
    exact k.len (hf i (List.mem_range.1 hi)).1
  have hnl : ((List.range ys.length).map f).flatten.length = ys.length * k.sz := by
    rw [flatten_len hfl]
    simp
  refine wpList_append_own W hgd s x t ho w0.heap.size e i0 z k.sz bytes ht hi hz0 hz1 hz2 hz hk0 v xs.length css.flatten hs h4 ⟨b, off, none⟩ ys.length cc ((List.range ys.length).map f).flatten hx hnl ?_ ?_ (by simp only [maxLen]; omega) hl hE.size ?_
  · intro j u hu
    have hj : j < ys.length * k.sz := by
      rcases Nat.lt_or_ge j (ys.length * k.sz) with h | h
      · exact h
      · rw [List.getElem?_eq_none (by omega)] at hu; cases hu
    have hq : j / k.sz < ys.length := Nat.div_lt_of_lt_mul (by rwa [Nat.mul_comm])
    have hm : j % k.sz < k.sz := Nat.mod_lt _ hk0
    have hjd : j = j / k.sz * k.sz + j % k.sz := by rw [Nat.mul_comm]; exact (Nat.div_add_mod _ _).symm
    have hu' := flatten_get hfl (j / k.sz) (j % k.sz) (by simpa using hq) hm
    rw [← hjd, hu] at hu'
    have hcell := (hf _ hq).2 (j % k.sz) (by rw [k.len (hf _ hq).1]; exact hm) W hE
    have ha : (⟨b, off, none⟩ : Addr).add j = ⟨b, off + j / k.sz * k.sz + j % k.sz, none⟩ := by
      rw [Nat.add_assoc, ← hjd]
      unfold Addr.add
      split
      · rename_i h0; rw [h0]; rfl
      · rfl
    rw [ha, hcell]
    simpa using hu'.symm
  · intro u hu
    obtain ⟨c, hc, hu⟩ := List.mem_flatten.1 hu
    obtain ⟨i, hi, rfl⟩ := List.mem_map.1 hc
    exact k.one (hf i (List.mem_range.1 hi)).1 u hu
  · intro v1 W1 hown hg _
    refine h v1 W1 ⟨hE.grown hg hE.size (fun b hb => (h4.lt b hb).1), css ++ (List.range ys.length).map f, by simp [h2], fun i hi hi' => ?_, by simpa using hown⟩ hg
    by_cases hlt : i < xs.length
    · rw [List.getElem_append_left hlt, List.getElem_append_left (by omega)]
      exact h3 i hlt (by omega)
    · have hi2 : i - xs.length < ys.length := by simp at hi; omega
      rw [List.getElem_append_right (by omega), List.getElem_append_right (by omega)]
      simp only [h2, List.getElem_map, List.getElem_range]
      exact (hf _ hi2).1
/-- a literal -/
theorem Ow.lit {α : Type} {k : Kd α} {e : TypeId} {w0 W : World} (hE : Ext w0 W) {xs : List α} (css : List (List Value)) (cs : List Value) (hcs : css.flatten = cs) (hl : css.length = xs.length) (hlm : xs.length ≤ 1048576)
    (hr : ∀ i (h : i < xs.length) (h' : i < css.length), k.rep w0 xs[i] css[i]) : Ow k e w0 (W.alloc (.cells cs.toArray e)) (.slice (some ⟨W.heap.size, 0, none⟩) xs.length xs.length) xs := by
  refine ⟨hE.al _, css, hl, hr, ?_⟩
  have hfl : ∀ c ∈ css, c.length = k.sz := by
    intro c hc
    obtain ⟨j, hj, rfl⟩ := List.mem_iff_getElem.1 hc
    exact k.len (hr j (by omega) hj)
  have hn : cs.length = xs.length * k.sz := by
    rw [← hcs, flatten_len hfl, hl]
  have := World.ownsRow_lit (base := w0.heap.size) (e := e) (size := k.sz) W cs.toArray xs.length hE.size (by simp only [maxLen]; omega) (by simpa using hn)
  rw [hcs]
  simpa using this
end
end Go.Proofs.Tp
/- append of one element whose box lies somewhere; the step goals of a region that draws its order. -/
namespace Go.Proofs.Tp
open Go.RowKit
set_option linter.unusedVariables false
set_option linter.unusedSimpArgs false
section
variable {P : Program} {ops : Array Oper} {rest : List Oper} {o : Oper} {a : Act} {Q : Exit → Act → World → Prop}
/-- append(v, y): y's box is block g. -/
theorem app1g {α : Type} {k : Kd α} {e : TypeId} {w0 W : World} {v : Value} {xs : List α} (y : α) (c : List Value) (g : Nat) (s x : Operand) (t : TypeId) (z : Value) (bytes : Nat)
    (hgd : o.guard = none) (ho : o.op = .call { callee := .builtin .append, args := #[s, x], argTypes := #[t, t] })
    (ht : P.underlying t = some (.slice e)) (hinfo : (P.info? e).map (fun i => (i.zero, i.size, i.bytes)) = some (some z, k.sz, bytes)) (hz : z.cells.size = k.sz) (hk0 : 0 < k.sz) (hb0 : 0 < bytes)
    (hs : a.eval s = v) (hx : a.eval x = .slice (some ⟨g, 0, none⟩) 1 1) (hg : W.heap[g]? = some (.cells c.toArray e (0, 0))) (HO : Ow k e w0 W v xs) (hr : k.rep w0 y c) (hl : (xs.length + 1) * bytes ≤ 140737488355328)
    (h : ∀ v1 W1, Ow k e w0 W1 v1 (xs ++ [y]) → W.grownBy W1 v.ownBlock → wpList P ops Q rest (a.put o.dst v1) W1) :
    wpList P ops Q (o :: rest) a W := by
  obtain ⟨i0, hi, hzz⟩ := Option.map_eq_some_iff.1 hinfo
  simp only [Prod.mk.injEq] at hzz
  obtain ⟨hz0, hz1, hz2⟩ := hzz
  obtain ⟨hE, css, h2, h3, h4⟩ := HO
  have hcl := k.len hr
  have hlen : xs.length + 1 ≤ 140737488355328 := Nat.le_trans (Nat.le_mul_of_pos_right _ hb0) hl
  refine wpList_append_own W hgd s x t ho w0.heap.size e i0 z k.sz bytes ht hi hz0 hz1 hz2 hz hk0 v xs.length css.flatten hs h4 ⟨g, 0, none⟩ 1 1 c hx (by rw [hcl, Nat.one_mul])
    (World.news_of_block (cs := c.toArray) (t := e) (fr := (0, 0)) hg) (k.one hr) (by simp only [maxLen]; omega) hl hE.size ?_
  intro v1 W1 hown hg' _
  refine h v1 W1 ⟨hE.grown hg' hE.size (fun b hb => (h4.lt b hb).1), css ++ [c], by simp [h2], fun i hi hi' => ?_, by simpa using hown⟩ hg'
  by_cases hlt : i < xs.length
  · rw [List.getElem_append_left hlt, List.getElem_append_left (by omega)]
    exact h3 i hlt (by omega)
  · have : i = xs.length := by simp at hi; omega
    subst this
    rw [List.getElem_append_right (by omega), List.getElem_append_right (by omega)]
    simpa [h2] using hr
end
/-- A fresh row: made since w, on top of some world in between. -/
def OwX {α : Type} (k : Kd α) (e : TypeId) (w W : World) (v : Value) (xs : List α) : Prop := ∃ w1, Ext w w1 ∧ Ow k e w1 W v xs
theorem OwX.ext {α : Type} {k : Kd α} {e : TypeId} {w W W' : World} {v : Value} {xs : List α} (h : OwX k e w W v xs) (x : Ext W W') : OwX k e w W' v xs := let ⟨w1, h1, h2⟩ := h; ⟨w1, h1, h2.ext x⟩
theorem OwX.sl {α : Type} {k : Kd α} {e : TypeId} {w W : World} {v : Value} {xs : List α} (h : OwX k e w W v xs) (hl : xs.length ≤ 1048576) : Sl k W v xs := let ⟨_, _, h2⟩ := h; h2.sl hl
theorem OwX.le {α : Type} {k : Kd α} {e : TypeId} {w W : World} {v : Value} {xs : List α} (h : OwX k e w W v xs) : Ext w W := let ⟨_, h1, h2⟩ := h; h1.trans h2.1
/-- A block of the call's own, whose cells are known: it stays so in every later world. -/
def Bl (w0 : World) (T : TypeId) (cs : List Value) (v : Value) (W : World) : Prop := ∃ g, v = .pointer (some ⟨g, 0, none⟩) ∧ w0.heap.size ≤ g ∧ g < W.heap.size ∧ W.heap[g]? = some (.cells cs.toArray T (0, 0))
/-- A literal slice of the call's own. -/
def Li (w0 : World) (T : TypeId) (n : Nat) (cs : List Value) (v : Value) (W : World) : Prop := ∃ g, v = .slice (some ⟨g, 0, none⟩) n n ∧ w0.heap.size ≤ g ∧ g < W.heap.size ∧ W.heap[g]? = some (.cells cs.toArray T (0, 0))
theorem heap_ext {W W' : World} (h : Ext W W') {g : Nat} {o : Obj} (hg : g < W.heap.size) (hb : W.heap[g]? = some o) : W'.heap[g]? = some o := (h.block g hg).trans hb
theorem Bl.ext {w0 W W' : World} {T : TypeId} {cs : List Value} {v : Value} (h : Bl w0 T cs v W) (e : Ext W W') : Bl w0 T cs v W' := by
  obtain ⟨g, h1, h2, h3, h4⟩ := h
  exact ⟨g, h1, h2, Nat.lt_of_lt_of_le h3 e.size, heap_ext e h3 h4⟩
theorem Li.ext {w0 W W' : World} {T : TypeId} {n : Nat} {cs : List Value} {v : Value} (h : Li w0 T n cs v W) (e : Ext W W') : Li w0 T n cs v W' := by
  obtain ⟨g, h1, h2, h3, h4⟩ := h
  exact ⟨g, h1, h2, Nat.lt_of_lt_of_le h3 e.size, heap_ext e h3 h4⟩
theorem Bl.new {w0 W : World} (h : Ext w0 W) (T : TypeId) (cs : List Value) : Bl w0 T cs (.pointer (some ⟨W.heap.size, 0, none⟩)) (W.alloc (.cells cs.toArray T)) :=
  ⟨W.heap.size, rfl, h.size, by simp, heap_alloc_new W _⟩
theorem Li.new {w0 W : World} (h : Ext w0 W) (T : TypeId) (n : Nat) (cs : List Value) : Li w0 T n cs (.slice (some ⟨W.heap.size, 0, none⟩) n n) (W.alloc (.cells cs.toArray T)) :=
  ⟨W.heap.size, rfl, h.size, by simp, heap_alloc_new W _⟩
end Go.Proofs.Tp
