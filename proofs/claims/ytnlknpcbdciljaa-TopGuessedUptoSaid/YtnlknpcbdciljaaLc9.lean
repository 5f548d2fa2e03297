import Derived.Test.YtnlknpcbdciljaaLc8
import Derived.Lib.SliceRun
/- slices.Clone; the boxes of 'texts'. -/
namespace Go.Proofs.Tp
open Go.RowKit Go.Proofs.Gr
set_option linter.unusedVariables false
set_option linter.unusedSimpArgs false
set_option maxRecDepth 100000
attribute [local go_sem] below_alloc' below_drewN' below_drew' below_set' Below.refl
theorem clone_46 {B : Nat} {v : Value} {xs : List Nat} {W : World} (h : IR B W v xs) (hl : xs.length ≤ 1000) :
    Calls Try.prog 46 #[v] W fun e W' => ∃ c, e = .returned c ∧ Ext W W' ∧ IR W.heap.size W' c xs := by
  have q := fun (w : World) (a : Option Addr) (n c n' c' : Nat) => Lib.run_eql_slice_nil (P := Try.prog) w 26 3 a n c n' c' Try.underlying26
  rcases h.form with ⟨rfl, rfl⟩ | ⟨g, cap, cur, rfl, hbg, hg, hnc, hcm, hcs, htake⟩
  · go_enter Try.func46, Try.ntmps46
    go_wp2
    go_ret
    exact ⟨_, rfl, Ext.refl _, IR.nil _ _⟩
  · have hlit : IR W.heap.size (W.alloc (.cells #[] 3)) (.slice (some ⟨W.heap.size, 0, none⟩) 0 0) [] := IR.of (Nat.le_refl _) (heap_alloc_new W _) (Nat.le_refl _) (Nat.zero_le _) rfl rfl
    by_cases hne : xs = []
    · subst hne
      have HL := Lib.hid hlit
      clear hlit
      go_enter Try.func46, Try.ntmps46
      go_wp2
      go_ret
      exact ⟨_, rfl, e1 _ _, HL.out⟩
    · have hsrc : ∀ j u, (CI xs)[j]? = some u → (W.alloc (.cells #[] 3)).cell? ((⟨g, 0, none⟩ : Addr).add j) = some u := fun j u hu => by
        have hadd : (⟨g, 0, none⟩ : Addr).add j = ⟨g, j, none⟩ := by unfold Addr.add; split <;> simp_all
        rw [hadd, cell_of_row _ g j _ _ _ ((e1 W (.cells #[] 3)).block _ (heap_lt hg) |>.trans hg)]
        rw [← htake, List.getElem?_take] at hu
        split at hu
        · simpa using hu
        · cases hu
      have hone : ∀ u ∈ CI xs, u.oneCell' = true := by
        intro u hu
        obtain ⟨x, _, rfl⟩ := List.mem_map.1 hu
        rfl
      obtain ⟨i, hi, hz, h1, h2⟩ := info_parts inf3
      have hpos : 0 < xs.length := List.length_pos_iff.2 hne
      have HL := Lib.hid hlit
      have HC := Lib.hid hsrc
      clear hlit hsrc htake
      go_enter Try.func46, Try.ntmps46
      go_wp2_with (at_builtin; refine wpList_append_own _ rfl _ _ 26 rfl W.heap.size 3 i (.int .i64 0) 1 8 Try.underlying26 hi hz h1 h2 rfl (by decide) _ 0 [] rfl HL.out ⟨g, 0, none⟩ xs.length cap (CI xs) rfl (by simp [CI_len]) HC.out hone (by unfold maxLen; omega) (by omega) (by simp) ?_; intro v1 W1 hO hgr _)
      go_ret
      refine ⟨_, rfl, ?_, ?_⟩
      · have := (e1 W (.cells #[] 3)).grown hgr (by simp) (fun k e => by cases e; exact Nat.le_refl _)
        exact this
      · unfold IR
        simpa using hO
theorem after_bnd (rd : Bytes) : ∀ (ss : Bytes) (r b : Row) (l : UInt8), bnd r → bnd b → bnd (afterF rd r b l ss)
  | [], r, b, l, hr, hb => hr
  | s :: ss, r, b, l, hr, hb => after_bnd rd ss _ _ _ (sign_bound _ _ _ _ _ hr hb) hr
theorem zero_bnd : bnd zeroRow := fun j => ⟨by simp [zeroRow], by simp [zeroRow]⟩
theorem flatMap_count {α : Type} (f : Nat → List α) (K : Nat) (hf : ∀ n, (f n).length ≤ K) : ∀ n, ((List.range n).flatMap f).length ≤ n * K
  | 0 => by simp
  | n + 1 => by
    have := flatMap_count f K hf n
    have := hf n
    rw [List.range_succ, List.flatMap_append, List.length_append, Nat.add_mul, Nat.one_mul, List.flatMap_singleton]
    omega
theorem add_count (ls : List Bytes) (rd : Bytes) (e : Int) : ∀ (m : Nat) (pre : List Nat) (r : Row), (addF ls rd e m pre r).length ≤ ls.length ^ m
  | 0, pre, r => by
    rw [addF]
    split
    · simp
    · split <;> simp
  | m + 1, pre, r => by
    rw [addF]
    split
    · simp
    · rw [Nat.pow_succ, Nat.mul_comm]
      exact flatMap_count _ _ (fun n => add_count ls rd e m _ _) _
/-- the boxes of 'texts', and what has come out -/
structure TC (ls : List ByteArray) (LA : Option Addr) (lc : Nat) (rd : ByteArray) (E : Int) (N : Nat) (w : World) (W : World) (outv : Value) (css : List Value) (texts : List (List Nat)) : Prop where
  ext : Ext w W
  b2 : W.heap[w.heap.size]? = some (.cells #[.slice LA ls.length lc, .string rd, .int .i64 E] 99 (0, 0))
  b3 : W.heap[w.heap.size + 1]? = some (.cells #[.int .i64 N] 3 (0, 0))
  b4 : W.heap[w.heap.size + 2]? = some (.cells #[outv] 61 (0, 0))
  b5 : W.heap[w.heap.size + 3]? = some (.cells #[.func (.func 75) #[] #[.pointer (some ⟨w.heap.size, 0, none⟩), .pointer (some ⟨w.heap.size + 1, 0, none⟩), .pointer (some ⟨w.heap.size + 2, 0, none⟩), .pointer (some ⟨w.heap.size + 3, 0, none⟩)]] 119 (0, 0))
  out : W.ownsRow (w.heap.size + 4) 26 1 outv texts.length css
  len : css.length = texts.length
  each : ∀ i (h : i < texts.length) (h' : i < css.length), IR (w.heap.size + 4) W css[i] texts[i]
/-- what a call of 'add' keeps -/
structure Fr (B : Nat) (t : Option Nat) (pre : List Nat) (W W' : World) : Prop where
  size : W.heap.size ≤ W'.heap.size
  rows : ∀ v ys, IR B W v ys → (v.ownBlock ≠ t ∨ ys <+: pre) → IR B W' v ys
  oth : ∀ (j : Nat) (cs : Array Value) (T : TypeId) (fr : Nat × Nat), W.heap[j]? = some (.cells cs T fr) → T ≠ 3 → T ≠ 26 → T ≠ 61 → W'.heap[j]? = some (.cells cs T fr)
theorem Fr.refl (B : Nat) (t : Option Nat) (pre : List Nat) (W : World) : Fr B t pre W W := ⟨Nat.le_refl _, fun _ _ h _ => h, fun _ _ _ _ h _ _ _ => h⟩
theorem Fr.trans {B : Nat} {t : Option Nat} {pre : List Nat} {A C D : World} (h : Fr B t pre A C) (k : Fr B t pre C D) : Fr B t pre A D :=
  ⟨Nat.le_trans h.size k.size, fun v ys hi hc => k.rows v ys (h.rows v ys hi hc) hc, fun j cs T fr hj a b c => k.oth j cs T fr (h.oth j cs T fr hj a b c) a b c⟩
theorem Fr.of_ext {B : Nat} {t : Option Nat} {pre : List Nat} {W W' : World} (e : Ext W W') : Fr B t pre W W' :=
  ⟨e.size, fun v ys h _ => h.ext e, fun j cs T fr h _ _ _ => (e.block j (heap_lt h)).trans h⟩
theorem TC.of_ext {ls : List ByteArray} {LA : Option Addr} {lc : Nat} {rd : ByteArray} {E : Int} {N : Nat} {w W W' : World} {outv : Value} {css : List Value} {texts : List (List Nat)} (h : TC ls LA lc rd E N w W outv css texts) (e : Ext W W') : TC ls LA lc rd E N w W' outv css texts :=
  ⟨h.ext.trans e, (e.block _ (heap_lt h.b2)).trans h.b2, (e.block _ (heap_lt h.b3)).trans h.b3, (e.block _ (heap_lt h.b4)).trans h.b4, (e.block _ (heap_lt h.b5)).trans h.b5,
    h.out.kept (grownBy_ext e) (by cases outv.ownBlock <;> simp), h.len, fun i h1 h2 => (h.each i h1 h2).ext e⟩
/-- behind an append to a text's row -/
theorem TC.of_row {ls : List ByteArray} {LA : Option Addr} {lc : Nat} {rd : ByteArray} {E : Int} {N : Nat} {w W W' : World} {outv : Value} {css : List Value} {texts : List (List Nat)} (h : TC ls LA lc rd E N w W outv css texts) {v : Value} {pre : List Nat} (hv : IR (w.heap.size + 4) W v pre)
    (hg : W.grownBy W' v.ownBlock) (hne : ∀ c ∈ css, c.ownBlock = none ∨ c.ownBlock ≠ v.ownBlock) : TC ls LA lc rd E N w W' outv css texts := by
  have far : ∀ j o, W.heap[j]? = some o → j < w.heap.size + 4 → W'.heap[j]? = some o := fun j o hj hlt =>
    (hg.block j (heap_lt hj) (fun e => by have := (hv.block e.symm).1; omega)).trans hj
  refine ⟨h.ext.grown hg h.ext.size (fun k e => by have := (hv.block e).1; omega), far _ _ h.b2 (by omega), far _ _ h.b3 (by omega), far _ _ h.b4 (by omega), far _ _ h.b5 (by omega), h.out.kept hg ?_, h.len, fun i h1 h2 => (h.each i h1 h2).kept hg (hne _ (List.getElem_mem h2))⟩
  cases ho : outv.ownBlock with
  | none => exact .inl rfl
  | some g =>
    refine .inr fun e => ?_
    obtain ⟨cur, hc⟩ := ownBlock_row h.out ho
    exact hv.off hc (by decide) e.symm
end Go.Proofs.Tp
