import Derived.Test.YtnlknpcbdciljaaLe1
import Derived.RangeFuncNested
import Derived.RangeFuncBound
import Derived.RangeFuncCalls
import Derived.RangeFuncLeaves
import Derived.Shelf.Abstract
import Derived.Shelf.RegionOpen
import Derived.OwnWalkIn
import Derived.TacticsInMore
import Derived.LoopNIn
import Derived.LoopIn
/- Package cipher: the iterator over all keys that agree with codes and guesses: plain laws, and what a round keeps. -/
namespace Go.Proofs.Tp
open Go.RowKit Go.Proofs.Gr
set_option linter.unusedVariables false
set_option linter.unusedSimpArgs false
set_option maxRecDepth 100000
attribute [local go_sem] below_alloc' below_drewN' below_drew' below_set' Below.refl
abbrev VK (s : Int) := { k : CKey // keyB s k = true }
def encK (s : Int) (x : VK s) : Array Value := #[.agg #[.int .i64 x.1.mul, .int .i64 x.1.add, .int .i64 x.1.step]]
def Agr (s : Int) (xs : List Int) (gs : List Guess) (k : CKey) : Prop := gs.all (agreeF s k xs) = true
theorem vk_bound {s : Int} {k : CKey} (h : keyB s k = true) : (1 ≤ k.mul ∧ k.mul ≤ s - 1) ∧ (0 ≤ k.add ∧ k.add ≤ s - 1) ∧ 0 ≤ k.step ∧ k.step ≤ s - 1 := by
  simp only [keyB, inR, Bool.and_eq_true, decide_eq_true_eq] at h
  exact ⟨h.1.1, h.1.2, h.2⟩
theorem vk_mk {s m a st : Int} (h1 : 1 ≤ m ∧ m ≤ s - 1) (h2 : 0 ≤ a ∧ a ≤ s - 1) (h3 : 0 ≤ st ∧ st ≤ s - 1) : keyB s ⟨m, a, st⟩ = true := by
  simp only [keyB, inR, Bool.and_eq_true, decide_eq_true_eq]
  exact ⟨⟨h1, h2⟩, h3⟩
theorem adds_val (s M a : Int) (h0 : 0 ≤ a) (h1 : a < s) : ((M + a) % s + s - M % s) % s = a := by
  have e : (M + a) % s + s - M % s = ((M + a) % s - M % s) + s := by omega
  rw [e, Int.add_emod_right, ← Int.sub_emod, show M + a - M = a by omega]
  exact Int.emod_eq_of_lt h0 h1
/-- what Add can be -/
theorem adds_cover {s : Int} {xs : List Int} {gs : List Guess} {k : CKey} (hs : 1 ≤ s) (hk : keyB s k = true) (ha : Agr s xs gs k) : k.add ∈ addsF s ⟨k.mul, 0, k.step⟩ xs gs := by
  obtain ⟨_, h2, _⟩ := vk_bound hk
  cases gs with
  | nil =>
    refine List.mem_map.2 ⟨k.add.toNat, List.mem_range.2 (by omega), by omega⟩
  | cons g gs =>
    have h := (List.all_eq_true.1 ha) g List.mem_cons_self
    simp only [agreeF, beq_iff_eq] at h
    refine List.mem_singleton.2 ?_
    rw [← h]
    have := adds_val s (k.mul * g.plain + g.at_ * k.step) k.add h2.1 (by omega)
    simp only [codeF]
    rw [show k.mul * g.plain + k.add + g.at_ * k.step = k.mul * g.plain + g.at_ * k.step + k.add by omega, show k.mul * g.plain + 0 + g.at_ * k.step = k.mul * g.plain + g.at_ * k.step by omega]
    exact this.symm
theorem adds_range {s : Int} {xs : List Int} {gs : List Guess} {k : CKey} (hs : 1 ≤ s) : ∀ a ∈ addsF s k xs gs, 0 ≤ a ∧ a ≤ s - 1 := by
  intro a ha
  cases gs with
  | nil =>
    obtain ⟨n, hn, rfl⟩ := List.mem_map.1 ha
    have := List.mem_range.1 hn
    omega
  | cons g gs =>
    rw [List.mem_singleton.1 ha]
    have h1 := Int.emod_nonneg (xs.getD g.at_.toNat 0 + s - codeF s k g.plain g.at_) (show s ≠ 0 by omega)
    have h2 := Int.emod_lt_of_pos (xs.getD g.at_.toNat 0 + s - codeF s k g.plain g.at_) (show 0 < s by omega)
    omega
theorem adds_len {s : Int} {xs : List Int} {gs : List Guess} {k : CKey} (hs : 1 ≤ s ∧ s ≤ 41) : (addsF s k xs gs).length ≤ 41 := by
  cases gs with
  | nil => rw [addsF, List.length_map, List.length_range]; omega
  | cons g gs => exact Nat.le_trans (Nat.le_refl 1) (by decide)
theorem adds_58 (s wd : Int) (k : CKey) (xs : List Int) (gs : List Guess) (KK D : Value) (A B : Option Addr) (c d : Nat) (w : World) (hs : 1 ≤ s ∧ s ≤ 1000) (h1 : 0 ≤ k.mul ∧ k.mul ≤ 1000) (h2 : 0 ≤ k.add ∧ k.add ≤ 1000) (h3 : 0 ≤ k.step ∧ k.step ≤ 1000) (hl : xs.length ≤ 1000) (hgl : gs.length ≤ 1000)
    (hg : ∀ g ∈ gs, (0 ≤ g.at_ ∧ g.at_ < xs.length) ∧ 0 ≤ g.plain ∧ g.plain ≤ 1000) (hxb : ∀ x ∈ xs, 0 ≤ x ∧ x ≤ 1000) (hK : KK.oneCell' = true) (hD : D.oneCell' = true) (hx : SlA intK w A xs) (hgs : SlA guessK w B gs) :
    Calls Try.prog 58 #[.agg #[.int .i64 s, .int .i64 wd, KK, D], .agg #[.int .i64 k.mul, .int .i64 k.add, .int .i64 k.step], .slice A xs.length c, .slice B gs.length d] w fun e w' => ∃ v, e = .returned v ∧ OwX intK 3 w w' v (addsF s k xs gs) := by
  cases gs with
  | nil => exact adds_58_none s wd k KK D _ B d w hs hK hD
  | cons g gs => exact adds_58_some s wd k xs g gs KK D A B c d w hs h1 h2 h3 hl hgl (hg g List.mem_cons_self).1 (hg g List.mem_cons_self).2 hxb hK hD hx hgs
/-- what a round keeps: all cells but those of block g -/
structure KC (n0 g : Nat) (W W' : World) : Prop where
  below : Below n0 W W'
  same : ∀ (k : Nat) (cs : Array Value) (T : TypeId) (fr : Nat × Nat), W.heap[k]? = some (.cells cs T fr) → k ≠ g → W'.heap[k]? = some (.cells cs T fr)
theorem KC.trans {n0 g : Nat} {A B C : World} (h : KC n0 g A B) (k : KC n0 g B C) : KC n0 g A C := ⟨h.below.trans k.below, fun i cs T fr hi hne => k.same i cs T fr (h.same i cs T fr hi hne) hne⟩
theorem KC.put {n0 g : Nat} {w : World} (hn : n0 ≤ w.heap.size) (W : World) (l : Nat) (o o' : Obj) (hl : w.heap.size ≤ l) (h : W.heap[l]? = some o) (h1 : o.isCells = false) (h2 : o.isWalk = false) : KC n0 g W (W.putObj l o') := by
  refine ⟨belowK_b hn W l o o' hl h h1 h2, fun k cs T fr hk _ => ?_⟩
  by_cases e : k = l
  · subst e; rw [h] at hk; injection hk with hk; rw [hk] at h1; cases h1
  · exact (World.putObj_heap_other e).trans hk
theorem KC.of_ext {n0 g : Nat} {W W' : World} (e : Ext W W') (hn : n0 ≤ W.heap.size) : KC n0 g W W' := ⟨e.mono hn, fun k cs T fr hk _ => (e.block k (heap_lt hk)).trans hk⟩
/-- the boxes of the iterator -/
structure KS (s wd : Int) (KK D : Value) (A B : Option Addr) (c d n m : Nat) (w0 : World) (Bk g : Nat) (W : World) : Prop where
  ext : Ext w0 W
  b0 : W.heap[Bk]? = some (.cells #[.int .i64 s, .int .i64 wd, KK, D] 49 (0, 0))
  b1 : W.heap[Bk + 1]? = some (.cells #[.slice A n c] 26 (0, 0))
  b2 : W.heap[Bk + 1 + 1]? = some (.cells #[.slice B m d] 51 (0, 0))
  lt : g < W.heap.size
theorem KS.of_ext {s wd : Int} {KK D : Value} {A B : Option Addr} {c d n m : Nat} {w0 : World} {Bk g : Nat} {W W' : World} (h : KS s wd KK D A B c d n m w0 Bk g W) (e : Ext W W') : KS s wd KK D A B c d n m w0 Bk g W' :=
  ⟨h.ext.trans e, (e.block _ (heap_lt h.b0)).trans h.b0, (e.block _ (heap_lt h.b1)).trans h.b1, (e.block _ (heap_lt h.b2)).trans h.b2, Nat.lt_of_lt_of_le h.lt e.size⟩
theorem KS.of_kc {s wd : Int} {KK D : Value} {A B : Option Addr} {c d n m : Nat} {w0 : World} {Bk g : Nat} {W W' : World} (h : KS s wd KK D A B c d n m w0 Bk g W) (hg : g < Bk) (e : KC w0.heap.size g W W') : KS s wd KK D A B c d n m w0 Bk g W' :=
  ⟨Below.trans h.ext e.below, e.same _ _ _ _ h.b0 (by omega), e.same _ _ _ _ h.b1 (by omega), e.same _ _ _ _ h.b2 (by omega), Nat.lt_of_lt_of_le h.lt e.below.size⟩
theorem KS.cells {s wd : Int} {KK D : Value} {A B : Option Addr} {c d n m : Nat} {w0 : World} {Bk g : Nat} {W : World} (h : KS s wd KK D A B c d n m w0 Bk g W) :
    (W.cell? ⟨Bk, 0, none⟩ = some (.int .i64 s) ∧ W.cell? ⟨Bk, 1, none⟩ = some (.int .i64 wd) ∧ W.cell? ⟨Bk, 2, none⟩ = some KK ∧ W.cell? ⟨Bk, 3, none⟩ = some D) ∧ W.cell? ⟨Bk + 1, 0, none⟩ = some (.slice A n c) ∧ W.cell? ⟨Bk + 1 + 1, 0, none⟩ = some (.slice B m d) := by
  refine ⟨⟨?_, ?_, ?_, ?_⟩, ?_, ?_⟩
  · rw [cell_of_row W _ _ _ _ _ h.b0]; rfl
  · rw [cell_of_row W _ _ _ _ _ h.b0]; rfl
  · rw [cell_of_row W _ _ _ _ _ h.b0]; rfl
  · rw [cell_of_row W _ _ _ _ _ h.b0]; rfl
  · rw [cell_of_row W _ _ _ _ _ h.b1]; rfl
  · rw [cell_of_row W _ _ _ _ _ h.b2]; rfl
end Go.Proofs.Tp
