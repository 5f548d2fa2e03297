import Derived.Test.YtnlknpcbdciljaaLe3
import Derived.Test.YtnlknpcbdciljaaGrowI
/- Package cipher: Possible: the round. -/
namespace Go.Proofs.Tp
open Go.RowKit Go.Proofs.Gr Go.Shelf
set_option linter.unusedVariables false
set_option linter.unusedSimpArgs false
set_option maxRecDepth 100000
attribute [local go_sem] below_alloc' below_drewN' below_drew' below_set' Below.refl
attribute [local go_sem] Oper.semAt_some
theorem decF_bound (s : Int) (k : CKey) (n a : Int) (hs : 0 < s) : 0 ≤ decF s k n a ∧ decF s k n a < s := ⟨Int.emod_nonneg _ (by omega), Int.emod_lt_of_pos _ hs⟩
/-- the boxes of 'Possible' between two rounds -/
structure PS (sn : Nat) (wd : Int) (KK D : Value) (A : Option Addr) (c n at_ : Nat) (x : Int) (w : World) (gS g11 : Nat) (pre : List (VK (sn : Int))) (W : World) : Prop where
  ext : Ext w W
  b4 : W.heap[w.heap.size]? = some (.cells #[.int .i64 sn, .int .i64 wd, KK, D] 49 (0, 0))
  b5 : W.heap[w.heap.size + 1]? = some (.cells #[.slice A n c] 26 (0, 0))
  b7 : W.heap[w.heap.size + 1 + 1]? = some (.cells #[.int .i64 at_] 3 (0, 0))
  b11 : W.heap[g11]? = some (.cells #[.slice (some ⟨gS, 0, none⟩) sn sn] 78 (0, 0))
  row : ∃ L : List Bool, L.length = sn ∧ W.heap[gS]? = some (.cells (L.map Value.bool).toArray 4 (0, 0)) ∧ ∀ k ∈ pre, L[(decF sn k.1 x at_).toNat]? = some true
theorem keepCells {B : Nat} {W W' : World} {row : Option Nat} (hg : W.grownBy W' row) (hr : ∀ r, row = some r → B ≤ r ∧ ∃ o : Obj, W.heap[r]? = some o ∧ o.isCells = false) {k : Nat} {cs : Array Value} {T : TypeId} {fr : Nat × Nat} (h : W.heap[k]? = some (.cells cs T fr)) : W'.heap[k]? = some (.cells cs T fr) := by
  refine (hg.block k (heap_lt h) fun e => ?_).trans h
  obtain ⟨_, o, ho, hc⟩ := hr k e.symm
  rw [h] at ho
  injection ho with ho
  rw [← ho] at hc
  cases hc
theorem PS.own {sn : Nat} {wd : Int} {KK D : Value} {A : Option Addr} {c n at_ : Nat} {x : Int} {w : World} {gS g11 B : Nat} (hB : w.heap.size ≤ B) : OwnFrom B (PS sn wd KK D A c n at_ x w gS g11) := by
  intro s W W' row h hg hr
  obtain ⟨L, h1, h2, h3⟩ := h.row
  exact ⟨(ownFrom_below (Nat.le_refl _) hB) s W W' row h.ext hg hr, keepCells hg hr h.b4, keepCells hg hr h.b5, keepCells hg hr h.b7, keepCells hg hr h.b11, L, h1, keepCells hg hr h2, h3⟩
theorem PS.of_ext {sn : Nat} {wd : Int} {KK D : Value} {A : Option Addr} {c n at_ : Nat} {x : Int} {w W W' : World} {gS g11 : Nat} {pre : List (VK (sn : Int))} (h : PS sn wd KK D A c n at_ x w gS g11 pre W) (e : Ext W W') : PS sn wd KK D A c n at_ x w gS g11 pre W' := by
  obtain ⟨L, h1, h2, h3⟩ := h.row
  exact ⟨h.ext.trans e, (e.block _ (heap_lt h.b4)).trans h.b4, (e.block _ (heap_lt h.b5)).trans h.b5, (e.block _ (heap_lt h.b7)).trans h.b7, (e.block _ (heap_lt h.b11)).trans h.b11, L, h1, (e.block _ (heap_lt h2)).trans h2, h3⟩
theorem PS.cells {sn : Nat} {wd : Int} {KK D : Value} {A : Option Addr} {c n at_ : Nat} {x : Int} {w W : World} {gS g11 : Nat} {pre : List (VK (sn : Int))} (h : PS sn wd KK D A c n at_ x w gS g11 pre W) :
    (W.cell? ⟨w.heap.size, 0, none⟩ = some (.int .i64 sn) ∧ W.cell? ⟨w.heap.size, 1, none⟩ = some (.int .i64 wd) ∧ W.cell? ⟨w.heap.size, 2, none⟩ = some KK ∧ W.cell? ⟨w.heap.size, 3, none⟩ = some D) ∧ W.cell? ⟨w.heap.size + 1, 0, none⟩ = some (.slice A n c) ∧ W.cell? ⟨w.heap.size + 1 + 1, 0, none⟩ = some (.int .i64 at_) ∧ W.cell? ⟨g11, 0, none⟩ = some (.slice (some ⟨gS, 0, none⟩) sn sn) := by
  refine ⟨⟨?_, ?_, ?_, ?_⟩, ?_, ?_, ?_⟩
  · rw [cell_of_row W _ _ _ _ _ h.b4]; rfl
  · rw [cell_of_row W _ _ _ _ _ h.b4]; rfl
  · rw [cell_of_row W _ _ _ _ _ h.b4]; rfl
  · rw [cell_of_row W _ _ _ _ _ h.b4]; rfl
  · rw [cell_of_row W _ _ _ _ _ h.b5]; rfl
  · rw [cell_of_row W _ _ _ _ _ h.b7]; rfl
  · rw [cell_of_row W _ _ _ _ _ h.b11]; rfl
/-- one more is seen -/
theorem PS.set {sn : Nat} {wd : Int} {KK D : Value} {A : Option Addr} {c n at_ : Nat} {x : Int} {w W : World} {gS g11 : Nat} {pre : List (VK (sn : Int))} (h : PS sn wd KK D A c n at_ x w gS g11 pre W) (hg1 : w.heap.size + 1 + 1 < gS) (hg2 : gS < g11) (k : VK (sn : Int)) (dn : Nat) (hd : decF sn k.1 x at_ = dn) (hdn : dn < sn) :
    PS sn wd KK D A c n at_ x w gS g11 (pre ++ [k]) (W.setCell ⟨gS, dn, none⟩ (.bool true)) ∧ (∃ u, W.cell? ⟨gS, dn, none⟩ = some u) ∧ W.frozen? ⟨gS, dn, none⟩ = false := by
  obtain ⟨L, h1, h2, h3⟩ := h.row
  have hs := grownBy_set W gS dn (.bool true)
  have far : ∀ {j cs T fr}, W.heap[j]? = some (.cells cs T fr) → j ≠ gS → (W.setCell ⟨gS, dn, none⟩ (.bool true)).heap[j]? = some (.cells cs T fr) := fun {j cs T fr} hj hne => (hs.block j (heap_lt hj) (fun e => by injection e with e; exact hne e)).trans hj
  refine ⟨⟨ext_set h.ext (by omega) _, far h.b4 (by omega), far h.b5 (by omega), far h.b7 (by omega), far h.b11 (by omega), L.set dn true, by simpa using h1, ?_, fun q hq => ?_⟩, ⟨.bool L[dn], ?_⟩, frozen_of_row W _ _ _ _ h2⟩
  · rw [heap_setAt (.bool true) h2]
    simp [List.map_set]
  · rw [List.getElem?_set]
    by_cases e : dn = (decF sn q.1 x at_).toNat
    · rw [if_pos e, if_pos (by omega)]
    · rw [if_neg e]
      rcases List.mem_append.1 hq with hq | hq
      · exact h3 q hq
      · have hq' := List.mem_singleton.1 hq
        subst hq'
        exact absurd (by rw [hd, Int.toNat_natCast]) e
  · rw [cell_of_row W _ _ _ _ _ h2]
    simp [show dn < L.length by omega]
/-- the frame of a round -/
structure FrO (b g11 Bx : Nat) (a : Act) : Prop where
  sz : a.tmps.size = 65
  df : a.defers = []
  t4 : a.tmps[4]?.getD undef = .pointer (some ⟨b, 0, none⟩)
  t5 : a.tmps[5]?.getD undef = .pointer (some ⟨b + 1, 0, none⟩)
  t7 : a.tmps[7]?.getD undef = .pointer (some ⟨b + 1 + 1, 0, none⟩)
  t11 : a.tmps[11]?.getD undef = .pointer (some ⟨g11, 0, none⟩)
  t12 : a.tmps[12]?.getD undef = .pointer (some ⟨Bx, 0, none⟩)
def AxP (b g11 : Nat) (sn : Nat) (k : VK (sn : Int)) (a : Act) (W : World) : Prop := ∃ Bx, FrO b g11 Bx a ∧ W.heap[Bx]? = some (.cells #[.int .i64 k.1.mul, .int .i64 k.1.add, .int .i64 k.1.step] 57 (0, 0))
theorem AxP.own {b g11 sn : Nat} {k : VK (sn : Int)} {a : Act} {B : Nat} : OwnFrom B (fun (_ : Unit) W => AxP b g11 sn k a W) := by
  rintro s W W' row ⟨Bx, h1, h2⟩ hg hr
  exact ⟨Bx, h1, keepCells hg hr h2⟩
end Go.Proofs.Tp
