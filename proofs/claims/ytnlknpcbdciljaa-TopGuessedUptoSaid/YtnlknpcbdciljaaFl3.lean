import Derived.Test.YtnlknpcbdciljaaFl2
import Derived.Test.YtnlknpcbdciljaaLaw
import Derived.Deep.Cut
import Derived.Deep.CutRange
/- Package flash: rows of errors. -/
namespace Go.Proofs.Tp
open Go.RowKit
set_option linter.unusedVariables false
set_option linter.unusedSimpArgs false
set_option maxRecDepth 100000
attribute [local go_sem] below_alloc' below_drewN' below_drew' below_set' Below.refl
def rowCells (r : Row) : List Value := (List.range 41).map fun k => .int .i64 (r k)
def rowV (r : Row) : Value := .agg (rowCells r).toArray
theorem rowCells_len (r : Row) : (rowCells r).length = 41 := by simp [rowCells]
/-- an array of 41 numbers in block g; what lies below g lies as it lay in w0 -/
structure Arr (w0 : World) (g : Nat) (f : Row) (W : World) : Prop where
  below : Below g w0 W
  row : W.heap[g]? = some (.cells (rowCells f).toArray 121 (0, 0))
theorem Arr.lt {w0 W : World} {g : Nat} {f : Row} (h : Arr w0 g f W) : g < W.heap.size := by
  rcases Nat.lt_or_ge g W.heap.size with h1 | h1
  · exact h1
  · have := h.row
    rw [Array.getElem?_eq_none h1] at this
    cases this
theorem row_get (f : Row) (j : Nat) (hj : j < 41) : (rowCells f).toArray[j]? = some (.int .i64 (f j)) := by
  simp [rowCells, hj]
theorem Arr.cell {w0 W : World} {g : Nat} {f : Row} (h : Arr w0 g f W) (j : Nat) (hj : j < 41) : W.cell? ⟨g, j, none⟩ = some (.int .i64 (f j)) := by
  rw [cell_of_row W g j _ _ _ h.row, row_get f j hj]
theorem Arr.froz {w0 W : World} {g : Nat} {f : Row} (h : Arr w0 g f W) (j : Nat) (hj : j < 41) : W.frozen? ⟨g, j, none⟩ = false := by
  simp [World.frozen?, h.row]
def upd (f : Row) (k : Nat) (v : Int) : Row := fun j => if j = k then v else f j
theorem setCell_off (w : World) (g i j : Nat) (v : Value) (h : i ≠ j) : (w.setCell ⟨g, i, none⟩ v).cell? ⟨g, j, none⟩ = w.cell? ⟨g, j, none⟩ :=
  World.cell?_setCell_other w _ _ _ (by intro e; injection e with _ e; exact h e)
theorem byte_get (s : ByteArray) (k : Nat) (h : k < s.size) : s.data.toList[k]? = some s[k] := by
  have h' : k < s.data.toList.length := by simpa using h
  rw [List.getElem?_eq_getElem h']
  rfl
theorem byte_eq (s : ByteArray) (k : Nat) (h : k < s.size) (c : UInt8) (d : Int) (hd : d = (c.toNat : Int)) : ((s[k].toNat : Int) == d) = decide (s.data.toList[k]? = some c) := by
  rw [byte_get s k h, hd, Bool.eq_iff_iff, beq_iff_eq, decide_eq_true_eq]
  constructor
  · intro e
    rw [UInt8.toNat_inj.1 (Int.ofNat.inj e)]
  · intro e
    rw [Option.some.inj e]
theorem begun_bound (rd : Bytes) : ∀ k, 0 ≤ begunRow rd k ∧ begunRow rd k ≤ farF
  | 0 => by simp [begunRow, farF]
  | k + 1 => by
    have := begun_bound rd k
    unfold farF at *
    rw [begunRow]
    split <;> unfold farF at * <;> omega
theorem Arr.set {w0 W : World} {g : Nat} {f : Row} (h : Arr w0 g f W) (k : Nat) (hk : k < 41) (v : Int) : Arr w0 g (upd f k v) (W.setCell ⟨g, k, none⟩ (.int .i64 v)) := by
  refine ⟨h.below.setCell (Nat.le_refl _) _, ?_⟩
  have he : (rowCells (upd f k v)).toArray = (rowCells f).toArray.setIfInBounds k (.int .i64 v) := by
    apply Array.ext
    · simp [rowCells]
    · intro i h1 h2
      have hi : i < 41 := by simpa [rowCells] using h1
      rw [Array.getElem_setIfInBounds (by simpa [rowCells] using hi)]
      by_cases e : k = i
      · subst e
        simp [rowCells, upd]
      · have : ¬ i = k := fun h => e h.symm
        simp [rowCells, upd, e, this]
  rw [he]
  simp only [World.setCell, Array.getElem?_modify, if_true, h.row, Option.map_some]
  simp
theorem Arr.setRow {w0 W : World} {g : Nat} {f : Row} (h : Arr w0 g f W) (f' : Row) : Arr w0 g f' (W.setRow g (rowCells f').toArray) := by
  refine ⟨⟨h.below.os, h.below.tape, h.below.output, ?_, fun k hk => ?_⟩, setRow_heap W g _ _ _ _ h.row⟩
  · have := h.below.size
    simpa [World.setRow] using this
  · rw [setRow_other W g k _ (Nat.ne_of_lt hk)]
    exact h.below.block k hk
theorem Arr.ext {w0 W W' : World} {g : Nat} {f : Row} (h : Arr w0 g f W) (e : Ext W W') : Arr w0 g f W' :=
  ⟨Below.trans h.below (e.mono (Nat.le_of_lt h.lt)), (e.block g h.lt).trans h.row⟩
theorem Arr.le {w0 W : World} {g : Nat} {f : Row} (h : Arr w0 g f W) (hg : g = w0.heap.size) : Ext w0 W := by
  subst hg
  exact h.below
theorem min_91n (a b : Int) (g c : Nat) (W : World) (hg : g = W.heap.size) :
    Calls Try.prog 91 #[.slice (some ⟨g, 0, none⟩) 2 c] (W.alloc (.cells #[.int .i64 a, .int .i64 b] 3)) fun e w' => e = .returned (.int .i64 (min a b)) ∧ W.alloc (.cells #[.int .i64 a, .int .i64 b] 3) = w' := by
  subst hg
  exact min_91 a b _ c _ (by simp [go_sem]) (by simp [go_sem])
theorem Arr.new {w0 : World} {g : Nat} (hg : g = w0.heap.size) (f : Row) (hf : ∀ j, j < 41 → f j = 0) : Arr w0 g f (w0.alloc (.cells (Array.replicate 41 (.int .i64 0)) 121)) := by
  subst hg
  refine ⟨(Ext.refl w0).al _, ?_⟩
  rw [heap_alloc_new]
  have : (rowCells f).toArray = Array.replicate 41 (.int .i64 0) := by
    apply Array.ext
    · simp [rowCells]
    · intro i h1 h2
      have hi : i < 41 := by simpa [rowCells] using h1
      simp [rowCells, hf i hi]
  rw [this]
theorem row_one (f : Row) : (rowCells f).toArray.all (·.oneCell') = true := by
  simp [rowCells, Value.oneCell']
theorem info121 : (Try.prog.info? 121).map (·.size) = some 41 := by kernel_rfl
theorem Arr.load {w0 W : World} {g : Nat} {f : Row} (h : Arr w0 g f W) : (loadVar 121 ⟨g, 0, none⟩).run Try.prog W = .ok (rowV f) W :=
  run_loadVar_row W g 121 121 _ _ _ h.row Try.underlying121 rfl (by rw [info121]; simp [rowCells_len])
theorem Arr.congr {w0 W : World} {g : Nat} {f f' : Row} (h : Arr w0 g f W) (e : ∀ j, j < 41 → f j = f' j) : Arr w0 g f' W := by
  have : rowCells f = rowCells f' := by
    unfold rowCells
    exact List.map_congr_left fun j hj => by rw [e j (List.mem_range.1 hj)]
  exact ⟨h.below, by rw [← this]; exact h.row⟩
theorem Arr.store {w0 W : World} {g : Nat} {f : Row} (h : Arr w0 g f W) (f' : Row) : (storeVar 121 ⟨g, 0, none⟩ (rowV f')).run Try.prog W = .ok () (W.setRow g (rowCells f').toArray) :=
  run_storeVar_row W g 121 121 _ _ h.row (by rw [info121]; simp [rowCells_len]) (by simp [rowCells_len]) (row_one f')
theorem begun_78 (A : Option Addr) (n c : Nat) (s : ByteArray) (e : Int) (w : World) (hs : s.size ≤ 40) :
    Calls Try.prog 78 #[.agg #[.slice A n c, .string s, .int .i64 e]] w fun e w' => e = .returned (rowV (begunRow s.data.toList)) ∧ Ext w w' := by
  go_enter Try.func78, Try.ntmps78
  go_wp2_with fail
  obtain ⟨w0, hw0⟩ : ∃ w0, w0 = w.alloc (.cells #[.slice A n c, .string s, .int .i64 e] 99) := ⟨_, rfl⟩
  have hE0 : Ext w w0 := by rw [hw0]; exact e1 w _
  have hsz : w0.heap.size = w.heap.size + 1 := by rw [hw0]; simp
  have hbox : ∀ W, Below (w.heap.size + 1) w0 W → W.cell? ⟨w.heap.size, 1, none⟩ = some (.string s) := fun W hW => by
    rw [hW.cell (by simp), hw0]; simp [go_sem]
  go_loopw [3] (fun i wr => ∃ k : Nat, 1 ≤ k ∧ k ≤ 41 ∧ i = .int .i64 k ∧ Arr w0 (w.heap.size + 1) (fun j => if j < k then begunRow s.data.toList j else 0) wr) (fun i _ => 41 - (intOf i).toNat)
  case atStart =>
    refine ⟨1, Nat.le_refl _, by decide, rfl, ?_⟩
    rw [← hw0]
    exact Arr.new hsz.symm _ (fun j hj => by
      show (if j < 1 then begunRow s.data.toList j else 0) = 0
      split
      · rename_i h; obtain rfl : j = 0 := by omega
        rfl
      · rfl)
  case round =>
    obtain ⟨k, hk1, hk, rfl, hA⟩ := hrel
    clear hw0
    by_cases h41 : k < 41
    · obtain ⟨k, rfl⟩ : ∃ m, k = m + 1 := ⟨k - 1, by omega⟩
      have hB := hA.below
      have hlt := hA.lt
      have hc1 := hA.cell (k + 1) h41
      have hf1 := hA.froz (k + 1) h41
      have hc0 := hA.cell k (by omega)
      have hf0 := hA.froz k (by omega)
      simp only [Nat.lt_irrefl, Nat.lt_succ_self, if_false, if_true] at hc1 hc0
      have hset : ∀ v, (wr.setCell ⟨w.heap.size + 1, k + 1, none⟩ v).cell? ⟨w.heap.size + 1, k, none⟩ = some (.int .i64 (begunRow s.data.toList k)) := fun v => by
        rw [setCell_off _ _ _ _ _ (by omega)]
        exact hc0
      have hA1 := hA.set (k + 1) h41 1048576
      have hbb := begun_bound s.data.toList k
      unfold farF at hbb
      obtain ⟨hbb0, hbb1⟩ := hbb
      by_cases hl : k + 1 ≤ s.size
      · have hl' : ((k + 1 : Nat) : Int) ≤ (s.size : Int) := by omega
        have hlt' : k < s.size := by omega
        have hq := byte_eq s k hlt' 32 32 rfl
        by_cases h32 : s.data.toList[k]? = some 32
        · rw [decide_eq_true h32] at hq
          have hv := Lib.hid (show min 1048576 (begunRow s.data.toList k + 1) = begunRow s.data.toList (k + 1) by rw [begunRow, if_pos ⟨by simpa using hl, h32⟩]; rfl)
          have HA := Lib.hid hA
          have HA1 := Lib.hid hA1
          clear h32 hA hA1
          go_wp2_with (go_at_call 91; refine (min_91n _ _ _ _ _ (by simp)).mono ?_; rintro e W' ⟨rfl, rfl⟩)
          refine ⟨⟨k + 2, by omega, by omega, by go_num, ?_⟩, by simp [intOf]; omega⟩
          refine (((HA1.out.set (k + 1) h41 (min 1048576 (begunRow s.data.toList k + 1))).ext (e1 _ _))).congr fun j hj => ?_
          simp only [upd]
          rw [hv.out]
          by_cases e1 : j = k + 1
          · subst e1; simp
          · by_cases e2 : j < k + 1
            · simp [e1, e2, show j < k + 2 by omega]
            · simp [e1, e2, show ¬ j < k + 2 by omega]
        · rw [decide_eq_false h32] at hq
          have hv := Lib.hid (show 1048576 = begunRow s.data.toList (k + 1) by rw [begunRow, if_neg (fun h => h32 h.2)]; rfl)
          have HA1 := Lib.hid hA1
          clear h32 hA hA1
          go_wp2_with (fail)
          refine ⟨⟨k + 2, by omega, by omega, by go_num, ?_⟩, by simp [intOf]; omega⟩
          refine HA1.out.congr fun j hj => ?_
          simp only [upd]
          rw [hv.out]
          by_cases e1 : j = k + 1
          · subst e1; simp
          · by_cases e2 : j < k + 1
            · simp [e1, e2, show j < k + 2 by omega]
            · simp [e1, e2, show ¬ j < k + 2 by omega]
      · have hl' : ¬ ((k + 1 : Nat) : Int) ≤ (s.size : Int) := by omega
        have hv := Lib.hid (show 1048576 = begunRow s.data.toList (k + 1) by rw [begunRow, if_neg (fun h => hl (by simpa using h.1))]; rfl)
        have HA1 := Lib.hid hA1
        clear hA hA1
        go_wp2_with (fail)
        refine ⟨⟨k + 2, by omega, by omega, by go_num, ?_⟩, by simp [intOf]; omega⟩
        refine HA1.out.congr fun j hj => ?_
        simp only [upd]
        rw [hv.out]
        by_cases e1 : j = k + 1
        · subst e1; simp
        · by_cases e2 : j < k + 1
          · simp [e1, e2, show j < k + 2 by omega]
          · simp [e1, e2, show ¬ j < k + 2 by omega]
    · obtain rfl : k = 41 := by omega
      have hA' : Arr w0 (w.heap.size + 1) (begunRow s.data.toList) wr := hA.congr fun j hj => by simp [hj]
      have HA := Lib.hid hA'
      have HA2 := Lib.hid (hA'.setRow (begunRow s.data.toList))
      clear hA hA'
      go_upto_region 7 with fail
      go_step
      refine wpList_load_row rfl 121 _ rfl (w.heap.size + 1) rfl 121 _ (0, 0) _ HA.out.row Try.underlying121 rfl (by rw [info121]; simp [rowCells_len]) ?_
      refine wpList_plain rfl fun K hK => wp_store_row 121 _ _ rfl (w.heap.size + 1) _ rfl rfl 121 _ HA.out.row (by rw [info121]; simp [rowCells_len]) (by simp [rowCells_len]) (row_one _) (hK _ _ ?_)
      obtain ⟨W2, hW2⟩ : ∃ W2, W2 = wr.setRow (w.heap.size + 1) (rowCells (begunRow s.data.toList)).toArray := ⟨_, rfl⟩
      rw [← hW2] at HA2 ⊢
      go_wp2_with fail
      refine bodyPost_ret (results_cell_row rfl _ W2 (w.heap.size + 1) 121 _ (0, 0) _ rfl HA2.out.row Try.underlying121 rfl (by rw [info121]; simp [rowCells_len])) rfl ?_
      exact ⟨rfl, hE0.trans (HA2.out.le hsz.symm)⟩
end Go.Proofs.Tp
