import Derived.Test.YtnlknpcbdciljaaFl4
import Derived.Test.YtnlknpcbdciljaaGrow2
import Derived.Test.YtnlknpcbdciljaaOwn
/- Package flash: the row after some signs; whether a row is hopeless. -/
namespace Go.Proofs.Tp
open Go.RowKit Go.Proofs.Gr
set_option linter.unusedVariables false
set_option linter.unusedSimpArgs false
set_option maxRecDepth 100000
attribute [local go_sem] below_alloc' below_drewN' below_drew' below_set' Below.refl
theorem loadR {o : Oper} {a : Act} {W : World} {K : Act → World → Prop} {Q : Exit → Act → World → Prop} (x : Operand) (ho : o.op = .load 121 x) (g : Nat) (hx : a.eval x = .pointer (some ⟨g, 0, none⟩)) (f : Row)
    (hg : W.heap[g]? = some (.cells (rowCells f).toArray 121 (0, 0))) (h : K (a.put o.dst (.agg (rowCells f).toArray)) W) : o.wp Try.prog a W K Q :=
  wp_load_row 121 x ho g hx 121 _ (0, 0) _ hg Try.underlying121 rfl (by rw [info121]; simp [rowCells_len]) h
theorem storeR {o : Oper} {a : Act} {W : World} {K : Act → World → Prop} {Q : Exit → Act → World → Prop} (x y : Operand) (ho : o.op = .store 121 x y) (g : Nat) (f old : Row) (hx : a.eval x = .pointer (some ⟨g, 0, none⟩)) (hy : a.eval y = .agg (rowCells f).toArray)
    (hg : W.heap[g]? = some (.cells (rowCells old).toArray 121 (0, 0))) (h : K (a.put o.dst undef) (W.setRow g (rowCells f).toArray)) : o.wp Try.prog a W K Q :=
  wp_store_row 121 x y ho g _ hx hy 121 _ hg (by rw [info121]; simp [rowCells_len]) (by simp [rowCells_len]) (row_one _) h
/-- the boxes of 'after': the row, the result, the row before, the bytes -/
structure AfS (w1 : World) (g : Nat) (ss : ByteArray) (f b : Row) (W : World) : Prop where
  below : Below g w1 W
  r0 : W.heap[g]? = some (.cells (rowCells f).toArray 121 (0, 0))
  z0 : W.heap[g + 1]? = some (.cells (rowCells zeroRow).toArray 121 (0, 0))
  b0 : W.heap[g + 1 + 1]? = some (.cells (rowCells b).toArray 121 (0, 0))
  bs : ∀ j (h : j < ss.size), W.cell? ⟨g + 1 + 1 + 1, j, none⟩ = some (.int .u8 ss[j].toNat)
  lt : g + 1 + 1 + 1 < W.heap.size
theorem AfS.ext {w1 W W' : World} {g : Nat} {ss : ByteArray} {f b : Row} (h : AfS w1 g ss f b W) (e : Ext W W') : AfS w1 g ss f b W' :=
  have hl := h.lt
  ⟨Below.trans h.below (e.mono (by omega)), (e.block _ (by omega)).trans h.r0, (e.block _ (by omega)).trans h.z0, (e.block _ (by omega)).trans h.b0, fun j hj => (e.cell h.lt).trans (h.bs j hj), Nat.lt_of_lt_of_le h.lt e.size⟩
theorem setRow_size (W : World) (g : Nat) (cs : Array Value) : (W.setRow g cs).heap.size = W.heap.size := by simp [World.setRow]
theorem setRow_cell (W : World) (g : Nat) (cs : Array Value) (p : Addr) (h : p.block ≠ g) : (W.setRow g cs).cell? p = W.cell? p := by
  simp [World.cell?, setRow_other W g p.block cs h]
theorem below_setRow {g B : Nat} {w1 W : World} (h : Below B w1 W) (hg : B ≤ g) (cs : Array Value) : Below B w1 (W.setRow g cs) :=
  ⟨h.os, h.tape, h.output, by rw [setRow_size]; exact h.size, fun k hk => (setRow_other W g k cs (by omega)).trans (h.block k hk)⟩
theorem AfS.setR {w1 W : World} {g : Nat} {ss : ByteArray} {f b : Row} (h : AfS w1 g ss f b W) (f' : Row) : AfS w1 g ss f' b (W.setRow g (rowCells f').toArray) :=
  ⟨below_setRow h.below (Nat.le_refl _) _, setRow_heap W g _ _ _ _ h.r0, (setRow_other W g _ _ (by omega)).trans h.z0, (setRow_other W g _ _ (by omega)).trans h.b0,
    fun j hj => (setRow_cell W g _ _ (by simp; omega)).trans (h.bs j hj), by rw [setRow_size]; exact h.lt⟩
theorem AfS.setB {w1 W : World} {g : Nat} {ss : ByteArray} {f b : Row} (h : AfS w1 g ss f b W) (b' : Row) : AfS w1 g ss f b' (W.setRow (g + 1 + 1) (rowCells b').toArray) :=
  ⟨below_setRow h.below (by omega) _, (setRow_other W _ _ _ (by omega)).trans h.r0, (setRow_other W _ _ _ (by omega)).trans h.z0, setRow_heap W _ _ _ _ _ h.b0,
    fun j hj => (setRow_cell W _ _ _ (by simp)).trans (h.bs j hj), by rw [setRow_size]; exact h.lt⟩
theorem AfS.new {w1 : World} {g : Nat} (hg : w1.heap.size = g) (ss : ByteArray) (r : Row) (cs : Array Value) (hc : cs = (rowCells zeroRow).toArray) :
    AfS w1 g ss r zeroRow (Lib.bytesWorld (((w1.alloc (.cells (rowCells r).toArray 121)).alloc (.cells cs 121)).alloc (.cells cs 121)) 5 ss) := by
  subst hg
  subst hc
  have hsz : (((w1.alloc (.cells (rowCells r).toArray 121)).alloc (.cells (rowCells zeroRow).toArray 121)).alloc (.cells (rowCells zeroRow).toArray 121)).heap.size = w1.heap.size + 1 + 1 + 1 := by simp
  have hB := bytesWorld_ext (((w1.alloc (.cells (rowCells r).toArray 121)).alloc (.cells (rowCells zeroRow).toArray 121)).alloc (.cells (rowCells zeroRow).toArray 121)) 5 ss
  refine ⟨(e3 w1 _ _ _).trans hB, ?_, ?_, ?_, fun j hj => ?_, ?_⟩
  · rw [hB.block _ (by rw [hsz]; omega), heap_alloc_old _ _ (by simp; omega), heap_alloc_old _ _ (by simp), heap_alloc_new]
  · rw [hB.block _ (by rw [hsz]; omega), heap_alloc_old _ _ (by simp)]
    have := heap_alloc_new (w1.alloc (.cells (rowCells r).toArray 121)) (.cells (rowCells zeroRow).toArray 121)
    simpa using this
  · rw [hB.block _ (by rw [hsz]; omega)]
    have := heap_alloc_new ((w1.alloc (.cells (rowCells r).toArray 121)).alloc (.cells (rowCells zeroRow).toArray 121)) (.cells (rowCells zeroRow).toArray 121)
    simpa using this
  · have := Lib.bytesWorld_cell (((w1.alloc (.cells (rowCells r).toArray 121)).alloc (.cells (rowCells zeroRow).toArray 121)).alloc (.cells (rowCells zeroRow).toArray 121)) 5 ss j hj
    rw [hsz] at this
    rw [this, List.getD_eq_getElem?_getD, byte_get ss j hj]
    rfl
  · rw [Lib.bytesWorld_size, hsz]
    omega
def bnd (r : Row) : Prop := ∀ j, 0 ≤ r j ∧ r j ≤ 1048576
theorem zeros41 : (rowCells zeroRow).toArray = Array.replicate 41 (.int .i64 0) := by
  apply Array.ext
  · simp [rowCells]
  · intro i h1 h2
    simp [rowCells, zeroRow]
theorem after_77 (A : Option Addr) (n c : Nat) (s : ByteArray) (e : Int) (r : Row) (ss : ByteArray) (w : World) (hs : s.size ≤ 40) (hss : ss.size ≤ 1000) (hr : bnd r) :
    Calls Try.prog 77 #[.agg #[.slice A n c, .string s, .int .i64 e], rowV r, .string ss] w fun e w' => e = .returned (rowV (afterRow s.data.toList r ss.data.toList)) ∧ Ext w w' := by
  have hcv := fun (w : World) => Lib.run_convert_string_bytes (P := Try.prog) w 9 118 5 ss Try.underlying9 Try.underlying118 Try.underlying5
  obtain ⟨w1, hw1⟩ : ∃ w1, w1 = w.alloc (.cells #[.slice A n c, .string s, .int .i64 e] 99) := ⟨_, rfl⟩
  have hE0 : Ext w w1 := by rw [hw1]; exact e1 w _
  have hsz : w1.heap.size = w.heap.size + 1 := by rw [hw1]; simp
  have hld : ∀ W, Below (w.heap.size + 1) w1 W → W.cell? ⟨w.heap.size, 0, none⟩ = some (.slice A n c) ∧ W.cell? ⟨w.heap.size, 1, none⟩ = some (.string s) ∧ W.cell? ⟨w.heap.size, 2, none⟩ = some (.int .i64 e) := fun W hW => by
    refine ⟨?_, ?_, ?_⟩ <;> (rw [hW.cell (show w.heap.size < w.heap.size + 1 by omega), hw1]; simp [go_sem])
  unfold rowV
  go_enter Try.func77, Try.ntmps77
  go_wp2_with fail
  clear hcv
  go_loopw [8, 14] (fun l8 i wr => ∃ (k : Nat) (f b : Row) (l : UInt8), k ≤ ss.size ∧ i = .int .i64 k ∧ l8 = .int .u8 l.toNat ∧ afterRow s.data.toList r ss.data.toList = afterF s.data.toList f b l (ss.data.toList.drop k) ∧ bnd f ∧ bnd b ∧ AfS w1 (w.heap.size + 1) ss f b wr) (fun _ i _ => ss.size - (intOf i).toNat)
  case atStart =>
    refine ⟨0, r, zeroRow, 32, Nat.zero_le _, rfl, rfl, rfl, hr, fun _ => ⟨by simp [zeroRow], by simp [zeroRow]⟩, ?_⟩
    rw [← hw1]
    exact AfS.new hsz ss r _ rfl
  case round =>
    obtain ⟨k, f, b, l, hk, rfl, rfl, hF, hbf, hbb, hS⟩ := hrel
    by_cases hlt : k < ss.size
    · have hbs := hS.bs k hlt
      obtain ⟨hl0, hl1, hl2⟩ := hld wr hS.below
      go_upto_region 6 with fail
      refine region_lit 7 Ext (fun i v W => match i with | 0 => v = .agg #[.slice A n c, .string s, .int .i64 e] | 1 => v = .agg (rowCells f).toArray | 2 => v = .agg (rowCells b).toArray | 3 => v = .int .u8 l.toNat | 4 => v = .int .u8 ss[k].toNat | 5 => v = .agg (rowCells (signRow s.data.toList f b l ss[k])).toArray | 6 => v = .agg (rowCells f).toArray | _ => True) (by kernel_rfl) (by kernel_rfl) Ext.refl Ext.trans (Ext.dr (Ext.refl _) 1) ⟨?_, ?_, ?_, ?_, ?_, ?_, ?_, trivial⟩ ?_
      · refine StepG.plain rfl ?_
        rintro u W A' hA hW - K hK
        have a3 := ev_out 3 hA (by kernel_rfl) (by simp)
        obtain ⟨hl0, hl1, hl2⟩ := hld W (hS.ext hW).below
        clear hA
        go_simp
        exact hK _ _ (Ext.refl _) (fun _ _ => rfl)
      · refine StepG.plain rfl ?_
        rintro u W A' hA hW - K hK
        have a4 := ev_out 4 hA (by kernel_rfl) (by simp)
        clear hA
        refine loadR _ rfl (w.heap.size + 1) (by simp [Act.eval, a4]) f (hS.ext hW).r0 ?_
        exact hK _ _ (Ext.refl _) (fun _ _ => rfl)
      · refine StepG.plain rfl ?_
        rintro u W A' hA hW - K hK
        have a7 := ev_out 7 hA (by kernel_rfl) (by simp)
        clear hA
        refine loadR _ rfl (w.heap.size + 1 + 1 + 1) (by simp [Act.eval, a7]) b (hS.ext hW).b0 ?_
        exact hK _ _ (Ext.refl _) (fun _ _ => rfl)
      · refine StepG.plain rfl ?_
        rintro u W A' hA hW - K hK
        have a8 := ev_out 8 hA (by kernel_rfl) (by simp)
        clear hA
        go_simp
        exact hK _ _ (Ext.refl _) (fun _ _ => rfl)
      · refine StepG.plain rfl ?_
        rintro u W A' hA hW - K hK
        have a10 := ev_out 10 hA (by kernel_rfl) (by simp)
        clear hA
        go_simp
        exact hK _ _ (Ext.refl _) (fun _ _ => rfl)
      · refine StepG.plain rfl ?_
        rintro u W A' hA hW ⟨h0, h1, h2, h3, h4, -⟩ K hK
        simp only at h0 h1 h2 h3 h4
        have a18 := ev_in 18 0 hA (by kernel_rfl) (by simp)
        have a19 := ev_in 19 1 hA (by kernel_rfl) (by simp)
        have a20 := ev_in 20 2 hA (by kernel_rfl) (by simp)
        have a21 := ev_in 21 3 hA (by kernel_rfl) (by simp)
        have a22 := ev_in 22 4 hA (by kernel_rfl) (by simp)
        have hcall := Lib.hid (sign_90 A n c s e f b l ss[k] W hs hbf hbb)
        unfold rowV at hcall
        clear hA
        go_simp
        refine hcall.out.mono ?_
        rintro e W' ⟨rfl, hE⟩
        exact hK _ _ hE (fun _ _ => rfl)
      · refine StepG.plain rfl ?_
        rintro u W A' hA hW - K hK
        have a4 := ev_out 4 hA (by kernel_rfl) (by simp)
        clear hA
        refine loadR _ rfl (w.heap.size + 1) (by simp [Act.eval, a4]) f (hS.ext hW).r0 ?_
        exact hK _ _ (Ext.refl _) (fun _ _ => rfl)
      · rintro u W hW ⟨-, -, -, -, -, h5, h6, -⟩
        simp only at h5 h6
        have hS1 := hS.ext hW
        simp [puts, dstOf, Act.put]
        refine wpList_plain rfl fun K hK => storeR _ _ rfl (w.heap.size + 1) (signRow s.data.toList f b l ss[k]) f rfl h5 hS1.r0 (hK _ _ ?_)
        refine wpList_plain rfl fun K hK => storeR _ _ rfl (w.heap.size + 1 + 1 + 1) f b rfl h6 (hS1.setR _).b0 (hK _ _ ?_)
        have hS2 := Lib.hid ((hS1.setR (signRow s.data.toList f b l ss[k])).setB f)
        obtain ⟨W2, hW2⟩ : ∃ W2, W2 = (W.setRow (w.heap.size + 1) (rowCells (signRow s.data.toList f b l ss[k])).toArray).setRow (w.heap.size + 1 + 1 + 1) (rowCells f).toArray := ⟨_, rfl⟩
        rw [← hW2] at hS2 ⊢
        have hF' := Lib.hid hF
        have hbf' := Lib.hid hbf
        have hbn := Lib.hid (show bnd (signRow s.data.toList f b l ss[k]) from sign_bound _ _ _ _ _ hbf hbb)
        clear hF hbf hbb hS hS1 h5 h6 hld hl0 hl1 hl2 hW2
        go_wp2_with fail
        refine ⟨⟨k + 1, signRow s.data.toList f b l ss[k], f, ss[k], by omega, by go_num, rfl, ?_, hbn.out, hbf'.out, hS2.out⟩, by simp [intOf]; omega⟩
        rw [hF'.out, List.drop_eq_getElem_cons (show k < ss.data.toList.length by simpa using hlt)]
        rfl
    · obtain rfl : k = ss.size := by omega
      have hv := Lib.hid (show f = afterRow s.data.toList r ss.data.toList by
        rw [hF, List.drop_eq_nil_of_le (by simp)]; rfl)
      have HS := Lib.hid hS
      clear hF hbf hbb hS hld
      go_upto_region 9 with fail
      go_step
      refine wpList_plain rfl fun K hK => loadR _ rfl (w.heap.size + 1) rfl f HS.out.r0 (hK _ _ ?_)
      refine wpList_plain rfl fun K hK => storeR _ _ rfl (w.heap.size + 1 + 1) f zeroRow rfl rfl HS.out.z0 (hK _ _ ?_)
      have hr2 := Lib.hid (setRow_heap wr (w.heap.size + 1 + 1) _ (rowCells f).toArray 121 (0, 0) HS.out.z0)
      have hb2 := Lib.hid (below_setRow HS.out.below (show w.heap.size + 1 ≤ w.heap.size + 1 + 1 by omega) (rowCells f).toArray)
      obtain ⟨W2, hW2⟩ : ∃ W2, W2 = wr.setRow (w.heap.size + 1 + 1) (rowCells f).toArray := ⟨_, rfl⟩
      rw [← hW2] at hr2 hb2 ⊢
      go_wp2_with fail
      refine bodyPost_ret (results_cell_row rfl _ W2 (w.heap.size + 1 + 1) 121 _ (0, 0) _ rfl hr2.out Try.underlying121 rfl (by rw [info121]; simp [rowCells_len])) rfl ?_
      refine ⟨by rw [hv.out], hE0.trans ?_⟩
      have := hb2.out
      rw [← hsz] at this
      exact this
end Go.Proofs.Tp
