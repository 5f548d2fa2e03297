import Derived.Test.YtnlknpcbdciljaaFl5
import Derived.ChangeKeysEq
import Derived.Laws.StructEq
/- Package flash: whether a row is hopeless. -/
namespace Go.Proofs.Tp
open Go.RowKit Go.Proofs.Gr
set_option linter.unusedVariables false
set_option linter.unusedSimpArgs false
set_option maxRecDepth 100000
attribute [local go_sem] below_alloc' below_drewN' below_drew' below_set' Below.refl
theorem enough_89 (n e : Int) (g : Nat) (w : World) (hc : ∀ W, Ext w W → W.cell? ⟨g, 2, none⟩ = some (.int .i64 e)) :
    Calls Try.prog 89 #[.int .i64 n, .pointer (some ⟨g, 0, none⟩)] w fun e' w' => e' = .returned (.bool (decide (n ≤ e))) ∧ Ext w w' := by
  have hc0 := hc w (Ext.refl w)
  clear hc
  go_enter Try.func89, Try.ntmps89
  go_wp2
  go_ret
  exact ⟨rfl, Ext.refl _⟩
theorem info3 : (Try.prog.info? 3).map (fun i => (i.zero, i.size, i.bytes)) = some (some (.int .i64 0), 1, 8) := by kernel_rfl
theorem cells3 : Try.prog.cellsOf 3 = 1 := by kernel_rfl
theorem part3 (f : Row) (k : Nat) (hk : k < 41) (W : World) : (part 3 (rowCells f).toArray k).run Try.prog W = .ok (.int .i64 (f k)) W := by
  exact run_part_plain W (by kernel_rfl) (row_get f k hk)
theorem eqItems_rows (d : Nat) (r b : Row) (W : World) : ∀ is : List Nat, (∀ i ∈ is, i < 41) → (Op.eqItems (d + 1) 3 1 (rowCells r).toArray (rowCells b).toArray is).run Try.prog W = .ok (is.all fun k => r k == b k) W
  | [], _ => rfl
  | i :: is, h => by
    have ih := eqItems_rows d r b W is (fun j hj => h j (List.mem_cons_of_mem _ hj))
    have hi := h i List.mem_cons_self
    simp only [Op.eqItems, Sem.run_bind, Nat.mul_one, part3 r i hi, part3 b i hi, Result.andThen_ok, run_equalIn_int W d 3 .i64 .i64 _ _ Try.underlying3, List.all_cons]
    cases h : (r i == b i)
    · simp
    · simpa using ih
theorem eq_rows (r b : Row) (W : World) : (binOp .eql 121 (.agg (rowCells r).toArray) (.agg (rowCells b).toArray)).run Try.prog W = .ok (.bool (sameRow r b)) W := by
  obtain ⟨i, hi, -⟩ := info_parts info3
  rw [run_eql_struct, show (10000 : Nat) = 9999 + 1 from rfl, run_equalIn_array W 9999 _ _ Try.underlying121 hi, cells3, eqItems_rows 9998 r b W _ (fun i hi => List.mem_range.1 hi)]
  rfl
theorem guard121 : Try.prog.eqGuardType Try.prog.depth 121 = false := by kernel_rfl
theorem any_range (r : Row) (e : Int) (n : Nat) (hn : n ≤ 41) : ((List.range n).map r).any (fun x => decide (x ≤ e)) = (List.range n).any fun k => decide (r k ≤ e) := by
  rw [List.any_map]
  rfl
theorem hope_76 (A : Option Addr) (n c : Nat) (s : ByteArray) (e : Int) (r : Row) (w : World) (hs : s.size ≤ 40) :
    Calls Try.prog 76 #[.agg #[.slice A n c, .string s, .int .i64 e], rowV r] w fun e' w' => e' = .returned (.bool (hopelessF s.data.toList e r)) ∧ Ext w w' := by
  obtain ⟨w0, hw0⟩ : ∃ w0, w0 = (w.alloc (.cells #[.slice A n c, .string s, .int .i64 e] 99)).alloc (.cells (rowCells r).toArray 121) := ⟨_, rfl⟩
  have hE0 : Ext w w0 := by rw [hw0]; exact e2 w _ _
  have hld : ∀ W, Ext w0 W → W.cell? ⟨w.heap.size, 0, none⟩ = some (.slice A n c) ∧ W.cell? ⟨w.heap.size, 1, none⟩ = some (.string s) ∧ W.cell? ⟨w.heap.size, 2, none⟩ = some (.int .i64 e) := fun W hW => by
    have hz : w0.heap.size = w.heap.size + 1 + 1 := by rw [hw0]; simp
    refine ⟨?_, ?_, ?_⟩ <;> (rw [hW.cell (by rw [hz]; show w.heap.size < _; omega), hw0]; simp [go_sem])
  have hrow : ∀ W, Ext w0 W → W.heap[w.heap.size + 1]? = some (.cells (rowCells r).toArray 121 (0, 0)) := fun W hW => by
    have hz : w0.heap.size = w.heap.size + 1 + 1 := by rw [hw0]; simp
    rw [hW.block _ (by rw [hz]; omega), hw0]
    have := heap_alloc_new (w.alloc (.cells #[.slice A n c, .string s, .int .i64 e] 99)) (.cells (rowCells r).toArray 121)
    simpa using this
  unfold rowV
  go_enter Try.func76, Try.ntmps76
  go_wp2_with fail
  rw [← hw0]
  clear hw0
  refine region_lit 3 Ext (fun i v W => match i with | 0 => v = .agg (rowCells r).toArray | 1 => v = .agg #[.slice A n c, .string s, .int .i64 e] | 2 => v = .agg (rowCells (begunRow s.data.toList)).toArray | _ => True) (by kernel_rfl) (by kernel_rfl) Ext.refl Ext.trans (Ext.dr (Ext.refl _) 1) ⟨?_, ?_, ?_, trivial⟩ ?_
  · refine StepG.plain rfl ?_
    rintro u W A' hA hW - K hK
    have a3 := ev_out 3 hA (by kernel_rfl) (by simp)
    clear hA
    refine loadR _ rfl (w.heap.size + 1) (by simp [Act.eval, a3]) r (hrow W hW) ?_
    exact hK _ _ (Ext.refl _) (fun _ _ => rfl)
  · refine StepG.plain rfl ?_
    rintro u W A' hA hW - K hK
    have a2 := ev_out 2 hA (by kernel_rfl) (by simp)
    obtain ⟨hl0, hl1, hl2⟩ := hld W hW
    clear hA
    go_simp
    exact hK _ _ (Ext.refl _) (fun _ _ => rfl)
  · refine StepG.plain rfl ?_
    rintro u W A' hA hW ⟨h1, -⟩ K hK
    simp only at h1
    have a6 := ev_in 6 1 hA (by kernel_rfl) (by simp)
    have hcall := Lib.hid (begun_78 A n c s e W hs)
    unfold rowV at hcall
    clear hA
    go_simp
    refine hcall.out.mono ?_
    rintro e W' ⟨rfl, hE⟩
    exact hK _ _ hE (fun _ _ => rfl)
  · rintro u W hW ⟨h0, -, h2, -⟩
    simp only at h0 h2
    have hl := fun V (hV : Ext W V) => hld V (hW.trans hV)
    have hr2 := fun V (hV : Ext W V) => hrow V (hW.trans hV)
    have hB := hE0.trans hW
    simp [puts, dstOf, Act.put]
    rw [h0, h2]
    clear h0 h2 hrow hld
    have heq := fun W => eq_rows r (begunRow s.data.toList) W
    have hgd := fun (W : World) => run_eqGuard_agg (P := Try.prog) W .eql 121 (Operand.tmp 5) (Operand.tmp 7) (rowCells r).toArray (rowCells (begunRow s.data.toList)).toArray guard121
    cases hsame : sameRow r (begunRow s.data.toList)
    · have hsame' := Lib.hid hsame
      have hc := fun V (hV : Ext W V) => (hl V hV).2.1
      simp only [hsame'.out] at heq
      have hal' : Try.prog.arrayLen 121 = 41 := by kernel_rfl
      have hal : (Try.prog.arrayLen 121 : Int) = 41 := by rw [hal']; rfl
      have hsl : ∀ V, (Instr.sliceAt 121 (.pointer (some ⟨w.heap.size + 1, 0, none⟩)) none (some (.int .i64 ((s.size : Int) + 1))) none).run Try.prog V = .ok (.slice (some ⟨w.heap.size + 1, 0, none⟩) (s.size + 1) 41) V := fun V => by
        have := run_sliceAt_array_h (P := Try.prog) V 121 ⟨w.heap.size + 1, 0, none⟩ rfl .i64 ((s.size : Int) + 1) (by omega) (by rw [hal]; omega)
        obtain ⟨i3, hi3, -⟩ := info_parts info3
        rw [this, show Try.prog.elem 121 = 3 from by kernel_rfl, run_sizeOf V hi3]
        simp [slicedAt, hal', Addr.add]
      have hcont := Lib.hid (cont_int ((List.range (s.size + 1)).map r) (fun x => decide (x ≤ e)) (some ⟨w.heap.size + 1, 0, none⟩) 41 89 #[] #[.pointer (some ⟨w.heap.size, 0, none⟩)] W enters_89
        (.inr ⟨w.heap.size + 1, 0, rfl, fun i hi => ⟨[.int .i64 (r i)], by simp [intK, scalar], At.mk fun j hj => by
          obtain rfl : j = 0 := by simpa using hj
          have hi' : i < 41 := by simp at hi; omega
          have := cell_of_row W (w.heap.size + 1) i _ _ _ (hr2 W (Ext.refl W))
          rw [row_get r i hi'] at this
          simpa [intK, scalar] using this⟩⟩) (by simp; omega)
        (fun x hx V hV => enough_89 x e _ V (fun V' hV' => (hl V' (hV.trans hV')).2.2)))
      rw [List.length_map, List.length_range, any_range r e _ (by omega)] at hcont
      obtain ⟨B, hBv⟩ : ∃ B, B = (List.range (s.size + 1)).any fun k => decide (r k ≤ e) := ⟨_, rfl⟩
      rw [← hBv] at hcont
      have hv := Lib.hid (show (!B) = hopelessF s.data.toList e r by
        rw [hopelessF, hsame'.out, hBv]; simp)
      clear hsame hl hr2 hBv hal
      go_wp2_with fail
      refine hcont.out.mono ?_
      rintro e' W' ⟨rfl, hE⟩
      have hB2 := hB.trans hE
      clear hcont hc hsl heq hgd
      go_wp2_with fail
      go_ret
      exact ⟨ret_bool hv.out, hB2⟩
    · have hv := Lib.hid (show false = hopelessF s.data.toList e r by rw [hopelessF, hsame]; rfl)
      simp only [hsame] at heq
      clear hsame hl hr2
      go_wp2_with fail
      go_ret
      exact ⟨ret_bool hv.out, hB⟩
end Go.Proofs.Tp
