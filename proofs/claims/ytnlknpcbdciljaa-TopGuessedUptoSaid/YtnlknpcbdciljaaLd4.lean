import Derived.Test.YtnlknpcbdciljaaLd3
/- Package flash: all texts of some letters. -/
namespace Go.Proofs.Tp
open Go.RowKit Go.Proofs.Gr
set_option linter.unusedVariables false
set_option linter.unusedSimpArgs false
set_option maxRecDepth 100000
attribute [local go_sem] below_alloc' below_drewN' below_drew' below_set' Below.refl
theorem add_all (ls : List ByteArray) (LA : Option Addr) (lc : Nat) (rd : ByteArray) (E : Int) (N : Nat) (w : World) (hrd : rd.size ≤ 40) (hN : N ≤ 5) (hll : ls.length ≤ 6) (hls : ∀ s ∈ ls, s.size ≤ 4) (hpos : 0 < ls.length) (hL : SlA strK w LA ls) : ∀ m, AddOK ls LA lc rd E N w m
  | 0 => add_zero ls LA lc rd E N w hrd hN
  | m + 1 => add_succ ls LA lc rd E N m w hrd hN hll hls hpos hL (add_all ls LA lc rd E N w hrd hN hll hls hpos hL m)
/-- a row of texts -/
structure TX (B : Nat) (W : World) (v : Value) (css : List Value) (T : List (List Nat)) : Prop where
  out : W.ownsRow B 26 1 v T.length css
  len : css.length = T.length
  each : ∀ i (h : i < T.length) (h' : i < css.length), IR B W css[i] T[i]
theorem begun_bnd (rd : Bytes) : bnd (begunRow rd) := fun k => begun_bound rd k
set_option maxHeartbeats 2000000 in
theorem texts_51 (ls : List ByteArray) (LA : Option Addr) (lc : Nat) (rd : ByteArray) (E : Int) (N : Nat) (w : World) (hrd : rd.size ≤ 40) (hN : N ≤ 5) (hll : ls.length ≤ 6) (hls : ∀ s ∈ ls, s.size ≤ 4) (hpos : 0 < ls.length) (hL : SlA strK w LA ls) :
    Calls Try.prog 51 #[.agg #[.slice LA ls.length lc, .string rd, .int .i64 E], .int .i64 N] w fun e w' => ∃ v css, e = .returned v ∧ Ext w w' ∧ TX w.heap.size w' v css (addF (lsB ls) rd.data.toList E N [] (begunRow rd.data.toList)) := by
  have hadd := add_all ls LA lc rd E N w hrd hN hll hls hpos hL N
  obtain ⟨w0, hw0⟩ : ∃ w0, w0 = (((w.alloc (.cells #[.slice LA ls.length lc, .string rd, .int .i64 E] 99)).alloc (.cells #[.int .i64 N] 3)).alloc (.cells #[.slice none 0 0] 61)).alloc (.cells #[.func (.func 75) #[] #[.pointer (some ⟨w.heap.size, 0, none⟩), .pointer (some ⟨w.heap.size + 1, 0, none⟩), .pointer (some ⟨w.heap.size + 2, 0, none⟩), .pointer (some ⟨w.heap.size + 3, 0, none⟩)]] 119) := ⟨_, rfl⟩
  have hE0 : Ext w w0 := by rw [hw0]; exact (e3 w _ _ _).al _
  have hT : TC ls LA lc rd E N w w0 (.slice none 0 0) [] [] := by
    refine ⟨hE0, ?_, ?_, ?_, ?_, World.ownsRow_nil _ _ _ _, rfl, fun i h => by simp at h⟩
    · rw [hw0, heap_alloc_old _ _ (by simp <;> omega), heap_alloc_old _ _ (by simp <;> omega), heap_alloc_old _ _ (by simp), heap_alloc_new]
    · rw [hw0, heap_alloc_old _ _ (by simp <;> omega), heap_alloc_old _ _ (by simp)]
      have := heap_alloc_new (w.alloc (.cells #[.slice LA ls.length lc, .string rd, .int .i64 E] 99)) (.cells #[.int .i64 (N : Int)] 3)
      simpa using this
    · rw [hw0, heap_alloc_old _ _ (by simp)]
      have := heap_alloc_new ((w.alloc (.cells #[.slice LA ls.length lc, .string rd, .int .i64 E] 99)).alloc (.cells #[.int .i64 (N : Int)] 3)) (.cells #[.slice none 0 0] 61)
      simpa using this
    · rw [hw0]
      have := heap_alloc_new (((w.alloc (.cells #[.slice LA ls.length lc, .string rd, .int .i64 E] 99)).alloc (.cells #[.int .i64 (N : Int)] 3)).alloc (.cells #[.slice none 0 0] 61)) (.cells #[.func (.func 75) #[] #[.pointer (some ⟨w.heap.size, 0, none⟩), .pointer (some ⟨w.heap.size + 1, 0, none⟩), .pointer (some ⟨w.heap.size + 2, 0, none⟩), .pointer (some ⟨w.heap.size + 3, 0, none⟩)]] 119)
      simpa using this
  have hcnt : ([] : List (List Nat)).length + ls.length ^ N ≤ 100000 := by
    have h1 : ls.length ^ N ≤ 6 ^ N := Nat.pow_le_pow_left hll N
    have h2 : 6 ^ N ≤ 6 ^ 5 := Nat.pow_le_pow_right (by decide) hN
    simp
    omega
  have hcl := fun (W : World) (e : Ext w0 W) => hadd [] (.slice none 0 0) (begunRow rd.data.toList) W _ _ _ (by simp) (begun_bnd _) (hT.of_ext e) (IR.nil _ _) (fun c hc => by cases hc) hcnt
  have hcl2 := fun (W : World) (e : Ext w0 W) => Lib.hid (hcl W e)
  have hbx := fun (W : World) (e : Ext w0 W) => (hT.of_ext e).c2
  have hb5 : ∀ W, Ext w0 W → W.cell? ⟨w.heap.size + 3, 0, none⟩ = some (.func (.func 75) #[] #[.pointer (some ⟨w.heap.size, 0, none⟩), .pointer (some ⟨w.heap.size + 1, 0, none⟩), .pointer (some ⟨w.heap.size + 2, 0, none⟩), .pointer (some ⟨w.heap.size + 3, 0, none⟩)]) := fun W e => by
    rw [cell_of_row W _ _ _ _ _ (hT.of_ext e).b5]; rfl
  unfold rowV at hcl2
  clear hadd hcnt hcl hT
  go_enter Try.func51, Try.ntmps51
  go_upto_region 3 with fail
  rw [← hw0]
  clear hw0
  refine region_lit 3 Ext (fun i v W => match i with | 0 => v = .func (.func 75) #[] #[.pointer (some ⟨w.heap.size, 0, none⟩), .pointer (some ⟨w.heap.size + 1, 0, none⟩), .pointer (some ⟨w.heap.size + 2, 0, none⟩), .pointer (some ⟨w.heap.size + 3, 0, none⟩)] | 1 => v = .agg #[.slice LA ls.length lc, .string rd, .int .i64 E] | 2 => v = .agg (rowCells (begunRow rd.data.toList)).toArray | _ => True) (by kernel_rfl) (by kernel_rfl) Ext.refl Ext.trans (Ext.dr (Ext.refl _) 1) ⟨?_, ?_, ?_, trivial⟩ ?_
  · refine StepG.plain rfl ?_
    rintro u W A' hA hW - K hK
    have a5 := ev_out 5 hA (by kernel_rfl) (by simp)
    have q := hb5 W hW
    clear hA
    go_simp
    exact hK _ _ (Ext.refl _) (fun _ _ => rfl)
  · refine StepG.plain rfl ?_
    rintro u W A' hA hW - K hK
    have a2 := ev_out 2 hA (by kernel_rfl) (by simp)
    obtain ⟨q0, q1, q2, q3, q4⟩ := hbx W hW
    clear hA
    go_simp
    exact hK _ _ (Ext.refl _) (fun _ _ => rfl)
  · refine StepG.plain rfl ?_
    rintro u W A' hA hW ⟨h1, -⟩ K hK
    simp only at h1
    have a8 := ev_in 8 1 hA (by kernel_rfl) (by simp)
    have hcall := Lib.hid (begun_78 LA ls.length lc rd E W hrd)
    unfold rowV at hcall
    clear hA
    go_simp
    refine hcall.out.mono ?_
    rintro e W1 ⟨rfl, hE⟩
    exact hK _ _ hE (fun _ _ => rfl)
  · rintro u W hW ⟨h0, h1, h2, -⟩
    simp only at h0 h1 h2
    have hcall := hcl2 W hW
    simp [puts, dstOf, Act.put]
    rw [h0, h2]
    clear hcl2 hbx hb5
    go_wp2_with fail
    refine hcall.out.mono ?_
    rintro e W5 ⟨ov, css, ⟨rv, rfl⟩, hT5, hF5, hN5⟩
    simp only [List.nil_append] at hT5
    obtain ⟨_, _, _, _, q4⟩ := hT5.c2
    have q5 : W5.frozen? ⟨w.heap.size + 2, 0, none⟩ = false := frozen_of_row W5 _ _ _ _ hT5.b4
    have hs := grownBy_set W5 (w.heap.size + 2) 0 ov
    have hx : Ext w (W5.setCell ⟨w.heap.size + 2, 0, none⟩ ov) := ext_set hT5.ext (by omega) _
    have hTX : TX w.heap.size (W5.setCell ⟨w.heap.size + 2, 0, none⟩ ov) ov css (addF (lsB ls) rd.data.toList E N [] (begunRow rd.data.toList)) := by
      have off : ∀ (v : Value), (∀ g, v.ownBlock = some g → w.heap.size + 4 ≤ g) → v.ownBlock = none ∨ v.ownBlock ≠ some (w.heap.size + 2) := fun v h => by
        cases hv : v.ownBlock with
        | none => exact .inl rfl
        | some g => refine .inr fun e => ?_; injection e with e; have := h g hv; omega
      exact ⟨ownsRow_mono (hT5.out.kept hs (off _ fun g hg => (hT5.out.lt g hg).1)) (by omega), hT5.len, fun i h h' => ((hT5.each i h h').kept hs (off _ fun g hg => ((hT5.each i h h').block hg).1)).mono (by omega)⟩
    have hcell : (W5.setCell ⟨w.heap.size + 2, 0, none⟩ ov).cell? ⟨w.heap.size + 2, 0, none⟩ = some ov := by
      rw [cell_of_row _ _ _ _ _ _ (heap_set1 hT5.b4)]; rfl
    obtain ⟨A1, c1, hov⟩ : ∃ A c, ov = .slice A (addF (lsB ls) rd.data.toList E N [] (begunRow rd.data.toList)).length c := by
      rcases hT5.out.2 with ⟨e, h0⟩ | ⟨g, cap, cur, e, _⟩
      · exact ⟨none, 0, by rw [e, h0]⟩
      · exact ⟨_, _, e⟩
    have HTX := Lib.hid hTX
    have HX := Lib.hid hx
    have HOV := Lib.hid hov
    have HC := Lib.hid hcell
    clear hT5 hF5 hN5 hTX hx hov hcall hs hcell
    obtain ⟨L, hLe⟩ : ∃ L, L = (addF (lsB ls) rd.data.toList E N [] (begunRow rd.data.toList)).length := ⟨_, rfl⟩
    rw [← hLe] at HOV
    clear hLe
    obtain rfl := HOV.out
    clear HOV
    go_wp2_with fail
    have hc2 : (W5.setCell ⟨w.heap.size + 1 + 1, 0, none⟩ (.slice A1 L c1)).cell? ⟨w.heap.size + 1 + 1, 0, none⟩ = some (.slice A1 L c1) := HC.out
    refine bodyPost_ret (v := .slice A1 L c1) (by simp [results, Try.results51, go_sem, hc2]) rfl ?_
    exact ⟨_, css, rfl, HX.out, HTX.out⟩
end Go.Proofs.Tp
