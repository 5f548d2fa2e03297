import Derived.Test.YtnlknpcbdciljaaLd8
/- The example of the statement: coded. -/
namespace Go.Proofs.Tp
open Go.RowKit Go.Proofs.Gr
set_option linter.unusedVariables false
set_option linter.unusedSimpArgs false
set_option maxRecDepth 100000
attribute [local go_sem] below_alloc' below_drewN' below_drew' below_set' Below.refl
def exLs : List ByteArray := [⟨#[46]⟩, ⟨#[45]⟩]
theorem exFine : Fine exLs := by
  refine ⟨by decide, by decide, ?_, ?_⟩
  · intro s hs
    rcases List.mem_cons.1 hs with rfl | hs
    · decide
    · rw [List.mem_singleton.1 hs]; decide
  · intro i h
    have h2 : i = 0 ∨ i = 1 := by have : exLs.length = 2 := rfl; omega
    rcases h2 with rfl | rfl <;> revert h <;> decide +kernel
theorem exTexts : textsF (lsB exLs) [46, 46] 1 1 = [[1]] := by decide +kernel
theorem exCode : codeL 13 [⟨1, 0, 0⟩] [0] [5] 0 ⟨1, 0, 0⟩ = [0, 5, 10] := by decide +kernel
theorem exCheck : checkF 13 13 [⟨1, 0, 0⟩] [0] = 0 := by decide +kernel
theorem sl_of_cells1 {W : World} {g : Nat} {xs : List Int} {T : TypeId} (h : W.heap[g]? = some (.cells (xs.map fun x => Value.int .i64 x).toArray T (0, 0))) : SlA intK W (some ⟨g, 0, none⟩) xs := by
  refine .inr ⟨g, 0, rfl, fun i hi => ⟨[.int .i64 xs[i]], by simp [intK, scalar], At.mk fun j hj => ?_⟩⟩
  obtain rfl : j = 0 := by simpa using hj
  rw [show intK.sz = 1 from rfl, cell_of_row W g _ _ _ _ h]
  simp [hi]
set_option maxHeartbeats 4000000 in
theorem coded_9 (w : World) : Calls Try.prog 9 #[] w fun e w' => e = .returned (.bool true) ∧ Ext w w' := by
  obtain ⟨w0, hw0⟩ : ∃ w0, w0 = ((w.alloc (.cells #[.int .i64 1, .int .i64 0, .int .i64 0] 57)).alloc (.cells #[.int .i64 0] 3)).alloc (.cells #[.int .i64 13, .int .i64 13, .slice (some ⟨w.heap.size, 0, none⟩) 1 1, .slice (some ⟨w.heap.size + 1, 0, none⟩) 1 1] 49) := ⟨_, rfl⟩
  have hE0 : Ext w w0 := by rw [hw0]; exact e3 w _ _ _
  have hsz : w0.heap.size = w.heap.size + 1 + 1 + 1 := by rw [hw0]; simp
  have hb : ∀ W, Ext w0 W → W.cell? ⟨w.heap.size + 1 + 1, 0, none⟩ = some (.int .i64 13) ∧ W.cell? ⟨w.heap.size + 1 + 1, 1, none⟩ = some (.int .i64 13) ∧ W.cell? ⟨w.heap.size + 1 + 1, 2, none⟩ = some (.slice (some ⟨w.heap.size, 0, none⟩) 1 1) ∧ W.cell? ⟨w.heap.size + 1 + 1, 3, none⟩ = some (.slice (some ⟨w.heap.size + 1, 0, none⟩) 1 1) := fun W hW => by
    refine ⟨?_, ?_, ?_, ?_⟩ <;> (rw [hW.cell (by rw [hsz]; simp only []; omega), hw0]; simp [go_sem])
  have hks : ∀ W, Ext w0 W → SlA ckeyK W (some ⟨w.heap.size, 0, none⟩) [⟨1, 0, 0⟩] := fun W hW => by
    refine .inr ⟨w.heap.size, 0, rfl, fun i hi => ?_⟩
    obtain rfl : i = 0 := by simpa using hi
    have hg : W.heap[w.heap.size]? = some (.cells #[.int .i64 1, .int .i64 0, .int .i64 0] 57 (0, 0)) := by
      rw [hW.block _ (by omega), hw0, heap_alloc_old _ _ (by simp <;> omega), heap_alloc_old _ _ (by simp), heap_alloc_new]
    refine ⟨[.int .i64 1, .int .i64 0, .int .i64 0], rfl, At.mk fun j hj => ?_⟩
    rw [cell_of_row W _ _ _ _ _ hg]
    simp
  have hds : ∀ W, Ext w0 W → SlA intK W (some ⟨w.heap.size + 1, 0, none⟩) [0] := fun W hW => by
    refine sl_of_cells1 (T := 3) ?_
    rw [hW.block _ (by omega), hw0, heap_alloc_old _ _ (by simp)]
    have := heap_alloc_new (w.alloc (.cells #[.int .i64 1, .int .i64 0, .int .i64 0] 57)) (.cells #[.int .i64 0] 3)
    simpa using this
  have h19 : ∀ W, Ext w0 W → Hid (Calls Try.prog 19 #[.agg #[.int .i64 13, .int .i64 13, .slice (some ⟨w.heap.size, 0, none⟩) 1 1, .slice (some ⟨w.heap.size + 1, 0, none⟩) 1 1], .int .i64 0, .slice (some ⟨W.heap.size, 0, none⟩) 1 1] (W.alloc (.cells #[.int .i64 5] 3)) (CodeR 13 [⟨1, 0, 0⟩] [0] [5] 0 ⟨1, 0, 0⟩ (W.alloc (.cells #[.int .i64 5] 3)))) := fun W hW =>
    Lib.hid (code_19 13 13 [⟨1, 0, 0⟩] [0] [5] (some ⟨w.heap.size, 0, none⟩) (some ⟨w.heap.size + 1, 0, none⟩) (some ⟨W.heap.size, 0, none⟩) 1 1 1 0 0 _ (by decide) (hks _ (hW.al _)) (hds _ (hW.al _)) (sl_of_cells1 (xs := [5]) (heap_alloc_new W _)) (by decide) (by decide) exCheck (by decide) (by decide) (by decide) rfl (by decide) (by decide) (by decide) (by decide) (by decide) (by decide))
  have h20 : ∀ W, Ext w0 W → Hid (Calls Try.prog 20 #[.agg #[.int .i64 13, .int .i64 13, .slice (some ⟨w.heap.size, 0, none⟩) 1 1, .slice (some ⟨w.heap.size + 1, 0, none⟩) 1 1], .int .i64 0, .slice (some ⟨W.heap.size, 0, none⟩) 3 3] (W.alloc (.cells #[.int .i64 0, .int .i64 6, .int .i64 10] 3)) fun e w' => e = .returned (.tuple #[.slice none 0 0, .slice none 0 0, .int .i64 11]) ∧ Ext (W.alloc (.cells #[.int .i64 0, .int .i64 6, .int .i64 10] 3)) w') := fun W hW =>
    Lib.hid (decode_20 13 13 [⟨1, 0, 0⟩] [0] [0, 6, 10] (some ⟨w.heap.size, 0, none⟩) (some ⟨w.heap.size + 1, 0, none⟩) (some ⟨W.heap.size, 0, none⟩) 1 1 3 0 2 _ (by decide) (hks _ (hW.al _)) (hds _ (hW.al _)) (sl_of_cells1 (xs := [0, 6, 10]) (heap_alloc_new W _)) (by decide) (by decide) (by decide) exCheck (by decide) (by decide) rfl (by decide) (by decide) (by decide) (by decide) (by decide) (by decide))
  have h21 : ∀ W : World, Hid (Calls Try.prog 21 #[.agg #[.slice (some ⟨W.heap.size, 0, none⟩) 2 2], .string ⟨#[46, 46]⟩, .int .i64 1, .int .i64 1] (W.alloc (.cells #[.string ⟨#[46]⟩, .string ⟨#[45]⟩] 9)) fun e w' => ∃ v, e = .returned (.tuple #[v, .int .i64 0]) ∧ Ext (W.alloc (.cells #[.string ⟨#[46]⟩, .string ⟨#[45]⟩] 9)) w' ∧ Sl (slK intK) w' v [[1]]) := fun W => by
    have hsl : SlA strK (W.alloc (.cells #[.string ⟨#[46]⟩, .string ⟨#[45]⟩] 9)) (some ⟨W.heap.size, 0, none⟩) exLs := by
      refine .inr ⟨W.heap.size, 0, rfl, fun i hi => ⟨[.string exLs[i]], rfl, At.mk fun j hj => ?_⟩⟩
      obtain rfl : j = 0 := by simpa using hj
      rw [show strK.sz = 1 from rfl, cell_of_row _ _ _ _ _ _ (heap_alloc_new W _)]
      have h2 : i = 0 ∨ i = 1 := by have : exLs.length = 2 := rfl; omega
      rcases h2 with rfl | rfl <;> rfl
    have h := texts_21 exLs (some ⟨W.heap.size, 0, none⟩) 2 ⟨#[46, 46]⟩ 1 1 _ (by decide) (by intro b hb; simp at hb; exact .inl hb) (by decide) (by decide) exFine (by decide) hsl
    have he : textsF (lsB exLs) (⟨#[46, 46]⟩ : ByteArray).data.toList ((1 : Nat) : Int) 1 = [[1]] := exTexts
    rw [he] at h
    exact Lib.hid h
  clear hks hds hsz
  obtain ⟨b0, b1, b2, b3⟩ := hb w0 (Ext.refl _)
  have HB := Lib.hid hb
  clear hb
  go_enter Try.func9, Try.ntmps9
  go_upto_region 2 with fail
  rw [← hw0]
  clear hw0
  have h19' := h19 w0 (Ext.refl _)
  go_wp2_with (first
    | (go_at_call 19; refine h19'.out.mono ?_; rintro e W1 ⟨v1, rfl, hE1, hS1⟩; rw [exCode] at hS1; have HE1 := Lib.hid ((e1 w0 _).trans hE1); have HS1 := Lib.hid hS1; clear hE1 hS1; obtain ⟨c0, c1, c2, c3⟩ := HB.out W1 HE1.out; have h20' := h20 W1 HE1.out)
    | (go_at_call 20; refine h20'.out.mono ?_; rintro e W2 ⟨rfl, hE2⟩; have HE2 := Lib.hid (HE1.out.trans ((e1 W1 _).trans hE2)); have HS2 := Lib.hid (HS1.out.ext ((e1 W1 _).trans hE2)); clear hE2; have h21' := h21 W2)
    | (go_at_call 21; refine h21'.out.mono ?_; rintro e W3 ⟨v3, rfl, hE3, hS3⟩; have HE3 := Lib.hid (HE2.out.trans ((e1 W2 _).trans hE3)); have HS3 := Lib.hid (HS2.out.ext ((e1 W2 _).trans hE3)); have HT3 := Lib.hid hS3; clear hE3 hS3; obtain ⟨A1, a1, hv1, _, _, hs1⟩ := HS3.out; subst hv1; obtain ⟨A3, a3, hv3, _, _, hT⟩ := HT3.out; subst hv3; obtain ⟨tb, toff, tcs, rfl, ⟨tv, htcs, hSt⟩, hat⟩ := Sl.at_ hT 0 (by decide); subst htcs; obtain ⟨A4, a4, htv, _, _, hS4⟩ := hSt; subst htv; obtain ⟨ub, uoff, ucs, rfl, hucs, hat4⟩ := Sl.at_ hS4 0 (by decide); have hucs' : ucs = [.int .i64 1] := hucs; subst hucs'; simp only [Nat.zero_mul, Nat.add_zero] at hat hat4; have HA := Lib.hid hat; have HA4 := Lib.hid hat4; have h22' := Lib.hid (same_22 [0, 5, 10] [0, 5, 10] A1 (some ⟨W3.heap.size, 0, none⟩) a1 3 (W3.alloc (.cells #[.int .i64 0, .int .i64 5, .int .i64 10] 3)) (hs1.ext (e1 _ _)) (sl_of_cells1 (xs := [0, 5, 10]) (heap_alloc_new W3 _)) (by decide) (by decide)); clear hT hS4 hat hat4 hucs hs1)
    | (go_at_call 22; refine h22'.out.mono ?_; rintro e W4 ⟨rfl, hE4⟩; have HE4 := Lib.hid ((e1 W3 _).trans hE4); have k0 := at1 HA.out HE4.out; have k1 := at1 HA4.out HE4.out; clear hE4))
  go_ret
  exact ⟨rfl, hE0.trans (HE3.out.trans HE4.out)⟩
end Go.Proofs.Tp
