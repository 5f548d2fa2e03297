import Derived.Test.YtnlknpcbdciljaaLc6
/- A book turned for the program. -/
namespace Go.Proofs.Tp
open Go.RowKit Go.Proofs.Gr
set_option linter.unusedVariables false
set_option linter.unusedSimpArgs false
set_option maxRecDepth 100000
attribute [local go_sem] below_alloc' below_drewN' below_drew' below_set' Below.refl
theorem inf57 : (Try.prog.info? 57).map (fun i => (i.zero, i.size, i.bytes)) = some (some (.agg #[.int .i64 0, .int .i64 0, .int .i64 0]), 3, 24) := by kernel_rfl
/-- a row lies in no block of another type -/
theorem Ow.off {α : Type} {k : Kd α} {e : TypeId} {w0 W : World} {v : Value} {xs : List α} (h : Ow k e w0 W v xs) {j : Nat} {cs : Array Value} {T : TypeId} {fr : Nat × Nat} (hk : W.heap[j]? = some (.cells cs T fr)) (hne : T ≠ e) : v.ownBlock = none ∨ v.ownBlock ≠ some j := by
  obtain ⟨_, _, _, _, h4⟩ := h
  refine .inr fun hv => ?_
  obtain ⟨cur, hc⟩ := ownBlock_row h4 hv
  rw [hk] at hc
  injection hc with h1
  injection h1 with h2 h3 h4
  exact hne h3
theorem heap_lt {W : World} {j : Nat} {o : Obj} (h : W.heap[j]? = some o) : j < W.heap.size := (Array.getElem?_eq_some_iff.1 h).1
theorem Ow.far {α : Type} {k : Kd α} {e : TypeId} {w0 W W' : World} {v : Value} {xs : List α} (h : Ow k e w0 W v xs) (hg : W.grownBy W' v.ownBlock) {j : Nat} {cs : Array Value} {T : TypeId} {fr : Nat × Nat} (hk : W.heap[j]? = some (.cells cs T fr)) (hne : T ≠ e) : W'.heap[j]? = some (.cells cs T fr) := by
  refine (hg.block j (heap_lt hk) fun e => ?_).trans hk
  rcases h.off hk hne with h1 | h1
  · rw [h1] at e; cases e
  · exact h1 e.symm
theorem grownBy_row (W : World) (g : Nat) (cs : Array Value) : W.grownBy (W.setRow g cs) (some g) :=
  ⟨rfl, rfl, rfl, by rw [setRow_size]; exact Nat.le_refl _, fun k _ hne => setRow_other W g k cs (fun e => hne (by rw [e]))⟩
theorem ext_row {w W : World} (h : Ext w W) {g : Nat} (hg : w.heap.size ≤ g) (cs : Array Value) : Ext w (W.setRow g cs) := h.grown (grownBy_row W g cs) h.size (fun k e => by cases e; exact hg)
/-- a key's box -/
def AgD (s wd : Int) (w : World) (ds : List Int) (v : Value) (W : World) : Prop := ∃ d, v = .agg #[.int .i64 s, .int .i64 wd, .slice none 0 0, d] ∧ Ow intK 3 w W d ds
/-- the boxes of 'Book', behind m keys -/
structure BkS (s wd : Int) (ks : List CKey) (ds : List Int) (KA DA : Option Addr) (kc dc g m : Nat) (w W : World) : Prop where
  ext : Ext w W
  b1 : W.heap[w.heap.size]? = some (.cells #[.int .i64 s, .int .i64 wd, .slice KA ks.length kc, .slice DA ds.length dc] 28 (0, 0))
  b2 : W.heap[w.heap.size + 1]? = some (.cells #[.int .i64 0, .int .i64 0, .slice none 0 0, .slice none 0 0] 49 (0, 0))
  hg : w.heap.size + 1 < g
  b3 : ∃ kv dv, W.heap[g]? = some (.cells #[.int .i64 s, .int .i64 wd, kv, dv] 49 (0, 0)) ∧ Ow ckeyK 57 w W kv (ks.take m) ∧ Ow intK 3 w W dv ds
theorem OwX.low {α : Type} {k : Kd α} {e : TypeId} {w W : World} {v : Value} {xs : List α} (h : OwX k e w W v xs) (hr : ∀ w1 x cs, k.rep w1 x cs → k.rep w x cs) : Ow k e w W v xs := let ⟨w1, h1, h2⟩ := h; h2.low h1 (hr w1)
def BkR (s wd : Int) (ks : List CKey) (ds : List Int) (w : World) (e : Ending) (w' : World) : Prop := ∃ kv dv, e = .returned (.agg #[.int .i64 s, .int .i64 wd, kv, dv]) ∧ Sl ckeyK w' kv ks ∧ Sl intK w' dv ds ∧ Ext w w'
set_option maxHeartbeats 2000000 in
theorem book_13 (s wd : Int) (ks : List CKey) (ds : List Int) (KA DA : Option Addr) (kc dc : Nat) (w : World) (hk : SlA ckeyK w KA ks) (hd : SlA intK w DA ds) (hkl : ks.length ≤ 1000) (hdl : ds.length ≤ 1000) :
    Calls Try.prog 13 #[.agg #[.int .i64 s, .int .i64 wd, .slice KA ks.length kc, .slice DA ds.length dc]] w (BkR s wd ks ds w) := by
  obtain ⟨w0, hw0⟩ : ∃ w0, w0 = (w.alloc (.cells #[.int .i64 s, .int .i64 wd, .slice KA ks.length kc, .slice DA ds.length dc] 28)).alloc (.cells #[.int .i64 0, .int .i64 0, .slice none 0 0, .slice none 0 0] 49) := ⟨_, rfl⟩
  have hE0 : Ext w w0 := by rw [hw0]; exact e2 w _ _
  have hsz : w0.heap.size = w.heap.size + 1 + 1 := by rw [hw0]; simp
  have h1 : w0.heap[w.heap.size]? = some (.cells #[.int .i64 s, .int .i64 wd, .slice KA ks.length kc, .slice DA ds.length dc] 28 (0, 0)) := by
    rw [hw0]; exact (Below.heap_alloc _ _ _ (by simp)).trans (heap_alloc_new w _)
  have h2 : w0.heap[w.heap.size + 1]? = some (.cells #[.int .i64 0, .int .i64 0, .slice none 0 0, .slice none 0 0] 49 (0, 0)) := by
    have := heap_alloc_new (w.alloc (.cells #[.int .i64 s, .int .i64 wd, .slice KA ks.length kc, .slice DA ds.length dc] 28)) (.cells #[.int .i64 0, .int .i64 0, .slice none 0 0, .slice none 0 0] 49)
    simp only [World.size_alloc] at this
    rw [hw0]; exact this
  have hb' : ∀ W, Ext w0 W → W.cell? ⟨w.heap.size, 0, none⟩ = some (.int .i64 s) ∧ W.cell? ⟨w.heap.size, 1, none⟩ = some (.int .i64 wd) ∧ W.cell? ⟨w.heap.size, 3, none⟩ = some (.slice DA ds.length dc) := fun W hW => by
    have := (hW.block _ (by omega)).trans h1
    refine ⟨?_, ?_, ?_⟩ <;> (rw [cell_of_row W _ _ _ _ _ this]; rfl)
  have hlist := fun (W : World) (e : Ext w0 W) => Lib.hid (list_35 ds DA dc W (hd.ext (hE0.trans e)) (by omega))
  have H1 := Lib.hid h1
  have H2 := Lib.hid h2
  clear h1 h2
  go_enter Try.func13, Try.ntmps13
  go_upto_region 1 with fail
  rw [← hw0]
  clear hw0
  refine region_lit 9 Ext (fun i v W => match i with | 0 => v = .pointer (some ⟨w.heap.size, 0, none⟩) | 1 => v = .int .i64 s | 2 => v = .pointer (some ⟨w.heap.size, 1, none⟩) | 3 => v = .int .i64 wd | 4 => v = .pointer (some ⟨w.heap.size, 3, none⟩) | 5 => v = .slice DA ds.length dc | 6 => Ow intK 3 w W v ds | 7 => AgD s wd w ds v W | 8 => Bl w0 49 [.int .i64 0, .int .i64 0, .slice none 0 0, .slice none 0 0] v W | _ => True) (by kernel_rfl) (by kernel_rfl) Ext.refl Ext.trans (Ext.dr (Ext.refl _) 1) ⟨?_, ?_, ?_, ?_, ?_, ?_, ?_, ?_, ?_, trivial⟩ ?_
  · refine StepG.plain rfl ?_
    rintro u W A' hA hW - K hK
    have a1 := ev_out 1 hA (by kernel_rfl) (by simp)
    clear hA
    go_simp
    exact hK _ _ (Ext.refl _) (fun _ _ => rfl)
  · refine StepG.plain rfl ?_
    rintro u W A' hA hW ⟨h0, -⟩ K hK
    simp only at h0
    have a5 := ev_in 5 0 hA (by kernel_rfl) (by simp)
    obtain ⟨q0, q1, q2⟩ := hb' W hW
    clear hA
    go_simp
    exact hK _ _ (Ext.refl _) (fun _ _ => rfl)
  · refine StepG.plain rfl ?_
    rintro u W A' hA hW - K hK
    have a1 := ev_out 1 hA (by kernel_rfl) (by simp)
    clear hA
    go_simp
    exact hK _ _ (Ext.refl _) (fun _ _ => rfl)
  · refine StepG.plain rfl ?_
    rintro u W A' hA hW ⟨h2, -⟩ K hK
    simp only at h2
    have a7 := ev_in 7 2 hA (by kernel_rfl) (by simp)
    obtain ⟨q0, q1, q2⟩ := hb' W hW
    clear hA
    go_simp
    exact hK _ _ (Ext.refl _) (fun _ _ => rfl)
  · refine StepG.plain rfl ?_
    rintro u W A' hA hW - K hK
    have a1 := ev_out 1 hA (by kernel_rfl) (by simp)
    clear hA
    go_simp
    exact hK _ _ (Ext.refl _) (fun _ _ => rfl)
  · refine StepG.plain rfl ?_
    rintro u W A' hA hW ⟨h4, -⟩ K hK
    simp only at h4
    have a9 := ev_in 9 4 hA (by kernel_rfl) (by simp)
    obtain ⟨q0, q1, q2⟩ := hb' W hW
    clear hA
    go_simp
    exact hK _ _ (Ext.refl _) (fun _ _ => rfl)
  · refine StepG.plain rfl ?_
    rintro u W A' hA hW ⟨h5, -⟩ K hK
    simp only at h5
    have a10 := ev_in 10 5 hA (by kernel_rfl) (by simp)
    have hcl := hlist W hW
    clear hA
    go_simp
    refine hcl.out.mono ?_
    rintro e W1 ⟨v, rfl, hO⟩
    exact hK _ _ hO.le (fun V hV => ((OwX.low ⟨_, hE0.trans (hW.trans hO.choose_spec.1), hO.choose_spec.2⟩ (fun _ _ _ h => h)).ext hV))
  · refine StepG.plain rfl ?_
    rintro u W A' hA hW ⟨h1, h3, h6, -⟩ K hK
    simp only at h1 h3 h6
    have a6 := ev_in 6 1 hA (by kernel_rfl) (by simp)
    have a8 := ev_in 8 3 hA (by kernel_rfl) (by simp)
    have a11 := ev_in 11 6 hA (by kernel_rfl) (by simp)
    obtain ⟨A1, c1, hl1⟩ := h6.len
    rw [hl1] at a11 h6
    clear hA
    go_simp
    exact hK _ _ (Ext.refl _) (fun V hV => ⟨_, rfl, h6.ext hV⟩)
  · refine StepG.plain rfl ?_
    rintro u W A' hA hW - K hK
    clear hA
    go_simp
    exact hK _ _ (e1 _ _) (fun V hV => (Bl.new hW 49 _).ext hV)
  · rintro u W hW ⟨-, -, -, -, -, -, -, h7, h8, -⟩
    simp only at h7 h8
    obtain ⟨d, hd1, hd2⟩ := h7
    obtain ⟨g, hg1, hg2, hg3, hg4⟩ := h8
    simp [puts, dstOf, Act.put]
    rw [hg1, hd1]
    have hS : BkS s wd ks ds KA DA kc dc g 0 w (W.setRow g #[.int .i64 s, .int .i64 wd, .slice none 0 0, d]) := by
      have hne : g ≠ w.heap.size := by omega
      have hne' : g ≠ w.heap.size + 1 := by omega
      have hx := ext_row (hE0.trans hW) (show w.heap.size ≤ g by omega) #[.int .i64 s, .int .i64 wd, .slice none 0 0, d]
      refine ⟨hx, ?_, ?_, by omega, _, _, setRow_heap W g _ _ _ _ hg4, ?_, hd2.other (grownBy_row _ _ _) hx (hd2.off hg4 (by decide))⟩
      · rw [setRow_other W g _ _ (Ne.symm hne)]; exact (hW.block _ (by omega)).trans H1.out
      · rw [setRow_other W g _ _ (Ne.symm hne')]; exact (hW.block _ (by omega)).trans H2.out
      · exact Ow.nil hx
    refine wpList_plain rfl fun K hK => wp_store_row 49 _ _ rfl g _ rfl rfl 49 _ hg4 (by kernel_rfl) rfl (by obtain ⟨A1, c1, rfl⟩ := hd2.len; simp [Value.oneCell']) (hK _ _ ?_)
    obtain ⟨W2, hW2⟩ : ∃ W2, W2 = W.setRow g #[.int .i64 s, .int .i64 wd, .slice none 0 0, d] := ⟨_, rfl⟩
    rw [← hW2] at hS ⊢
    clear hW2 hb' hlist hg4 hd2 hW hE0 hsz hg1 hd1
    go_wp2_with fail
    go_loopw [4] (fun i wr => ∃ m : Nat, m ≤ ks.length ∧ i = .int .i64 m ∧ BkS s wd ks ds KA DA kc dc g m w wr) (fun i _ => ks.length - (intOf i).toNat)
    case atStart => exact ⟨0, by omega, rfl, hS⟩
    case round =>
      clear hS
      obtain ⟨m, hm, rfl, hS⟩ := hrel
      have c2 : wr.cell? ⟨w.heap.size, 2, none⟩ = some (.slice KA ks.length kc) := by rw [cell_of_row wr _ _ _ _ _ hS.b1]; rfl
      by_cases hlt : m < ks.length
      · have hlt' : (m : Int) < (ks.length : Int) := by omega
        obtain ⟨kv, dv, hb3, hO, hD⟩ := hS.b3
        obtain ⟨b, off, cs, rfl, hcs, hat⟩ := Sl.at_ hk m hlt
        have HT := Lib.hid (show ks.take (m + 1) = ks.take m ++ [ks[m]] from List.take_succ_eq_append_getElem hlt)
        obtain ⟨k, hke⟩ : ∃ k, k = ks[m] := ⟨_, rfl⟩
        rw [← hke] at hcs HT
        have hcs' : cs = [.int .i64 k.mul, .int .i64 k.add, .int .i64 k.step] := hcs
        subst hcs'
        simp only [show ckeyK.sz = 3 from rfl] at hat
        have hx' : ∀ W, Ext wr W → W.cell? ⟨b, off + m * 3, none⟩ = some (.int .i64 k.mul) ∧ W.cell? ⟨b, off + m * 3 + 1, none⟩ = some (.int .i64 k.add) ∧ W.cell? ⟨b, off + m * 3 + 2, none⟩ = some (.int .i64 k.step) := fun W h => at3 hat (hS.ext.trans h)
        have hc' : ∀ W, Ext wr W → W.cell? ⟨w.heap.size, 2, none⟩ = some (.slice (some ⟨b, off, none⟩) ks.length kc) ∧ W.cell? ⟨g, 2, none⟩ = some kv := fun W h => by
          refine ⟨?_, ?_⟩
          · rw [cell_of_row W _ _ _ _ _ ((h.block _ (heap_lt hS.b1)).trans hS.b1)]; rfl
          · rw [cell_of_row W _ _ _ _ _ ((h.block _ (heap_lt hb3)).trans hb3)]; rfl
        have hkey := fun (W : World) => Lib.hid (key_36 k W)
        have hml : (ks.take m).length = m := by rw [List.length_take]; omega
        have HS := Lib.hid hS
        have HB3 := Lib.hid hb3
        clear hcs hat hk hke hS hb3
        go_upto_region 5 with fail
        refine region_lit 9 Ext (fun i v W => match i with | 0 => v = .pointer (some ⟨g, 2, none⟩) | 1 => v = kv | 2 => v = .pointer (some ⟨w.heap.size, 2, none⟩) | 3 => v = .slice (some ⟨b, off, none⟩) ks.length kc | 4 => v = .int .i64 (m : Int) | 5 => v = .pointer (some ⟨b, off + m * 3, none⟩) | 6 => v = .agg #[.int .i64 k.mul, .int .i64 k.add, .int .i64 k.step] | 7 => v = .agg #[.int .i64 k.mul, .int .i64 k.add, .int .i64 k.step] | 8 => Li wr 57 1 [.int .i64 k.mul, .int .i64 k.add, .int .i64 k.step] v W | _ => True) (by kernel_rfl) (by kernel_rfl) Ext.refl Ext.trans (Ext.dr (Ext.refl _) 1) ⟨?_, ?_, ?_, ?_, ?_, ?_, ?_, ?_, ?_, trivial⟩ ?_
        · refine StepG.plain rfl ?_
          rintro u W A' hA hW - K hK
          have a3 := ev_out 3 hA (by kernel_rfl) (by simp)
          clear hA
          go_simp
          exact hK _ _ (Ext.refl _) (fun _ _ => rfl)
        · refine StepG.plain rfl ?_
          rintro u W A' hA hW ⟨h0, -⟩ K hK
          simp only at h0
          have a20 := ev_in 20 0 hA (by kernel_rfl) (by simp)
          obtain ⟨q0, q1⟩ := hc' W hW
          clear hA
          go_simp
          exact hK _ _ (Ext.refl _) (fun _ _ => rfl)
        · refine StepG.plain rfl ?_
          rintro u W A' hA hW - K hK
          have a1 := ev_out 1 hA (by kernel_rfl) (by simp)
          clear hA
          go_simp
          exact hK _ _ (Ext.refl _) (fun _ _ => rfl)
        · refine StepG.plain rfl ?_
          rintro u W A' hA hW ⟨h2, -⟩ K hK
          simp only at h2
          have a22 := ev_in 22 2 hA (by kernel_rfl) (by simp)
          obtain ⟨q0, q1⟩ := hc' W hW
          clear hA
          go_simp
          exact hK _ _ (Ext.refl _) (fun _ _ => rfl)
        · refine StepG.plain rfl ?_
          rintro u W A' hA hW - K hK
          have a4 := ev_out 4 hA (by kernel_rfl) (by simp)
          clear hA
          go_simp
          exact hK _ _ (Ext.refl _) (fun _ _ => rfl)
        · refine StepG.plain rfl ?_
          rintro u W A' hA hW ⟨h3, h4, -⟩ K hK
          simp only at h3 h4
          have a23 := ev_in 23 3 hA (by kernel_rfl) (by simp)
          have a24 := ev_in 24 4 hA (by kernel_rfl) (by simp)
          clear hA
          go_simp
          exact hK _ _ (Ext.refl _) (fun _ _ => rfl)
        · refine StepG.plain rfl ?_
          rintro u W A' hA hW ⟨h5, -⟩ K hK
          simp only at h5
          have a25 := ev_in 25 5 hA (by kernel_rfl) (by simp)
          obtain ⟨q0, q1, q2⟩ := hx' W hW
          clear hA
          go_simp
          exact hK _ _ (Ext.refl _) (fun _ _ => rfl)
        · refine StepG.plain rfl ?_
          rintro u W A' hA hW ⟨h6, -⟩ K hK
          simp only at h6
          have a26 := ev_in 26 6 hA (by kernel_rfl) (by simp)
          have hcl := hkey W
          clear hA
          go_simp
          refine hcl.out.mono ?_
          rintro e W1 ⟨rfl, hE⟩
          exact hK _ _ hE (fun _ _ => rfl)
        · refine StepG.plain rfl ?_
          rintro u W A' hA hW ⟨h7, -⟩ K hK
          simp only at h7
          have a27 := ev_in 27 7 hA (by kernel_rfl) (by simp)
          clear hA
          go_simp
          exact hK _ _ (e1 _ _) (fun V hV => (Li.new hW 57 1 _).ext hV)
        · rintro u W hW ⟨-, h1, -, -, -, -, -, -, h8, -⟩
          simp only at h1 h8
          have hO2 := hO.ext hW
          have hD2 := hD.ext hW
          obtain ⟨gb, hg1, hg2, hg3, hg4⟩ := h8
          simp [puts, dstOf, Act.put]
          rw [hg1, h1]
          have hS2 := HS.out
          have hb3 := (hW.block _ (heap_lt HB3.out)).trans HB3.out
          have hb1 := (hW.block _ (heap_lt hS2.b1)).trans hS2.b1
          have hb2 := (hW.block _ (heap_lt hS2.b2)).trans hS2.b2
          have hgg := hS2.hg
          clear hS2 hx' hc' hkey
          have fin : ∀ (v1 : Value) (W3 : World), Ow ckeyK 57 w W3 v1 (ks.take m ++ [k]) → W.grownBy W3 kv.ownBlock →
              (W3.cell? ⟨g, 2, none⟩ = some kv ∧ W3.frozen? ⟨g, 2, none⟩ = false) ∧ BkS s wd ks ds (some ⟨b, off, none⟩) DA kc dc g (m + 1) w (W3.setCell ⟨g, 2, none⟩ v1) := fun v1 W3 hO3 hg3 => by
            have t3 := hO2.far hg3 hb3 (by decide)
            have t1 := hO2.far hg3 hb1 (by decide)
            have t2 := hO2.far hg3 hb2 (by decide)
            have hD3 := hD2.other hg3 hO3.1 (hD2.apart hO2 (by decide))
            have hx := ext_set hO3.1 (show w.heap.size ≤ g by omega) (o := 2) v1
            have hs := heap_setAt (g := g) (i := 2) (T := 49) (cs := [.int .i64 s, .int .i64 wd, kv, dv]) v1 t3
            refine ⟨⟨by rw [cell_of_row W3 _ _ _ _ _ t3]; rfl, frozen_of_row W3 _ _ _ _ t3⟩, hx, ?_, ?_, hgg, v1, dv, hs, ?_, ?_⟩
            · exact ((grownBy_set W3 g 2 v1).block _ (heap_lt t1) (by intro e; injection e with e; omega)).trans t1
            · exact ((grownBy_set W3 g 2 v1).block _ (heap_lt t2) (by intro e; injection e with e; omega)).trans t2
            · rw [HT.out]; exact hO3.other (grownBy_set W3 g 2 v1) hx (hO3.off t3 (by decide))
            · exact hD3.other (grownBy_set W3 g 2 v1) hx (hD3.off t3 (by decide))
          have HF := Lib.hid fin
          have HB1 := Lib.hid hb1
          clear hb3 hb2 hb1 HB3 HS hO hD fin
          go_wp2_with (at_builtin; refine app1g (k := ckeyK) k [.int .i64 k.mul, .int .i64 k.add, .int .i64 k.step] gb _ _ 47 (.agg #[.int .i64 0, .int .i64 0, .int .i64 0]) 24 rfl rfl Try.underlying47 inf57 rfl (by decide) (by decide) rfl rfl hg4 hO2 rfl (by rw [hml]; omega) ?_; intro v1 W3 hO3 hg3; obtain ⟨⟨z0, z1⟩, hz⟩ := HF.out _ _ hO3 hg3; have HZ := Lib.hid hz; clear hz; obtain ⟨A1, c1, hlv⟩ := hO3.len; rw [List.length_append, hml, List.length_singleton] at hlv; subst hlv)
          exact ⟨⟨m + 1, by omega, by go_num, HZ.out⟩, by simp [intOf]; omega⟩
      · have hlt' : ¬ (m : Int) < (ks.length : Int) := by omega
        obtain rfl : m = ks.length := by omega
        obtain ⟨kv, dv, hb3, hO, hD⟩ := hS.b3
        rw [List.take_length] at hO
        have hone : (#[.int .i64 s, .int .i64 wd, kv, dv] : Array Value).all (·.oneCell') = true := by
          obtain ⟨A1, c1, rfl⟩ := hO.len
          obtain ⟨A2, c2, rfl⟩ := hD.len
          simp [Value.oneCell']
        have hx := ext_row hS.ext (show w.heap.size ≤ w.heap.size + 1 by omega) #[.int .i64 s, .int .i64 wd, kv, dv]
        have hO4 := Lib.hid (hO.other (grownBy_row wr (w.heap.size + 1) #[.int .i64 s, .int .i64 wd, kv, dv]) hx (hO.off hS.b2 (by decide)))
        have hD4 := Lib.hid (hD.other (grownBy_row wr (w.heap.size + 1) #[.int .i64 s, .int .i64 wd, kv, dv]) hx (hD.off hS.b2 (by decide)))
        have hR : RowKit.Hid ((wr.setRow (w.heap.size + 1) #[.int .i64 s, .int .i64 wd, kv, dv]).heap[w.heap.size + 1]? = some (.cells #[.int .i64 s, .int .i64 wd, kv, dv] 49 (0, 0))) := Lib.hid (setRow_heap _ _ _ _ _ _ hS.b2)
        have HX := Lib.hid hx
        have HS := Lib.hid hS
        have HB3 := Lib.hid hb3
        clear hS hb3 hO hD hx
        go_upto_region 6 with fail
        go_step
        refine wpList_load_row rfl 49 _ rfl g rfl 49 _ (0, 0) _ HB3.out Try.underlying49 rfl (by kernel_rfl) ?_
        refine wpList_plain rfl fun K hK => wp_store_row 49 _ _ rfl (w.heap.size + 1) _ rfl rfl 49 _ HS.out.b2 (by kernel_rfl) rfl hone (hK _ _ ?_)
        obtain ⟨W2, hW2⟩ : ∃ W2, W2 = wr.setRow (w.heap.size + 1) #[.int .i64 s, .int .i64 wd, kv, dv] := ⟨_, rfl⟩
        rw [← hW2] at hO4 hD4 hR HX ⊢
        clear hone hW2 c2
        go_wp2_with fail
        refine bodyPost_ret (results_cell_row rfl _ W2 (w.heap.size + 1) 49 _ (0, 0) _ rfl hR.out Try.underlying49 rfl (by kernel_rfl)) rfl ?_
        exact ⟨kv, dv, rfl, hO4.out.sl (by omega), hD4.out.sl (by omega), HX.out⟩
end Go.Proofs.Tp
