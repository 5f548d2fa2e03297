import Derived.Test.YtnlknpcbdciljaaLc9
/- Package flash: the recursion that adds letters. -/
namespace Go.Proofs.Tp
open Go.RowKit Go.Proofs.Gr
set_option linter.unusedVariables false
set_option linter.unusedSimpArgs false
set_option maxRecDepth 100000
attribute [local go_sem] below_alloc' below_drewN' below_drew' below_set' Below.refl
def lsB (ls : List ByteArray) : List Bytes := ls.map fun s => s.data.toList
theorem inf26 : (Try.prog.info? 26).map (fun i => (i.zero, i.size, i.bytes)) = some (some (.slice none 0 0), 1, 24) := by kernel_rfl
theorem wp_app_in {B : Nat} {W : World} {v : Value} {pre : List Nat} {o : Oper} {a : Act} {K : Act → World → Prop} {Q : Exit → Act → World → Prop} (s x : Operand) (n gb : Nat) (ho : o.op = .call { callee := .builtin .append, args := #[s, x], argTypes := #[26, 26] })
    (hs : a.eval s = v) (hx : a.eval x = .slice (some ⟨gb, 0, none⟩) 1 1) (h : IR B W v pre) (hB : B ≤ W.heap.size) (hl : pre.length ≤ 1000) (hb : W.heap[gb]? = some (.cells #[.int .i64 n] 3 (0, 0)))
    (hk : ∀ v1 W1, IR B W1 v1 (pre ++ [n]) → EE B v.ownBlock (pre ++ [n]) W W1 → (v1.ownBlock = v.ownBlock ∨ v1.ownBlock = some W.heap.size) → K (a.put o.dst v1) W1) : o.wp Try.prog a W K Q := by
  obtain ⟨v1, W1, hr, h1, h2, h3⟩ := app_in n gb o.type h hB hl hb
  unfold Oper.wp execOp
  simp only [ho, resolve, invoke, builtin, Sem.run_bind, Sem.run_pure, Result.andThen_ok, List.map_toArray, List.map_cons, List.map_nil, hs, hx, hr]
  exact hk v1 W1 h1 h2 h3
theorem EE.far {B : Nat} {v : Value} {pre xs : List Nat} {W W' : World} (h : EE B v.ownBlock xs W W') (hv : IR B W v pre) {j : Nat} {cs : Array Value} {T : TypeId} {fr : Nat × Nat} (hj : W.heap[j]? = some (.cells cs T fr)) (hT : T ≠ 3) : W'.heap[j]? = some (.cells cs T fr) :=
  (h.1.block j (heap_lt hj) (fun e => hv.off hj hT e.symm)).trans hj
theorem Li.ee {B : Nat} {w0 : World} {v : Value} {pre xs : List Nat} {W W' : World} {T : TypeId} {n : Nat} {cs : List Value} {u : Value} (hv : IR B w0 v pre) (h : Li w0 T n cs u W) (k : EE B v.ownBlock xs W W') : Li w0 T n cs u W' := by
  obtain ⟨g, h1, h2, h3, h4⟩ := h
  refine ⟨g, h1, h2, Nat.lt_of_lt_of_le h3 k.1.size, (k.1.block g h3 (fun e => ?_)).trans h4⟩
  have := (hv.block e.symm).2.1
  omega
/-- the text with one more letter -/
def Tx1 (B : Nat) (w0 : World) (t : Option Nat) (xs : List Nat) (v : Value) (W : World) : Prop := IR B W v xs ∧ (v.ownBlock = t ∨ ∃ g, v.ownBlock = some g ∧ w0.heap.size ≤ g)
/-- a clone, and a slice of it -/
def LiC (w0 : World) (xs : List Nat) (v : Value) (W : World) : Prop := ∃ c, IR w0.heap.size W c xs ∧ Li w0 26 1 [c] v W
def AddR (ls : List ByteArray) (LA : Option Addr) (lc : Nat) (rd : ByteArray) (E : Int) (N : Nat) (w : World) (m : Nat) (pre : List Nat) (t : Option Nat) (r : Row) (W : World) (css : List Value) (texts : List (List Nat)) (e : Ending) (W' : World) : Prop :=
  ∃ outv' css', (∃ v, e = .returned v) ∧ TC ls LA lc rd E N w W' outv' (css ++ css') (texts ++ addF (lsB ls) rd.data.toList E m pre r) ∧ Fr (w.heap.size + 4) t pre W W' ∧ ∀ c ∈ css', c.ownBlock = none ∨ ∃ g, c.ownBlock = some g ∧ W.heap.size ≤ g
/-- a text is noted -/
theorem TC.note {ls : List ByteArray} {LA : Option Addr} {lc : Nat} {rd : ByteArray} {E : Int} {N : Nat} {w W W3 : World} {outv v1 : Value} {css : List Value} {texts : List (List Nat)} (h : TC ls LA lc rd E N w W outv css texts) {c : Value} {pre : List Nat} {B' : Nat} (hB' : w.heap.size + 4 ≤ B') (hc : IR B' W c pre)
    (ho : W3.ownsRow (w.heap.size + 4) 26 1 v1 (texts.length + 1) (css ++ [c])) (hg : W.grownBy W3 outv.ownBlock) :
    TC ls LA lc rd E N w (W3.setCell ⟨w.heap.size + 2, 0, none⟩ v1) v1 (css ++ [c]) (texts ++ [pre]) ∧
    (W3.cell? ⟨w.heap.size + 2, 0, none⟩ = some outv ∧ W3.frozen? ⟨w.heap.size + 2, 0, none⟩ = false) ∧ ∀ t xs, Fr (w.heap.size + 4) t xs W (W3.setCell ⟨w.heap.size + 2, 0, none⟩ v1) := by
  have hne : ∀ k, outv.ownBlock = some k → w.heap.size + 4 ≤ k := fun k e => (h.out.lt k e).1
  have far : ∀ j o, W.heap[j]? = some o → j < w.heap.size + 4 → W3.heap[j]? = some o := fun j o hj hlt =>
    (hg.block j (heap_lt hj) (fun e => by have := hne j e.symm; omega)).trans hj
  have hs := grownBy_set W3 (w.heap.size + 2) 0 v1
  have farS : ∀ j o, W3.heap[j]? = some o → j ≠ w.heap.size + 2 → (W3.setCell ⟨w.heap.size + 2, 0, none⟩ v1).heap[j]? = some o := fun j o hj hne =>
    (hs.block j (heap_lt hj) (fun e => by injection e with e; exact hne e)).trans hj
  have hx3 : Ext w W3 := h.ext.grown hg h.ext.size (fun k e => by have := hne k e; omega)
  have rows : ∀ {B : Nat} {v ys}, w.heap.size + 4 ≤ B → IR B W v ys → IR B (W3.setCell ⟨w.heap.size + 2, 0, none⟩ v1) v ys := fun {B v ys} hB hv => by
    have h3 : IR B W3 v ys := hv.kept hg (by
      cases hvb : v.ownBlock with
      | none => exact .inl rfl
      | some g =>
        refine .inr fun e => ?_
        obtain ⟨cur, hc⟩ := ownBlock_row h.out e.symm
        exact hv.off hc (by decide) hvb)
    exact h3.kept hs (by
      cases hvb : v.ownBlock with
      | none => exact .inl rfl
      | some g =>
        refine .inr fun e => ?_
        injection e with e
        have := (h3.block hvb).1
        omega)
  have t4 := far _ _ h.b4 (by omega)
  refine ⟨⟨ext_set hx3 (by omega) _, farS _ _ (far _ _ h.b2 (by omega)) (by omega), farS _ _ (far _ _ h.b3 (by omega)) (by omega), heap_set1 t4, farS _ _ (far _ _ h.b5 (by omega)) (by omega), ?_, by simp [h.len], fun i h1 h2 => ?_⟩, ⟨by rw [cell_of_row W3 _ _ _ _ _ t4]; rfl, frozen_of_row W3 _ _ _ _ t4⟩, fun t xs => ⟨?_, fun v ys hv _ => rows (Nat.le_refl _) hv, fun j cs T fr hj n3 n26 n61 => ?_⟩⟩
  · have := ho.kept hs (by
      cases hvb : v1.ownBlock with
      | none => exact .inl rfl
      | some g =>
        refine .inr fun e => ?_
        injection e with e
        have := (ho.lt g hvb).1
        omega)
    simpa using this
  · by_cases hlt : i < texts.length
    · have hlt' : i < css.length := by rw [h.len]; exact hlt
      rw [List.getElem_append_left hlt, List.getElem_append_left hlt']
      exact rows (Nat.le_refl _) (h.each i hlt hlt')
    · have hi : i = texts.length := by simp at h1; omega
      subst hi
      rw [List.getElem_append_right (Nat.le_refl _), List.getElem_append_right (by rw [h.len]; exact Nat.le_refl _)]
      simp only [h.len, Nat.sub_self, List.getElem_cons_zero]
      exact (rows hB' hc).mono hB'
  · exact Nat.le_trans hg.size hs.size
  · refine farS _ _ ((hg.block j (heap_lt hj) (fun e => ?_)).trans hj) (fun e => ?_)
    · obtain ⟨cur, hc⟩ := ownBlock_row h.out e.symm
      rw [hj] at hc
      injection hc with h1
      injection h1 with h2 h3 h4
      exact n26 h3
    · subst e
      have hb4 := h.b4
      rw [hj] at hb4
      injection hb4 with h1
      injection h1 with h2 h3 h4
      exact n61 h3
end Go.Proofs.Tp
/- Package flash: the recursion that adds letters: its two ends. -/
namespace Go.Proofs.Tp
open Go.RowKit Go.Proofs.Gr
set_option linter.unusedVariables false
set_option linter.unusedSimpArgs false
set_option maxRecDepth 100000
attribute [local go_sem] below_alloc' below_drewN' below_drew' below_set' Below.refl
def AddOK (ls : List ByteArray) (LA : Option Addr) (lc : Nat) (rd : ByteArray) (E : Int) (N : Nat) (w : World) (m : Nat) : Prop :=
  ∀ (pre : List Nat) (tv : Value) (r : Row) (W : World) (outv : Value) (css : List Value) (texts : List (List Nat)), pre.length + m = N → bnd r → TC ls LA lc rd E N w W outv css texts → IR (w.heap.size + 4) W tv pre → (∀ c ∈ css, c.ownBlock = none ∨ c.ownBlock ≠ tv.ownBlock) → texts.length + ls.length ^ m ≤ 100000 →
    Calls Try.prog 75 #[tv, rowV r, .pointer (some ⟨w.heap.size, 0, none⟩), .pointer (some ⟨w.heap.size + 1, 0, none⟩), .pointer (some ⟨w.heap.size + 2, 0, none⟩), .pointer (some ⟨w.heap.size + 3, 0, none⟩)] W (AddR ls LA lc rd E N w m pre tv.ownBlock r W css texts)
theorem TC.c2 {ls : List ByteArray} {LA : Option Addr} {lc : Nat} {rd : ByteArray} {E : Int} {N : Nat} {w W : World} {outv : Value} {css : List Value} {texts : List (List Nat)} (h : TC ls LA lc rd E N w W outv css texts) :
    W.cell? ⟨w.heap.size, 0, none⟩ = some (.slice LA ls.length lc) ∧ W.cell? ⟨w.heap.size, 1, none⟩ = some (.string rd) ∧ W.cell? ⟨w.heap.size, 2, none⟩ = some (.int .i64 E) ∧ W.cell? ⟨w.heap.size + 1, 0, none⟩ = some (.int .i64 N) ∧ W.cell? ⟨w.heap.size + 2, 0, none⟩ = some outv := by
  refine ⟨?_, ?_, ?_, ?_, ?_⟩
  · rw [cell_of_row W _ _ _ _ _ h.b2]; rfl
  · rw [cell_of_row W _ _ _ _ _ h.b2]; rfl
  · rw [cell_of_row W _ _ _ _ _ h.b2]; rfl
  · rw [cell_of_row W _ _ _ _ _ h.b3]; rfl
  · rw [cell_of_row W _ _ _ _ _ h.b4]; rfl
theorem IR.len {B : Nat} {W : World} {v : Value} {xs : List Nat} (h : IR B W v xs) : ∃ A c, v = .slice A xs.length c := by
  rcases h.form with ⟨rfl, rfl⟩ | ⟨g, cap, cur, rfl, _⟩
  · exact ⟨none, 0, rfl⟩
  · exact ⟨_, cap, rfl⟩
set_option maxHeartbeats 2000000 in
theorem add_hopeless (ls : List ByteArray) (LA : Option Addr) (lc : Nat) (rd : ByteArray) (E : Int) (N m : Nat) (w : World) (hrd : rd.size ≤ 40) (pre : List Nat) (tv : Value) (r : Row) (W : World) (outv : Value) (css : List Value) (texts : List (List Nat))
    (hT : TC ls LA lc rd E N w W outv css texts) (hI : IR (w.heap.size + 4) W tv pre) (hh : hopelessF rd.data.toList E r = true) :
    Calls Try.prog 75 #[tv, rowV r, .pointer (some ⟨w.heap.size, 0, none⟩), .pointer (some ⟨w.heap.size + 1, 0, none⟩), .pointer (some ⟨w.heap.size + 2, 0, none⟩), .pointer (some ⟨w.heap.size + 3, 0, none⟩)] W (AddR ls LA lc rd E N w m pre tv.ownBlock r W css texts) := by
  obtain ⟨W1, hW1⟩ : ∃ W1, W1 = W.alloc (.cells (rowCells r).toArray 121) := ⟨_, rfl⟩
  have hE1 : Ext W W1 := by rw [hW1]; exact e1 W _
  have hrow : W1.heap[W.heap.size]? = some (.cells (rowCells r).toArray 121 (0, 0)) := by rw [hW1]; exact heap_alloc_new W _
  have hT1 := hT.of_ext hE1
  obtain ⟨c0, c1, c2, c3, c4⟩ := hT1.c2
  have hcall := Lib.hid (hope_76 LA ls.length lc rd E r W1 hrd)
  rw [hh] at hcall
  have hF := Lib.hid (show ∀ W2, Ext W W2 → AddR ls LA lc rd E N w m pre tv.ownBlock r W css texts (.returned (.tuple #[])) W2 from fun W2 h2 => by
    refine ⟨outv, [], ⟨_, rfl⟩, ?_, Fr.of_ext h2, fun c hc => by cases hc⟩
    have : addF (lsB ls) rd.data.toList E m pre r = [] := by
      cases m with
      | zero => rw [addF, hh, if_pos rfl]
      | succ m => rw [addF, hh, if_pos rfl]
    rw [this, List.append_nil, List.append_nil]
    exact hT.of_ext h2)
  have HR := Lib.hid hrow
  unfold rowV at hcall ⊢
  clear hrow hT1 hT hI hh
  go_enter Try.func75, Try.ntmps75
  go_upto_region 1 with fail
  rw [← hW1]
  clear hW1
  go_wp2_with (first
    | (refine wpList_plain rfl fun K hK => loadR _ rfl W.heap.size rfl r HR.out (hK _ _ ?_))
    | (go_at_call 76; refine hcall.out.mono ?_; rintro e W2 ⟨rfl, hE2⟩; have hB2 := hE1.trans hE2))
  refine bodyPost_ret (results_none rfl _ _ _) rfl ?_
  exact hF.out _ hB2
set_option maxHeartbeats 4000000 in
theorem add_zero (ls : List ByteArray) (LA : Option Addr) (lc : Nat) (rd : ByteArray) (E : Int) (N : Nat) (w : World) (hrd : rd.size ≤ 40) (hN : N ≤ 5) : AddOK ls LA lc rd E N w 0 := by
  intro pre tv r W outv css texts hpN hbr hT hI hcs hcount
  by_cases hh : hopelessF rd.data.toList E r = true
  · exact add_hopeless ls LA lc rd E N 0 w hrd pre tv r W outv css texts hT hI hh
  have hh' : hopelessF rd.data.toList E r = false := by simpa using hh
  clear hh
  obtain ⟨W1, hW1⟩ : ∃ W1, W1 = W.alloc (.cells (rowCells r).toArray 121) := ⟨_, rfl⟩
  have hE1 : Ext W W1 := by rw [hW1]; exact e1 W _
  have hrow : W1.heap[W.heap.size]? = some (.cells (rowCells r).toArray 121 (0, 0)) := by rw [hW1]; exact heap_alloc_new W _
  have hcall := Lib.hid (hope_76 LA ls.length lc rd E r W1 hrd)
  rw [hh'] at hcall
  have HHH := Lib.hid hh'
  clear hh'
  obtain ⟨tA, tc, hlv⟩ := hI.len
  have hT1 := hT.of_ext hE1
  obtain ⟨c0, c1, c2, c3, c4⟩ := hT1.c2
  have hl0 : ((pre.length : Int) == (N : Int)) = true := by rw [beq_iff_eq]; omega
  have HT1 := Lib.hid hT1
  have HI1 := Lib.hid (hI.ext hE1)
  have HI := Lib.hid hI
  have HT := Lib.hid hT
  have HR := Lib.hid hrow
  have HLV := Lib.hid hlv
  have hpl : pre.length ≤ 1000 := by omega
  have hcnt : texts.length ≤ 100000 := by omega
  unfold rowV at hcall ⊢
  rw [HLV.out]
  clear hrow hT1 hT hI hcs hcount hlv hpN
  go_enter Try.func75, Try.ntmps75
  go_upto_region 1 with fail
  rw [← hW1]
  clear hW1
  go_upto_region 3 with (first
    | (refine wpList_plain rfl fun K hK => loadR _ rfl W.heap.size rfl r HR.out (hK _ _ ?_))
    | (go_at_call 76; refine hcall.out.mono ?_; rintro e W2 ⟨rfl, hE2⟩; have HB2 := Lib.hid (hE1.trans hE2); have HT2 := Lib.hid (HT1.out.of_ext hE2); obtain ⟨d0, d1, d2, d3, d4⟩ := HT2.out.c2))
  clear c0 c1 c2 c3 c4
  have hrow2 := (hE2.block _ (heap_lt HR.out)).trans HR.out
  have hrc : W2.cell? ⟨W.heap.size, rd.size, none⟩ = some (.int .i64 (r rd.size)) := by
    rw [cell_of_row W2 _ _ _ _ _ hrow2, row_get r rd.size (by omega)]
  have hrz : (rd.size : Int) < 41 := by omega
  have HI2 := Lib.hid (HI1.out.ext hE2)
  clear hrow2 hE2
  go_quiet (fail)
  by_cases hle : r rd.size ≤ E
  · have hF := Lib.hid (show addF (lsB ls) rd.data.toList E 0 pre r = [pre] by
      rw [addF, HHH.out, if_neg (by simp), if_pos (by simpa using hle)])
    obtain ⟨W3, hW3⟩ : ∃ W3, W3 = W2.drewN nq := ⟨_, rfl⟩
    have hE3 : Ext W2 W3 := by rw [hW3]; exact (Ext.refl W2).dr nq
    have HT3 := Lib.hid (HT2.out.of_ext hE3)
    have HI3 := Lib.hid (HI2.out.ext hE3)
    have HB3 := Lib.hid (HB2.out.trans hE3)
    clear d0 d1 d2 d3 d4
    have d4 : ∀ V, Ext W3 V → V.cell? ⟨w.heap.size + 2, 0, none⟩ = some outv := fun V hV => (HT3.out.of_ext hV).c2.2.2.2.2
    have hcl := fun (V : World) (hV : Ext W3 V) => Lib.hid (clone_46 (HI3.out.ext hV) hpl)
    rw [HLV.out] at hcl
    go_upto_region 4 with fail
    rw [← hW3]
    clear hW3
    refine region_lit 4 Ext (fun i v W' => match i with | 0 => v = outv | 1 => v = .slice tA pre.length tc | 2 => IR W3.heap.size W' v pre | 3 => LiC W3 pre v W' | _ => True) (by kernel_rfl) (by kernel_rfl) Ext.refl Ext.trans (Ext.dr (Ext.refl _) 1) ⟨?_, ?_, ?_, ?_, trivial⟩ ?_
    · refine StepG.plain rfl ?_
      rintro u W' A' hA hW - K hK
      have a4 := ev_out 4 hA (by kernel_rfl) (by simp)
      have q := d4 W' hW
      clear hA
      go_simp
      exact hK _ _ (Ext.refl _) (fun _ _ => rfl)
    · refine StepG.plain rfl ?_
      rintro u W' A' hA hW - K hK
      have a0 := ev_out 0 hA (by kernel_rfl) (by simp)
      clear hA
      go_simp
      exact hK _ _ (Ext.refl _) (fun _ _ => rfl)
    · refine StepG.plain rfl ?_
      rintro u W' A' hA hW ⟨h1, -⟩ K hK
      simp only at h1
      have a26 := ev_in 26 1 hA (by kernel_rfl) (by simp)
      have hcall := hcl W' hW
      clear hA
      go_simp
      refine hcall.out.mono ?_
      rintro e W4 ⟨c, rfl, hE4, hIc⟩
      exact hK _ _ hE4 (fun V hV => (hIc.mono hW.size).ext hV)
    · refine StepG.plain rfl ?_
      rintro u W' A' hA hW ⟨h2, -⟩ K hK
      simp only at h2
      have a27 := ev_in 27 2 hA (by kernel_rfl) (by simp)
      obtain ⟨A1, c1, hl1⟩ := h2.len
      rw [hl1] at a27 h2
      clear hA
      go_simp
      exact hK _ _ (e1 _ _) (fun V hV => ⟨_, (h2.ext (e1 _ _)).ext hV, (Li.new hW 26 1 _).ext hV⟩)
    · rintro u W' hW ⟨h0, -, -, h3, -⟩
      simp only at h0 h3
      obtain ⟨c, hIc, g, hg1, hg2, hg3, hg4⟩ := h3
      have hTw := HT3.out.of_ext hW
      obtain ⟨i, hi, hz, h1', h2'⟩ := info_parts inf26
      have hBs : w.heap.size + 4 ≤ W'.heap.size := by have := heap_lt hTw.b5; omega
      have hB4 := HB3.out.trans hW
      have hout := hTw.out
      have hcs1 : c.oneCell' = true := by obtain ⟨A1, c1, rfl⟩ := hIc.len; rfl
      have HTW := Lib.hid hTw
      have HOU := Lib.hid hout
      have HIC := Lib.hid hIc
      simp [puts, dstOf, Act.put]
      rw [hg1, h0]
      clear hTw hout hIc d4 hcl hW
      go_wp2_with (at_builtin; refine wpList_append_own _ rfl _ _ 61 rfl (w.heap.size + 4) 26 i (.slice none 0 0) 1 24 Try.underlying61 hi hz h1' h2' rfl (by decide) _ _ _ rfl HOU.out ⟨g, 0, none⟩ 1 1 [c] rfl rfl (World.news_of_block (cs := #[c]) hg4) (by intro u hu; rw [List.mem_singleton.1 hu]; exact hcs1) (by unfold maxLen; omega) (by omega) hBs ?_; intro v1 W5 hO hgr _; obtain ⟨hT5, ⟨z0, z1⟩, hFr⟩ := HTW.out.note (show w.heap.size + 4 ≤ W3.heap.size by have := heap_lt HT3.out.b5; omega) HIC.out hO hgr; have HT5 := Lib.hid hT5; have HFr := Lib.hid hFr; clear hT5 hFr; obtain ⟨A1, c1, hv1⟩ : ∃ A c, v1 = .slice A (texts.length + 1) c := (by rcases hO.2 with ⟨_, e⟩ | ⟨g, cap, cur, e, _⟩; omega; exact ⟨_, _, e⟩); subst hv1)
      refine bodyPost_ret (results_none rfl _ _ _) rfl ?_
      refine ⟨_, [c], ⟨_, rfl⟩, by rw [hF.out]; exact HT5.out, (Fr.of_ext hB4).trans (HFr.out _ _), fun x hx => ?_⟩
      rw [List.mem_singleton.1 hx]
      cases hcb : c.ownBlock with
      | none => exact .inl rfl
      | some gc => exact .inr ⟨gc, rfl, by have := (HIC.out.block hcb).1; have := HB3.out.size; omega⟩
  · have hF := Lib.hid (show addF (lsB ls) rd.data.toList E 0 pre r = [] by
      rw [addF, HHH.out, if_neg (by simp), if_neg (by simpa using hle)])
    obtain ⟨W3, hW3⟩ : ∃ W3, W3 = W2.drewN nq := ⟨_, rfl⟩
    have hE3 : Ext W2 W3 := by rw [hW3]; exact (Ext.refl W2).dr nq
    have HB3 := Lib.hid (HB2.out.trans hE3)
    go_wp2_with fail
    rw [← hW3]
    refine bodyPost_ret (results_none rfl _ _ _) rfl ?_
    refine ⟨outv, [], ⟨_, rfl⟩, by rw [hF.out, List.append_nil, List.append_nil]; exact HT.out.of_ext HB3.out, Fr.of_ext HB3.out, fun x hx => by cases hx⟩
end Go.Proofs.Tp
