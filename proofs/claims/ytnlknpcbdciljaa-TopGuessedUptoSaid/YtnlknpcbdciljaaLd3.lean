import Derived.Test.YtnlknpcbdciljaaLd1
/- Package flash: the recursion that adds letters. -/
namespace Go.Proofs.Tp
open Go.RowKit Go.Proofs.Gr
set_option linter.unusedVariables false
set_option linter.unusedSimpArgs false
set_option maxRecDepth 100000
attribute [local go_sem] below_alloc' below_drewN' below_drew' below_set' Below.refl
theorem Li.new' {w0 W : World} (h : w0.heap.size ≤ W.heap.size) (T : TypeId) (n : Nat) (cs : List Value) : Li w0 T n cs (.slice (some ⟨W.heap.size, 0, none⟩) n n) (W.alloc (.cells cs.toArray T)) :=
  ⟨W.heap.size, rfl, h, by simp, heap_alloc_new W _⟩
set_option maxHeartbeats 8000000 in
theorem add_succ (ls : List ByteArray) (LA : Option Addr) (lc : Nat) (rd : ByteArray) (E : Int) (N m : Nat) (w : World) (hrd : rd.size ≤ 40) (hN : N ≤ 5) (hll : ls.length ≤ 6) (hls : ∀ s ∈ ls, s.size ≤ 4) (hpos : 0 < ls.length) (hL : SlA strK w LA ls) (ih : AddOK ls LA lc rd E N w m) : AddOK ls LA lc rd E N w (m + 1) := by
  rcases hL with h | ⟨b, off, rfl, hLs⟩
  · rw [h] at hpos; exact absurd hpos (by decide)
  intro pre tv r W outv css texts hpN hbr hT hI hcs hcount
  by_cases hh : hopelessF rd.data.toList E r = true
  · exact add_hopeless ls (some ⟨b, off, none⟩) lc rd E N (m + 1) w hrd pre tv r W outv css texts hT hI hh
  have hh' : hopelessF rd.data.toList E r = false := by simpa using hh
  clear hh
  obtain ⟨W1, hW1⟩ : ∃ W1, W1 = W.alloc (.cells (rowCells r).toArray 121) := ⟨_, rfl⟩
  have hE1 : Ext W W1 := by rw [hW1]; exact e1 W _
  have hrow : W1.heap[W.heap.size]? = some (.cells (rowCells r).toArray 121 (0, 0)) := by rw [hW1]; exact heap_alloc_new W _
  have hcall := Lib.hid (hope_76 (some ⟨b, off, none⟩) ls.length lc rd E r W1 hrd)
  rw [hh'] at hcall
  have HHH := Lib.hid hh'
  clear hh'
  obtain ⟨tA, tc, hlv⟩ := hI.len
  have hT1 := hT.of_ext hE1
  obtain ⟨c0, c1, c2, c3, c4⟩ := hT1.c2
  have hl0 : ((pre.length : Int) == (N : Int)) = false := by rw [beq_eq_false_iff_ne]; omega
  have HT1 := Lib.hid hT1
  have HI1 := Lib.hid (hI.ext hE1)
  have HI := Lib.hid hI
  have HT := Lib.hid hT
  have HR := Lib.hid hrow
  have HLV := Lib.hid hlv
  have HCS := Lib.hid hcs
  have hpl : pre.length ≤ 1000 := by omega
  have HF := Lib.hid (show ∀ f : Nat → List (List Nat), (f = fun n => addF (lsB ls) rd.data.toList E m (pre ++ [n]) (afterRow rd.data.toList r (lead pre ((lsB ls).getD n [])))) → addF (lsB ls) rd.data.toList E (m + 1) pre r = (List.range ls.length).flatMap f from fun f hf => by
    rw [addF, HHH.out, if_neg (by simp), hf, lsB, List.length_map])
  obtain ⟨f, hf⟩ : ∃ f : Nat → List (List Nat), f = fun n => addF (lsB ls) rd.data.toList E m (pre ++ [n]) (afterRow rd.data.toList r (lead pre ((lsB ls).getD n []))) := ⟨_, rfl⟩
  have HFf := Lib.hid (HF.out f hf)
  have HFG := Lib.hid hf
  have HCnt := Lib.hid (show ∀ n, n < ls.length → (texts ++ (List.range n).flatMap f).length + ls.length ^ m ≤ 100000 from fun n hn => by
    have h1 := flatMap_count f (ls.length ^ m) (fun k => by
      rw [hf]
      have := add_count (lsB ls) rd.data.toList E m (pre ++ [k]) (afterRow rd.data.toList r (lead pre ((lsB ls).getD k [])))
      rwa [lsB, List.length_map] at this) n
    have h2 : (n + 1) * ls.length ^ m ≤ ls.length * ls.length ^ m := Nat.mul_le_mul_right _ hn
    rw [Nat.add_mul, Nat.one_mul] at h2
    rw [Nat.pow_succ, Nat.mul_comm] at hcount
    rw [List.length_append]
    omega)
  unfold rowV at hcall ⊢
  rw [show (#[tv, Value.agg (rowCells r).toArray, Value.pointer (some ⟨w.heap.size, 0, none⟩), Value.pointer (some ⟨w.heap.size + 1, 0, none⟩), Value.pointer (some ⟨w.heap.size + 2, 0, none⟩), Value.pointer (some ⟨w.heap.size + 3, 0, none⟩)] : Array Value) = #[.slice tA pre.length tc, Value.agg (rowCells r).toArray, Value.pointer (some ⟨w.heap.size, 0, none⟩), Value.pointer (some ⟨w.heap.size + 1, 0, none⟩), Value.pointer (some ⟨w.heap.size + 2, 0, none⟩), Value.pointer (some ⟨w.heap.size + 3, 0, none⟩)] by rw [HLV.out]]
  clear hrow hT1 hT hI hcs hcount hlv HF hf
  go_enter Try.func75, Try.ntmps75
  go_upto_region 1 with fail
  rw [← hW1]
  clear hW1
  go_wp2_with (first
    | (refine wpList_plain rfl fun K hK => loadR _ rfl W.heap.size rfl r HR.out (hK _ _ ?_))
    | (go_at_call 76; refine hcall.out.mono ?_; rintro e W2 ⟨rfl, hE2⟩; have HB2 := Lib.hid (hE1.trans hE2); have HT2 := Lib.hid (HT1.out.of_ext hE2); obtain ⟨d0, d1, d2, d3, d4⟩ := HT2.out.c2))
  clear c0 c1 c2 c3 c4 d0 d1 d2 d3 d4
  have HR2 := Lib.hid ((hE2.block _ (heap_lt HR.out)).trans HR.out)
  have HI2 := Lib.hid (HI1.out.ext hE2)
  clear hE2 HI1 HR
  go_loopw [34] (fun t34 wr => ∃ (n : Nat) (ov : Value) (cs2 : List Value), n ≤ ls.length ∧ t34 = .int .i64 n ∧ TC ls (some ⟨b, off, none⟩) lc rd E N w wr ov (css ++ cs2) (texts ++ (List.range n).flatMap f) ∧ Fr (w.heap.size + 4) tv.ownBlock pre W2 wr ∧ ∀ c ∈ cs2, c.ownBlock = none ∨ ∃ g, c.ownBlock = some g ∧ W.heap.size ≤ g)
    (fun t34 _ => ls.length - (intOf t34).toNat)
  case atStart => exact ⟨0, outv, [], by omega, rfl, by simpa using HT2.out, Fr.refl _ _ _ _, fun c hc => by cases hc⟩
  case round =>
    obtain ⟨n, ov, cs2, hn, rfl, hTr, hFr, hNw⟩ := hrel
    have HNw := Lib.hid hNw
    clear hNw
    by_cases hlt : n < ls.length
    · have hlt' : (n : Int) < (ls.length : Int) := by omega
      obtain ⟨cs, hcs, hat⟩ := hLs n hlt
      have hcs' : cs = [.string ls[n]] := by simpa [strK, scalar] using hcs
      subst hcs'
      simp only [show strK.sz = 1 from rfl, Nat.mul_one] at hat
      have hcn := at1 hat hTr.ext
      have hIr := hFr.rows _ _ HI2.out (.inr (List.prefix_refl _))
      have HNe := Lib.hid (show ∀ c ∈ css ++ cs2, c.ownBlock = none ∨ c.ownBlock ≠ tv.ownBlock from fun c hc => by
        rcases List.mem_append.1 hc with hc | hc
        · exact HCS.out c hc
        · rcases HNw.out c hc with e | ⟨g, e, hge⟩
          · exact .inl e
          · refine .inr fun e2 => ?_
            rw [e] at e2
            have := (HI.out.block e2.symm).2.1
            omega)
      have HLt := Lib.hid (show ∀ c ∈ css ++ cs2, ∀ g, c.ownBlock = some g → g < wr.heap.size from fun c hc g hg => by
        obtain ⟨i, hi, rfl⟩ := List.mem_iff_getElem.1 hc
        exact ((hTr.each i (by rw [← hTr.len]; exact hi) hi).block hg).2.1)
      have hBr : w.heap.size + 4 ≤ wr.heap.size := by have := heap_lt hTr.b5; omega
      have HCn := Lib.hid (HCnt.out n hlt)
      have HGd := Lib.hid (show f n = addF (lsB ls) rd.data.toList E m (pre ++ [n]) (afterRow rd.data.toList r (lead pre ls[n].data.toList)) by
        rw [HFG.out]
        simp only [lsB]
        rw [List.getD_eq_getElem?_getD, List.getElem?_map, List.getElem?_eq_getElem hlt]
        rfl)
      have hfar : ∀ W', EE (w.heap.size + 4) tv.ownBlock (pre ++ [n]) wr W' → W'.cell? ⟨w.heap.size + 3, 0, none⟩ = some (.func (.func 75) #[] #[.pointer (some ⟨w.heap.size, 0, none⟩), .pointer (some ⟨w.heap.size + 1, 0, none⟩), .pointer (some ⟨w.heap.size + 2, 0, none⟩), .pointer (some ⟨w.heap.size + 3, 0, none⟩)]) ∧ W'.cell? ⟨w.heap.size, 0, none⟩ = some (.slice (some ⟨b, off, none⟩) ls.length lc) ∧ W'.cell? ⟨w.heap.size, 1, none⟩ = some (.string rd) ∧ W'.cell? ⟨w.heap.size, 2, none⟩ = some (.int .i64 E) ∧ W'.heap[W.heap.size]? = some (.cells (rowCells r).toArray 121 (0, 0)) := fun W' hW => by
        refine ⟨?_, ?_, ?_, ?_, hW.far hIr (hFr.oth _ _ _ _ HR2.out (by decide) (by decide) (by decide)) (by decide)⟩
        · rw [cell_of_row W' _ _ _ _ _ (hW.far hIr hTr.b5 (by decide))]; rfl
        · rw [cell_of_row W' _ _ _ _ _ (hW.far hIr hTr.b2 (by decide))]; rfl
        · rw [cell_of_row W' _ _ _ _ _ (hW.far hIr hTr.b2 (by decide))]; rfl
        · rw [cell_of_row W' _ _ _ _ _ (hW.far hIr hTr.b2 (by decide))]; rfl
      have HIr := Lib.hid hIr
      have HTr := Lib.hid hTr
      have HFr := Lib.hid hFr
      have hsn : ls[n].size ≤ 4 := hls _ (List.getElem_mem hlt)
      clear hat hcs hIr hTr hFr
      by_cases hp : pre = []
      · have hp0 : pre.length = 0 := by rw [hp]; rfl
        have hp0' : ¬ (0 : Int) < (pre.length : Int) := by omega
        have HSV := Lib.hid (show (ls[n]).data.toList = lead pre ls[n].data.toList by rw [lead, if_pos hp])
        have haft := fun (V : World) => Lib.hid (after_77 (some ⟨b, off, none⟩) ls.length lc rd E r ls[n] V hrd (by omega) hbr)
        unfold rowV at haft
        clear hp hp0
        go_upto_region 10 with fail
        refine region_lit 9 (EE (w.heap.size + 4) tv.ownBlock (pre ++ [n])) (fun i v W' => match i with | 0 => v = .func (.func 75) #[] #[.pointer (some ⟨w.heap.size, 0, none⟩), .pointer (some ⟨w.heap.size + 1, 0, none⟩), .pointer (some ⟨w.heap.size + 2, 0, none⟩), .pointer (some ⟨w.heap.size + 3, 0, none⟩)] | 1 => v = .slice tA pre.length tc | 2 => v = .int .i64 (n : Int) | 3 => Li wr 3 1 [.int .i64 (n : Int)] v W' | 4 => Tx1 (w.heap.size + 4) wr tv.ownBlock (pre ++ [n]) v W' | 5 => v = .agg #[.slice (some ⟨b, off, none⟩) ls.length lc, .string rd, .int .i64 E] | 6 => v = .agg (rowCells r).toArray | 7 => v = .string (ls[n]) | 8 => v = .agg (rowCells (afterRow rd.data.toList r (ls[n]).data.toList)).toArray | _ => True) (by kernel_rfl) (by kernel_rfl) (fun W => EE.refl _ _ _ W) EE.trans (EE.of_ext ((Ext.refl _).dr 1)) ⟨?_, ?_, ?_, ?_, ?_, ?_, ?_, ?_, ?_, trivial⟩ ?_
        · refine StepG.plain rfl ?_
          rintro u W' A' hA hW - K hK
          have a5 := ev_out 5 hA (by kernel_rfl) (by simp)
          obtain ⟨q0, q1, q2, q3, q4⟩ := hfar W' hW
          clear hA
          go_simp
          exact hK _ _ (EE.refl _ _ _ _) (fun _ _ => rfl)
        · refine StepG.plain rfl ?_
          rintro u W' A' hA hW - K hK
          have a0 := ev_out 0 hA (by kernel_rfl) (by simp)
          clear hA
          go_simp
          exact hK _ _ (EE.refl _ _ _ _) (fun _ _ => rfl)
        · refine StepG.plain rfl ?_
          rintro u W' A' hA hW - K hK
          have a8 := ev_out 8 hA (by kernel_rfl) (by simp)
          clear hA
          go_simp
          exact hK _ _ (EE.refl _ _ _ _) (fun _ _ => rfl)
        · refine StepG.plain rfl ?_
          rintro u W' A' hA hW ⟨h2, -⟩ K hK
          simp only at h2
          have a46 := ev_in 46 2 hA (by kernel_rfl) (by simp)
          clear hA
          go_simp
          exact hK _ _ (EE.of_ext (e1 _ _)) (fun V hV => Li.ee HIr.out ((Li.new' (hW.1.size) 3 1 [.int .i64 (n : Int)])) (hV))
        · refine StepG.plain rfl ?_
          rintro u W' A' hA hW ⟨h1, h3, -⟩ K hK
          simp only at h1 h3
          have a45 := ev_in 45 1 hA (by kernel_rfl) (by simp)
          have a47 := ev_in 47 3 hA (by kernel_rfl) (by simp)
          clear hA
          obtain ⟨gb, hb1, hb2, hb3, hb4⟩ := h3
          refine wp_app_in (B := w.heap.size + 4) (v := tv) (pre := pre) _ _ n gb rfl (by simp only [Act.eval, Array.getD_eq_getD_getElem?]; rw [a45, h1, HLV.out]) (by simp only [Act.eval, Array.getD_eq_getD_getElem?]; rw [a47, hb1]) (hW.2 _ _ (List.prefix_append _ _) HIr.out) (Nat.le_trans hBr hW.1.size) hpl hb4 ?_
          intro v1 W4 hv1 hE4 hb5
          refine hK _ _ hE4 (fun V hV => ⟨hV.2 _ _ (List.prefix_refl _) hv1, ?_⟩)
          rcases hb5 with hb5 | hb5
          · exact .inl hb5
          · exact .inr ⟨_, hb5, hW.1.size⟩
        · refine StepG.plain rfl ?_
          rintro u W' A' hA hW - K hK
          have a2 := ev_out 2 hA (by kernel_rfl) (by simp)
          obtain ⟨q0, q1, q2, q3, q4⟩ := hfar W' hW
          clear hA
          go_simp
          exact hK _ _ (EE.refl _ _ _ _) (fun _ _ => rfl)
        · refine StepG.plain rfl ?_
          rintro u W' A' hA hW - K hK
          have a7 := ev_out 7 hA (by kernel_rfl) (by simp)
          obtain ⟨q0, q1, q2, q3, q4⟩ := hfar W' hW
          clear hA
          refine loadR _ rfl W.heap.size (by simp [Act.eval, a7]) r q4 ?_
          exact hK _ _ (EE.refl _ _ _ _) (fun _ _ => rfl)
        · refine StepG.plain rfl ?_
          rintro u W' A' hA hW - K hK
          have a9 := ev_out 9 hA (by kernel_rfl) (by simp)
          clear hA
          go_simp
          exact hK _ _ (EE.refl _ _ _ _) (fun _ _ => rfl)
        · refine StepG.plain rfl ?_
          rintro u W' A' hA hW ⟨h5, h6, h7, -⟩ K hK
          simp only at h5 h6 h7
          have a49 := ev_in 49 5 hA (by kernel_rfl) (by simp)
          have a50 := ev_in 50 6 hA (by kernel_rfl) (by simp)
          have a51 := ev_in 51 7 hA (by kernel_rfl) (by simp)
          have hcl := haft W'
          clear hA
          go_simp
          refine hcl.out.mono ?_
          rintro e W4 ⟨rfl, hE4⟩
          exact hK _ _ (EE.of_ext hE4) (fun _ _ => rfl)
        · rintro u W' hW ⟨h0, -, -, -, h4, -, -, -, h8, -⟩
          simp only at h0 h4 h8
          obtain ⟨hv1, hb5⟩ := h4
          have hsv := HSV.out
          rw [hsv] at h8
          clear hsv
          have hTw := HTr.out.of_row HIr.out hW.1 HNe.out
          have hcallx := ih (pre ++ [n]) (u 4) (afterRow rd.data.toList r (lead pre ls[n].data.toList)) W' ov (css ++ cs2) _ (by simp; omega) (after_bnd _ _ _ _ _ hbr zero_bnd) hTw hv1 (fun c hc => by
            rcases hb5 with e | ⟨g, e, hge⟩
            · rw [e]; exact HNe.out c hc
            · cases hcb : c.ownBlock with
              | none => exact .inl rfl
              | some gc =>
                refine .inr fun e2 => ?_
                rw [e] at e2
                injection e2 with e2
                have := HLt.out c hc gc hcb
                omega) HCn.out
          have hcall := Lib.hid hcallx
          unfold rowV at hcall
          have HW := Lib.hid hW
          have HV1 := Lib.hid hb5
          obtain ⟨A1, c1, hl1⟩ := hv1.len
          have HL1 := Lib.hid hl1
          simp [puts, dstOf, Act.put]
          rw [h0, h8]
          clear hfar haft hTw hW hcallx hl1 hb5
          generalize u 4 = v4 at *
          go_wp2_with fail
          refine hcall.out.mono ?_
          rintro e W5 ⟨ov2, cs3, ⟨rv, rfl⟩, hT5, hF5, hN5⟩
          have HT5 := Lib.hid hT5
          have HF5 := Lib.hid hF5
          have HN5 := Lib.hid hN5
          clear hT5 hF5 hN5 hcall
          go_wp2_with fail
          refine ⟨⟨n + 1, ov2, cs2 ++ cs3, by omega, by go_num, ?_, ?_, ?_⟩, by simp [intOf]; omega⟩
          · have := HT5.out
            rw [List.range_succ, List.flatMap_append, List.flatMap_singleton, HGd.out]
            simpa [List.append_assoc] using this
          · refine HFr.out.trans ⟨Nat.le_trans HW.out.1.size HF5.out.size, fun v ys hv hc => ?_, fun j cs T fr hj a b c => HF5.out.oth j cs T fr (HW.out.far HIr.out hj a) a b c⟩
            have h1 : IR (w.heap.size + 4) W' v ys := by
              rcases hc with hc | hc
              · exact hv.kept HW.out.1 (.inr hc)
              · exact HW.out.2 v ys (hc.trans (List.prefix_append _ _)) hv
            refine HF5.out.rows v ys h1 ?_
            rcases hc with hc | hc
            · rcases HV1.out with e | ⟨g, e, hge⟩
              · exact .inl (by rw [e]; exact hc)
              · refine .inl fun e2 => ?_
                rw [e] at e2
                have := (hv.block e2).2.1
                omega
            · exact .inr (hc.trans (List.prefix_append _ _))
          · intro c hc
            rcases List.mem_append.1 hc with hc | hc
            · exact HNw.out c hc
            · rcases HN5.out c hc with e | ⟨g, e, hge⟩
              · exact .inl e
              · exact .inr ⟨g, e, by have := HW.out.1.size; have := HFr.out.size; have := HB2.out.size; omega⟩
      · have hp0' : (0 : Int) < (pre.length : Int) := by have := List.length_pos_iff.2 hp; omega
        have HSV := Lib.hid (show ((⟨#[32]⟩ : ByteArray) ++ ls[n]).data.toList = lead pre ls[n].data.toList by rw [lead, if_neg hp]; simp)
        have haft := fun (V : World) => Lib.hid (after_77 (some ⟨b, off, none⟩) ls.length lc rd E r ((⟨#[32]⟩ : ByteArray) ++ ls[n]) V hrd (by rw [ByteArray.size_append]; show 1 + ls[n].size ≤ 1000; omega) hbr)
        unfold rowV at haft
        clear hp
        go_upto_region 10 with fail
        refine region_lit 9 (EE (w.heap.size + 4) tv.ownBlock (pre ++ [n])) (fun i v W' => match i with | 0 => v = .func (.func 75) #[] #[.pointer (some ⟨w.heap.size, 0, none⟩), .pointer (some ⟨w.heap.size + 1, 0, none⟩), .pointer (some ⟨w.heap.size + 2, 0, none⟩), .pointer (some ⟨w.heap.size + 3, 0, none⟩)] | 1 => v = .slice tA pre.length tc | 2 => v = .int .i64 (n : Int) | 3 => Li wr 3 1 [.int .i64 (n : Int)] v W' | 4 => Tx1 (w.heap.size + 4) wr tv.ownBlock (pre ++ [n]) v W' | 5 => v = .agg #[.slice (some ⟨b, off, none⟩) ls.length lc, .string rd, .int .i64 E] | 6 => v = .agg (rowCells r).toArray | 7 => v = .string ((⟨#[32]⟩ : ByteArray) ++ ls[n]) | 8 => v = .agg (rowCells (afterRow rd.data.toList r ((⟨#[32]⟩ : ByteArray) ++ ls[n]).data.toList)).toArray | _ => True) (by kernel_rfl) (by kernel_rfl) (fun W => EE.refl _ _ _ W) EE.trans (EE.of_ext ((Ext.refl _).dr 1)) ⟨?_, ?_, ?_, ?_, ?_, ?_, ?_, ?_, ?_, trivial⟩ ?_
        · refine StepG.plain rfl ?_
          rintro u W' A' hA hW - K hK
          have a5 := ev_out 5 hA (by kernel_rfl) (by simp)
          obtain ⟨q0, q1, q2, q3, q4⟩ := hfar W' hW
          clear hA
          go_simp
          exact hK _ _ (EE.refl _ _ _ _) (fun _ _ => rfl)
        · refine StepG.plain rfl ?_
          rintro u W' A' hA hW - K hK
          have a0 := ev_out 0 hA (by kernel_rfl) (by simp)
          clear hA
          go_simp
          exact hK _ _ (EE.refl _ _ _ _) (fun _ _ => rfl)
        · refine StepG.plain rfl ?_
          rintro u W' A' hA hW - K hK
          have a8 := ev_out 8 hA (by kernel_rfl) (by simp)
          clear hA
          go_simp
          exact hK _ _ (EE.refl _ _ _ _) (fun _ _ => rfl)
        · refine StepG.plain rfl ?_
          rintro u W' A' hA hW ⟨h2, -⟩ K hK
          simp only at h2
          have a46 := ev_in 46 2 hA (by kernel_rfl) (by simp)
          clear hA
          go_simp
          exact hK _ _ (EE.of_ext (e1 _ _)) (fun V hV => Li.ee HIr.out ((Li.new' (hW.1.size) 3 1 [.int .i64 (n : Int)])) (hV))
        · refine StepG.plain rfl ?_
          rintro u W' A' hA hW ⟨h1, h3, -⟩ K hK
          simp only at h1 h3
          have a45 := ev_in 45 1 hA (by kernel_rfl) (by simp)
          have a47 := ev_in 47 3 hA (by kernel_rfl) (by simp)
          clear hA
          obtain ⟨gb, hb1, hb2, hb3, hb4⟩ := h3
          refine wp_app_in (B := w.heap.size + 4) (v := tv) (pre := pre) _ _ n gb rfl (by simp only [Act.eval, Array.getD_eq_getD_getElem?]; rw [a45, h1, HLV.out]) (by simp only [Act.eval, Array.getD_eq_getD_getElem?]; rw [a47, hb1]) (hW.2 _ _ (List.prefix_append _ _) HIr.out) (Nat.le_trans hBr hW.1.size) hpl hb4 ?_
          intro v1 W4 hv1 hE4 hb5
          refine hK _ _ hE4 (fun V hV => ⟨hV.2 _ _ (List.prefix_refl _) hv1, ?_⟩)
          rcases hb5 with hb5 | hb5
          · exact .inl hb5
          · exact .inr ⟨_, hb5, hW.1.size⟩
        · refine StepG.plain rfl ?_
          rintro u W' A' hA hW - K hK
          have a2 := ev_out 2 hA (by kernel_rfl) (by simp)
          obtain ⟨q0, q1, q2, q3, q4⟩ := hfar W' hW
          clear hA
          go_simp
          exact hK _ _ (EE.refl _ _ _ _) (fun _ _ => rfl)
        · refine StepG.plain rfl ?_
          rintro u W' A' hA hW - K hK
          have a7 := ev_out 7 hA (by kernel_rfl) (by simp)
          obtain ⟨q0, q1, q2, q3, q4⟩ := hfar W' hW
          clear hA
          refine loadR _ rfl W.heap.size (by simp [Act.eval, a7]) r q4 ?_
          exact hK _ _ (EE.refl _ _ _ _) (fun _ _ => rfl)
        · refine StepG.plain rfl ?_
          rintro u W' A' hA hW - K hK
          have a9 := ev_out 9 hA (by kernel_rfl) (by simp)
          clear hA
          go_simp
          exact hK _ _ (EE.refl _ _ _ _) (fun _ _ => rfl)
        · refine StepG.plain rfl ?_
          rintro u W' A' hA hW ⟨h5, h6, h7, -⟩ K hK
          simp only at h5 h6 h7
          have a49 := ev_in 49 5 hA (by kernel_rfl) (by simp)
          have a50 := ev_in 50 6 hA (by kernel_rfl) (by simp)
          have a51 := ev_in 51 7 hA (by kernel_rfl) (by simp)
          have hcl := haft W'
          clear hA
          go_simp
          refine hcl.out.mono ?_
          rintro e W4 ⟨rfl, hE4⟩
          exact hK _ _ (EE.of_ext hE4) (fun _ _ => rfl)
        · rintro u W' hW ⟨h0, -, -, -, h4, -, -, -, h8, -⟩
          simp only at h0 h4 h8
          obtain ⟨hv1, hb5⟩ := h4
          have hsv := HSV.out
          rw [hsv] at h8
          clear hsv
          have hTw := HTr.out.of_row HIr.out hW.1 HNe.out
          have hcallx := ih (pre ++ [n]) (u 4) (afterRow rd.data.toList r (lead pre ls[n].data.toList)) W' ov (css ++ cs2) _ (by simp; omega) (after_bnd _ _ _ _ _ hbr zero_bnd) hTw hv1 (fun c hc => by
            rcases hb5 with e | ⟨g, e, hge⟩
            · rw [e]; exact HNe.out c hc
            · cases hcb : c.ownBlock with
              | none => exact .inl rfl
              | some gc =>
                refine .inr fun e2 => ?_
                rw [e] at e2
                injection e2 with e2
                have := HLt.out c hc gc hcb
                omega) HCn.out
          have hcall := Lib.hid hcallx
          unfold rowV at hcall
          have HW := Lib.hid hW
          have HV1 := Lib.hid hb5
          obtain ⟨A1, c1, hl1⟩ := hv1.len
          have HL1 := Lib.hid hl1
          simp [puts, dstOf, Act.put]
          rw [h0, h8]
          clear hfar haft hTw hW hcallx hl1 hb5
          generalize u 4 = v4 at *
          go_wp2_with fail
          refine hcall.out.mono ?_
          rintro e W5 ⟨ov2, cs3, ⟨rv, rfl⟩, hT5, hF5, hN5⟩
          have HT5 := Lib.hid hT5
          have HF5 := Lib.hid hF5
          have HN5 := Lib.hid hN5
          clear hT5 hF5 hN5 hcall
          go_wp2_with fail
          refine ⟨⟨n + 1, ov2, cs2 ++ cs3, by omega, by go_num, ?_, ?_, ?_⟩, by simp [intOf]; omega⟩
          · have := HT5.out
            rw [List.range_succ, List.flatMap_append, List.flatMap_singleton, HGd.out]
            simpa [List.append_assoc] using this
          · refine HFr.out.trans ⟨Nat.le_trans HW.out.1.size HF5.out.size, fun v ys hv hc => ?_, fun j cs T fr hj a b c => HF5.out.oth j cs T fr (HW.out.far HIr.out hj a) a b c⟩
            have h1 : IR (w.heap.size + 4) W' v ys := by
              rcases hc with hc | hc
              · exact hv.kept HW.out.1 (.inr hc)
              · exact HW.out.2 v ys (hc.trans (List.prefix_append _ _)) hv
            refine HF5.out.rows v ys h1 ?_
            rcases hc with hc | hc
            · rcases HV1.out with e | ⟨g, e, hge⟩
              · exact .inl (by rw [e]; exact hc)
              · refine .inl fun e2 => ?_
                rw [e] at e2
                have := (hv.block e2).2.1
                omega
            · exact .inr (hc.trans (List.prefix_append _ _))
          · intro c hc
            rcases List.mem_append.1 hc with hc | hc
            · exact HNw.out c hc
            · rcases HN5.out c hc with e | ⟨g, e, hge⟩
              · exact .inl e
              · exact .inr ⟨g, e, by have := HW.out.1.size; have := HFr.out.size; have := HB2.out.size; omega⟩
    · have hlt' : ¬ (n : Int) < (ls.length : Int) := by omega
      obtain rfl : n = ls.length := by omega
      have HTr := Lib.hid hTr
      have HFr := Lib.hid hFr
      clear hTr hFr
      go_wp2_with fail
      refine bodyPost_end (results_none rfl _ _ _) rfl ?_
      exact ⟨ov, cs2, ⟨_, rfl⟩, by rw [HFf.out]; exact HTr.out, (Fr.of_ext HB2.out).trans HFr.out, HNw.out⟩
end Go.Proofs.Tp
