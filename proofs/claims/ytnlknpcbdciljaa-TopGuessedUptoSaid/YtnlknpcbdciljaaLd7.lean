import Derived.Test.YtnlknpcbdciljaaLd6
/- The numbers that can have been sent: candidates. -/
namespace Go.Proofs.Tp
open Go.RowKit Go.Proofs.Gr
set_option linter.unusedVariables false
set_option linter.unusedSimpArgs false
set_option maxRecDepth 100000
attribute [local go_sem] below_alloc' below_drewN' below_drew' below_set' Below.refl
def RdP (sg : ByteArray) (E : Nat) (rd : ByteArray) : Prop := ∃ n, Ex sg.data.toList rd.data.toList n ∧ n ≤ E
def RdT (sg : ByteArray) (E : Nat) (v : Value) : Prop := ∃ rd v2, v = .tuple #[.string rd, v2] ∧ RdP sg E rd
def RdS (sg : ByteArray) (E : Nat) (v : Value) : Prop := ∃ rd, v = .string rd ∧ RdP sg E rd
def CandR (s : Int) (num : Nat) (w : World) (e : Ending) (w' : World) : Prop := ∃ v ns, e = .returned (.tuple #[v, .bool true]) ∧ Ext w w' ∧ Sl intK w' v ns ∧ (∀ x ∈ ns, 0 ≤ x ∧ x < s) ∧ (num : Int) ∈ ns ∧ ns.length ≤ 1048576
theorem cand_snoc (L p : Nat) (s : Int) (T : List (List Nat)) (i : Nat) (hi : i < T.length) : candF L p s (T.take (i + 1)) = candF L p s (T.take i) ++ (if 0 ≤ meantR L T[i] p ∧ meantR L T[i] p < s then [meantR L T[i] p] else []) := by
  rw [List.take_succ_eq_append_getElem hi, candF, List.map_append, List.filter_append, candF]
  congr 1
  by_cases h : 0 ≤ meantR L T[i] p ∧ meantR L T[i] p < s
  · rw [if_pos h]; simp [h.1, h.2]
  · rw [if_neg h]
    simp only [List.map_cons, List.map_nil, List.filter_cons, List.filter_nil]
    rw [if_neg]
    simpa using h
set_option maxHeartbeats 4000000 in
theorem candidates_11 (ls : List ByteArray) (LA : Option Addr) (lc : Nat) (s wd : Int) (KK D : Value) (num : Nat) (ws : List Nat) (WA : Option Addr) (wc E : Nat) (w : World) (hF : Fine ls) (h3 : 3 ≤ ls.length) (hlc : ls.length ≤ lc) (hL : SlA strK w LA ls) (hs : 1 ≤ s ∧ s ≤ 41) (hnum : (num : Int) < s) (hw : SlA u16K w WA ws) (hwl : ws.length ≤ 1048576) (hE : E ≤ 2) (hK : KK.oneCell' = true) (hD : D.oneCell' = true) :
    Calls Try.prog 11 #[.agg #[.slice LA ls.length lc], .agg #[.int .i64 s, .int .i64 wd, KK, D], .int .i64 num, .slice WA ws.length wc, .int .i64 E] w (CandR s num w) := by
  obtain ⟨w0, hw0⟩ : ∃ w0, w0 = (w.alloc (.cells #[.slice LA ls.length lc] 24)).alloc (.cells #[.int .i64 s, .int .i64 wd, KK, D] 28) := ⟨_, rfl⟩
  have hE0 : Ext w w0 := by rw [hw0]; exact e2 w _ _
  have hsz : w0.heap.size = w.heap.size + 1 + 1 := by rw [hw0]; simp
  have hb5 : ∀ W, Ext w0 W → W.cell? ⟨w.heap.size, 0, none⟩ = some (.slice LA ls.length lc) := fun W hW => by
    rw [hW.cell (by rw [hsz]; simp only []; omega), hw0]; simp [go_sem]
  have hb6 : ∀ W, Ext w0 W → W.cell? ⟨w.heap.size + 1, 0, none⟩ = some (.int .i64 s) ∧ W.cell? ⟨w.heap.size + 1, 1, none⟩ = some (.int .i64 wd) ∧ W.cell? ⟨w.heap.size + 1, 2, none⟩ = some KK ∧ W.cell? ⟨w.heap.size + 1, 3, none⟩ = some D := fun W hW => by
    refine ⟨?_, ?_, ?_, ?_⟩ <;> (rw [hW.cell (by rw [hsz]; simp only []; omega), hw0]; simp [go_sem])
  have hl6 := hF.hi
  have hls : ∀ x ∈ ls, x.size ≤ 4 := fun x hx => letter_size (hF.letter x hx)
  have hpl := Lib.hid (places_24 s wd LA ls.length lc KK D w0 hs.2 (by omega) h3 hl6 hK hD)
  obtain ⟨q0, q1, q2, q3⟩ := hb6 w0 (Ext.refl _)
  have q4 := hb5 w0 (Ext.refl _)
  have HB6 := Lib.hid hb6
  have HB5 := Lib.hid hb5
  clear hsz hb6
  go_enter Try.func11, Try.ntmps11
  go_upto_region 1 with fail
  rw [← hw0]
  clear hw0
  go_upto_region 2 with (go_at_call 24; refine hpl.out.mono ?_; rintro e W1 ⟨⟨p, rfl, hp4, hps⟩, hE1⟩)
  clear q0 q1 q2 q3 q4
  obtain ⟨sg, hsg⟩ : ∃ sg, sg = signsF ls false (speltF ls.length num p) := ⟨_, rfl⟩
  have hb5' := fun (W : World) (h : Ext W1 W) => hb5 W (hE1.trans h)
  have hsp := fun (W : World) => Lib.hid (spelt_27 LA ls.length lc num p W (by omega) hl6 (by omega) (by omega))
  have hsgs : sg.size ≤ 20 := by
    have := signsF_size ls hls false (speltF ls.length num p)
    rw [speltF_len] at this
    rw [hsg]; omega
  have hmis := fun (W : World) (h : Ext W1 W) => Lib.hid (misread_25 sg ws WA wc E W (by omega) (by omega) (hw.ext (hE0.trans (hE1.trans h))) hwl)
  have hsi := fun (B : Option Addr) (d : Nat) (W : World) (h : Ext W1 W) (hB : SlA intK W B ((speltF ls.length num p).map fun t : Nat => (t : Int))) => Lib.hid (signs_26 ls (speltF ls.length num p) LA B lc d W (hL.ext (hE0.trans (hE1.trans h))) hB hls (by omega) (by rw [speltF_len]; omega) (speltF_lt _ (by omega) _ _))
  rw [← hsg] at hsi
  have HSG := Lib.hid hsg
  clear hsg hb5 hw
  refine region_lit 13 Ext (fun i v W => match i with | 0 => v = .agg #[.slice LA ls.length lc] | 1 => v = .agg #[.slice LA ls.length lc] | 2 => v = .int .i64 (num : Int) | 3 => v = .int .i64 (p : Int) | 4 => Sl intK W v ((speltF ls.length num p).map fun t : Nat => (t : Int)) | 5 => v = .string sg | 6 => v = .slice WA ws.length wc | 7 => v = .int .i64 (E : Int) | 8 => RdT sg E v | 9 => RdT sg E v | 10 => RdS sg E v | 11 => True | 12 => RdS sg E v | _ => True) (by kernel_rfl) (by kernel_rfl) Ext.refl Ext.trans (Ext.dr (Ext.refl _) 1) ⟨?_, ?_, ?_, ?_, ?_, ?_, ?_, ?_, ?_, ?_, ?_, ?_, ?_, trivial⟩ ?_
  · refine StepG.plain rfl ?_
    rintro u W A' hA hW - K hK2
    have a5 := ev_out 5 hA (by kernel_rfl) (by simp)
    have q := hb5' W hW
    clear hA
    go_simp
    exact hK2 _ _ (Ext.refl _) (fun _ _ => rfl)
  · refine StepG.plain rfl ?_
    rintro u W A' hA hW - K hK2
    have a5 := ev_out 5 hA (by kernel_rfl) (by simp)
    have q := hb5' W hW
    clear hA
    go_simp
    exact hK2 _ _ (Ext.refl _) (fun _ _ => rfl)
  · refine StepG.plain rfl ?_
    rintro u W A' hA hW - K hK2
    have a2 := ev_out 2 hA (by kernel_rfl) (by simp)
    clear hA
    go_simp
    exact hK2 _ _ (Ext.refl _) (fun _ _ => rfl)
  · refine StepG.plain rfl ?_
    rintro u W A' hA hW - K hK2
    have a12 := ev_out 12 hA (by kernel_rfl) (by simp)
    clear hA
    go_simp
    exact hK2 _ _ (Ext.refl _) (fun _ _ => rfl)
  · refine StepG.plain rfl ?_
    rintro u W A' hA hW ⟨h1, h2, h3, -⟩ K hK2
    simp only at h1 h2 h3
    have a25 := ev_in 25 1 hA (by kernel_rfl) (by simp)
    have a26 := ev_in 26 2 hA (by kernel_rfl) (by simp)
    have a27 := ev_in 27 3 hA (by kernel_rfl) (by simp)
    have hcl := hsp W
    clear hA
    go_simp
    refine hcl.out.mono ?_
    rintro e W2 ⟨v, rfl, hv, hE2⟩
    exact hK2 _ _ hE2 (fun V hV => hv.ext hV)
  · refine StepG.plain rfl ?_
    rintro u W A' hA hW ⟨h0, h4, -⟩ K hK2
    simp only at h0 h4
    have a24 := ev_in 24 0 hA (by kernel_rfl) (by simp)
    have a28 := ev_in 28 4 hA (by kernel_rfl) (by simp)
    obtain ⟨B1, d1, hl1, hd1, hd2, hS1⟩ := h4
    rw [List.length_map] at hl1
    rw [hl1] at a28
    have hcl := hsi B1 d1 W hW hS1
    clear hA
    go_simp
    refine hcl.out.mono ?_
    rintro e W2 ⟨rfl, hE2⟩
    exact hK2 _ _ hE2 (fun V hV => rfl)
  · refine StepG.plain rfl ?_
    rintro u W A' hA hW - K hK2
    have a3 := ev_out 3 hA (by kernel_rfl) (by simp)
    clear hA
    go_simp
    exact hK2 _ _ (Ext.refl _) (fun _ _ => rfl)
  · refine StepG.plain rfl ?_
    rintro u W A' hA hW - K hK2
    have a4 := ev_out 4 hA (by kernel_rfl) (by simp)
    clear hA
    go_simp
    exact hK2 _ _ (Ext.refl _) (fun _ _ => rfl)
  · refine StepG.plain rfl ?_
    rintro u W A' hA hW ⟨h5, h6, h7, -⟩ K hK2
    simp only at h5 h6 h7
    have a29 := ev_in 29 5 hA (by kernel_rfl) (by simp)
    have a30 := ev_in 30 6 hA (by kernel_rfl) (by simp)
    have a31 := ev_in 31 7 hA (by kernel_rfl) (by simp)
    have hcl := hmis W hW
    clear hA
    go_simp
    refine hcl.out.mono ?_
    rintro e W2 ⟨⟨rd, v2, n, rfl, hx, hn⟩, hE2⟩
    exact hK2 _ _ hE2 (fun V hV => ⟨rd, v2, rfl, n, hx, hn⟩)
  · refine StepG.plain rfl ?_
    rintro u W A' hA hW ⟨h8, -⟩ K hK2
    simp only at h8
    have a32 := ev_in 32 8 hA (by kernel_rfl) (by simp)
    clear hA
    go_simp
    exact hK2 _ _ (Ext.refl _) (fun V hV => h8)
  · refine StepG.plain rfl ?_
    rintro u W A' hA hW ⟨h9, -⟩ K hK2
    simp only at h9
    have a23 := ev_in 23 9 hA (by kernel_rfl) (by simp)
    obtain ⟨rd, v2, hr, hP⟩ := h9
    rw [hr] at a23
    clear hA
    go_simp
    exact hK2 _ _ (Ext.refl _) (fun V hV => ⟨rd, rfl, hP⟩)
  · refine StepG.plain rfl ?_
    rintro u W A' hA hW ⟨h9, -⟩ K hK2
    simp only at h9
    have a23 := ev_in 23 9 hA (by kernel_rfl) (by simp)
    obtain ⟨rd, v2, hr, hP⟩ := h9
    rw [hr] at a23
    clear hA
    go_simp
    exact hK2 _ _ (Ext.refl _) (fun V hV => trivial)
  · refine StepG.plain rfl ?_
    rintro u W A' hA hW ⟨h10, -⟩ K hK2
    simp only at h10
    have a33 := ev_in 33 10 hA (by kernel_rfl) (by simp)
    clear hA
    go_simp
    exact hK2 _ _ (Ext.refl _) (fun V hV => h10)
  · rintro u W hW ⟨-, -, -, -, -, -, -, -, -, -, -, -, h12, -⟩
    simp only at h12
    obtain ⟨rd, hr, n, hx, hn⟩ := h12
    simp [puts, dstOf, Act.put]
    rw [hr]
    have hrs : rd.size ≤ 40 := by
      have := hx.len
      simp only [Array.length_toList] at this
      have h1 : rd.data.size = rd.size := rfl
      have h2 : sg.data.size = sg.size := rfl
      omega
    have hrg : ∀ b ∈ rd.data.toList, b = 46 ∨ b = 45 ∨ b = 32 := ex_good hx (by rw [HSG.out]; exact signs_good ls hF.letter _ _)
    have hnp : num < ls.length ^ p := by omega
    have HM := Lib.hid (show (num : Int) ∈ candF ls.length p s (textsF (lsB ls) rd.data.toList E p) from cand_mem ls _ E num p n s (by omega) (by rw [← HSG.out]; exact hx) hn hnp hnum)
    have hE2 := hE0.trans (hE1.trans hW)
    have q := hb5' W hW
    have hq6 := HB6.out W (hE1.trans hW)
    obtain ⟨q0, q1, q2, q3⟩ := hq6
    have hcd := Lib.hid (code_28 ls LA lc W (hL.ext hE2) (by omega))
    have hrs' : ¬ (40 : Int) < (rd.size : Int) := by omega
    have HE2 := Lib.hid hE2
    have HW := Lib.hid hW
    clear hmis hsi hsp hb5' hx hr hW
    go_wp2_with (first
      | (go_at_call 28; refine hcd.out.mono ?_; rintro e W3 ⟨v3, rfl, hO3⟩; obtain ⟨A3, c3, hv3, hc3, hc4, hS3⟩ := hO3.sl (by omega); have hE3 := hO3.le; subst hv3; have htx := Lib.hid (texts_21 ls A3 c3 rd E p W3 hrs hrg (by omega) (by omega) hF hc3 hS3); have HE3 := Lib.hid hE3)
      | (go_at_call 21; refine htx.out.mono ?_; rintro e W4 ⟨v4, rfl, hE4, hS4⟩; have HE4 := Lib.hid hE4))
    obtain ⟨T, hT⟩ : ∃ T, T = textsF (lsB ls) rd.data.toList E p := ⟨_, rfl⟩
    rw [← hT] at hS4 HM
    have HTl := Lib.hid (show ∀ t ∈ T, t.length ≤ p ∧ ∀ x ∈ t, x < ls.length from fun t ht => by
      have := texts_len (by rw [hT] at ht; exact ht)
      rwa [lsB, List.length_map] at this)
    obtain ⟨A4, c4, hv4, hc4', hc4'', hS4'⟩ := hS4
    rw [List.length_map] at hv4 hc4''
    subst hv4
    have hb5w := HB5.out W4 ((hE1.trans HW.out).trans (HE3.out.trans HE4.out))
    have hb6w := (HB6.out W4 ((hE1.trans HW.out).trans (HE3.out.trans HE4.out))).1
    have HE5 := Lib.hid (hE2.trans (HE3.out.trans HE4.out))
    have HB5w := Lib.hid (fun (V : World) (h : Ext W4 V) => HB5.out V ((hE1.trans HW.out).trans ((HE3.out.trans HE4.out).trans h)))
    have HB6w := Lib.hid (fun (V : World) (h : Ext W4 V) => (HB6.out V ((hE1.trans HW.out).trans ((HE3.out.trans HE4.out).trans h))).1)
    clear q q0 q1 q2 q3 hT hcd htx hO3 hE3 hE4 hE2 hE1 hE0 HB5 HB6
    go_loopw [17, 18] (fun t17 t18 wr => ∃ i : Nat, i ≤ T.length ∧ t18 = .int .i64 i ∧ Ow intK 3 W4 wr t17 (candF ls.length p s (T.take i))) (fun _ t18 _ => T.length - (intOf t18).toNat)
    case atStart => exact ⟨0, by omega, rfl, Ow.nil (Ext.refl _)⟩
    case round =>
      obtain ⟨i, hi, rfl, hO⟩ := hrel
      by_cases hlt : i < T.length
      · have hlt' : (i : Int) < (T.length : Int) := by omega
        obtain ⟨b, off, cs, rfl, ⟨tv, hcs, hSt⟩, hat⟩ := Sl.at_ hS4' i (by rw [List.length_map]; exact hlt)
        subst hcs
        simp only [show (slK intK).sz = 1 from rfl, Nat.mul_one] at hat
        obtain ⟨htl, htx⟩ := HTl.out T[i] (List.getElem_mem hlt)
        have hSt' : Sl intK W4 tv (T[i].map fun x : Nat => (x : Int)) := by simpa using hSt
        obtain ⟨tA, tc, htv, htc, htc2, htS⟩ := hSt'
        rw [List.length_map] at htv
        subst htv
        have hcel := fun (V : World) (h : Ext wr V) => at1 hat (hO.1.trans h)
        have hbox := fun (V : World) (h : Ext wr V) => HB5w.out V (hO.1.trans h)
        have hsb := HB6w.out
        have hmt := fun (V : World) (h : Ext wr V) => Lib.hid (meant_29 LA ls.length lc T[i] tA tc p V (by omega) hl6 (by omega) (htS.ext (hO.1.trans h)) htx (by omega))
        obtain ⟨tn, htn⟩ : ∃ tn, tn = T[i].length := ⟨_, rfl⟩
        rw [← htn] at hcel hmt
        have HSN := Lib.hid (cand_snoc ls.length p s T i hlt)
        obtain ⟨mv, hmv⟩ : ∃ mv, mv = meantR ls.length T[i] p := ⟨_, rfl⟩
        rw [← hmv] at HSN hmt
        have hclen : (candF ls.length p s (T.take i)).length ≤ 1048576 := Nat.le_trans cand_len (by rw [List.length_take]; omega)
        have HO := Lib.hid hO
        have HSB := Lib.hid hsb
        clear hSt hat htS htx htn hmv hO hsb hS4'
        go_upto_region 10 with fail
        refine region_lit 7 Ext (fun j v W' => match j with | 0 => v = .agg #[.slice LA ls.length lc] | 1 => v = .slice (some ⟨b, off, none⟩) T.length c4 | 2 => v = .int .i64 (i : Int) | 3 => v = .pointer (some ⟨b, off + i, none⟩) | 4 => v = .slice tA tn tc | 5 => v = .int .i64 (p : Int) | 6 => v = .int .i64 mv | _ => True) (by kernel_rfl) (by kernel_rfl) Ext.refl Ext.trans (Ext.dr (Ext.refl _) 1) ⟨?_, ?_, ?_, ?_, ?_, ?_, ?_, trivial⟩ ?_
        · refine StepG.plain rfl ?_
          rintro u W' A' hA hW2 - K hK2
          have a5 := ev_out 5 hA (by kernel_rfl) (by simp)
          have q := hbox W' hW2
          clear hA
          go_simp
          exact hK2 _ _ (Ext.refl _) (fun _ _ => rfl)
        · refine StepG.plain rfl ?_
          rintro u W' A' hA hW2 - K hK2
          have a15 := ev_out 15 hA (by kernel_rfl) (by simp)
          clear hA
          go_simp
          exact hK2 _ _ (Ext.refl _) (fun _ _ => rfl)
        · refine StepG.plain rfl ?_
          rintro u W' A' hA hW2 - K hK2
          have a18 := ev_out 18 hA (by kernel_rfl) (by simp)
          clear hA
          go_simp
          exact hK2 _ _ (Ext.refl _) (fun _ _ => rfl)
        · refine StepG.plain rfl ?_
          rintro u W' A' hA hW2 ⟨h1, h2, -⟩ K hK2
          simp only at h1 h2
          have a58 := ev_in 58 1 hA (by kernel_rfl) (by simp)
          have a59 := ev_in 59 2 hA (by kernel_rfl) (by simp)
          clear hA
          go_simp
          exact hK2 _ _ (Ext.refl _) (fun _ _ => rfl)
        · refine StepG.plain rfl ?_
          rintro u W' A' hA hW2 ⟨h3, -⟩ K hK2
          simp only at h3
          have a60 := ev_in 60 3 hA (by kernel_rfl) (by simp)
          have q := hcel W' hW2
          clear hA
          go_simp
          exact hK2 _ _ (Ext.refl _) (fun _ _ => rfl)
        · refine StepG.plain rfl ?_
          rintro u W' A' hA hW2 - K hK2
          have a12 := ev_out 12 hA (by kernel_rfl) (by simp)
          clear hA
          go_simp
          exact hK2 _ _ (Ext.refl _) (fun _ _ => rfl)
        · refine StepG.plain rfl ?_
          rintro u W' A' hA hW2 ⟨h0, h4, h5, -⟩ K hK2
          simp only at h0 h4 h5
          have a57 := ev_in 57 0 hA (by kernel_rfl) (by simp)
          have a61 := ev_in 61 4 hA (by kernel_rfl) (by simp)
          have a62 := ev_in 62 5 hA (by kernel_rfl) (by simp)
          have hcl := hmt W' hW2
          clear hA
          go_simp
          refine hcl.out.mono ?_
          rintro e W6 ⟨rfl, hE6⟩
          exact hK2 _ _ hE6 (fun V hV => rfl)
        · rintro u W' hW2 ⟨-, -, -, -, -, -, h6, -⟩
          simp only at h6
          simp [puts, dstOf, Act.put]
          rw [h6]
          have hO2 := HO.out.ext hW2
          have q6 := HSB.out W' hO2.1
          clear hcel hbox hmt hW2 h6
          by_cases h0 : 0 ≤ mv
          · by_cases hs2 : mv < s
            · rw [if_pos ⟨h0, hs2⟩] at HSN
              go_wp2_with (at_builtin; refine app1 (k := intK) mv [.int .i64 mv] _ _ 26 (.int .i64 0) 8 rfl rfl Try.underlying26 inf3 rfl (by decide) (by decide) rfl rfl hO2 rfl (by omega) ?_; intro v7 W7 hO7 hg7)
              exact ⟨⟨i + 1, by omega, by go_num, by rw [HSN.out]; exact hO7⟩, by simp [intOf]; omega⟩
            · rw [if_neg (fun h => hs2 h.2), List.append_nil] at HSN
              go_wp2_with fail
              exact ⟨⟨i + 1, by omega, by go_num, by rw [HSN.out]; exact hO2⟩, by simp [intOf]; omega⟩
          · rw [if_neg (fun h => h0 h.1), List.append_nil] at HSN
            go_wp2_with fail
            exact ⟨⟨i + 1, by omega, by go_num, by rw [HSN.out]; exact hO2⟩, by simp [intOf]; omega⟩
      · have hlt' : ¬ (i : Int) < (T.length : Int) := by omega
        obtain rfl : i = T.length := by omega
        rw [List.take_length] at hO
        have HO := Lib.hid hO
        clear hO
        go_wp2_with fail
        go_ret2
        exact ⟨_, _, rfl, HE5.out.trans HO.out.1, HO.out.sl (Nat.le_trans cand_len hc4''), cand_bound, HM.out, Nat.le_trans cand_len hc4''⟩
end Go.Proofs.Tp
