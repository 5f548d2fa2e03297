import Derived.Test.YtnlknpcbdciljaaLe4
/- Package cipher: Possible. -/
namespace Go.Proofs.Tp
open Go.RowKit Go.Proofs.Gr Go.Shelf
set_option linter.unusedVariables false
set_option linter.unusedSimpArgs false
set_option maxRecDepth 100000
attribute [local go_sem] below_alloc' below_drewN' below_drew' below_set' Below.refl
attribute [local go_sem] Oper.semAt_some
theorem inf4 : (Try.prog.info? 4).map (fun i => (i.zero, i.size, i.bytes)) = some (some (.bool false), 1, 1) := by kernel_rfl
def ysF (L : List Bool) (m : Nat) : List Int := ((List.range m).filter fun j => L.getD j false).map fun j : Nat => (j : Int)
def PosR (s : Int) (xs : List Int) (gs : List Guess) (at_ : Nat) (w : World) (e : Ending) (w' : World) : Prop := ∃ v ys er, e = .returned (.tuple #[v, .int .i64 er]) ∧ (er = 0 ∨ er = 11) ∧ Ext w w' ∧ Sl intK w' v ys ∧ ∀ k, keyB s k = true → Agr s xs gs k → er = 0 ∧ decF s k (xs.getD at_ 0) at_ ∈ ys
theorem tail_abs {F : Fence} {n : Nat} {P : Program} {ops : Array Oper} {Q : Exit → Act → World → Prop} {l : List Oper} {u : Nat → Value} {k : Nat} {a : Act} {W : World} (h : ∀ A', A' = puts ops u k a → wpListIn F n P ops Q l A' W) : wpListIn F n P ops Q l (puts ops u k a) W := h _ rfl
set_option maxHeartbeats 8000000 in
theorem possible_12 (sn : Nat) (wd : Int) (ks : List CKey) (ds xs : List Int) (gs : List Guess) (KA DA A B : Option Addr) (kc dc c d at_ : Nat) (w : World) (hsn : 13 ≤ sn ∧ sn ≤ 41) (hk : SlA ckeyK w KA ks) (hd : SlA intK w DA ds) (hx : SlA intK w A xs) (hg : SlA guessK w B gs)
    (hkl : ks.length ≤ 1048576) (hdl : ds.length ≤ 1048576) (hck : checkF sn wd ks ds = 0) (hxl : xs.length ≤ 10) (hgl : gs.length ≤ 6) (hxs : (xs.all fun x => inR x 0 ((sn : Int) - 1)) = true) (hgs : gs.all (fineG xs.length sn) = true) (hat : at_ < xs.length) :
    Calls Try.prog 12 #[.agg #[.int .i64 sn, .int .i64 wd, .slice KA ks.length kc, .slice DA ds.length dc], .slice A xs.length c, .slice B gs.length d, .int .i64 at_] w (PosR sn xs gs at_ w) := by
  rcases hx with hx | ⟨xb, xo, rfl, hxa⟩
  · rw [hx] at hat; exact absurd hat (Nat.not_lt_zero _)
  have hx : SlA intK w (some ⟨xb, xo, none⟩) xs := .inr ⟨xb, xo, rfl, hxa⟩
  obtain ⟨KK, hKK⟩ : ∃ KK : Value, KK = .slice KA ks.length kc := ⟨_, rfl⟩
  obtain ⟨D, hDD⟩ : ∃ D : Value, D = .slice DA ds.length dc := ⟨_, rfl⟩
  obtain ⟨w0, hw0⟩ : ∃ w0, w0 = ((w.alloc (.cells #[.int .i64 sn, .int .i64 wd, KK, D] 49)).alloc (.cells #[.slice (some ⟨xb, xo, none⟩) xs.length c] 26)).alloc (.cells #[.int .i64 at_] 3) := ⟨_, rfl⟩
  have hE0 : Ext w w0 := by rw [hw0]; exact e3 w _ _ _
  have hsz : w0.heap.size = w.heap.size + 1 + 1 + 1 := by rw [hw0]; simp
  have h4 : w0.heap[w.heap.size]? = some (.cells #[.int .i64 sn, .int .i64 wd, KK, D] 49 (0, 0)) := by
    rw [hw0, heap_alloc_old _ _ (by simp <;> omega), heap_alloc_old _ _ (by simp), heap_alloc_new]
  have h5 : w0.heap[w.heap.size + 1]? = some (.cells #[.slice (some ⟨xb, xo, none⟩) xs.length c] 26 (0, 0)) := by
    rw [hw0, heap_alloc_old _ _ (by simp)]
    have := heap_alloc_new (w.alloc (.cells #[.int .i64 sn, .int .i64 wd, KK, D] 49)) (.cells #[.slice (some ⟨xb, xo, none⟩) xs.length c] 26)
    simpa using this
  have h7 : w0.heap[w.heap.size + 1 + 1]? = some (.cells #[.int .i64 at_] 3 (0, 0)) := by
    rw [hw0]
    have := heap_alloc_new ((w.alloc (.cells #[.int .i64 sn, .int .i64 wd, KK, D] 49)).alloc (.cells #[.slice (some ⟨xb, xo, none⟩) xs.length c] 26)) (.cells #[.int .i64 (at_ : Int)] 3)
    simpa using this
  have hask := Lib.hid (asked_30 sn wd ks ds xs gs KA DA (some ⟨xb, xo, none⟩) B kc dc c d w0 (by omega) (hk.ext hE0) (hd.ext hE0) (hx.ext hE0) (hg.ext hE0) hkl hdl hck hxl hgl hxs hgs)
  rw [← hKK, ← hDD] at hask
  have hwi := fun (W : World) => Lib.hid (within_31 (at_ : Int) 0 ((xs.length : Int) - 1) W)
  rw [show inR (at_ : Int) 0 ((xs.length : Int) - 1) = true by simp [inR]; omega] at hwi
  have hK1 : KK.oneCell' = true := by rw [hKK]; rfl
  have hD1 : D.oneCell' = true := by rw [hDD]; rfl
  have hxb : ∀ x ∈ xs, 0 ≤ x ∧ x ≤ 1000 := fun x hm => by
    have := List.all_eq_true.1 hxs x hm
    simp only [inR, Bool.and_eq_true, decide_eq_true_eq] at this
    omega
  have hgb : ∀ g ∈ gs, (0 ≤ g.at_ ∧ g.at_ < xs.length) ∧ 0 ≤ g.plain ∧ g.plain ≤ 1000 := fun g hm => by
    have := List.all_eq_true.1 hgs g hm
    simp only [fineG, inR, Bool.and_eq_true, decide_eq_true_eq] at this
    omega
  obtain ⟨x, hxe⟩ : ∃ x, x = xs.getD at_ 0 := ⟨_, rfl⟩
  have hxx : x = xs[at_] := by rw [hxe, List.getD_eq_getElem?_getD, List.getElem?_eq_getElem hat]; rfl
  have hxv := hxb xs[at_] (List.getElem_mem hat)
  rw [← hxx] at hxv
  have hxc : ∀ V, Ext w V → V.cell? ⟨xb, xo + at_, none⟩ = some (.int .i64 x) := fun V hV => by
    obtain ⟨cs, hcs, hat'⟩ := hxa at_ hat
    have hcs' : cs = [.int .i64 xs[at_]] := by simpa [intK, scalar] using hcs
    subst hcs'
    rw [← hxx] at hat'
    simp only [show intK.sz = 1 from rfl, Nat.mul_one] at hat'
    exact at1 hat' hV
  have HXE := Lib.hid hxe
  obtain ⟨ti, hti, hz0, hz1, hz2⟩ := info_parts inf4
  have H4 := Lib.hid h4
  have H5 := Lib.hid h5
  have H7 := Lib.hid h7
  have HX := Lib.hid hx
  have HG := Lib.hid hg
  have HXC := Lib.hid hxc
  have HXB := Lib.hid hxb
  have HGB := Lib.hid hgb
  have hcl : ∀ W, Ext w0 W → (W.cell? ⟨w.heap.size, 0, none⟩ = some (.int .i64 sn) ∧ W.cell? ⟨w.heap.size, 1, none⟩ = some (.int .i64 wd) ∧ W.cell? ⟨w.heap.size, 2, none⟩ = some KK ∧ W.cell? ⟨w.heap.size, 3, none⟩ = some D) ∧ W.cell? ⟨w.heap.size + 1, 0, none⟩ = some (.slice (some ⟨xb, xo, none⟩) xs.length c) ∧ W.cell? ⟨w.heap.size + 1 + 1, 0, none⟩ = some (.int .i64 at_) := fun W hW => by
    have e4 := (hW.block _ (heap_lt h4)).trans h4
    have e5 := (hW.block _ (heap_lt h5)).trans h5
    have e7 := (hW.block _ (heap_lt h7)).trans h7
    refine ⟨⟨?_, ?_, ?_, ?_⟩, ?_, ?_⟩
    · rw [cell_of_row W _ _ _ _ _ e4]; rfl
    · rw [cell_of_row W _ _ _ _ _ e4]; rfl
    · rw [cell_of_row W _ _ _ _ _ e4]; rfl
    · rw [cell_of_row W _ _ _ _ _ e4]; rfl
    · rw [cell_of_row W _ _ _ _ _ e5]; rfl
    · rw [cell_of_row W _ _ _ _ _ e7]; rfl
  have HCL := Lib.hid hcl
  obtain ⟨⟨c0, c1, c2, c3⟩, c4, c5⟩ := hcl w0 (Ext.refl _)
  rw [← hKK, ← hDD]
  clear hk hd hck hxs hgs hkl hdl hx hg hxa hxc h4 h5 h7 hcl hxe hxx hxb hgb hKK hDD
  refine (callsIn_wide (n := 3)).1 (callsIn_of_wp_marks Try.func12 rfl True.intro (wpIn_wide.2 ?_) rfl)
  simp only [Try.ntmps12, List.size_toArray, List.length_cons, List.length_nil, Nat.reduceAdd, Nat.reduceSub, Array.replicate_succ, Array.replicate_zero, List.push_toArray, List.append_toArray, List.nil_append, List.cons_append]
  go_upto_region 1 with fail
  rw [← hw0]
  clear hw0
  go_upto_region 6 with (first
    | (go_at_call 30; refine hask.out.mono ?_; rintro e W1 ⟨rfl, hE1⟩; have HE1 := Lib.hid hE1; obtain ⟨⟨d0, d1, d2, d3⟩, d4, d5⟩ := HCL.out W1 hE1)
    | (go_at_call 31; refine (hwi _).out.mono ?_; rintro e W9 ⟨rfl, rfl⟩))
  clear c0 c1 c2 c3 c4 c5 hask hwi
  go_wp2_with (at_make; refine wpList_make_full _ rfl _ _ 78 rfl W1.heap.size 4 ti (.bool false) 1 Try.underlying78 hti hz0 hz1 .i64 .i64 _ _ sn rfl rfl rfl rfl (by rw [hz2]; omega) (by unfold maxLen; omega) (Nat.le_refl _) ?_)
  intro W2 hown hgrow
  have hrowS : W2.heap[W1.heap.size]? = some (.cells ((List.replicate sn false).map Value.bool).toArray 4 (0, 0)) := by
    obtain ⟨_, h | ⟨g, cap, cur, hv, _, hg, _, _, hcs, htk⟩⟩ := hown
    · cases h.1
    · injection hv with hv1 hv2 hv3
      injection hv1 with hv1
      injection hv1 with hv1
      subst hv1 hv3
      rw [hg]
      congr 2
      apply Array.toList_inj.1
      have : cur.toList.take (sn * 1) = cur.toList := by rw [List.take_of_length_le]; simp [hcs]
      rw [this] at htk
      rw [htk]
      simp [madeCells, List.map_replicate]
      apply List.ext_getElem
      · simp
      · intro i h1 h2
        simp [Value.cells, Nat.mod_one]
  have hE2 : Ext W1 W2 := ⟨hgrow.os, hgrow.tape, hgrow.output, hgrow.size, fun k hk => hgrow.block k hk (by simp)⟩
  obtain ⟨gS, hgS⟩ : ∃ gS, gS = W1.heap.size := ⟨_, rfl⟩
  obtain ⟨g11, hg11⟩ : ∃ g11, g11 = W2.heap.size := ⟨_, rfl⟩
  rw [← hgS] at hrowS ⊢
  have hgs1 : w.heap.size + 1 + 1 < gS := by rw [hgS]; have := hE1.size; omega
  have hgs2 : gS < g11 := by rw [hg11]; exact heap_lt hrowS
  obtain ⟨W3, hW3⟩ : ∃ W3, W3 = W2.alloc (.cells #[.slice (some ⟨gS, 0, none⟩) sn sn] 78) := ⟨_, rfl⟩
  have hE3 : Ext W2 W3 := by rw [hW3]; exact e1 _ _
  have hb11 : W3.heap[g11]? = some (.cells #[.slice (some ⟨gS, 0, none⟩) sn sn] 78 (0, 0)) := by rw [hW3, hg11]; exact heap_alloc_new _ _
  have hE13 := hE1.trans (hE2.trans hE3)
  obtain ⟨⟨f0, f1, f2, f3⟩, f4, f5⟩ := HCL.out W3 hE13
  have hPS0 : PS sn wd KK D (some ⟨xb, xo, none⟩) c xs.length at_ x w gS g11 [] W3 :=
    ⟨hE0.trans hE13, (hE13.block _ (heap_lt H4.out)).trans H4.out, (hE13.block _ (heap_lt H5.out)).trans H5.out, (hE13.block _ (heap_lt H7.out)).trans H7.out, hb11, _, by simp, (hE3.block _ (heap_lt hrowS)).trans hrowS, fun k hk => by cases hk⟩
  have hkeys := Lib.hid (keys_32 (.agg #[.int .i64 sn, .int .i64 wd, KK, D]) (.slice (some ⟨xb, xo, none⟩) xs.length c) (.slice B gs.length d) W3 rfl rfl sn wd KK D rfl hK1 hD1)
  have HPS0 := Lib.hid hPS0
  have hg3 : g11 < W3.heap.size := heap_lt hb11
  clear hown hgrow hrowS hE1 hE2 hE3 hE13 hb11 hPS0 d0 d1 d2 d3 d4 d5 hgS
  have HW3 := Lib.hid hW3
  have HG11 := Lib.hid hg11
  rw [hW3] at f0 f1 f2 f3 f4 f5
  clear hg11 hW3
  go_wp2_with (go_at_call 32; rw [← HG11.out, ← HW3.out]; refine hkeys.out.mono ?_; rintro e W4 ⟨rfl, hW4⟩; have HW4 := Lib.hid hW4; clear hW4)
  have hE34 : Ext W3 W4 := by rw [HW4.out]; exact e3 _ _ _ _
  have hE4 := HPS0.out.ext.trans hE34
  have HPS4 := Lib.hid (HPS0.out.of_ext hE34)
  have hKS : KS sn wd KK D (some ⟨xb, xo, none⟩) B c d xs.length gs.length w W3.heap.size gS W4 := by
    refine ⟨hE4, ?_, ?_, ?_, by have := hE34.size; omega⟩
    · rw [HW4.out, heap_alloc_old _ _ (by simp <;> omega), heap_alloc_old _ _ (by simp), heap_alloc_new]
    · rw [HW4.out, heap_alloc_old _ _ (by simp)]
      have := heap_alloc_new (W3.alloc (.cells #[.int .i64 sn, .int .i64 wd, KK, D] 49)) (.cells #[.slice (some ⟨xb, xo, none⟩) xs.length c] 26)
      simpa using this
    · rw [HW4.out]
      have := heap_alloc_new ((W3.alloc (.cells #[.int .i64 sn, .int .i64 wd, KK, D] 49)).alloc (.cells #[.slice (some ⟨xb, xo, none⟩) xs.length c] 26)) (.cells #[.slice B gs.length d] 51)
      simpa using this
  have hseq := keys_57 sn wd KK D xs gs (some ⟨xb, xo, none⟩) B c d (3 - 1) w W4 W3.heap.size gS (by omega) hxl hgl HGB.out HXB.out hK1 hD1 HX.out HG.out (by omega) hKS
  have he57 : ∀ (args : Array Value) (W : World), (callFunc 57 args).run Try.prog W = .ok (.enter 57 args) W := fun _ _ => by simp [go_sem]
  have hat2 : (at_ : Int) < (xs.length : Int) := by omega
  have hsp : 3 - 1 - 1 = 1 := rfl
  refine (wpIn_wide (n := 3)).1 (wpIn_rangeFunc_ownH (F := Fence.wide) (n := 3) rfl (by decide) (gf := 57) (lb := #[.pointer (some ⟨W3.heap.size, 0, none⟩), .pointer (some ⟨W3.heap.size + 1, 0, none⟩), .pointer (some ⟨W3.heap.size + 1 + 1, 0, none⟩)]) rfl True.intro he57 hseq (fun h k => KC.trans h k) (fun V l o o' h1 h2 h3 h4 => KC.put hE4.size V l o o' h1 h2 h3 h4) (Below.refl _ _) (fun _ => rfl)
    (PS sn wd KK D (some ⟨xb, xo, none⟩) c xs.length at_ x w gS g11) (fun _ _ _ => False) (PS.own hE4.size) (fun _ _ _ _ _ h _ _ => h) HPS4.out (fun k a' V => AxP w.heap.size g11 sn k a' V) (fun _ _ => AxP.own) ?assign ?body ?done ?stop)
  case assign =>
    intro l pre k V K hI hK
    clear f0 f1 f2 f3 f4 f5 hkeys hseq hKS
    simp only [encK]
    gi_wp2
    refine hK _ _ ((KeepsOthers.alloc _ _).from _) (KC.of_ext (e1 _ _) hI.ext.size) (hI.of_ext (e1 _ _)) ⟨V.heap.size, ⟨rfl, rfl, rfl, rfl, rfl, rfl, rfl⟩, heap_alloc_new _ _⟩
  case stop =>
    intro D c pre V _ _ h
    exact h.elim
  case body =>
    rintro l pre ⟨k, hkk⟩ a V hl ⟨r, hr⟩ hP ⟨Bx, hF, hb⟩ hlen
    have hkb := vk_bound hkk
    obtain ⟨dn, hdn⟩ : ∃ dn : Nat, decF sn k x at_ = dn := ⟨(decF sn k x at_).toNat, by have := (decF_bound sn k x at_ (by omega)).1; omega⟩
    have hdb := (decF_bound sn k x at_ (by omega)).2
    rw [hdn] at hdb
    have hdec := fun (V : World) => Lib.hid (decode_33 sn wd k x at_ KK D V (by omega) (by omega) (by omega) (by omega) hxv (by omega) hK1 hD1)
    rw [hdn] at hdec
    have hbx : ∀ V', Ext V V' → V'.cell? ⟨Bx, 0, none⟩ = some (.int .i64 k.mul) ∧ V'.cell? ⟨Bx, 1, none⟩ = some (.int .i64 k.add) ∧ V'.cell? ⟨Bx, 2, none⟩ = some (.int .i64 k.step) := fun V' hV => by
      have := (hV.block _ (heap_lt hb)).trans hb
      refine ⟨?_, ?_, ?_⟩ <;> (rw [cell_of_row V' _ _ _ _ _ this]; rfl)
    obtain ⟨hsz, hdf, t4, t5, t7, t11, t12⟩ := hF
    have hdb' : dn < sn := by omega
    have HDN := Lib.hid hdn
    have hxc := HXC.out
    have HP := Lib.hid hP
    clear hdn hb f0 f1 f2 f3 f4 f5 hkeys hseq hKS hP
    refine wpIn_block ?_
    refine region_litI (F := Fence.wide.inRound l) (fun _ => True.intro) 10 Ext (fun i v W' => match i with | 0 => v = .slice (some ⟨gS, 0, none⟩) sn sn | 1 => v = .agg #[.int .i64 sn, .int .i64 wd, KK, D] | 2 => v = .agg #[.int .i64 k.mul, .int .i64 k.add, .int .i64 k.step] | 3 => v = .slice (some ⟨xb, xo, none⟩) xs.length c | 4 => v = .int .i64 (at_ : Int) | 5 => v = .pointer (some ⟨xb, xo + at_, none⟩) | 6 => v = .int .i64 x | 7 => v = .int .i64 (at_ : Int) | 8 => v = .int .i64 (dn : Int) | 9 => v = .pointer (some ⟨gS, dn, none⟩) | _ => True) (by kernel_rfl) (by kernel_rfl) Ext.refl Ext.trans (Ext.dr (Ext.refl _) 1) ⟨?_, ?_, ?_, ?_, ?_, ?_, ?_, ?_, ?_, ?_, trivial⟩ ?_
    · refine StepGI.plain rfl ?_
      rintro u W' A' hA hW2 - K hK2
      have a11 := ev_out 11 hA (by kernel_rfl) (by rw [hsz]; decide)
      rw [t11] at a11
      obtain ⟨⟨q0, q1, q2, q3⟩, q4, q5, q6⟩ := (HP.out.of_ext hW2).cells
      clear hA
      go_simp
      exact hK2 _ _ (Ext.refl _) (fun _ _ => rfl)
    · refine StepGI.plain rfl ?_
      rintro u W' A' hA hW2 - K hK2
      have a4 := ev_out 4 hA (by kernel_rfl) (by rw [hsz]; decide)
      rw [t4] at a4
      obtain ⟨⟨q0, q1, q2, q3⟩, q4, q5, q6⟩ := (HP.out.of_ext hW2).cells
      clear hA
      go_simp
      exact hK2 _ _ (Ext.refl _) (fun _ _ => rfl)
    · refine StepGI.plain rfl ?_
      rintro u W' A' hA hW2 - K hK2
      have a12 := ev_out 12 hA (by kernel_rfl) (by rw [hsz]; decide)
      rw [t12] at a12
      obtain ⟨r0, r1, r2⟩ := hbx W' hW2
      clear hA
      go_simp
      exact hK2 _ _ (Ext.refl _) (fun _ _ => rfl)
    · refine StepGI.plain rfl ?_
      rintro u W' A' hA hW2 - K hK2
      have a5 := ev_out 5 hA (by kernel_rfl) (by rw [hsz]; decide)
      rw [t5] at a5
      obtain ⟨⟨q0, q1, q2, q3⟩, q4, q5, q6⟩ := (HP.out.of_ext hW2).cells
      clear hA
      go_simp
      exact hK2 _ _ (Ext.refl _) (fun _ _ => rfl)
    · refine StepGI.plain rfl ?_
      rintro u W' A' hA hW2 - K hK2
      have a7 := ev_out 7 hA (by kernel_rfl) (by rw [hsz]; decide)
      rw [t7] at a7
      obtain ⟨⟨q0, q1, q2, q3⟩, q4, q5, q6⟩ := (HP.out.of_ext hW2).cells
      clear hA
      go_simp
      exact hK2 _ _ (Ext.refl _) (fun _ _ => rfl)
    · refine StepGI.plain rfl ?_
      rintro u W' A' hA hW2 ⟨h3, h4, -⟩ K hK2
      simp only at h3 h4
      have a40 := ev_in 40 3 hA (by kernel_rfl) (by rw [hsz]; decide)
      have a41 := ev_in 41 4 hA (by kernel_rfl) (by rw [hsz]; decide)
      clear hA
      go_simp
      exact hK2 _ _ (Ext.refl _) (fun _ _ => rfl)
    · refine StepGI.plain rfl ?_
      rintro u W' A' hA hW2 ⟨h5, -⟩ K hK2
      simp only at h5
      have a42 := ev_in 42 5 hA (by kernel_rfl) (by rw [hsz]; decide)
      have q := hxc W' (HP.out.ext.trans hW2)
      clear hA
      go_simp
      exact hK2 _ _ (Ext.refl _) (fun _ _ => rfl)
    · refine StepGI.plain rfl ?_
      rintro u W' A' hA hW2 - K hK2
      have a7 := ev_out 7 hA (by kernel_rfl) (by rw [hsz]; decide)
      rw [t7] at a7
      obtain ⟨⟨q0, q1, q2, q3⟩, q4, q5, q6⟩ := (HP.out.of_ext hW2).cells
      clear hA
      go_simp
      exact hK2 _ _ (Ext.refl _) (fun _ _ => rfl)
    · refine StepGI.plain rfl ?_
      rintro u W' A' hA hW2 ⟨h1, h2, h6, h7, -⟩ K hK2
      simp only at h1 h2 h6 h7
      have a38 := ev_in 38 1 hA (by kernel_rfl) (by rw [hsz]; decide)
      have a39 := ev_in 39 2 hA (by kernel_rfl) (by rw [hsz]; decide)
      have a43 := ev_in 43 6 hA (by kernel_rfl) (by rw [hsz]; decide)
      have a44 := ev_in 44 7 hA (by kernel_rfl) (by rw [hsz]; decide)
      have hcl := hdec W'
      clear hA
      go_simp
      refine ⟨True.intro, ?_⟩
      refine CallsIn.inRound l (callsIn_wide.2 (hcl.out.mono ?_))
      rintro e W4 ⟨rfl, hE4⟩
      exact hK2 _ _ hE4 (fun _ _ => rfl)
    · refine StepGI.plain rfl ?_
      rintro u W' A' hA hW2 ⟨h0, h8, -⟩ K hK2
      simp only at h0 h8
      have a37 := ev_in 37 0 hA (by kernel_rfl) (by rw [hsz]; decide)
      have a45 := ev_in 45 8 hA (by kernel_rfl) (by rw [hsz]; decide)
      clear hA
      go_simp
      exact hK2 _ _ (Ext.refl _) (fun _ _ => rfl)
    · rintro u W' hW2 ⟨-, -, -, -, -, -, -, -, -, h9, -⟩
      simp only at h9
      have hB2 := HP.out.ext.size
      obtain ⟨hPn, ⟨z, hz1⟩, hz2⟩ := (HP.out.of_ext hW2).set hgs1 hgs2 ⟨k, hkk⟩ dn HDN.out hdb'
      have HPn := Lib.hid hPn
      have HWW := Lib.hid hW2
      clear hPn hW2 hbx hdec hxc
      refine tail_abs fun A' hA => ?_
      have a46 := ev_in 46 9 hA (by kernel_rfl) (by rw [hsz]; decide)
      rw [h9] at a46
      clear hA
      gi_wp2
      refine ⟨⟨Nat.le_trans HWW.out.size (grownBy_set W' gS dn (.bool true)).size, fun j o hj ho hc => ?_⟩, (KC.of_ext HWW.out hB2).trans ⟨(Below.refl _ _).setCell (by simp only []; omega) _, fun j cs T fr hj hne => ((grownBy_set W' gS dn (.bool true)).block j (heap_lt hj) (fun e => by injection e with e; exact hne e)).trans hj⟩, HPn.out⟩
      have h1 := (HWW.out.block j (heap_lt ho)).trans ho
      refine ((grownBy_set W' gS dn (.bool true)).block j (heap_lt h1) (fun e => ?_)).trans h1
      injection e with e
      have := HPS4.out.b11
      have := heap_lt this
      omega
  case done =>
    intro Dd pre V hDd hS hP hKd
    obtain ⟨L, hL1, hL2, hL3⟩ := hP.row
    have q6 := hP.cells.2.2.2
    have hwV := hP.ext
    have HL2 := Lib.hid hL2
    have HKd := Lib.hid hKd
    have HAll := Lib.hid (show ∀ k, keyB sn k = true → Agr sn xs gs k → decF sn k (xs.getD at_ 0) at_ ∈ ysF L sn from fun k hkk ha => by
      have h1 := hL3 ⟨k, hkk⟩ (hS ⟨k, hkk⟩ ha)
      have h2 := decF_bound sn k x at_ (by omega)
      rw [← HXE.out]
      simp only at h1
      refine List.mem_map.2 ⟨(decF sn k x at_).toNat, List.mem_filter.2 ⟨List.mem_range.2 (by omega), ?_⟩, by omega⟩
      rw [List.getD_eq_getElem?_getD, h1]
      rfl)
    have HDd := Lib.hid hDd
    have HE4 := Lib.hid hE4
    clear hP hL2 hL3 hS hKd f0 f1 f2 f3 f4 f5 hkeys hseq hKS hE34 hE4 he57 hsp hDd
    go_wp2_with fail
    go_loopw [13, 49] (fun t13 t49 wr => ∃ i : Nat, i ≤ sn ∧ t49 = .int .i64 i ∧ Ow intK 3 V wr t13 (ysF L i)) (fun _ t49 _ => sn - (intOf t49).toNat)
    case atStart => exact ⟨0, by omega, rfl, Ow.nil (Ext.refl _)⟩
    case round =>
      obtain ⟨i, hi, rfl, hO⟩ := hrel
      have hyl : (ysF L i).length ≤ i := by
        rw [ysF, List.length_map]
        exact Nat.le_trans (List.length_filter_le _ _) (by simp)
      have hE5 := hO.1
      by_cases hlt : i < sn
      · have hlt' : (i : Int) < (sn : Int) := by omega
        have hc : wr.cell? ⟨gS, i, none⟩ = some (.bool (L.getD i false)) := by
          rw [cell_of_row wr _ _ _ _ _ ((hE5.block _ (heap_lt HL2.out)).trans HL2.out)]
          simp [show i < L.length by omega]
        obtain ⟨bb, hbb⟩ : ∃ bb, bb = L.getD i false := ⟨_, rfl⟩
        rw [← hbb] at hc
        have HY := Lib.hid (show ysF L (i + 1) = ysF L i ++ (if bb then [(i : Int)] else []) by
          rw [ysF, List.range_succ, List.filter_append, List.map_append, hbb]
          congr 1
          cases h : L.getD i false <;> simp only [List.filter_cons, List.filter_nil, h] <;> rfl)
        clear hbb
        cases bb with
        | true =>
          simp only [if_true] at HY
          go_wp2_with (at_builtin; refine app1 (k := intK) (i : Int) [.int .i64 i] _ _ 26 (.int .i64 0) 8 rfl rfl Try.underlying26 inf3 rfl (by decide) (by decide) rfl rfl hO rfl (by omega) ?_; intro v7 W7 hO7 hg7)
          refine ⟨⟨i + 1, by omega, by go_num, ?_⟩, by simp [intOf]; omega⟩
          rw [HY.out]; exact hO7
        | false =>
          simp only [Bool.false_eq_true, if_false, List.append_nil] at HY
          have HO := Lib.hid hO
          clear hO
          go_wp2_with fail
          refine ⟨⟨i + 1, by omega, by go_num, ?_⟩, by simp [intOf]; omega⟩
          rw [HY.out]; exact HO.out
      · have hlt' : ¬ (i : Int) < (sn : Int) := by omega
        obtain rfl : i = sn := by omega
        have hKw := (hE5.block _ (heap_lt HKd.out)).trans HKd.out
        have hEw := hwV.trans hE5
        have hpo := grownBy_putObj' wr Dd (.deferred none)
        have hEf : Ext w (wr.putObj Dd (.deferred none)) := hEw.grown hpo hEw.size (fun k e => by cases e; have := HE4.out.size; have := HDd.out; omega)
        obtain ⟨oA, oc, hov⟩ := hO.len
        subst hov
        have hS1 := hO.sl (by omega)
        have hSf : Sl intK (wr.putObj Dd (.deferred none)) (.slice oA (ysF L i).length (ysF L i).length) (ysF L i) := by
          have hne : (Value.slice oA (ysF L i).length oc).ownBlock = none ∨ (Value.slice oA (ysF L i).length oc).ownBlock ≠ some Dd := .inr fun e => by
            obtain ⟨cur, hc⟩ := ownBlock_row (OwI.cells hO) e
            rw [hKw] at hc
            cases hc
          have h2 := ((hO.low hwV (fun _ _ h => h)).other hpo hEf hne).sl (by omega)
          obtain ⟨A1, c1, e1, _, hl1, hs1⟩ := h2
          injection e1 with e1 e2 e3
          subst e1
          exact ⟨oA, _, rfl, Nat.le_refl _, hl1, hs1⟩
        obtain ⟨yl, hyl2⟩ : ∃ yl, yl = (ysF L i).length := ⟨_, rfl⟩
        have hoc : yl ≤ oc := by
          obtain ⟨A1, c1, e1, h1, _, _⟩ := hS1
          injection e1 with e1 e2 e3
          rw [e3, hyl2]; exact h1
        rw [← hyl2] at hSf hyl ⊢
        have hcp := Lib.hid (clip_34 oA yl oc wr hoc (by omega))
        have HYL := Lib.hid hyl2
        have HSf := Lib.hid hSf
        have HEf := Lib.hid hEf
        have HKw := Lib.hid hKw
        clear hO hS1 hSf hEf hpo hKw hyl2
        by_cases h0 : yl = 0
        · subst h0
          have hnil : ysF L i = [] := List.eq_nil_of_length_eq_zero HYL.out.symm
          have HN := Lib.hid hnil
          clear hnil
          go_wp2_with fail
          refine ⟨by simp, .inl ⟨_, _, rfl, run_takeDeferred HKw.out, ?_⟩⟩
          refine ⟨_, results_tmp2 rfl _ _ _, _, [], 11, rfl, .inr rfl, HEf.out, Sl.nil _ _ _ _, fun k hkk ha => ?_⟩
          have := HAll.out k hkk ha
          rw [HN.out] at this
          cases this
        · have h0' : ((yl : Int) == 0) = false := by rw [beq_eq_false_iff_ne]; omega
          go_wp2_with (go_at_call 34; refine hcp.out.mono ?_; rintro e W9 ⟨rfl, rfl⟩)
          refine ⟨by simp, .inl ⟨_, _, rfl, run_takeDeferred HKw.out, ?_⟩⟩
          exact ⟨_, results_tmp2 rfl _ _ _, _, ysF L i, 0, rfl, .inl rfl, HEf.out, HSf.out, fun k hkk ha => ⟨rfl, HAll.out k hkk ha⟩⟩
end Go.Proofs.Tp
