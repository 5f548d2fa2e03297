import Derived.Test.YtnlknpcbdciljaaLd7
/- Package cipher: Code. -/
namespace Go.Proofs.Tp
open Go.RowKit Go.Proofs.Gr
set_option linter.unusedVariables false
set_option linter.unusedSimpArgs false
set_option maxRecDepth 100000
attribute [local go_sem] below_alloc' below_drewN' below_drew' below_set' Below.refl
def codeH (s : Int) (ks : List CKey) (ds xs : List Int) (day : Nat) (k : CKey) : List Int := ((ds.getD day 0 + day) % (ks.length : Int)) :: turnedF s k xs xs.length
def codeL (s : Int) (ks : List CKey) (ds xs : List Int) (day : Nat) (k : CKey) : List Int := codeH s ks ds xs day k ++ [sumF (codeH s ks ds xs day k) (codeH s ks ds xs day k).length % s]
def CodeR (s : Int) (ks : List CKey) (ds xs : List Int) (day : Nat) (k : CKey) (w : World) (e : Ending) (w' : World) : Prop := ∃ v, e = .returned (.tuple #[v, .int .i64 0]) ∧ Ext w w' ∧ Sl intK w' v (codeL s ks ds xs day k)
def OwL (w0 : World) (xs : List Int) (v : Value) (W : World) : Prop := Sl intK W v xs
theorem OwI.cells {w0 W : World} {v : Value} {xs : List Int} (h : Ow intK 3 w0 W v xs) : W.ownsRow w0.heap.size 3 1 v xs.length (xs.map fun x => Value.int .i64 x) := by
  obtain ⟨h1, css, h2, h3, h4⟩ := h
  have : css = xs.map fun x => [Value.int .i64 x] := by
    apply List.ext_getElem
    · simp [h2]
    · intro i hi hi'
      have := h3 i (by omega) hi
      simpa [intK, scalar] using this
  rw [this] at h4
  have e : ∀ xs : List Int, (xs.map fun x => [Value.int .i64 x]).flatten = xs.map fun x => Value.int .i64 x := fun xs => by
    induction xs with
    | nil => rfl
    | cons x xs ih => simp [ih]
  rw [e] at h4
  exact h4
theorem OwI.of {w0 W : World} {v : Value} {xs : List Int} (hE : Ext w0 W) (h : W.ownsRow w0.heap.size 3 1 v xs.length (xs.map fun x => Value.int .i64 x)) : Ow intK 3 w0 W v xs := by
  refine ⟨hE, xs.map fun x => [Value.int .i64 x], by simp, fun i hi hi' => by simp [intK, scalar], ?_⟩
  have e : ∀ xs : List Int, (xs.map fun x => [Value.int .i64 x]).flatten = xs.map fun x => Value.int .i64 x := fun xs => by
    induction xs with
    | nil => rfl
    | cons x xs ih => simp [ih]
  rw [e]
  exact h
/-- append(v, ys...), ys as it lies now -/
theorem appI {w0 W : World} {v : Value} {xs ys : List Int} {ops : Array Oper} {rest : List Oper} {o : Oper} {a : Act} {Q : Exit → Act → World → Prop} (A : Option Addr) (cc : Nat) (s x : Operand) (hgd : o.guard = none) (ho : o.op = .call { callee := .builtin .append, args := #[s, x], argTypes := #[26, 26] })
    (hs : a.eval s = v) (hx : a.eval x = .slice A ys.length cc) (HO : Ow intK 3 w0 W v xs) (hys : SlA intK W A ys) (hl : xs.length + ys.length ≤ 1000000) (hne : ys ≠ [])
    (h : ∀ v1 W1, Ow intK 3 w0 W1 v1 (xs ++ ys) → W.grownBy W1 v.ownBlock → wpList Try.prog ops Q rest (a.put o.dst v1) W1) : wpList Try.prog ops Q (o :: rest) a W := by
  obtain ⟨i, hi, hz, h1, h2⟩ := info_parts inf3
  have hC := OwI.cells HO
  rcases hys with hys | ⟨b, off, rfl, hat⟩
  · exact absurd hys hne
  refine wpList_append_own W hgd s x 26 ho w0.heap.size 3 i (.int .i64 0) 1 8 Try.underlying26 hi hz h1 h2 rfl (by decide) v xs.length _ hs hC ⟨b, off, none⟩ ys.length cc (ys.map fun x => Value.int .i64 x) hx (by simp) ?_ ?_ (by unfold maxLen; omega) (by omega) HO.1.size ?_
  · intro j u hu
    have hj : j < ys.length := by
      rcases Nat.lt_or_ge j ys.length with h | h
      · exact h
      · rw [List.getElem?_eq_none (by simpa using h)] at hu; cases hu
    obtain ⟨cs, hcs, hA⟩ := hat j hj
    have hcs' : cs = [.int .i64 ys[j]] := by simpa [intK, scalar] using hcs
    subst hcs'
    have := at1 hA (Ext.refl W)
    simp only [show intK.sz = 1 from rfl, Nat.mul_one] at this
    have ha : (⟨b, off, none⟩ : Addr).add j = ⟨b, off + j, none⟩ := by
      unfold Addr.add
      split
      · rename_i h0; subst h0; rfl
      · rfl
    rw [ha, this]
    simpa [hj] using hu
  · intro u hu
    obtain ⟨y, _, rfl⟩ := List.mem_map.1 hu
    rfl
  · intro v1 W1 ho1 hg1 _
    refine h v1 W1 (OwI.of (HO.1.grown hg1 HO.1.size (fun k e => (hC.lt k e).1)) ?_) hg1
    rw [List.length_append, List.map_append]
    exact ho1
set_option maxHeartbeats 4000000 in
theorem code_19 (s wd : Int) (ks : List CKey) (ds xs : List Int) (KA DA A : Option Addr) (kc dc c day kd : Nat) (w : World) (hs : 1 ≤ s ∧ s ≤ 1000) (hk : SlA ckeyK w KA ks) (hd : SlA intK w DA ds) (hx : SlA intK w A xs)
    (hkl : ks.length ≤ 1000) (hdl : ds.length ≤ 100) (hck : checkF s wd ks ds = 0) (hday : day < ds.length) (hdb : ∀ d ∈ ds, 0 ≤ d ∧ d ≤ 1000) (hkd : kd < ks.length) (hdk : ds[day] = (kd : Int)) (h1 : 0 ≤ ks[kd].mul ∧ ks[kd].mul ≤ 1000) (h2 : 0 ≤ ks[kd].add ∧ ks[kd].add ≤ 1000) (h3 : 0 ≤ ks[kd].step ∧ ks[kd].step ≤ 1000)
    (hx0 : 0 < xs.length) (hxl : xs.length ≤ 10) (hxs : (xs.all fun x => inR x 0 (s - 1)) = true) :
    Calls Try.prog 19 #[.agg #[.int .i64 s, .int .i64 wd, .slice KA ks.length kc, .slice DA ds.length dc], .int .i64 day, .slice A xs.length c] w (CodeR s ks ds xs day ks[kd] w) := by
  rcases hk with hk | ⟨kb, ko, rfl, hks⟩
  · rw [hk] at hkd; exact absurd hkd (Nat.not_lt_zero _)
  rcases hd with hd | ⟨db, dof, rfl, hds⟩
  · rw [hd] at hday; exact absurd hday (Nat.not_lt_zero _)
  have hk : SlA ckeyK w (some ⟨kb, ko, none⟩) ks := .inr ⟨kb, ko, rfl, hks⟩
  have hd : SlA intK w (some ⟨db, dof, none⟩) ds := .inr ⟨db, dof, rfl, hds⟩
  obtain ⟨k, hke⟩ : ∃ k, k = ks[kd] := ⟨_, rfl⟩
  rw [← hke] at h1 h2 h3 ⊢
  obtain ⟨w0, hw0⟩ : ∃ w0, w0 = w.alloc (.cells #[.int .i64 s, .int .i64 wd, .slice (some ⟨kb, ko, none⟩) ks.length kc, .slice (some ⟨db, dof, none⟩) ds.length dc] 49) := ⟨_, rfl⟩
  have hE0 : Ext w w0 := by rw [hw0]; exact e1 w _
  have hsz : w0.heap.size = w.heap.size + 1 := by rw [hw0]; simp
  have hb : ∀ W, Ext w0 W → W.cell? ⟨w.heap.size, 0, none⟩ = some (.int .i64 s) ∧ W.cell? ⟨w.heap.size, 1, none⟩ = some (.int .i64 wd) ∧ W.cell? ⟨w.heap.size, 2, none⟩ = some (.slice (some ⟨kb, ko, none⟩) ks.length kc) ∧ W.cell? ⟨w.heap.size, 3, none⟩ = some (.slice (some ⟨db, dof, none⟩) ds.length dc) := fun W hW => by
    refine ⟨?_, ?_, ?_, ?_⟩ <;> (rw [hW.cell (by rw [hsz]; simp only []; omega), hw0]; simp [go_sem])
  have hxb : ∀ x ∈ xs, 0 ≤ x ∧ x ≤ 1000 := fun x hm => by
    have := List.all_eq_true.1 hxs x hm
    simp only [inR, Bool.and_eq_true, decide_eq_true_eq] at this
    omega
  have hchk := Lib.hid (check_37 s wd ks ds _ _ kc dc w0 (by omega) (hk.ext hE0) (hd.ext hE0) (by omega) (by omega))
  rw [hck] at hchk
  have hdy := fun (W : World) => Lib.hid (day_38 s wd day (some ⟨db, dof, none⟩) ds.length dc (.slice (some ⟨kb, ko, none⟩) ks.length kc) W (by omega))
  rw [show inR (day : Int) 0 ((ds.length : Int) - 1) = true by simp [inR]; omega] at hdy
  have hax := fun (W : World) (e : Ext w0 W) => Lib.hid (all_int xs (fun x => inR x 0 (s - 1)) A c 40 #[.agg #[.int .i64 s, .int .i64 wd, .slice (some ⟨kb, ko, none⟩) ks.length kc, .slice (some ⟨db, dof, none⟩) ds.length dc]] #[] W enters_40 (hx.ext (hE0.trans e)) (by omega)
    (fun x hm V hV => plain_40 s wd x _ _ V (by omega)))
  rw [hxs] at hax
  have hg2 : ¬ (10 : Int) < (xs.length : Int) := by omega
  obtain ⟨b0, b1, b2, b3⟩ := hb w0 (Ext.refl _)
  have HB := Lib.hid hb
  clear hb hsz hck
  go_enter Try.func19, Try.ntmps19
  go_upto_region 1 with fail
  rw [← hw0]
  clear hw0
  go_upto_region 10 with (first
    | (go_at_call 37; refine hchk.out.mono ?_; rintro e W1 ⟨rfl, hE1⟩; have HE1 := Lib.hid hE1; obtain ⟨c0, c1, c2, c3⟩ := HB.out W1 hE1)
    | (go_at_call 38; refine (hdy _).out.mono ?_; rintro e W2 ⟨rfl, hE2⟩; have HE2 := Lib.hid (HE1.out.trans hE2); obtain ⟨d0, d1, d2, d3⟩ := HB.out W2 HE2.out; have hax2 := hax W2 HE2.out)
    | (go_at_call 39; refine hax2.out.mono ?_; rintro e W3 ⟨rfl, hE3⟩; have HE3 := Lib.hid (HE2.out.trans hE3)))
  have hb' := fun (W : World) (h : Ext W3 W) => HB.out W (HE3.out.trans h)
  have hkc : ∀ W, Ext W3 W → W.cell? ⟨kb, ko + kd * 3, none⟩ = some (.int .i64 k.mul) ∧ W.cell? ⟨kb, ko + kd * 3 + 1, none⟩ = some (.int .i64 k.add) ∧ W.cell? ⟨kb, ko + kd * 3 + 2, none⟩ = some (.int .i64 k.step) := fun W h => by
    obtain ⟨cs, hcs, hat⟩ := hks kd hkd
    rw [← hke] at hcs
    have hcs' : cs = [.int .i64 k.mul, .int .i64 k.add, .int .i64 k.step] := hcs
    subst hcs'
    exact at3 hat (hE0.trans (HE3.out.trans h))
  have hdc : ∀ W, Ext W3 W → W.cell? ⟨db, dof + day, none⟩ = some (.int .i64 (kd : Int)) := fun W h => by
    obtain ⟨cs, hcs, hat⟩ := hds day hday
    have hcs' : cs = [.int .i64 ds[day]] := by simpa [intK, scalar] using hcs
    subst hcs'
    rw [hdk] at hat
    simp only [show intK.sz = 1 from rfl, Nat.mul_one] at hat
    exact at1 hat (hE0.trans (HE3.out.trans h))
  have hin := fun (W : World) (h : Ext W3 W) => Lib.hid (ind_41 s wd ds (some ⟨kb, ko, none⟩) (some ⟨db, dof, none⟩) ks.length kc dc day W (hd.ext (hE0.trans (HE3.out.trans h))) hdl hday (by omega) hkl hdb)
  have htu := fun (W : World) (h : Ext W3 W) => Lib.hid (turned_42 s wd k xs (.slice (some ⟨kb, ko, none⟩) ks.length kc) (.slice (some ⟨db, dof, none⟩) ds.length dc) A c W hs h1 h2 h3 (by omega) hxb rfl rfl (hx.ext (hE0.trans (HE3.out.trans h))))
  obtain ⟨iv, hiv⟩ : ∃ iv, iv = (ds.getD day 0 + day) % (ks.length : Int) := ⟨_, rfl⟩
  rw [← hiv] at hin
  have HIV := Lib.hid hiv
  have hday' : (day : Int) < (ds.length : Int) := by omega
  have hkd' : (kd : Int) < (ks.length : Int) := by omega
  have hivb : 0 ≤ iv ∧ iv < ks.length := by rw [hiv]; exact ⟨Int.emod_nonneg _ (by omega), Int.emod_lt_of_pos _ (by omega)⟩
  clear hchk hdy hax hax2 b0 b1 b2 b3 c0 c1 c2 c3 d0 d1 d2 d3 hE1 hE2 hE3 hks hds hk hd hx hke hiv hdk
  refine region_lit 17 Ext (fun i v W => match i with | 0 => v = .agg #[.int .i64 s, .int .i64 wd, .slice (some ⟨kb, ko, none⟩) ks.length kc, .slice (some ⟨db, dof, none⟩) ds.length dc] | 1 => v = .int .i64 (day : Int) | 2 => v = .int .i64 iv | 3 => Li W3 3 1 [.int .i64 iv] v W | 4 => v = .agg #[.int .i64 s, .int .i64 wd, .slice (some ⟨kb, ko, none⟩) ks.length kc, .slice (some ⟨db, dof, none⟩) ds.length dc] | 5 => v = .agg #[.func (.func 43) #[] #[]] | 6 => v = .pointer (some ⟨w.heap.size, 2, none⟩) | 7 => v = .slice (some ⟨kb, ko, none⟩) ks.length kc | 8 => v = .pointer (some ⟨w.heap.size, 3, none⟩) | 9 => v = .slice (some ⟨db, dof, none⟩) ds.length dc | 10 => v = .int .i64 (day : Int) | 11 => v = .pointer (some ⟨db, dof + day, none⟩) | 12 => v = .int .i64 (kd : Int) | 13 => v = .pointer (some ⟨kb, ko + kd * 3, none⟩) | 14 => v = .agg #[.int .i64 k.mul, .int .i64 k.add, .int .i64 k.step] | 15 => v = .slice A xs.length c | 16 => Ow intK 3 W3 W v (turnedF s k xs xs.length) | _ => True) (by kernel_rfl) (by kernel_rfl) Ext.refl Ext.trans (Ext.dr (Ext.refl _) 1) ⟨?_, ?_, ?_, ?_, ?_, ?_, ?_, ?_, ?_, ?_, ?_, ?_, ?_, ?_, ?_, ?_, ?_, trivial⟩ ?_
  · refine StepG.plain rfl ?_
    rintro u W A' hA hW - K hK2
    have a3 := ev_out 3 hA (by kernel_rfl) (by simp)
    obtain ⟨b0, b1, b2, b3⟩ := hb' W hW
    clear hA
    go_simp
    exact hK2 _ _ (Ext.refl _) (fun _ _ => rfl)
  · refine StepG.plain rfl ?_
    rintro u W A' hA hW - K hK2
    have a1 := ev_out 1 hA (by kernel_rfl) (by simp)
    clear hA
    go_simp
    exact hK2 _ _ (Ext.refl _) (fun _ _ => rfl)
  · refine StepG.plain rfl ?_
    rintro u W A' hA hW ⟨h0, h1, -⟩ K hK2
    simp only at h0 h1
    have a30 := ev_in 30 0 hA (by kernel_rfl) (by simp)
    have a31 := ev_in 31 1 hA (by kernel_rfl) (by simp)
    have hcl := hin W hW
    clear hA
    go_simp
    refine hcl.out.mono ?_
    rintro e W4 ⟨rfl, hE4⟩
    exact hK2 _ _ hE4 (fun _ _ => rfl)
  · refine StepG.plain rfl ?_
    rintro u W A' hA hW ⟨h2, -⟩ K hK2
    simp only at h2
    have a32 := ev_in 32 2 hA (by kernel_rfl) (by simp)
    clear hA
    go_simp
    exact hK2 _ _ (e1 _ _) (fun V hV => (Li.new hW 3 1 _).ext hV)
  · refine StepG.plain rfl ?_
    rintro u W A' hA hW - K hK2
    have a3 := ev_out 3 hA (by kernel_rfl) (by simp)
    obtain ⟨b0, b1, b2, b3⟩ := hb' W hW
    clear hA
    go_simp
    exact hK2 _ _ (Ext.refl _) (fun _ _ => rfl)
  · refine StepG.plain rfl ?_
    rintro u W A' hA hW - K hK2
    clear hA
    go_simp
    exact hK2 _ _ (Ext.refl _) (fun _ _ => rfl)
  · refine StepG.plain rfl ?_
    rintro u W A' hA hW - K hK2
    have a3 := ev_out 3 hA (by kernel_rfl) (by simp)
    clear hA
    go_simp
    exact hK2 _ _ (Ext.refl _) (fun _ _ => rfl)
  · refine StepG.plain rfl ?_
    rintro u W A' hA hW ⟨h6, -⟩ K hK2
    simp only at h6
    have a36 := ev_in 36 6 hA (by kernel_rfl) (by simp)
    obtain ⟨b0, b1, b2, b3⟩ := hb' W hW
    clear hA
    go_simp
    exact hK2 _ _ (Ext.refl _) (fun _ _ => rfl)
  · refine StepG.plain rfl ?_
    rintro u W A' hA hW - K hK2
    have a3 := ev_out 3 hA (by kernel_rfl) (by simp)
    clear hA
    go_simp
    exact hK2 _ _ (Ext.refl _) (fun _ _ => rfl)
  · refine StepG.plain rfl ?_
    rintro u W A' hA hW ⟨h8, -⟩ K hK2
    simp only at h8
    have a38 := ev_in 38 8 hA (by kernel_rfl) (by simp)
    obtain ⟨b0, b1, b2, b3⟩ := hb' W hW
    clear hA
    go_simp
    exact hK2 _ _ (Ext.refl _) (fun _ _ => rfl)
  · refine StepG.plain rfl ?_
    rintro u W A' hA hW - K hK2
    have a1 := ev_out 1 hA (by kernel_rfl) (by simp)
    clear hA
    go_simp
    exact hK2 _ _ (Ext.refl _) (fun _ _ => rfl)
  · refine StepG.plain rfl ?_
    rintro u W A' hA hW ⟨h9, h10, -⟩ K hK2
    simp only at h9 h10
    have a39 := ev_in 39 9 hA (by kernel_rfl) (by simp)
    have a40 := ev_in 40 10 hA (by kernel_rfl) (by simp)
    clear hA
    go_simp
    exact hK2 _ _ (Ext.refl _) (fun _ _ => rfl)
  · refine StepG.plain rfl ?_
    rintro u W A' hA hW ⟨h11, -⟩ K hK2
    simp only at h11
    have a41 := ev_in 41 11 hA (by kernel_rfl) (by simp)
    have q := hdc W hW
    clear hA
    go_simp
    exact hK2 _ _ (Ext.refl _) (fun _ _ => rfl)
  · refine StepG.plain rfl ?_
    rintro u W A' hA hW ⟨h7, h12, -⟩ K hK2
    simp only at h7 h12
    have a37 := ev_in 37 7 hA (by kernel_rfl) (by simp)
    have a42 := ev_in 42 12 hA (by kernel_rfl) (by simp)
    clear hA
    go_simp
    exact hK2 _ _ (Ext.refl _) (fun _ _ => rfl)
  · refine StepG.plain rfl ?_
    rintro u W A' hA hW ⟨h13, -⟩ K hK2
    simp only at h13
    have a43 := ev_in 43 13 hA (by kernel_rfl) (by simp)
    obtain ⟨q0, q1, q2⟩ := hkc W hW
    clear hA
    go_simp
    exact hK2 _ _ (Ext.refl _) (fun _ _ => rfl)
  · refine StepG.plain rfl ?_
    rintro u W A' hA hW - K hK2
    have a2 := ev_out 2 hA (by kernel_rfl) (by simp)
    clear hA
    go_simp
    exact hK2 _ _ (Ext.refl _) (fun _ _ => rfl)
  · refine StepG.plain rfl ?_
    rintro u W A' hA hW ⟨h4, h5, h14, h15, -⟩ K hK2
    simp only at h4 h5 h14 h15
    have a34 := ev_in 34 4 hA (by kernel_rfl) (by simp)
    have a35 := ev_in 35 5 hA (by kernel_rfl) (by simp)
    have a44 := ev_in 44 14 hA (by kernel_rfl) (by simp)
    have a45 := ev_in 45 15 hA (by kernel_rfl) (by simp)
    have hcl := htu W hW
    clear hA
    go_simp
    refine hcl.out.mono ?_
    rintro e W4 ⟨v, rfl, hO⟩
    exact hK2 _ _ hO.le (fun V hV => (OwX.low ⟨_, hW.trans hO.choose_spec.1, hO.choose_spec.2⟩ (fun _ _ _ h => h)).ext hV)
  · rintro u W hW ⟨-, -, -, h3', -, -, -, -, -, -, -, -, -, -, -, -, h16, -⟩
    simp only at h3' h16
    have hO1 := ow_one hW h3'
    have htl : (turnedF s k xs xs.length).length = xs.length := by rw [turnedF, List.length_map, List.length_range]
    have hh16 := h16.sl (by omega)
    obtain ⟨A1, c1, hl1, _, _, hsrc⟩ := hh16
    obtain ⟨A0, c0, hl0⟩ := hO1.len
    rw [hl0] at hO1
    rw [htl] at hl1
    have HTL := Lib.hid htl
    have hne : turnedF s k xs xs.length ≠ [] := by
      intro e
      rw [e] at htl
      simp at htl
      omega
    have hH : codeH s ks ds xs day k = iv :: turnedF s k xs xs.length := by rw [codeH, HIV.out]
    have HH := Lib.hid hH
    have hHb : ∀ x ∈ codeH s ks ds xs day k, 0 ≤ x ∧ x ≤ 1000 := by
      intro x hx
      rw [hH] at hx
      rcases List.mem_cons.1 hx with rfl | hx
      · omega
      · rw [turnedF] at hx
        obtain ⟨i, _, rfl⟩ := List.mem_map.1 hx
        have := codeF_bound s k (xs.getD i 0) i (by omega)
        omega
    have hHl : (codeH s ks ds xs day k).length = xs.length + 1 := by rw [hH, List.length_cons, htl]
    simp [puts, dstOf, Act.put]
    rw [hl0, hl1]
    have HO1 := Lib.hid hO1
    have HB4 := Lib.hid (hE0.trans HE3.out)
    have HSR := Lib.hid hsrc
    have HB' := Lib.hid hb'
    have hchk2 := fun (A2 : Option Addr) (c2 : Nat) (W : World) (h : SlA intK W A2 (codeH s ks ds xs day k)) => Lib.hid (check_44 s wd (codeH s ks ds xs day k) A2 c2 (.slice (some ⟨kb, ko, none⟩) ks.length kc) (.slice (some ⟨db, dof, none⟩) ds.length dc) W hs h (by omega) hHb rfl rfl)
    rw [hHl] at hchk2
    have HHL := Lib.hid hHl
    clear hin htu hkc hdc hb' hl0 hl1 hO1 h16 hW hsrc htl hH hHb hHl
    go_wp2_with (first
      | (at_builtin; refine appI A1 c1 _ _ rfl rfl rfl (by rw [HTL.out]; rfl) HO1.out HSR.out (by rw [HTL.out]; simp; omega) hne ?_; intro v5 W5 hO5 hg5; rw [List.singleton_append, ← HH.out] at hO5; obtain ⟨A5, c5, hv5⟩ := hO5.len; rw [HHL.out] at hv5; subst hv5; obtain ⟨b0, b1, b2, b3⟩ := HB'.out W5 hO5.1; obtain ⟨A6, c6, e6, _, _, hS6⟩ := hO5.sl (by rw [HHL.out]; omega); injection e6 with e6 e7 e8; subst e6; have hck5 := hchk2 A5 c5 W5 hS6; have HO5 := Lib.hid hO5; clear hO5 hg5 hS6 e7 e8)
      | (go_at_call 44; refine hck5.out.mono ?_; rintro e W6 ⟨rfl, hE6⟩; have HO6 := Lib.hid (HO5.out.ext hE6))
      | (at_builtin; refine app1 (k := intK) (sumF (codeH s ks ds xs day k) (xs.length + 1) % s) [.int .i64 (sumF (codeH s ks ds xs day k) (xs.length + 1) % s)] _ _ 26 (.int .i64 0) 8 rfl rfl Try.underlying26 inf3 rfl (by decide) (by decide) rfl rfl HO6.out rfl (by rw [HHL.out]; omega) ?_; intro v7 W7 hO7 hg7; have HO7 := Lib.hid hO7; clear hO7))
    go_ret2
    refine ⟨_, rfl, HB4.out.trans HO7.out.1, ?_⟩
    rw [codeL, HHL.out]
    exact HO7.out.sl (by rw [List.length_append, HHL.out]; simp; omega)
end Go.Proofs.Tp
/- Package cipher: Decode of what is false. -/
namespace Go.Proofs.Tp
open Go.RowKit Go.Proofs.Gr
set_option linter.unusedVariables false
set_option linter.unusedSimpArgs false
set_option maxRecDepth 100000
attribute [local go_sem] below_alloc' below_drewN' below_drew' below_set' Below.refl
set_option maxHeartbeats 4000000 in
theorem decode_20 (s wd : Int) (ks : List CKey) (ds xs : List Int) (KA DA A : Option Addr) (kc dc c day n : Nat) (w : World) (hs : 1 ≤ s ∧ s ≤ 1000) (hk : SlA ckeyK w KA ks) (hd : SlA intK w DA ds) (hx : SlA intK w A xs)
    (hk0 : 0 < ks.length) (hkl : ks.length ≤ 1000) (hdl : ds.length ≤ 100) (hck : checkF s wd ks ds = 0) (hday : day < ds.length) (hdb : ∀ d ∈ ds, 0 ≤ d ∧ d ≤ 1000)
    (hxl : xs.length = n + 1) (hn1 : 1 ≤ n) (hn2 : n ≤ 11) (hxc : xs.length ≤ c) (hxs : (xs.all fun x => inR x 0 (s - 1)) = true) (hfst : xs.getD 0 0 = (ds.getD day 0 + day) % (ks.length : Int)) (hlast : xs.getD n 0 ≠ sumF (xs.take n) n % s) :
    Calls Try.prog 20 #[.agg #[.int .i64 s, .int .i64 wd, .slice KA ks.length kc, .slice DA ds.length dc], .int .i64 day, .slice A xs.length c] w fun e w' => e = .returned (.tuple #[.slice none 0 0, .slice none 0 0, .int .i64 11]) ∧ Ext w w' := by
  rcases hx with hx | ⟨b, off, rfl, hxa⟩
  · rw [hx] at hxl; simp at hxl
  have hx : SlA intK w (some ⟨b, off, none⟩) xs := .inr ⟨b, off, rfl, hxa⟩
  obtain ⟨w0, hw0⟩ : ∃ w0, w0 = w.alloc (.cells #[.int .i64 s, .int .i64 wd, .slice KA ks.length kc, .slice DA ds.length dc] 49) := ⟨_, rfl⟩
  have hE0 : Ext w w0 := by rw [hw0]; exact e1 w _
  have hsz : w0.heap.size = w.heap.size + 1 := by rw [hw0]; simp
  have hb : ∀ W, Ext w0 W → W.cell? ⟨w.heap.size, 0, none⟩ = some (.int .i64 s) ∧ W.cell? ⟨w.heap.size, 1, none⟩ = some (.int .i64 wd) ∧ W.cell? ⟨w.heap.size, 2, none⟩ = some (.slice KA ks.length kc) ∧ W.cell? ⟨w.heap.size, 3, none⟩ = some (.slice DA ds.length dc) := fun W hW => by
    refine ⟨?_, ?_, ?_, ?_⟩ <;> (rw [hW.cell (by rw [hsz]; simp only []; omega), hw0]; simp [go_sem])
  have hxb : ∀ x ∈ xs, 0 ≤ x ∧ x ≤ 1000 := fun x hm => by
    have := List.all_eq_true.1 hxs x hm
    simp only [inR, Bool.and_eq_true, decide_eq_true_eq] at this
    omega
  have hchk := Lib.hid (check_37 s wd ks ds KA DA kc dc w0 (by omega) (hk.ext hE0) (hd.ext hE0) (by omega) (by omega))
  rw [hck] at hchk
  have hdy := fun (W : World) => Lib.hid (day_38 s wd day DA ds.length dc (.slice KA ks.length kc) W (by omega))
  rw [show inR (day : Int) 0 ((ds.length : Int) - 1) = true by simp [inR]; omega] at hdy
  have hax := fun (W : World) (e : Ext w0 W) => Lib.hid (all_int xs (fun x => inR x 0 (s - 1)) (some ⟨b, off, none⟩) c 40 #[.agg #[.int .i64 s, .int .i64 wd, .slice KA ks.length kc, .slice DA ds.length dc]] #[] W enters_40 (hx.ext (hE0.trans e)) (by omega)
    (fun x hm V hV => plain_40 s wd x _ _ V (by omega)))
  rw [hxs, hxl] at hax
  have hwi := fun (W : World) => Lib.hid (within_31 (n : Int) 1 11 W)
  rw [show inR (n : Int) 1 11 = true by simp [inR]; omega] at hwi
  obtain ⟨b0, b1, b2, b3⟩ := hb w0 (Ext.refl _)
  have hcell : ∀ j, j ≤ n → ∀ W, Ext w0 W → W.cell? ⟨b, off + j, none⟩ = some (.int .i64 (xs.getD j 0)) := fun j hj W h => by
    have hj' : j < xs.length := by omega
    obtain ⟨cs, hcs, hat⟩ := hxa j hj'
    have hcs' : cs = [.int .i64 xs[j]] := by simpa [intK, scalar] using hcs
    subst hcs'
    have := at1 hat (hE0.trans h)
    simp only [show intK.sz = 1 from rfl, Nat.mul_one] at this
    rw [this, List.getD_eq_getElem?_getD, List.getElem?_eq_getElem hj']
    rfl
  have hin := fun (W : World) (h : Ext w0 W) => Lib.hid (ind_41 s wd ds KA DA ks.length kc dc day W (hd.ext (hE0.trans h)) hdl hday hk0 hkl hdb)
  obtain ⟨iv, hiv⟩ : ∃ iv, iv = xs.getD 0 0 := ⟨_, rfl⟩
  rw [← hfst, ← hiv] at hin
  have hc0 := hcell 0 (by omega)
  rw [← hiv, Nat.add_zero] at hc0
  have hcn := hcell n (Nat.le_refl _)
  obtain ⟨lv, hlv⟩ : ∃ lv, lv = xs.getD n 0 := ⟨_, rfl⟩
  rw [← hlv] at hcn hlast
  have htl : (xs.take n).length = n := by rw [List.length_take]; omega
  have hck2 := fun (W : World) (h : Ext w0 W) => Lib.hid (check_44 s wd (xs.take n) (some ⟨b, off, none⟩) c (.slice KA ks.length kc) (.slice DA ds.length dc) W hs (take_sl (hx.ext (hE0.trans h)) n) (by omega) (fun x hm => hxb x (List.mem_of_mem_take hm)) rfl rfl)
  rw [htl] at hck2
  obtain ⟨sv, hsv⟩ : ∃ sv, sv = sumF (xs.take n) n % s := ⟨_, rfl⟩
  rw [← hsv] at hck2 hlast
  have hne : (lv != sv) = true := by simpa using hlast
  have hnc : (n : Int) ≤ (c : Int) := by omega
  have HB := Lib.hid hb
  have HC0 := Lib.hid hc0
  have HCN := Lib.hid hcn
  rw [hxl]
  clear hb hsz hck hcell hxa hk hd hx hxb hiv hlv hsv htl hfst hlast hc0 hcn hxs
  go_enter Try.func20, Try.ntmps20
  go_upto_region 1 with fail
  rw [← hw0]
  clear hw0
  go_upto_region 9 with (first
    | (go_at_call 37; refine hchk.out.mono ?_; rintro e W1 ⟨rfl, hE1⟩; have HE1 := Lib.hid hE1; obtain ⟨c0, c1, c2, c3⟩ := HB.out W1 hE1)
    | (go_at_call 38; refine (hdy _).out.mono ?_; rintro e W2 ⟨rfl, hE2⟩; have HE2 := Lib.hid (HE1.out.trans hE2); obtain ⟨d0, d1, d2, d3⟩ := HB.out W2 HE2.out; have hax2 := hax W2 HE2.out)
    | (go_at_call 31; refine (hwi _).out.mono ?_; rintro e W9 ⟨rfl, rfl⟩)
    | (go_at_call 39; refine hax2.out.mono ?_; rintro e W3 ⟨rfl, hE3⟩; have HE3 := Lib.hid (HE2.out.trans hE3)))
  have hb' := fun (W : World) (h : Ext W3 W) => HB.out W (HE3.out.trans h)
  have hc0' := fun (W : World) (h : Ext W3 W) => HC0.out W (HE3.out.trans h)
  have hin' := fun (W : World) (h : Ext W3 W) => hin W (HE3.out.trans h)
  clear b0 b1 b2 b3 c0 c1 c2 c3 d0 d1 d2 d3 hchk hdy hax hax2 hwi hE1 hE2 hE3 hin
  refine region_lit 7 Ext (fun i v W => match i with | 0 => v = .slice (some ⟨b, off, none⟩) (n + 1) c | 1 => v = .pointer (some ⟨b, off, none⟩) | 2 => v = .int .i64 iv | 3 => v = .agg #[.int .i64 s, .int .i64 wd, .slice KA ks.length kc, .slice DA ds.length dc] | 4 => v = .int .i64 (day : Int) | 5 => v = .int .i64 iv | 6 => v = .bool false | _ => True) (by kernel_rfl) (by kernel_rfl) Ext.refl Ext.trans (Ext.dr (Ext.refl _) 1) ⟨?_, ?_, ?_, ?_, ?_, ?_, ?_, trivial⟩ ?_
  · refine StepG.plain rfl ?_
    rintro u W A' hA hW - K hK
    have a2 := ev_out 2 hA (by kernel_rfl) (by simp)
    clear hA
    go_simp
    exact hK _ _ (Ext.refl _) (fun _ _ => rfl)
  · refine StepG.plain rfl ?_
    rintro u W A' hA hW ⟨h0, -⟩ K hK
    simp only at h0
    have a36 := ev_in 36 0 hA (by kernel_rfl) (by simp)
    clear hA
    go_simp
    exact hK _ _ (Ext.refl _) (fun _ _ => rfl)
  · refine StepG.plain rfl ?_
    rintro u W A' hA hW ⟨h1, -⟩ K hK
    simp only at h1
    have a37 := ev_in 37 1 hA (by kernel_rfl) (by simp)
    have q := hc0' W hW
    clear hA
    go_simp
    exact hK _ _ (Ext.refl _) (fun _ _ => rfl)
  · refine StepG.plain rfl ?_
    rintro u W A' hA hW - K hK
    have a3 := ev_out 3 hA (by kernel_rfl) (by simp)
    obtain ⟨b0, b1, b2, b3⟩ := hb' W hW
    clear hA
    go_simp
    exact hK _ _ (Ext.refl _) (fun _ _ => rfl)
  · refine StepG.plain rfl ?_
    rintro u W A' hA hW - K hK
    have a1 := ev_out 1 hA (by kernel_rfl) (by simp)
    clear hA
    go_simp
    exact hK _ _ (Ext.refl _) (fun _ _ => rfl)
  · refine StepG.plain rfl ?_
    rintro u W A' hA hW ⟨h3, h4, -⟩ K hK
    simp only at h3 h4
    have a39 := ev_in 39 3 hA (by kernel_rfl) (by simp)
    have a40 := ev_in 40 4 hA (by kernel_rfl) (by simp)
    have hcl := hin' W hW
    clear hA
    go_simp
    refine hcl.out.mono ?_
    rintro e W4 ⟨rfl, hE4⟩
    exact hK _ _ hE4 (fun _ _ => rfl)
  · refine StepG.plain rfl ?_
    rintro u W A' hA hW ⟨h2, h5, -⟩ K hK
    simp only at h2 h5
    have a38 := ev_in 38 2 hA (by kernel_rfl) (by simp)
    have a41 := ev_in 41 5 hA (by kernel_rfl) (by simp)
    clear hA
    go_simp
    exact hK _ _ (Ext.refl _) (fun _ _ => rfl)
  · rintro u W hW ⟨-, -, -, -, -, -, h6, -⟩
    simp only at h6
    simp [puts, dstOf, Act.put]
    rw [h6]
    have HE4 := Lib.hid (HE3.out.trans hW)
    have hb'' := fun (V : World) (h : Ext W V) => HB.out V (HE4.out.trans h)
    have hcn' := fun (V : World) (h : Ext W V) => HCN.out V (HE4.out.trans h)
    have hck3 := fun (V : World) (h : Ext W V) => hck2 V (HE4.out.trans h)
    clear hb' hc0' hin' hW hck2
    go_upto_region 11 with fail
    refine region_lit 10 Ext (fun i v W' => match i with | 0 => v = .slice (some ⟨b, off, none⟩) (n + 1) c | 1 => v = .int .i64 (n : Int) | 2 => v = .pointer (some ⟨b, off + n, none⟩) | 3 => v = .int .i64 lv | 4 => v = .agg #[.int .i64 s, .int .i64 wd, .slice KA ks.length kc, .slice DA ds.length dc] | 5 => v = .slice (some ⟨b, off, none⟩) (n + 1) c | 6 => v = .int .i64 (n : Int) | 7 => v = .slice (some ⟨b, off, none⟩) n c | 8 => v = .int .i64 sv | 9 => v = .bool true | _ => True) (by kernel_rfl) (by kernel_rfl) Ext.refl Ext.trans (Ext.dr (Ext.refl _) 1) ⟨?_, ?_, ?_, ?_, ?_, ?_, ?_, ?_, ?_, ?_, trivial⟩ ?_
    · refine StepG.plain rfl ?_
      rintro u W' A' hA hW2 - K hK
      have a2 := ev_out 2 hA (by kernel_rfl) (by simp)
      clear hA
      go_simp
      exact hK _ _ (Ext.refl _) (fun _ _ => rfl)
    · refine StepG.plain rfl ?_
      rintro u W' A' hA hW2 - K hK
      have a10 := ev_out 10 hA (by kernel_rfl) (by simp)
      clear hA
      go_simp
      exact hK _ _ (Ext.refl _) (fun _ _ => rfl)
    · refine StepG.plain rfl ?_
      rintro u W' A' hA hW2 ⟨h0, h1, -⟩ K hK
      simp only at h0 h1
      have a44 := ev_in 44 0 hA (by kernel_rfl) (by simp)
      have a45 := ev_in 45 1 hA (by kernel_rfl) (by simp)
      clear hA
      go_simp
      rw [if_pos (by omega)]
      exact hK _ _ (Ext.refl _) (fun _ _ => rfl)
    · refine StepG.plain rfl ?_
      rintro u W' A' hA hW2 ⟨h2, -⟩ K hK
      simp only at h2
      have a46 := ev_in 46 2 hA (by kernel_rfl) (by simp)
      have q := hcn' W' hW2
      clear hA
      go_simp
      exact hK _ _ (Ext.refl _) (fun _ _ => rfl)
    · refine StepG.plain rfl ?_
      rintro u W' A' hA hW2 - K hK
      have a3 := ev_out 3 hA (by kernel_rfl) (by simp)
      obtain ⟨b0, b1, b2, b3⟩ := hb'' W' hW2
      clear hA
      go_simp
      exact hK _ _ (Ext.refl _) (fun _ _ => rfl)
    · refine StepG.plain rfl ?_
      rintro u W' A' hA hW2 - K hK
      have a2 := ev_out 2 hA (by kernel_rfl) (by simp)
      clear hA
      go_simp
      exact hK _ _ (Ext.refl _) (fun _ _ => rfl)
    · refine StepG.plain rfl ?_
      rintro u W' A' hA hW2 - K hK
      have a10 := ev_out 10 hA (by kernel_rfl) (by simp)
      clear hA
      go_simp
      exact hK _ _ (Ext.refl _) (fun _ _ => rfl)
    · refine StepG.plain rfl ?_
      rintro u W' A' hA hW2 ⟨h5, h6, -⟩ K hK
      simp only at h5 h6
      have a49 := ev_in 49 5 hA (by kernel_rfl) (by simp)
      have a50 := ev_in 50 6 hA (by kernel_rfl) (by simp)
      clear hA
      go_simp
      exact hK _ _ (Ext.refl _) (fun _ _ => rfl)
    · refine StepG.plain rfl ?_
      rintro u W' A' hA hW2 ⟨h4, h7, -⟩ K hK
      simp only at h4 h7
      have a48 := ev_in 48 4 hA (by kernel_rfl) (by simp)
      have a51 := ev_in 51 7 hA (by kernel_rfl) (by simp)
      have hcl := hck3 W' hW2
      clear hA
      go_simp
      refine hcl.out.mono ?_
      rintro e W4 ⟨rfl, hE4⟩
      exact hK _ _ hE4 (fun _ _ => rfl)
    · refine StepG.plain rfl ?_
      rintro u W' A' hA hW2 ⟨h3, h8, -⟩ K hK
      simp only at h3 h8
      have a47 := ev_in 47 3 hA (by kernel_rfl) (by simp)
      have a52 := ev_in 52 8 hA (by kernel_rfl) (by simp)
      clear hA
      go_simp
      exact hK _ _ (Ext.refl _) (fun _ _ => rfl)
    · rintro u W' hW2 ⟨-, -, -, -, -, -, -, -, -, h9, -⟩
      simp only at h9
      simp [puts, dstOf, Act.put]
      rw [h9]
      have HE5 := Lib.hid (hE0.trans (HE4.out.trans hW2))
      clear hb'' hcn' hck3 hW2
      go_wp2_with fail
      go_ret3
      exact ⟨rfl, HE5.out⟩
    
end Go.Proofs.Tp
