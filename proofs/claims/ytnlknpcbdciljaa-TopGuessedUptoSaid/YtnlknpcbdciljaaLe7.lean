import Derived.Test.YtnlknpcbdciljaaLe6
/- The statement's own function. -/
namespace Go.Proofs.Tp
open Go.RowKit Go.Proofs.Gr
set_option linter.unusedVariables false
set_option linter.unusedSimpArgs false
set_option maxRecDepth 100000
attribute [local go_sem] below_alloc' below_drewN' below_drew' below_set' Below.refl
def GP2 (xs : List Int) (v : Value) (W : World) : Prop := ∃ gs, Sl guessK W v gs ∧ GsOk xs gs
def GPT (s : Int) (k : CKey) (xs : List Int) (v : Value) (W : World) : Prop := ∃ v1 v2, v = .tuple #[v1, v2] ∧ Sl intK W v1 (turnedF s k xs xs.length) ∧ GP2 xs v2 W
theorem GP2.ext {xs : List Int} {v : Value} {W V : World} (h : GP2 xs v W) (e : Ext W V) : GP2 xs v V := let ⟨gs, h1, h2⟩ := h; ⟨gs, h1.ext e, h2⟩
theorem GPT.ext {s : Int} {k : CKey} {xs : List Int} {v : Value} {W V : World} (h : GPT s k xs v W) (e : Ext W V) : GPT s k xs v V := let ⟨v1, v2, h1, h2, h3⟩ := h; ⟨v1, v2, h1, h2.ext e, h3.ext e⟩
def CP (s num : Int) (v : Value) (W : World) : Prop := ∃ ns, Sl intK W v ns ∧ (∀ x ∈ ns, 0 ≤ x ∧ x < s) ∧ num ∈ ns ∧ ns.length ≤ 1048576
def CPT (s num : Int) (v : Value) (W : World) : Prop := ∃ v1, v = .tuple #[v1, .bool true] ∧ CP s num v1 W
def Imp (r : Int) (p : Prop) : Prop := r = 0 → p
theorem Imp.mk {r : Int} {p : Prop} (h : r = 0 → p) : Imp r p := h
theorem Imp.out {p : Prop} (h : Imp 0 p) : p := h rfl
theorem CP.ext {s num : Int} {v : Value} {W V : World} (h : CP s num v W) (e : Ext W V) : CP s num v V := let ⟨ns, h1, h2⟩ := h; ⟨ns, h1.ext e, h2⟩
theorem CPT.ext {s num : Int} {v : Value} {W V : World} (h : CPT s num v W) (e : Ext W V) : CPT s num v V := let ⟨v1, h1, h2⟩ := h; ⟨v1, h1, h2.ext e⟩
theorem zero_or (r : Int) : r = 0 ∨ (r != 0) = true := by
  by_cases h : r = 0
  · exact .inl h
  · exact .inr (by simpa using h)
theorem OwI.set {w0 W : World} {xs : List Int} {g c : Nat} (h : Ow intK 3 w0 W (.slice (some ⟨g, 0, none⟩) xs.length c) xs) (hg : w0.heap.size ≤ g) (j : Nat) (u : Int) : Ow intK 3 w0 (W.setCell ⟨g, j, none⟩ (.int .i64 u)) (.slice (some ⟨g, 0, none⟩) xs.length c) (xs.set j u) := by
  refine OwI.of (ext_set h.1 hg _) ?_
  rw [List.length_set, List.map_set]
  exact ((OwI.cells h).stored j _).1
theorem OwI.form {w0 W : World} {v : Value} {xs : List Int} (h : Ow intK 3 w0 W v xs) (h0 : 0 < xs.length) : ∃ g c, v = .slice (some ⟨g, 0, none⟩) xs.length c ∧ w0.heap.size ≤ g := by
  obtain ⟨_, h1 | ⟨g, cap, cur, hv, hb, _⟩⟩ := OwI.cells h
  · have := h1.2; omega
  · exact ⟨g, cap, hv, hb⟩
theorem code_bound (s : Int) (k : CKey) (n a : Int) (hs : 1 ≤ s) : 0 ≤ codeF s k n a ∧ codeF s k n a < s := by
  unfold codeF
  exact ⟨Int.emod_nonneg _ (by omega), Int.emod_lt_of_pos _ (by omega)⟩
set_option maxHeartbeats 16000000 in
theorem top_3 (ls : List ByteArray) (LA : Option Addr) (lc : Nat) (s wd : Int) (ks : List CKey) (ds xs : List Int) (KA DA XA WA : Option Addr) (kc dc xc wc : Nat) (ws : List Nat) (wh at_ er bits : Nat) (w : World)
    (hL : SlA strK w LA ls) (hk : SlA ckeyK w KA ks) (hd : SlA intK w DA ds) (hx : SlA intK w XA xs) (hw : SlA u16K w WA ws) (hll : ls.length ≤ 1048576) (hlz : ∀ x ∈ ls, x.size ≤ 1048576) (hlc : ls.length ≤ lc) (hkl : ks.length ≤ 1048576) (hdl : ds.length ≤ 1048576) (hxl : xs.length ≤ 1048576) (hwl : ws.length ≤ 1048576)
    (hwh : wh < 256) (hat : at_ < 256) (her : er < 256) (hbits : bits < 65536) :
    Calls Try.prog 3 #[.agg #[.slice LA ls.length lc], .agg #[.int .i64 s, .int .i64 wd, .slice KA ks.length kc, .slice DA ds.length dc], .slice XA xs.length xc, .slice WA ws.length wc, .int .u8 wh, .int .u8 at_, .int .u8 er, .int .u16 bits] w fun e w' => e = .returned (.bool true) ∧ Ext w w' := by
  obtain ⟨w0, hw0⟩ : ∃ w0, w0 = (w.alloc (.cells #[.slice LA ls.length lc] 24)).alloc (.cells #[.int .i64 s, .int .i64 wd, .slice KA ks.length kc, .slice DA ds.length dc] 28) := ⟨_, rfl⟩
  have hE0 : Ext w w0 := by rw [hw0]; exact e2 w _ _
  have hsz : w0.heap.size = w.heap.size + 1 + 1 := by rw [hw0]; simp
  have hb : ∀ W, Ext w0 W → W.cell? ⟨w.heap.size, 0, none⟩ = some (.slice LA ls.length lc) ∧ W.cell? ⟨w.heap.size + 1, 0, none⟩ = some (.int .i64 s) ∧ W.cell? ⟨w.heap.size + 1, 1, none⟩ = some (.int .i64 wd) ∧ W.cell? ⟨w.heap.size + 1, 2, none⟩ = some (.slice KA ks.length kc) ∧ W.cell? ⟨w.heap.size + 1, 3, none⟩ = some (.slice DA ds.length dc) := fun W hW => by
    refine ⟨?_, ?_, ?_, ?_, ?_⟩ <;> (rw [hW.cell (by rw [hsz]; simp only []; omega), hw0]; simp [go_sem])
  have HB := Lib.hid hb
  have hth := Lib.hid (thin_4 ls LA lc ⟨#[]⟩ w0 (hL.ext hE0) hll hlz (by decide))
  have hfa := fun (W : World) (e : Ext w0 W) => Lib.hid (fault_5 ls LA lc W (hL.ext (hE0.trans e)) hll hlz)
  have hth6 := fun (W : World) => Lib.hid (thin_6 s wd KA DA ks.length kc ds.length dc W hkl hdl)
  have hbf := fun (W : World) (e : Ext w0 W) => Lib.hid (bfault_any s wd ks ds KA DA kc dc W (hk.ext (hE0.trans e)) (hd.ext (hE0.trans e)) hkl hdl)
  have hpl := fun (W : World) (e : Ext w0 W) (hv : Valid s wd ks ds) => Lib.hid (plainL_8 s wd xs XA xc (.slice KA ks.length kc) (.slice DA ds.length dc) W (by have := prime_cases hv.prime; omega) rfl rfl (hx.ext (hE0.trans e)) hxl)
  obtain ⟨b0, b1, b2, b3, b4⟩ := hb w0 (Ext.refl _)
  have HL := Lib.hid hL
  have HK := Lib.hid hk
  have HD := Lib.hid hd
  have HX := Lib.hid hx
  have HW := Lib.hid hw
  have HE0 := Lib.hid hE0
  have HLZ := Lib.hid hlz
  have HEc := Lib.hid (Ext.refl w0)
  obtain ⟨pl, hpl2⟩ : ∃ pl : Bool, pl = xs.all fun x => inR x 0 (s - 1) := ⟨_, rfl⟩
  rw [← hpl2] at hpl
  have HPL := Lib.hid hpl2
  clear hL hk hd hx hw hb hE0 hlz hpl2 hsz
  by_cases h10 : 10 < xs.length
  · have h10' : decide ((10 : Int) < (xs.length : Int)) = true := by simp; omega
    have h10n : (10 : Int) < (xs.length : Int) := by omega
    go_enter Try.func3, Try.ntmps3
    go_upto_region 1 with fail
    rw [← hw0]
    clear hw0
    go_upto_region 3 with (first
      | (go_at_call 4; refine hth.out.mono ?_; rintro e W1 ⟨⟨r1, rfl⟩, hE⟩; have HEc := Lib.hid (HEc.out.trans hE); obtain ⟨b0, b1, b2, b3, b4⟩ := HB.out W1 HEc.out; have hfa1 := hfa W1 HEc.out; clear hE; cases r1)
      | (go_at_call 5; refine hfa1.out.mono ?_; rintro e W1 ⟨⟨r2, rfl, hF⟩, hE⟩; have HEc := Lib.hid (HEc.out.trans hE); obtain ⟨b0, b1, b2, b3, b4⟩ := HB.out W1 HEc.out; clear hE; have HFF := Lib.hid (Imp.mk hF); clear hF; rcases zero_or r2 with rfl | e2')
      | (go_at_call 6; refine (hth6 _).out.mono ?_; rintro e W1 ⟨rfl, hE⟩; have HEc := Lib.hid (HEc.out.trans hE); obtain ⟨b0, b1, b2, b3, b4⟩ := HB.out W1 HEc.out; have hbf1 := hbf W1 HEc.out; clear hE; cases hth6b : thinF ks.length ds.length)
      | (go_at_call 7; refine hbf1.out.mono ?_; rintro e W1 ⟨⟨r4, rfl, hV⟩, hE⟩; have HEc := Lib.hid (HEc.out.trans hE); obtain ⟨b0, b1, b2, b3, b4⟩ := HB.out W1 HEc.out; clear hE; have HVV := Lib.hid (Imp.mk hV); clear hV; rcases zero_or r4 with rfl | e4')
      | (go_at_call 8; refine (hpl _ HEc.out HVV.out.out).out.mono ?_; rintro e W1 ⟨rfl, hE⟩; have HEc := Lib.hid (HEc.out.trans hE); obtain ⟨b0, b1, b2, b3, b4⟩ := HB.out W1 HEc.out; clear hE; cases pl)
      | (go_at_call 9; refine (coded_9 _).mono ?_; rintro e W1 ⟨rfl, hE⟩; have HEc := Lib.hid (HEc.out.trans hE); clear hE))
    all_goals (first | (refine wp_ret_end ?_; go_ret; exact ⟨rfl, HE0.out.trans HEc.out⟩) | (go_ret; exact ⟨rfl, HE0.out.trans HEc.out⟩) | skip)
  have h10' : decide ((10 : Int) < (xs.length : Int)) = false := by simp; omega
  have h10n : ¬ (10 : Int) < (xs.length : Int) := by omega
  by_cases h00 : xs.length = 0
  · have h00' : ((xs.length : Int) == 0) = true := by rw [beq_iff_eq]; omega
    have h00n : (xs.length : Int) = 0 := by omega
    go_enter Try.func3, Try.ntmps3
    go_upto_region 1 with fail
    rw [← hw0]
    clear hw0
    go_upto_region 3 with (first
      | (go_at_call 4; refine hth.out.mono ?_; rintro e W1 ⟨⟨r1, rfl⟩, hE⟩; have HEc := Lib.hid (HEc.out.trans hE); obtain ⟨b0, b1, b2, b3, b4⟩ := HB.out W1 HEc.out; have hfa1 := hfa W1 HEc.out; clear hE; cases r1)
      | (go_at_call 5; refine hfa1.out.mono ?_; rintro e W1 ⟨⟨r2, rfl, hF⟩, hE⟩; have HEc := Lib.hid (HEc.out.trans hE); obtain ⟨b0, b1, b2, b3, b4⟩ := HB.out W1 HEc.out; clear hE; have HFF := Lib.hid (Imp.mk hF); clear hF; rcases zero_or r2 with rfl | e2')
      | (go_at_call 6; refine (hth6 _).out.mono ?_; rintro e W1 ⟨rfl, hE⟩; have HEc := Lib.hid (HEc.out.trans hE); obtain ⟨b0, b1, b2, b3, b4⟩ := HB.out W1 HEc.out; have hbf1 := hbf W1 HEc.out; clear hE; cases hth6b : thinF ks.length ds.length)
      | (go_at_call 7; refine hbf1.out.mono ?_; rintro e W1 ⟨⟨r4, rfl, hV⟩, hE⟩; have HEc := Lib.hid (HEc.out.trans hE); obtain ⟨b0, b1, b2, b3, b4⟩ := HB.out W1 HEc.out; clear hE; have HVV := Lib.hid (Imp.mk hV); clear hV; rcases zero_or r4 with rfl | e4')
      | (go_at_call 8; refine (hpl _ HEc.out HVV.out.out).out.mono ?_; rintro e W1 ⟨rfl, hE⟩; have HEc := Lib.hid (HEc.out.trans hE); obtain ⟨b0, b1, b2, b3, b4⟩ := HB.out W1 HEc.out; clear hE; cases pl)
      | (go_at_call 9; refine (coded_9 _).mono ?_; rintro e W1 ⟨rfl, hE⟩; have HEc := Lib.hid (HEc.out.trans hE); clear hE))
    all_goals (first | (refine wp_ret_end ?_; go_ret; exact ⟨rfl, HE0.out.trans HEc.out⟩) | (go_ret; exact ⟨rfl, HE0.out.trans HEc.out⟩) | skip)
  have h00' : ((xs.length : Int) == 0) = false := by rw [beq_eq_false_iff_ne]; omega
  have h00n : ¬ (xs.length : Int) = 0 := by omega
  by_cases h33 : ls.length < 3
  · have h33' : decide ((ls.length : Int) < 3) = true := by simp; omega
    have h33n : (ls.length : Int) < 3 := by omega
    go_enter Try.func3, Try.ntmps3
    go_upto_region 1 with fail
    rw [← hw0]
    clear hw0
    go_upto_region 3 with (first
      | (go_at_call 4; refine hth.out.mono ?_; rintro e W1 ⟨⟨r1, rfl⟩, hE⟩; have HEc := Lib.hid (HEc.out.trans hE); obtain ⟨b0, b1, b2, b3, b4⟩ := HB.out W1 HEc.out; have hfa1 := hfa W1 HEc.out; clear hE; cases r1)
      | (go_at_call 5; refine hfa1.out.mono ?_; rintro e W1 ⟨⟨r2, rfl, hF⟩, hE⟩; have HEc := Lib.hid (HEc.out.trans hE); obtain ⟨b0, b1, b2, b3, b4⟩ := HB.out W1 HEc.out; clear hE; have HFF := Lib.hid (Imp.mk hF); clear hF; rcases zero_or r2 with rfl | e2')
      | (go_at_call 6; refine (hth6 _).out.mono ?_; rintro e W1 ⟨rfl, hE⟩; have HEc := Lib.hid (HEc.out.trans hE); obtain ⟨b0, b1, b2, b3, b4⟩ := HB.out W1 HEc.out; have hbf1 := hbf W1 HEc.out; clear hE; cases hth6b : thinF ks.length ds.length)
      | (go_at_call 7; refine hbf1.out.mono ?_; rintro e W1 ⟨⟨r4, rfl, hV⟩, hE⟩; have HEc := Lib.hid (HEc.out.trans hE); obtain ⟨b0, b1, b2, b3, b4⟩ := HB.out W1 HEc.out; clear hE; have HVV := Lib.hid (Imp.mk hV); clear hV; rcases zero_or r4 with rfl | e4')
      | (go_at_call 8; refine (hpl _ HEc.out HVV.out.out).out.mono ?_; rintro e W1 ⟨rfl, hE⟩; have HEc := Lib.hid (HEc.out.trans hE); obtain ⟨b0, b1, b2, b3, b4⟩ := HB.out W1 HEc.out; clear hE; cases pl)
      | (go_at_call 9; refine (coded_9 _).mono ?_; rintro e W1 ⟨rfl, hE⟩; have HEc := Lib.hid (HEc.out.trans hE); clear hE))
    all_goals (first | (refine wp_ret_end ?_; go_ret; exact ⟨rfl, HE0.out.trans HEc.out⟩) | (go_ret; exact ⟨rfl, HE0.out.trans HEc.out⟩) | skip)
  have h33' : decide ((ls.length : Int) < 3) = false := by simp; omega
  have h33n : ¬ (ls.length : Int) < 3 := by omega
  go_enter Try.func3, Try.ntmps3
  go_upto_region 1 with fail
  rw [← hw0]
  clear hw0
  go_upto_region 3 with (first
    | (go_at_call 4; refine hth.out.mono ?_; rintro e W1 ⟨⟨r1, rfl⟩, hE⟩; have HEc := Lib.hid (HEc.out.trans hE); obtain ⟨b0, b1, b2, b3, b4⟩ := HB.out W1 HEc.out; have hfa1 := hfa W1 HEc.out; clear hE; cases r1)
    | (go_at_call 5; refine hfa1.out.mono ?_; rintro e W1 ⟨⟨r2, rfl, hF⟩, hE⟩; have HEc := Lib.hid (HEc.out.trans hE); obtain ⟨b0, b1, b2, b3, b4⟩ := HB.out W1 HEc.out; clear hE; have HFF := Lib.hid (Imp.mk hF); clear hF; rcases zero_or r2 with rfl | e2')
    | (go_at_call 6; refine (hth6 _).out.mono ?_; rintro e W1 ⟨rfl, hE⟩; have HEc := Lib.hid (HEc.out.trans hE); obtain ⟨b0, b1, b2, b3, b4⟩ := HB.out W1 HEc.out; have hbf1 := hbf W1 HEc.out; clear hE; cases hth6b : thinF ks.length ds.length)
    | (go_at_call 7; refine hbf1.out.mono ?_; rintro e W1 ⟨⟨r4, rfl, hV⟩, hE⟩; have HEc := Lib.hid (HEc.out.trans hE); obtain ⟨b0, b1, b2, b3, b4⟩ := HB.out W1 HEc.out; clear hE; have HVV := Lib.hid (Imp.mk hV); clear hV; rcases zero_or r4 with rfl | e4')
    | (go_at_call 8; refine (hpl _ HEc.out HVV.out.out).out.mono ?_; rintro e W1 ⟨rfl, hE⟩; have HEc := Lib.hid (HEc.out.trans hE); obtain ⟨b0, b1, b2, b3, b4⟩ := HB.out W1 HEc.out; clear hE; cases pl)
    | (go_at_call 9; refine (coded_9 _).mono ?_; rintro e W1 ⟨rfl, hE⟩; have HEc := Lib.hid (HEc.out.trans hE); clear hE))
  all_goals (first | (refine wp_ret_end ?_; go_ret; exact ⟨rfl, HE0.out.trans HEc.out⟩) | (go_ret; exact ⟨rfl, HE0.out.trans HEc.out⟩) | skip)
  have hv := HVV.out.out
  have hF := HFF.out.out
  have hpr := hv.prime
  have hsr := prime_cases hpr
  obtain ⟨sn, rfl⟩ : ∃ sn : Nat, s = (sn : Int) := ⟨s.toNat, by omega⟩
  have hsn : 13 ≤ sn ∧ sn ≤ 41 := by omega
  have hk := HK.out
  have hklo := hv.klo
  have hkhi := hv.khi
  have hdlo := hv.dlo
  have hdhi := hv.dhi
  rcases hk with hk | ⟨kb, ko, rfl, hks⟩
  · rw [hk] at hklo; exact absurd hklo (Nat.not_lt_zero _)
  rcases HX.out with hx0 | ⟨xb, xo, rfl, hxat⟩
  · rw [hx0] at h00; exact absurd rfl h00
  have HXAT := Lib.hid (show ∀ (j : Nat) (h : j < xs.length) (V : World), Ext w V → V.cell? ⟨xb, xo + j, none⟩ = some (.int .i64 xs[j]) from fun j h V hV => by
    obtain ⟨cs, hcs, hat⟩ := hxat j h
    have hcs' : cs = [.int .i64 xs[j]] := by simpa [intK, scalar] using hcs
    subst hcs'
    simp only [show intK.sz = 1 from rfl, Nat.mul_one] at hat
    exact at1 hat hV)
  clear hxat
  obtain ⟨k, hke⟩ : ∃ k, k = ks[0] := ⟨_, rfl⟩
  have hkk : keyB (sn : Int) k = true := by rw [hke]; exact List.all_eq_true.1 hv.key _ (List.getElem_mem hklo)
  have hkb := vk_bound hkk
  have HKK := Lib.hid hkk
  have HPR := Lib.hid hpr
  have HCK := Lib.hid (valid_check hv)
  have hxs : (xs.all fun x => inR x 0 ((sn : Int) - 1)) = true := HPL.out.symm
  have HXS := Lib.hid hxs
  have hxb : ∀ x ∈ xs, 0 ≤ x ∧ x ≤ 1000 := fun x hm => by
    have := List.all_eq_true.1 hxs x hm
    simp only [inR, Bool.and_eq_true, decide_eq_true_eq] at this
    omega
  have HE1 := Lib.hid (HE0.out.trans HEc.out)
  have hbb := fun (W : World) (h : Ext W1 W) => HB.out W (HEc.out.trans h)
  have hkc : ∀ W, Ext W1 W → W.cell? ⟨kb, ko, none⟩ = some (.int .i64 k.mul) ∧ W.cell? ⟨kb, ko + 1, none⟩ = some (.int .i64 k.add) ∧ W.cell? ⟨kb, ko + 2, none⟩ = some (.int .i64 k.step) := fun W h => by
    obtain ⟨cs, hcs, hat⟩ := hks 0 hklo
    rw [← hke] at hcs
    have hcs' : cs = [.int .i64 k.mul, .int .i64 k.add, .int .i64 k.step] := hcs
    subst hcs'
    rw [Nat.zero_mul, Nat.add_zero] at hat
    exact at3 hat (HE1.out.trans h)
  have hgu := fun (W : World) (h : Ext W1 W) => Lib.hid (guessed_10 (sn : Int) wd k xs (.slice (some ⟨kb, ko, none⟩) ks.length kc) (.slice DA ds.length dc) (some ⟨xb, xo, none⟩) xc bits W (by omega) (by omega) (by omega) (by omega) (by omega) hbits hxb rfl rfl (HX.out.ext (HE1.out.trans h)))
  have hk0 : (0 : Int) < (ks.length : Int) := by omega
  clear hv hF hpr hsr hks hke hkk hxs hth hfa hth6 hbf hpl hfa1 hbf1 hkb b0 b1 b2 b3 b4 HVV HPL
  refine region_lit 12 Ext (fun i v W => match i with | 0 => v = .agg #[.int .i64 (sn : Int), .int .i64 wd, .slice (some ⟨kb, ko, none⟩) ks.length kc, .slice DA ds.length dc] | 1 => v = .pointer (some ⟨w.heap.size + 1, 2, none⟩) | 2 => v = .slice (some ⟨kb, ko, none⟩) ks.length kc | 3 => v = .pointer (some ⟨kb, ko, none⟩) | 4 => v = .agg #[.int .i64 k.mul, .int .i64 k.add, .int .i64 k.step] | 5 => v = .slice (some ⟨xb, xo, none⟩) xs.length xc | 6 => v = .int .u16 (bits : Int) | 7 => GPT (sn : Int) k xs v W | 8 => GPT (sn : Int) k xs v W | 9 => Sl intK W v (turnedF (sn : Int) k xs xs.length) | 10 => GP2 xs v W | 11 => Sl intK W v (turnedF (sn : Int) k xs xs.length) | _ => True) (by kernel_rfl) (by kernel_rfl) Ext.refl Ext.trans (Ext.dr (Ext.refl _) 1) ⟨?_, ?_, ?_, ?_, ?_, ?_, ?_, ?_, ?_, ?_, ?_, ?_, trivial⟩ ?_
  · refine StepG.plain rfl ?_
    rintro u W A' hA hW - K hK
    have a9 := ev_out 9 hA (by kernel_rfl) (by simp)
    obtain ⟨b0, b1, b2, b3, b4⟩ := hbb W hW
    clear hA
    go_simp
    exact hK _ _ (Ext.refl _) (fun _ _ => rfl)
  · refine StepG.plain rfl ?_
    rintro u W A' hA hW - K hK
    have a9 := ev_out 9 hA (by kernel_rfl) (by simp)
    clear hA
    go_simp
    exact hK _ _ (Ext.refl _) (fun _ _ => rfl)
  · refine StepG.plain rfl ?_
    rintro u W A' hA hW ⟨h1, -⟩ K hK
    simp only at h1
    have a72 := ev_in 72 1 hA (by kernel_rfl) (by simp)
    obtain ⟨b0, b1, b2, b3, b4⟩ := hbb W hW
    clear hA
    go_simp
    exact hK _ _ (Ext.refl _) (fun _ _ => rfl)
  · refine StepG.plain rfl ?_
    rintro u W A' hA hW ⟨h2, -⟩ K hK
    simp only at h2
    have a73 := ev_in 73 2 hA (by kernel_rfl) (by simp)
    clear hA
    go_simp
    exact hK _ _ (Ext.refl _) (fun _ _ => rfl)
  · refine StepG.plain rfl ?_
    rintro u W A' hA hW ⟨h3, -⟩ K hK
    simp only at h3
    have a74 := ev_in 74 3 hA (by kernel_rfl) (by simp)
    obtain ⟨k0, k1, k2⟩ := hkc W hW
    clear hA
    go_simp
    exact hK _ _ (Ext.refl _) (fun _ _ => rfl)
  · refine StepG.plain rfl ?_
    rintro u W A' hA hW - K hK
    have a2 := ev_out 2 hA (by kernel_rfl) (by simp)
    clear hA
    go_simp
    exact hK _ _ (Ext.refl _) (fun _ _ => rfl)
  · refine StepG.plain rfl ?_
    rintro u W A' hA hW - K hK
    have a7 := ev_out 7 hA (by kernel_rfl) (by simp)
    clear hA
    go_simp
    exact hK _ _ (Ext.refl _) (fun _ _ => rfl)
  · refine StepG.plain rfl ?_
    rintro u W A' hA hW ⟨h0, h4, h5, h6, -⟩ K hK
    simp only at h0 h4 h5 h6
    have a71 := ev_in 71 0 hA (by kernel_rfl) (by simp)
    have a75 := ev_in 75 4 hA (by kernel_rfl) (by simp)
    have a76 := ev_in 76 5 hA (by kernel_rfl) (by simp)
    have a77 := ev_in 77 6 hA (by kernel_rfl) (by simp)
    have hcl := hgu W hW
    clear hA
    go_simp
    refine hcl.out.mono ?_
    rintro e W4 ⟨v1, v2, gs, rfl, hs1, hs2, hg, hE4⟩
    exact hK _ _ hE4 (fun V hV => ⟨v1, v2, rfl, hs1.ext hV, gs, hs2.ext hV, hg⟩)
  · refine StepG.plain rfl ?_
    rintro u W A' hA hW ⟨h7, -⟩ K hK
    simp only at h7
    have a78 := ev_in 78 7 hA (by kernel_rfl) (by simp)
    clear hA
    go_simp
    exact hK _ _ (Ext.refl _) (fun V hV => h7.ext hV)
  · refine StepG.plain rfl ?_
    rintro u W A' hA hW ⟨h8, -⟩ K hK
    simp only at h8
    have a70 := ev_in 70 8 hA (by kernel_rfl) (by simp)
    obtain ⟨v1, v2, hv, hs1, hs2⟩ := h8
    rw [hv] at a70
    clear hA
    go_simp
    exact hK _ _ (Ext.refl _) (fun V hV => hs1.ext hV)
  · refine StepG.plain rfl ?_
    rintro u W A' hA hW ⟨h8, -⟩ K hK
    simp only at h8
    have a70 := ev_in 70 8 hA (by kernel_rfl) (by simp)
    obtain ⟨v1, v2, hv, hs1, hs2⟩ := h8
    rw [hv] at a70
    clear hA
    go_simp
    exact hK _ _ (Ext.refl _) (fun V hV => hs2.ext hV)
  · refine StepG.plain rfl ?_
    rintro u W A' hA hW ⟨h9, -⟩ K hK
    simp only at h9
    have a79 := ev_in 79 9 hA (by kernel_rfl) (by simp)
    clear hA
    go_simp
    exact hK _ _ (Ext.refl _) (fun V hV => h9.ext hV)
  · rintro u W hW ⟨-, -, -, -, -, -, -, -, -, -, h10, h11, -⟩
    simp only at h10 h11
    simp [puts, dstOf, Act.put]
    obtain ⟨CA, cc, hv17, hcc1, _, hS17⟩ := h11
    rw [turned_len] at hv17 hcc1
    obtain ⟨gs, hsg, hgo⟩ := h10
    obtain ⟨GA, gc, hv18, _, hgl18, hSG⟩ := hsg
    rw [hv17, hv18]
    have hcdl := turned_len (sn : Int) k xs
    obtain ⟨cd, hcd⟩ : ∃ cd, cd = turnedF (sn : Int) k xs xs.length := ⟨_, rfl⟩
    rw [← hcd] at hcdl hS17
    have HCD := Lib.hid hcd
    have HS17 := Lib.hid hS17
    have HSG := Lib.hid hSG
    have HGO := Lib.hid hgo
    have HEW := Lib.hid (HEc.out.trans hW)
    clear hcd hS17 hSG hgo hW hbb hkc hgu hv17 hv18 hgl18 hcc1
    go_upto_region 4 with fail
    go_quiet (fail)
    obtain ⟨kk, hkk, hkl2⟩ : ∃ kk : Nat, (wh : Int) % (xs.length : Int) = (kk : Int) ∧ kk < xs.length := ⟨wh % xs.length, by rw [Int.natCast_emod], Nat.mod_lt _ (by omega)⟩
    obtain ⟨aa, haa, hal2⟩ : ∃ aa : Nat, (at_ : Int) % (xs.length : Int) = (aa : Int) ∧ aa < xs.length := ⟨at_ % xs.length, by rw [Int.natCast_emod], Nat.mod_lt _ (by omega)⟩
    obtain ⟨E, hEe, hE2⟩ : ∃ E : Nat, (er : Int).tmod 3 = (E : Int) ∧ E ≤ 2 := ⟨er % 3, by rw [Int.tmod_eq_emod_of_nonneg (by omega)]; omega, by omega⟩
    rw [hkk, haa]
    obtain ⟨W5, hW5⟩ : ∃ W5, W5 = W.drewN nq := ⟨_, rfl⟩
    rw [← hW5]
    have HEW5 := Lib.hid (show Ext w0 W5 by rw [hW5]; exact HEW.out.dr nq)
    have hS17 : SlA intK W5 CA cd := by rw [hW5]; exact HS17.out.ext ((Ext.refl _).dr nq)
    have HSG5 := Lib.hid (show SlA guessK W5 GA gs by rw [hW5]; exact HSG.out.ext ((Ext.refl _).dr nq))
    rcases hS17 with hS17 | ⟨cb, co, rfl, hcat⟩
    · rw [hS17] at hcdl; exact absurd hcdl.symm h00
    have hS17 : SlA intK W5 (some ⟨cb, co, none⟩) cd := .inr ⟨cb, co, rfl, hcat⟩
    have hcdb : ∀ x ∈ cd, 0 ≤ x ∧ x < sn := fun x hx => by
      rw [HCD.out, turnedF] at hx
      obtain ⟨i, _, rfl⟩ := List.mem_map.1 hx
      exact code_bound _ _ _ _ (by omega)
    have hkcd : kk < cd.length := by omega
    have hnb := hcdb _ (List.getElem_mem hkcd)
    obtain ⟨num, hnum⟩ : ∃ num : Nat, cd[kk] = (num : Int) := ⟨cd[kk].toNat, by omega⟩
    rw [hnum] at hnb
    have hcc : ∀ V, Ext W5 V → V.cell? ⟨cb, co + kk, none⟩ = some (.int .i64 (num : Int)) := fun V hV => by
      obtain ⟨cs, hcs, hat⟩ := hcat kk hkcd
      have hcs' : cs = [.int .i64 cd[kk]] := by simpa [intK, scalar] using hcs
      subst hcs'
      rw [hnum] at hat
      simp only [show intK.sz = 1 from rfl, Nat.mul_one] at hat
      exact at1 hat hV
    have hkki : (kk : Int) < (xs.length : Int) := by omega
    have haai : (aa : Int) < (xs.length : Int) := by omega
    have hbb5 := fun (V : World) (h : Ext W5 V) => HB.out V (HEW5.out.trans h)
    have hca := fun (V : World) (h : Ext W5 V) => Lib.hid (candidates_11 ls LA lc (sn : Int) wd (.slice (some ⟨kb, ko, none⟩) ks.length kc) (.slice DA ds.length dc) num ws WA wc E V HFF.out.out (by omega) hlc (HL.out.ext (HE0.out.trans (HEW5.out.trans h))) (by omega) hnb.2 (HW.out.ext (HE0.out.trans (HEW5.out.trans h))) hwl hE2 rfl rfl)
    have HCC := Lib.hid hcc
    have HS17' := Lib.hid hS17
    have HNUM := Lib.hid hnum
    have HCDB := Lib.hid hcdb
    have hnb2 := hnb.2
    clear hkk haa hW5 hcat hS17 HS17 HSG HEW hcdb hnum hnb HEc HE1 hcc hxb
    go_upto_region 5 with fail
    refine region_lit 15 Ext (fun j v W' => match j with | 0 => v = .agg #[.slice LA ls.length lc] | 1 => v = .agg #[.int .i64 (sn : Int), .int .i64 wd, .slice (some ⟨kb, ko, none⟩) ks.length kc, .slice DA ds.length dc] | 2 => v = .slice (some ⟨cb, co, none⟩) xs.length cc | 3 => v = .int .i64 (kk : Int) | 4 => v = .pointer (some ⟨cb, co + kk, none⟩) | 5 => v = .int .i64 (num : Int) | 6 => v = .slice WA ws.length wc | 7 => v = .int .u8 (er : Int) | 8 => v = .int .i64 (er : Int) | 9 => v = .int .i64 (E : Int) | 10 => CPT (sn : Int) (num : Int) v W' | 11 => CPT (sn : Int) (num : Int) v W' | 12 => CP (sn : Int) (num : Int) v W' | 13 => v = .bool true | 14 => CP (sn : Int) (num : Int) v W' | _ => True) (by kernel_rfl) (by kernel_rfl) Ext.refl Ext.trans (Ext.dr (Ext.refl _) 1) ⟨?_, ?_, ?_, ?_, ?_, ?_, ?_, ?_, ?_, ?_, ?_, ?_, ?_, ?_, ?_, trivial⟩ ?_
    · refine StepG.plain rfl ?_
      rintro u W' A' hA hW2 - K hK
      have a8 := ev_out 8 hA (by kernel_rfl) (by simp)
      obtain ⟨b0, b1, b2, b3, b4⟩ := hbb5 W' hW2
      clear hA
      go_simp
      exact hK _ _ (Ext.refl _) (fun _ _ => rfl)
    · refine StepG.plain rfl ?_
      rintro u W' A' hA hW2 - K hK
      have a9 := ev_out 9 hA (by kernel_rfl) (by simp)
      obtain ⟨b0, b1, b2, b3, b4⟩ := hbb5 W' hW2
      clear hA
      go_simp
      exact hK _ _ (Ext.refl _) (fun _ _ => rfl)
    · refine StepG.plain rfl ?_
      rintro u W' A' hA hW2 - K hK
      have a17 := ev_out 17 hA (by kernel_rfl) (by simp)
      clear hA
      go_simp
      exact hK _ _ (Ext.refl _) (fun _ _ => rfl)
    · refine StepG.plain rfl ?_
      rintro u W' A' hA hW2 - K hK
      have a19 := ev_out 19 hA (by kernel_rfl) (by simp)
      clear hA
      go_simp
      exact hK _ _ (Ext.refl _) (fun _ _ => rfl)
    · refine StepG.plain rfl ?_
      rintro u W' A' hA hW2 ⟨h2, h3, -⟩ K hK
      simp only at h2 h3
      have a94 := ev_in 94 2 hA (by kernel_rfl) (by simp)
      have a95 := ev_in 95 3 hA (by kernel_rfl) (by simp)
      clear hA
      go_simp
      exact hK _ _ (Ext.refl _) (fun _ _ => rfl)
    · refine StepG.plain rfl ?_
      rintro u W' A' hA hW2 ⟨h4, -⟩ K hK
      simp only at h4
      have a96 := ev_in 96 4 hA (by kernel_rfl) (by simp)
      have q := HCC.out W' hW2
      clear hA
      go_simp
      exact hK _ _ (Ext.refl _) (fun _ _ => rfl)
    · refine StepG.plain rfl ?_
      rintro u W' A' hA hW2 - K hK
      have a3 := ev_out 3 hA (by kernel_rfl) (by simp)
      clear hA
      go_simp
      exact hK _ _ (Ext.refl _) (fun _ _ => rfl)
    · refine StepG.plain rfl ?_
      rintro u W' A' hA hW2 - K hK
      have a6 := ev_out 6 hA (by kernel_rfl) (by simp)
      clear hA
      go_simp
      exact hK _ _ (Ext.refl _) (fun _ _ => rfl)
    · refine StepG.plain rfl ?_
      rintro u W' A' hA hW2 ⟨h7, -⟩ K hK
      simp only at h7
      have a99 := ev_in 99 7 hA (by kernel_rfl) (by simp)
      clear hA
      go_simp
      exact hK _ _ (Ext.refl _) (fun _ _ => by show Value.int _ _ = Value.int _ _; congr 1; rw [IntKind.wrap_i64]; omega)
    · refine StepG.plain rfl ?_
      rintro u W' A' hA hW2 ⟨h8, -⟩ K hK
      simp only at h8
      have a100 := ev_in 100 8 hA (by kernel_rfl) (by simp)
      clear hA
      go_simp
      exact hK _ _ (Ext.refl _) (fun _ _ => rfl)
    · refine StepG.plain rfl ?_
      rintro u W' A' hA hW2 ⟨h0, h1, h5, h6, h9, -⟩ K hK
      simp only at h0 h1 h5 h6 h9
      have a92 := ev_in 92 0 hA (by kernel_rfl) (by simp)
      have a93 := ev_in 93 1 hA (by kernel_rfl) (by simp)
      have a97 := ev_in 97 5 hA (by kernel_rfl) (by simp)
      have a98 := ev_in 98 6 hA (by kernel_rfl) (by simp)
      have a101 := ev_in 101 9 hA (by kernel_rfl) (by simp)
      have hcl := hca W' hW2
      clear hA
      go_simp
      refine hcl.out.mono ?_
      rintro e W4 ⟨v1, ns, rfl, hE4, hs1, hn1, hn2, hn3⟩
      exact hK _ _ hE4 (fun V hV => ⟨v1, rfl, ns, hs1.ext hV, hn1, hn2, hn3⟩)
    · refine StepG.plain rfl ?_
      rintro u W' A' hA hW2 ⟨h10, -⟩ K hK
      simp only at h10
      have a102 := ev_in 102 10 hA (by kernel_rfl) (by simp)
      clear hA
      go_simp
      exact hK _ _ (Ext.refl _) (fun V hV => h10.ext hV)
    · refine StepG.plain rfl ?_
      rintro u W' A' hA hW2 ⟨h11, -⟩ K hK
      simp only at h11
      have a91 := ev_in 91 11 hA (by kernel_rfl) (by simp)
      obtain ⟨v1, hv, hs1⟩ := h11
      rw [hv] at a91
      clear hA
      go_simp
      exact hK _ _ (Ext.refl _) (fun V hV => hs1.ext hV)
    · refine StepG.plain rfl ?_
      rintro u W' A' hA hW2 ⟨h11, -⟩ K hK
      simp only at h11
      have a91 := ev_in 91 11 hA (by kernel_rfl) (by simp)
      obtain ⟨v1, hv, hs1⟩ := h11
      rw [hv] at a91
      clear hA
      go_simp
      exact hK _ _ (Ext.refl _) (fun _ _ => rfl)
    · refine StepG.plain rfl ?_
      rintro u W' A' hA hW2 ⟨h12, -⟩ K hK
      simp only at h12
      have a103 := ev_in 103 12 hA (by kernel_rfl) (by simp)
      clear hA
      go_simp
      exact hK _ _ (Ext.refl _) (fun V hV => h12.ext hV)
    · rintro u W' hW2 ⟨-, -, -, -, -, -, -, -, -, -, -, -, -, h13, h14, -⟩
      simp only at h13 h14
      simp [puts, dstOf, Act.put]
      rw [h13]
      obtain ⟨ns, ⟨NA, nc, hv21, hnc1, hnl1, hSN⟩, hnb, hnm, hnl⟩ := h14
      rw [hv21]
      have HEW6 := Lib.hid (HEW5.out.trans hW2)
      have HCC6 := Lib.hid (fun (V : World) (h : Ext W' V) => HCC.out V (hW2.trans h))
      have HS6 := Lib.hid (HS17'.out.ext hW2)
      have HSG6 := Lib.hid (HSG5.out.ext hW2)
      rcases hSN with hSN | ⟨nb, no, rfl, hnat⟩
      · rw [hSN] at hnm; cases hnm
      have HNC := Lib.hid (show ∀ (j : Nat) (h : j < ns.length) (V : World), Ext W' V → V.cell? ⟨nb, no + j, none⟩ = some (.int .i64 ns[j]) from fun j h V hV => by
        obtain ⟨cs, hcs, hat⟩ := hnat j h
        have hcs' : cs = [.int .i64 ns[j]] := by simpa [intK, scalar] using hcs
        subst hcs'
        simp only [show intK.sz = 1 from rfl, Nat.mul_one] at hat
        exact at1 hat hV)
      have HNB := Lib.hid hnb
      have HNM := Lib.hid hnm
      have hcne : cd ≠ [] := fun e => by rw [e] at hcdl; exact h00 hcdl.symm
      clear hca hbb5 hW2 hnat hnb hnm h13 hv21 HCC HS17' HSG5 HEW5 hnc1 hnl1
      go_wp2_with fail
      go_loopw [23, 24] (fun t23 t24 wr => ∃ (n : Nat) (b : Bool), n ≤ ns.length ∧ t23 = .bool b ∧ t24 = .int .i64 n ∧ Ext W' wr ∧ ((num : Int) ∈ ns.take n → b = true)) (fun _ t24 _ => ns.length - (intOf t24).toNat)
      case atStart => exact ⟨0, false, by omega, rfl, rfl, Ext.refl _, fun h => by simp at h⟩
      case round =>
        obtain ⟨n, b, hn, rfl, rfl, hEr, hfb⟩ := hrel
        have HFB := Lib.hid hfb
        clear hfb
        by_cases hlt : n < ns.length
        · have hlt' : (n : Int) < (ns.length : Int) := by omega
          obtain ⟨lv, hlv⟩ : ∃ lv, lv = ns[n] := ⟨_, rfl⟩
          have hlb := HNB.out lv (hlv ▸ List.getElem_mem hlt)
          have hlc' : ∀ V, Ext wr V → V.cell? ⟨nb, no + n, none⟩ = some (.int .i64 lv) := fun V hV => by rw [hlv]; exact HNC.out n hlt V (hEr.trans hV)
          have hcc' : ∀ V, Ext wr V → V.cell? ⟨cb, co + kk, none⟩ = some (.int .i64 (num : Int)) := fun V hV => HCC6.out V (hEr.trans hV)
          have HLV := Lib.hid hlv
          clear hlv
          go_upto_region 13 with (at_builtin; refine appI (w0 := wr) (xs := []) (ys := cd) _ cc _ _ rfl rfl rfl (by rw [hcdl]; rfl) (Ow.lit (Ext.refl wr) [] [] rfl rfl (by decide) (fun i h => by cases h)) (HS6.out.ext (hEr.trans (e1 _ _))) (by simp; omega) hcne ?_; intro v7 W7 hO7 hg7)
          rw [List.nil_append] at hO7
          obtain ⟨g7, c7, rfl, hg7b⟩ := OwI.form hO7 (by omega)
          have hc7 := (OwI.cells hO7).cellAt kk (by omega)
          have hc7f := (OwI.cells hO7).frozenAt kk
          rw [List.getElem?_map, List.getElem?_eq_getElem (by omega)] at hc7
          have hl7 := hlc' W7 hO7.1
          simp only [Option.map_some] at hc7
          have hkci : (kk : Int) < (cd.length : Int) := by omega
          go_upto_region 14 with fail
          obtain ⟨W8, hW8⟩ : ∃ W8, W8 = W7.setCell ⟨g7, kk, none⟩ (.int .i64 lv) := ⟨_, rfl⟩
          rw [← hW8]
          have hO8 := OwI.set hO7 hg7b kk lv
          rw [← hW8] at hO8
          have hE8 := hO8.1
          have hxs8 : SlA intK W8 (some ⟨g7, 0, none⟩) (cd.set kk lv) := by
            obtain ⟨A, c, e, _, _, h⟩ := hO8.sl (by rw [List.length_set]; omega)
            injection e with e _ _
            rw [e]; exact h
          have HE8 := Lib.hid (HEW6.out.trans (hEr.trans hE8))
          obtain ⟨b0, b1, b2, b3, b4⟩ := HB.out W8 HE8.out
          have hbk := Lib.hid (book_13 (sn : Int) wd ks ds (some ⟨kb, ko, none⟩) DA kc dc W8 (HK.out.ext (HE0.out.trans HE8.out)) (HD.out.ext (HE0.out.trans HE8.out)) (by omega) (by omega))
          have hgs := fun (V : World) (h : Ext W8 V) => Lib.hid (guesses_14 gs GA gc V (HSG6.out.ext (hEr.trans (hE8.trans h))) (by have := HGO.out.1; omega))
          have hpo := fun (A9 D9 G9 : Option Addr) (k9 d9 c9 : Nat) (V : World) (h : Ext W8 V) (h1 : SlA ckeyK V A9 ks) (h2 : SlA intK V D9 ds) (h3 : SlA guessK V G9 gs) => Lib.hid (possible_12 sn wd ks ds (cd.set kk lv) gs A9 D9 (some ⟨g7, 0, none⟩) G9 k9 d9 c7 c9 aa V hsn h1 h2 (hxs8.ext h) h3 (by omega) (by omega) HCK.out (by rw [List.length_set]; omega) HGO.out.1 (by
            refine List.all_eq_true.2 fun x hx => ?_
            simp only [inR, Bool.and_eq_true, decide_eq_true_eq]
            rcases List.mem_or_eq_of_mem_set hx with hx | hx
            · have := HCDB.out x hx; omega
            · omega) (gs_fine _ xs gs _ (by rw [List.length_set]; exact hcdl) HXS.out HGO.out) (by rw [List.length_set]; omega))
          rw [List.length_set, hcdl] at hpo
          have HE8r := Lib.hid hE8
          clear hc7 hc7f hl7 hO7 hO8 hE8 hW8 hg7 hxs8
          go_upto_region 15 with (first
            | (go_at_call 13; refine hbk.out.mono ?_; rintro e W9 ⟨kv, dv, rfl, ⟨K9, kc9, rfl, _, _, hK9⟩, ⟨D9, dc9, rfl, _, _, hD9⟩, hE9⟩; have hgs9 := hgs W9 hE9)
            | (go_at_call 14; refine hgs9.out.mono ?_; rintro e W10 ⟨v10, rfl, ⟨G10, gc10, rfl, _, _, hG10⟩, hE10⟩; have hpo10 := hpo K9 D9 G10 kc9 dc9 gc10 W10 (hE9.trans hE10) (hK9.ext hE10) (hD9.ext hE10) hG10)
            | (go_at_call 12; refine hpo10.out.mono ?_; rintro e W11 ⟨v11, ys, ev, rfl, her', hE11, ⟨YA, yc, rfl, hyc, hyl, hY⟩, hall⟩; have HE11 := Lib.hid (hE9.trans (hE10.trans hE11)); have HY := Lib.hid hY; have HALL := Lib.hid hall; clear hE9 hE10 hE11 hY hall hpo10))
          obtain ⟨xv, hxv⟩ : ∃ xv, xv = xs.getD aa 0 := ⟨_, rfl⟩
          have hxg : xv = xs[aa] := by rw [hxv, List.getD_eq_getElem?_getD, List.getElem?_eq_getElem hal2]; rfl
          have hxvb := List.all_eq_true.1 HXS.out xv (hxg ▸ List.getElem_mem hal2)
          simp only [inR, Bool.and_eq_true, decide_eq_true_eq] at hxvb
          have hgood : lv = (num : Int) → ev = 0 ∧ xv ∈ ys := fun e => by
            have e2 : cd.set kk lv = cd := by
              rw [e, ← HNUM.out]
              exact List.set_getElem_self hkcd
            have h := HALL.out k HKK.out (by rw [e2, HCD.out]; exact agr_turned _ _ _ _ HGO.out)
            refine ⟨h.1, ?_⟩
            have h2 := h.2
            rw [e2, HCD.out, turned_get _ _ _ _ hal2, dec_code HPR.out HKK.out (by rw [← hxv]; omega) (by rw [← hxv]; omega), ← hxv] at h2
            exact h2
          have hq : ev = 0 ∨ (ev = 11 ∧ (lv == (num : Int)) = false) := by
            rcases her' with e | e
            · exact .inl e
            · refine .inr ⟨e, ?_⟩
              rw [beq_eq_false_iff_ne]
              intro e2
              have := (hgood e2).1
              omega
          have HGOOD := Lib.hid (fun e => (hgood e).2)
          have hE11 := HE8r.out.trans HE11.out
          have hl11 := hlc' W11 hE11
          have hc11 := hcc' W11 hE11
          have HLC11 := Lib.hid (fun (V : World) (h : Ext W11 V) => hlc' V (hE11.trans h))
          have HCC11 := Lib.hid (fun (V : World) (h : Ext W11 V) => hcc' V (hE11.trans h))
          have HE11w := Lib.hid (HE8.out.trans HE11.out)
          have HE11r := Lib.hid (hEr.trans hE11)
          have HXC := Lib.hid (show ∀ V, Ext W11 V → V.cell? ⟨xb, xo + aa, none⟩ = some (.int .i64 xv) from fun V h => by rw [hxg]; exact HXAT.out aa hal2 V (HE0.out.trans (HE11w.out.trans h)))
          clear hgood hlc' hcc' hxv hxg hxvb her' HALL hE11 hgs hgs9 hbk hpo b0 b1 b2 b3 b4
          rcases hq with rfl | ⟨rfl, hne11⟩
          · skip
            go_quiet (fail)
            go_wp2_with fail
            go_loopw [23, 28] (fun t23 t28 w2 => ∃ (m : Nat) (b2 : Bool), m ≤ ys.length ∧ t23 = .bool b2 ∧ t28 = .int .i64 m ∧ Ext W11 w2 ∧ (b = true → b2 = true) ∧ (lv = (num : Int) → xv ∈ ys.take m → b2 = true)) (fun _ t28 _ => ys.length - (intOf t28).toNat)
            case atStart => exact ⟨0, b, by omega, rfl, rfl, (Ext.refl _).dr _, fun h => h, fun _ h => by simp at h⟩
            case round =>
              obtain ⟨m, b2, hm, rfl, rfl, hE2, hb2, hf2⟩ := hrel
              have HB2 := Lib.hid hb2
              have HF2 := Lib.hid hf2
              have hl2 := HLC11.out wr hE2
              have hc2 := HCC11.out wr hE2
              clear hb2 hf2
              have HE2 := Lib.hid hE2
              by_cases hml : m < ys.length
              · have hml' : (m : Int) < (ys.length : Int) := by omega
                have hmd : decide ((m : Int) < (ys.length : Int)) = true := by simp; omega
                by_cases hln : lv = (num : Int)
                · have hlnb : (lv == (num : Int)) = true := by rw [beq_iff_eq]; exact hln
                  rcases HY.out with hy0 | ⟨yb, yo, rfl, hyat⟩
                  · rw [hy0] at hml; exact absurd hml (Nat.not_lt_zero _)
                  obtain ⟨yv, hyv⟩ : ∃ yv, yv = ys[m] := ⟨_, rfl⟩
                  have hy2 : ∀ V, Ext W11 V → V.cell? ⟨yb, yo + m, none⟩ = some (.int .i64 yv) := fun V hV => by
                    obtain ⟨cs, hcs, hat⟩ := hyat m hml
                    have hcs' : cs = [.int .i64 ys[m]] := by simpa [intK, scalar] using hcs
                    subst hcs'
                    rw [← hyv] at hat
                    simp only [show intK.sz = 1 from rfl, Nat.mul_one] at hat
                    exact at1 hat hV
                  have HY2 := Lib.hid hy2
                  have HYV := Lib.hid hyv
                  have HLN := Lib.hid hln
                  clear hyat hyv hy2 hln
                  have hx2 := HXC.out wr HE2.out
                  have hy3 := HY2.out wr HE2.out
                  have HSN := Lib.hid (show ∀ b3 : Bool, (b2 = true → b3 = true) → (yv = xv → b3 = true) → lv = (num : Int) → xv ∈ ys.take (m + 1) → b3 = true from fun b3 h1 h2 e hm3 => by
                    rw [List.take_succ_eq_append_getElem hml, ← HYV.out] at hm3
                    rcases List.mem_append.1 hm3 with h | h
                    · exact h1 (HF2.out e h)
                    · exact h2 (List.mem_singleton.1 h).symm)
                  cases b2 with
                  | true =>
                    go_upto_region 18 with fail
                    go_quiet (fail)
                    go_upto_region 20 with fail
                    go_quiet (fail)
                    go_wp2_with fail
                    exact ⟨⟨m + 1, true, by omega, rfl, by go_num, HE2.out.dr _, fun _ => rfl, HSN.out true (fun _ => rfl) (fun _ => rfl)⟩, by simp [intOf]; omega⟩
                  | false =>
                    by_cases hyx : yv = xv
                    · have hyxb : (yv == xv) = true := by rw [beq_iff_eq]; exact hyx
                      clear hyx
                      go_upto_region 18 with fail
                      go_quiet (fail)
                      go_upto_region 20 with fail
                      go_quiet (fail)
                      go_wp2_with fail
                      exact ⟨⟨m + 1, true, by omega, rfl, by go_num, HE2.out.dr _, fun _ => rfl, HSN.out true (fun _ => rfl) (fun _ => rfl)⟩, by simp [intOf]; omega⟩
                    · have hyxb : (yv == xv) = false := by rw [beq_eq_false_iff_ne]; exact hyx
                      have HYX := Lib.hid hyx
                      clear hyx
                      go_upto_region 18 with fail
                      go_quiet (fail)
                      go_upto_region 20 with fail
                      go_quiet (fail)
                      go_wp2_with fail
                      exact ⟨⟨m + 1, false, by omega, rfl, by go_num, HE2.out.dr _, HB2.out, HSN.out false (fun h => h) (fun h => absurd h HYX.out)⟩, by simp [intOf]; omega⟩
                · have hlnb : (lv == (num : Int)) = false := by rw [beq_eq_false_iff_ne]; exact hln
                  have HLN := Lib.hid hln
                  clear hln
                  go_upto_region 18 with fail
                  go_quiet (fail)
                  go_wp2_with fail
                  exact ⟨⟨n + 1, b2, by omega, rfl, by go_num, HE11r.out.trans (HE2.out.dr _), fun h => by
                    rw [List.take_succ_eq_append_getElem hlt, ← HLV.out] at h
                    rcases List.mem_append.1 h with h | h
                    · exact HB2.out (HFB.out h)
                    · exact absurd (List.mem_singleton.1 h).symm HLN.out⟩, by simp [intOf]; omega⟩
              · have hml' : ¬ (m : Int) < (ys.length : Int) := by omega
                have hmd : decide ((m : Int) < (ys.length : Int)) = false := by simp; omega
                obtain rfl : m = ys.length := by omega
                go_upto_region 18 with fail
                go_quiet (fail)
                go_wp2_with fail
                exact ⟨⟨n + 1, b2, by omega, rfl, by go_num, HE11r.out.trans (HE2.out.dr _), fun h => by
                  rw [List.take_succ_eq_append_getElem hlt, ← HLV.out] at h
                  rcases List.mem_append.1 h with h | h
                  · exact HB2.out (HFB.out h)
                  · exact HF2.out (List.mem_singleton.1 h).symm (by rw [List.take_length]; exact HGOOD.out (List.mem_singleton.1 h).symm)⟩, by simp [intOf]; omega⟩
          · skip
            go_quiet (fail)
            go_wp2_with fail
            go_loopw [23, 28] (fun t23 t28 w2 => ∃ (m : Nat) (b2 : Bool), m ≤ ys.length ∧ t23 = .bool b2 ∧ t28 = .int .i64 m ∧ Ext W11 w2 ∧ (b = true → b2 = true) ∧ (lv = (num : Int) → xv ∈ ys.take m → b2 = true)) (fun _ t28 _ => ys.length - (intOf t28).toNat)
            case atStart => exact ⟨0, b, by omega, rfl, rfl, (Ext.refl _).dr _, fun h => h, fun _ h => by simp at h⟩
            case round =>
              obtain ⟨m, b2, hm, rfl, rfl, hE2, hb2, hf2⟩ := hrel
              have HB2 := Lib.hid hb2
              have HF2 := Lib.hid hf2
              have hl2 := HLC11.out wr hE2
              have hc2 := HCC11.out wr hE2
              clear hb2 hf2
              have HE2 := Lib.hid hE2
              by_cases hml : m < ys.length
              · have hml' : (m : Int) < (ys.length : Int) := by omega
                have hmd : decide ((m : Int) < (ys.length : Int)) = true := by simp; omega
                by_cases hln : lv = (num : Int)
                · have hlnb : (lv == (num : Int)) = true := by rw [beq_iff_eq]; exact hln
                  exact absurd (hlnb.symm.trans hne11) (by decide)
                · have hlnb : (lv == (num : Int)) = false := by rw [beq_eq_false_iff_ne]; exact hln
                  have HLN := Lib.hid hln
                  clear hln
                  go_upto_region 18 with fail
                  go_quiet (fail)
                  go_wp2_with fail
                  exact ⟨⟨n + 1, b2, by omega, rfl, by go_num, HE11r.out.trans (HE2.out.dr _), fun h => by
                    rw [List.take_succ_eq_append_getElem hlt, ← HLV.out] at h
                    rcases List.mem_append.1 h with h | h
                    · exact HB2.out (HFB.out h)
                    · exact absurd (List.mem_singleton.1 h).symm HLN.out⟩, by simp [intOf]; omega⟩
              · have hml' : ¬ (m : Int) < (ys.length : Int) := by omega
                have hmd : decide ((m : Int) < (ys.length : Int)) = false := by simp; omega
                obtain rfl : m = ys.length := by omega
                go_upto_region 18 with fail
                go_quiet (fail)
                go_wp2_with fail
                exact ⟨⟨n + 1, b2, by omega, rfl, by go_num, HE11r.out.trans (HE2.out.dr _), fun h => by
                  rw [List.take_succ_eq_append_getElem hlt, ← HLV.out] at h
                  rcases List.mem_append.1 h with h | h
                  · exact HB2.out (HFB.out h)
                  · exact HF2.out (List.mem_singleton.1 h).symm (by rw [List.take_length]; exact HGOOD.out (List.mem_singleton.1 h).symm)⟩, by simp [intOf]; omega⟩
        · have hlt' : ¬ (n : Int) < (ns.length : Int) := by omega
          obtain rfl : n = ns.length := by omega
          have hbt : b = true := HFB.out (by rw [List.take_length]; exact HNM.out)
          subst hbt
          have HEr := Lib.hid hEr
          clear hEr
          go_wp2_with (go_at_call 9; refine (coded_9 _).mono ?_; rintro e W9 ⟨rfl, hE9⟩; have HE9 := Lib.hid (HEr.out.trans hE9); clear hE9)
          all_goals (first | (refine wp_ret_end ?_; go_ret; exact ⟨rfl, HE0.out.trans (HEW6.out.trans HE9.out)⟩) | (go_ret; exact ⟨rfl, HE0.out.trans (HEW6.out.trans HE9.out)⟩) | skip)
      
    
end Go.Proofs.Tp
