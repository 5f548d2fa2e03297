import Derived.Test.YtnlknpcbdciljaaLb8
/- Guesses turned for the program; what others hear and guess. -/
namespace Go.Proofs.Tp
open Go.RowKit Go.Proofs.Gr
set_option linter.unusedVariables false
set_option linter.unusedSimpArgs false
set_option maxRecDepth 100000
attribute [local go_sem] below_alloc' below_drewN' below_drew' below_set' Below.refl
theorem inf85 : (Try.prog.info? 85).map (fun i => (i.zero, i.size, i.bytes)) = some (some (.agg #[.int .i64 0, .int .i64 0]), 2, 16) := by kernel_rfl
theorem inf69 : (Try.prog.info? 69).map (fun i => (i.zero, i.size, i.bytes)) = some (some (.agg #[.int .i64 0, .int .i64 0]), 2, 16) := by kernel_rfl
set_option maxHeartbeats 1000000 in
theorem guesses_14 (gs : List Guess) (A : Option Addr) (c : Nat) (w : World) (hx : SlA guessK w A gs) (hl : gs.length ≤ 1000) :
    Calls Try.prog 14 #[.slice A gs.length c] w fun e w' => ∃ v, e = .returned v ∧ Sl guessK w' v gs ∧ Ext w w' := by
  go_enter Try.func14, Try.ntmps14
  go_wp2
  go_loopw [3, 4] (fun o i wr => ∃ m : Nat, m ≤ gs.length ∧ i = .int .i64 m ∧ Ow guessK 85 w wr o (gs.take m)) (fun _ i _ => gs.length - (intOf i).toNat)
  case atStart => exact ⟨0, by omega, rfl, Ow.nil (Ext.refl w)⟩
  case round =>
    obtain ⟨m, hm, rfl, hO⟩ := hrel
    by_cases hlt : m < gs.length
    · have hlt' : (m : Int) < (gs.length : Int) := by omega
      obtain ⟨b, off, cs, rfl, hcs, hat⟩ := Sl.at_ hx m hlt
      have HT := Lib.hid (show gs.take (m + 1) = gs.take m ++ [gs[m]] from List.take_succ_eq_append_getElem hlt)
      obtain ⟨g, hge⟩ : ∃ g, g = gs[m] := ⟨_, rfl⟩
      rw [← hge] at hcs HT
      have hcs' : cs = [.int .i64 g.at_, .int .i64 g.plain] := hcs
      subst hcs'
      simp only [show guessK.sz = 2 from rfl] at hat
      have hx' : ∀ W, Ext wr W → W.cell? ⟨b, off + m * 2, none⟩ = some (.int .i64 g.at_) ∧ W.cell? ⟨b, off + m * 2 + 1, none⟩ = some (.int .i64 g.plain) := fun W h => at2 hat (hO.1.trans h)
      have hml : (gs.take m).length = m := by rw [List.length_take]; omega
      clear hcs hat hx hge
      go_upto_region 5 with fail
      refine region_lit 13 Ext (fun i v W => match i with | 0 => v = u3 | 1 => v = .slice (some ⟨b, off, none⟩) gs.length c | 2 => v = .int .i64 (m : Int) | 3 => v = .pointer (some ⟨b, off + m * 2, none⟩) | 4 => v = .pointer (some ⟨b, off + m * 2, none⟩) | 5 => v = .int .i64 g.at_ | 6 => v = .slice (some ⟨b, off, none⟩) gs.length c | 7 => v = .int .i64 (m : Int) | 8 => v = .pointer (some ⟨b, off + m * 2, none⟩) | 9 => v = .pointer (some ⟨b, off + m * 2 + 1, none⟩) | 10 => v = .int .i64 g.plain | 11 => v = .agg #[.int .i64 g.at_, .int .i64 g.plain] | 12 => Li wr 85 1 [.int .i64 g.at_, .int .i64 g.plain] v W | _ => True) (by kernel_rfl) (by kernel_rfl) Ext.refl Ext.trans (Ext.dr (Ext.refl _) 1) ⟨?_, ?_, ?_, ?_, ?_, ?_, ?_, ?_, ?_, ?_, ?_, ?_, ?_, trivial⟩ ?_
      · refine StepG.plain rfl ?_
        rintro u W A' hA hW - K hK
        have a3 := ev_out 3 hA (by kernel_rfl) (by simp)
        clear hA
        go_simp
        exact hK _ _ (Ext.refl _) (fun _ _ => rfl)
      · refine StepG.plain rfl ?_
        rintro u W A' hA hW - K hK
        have a0 := ev_out 0 hA (by kernel_rfl) (by simp)
        clear hA
        go_simp
        exact hK _ _ (Ext.refl _) (fun _ _ => rfl)
      · refine StepG.plain rfl ?_
        rintro u W A' hA hW - K hK
        have a4 := ev_out 4 hA (by kernel_rfl) (by simp)
        clear hA
        go_simp
        exact hK _ _ (Ext.refl _) (fun _ _ => rfl)
      · refine StepG.plain rfl ?_
        rintro u W A' hA hW ⟨h1, h2, -⟩ K hK
        simp only at h1 h2
        have a12 := ev_in 12 1 hA (by kernel_rfl) (by simp)
        have a13 := ev_in 13 2 hA (by kernel_rfl) (by simp)
        clear hA
        go_simp
        exact hK _ _ (Ext.refl _) (fun _ _ => rfl)
      · refine StepG.plain rfl ?_
        rintro u W A' hA hW ⟨h3, -⟩ K hK
        simp only at h3
        have a14 := ev_in 14 3 hA (by kernel_rfl) (by simp)
        clear hA
        go_simp
        exact hK _ _ (Ext.refl _) (fun _ _ => rfl)
      · refine StepG.plain rfl ?_
        rintro u W A' hA hW ⟨h4, -⟩ K hK
        simp only at h4
        have a15 := ev_in 15 4 hA (by kernel_rfl) (by simp)
        obtain ⟨q0, q1⟩ := hx' W hW
        clear hA
        go_simp
        exact hK _ _ (Ext.refl _) (fun _ _ => rfl)
      · refine StepG.plain rfl ?_
        rintro u W A' hA hW - K hK
        have a0 := ev_out 0 hA (by kernel_rfl) (by simp)
        clear hA
        go_simp
        exact hK _ _ (Ext.refl _) (fun _ _ => rfl)
      · refine StepG.plain rfl ?_
        rintro u W A' hA hW - K hK
        have a4 := ev_out 4 hA (by kernel_rfl) (by simp)
        clear hA
        go_simp
        exact hK _ _ (Ext.refl _) (fun _ _ => rfl)
      · refine StepG.plain rfl ?_
        rintro u W A' hA hW ⟨h6, h7, -⟩ K hK
        simp only at h6 h7
        have a17 := ev_in 17 6 hA (by kernel_rfl) (by simp)
        have a18 := ev_in 18 7 hA (by kernel_rfl) (by simp)
        clear hA
        go_simp
        exact hK _ _ (Ext.refl _) (fun _ _ => rfl)
      · refine StepG.plain rfl ?_
        rintro u W A' hA hW ⟨h8, -⟩ K hK
        simp only at h8
        have a19 := ev_in 19 8 hA (by kernel_rfl) (by simp)
        clear hA
        go_simp
        exact hK _ _ (Ext.refl _) (fun _ _ => rfl)
      · refine StepG.plain rfl ?_
        rintro u W A' hA hW ⟨h9, -⟩ K hK
        simp only at h9
        have a20 := ev_in 20 9 hA (by kernel_rfl) (by simp)
        obtain ⟨q0, q1⟩ := hx' W hW
        clear hA
        go_simp
        exact hK _ _ (Ext.refl _) (fun _ _ => rfl)
      · refine StepG.plain rfl ?_
        rintro u W A' hA hW ⟨h5, h10, -⟩ K hK
        simp only at h5 h10
        have a16 := ev_in 16 5 hA (by kernel_rfl) (by simp)
        have a21 := ev_in 21 10 hA (by kernel_rfl) (by simp)
        clear hA
        go_simp
        exact hK _ _ (Ext.refl _) (fun _ _ => rfl)
      · refine StepG.plain rfl ?_
        rintro u W A' hA hW ⟨h11, -⟩ K hK
        simp only at h11
        have a22 := ev_in 22 11 hA (by kernel_rfl) (by simp)
        clear hA
        go_simp
        exact hK _ _ (e1 _ _) (fun V hV => (Li.new hW 85 1 _).ext hV)
      · rintro u W hW ⟨h0, -, -, -, -, -, -, -, -, -, -, -, h12, -⟩
        simp only at h0 h12
        have hO2 := hO.ext hW
        obtain ⟨gb, hg1, hg2, hg3, hg4⟩ := h12
        simp [puts, dstOf, Act.put]
        rw [hg1, h0]
        clear hx' hlt'
        go_wp2_with (at_builtin; refine app1g (k := guessK) g [.int .i64 g.at_, .int .i64 g.plain] gb _ _ 51 (.agg #[.int .i64 0, .int .i64 0]) 16 rfl rfl Try.underlying51 inf85 rfl (by decide) (by decide) rfl rfl hg4 hO2 rfl (by rw [hml]; omega) ?_; intro v1 W3 hO3 hg3)
        refine ⟨⟨m + 1, by omega, by go_num, ?_⟩, by simp [intOf]; omega⟩
        rw [HT.out]
        exact hO3
    · have hlt' : ¬ (m : Int) < (gs.length : Int) := by omega
      obtain rfl : m = gs.length := by omega
      rw [List.take_length] at hO
      have hO' := Lib.hid hO
      clear hO
      go_wp2
      go_ret
      exact ⟨_, rfl, hO'.out.sl (by omega), hO'.out.1⟩
end Go.Proofs.Tp
/- What others hear and guess. -/
namespace Go.Proofs.Tp
open Go.RowKit Go.Proofs.Gr
set_option linter.unusedVariables false
set_option linter.unusedSimpArgs false
set_option maxRecDepth 100000
attribute [local go_sem] below_alloc' below_drewN' below_drew' below_set' Below.refl
/-- a guess of what was sent -/
def GsOk (xs : List Int) (gs : List Guess) : Prop := gs.length ≤ 6 ∧ ∀ g ∈ gs, ∃ (i : Nat) (h : i < xs.length), g.at_ = i ∧ g.plain = xs[i]
theorem GsOk.add {xs : List Int} {gs : List Guess} (h : GsOk xs gs) (h6 : gs.length < 6) (m : Nat) (hm : m < xs.length) : GsOk xs (gs ++ [⟨m, xs[m]⟩]) := by
  refine ⟨by simp; omega, fun g hg => ?_⟩
  rcases List.mem_append.1 hg with hg | hg
  · exact h.2 g hg
  · rw [List.mem_singleton.1 hg]; exact ⟨m, hm, rfl, rfl⟩
def GRes (s : Int) (k : CKey) (xs : List Int) (w : World) (e : Ending) (w' : World) : Prop := ∃ v1 v2 gs, e = .returned (.tuple #[v1, v2]) ∧ Sl intK w' v1 (turnedF s k xs xs.length) ∧ Sl guessK w' v2 gs ∧ GsOk xs gs ∧ Ext w w'
theorem ownBlock_row {w : World} {base : Nat} {e : TypeId} {size : Nat} {v : Value} {n : Nat} {xs : List Value} (h : w.ownsRow base e size v n xs) {g : Nat} (hg : v.ownBlock = some g) : ∃ cur, w.heap[g]? = some (.cells cur e (0, 0)) := by
  rcases h.2 with ⟨rfl, _⟩ | ⟨g', cap, cur, rfl, _, h2, _⟩
  · cases hg
  · cases hg; exact ⟨cur, h2⟩
/-- rows of different types lie apart -/
theorem Ow.apart {α β : Type} {k : Kd α} {k' : Kd β} {e e' : TypeId} {w0 w0' W : World} {v q : Value} {xs : List α} {ys : List β} (h : Ow k e w0 W v xs) (h' : Ow k' e' w0' W q ys) (hne : e ≠ e') : v.ownBlock = none ∨ v.ownBlock ≠ q.ownBlock := by
  obtain ⟨_, _, _, _, h4⟩ := h
  obtain ⟨_, _, _, _, h4'⟩ := h'
  cases hv : v.ownBlock with
  | none => exact .inl rfl
  | some g =>
    refine .inr fun e => ?_
    obtain ⟨c1, hc1⟩ := ownBlock_row h4 hv
    obtain ⟨c2, hc2⟩ := ownBlock_row h4' e.symm
    rw [hc1] at hc2
    injection hc2 with h1
    injection h1 with h2 h3 h4
    exact hne h3
set_option maxHeartbeats 2000000 in
theorem guessed_10 (s wd : Int) (k : CKey) (xs : List Int) (KK D : Value) (A : Option Addr) (c bits : Nat) (w : World) (hs : 1 ≤ s ∧ s ≤ 1000) (h1 : 0 ≤ k.mul ∧ k.mul ≤ 1000) (h2 : 0 ≤ k.add ∧ k.add ≤ 1000) (h3 : 0 ≤ k.step ∧ k.step ≤ 1000) (hl : xs.length ≤ 10) (hbt : bits < 65536)
    (hxb : ∀ x ∈ xs, 0 ≤ x ∧ x ≤ 1000) (hK : KK.oneCell' = true) (hD : D.oneCell' = true) (hx : SlA intK w A xs) :
    Calls Try.prog 10 #[.agg #[.int .i64 s, .int .i64 wd, KK, D], .agg #[.int .i64 k.mul, .int .i64 k.add, .int .i64 k.step], .slice A xs.length c, .int .u16 bits] w (GRes s k xs w) := by
  obtain ⟨w0, hw0⟩ : ∃ w0, w0 = (w.alloc (.cells #[.int .i64 s, .int .i64 wd, KK, D] 28)).alloc (.cells #[.int .i64 k.mul, .int .i64 k.add, .int .i64 k.step] 41) := ⟨_, rfl⟩
  have hE0 : Ext w w0 := by rw [hw0]; exact e2 w _ _
  have hsz : w0.heap.size = w.heap.size + 1 + 1 := by rw [hw0]; simp
  have hb' : ∀ W, Ext w0 W → W.cell? ⟨w.heap.size, 0, none⟩ = some (.int .i64 s) ∧ W.cell? ⟨w.heap.size, 1, none⟩ = some (.int .i64 wd) ∧ W.cell? ⟨w.heap.size, 2, none⟩ = some KK ∧ W.cell? ⟨w.heap.size, 3, none⟩ = some D := fun W hW => by
    refine ⟨?_, ?_, ?_, ?_⟩ <;> (rw [hW.cell (by rw [hsz]; simp only []; omega), hw0]; simp [go_sem])
  have hk' : ∀ W, Ext w0 W → W.cell? ⟨w.heap.size + 1, 0, none⟩ = some (.int .i64 k.mul) ∧ W.cell? ⟨w.heap.size + 1, 1, none⟩ = some (.int .i64 k.add) ∧ W.cell? ⟨w.heap.size + 1, 2, none⟩ = some (.int .i64 k.step) := fun W hW => by
    refine ⟨?_, ?_, ?_⟩ <;> (rw [hW.cell (by rw [hsz]; simp only []; omega), hw0]; simp [go_sem])
  go_enter Try.func10, Try.ntmps10
  go_wp2
  rw [← hw0]
  clear hw0 hsz
  go_loopw [10, 11, 12] (fun o q i wr => ∃ (m : Nat) (gs : List Guess), m ≤ xs.length ∧ i = .int .i64 m ∧ Ow intK 3 w0 wr o (turnedF s k xs m) ∧ Ow guessK 69 w0 wr q gs ∧ GsOk xs gs) (fun _ _ i _ => xs.length - (intOf i).toNat)
  case atStart => exact ⟨0, [], by omega, rfl, Ow.nil (Ext.refl w0), Ow.nil (Ext.refl w0), ⟨by simp, fun g h => by cases h⟩⟩
  case round =>
    obtain ⟨m, gs, hm, rfl, hO, hQ, hG⟩ := hrel
    obtain ⟨QA, qc, rfl⟩ := hQ.len
    by_cases hlt : m < xs.length
    · have hlt' : (m : Int) < (xs.length : Int) := by omega
      obtain ⟨b, off, cs, rfl, hcs, hat⟩ := Sl.at_ hx m hlt
      have hcs' : cs = [.int .i64 xs[m]] := by simpa [intK, scalar] using hcs
      subst hcs'
      simp only [show intK.sz = 1 from rfl, Nat.mul_one] at hat
      have hx' := fun (W : World) (h : Ext wr W) => at1 hat (hE0.trans (hO.1.trans h))
      have HXW := Lib.hid (fun (W : World) (h : Ext w0 W) => at1 hat (hE0.trans h))
      have hxm := hxb xs[m] (List.getElem_mem hlt)
      have HX := Lib.hid (show xs.getD m 0 = xs[m] by rw [List.getD_eq_getElem?_getD, List.getElem?_eq_getElem hlt]; rfl)
      have HGa := fun h6 => Lib.hid (hG.add h6 m hlt)
      obtain ⟨x, hxe⟩ : ∃ x, x = xs[m] := ⟨_, rfl⟩
      rw [← hxe] at hx' hxm HX HGa HXW
      have hb2 := fun (W : World) (h : Ext wr W) => hb' W (hO.1.trans h)
      have hk2 := fun (W : World) (h : Ext wr W) => hk' W (hO.1.trans h)
      have hcode := fun (W : World) => Lib.hid (codeof_23 s wd k x m KK D W hs h1 h2 h3 hxm (by omega) hK hD)
      have HG := Lib.hid hG
      obtain ⟨cv, hcv⟩ : ∃ cv, cv = codeF s k x m := ⟨_, rfl⟩
      rw [← hcv] at hcode
      have HT := Lib.hid (show turnedF s k xs (m + 1) = turnedF s k xs m ++ [cv] by
        rw [turnedF, List.range_succ, List.map_append, List.map_singleton, HX.out, hcv]
        rfl)
      clear hcs hat hx hxb hxe hb' hk' hcv hG
      go_upto_region 6 with fail
      refine region_lit 10 Ext (fun i v W => match i with | 0 => v = u10 | 1 => v = .agg #[.int .i64 s, .int .i64 wd, KK, D] | 2 => v = .agg #[.int .i64 k.mul, .int .i64 k.add, .int .i64 k.step] | 3 => v = .slice (some ⟨b, off, none⟩) xs.length c | 4 => v = .int .i64 (m : Int) | 5 => v = .pointer (some ⟨b, off + m, none⟩) | 6 => v = .int .i64 x | 7 => v = .int .i64 (m : Int) | 8 => v = .int .i64 cv | 9 => Li wr 3 1 [.int .i64 cv] v W | _ => True) (by kernel_rfl) (by kernel_rfl) Ext.refl Ext.trans (Ext.dr (Ext.refl _) 1) ⟨?_, ?_, ?_, ?_, ?_, ?_, ?_, ?_, ?_, ?_, trivial⟩ ?_
      · refine StepG.plain rfl ?_
        rintro u W A' hA hW - K hKK
        have a10 := ev_out 10 hA (by kernel_rfl) (by simp)
        clear hA
        go_simp
        exact hKK _ _ (Ext.refl _) (fun _ _ => rfl)
      · refine StepG.plain rfl ?_
        rintro u W A' hA hW - K hKK
        have a4 := ev_out 4 hA (by kernel_rfl) (by simp)
        obtain ⟨b0, b1, b2, b3⟩ := hb2 W hW
        clear hA
        go_simp
        exact hKK _ _ (Ext.refl _) (fun _ _ => rfl)
      · refine StepG.plain rfl ?_
        rintro u W A' hA hW - K hKK
        have a5 := ev_out 5 hA (by kernel_rfl) (by simp)
        obtain ⟨k0, k1, k2⟩ := hk2 W hW
        clear hA
        go_simp
        exact hKK _ _ (Ext.refl _) (fun _ _ => rfl)
      · refine StepG.plain rfl ?_
        rintro u W A' hA hW - K hKK
        have a2 := ev_out 2 hA (by kernel_rfl) (by simp)
        clear hA
        go_simp
        exact hKK _ _ (Ext.refl _) (fun _ _ => rfl)
      · refine StepG.plain rfl ?_
        rintro u W A' hA hW - K hKK
        have a12 := ev_out 12 hA (by kernel_rfl) (by simp)
        clear hA
        go_simp
        exact hKK _ _ (Ext.refl _) (fun _ _ => rfl)
      · refine StepG.plain rfl ?_
        rintro u W A' hA hW ⟨h3, h4, -⟩ K hKK
        simp only at h3 h4
        have a22 := ev_in 22 3 hA (by kernel_rfl) (by simp)
        have a23 := ev_in 23 4 hA (by kernel_rfl) (by simp)
        clear hA
        go_simp
        exact hKK _ _ (Ext.refl _) (fun _ _ => rfl)
      · refine StepG.plain rfl ?_
        rintro u W A' hA hW ⟨h5, -⟩ K hKK
        simp only at h5
        have a24 := ev_in 24 5 hA (by kernel_rfl) (by simp)
        have q := hx' W hW
        clear hA
        go_simp
        exact hKK _ _ (Ext.refl _) (fun _ _ => rfl)
      · refine StepG.plain rfl ?_
        rintro u W A' hA hW - K hKK
        have a12 := ev_out 12 hA (by kernel_rfl) (by simp)
        clear hA
        go_simp
        exact hKK _ _ (Ext.refl _) (fun _ _ => rfl)
      · refine StepG.plain rfl ?_
        rintro u W A' hA hW ⟨h1, h2, h6, h7, -⟩ K hKK
        simp only at h1 h2 h6 h7
        have a20 := ev_in 20 1 hA (by kernel_rfl) (by simp)
        have a21 := ev_in 21 2 hA (by kernel_rfl) (by simp)
        have a25 := ev_in 25 6 hA (by kernel_rfl) (by simp)
        have a26 := ev_in 26 7 hA (by kernel_rfl) (by simp)
        have hcl := hcode W
        clear hA
        go_simp
        refine hcl.out.mono ?_
        rintro e W1 ⟨rfl, hE⟩
        exact hKK _ _ hE (fun _ _ => rfl)
      · refine StepG.plain rfl ?_
        rintro u W A' hA hW ⟨h8, -⟩ K hKK
        simp only at h8
        have a27 := ev_in 27 8 hA (by kernel_rfl) (by simp)
        clear hA
        go_simp
        exact hKK _ _ (e1 _ _) (fun V hV => (Li.new hW 3 1 _).ext hV)
      · rintro u W hW ⟨h0, -, -, -, -, -, -, -, -, h9, -⟩
        simp only at h0 h9
        have hO2 := hO.ext hW
        have hQ2 := hQ.ext hW
        have hx2 := fun (V : World) (h : Ext W V) => hx' V (hW.trans h)
        obtain ⟨gb, hg1, hg2, hg3, hg4⟩ := h9
        simp [puts, dstOf, Act.put]
        rw [hg1, h0]
        clear hx' hb2 hk2 hcode
        have hap := hQ2.apart hO2 (by decide)
        have HT0 := Lib.hid hap
        clear hap
        by_cases h6 : gs.length < 6
        · have h6' : (gs.length : Int) < 6 := by omega
          go_wp2_with (first
            | (at_builtin; refine app1g (k := intK) cv [.int .i64 cv] gb _ _ 26 (.int .i64 0) 8 rfl rfl Try.underlying26 inf3 rfl (by decide) (by decide) rfl rfl hg4 hO2 rfl (by rw [turnedF, List.length_map, List.length_range]; omega) ?_; intro v1 W3 hO3 hg3; have hc3 := HXW.out _ hO3.1; have hQ3 := hQ2.other hg3 hO3.1 HT0.out)
            | (at_builtin; refine app1 (k := guessK) ⟨m, x⟩ [.int .i64 (m : Int), .int .i64 x] _ _ 37 (.agg #[.int .i64 0, .int .i64 0]) 16 rfl rfl Try.underlying37 inf69 rfl (by decide) (by decide) rfl rfl hQ3 rfl (by omega) ?_; intro v2 W4 hQ4 hg4'))
          · refine ⟨⟨m + 1, _, by omega, by go_num, ?_, hQ4, (HGa h6).out⟩, by simp [intOf]; omega⟩
            rw [HT.out]
            exact hO3.other hg4' hQ4.1 (hO3.apart hQ3 (by decide))
          · refine ⟨⟨m + 1, gs, by omega, by go_num, ?_, hQ3, HG.out⟩, by simp [intOf]; omega⟩
            rw [HT.out]
            exact hO3
        · have h6' : ¬ (gs.length : Int) < 6 := by omega
          clear HGa
          go_wp2_with (first
            | (at_builtin; refine app1g (k := intK) cv [.int .i64 cv] gb _ _ 26 (.int .i64 0) 8 rfl rfl Try.underlying26 inf3 rfl (by decide) (by decide) rfl rfl hg4 hO2 rfl (by rw [turnedF, List.length_map, List.length_range]; omega) ?_; intro v1 W3 hO3 hg3; have hQ3 := hQ2.other hg3 hO3.1 HT0.out))
          all_goals
            refine ⟨⟨m + 1, gs, by omega, by go_num, ?_, hQ3, HG.out⟩, by simp [intOf]; omega⟩
            rw [HT.out]
            exact hO3
    · have hlt' : ¬ (m : Int) < (xs.length : Int) := by omega
      obtain rfl : m = xs.length := by omega
      have hO' := Lib.hid hO
      have hQ' := Lib.hid hQ
      have hG' := Lib.hid hG
      clear hO hQ hG
      go_wp2
      go_ret2
      exact ⟨_, _, gs, rfl, hO'.out.sl (by rw [turnedF, List.length_map, List.length_range]; omega), hQ'.out.sl (by have := hG'.out.1; omega), hG'.out, hE0.trans hO'.out.1⟩
end Go.Proofs.Tp
