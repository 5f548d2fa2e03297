import Derived.Test.YtnlknpcbdciljaaLb6
import Derived.Test.YtnlknpcbdciljaaOwn
/- Package cipher: all numbers that Add can be. -/
namespace Go.Proofs.Tp
open Go.RowKit Go.Proofs.Gr
set_option linter.unusedVariables false
set_option linter.unusedSimpArgs false
set_option maxRecDepth 100000
attribute [local go_sem] below_alloc' below_drewN' below_drew' below_set' Below.refl
def addsF (s : Int) (k : CKey) (xs : List Int) : List Guess → List Int
  | [] => (List.range s.toNat).map fun n : Nat => (n : Int)
  | g :: _ => [(xs.getD g.at_.toNat 0 + s - codeF s k g.plain g.at_) % s]
theorem codeF_bound (s : Int) (k : CKey) (n a : Int) (hs : 0 < s) : 0 ≤ codeF s k n a ∧ codeF s k n a < s := ⟨Int.emod_nonneg _ (by omega), Int.emod_lt_of_pos _ hs⟩
theorem ow_one {w0 W : World} {z : Int} {v : Value} (hE : Ext w0 W) (h : Li w0 3 1 [.int .i64 z] v W) : Ow intK 3 w0 W v [z] := by
  obtain ⟨g, rfl, h2, h3, h4⟩ := h
  refine ⟨hE, [[.int .i64 z]], rfl, fun i hi hi' => ?_, rfl, .inr ⟨g, 1, #[.int .i64 z], rfl, h2, h4, Nat.le_refl _, by unfold maxLen; omega, rfl, rfl⟩⟩
  obtain rfl : i = 0 := by simpa using hi
  rfl
set_option maxHeartbeats 2000000 in
theorem adds_58_some (s wd : Int) (k : CKey) (xs : List Int) (g : Guess) (gs : List Guess) (KK D : Value) (A B : Option Addr) (c d : Nat) (w : World) (hs : 1 ≤ s ∧ s ≤ 1000) (h1 : 0 ≤ k.mul ∧ k.mul ≤ 1000) (h2 : 0 ≤ k.add ∧ k.add ≤ 1000) (h3 : 0 ≤ k.step ∧ k.step ≤ 1000) (hl : xs.length ≤ 1000) (hgl : (g :: gs).length ≤ 1000)
    (hg0 : 0 ≤ g.at_ ∧ g.at_ < xs.length) (hg1 : 0 ≤ g.plain ∧ g.plain ≤ 1000) (hxb : ∀ x ∈ xs, 0 ≤ x ∧ x ≤ 1000) (hK : KK.oneCell' = true) (hD : D.oneCell' = true) (hx : SlA intK w A xs) (hg : SlA guessK w B (g :: gs)) :
    Calls Try.prog 58 #[.agg #[.int .i64 s, .int .i64 wd, KK, D], .agg #[.int .i64 k.mul, .int .i64 k.add, .int .i64 k.step], .slice A xs.length c, .slice B (g :: gs).length d] w fun e w' => ∃ v, e = .returned v ∧ OwX intK 3 w w' v (addsF s k xs (g :: gs)) := by
  obtain ⟨b2, off2, cs2, rfl, hcs2, hat2⟩ := Sl.at_ hg 0 (by simp)
  have hcs2' : cs2 = [.int .i64 g.at_, .int .i64 g.plain] := hcs2
  subst hcs2'
  simp only [show guessK.sz = 2 from rfl, Nat.zero_mul, Nat.add_zero] at hat2
  obtain ⟨g0c, g1c⟩ := at2 hat2 (e2 w (.cells #[.int .i64 s, .int .i64 wd, KK, D] 49) (.cells #[.int .i64 k.mul, .int .i64 k.add, .int .i64 k.step] 57))
  obtain ⟨at_, pl⟩ := g
  simp only at *
  obtain ⟨gi, rfl⟩ : ∃ gi : Nat, at_ = gi := ⟨at_.toNat, by omega⟩
  have hi : gi < xs.length := by omega
  obtain ⟨b, off, cs, rfl, hcs, hat⟩ := Sl.at_ hx gi hi
  have hcs' : cs = [.int .i64 xs[gi]] := by simpa [intK, scalar] using hcs
  subst hcs'
  simp only [show intK.sz = 1 from rfl, Nat.mul_one] at hat
  obtain ⟨n, hn⟩ : ∃ n, n = ((⟨gi, pl⟩ : Guess) :: gs).length := ⟨_, rfl⟩
  have hn0 : 0 < n := by rw [hn]; simp
  rw [← hn] at hgl ⊢
  have hcode := fun (W : World) => Lib.hid (code_43 s wd k pl gi KK D W hs h1 h2 h3 hg1 (by omega) hK hD)
  have hcb := codeF_bound s k pl gi (by omega)
  obtain ⟨cv, hcv⟩ : ∃ cv, cv = codeF s k pl gi := ⟨_, rfl⟩
  rw [← hcv] at hcode hcb
  obtain ⟨hcb0, hcb1⟩ := hcb
  obtain ⟨hx0, hx1⟩ := hxb xs[gi] (List.getElem_mem hi)
  obtain ⟨x, hxe⟩ : ∃ x, x = xs[gi] := ⟨_, rfl⟩
  rw [← hxe] at hat hx0 hx1
  obtain ⟨z, hze⟩ : ∃ z, z = (x + s - cv) % s := ⟨_, rfl⟩
  have HF := Lib.hid (show addsF s k xs (⟨gi, pl⟩ :: gs) = [z] by
    rw [addsF, hze, hcv, hxe]
    simp only [Int.toNat_natCast]
    rw [List.getD_eq_getElem?_getD, List.getElem?_eq_getElem hi]
    rfl)
  have hzs := hze.symm
  have htm : (x + s - cv).tmod s = z := by rw [hze]; exact Int.tmod_eq_emod_of_nonneg (by omega)
  have hz0 : ¬ s = 0 := by omega
  have hi' : (gi : Int) < (xs.length : Int) := by omega
  rw [HF.out]
  obtain ⟨w0, hw0⟩ : ∃ w0, w0 = ((w.alloc (.cells #[.int .i64 s, .int .i64 wd, KK, D] 49)).alloc (.cells #[.int .i64 k.mul, .int .i64 k.add, .int .i64 k.step] 57)).alloc (.cells #[.int .i64 (gi : Int), .int .i64 pl] 85) := ⟨_, rfl⟩
  have hE0 : Ext w w0 := by rw [hw0]; exact e3 w _ _ _
  have hsz : w0.heap.size = w.heap.size + 1 + 1 + 1 := by rw [hw0]; simp
  have hb' : ∀ W, Ext w0 W → W.cell? ⟨w.heap.size, 0, none⟩ = some (.int .i64 s) ∧ W.cell? ⟨w.heap.size, 1, none⟩ = some (.int .i64 wd) ∧ W.cell? ⟨w.heap.size, 2, none⟩ = some KK ∧ W.cell? ⟨w.heap.size, 3, none⟩ = some D := fun W hW => by
    refine ⟨?_, ?_, ?_, ?_⟩ <;> (rw [hW.cell (by rw [hsz]; simp only []; omega), hw0]; simp [go_sem])
  have hk' : ∀ W, Ext w0 W → W.cell? ⟨w.heap.size + 1, 0, none⟩ = some (.int .i64 k.mul) ∧ W.cell? ⟨w.heap.size + 1, 1, none⟩ = some (.int .i64 k.add) ∧ W.cell? ⟨w.heap.size + 1, 2, none⟩ = some (.int .i64 k.step) := fun W hW => by
    refine ⟨?_, ?_, ?_⟩ <;> (rw [hW.cell (by rw [hsz]; simp only []; omega), hw0]; simp [go_sem])
  have hgb : ∀ W, Ext w0 W → W.cell? ⟨w.heap.size + 1 + 1, 0, none⟩ = some (.int .i64 (gi : Int)) ∧ W.cell? ⟨w.heap.size + 1 + 1, 1, none⟩ = some (.int .i64 pl) := fun W hW => by
    refine ⟨?_, ?_⟩ <;> (rw [hW.cell (by rw [hsz]; simp only []; omega), hw0]; simp [go_sem])
  have hx' := fun (W : World) (h : Ext w0 W) => at1 hat (hE0.trans h)
  clear hcs hat hx hcv hxe hcs2 hat2 hg hxb hze hn
  go_enter Try.func58, Try.ntmps58
  go_upto_region 3 with fail
  rw [← hw0]
  clear hw0 hsz g0c g1c
  refine region_lit 20 Ext (fun i v W => match i with | 0 => v = .slice (some ⟨b, off, none⟩) xs.length c | 1 => v = .pointer (some ⟨w.heap.size + 1 + 1, 0, none⟩) | 2 => v = .int .i64 (gi : Int) | 3 => v = .pointer (some ⟨b, off + gi, none⟩) | 4 => v = .int .i64 x | 5 => v = .pointer (some ⟨w.heap.size, 0, none⟩) | 6 => v = .int .i64 s | 7 => v = .int .i64 (x + s) | 8 => v = .agg #[.int .i64 s, .int .i64 wd, KK, D] | 9 => v = .agg #[.int .i64 k.mul, .int .i64 k.add, .int .i64 k.step] | 10 => v = .pointer (some ⟨w.heap.size + 1 + 1, 1, none⟩) | 11 => v = .int .i64 pl | 12 => v = .pointer (some ⟨w.heap.size + 1 + 1, 0, none⟩) | 13 => v = .int .i64 (gi : Int) | 14 => v = .int .i64 cv | 15 => v = .int .i64 (x + s - cv) | 16 => v = .pointer (some ⟨w.heap.size, 0, none⟩) | 17 => v = .int .i64 s | 18 => v = .int .i64 z | 19 => Li w0 3 1 [.int .i64 z] v W | _ => True) (by kernel_rfl) (by kernel_rfl) Ext.refl Ext.trans (Ext.dr (Ext.refl _) 1) ⟨?_, ?_, ?_, ?_, ?_, ?_, ?_, ?_, ?_, ?_, ?_, ?_, ?_, ?_, ?_, ?_, ?_, ?_, ?_, ?_, trivial⟩ ?_
  · refine StepG.plain rfl ?_
    rintro u W A' hA hW - K hKK
    have a2 := ev_out 2 hA (by kernel_rfl) (by simp)
    clear hA
    go_simp
    exact hKK _ _ (Ext.refl _) (fun _ _ => rfl)
  · refine StepG.plain rfl ?_
    rintro u W A' hA hW - K hKK
    have a9 := ev_out 9 hA (by kernel_rfl) (by simp)
    clear hA
    go_simp
    exact hKK _ _ (Ext.refl _) (fun _ _ => rfl)
  · refine StepG.plain rfl ?_
    rintro u W A' hA hW ⟨h1, -⟩ K hKK
    simp only at h1
    have a18 := ev_in 18 1 hA (by kernel_rfl) (by simp)
    obtain ⟨q0, q1⟩ := hgb W hW
    clear hA
    go_simp
    exact hKK _ _ (Ext.refl _) (fun _ _ => rfl)
  · refine StepG.plain rfl ?_
    rintro u W A' hA hW ⟨h0, h2, -⟩ K hKK
    simp only at h0 h2
    have a17 := ev_in 17 0 hA (by kernel_rfl) (by simp)
    have a19 := ev_in 19 2 hA (by kernel_rfl) (by simp)
    clear hA
    go_simp
    exact hKK _ _ (Ext.refl _) (fun _ _ => rfl)
  · refine StepG.plain rfl ?_
    rintro u W A' hA hW ⟨h3, -⟩ K hKK
    simp only at h3
    have a20 := ev_in 20 3 hA (by kernel_rfl) (by simp)
    have q := hx' W hW
    clear hA
    go_simp
    exact hKK _ _ (Ext.refl _) (fun _ _ => rfl)
  · refine StepG.plain rfl ?_
    rintro u W A' hA hW - K hKK
    have a4 := ev_out 4 hA (by kernel_rfl) (by simp)
    clear hA
    go_simp
    exact hKK _ _ (Ext.refl _) (fun _ _ => rfl)
  · refine StepG.plain rfl ?_
    rintro u W A' hA hW ⟨h5, -⟩ K hKK
    simp only at h5
    have a22 := ev_in 22 5 hA (by kernel_rfl) (by simp)
    obtain ⟨b0, b1, b2, b3⟩ := hb' W hW
    clear hA
    go_simp
    exact hKK _ _ (Ext.refl _) (fun _ _ => rfl)
  · refine StepG.plain rfl ?_
    rintro u W A' hA hW ⟨h4, h6, -⟩ K hKK
    simp only at h4 h6
    have a21 := ev_in 21 4 hA (by kernel_rfl) (by simp)
    have a23 := ev_in 23 6 hA (by kernel_rfl) (by simp)
    clear hA
    go_simp
    exact hKK _ _ (Ext.refl _) (fun _ _ => by first | rfl | (show Value.int _ _ = Value.int _ _; congr 1; rw [IntKind.wrap_i64]; omega) | (show Value.int _ _ = Value.int _ _; congr 1))
  · refine StepG.plain rfl ?_
    rintro u W A' hA hW - K hKK
    have a4 := ev_out 4 hA (by kernel_rfl) (by simp)
    obtain ⟨b0, b1, b2, b3⟩ := hb' W hW
    clear hA
    go_simp
    exact hKK _ _ (Ext.refl _) (fun _ _ => rfl)
  · refine StepG.plain rfl ?_
    rintro u W A' hA hW - K hKK
    have a5 := ev_out 5 hA (by kernel_rfl) (by simp)
    obtain ⟨k0, k1, k2⟩ := hk' W hW
    clear hA
    go_simp
    exact hKK _ _ (Ext.refl _) (fun _ _ => rfl)
  · refine StepG.plain rfl ?_
    rintro u W A' hA hW - K hKK
    have a9 := ev_out 9 hA (by kernel_rfl) (by simp)
    clear hA
    go_simp
    exact hKK _ _ (Ext.refl _) (fun _ _ => rfl)
  · refine StepG.plain rfl ?_
    rintro u W A' hA hW ⟨h10, -⟩ K hKK
    simp only at h10
    have a27 := ev_in 27 10 hA (by kernel_rfl) (by simp)
    obtain ⟨q0, q1⟩ := hgb W hW
    clear hA
    go_simp
    exact hKK _ _ (Ext.refl _) (fun _ _ => rfl)
  · refine StepG.plain rfl ?_
    rintro u W A' hA hW - K hKK
    have a9 := ev_out 9 hA (by kernel_rfl) (by simp)
    clear hA
    go_simp
    exact hKK _ _ (Ext.refl _) (fun _ _ => rfl)
  · refine StepG.plain rfl ?_
    rintro u W A' hA hW ⟨h12, -⟩ K hKK
    simp only at h12
    have a29 := ev_in 29 12 hA (by kernel_rfl) (by simp)
    obtain ⟨q0, q1⟩ := hgb W hW
    clear hA
    go_simp
    exact hKK _ _ (Ext.refl _) (fun _ _ => rfl)
  · refine StepG.plain rfl ?_
    rintro u W A' hA hW ⟨h8, h9, h11, h13, -⟩ K hKK
    simp only at h8 h9 h11 h13
    have a25 := ev_in 25 8 hA (by kernel_rfl) (by simp)
    have a26 := ev_in 26 9 hA (by kernel_rfl) (by simp)
    have a28 := ev_in 28 11 hA (by kernel_rfl) (by simp)
    have a30 := ev_in 30 13 hA (by kernel_rfl) (by simp)
    have hcl := hcode W
    clear hA
    go_simp
    refine hcl.out.mono ?_
    rintro e W1 ⟨rfl, hE⟩
    exact hKK _ _ hE (fun _ _ => rfl)
  · refine StepG.plain rfl ?_
    rintro u W A' hA hW ⟨h7, h14, -⟩ K hKK
    simp only at h7 h14
    have a24 := ev_in 24 7 hA (by kernel_rfl) (by simp)
    have a31 := ev_in 31 14 hA (by kernel_rfl) (by simp)
    clear hA
    go_simp
    exact hKK _ _ (Ext.refl _) (fun _ _ => by first | rfl | (show Value.int _ _ = Value.int _ _; congr 1; rw [IntKind.wrap_i64]; omega) | (show Value.int _ _ = Value.int _ _; congr 1))
  · refine StepG.plain rfl ?_
    rintro u W A' hA hW - K hKK
    have a4 := ev_out 4 hA (by kernel_rfl) (by simp)
    clear hA
    go_simp
    exact hKK _ _ (Ext.refl _) (fun _ _ => rfl)
  · refine StepG.plain rfl ?_
    rintro u W A' hA hW ⟨h16, -⟩ K hKK
    simp only at h16
    have a33 := ev_in 33 16 hA (by kernel_rfl) (by simp)
    obtain ⟨b0, b1, b2, b3⟩ := hb' W hW
    clear hA
    go_simp
    exact hKK _ _ (Ext.refl _) (fun _ _ => rfl)
  · refine StepG.plain rfl ?_
    rintro u W A' hA hW ⟨h15, h17, -⟩ K hKK
    simp only at h15 h17
    have a32 := ev_in 32 15 hA (by kernel_rfl) (by simp)
    have a34 := ev_in 34 17 hA (by kernel_rfl) (by simp)
    clear hA
    go_simp
    exact hKK _ _ (Ext.refl _) (fun _ _ => by first | rfl | (show Value.int _ _ = Value.int _ _; congr 1; rw [IntKind.wrap_i64]; omega) | (show Value.int _ _ = Value.int _ _; congr 1))
  · refine StepG.plain rfl ?_
    rintro u W A' hA hW ⟨h18, -⟩ K hKK
    simp only at h18
    have a35 := ev_in 35 18 hA (by kernel_rfl) (by simp)
    clear hA
    go_simp
    exact hKK _ _ (e1 _ _) (fun V hV => (Li.new hW 3 1 _).ext hV)
  · rintro u W hW ⟨-, -, -, -, -, -, -, -, -, -, -, -, -, -, -, -, -, -, -, h19, -⟩
    simp only at h19
    have hB := hE0.trans hW
    have hSl := Lib.hid (show OwX intK 3 w W (u 19) [z] from ⟨w0, hE0, ow_one hW h19⟩)
    obtain ⟨g, hg1, hg2, hg3, hg4⟩ := h19
    rw [hg1] at hSl
    simp [puts, dstOf, Act.put]
    rw [hg1]
    clear hk' hb' hx' hgb hcode
    go_wp2_with fail
    go_ret
    exact ⟨_, rfl, hSl.out⟩
end Go.Proofs.Tp
