import Derived.Test.YtnlknpcbdciljaaLb3
import Derived.Test.YtnlknpcbdciljaaGrow2
/- Package cipher: whether a key agrees with a guess. -/
namespace Go.Proofs.Tp
open Go.RowKit Go.Proofs.Gr
set_option linter.unusedVariables false
set_option linter.unusedSimpArgs false
set_option maxRecDepth 100000
attribute [local go_sem] below_alloc' below_drewN' below_drew' below_set' Below.refl
def agreeF (s : Int) (k : CKey) (xs : List Int) (g : Guess) : Bool := codeF s k g.plain g.at_ == xs.getD g.at_.toNat 0
set_option maxHeartbeats 1000000 in
theorem agree_59 (s wd : Int) (k : CKey) (xs : List Int) (g : Guess) (KK D : Value) (A : Option Addr) (c gb gk gc : Nat) (w : World) (hs : 1 ≤ s ∧ s ≤ 1000) (h1 : 0 ≤ k.mul ∧ k.mul ≤ 1000) (h2 : 0 ≤ k.add ∧ k.add ≤ 1000) (h3 : 0 ≤ k.step ∧ k.step ≤ 1000) (hl : xs.length ≤ 1000)
    (hg0 : 0 ≤ g.at_ ∧ g.at_ < xs.length) (hg1 : 0 ≤ g.plain ∧ g.plain ≤ 1000) (hK : KK.oneCell' = true) (hD : D.oneCell' = true) (hx : SlA intK w A xs)
    (hc : ∀ W, Ext w W → W.cell? ⟨gc, 0, none⟩ = some (.slice A xs.length c))
    (hk : ∀ W, Ext w W → W.cell? ⟨gk, 0, none⟩ = some (.int .i64 k.mul) ∧ W.cell? ⟨gk, 1, none⟩ = some (.int .i64 k.add) ∧ W.cell? ⟨gk, 2, none⟩ = some (.int .i64 k.step))
    (hb : ∀ W, Ext w W → W.cell? ⟨gb, 0, none⟩ = some (.int .i64 s) ∧ W.cell? ⟨gb, 1, none⟩ = some (.int .i64 wd) ∧ W.cell? ⟨gb, 2, none⟩ = some KK ∧ W.cell? ⟨gb, 3, none⟩ = some D) :
    Calls Try.prog 59 #[.agg #[.int .i64 g.at_, .int .i64 g.plain], .pointer (some ⟨gb, 0, none⟩), .pointer (some ⟨gk, 0, none⟩), .pointer (some ⟨gc, 0, none⟩)] w fun e w' => e = .returned (.bool (agreeF s k xs g)) ∧ Ext w w' := by
  obtain ⟨at_, pl⟩ := g
  simp only at *
  obtain ⟨gi, rfl⟩ : ∃ gi : Nat, at_ = gi := ⟨at_.toNat, by omega⟩
  have hi : gi < xs.length := by omega
  obtain ⟨b, off, cs, rfl, hcs, hat⟩ := Sl.at_ hx gi hi
  have hcs' : cs = [.int .i64 xs[gi]] := by simpa [intK, scalar] using hcs
  subst hcs'
  simp only [show intK.sz = 1 from rfl, Nat.mul_one] at hat
  obtain ⟨w0, hw0⟩ : ∃ w0, w0 = w.alloc (.cells #[.int .i64 (gi : Int), .int .i64 pl] 85) := ⟨_, rfl⟩
  have hE0 : Ext w w0 := by rw [hw0]; exact e1 w _
  have hsz : w0.heap.size = w.heap.size + 1 := by rw [hw0]; simp
  have hgb : ∀ W, Ext w0 W → W.cell? ⟨w.heap.size, 0, none⟩ = some (.int .i64 (gi : Int)) ∧ W.cell? ⟨w.heap.size, 1, none⟩ = some (.int .i64 pl) := fun W hW => by
    refine ⟨?_, ?_⟩ <;> (rw [hW.cell (by rw [hsz]; simp only []; omega), hw0]; simp [go_sem])
  have hx' := fun (W : World) (h : Ext w0 W) => at1 hat (hE0.trans h)
  have hc' := fun (W : World) (h : Ext w0 W) => hc W (hE0.trans h)
  have hk' := fun (W : World) (h : Ext w0 W) => hk W (hE0.trans h)
  have hb' := fun (W : World) (h : Ext w0 W) => hb W (hE0.trans h)
  have hcode := fun (W : World) => Lib.hid (code_43 s wd k pl gi KK D W hs h1 h2 h3 hg1 (by omega) hK hD)
  obtain ⟨cv, hcv⟩ : ∃ cv, cv = codeF s k pl gi := ⟨_, rfl⟩
  rw [← hcv] at hcode
  obtain ⟨x, hxe⟩ : ∃ x, x = xs[gi] := ⟨_, rfl⟩
  rw [← hxe] at hx'
  have hv := Lib.hid (show (cv == x) = agreeF s k xs ⟨gi, pl⟩ by
    rw [agreeF, hcv, hxe]
    simp only [Int.toNat_natCast]
    rw [List.getD_eq_getElem?_getD, List.getElem?_eq_getElem hi]
    rfl)
  have hi' : (gi : Int) < (xs.length : Int) := by omega
  clear hcs hat hx hc hk hb hcv hxe hg0
  go_enter Try.func59, Try.ntmps59
  go_wp2_with fail
  rw [← hw0]
  clear hw0 hsz
  refine region_lit 13 Ext (fun i v W => match i with | 0 => v = .agg #[.int .i64 s, .int .i64 wd, KK, D] | 1 => v = .agg #[.int .i64 k.mul, .int .i64 k.add, .int .i64 k.step] | 2 => v = .pointer (some ⟨w.heap.size, 1, none⟩) | 3 => v = .int .i64 pl | 4 => v = .pointer (some ⟨w.heap.size, 0, none⟩) | 5 => v = .int .i64 (gi : Int) | 6 => v = .int .i64 cv | 7 => v = .slice (some ⟨b, off, none⟩) xs.length c | 8 => v = .pointer (some ⟨w.heap.size, 0, none⟩) | 9 => v = .int .i64 (gi : Int) | 10 => v = .pointer (some ⟨b, off + gi, none⟩) | 11 => v = .int .i64 x | 12 => v = .bool (cv == x) | _ => True) (by kernel_rfl) (by kernel_rfl) Ext.refl Ext.trans (Ext.dr (Ext.refl _) 1) ⟨?_, ?_, ?_, ?_, ?_, ?_, ?_, ?_, ?_, ?_, ?_, ?_, ?_, trivial⟩ ?_
  · refine StepG.plain rfl ?_
    rintro u W A' hA hW - K hKK
    have a1 := ev_out 1 hA (by kernel_rfl) (by simp)
    obtain ⟨b0, b1, b2, b3⟩ := hb' W hW
    clear hA
    go_simp
    exact hKK _ _ (Ext.refl _) (fun _ _ => rfl)
  · refine StepG.plain rfl ?_
    rintro u W A' hA hW - K hKK
    have a2 := ev_out 2 hA (by kernel_rfl) (by simp)
    obtain ⟨k0, k1, k2⟩ := hk' W hW
    clear hA
    go_simp
    exact hKK _ _ (Ext.refl _) (fun _ _ => rfl)
  · refine StepG.plain rfl ?_
    rintro u W A' hA hW - K hKK
    have a4 := ev_out 4 hA (by kernel_rfl) (by simp)
    clear hA
    go_simp
    exact hKK _ _ (Ext.refl _) (fun _ _ => rfl)
  · refine StepG.plain rfl ?_
    rintro u W A' hA hW ⟨h2, -⟩ K hKK
    simp only at h2
    have a8 := ev_in 8 2 hA (by kernel_rfl) (by simp)
    obtain ⟨q0, q1⟩ := hgb W hW
    clear hA
    go_simp
    exact hKK _ _ (Ext.refl _) (fun _ _ => rfl)
  · refine StepG.plain rfl ?_
    rintro u W A' hA hW - K hKK
    have a4 := ev_out 4 hA (by kernel_rfl) (by simp)
    clear hA
    go_simp
    exact hKK _ _ (Ext.refl _) (fun _ _ => rfl)
  · refine StepG.plain rfl ?_
    rintro u W A' hA hW ⟨h4, -⟩ K hKK
    simp only at h4
    have a10 := ev_in 10 4 hA (by kernel_rfl) (by simp)
    obtain ⟨q0, q1⟩ := hgb W hW
    clear hA
    go_simp
    exact hKK _ _ (Ext.refl _) (fun _ _ => rfl)
  · refine StepG.plain rfl ?_
    rintro u W A' hA hW ⟨h0, h1, h3, h5, -⟩ K hKK
    simp only at h0 h1 h3 h5
    have a6 := ev_in 6 0 hA (by kernel_rfl) (by simp)
    have a7 := ev_in 7 1 hA (by kernel_rfl) (by simp)
    have a9 := ev_in 9 3 hA (by kernel_rfl) (by simp)
    have a11 := ev_in 11 5 hA (by kernel_rfl) (by simp)
    have hcl := hcode W
    clear hA
    go_simp
    refine hcl.out.mono ?_
    rintro e W1 ⟨rfl, hE⟩
    exact hKK _ _ hE (fun _ _ => rfl)
  · refine StepG.plain rfl ?_
    rintro u W A' hA hW - K hKK
    have a3 := ev_out 3 hA (by kernel_rfl) (by simp)
    have q := hc' W hW
    clear hA
    go_simp
    exact hKK _ _ (Ext.refl _) (fun _ _ => rfl)
  · refine StepG.plain rfl ?_
    rintro u W A' hA hW - K hKK
    have a4 := ev_out 4 hA (by kernel_rfl) (by simp)
    clear hA
    go_simp
    exact hKK _ _ (Ext.refl _) (fun _ _ => rfl)
  · refine StepG.plain rfl ?_
    rintro u W A' hA hW ⟨h8, -⟩ K hKK
    simp only at h8
    have a14 := ev_in 14 8 hA (by kernel_rfl) (by simp)
    obtain ⟨q0, q1⟩ := hgb W hW
    clear hA
    go_simp
    exact hKK _ _ (Ext.refl _) (fun _ _ => rfl)
  · refine StepG.plain rfl ?_
    rintro u W A' hA hW ⟨h7, h9, -⟩ K hKK
    simp only at h7 h9
    have a13 := ev_in 13 7 hA (by kernel_rfl) (by simp)
    have a15 := ev_in 15 9 hA (by kernel_rfl) (by simp)
    clear hA
    go_simp
    exact hKK _ _ (Ext.refl _) (fun _ _ => rfl)
  · refine StepG.plain rfl ?_
    rintro u W A' hA hW ⟨h10, -⟩ K hKK
    simp only at h10
    have a16 := ev_in 16 10 hA (by kernel_rfl) (by simp)
    have q := hx' W hW
    clear hA
    go_simp
    exact hKK _ _ (Ext.refl _) (fun _ _ => rfl)
  · refine StepG.plain rfl ?_
    rintro u W A' hA hW ⟨h6, h11, -⟩ K hKK
    simp only at h6 h11
    have a12 := ev_in 12 6 hA (by kernel_rfl) (by simp)
    have a17 := ev_in 17 11 hA (by kernel_rfl) (by simp)
    clear hA
    go_simp
    exact hKK _ _ (Ext.refl _) (fun _ _ => rfl)
  · rintro u W hW ⟨-, -, -, -, -, -, -, -, -, -, -, -, h12, -⟩
    simp only at h12
    have hB := hE0.trans hW
    simp [puts, dstOf, Act.put]
    rw [h12]
    clear hc' hk' hb' hx' hgb hcode
    go_wp2_with fail
    go_ret
    exact ⟨ret_bool hv.out, hB⟩
end Go.Proofs.Tp
