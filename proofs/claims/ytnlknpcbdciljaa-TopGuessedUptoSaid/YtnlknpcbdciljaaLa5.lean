import Derived.Test.YtnlknpcbdciljaaLa4
/- The statement's own test of books. -/
namespace Go.Proofs.Tp
open Go.RowKit Go.Proofs.Gr
set_option linter.unusedVariables false
set_option linter.unusedSimpArgs false
set_option maxRecDepth 100000
attribute [local go_sem] below_alloc' below_drewN' below_drew' below_set' Below.refl
/-- a book that is valid -/
structure Valid (s wd : Int) (ks : List CKey) (ds : List Int) : Prop where
  prime : primeB s = true
  words : inR wd 1 s = true
  klo : 0 < ks.length
  khi : ks.length ≤ 5
  dlo : 0 < ds.length
  dhi : ds.length ≤ 8
  key : ks.all (keyB s) = true
  day : (ds.all fun d => inR d 0 ((ks.length : Int) - 1)) = true
theorem bfault_7 (s wd : Int) (ks : List CKey) (ds : List Int) (KA DA : Option Addr) (kc dc : Nat) (w : World) (hs : -1000000000 ≤ s ∧ s ≤ 1000000000) (hk : SlA ckeyK w KA ks) (hd : SlA intK w DA ds) (hkl : ks.length ≤ 1048576) (hdl : ds.length ≤ 1048576) :
    Calls Try.prog 7 #[.agg #[.int .i64 s, .int .i64 wd, .slice KA ks.length kc, .slice DA ds.length dc]] w fun e w' => RF (Valid s wd ks ds) e ∧ Ext w w' := by
  obtain ⟨w0, hw0⟩ : ∃ w0, w0 = w.alloc (.cells #[.int .i64 s, .int .i64 wd, .slice KA ks.length kc, .slice DA ds.length dc] 28) := ⟨_, rfl⟩
  have hE0 : Ext w w0 := by rw [hw0]; exact e1 w _
  have hsz : w0.heap.size = w.heap.size + 1 := by rw [hw0]; simp
  have hb : ∀ W, Below w0.heap.size w0 W → W.cell? ⟨w.heap.size, 0, none⟩ = some (.int .i64 s) ∧ W.cell? ⟨w.heap.size, 1, none⟩ = some (.int .i64 wd) ∧ W.cell? ⟨w.heap.size, 2, none⟩ = some (.slice KA ks.length kc) ∧ W.cell? ⟨w.heap.size, 3, none⟩ = some (.slice DA ds.length dc) := fun W hW => by
    refine ⟨?_, ?_, ?_, ?_⟩ <;> (rw [hW.cell (by rw [hsz]; simp only []; omega), hw0]; simp [go_sem])
  obtain ⟨b0, b1, b2, b3⟩ := hb w0 (Below.refl _ _)
  have hp := fun (W : World) => Lib.hid (prime_16 s W)
  by_cases h5 : 5 < ks.length
  · have h5' : decide ((5 : Int) < (ks.length : Int)) = true := by simp; omega
    go_enter Try.func7, Try.ntmps7
    go_wp2
    go_ret
    exact ⟨⟨3, rfl, fun h => absurd h (by decide)⟩, by rw [← hw0]; exact hE0⟩
  · have h5' : decide ((5 : Int) < (ks.length : Int)) = false := by simp; omega
    by_cases h8 : 8 < ds.length
    · have h8' : decide ((8 : Int) < (ds.length : Int)) = true := by simp; omega
      go_enter Try.func7, Try.ntmps7
      go_wp2
      go_ret
      exact ⟨⟨3, rfl, fun h => absurd h (by decide)⟩, by rw [← hw0]; exact hE0⟩
    · have h8' : decide ((8 : Int) < (ds.length : Int)) = false := by simp; omega
      cases hpr : primeB s
      · simp only [hpr] at hp
        go_enter Try.func7, Try.ntmps7
        go_wp2_with (go_at_call 16; refine (hp _).out.mono ?_; rintro e W1 ⟨rfl, hE1⟩)
        have hB1 := (show Ext w _ by rw [← hw0]; exact hE0).trans hE1
        go_wp2
        go_ret
        exact ⟨⟨1, rfl, fun h => absurd h (by decide)⟩, by rw [← hw0] at hE1; exact hE0.trans hE1⟩
      · simp only [hpr] at hp
        go_enter Try.func7, Try.ntmps7
        go_upto_region 3 with fail
        rw [← hw0]
        clear hw0
        cases hwd : inR wd 1 s
        · go_wp2_with (first
            | (go_at_call 16; refine (hp _).out.mono ?_; rintro e W1 ⟨rfl, hE1⟩; obtain ⟨c0, c1, c2, c3⟩ := hb W1 hE1)
            | (go_at_call 17; refine (in_17 _ _ _ _).mono ?_; rintro e w' ⟨rfl, rfl⟩))
          go_ret
          exact ⟨⟨1, rfl, fun h => absurd h (by decide)⟩, hE0.trans hE1⟩
        · by_cases k0 : ks.length = 0
          · have k0' : ((ks.length : Int) == 0) = true := by simpa using k0
            go_wp2_with (first
              | (go_at_call 16; refine (hp _).out.mono ?_; rintro e W1 ⟨rfl, hE1⟩; obtain ⟨c0, c1, c2, c3⟩ := hb W1 hE1)
              | (go_at_call 17; refine (in_17 _ _ _ _).mono ?_; rintro e w' ⟨rfl, rfl⟩))
            go_ret
            exact ⟨⟨1, rfl, fun h => absurd h (by decide)⟩, hE0.trans hE1⟩
          · have k0' : ((ks.length : Int) == 0) = false := by rw [beq_eq_false_iff_ne]; omega
            by_cases d0 : ds.length = 0
            · have d0' : ((ds.length : Int) == 0) = true := by simpa using d0
              go_wp2_with (first
                | (go_at_call 16; refine (hp _).out.mono ?_; rintro e W1 ⟨rfl, hE1⟩; obtain ⟨c0, c1, c2, c3⟩ := hb W1 hE1)
                | (go_at_call 17; refine (in_17 _ _ _ _).mono ?_; rintro e w' ⟨rfl, rfl⟩))
              go_ret
              exact ⟨⟨1, rfl, fun h => absurd h (by decide)⟩, hE0.trans hE1⟩
            · have d0' : ((ds.length : Int) == 0) = false := by rw [beq_eq_false_iff_ne]; omega
              go_wp2_with (first
                | (go_at_call 16; refine (hp _).out.mono ?_; rintro e W1 ⟨rfl, hE1⟩; obtain ⟨c0, c1, c2, c3⟩ := hb W1 hE1)
                | (go_at_call 17; refine (in_17 _ _ _ _).mono ?_; rintro e w' ⟨rfl, rfl⟩))
              clear hp b0 b1 b2 b3 c0 c1 c2 c3
              go_loopw [3] (fun i wr => ∃ k : Nat, k ≤ ks.length ∧ i = .int .i64 k ∧ (ks.take k).all (keyB s) = true ∧ Below w0.heap.size w0 wr) (fun i _ => ks.length - (intOf i).toNat)
              case atStart => exact ⟨0, Nat.zero_le _, rfl, rfl, hE1⟩
              case round =>
                obtain ⟨k, hkk, rfl, hno, hB⟩ := hrel
                have HNO := Lib.hid hno
                have HB := Lib.hid hB
                clear hno
                obtain ⟨c0, c1, c2, c3⟩ := hb wr hB
                by_cases hlt : k < ks.length
                · have hlt' : (k : Int) < (ks.length : Int) := by omega
                  obtain ⟨b, off, cs, rfl, hcs, hat⟩ := Sl.at_ hk k hlt
                  have hcs' : cs = [.int .i64 ks[k].mul, .int .i64 ks[k].add, .int .i64 ks[k].step] := hcs
                  subst hcs'
                  simp only [show ckeyK.sz = 3 from rfl] at hat
                  have hb' := fun (W : World) (h : Ext wr W) => hb W (hB.trans (h.mono hB.size))
                  have hc := fun (W : World) (h : Ext wr W) => at3 hat (hE0.trans (hB.trans (h.mono hB.size)))
                  have hisk := fun (W : World) => Lib.hid (iskey_18 s wd ks[k] (.slice (some ⟨b, off, none⟩) ks.length kc) (.slice DA ds.length dc) W hs rfl rfl)
                  have hB1 := Lib.hid hB
                  clear hat hcs hk hb hB
                  go_upto_region 8 with fail
                  refine region_lit 8 Ext (fun i v W => match i with | 0 => v = .agg #[.int .i64 s, .int .i64 wd, .slice (some ⟨b, off, none⟩) ks.length kc, .slice DA ds.length dc] | 1 => v = .pointer (some ⟨w.heap.size, 2, none⟩) | 2 => v = .slice (some ⟨b, off, none⟩) ks.length kc | 3 => v = .int .i64 (k : Int) | 4 => v = .pointer (some ⟨b, off + k * 3, none⟩) | 5 => v = .agg #[.int .i64 ks[k].mul, .int .i64 ks[k].add, .int .i64 ks[k].step] | 6 => v = .bool (keyB s ks[k]) | 7 => v = .bool (!keyB s ks[k]) | _ => True) (by kernel_rfl) (by kernel_rfl) Ext.refl Ext.trans (Ext.dr (Ext.refl _) 1) ⟨?_, ?_, ?_, ?_, ?_, ?_, ?_, ?_, trivial⟩ ?_
                  · refine StepG.plain rfl ?_
                    rintro u W A' hA hW - K hK
                    have a1 := ev_out 1 hA (by kernel_rfl) (by simp)
                    obtain ⟨q0, q1, q2, q3⟩ := hb' W hW
                    clear hA
                    go_simp
                    exact hK _ _ (Ext.refl _) (fun _ _ => rfl)
                  · refine StepG.plain rfl ?_
                    rintro u W A' hA hW - K hK
                    have a1 := ev_out 1 hA (by kernel_rfl) (by simp)
                    clear hA
                    go_simp
                    exact hK _ _ (Ext.refl _) (fun _ _ => rfl)
                  · refine StepG.plain rfl ?_
                    rintro u W A' hA hW ⟨h1, -⟩ K hK
                    simp only at h1
                    have a47 := ev_in 47 1 hA (by kernel_rfl) (by simp)
                    obtain ⟨q0, q1, q2, q3⟩ := hb' W hW
                    clear hA
                    go_simp
                    exact hK _ _ (Ext.refl _) (fun _ _ => rfl)
                  · refine StepG.plain rfl ?_
                    rintro u W A' hA hW - K hK
                    have a3 := ev_out 3 hA (by kernel_rfl) (by simp)
                    clear hA
                    go_simp
                    exact hK _ _ (Ext.refl _) (fun _ _ => rfl)
                  · refine StepG.plain rfl ?_
                    rintro u W A' hA hW ⟨h2, h3, -⟩ K hK
                    simp only at h2 h3
                    have a48 := ev_in 48 2 hA (by kernel_rfl) (by simp)
                    have a49 := ev_in 49 3 hA (by kernel_rfl) (by simp)
                    clear hA
                    go_simp
                    exact hK _ _ (Ext.refl _) (fun _ _ => rfl)
                  · refine StepG.plain rfl ?_
                    rintro u W A' hA hW ⟨h4, -⟩ K hK
                    simp only at h4
                    have a50 := ev_in 50 4 hA (by kernel_rfl) (by simp)
                    obtain ⟨q0, q1, q2⟩ := hc W hW
                    clear hA
                    go_simp
                    exact hK _ _ (Ext.refl _) (fun _ _ => rfl)
                  · refine StepG.plain rfl ?_
                    rintro u W A' hA hW ⟨h0, h5, -⟩ K hK
                    simp only at h0 h5
                    have a46 := ev_in 46 0 hA (by kernel_rfl) (by simp)
                    have a51 := ev_in 51 5 hA (by kernel_rfl) (by simp)
                    have hcl := hisk W
                    clear hA
                    go_simp
                    refine hcl.out.mono ?_
                    rintro e W1 ⟨rfl, hE⟩
                    exact hK _ _ hE (fun _ _ => rfl)
                  · refine StepG.plain rfl ?_
                    rintro u W A' hA hW ⟨h6, -⟩ K hK
                    simp only at h6
                    have a52 := ev_in 52 6 hA (by kernel_rfl) (by simp)
                    clear hA
                    go_simp
                    exact hK _ _ (Ext.refl _) (fun _ _ => rfl)
                  · rintro u W hW ⟨-, -, -, -, -, -, -, h7, -⟩
                    simp only at h7
                    have hBW := Lib.hid (hB1.out.trans (hW.mono hB1.out.size))
                    cases hkb : keyB s ks[k]
                    · simp [puts, dstOf, Act.put]
                      rw [h7, hkb]
                      clear hc hb' hisk h7 hkb
                      go_wp2
                      go_ret
                      exact ⟨⟨1, rfl, fun h => absurd h (by decide)⟩, hE0.trans hBW.out⟩
                    · have hno' := Lib.hid (show (ks.take (k + 1)).all (keyB s) = true by
                        rw [List.take_succ_eq_append_getElem hlt, List.all_append, HNO.out]; simp [hkb])
                      simp [puts, dstOf, Act.put]
                      rw [h7, hkb]
                      clear hc hb' hisk h7 hkb
                      go_wp2
                      exact ⟨⟨k + 1, by omega, by go_num, hno'.out, hBW.out⟩, by simp [intOf]; omega⟩
                · have hlt' : ¬ (k : Int) < (ks.length : Int) := by omega
                  obtain rfl : k = ks.length := by omega
                  have hkeys := Lib.hid (show ks.all (keyB s) = true by have := HNO.out; rwa [List.take_length] at this)
                  clear HNO
                  go_wp2
                  go_loopw [4] (fun i wr => ∃ k : Nat, k ≤ ds.length ∧ i = .int .i64 k ∧ ((ds.take k).all fun d => inR d 0 ((ks.length : Int) - 1)) = true ∧ Below w0.heap.size w0 wr) (fun i _ => ds.length - (intOf i).toNat)
                  case atStart => exact ⟨0, Nat.zero_le _, rfl, rfl, HB.out⟩
                  case round =>
                    obtain ⟨k, hkk, rfl, hno, hB⟩ := hrel
                    have HNO := Lib.hid hno
                    have HB2 := Lib.hid hB
                    clear hno
                    obtain ⟨c0, c1, c2, c3⟩ := hb wr hB
                    by_cases hlt : k < ds.length
                    · have hlt' : (k : Int) < (ds.length : Int) := by omega
                      obtain ⟨b, off, cs, rfl, hcs, hat⟩ := Sl.at_ hd k hlt
                      have hcs' : cs = [.int .i64 ds[k]] := by simpa [intK, scalar] using hcs
                      subst hcs'
                      simp only [show intK.sz = 1 from rfl, Nat.mul_one] at hat
                      have hc := fun (W : World) (h : Below wr.heap.size wr W) => at1 hat (hE0.trans (hB.trans (h.mono hB.size)))
                      have hb2 := fun (W : World) (h : Below wr.heap.size wr W) => (hb W (hB.trans (h.mono hB.size))).2.2.1
                      have hb3 := fun (W : World) (h : Below wr.heap.size wr W) => (hb W (hB.trans (h.mono hB.size))).2.2.2
                      clear hat hcs hd hb hB
                      cases hq : inR ds[k] 0 ((ks.length : Int) - 1)
                      · go_wp2
                        go_quiet (first | (go_at_call 17; refine Calls.quiet_of_same ((in_17 _ _ _ _).mono fun e w' h => ⟨h.1, h.2.symm⟩)))
                        go_wp2
                        go_ret
                        exact ⟨⟨1, rfl, fun h => absurd h (by decide)⟩, hE0.trans (Ext.dr HB2.out _)⟩
                      · have hno' := Lib.hid (show ((ds.take (k + 1)).all fun d => inR d 0 ((ks.length : Int) - 1)) = true by
                          rw [List.take_succ_eq_append_getElem hlt, List.all_append, HNO.out]; simp [hq])
                        go_wp2
                        go_quiet (first | (go_at_call 17; refine Calls.quiet_of_same ((in_17 _ _ _ _).mono fun e w' h => ⟨h.1, h.2.symm⟩)))
                        go_wp2
                        exact ⟨⟨k + 1, by omega, by go_num, hno'.out, Ext.dr HB2.out _⟩, by simp [intOf]; omega⟩
                    · have hlt' : ¬ (k : Int) < (ds.length : Int) := by omega
                      obtain rfl : k = ds.length := by omega
                      have hdays := Lib.hid (show (ds.all fun d => inR d 0 ((ks.length : Int) - 1)) = true by have := HNO.out; rwa [List.take_length] at this)
                      clear HNO
                      go_wp2
                      go_ret
                      exact ⟨⟨0, rfl, fun _ => ⟨hpr, hwd, by omega, by omega, by omega, by omega, hkeys.out, hdays.out⟩⟩, hE0.trans HB2.out⟩
end Go.Proofs.Tp
