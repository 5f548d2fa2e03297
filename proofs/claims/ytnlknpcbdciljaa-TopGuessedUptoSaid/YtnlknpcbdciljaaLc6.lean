import Derived.Test.YtnlknpcbdciljaaLc4
/- A number spelt as a text of digits. -/
namespace Go.Proofs.Tp
open Go.RowKit Go.Proofs.Gr
set_option linter.unusedVariables false
set_option linter.unusedSimpArgs false
set_option maxRecDepth 100000
attribute [local go_sem] below_alloc' below_drewN' below_drew' below_set' Below.refl
def CI (ds : List Nat) : List Value := ds.map fun x : Nat => Value.int .i64 x
/-- block g is turned to what is known of it, or not yet -/
def Tn (g : Nat) (tgt : Obj) (W W' : World) : Prop := W.grownBy W' (some g) ∧ (W'.heap[g]? = W.heap[g]? ∨ W'.heap[g]? = some tgt)
theorem Tn.refl (g : Nat) (tgt : Obj) (W : World) : Tn g tgt W W := ⟨World.grownBy.refl _ _, .inl rfl⟩
theorem Tn.trans {g : Nat} {tgt : Obj} {A B C : World} (h : Tn g tgt A B) (k : Tn g tgt B C) : Tn g tgt A C := by
  refine ⟨World.grownBy.trans h.1 k.1, ?_⟩
  rcases k.2 with e | e
  · rcases h.2 with f | f
    · exact .inl (e.trans f)
    · exact .inr (e.trans f)
  · exact .inr e
theorem Tn.drew (g : Nat) (tgt : Obj) (W : World) : Tn g tgt W W.drew := ⟨⟨rfl, rfl, rfl, Nat.le_refl _, fun _ _ _ => rfl⟩, .inl rfl⟩
theorem Tn.row {g : Nat} {tgt o : Obj} {W W' : World} (h : Tn g tgt W W') (ho : W.heap[g]? = some o) : W'.heap[g]? = some o ∨ W'.heap[g]? = some tgt := by
  rcases h.2 with e | e
  · exact .inl (e.trans ho)
  · exact .inr e
theorem heap_setAt {W : World} {g i : Nat} {cs : List Value} {T : TypeId} (u : Value) (h : W.heap[g]? = some (.cells cs.toArray T (0, 0))) : (W.setCell ⟨g, i, none⟩ u).heap[g]? = some (.cells (cs.set i u).toArray T (0, 0)) := by
  simp only [World.setCell, Array.getElem?_modify, if_true, h, Option.map_some]
  simp
theorem Tn.set {g i : Nat} {cs : List Value} {T : TypeId} {u : Value} {W : World} (h : W.heap[g]? = some (.cells cs.toArray T (0, 0)) ∨ W.heap[g]? = some (.cells (cs.set i u).toArray T (0, 0))) :
    Tn g (.cells (cs.set i u).toArray T (0, 0)) W (W.setCell ⟨g, i, none⟩ u) ∧ (W.setCell ⟨g, i, none⟩ u).heap[g]? = some (.cells (cs.set i u).toArray T (0, 0)) := by
  have : (W.setCell ⟨g, i, none⟩ u).heap[g]? = some (.cells (cs.set i u).toArray T (0, 0)) := by
    rcases h with h | h
    · exact heap_setAt u h
    · rw [heap_setAt u h, List.set_set]
  exact ⟨⟨grownBy_set W g i u, .inr this⟩, this⟩
theorem Tn.at {g i : Nat} {cs : List Value} {T : TypeId} {u : Value} {W : World} (hi : i < cs.length) (h : W.heap[g]? = some (.cells cs.toArray T (0, 0)) ∨ W.heap[g]? = some (.cells (cs.set i u).toArray T (0, 0))) :
    (∃ x, W.cell? ⟨g, i, none⟩ = some x) ∧ W.frozen? ⟨g, i, none⟩ = false := by
  rcases h with h | h
  · exact ⟨⟨cs[i], by rw [cell_of_row W g i _ _ _ h]; simp [hi]⟩, frozen_of_row W g i _ _ h⟩
  · exact ⟨⟨u, by rw [cell_of_row W g i _ _ _ h]; simp [hi]⟩, frozen_of_row W g i _ _ h⟩
def speltF (L : Nat) : Nat → Nat → List Nat
  | _, 0 => []
  | m, k + 1 => speltF L (m / L) k ++ [m % L]
theorem speltF_len (L : Nat) : ∀ (k m : Nat), (speltF L m k).length = k
  | 0, m => rfl
  | k + 1, m => by rw [speltF, List.length_append, speltF_len]; rfl
theorem speltF_lt (L : Nat) (hL : 0 < L) : ∀ (k m : Nat), ∀ x ∈ speltF L m k, x < L
  | 0, m, x, h => by cases h
  | k + 1, m, x, h => by
    rw [speltF] at h
    rcases List.mem_append.1 h with h | h
    · exact speltF_lt L hL k _ x h
    · rw [List.mem_singleton.1 h]; exact Nat.mod_lt _ hL
/-- a row of the call's own, known whole, is a slice of numbers -/
theorem sl_of_row {W : World} {g : Nat} {ds : List Nat} {c : Nat} (h : W.heap[g]? = some (.cells (CI ds).toArray 3 (0, 0))) (hl : ds.length ≤ 1048576) (hc : ds.length ≤ c) : Sl intK W (.slice (some ⟨g, 0, none⟩) ds.length c) (ds.map fun x : Nat => (x : Int)) := by
  refine ⟨some ⟨g, 0, none⟩, c, by simp, by simpa using hc, by simpa using hl, .inr ⟨g, 0, rfl, fun i hi => ?_⟩⟩
  have hi' : i < ds.length := by simpa using hi
  refine ⟨[.int .i64 (ds[i] : Int)], by simp [intK, scalar], At.mk fun j hj => ?_⟩
  obtain rfl : j = 0 := by simpa using hj
  rw [show intK.sz = 1 from rfl, cell_of_row W g _ _ _ _ h]
  simp [CI, hi']
set_option maxHeartbeats 2000000 in
theorem spelt_27 (A : Option Addr) (L c num n : Nat) (w : World) (h3 : 1 ≤ L) (hL : L ≤ 6) (hn : n ≤ 5) (hnum : num ≤ 1000) :
    Calls Try.prog 27 #[.agg #[.slice A L c], .int .i64 num, .int .i64 n] w fun e w' => ∃ v, e = .returned v ∧ Sl intK w' v ((speltF L num n).map fun x : Nat => (x : Int)) ∧ Ext w w' := by
  obtain ⟨w0, hw0⟩ : ∃ w0, w0 = w.alloc (.cells #[.slice A L c] 24) := ⟨_, rfl⟩
  have hE0 : Ext w w0 := by rw [hw0]; exact e1 w _
  have hsz : w0.heap.size = w.heap.size + 1 := by rw [hw0]; simp
  have hb0 : ∀ W, Below (w.heap.size + 1) w0 W → W.cell? ⟨w.heap.size, 0, none⟩ = some (.slice A L c) := fun W hW => by
    rw [hW.cell (by simp), hw0]; simp [go_sem]
  obtain ⟨ti, hti, hz0, hz1, hz2⟩ := info_parts inf3
  go_enter Try.func27, Try.ntmps27
  go_wp2_with (at_make; refine wpList_make_full _ rfl _ _ 26 rfl (w.heap.size + 1) 3 ti (.int .i64 0) 1 Try.underlying26 hti hz0 hz1 .i64 .i64 _ _ n rfl rfl rfl rfl (by rw [hz2]; omega) (by unfold maxLen; omega) (by simp) ?_)
  intro w1 hown hgrow
  rw [← hw0] at hgrow
  have hrow : w1.heap[w.heap.size + 1]? = some (.cells (CI (List.replicate n 0)).toArray 3 (0, 0)) := by
    obtain ⟨_, h | ⟨g, cap, cur, hv, _, hg, _, _, hcs, htk⟩⟩ := hown
    · cases h.1
    · injection hv with hv1 hv2 hv3
      injection hv1 with hv1
      injection hv1 with hv1
      subst hv1 hv3
      rw [hg]
      congr 2
      apply Array.toList_inj.1
      have : cur.toList.take (n * 1) = cur.toList := by rw [List.take_of_length_le]; simp [hcs]
      rw [this] at htk
      rw [htk]
      simp [CI, madeCells, List.map_replicate]
      apply List.ext_getElem
      · simp
      · intro i h1 h2
        simp [Value.cells, Nat.mod_one]
  have hB1 : Below (w.heap.size + 1) w0 w1 := ⟨hgrow.os, hgrow.tape, hgrow.output, hgrow.size, fun k hk => hgrow.block k (by rw [hsz]; exact hk) (by simp)⟩
  clear hown hgrow hw0 hti hz0 hz1 hz2
  go_wp2
  go_loopw [1, 8] (fun t1 t8 wr => ∃ (k m : Nat) (j : Int) (ds : List Nat), k ≤ n ∧ t1 = .int .i64 m ∧ t8 = .int .i64 j ∧ j = (k : Int) - 1 ∧ m ≤ 1000 ∧ speltF L num n = speltF L m k ++ ds ∧ Below (w.heap.size + 1) w0 wr ∧ wr.heap[w.heap.size + 1]? = some (.cells (CI (List.replicate k 0 ++ ds)).toArray 3 (0, 0)))
    (fun _ t8 _ => (intOf t8 + 1).toNat)
  case atStart => exact ⟨n, num, _, [], Nat.le_refl _, rfl, rfl, rfl, hnum, by simp, hB1, by simpa using hrow⟩
  case round =>
    obtain ⟨k, m, j, ds, hk, rfl, rfl, hj, hm, hsp, hB, hR⟩ := hrel
    cases k with
    | zero =>
      obtain rfl : j = -1 := by omega
      have hds : ds = speltF L num n := by rw [hsp]; rfl
      have hdl : ds.length = n := by rw [hds, speltF_len]
      have hS := sl_of_row (c := n) hR (by simp; omega) (by simp; omega)
      simp only [List.replicate_zero, List.nil_append] at hS
      rw [hdl] at hS
      rw [hds] at hS
      have HS := Lib.hid hS
      have HB := Lib.hid hB
      clear hsp hds hdl hS hR hB hb0 hj hrow
      go_wp2
      go_ret
      exact ⟨_, rfl, HS.out, hE0.trans (HB.out.mono (by omega))⟩
    | succ k =>
      obtain rfl : j = (k : Int) := by omega
      have hkl : k < (CI (List.replicate (k + 1) 0 ++ ds)).length := by simp [CI]; omega
      have hgl : w.heap.size + 1 < wr.heap.size := (Array.getElem?_eq_some_iff.1 hR).1
      have h0k : (0 : Int) ≤ (k : Int) := by omega
      have hL0 : ¬ L = 0 := by omega
      have hkn : (k : Int) < (n : Int) := by omega
      have hdl : ds.length + (k + 1) = n := by
        have := congrArg List.length hsp
        rw [List.length_append, speltF_len, speltF_len] at this
        omega
      have hmd : m / L ≤ 1000 := Nat.le_trans (Nat.div_le_self _ _) hm
      obtain ⟨r, hr⟩ : ∃ r, r = m % L := ⟨_, rfl⟩
      have HRR := Lib.hid hr
      clear hr
      obtain ⟨cs, hcs⟩ : ∃ cs, cs = CI (List.replicate (k + 1) 0 ++ ds) := ⟨_, rfl⟩
      rw [← hcs] at hR hkl
      obtain ⟨tgt, htgt⟩ : ∃ tgt, tgt = Obj.cells (cs.set k (.int .i64 (r : Int))).toArray 3 (0, 0) := ⟨_, rfl⟩
      have hb' : ∀ W, Tn (w.heap.size + 1) tgt wr W → W.cell? ⟨w.heap.size, 0, none⟩ = some (.slice A L c) := fun W hW =>
        (World.cell?_of_block (a := ⟨w.heap.size, 0, none⟩) (hW.1.block _ (by simp only []; omega) (by simp))).trans (hb0 wr hB)
      have hst : ∀ W, Tn (w.heap.size + 1) tgt wr W → ((∃ x, W.cell? ⟨w.heap.size + 1, k, none⟩ = some x) ∧ W.frozen? ⟨w.heap.size + 1, k, none⟩ = false) ∧ Tn (w.heap.size + 1) tgt W (W.setCell ⟨w.heap.size + 1, k, none⟩ (.int .i64 (r : Int))) ∧ (W.setCell ⟨w.heap.size + 1, k, none⟩ (.int .i64 (r : Int))).heap[w.heap.size + 1]? = some tgt := fun W hW => by
        rw [htgt] at hW ⊢
        exact ⟨Tn.at hkl (hW.row hR), Tn.set (hW.row hR)⟩
      have hwr := Lib.hid (show IntKind.i64.wrap ((m : Int) / (L : Int)) = ((m / L : Nat) : Int) by
        have hq : (m : Int) / (L : Int) = ((m / L : Nat) : Int) := by simp
        rw [hq, IntKind.wrap_i64]
        generalize m / L = q at hmd ⊢
        omega)
      have HB := Lib.hid hB
      have HSP := Lib.hid hsp
      have HC := Lib.hid hcs
      have HTG := Lib.hid htgt
      clear hsp hB hb0 hcs htgt hj hdl hR hrow hkl
      go_upto_region 5 with fail
      refine region_lit 14 (Tn (w.heap.size + 1) tgt) (fun i v W => match i with | 0 => v = .slice (some ⟨w.heap.size + 1, 0, none⟩) n n | 1 => v = .int .i64 (k : Int) | 2 => v = .int .i64 (m : Int) | 3 => v = .pointer (some ⟨w.heap.size, 0, none⟩) | 4 => v = .slice A L c | 5 => v = .int .i64 (L : Int) | 6 => v = .int .i64 (r : Int) | 7 => v = .int .i64 (m : Int) | 8 => v = .pointer (some ⟨w.heap.size, 0, none⟩) | 9 => v = .slice A L c | 10 => v = .int .i64 (L : Int) | 11 => v = .int .i64 ((m / L : Nat) : Int) | 12 => v = .pointer (some ⟨w.heap.size + 1, k, none⟩) | 13 => W.heap[w.heap.size + 1]? = some tgt | _ => True) (by kernel_rfl) (by kernel_rfl) (Tn.refl _ _) Tn.trans (Tn.drew _ _ _) ⟨?_, ?_, ?_, ?_, ?_, ?_, ?_, ?_, ?_, ?_, ?_, ?_, ?_, ?_, trivial⟩ ?_
      · refine StepG.plain rfl ?_
        rintro u W A' hA hW - K hK
        have a7 := ev_out 7 hA (by kernel_rfl) (by simp)
        clear hA
        go_simp
        exact hK _ _ (Tn.refl _ _ _) (fun _ _ => rfl)
      · refine StepG.plain rfl ?_
        rintro u W A' hA hW - K hK
        have a8 := ev_out 8 hA (by kernel_rfl) (by simp)
        clear hA
        go_simp
        exact hK _ _ (Tn.refl _ _ _) (fun _ _ => rfl)
      · refine StepG.plain rfl ?_
        rintro u W A' hA hW - K hK
        have a1 := ev_out 1 hA (by kernel_rfl) (by simp)
        clear hA
        go_simp
        exact hK _ _ (Tn.refl _ _ _) (fun _ _ => rfl)
      · refine StepG.plain rfl ?_
        rintro u W A' hA hW - K hK
        have a3 := ev_out 3 hA (by kernel_rfl) (by simp)
        clear hA
        go_simp
        exact hK _ _ (Tn.refl _ _ _) (fun _ _ => rfl)
      · refine StepG.plain rfl ?_
        rintro u W A' hA hW ⟨h3, -⟩ K hK
        simp only at h3
        have a20 := ev_in 20 3 hA (by kernel_rfl) (by simp)
        have qb := hb' W hW
        clear hA
        go_simp
        exact hK _ _ (Tn.refl _ _ _) (fun _ _ => rfl)
      · refine StepG.plain rfl ?_
        rintro u W A' hA hW ⟨h4, -⟩ K hK
        simp only at h4
        have a21 := ev_in 21 4 hA (by kernel_rfl) (by simp)
        clear hA
        go_simp
        exact hK _ _ (Tn.refl _ _ _) (fun _ _ => rfl)
      · refine StepG.plain rfl ?_
        rintro u W A' hA hW ⟨h2, h5, -⟩ K hK
        simp only at h2 h5
        have a19 := ev_in 19 2 hA (by kernel_rfl) (by simp)
        have a22 := ev_in 22 5 hA (by kernel_rfl) (by simp)
        clear hA
        go_simp
        exact hK _ _ (Tn.refl _ _ _) (fun _ _ => by rw [HRR.out]; rfl)
      · refine StepG.plain rfl ?_
        rintro u W A' hA hW - K hK
        have a1 := ev_out 1 hA (by kernel_rfl) (by simp)
        clear hA
        go_simp
        exact hK _ _ (Tn.refl _ _ _) (fun _ _ => rfl)
      · refine StepG.plain rfl ?_
        rintro u W A' hA hW - K hK
        have a3 := ev_out 3 hA (by kernel_rfl) (by simp)
        clear hA
        go_simp
        exact hK _ _ (Tn.refl _ _ _) (fun _ _ => rfl)
      · refine StepG.plain rfl ?_
        rintro u W A' hA hW ⟨h8, -⟩ K hK
        simp only at h8
        have a25 := ev_in 25 8 hA (by kernel_rfl) (by simp)
        have qb := hb' W hW
        clear hA
        go_simp
        exact hK _ _ (Tn.refl _ _ _) (fun _ _ => rfl)
      · refine StepG.plain rfl ?_
        rintro u W A' hA hW ⟨h9, -⟩ K hK
        simp only at h9
        have a26 := ev_in 26 9 hA (by kernel_rfl) (by simp)
        clear hA
        go_simp
        exact hK _ _ (Tn.refl _ _ _) (fun _ _ => rfl)
      · refine StepG.plain rfl ?_
        rintro u W A' hA hW ⟨h7, h10, -⟩ K hK
        simp only at h7 h10
        have a24 := ev_in 24 7 hA (by kernel_rfl) (by simp)
        have a27 := ev_in 27 10 hA (by kernel_rfl) (by simp)
        clear hA
        go_simp
        exact hK _ _ (Tn.refl _ _ _) (fun _ _ => congrArg (Value.int .i64) hwr.out)
      · refine StepG.plain rfl ?_
        rintro u W A' hA hW ⟨h0, h1, -⟩ K hK
        simp only at h0 h1
        have a17 := ev_in 17 0 hA (by kernel_rfl) (by simp)
        have a18 := ev_in 18 1 hA (by kernel_rfl) (by simp)
        clear hA
        go_simp
        exact hK _ _ (Tn.refl _ _ _) (fun _ _ => rfl)
      · refine StepG.plain rfl ?_
        rintro u W A' hA hW ⟨h12, h6, -⟩ K hK
        simp only at h12 h6
        have a29 := ev_in 29 12 hA (by kernel_rfl) (by simp)
        have a23 := ev_in 23 6 hA (by kernel_rfl) (by simp)
        obtain ⟨⟨⟨x, hx0⟩, hx1⟩, hT, hT2⟩ := hst W hW
        clear hA
        go_simp
        exact hK undef _ hT (fun V hV => show V.heap[w.heap.size + 1]? = some tgt from hV.2.elim (fun e => e.trans hT2) id)
      · rintro u W hW ⟨-, -, -, -, -, -, -, -, -, -, -, h11, -, h13, -⟩
        simp only at h11 h13
        simp [puts, dstOf, Act.put]
        rw [h11]
        have HW := Lib.hid hW
        clear hW hst hb'
        go_wp2_with fail
        have hB2 : Below (w.heap.size + 1) w0 W := HB.out.grown HW.out.1 (by omega) (fun k e => by cases e; exact Nat.le_refl _)
        refine ⟨⟨k, m / L, _, r :: ds, by omega, by simp, rfl, by omega, hmd, ?_, hB2, ?_⟩, by simp [intOf]⟩
        · rw [HSP.out, speltF, HRR.out]; simp
        · rw [h13, HTG.out, HC.out]
          congr 2
          simp [CI, List.replicate_succ']
end Go.Proofs.Tp
