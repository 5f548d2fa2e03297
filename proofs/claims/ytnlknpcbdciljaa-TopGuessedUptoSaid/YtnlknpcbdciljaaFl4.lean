import Derived.Test.YtnlknpcbdciljaaFl3
import Derived.Lib.SlicesS
import Derived.Test.YtnlknpcbdciljaaGrow2
import Derived.Test.YtnlknpcbdciljaaOwn
/- Package flash: the row after one more sign. -/
namespace Go.Proofs.Tp
open Go.RowKit Go.Proofs.Gr
set_option linter.unusedVariables false
set_option linter.unusedSimpArgs false
set_option maxRecDepth 100000
attribute [local go_sem] below_alloc' below_drewN' below_drew' below_set' Below.refl
def partRow (rd : Bytes) (r b : Row) (l sg : UInt8) (k : Nat) : Row := fun j => if j < k then signRow rd r b l sg j else 0
theorem dots_eq (s : ByteArray) (q : Nat) (h : q + 2 ≤ s.size) : ((s.extract q (q + 2)).toList == [46, 46]) = decide (s.data.toList[q]? = some 46 ∧ s.data.toList[q + 1]? = some 46) := by
  have hl : ∀ l : List UInt8, q + 2 ≤ l.length → ((l.drop q).take 2 = [46, 46] ↔ l[q]? = some 46 ∧ l[q + 1]? = some 46) := by
    intro l hl
    have h1 : l.drop q = l[q] :: l[q + 1] :: l.drop (q + 2) := by
      rw [List.drop_eq_getElem_cons (show q < l.length by omega), List.drop_eq_getElem_cons (show q + 1 < l.length by omega)]
    rw [h1, List.getElem?_eq_getElem (show q < l.length by omega), List.getElem?_eq_getElem (show q + 1 < l.length by omega)]
    simp only [List.take_succ_cons, List.take_zero, List.cons.injEq, Option.some.injEq, and_true]
  have he : (s.extract q (q + 2) = ⟨#[46, 46]⟩) ↔ (s.data.toList.drop q).take 2 = [46, 46] := by
    constructor
    · intro e
      have := congrArg (fun x => x.data.toList) e
      simpa [ByteArray.data_extract] using this
    · intro e
      apply ByteArray.ext
      apply Array.toList_inj.1
      simpa [ByteArray.data_extract] using e
  rw [Bool.eq_iff_iff, decide_eq_true_eq, ← hl _ (by simpa using h), ← he]
  have h2 : (⟨#[46, 46]⟩ : ByteArray).toList = [46, 46] := by decide +kernel
  have h3 := Lib.bytes_beq_iff (s.extract q (q + 2)) ⟨#[46, 46]⟩
  rw [h2] at h3
  exact h3
theorem o2_bound {rd : Bytes} {r : Row} {sg : UInt8} {k : Nat} (hr : ∀ j, 0 ≤ r j ∧ r j ≤ 1048576) : 0 ≤ o2F rd r sg k ∧ o2F rd r sg k ≤ 1048577 := by
  have h1 := hr k
  have h2 := hr (k + 1)
  unfold o2F
  split <;> omega
theorem o3_bound {rd : Bytes} {r : Row} {sg : UInt8} {k : Nat} (hr : ∀ j, 0 ≤ r j ∧ r j ≤ 1048576) : 0 ≤ o3F rd r sg k ∧ o3F rd r sg k ≤ 1048577 := by
  have h1 := hr (k - 1)
  have h2 := o2_bound (rd := rd) (sg := sg) (k := k) hr
  unfold o3F
  split <;> omega
theorem o4_bound {rd : Bytes} {r b : Row} {l sg : UInt8} {k : Nat} (hr : ∀ j, 0 ≤ r j ∧ r j ≤ 1048576) (hb : ∀ j, 0 ≤ b j ∧ b j ≤ 1048576) : 0 ≤ o4F rd r b l sg k ∧ o4F rd r b l sg k ≤ 1048577 := by
  have h1 := hb k
  have h2 := o3_bound (rd := rd) (sg := sg) (k := k) hr
  unfold o4F
  split <;> omega
theorem sign_bound (rd : Bytes) (r b : Row) (l sg : UInt8) (hr : ∀ j, 0 ≤ r j ∧ r j ≤ 1048576) (hb : ∀ j, 0 ≤ b j ∧ b j ≤ 1048576) : ∀ k, 0 ≤ signRow rd r b l sg k ∧ signRow rd r b l sg k ≤ 1048576
  | 0 => by
    have := hr 0
    rw [signRow]; unfold farF; omega
  | k + 1 => by
    have h1 := sign_bound rd r b l sg hr hb k
    have h2 := o4_bound (rd := rd) (l := l) (sg := sg) (k := k) hr hb
    rw [signRow]; unfold farF
    split
    · omega
    · split <;> omega
set_option maxHeartbeats 4000000 in
theorem sign_90 (A : Option Addr) (n c : Nat) (s : ByteArray) (e : Int) (r b : Row) (l sg : UInt8) (w : World) (hs : s.size ≤ 40) (hr : ∀ j, 0 ≤ r j ∧ r j ≤ 1048576) (hb : ∀ j, 0 ≤ b j ∧ b j ≤ 1048576) :
    Calls Try.prog 90 #[.agg #[.slice A n c, .string s, .int .i64 e], rowV r, rowV b, .int .u8 l.toNat, .int .u8 sg.toNat] w fun e w' => e = .returned (rowV (signRow s.data.toList r b l sg)) ∧ Ext w w' := by
  obtain ⟨w0, hw0⟩ : ∃ w0, w0 = ((w.alloc (.cells #[.slice A n c, .string s, .int .i64 e] 99)).alloc (.cells (rowCells r).toArray 121)).alloc (.cells (rowCells b).toArray 121) := ⟨_, rfl⟩
  have hE0 : Ext w w0 := by rw [hw0]; exact e3 w _ _ _
  have hsz : w0.heap.size = w.heap.size + 1 + 1 + 1 := by rw [hw0]; simp
  have hbox : ∀ W, Below (w.heap.size + 1 + 1 + 1) w0 W → W.cell? ⟨w.heap.size, 1, none⟩ = some (.string s) := fun W hW => by
    rw [hW.cell (show w.heap.size < w.heap.size + 1 + 1 + 1 by omega), hw0]; simp [go_sem]
  have hrow : ∀ j, j < 41 → ∀ W, Below (w.heap.size + 1 + 1 + 1) w0 W → W.cell? ⟨w.heap.size + 1, j, none⟩ = some (.int .i64 (r j)) := fun j hj W hW => by
    rw [hW.cell (by simp), ← row_get r j hj]
    refine cell_of_row w0 _ j _ 121 (0, 0) ?_
    rw [hw0, heap_alloc_old _ _ (by simp)]
    have := heap_alloc_new (w.alloc (.cells #[.slice A n c, .string s, .int .i64 e] 99)) (.cells (rowCells r).toArray 121)
    simpa using this
  have hbef : ∀ j, j < 41 → ∀ W, Below (w.heap.size + 1 + 1 + 1) w0 W → W.cell? ⟨w.heap.size + 1 + 1, j, none⟩ = some (.int .i64 (b j)) := fun j hj W hW => by
    rw [hW.cell (by simp), ← row_get b j hj]
    refine cell_of_row w0 _ j _ 121 (0, 0) ?_
    rw [hw0]
    have := heap_alloc_new ((w.alloc (.cells #[.slice A n c, .string s, .int .i64 e] 99)).alloc (.cells (rowCells r).toArray 121)) (.cells (rowCells b).toArray 121)
    simpa using this
  unfold rowV
  go_enter Try.func90, Try.ntmps90
  go_wp2_with fail
  go_loopw [12] (fun i wr => ∃ k : Nat, k ≤ 41 ∧ i = .int .i64 k ∧ Arr w0 (w.heap.size + 1 + 1 + 1) (partRow s.data.toList r b l sg k) wr) (fun i _ => 41 - (intOf i).toNat)
  case atStart =>
    refine ⟨0, by decide, rfl, ?_⟩
    rw [← hw0]
    exact Arr.new hsz.symm _ (fun j hj => by simp [partRow])
  case round =>
    obtain ⟨k, hk, rfl, hA⟩ := hrel
    clear hw0
    by_cases h41 : k < 41
    · have hB := hA.below
      have hlt := hA.lt
      have hc1 := hA.cell k h41
      have hf1 := hA.froz k h41
      have hrk := hrow k h41
      have hbr := hr k
      have hA1 := hA.set k h41 1048576
      by_cases hl : s.size < k
      · have hl' : (s.size : Int) < (k : Int) := by omega
        have hv := Lib.hid (show 1048576 = signRow s.data.toList r b l sg k by
          cases k with
          | zero => omega
          | succ m => rw [signRow, if_pos (by simpa using hl)]; rfl)
        have HA1 := Lib.hid hA1
        clear hA hA1 hrow hbef hrk hE0 hl
        go_wp2_with fail
        refine ⟨⟨k + 1, by omega, by go_num, ?_⟩, by simp [intOf]; omega⟩
        refine HA1.out.congr fun j hj => ?_
        simp only [upd, partRow]
        rw [hv.out]
        by_cases e1 : j = k
        · subst e1; simp
        · by_cases e2 : j < k
          · simp [e1, e2, show j < k + 1 by omega]
          · simp [e1, e2, show ¬ j < k + 1 by omega]
      · have hl' : ¬ ((s.size : Int) < (k : Int)) := by omega
        cases k with
        | zero =>
          have hv := Lib.hid (show min (r 0 + 1) 1048576 = signRow s.data.toList r b l sg 0 from rfl)
          obtain ⟨hbr0, hbr1⟩ := hbr
          have HA := Lib.hid hA
          clear hA hA1 hrow hbef hE0 hl
          go_wp2_with (go_at_call 91; refine (min_91n _ _ _ _ _ (by simp)).mono ?_; rintro e W' ⟨rfl, rfl⟩)
          refine ⟨⟨1, by omega, by go_num, ?_⟩, by simp [intOf]⟩
          refine (((((HA.out.set 0 h41 1048576).set 0 h41 (r 0 + 1)).set 0 h41 (min (r 0 + 1) 1048576))).ext (e1 _ _)).congr fun j hj => ?_
          simp only [upd, partRow]
          rw [hv.out]
          by_cases e1 : j = 0
          · subst e1; simp
          · simp [e1]
        | succ m =>
          have hrm := hrow m (by omega)
          have hq := fun (x : UInt8) (d : Int) (hd : d = (x.toNat : Int)) => byte_eq s m (by omega) x d hd
          have hms : m < s.size := by omega
          have hA2 := (hA.set (m + 1) h41 1048576).set (m + 1) h41 (r (m + 1) + 1)
          have hA2' := hA2.congr (f' := upd (partRow s.data.toList r b l sg (m + 1)) (m + 1) (r (m + 1) + 1)) (fun j hj => by simp only [upd]; split <;> rfl)
          obtain ⟨hbr0, hbr1⟩ := hbr
          go_upto_if 38 with fail
          obtain ⟨W1, hW1⟩ : ∃ W1, W1 = (wr.setCell ⟨w.heap.size + 1 + 1 + 1, m + 1, none⟩ (.int .i64 1048576)).setCell ⟨w.heap.size + 1 + 1 + 1, m + 1, none⟩ (.int .i64 (r (m + 1) + 1)) := ⟨_, rfl⟩
          rw [← hW1] at hA2' ⊢
          clear hW1 hA2 hA1 hA hf1 hc1
          go_cut [] from 13 to 136 (fun wc => Arr w0 (w.heap.size + 1 + 1 + 1) (upd (partRow s.data.toList r b l sg (m + 1)) (m + 1) (o2F s.data.toList r sg m)) wc)
          case first =>
            by_cases h8 : s.data.toList[m]? = some sg
            · have hq8 := hq sg _ rfl
              rw [decide_eq_true h8] at hq8
              have hv := Lib.hid (show min (r (m + 1) + 1) (r m) = o2F s.data.toList r sg m by rw [o2F, if_pos h8])
              have hcS : ∀ W, Ext W1 W → W.cell? ⟨w.heap.size + 1 + 1 + 1, m + 1, none⟩ = some (.int .i64 (r (m + 1) + 1)) := fun W hW => by
                rw [(hA2'.ext hW).cell (m + 1) h41]; simp [upd]
              have hfS : ∀ W, Ext W1 W → W.frozen? ⟨w.heap.size + 1 + 1 + 1, m + 1, none⟩ = false := fun W hW => (hA2'.ext hW).froz (m + 1) h41
              have hyS : ∀ W, Ext W1 W → W.cell? ⟨w.heap.size + 1, m, none⟩ = some (.int .i64 (r m)) := fun W hW => hrm W (hA2'.ext hW).below
              have HA := Lib.hid hA2'
              clear hA2' h8 hq hbox hrow hbef hrm hrk hB hE0
              go_wp2_with fail
              refine region_lit 10 Ext (fun i v W => match i with | 0 => v = .int .i64 ((m : Int) + 1) | 1 => v = .int .i64 ((m : Int) + 1) | 2 => v = .pointer (some ⟨w.heap.size + 1 + 1 + 1, m + 1, none⟩) | 3 => v = .int .i64 (r (m + 1) + 1) | 4 => v = .int .i64 ((m : Int) + 1) | 5 => v = .int .i64 ((m : Int)) | 6 => v = .pointer (some ⟨w.heap.size + 1, m, none⟩) | 7 => v = .int .i64 (r m) | 8 => Li W1 3 2 [.int .i64 (r (m + 1) + 1), .int .i64 (r m)] v W | 9 => v = .int .i64 (min (r (m + 1) + 1) (r m)) | _ => True) (by kernel_rfl) (by kernel_rfl) Ext.refl Ext.trans (Ext.dr (Ext.refl _) 1) ⟨?_, ?_, ?_, ?_, ?_, ?_, ?_, ?_, ?_, ?_, trivial⟩ ?_
              · refine StepG.plain rfl ?_
                rintro u W A hA hW - K hK
                have a11 := ev_out 11 hA (by kernel_rfl) (by simp)
                clear hA
                go_simp
                exact hK _ _ (Ext.refl _) (fun _ _ => rfl)
              · refine StepG.plain rfl ?_
                rintro u W A hA hW - K hK
                have a11 := ev_out 11 hA (by kernel_rfl) (by simp)
                clear hA
                go_simp
                exact hK _ _ (Ext.refl _) (fun _ _ => rfl)
              · refine StepG.plain rfl ?_
                rintro u W A hA hW ⟨h1, -⟩ K hK
                simp only at h1
                have a10 := ev_out 10 hA (by kernel_rfl) (by simp)
                have a40 := ev_in 40 1 hA (by kernel_rfl) (by simp)
                clear hA
                have hi0 : (0 : Int) ≤ (m : Int) + 1 := by omega
                have hi1 : (m : Int) + 1 < 41 := by omega
                have hi2 : ((m : Int) + 1).toNat = m + 1 := by omega
                go_simp
                exact hK _ _ (Ext.refl _) (fun _ _ => rfl)
              · refine StepG.plain rfl ?_
                rintro u W A hA hW ⟨h2, -⟩ K hK
                simp only at h2
                have a41 := ev_in 41 2 hA (by kernel_rfl) (by simp)
                have hc := hcS W hW
                clear hA
                go_simp
                exact hK _ _ (Ext.refl _) (fun _ _ => rfl)
              · refine StepG.plain rfl ?_
                rintro u W A hA hW - K hK
                have a11 := ev_out 11 hA (by kernel_rfl) (by simp)
                clear hA
                go_simp
                exact hK _ _ (Ext.refl _) (fun _ _ => rfl)
              · refine StepG.plain rfl ?_
                rintro u W A hA hW ⟨h4, -⟩ K hK
                simp only at h4
                have a43 := ev_in 43 4 hA (by kernel_rfl) (by simp)
                clear hA
                go_simp
                exact hK _ _ (Ext.refl _) (fun _ _ => by first | rfl | (show Value.int _ _ = Value.int _ _; congr 1; rw [IntKind.wrap_i64]; omega) | (show Value.int _ _ = Value.int _ _; congr 1; omega))
              · refine StepG.plain rfl ?_
                rintro u W A hA hW ⟨h5, -⟩ K hK
                simp only at h5
                have a6 := ev_out 6 hA (by kernel_rfl) (by simp)
                have a44 := ev_in 44 5 hA (by kernel_rfl) (by simp)
                clear hA
                have hidx : ((m : Int)) < 41 := by omega
                go_simp
                exact hK _ _ (Ext.refl _) (fun _ _ => rfl)
              · refine StepG.plain rfl ?_
                rintro u W A hA hW ⟨h6, -⟩ K hK
                simp only at h6
                have a45 := ev_in 45 6 hA (by kernel_rfl) (by simp)
                have hc := hyS W hW
                clear hA
                go_simp
                exact hK _ _ (Ext.refl _) (fun _ _ => rfl)
              · refine StepG.plain rfl ?_
                rintro u W A hA hW ⟨h3, h7, -⟩ K hK
                simp only at h3
                simp only at h7
                have a42 := ev_in 42 3 hA (by kernel_rfl) (by simp)
                have a46 := ev_in 46 7 hA (by kernel_rfl) (by simp)
                clear hA
                go_simp
                exact hK _ _ (e1 _ _) (fun V hV => (Li.new hW 3 2 _).ext hV)
              · refine StepG.plain rfl ?_
                rintro u W A hA hW ⟨h8, -⟩ K hK
                simp only at h8
                have a47 := ev_in 47 8 hA (by kernel_rfl) (by simp)
                clear hA
                obtain ⟨g, hg1, hg2, hg3, hg4⟩ := h8
                rw [hg1] at a47
                have hm := Lib.hid (min_91 (r (m + 1) + 1) (r m) g 2 W (cell_of_row W g 0 _ _ _ hg4) (cell_of_row W g 1 _ _ _ hg4))
                go_simp
                refine hm.out.mono ?_
                rintro e W' ⟨rfl, rfl⟩
                exact hK _ _ (Ext.refl _) (fun _ _ => rfl)
              · rintro u W hW ⟨h0, -, -, -, -, -, -, -, -, h9, -⟩
                simp only at h0 h9
                have hc := hcS W hW
                have hf := hfS W hW
                have HW := Lib.hid hW
                have hi0 : (0 : Int) ≤ (m : Int) + 1 := by omega
                have hi1 : (m : Int) + 1 < 41 := by omega
                have hi2 : ((m : Int) + 1).toNat = m + 1 := by omega
                simp [puts, dstOf, Act.put]
                rw [h0, h9]
                clear h0 h9 hW
                go_wp2_with fail
                go_meet
                case rel =>
                  refine ((HA.out.ext HW.out).set (m + 1) h41 (min (r (m + 1) + 1) (r m))).congr fun j hj => ?_
                  simp only [upd]
                  split
                  · exact hv.out
                  · rfl
            · have hq8 := hq sg _ rfl
              rw [decide_eq_false h8] at hq8
              have hv := Lib.hid (show r (m + 1) + 1 = o2F s.data.toList r sg m by rw [o2F, if_neg h8])
              have HA := Lib.hid hA2'
              clear hA2' h8 hq hbox hrow hbef hrm hrk hB hE0
              go_wp2_with fail
              go_meet
              case rel =>
                refine HA.out.congr fun j hj => ?_
                simp only [upd]
                split
                · exact hv.out
                · rfl
          case rest =>
            have hA3 := hcut
            clear hcut hA2'
            have hB3 := hA3.below
            obtain ⟨c10, hc10⟩ : ∃ c10 : Bool, c10 = decide (1 ≤ m ∧ sg = 45 ∧ s.data.toList[m - 1]? = some 46 ∧ s.data.toList[m]? = some 46) := ⟨_, rfl⟩
            have HC10 := Lib.hid hc10
            clear hc10
            go_upto_region 9 with fail
            go_cut [64] from 13 to 136 (fun s64 wd => s64 = .bool c10 ∧ Arr w0 (w.heap.size + 1 + 1 + 1) (upd (partRow s.data.toList r b l sg (m + 1)) (m + 1) (o2F s.data.toList r sg m)) wd)
            case first =>
              have HA3 := Lib.hid hA3
              clear hrow hbef hrk hrm hA3 hB hE0
              by_cases hm0 : m = 0
              · have hv := Lib.hid (show c10 = false by rw [HC10.out]; exact decide_eq_false (fun h => by omega))
                subst hm0
                clear HC10 hq
                go_wp2_with fail
                go_meet
                case rel => exact ⟨by rw [hv.out], HA3.out⟩
              · obtain ⟨q, rfl⟩ : ∃ q, m = q + 1 := ⟨m - 1, by omega⟩
                by_cases h45 : sg = 45
                · subst h45
                  obtain ⟨x, hx⟩ : ∃ x, x = s.extract q (q + 2) := ⟨_, rfl⟩
                  have hsl : ∀ W, (Instr.slice 9 (.string s) (some (.int .i64 ((q : Int) + 1 + 1 - 2))) (some (.int .i64 ((q : Int) + 1 + 1))) none).run Try.prog W = .ok (.string x) W := fun W => by
                    rw [run_slice_string W 9 s .i64 .i64 _ _ Try.underlying9 (by omega) (by omega) (by omega), hx, show ((q : Int) + 1 + 1 - 2).toNat = q by omega, show ((q : Int) + 1 + 1).toNat = q + 2 by omega]
                  have HX := Lib.hid hx
                  clear hq hx
                  go_wp2_with fail
                  go_meet
                  case rel =>
                    refine ⟨?_, HA3.out⟩
                    rw [HC10.out, HX.out]
                    congr 1
                    rw [dots_eq s q (by omega), decide_eq_decide]
                    simp
                · have hv := Lib.hid (show c10 = false by rw [HC10.out]; exact decide_eq_false (fun h => h45 h.2.1))
                  have hb45 : ((sg.toNat : Int) == 45) = false := by
                    rw [beq_eq_false_iff_ne]
                    exact fun h => h45 (UInt8.toNat_inj.1 (Int.ofNat.inj h))
                  clear HC10 hq
                  go_wp2_with fail
                  go_meet
                  case rel => exact ⟨by rw [hv.out], HA3.out⟩
            case rest =>
              obtain ⟨rfl, hA4⟩ := hcut
              clear hA3 hB3
              have hB4 := hA4.below
              have hb2 := o2_bound (rd := s.data.toList) (r := r) (sg := sg) (k := m) hr
              obtain ⟨x2, hx2⟩ : ∃ x2, x2 = o2F s.data.toList r sg m := ⟨_, rfl⟩
              rw [← hx2] at hA4 hb2
              obtain ⟨hb20, hb21⟩ := hb2
              have HX2 := Lib.hid hx2
              clear hx2
              go_upto_if 64 with fail
              obtain ⟨W3, hW3⟩ : ∃ W3, W3 = wc := ⟨_, rfl⟩
              rw [← hW3] at hA4 hB4 ⊢
              clear hW3
              go_cut [] from 13 to 136 (fun wc => Arr w0 (w.heap.size + 1 + 1 + 1) (upd (partRow s.data.toList r b l sg (m + 1)) (m + 1) (o3F s.data.toList r sg m)) wc)
              case first =>
                cases hcc : c10
                · have hv := Lib.hid (show x2 = o3F s.data.toList r sg m by
                    have := HC10.out
                    rw [hcc] at this
                    rw [o3F, if_neg (of_decide_eq_false this.symm), HX2.out])
                  have HA := Lib.hid hA4
                  clear hA4 hq hbox hrow hbef hrm hrk hB hE0 hB4
                  go_wp2_with fail
                  go_meet
                  case rel =>
                    refine HA.out.congr fun j hj => ?_
                    simp only [upd]
                    split
                    · exact hv.out
                    · rfl
                · have hcd : 1 ≤ m ∧ sg = 45 ∧ s.data.toList[m - 1]? = some 46 ∧ s.data.toList[m]? = some 46 := by
                    have := HC10.out
                    rw [hcc] at this
                    exact of_decide_eq_true this.symm
                  obtain ⟨q, rfl⟩ : ∃ q, m = q + 1 := ⟨m - 1, by omega⟩
                  have hv := Lib.hid (show min x2 (r q + 1) = o3F s.data.toList r sg (q + 1) by
                    rw [o3F, if_pos hcd, HX2.out]; rfl)
                  have hrq := hrow q (by omega)
                  obtain ⟨hbq0, hbq1⟩ := hr q
                  have hcS : ∀ W, Ext W3 W → W.cell? ⟨w.heap.size + 1 + 1 + 1, q + 1 + 1, none⟩ = some (.int .i64 x2) := fun W hW => by
                    rw [(hA4.ext hW).cell (q + 1 + 1) h41]; simp [upd]
                  have hfS : ∀ W, Ext W3 W → W.frozen? ⟨w.heap.size + 1 + 1 + 1, q + 1 + 1, none⟩ = false := fun W hW => (hA4.ext hW).froz (q + 1 + 1) h41
                  have hyS : ∀ W, Ext W3 W → W.cell? ⟨w.heap.size + 1, q, none⟩ = some (.int .i64 (r q)) := fun W hW => hrq W (hA4.ext hW).below
                  have HA := Lib.hid hA4
                  clear hA4 hq hbox hrow hbef hrm hrk hB hE0 hB4 hcd hrq
                  go_wp2_with fail
                  refine region_lit 11 Ext (fun i v W => match i with | 0 => v = .int .i64 ((q : Int) + 1 + 1) | 1 => v = .int .i64 ((q : Int) + 1 + 1) | 2 => v = .pointer (some ⟨w.heap.size + 1 + 1 + 1, q + 1 + 1, none⟩) | 3 => v = .int .i64 (x2) | 4 => v = .int .i64 ((q : Int) + 1 + 1) | 5 => v = .int .i64 ((q : Int)) | 6 => v = .pointer (some ⟨w.heap.size + 1, q, none⟩) | 7 => v = .int .i64 (r q) | 8 => v = .int .i64 (r q + 1) | 9 => Li W3 3 2 [.int .i64 (x2), .int .i64 (r q + 1)] v W | 10 => v = .int .i64 (min (x2) (r q + 1)) | _ => True) (by kernel_rfl) (by kernel_rfl) Ext.refl Ext.trans (Ext.dr (Ext.refl _) 1) ⟨?_, ?_, ?_, ?_, ?_, ?_, ?_, ?_, ?_, ?_, ?_, trivial⟩ ?_
                  · refine StepG.plain rfl ?_
                    rintro u W A hA hW - K hK
                    have a11 := ev_out 11 hA (by kernel_rfl) (by simp)
                    clear hA
                    go_simp
                    exact hK _ _ (Ext.refl _) (fun _ _ => rfl)
                  · refine StepG.plain rfl ?_
                    rintro u W A hA hW - K hK
                    have a11 := ev_out 11 hA (by kernel_rfl) (by simp)
                    clear hA
                    go_simp
                    exact hK _ _ (Ext.refl _) (fun _ _ => rfl)
                  · refine StepG.plain rfl ?_
                    rintro u W A hA hW ⟨h1, -⟩ K hK
                    simp only at h1
                    have a10 := ev_out 10 hA (by kernel_rfl) (by simp)
                    have a66 := ev_in 66 1 hA (by kernel_rfl) (by simp)
                    clear hA
                    have hi0 : (0 : Int) ≤ (q : Int) + 1 + 1 := by omega
                    have hi1 : (q : Int) + 1 + 1 < 41 := by omega
                    have hi2 : ((q : Int) + 1 + 1).toNat = q + 1 + 1 := by omega
                    go_simp
                    exact hK _ _ (Ext.refl _) (fun _ _ => rfl)
                  · refine StepG.plain rfl ?_
                    rintro u W A hA hW ⟨h2, -⟩ K hK
                    simp only at h2
                    have a67 := ev_in 67 2 hA (by kernel_rfl) (by simp)
                    have hc := hcS W hW
                    clear hA
                    go_simp
                    exact hK _ _ (Ext.refl _) (fun _ _ => rfl)
                  · refine StepG.plain rfl ?_
                    rintro u W A hA hW - K hK
                    have a11 := ev_out 11 hA (by kernel_rfl) (by simp)
                    clear hA
                    go_simp
                    exact hK _ _ (Ext.refl _) (fun _ _ => rfl)
                  · refine StepG.plain rfl ?_
                    rintro u W A hA hW ⟨h4, -⟩ K hK
                    simp only at h4
                    have a69 := ev_in 69 4 hA (by kernel_rfl) (by simp)
                    clear hA
                    go_simp
                    exact hK _ _ (Ext.refl _) (fun _ _ => by first | rfl | (show Value.int _ _ = Value.int _ _; congr 1; rw [IntKind.wrap_i64]; omega) | (show Value.int _ _ = Value.int _ _; congr 1; omega))
                  · refine StepG.plain rfl ?_
                    rintro u W A hA hW ⟨h5, -⟩ K hK
                    simp only at h5
                    have a6 := ev_out 6 hA (by kernel_rfl) (by simp)
                    have a70 := ev_in 70 5 hA (by kernel_rfl) (by simp)
                    clear hA
                    have hidx : ((q : Int)) < 41 := by omega
                    go_simp
                    exact hK _ _ (Ext.refl _) (fun _ _ => rfl)
                  · refine StepG.plain rfl ?_
                    rintro u W A hA hW ⟨h6, -⟩ K hK
                    simp only at h6
                    have a71 := ev_in 71 6 hA (by kernel_rfl) (by simp)
                    have hc := hyS W hW
                    clear hA
                    go_simp
                    exact hK _ _ (Ext.refl _) (fun _ _ => rfl)
                  · refine StepG.plain rfl ?_
                    rintro u W A hA hW ⟨h7, -⟩ K hK
                    simp only at h7
                    have a72 := ev_in 72 7 hA (by kernel_rfl) (by simp)
                    clear hA
                    go_simp
                    exact hK _ _ (Ext.refl _) (fun _ _ => by first | rfl | (show Value.int _ _ = Value.int _ _; congr 1; rw [IntKind.wrap_i64]; omega))
                  · refine StepG.plain rfl ?_
                    rintro u W A hA hW ⟨h3, h8, -⟩ K hK
                    simp only at h3
                    simp only at h8
                    have a68 := ev_in 68 3 hA (by kernel_rfl) (by simp)
                    have a73 := ev_in 73 8 hA (by kernel_rfl) (by simp)
                    clear hA
                    go_simp
                    exact hK _ _ (e1 _ _) (fun V hV => (Li.new hW 3 2 _).ext hV)
                  · refine StepG.plain rfl ?_
                    rintro u W A hA hW ⟨h9, -⟩ K hK
                    simp only at h9
                    have a74 := ev_in 74 9 hA (by kernel_rfl) (by simp)
                    clear hA
                    obtain ⟨g, hg1, hg2, hg3, hg4⟩ := h9
                    rw [hg1] at a74
                    have hm := Lib.hid (min_91 (x2) (r q + 1) g 2 W (cell_of_row W g 0 _ _ _ hg4) (cell_of_row W g 1 _ _ _ hg4))
                    go_simp
                    refine hm.out.mono ?_
                    rintro e W' ⟨rfl, rfl⟩
                    exact hK _ _ (Ext.refl _) (fun _ _ => rfl)
                  · rintro u W hW ⟨h0, -, -, -, -, -, -, -, -, -, h10, -⟩
                    simp only at h0 h10
                    have hc := hcS W hW
                    have hf := hfS W hW
                    have HW := Lib.hid hW
                    have hi0 : (0 : Int) ≤ (q : Int) + 1 + 1 := by omega
                    have hi1 : (q : Int) + 1 + 1 < 41 := by omega
                    have hi2 : ((q : Int) + 1 + 1).toNat = q + 1 + 1 := by omega
                    simp [puts, dstOf, Act.put]
                    rw [h0, h10]
                    clear h0 h10 hW
                    go_wp2_with fail
                    go_meet
                    case rel =>
                      refine ((HA.out.ext HW.out).set (q + 1 + 1) h41 (min (x2) (r q + 1))).congr fun j hj => ?_
                      simp only [upd]
                      split
                      · exact hv.out
                      · rfl
              case rest =>
                have hA5 := hcut
                clear hcut hA4 hB4 HC10 HX2 hb20 hb21
                have hB5 := hA5.below
                have hb3 := o3_bound (rd := s.data.toList) (r := r) (sg := sg) (k := m) hr
                obtain ⟨x3, hx3⟩ : ∃ x3, x3 = o3F s.data.toList r sg m := ⟨_, rfl⟩
                rw [← hx3] at hA5 hb3
                obtain ⟨hb30, hb31⟩ := hb3
                have HX3 := Lib.hid hx3
                clear hx3
                obtain ⟨c12, hc12⟩ : ∃ c12 : Bool, c12 = decide (sg = 46 ∧ l = 46 ∧ s.data.toList[m]? = some 45) := ⟨_, rfl⟩
                have HC12 := Lib.hid hc12
                clear hc12
                go_upto_region 11 with fail
                obtain ⟨W4, hW4⟩ : ∃ W4, W4 = wc := ⟨_, rfl⟩
                rw [← hW4] at hA5 hB5 ⊢
                clear hW4
                go_cut [94] from 13 to 136 (fun s94 wd => s94 = .bool c12 ∧ Arr w0 (w.heap.size + 1 + 1 + 1) (upd (partRow s.data.toList r b l sg (m + 1)) (m + 1) x3) wd)
                case first =>
                  have HA5 := Lib.hid hA5
                  have hq45 := hq 45 45 rfl
                  clear hrow hbef hrk hrm hA5 hB hE0
                  by_cases h46 : sg = 46
                  · subst h46
                    by_cases hl46 : l = 46
                    · subst hl46
                      by_cases hx : s.data.toList[m]? = some 45
                      · have hv := Lib.hid (show c12 = true by rw [HC12.out]; exact decide_eq_true ⟨rfl, rfl, hx⟩)
                        rw [decide_eq_true hx] at hq45
                        clear HC12 hq hx
                        go_wp2_with fail
                        go_meet
                        case rel => exact ⟨by rw [hv.out], HA5.out⟩
                      · have hv := Lib.hid (show c12 = false by rw [HC12.out]; exact decide_eq_false (fun h => hx h.2.2))
                        rw [decide_eq_false hx] at hq45
                        clear HC12 hq hx
                        go_wp2_with fail
                        go_meet
                        case rel => exact ⟨by rw [hv.out], HA5.out⟩
                    · have hv := Lib.hid (show c12 = false by rw [HC12.out]; exact decide_eq_false (fun h => hl46 h.2.1))
                      have hb46 : ((l.toNat : Int) == 46) = false := by
                        rw [beq_eq_false_iff_ne]
                        exact fun h => hl46 (UInt8.toNat_inj.1 (Int.ofNat.inj h))
                      clear HC12 hq hq45
                      go_wp2_with fail
                      go_meet
                      case rel => exact ⟨by rw [hv.out], HA5.out⟩
                  · have hv := Lib.hid (show c12 = false by rw [HC12.out]; exact decide_eq_false (fun h => h46 h.1))
                    have hb46 : ((sg.toNat : Int) == 46) = false := by
                      rw [beq_eq_false_iff_ne]
                      exact fun h => h46 (UInt8.toNat_inj.1 (Int.ofNat.inj h))
                    clear HC12 hq hq45
                    go_wp2_with fail
                    go_meet
                    case rel => exact ⟨by rw [hv.out], HA5.out⟩
                case rest =>
                  obtain ⟨rfl, hA6⟩ := hcut
                  clear hA5 hB5
                  have hB6 := hA6.below
                  go_upto_if 94 with fail
                  obtain ⟨W5, hW5⟩ : ∃ W5, W5 = wc := ⟨_, rfl⟩
                  rw [← hW5] at hA6 hB6 ⊢
                  clear hW5
                  go_cut [] from 13 to 136 (fun wc => Arr w0 (w.heap.size + 1 + 1 + 1) (upd (partRow s.data.toList r b l sg (m + 1)) (m + 1) (o4F s.data.toList r b l sg m)) wc)
                  case first =>
                    cases hcc : c12
                    · have hv := Lib.hid (show x3 = o4F s.data.toList r b l sg m by
                        have := HC12.out
                        rw [hcc] at this
                        rw [o4F, if_neg (of_decide_eq_false this.symm), HX3.out])
                      have HA := Lib.hid hA6
                      clear hA6 hq hbox hrow hbef hrm hrk hB hE0 hB6
                      go_wp2_with fail
                      go_meet
                      case rel =>
                        refine HA.out.congr fun j hj => ?_
                        simp only [upd]
                        split
                        · exact hv.out
                        · rfl
                    · have hcd : sg = 46 ∧ l = 46 ∧ s.data.toList[m]? = some 45 := by
                        have := HC12.out
                        rw [hcc] at this
                        exact of_decide_eq_true this.symm
                      have hv := Lib.hid (show min x3 (b m + 1) = o4F s.data.toList r b l sg m by
                        rw [o4F, if_pos hcd, HX3.out])
                      have hbm := hbef m (by omega)
                      obtain ⟨hbq0, hbq1⟩ := hb m
                      have hcS : ∀ W, Ext W5 W → W.cell? ⟨w.heap.size + 1 + 1 + 1, m + 1, none⟩ = some (.int .i64 x3) := fun W hW => by
                        rw [(hA6.ext hW).cell (m + 1) h41]; simp [upd]
                      have hfS : ∀ W, Ext W5 W → W.frozen? ⟨w.heap.size + 1 + 1 + 1, m + 1, none⟩ = false := fun W hW => (hA6.ext hW).froz (m + 1) h41
                      have hyS : ∀ W, Ext W5 W → W.cell? ⟨w.heap.size + 1 + 1, m, none⟩ = some (.int .i64 (b m)) := fun W hW => hbm W (hA6.ext hW).below
                      have HA := Lib.hid hA6
                      clear hA6 hq hbox hrow hbef hrm hrk hB hE0 hB6 hcd hbm
                      go_wp2_with fail
                      refine region_lit 11 Ext (fun i v W => match i with | 0 => v = .int .i64 ((m : Int) + 1) | 1 => v = .int .i64 ((m : Int) + 1) | 2 => v = .pointer (some ⟨w.heap.size + 1 + 1 + 1, m + 1, none⟩) | 3 => v = .int .i64 (x3) | 4 => v = .int .i64 ((m : Int) + 1) | 5 => v = .int .i64 ((m : Int)) | 6 => v = .pointer (some ⟨w.heap.size + 1 + 1, m, none⟩) | 7 => v = .int .i64 (b m) | 8 => v = .int .i64 (b m + 1) | 9 => Li W5 3 2 [.int .i64 (x3), .int .i64 (b m + 1)] v W | 10 => v = .int .i64 (min (x3) (b m + 1)) | _ => True) (by kernel_rfl) (by kernel_rfl) Ext.refl Ext.trans (Ext.dr (Ext.refl _) 1) ⟨?_, ?_, ?_, ?_, ?_, ?_, ?_, ?_, ?_, ?_, ?_, trivial⟩ ?_
                      · refine StepG.plain rfl ?_
                        rintro u W A hA hW - K hK
                        have a11 := ev_out 11 hA (by kernel_rfl) (by simp)
                        clear hA
                        go_simp
                        exact hK _ _ (Ext.refl _) (fun _ _ => rfl)
                      · refine StepG.plain rfl ?_
                        rintro u W A hA hW - K hK
                        have a11 := ev_out 11 hA (by kernel_rfl) (by simp)
                        clear hA
                        go_simp
                        exact hK _ _ (Ext.refl _) (fun _ _ => rfl)
                      · refine StepG.plain rfl ?_
                        rintro u W A hA hW ⟨h1, -⟩ K hK
                        simp only at h1
                        have a10 := ev_out 10 hA (by kernel_rfl) (by simp)
                        have a96 := ev_in 96 1 hA (by kernel_rfl) (by simp)
                        clear hA
                        have hi0 : (0 : Int) ≤ (m : Int) + 1 := by omega
                        have hi1 : (m : Int) + 1 < 41 := by omega
                        have hi2 : ((m : Int) + 1).toNat = m + 1 := by omega
                        go_simp
                        exact hK _ _ (Ext.refl _) (fun _ _ => rfl)
                      · refine StepG.plain rfl ?_
                        rintro u W A hA hW ⟨h2, -⟩ K hK
                        simp only at h2
                        have a97 := ev_in 97 2 hA (by kernel_rfl) (by simp)
                        have hc := hcS W hW
                        clear hA
                        go_simp
                        exact hK _ _ (Ext.refl _) (fun _ _ => rfl)
                      · refine StepG.plain rfl ?_
                        rintro u W A hA hW - K hK
                        have a11 := ev_out 11 hA (by kernel_rfl) (by simp)
                        clear hA
                        go_simp
                        exact hK _ _ (Ext.refl _) (fun _ _ => rfl)
                      · refine StepG.plain rfl ?_
                        rintro u W A hA hW ⟨h4, -⟩ K hK
                        simp only at h4
                        have a99 := ev_in 99 4 hA (by kernel_rfl) (by simp)
                        clear hA
                        go_simp
                        exact hK _ _ (Ext.refl _) (fun _ _ => by first | rfl | (show Value.int _ _ = Value.int _ _; congr 1; rw [IntKind.wrap_i64]; omega) | (show Value.int _ _ = Value.int _ _; congr 1; omega))
                      · refine StepG.plain rfl ?_
                        rintro u W A hA hW ⟨h5, -⟩ K hK
                        simp only at h5
                        have a7 := ev_out 7 hA (by kernel_rfl) (by simp)
                        have a100 := ev_in 100 5 hA (by kernel_rfl) (by simp)
                        clear hA
                        have hidx : ((m : Int)) < 41 := by omega
                        go_simp
                        exact hK _ _ (Ext.refl _) (fun _ _ => rfl)
                      · refine StepG.plain rfl ?_
                        rintro u W A hA hW ⟨h6, -⟩ K hK
                        simp only at h6
                        have a101 := ev_in 101 6 hA (by kernel_rfl) (by simp)
                        have hc := hyS W hW
                        clear hA
                        go_simp
                        exact hK _ _ (Ext.refl _) (fun _ _ => rfl)
                      · refine StepG.plain rfl ?_
                        rintro u W A hA hW ⟨h7, -⟩ K hK
                        simp only at h7
                        have a102 := ev_in 102 7 hA (by kernel_rfl) (by simp)
                        clear hA
                        go_simp
                        exact hK _ _ (Ext.refl _) (fun _ _ => by first | rfl | (show Value.int _ _ = Value.int _ _; congr 1; rw [IntKind.wrap_i64]; omega))
                      · refine StepG.plain rfl ?_
                        rintro u W A hA hW ⟨h3, h8, -⟩ K hK
                        simp only at h3
                        simp only at h8
                        have a98 := ev_in 98 3 hA (by kernel_rfl) (by simp)
                        have a103 := ev_in 103 8 hA (by kernel_rfl) (by simp)
                        clear hA
                        go_simp
                        exact hK _ _ (e1 _ _) (fun V hV => (Li.new hW 3 2 _).ext hV)
                      · refine StepG.plain rfl ?_
                        rintro u W A hA hW ⟨h9, -⟩ K hK
                        simp only at h9
                        have a104 := ev_in 104 9 hA (by kernel_rfl) (by simp)
                        clear hA
                        obtain ⟨g, hg1, hg2, hg3, hg4⟩ := h9
                        rw [hg1] at a104
                        have hm := Lib.hid (min_91 (x3) (b m + 1) g 2 W (cell_of_row W g 0 _ _ _ hg4) (cell_of_row W g 1 _ _ _ hg4))
                        go_simp
                        refine hm.out.mono ?_
                        rintro e W' ⟨rfl, rfl⟩
                        exact hK _ _ (Ext.refl _) (fun _ _ => rfl)
                      · rintro u W hW ⟨h0, -, -, -, -, -, -, -, -, -, h10, -⟩
                        simp only at h0 h10
                        have hc := hcS W hW
                        have hf := hfS W hW
                        have HW := Lib.hid hW
                        have hi0 : (0 : Int) ≤ (m : Int) + 1 := by omega
                        have hi1 : (m : Int) + 1 < 41 := by omega
                        have hi2 : ((m : Int) + 1).toNat = m + 1 := by omega
                        simp [puts, dstOf, Act.put]
                        rw [h0, h10]
                        clear h0 h10 hW
                        go_wp2_with fail
                        go_meet
                        case rel =>
                          refine ((HA.out.ext HW.out).set (m + 1) h41 (min (x3) (b m + 1))).congr fun j hj => ?_
                          simp only [upd]
                          split
                          · exact hv.out
                          · rfl
                  case rest =>
                    have hA7 := hcut
                    clear hcut hA6 hB6 HC12 HX3 hb30 hb31
                    have hB7 := hA7.below
                    have hb4 := o4_bound (rd := s.data.toList) (r := r) (b := b) (l := l) (sg := sg) (k := m) hr hb
                    have hsm := sign_bound s.data.toList r b l sg hr hb m
                    have hcM := hA7.cell m (by omega)
                    rw [show upd (partRow s.data.toList r b l sg (m + 1)) (m + 1) (o4F s.data.toList r b l sg m) m = signRow s.data.toList r b l sg m by simp [upd, partRow]] at hcM
                    obtain ⟨x4, hx4⟩ : ∃ x4, x4 = o4F s.data.toList r b l sg m := ⟨_, rfl⟩
                    obtain ⟨y4, hy4⟩ : ∃ y4, y4 = signRow s.data.toList r b l sg m := ⟨_, rfl⟩
                    obtain ⟨x5, hx5⟩ : ∃ x5, x5 = if s.data.toList[m]? = some 32 then min x4 (y4 + 1) else x4 := ⟨_, rfl⟩
                    rw [← hx4] at hA7 hb4
                    rw [← hy4] at hcM hsm
                    obtain ⟨hb40, hb41⟩ := hb4
                    obtain ⟨hsm0, hsm1⟩ := hsm
                    have HV := Lib.hid (show min x5 1048576 = signRow s.data.toList r b l sg (m + 1) by
                      rw [signRow, if_neg (by simp; omega), hx5, hx4, hy4]; rfl)
                    have hb5 : 0 ≤ x5 ∧ x5 ≤ 1048577 := by rw [hx5]; split <;> omega
                    obtain ⟨hb50, hb51⟩ := hb5
                    have HX5 := Lib.hid hx5
                    have HQ32 := Lib.hid (hq 32 32 rfl)
                    clear hx4 hx5 hy4
                    have HCM := Lib.hid hcM
                    clear hcM
                    go_upto_if 116 with fail
                    obtain ⟨W6, hW6⟩ : ∃ W6, W6 = wc := ⟨_, rfl⟩
                    rw [← hW6] at hA7 hB7 HCM ⊢
                    clear hW6
                    go_cut [] from 13 to 136 (fun wc => Arr w0 (w.heap.size + 1 + 1 + 1) (upd (partRow s.data.toList r b l sg (m + 1)) (m + 1) x5) wc)
                    case first =>
                      by_cases hx : s.data.toList[m]? = some 32
                      · have hv := Lib.hid (show min x4 (y4 + 1) = x5 by rw [HX5.out, if_pos hx])
                        have hq32 := HQ32.out
                        rw [decide_eq_true hx] at hq32
                        have hcS : ∀ W, Ext W6 W → W.cell? ⟨w.heap.size + 1 + 1 + 1, m + 1, none⟩ = some (.int .i64 x4) := fun W hW => by
                          rw [(hA7.ext hW).cell (m + 1) h41]; simp [upd]
                        have hfS : ∀ W, Ext W6 W → W.frozen? ⟨w.heap.size + 1 + 1 + 1, m + 1, none⟩ = false := fun W hW => (hA7.ext hW).froz (m + 1) h41
                        have hyS : ∀ W, Ext W6 W → W.cell? ⟨w.heap.size + 1 + 1 + 1, m, none⟩ = some (.int .i64 y4) := fun W hW => (hW.cell hA7.lt).trans HCM.out
                        have HA := Lib.hid hA7
                        clear hA7 hq hbox hrow hbef hrm hrk hB hE0 hB7 HX5 hx
                        go_wp2_with fail
                        refine region_lit 11 Ext (fun i v W => match i with | 0 => v = .int .i64 ((m : Int) + 1) | 1 => v = .int .i64 ((m : Int) + 1) | 2 => v = .pointer (some ⟨w.heap.size + 1 + 1 + 1, m + 1, none⟩) | 3 => v = .int .i64 (x4) | 4 => v = .int .i64 ((m : Int) + 1) | 5 => v = .int .i64 ((m : Int)) | 6 => v = .pointer (some ⟨w.heap.size + 1 + 1 + 1, m, none⟩) | 7 => v = .int .i64 (y4) | 8 => v = .int .i64 (y4 + 1) | 9 => Li W6 3 2 [.int .i64 (x4), .int .i64 (y4 + 1)] v W | 10 => v = .int .i64 (min (x4) (y4 + 1)) | _ => True) (by kernel_rfl) (by kernel_rfl) Ext.refl Ext.trans (Ext.dr (Ext.refl _) 1) ⟨?_, ?_, ?_, ?_, ?_, ?_, ?_, ?_, ?_, ?_, ?_, trivial⟩ ?_
                        · refine StepG.plain rfl ?_
                          rintro u W A hA hW - K hK
                          have a11 := ev_out 11 hA (by kernel_rfl) (by simp)
                          clear hA
                          go_simp
                          exact hK _ _ (Ext.refl _) (fun _ _ => rfl)
                        · refine StepG.plain rfl ?_
                          rintro u W A hA hW - K hK
                          have a11 := ev_out 11 hA (by kernel_rfl) (by simp)
                          clear hA
                          go_simp
                          exact hK _ _ (Ext.refl _) (fun _ _ => rfl)
                        · refine StepG.plain rfl ?_
                          rintro u W A hA hW ⟨h1, -⟩ K hK
                          simp only at h1
                          have a10 := ev_out 10 hA (by kernel_rfl) (by simp)
                          have a118 := ev_in 118 1 hA (by kernel_rfl) (by simp)
                          clear hA
                          have hi0 : (0 : Int) ≤ (m : Int) + 1 := by omega
                          have hi1 : (m : Int) + 1 < 41 := by omega
                          have hi2 : ((m : Int) + 1).toNat = m + 1 := by omega
                          go_simp
                          exact hK _ _ (Ext.refl _) (fun _ _ => rfl)
                        · refine StepG.plain rfl ?_
                          rintro u W A hA hW ⟨h2, -⟩ K hK
                          simp only at h2
                          have a119 := ev_in 119 2 hA (by kernel_rfl) (by simp)
                          have hc := hcS W hW
                          clear hA
                          go_simp
                          exact hK _ _ (Ext.refl _) (fun _ _ => rfl)
                        · refine StepG.plain rfl ?_
                          rintro u W A hA hW - K hK
                          have a11 := ev_out 11 hA (by kernel_rfl) (by simp)
                          clear hA
                          go_simp
                          exact hK _ _ (Ext.refl _) (fun _ _ => rfl)
                        · refine StepG.plain rfl ?_
                          rintro u W A hA hW ⟨h4, -⟩ K hK
                          simp only at h4
                          have a121 := ev_in 121 4 hA (by kernel_rfl) (by simp)
                          clear hA
                          go_simp
                          exact hK _ _ (Ext.refl _) (fun _ _ => by first | rfl | (show Value.int _ _ = Value.int _ _; congr 1; rw [IntKind.wrap_i64]; omega) | (show Value.int _ _ = Value.int _ _; congr 1; omega))
                        · refine StepG.plain rfl ?_
                          rintro u W A hA hW ⟨h5, -⟩ K hK
                          simp only at h5
                          have a10 := ev_out 10 hA (by kernel_rfl) (by simp)
                          have a122 := ev_in 122 5 hA (by kernel_rfl) (by simp)
                          clear hA
                          have hidx : ((m : Int)) < 41 := by omega
                          go_simp
                          exact hK _ _ (Ext.refl _) (fun _ _ => rfl)
                        · refine StepG.plain rfl ?_
                          rintro u W A hA hW ⟨h6, -⟩ K hK
                          simp only at h6
                          have a123 := ev_in 123 6 hA (by kernel_rfl) (by simp)
                          have hc := hyS W hW
                          clear hA
                          go_simp
                          exact hK _ _ (Ext.refl _) (fun _ _ => rfl)
                        · refine StepG.plain rfl ?_
                          rintro u W A hA hW ⟨h7, -⟩ K hK
                          simp only at h7
                          have a124 := ev_in 124 7 hA (by kernel_rfl) (by simp)
                          clear hA
                          go_simp
                          exact hK _ _ (Ext.refl _) (fun _ _ => by first | rfl | (show Value.int _ _ = Value.int _ _; congr 1; rw [IntKind.wrap_i64]; omega))
                        · refine StepG.plain rfl ?_
                          rintro u W A hA hW ⟨h3, h8, -⟩ K hK
                          simp only at h3
                          simp only at h8
                          have a120 := ev_in 120 3 hA (by kernel_rfl) (by simp)
                          have a125 := ev_in 125 8 hA (by kernel_rfl) (by simp)
                          clear hA
                          go_simp
                          exact hK _ _ (e1 _ _) (fun V hV => (Li.new hW 3 2 _).ext hV)
                        · refine StepG.plain rfl ?_
                          rintro u W A hA hW ⟨h9, -⟩ K hK
                          simp only at h9
                          have a126 := ev_in 126 9 hA (by kernel_rfl) (by simp)
                          clear hA
                          obtain ⟨g, hg1, hg2, hg3, hg4⟩ := h9
                          rw [hg1] at a126
                          have hm := Lib.hid (min_91 (x4) (y4 + 1) g 2 W (cell_of_row W g 0 _ _ _ hg4) (cell_of_row W g 1 _ _ _ hg4))
                          go_simp
                          refine hm.out.mono ?_
                          rintro e W' ⟨rfl, rfl⟩
                          exact hK _ _ (Ext.refl _) (fun _ _ => rfl)
                        · rintro u W hW ⟨h0, -, -, -, -, -, -, -, -, -, h10, -⟩
                          simp only at h0 h10
                          have hc := hcS W hW
                          have hf := hfS W hW
                          have HW := Lib.hid hW
                          have hi0 : (0 : Int) ≤ (m : Int) + 1 := by omega
                          have hi1 : (m : Int) + 1 < 41 := by omega
                          have hi2 : ((m : Int) + 1).toNat = m + 1 := by omega
                          simp [puts, dstOf, Act.put]
                          rw [h0, h10]
                          clear h0 h10 hW
                          go_wp2_with fail
                          go_meet
                          case rel =>
                            refine ((HA.out.ext HW.out).set (m + 1) h41 (min (x4) (y4 + 1))).congr fun j hj => ?_
                            simp only [upd]
                            split
                            · exact hv.out
                            · rfl
                      · have hv := Lib.hid (show x4 = x5 by rw [HX5.out, if_neg hx])
                        have hq32 := HQ32.out
                        rw [decide_eq_false hx] at hq32
                        have HA := Lib.hid hA7
                        clear hA7 hq hbox hrow hbef hrm hrk hB hE0 hB7 hx
                        go_wp2_with fail
                        go_meet
                        case rel =>
                          refine HA.out.congr fun j hj => ?_
                          simp only [upd]
                          split
                          · exact hv.out
                          · rfl
                    case rest =>
                      have hA8 := hcut
                      clear hcut hA7 hB7 HX5 HQ32 hq HCM
                      have hc8 := hA8.cell (m + 1) h41
                      simp only [upd, if_true] at hc8
                      have hf8 := hA8.froz (m + 1) h41
                      have hl8 := hA8.lt
                      have HA := Lib.hid hA8
                      clear hA8 hbox hrow hbef hrm hrk hB hE0
                      go_wp2_with (go_at_call 91; refine (min_91n _ _ _ _ _ (by simp)).mono ?_; rintro e W' ⟨rfl, rfl⟩)
                      refine ⟨⟨m + 2, by omega, by go_num, ?_⟩, by simp [intOf]; omega⟩
                      refine ((HA.out.set (m + 1) h41 (min x5 1048576)).ext (e1 _ _)).congr fun j hj => ?_
                      simp only [upd, partRow]
                      rw [HV.out]
                      by_cases e1 : j = m + 1
                      · subst e1; simp
                      · by_cases e2 : j < m + 1
                        · simp [e1, e2, show j < m + 2 by omega]
                        · simp [e1, e2, show ¬ j < m + 2 by omega]
    · obtain rfl : k = 41 := by omega
      have hA' : Arr w0 (w.heap.size + 1 + 1 + 1) (signRow s.data.toList r b l sg) wr := hA.congr fun j hj => by simp [partRow, hj]
      have HA := Lib.hid hA'
      have HA2 := Lib.hid (hA'.setRow (signRow s.data.toList r b l sg))
      clear hA hA' hrow hbef hbox
      go_upto_region 17 with fail
      go_step
      refine wpList_load_row rfl 121 _ rfl (w.heap.size + 1 + 1 + 1) rfl 121 _ (0, 0) _ HA.out.row Try.underlying121 rfl (by rw [info121]; simp [rowCells_len]) ?_
      refine wpList_plain rfl fun K hK => wp_store_row 121 _ _ rfl (w.heap.size + 1 + 1 + 1) _ rfl rfl 121 _ HA.out.row (by rw [info121]; simp [rowCells_len]) (by simp [rowCells_len]) (row_one _) (hK _ _ ?_)
      obtain ⟨W2, hW2⟩ : ∃ W2, W2 = wr.setRow (w.heap.size + 1 + 1 + 1) (rowCells (signRow s.data.toList r b l sg)).toArray := ⟨_, rfl⟩
      rw [← hW2] at HA2 ⊢
      go_wp2_with fail
      refine bodyPost_ret (results_cell_row rfl _ W2 (w.heap.size + 1 + 1 + 1) 121 _ (0, 0) _ rfl HA2.out.row Try.underlying121 rfl (by rw [info121]; simp [rowCells_len])) rfl ?_
      exact ⟨rfl, hE0.trans (HA2.out.le hsz.symm)⟩
end Go.Proofs.Tp
