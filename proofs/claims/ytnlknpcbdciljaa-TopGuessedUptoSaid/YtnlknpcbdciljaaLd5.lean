import Derived.Test.YtnlknpcbdciljaaLd4
/- Package flash: Texts. -/
namespace Go.Proofs.Tp
open Go.RowKit Go.Proofs.Gr
set_option linter.unusedVariables false
set_option linter.unusedSimpArgs false
set_option maxRecDepth 100000
attribute [local go_sem] below_alloc' below_drewN' below_drew' below_set' Below.refl
theorem TX.mono {B B' : Nat} {W : World} {v : Value} {css : List Value} {T : List (List Nat)} (h : TX B W v css T) (hb : B' ≤ B) : TX B' W v css T := ⟨ownsRow_mono h.out hb, h.len, fun i h1 h2 => (h.each i h1 h2).mono hb⟩
theorem TX.ext {B : Nat} {W W' : World} {v : Value} {css : List Value} {T : List (List Nat)} (h : TX B W v css T) (e : Ext W W') : TX B W' v css T := ⟨h.out.kept (grownBy_ext e) (by cases v.ownBlock <;> simp), h.len, fun i h1 h2 => (h.each i h1 h2).ext e⟩
theorem IR.offRow {B B' : Nat} {W : World} {v q : Value} {xs : List Nat} {n : Nat} {css : List Value} (h : IR B W v xs) (hq : W.ownsRow B' 26 1 q n css) : v.ownBlock = none ∨ v.ownBlock ≠ q.ownBlock := by
  cases hv : v.ownBlock with
  | none => exact .inl rfl
  | some g =>
    refine .inr fun e => ?_
    obtain ⟨cur, hc⟩ := ownBlock_row hq e.symm
    exact h.off hc (by decide) hv
theorem rowForm {B e sz : Nat} {W : World} {v : Value} {n : Nat} {cs : List Value} (h : W.ownsRow B e sz v n cs) : ∃ A c, v = .slice A n c := by
  rcases h.2 with ⟨e, h0⟩ | ⟨g, cap, cur, e, _⟩
  · exact ⟨none, 0, by rw [e, h0]⟩
  · exact ⟨_, _, e⟩
theorem TX.one {B : Nat} {W : World} {v : Value} {css : List Value} {T : List (List Nat)} (h : TX B W v css T) : ∀ u ∈ css, u.oneCell' = true := by
  intro u hu
  obtain ⟨i, hi, rfl⟩ := List.mem_iff_getElem.1 hu
  obtain ⟨A, c, e⟩ := (h.each i (by rw [← h.len]; exact hi) hi).len
  rw [e]; rfl
/-- append(v, q...) -/
theorem TX.app {B : Nat} {W : World} {v q : Value} {css cs2 : List Value} {T T2 : List (List Nat)} {ops : Array Oper} {rest : List Oper} {o : Oper} {a : Act} {Q : Exit → Act → World → Prop} (hv : TX B W v css T) (hq : TX B W q cs2 T2) (s x : Operand)
    (hgd : o.guard = none) (ho : o.op = .call { callee := .builtin .append, args := #[s, x], argTypes := #[61, 61] }) (hs : a.eval s = v) (hx : a.eval x = q) (hB : B ≤ W.heap.size) (hl : T.length + T2.length ≤ 1000000)
    (h : ∀ v1 W1, TX B W1 v1 (css ++ cs2) (T ++ T2) → W.grownBy W1 v.ownBlock → wpList Try.prog ops Q rest (a.put o.dst v1) W1) : wpList Try.prog ops Q (o :: rest) a W := by
  obtain ⟨i, hi, hz, h1', h2'⟩ := info_parts inf26
  have fin : ∀ v1 W1, W1.ownsRow B 26 1 v1 (T.length + T2.length) (css ++ cs2) → W.grownBy W1 v.ownBlock → TX B W1 v1 (css ++ cs2) (T ++ T2) := fun v1 W1 ho hg => by
    refine ⟨by rw [List.length_append]; exact ho, by simp [hv.len, hq.len], fun i h1 h2 => ?_⟩
    by_cases hlt : i < T.length
    · have hlt' : i < css.length := by rw [hv.len]; exact hlt
      rw [List.getElem_append_left hlt, List.getElem_append_left hlt']
      have := hv.each i hlt hlt'
      exact this.kept hg (this.offRow hv.out)
    · have hlt' : ¬ i < css.length := by rw [hv.len]; exact hlt
      rw [List.getElem_append_right (by omega), List.getElem_append_right (by omega)]
      have := hq.each (i - T.length) (by simp at h1; omega) (by rw [hq.len]; simp at h1; omega)
      simp only [hv.len]
      exact this.kept hg (this.offRow hv.out)
  rcases hq.out.2 with ⟨e, h0⟩ | ⟨g, cap, cur, e, hb, hg, hc, hm, hcs, ht⟩
  · have hc2 : cs2 = [] := List.eq_nil_of_length_eq_zero (by rw [hq.len]; exact h0)
    refine wpList_plain hgd fun K hK => ?_
    have hr := run_append_owned_none (P := Try.prog) W B 61 o.type 26 i 1 Try.underlying61 hi v T.length css hv.out
    unfold Oper.wp execOp
    simp only [ho, resolve, invoke, builtin, Sem.run_bind, Sem.run_pure, Result.andThen_ok, List.map_toArray, List.map_cons, List.map_nil, hs, hx, e, hr]
    refine hK _ _ (h _ _ (fin v W ?_ (World.grownBy.refl _ _)) (World.grownBy.refl _ _))
    rw [hc2, h0]
    simpa using hv.out
  · refine wpList_append_own W hgd s x 61 ho B 26 i (.slice none 0 0) 1 24 Try.underlying61 hi hz h1' h2' rfl (by decide) v T.length css hs hv.out ⟨g, 0, none⟩ T2.length cap cs2 (by rw [hx, e]) (by rw [hq.len, Nat.mul_one]) (World.ownsRow.cells hq.out (g := g) (by rw [e]; rfl)) hq.one (by unfold maxLen; omega) (by omega) hB ?_
    intro v1 W1 ho1 hg1 _
    exact h v1 W1 (fin v1 W1 ho1 hg1) hg1
theorem TX.sl {B : Nat} {W : World} {v : Value} {css : List Value} {T : List (List Nat)} (h : TX B W v css T) (hl : T.length ≤ 1048576) (hT : ∀ t ∈ T, t.length ≤ 1048576) : Sl (slK intK) W v (T.map fun t => t.map fun x : Nat => (x : Int)) := by
  rcases h.out.2 with ⟨rfl, h0⟩ | ⟨g, cap, cur, rfl, hb, hg, hc, hm, hcs, ht⟩
  · obtain rfl := List.eq_nil_of_length_eq_zero h0
    exact Sl.nil _ W none 0
  · refine ⟨some ⟨g, 0, none⟩, cap, by simp, by simpa using hc, by simpa using hl, .inr ⟨g, 0, rfl, fun i hi => ?_⟩⟩
    have hi' : i < T.length := by simpa using hi
    have hi2 : i < css.length := by rw [h.len]; exact hi'
    refine ⟨[css[i]], ⟨css[i], rfl, ?_⟩, At.mk fun j hj => ?_⟩
    · have := (h.each i hi' hi2).sl (hT _ (List.getElem_mem hi'))
      simpa using this
    · obtain rfl : j = 0 := by simpa using hj
      rw [show (slK intK).sz = 1 from rfl, cell_of_row W g _ _ _ _ hg]
      have := congrArg (fun l => l[i]?) ht
      simp only [List.getElem?_take, Nat.mul_one, if_pos hi'] at this
      simpa [hi2] using this
theorem flatMap_bound {α : Type} (f : Nat → List α) (K : Nat) : ∀ n, (∀ k, k < n → (f k).length ≤ K) → ((List.range n).flatMap f).length ≤ n * K
  | 0, _ => by simp
  | n + 1, hf => by
    have h1 := flatMap_bound f K n (fun k hk => hf k (by omega))
    have h2 := hf n (by omega)
    rw [List.range_succ, List.flatMap_append, List.length_append, Nat.add_mul, Nat.one_mul, List.flatMap_singleton]
    omega
theorem lit_sl (W : World) (s : ByteArray) : SlA strK (W.alloc (.cells #[.string s] 9)) (some ⟨W.heap.size, 0, none⟩) [s] := by
  refine .inr ⟨W.heap.size, 0, rfl, fun i hi => ⟨[.string s], ?_, At.mk fun j hj => ?_⟩⟩
  · obtain rfl : i = 0 := by simpa using hi
    rfl
  · obtain rfl : i = 0 := by simpa using hi
    obtain rfl : j = 0 := by simpa using hj
    rw [cell_of_row _ _ _ _ _ _ (heap_alloc_new W _)]
    rfl
set_option maxHeartbeats 2000000 in
theorem texts_21 (ls : List ByteArray) (LA : Option Addr) (lc : Nat) (rd : ByteArray) (E N : Nat) (w : World) (hrd : rd.size ≤ 40) (hgd : ∀ b ∈ rd.data.toList, b = 46 ∨ b = 45 ∨ b = 32) (hE : E ≤ 3) (hN : N ≤ 5) (hF : Fine ls) (hlc : ls.length ≤ lc) (hL : SlA strK w LA ls) :
    Calls Try.prog 21 #[.agg #[.slice LA ls.length lc], .string rd, .int .i64 E, .int .i64 N] w fun e w' => ∃ v, e = .returned (.tuple #[v, .int .i64 0]) ∧ Ext w w' ∧ Sl (slK intK) w' v ((textsF (lsB ls) rd.data.toList E N).map fun t => t.map fun x : Nat => (x : Int)) := by
  have hls : ∀ s ∈ ls, s.size ≤ 4 := fun s hs => letter_size (hF.letter s hs)
  obtain ⟨f, hf⟩ : ∃ f : Nat → List (List Nat), f = fun n => addF (lsB ls) rd.data.toList E n [] (begunRow rd.data.toList) := ⟨_, rfl⟩
  have HT := Lib.hid (show textsF (lsB ls) rd.data.toList E N = (List.range (N + 1)).flatMap f by rw [hf]; rfl)
  have HFb := Lib.hid (show ∀ k, k ≤ 5 → (f k).length ≤ 7776 from fun k hk => by
    have h0 := add_count (lsB ls) rd.data.toList E k [] (begunRow rd.data.toList)
    rw [lsB, List.length_map] at h0
    have h1 : ls.length ^ k ≤ 6 ^ k := Nat.pow_le_pow_left hF.hi k
    have h2 : 6 ^ k ≤ 6 ^ 5 := Nat.pow_le_pow_right (by decide) hk
    rw [hf]
    exact Nat.le_trans h0 (by omega))
  have HTl := Lib.hid (show ∀ t ∈ textsF (lsB ls) rd.data.toList E N, t.length ≤ 1048576 from fun t ht => by have := (texts_len ht).1; omega)
  have hcode := fun (W : World) (e : Ext w W) => Lib.hid (code_48 ls LA lc W (hL.ext e) hF hlc)
  have hsg := fun (A : Option Addr) (W : World) (h : SlA strK W A [rd]) => Lib.hid (signs_49 rd A 1 W h hrd hgd)
  have hi1 : inR (E : Int) 0 3 = true := by simp [inR]; omega
  have hi2 : inR (N : Int) 0 5 = true := by simp [inR]; omega
  have htx := fun (n : Nat) (hn : n ≤ 5) (W : World) (e : Ext w W) => Lib.hid (texts_51 ls LA lc rd E n W hrd hn hF.hi hls hF.lo (hL.ext e))
  have HFD := Lib.hid hf
  have HL := Lib.hid hL
  clear hgd hL hf
  obtain ⟨w0, hw0⟩ : ∃ w0, w0 = w.alloc (.cells #[.slice LA ls.length lc] 64) := ⟨_, rfl⟩
  have hE0 : Ext w w0 := by rw [hw0]; exact e1 w _
  have hsz : w0.heap.size = w.heap.size + 1 := by rw [hw0]; simp
  have hbx : ∀ W, Ext w0 W → W.cell? ⟨w.heap.size, 0, none⟩ = some (.slice LA ls.length lc) := fun W hW => by
    rw [hW.cell (by rw [hsz]; simp only []; omega), hw0]; simp [go_sem]
  have HBX := Lib.hid hbx
  have hc0 := hbx w0 (Ext.refl _)
  clear hbx
  have hsz0 := hE0.size
  clear hsz
  go_enter Try.func21, Try.ntmps21
  go_upto_region 1 with fail
  rw [← hw0]
  clear hw0
  go_wp2_with (first
    | (go_at_call 48; refine (hcode _ hE0).out.mono ?_; rintro e W1 ⟨rfl, hE1⟩; have HB1 := Lib.hid hE1; have hc1 := HBX.out _ hE1)
    | (go_at_call 49; refine (hsg _ _ (lit_sl _ rd)).out.mono ?_; rintro e W2 ⟨rfl, hE2⟩; have HB2 := Lib.hid ((HB1.out.al _).trans hE2); have hc2 := HBX.out _ HB2.out)
    | (go_at_call 50; refine (within_50 _ _ _ _).mono ?_; rintro e W3 ⟨rfl, rfl⟩))
  obtain ⟨W4, hW4⟩ : ∃ W4, W4 = W2.alloc (.cells #[.slice LA ls.length lc, .string rd, .int .i64 E] 99) := ⟨_, rfl⟩
  have hE4 : Ext w W4 := by rw [hW4]; exact (hE0.trans HB2.out).al _
  have hg4 : W4.heap[W2.heap.size]? = some (.cells #[.slice LA ls.length lc, .string rd, .int .i64 E] 99 (0, 0)) := by rw [hW4]; exact heap_alloc_new W2 _
  have hz2 : w.heap.size ≤ W2.heap.size := (hE0.trans HB2.out).size
  rw [← hW4]
  clear hW4 hE1 hE2 hc0 hc1 hc2 hcode hsg
  obtain ⟨bb, hbb⟩ : ∃ bb, bb = W2.heap.size := ⟨_, rfl⟩
  rw [← hbb] at hg4 hz2 ⊢
  clear hbb
  go_loopw [13, 40] (fun t13 t40 wr => ∃ (n : Nat) (css : List Value), n ≤ N + 1 ∧ t40 = .int .i64 n ∧ TX w.heap.size wr t13 css ((List.range n).flatMap f) ∧ Ext w wr ∧ wr.heap[bb]? = some (.cells #[.slice LA ls.length lc, .string rd, .int .i64 E] 99 (0, 0))) (fun _ t40 _ => N + 1 - (intOf t40).toNat)
  case atStart => exact ⟨0, [], by omega, rfl, ⟨World.ownsRow_nil _ _ _ _, rfl, fun i h => by simp at h⟩, hE4, hg4⟩
  case round =>
    obtain ⟨n, css, hn, rfl, hX, hEr, hbr⟩ := hrel
    obtain ⟨T, hT⟩ : ∃ T, T = (List.range n).flatMap f := ⟨_, rfl⟩
    rw [← hT] at hX
    have HTT := Lib.hid hT
    clear hT
    obtain ⟨oA, oc, hov⟩ := rowForm hX.out
    subst hov
    by_cases hlt : n < N + 1
    · have hlt' : (n : Int) < (N : Int) + 1 := by omega
      have q0 : wr.cell? ⟨bb, 0, none⟩ = some (.slice LA ls.length lc) := by rw [cell_of_row wr _ _ _ _ _ hbr]; rfl
      have q1 : wr.cell? ⟨bb, 1, none⟩ = some (.string rd) := by rw [cell_of_row wr _ _ _ _ _ hbr]; rfl
      have q2 : wr.cell? ⟨bb, 2, none⟩ = some (.int .i64 E) := by rw [cell_of_row wr _ _ _ _ _ hbr]; rfl
      have hcall := htx n (by omega) wr hEr
      obtain ⟨T2, hT2⟩ : ∃ T2, T2 = f n := ⟨_, rfl⟩
      rw [show addF (lsB ls) rd.data.toList E n [] (begunRow rd.data.toList) = T2 by rw [hT2, HFD.out]] at hcall
      have HLN := Lib.hid (show T.length + T2.length ≤ 1000000 by
        have h1 := flatMap_bound f 7776 n (fun k hk => HFb.out k (by omega))
        have h2 := HFb.out n (by omega)
        rw [HTT.out, hT2]
        omega)
      have HX := Lib.hid hX
      have HBR := Lib.hid hbr
      have HT2 := Lib.hid hT2
      clear hX hbr htx hT2
      go_wp2_with (first
        | (go_at_call 51; refine hcall.out.mono ?_; rintro e W5 ⟨v5, cs5, rfl, hE5, hX5⟩; have HX5 := Lib.hid hX5; have HE5 := Lib.hid hE5; clear hX5 hE5)
        | (at_builtin; refine TX.app (HX.out.ext HE5.out) (HX5.out.mono hEr.size) _ _ rfl rfl rfl rfl (hEr.trans HE5.out).size HLN.out ?_; intro v6 W6 hX6 hg6; have HX6 := Lib.hid hX6; have HG6 := Lib.hid hg6; clear hX6 hg6))
      have hX0 := HX.out.ext HE5.out
      have hb5 := (HE5.out.block _ (heap_lt HBR.out)).trans HBR.out
      have hsz5 := (hEr.trans HE5.out).size
      have hg6 := HG6.out
      have hb6 : W6.heap[bb]? = some (.cells #[.slice LA ls.length lc, .string rd, .int .i64 E] 99 (0, 0)) := (hg6.block _ (heap_lt hb5) (fun e => by
        obtain ⟨cur, hc⟩ := ownBlock_row hX0.out e.symm
        rw [hb5] at hc
        injection hc with h1
        injection h1 with h2 h3 h4
        exact absurd h3 (by decide))).trans hb5
      have hE6 : Ext w W6 := (hEr.trans HE5.out).grown hg6 hsz5 (fun k e => (hX0.out.lt k e).1)
      refine ⟨⟨n + 1, css ++ cs5, by omega, by go_num, ?_, hE6, hb6⟩, by simp [intOf]; omega⟩
      rw [List.range_succ, List.flatMap_append, List.flatMap_singleton, ← HTT.out, ← HT2.out]
      exact HX6.out
    · have hlt' : ¬ (n : Int) < (N : Int) + 1 := by omega
      obtain rfl : n = N + 1 := by omega
      have hln := flatMap_bound f 7776 (N + 1) (fun k hk => HFb.out k (by omega))
      rw [← HTT.out] at hln
      have hT := HTT.out
      rw [← HT.out] at hT
      have hS := hX.sl (by
        have : (N + 1) * 7776 ≤ 6 * 7776 := Nat.mul_le_mul_right _ (by omega)
        omega) (by rw [hT]; exact HTl.out)
      have HS := Lib.hid hS
      have HTe := Lib.hid hT
      clear hX hln hS hbr htx hT
      go_wp2_with fail
      go_ret2
      exact ⟨_, rfl, hEr, by rw [← HTe.out]; exact HS.out⟩
end Go.Proofs.Tp
