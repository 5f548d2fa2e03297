import Derived.Test.YtnlknpcbdciljaaLe2
/- Package cipher: the iterator over all keys that agree with codes and guesses. -/
namespace Go.Proofs.Tp
open Go.RowKit Go.Proofs.Gr Go.Shelf
set_option linter.unusedVariables false
set_option linter.unusedSimpArgs false
set_option maxRecDepth 100000
attribute [local go_sem] below_alloc' below_drewN' below_drew' below_set' Below.refl
attribute [local go_sem] Oper.semAt_some
/-- all keys that come before (m, st), and those with (m, st) whose Add is in l, have come -/
def Cov (s : Int) (xs : List Int) (gs : List Guess) (m st : Nat) (l : List Int) (pre : List (VK s)) : Prop := ∀ k : VK s, Agr s xs gs k.1 → (k.1.mul - 1 < m ∨ (k.1.mul - 1 = m ∧ (k.1.step < st ∨ (k.1.step = st ∧ k.1.add ∈ l)))) → k ∈ pre
def SeqS (s : Int) (xs : List Int) (gs : List Guess) (pre : List (VK s)) : Prop := ∀ k : VK s, Agr s xs gs k.1 → k ∈ pre
theorem ownsRow_kc {n0 g base : Nat} {W W' : World} {e : TypeId} {sz : Nat} {v : Value} {n : Nat} {cs : List Value} (h : W.ownsRow base e sz v n cs) (hg : g < base) (k : KC n0 g W W') : W'.ownsRow base e sz v n cs := by
  refine ⟨h.1, ?_⟩
  rcases h.2 with h | ⟨b, cap, cur, h1, h2, h3, h4⟩
  · exact .inl h
  · exact .inr ⟨b, cap, cur, h1, h2, k.same _ _ _ _ h3 (by omega), h4⟩
theorem cov_step {s : Int} {xs : List Int} {gs : List Guess} {m st j : Nat} {LL : List Int} {pre pre' : List (VK s)} (hj : j < LL.length) (h : Cov s xs gs m st (LL.take j) pre) (hsub : ∀ k ∈ pre, k ∈ pre')
    (hnew : ∀ k : VK s, Agr s xs gs k.1 → k.1 = ⟨(m : Int) + 1, LL[j], st⟩ → k ∈ pre') : Cov s xs gs m st (LL.take (j + 1)) pre' := by
  intro k ha hk
  rcases hk with hk | ⟨h1, hk | ⟨h2, hk⟩⟩
  · exact hsub k (h k ha (.inl hk))
  · exact hsub k (h k ha (.inr ⟨h1, .inl hk⟩))
  · rw [List.take_succ_eq_append_getElem hj] at hk
    rcases List.mem_append.1 hk with hk | hk
    · exact hsub k (h k ha (.inr ⟨h1, .inr ⟨h2, hk⟩⟩))
    · refine hnew k ha ?_
      have h3 := List.mem_singleton.1 hk
      obtain ⟨⟨a, b, c⟩, hv⟩ := k
      simp only at h1 h2 h3
      simp only [CKey.mk.injEq]
      exact ⟨by omega, h3, h2⟩
set_option maxHeartbeats 8000000 in
theorem keys_57 (s wd : Int) (KK D : Value) (xs : List Int) (gs : List Guess) (A B : Option Addr) (c d n : Nat) (w0 w : World) (Bk g : Nat) (hs : 13 ≤ s ∧ s ≤ 41) (hl : xs.length ≤ 10) (hgl : gs.length ≤ 6)
    (hg : ∀ x ∈ gs, (0 ≤ x.at_ ∧ x.at_ < xs.length) ∧ 0 ≤ x.plain ∧ x.plain ≤ 1000) (hxb : ∀ x ∈ xs, 0 ≤ x ∧ x ≤ 1000) (hK : KK.oneCell' = true) (hD : D.oneCell' = true) (hx : SlA intK w0 A xs) (hgs : SlA guessK w0 B gs)
    (hgB : g < Bk) (hS : KS s wd KK D A B c d xs.length gs.length w0 Bk g w) :
    SeqStopsK Fence.wide n Try.prog 57 #[.pointer (some ⟨Bk, 0, none⟩), .pointer (some ⟨Bk + 1, 0, none⟩), .pointer (some ⟨Bk + 1 + 1, 0, none⟩)] (encK s) (KC w0.heap.size g) (SeqS s xs gs) (fun _ => True) 70000 w := by
  intro l J Jx W hW hJ hJx hY h0
  have hSW : KS s wd KK D A B c d xs.length gs.length w0 Bk g W := hS.of_ext hW
  have hJe : ∀ {pre V V'}, J pre V → Ext V V' → J pre V' := fun hj he => hJ _ _ _ none hj (grownBy_ext he) (fun r e => by cases e)
  obtain ⟨⟨b0, b1, b2, b3⟩, b4, b5⟩ := hSW.cells
  have HSW := Lib.hid hSW
  clear hS hSW hW
  refine callsIn_of_wp Try.func57 rfl trivial ?_ rfl
  simp only [Try.ntmps57, List.size_toArray, List.length_cons, List.length_nil, Nat.reduceAdd, Nat.reduceSub, Array.replicate_succ, Array.replicate_zero, List.push_toArray, List.append_toArray, List.nil_append, List.cons_append]
  gi_wp2
  gi_loopw [14] (fun t14 wr => ∃ (m : Nat) (pre : List (VK s)), (m : Int) ≤ s - 1 ∧ t14 = .int .i64 m ∧ J pre wr ∧ KS s wd KK D A B c d xs.length gs.length w0 Bk g wr ∧ pre.length ≤ m * 1681 ∧ Cov s xs gs m 0 [] pre) (fun t14 _ => (s - intOf t14).toNat)
  case atStart => exact ⟨0, [], by omega, rfl, h0, HSW.out, Nat.le_refl _, fun k _ h => by have := (vk_bound k.2).1; have := (vk_bound k.2).2.2; rcases h with h | ⟨_, h | ⟨_, h⟩⟩; omega; omega; cases h⟩
  case round =>
    obtain ⟨m, pre, hm, rfl, hJp, hSr, hpl, hC⟩ := hrel
    clear b0 b1 b2 b3 b4 b5
    obtain ⟨⟨b0, b1, b2, b3⟩, b4, b5⟩ := hSr.cells
    by_cases hlt : (m : Int) < s - 1
    · have HC := Lib.hid hC
      have HS := Lib.hid hSr
      have HJ := Lib.hid hJp
      clear hC hSr hJp
      gi_wp2
      gi_loopw [19] (fun t19 wr2 => ∃ (st : Nat) (pre : List (VK s)), (st : Int) ≤ s ∧ t19 = .int .i64 st ∧ J pre wr2 ∧ KS s wd KK D A B c d xs.length gs.length w0 Bk g wr2 ∧ pre.length ≤ m * 1681 + st * 41 ∧ Cov s xs gs m st [] pre) (fun t19 _ => (s - intOf t19).toNat)
      case atStart => exact ⟨0, pre, by omega, rfl, HJ.out, HS.out, by omega, HC.out⟩
      case round =>
        obtain ⟨st, pre2, hst, rfl, hJp, hSr, hpl2, hC⟩ := hrel
        clear b0 b1 b2 b3 b4 b5
        obtain ⟨⟨b0, b1, b2, b3⟩, b4, b5⟩ := hSr.cells
        by_cases hlt2 : (st : Int) < s
        · have hadds := Lib.hid (adds_58 s wd ⟨(m : Int) + 1, 0, st⟩ xs gs KK D A B c d wr (by omega) (by simp only []; omega) (by simp only []; omega) (by simp only []; omega) (by omega) (by omega) hg hxb hK hD (hx.ext hSr.ext) (hgs.ext hSr.ext))
          have hk0 : 0 ≤ s := by omega
          have HC := Lib.hid hC
          have HS := Lib.hid hSr
          have HJ := Lib.hid hJp
          clear hC hSr hJp
          gi_wp2
          refine ⟨True.intro, fun h => (by cases h), ?_⟩
          refine (callsIn_wide.2 hadds.out).mono ?_
          rintro e W2 ⟨v2, rfl, hO2⟩
          have HE2 := Lib.hid hO2.le
          obtain ⟨w2, hw2, hO2'⟩ := hO2
          obtain ⟨LL, hLL⟩ : ∃ LL, LL = addsF s ⟨(m : Int) + 1, 0, st⟩ xs gs := ⟨_, rfl⟩
          have hLl : LL.length ≤ 41 := by rw [hLL]; exact adds_len (by omega)
          have HLr := Lib.hid (show ∀ a ∈ LL, 0 ≤ a ∧ a ≤ s - 1 by rw [hLL]; exact adds_range (by omega))
          have HLc := Lib.hid (show ∀ k : VK s, Agr s xs gs k.1 → k.1.mul = m + 1 → k.1.step = st → k.1.add ∈ LL from fun k ha h1 h2 => by
            have := adds_cover (by omega) k.2 ha
            rw [h1, h2] at this
            rw [hLL]; exact this)
          rw [← hLL] at hO2'
          obtain ⟨av, ac, hv2⟩ := hO2'.len
          subst hv2
          have HO2 := Lib.hid (OwI.cells hO2')
          have HS2 := Lib.hid (HS.out.of_ext HE2.out)
          have HJ2 := Lib.hid (hJe HJ.out HE2.out)
          have hgn : g < w2.heap.size := Nat.lt_of_lt_of_le HS.out.lt hw2.size
          clear hO2' hLL hadds b0 b1 b2 b3 b4 b5 hw2
          gi_wp2
          gi_loopw [31] (fun t31 wr => ∃ (j : Nat) (pre : List (VK s)), j ≤ LL.length ∧ t31 = .int .i64 j ∧ J pre wr ∧ KS s wd KK D A B c d xs.length gs.length w0 Bk g wr ∧ pre.length ≤ m * 1681 + st * 41 + j ∧ Cov s xs gs m st (LL.take j) pre ∧ wr.ownsRow w2.heap.size 3 1 (.slice av LL.length ac) LL.length (LL.map fun x => Value.int .i64 x)) (fun t31 _ => LL.length - (intOf t31).toNat)
          case atStart => exact ⟨0, pre2, by omega, rfl, HJ2.out, HS2.out, by omega, HC.out, HO2.out⟩
          case round =>
            obtain ⟨j, pre3, hj, rfl, hJp, hSr, hpl3, hC, hR⟩ := hrel
            by_cases hlt3 : j < LL.length
            · have hlt3' : (j : Int) < (LL.length : Int) := by omega
              obtain ⟨ag, acap, hav, hagb, hagl⟩ := World.ownsRow.form hR (by omega)
              injection hav with hav1 hav2 hav3
              subst hav1
              have hcell : wr.cell? ⟨ag, j, none⟩ = some (.int .i64 LL[j]) := by
                have := World.ownsRow.cells hR (g := ag) rfl j (.int .i64 LL[j]) (by simp [hlt3])
                have ha : (⟨ag, 0, none⟩ : Addr).add j = ⟨ag, j, none⟩ := by unfold Addr.add; split <;> simp_all
                rwa [ha] at this
              obtain ⟨hr0, hr1⟩ := HLr.out LL[j] (List.getElem_mem hlt3)
              obtain ⟨a, hae⟩ : ∃ a, a = LL[j] := ⟨_, rfl⟩
              have hvk : keyB s ⟨(m : Int) + 1, a, st⟩ = true := vk_mk (by omega) (by omega) (by omega)
              rw [← hae] at hcell hr0 hr1
              have hE4 := e1 wr (.cells #[.int .i64 ((m : Int) + 1), .int .i64 a, .int .i64 st] 57)
              have hS4 := hSr.of_ext hE4
              have hg4 := heap_alloc_new wr (.cells #[.int .i64 ((m : Int) + 1), .int .i64 a, .int .i64 st] 57)
              have hall := Lib.hid (all_guess gs (agreeF s ⟨(m : Int) + 1, a, st⟩ xs) B d 59 #[] #[.pointer (some ⟨Bk, 0, none⟩), .pointer (some ⟨wr.heap.size, 0, none⟩), .pointer (some ⟨Bk + 1, 0, none⟩)] _ enters_59 (hgs.ext hS4.ext) (by omega) (fun x hm V hV cs hr => by
                have hr' : cs = [.int .i64 x.at_, .int .i64 x.plain] := hr
                subst hr'
                have hSV := hS4.of_ext hV
                exact agree_59 s wd ⟨(m : Int) + 1, a, st⟩ xs x KK D A c Bk wr.heap.size (Bk + 1) V (by omega) (by simp only []; omega) (by simp only []; omega) (by simp only []; omega) (by omega) (hg x hm).1 (hg x hm).2 hK hD (hx.ext hSV.ext)
                  (fun V' h => (hSV.of_ext h).cells.2.1) (fun V' h => by
                    have := ((hV.trans h).block _ (heap_lt hg4)).trans hg4
                    refine ⟨?_, ?_, ?_⟩ <;> (rw [cell_of_row V' _ _ _ _ _ this]; rfl)) (fun V' h => (hSV.of_ext h).cells.1)))
              obtain ⟨bb, hbb⟩ : ∃ bb, bb = gs.all (agreeF s ⟨(m : Int) + 1, a, st⟩ xs) := ⟨_, rfl⟩
              rw [← hbb] at hall
              obtain ⟨_, _, b6⟩ := hS4.cells
              have HBB := Lib.hid hbb
              have HG4 := Lib.hid hg4
              have HAE := Lib.hid hae
              have HC3 := Lib.hid hC
              have HS4 := Lib.hid hS4
              have HJ4 := Lib.hid (hJe hJp hE4)
              have HR4 := Lib.hid (hR.alloc (.cells #[.int .i64 ((m : Int) + 1), .int .i64 a, .int .i64 st] 57))
              clear hbb hae hC hS4 hJp hR hg4 hSr hav3 hE4
              gi_wp2
              refine ⟨True.intro, fun h => (by cases h), ?_⟩
              refine (callsIn_wide.2 hall.out).mono ?_
              rintro e W5 ⟨rfl, hE5⟩
              have HS5 := Lib.hid (HS4.out.of_ext hE5)
              have HJ5 := Lib.hid (hJe HJ4.out hE5)
              have HR5 := Lib.hid (World.ownsRow.kept HR4.out (grownBy_ext hE5) (.inr (by intro h; cases h)))
              have hg5 := (hE5.block _ (heap_lt HG4.out)).trans HG4.out
              have k0 : W5.cell? ⟨wr.heap.size, 0, none⟩ = some (.int .i64 ((m : Int) + 1)) := by rw [cell_of_row W5 _ _ _ _ _ hg5]; rfl
              have k1 : W5.cell? ⟨wr.heap.size, 1, none⟩ = some (.int .i64 a) := by rw [cell_of_row W5 _ _ _ _ _ hg5]; rfl
              have k2 : W5.cell? ⟨wr.heap.size, 2, none⟩ = some (.int .i64 st) := by rw [cell_of_row W5 _ _ _ _ _ hg5]; rfl
              clear hall hE5 hcell hg5
              cases bb with
              | true =>
                obtain ⟨fn, tmps, assign, body, hy, hRy⟩ := hY pre3 ⟨⟨(m : Int) + 1, a, st⟩, hvk⟩ W5 HJ5.out (by omega)
                simp only [encK] at hy
                gi_wp2
                refine ⟨fun h => (by cases h), hRy.mono ?_⟩
                rintro e W6 (⟨rfl, hJ6, hk6⟩ | ⟨rfl, hJx6⟩)
                · have HS6 := Lib.hid (HS5.out.of_kc hgB hk6)
                  have HR6 := Lib.hid (ownsRow_kc HR5.out hgn hk6)
                  have HJ6 := Lib.hid hJ6
                  clear hJ6 hk6 hy hRy
                  gi_wp2
                  refine ⟨⟨j + 1, _, by omega, by go_num, HJ6.out, HS6.out, by simp; omega, cov_step hlt3 HC3.out (fun k hk => List.mem_append_left _ hk) (fun k ha he => ?_), HR6.out⟩, by simp [intOf]; omega⟩
                  refine List.mem_append_right _ (List.mem_singleton.2 ?_)
                  exact Subtype.ext (he.trans (show (⟨(m : Int) + 1, LL[j], st⟩ : CKey) = ⟨(m : Int) + 1, a, st⟩ by rw [HAE.out]))
                · have HJ6 := Lib.hid hJx6
                  clear hJx6 hy hRy
                  gi_wp2
                  refine bodyPost_ret (results_none rfl _ _ _) rfl ?_
                  exact ⟨⟨_, rfl⟩, .inr ⟨_, trivial, HJ6.out⟩⟩
              | false =>
                gi_wp2
                refine ⟨fun _ h => (by cases h), ?_⟩
                gi_wp2
                refine ⟨⟨j + 1, pre3, by omega, by go_num, HJ5.out, HS5.out, by omega, cov_step hlt3 HC3.out (fun k hk => hk) (fun k ha he => ?_), HR5.out⟩, by simp [intOf]; omega⟩
                have h1 : Agr s xs gs ⟨(m : Int) + 1, a, st⟩ := by rw [HAE.out, ← he]; exact ha
                unfold Agr at h1
                rw [← HBB.out] at h1
                cases h1
            · have hlt3' : ¬ (j : Int) < (LL.length : Int) := by omega
              obtain rfl : j = LL.length := by omega
              rw [List.take_length] at hC
              have HC3 := Lib.hid hC
              have HS3 := Lib.hid hSr
              have HJ3 := Lib.hid hJp
              clear hC hSr hJp hR
              gi_wp2
              refine ⟨⟨st + 1, pre3, by omega, by go_num, HJ3.out, HS3.out, by omega, fun k ha h => HC3.out k ha ?_⟩, by simp [intOf]; omega⟩
              rcases h with h | ⟨h, h2⟩
              · exact .inl h
              · refine .inr ⟨h, ?_⟩
                rcases h2 with h2 | ⟨_, h2⟩
                · by_cases e : k.1.step < st
                  · exact .inl e
                  · have e2 : k.1.step = st := by omega
                    exact .inr ⟨e2, HLc.out k ha (by omega) e2⟩
                · cases h2
        · have HC := Lib.hid hC
          have HS := Lib.hid hSr
          have HJ := Lib.hid hJp
          clear hC hSr hJp
          gi_wp2
          refine ⟨⟨m + 1, pre2, by omega, by go_num, HJ.out, HS.out, by omega, fun k ha h => HC.out k ha ?_⟩, by simp [intOf]; omega⟩
          obtain ⟨h1, h2, h3⟩ := vk_bound k.2
          rcases h with h | ⟨h, h2 | ⟨_, h2⟩⟩
          · by_cases e : k.1.mul - 1 < m
            · exact .inl e
            · exact .inr ⟨by omega, .inl (by omega)⟩
          · omega
          · cases h2
    · have HC := Lib.hid hC
      have HJ := Lib.hid hJp
      clear hC hJp
      gi_wp2
      refine bodyPost_end (results_none rfl _ _ _) rfl ?_
      refine ⟨⟨_, rfl⟩, .inl ⟨pre, fun k ha => HC.out k ha ?_, HJ.out⟩⟩
      obtain ⟨h1, h2, h3⟩ := vk_bound k.2
      exact .inl (by omega)
end Go.Proofs.Tp
