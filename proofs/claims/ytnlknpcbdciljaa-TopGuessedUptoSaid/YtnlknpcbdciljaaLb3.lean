import Derived.Test.YtnlknpcbdciljaaLb2
/- Lists compared; the check of a dispatch. -/
namespace Go.Proofs.Tp
open Go.RowKit Go.Proofs.Gr
set_option linter.unusedVariables false
set_option linter.unusedSimpArgs false
set_option maxRecDepth 100000
attribute [local go_sem] below_alloc' below_drewN' below_drew' below_set' Below.refl
theorem same_22 (xs ys : List Int) (A B : Option Addr) (c d : Nat) (w : World) (hx : SlA intK w A xs) (hy : SlA intK w B ys) (hl : xs.length ≤ 1048576) (hm : ys.length ≤ 1048576) :
    Calls Try.prog 22 #[.slice A xs.length c, .slice B ys.length d] w fun e w' => e = .returned (.bool (decide (xs = ys))) ∧ Ext w w' := by
  obtain ⟨r, hr⟩ : ∃ r, r = decide (xs = ys) := ⟨_, rfl⟩
  rw [← hr]
  by_cases hln : xs.length = ys.length
  · have hln' : ((xs.length : Int) != (ys.length : Int)) = false := by rw [hln]; simp
    go_enter Try.func22, Try.ntmps22
    go_wp2
    go_loopw [5] (fun i wr => ∃ k : Nat, k ≤ xs.length ∧ i = .int .i64 k ∧ xs.take k = ys.take k ∧ Below w.heap.size w wr) (fun i _ => xs.length - (intOf i).toNat)
    case atStart => exact ⟨0, Nat.zero_le _, rfl, rfl, Below.refl _ _⟩
    case round =>
      obtain ⟨k, hk, rfl, hno, hB⟩ := hrel
      have HNO := Lib.hid hno
      have HB := Lib.hid hB
      have HR := Lib.hid hr
      clear hno hr
      by_cases hlt : k < xs.length
      · have hlt' : (k : Int) < (xs.length : Int) := by omega
        have hlt2 : (k : Int) < (ys.length : Int) := by omega
        obtain ⟨b, off, cs, rfl, hcs, hat⟩ := Sl.at_ hx k hlt
        have hcs' : cs = [.int .i64 xs[k]] := by simpa [intK, scalar] using hcs
        subst hcs'
        obtain ⟨b2, off2, cs2, rfl, hcs2, hat2⟩ := Sl.at_ hy k (by omega)
        have hcs2' : cs2 = [.int .i64 (ys[k]'(by omega))] := by simpa [intK, scalar] using hcs2
        subst hcs2'
        simp only [show intK.sz = 1 from rfl, Nat.mul_one] at hat hat2
        have hc := fun (W : World) (h : Below wr.heap.size wr W) => at1 hat (hB.trans (h.mono hB.size))
        have hc2 := fun (W : World) (h : Below wr.heap.size wr W) => at1 hat2 (hB.trans (h.mono hB.size))
        obtain ⟨x, hxe⟩ : ∃ x, x = xs[k] := ⟨_, rfl⟩
        obtain ⟨y, hye⟩ : ∃ y, y = ys[k]'(by omega) := ⟨_, rfl⟩
        rw [← hxe] at hc
        rw [← hye] at hc2
        have hd := hB.size
        by_cases hxy : x = y
        · have hb : (x != y) = false := by rw [hxy]; simp
          have hno' := Lib.hid (show xs.take (k + 1) = ys.take (k + 1) by
            rw [List.take_succ_eq_append_getElem hlt, List.take_succ_eq_append_getElem (show k < ys.length by omega), HNO.out, ← hxe, ← hye, hxy])
          clear hcs hat hcs2 hat2 hx hy hB hxe hye hxy hln
          go_wp2
          go_quiet (fail)
          go_wp2
          exact ⟨⟨k + 1, by omega, by go_num, hno'.out, Ext.dr HB.out _⟩, by simp [intOf]; omega⟩
        · have hb : (x != y) = true := by simpa using hxy
          have hv := Lib.hid (show false = r by
            rw [HR.out]; symm
            rw [decide_eq_false_iff_not]
            intro e
            subst e
            exact hxy (hxe.trans hye.symm))
          clear hcs hat hcs2 hat2 hx hy hB hxe hye hxy hln
          go_wp2
          go_quiet (fail)
          go_wp2
          go_ret
          exact ⟨ret_bool hv.out, Ext.dr HB.out _⟩
      · have hlt' : ¬ (k : Int) < (xs.length : Int) := by omega
        obtain rfl : k = xs.length := by omega
        have hv := Lib.hid (show true = r by
          rw [HR.out]; symm
          rw [decide_eq_true_eq]
          have := HNO.out
          rwa [List.take_length, hln, List.take_length] at this)
        clear hln
        go_wp2
        go_ret
        exact ⟨ret_bool hv.out, HB.out⟩
  · have hln' : ((xs.length : Int) != (ys.length : Int)) = true := by simp; omega
    have hv := Lib.hid (show false = r by
      rw [hr]; symm
      rw [decide_eq_false_iff_not]
      intro e
      exact hln (by rw [e]))
    clear hln hr
    go_enter Try.func22, Try.ntmps22
    go_wp2
    go_ret
    exact ⟨ret_bool hv.out, Ext.refl _⟩
end Go.Proofs.Tp
/- Package cipher: the check of a dispatch, the indicator of a day. -/
namespace Go.Proofs.Tp
open Go.RowKit Go.Proofs.Gr
set_option linter.unusedVariables false
set_option linter.unusedSimpArgs false
set_option maxRecDepth 100000
attribute [local go_sem] below_alloc' below_drewN' below_drew' below_set' Below.refl
/-- the sum of the numbers, each times its place -/
def sumF (xs : List Int) (k : Nat) : Int := (List.range k).foldl (fun (s : Int) (i : Nat) => s + ((i : Int) + 1) * xs.getD i 0) 0
theorem sumF_succ (xs : List Int) (k : Nat) : sumF xs (k + 1) = sumF xs k + ((k : Int) + 1) * xs.getD k 0 := by
  rw [sumF, List.range_succ, List.foldl_append]
  rfl
theorem check_44 (s wd : Int) (xs : List Int) (A : Option Addr) (c : Nat) (KK D : Value) (w : World) (hs : 1 ≤ s ∧ s ≤ 1000) (hx : SlA intK w A xs) (hl : xs.length ≤ 100) (hb : ∀ x ∈ xs, 0 ≤ x ∧ x ≤ 1000) (hK : KK.oneCell' = true) (hD : D.oneCell' = true) :
    Calls Try.prog 44 #[.agg #[.int .i64 s, .int .i64 wd, KK, D], .slice A xs.length c] w fun e w' => e = .returned (.int .i64 (sumF xs xs.length % s)) ∧ Ext w w' := by
  obtain ⟨w0, hw0⟩ : ∃ w0, w0 = w.alloc (.cells #[.int .i64 s, .int .i64 wd, KK, D] 49) := ⟨_, rfl⟩
  have hE0 : Ext w w0 := by rw [hw0]; exact e1 w _
  have hb0 : w0.cell? ⟨w.heap.size, 0, none⟩ = some (.int .i64 s) := by
    rw [hw0]; simp [go_sem]
  have hz : ¬ s = 0 := by omega
  obtain ⟨R, hR⟩ : ∃ R, R = sumF xs xs.length % s := ⟨_, rfl⟩
  rw [← hR]
  go_enter Try.func44, Try.ntmps44
  go_wp2
  rw [← hw0]
  clear hw0
  go_loop [4, 5, 6, 9] (fun m u v i => ∃ (k : Nat) (S : Int), k ≤ xs.length ∧ i = .int .i64 k ∧ m = .int .i64 S ∧ S = sumF xs k ∧ 0 ≤ S ∧ S ≤ k * 1000000) (fun _ _ _ i => xs.length - (intOf i).toNat)
  case atStart => exact ⟨0, 0, Nat.zero_le _, rfl, rfl, rfl, Int.le_refl _, by simp⟩
  case round =>
    obtain ⟨k, S, hk, rfl, rfl, hS, hS0, hS1⟩ := hrel
    have HS := Lib.hid hS
    have HR := Lib.hid hR
    clear hS hR
    by_cases hlt : k < xs.length
    · have hlt' : (k : Int) < (xs.length : Int) := by omega
      obtain ⟨b, off, cs, rfl, hcs, hat⟩ := Sl.at_ hx k hlt
      have hcs' : cs = [.int .i64 xs[k]] := by simpa [intK, scalar] using hcs
      subst hcs'
      simp only [show intK.sz = 1 from rfl, Nat.mul_one] at hat
      have hc := at1 hat hE0
      obtain ⟨hx0, hx1⟩ := hb xs[k] (List.getElem_mem hlt)
      have HX := Lib.hid (show xs.getD k 0 = xs[k] by rw [List.getD_eq_getElem?_getD, List.getElem?_eq_getElem hlt]; rfl)
      obtain ⟨x, hxe⟩ : ∃ x, x = xs[k] := ⟨_, rfl⟩
      rw [← hxe] at hc hx0 hx1 HX
      obtain ⟨m0, m1⟩ := mul_le' (a := (k : Int) + 1) (b := x) (A := 1000) (B := 1000) (by omega) (by omega) hx0 hx1
      have hSk : S ≤ 100000000 := by omega
      clear hcs hat hx hb hxe
      go_wp2
      refine ⟨⟨k + 1, S + ((k : Int) + 1) * x, by omega, by go_num, rfl, ?_, by omega, ?_⟩, by simp [intOf]; omega⟩
      · rw [sumF_succ, ← HS.out, HX.out]
      · have : ((k + 1 : Nat) : Int) * 1000000 = (k : Int) * 1000000 + 1000000 := by rw [Int.natCast_add, Int.add_mul]; rfl
        rw [this]
        omega
    · have hlt' : ¬ (k : Int) < (xs.length : Int) := by omega
      obtain rfl : k = xs.length := by omega
      have hv := Lib.hid (show S % s = R by rw [HS.out, HR.out])
      have ht : S.tmod s = S % s := Int.tmod_eq_emod_of_nonneg hS0
      clear hx hb
      go_wp2
      go_ret
      exact ⟨ret_int hv.out, hE0⟩
theorem ind_41 (s wd : Int) (ds : List Int) (KA A : Option Addr) (kl kc c day : Nat) (w : World) (hx : SlA intK w A ds) (hl : ds.length ≤ 100) (hd : day < ds.length) (hk0 : 0 < kl) (hk : kl ≤ 1000) (hb : ∀ d ∈ ds, 0 ≤ d ∧ d ≤ 1000) :
    Calls Try.prog 41 #[.agg #[.int .i64 s, .int .i64 wd, .slice KA kl kc, .slice A ds.length c], .int .i64 day] w fun e w' => e = .returned (.int .i64 ((ds.getD day 0 + day) % kl)) ∧ Ext w w' := by
  obtain ⟨b, off, cs, rfl, hcs, hat⟩ := Sl.at_ hx day hd
  have hcs' : cs = [.int .i64 ds[day]] := by simpa [intK, scalar] using hcs
  subst hcs'
  simp only [show intK.sz = 1 from rfl, Nat.mul_one] at hat
  obtain ⟨hx0, hx1⟩ := hb ds[day] (List.getElem_mem hd)
  have HX : ds.getD day 0 = ds[day] := by rw [List.getD_eq_getElem?_getD, List.getElem?_eq_getElem hd]; rfl
  rw [HX]
  obtain ⟨x, hxe⟩ : ∃ x, x = ds[day] := ⟨_, rfl⟩
  rw [← hxe] at hat hx0 hx1 ⊢
  have hc := fun (W : World) (h : Below w.heap.size w W) => at1 hat h
  have hz : ¬ (kl : Int) = 0 := by omega
  have ht : (x + day).tmod (kl : Int) = (x + day) % kl := Int.tmod_eq_emod_of_nonneg (by omega)
  have hd' : (day : Int) < (ds.length : Int) := by omega
  obtain ⟨R, hR⟩ : ∃ R, R = (x + day) % (kl : Int) := ⟨_, rfl⟩
  rw [← hR] at ht ⊢
  have hR' := Lib.hid hR
  have hR2 := hR.symm
  clear hcs hat hx hb hxe HX hR
  go_enter Try.func41, Try.ntmps41
  go_wp2
  go_quiet (fail)
  go_wp2
  go_ret
  exact ⟨rfl, by simp [go_sem]⟩
end Go.Proofs.Tp
/- Package cipher: what is asked of codes and guesses. -/
namespace Go.Proofs.Tp
open Go.RowKit Go.Proofs.Gr
set_option linter.unusedVariables false
set_option linter.unusedSimpArgs false
set_option maxRecDepth 100000
attribute [local go_sem] below_alloc' below_drewN' below_drew' below_set' Below.refl
def fineG (n : Nat) (s : Int) (g : Guess) : Bool := inR g.at_ 0 ((n : Int) - 1) && inR g.plain 0 (s - 1)
theorem fine_55 (s wd : Int) (g : Guess) (KK D : Value) (A : Option Addr) (l c gc gb : Nat) (w : World) (hs : -1000000000 ≤ s ∧ s ≤ 1000000000) (hl : l ≤ 1000) (hK : KK.oneCell' = true) (hD : D.oneCell' = true)
    (hc : ∀ W, Ext w W → W.cell? ⟨gc, 0, none⟩ = some (.slice A l c))
    (hb : ∀ W, Ext w W → W.cell? ⟨gb, 0, none⟩ = some (.int .i64 s) ∧ W.cell? ⟨gb, 1, none⟩ = some (.int .i64 wd) ∧ W.cell? ⟨gb, 2, none⟩ = some KK ∧ W.cell? ⟨gb, 3, none⟩ = some D) :
    Calls Try.prog 55 #[.agg #[.int .i64 g.at_, .int .i64 g.plain], .pointer (some ⟨gc, 0, none⟩), .pointer (some ⟨gb, 0, none⟩)] w fun e w' => e = .returned (.bool (fineG l s g)) ∧ Ext w w' := by
  obtain ⟨at_, pl⟩ := g
  simp only at *
  have hE0 := e1 w (.cells #[.int .i64 at_, .int .i64 pl] 85)
  have hc0 := hc _ hE0
  obtain ⟨b0, b1, b2, b3⟩ := hb _ hE0
  have hpl := fun (W : World) => Lib.hid (plain_40 s wd pl KK D W hs)
  clear hc hb
  cases h1 : inR at_ 0 ((l : Int) - 1)
  · have hv := Lib.hid (show false = fineG l s ⟨at_, pl⟩ by simp [fineG, h1])
    go_enter Try.func55, Try.ntmps55
    go_wp2_with (go_at_call 31; refine (within_31 _ _ _ _).mono ?_; rintro e w' ⟨rfl, rfl⟩)
    go_ret
    exact ⟨ret_bool hv.out, hE0⟩
  · have hv := Lib.hid (show inR pl 0 (s - 1) = fineG l s ⟨at_, pl⟩ by simp [fineG, h1])
    go_enter Try.func55, Try.ntmps55
    go_wp2_with (first
      | (go_at_call 31; refine (within_31 _ _ _ _).mono ?_; rintro e w' ⟨rfl, rfl⟩)
      | (go_at_call 40; refine (hpl _).out.mono ?_; rintro e W1 ⟨rfl, hE1⟩; have hB1 := hE0.trans hE1))
    go_ret
    exact ⟨ret_bool hv.out, hB1⟩
theorem asked_30 (s wd : Int) (ks : List CKey) (ds xs : List Int) (gs : List Guess) (KA DA A B : Option Addr) (kc dc c d : Nat) (w : World) (hs : -1000000000 ≤ s ∧ s ≤ 1000000000) (hk : SlA ckeyK w KA ks) (hd : SlA intK w DA ds) (hx : SlA intK w A xs) (hg : SlA guessK w B gs)
    (hkl : ks.length ≤ 1048576) (hdl : ds.length ≤ 1048576) (hck : checkF s wd ks ds = 0) (hxl : xs.length ≤ 10) (hgl : gs.length ≤ 6) (hxs : (xs.all fun x => inR x 0 (s - 1)) = true) (hgs : gs.all (fineG xs.length s) = true) :
    Calls Try.prog 30 #[.agg #[.int .i64 s, .int .i64 wd, .slice KA ks.length kc, .slice DA ds.length dc], .slice A xs.length c, .slice B gs.length d] w fun e w' => e = .returned (.int .i64 0) ∧ Ext w w' := by
  obtain ⟨w0, hw0⟩ : ∃ w0, w0 = (w.alloc (.cells #[.int .i64 s, .int .i64 wd, .slice KA ks.length kc, .slice DA ds.length dc] 49)).alloc (.cells #[.slice A xs.length c] 26) := ⟨_, rfl⟩
  have hE0 : Ext w w0 := by rw [hw0]; exact e2 w _ _
  have hsz : w0.heap.size = w.heap.size + 1 + 1 := by rw [hw0]; simp
  have hb : ∀ W, Ext w0 W → W.cell? ⟨w.heap.size, 0, none⟩ = some (.int .i64 s) ∧ W.cell? ⟨w.heap.size, 1, none⟩ = some (.int .i64 wd) ∧ W.cell? ⟨w.heap.size, 2, none⟩ = some (.slice KA ks.length kc) ∧ W.cell? ⟨w.heap.size, 3, none⟩ = some (.slice DA ds.length dc) := fun W hW => by
    refine ⟨?_, ?_, ?_, ?_⟩ <;> (rw [hW.cell (by rw [hsz]; simp only []; omega), hw0]; simp [go_sem])
  have hcb : ∀ W, Ext w0 W → W.cell? ⟨w.heap.size + 1, 0, none⟩ = some (.slice A xs.length c) := fun W hW => by
    rw [hW.cell (by rw [hsz]; simp only []; omega), hw0]; simp [go_sem]
  have hchk := fun (W : World) (e : Ext w0 W) => Lib.hid (check_37 s wd ks ds KA DA kc dc W hs (hk.ext (hE0.trans e)) (hd.ext (hE0.trans e)) hkl hdl)
  rw [hck] at hchk
  have hax := fun (W : World) (e : Ext w0 W) => Lib.hid (all_int xs (fun x => inR x 0 (s - 1)) A c 40 #[.agg #[.int .i64 s, .int .i64 wd, .slice KA ks.length kc, .slice DA ds.length dc]] #[] W enters_40 (hx.ext (hE0.trans e)) (by omega)
    (fun x hm V hV => plain_40 s wd x _ _ V hs))
  rw [hxs] at hax
  have hag := fun (W : World) (e : Ext w0 W) => Lib.hid (all_guess gs (fineG xs.length s) B d 55 #[] #[.pointer (some ⟨w.heap.size + 1, 0, none⟩), .pointer (some ⟨w.heap.size, 0, none⟩)] W enters_55 (hg.ext (hE0.trans e)) (by omega)
    (fun x hm V hV cs hr => by
      have hr' : cs = [.int .i64 x.at_, .int .i64 x.plain] := hr
      subst hr'
      exact fine_55 s wd x _ _ A xs.length c _ _ V hs (by omega) rfl rfl (fun W' h => hcb W' ((e.trans hV).trans h)) (fun W' h => hb W' ((e.trans hV).trans h))))
  rw [hgs] at hag
  have g1 : decide ((10 : Int) < (xs.length : Int)) = false := by simp; omega
  have g2 : ¬ (6 : Int) < (gs.length : Int) := by omega
  clear hk hd hx hg hck hxs hgs
  obtain ⟨b0, b1, b2, b3⟩ := hb w0 (Ext.refl _)
  go_enter Try.func30, Try.ntmps30
  go_wp2_with fail
  rw [← hw0]
  clear hw0 hsz
  refine (hchk w0 (Ext.refl _)).out.mono ?_
  rintro e W1 ⟨rfl, hE1⟩
  obtain ⟨c0, c1, c2, c3⟩ := hb W1 hE1
  have cc := hcb W1 hE1
  have hax1 := hax W1 hE1
  clear b0 b1 b2 b3 hax hchk
  go_wp2_with (go_at_call 39; refine hax1.out.mono ?_; rintro e W2 ⟨rfl, hE2⟩; have hB2 := hE1.trans hE2; have hag2 := hag _ hB2)
  refine hag2.out.mono ?_
  rintro e W3 ⟨rfl, hE3⟩
  have hB3 := hE0.trans (hB2.trans hE3)
  clear hag hag2 hax1 hb hcb
  go_wp2_with fail
  go_ret
  exact ⟨rfl, hB3⟩
end Go.Proofs.Tp
