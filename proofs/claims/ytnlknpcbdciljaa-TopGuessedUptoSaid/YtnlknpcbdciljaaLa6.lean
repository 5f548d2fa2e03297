import Derived.Test.YtnlknpcbdciljaaLa5
/- Numbers as texts of digits: how many letters they need, and what a text means. -/
namespace Go.Proofs.Tp
open Go.RowKit Go.Proofs.Gr
set_option linter.unusedVariables false
set_option linter.unusedSimpArgs false
set_option maxRecDepth 100000
attribute [local go_sem] below_alloc' below_drewN' below_drew' below_set' Below.refl
def PL (L : Nat) (s : Int) (e : Ending) : Prop := ∃ p : Nat, e = .returned (.int .i64 p) ∧ p ≤ 4 ∧ s ≤ ((L ^ p : Nat) : Int)
theorem pow_le4 {L n : Nat} (h3 : 3 ≤ L) (h : L ^ n < 41) : n ≤ 3 := by
  rcases Nat.lt_or_ge 3 n with h4 | h4
  · exfalso
    have h1 : 3 ^ 4 ≤ L ^ n := Nat.le_trans (Nat.pow_le_pow_left h3 4) (Nat.pow_le_pow_right (by omega) h4)
    omega
  · exact h4
theorem places_24 (s wd : Int) (A : Option Addr) (L c : Nat) (KK D : Value) (w : World) (hs : s ≤ 41) (hs0 : -1000000000 ≤ s) (h3 : 3 ≤ L) (hL : L ≤ 6) (hK : KK.oneCell' = true) (hD : D.oneCell' = true) :
    Calls Try.prog 24 #[.agg #[.slice A L c], .agg #[.int .i64 s, .int .i64 wd, KK, D]] w fun e w' => PL L s e ∧ Ext w w' := by
  obtain ⟨w0, hw0⟩ : ∃ w0, w0 = (w.alloc (.cells #[.slice A L c] 24)).alloc (.cells #[.int .i64 s, .int .i64 wd, KK, D] 28) := ⟨_, rfl⟩
  have hE0 : Ext w w0 := by rw [hw0]; exact e2 w _ _
  have hsz : w0.heap.size = w.heap.size + 1 + 1 := by rw [hw0]; simp
  have hb0 : ∀ W, Below w0.heap.size w0 W → W.cell? ⟨w.heap.size, 0, none⟩ = some (.slice A L c) := fun W hW => by
    rw [hW.cell (by rw [hsz]; simp only []; omega), hw0]; simp [go_sem]
  have hb1 : ∀ W, Below w0.heap.size w0 W → W.cell? ⟨w.heap.size + 1, 0, none⟩ = some (.int .i64 s) := fun W hW => by
    rw [hW.cell (by rw [hsz]; simp only []; omega), hw0]; simp [go_sem]
  have hL2 : decide ((2 : Int) < (L : Int)) = true := by simp; omega
  go_enter Try.func24, Try.ntmps24
  go_wp2
  rw [← hw0]
  clear hw0 hsz
  go_loopw [5, 6] (fun n al wr => ∃ k a : Nat, n = .int .i64 k ∧ al = .int .i64 a ∧ a = L ^ k ∧ k ≤ 4 ∧ a ≤ 41 * 6 ∧ Below w0.heap.size w0 wr) (fun n _ _ => 5 - (intOf n).toNat)
  case atStart => exact ⟨0, 1, rfl, rfl, rfl, by decide, by decide, Below.refl _ _⟩
  case round =>
    obtain ⟨k, a, rfl, rfl, ha, hk4, ha6, hB⟩ := hrel
    have HA := Lib.hid ha
    have HB := Lib.hid hB
    clear ha
    by_cases hlt : (a : Int) < s
    · have hk3 := pow_le4 (L := L) (n := k) h3 (by rw [← HA.out]; omega)
      have hm := Nat.mul_le_mul (show a ≤ 40 by omega) hL
      have hmi : (a : Int) * (L : Int) = ((a * L : Nat) : Int) := by simp
      have hm0 : (0 : Int) ≤ (a : Int) * L := by rw [hmi]; omega
      have hm1 : (a : Int) * L ≤ 240 := by rw [hmi]; omega
      have hb0' := fun (W : World) (h : Below wr.heap.size wr W) => hb0 W (hB.trans (h.mono hB.size))
      have hb1' := fun (W : World) (h : Below wr.heap.size wr W) => hb1 W (hB.trans (h.mono hB.size))
      clear hb0 hb1 hB hmi
      go_wp2
      go_quiet (fail)
      go_wp2
      exact ⟨⟨k + 1, a * L, by go_num, by simp, by rw [HA.out, Nat.pow_succ], by omega, by omega, Ext.dr HB.out _⟩, by simp [intOf]; omega⟩
    · go_wp2
      go_ret
      refine ⟨⟨k, rfl, hk4, ?_⟩, hE0.trans HB.out⟩
      rw [← HA.out]
      omega
/-- what a text of digits means -/
def meantF (L : Nat) (xs : List Nat) : Nat := xs.foldl (fun n x => n * L + x) 0
theorem meantF_snoc (L : Nat) (xs : List Nat) (x : Nat) : meantF L (xs ++ [x]) = meantF L xs * L + x := by simp [meantF]
theorem meantF_lt (L : Nat) : ∀ (n : Nat) (xs : List Nat), xs.length = n → (∀ x ∈ xs, x < L) → meantF L xs < L ^ n
  | 0, xs, hn, h => by
    obtain rfl := List.eq_nil_of_length_eq_zero hn
    simp [meantF]
  | n + 1, xs, hn, h => by
    rcases List.eq_nil_or_concat xs with rfl | ⟨ys, x, rfl⟩
    · simp at hn
    · have h1 := meantF_lt L n ys (by simpa using hn) (fun y hy => h y (by simp [hy]))
      have h2 := h x (by simp)
      rw [List.concat_eq_append, meantF_snoc, Nat.pow_succ]
      have h3 : (meantF L ys + 1) * L ≤ L ^ n * L := Nat.mul_le_mul_right L h1
      rw [Nat.add_mul, Nat.one_mul] at h3
      omega
def meantR (L : Nat) (xs : List Nat) (n : Nat) : Int := if xs.length = n then (meantF L xs : Int) else -1
theorem meant_29 (A : Option Addr) (L c : Nat) (xs : List Nat) (B : Option Addr) (d n : Nat) (w : World) (h3 : 1 ≤ L) (hL : L ≤ 6) (hn : n ≤ 5) (hx : SlA intK w B (xs.map fun x : Nat => (x : Int))) (hxs : ∀ x ∈ xs, x < L) (hxl : xs.length ≤ 1048576) :
    Calls Try.prog 29 #[.agg #[.slice A L c], .slice B xs.length d, .int .i64 n] w fun e w' => e = .returned (.int .i64 (meantR L xs n)) ∧ Ext w w' := by
  obtain ⟨w0, hw0⟩ : ∃ w0, w0 = w.alloc (.cells #[.slice A L c] 24) := ⟨_, rfl⟩
  have hE0 : Ext w w0 := by rw [hw0]; exact e1 w _
  have hsz : w0.heap.size = w.heap.size + 1 := by rw [hw0]; simp
  have hb0 : ∀ W, Below w0.heap.size w0 W → W.cell? ⟨w.heap.size, 0, none⟩ = some (.slice A L c) := fun W hW => by
    rw [hW.cell (by rw [hsz]; simp only []; omega), hw0]; simp [go_sem]
  by_cases hln : xs.length = n
  · subst hln
    have hv := Lib.hid (show (meantF L xs : Int) = meantR L xs xs.length by rw [meantR, if_pos rfl])
    go_enter Try.func29, Try.ntmps29
    go_wp2
    rw [← hw0]
    clear hw0 hsz
    go_loopw [7, 8] (fun v i wr => ∃ k m : Nat, k ≤ xs.length ∧ i = .int .i64 k ∧ v = .int .i64 m ∧ m = meantF L (xs.take k) ∧ Below w0.heap.size w0 wr) (fun _ i _ => xs.length - (intOf i).toNat)
    case atStart => exact ⟨0, 0, Nat.zero_le _, rfl, rfl, by simp [meantF], Below.refl _ _⟩
    case round =>
      obtain ⟨k, m, hk, rfl, rfl, hm, hB⟩ := hrel
      have HM := Lib.hid hm
      have HB := Lib.hid hB
      clear hm
      by_cases hlt : k < xs.length
      · have hlt' : (k : Int) < (xs.length : Int) := by omega
        obtain ⟨b, off, cs, rfl, hcs, hat⟩ := Sl.at_ hx k (by simpa using hlt)
        have hcs' : cs = [.int .i64 (xs[k] : Int)] := by simpa [intK, scalar] using hcs
        subst hcs'
        simp only [show intK.sz = 1 from rfl, Nat.mul_one] at hat
        have hc := fun (W : World) (h : Below wr.heap.size wr W) => at1 hat (hE0.trans (hB.trans (h.mono hB.size)))
        have hb' := fun (W : World) (h : Below wr.heap.size wr W) => hb0 W (hB.trans (h.mono hB.size))
        have hmb : m < L ^ 4 * 1 := by
          have h1 := meantF_lt L k (xs.take k) (by rw [List.length_take]; omega) (fun x hx => hxs x (List.mem_of_mem_take hx))
          rw [← HM.out] at h1
          have := Nat.pow_le_pow_right (n := L) (by omega) (show k ≤ 4 by omega)
          omega
        have h64 : L ^ 4 ≤ 6 ^ 4 := Nat.pow_le_pow_left hL 4
        have hxk := hxs xs[k] (List.getElem_mem hlt)
        obtain ⟨x, hxe⟩ : ∃ x, x = xs[k] := ⟨_, rfl⟩
        rw [← hxe] at hc hxk
        have HX := Lib.hid hxe
        have hmm := Nat.mul_le_mul (show m ≤ 1296 by omega) hL
        have hmi : (m : Int) * (L : Int) = ((m * L : Nat) : Int) := by simp
        have hm0 : (0 : Int) ≤ (m : Int) * L := by rw [hmi]; omega
        have hm1 : (m : Int) * L ≤ 7776 := by rw [hmi]; omega
        clear hcs hat hb0 hB hx hxe hmb h64 hmi hxs
        go_wp2
        go_quiet (fail)
        go_wp2
        refine ⟨⟨k + 1, m * L + x, by omega, by go_num, by simp, ?_, Ext.dr HB.out _⟩, by simp [intOf]; omega⟩
        rw [List.take_succ_eq_append_getElem hlt, meantF_snoc, HM.out, HX.out]
      · have hlt' : ¬ (k : Int) < (xs.length : Int) := by omega
        obtain rfl : k = xs.length := by omega
        have hmv := HM.out
        rw [List.take_length] at hmv
        have hv' := Lib.hid (show (m : Int) = meantR L xs xs.length by rw [hmv]; exact hv.out)
        clear hmv
        go_wp2
        go_ret
        exact ⟨ret_int hv'.out, hE0.trans HB.out⟩
  · have hv := Lib.hid (show (-1 : Int) = meantR L xs n by rw [meantR, if_neg hln])
    have hne : ((xs.length : Int) == (n : Int)) = false := by rw [beq_eq_false_iff_ne]; omega
    clear hln
    go_enter Try.func29, Try.ntmps29
    go_wp2
    go_ret
    exact ⟨ret_int hv.out, by rw [← hw0]; exact hE0⟩
end Go.Proofs.Tp
