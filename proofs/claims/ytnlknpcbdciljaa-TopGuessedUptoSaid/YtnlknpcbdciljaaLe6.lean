import Derived.Test.YtnlknpcbdciljaaLe5
/- Plain laws of the cipher: what is decoded is what was coded; a key agrees with what it coded. The statement's test of books at any number. -/
namespace Go.Proofs.Tp
open Go.RowKit Go.Proofs.Gr
set_option linter.unusedVariables false
set_option linter.unusedSimpArgs false
set_option maxRecDepth 100000
attribute [local go_sem] below_alloc' below_drewN' below_drew' below_set' Below.refl
theorem prime_cases {s : Int} (h : primeB s = true) : s = 13 ∨ s = 17 ∨ s = 19 ∨ s = 23 ∨ s = 29 ∨ s = 31 ∨ s = 37 ∨ s = 41 := by
  simp only [primeB, Bool.or_eq_true, decide_eq_true_eq] at h
  omega
theorem inv_all : ∀ i : Fin 8, ∀ m : Fin 42, 1 ≤ m.val → m.val < [13, 17, 19, 23, 29, 31, 37, 41].getD i.val 0 → (invF ([13, 17, 19, 23, 29, 31, 37, 41].getD i.val 0 : Nat) m.val * m.val) % ([13, 17, 19, 23, 29, 31, 37, 41].getD i.val 0 : Nat) = 1 := by decide +kernel
theorem inv_ok {s m : Int} (h : primeB s = true) (h1 : 1 ≤ m) (h2 : m ≤ s - 1) : (invF s m * m) % s = 1 := by
  have go : ∀ i : Fin 8, s = ([13, 17, 19, 23, 29, 31, 37, 41].getD i.val 0 : Nat) → s ≤ 41 → (invF s m * m) % s = 1 := fun i e e41 => by
    have := inv_all i ⟨m.toNat, by omega⟩ (by simp only []; omega) (by simp only []; omega)
    simp only [Int.toNat_of_nonneg (show 0 ≤ m by omega)] at this
    rw [← e] at this
    exact this
  rcases prime_cases h with e | e | e | e | e | e | e | e
  · exact go 0 (by rw [e]; rfl) (by omega)
  · exact go 1 (by rw [e]; rfl) (by omega)
  · exact go 2 (by rw [e]; rfl) (by omega)
  · exact go 3 (by rw [e]; rfl) (by omega)
  · exact go 4 (by rw [e]; rfl) (by omega)
  · exact go 5 (by rw [e]; rfl) (by omega)
  · exact go 6 (by rw [e]; rfl) (by omega)
  · exact go 7 (by rw [e]; rfl) (by omega)
theorem left_code (s : Int) (k : CKey) (p a : Int) : leftF s k (codeF s k p a) a = (k.mul * p) % s := by
  unfold leftF codeF
  have e : a * (s - k.step) = a * s - a * k.step := by rw [Int.mul_sub]
  have h1 : ((k.mul * p + k.add + a * k.step) % s + (s - k.add) % s + a * (s - k.step)) % s = ((k.mul * p + k.add + a * k.step) + (s - k.add) + a * (s - k.step)) % s := by
    rw [Int.add_emod ((k.mul * p + k.add + a * k.step) % s + (s - k.add) % s), ← Int.add_emod (k.mul * p + k.add + a * k.step) (s - k.add), ← Int.add_emod]
  rw [h1, e]
  have h2 : k.mul * p + k.add + a * k.step + (s - k.add) + (a * s - a * k.step) = k.mul * p + (1 + a) * s := by
    rw [Int.add_mul, Int.one_mul]; omega
  rw [h2, Int.add_mul_emod_self_right]
/-- what is decoded is what was coded -/
theorem dec_code {s : Int} {k : CKey} {p a : Int} (h : primeB s = true) (hk : keyB s k = true) (h0 : 0 ≤ p) (h1 : p < s) : decF s k (codeF s k p a) a = p := by
  obtain ⟨hm, _, _⟩ := vk_bound hk
  have hi := inv_ok h hm.1 hm.2
  rw [decF, left_code, Int.mul_emod, Int.emod_emod, ← Int.mul_emod]
  rw [show k.mul * p * invF s k.mul = p * (invF s k.mul * k.mul) by rw [Int.mul_comm k.mul p, Int.mul_assoc, Int.mul_comm k.mul], Int.mul_emod, hi, Int.mul_one, Int.emod_emod]
  exact Int.emod_eq_of_lt h0 h1
theorem turned_get (s : Int) (k : CKey) (xs : List Int) (i : Nat) (hi : i < xs.length) : (turnedF s k xs xs.length).getD i 0 = codeF s k (xs.getD i 0) i := by
  rw [turnedF, List.getD_eq_getElem?_getD, List.getElem?_map, List.getElem?_range hi]
  rfl
theorem turned_len (s : Int) (k : CKey) (xs : List Int) : (turnedF s k xs xs.length).length = xs.length := by rw [turnedF, List.length_map, List.length_range]
theorem agr_turned (s : Int) (k : CKey) (xs : List Int) (gs : List Guess) (h : GsOk xs gs) : Agr s (turnedF s k xs xs.length) gs k := by
  refine List.all_eq_true.2 fun g hg => ?_
  obtain ⟨i, hi, h1, h2⟩ := h.2 g hg
  rw [agreeF, beq_iff_eq, h1, Int.toNat_natCast, turned_get s k xs i hi, h2, List.getD_eq_getElem?_getD, List.getElem?_eq_getElem hi]
  rfl
theorem gs_fine (s : Int) (xs : List Int) (gs : List Guess) (n : Nat) (hn : n = xs.length) (hx : (xs.all fun x => inR x 0 (s - 1)) = true) (h : GsOk xs gs) : gs.all (fineG n s) = true := by
  refine List.all_eq_true.2 fun g hg => ?_
  obtain ⟨i, hi, h1, h2⟩ := h.2 g hg
  have h3 := List.all_eq_true.1 hx _ (List.getElem_mem hi)
  rw [fineG, h1, h2, h3, Bool.and_true]
  simp only [inR, Bool.and_eq_true, decide_eq_true_eq]
  omega
theorem valid_check {s wd : Int} {ks : List CKey} {ds : List Int} (h : Valid s wd ks ds) : checkF s wd ks ds = 0 := by
  have h1 := h.khi
  have h2 := h.dhi
  have hp := prime_cases h.prime
  rw [checkF, if_neg (by omega), if_pos]
  rw [bookB]
  have hk : ks ≠ [] := fun e => by have := h.klo; rw [e] at this; exact absurd this (by decide)
  have hd : ds ≠ [] := fun e => by have := h.dlo; rw [e] at this; exact absurd this (by decide)
  have hn : noDiv s s.toNat = true := by
    have h3 := noDiv_prime ⟨s.toNat, by omega⟩ (by simp only []; omega)
    simp only [Int.toNat_of_nonneg (show 0 ≤ s by omega)] at h3
    rw [h3]; exact h.prime
  have hr : inR s 13 41 = true := by simp only [inR, Bool.and_eq_true, decide_eq_true_eq]; omega
  rw [hr, hn, h.words, h.key, h.day]
  simp [hk, hd]
theorem bfault_any (s wd : Int) (ks : List CKey) (ds : List Int) (KA DA : Option Addr) (kc dc : Nat) (w : World) (hk : SlA ckeyK w KA ks) (hd : SlA intK w DA ds) (hkl : ks.length ≤ 1048576) (hdl : ds.length ≤ 1048576) :
    Calls Try.prog 7 #[.agg #[.int .i64 s, .int .i64 wd, .slice KA ks.length kc, .slice DA ds.length dc]] w fun e w' => RF (Valid s wd ks ds) e ∧ Ext w w' := by
  cases hpr : primeB s
  · obtain ⟨w0, hw0⟩ : ∃ w0, w0 = w.alloc (.cells #[.int .i64 s, .int .i64 wd, .slice KA ks.length kc, .slice DA ds.length dc] 28) := ⟨_, rfl⟩
    have hE0 : Ext w w0 := by rw [hw0]; exact e1 w _
    have hp := fun (W : World) => Lib.hid (prime_16 s W)
    simp only [hpr] at hp
    clear hk hd
    by_cases h5 : 5 < ks.length
    · have h5' : decide ((5 : Int) < (ks.length : Int)) = true := by simp; omega
      go_enter Try.func7, Try.ntmps7
      go_wp2
      go_ret
      exact ⟨⟨3, rfl, fun h => absurd h (by decide)⟩, by rw [← hw0]; exact hE0⟩
    · have h5' : decide ((5 : Int) < (ks.length : Int)) = false := by simp; omega
      by_cases h8 : 8 < ds.length
      · have h8' : decide ((8 : Int) < (ds.length : Int)) = true := by simp; omega
        go_enter Try.func7, Try.ntmps7
        go_wp2
        go_ret
        exact ⟨⟨3, rfl, fun h => absurd h (by decide)⟩, by rw [← hw0]; exact hE0⟩
      · have h8' : decide ((8 : Int) < (ds.length : Int)) = false := by simp; omega
        go_enter Try.func7, Try.ntmps7
        go_wp2_with (go_at_call 16; refine (hp _).out.mono ?_; rintro e W1 ⟨rfl, hE1⟩)
        go_wp2
        go_ret
        exact ⟨⟨1, rfl, fun h => absurd h (by decide)⟩, by rw [← hw0] at hE1; exact hE0.trans hE1⟩
  · have := prime_cases hpr
    exact bfault_7 s wd ks ds KA DA kc dc w (by omega) hk hd hkl hdl
end Go.Proofs.Tp
