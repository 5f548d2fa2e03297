import Derived.Test.YtnlknpcbdciljaaCip2
/- What the statement's own small helpers return. -/
namespace Go.Proofs.Tp
open Go.RowKit
set_option linter.unusedVariables false
set_option linter.unusedSimpArgs false
set_option maxRecDepth 100000
attribute [local go_sem] below_alloc' below_drewN' below_drew' below_set' Below.refl
theorem in_15 (n lo hi : Int) (w : World) : Calls Try.prog 15 #[.int .i64 n, .int .i64 lo, .int .i64 hi] w fun e w' => e = .returned (.bool (inR n lo hi)) ∧ w = w' := by
  by_cases h : lo ≤ n
  · have hv := Lib.hid (show decide (n ≤ hi) = inR n lo hi by simp [inR, h])
    go_enter Try.func15, Try.ntmps15
    go_wp2
    go_ret
    exact ⟨ret_bool hv.out, rfl⟩
  · have hv := Lib.hid (show false = inR n lo hi by simp [inR, h])
    go_enter Try.func15, Try.ntmps15
    go_wp2
    go_ret
    exact ⟨ret_bool hv.out, rfl⟩
theorem in_17 (n lo hi : Int) (w : World) : Calls Try.prog 17 #[.int .i64 n, .int .i64 lo, .int .i64 hi] w fun e w' => e = .returned (.bool (inR n lo hi)) ∧ w = w' := by
  by_cases h : lo ≤ n
  · have hv := Lib.hid (show decide (n ≤ hi) = inR n lo hi by simp [inR, h])
    go_enter Try.func17, Try.ntmps17
    go_wp2
    go_ret
    exact ⟨ret_bool hv.out, rfl⟩
  · have hv := Lib.hid (show false = inR n lo hi by simp [inR, h])
    go_enter Try.func17, Try.ntmps17
    go_wp2
    go_ret
    exact ⟨ret_bool hv.out, rfl⟩
def costF (k : Int) : Int := if k = 0 then 0 else 1
theorem cost_54 (k : Int) (w : World) : Calls Try.prog 54 #[.int .i64 k] w fun e w' => e = .returned (.int .i64 (costF k)) ∧ w = w' := by
  by_cases h : k = 0
  · subst h
    have hv := Lib.hid (show (0 : Int) = costF 0 from rfl)
    go_enter Try.func54, Try.ntmps54
    go_wp2
    go_ret
    exact ⟨ret_int hv.out, rfl⟩
  · have hb : (k == 0) = false := by simpa using h
    have hv := Lib.hid (show (1 : Int) = costF k by rw [costF, if_neg h])
    clear h
    go_enter Try.func54, Try.ntmps54
    go_wp2
    go_ret
    exact ⟨ret_int hv.out, rfl⟩
def thinF (a b : Nat) : Bool := decide (a ≤ 8 ∧ b ≤ 11)
theorem thin_6 (s wd : Int) (KA DA : Option Addr) (kl kc dl dc : Nat) (w : World) (hk : kl ≤ 1048576) (hd : dl ≤ 1048576) :
    Calls Try.prog 6 #[.agg #[.int .i64 s, .int .i64 wd, .slice KA kl kc, .slice DA dl dc]] w fun e w' => e = .returned (.bool (thinF kl dl)) ∧ Ext w w' := by
  by_cases h : kl ≤ 8
  · have h' : (kl : Int) ≤ 8 := by omega
    have hv := Lib.hid (show decide ((dl : Int) ≤ 11) = thinF kl dl by rw [thinF, decide_eq_decide]; omega)
    clear h
    go_enter Try.func6, Try.ntmps6
    go_wp2
    go_ret
    exact ⟨ret_bool hv.out, by simp [go_sem]⟩
  · have h' : ¬ (kl : Int) ≤ 8 := by omega
    have hv := Lib.hid (show false = thinF kl dl by symm; rw [thinF, decide_eq_false_iff_not]; omega)
    clear h
    go_enter Try.func6, Try.ntmps6
    go_wp2
    go_ret
    exact ⟨ret_bool hv.out, by simp [go_sem]⟩
def codeF (s : Int) (k : CKey) (n at_ : Int) : Int := (k.mul * n + k.add + at_ * k.step) % s
theorem mul_le' {a b : Int} {A B : Nat} (h0 : 0 ≤ a) (h1 : a ≤ A) (h2 : 0 ≤ b) (h3 : b ≤ B) : 0 ≤ a * b ∧ a * b ≤ (A : Int) * B :=
  ⟨Int.mul_nonneg h0 h2, Int.mul_le_mul h1 h3 h2 (Int.natCast_nonneg A)⟩
theorem code_43 (s wd : Int) (k : CKey) (n a : Int) (K D : Value) (w : World) (hs : 1 ≤ s ∧ s ≤ 1000) (h1 : 0 ≤ k.mul ∧ k.mul ≤ 1000) (h2 : 0 ≤ k.add ∧ k.add ≤ 1000) (h3 : 0 ≤ k.step ∧ k.step ≤ 1000) (h4 : 0 ≤ n ∧ n ≤ 1000) (h5 : 0 ≤ a ∧ a ≤ 1000)
    (hK : K.oneCell' = true) (hD : D.oneCell' = true) :
    Calls Try.prog 43 #[.agg #[.int .i64 s, .int .i64 wd, K, D], .agg #[.int .i64 k.mul, .int .i64 k.add, .int .i64 k.step], .int .i64 n, .int .i64 a] w fun e w' => e = .returned (.int .i64 (codeF s k n a)) ∧ Ext w w' := by
  obtain ⟨m1, m2⟩ := mul_le' (A := 1000) (B := 1000) h1.1 h1.2 h4.1 h4.2
  obtain ⟨m3, m4⟩ := mul_le' (A := 1000) (B := 1000) h5.1 h5.2 h3.1 h3.2
  obtain ⟨mu, ad, st⟩ := k
  simp only at *
  have hv := Lib.hid (show (mu * n + ad + a * st) % s = codeF s ⟨mu, ad, st⟩ n a from rfl)
  have hz : ¬ s = 0 := by omega
  go_enter Try.func43, Try.ntmps43
  go_wp2
  go_ret
  exact ⟨ret_int hv.out, by simp [go_sem]⟩
theorem codeof_23 (s wd : Int) (k : CKey) (n a : Int) (K D : Value) (w : World) (hs : 1 ≤ s ∧ s ≤ 1000) (h1 : 0 ≤ k.mul ∧ k.mul ≤ 1000) (h2 : 0 ≤ k.add ∧ k.add ≤ 1000) (h3 : 0 ≤ k.step ∧ k.step ≤ 1000) (h4 : 0 ≤ n ∧ n ≤ 1000) (h5 : 0 ≤ a ∧ a ≤ 1000)
    (hK : K.oneCell' = true) (hD : D.oneCell' = true) :
    Calls Try.prog 23 #[.agg #[.int .i64 s, .int .i64 wd, K, D], .agg #[.int .i64 k.mul, .int .i64 k.add, .int .i64 k.step], .int .i64 n, .int .i64 a] w fun e w' => e = .returned (.int .i64 (codeF s k n a)) ∧ Ext w w' := by
  obtain ⟨m1, m2⟩ := mul_le' (A := 1000) (B := 1000) h1.1 h1.2 h4.1 h4.2
  obtain ⟨m3, m4⟩ := mul_le' (A := 1000) (B := 1000) h5.1 h5.2 h3.1 h3.2
  obtain ⟨mu, ad, st⟩ := k
  simp only at *
  have hv := Lib.hid (show (mu * n + ad + a * st) % s = codeF s ⟨mu, ad, st⟩ n a from rfl)
  have hz : ¬ s = 0 := by omega
  go_enter Try.func23, Try.ntmps23
  go_wp2
  go_ret
  exact ⟨ret_int hv.out, by simp [go_sem]⟩
def invF (s n : Int) : Int := match (List.range s.toNat).find? (fun (m : Nat) => ((m : Int) * n) % s == 1) with | some m => m | none => 0
theorem invF_hit {s n : Int} {k : Nat} (hk : (k : Int) < s) (h : ((k : Int) * n) % s = 1) (hno : ∀ j, j < k → ((j : Int) * n) % s ≠ 1) : invF s n = k := by
  have : (List.range s.toNat).find? (fun (m : Nat) => ((m : Int) * n) % s == 1) = some k := by
    rw [List.find?_range_eq_some]
    refine ⟨by simpa using h, List.mem_range.2 (by omega), fun j hj => ?_⟩
    simpa using hno j hj
  rw [invF, this]
theorem invF_miss {s n : Int} {k : Nat} (hk : s = k) (hno : ∀ j, j < k → ((j : Int) * n) % s ≠ 1) : invF s n = 0 := by
  have : (List.range s.toNat).find? (fun (m : Nat) => ((m : Int) * n) % s == 1) = none := by
    rw [List.find?_eq_none]
    intro j hj
    have := hno j (by have := List.mem_range.1 hj; omega)
    simpa using this
  rw [invF, this]
theorem inv_60 (s wd n : Int) (K D : Value) (w : World) (hs : 1 ≤ s ∧ s ≤ 1000) (hn : 0 ≤ n ∧ n ≤ 1000) (hK : K.oneCell' = true) (hD : D.oneCell' = true) :
    Calls Try.prog 60 #[.agg #[.int .i64 s, .int .i64 wd, K, D], .int .i64 n] w fun e w' => e = .returned (.int .i64 (invF s n)) ∧ Ext w w' := by
  go_enter Try.func60, Try.ntmps60
  go_wp2
  go_loop [4, 5, 8] (fun r u i => ∃ k : Nat, (k : Int) ≤ s ∧ i = .int .i64 k ∧ r = .int .i64 0 ∧ ∀ j, j < k → ((j : Int) * n) % s ≠ 1) (fun _ _ i => (s - intOf i).toNat)
  case atStart => exact ⟨0, by omega, rfl, rfl, fun j hj => absurd hj (Nat.not_lt_zero _)⟩
  case round =>
    obtain ⟨k, hk, rfl, rfl, hno⟩ := hrel
    have HNO := Lib.hid hno
    clear hno
    by_cases hlt : (k : Int) < s
    · obtain ⟨m1, m2⟩ := mul_le' (a := (k : Int)) (b := n) (A := 1000) (B := 1000) (by omega) (by omega) hn.1 hn.2
      have hz : ¬ s = 0 := by omega
      by_cases h1 : ((k : Int) * n) % s = 1
      · have hv := Lib.hid (invF_hit hlt h1 HNO.out)
        have hb : ((k : Int) * n % s == 1) = true := by simpa using h1
        clear h1
        go_wp2
        go_ret
        exact ⟨ret_int hv.out.symm, by simp [go_sem]⟩
      · have hno' := Lib.hid (show ∀ j, j < k + 1 → ((j : Int) * n) % s ≠ 1 from fun j hj => by
          by_cases e : j = k
          · subst e; exact h1
          · exact HNO.out j (by omega))
        have hb : ((k : Int) * n % s == 1) = false := by simpa using h1
        clear h1
        go_wp2
        exact ⟨⟨k + 1, by omega, by go_num, rfl, hno'.out⟩, by simp [intOf]; omega⟩
    · have hv := Lib.hid (invF_miss (show s = k by omega) HNO.out)
      go_wp2
      go_ret
      exact ⟨ret_int hv.out.symm, by simp [go_sem]⟩
end Go.Proofs.Tp
