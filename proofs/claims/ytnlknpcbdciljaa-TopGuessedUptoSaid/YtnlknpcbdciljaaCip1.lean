import Derived.Test.YtnlknpcbdciljaaFam
/- Package cipher: what its small tests return. -/
namespace Go.Proofs.Tp
open Go.RowKit
set_option linter.unusedVariables false
set_option maxRecDepth 100000
attribute [local go_sem] below_alloc' below_drewN' below_drew' below_set' Below.refl
/-- no divisor from 2 on below k -/
def noDiv (n : Int) (k : Nat) : Bool := (List.range k).all fun d => !(decide (1 < (d : Int)) && decide (n % (d : Int) = 0))
theorem noDiv_hit (n : Int) (k : Nat) (h : 1 < (k : Int)) (h2 : n % (k : Int) = 0) (m : Nat) (hm : k < m) : noDiv n m = false := by
  unfold noDiv
  rw [Bool.eq_false_iff]
  intro hh
  have := List.all_eq_true.1 hh k (List.mem_range.2 hm)
  simp [h, h2] at this
theorem noDiv_next (n : Int) (k : Nat) (hp : noDiv n k = true) (h : ¬ (1 < (k : Int) ∧ n % (k : Int) = 0)) : noDiv n (k + 1) = true := by
  unfold noDiv at *
  rw [List.range_succ, List.all_append, hp]
  simp only [List.all_cons, List.all_nil, Bool.and_true, Bool.true_and, Bool.not_eq_true', Bool.and_eq_false_iff, decide_eq_false_iff_not]
  by_cases h1 : 1 < (k : Int)
  · exact .inr (fun h2 => h ⟨h1, h2⟩)
  · exact .inl h1
def primeB (n : Int) : Bool := n = 13 || n = 17 || n = 19 || n = 23 || n = 29 || n = 31 || n = 37 || n = 41
theorem noDiv_prime : ∀ m : Fin 42, 13 ≤ m.val → noDiv (m.val : Int) m.val = primeB (m.val : Int) := by decide +kernel
theorem prime_63 (n : Int) (w : World) (h0 : 0 ≤ n) (h1 : n ≤ 1000) : Calls Try.prog 63 #[.int .i64 n] w fun e w' => e = .returned (.bool (noDiv n n.toNat)) ∧ w = w' := by
  go_enter Try.func63, Try.ntmps63
  go_wp2
  go_step3
  go_wp2
  go_step3
  go_wp2
  go_loop [2, 5] (fun r i => ∃ k : Nat, (k : Int) ≤ n ∧ i = .int .i64 k ∧ r = .bool true ∧ noDiv n k = true) (fun _ i => (n - intOf i).toNat)
  case atStart => exact ⟨0, by omega, rfl, rfl, rfl⟩
  case round =>
    obtain ⟨k, hk, rfl, rfl, hp⟩ := hrel
    have HP := Lib.hid hp
    clear hp
    by_cases hlt : (k : Int) < n
    · by_cases hd : 1 < (k : Int)
      · by_cases hm : n % (k : Int) = 0
        · have hz := Lib.hid (noDiv_hit n k hd hm n.toNat (by omega))
          have hb : (n % (k : Int) == 0) = true := by simpa using hm
          clear hm
          go_wp2
          go_ret
          exact ⟨ret_bool hz.out.symm, rfl⟩
        · have hnx := Lib.hid (noDiv_next n k HP.out (fun h => hm h.2))
          have hb : (n % (k : Int) == 0) = false := by simpa using hm
          clear hm
          go_wp2
          exact ⟨⟨k + 1, by omega, by go_num, rfl, hnx.out⟩, by simp [intOf]; omega⟩
      · have hnx := Lib.hid (noDiv_next n k HP.out (fun h => hd h.1))
        go_wp2
        exact ⟨⟨k + 1, by omega, by go_num, rfl, hnx.out⟩, by simp [intOf]; omega⟩
    · have hz := Lib.hid (show noDiv n n.toNat = true by rw [show n.toNat = k by omega]; exact HP.out)
      go_wp2
      go_ret
      exact ⟨ret_bool hz.out.symm, rfl⟩
theorem within_31 (n lo hi : Int) (w : World) : Calls Try.prog 31 #[.int .i64 n, .int .i64 lo, .int .i64 hi] w fun e w' => e = .returned (.bool (inR n lo hi)) ∧ w = w' := by
  by_cases h : lo ≤ n
  · have hv := Lib.hid (show decide (n ≤ hi) = inR n lo hi by simp [inR, h])
    go_enter Try.func31, Try.ntmps31
    go_wp2
    go_ret
    exact ⟨ret_bool hv.out, rfl⟩
  · have hv := Lib.hid (show false = inR n lo hi by simp [inR, h])
    go_enter Try.func31, Try.ntmps31
    go_wp2
    go_ret
    exact ⟨ret_bool hv.out, rfl⟩
theorem plain_40 (s wd n : Int) (K D : Value) (w : World) (hs : -1000000000 ≤ s ∧ s ≤ 1000000000) : Calls Try.prog 40 #[.agg #[.int .i64 s, .int .i64 wd, K, D], .int .i64 n] w fun e w' => e = .returned (.bool (inR n 0 (s - 1))) ∧ Ext w w' := by
  go_enter Try.func40, Try.ntmps40
  go_wp2_with (go_at_call 31; refine (within_31 _ _ _ _).mono ?_; rintro e w' ⟨rfl, rfl⟩)
  go_ret
  exact ⟨rfl, by simp [go_sem]⟩
theorem own_62 (s wd n : Int) (A : Option Addr) (l c : Nat) (D : Value) (w : World) (hl : l ≤ 1048576) : Calls Try.prog 62 #[.agg #[.int .i64 s, .int .i64 wd, .slice A l c, D], .int .i64 n] w fun e w' => e = .returned (.bool (inR n 0 ((l : Int) - 1))) ∧ Ext w w' := by
  go_enter Try.func62, Try.ntmps62
  go_wp2_with (go_at_call 31; refine (within_31 _ _ _ _).mono ?_; rintro e w' ⟨rfl, rfl⟩)
  go_ret
  exact ⟨rfl, by simp [go_sem]⟩
theorem day_38 (s wd n : Int) (A : Option Addr) (l c : Nat) (K : Value) (w : World) (hl : l ≤ 1048576) : Calls Try.prog 38 #[.agg #[.int .i64 s, .int .i64 wd, K, .slice A l c], .int .i64 n] w fun e w' => e = .returned (.bool (inR n 0 ((l : Int) - 1))) ∧ Ext w w' := by
  go_enter Try.func38, Try.ntmps38
  go_wp2_with (go_at_call 31; refine (within_31 _ _ _ _).mono ?_; rintro e w' ⟨rfl, rfl⟩)
  go_ret
  exact ⟨rfl, by simp [go_sem]⟩
theorem key_61 (s wd a b c : Int) (K D : Value) (w : World) (hs : -1000000000 ≤ s ∧ s ≤ 1000000000) : Calls Try.prog 61 #[.agg #[.int .i64 s, .int .i64 wd, K, D], .agg #[.int .i64 a, .int .i64 b, .int .i64 c]] w fun e w' => e = .returned (.bool (keyB s ⟨a, b, c⟩)) ∧ Ext w w' := by
  cases h1 : inR a 1 (s - 1)
  · have hv := Lib.hid (show false = keyB s ⟨a, b, c⟩ by simp [keyB, h1])
    go_enter Try.func61, Try.ntmps61
    go_wp2_with (go_at_call 31; refine (within_31 _ _ _ _).mono ?_; rintro e w' ⟨rfl, rfl⟩)
    go_ret
    exact ⟨ret_bool hv.out, by simp [go_sem]⟩
  · cases h2 : inR b 0 (s - 1)
    · have hv := Lib.hid (show false = keyB s ⟨a, b, c⟩ by simp [keyB, h2])
      go_enter Try.func61, Try.ntmps61
      go_wp2_with (go_at_call 31; refine (within_31 _ _ _ _).mono ?_; rintro e w' ⟨rfl, rfl⟩)
      refine (plain_40 _ _ _ _ _ _ hs).mono ?_
      rintro e w' ⟨rfl, hE⟩
      have hB := Ext.trans (e2 w _ _) hE
      obtain ⟨hc, hf, hz⟩ := ext3 hE
      go_wp2_with fail
      go_ret
      exact ⟨ret_bool hv.out, hB⟩
    · have hv := Lib.hid (show inR c 0 (s - 1) = keyB s ⟨a, b, c⟩ by simp [keyB, h1, h2])
      go_enter Try.func61, Try.ntmps61
      go_wp2_with (go_at_call 31; refine (within_31 _ _ _ _).mono ?_; rintro e w' ⟨rfl, rfl⟩)
      refine (plain_40 _ _ _ _ _ _ hs).mono ?_
      rintro e w' ⟨rfl, hE⟩
      have hB := Ext.trans (e2 w _ _) hE
      obtain ⟨hc, hf, hz⟩ := ext3 hE
      go_wp2_with fail
      refine (plain_40 _ _ _ _ _ _ hs).mono ?_
      rintro e w'' ⟨rfl, hE2⟩
      have hB2 := Ext.trans hB hE2
      go_wp2_with fail
      go_ret
      exact ⟨ret_bool hv.out, hB2⟩
end Go.Proofs.Tp
