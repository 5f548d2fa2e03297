import Derived.Test.YtnlknpcbdciljaaCip1
/- Package cipher: CheckBook. -/
namespace Go.Proofs.Tp
open Go.RowKit
set_option linter.unusedVariables false
set_option linter.unusedSimpArgs false
set_option maxRecDepth 100000
attribute [local go_sem] below_alloc' below_drewN' below_drew' below_set' Below.refl
def bookB (s wd : Int) (ks : List CKey) (ds : List Int) : Bool :=
  inR s 13 41 && noDiv s s.toNat && inR wd 1 s && !ks.isEmpty && !ds.isEmpty && ks.all (keyB s) && ds.all fun d => inR d 0 ((ks.length : Int) - 1)
def checkF (s wd : Int) (ks : List CKey) (ds : List Int) : Int := if 5 < ks.length ∨ 8 < ds.length then 3 else if bookB s wd ks ds then 0 else 1
theorem check_37 (s wd : Int) (ks : List CKey) (ds : List Int) (KA DA : Option Addr) (kc dc : Nat) (w : World) (hs : -1000000000 ≤ s ∧ s ≤ 1000000000) (hk : SlA ckeyK w KA ks) (hd : SlA intK w DA ds) (hkl : ks.length ≤ 1048576) (hdl : ds.length ≤ 1048576) :
    Calls Try.prog 37 #[.agg #[.int .i64 s, .int .i64 wd, .slice KA ks.length kc, .slice DA ds.length dc]] w fun e w' => e = .returned (.int .i64 (checkF s wd ks ds)) ∧ Ext w w' := by
  have hallk := fun (W : World) (e : Ext w W) => Lib.hid (all_ckey ks (keyB s) KA kc 61 #[.agg #[.int .i64 s, .int .i64 wd, .slice KA ks.length kc, .slice DA ds.length dc]] #[] W enters_61 (hk.ext e) hkl
    (fun x hx V hV cs hr => by
      have hr' : cs = [.int .i64 x.mul, .int .i64 x.add, .int .i64 x.step] := hr
      subst hr'
      exact key_61 s wd x.mul x.add x.step _ _ V hs))
  have halld := fun (W : World) (e : Ext w W) => Lib.hid (all_int ds (fun d => inR d 0 ((ks.length : Int) - 1)) DA dc 62 #[.agg #[.int .i64 s, .int .i64 wd, .slice KA ks.length kc, .slice DA ds.length dc]] #[] W enters_62 (hd.ext e) hdl
    (fun x hx V hV => own_62 s wd x KA ks.length kc _ V hkl))
  by_cases h0 : 5 < ks.length
  · have g0 : decide (((5 : Int)) < (ks.length : Int)) = true := by simp; omega
    have hv := Lib.hid (show (3 : Int) = checkF s wd ks ds by simp [checkF, bookB, h0])
    go_enter Try.func37, Try.ntmps37
    go_wp2
    go_quiet (fail)
    go_wp2_with (first
      | (go_at_call 31; refine (within_31 _ _ _ _).mono ?_; rintro e w' ⟨rfl, rfl⟩)
      | (go_at_call 63; refine (prime_63 _ _ (by omega) (by omega)).mono ?_; rintro e w' ⟨rfl, rfl⟩)
      | (go_at_call 64; refine (hallk _ ((e1 w _).dr _)).out.mono ?_; rintro e W1 ⟨rfl, hE1⟩; obtain ⟨hc1, hf1, hz1⟩ := ext3 hE1; have hB1 := Ext.trans ((e1 w _).dr _) hE1)
      | (go_at_call 39; refine (halld _ hB1).out.mono ?_; rintro e W2 ⟨rfl, hE2⟩; have hB2 := Ext.trans hB1 hE2))
    go_ret
    exact ⟨ret_int hv.out, (e1 w _).dr _⟩
  · have g0 : decide (((5 : Int)) < (ks.length : Int)) = false := by simp; omega
    by_cases h1 : 8 < ds.length
    · have g1 : decide (((8 : Int)) < (ds.length : Int)) = true := by simp; omega
      have hv := Lib.hid (show (3 : Int) = checkF s wd ks ds by simp [checkF, bookB, h0, h1])
      go_enter Try.func37, Try.ntmps37
      go_wp2
      go_quiet (fail)
      go_wp2_with (first
        | (go_at_call 31; refine (within_31 _ _ _ _).mono ?_; rintro e w' ⟨rfl, rfl⟩)
        | (go_at_call 63; refine (prime_63 _ _ (by omega) (by omega)).mono ?_; rintro e w' ⟨rfl, rfl⟩)
        | (go_at_call 64; refine (hallk _ ((e1 w _).dr _)).out.mono ?_; rintro e W1 ⟨rfl, hE1⟩; obtain ⟨hc1, hf1, hz1⟩ := ext3 hE1; have hB1 := Ext.trans ((e1 w _).dr _) hE1)
        | (go_at_call 39; refine (halld _ hB1).out.mono ?_; rintro e W2 ⟨rfl, hE2⟩; have hB2 := Ext.trans hB1 hE2))
      go_ret
      exact ⟨ret_int hv.out, (e1 w _).dr _⟩
    · have g1 : decide (((8 : Int)) < (ds.length : Int)) = false := by simp; omega
      cases h2 : inR s 13 41
      · skip
        have hv := Lib.hid (show (1 : Int) = checkF s wd ks ds by simp [checkF, bookB, h0, h1, h2])
        go_enter Try.func37, Try.ntmps37
        go_wp2
        go_quiet (fail)
        go_wp2_with (first
          | (go_at_call 31; refine (within_31 _ _ _ _).mono ?_; rintro e w' ⟨rfl, rfl⟩)
          | (go_at_call 63; refine (prime_63 _ _ (by omega) (by omega)).mono ?_; rintro e w' ⟨rfl, rfl⟩)
          | (go_at_call 64; refine (hallk _ ((e1 w _).dr _)).out.mono ?_; rintro e W1 ⟨rfl, hE1⟩; obtain ⟨hc1, hf1, hz1⟩ := ext3 hE1; have hB1 := Ext.trans ((e1 w _).dr _) hE1)
          | (go_at_call 39; refine (halld _ hB1).out.mono ?_; rintro e W2 ⟨rfl, hE2⟩; have hB2 := Ext.trans hB1 hE2))
        go_ret
        exact ⟨ret_int hv.out, (e1 w _).dr _⟩
      · skip
        have hs13 : 13 ≤ s ∧ s ≤ 41 := by simpa [inR] using h2
        cases h3 : noDiv s s.toNat
        · skip
          have hv := Lib.hid (show (1 : Int) = checkF s wd ks ds by simp [checkF, bookB, h0, h1, h2, h3])
          go_enter Try.func37, Try.ntmps37
          go_wp2
          go_quiet (fail)
          go_wp2_with (first
            | (go_at_call 31; refine (within_31 _ _ _ _).mono ?_; rintro e w' ⟨rfl, rfl⟩)
            | (go_at_call 63; refine (prime_63 _ _ (by omega) (by omega)).mono ?_; rintro e w' ⟨rfl, rfl⟩)
            | (go_at_call 64; refine (hallk _ ((e1 w _).dr _)).out.mono ?_; rintro e W1 ⟨rfl, hE1⟩; obtain ⟨hc1, hf1, hz1⟩ := ext3 hE1; have hB1 := Ext.trans ((e1 w _).dr _) hE1)
            | (go_at_call 39; refine (halld _ hB1).out.mono ?_; rintro e W2 ⟨rfl, hE2⟩; have hB2 := Ext.trans hB1 hE2))
          go_ret
          exact ⟨ret_int hv.out, (e1 w _).dr _⟩
        · skip
          cases h4 : inR wd 1 s
          · skip
            have hv := Lib.hid (show (1 : Int) = checkF s wd ks ds by simp [checkF, bookB, h0, h1, h2, h3, h4])
            go_enter Try.func37, Try.ntmps37
            go_wp2
            go_quiet (fail)
            go_wp2_with (first
              | (go_at_call 31; refine (within_31 _ _ _ _).mono ?_; rintro e w' ⟨rfl, rfl⟩)
              | (go_at_call 63; refine (prime_63 _ _ (by omega) (by omega)).mono ?_; rintro e w' ⟨rfl, rfl⟩)
              | (go_at_call 64; refine (hallk _ ((e1 w _).dr _)).out.mono ?_; rintro e W1 ⟨rfl, hE1⟩; obtain ⟨hc1, hf1, hz1⟩ := ext3 hE1; have hB1 := Ext.trans ((e1 w _).dr _) hE1)
              | (go_at_call 39; refine (halld _ hB1).out.mono ?_; rintro e W2 ⟨rfl, hE2⟩; have hB2 := Ext.trans hB1 hE2))
            go_ret
            exact ⟨ret_int hv.out, (e1 w _).dr _⟩
          · skip
            by_cases h5 : ks = []
            · have g5 : ((ks.length : Int) == 0) = true := by simp [h5]
              have hv := Lib.hid (show (1 : Int) = checkF s wd ks ds by simp [checkF, bookB, h0, h1, h2, h3, h4, h5])
              go_enter Try.func37, Try.ntmps37
              go_wp2
              go_quiet (fail)
              go_wp2_with (first
                | (go_at_call 31; refine (within_31 _ _ _ _).mono ?_; rintro e w' ⟨rfl, rfl⟩)
                | (go_at_call 63; refine (prime_63 _ _ (by omega) (by omega)).mono ?_; rintro e w' ⟨rfl, rfl⟩)
                | (go_at_call 64; refine (hallk _ ((e1 w _).dr _)).out.mono ?_; rintro e W1 ⟨rfl, hE1⟩; obtain ⟨hc1, hf1, hz1⟩ := ext3 hE1; have hB1 := Ext.trans ((e1 w _).dr _) hE1)
                | (go_at_call 39; refine (halld _ hB1).out.mono ?_; rintro e W2 ⟨rfl, hE2⟩; have hB2 := Ext.trans hB1 hE2))
              go_ret
              exact ⟨ret_int hv.out, (e1 w _).dr _⟩
            · have g5 : ((ks.length : Int) == 0) = false := by simpa using h5
              by_cases h6 : ds = []
              · have g6 : ((ds.length : Int) == 0) = true := by simp [h6]
                have hv := Lib.hid (show (1 : Int) = checkF s wd ks ds by simp [checkF, bookB, h0, h1, h2, h3, h4, h5, h6])
                go_enter Try.func37, Try.ntmps37
                go_wp2
                go_quiet (fail)
                go_wp2_with (first
                  | (go_at_call 31; refine (within_31 _ _ _ _).mono ?_; rintro e w' ⟨rfl, rfl⟩)
                  | (go_at_call 63; refine (prime_63 _ _ (by omega) (by omega)).mono ?_; rintro e w' ⟨rfl, rfl⟩)
                  | (go_at_call 64; refine (hallk _ ((e1 w _).dr _)).out.mono ?_; rintro e W1 ⟨rfl, hE1⟩; obtain ⟨hc1, hf1, hz1⟩ := ext3 hE1; have hB1 := Ext.trans ((e1 w _).dr _) hE1)
                  | (go_at_call 39; refine (halld _ hB1).out.mono ?_; rintro e W2 ⟨rfl, hE2⟩; have hB2 := Ext.trans hB1 hE2))
                go_ret
                exact ⟨ret_int hv.out, (e1 w _).dr _⟩
              · have g6 : ((ds.length : Int) == 0) = false := by simpa using h6
                cases h7 : ks.all (keyB s)
                · skip
                  have hv := Lib.hid (show (1 : Int) = checkF s wd ks ds by simp [checkF, bookB, h0, h1, h2, h3, h4, h5, h6, h7])
                  go_enter Try.func37, Try.ntmps37
                  go_wp2
                  go_quiet (fail)
                  go_wp2_with (first
                    | (go_at_call 31; refine (within_31 _ _ _ _).mono ?_; rintro e w' ⟨rfl, rfl⟩)
                    | (go_at_call 63; refine (prime_63 _ _ (by omega) (by omega)).mono ?_; rintro e w' ⟨rfl, rfl⟩)
                    | (go_at_call 64; refine (hallk _ ((e1 w _).dr _)).out.mono ?_; rintro e W1 ⟨rfl, hE1⟩; obtain ⟨hc1, hf1, hz1⟩ := ext3 hE1; have hB1 := Ext.trans ((e1 w _).dr _) hE1)
                    | (go_at_call 39; refine (halld _ hB1).out.mono ?_; rintro e W2 ⟨rfl, hE2⟩; have hB2 := Ext.trans hB1 hE2))
                  go_ret
                  exact ⟨ret_int hv.out, hB1⟩
                · skip
                  cases h8 : (ds.all fun d => inR d 0 ((ks.length : Int) - 1))
                  · skip
                    have hv := Lib.hid (show (1 : Int) = checkF s wd ks ds by simp [checkF, bookB, h0, h1, h2, h3, h4, h5, h6, h7, h8])
                    go_enter Try.func37, Try.ntmps37
                    go_wp2
                    go_quiet (fail)
                    go_wp2_with (first
                      | (go_at_call 31; refine (within_31 _ _ _ _).mono ?_; rintro e w' ⟨rfl, rfl⟩)
                      | (go_at_call 63; refine (prime_63 _ _ (by omega) (by omega)).mono ?_; rintro e w' ⟨rfl, rfl⟩)
                      | (go_at_call 64; refine (hallk _ ((e1 w _).dr _)).out.mono ?_; rintro e W1 ⟨rfl, hE1⟩; obtain ⟨hc1, hf1, hz1⟩ := ext3 hE1; have hB1 := Ext.trans ((e1 w _).dr _) hE1)
                      | (go_at_call 39; refine (halld _ hB1).out.mono ?_; rintro e W2 ⟨rfl, hE2⟩; have hB2 := Ext.trans hB1 hE2))
                    go_ret
                    exact ⟨ret_int hv.out, hB2⟩
                  · skip
                    have hv := Lib.hid (show (0 : Int) = checkF s wd ks ds by simp [checkF, bookB, h0, h1, h2, h3, h4, h5, h6, h7, h8])
                    go_enter Try.func37, Try.ntmps37
                    go_wp2
                    go_quiet (fail)
                    go_wp2_with (first
                      | (go_at_call 31; refine (within_31 _ _ _ _).mono ?_; rintro e w' ⟨rfl, rfl⟩)
                      | (go_at_call 63; refine (prime_63 _ _ (by omega) (by omega)).mono ?_; rintro e w' ⟨rfl, rfl⟩)
                      | (go_at_call 64; refine (hallk _ ((e1 w _).dr _)).out.mono ?_; rintro e W1 ⟨rfl, hE1⟩; obtain ⟨hc1, hf1, hz1⟩ := ext3 hE1; have hB1 := Ext.trans ((e1 w _).dr _) hE1)
                      | (go_at_call 39; refine (halld _ hB1).out.mono ?_; rintro e W2 ⟨rfl, hE2⟩; have hB2 := Ext.trans hB1 hE2))
                    go_ret
                    exact ⟨ret_int hv.out, hB2⟩
end Go.Proofs.Tp
