import Derived.Test.YtnlknpcbdciljaaLa8
/- What is read of signs that are sent: Misread. -/
namespace Go.Proofs.Tp
open Go.RowKit Go.Proofs.Gr
set_option linter.unusedVariables false
set_option linter.unusedSimpArgs false
set_option maxRecDepth 100000
attribute [local go_sem] below_alloc' below_drewN' below_drew' below_set' Below.refl
theorem inf3 : (Try.prog.info? 3).map (fun i => (i.zero, i.size, i.bytes)) = some (some (.int .i64 0), 1, 8) := by kernel_rfl
theorem idx102 (a b c d e f : Value) (k : Nat) (hk : k < 6) (W : World) : (Instr.index 102 (.agg #[a, b, c, d, e, f]) (.int .i64 k)).run Try.prog W = .ok (#[a, b, c, d, e, f].getD k undef) W := by
  have h2 : k = 0 ∨ k = 1 ∨ k = 2 ∨ k = 3 ∨ k = 4 ∨ k = 5 := by omega
  rcases h2 with rfl | rfl | rfl | rfl | rfl | rfl <;> simp [Instr.index, run_underlying Try.underlying102, go_sem]
structure MI (sent0 : ByteArray) (E : Nat) (sent out : ByteArray) (er k : Nat) : Prop where
  ex : ∀ r n, Ex sent.data.toList r n → Ex sent0.data.toList (out.data.toList ++ r) (n + (E - er))
  le : er ≤ E
  m : k + sent.size + er ≤ sent0.size + E
  s : sent.size ≤ sent0.size
  o : out.size ≤ 2 * k
theorem MI.step {sent0 : ByteArray} {E : Nat} {sent out : ByteArray} {er k : Nat} (h : MI sent0 E sent out er k) (kind : Nat) (W left : ByteArray) (hc : costN kind ≤ er) (hW : W.size ≤ 2)
    (hP : (∀ r n, Ex left.data.toList r n → Ex sent.data.toList (W.data.toList ++ r) (n + costN kind)) ∧ left.size ≤ sent.size ∧ (kind = 0 → left.size < sent.size)) : MI sent0 E left (out ++ W) (er - costN kind) (k + 1) := by
  obtain ⟨h1, h2, h3⟩ := hP
  have hle := h.le
  have hm := h.m
  have hs := h.s
  have ho := h.o
  refine ⟨fun r n hx => ?_, by omega, ?_, by omega, by simp; omega⟩
  · have := h.ex _ _ (h1 r n hx)
    have he : n + (E - (er - costN kind)) = n + costN kind + (E - er) := by omega
    have ho : (out ++ W).data.toList ++ r = out.data.toList ++ (W.data.toList ++ r) := by simp
    rw [he, ho]
    exact this
  · unfold costN at *
    by_cases hk : kind = 0
    · have := h3 hk
      simp only [hk, if_true] at *
      omega
    · simp only [hk, if_false] at *
      omega
theorem MI.step0 {sent0 : ByteArray} {E : Nat} {sent out : ByteArray} {er k : Nat} (h : MI sent0 E sent out er k) (h1 : 1 ≤ sent.size) : MI sent0 E (sent.extract 1 sent.size) (out ++ sent.extract 0 1) er (k + 1) :=
  h.step 0 (sent.extract 0 1) (sent.extract 1 sent.size) (Nat.zero_le _) (by simp; omega) ⟨fun r n hx => by rw [first1 sent h1, drop1 sent h1]; exact .copy _ hx, by simp, fun _ => by simp; omega⟩
/-- what is read, explained by few errors -/
def RM (sent0 : ByteArray) (E : Nat) (e : Ending) : Prop := ∃ (rd : ByteArray) (v : Value) (n : Nat), e = .returned (.tuple #[.string rd, v]) ∧ Ex sent0.data.toList rd.data.toList n ∧ n ≤ E
set_option maxHeartbeats 4000000 in
theorem misread_25 (s0 : ByteArray) (ws : List Nat) (A : Option Addr) (c E : Nat) (w : World) (hs0 : s0.size ≤ 1000) (hE2 : E ≤ 100) (hx : SlA u16K w A ws) (hl : ws.length ≤ 1048576) :
    Calls Try.prog 25 #[.string s0, .slice A ws.length c, .int .i64 E] w fun e w' => RM s0 E e ∧ Ext w w' := by
  go_enter Try.func25, Try.ntmps25
  go_wp2
  go_loopw [0, 2, 8, 9, 10] (fun t0 t2 t8 t9 t10 wr => ∃ (sent out : ByteArray) (er k : Nat) (xs : List Int), t0 = .string sent ∧ t2 = .int .i64 er ∧ t8 = .string out ∧ t10 = .int .i64 k ∧ xs.length = k ∧ Ow intK 3 w wr t9 xs ∧ MI s0 E sent out er k) (fun _ _ _ _ i _ => s0.size + E + 1 - (intOf i).toNat)
  case atStart => exact ⟨s0, ⟨#[]⟩, E, 0, [], rfl, rfl, rfl, rfl, rfl, Ow.nil (Ext.refl w), ⟨fun r n hx => by simpa using hx, Nat.le_refl _, by omega, Nat.le_refl _, Nat.le_refl _⟩⟩
  case round =>
    obtain ⟨sent, out, er, k, xs, rfl, rfl, rfl, rfl, hxs, hO, hM⟩ := hrel
    have hm := hM.m
    have hle := hM.le
    have hss := hM.s
    have hso := hM.o
    have hob : out.size ≤ 5000 := by omega
    have HM := Lib.hid hM
    clear hM
    by_cases h0 : 1 ≤ sent.size
    · have hne := nonempty_of sent h0
      have hwd := Lib.hid (word_52 ws A c k wr (hx.ext hO.1) hl (by omega))
      clear hx
      go_upto_region 8 with (go_at_call 52; refine hwd.out.mono ?_; rintro e W1 ⟨⟨n, rfl, hn⟩, rfl⟩)
      have hE1 := Ext.refl wr
      by_cases h3 : n % 3 = 0
      · have h3' : ((n : Int) % 3 == 0) = true := by rw [beq_iff_eq]; omega
        by_cases her : 0 < er
        · have her' : decide ((0 : Int) < (er : Int)) = true := by simpa using her
          have hdm : n / 4 % 5 < 5 := Nat.mod_lt _ (by decide)
          have hdi : (n : Int) / 4 % 5 = ((n / 4 % 5 : Nat) : Int) := by simp
          obtain ⟨d, hd⟩ : ∃ d, d = n / 4 % 5 := ⟨_, rfl⟩
          rw [← hd] at hdm hdi
          clear hd h3
          have hd5 : d = 0 ∨ d = 1 ∨ d = 2 ∨ d = 3 ∨ d = 4 := by omega
          clear hdm
          rcases hd5 with rfl | rfl | rfl | rfl | rfl
          · have hcf : costF 1 = 1 := rfl
            have hix : ∀ W, (Instr.index 102 (.agg #[.string (sent.extract 0 1), .string ⟨#[]⟩, .string ⟨#[46, 46]⟩, .string ⟨#[45]⟩, .string ⟨#[]⟩, .string ⟨#[32]⟩]) (.int .i64 1)).run Try.prog W = .ok (.string ⟨#[]⟩) W := fun W => idx102 _ _ _ _ _ _ 1 (by decide) W
            have hcf0 : costF 0 = 0 := rfl
            go_wp2_with (first | (go_at_call 53; refine (step_53_1 sent _ h0 (by omega)).mono ?_; rintro e W2 ⟨⟨left, rest, is, rfl, hP⟩, hE2⟩; have hO2 := hO.ext hE2; cases is) | (at_builtin; refine app1 (k := intK) 1 [.int .i64 1] _ _ 26 (.int .i64 0) 8 rfl rfl Try.underlying26 inf3 rfl (by decide) (by decide) rfl rfl hO2 rfl (by rw [hxs]; omega) ?_; intro v1 W3 hO3 hg3) | (go_at_call 54; refine (cost_54 _ _).mono ?_; rintro e w' ⟨rfl, rfl⟩))
            · go_quiet (fail)
              have hO4 := hO2.ext (Ext.dr (Ext.refl W2) nq)
              go_wp2_with (first | (at_builtin; refine app1 (k := intK) 0 [.int .i64 0] _ _ 26 (.int .i64 0) 8 rfl rfl Try.underlying26 inf3 rfl (by decide) (by decide) rfl rfl hO4 rfl (by rw [hxs]; omega) ?_; intro v1 W3 hO3 hg3) | (go_at_call 54; refine (cost_54 _ _).mono ?_; rintro e w' ⟨rfl, rfl⟩))
              refine ⟨⟨sent.extract 1 sent.size, out ++ sent.extract 0 1, er, k + 1, xs ++ [0], rfl, rfl, rfl, by go_num, by simp [hxs], hO3, ?_⟩, by simp [intOf]; omega⟩
              have := (HM.out.step0 h0)
              simpa [costN] using this
            · refine ⟨⟨left, out ++ ⟨#[]⟩, er - 1, k + 1, xs ++ [1], rfl, by congr 1; omega, rfl, by go_num, by simp [hxs], hO3, ?_⟩, by simp [intOf]; omega⟩
              have := (HM.out.step 1 (⟨#[]⟩) left (by simp [costN]; omega) (by decide) (hP (by trivial)))
              simpa [costN] using this
          · have hcf : costF 2 = 1 := rfl
            have hix : ∀ W, (Instr.index 102 (.agg #[.string (sent.extract 0 1), .string ⟨#[]⟩, .string ⟨#[46, 46]⟩, .string ⟨#[45]⟩, .string ⟨#[]⟩, .string ⟨#[32]⟩]) (.int .i64 2)).run Try.prog W = .ok (.string ⟨#[46, 46]⟩) W := fun W => idx102 _ _ _ _ _ _ 2 (by decide) W
            have hcf0 : costF 0 = 0 := rfl
            go_wp2_with (first | (go_at_call 53; refine (step_53_2 sent _ h0 (by omega)).mono ?_; rintro e W2 ⟨⟨left, rest, is, rfl, hP⟩, hE2⟩; have hO2 := hO.ext hE2; cases is) | (at_builtin; refine app1 (k := intK) 2 [.int .i64 2] _ _ 26 (.int .i64 0) 8 rfl rfl Try.underlying26 inf3 rfl (by decide) (by decide) rfl rfl hO2 rfl (by rw [hxs]; omega) ?_; intro v1 W3 hO3 hg3) | (go_at_call 54; refine (cost_54 _ _).mono ?_; rintro e w' ⟨rfl, rfl⟩))
            · go_quiet (fail)
              have hO4 := hO2.ext (Ext.dr (Ext.refl W2) nq)
              go_wp2_with (first | (at_builtin; refine app1 (k := intK) 0 [.int .i64 0] _ _ 26 (.int .i64 0) 8 rfl rfl Try.underlying26 inf3 rfl (by decide) (by decide) rfl rfl hO4 rfl (by rw [hxs]; omega) ?_; intro v1 W3 hO3 hg3) | (go_at_call 54; refine (cost_54 _ _).mono ?_; rintro e w' ⟨rfl, rfl⟩))
              refine ⟨⟨sent.extract 1 sent.size, out ++ sent.extract 0 1, er, k + 1, xs ++ [0], rfl, rfl, rfl, by go_num, by simp [hxs], hO3, ?_⟩, by simp [intOf]; omega⟩
              have := (HM.out.step0 h0)
              simpa [costN] using this
            · refine ⟨⟨left, out ++ ⟨#[46, 46]⟩, er - 1, k + 1, xs ++ [2], rfl, by congr 1; omega, rfl, by go_num, by simp [hxs], hO3, ?_⟩, by simp [intOf]; omega⟩
              have := (HM.out.step 2 (⟨#[46, 46]⟩) left (by simp [costN]; omega) (by decide) (hP (by trivial)))
              simpa [costN] using this
          · have hcf : costF 3 = 1 := rfl
            have hix : ∀ W, (Instr.index 102 (.agg #[.string (sent.extract 0 1), .string ⟨#[]⟩, .string ⟨#[46, 46]⟩, .string ⟨#[45]⟩, .string ⟨#[]⟩, .string ⟨#[32]⟩]) (.int .i64 3)).run Try.prog W = .ok (.string ⟨#[45]⟩) W := fun W => idx102 _ _ _ _ _ _ 3 (by decide) W
            have hcf0 : costF 0 = 0 := rfl
            go_wp2_with (first | (go_at_call 53; refine (step_53_3 sent _ h0 (by omega)).mono ?_; rintro e W2 ⟨⟨left, rest, is, rfl, hP⟩, hE2⟩; have hO2 := hO.ext hE2; cases is) | (at_builtin; refine app1 (k := intK) 3 [.int .i64 3] _ _ 26 (.int .i64 0) 8 rfl rfl Try.underlying26 inf3 rfl (by decide) (by decide) rfl rfl hO2 rfl (by rw [hxs]; omega) ?_; intro v1 W3 hO3 hg3) | (go_at_call 54; refine (cost_54 _ _).mono ?_; rintro e w' ⟨rfl, rfl⟩))
            · go_quiet (fail)
              have hO4 := hO2.ext (Ext.dr (Ext.refl W2) nq)
              go_wp2_with (first | (at_builtin; refine app1 (k := intK) 0 [.int .i64 0] _ _ 26 (.int .i64 0) 8 rfl rfl Try.underlying26 inf3 rfl (by decide) (by decide) rfl rfl hO4 rfl (by rw [hxs]; omega) ?_; intro v1 W3 hO3 hg3) | (go_at_call 54; refine (cost_54 _ _).mono ?_; rintro e w' ⟨rfl, rfl⟩))
              refine ⟨⟨sent.extract 1 sent.size, out ++ sent.extract 0 1, er, k + 1, xs ++ [0], rfl, rfl, rfl, by go_num, by simp [hxs], hO3, ?_⟩, by simp [intOf]; omega⟩
              have := (HM.out.step0 h0)
              simpa [costN] using this
            · refine ⟨⟨left, out ++ ⟨#[45]⟩, er - 1, k + 1, xs ++ [3], rfl, by congr 1; omega, rfl, by go_num, by simp [hxs], hO3, ?_⟩, by simp [intOf]; omega⟩
              have := (HM.out.step 3 (⟨#[45]⟩) left (by simp [costN]; omega) (by decide) (hP (by trivial)))
              simpa [costN] using this
          · have hcf : costF 4 = 1 := rfl
            have hix : ∀ W, (Instr.index 102 (.agg #[.string (sent.extract 0 1), .string ⟨#[]⟩, .string ⟨#[46, 46]⟩, .string ⟨#[45]⟩, .string ⟨#[]⟩, .string ⟨#[32]⟩]) (.int .i64 4)).run Try.prog W = .ok (.string ⟨#[]⟩) W := fun W => idx102 _ _ _ _ _ _ 4 (by decide) W
            have hcf0 : costF 0 = 0 := rfl
            go_wp2_with (first | (go_at_call 53; refine (step_53_4 sent _ h0 (by omega)).mono ?_; rintro e W2 ⟨⟨left, rest, is, rfl, hP⟩, hE2⟩; have hO2 := hO.ext hE2; cases is) | (at_builtin; refine app1 (k := intK) 4 [.int .i64 4] _ _ 26 (.int .i64 0) 8 rfl rfl Try.underlying26 inf3 rfl (by decide) (by decide) rfl rfl hO2 rfl (by rw [hxs]; omega) ?_; intro v1 W3 hO3 hg3) | (go_at_call 54; refine (cost_54 _ _).mono ?_; rintro e w' ⟨rfl, rfl⟩))
            · go_quiet (fail)
              have hO4 := hO2.ext (Ext.dr (Ext.refl W2) nq)
              go_wp2_with (first | (at_builtin; refine app1 (k := intK) 0 [.int .i64 0] _ _ 26 (.int .i64 0) 8 rfl rfl Try.underlying26 inf3 rfl (by decide) (by decide) rfl rfl hO4 rfl (by rw [hxs]; omega) ?_; intro v1 W3 hO3 hg3) | (go_at_call 54; refine (cost_54 _ _).mono ?_; rintro e w' ⟨rfl, rfl⟩))
              refine ⟨⟨sent.extract 1 sent.size, out ++ sent.extract 0 1, er, k + 1, xs ++ [0], rfl, rfl, rfl, by go_num, by simp [hxs], hO3, ?_⟩, by simp [intOf]; omega⟩
              have := (HM.out.step0 h0)
              simpa [costN] using this
            · refine ⟨⟨left, out ++ ⟨#[]⟩, er - 1, k + 1, xs ++ [4], rfl, by congr 1; omega, rfl, by go_num, by simp [hxs], hO3, ?_⟩, by simp [intOf]; omega⟩
              have := (HM.out.step 4 (⟨#[]⟩) left (by simp [costN]; omega) (by decide) (hP (by trivial)))
              simpa [costN] using this
          · have hcf : costF 5 = 1 := rfl
            have hix : ∀ W, (Instr.index 102 (.agg #[.string (sent.extract 0 1), .string ⟨#[]⟩, .string ⟨#[46, 46]⟩, .string ⟨#[45]⟩, .string ⟨#[]⟩, .string ⟨#[32]⟩]) (.int .i64 5)).run Try.prog W = .ok (.string ⟨#[32]⟩) W := fun W => idx102 _ _ _ _ _ _ 5 (by decide) W
            have hcf0 : costF 0 = 0 := rfl
            go_wp2_with (first | (go_at_call 53; refine (step_53_5 sent _ h0 (by omega)).mono ?_; rintro e W2 ⟨⟨left, rest, is, rfl, hP⟩, hE2⟩; have hO2 := hO.ext hE2; cases is) | (at_builtin; refine app1 (k := intK) 5 [.int .i64 5] _ _ 26 (.int .i64 0) 8 rfl rfl Try.underlying26 inf3 rfl (by decide) (by decide) rfl rfl hO2 rfl (by rw [hxs]; omega) ?_; intro v1 W3 hO3 hg3) | (go_at_call 54; refine (cost_54 _ _).mono ?_; rintro e w' ⟨rfl, rfl⟩))
            · go_quiet (fail)
              have hO4 := hO2.ext (Ext.dr (Ext.refl W2) nq)
              go_wp2_with (first | (at_builtin; refine app1 (k := intK) 0 [.int .i64 0] _ _ 26 (.int .i64 0) 8 rfl rfl Try.underlying26 inf3 rfl (by decide) (by decide) rfl rfl hO4 rfl (by rw [hxs]; omega) ?_; intro v1 W3 hO3 hg3) | (go_at_call 54; refine (cost_54 _ _).mono ?_; rintro e w' ⟨rfl, rfl⟩))
              refine ⟨⟨sent.extract 1 sent.size, out ++ sent.extract 0 1, er, k + 1, xs ++ [0], rfl, rfl, rfl, by go_num, by simp [hxs], hO3, ?_⟩, by simp [intOf]; omega⟩
              have := (HM.out.step0 h0)
              simpa [costN] using this
            · refine ⟨⟨left, out ++ ⟨#[32]⟩, er - 1, k + 1, xs ++ [5], rfl, by congr 1; omega, rfl, by go_num, by simp [hxs], hO3, ?_⟩, by simp [intOf]; omega⟩
              have := (HM.out.step 5 (⟨#[32]⟩) left (by simp [costN]; omega) (by decide) (hP (by trivial)))
              simpa [costN] using this
        · have her' : decide ((0 : Int) < (er : Int)) = false := by simpa using her
          clear h3
          have hcf : costF 0 = 0 := rfl
          have hix : ∀ W, (Instr.index 102 (.agg #[.string (sent.extract 0 1), .string ⟨#[]⟩, .string ⟨#[46, 46]⟩, .string ⟨#[45]⟩, .string ⟨#[]⟩, .string ⟨#[32]⟩]) (.int .i64 0)).run Try.prog W = .ok (.string (sent.extract 0 1)) W := fun W => idx102 _ _ _ _ _ _ 0 (by decide) W
          go_wp2_with (first | (go_at_call 53; refine (step_53_0 sent _ h0 (by omega)).mono ?_; rintro e W2 ⟨⟨left, rest, is, rfl, hP⟩, hE2⟩; have hO2 := hO.ext hE2; cases is) | (at_builtin; refine app1 (k := intK) 0 [.int .i64 0] _ _ 26 (.int .i64 0) 8 rfl rfl Try.underlying26 inf3 rfl (by decide) (by decide) rfl rfl hO2 rfl (by rw [hxs]; omega) ?_; intro v1 W3 hO3 hg3) | (go_at_call 54; refine (cost_54 _ _).mono ?_; rintro e w' ⟨rfl, rfl⟩))
          · go_quiet (fail)
            have hO4 := hO2.ext (Ext.dr (Ext.refl W2) nq)
            go_wp2_with (first | (at_builtin; refine app1 (k := intK) 0 [.int .i64 0] _ _ 26 (.int .i64 0) 8 rfl rfl Try.underlying26 inf3 rfl (by decide) (by decide) rfl rfl hO4 rfl (by rw [hxs]; omega) ?_; intro v1 W3 hO3 hg3) | (go_at_call 54; refine (cost_54 _ _).mono ?_; rintro e w' ⟨rfl, rfl⟩))
            refine ⟨⟨sent.extract 1 sent.size, out ++ sent.extract 0 1, er, k + 1, xs ++ [0], rfl, rfl, rfl, by go_num, by simp [hxs], hO3, ?_⟩, by simp [intOf]; omega⟩
            have := (HM.out.step0 h0)
            simpa [costN] using this
          · refine ⟨⟨left, out ++ sent.extract 0 1, er, k + 1, xs ++ [0], rfl, rfl, rfl, by go_num, by simp [hxs], hO3, ?_⟩, by simp [intOf]; omega⟩
            have := (HM.out.step 0 (sent.extract 0 1) left (by simp [costN]) (by simp; omega) ⟨(hP (by trivial)).1, (hP (by trivial)).2.1, fun _ => (hP (by trivial)).2.2 (by trivial)⟩)
            simpa [costN] using this
      · have h3' : ((n : Int) % 3 == 0) = false := by rw [beq_eq_false_iff_ne]; omega
        clear h3
        have hcf : costF 0 = 0 := rfl
        have hix : ∀ W, (Instr.index 102 (.agg #[.string (sent.extract 0 1), .string ⟨#[]⟩, .string ⟨#[46, 46]⟩, .string ⟨#[45]⟩, .string ⟨#[]⟩, .string ⟨#[32]⟩]) (.int .i64 0)).run Try.prog W = .ok (.string (sent.extract 0 1)) W := fun W => idx102 _ _ _ _ _ _ 0 (by decide) W
        go_wp2_with (first | (go_at_call 53; refine (step_53_0 sent _ h0 (by omega)).mono ?_; rintro e W2 ⟨⟨left, rest, is, rfl, hP⟩, hE2⟩; have hO2 := hO.ext hE2; cases is) | (at_builtin; refine app1 (k := intK) 0 [.int .i64 0] _ _ 26 (.int .i64 0) 8 rfl rfl Try.underlying26 inf3 rfl (by decide) (by decide) rfl rfl hO2 rfl (by rw [hxs]; omega) ?_; intro v1 W3 hO3 hg3) | (go_at_call 54; refine (cost_54 _ _).mono ?_; rintro e w' ⟨rfl, rfl⟩))
        · go_quiet (fail)
          have hO4 := hO2.ext (Ext.dr (Ext.refl W2) nq)
          go_wp2_with (first | (at_builtin; refine app1 (k := intK) 0 [.int .i64 0] _ _ 26 (.int .i64 0) 8 rfl rfl Try.underlying26 inf3 rfl (by decide) (by decide) rfl rfl hO4 rfl (by rw [hxs]; omega) ?_; intro v1 W3 hO3 hg3) | (go_at_call 54; refine (cost_54 _ _).mono ?_; rintro e w' ⟨rfl, rfl⟩))
          refine ⟨⟨sent.extract 1 sent.size, out ++ sent.extract 0 1, er, k + 1, xs ++ [0], rfl, rfl, rfl, by go_num, by simp [hxs], hO3, ?_⟩, by simp [intOf]; omega⟩
          have := (HM.out.step0 h0)
          simpa [costN] using this
        · refine ⟨⟨left, out ++ sent.extract 0 1, er, k + 1, xs ++ [0], rfl, rfl, rfl, by go_num, by simp [hxs], hO3, ?_⟩, by simp [intOf]; omega⟩
          have := (HM.out.step 0 (sent.extract 0 1) left (by simp [costN]) (by simp; omega) ⟨(hP (by trivial)).1, (hP (by trivial)).2.1, fun _ => (hP (by trivial)).2.2 (by trivial)⟩)
          simpa [costN] using this
    · have hne : sent.toList.isEmpty = true := by
        have h2 : sent.data.toList.length = sent.size := by simp
        rw [ByteArray.toList_eq, List.isEmpty_iff, ← List.length_eq_zero_iff, h2]
        omega
      have hv := Lib.hid (show RM s0 E (.returned (.tuple #[.string out, u9])) from by
        refine ⟨out, u9, 0 + (E - er), rfl, ?_, by omega⟩
        have h2 : sent.data.toList.length = sent.size := by simp
        have h3 : sent.data.toList = [] := List.eq_nil_of_length_eq_zero (by omega)
        have := HM.out.ex [] 0 (by rw [h3]; exact .nil)
        simpa using this)
      have hB := hO.1
      go_wp2
      go_ret2
      exact ⟨hv.out, hB⟩
end Go.Proofs.Tp
