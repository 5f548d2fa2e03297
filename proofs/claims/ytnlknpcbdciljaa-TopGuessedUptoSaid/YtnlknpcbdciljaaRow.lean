import Derived.Test.YtnlknpcbdciljaaLe7
import Derived.Test.YtnlknpcbdciljaaBulk
import Derived.Carry
import Derived.Lib.SmallJoins
import Derived.WalkKit
import Derived.ProofKit
import Derived.OpenShut
import Derived.JoinedCond
/- The law TopGuessed answers true for every input of bulk at most 1048576, and its arguments read as they did. -/
namespace Go.Proofs.Ytnlknpcbdciljaa.topGuessed
open Go.ChangeShapes Go.WideShapes Go.ChangeAt Go.RowKit Go.Joins Go.Deep Go.Proofs.Tp
set_option linter.unusedVariables false
set_option linter.unusedSimpArgs false
set_option maxRecDepth 100000

theorem own : ownKnob Try.prog.godebug = none := by kernel_rfl
theorem laidOut : laidOutB Try.prog = true := by kernel_rfl

section
variable {H : Type} {enc : TypeId × Value → H} {w : World}
theorem open_agg1 {P : Program} {spare : Nat → Bool} {held : Bool} {base : Nat} {r : Reach} {b0 : Nat} {t : TypeId} {f0 : Field} {v : Value} {d : DataW H} {p : List MemPlace} (hs : P.underlying t = some (.struct #[f0])) (hone : oneCellFields P #[f0] = true) (hC : P.cellsOf t = 1)
    (hv : Value.okWide P w r b0 t v) (h : DataW.Trod enc P w base spare held t v d p) :
    ∃ (v0 : Value) (y0 : DataW H × List MemPlace) (n : Nat), v = .agg #[v0] ∧ d = .agg [y0.1] ∧ DataW.trod enc P w base spare held n f0.type [v0] = some y0 := by
  obtain ⟨cs, rfl, hsz⟩ := okWide_struct hs hv
  obtain ⟨l⟩ := cs
  match l, hsz.trans hC with
  | [c0], _ =>
    obtain ⟨fuel, hf⟩ := h
    obtain ⟨y0, n, hx, _, h0⟩ := trod_struct1 hs hf
    obtain ⟨o0, k0⟩ := hone_of hone 0 f0 rfl
    simp only [Prod.mk.injEq] at hx
    exact ⟨c0, y0, n, rfl, hx.1, by simpa [Value.cells, o0, k0] using h0⟩
variable {base : Nat} {spare : Nat → Bool} {held : Bool}
theorem rep_int (n : Nat) (cs : List Value) (y : DataW H × List MemPlace) (h : DataW.trod enc Try.prog w base spare held n 3 cs = some y) : ∃ a : Int, intK.rep w a cs ∧ True := by
  obtain ⟨a, h1, _, _⟩ := DataW.trod_int Try.underlying3 h
  exact ⟨a, h1, trivial⟩
theorem rep_u16 (n : Nat) (cs : List Value) (y : DataW H × List MemPlace) (h : DataW.trod enc Try.prog w base spare held n 30 cs = some y) : ∃ a : Nat, u16K.rep w a cs ∧ True := by
  obtain ⟨a, h1, _, h2⟩ := DataW.trod_int Try.underlying30 h
  have h3 : 0 ≤ a ∧ a ≤ 65535 := by simpa [Lit.wf, IntKind.min, IntKind.max, IntKind.signed, IntKind.bits] using h2
  obtain ⟨m, rfl⟩ : ∃ m : Nat, a = (m : Int) := ⟨a.toNat, by omega⟩
  exact ⟨m, ⟨h1, by omega⟩, trivial⟩
theorem rep_str (n : Nat) (cs : List Value) (y : DataW H × List MemPlace) (h : DataW.trod enc Try.prog w base spare held n 9 cs = some y) : ∃ a : ByteArray, strK.rep w a cs ∧ y.1 = .lit (.string a.data.toList) := by
  obtain ⟨a, h1, h2, _⟩ := DataW.trod_string Try.underlying9 h
  exact ⟨a, h1, by rw [h2]⟩
theorem rep_ckey (n : Nat) (cs : List Value) (y : DataW H × List MemPlace) (h : DataW.trod enc Try.prog w base spare held n 41 cs = some y) : ∃ a : CKey, ckeyK.rep w a cs ∧ True := by
  obtain ⟨y0, y1, y2, m, _, hl, h0, h1, h2⟩ := trod_struct3 Try.underlying41 h
  rw [show Try.prog.cellsOf 41 = 3 from by kernel_rfl] at hl
  match cs, hl with
  | [c0, c1, c2], _ =>
    simp only [show Try.prog.cellsOf 3 = 1 from by kernel_rfl] at h0 h1 h2
    obtain ⟨a0, e0, _, _⟩ := DataW.trod_int Try.underlying3 h0
    obtain ⟨a1, e1, _, _⟩ := DataW.trod_int Try.underlying3 h1
    obtain ⟨a2, e2, _, _⟩ := DataW.trod_int Try.underlying3 h2
    simp at e0 e1 e2
    subst e0 e1 e2
    exact ⟨⟨a0, a1, a2⟩, rfl, trivial⟩
end

theorem contract (H : Type) (enc : TypeId × Value → H) (W : World) (base : Nat) (args : Array Value) (ds gs : List (DataW H)) (before : List MemPlace)
    (hval : ∀ (j : Nat) t v, Try.f3.params[j]? = some t → args[j]? = some v → Value.okWide Try.prog W .any base t v)
    (hW : DataW.Whole enc Try.prog Try.f3.params.toList Rows.topGuessedSpec.vars false W args.toList ds gs before) (hk : Rows.uptoSmall H (ds ++ gs) = true) :
    Calls Try.prog 3 args W fun e W' => ∃ v, e = .returned v ∧ Rows.topGuessedSpec.post enc Try.prog Try.f3 false true false false W args v W' := by
  have hlt : ∀ x ∈ before, x.block < W.heap.size := fun x hx => hW.lt x hx
  have hW' := hW
  obtain ⟨p, q, hA0, hV, rfl, hfz, hnd⟩ := hW
  have hA : DataW.TrodAll enc Try.prog W 0 (fun _ => true) true Try.f3.params.toList args.toList ds p := hA0
  rw [Try.params3] at hA hval
  obtain ⟨v0, vs0, d0, ds0, p0, q0, hargs, rfl, rfl, h0, r0⟩ := trodAll_cons hA
  obtain ⟨v1, vs1, d1, ds1, p1, q1, rfl, rfl, rfl, h1, r1⟩ := trodAll_cons r0
  obtain ⟨v2, vs2, d2, ds2, p2, q2, rfl, rfl, rfl, h2, r2⟩ := trodAll_cons r1
  obtain ⟨v3, vs3, d3, ds3, p3, q3, rfl, rfl, rfl, h3, r3⟩ := trodAll_cons r2
  obtain ⟨v4, vs4, d4, ds4, p4, q4, rfl, rfl, rfl, h4, r4⟩ := trodAll_cons r3
  obtain ⟨v5, vs5, d5, ds5, p5, q5, rfl, rfl, rfl, h5, r5⟩ := trodAll_cons r4
  obtain ⟨v6, vs6, d6, ds6, p6, q6, rfl, rfl, rfl, h6, r6⟩ := trodAll_cons r5
  obtain ⟨v7, vs7, d7, ds7, p7, q7, rfl, rfl, rfl, h7, r7⟩ := trodAll_cons r6
  obtain ⟨rfl, rfl, rfl⟩ := trodAll_nil r7
  obtain rfl : args = #[v0, v1, v2, v3, v4, v5, v6, v7] := by cases args; simp_all
  obtain ⟨rfl, rfl⟩ := trodVars_none hV
  have hbk := bulks.bound hk
  simp only [List.append_nil, Rows.uptoBulkAll] at hbk
  obtain ⟨u0, y0, n0, rfl, hd0, t0⟩ := open_agg1 (r := .any) (b0 := base) Try.underlying24 (by kernel_rfl) (by kernel_rfl) (hval 0 24 v0 rfl rfl) h0
  obtain ⟨LA, lc, ls, rfl, hlc, hL, hll, hlz⟩ := open_sl strK (fun a d => d = .lit (.string a.data.toList)) Try.underlying22 (by kernel_rfl) (by decide) rep_str t0
  obtain ⟨a0, a1, a2, a3, x0, x1, x2, x3, n1, rfl, hd1, _, t1, t2, t3, t4⟩ := open_agg4 (r := .any) (b0 := base) Try.underlying28 (by kernel_rfl) (by kernel_rfl) (hval 1 28 v1 rfl rfl) h1
  obtain ⟨s, e0, _, _⟩ := DataW.trod_int Try.underlying3 t1
  obtain ⟨wd, e1, _, _⟩ := DataW.trod_int Try.underlying3 t2
  simp only [List.cons.injEq, and_true] at e0 e1
  subst e0 e1
  obtain ⟨KA, kc, ks, rfl, hkc, hK, hkl, _⟩ := open_sl ckeyK (fun _ _ => True) Try.underlying25 (by kernel_rfl) (by decide) rep_ckey t3
  obtain ⟨DA, dc, dl, rfl, hdc, hD, hdl, _⟩ := open_sl intK (fun _ _ => True) Try.underlying26 (by kernel_rfl) (by decide) rep_int t4
  obtain ⟨A2, l2, c2, rfl⟩ := okWide_slice Try.underlying26 (hval 2 26 v2 rfl rfl)
  have h2k := h2
  obtain ⟨f2, h2⟩ := h2
  obtain ⟨XA, xc, xs, ex, hxc, hX, hxl, _⟩ := open_sl intK (fun _ _ => True) Try.underlying26 (by kernel_rfl) (by decide) rep_int h2
  obtain ⟨A3, l3, c3, rfl⟩ := okWide_slice Try.underlying29 (hval 3 29 v3 rfl rfl)
  have h3k := h3
  obtain ⟨f3, h3⟩ := h3
  obtain ⟨WA, wc, ws, ew, hwc, hWs, hwl, _⟩ := open_sl u16K (fun _ _ => True) Try.underlying29 (by kernel_rfl) (by decide) rep_u16 h3
  rw [ex] at h2k ⊢
  rw [ew] at h3k ⊢
  obtain ⟨wh, rfl, rfl, rfl, w4⟩ := open_int Try.underlying5 (hval 4 5 v4 rfl rfl) h4
  obtain ⟨at_, rfl, rfl, rfl, w5⟩ := open_int Try.underlying5 (hval 5 5 v5 rfl rfl) h5
  obtain ⟨er, rfl, rfl, rfl, w6⟩ := open_int Try.underlying5 (hval 6 5 v6 rfl rfl) h6
  obtain ⟨bits, rfl, rfl, rfl, w7⟩ := open_int Try.underlying30 (hval 7 30 v7 rfl rfl) h7
  have b4 : 0 ≤ wh ∧ wh ≤ 255 := by simpa [Lit.wf, IntKind.min, IntKind.max, IntKind.signed, IntKind.bits] using w4
  have b5 : 0 ≤ at_ ∧ at_ ≤ 255 := by simpa [Lit.wf, IntKind.min, IntKind.max, IntKind.signed, IntKind.bits] using w5
  have b6 : 0 ≤ er ∧ er ≤ 255 := by simpa [Lit.wf, IntKind.min, IntKind.max, IntKind.signed, IntKind.bits] using w6
  have b7 : 0 ≤ bits ∧ bits ≤ 65535 := by simpa [Lit.wf, IntKind.min, IntKind.max, IntKind.signed, IntKind.bits] using w7
  obtain ⟨wh, rfl⟩ : ∃ m : Nat, wh = (m : Int) := ⟨wh.toNat, by omega⟩
  obtain ⟨at_, rfl⟩ : ∃ m : Nat, at_ = (m : Int) := ⟨at_.toNat, by omega⟩
  obtain ⟨er, rfl⟩ : ∃ m : Nat, er = (m : Int) := ⟨er.toNat, by omega⟩
  obtain ⟨bits, rfl⟩ : ∃ m : Nat, bits = (m : Int) := ⟨bits.toNat, by omega⟩
  simp only [Rows.uptoBulk, Rows.uptoBulkAll, hd0, hd1] at hbk
  simp only at hxl hwl
  have hlz' : ∀ a ∈ ls, a.size ≤ 1048576 := fun a ha => by
    obtain ⟨d, rfl, hb⟩ := hlz a ha
    rw [bulks.string_eq, Array.length_toList] at hb
    have : a.data.size = a.size := rfl
    omega
  have hb := top_3 ls LA lc s wd ks dl xs KA DA XA WA kc dc xc wc ws wh at_ er bits W hL hK hD hX hWs (by omega) hlz' hlc (by omega) (by omega) (by omega) (by omega) (by omega) (by omega) (by omega) (by omega)
  refine hb.mono fun e W' ⟨he, hE⟩ => ?_
  subst he
  rw [ex] at hW'
  rw [ew] at hW'
  have m0 : ∀ x ∈ p0, x.block < W.heap.size := fun x hx => hlt x (by simp [hx])
  have m1 : ∀ x ∈ p1, x.block < W.heap.size := fun x hx => hlt x (by simp [hx])
  have m2 : ∀ x ∈ p2, x.block < W.heap.size := fun x hx => hlt x (by simp [hx])
  have m3 : ∀ x ∈ p3, x.block < W.heap.size := fun x hx => hlt x (by simp [hx])
  refine ⟨_, rfl, _, _, _, [], _, [], hW', (trodAll_cons_mk (shut_bool Try.underlying4 _) trodAll_mk0),
    trodAll_cons_mk (Below.trod laidOut (by kernel_rfl) (of_decide_eq_true (by kernel_rfl)) h0 hE m0)
    (trodAll_cons_mk (Below.trod laidOut (by kernel_rfl) (of_decide_eq_true (by kernel_rfl)) h1 hE m1)
    (trodAll_cons_mk (Below.trod laidOut (by kernel_rfl) (of_decide_eq_true (by kernel_rfl)) h2k hE m2)
    (trodAll_cons_mk (Below.trod laidOut (by kernel_rfl) (of_decide_eq_true (by kernel_rfl)) h3k hE m3)
    (trodAll_cons_mk (shut_int Try.underlying5 w4) (trodAll_cons_mk (shut_int Try.underlying5 w5) (trodAll_cons_mk (shut_int Try.underlying5 w6) (trodAll_cons_mk (shut_int Try.underlying30 w7) trodAll_mk0))))))),
    rfl, hE.frame _, fun h => by cases h⟩

set_option maxRecDepth 100000 in
theorem lifted (os : Os) (started : os.Started) (H : Type) (enc : TypeId × Value → H) (F : Stop.Interp) :
    ReturnsInHanded {} Try.checked os 3 .any ((Rows.OpenSpec.upto Rows.topGuessedSpec).pre6 enc Try.prog Try.f3 Rows.topGuessedUptoRow.domain false) (((Rows.OpenSpec.upto Rows.topGuessedSpec).at F).post enc Try.prog Try.f3 false true false false) := by
  refine returnsInHanded_of_cond (C := Try.checked) (s := Rows.OpenSpec.upto Rows.topGuessedSpec) (k := Rows.uptoSmall) rfl own started (by kernel_rfl) Try.func3
    (OpenSpec.witness (enc := enc) (C := Try.checked) (s := Rows.OpenSpec.upto Rows.topGuessedSpec) (k := Rows.uptoSmall) rfl false ⟨#[], #[.agg #[.slice none 0 0], .agg #[.int .i64 0, .int .i64 0, .slice none 0 0, .slice none 0 0], .slice none 0 0, .slice none 0 0, .int .u8 0, .int .u8 0, .int .u8 0, .int .u16 0], []⟩ 8 (by kernel_rfl) (by kernel_rfl) (by kernel_rfl)
      (x := ([.agg [.nil], .agg [.lit (.int .i64 0), .lit (.int .i64 0), .nil, .nil], .nil, .nil, .lit (.int .u8 0), .lit (.int .u8 0), .lit (.int .u8 0), .lit (.int .u16 0)], [], [])) (by kernel_rfl) rfl (by kernel_rfl)) ?_
  intro W base args ds gs before hval hW _ hk _
  exact contract H enc W base args ds gs before hval hW hk

theorem over : Rows.topGuessedUptoRow.holds Try.pinned (Rows.OpenSpec.upto Rows.topGuessedSpec) :=
  OpenClaim.holds_of_cond 3 Try.f3 rfl rfl rfl rfl rfl rfl rfl ⟨rfl, rfl, rfl, rfl, rfl⟩ rfl rfl rfl rfl rfl (by kernel_rfl) Try.func3 (by kernel_rfl)
    (of_decide_eq_true (by kernel_rfl)) (by unfold Func.isWrapper; first | (rw [if_pos (by decide +kernel)]; kernel_rfl) | (rw [if_neg (by decide +kernel)]; exact ⟨rfl, rfl⟩))
    (fun os started H enc _ F => lifted os started H enc F)

theorem proved : Rows.TopGuessedUptoSaid :=
  over
end Go.Proofs.Ytnlknpcbdciljaa.topGuessed
namespace Go.Proofs.Ytnlknpcbdciljaa
theorem topGuessedUpto_holds : Rows.TopGuessedUptoSaid := topGuessed.proved
end Go.Proofs.Ytnlknpcbdciljaa
