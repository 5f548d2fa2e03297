import Derived.Test.YtnlknpcbdciljaaLb7
/- Package cipher: all numbers that Add can be, if there is no guess. -/
namespace Go.Proofs.Tp
open Go.RowKit Go.Proofs.Gr
set_option linter.unusedVariables false
set_option linter.unusedSimpArgs false
set_option maxRecDepth 100000
attribute [local go_sem] below_alloc' below_drewN' below_drew' below_set' Below.refl
theorem adds_58_none (s wd : Int) (k : CKey) (KK D X : Value) (B : Option Addr) (d : Nat) (w : World) (hs : 1 ≤ s ∧ s ≤ 1000) (hK : KK.oneCell' = true) (hD : D.oneCell' = true) :
    Calls Try.prog 58 #[.agg #[.int .i64 s, .int .i64 wd, KK, D], .agg #[.int .i64 k.mul, .int .i64 k.add, .int .i64 k.step], X, .slice B 0 d] w fun e w' => ∃ v, e = .returned v ∧ OwX intK 3 w w' v ((List.range s.toNat).map fun n : Nat => (n : Int)) := by
  obtain ⟨w0, hw0⟩ : ∃ w0, w0 = (w.alloc (.cells #[.int .i64 s, .int .i64 wd, KK, D] 49)).alloc (.cells #[.int .i64 k.mul, .int .i64 k.add, .int .i64 k.step] 57) := ⟨_, rfl⟩
  have hE0 : Ext w w0 := by rw [hw0]; exact e2 w _ _
  go_enter Try.func58, Try.ntmps58
  go_wp2
  rw [← hw0]
  clear hw0
  go_loopw [8, 39] (fun o i wr => ∃ m : Nat, (m : Int) ≤ s ∧ i = .int .i64 m ∧ Ow intK 3 w0 wr o ((List.range m).map fun n : Nat => (n : Int))) (fun _ i _ => (s - intOf i).toNat)
  case atStart => exact ⟨0, by omega, rfl, Ow.nil (Ext.refl w0)⟩
  case round =>
    obtain ⟨m, hm, rfl, hO⟩ := hrel
    by_cases hlt : (m : Int) < s
    · go_wp2_with (at_builtin; refine app1 (k := intK) (m : Int) [.int .i64 (m : Int)] _ _ 26 (.int .i64 0) 8 rfl rfl Try.underlying26 inf3 rfl (by decide) (by decide) rfl rfl hO rfl (by rw [List.length_map, List.length_range]; omega) ?_; intro v1 W3 hO3 hg3)
      refine ⟨⟨m + 1, by omega, by go_num, ?_⟩, by simp [intOf]; omega⟩
      rw [List.range_succ, List.map_append]
      exact hO3
    · have hms : m = s.toNat := by omega
      have hO' := Lib.hid hO
      clear hO
      go_wp2
      go_ret
      rw [← hms]
      exact ⟨_, rfl, w0, hE0, hO'.out⟩
end Go.Proofs.Tp
/- slices.Clip; a key turned; the iterator's maker. -/
namespace Go.Proofs.Tp
open Go.RowKit Go.Proofs.Gr
set_option linter.unusedVariables false
set_option linter.unusedSimpArgs false
set_option maxRecDepth 100000
attribute [local go_sem] below_alloc' below_drewN' below_drew' below_set' Below.refl
theorem clip_34 (A : Option Addr) (n c : Nat) (w : World) (h : n ≤ c) (hl : n ≤ 1048576) :
    Calls Try.prog 34 #[.slice A n c] w fun e w' => e = .returned (.slice A n n) ∧ w = w' := by
  have h' : (n : Int) ≤ (c : Int) := by omega
  cases A with
  | none =>
    go_enter Try.func34, Try.ntmps34
    go_wp2
    go_ret
    exact ⟨rfl, rfl⟩
  | some a =>
    go_enter Try.func34, Try.ntmps34
    go_wp2
    go_ret
    exact ⟨rfl, rfl⟩
theorem keys_32 (V X Y : Value) (w : World) (hX : X.oneCell' = true) (hY : Y.oneCell' = true) (s wd : Int) (KK D : Value) (hV : V = .agg #[.int .i64 s, .int .i64 wd, KK, D]) (hK : KK.oneCell' = true) (hD : D.oneCell' = true) :
    Calls Try.prog 32 #[V, X, Y] w fun e w' => e = .returned (.func (.func 57) #[] #[.pointer (some ⟨w.heap.size, 0, none⟩), .pointer (some ⟨w.heap.size + 1, 0, none⟩), .pointer (some ⟨w.heap.size + 1 + 1, 0, none⟩)]) ∧
      w' = ((w.alloc (.cells #[.int .i64 s, .int .i64 wd, KK, D] 49)).alloc (.cells #[X] 26)).alloc (.cells #[Y] 51) := by
  subst hV
  go_enter Try.func32, Try.ntmps32
  go_wp2
  go_ret
  exact ⟨rfl, rfl⟩
end Go.Proofs.Tp
/- A key turned for the program. -/
namespace Go.Proofs.Tp
open Go.RowKit Go.Proofs.Gr
set_option linter.unusedVariables false
set_option linter.unusedSimpArgs false
set_option maxRecDepth 100000
attribute [local go_sem] below_alloc' below_drewN' below_drew' below_set' Below.refl
theorem key_36 (k : CKey) (w : World) :
    Calls Try.prog 36 #[.agg #[.int .i64 k.mul, .int .i64 k.add, .int .i64 k.step]] w fun e w' => e = .returned (.agg #[.int .i64 k.mul, .int .i64 k.add, .int .i64 k.step]) ∧ Ext w w' := by
  have hE := e2 w (.cells #[.int .i64 k.mul, .int .i64 k.add, .int .i64 k.step] 41) (.cells #[.int .i64 k.mul, .int .i64 k.add, .int .i64 k.step] 57)
  have hg := heap_alloc_new (w.alloc (.cells #[.int .i64 k.mul, .int .i64 k.add, .int .i64 k.step] 41)) (.cells #[.int .i64 k.mul, .int .i64 k.add, .int .i64 k.step] 57)
  simp only [World.size_alloc] at hg
  have HG := Lib.hid hg
  clear hg
  go_enter Try.func36, Try.ntmps36
  go_wp2
  refine bodyPost_ret (results_cell_row rfl _ _ (w.heap.size + 1) 57 _ (0, 0) _ rfl HG.out Try.underlying57 rfl (by kernel_rfl)) rfl ?_
  exact ⟨rfl, hE⟩
end Go.Proofs.Tp
/- Package cipher: all numbers of a list, coded. -/
namespace Go.Proofs.Tp
open Go.RowKit Go.Proofs.Gr
set_option linter.unusedVariables false
set_option linter.unusedSimpArgs false
set_option maxRecDepth 100000
attribute [local go_sem] below_alloc' below_drewN' below_drew' below_set' Below.refl
def turnedF (s : Int) (k : CKey) (xs : List Int) (m : Nat) : List Int := (List.range m).map fun i : Nat => codeF s k (xs.getD i 0) i
theorem turned_42 (s wd : Int) (k : CKey) (xs : List Int) (KK D : Value) (A : Option Addr) (c : Nat) (w : World) (hs : 1 ≤ s ∧ s ≤ 1000) (h1 : 0 ≤ k.mul ∧ k.mul ≤ 1000) (h2 : 0 ≤ k.add ∧ k.add ≤ 1000) (h3 : 0 ≤ k.step ∧ k.step ≤ 1000) (hl : xs.length ≤ 1000)
    (hxb : ∀ x ∈ xs, 0 ≤ x ∧ x ≤ 1000) (hK : KK.oneCell' = true) (hD : D.oneCell' = true) (hx : SlA intK w A xs) :
    Calls Try.prog 42 #[.agg #[.int .i64 s, .int .i64 wd, KK, D], .agg #[.func (.func 43) #[] #[]], .agg #[.int .i64 k.mul, .int .i64 k.add, .int .i64 k.step], .slice A xs.length c] w fun e w' => ∃ v, e = .returned v ∧ OwX intK 3 w w' v (turnedF s k xs xs.length) := by
  obtain ⟨w0, hw0⟩ : ∃ w0, w0 = ((w.alloc (.cells #[.int .i64 s, .int .i64 wd, KK, D] 49)).alloc (.cells #[.func (.func 43) #[] #[]] 93)).alloc (.cells #[.int .i64 k.mul, .int .i64 k.add, .int .i64 k.step] 57) := ⟨_, rfl⟩
  have hE0 : Ext w w0 := by rw [hw0]; exact e3 w _ _ _
  have hsz : w0.heap.size = w.heap.size + 1 + 1 + 1 := by rw [hw0]; simp
  have hb' : ∀ W, Ext w0 W → W.cell? ⟨w.heap.size, 0, none⟩ = some (.int .i64 s) ∧ W.cell? ⟨w.heap.size, 1, none⟩ = some (.int .i64 wd) ∧ W.cell? ⟨w.heap.size, 2, none⟩ = some KK ∧ W.cell? ⟨w.heap.size, 3, none⟩ = some D := fun W hW => by
    refine ⟨?_, ?_, ?_, ?_⟩ <;> (rw [hW.cell (by rw [hsz]; simp only []; omega), hw0]; simp [go_sem])
  have hf' : ∀ W, Ext w0 W → W.cell? ⟨w.heap.size + 1, 0, none⟩ = some (.func (.func 43) #[] #[]) := fun W hW => by
    rw [hW.cell (by rw [hsz]; simp only []; omega), hw0]; simp [go_sem]
  have hk' : ∀ W, Ext w0 W → W.cell? ⟨w.heap.size + 1 + 1, 0, none⟩ = some (.int .i64 k.mul) ∧ W.cell? ⟨w.heap.size + 1 + 1, 1, none⟩ = some (.int .i64 k.add) ∧ W.cell? ⟨w.heap.size + 1 + 1, 2, none⟩ = some (.int .i64 k.step) := fun W hW => by
    refine ⟨?_, ?_, ?_⟩ <;> (rw [hW.cell (by rw [hsz]; simp only []; omega), hw0]; simp [go_sem])
  go_enter Try.func42, Try.ntmps42
  go_wp2
  rw [← hw0]
  clear hw0 hsz
  go_loopw [8, 13] (fun o i wr => ∃ m : Nat, m ≤ xs.length ∧ i = .int .i64 m ∧ Ow intK 3 w0 wr o (turnedF s k xs m)) (fun _ i _ => xs.length - (intOf i).toNat)
  case atStart => exact ⟨0, by omega, rfl, Ow.nil (Ext.refl w0)⟩
  case round =>
    obtain ⟨m, hm, rfl, hO⟩ := hrel
    by_cases hlt : m < xs.length
    · have hlt' : (m : Int) < (xs.length : Int) := by omega
      obtain ⟨b, off, cs, rfl, hcs, hat⟩ := Sl.at_ hx m hlt
      have hcs' : cs = [.int .i64 xs[m]] := by simpa [intK, scalar] using hcs
      subst hcs'
      simp only [show intK.sz = 1 from rfl, Nat.mul_one] at hat
      have hc := at1 hat (hE0.trans hO.1)
      have hxm := hxb xs[m] (List.getElem_mem hlt)
      have HX := Lib.hid (show xs.getD m 0 = xs[m] by rw [List.getD_eq_getElem?_getD, List.getElem?_eq_getElem hlt]; rfl)
      obtain ⟨x, hxe⟩ : ∃ x, x = xs[m] := ⟨_, rfl⟩
      rw [← hxe] at hc hxm HX
      obtain ⟨b0, b1, b2, b3⟩ := hb' _ hO.1
      obtain ⟨k0, k1, k2⟩ := hk' _ hO.1
      have f0 := hf' _ hO.1
      have hcode := Lib.hid (code_43 s wd k x m KK D wr hs h1 h2 h3 hxm (by omega) hK hD)
      clear hcs hat hx hxb hxe hb' hk' hf'
      go_wp2_with (first
        | (go_at_call 43; refine hcode.out.mono ?_; rintro e W1 ⟨rfl, hE1⟩; have hO1 := hO.ext hE1)
        | (at_builtin; refine app1 (k := intK) (codeF s k x m) [.int .i64 (codeF s k x m)] _ _ 26 (.int .i64 0) 8 rfl rfl Try.underlying26 inf3 rfl (by decide) (by decide) rfl rfl hO1 rfl (by rw [turnedF, List.length_map, List.length_range]; omega) ?_; intro v1 W3 hO3 hg3))
      refine ⟨⟨m + 1, by omega, by go_num, ?_⟩, by simp [intOf]; omega⟩
      have ht : turnedF s k xs (m + 1) = turnedF s k xs m ++ [codeF s k x m] := by
        rw [turnedF, List.range_succ, List.map_append, List.map_singleton, HX.out]
        rfl
      rw [ht]
      exact hO3
    · have hlt' : ¬ (m : Int) < (xs.length : Int) := by omega
      obtain rfl : m = xs.length := by omega
      have hO' := Lib.hid hO
      clear hO
      go_wp2
      go_ret
      exact ⟨_, rfl, w0, hE0, hO'.out⟩
end Go.Proofs.Tp
/- A row's base may be lowered; a block that is stored beside a row; a code turned for the program. -/
namespace Go.Proofs.Tp
open Go.RowKit Go.Proofs.Gr
set_option linter.unusedVariables false
set_option linter.unusedSimpArgs false
set_option maxRecDepth 100000
attribute [local go_sem] below_alloc' below_drewN' below_drew' below_set' Below.refl
theorem ownsRow_mono {w : World} {base base' : Nat} {e : TypeId} {size : Nat} {v : Value} {n : Nat} {xs : List Value} (h : w.ownsRow base e size v n xs) (hb : base' ≤ base) : w.ownsRow base' e size v n xs := by
  refine ⟨h.1, ?_⟩
  rcases h.2 with h | ⟨g, cap, cur, h1, h2, h3⟩
  · exact .inl h
  · exact .inr ⟨g, cap, cur, h1, Nat.le_trans hb h2, h3⟩
theorem Ow.low {α : Type} {k : Kd α} {e : TypeId} {w w0 W : World} {v : Value} {xs : List α} (h : Ow k e w0 W v xs) (hE : Ext w w0) (hr : ∀ x cs, k.rep w0 x cs → k.rep w x cs) : Ow k e w W v xs := by
  obtain ⟨h1, css, h2, h3, h4⟩ := h
  exact ⟨hE.trans h1, css, h2, fun i hi hi' => hr _ _ (h3 i hi hi'), ownsRow_mono h4 hE.size⟩
theorem Ow.block_ne {α : Type} {k : Kd α} {e : TypeId} {w0 W : World} {v : Value} {xs : List α} (h : Ow k e w0 W v xs) {g : Nat} (hg : g < w0.heap.size) : v.ownBlock = none ∨ v.ownBlock ≠ some g := by
  obtain ⟨h1, css, h2, h3, h4⟩ := h
  refine .inr fun e => ?_
  have := (h4.lt g e).1
  omega
theorem grownBy_set (W : World) (g o : Nat) (u : Value) : W.grownBy (W.setCell ⟨g, o, none⟩ u) (some g) := by
  refine ⟨rfl, rfl, rfl, ?_, fun k hk hne => ?_⟩
  · show W.heap.size ≤ (W.heap.modify _ _).size
    rw [Array.size_modify]; exact Nat.le_refl _
  · exact Below.heap_setCell W ⟨g, o, none⟩ u k (fun e => hne (by rw [e]))
theorem ext_set {w W : World} (h : Ext w W) {g o : Nat} (hg : w.heap.size ≤ g) (u : Value) : Ext w (W.setCell ⟨g, o, none⟩ u) := h.setCell hg u
theorem heap_set1 {W : World} {g : Nat} {u v : Value} {T : TypeId} (h : W.heap[g]? = some (.cells #[u] T (0, 0))) : (W.setCell ⟨g, 0, none⟩ v).heap[g]? = some (.cells #[v] T (0, 0)) := by
  simp only [World.setCell, Array.getElem?_modify, if_true, h, Option.map_some]
  simp
theorem inf22s : (Try.prog.info? 9).map (fun i => (i.zero, i.size, i.bytes)) = some (some (.string ⟨#[]⟩), 1, 16) := by kernel_rfl
theorem code_28 (ls : List ByteArray) (A : Option Addr) (c : Nat) (w : World) (hx : SlA strK w A ls) (hl : ls.length ≤ 1048576) :
    Calls Try.prog 28 #[.agg #[.slice A ls.length c]] w fun e w' => ∃ v, e = .returned (.agg #[v]) ∧ OwX strK 9 w w' v ls := by
  obtain ⟨w0, hw0⟩ : ∃ w0, w0 = (w.alloc (.cells #[.slice A ls.length c] 24)).alloc (.cells #[.slice none 0 0] 64) := ⟨_, rfl⟩
  have hE0 : Ext w w0 := by rw [hw0]; exact e2 w _ _
  have hsz : w0.heap.size = w.heap.size + 1 + 1 := by rw [hw0]; simp
  have hO := Lib.hid (Ow.lit (k := strK) (e := 9) (Ext.refl w0) (xs := []) [] [] rfl rfl (by decide) (fun i h => by simp at h))
  have hg : w0.heap[w.heap.size + 1]? = some (.cells #[.slice none 0 0] 64 (0, 0)) := by
    have := heap_alloc_new (w.alloc (.cells #[.slice A ls.length c] 24)) (.cells #[.slice none 0 0] 64)
    simp only [World.size_alloc] at this
    rw [hw0]; exact this
  have HG := Lib.hid hg
  have hx0 := hx.ext hE0
  have fin : ∀ (v : Value) (W : World), Ow strK 9 w0 W v ls → OwX strK 9 w (W.setCell ⟨w.heap.size + 1, 0, none⟩ v) v ls := fun v W h =>
    ⟨w, Ext.refl w, (h.low hE0 (fun x cs h => h)).other (grownBy_set W _ _ _) (ext_set (hE0.trans h.1) (by omega) _) (h.block_ne (by omega))⟩
  have hcell : ∀ W, Ext w0 W → W.cell? ⟨w.heap.size + 1, 0, none⟩ = some (.slice none 0 0) ∧ W.frozen? ⟨w.heap.size + 1, 0, none⟩ = false := fun W hW => by
    refine ⟨?_, ?_⟩
    · rw [hW.cell (by rw [hsz]; simp only []; omega), hw0]; simp [go_sem]
    · rw [hW.frozen (by rw [hsz]; simp only []; omega), hw0]; simp [go_sem]
  clear hg hx
  by_cases hne : ls = []
  · subst hne
    have hF := Lib.hid (fin _ _ hO.out)
    obtain ⟨q0, q1⟩ := hcell _ (e1 w0 (.cells #[] 9))
    have c1 : (w0.alloc (.cells #[] 9)).cell? ⟨w.heap.size, 0, none⟩ = some (.slice A 0 c) := by
      rw [(e1 w0 (.cells #[] 9)).cell (by rw [hsz]; simp only []; omega), hw0]; simp [go_sem]
    simp only [List.length_nil] at hw0
    have HG2 := Lib.hid (heap_set1 (v := .slice (some ⟨w0.heap.size, 0, none⟩) 0 0) ((e1 w0 (.cells #[] 9)).block (w.heap.size + 1) (by omega) |>.trans HG.out))
    rw [World.setCell_alloc_past _ _ _ _ (by omega)] at HG2 hF
    simp only [hsz] at HG2 hF
    clear hcell fin hE0
    cases A with
    | none =>
      go_enter Try.func28, Try.ntmps28
      go_upto_region 1 with fail
      rw [← hw0]
      clear hw0
      go_wp2_with fail
      refine bodyPost_ret (results_cell_row rfl _ _ (w.heap.size + 1) 64 _ (0, 0) _ rfl HG2.out Try.underlying64 rfl (by kernel_rfl)) rfl ?_
      exact ⟨_, rfl, hF.out⟩
    | some a0 =>
      go_enter Try.func28, Try.ntmps28
      go_upto_region 1 with fail
      rw [← hw0]
      clear hw0
      go_wp2_with fail
      refine bodyPost_ret (results_cell_row rfl _ _ (w.heap.size + 1) 64 _ (0, 0) _ rfl HG2.out Try.underlying64 rfl (by kernel_rfl)) rfl ?_
      exact ⟨_, rfl, hF.out⟩
  · have c0 : ∀ W, Ext w0 W → W.cell? ⟨w.heap.size, 0, none⟩ = some (.slice A ls.length c) := fun W hW => by
      rw [hW.cell (by rw [hsz]; simp only []; omega), hw0]; simp [go_sem]
    have c1 := c0 _ (e1 w0 (.cells #[] 9))
    rw [hsz] at hO
    go_enter Try.func28, Try.ntmps28
    go_upto_region 1 with fail
    rw [← hw0]
    clear hw0 c0
    go_wp2_with (first
      | (at_builtin; (refine appS (k := strK) (w0 := w0) (ys := ls) A c _ _ 22 (.string ⟨#[]⟩) 16 rfl rfl Try.underlying22 inf22s rfl (by decide) (by decide) rfl rfl hO.out hx0 (by simp; omega) hne ?_); intro v1 W3 hO3 hg3; simp only [List.nil_append] at hO3; obtain ⟨q0, q1⟩ := hcell _ hO3.1; have hF := Lib.hid (fin _ _ hO3); have HG2 := Lib.hid (hO3.1.block _ (by omega) |>.trans HG.out); obtain ⟨A1, c1', rfl⟩ := hO3.len))
    refine bodyPost_ret (results_cell_row rfl _ _ (w.heap.size + 1) 64 _ (0, 0) _ rfl (heap_set1 HG2.out) Try.underlying64 rfl (by kernel_rfl)) rfl ?_
    exact ⟨_, rfl, hF.out⟩
end Go.Proofs.Tp
