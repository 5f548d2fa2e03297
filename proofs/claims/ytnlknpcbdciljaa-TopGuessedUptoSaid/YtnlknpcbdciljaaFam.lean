import Derived.Test.YtnlknpcbdciljaaFacts
/- slices.IndexFunc, slices.ContainsFunc and the packages' own all at some element types: what they return of a slice and a test. -/
namespace Go.Proofs.Tp
open Go.RowKit
set_option linter.unusedVariables false
set_option maxRecDepth 100000
attribute [local go_sem] below_alloc' below_drewN' below_drew' below_set' Below.refl
theorem idx_str (xs : List ByteArray) (p : ByteArray → Bool) (A : Option Addr) (c g : Nat) (fst cap : Array Value) (w : World) (hg : Enters g) (hx : SlA strK w A xs) (hl : xs.length ≤ 1048576)
    (hf : ∀ x ∈ xs, ∀ W, Ext w W → Calls Try.prog g (fst ++ #[.string x] ++ cap) W fun e W' => e = .returned (.bool (p x)) ∧ Ext W W') :
    Calls Try.prog 94 #[.slice A xs.length c, .func (.func g) fst cap] w fun e w' => e = .returned (.int .i64 (idxF p xs)) ∧ Ext w w' := by
  unfold Enters at hg
  go_enter Try.func94, Try.ntmps94
  go_wp2
  go_loopw [4, 5, 8] (fun r i j wr => ∃ k : Nat, k ≤ xs.length ∧ j = .int .i64 k ∧ r = .int .i64 0 ∧ (xs.take k).findIdx? p = none ∧ Below w.heap.size w wr) (fun _ _ j _ => xs.length - (intOf j).toNat)
  case atStart => exact ⟨0, Nat.zero_le _, rfl, rfl, rfl, Below.refl _ _⟩
  case round =>
    obtain ⟨k, hk, rfl, rfl, hno, hB⟩ := hrel
    by_cases hlt : k < xs.length
    · obtain ⟨b, off, cs, rfl, hcs, hat⟩ := Sl.at_ hx k hlt
      have hcs' : cs = [.string xs[k]] := by simpa [strK, scalar] using hcs
      subst hcs'
      simp only [show strK.sz = 1 from rfl, Nat.mul_one] at hat
      have hc := at1 hat hB
      have hcall := Lib.hid (hf xs[k] (List.getElem_mem hlt) wr hB)
      clear hf hat hcs
      go_wp2_with fail
      refine hcall.out.mono ?_
      rintro e W' ⟨rfl, hE⟩
      have hB' := below_call hB hE hB.size
      cases hp : p xs[k]
      · have h1 := Lib.hid (idx_next hlt hno hp)
        clear hno
        go_wp2_with fail
        go_roundw
        case rel => exact ⟨k + 1, by omega, by go_num, rfl, h1.out, hB'⟩
        case measure => simp [intOf]; omega
      · go_wp2_with fail
        go_ret
        exact ⟨ret_int (idx_hit hlt hno hp).symm, hB'⟩
    · have hk' : k = xs.length := by omega
      subst hk'
      clear hf
      go_wp2_with fail
      go_ret
      exact ⟨ret_int (idx_end hno).symm, hB⟩
theorem cont_str (xs : List ByteArray) (p : ByteArray → Bool) (A : Option Addr) (c g : Nat) (fst cap : Array Value) (w : World) (hg : Enters g) (hx : SlA strK w A xs) (hl : xs.length ≤ 1048576)
    (hf : ∀ x ∈ xs, ∀ W, Ext w W → Calls Try.prog g (fst ++ #[.string x] ++ cap) W fun e W' => e = .returned (.bool (p x)) ∧ Ext W W') :
    Calls Try.prog 83 #[.slice A xs.length c, .func (.func g) fst cap] w fun e w' => e = .returned (.bool (xs.any p)) ∧ Ext w w' := by
  have hi := Lib.hid (idx_str xs p A c g fst cap w hg hx hl hf)
  have hv := Lib.hid (idxF_any p xs)
  clear hf hg
  go_enter Try.func83, Try.ntmps83
  go_wp2_with fail
  refine hi.out.mono ?_
  rintro e W' ⟨rfl, hE⟩
  go_wp2_with fail
  go_ret
  exact ⟨ret_bool hv.out, hE⟩
theorem all_str (xs : List ByteArray) (p : ByteArray → Bool) (A : Option Addr) (c g : Nat) (fst cap : Array Value) (w : World) (hg : Enters g) (hx : SlA strK w A xs) (hl : xs.length ≤ 1048576)
    (hf : ∀ x ∈ xs, ∀ W, Ext w W → Calls Try.prog g (fst ++ #[.string x] ++ cap) W fun e W' => e = .returned (.bool (p x)) ∧ Ext W W') :
    Calls Try.prog 69 #[.slice A xs.length c, .func (.func g) fst cap] w fun e w' => e = .returned (.bool (xs.all p)) ∧ Ext w w' := by
  have hW0 : Ext w (w.alloc (.cells #[.func (.func g) fst cap] 111)) := (Ext.refl w).alloc (Nat.le_refl _) _
  have hf' : ∀ x ∈ xs, ∀ W, Ext (w.alloc (.cells #[.func (.func g) fst cap] 111)) W → Calls Try.prog 84 (#[] ++ #[.string x] ++ #[.pointer (some ⟨w.heap.size, 0, none⟩)]) W fun e W' => e = .returned (.bool (!p x)) ∧ Ext W W' := by
    intro x hxm W hW
    have hc : ∀ V, Below W.heap.size W V → V.cell? ⟨w.heap.size, 0, none⟩ = some (.func (.func g) fst cap) := fun V hV => ((Ext.trans hW hV).cell (by simp)).trans (by simp [go_sem])
    have hcall := Lib.hid (hf x hxm W (hW0.trans hW))
    clear hf
    unfold Enters at hg
    show Calls Try.prog 84 #[.string x, .pointer (some ⟨w.heap.size, 0, none⟩)] W _
    go_enter Try.func84, Try.ntmps84
    go_wp2_with fail
    refine hcall.out.mono ?_
    rintro e W' ⟨rfl, hE⟩
    go_wp2_with fail
    go_ret
    exact ⟨rfl, hE⟩
  have hcont := Lib.hid (cont_str xs (fun x => !p x) A c 84 #[] #[.pointer (some ⟨w.heap.size, 0, none⟩)] _ enters_84 (hx.ext hW0) hl hf')
  have hv := Lib.hid (any_not_all p xs)
  clear hf hf'
  go_enter Try.func69, Try.ntmps69
  go_wp2_with fail
  refine hcont.out.mono ?_
  rintro e W' ⟨rfl, hE⟩
  go_wp2_with fail
  go_ret
  exact ⟨ret_bool hv.out, hW0.trans hE⟩
theorem idx_int (xs : List Int) (p : Int → Bool) (A : Option Addr) (c g : Nat) (fst cap : Array Value) (w : World) (hg : Enters g) (hx : SlA intK w A xs) (hl : xs.length ≤ 1048576)
    (hf : ∀ x ∈ xs, ∀ W, Ext w W → Calls Try.prog g (fst ++ #[.int .i64 x] ++ cap) W fun e W' => e = .returned (.bool (p x)) ∧ Ext W W') :
    Calls Try.prog 67 #[.slice A xs.length c, .func (.func g) fst cap] w fun e w' => e = .returned (.int .i64 (idxF p xs)) ∧ Ext w w' := by
  unfold Enters at hg
  go_enter Try.func67, Try.ntmps67
  go_wp2
  go_loopw [4, 5, 8] (fun r i j wr => ∃ k : Nat, k ≤ xs.length ∧ j = .int .i64 k ∧ r = .int .i64 0 ∧ (xs.take k).findIdx? p = none ∧ Below w.heap.size w wr) (fun _ _ j _ => xs.length - (intOf j).toNat)
  case atStart => exact ⟨0, Nat.zero_le _, rfl, rfl, rfl, Below.refl _ _⟩
  case round =>
    obtain ⟨k, hk, rfl, rfl, hno, hB⟩ := hrel
    by_cases hlt : k < xs.length
    · obtain ⟨b, off, cs, rfl, hcs, hat⟩ := Sl.at_ hx k hlt
      have hcs' : cs = [.int .i64 xs[k]] := by simpa [intK, scalar] using hcs
      subst hcs'
      simp only [show intK.sz = 1 from rfl, Nat.mul_one] at hat
      have hc := at1 hat hB
      have hcall := Lib.hid (hf xs[k] (List.getElem_mem hlt) wr hB)
      clear hf hat hcs
      go_wp2_with fail
      refine hcall.out.mono ?_
      rintro e W' ⟨rfl, hE⟩
      have hB' := below_call hB hE hB.size
      cases hp : p xs[k]
      · have h1 := Lib.hid (idx_next hlt hno hp)
        clear hno
        go_wp2_with fail
        go_roundw
        case rel => exact ⟨k + 1, by omega, by go_num, rfl, h1.out, hB'⟩
        case measure => simp [intOf]; omega
      · go_wp2_with fail
        go_ret
        exact ⟨ret_int (idx_hit hlt hno hp).symm, hB'⟩
    · have hk' : k = xs.length := by omega
      subst hk'
      clear hf
      go_wp2_with fail
      go_ret
      exact ⟨ret_int (idx_end hno).symm, hB⟩
theorem cont_int (xs : List Int) (p : Int → Bool) (A : Option Addr) (c g : Nat) (fst cap : Array Value) (w : World) (hg : Enters g) (hx : SlA intK w A xs) (hl : xs.length ≤ 1048576)
    (hf : ∀ x ∈ xs, ∀ W, Ext w W → Calls Try.prog g (fst ++ #[.int .i64 x] ++ cap) W fun e W' => e = .returned (.bool (p x)) ∧ Ext W W') :
    Calls Try.prog 65 #[.slice A xs.length c, .func (.func g) fst cap] w fun e w' => e = .returned (.bool (xs.any p)) ∧ Ext w w' := by
  have hi := Lib.hid (idx_int xs p A c g fst cap w hg hx hl hf)
  have hv := Lib.hid (idxF_any p xs)
  clear hf hg
  go_enter Try.func65, Try.ntmps65
  go_wp2_with fail
  refine hi.out.mono ?_
  rintro e W' ⟨rfl, hE⟩
  go_wp2_with fail
  go_ret
  exact ⟨ret_bool hv.out, hE⟩
theorem all_int (xs : List Int) (p : Int → Bool) (A : Option Addr) (c g : Nat) (fst cap : Array Value) (w : World) (hg : Enters g) (hx : SlA intK w A xs) (hl : xs.length ≤ 1048576)
    (hf : ∀ x ∈ xs, ∀ W, Ext w W → Calls Try.prog g (fst ++ #[.int .i64 x] ++ cap) W fun e W' => e = .returned (.bool (p x)) ∧ Ext W W') :
    Calls Try.prog 39 #[.slice A xs.length c, .func (.func g) fst cap] w fun e w' => e = .returned (.bool (xs.all p)) ∧ Ext w w' := by
  have hW0 : Ext w (w.alloc (.cells #[.func (.func g) fst cap] 55)) := (Ext.refl w).alloc (Nat.le_refl _) _
  have hf' : ∀ x ∈ xs, ∀ W, Ext (w.alloc (.cells #[.func (.func g) fst cap] 55)) W → Calls Try.prog 66 (#[] ++ #[.int .i64 x] ++ #[.pointer (some ⟨w.heap.size, 0, none⟩)]) W fun e W' => e = .returned (.bool (!p x)) ∧ Ext W W' := by
    intro x hxm W hW
    have hc : ∀ V, Below W.heap.size W V → V.cell? ⟨w.heap.size, 0, none⟩ = some (.func (.func g) fst cap) := fun V hV => ((Ext.trans hW hV).cell (by simp)).trans (by simp [go_sem])
    have hcall := Lib.hid (hf x hxm W (hW0.trans hW))
    clear hf
    unfold Enters at hg
    show Calls Try.prog 66 #[.int .i64 x, .pointer (some ⟨w.heap.size, 0, none⟩)] W _
    go_enter Try.func66, Try.ntmps66
    go_wp2_with fail
    refine hcall.out.mono ?_
    rintro e W' ⟨rfl, hE⟩
    go_wp2_with fail
    go_ret
    exact ⟨rfl, hE⟩
  have hcont := Lib.hid (cont_int xs (fun x => !p x) A c 66 #[] #[.pointer (some ⟨w.heap.size, 0, none⟩)] _ enters_66 (hx.ext hW0) hl hf')
  have hv := Lib.hid (any_not_all p xs)
  clear hf hf'
  go_enter Try.func39, Try.ntmps39
  go_wp2_with fail
  refine hcont.out.mono ?_
  rintro e W' ⟨rfl, hE⟩
  go_wp2_with fail
  go_ret
  exact ⟨ret_bool hv.out, hW0.trans hE⟩
theorem idx_ckey (xs : List CKey) (p : CKey → Bool) (A : Option Addr) (c g : Nat) (fst cap : Array Value) (w : World) (hg : Enters g) (hx : SlA ckeyK w A xs) (hl : xs.length ≤ 1048576)
    (hf : ∀ x ∈ xs, ∀ W, Ext w W → ∀ cs, ckeyK.rep W x cs → Calls Try.prog g (fst ++ #[.agg cs.toArray] ++ cap) W fun e W' => e = .returned (.bool (p x)) ∧ Ext W W') :
    Calls Try.prog 93 #[.slice A xs.length c, .func (.func g) fst cap] w fun e w' => e = .returned (.int .i64 (idxF p xs)) ∧ Ext w w' := by
  unfold Enters at hg
  go_enter Try.func93, Try.ntmps93
  go_wp2
  go_loopw [4, 5, 8] (fun r i j wr => ∃ k : Nat, k ≤ xs.length ∧ j = .int .i64 k ∧ r = .int .i64 0 ∧ (xs.take k).findIdx? p = none ∧ Below w.heap.size w wr) (fun _ _ j _ => xs.length - (intOf j).toNat)
  case atStart => exact ⟨0, Nat.zero_le _, rfl, rfl, rfl, Below.refl _ _⟩
  case round =>
    obtain ⟨k, hk, rfl, rfl, hno, hB⟩ := hrel
    by_cases hlt : k < xs.length
    · obtain ⟨b, off, cs, rfl, hcs, hat⟩ := Sl.at_ hx k hlt
      have hcs' : cs = [.int .i64 xs[k].mul, .int .i64 xs[k].add, .int .i64 xs[k].step] := hcs
      subst hcs'
      simp only [show ckeyK.sz = 3 from rfl] at hat
      obtain ⟨hc0, hc1, hc2⟩ := at3 hat hB
      have hcall := Lib.hid (hf xs[k] (List.getElem_mem hlt) wr hB _ (ckeyK.ext hcs hB))
      clear hf hat hcs
      go_wp2_with fail
      refine hcall.out.mono ?_
      rintro e W' ⟨rfl, hE⟩
      have hB' := below_call hB hE hB.size
      cases hp : p xs[k]
      · have h1 := Lib.hid (idx_next hlt hno hp)
        clear hno
        go_wp2_with fail
        go_roundw
        case rel => exact ⟨k + 1, by omega, by go_num, rfl, h1.out, hB'⟩
        case measure => simp [intOf]; omega
      · go_wp2_with fail
        go_ret
        exact ⟨ret_int (idx_hit hlt hno hp).symm, hB'⟩
    · have hk' : k = xs.length := by omega
      subst hk'
      clear hf
      go_wp2_with fail
      go_ret
      exact ⟨ret_int (idx_end hno).symm, hB⟩
theorem cont_ckey (xs : List CKey) (p : CKey → Bool) (A : Option Addr) (c g : Nat) (fst cap : Array Value) (w : World) (hg : Enters g) (hx : SlA ckeyK w A xs) (hl : xs.length ≤ 1048576)
    (hf : ∀ x ∈ xs, ∀ W, Ext w W → ∀ cs, ckeyK.rep W x cs → Calls Try.prog g (fst ++ #[.agg cs.toArray] ++ cap) W fun e W' => e = .returned (.bool (p x)) ∧ Ext W W') :
    Calls Try.prog 81 #[.slice A xs.length c, .func (.func g) fst cap] w fun e w' => e = .returned (.bool (xs.any p)) ∧ Ext w w' := by
  have hi := Lib.hid (idx_ckey xs p A c g fst cap w hg hx hl hf)
  have hv := Lib.hid (idxF_any p xs)
  clear hf hg
  go_enter Try.func81, Try.ntmps81
  go_wp2_with fail
  refine hi.out.mono ?_
  rintro e W' ⟨rfl, hE⟩
  go_wp2_with fail
  go_ret
  exact ⟨ret_bool hv.out, hE⟩
theorem all_ckey (xs : List CKey) (p : CKey → Bool) (A : Option Addr) (c g : Nat) (fst cap : Array Value) (w : World) (hg : Enters g) (hx : SlA ckeyK w A xs) (hl : xs.length ≤ 1048576)
    (hf : ∀ x ∈ xs, ∀ W, Ext w W → ∀ cs, ckeyK.rep W x cs → Calls Try.prog g (fst ++ #[.agg cs.toArray] ++ cap) W fun e W' => e = .returned (.bool (p x)) ∧ Ext W W') :
    Calls Try.prog 64 #[.slice A xs.length c, .func (.func g) fst cap] w fun e w' => e = .returned (.bool (xs.all p)) ∧ Ext w w' := by
  have hW0 : Ext w (w.alloc (.cells #[.func (.func g) fst cap] 107)) := (Ext.refl w).alloc (Nat.le_refl _) _
  have hf' : ∀ x ∈ xs, ∀ W, Ext (w.alloc (.cells #[.func (.func g) fst cap] 107)) W → ∀ cs, ckeyK.rep W x cs → Calls Try.prog 82 (#[] ++ #[.agg cs.toArray] ++ #[.pointer (some ⟨w.heap.size, 0, none⟩)]) W fun e W' => e = .returned (.bool (!p x)) ∧ Ext W W' := by
    intro x hxm W hW cs hr
    have hc : ∀ V, Below W.heap.size W V → V.cell? ⟨w.heap.size, 0, none⟩ = some (.func (.func g) fst cap) := fun V hV => ((Ext.trans hW hV).cell (by simp)).trans (by simp [go_sem])
    have hr' : cs = [.int .i64 x.mul, .int .i64 x.add, .int .i64 x.step] := hr
    subst hr'
    have hcall := (fun V (hV : Ext W V) => Lib.hid (hf x hxm V ((hW0.trans hW).trans hV) _ (ckeyK.ext hr hV)))
    clear hf
    unfold Enters at hg
    show Calls Try.prog 82 #[.agg #[.int .i64 x.mul, .int .i64 x.add, .int .i64 x.step], .pointer (some ⟨w.heap.size, 0, none⟩)] W _
    go_enter Try.func82, Try.ntmps82
    go_wp2_with fail
    refine (hcall _ (by simp [go_sem])).out.mono ?_
    rintro e W' ⟨rfl, hE⟩
    go_wp2_with fail
    go_ret
    exact ⟨rfl, below_call (by simp [go_sem]) hE (by simp)⟩
  have hcont := Lib.hid (cont_ckey xs (fun x => !p x) A c 82 #[] #[.pointer (some ⟨w.heap.size, 0, none⟩)] _ enters_82 (hx.ext hW0) hl hf')
  have hv := Lib.hid (any_not_all p xs)
  clear hf hf'
  go_enter Try.func64, Try.ntmps64
  go_wp2_with fail
  refine hcont.out.mono ?_
  rintro e W' ⟨rfl, hE⟩
  go_wp2_with fail
  go_ret
  exact ⟨ret_bool hv.out, hW0.trans hE⟩
theorem idx_guess (xs : List Guess) (p : Guess → Bool) (A : Option Addr) (c g : Nat) (fst cap : Array Value) (w : World) (hg : Enters g) (hx : SlA guessK w A xs) (hl : xs.length ≤ 1048576)
    (hf : ∀ x ∈ xs, ∀ W, Ext w W → ∀ cs, guessK.rep W x cs → Calls Try.prog g (fst ++ #[.agg cs.toArray] ++ cap) W fun e W' => e = .returned (.bool (p x)) ∧ Ext W W') :
    Calls Try.prog 92 #[.slice A xs.length c, .func (.func g) fst cap] w fun e w' => e = .returned (.int .i64 (idxF p xs)) ∧ Ext w w' := by
  unfold Enters at hg
  go_enter Try.func92, Try.ntmps92
  go_wp2
  go_loopw [4, 5, 8] (fun r i j wr => ∃ k : Nat, k ≤ xs.length ∧ j = .int .i64 k ∧ r = .int .i64 0 ∧ (xs.take k).findIdx? p = none ∧ Below w.heap.size w wr) (fun _ _ j _ => xs.length - (intOf j).toNat)
  case atStart => exact ⟨0, Nat.zero_le _, rfl, rfl, rfl, Below.refl _ _⟩
  case round =>
    obtain ⟨k, hk, rfl, rfl, hno, hB⟩ := hrel
    by_cases hlt : k < xs.length
    · obtain ⟨b, off, cs, rfl, hcs, hat⟩ := Sl.at_ hx k hlt
      have hcs' : cs = [.int .i64 xs[k].at_, .int .i64 xs[k].plain] := hcs
      subst hcs'
      simp only [show guessK.sz = 2 from rfl] at hat
      obtain ⟨hc0, hc1⟩ := at2 hat hB
      have hcall := Lib.hid (hf xs[k] (List.getElem_mem hlt) wr hB _ (guessK.ext hcs hB))
      clear hf hat hcs
      go_wp2_with fail
      refine hcall.out.mono ?_
      rintro e W' ⟨rfl, hE⟩
      have hB' := below_call hB hE hB.size
      cases hp : p xs[k]
      · have h1 := Lib.hid (idx_next hlt hno hp)
        clear hno
        go_wp2_with fail
        go_roundw
        case rel => exact ⟨k + 1, by omega, by go_num, rfl, h1.out, hB'⟩
        case measure => simp [intOf]; omega
      · go_wp2_with fail
        go_ret
        exact ⟨ret_int (idx_hit hlt hno hp).symm, hB'⟩
    · have hk' : k = xs.length := by omega
      subst hk'
      clear hf
      go_wp2_with fail
      go_ret
      exact ⟨ret_int (idx_end hno).symm, hB⟩
theorem cont_guess (xs : List Guess) (p : Guess → Bool) (A : Option Addr) (c g : Nat) (fst cap : Array Value) (w : World) (hg : Enters g) (hx : SlA guessK w A xs) (hl : xs.length ≤ 1048576)
    (hf : ∀ x ∈ xs, ∀ W, Ext w W → ∀ cs, guessK.rep W x cs → Calls Try.prog g (fst ++ #[.agg cs.toArray] ++ cap) W fun e W' => e = .returned (.bool (p x)) ∧ Ext W W') :
    Calls Try.prog 79 #[.slice A xs.length c, .func (.func g) fst cap] w fun e w' => e = .returned (.bool (xs.any p)) ∧ Ext w w' := by
  have hi := Lib.hid (idx_guess xs p A c g fst cap w hg hx hl hf)
  have hv := Lib.hid (idxF_any p xs)
  clear hf hg
  go_enter Try.func79, Try.ntmps79
  go_wp2_with fail
  refine hi.out.mono ?_
  rintro e W' ⟨rfl, hE⟩
  go_wp2_with fail
  go_ret
  exact ⟨ret_bool hv.out, hE⟩
theorem all_guess (xs : List Guess) (p : Guess → Bool) (A : Option Addr) (c g : Nat) (fst cap : Array Value) (w : World) (hg : Enters g) (hx : SlA guessK w A xs) (hl : xs.length ≤ 1048576)
    (hf : ∀ x ∈ xs, ∀ W, Ext w W → ∀ cs, guessK.rep W x cs → Calls Try.prog g (fst ++ #[.agg cs.toArray] ++ cap) W fun e W' => e = .returned (.bool (p x)) ∧ Ext W W') :
    Calls Try.prog 56 #[.slice A xs.length c, .func (.func g) fst cap] w fun e w' => e = .returned (.bool (xs.all p)) ∧ Ext w w' := by
  have hW0 : Ext w (w.alloc (.cells #[.func (.func g) fst cap] 105)) := (Ext.refl w).alloc (Nat.le_refl _) _
  have hf' : ∀ x ∈ xs, ∀ W, Ext (w.alloc (.cells #[.func (.func g) fst cap] 105)) W → ∀ cs, guessK.rep W x cs → Calls Try.prog 80 (#[] ++ #[.agg cs.toArray] ++ #[.pointer (some ⟨w.heap.size, 0, none⟩)]) W fun e W' => e = .returned (.bool (!p x)) ∧ Ext W W' := by
    intro x hxm W hW cs hr
    have hc : ∀ V, Below W.heap.size W V → V.cell? ⟨w.heap.size, 0, none⟩ = some (.func (.func g) fst cap) := fun V hV => ((Ext.trans hW hV).cell (by simp)).trans (by simp [go_sem])
    have hr' : cs = [.int .i64 x.at_, .int .i64 x.plain] := hr
    subst hr'
    have hcall := (fun V (hV : Ext W V) => Lib.hid (hf x hxm V ((hW0.trans hW).trans hV) _ (guessK.ext hr hV)))
    clear hf
    unfold Enters at hg
    show Calls Try.prog 80 #[.agg #[.int .i64 x.at_, .int .i64 x.plain], .pointer (some ⟨w.heap.size, 0, none⟩)] W _
    go_enter Try.func80, Try.ntmps80
    go_wp2_with fail
    refine (hcall _ (by simp [go_sem])).out.mono ?_
    rintro e W' ⟨rfl, hE⟩
    go_wp2_with fail
    go_ret
    exact ⟨rfl, below_call (by simp [go_sem]) hE (by simp)⟩
  have hcont := Lib.hid (cont_guess xs (fun x => !p x) A c 80 #[] #[.pointer (some ⟨w.heap.size, 0, none⟩)] _ enters_80 (hx.ext hW0) hl hf')
  have hv := Lib.hid (any_not_all p xs)
  clear hf hf'
  go_enter Try.func56, Try.ntmps56
  go_wp2_with fail
  refine hcont.out.mono ?_
  rintro e W' ⟨rfl, hE⟩
  go_wp2_with fail
  go_ret
  exact ⟨ret_bool hv.out, hW0.trans hE⟩
theorem idx_byte (xs : List UInt8) (p : UInt8 → Bool) (A : Option Addr) (c g : Nat) (fst cap : Array Value) (w : World) (hg : Enters g) (hx : SlA byteK w A xs) (hl : xs.length ≤ 1048576)
    (hf : ∀ x ∈ xs, ∀ W, Ext w W → Calls Try.prog g (fst ++ #[.int .u8 x.toNat] ++ cap) W fun e W' => e = .returned (.bool (p x)) ∧ Ext W W') :
    Calls Try.prog 96 #[.slice A xs.length c, .func (.func g) fst cap] w fun e w' => e = .returned (.int .i64 (idxF p xs)) ∧ Ext w w' := by
  unfold Enters at hg
  go_enter Try.func96, Try.ntmps96
  go_wp2
  go_loopw [4, 5, 8] (fun r i j wr => ∃ k : Nat, k ≤ xs.length ∧ j = .int .i64 k ∧ r = .int .i64 0 ∧ (xs.take k).findIdx? p = none ∧ Below w.heap.size w wr) (fun _ _ j _ => xs.length - (intOf j).toNat)
  case atStart => exact ⟨0, Nat.zero_le _, rfl, rfl, rfl, Below.refl _ _⟩
  case round =>
    obtain ⟨k, hk, rfl, rfl, hno, hB⟩ := hrel
    by_cases hlt : k < xs.length
    · obtain ⟨b, off, cs, rfl, hcs, hat⟩ := Sl.at_ hx k hlt
      have hcs' : cs = [.int .u8 xs[k].toNat] := by simpa [byteK, scalar] using hcs
      subst hcs'
      simp only [show byteK.sz = 1 from rfl, Nat.mul_one] at hat
      have hc := at1 hat hB
      have hcall := Lib.hid (hf xs[k] (List.getElem_mem hlt) wr hB)
      clear hf hat hcs
      go_wp2_with fail
      refine hcall.out.mono ?_
      rintro e W' ⟨rfl, hE⟩
      have hB' := below_call hB hE hB.size
      cases hp : p xs[k]
      · have h1 := Lib.hid (idx_next hlt hno hp)
        clear hno
        go_wp2_with fail
        go_roundw
        case rel => exact ⟨k + 1, by omega, by go_num, rfl, h1.out, hB'⟩
        case measure => simp [intOf]; omega
      · go_wp2_with fail
        go_ret
        exact ⟨ret_int (idx_hit hlt hno hp).symm, hB'⟩
    · have hk' : k = xs.length := by omega
      subst hk'
      clear hf
      go_wp2_with fail
      go_ret
      exact ⟨ret_int (idx_end hno).symm, hB⟩
theorem cont_byte (xs : List UInt8) (p : UInt8 → Bool) (A : Option Addr) (c g : Nat) (fst cap : Array Value) (w : World) (hg : Enters g) (hx : SlA byteK w A xs) (hl : xs.length ≤ 1048576)
    (hf : ∀ x ∈ xs, ∀ W, Ext w W → Calls Try.prog g (fst ++ #[.int .u8 x.toNat] ++ cap) W fun e W' => e = .returned (.bool (p x)) ∧ Ext W W') :
    Calls Try.prog 87 #[.slice A xs.length c, .func (.func g) fst cap] w fun e w' => e = .returned (.bool (xs.any p)) ∧ Ext w w' := by
  have hi := Lib.hid (idx_byte xs p A c g fst cap w hg hx hl hf)
  have hv := Lib.hid (idxF_any p xs)
  clear hf hg
  go_enter Try.func87, Try.ntmps87
  go_wp2_with fail
  refine hi.out.mono ?_
  rintro e W' ⟨rfl, hE⟩
  go_wp2_with fail
  go_ret
  exact ⟨ret_bool hv.out, hE⟩
theorem all_byte (xs : List UInt8) (p : UInt8 → Bool) (A : Option Addr) (c g : Nat) (fst cap : Array Value) (w : World) (hg : Enters g) (hx : SlA byteK w A xs) (hl : xs.length ≤ 1048576)
    (hf : ∀ x ∈ xs, ∀ W, Ext w W → Calls Try.prog g (fst ++ #[.int .u8 x.toNat] ++ cap) W fun e W' => e = .returned (.bool (p x)) ∧ Ext W W') :
    Calls Try.prog 74 #[.slice A xs.length c, .func (.func g) fst cap] w fun e w' => e = .returned (.bool (xs.all p)) ∧ Ext w w' := by
  have hW0 : Ext w (w.alloc (.cells #[.func (.func g) fst cap] 116)) := (Ext.refl w).alloc (Nat.le_refl _) _
  have hf' : ∀ x ∈ xs, ∀ W, Ext (w.alloc (.cells #[.func (.func g) fst cap] 116)) W → Calls Try.prog 88 (#[] ++ #[.int .u8 x.toNat] ++ #[.pointer (some ⟨w.heap.size, 0, none⟩)]) W fun e W' => e = .returned (.bool (!p x)) ∧ Ext W W' := by
    intro x hxm W hW
    have hc : ∀ V, Below W.heap.size W V → V.cell? ⟨w.heap.size, 0, none⟩ = some (.func (.func g) fst cap) := fun V hV => ((Ext.trans hW hV).cell (by simp)).trans (by simp [go_sem])
    have hcall := Lib.hid (hf x hxm W (hW0.trans hW))
    clear hf
    unfold Enters at hg
    show Calls Try.prog 88 #[.int .u8 x.toNat, .pointer (some ⟨w.heap.size, 0, none⟩)] W _
    go_enter Try.func88, Try.ntmps88
    go_wp2_with fail
    refine hcall.out.mono ?_
    rintro e W' ⟨rfl, hE⟩
    go_wp2_with fail
    go_ret
    exact ⟨rfl, hE⟩
  have hcont := Lib.hid (cont_byte xs (fun x => !p x) A c 88 #[] #[.pointer (some ⟨w.heap.size, 0, none⟩)] _ enters_88 (hx.ext hW0) hl hf')
  have hv := Lib.hid (any_not_all p xs)
  clear hf hf'
  go_enter Try.func74, Try.ntmps74
  go_wp2_with fail
  refine hcont.out.mono ?_
  rintro e W' ⟨rfl, hE⟩
  go_wp2_with fail
  go_ret
  exact ⟨ret_bool hv.out, hW0.trans hE⟩
end Go.Proofs.Tp
