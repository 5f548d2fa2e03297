import Derived.Test.YtnlknpcbdciljaaFl1
import Derived.Laws.EntriesVeiled
/- Package flash: a code that is fine, signs that are fine; the least of some numbers. -/
namespace Go.Proofs.Tp
open Go.RowKit
set_option linter.unusedVariables false
set_option linter.unusedSimpArgs false
set_option maxRecDepth 100000
attribute [local go_sem] below_alloc' below_drewN' below_drew' below_set' Below.refl
theorem contS_70 (xs : List ByteArray) (v : ByteArray) (A : Option Addr) (c : Nat) (w : World) (hx : SlA strK w A xs) (hl : xs.length ≤ 1048576) :
    Calls Try.prog 70 #[.slice A xs.length c, .string v] w fun e w' => e = .returned (.bool (xs.any (fun x => v.toList == x.toList))) ∧ w = w' := by
  have hi := Lib.hid (idxS_85 xs v A c w hx hl)
  have hv := Lib.hid (idxF_any (fun x => v.toList == x.toList) xs)
  go_enter Try.func70, Try.ntmps70
  go_wp2_with fail
  refine hi.out.mono ?_
  rintro e W' ⟨rfl, rfl⟩
  go_wp2_with fail
  go_ret
  exact ⟨ret_bool hv.out, rfl⟩
/-- a code that is fine -/
structure Fine (ls : List ByteArray) : Prop where
  lo : 0 < ls.length
  hi : ls.length ≤ 6
  letter : ∀ s ∈ ls, letterF s = true
  apart : ∀ i (h : i < ls.length), (ls.take i).any (fun x => ls[i].toList == x.toList) = false
theorem letter_size {s : ByteArray} (h : letterF s = true) : s.size ≤ 4 := by
  simp only [letterF, inR, Bool.and_eq_true, decide_eq_true_eq] at h
  omega
theorem take_sl {α : Type} {k : Kd α} {w : World} {A : Option Addr} {xs : List α} (h : SlA k w A xs) (n : Nat) : SlA k w A (xs.take n) := by
  rcases h with rfl | ⟨b, off, h1, h2⟩
  · exact .inl (by simp)
  · refine .inr ⟨b, off, h1, fun i hi => ?_⟩
    have hi' : i < xs.length := by simp at hi; omega
    obtain ⟨cs, r, a⟩ := h2 i hi'
    exact ⟨cs, by simpa using r, a⟩
theorem code_48 (ls : List ByteArray) (A : Option Addr) (c : Nat) (w : World) (hx : SlA strK w A ls) (hF : Fine ls) (hc0 : ls.length ≤ c) :
    Calls Try.prog 48 #[.agg #[.slice A ls.length c]] w fun e w' => e = .returned (.int .i64 0) ∧ Ext w w' := by
  have hl0 := hF.lo
  have hl6 := hF.hi
  have hall := fun (W : World) (e : Ext w W) => Lib.hid (all_str ls letterF A c 68 #[.agg #[.string ⟨#[46, 45]⟩, .int .i64 4]] #[] W enters_68 (hx.ext e) (by omega)
    (fun x hm V hV => letter_68 x V (Nat.le_trans (letter_size (hF.letter x hm)) (by decide))))
  have hv : ls.all letterF = true := List.all_eq_true.2 hF.letter
  rw [hv] at hall
  have g0 : ((ls.length : Int) == 0) = false := by rw [beq_eq_false_iff_ne]; omega
  have hB0 := (e1 w (.cells #[.slice A ls.length c] 64))
  have hcont := fun (i : Nat) (hi : i < ls.length) (W : World) (e : Ext w W) => Lib.hid (contS_70 (ls.take i) ls[i] A c W ((take_sl hx i).ext e) (by rw [List.length_take]; omega))
  have hcont' : ∀ (i : Nat) (hi : i < ls.length) (W : World) (e : Ext w W), Hid (Calls Try.prog 70 #[.slice A i c, .string ls[i]] W fun e w' => e = .returned (.bool false) ∧ W = w') := by
    intro i hi W e
    have h1 := hcont i hi W e
    rw [hF.apart i hi, List.length_take, Nat.min_eq_left (Nat.le_of_lt hi)] at h1
    exact h1
  clear hcont hv
  go_enter Try.func48, Try.ntmps48
  go_wp2_with (first
    | (go_at_call 69; refine (hall _ hB0).out.mono ?_; rintro e W1 ⟨rfl, hE1⟩; obtain ⟨hc1, hf1, hz1⟩ := ext3 hE1; have hB1 := Ext.trans hB0 hE1))
  clear hall
  go_loop [4, 5, 26] (fun u v j => ∃ k : Nat, k ≤ ls.length ∧ j = .int .i64 k) (fun _ _ j => ls.length - (intOf j).toNat)
  case atStart => exact ⟨0, by omega, rfl⟩
  case round =>
    obtain ⟨k, hk, rfl⟩ := hrel
    by_cases hlt : k < ls.length
    · obtain ⟨b, off, cs, rfl, hcs, hat⟩ := Sl.at_ hx k hlt
      have hcs' : cs = [.string ls[k]] := by simpa [strK, scalar] using hcs
      subst hcs'
      simp only [show strK.sz = 1 from rfl, Nat.mul_one] at hat
      have hc := at1 hat hB1
      have hcall := hcont' k hlt W1 hB1
      clear hat hcs hcont' hF
      go_wp2_with (go_at_call 70; refine hcall.out.mono ?_; rintro e W2 ⟨rfl, rfl⟩)
      exact ⟨⟨k + 1, by omega, by go_num⟩, by simp [intOf]; omega⟩
    · have hk' : k = ls.length := by omega
      subst hk'
      clear hcont'
      go_wp2_with fail
      go_ret
      exact ⟨rfl, hB1⟩
set_option maxHeartbeats 1000000 in
theorem signs_49 (s : ByteArray) (A : Option Addr) (c : Nat) (w : World) (hx : SlA strK w A [s]) (hs : s.size ≤ 40) (hg : ∀ b ∈ s.data.toList, b = 46 ∨ b = 45 ∨ b = 32) :
    Calls Try.prog 49 #[.slice A 1 c] w fun e w' => e = .returned (.int .i64 0) ∧ Ext w w' := by
  have h1 := fun (W : World) (e : Ext w W) => Lib.hid (all_str [s] (fun s => decide (s.size ≤ 40)) A c 71 #[] #[] W enters_71 (hx.ext e) (by simp)
    (fun x hm V hV => short_71 x V (by have : x = s := by simpa using hm
                                       subst this; omega)))
  have hv1 : ([s].all fun s => decide (s.size ≤ 40)) = true := by simpa using hs
  rw [hv1] at h1
  have h2 := fun (W V0 : World) (e : Ext w W) (he : Ext V0 W) (g : Nat) (hc : ∀ V, Ext V0 V → V.cell? ⟨g, 0, none⟩ = some (.func (.func 72) #[.agg #[.string ⟨#[46, 45, 32]⟩, .int .i64 0]] #[])) => Lib.hid (all_str [s] (fun s => s.data.toList.all fun b => [46, 45, 32].contains b) A c 73 #[] #[.pointer (some ⟨g, 0, none⟩)] W enters_73 (hx.ext e) (by simp)
    (fun x hm V hV => signs_73 x ⟨#[46, 45, 32]⟩ 0 g V (by have : x = s := by simpa using hm
                                                           subst this; omega) (fun W' hW' => hc W' ((he.trans hV).trans hW'))))
  have hv2 : ([s].all fun s => s.data.toList.all fun b => [46, 45, 32].contains b) = true := by
    rw [List.all_cons, List.all_nil, Bool.and_true, List.all_eq_true]
    intro b hb
    rcases hg b hb with rfl | rfl | rfl <;> decide
  rw [hv2] at h2
  simp only [List.length_cons, List.length_nil, Nat.zero_add] at h1 h2
  clear hv1 hv2 hg
  go_enter Try.func49, Try.ntmps49
  go_wp2_with (first
    | (go_at_call 69; refine (h1 _ (Ext.refl _)).out.mono ?_; rintro e W1 ⟨rfl, hE1⟩))
  have hE2 : Ext w (W1.alloc (.cells #[.func (.func 72) #[.agg #[.string ⟨#[46, 45, 32]⟩, .int .i64 0]] #[]] 116)) := hE1.al _
  have h3 := h2 _ _ hE2 (Ext.refl _) W1.heap.size (fun V hV => by rw [hV.cell (by simp)]; simp [go_sem])
  clear h1 h2
  refine h3.out.mono ?_
  rintro e W3 ⟨rfl, hE3⟩
  have hB3 := hE2.trans hE3
  clear h3
  go_wp2_with fail
  go_ret
  exact ⟨rfl, hB3⟩
theorem min_97 (a b : Int) (g c : Nat) (w : World) (h0 : w.cell? ⟨g, 0, none⟩ = some (.int .i64 a)) (h1 : w.cell? ⟨g, 1, none⟩ = some (.int .i64 b)) :
    Calls Try.prog 97 #[.slice (some ⟨g, 0, none⟩) 2 c] w fun e w' => e = .returned (.int .i64 (min a b)) ∧ w = w' := by
  go_enter Try.func97, Try.ntmps97
  go_wp2
  go_loop [3, 4] (fun m i => (i = .int .i64 1 ∧ m = .int .i64 a) ∨ (i = .int .i64 2 ∧ m = .int .i64 (min a b))) (fun _ i => (2 - intOf i).toNat)
  case atStart => exact .inl ⟨rfl, rfl⟩
  case round =>
    rcases hrel with ⟨rfl, rfl⟩ | ⟨rfl, rfl⟩
    · go_wp2
      exact ⟨.inr ⟨rfl, rfl⟩, by simp [intOf]⟩
    · go_wp2
      go_ret
      exact ⟨rfl, rfl⟩
theorem min_91 (a b : Int) (g c : Nat) (w : World) (h0 : w.cell? ⟨g, 0, none⟩ = some (.int .i64 a)) (h1 : w.cell? ⟨g, 1, none⟩ = some (.int .i64 b)) :
    Calls Try.prog 91 #[.slice (some ⟨g, 0, none⟩) 2 c] w fun e w' => e = .returned (.int .i64 (min a b)) ∧ w = w' := by
  have hm := Lib.hid (min_97 a b g c w h0 h1)
  go_enter Try.func91, Try.ntmps91
  go_wp2_with fail
  refine hm.out.mono ?_
  rintro e W' ⟨rfl, rfl⟩
  go_wp2_with fail
  go_ret
  exact ⟨rfl, rfl⟩
end Go.Proofs.Tp
