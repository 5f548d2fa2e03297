import Derived.Test.YtnlknpcbdciljaaLa8
/- Signs of a text. -/
namespace Go.Proofs.Tp
open Go.RowKit Go.Proofs.Gr
set_option linter.unusedVariables false
set_option linter.unusedSimpArgs false
set_option maxRecDepth 100000
attribute [local go_sem] below_alloc' below_drewN' below_drew' below_set' Below.refl
/-- the signs of a text, behind some -/
def signsF (ls : List ByteArray) (pre : Bool) : List Nat → ByteArray
  | [] => ⟨#[]⟩
  | t :: ts => (if pre then ⟨#[32]⟩ else ⟨#[]⟩) ++ ls.getD t ⟨#[]⟩ ++ signsF ls true ts
theorem signsF_snoc (ls : List ByteArray) (t : Nat) : ∀ (pre : Bool) (ts : List Nat), signsF ls pre (ts ++ [t]) = signsF ls pre ts ++ ((if pre || !ts.isEmpty then ⟨#[32]⟩ else ⟨#[]⟩) ++ ls.getD t ⟨#[]⟩)
  | pre, [] => by
    apply ByteArray.ext
    simp [signsF]
  | pre, u :: ts => by
    rw [List.cons_append, signsF, signsF_snoc ls t true ts, signsF]
    apply ByteArray.ext
    simp
theorem signsF_size (ls : List ByteArray) (hz : ∀ s ∈ ls, s.size ≤ 4) : ∀ (pre : Bool) (ts : List Nat), (signsF ls pre ts).size ≤ 5 * ts.length
  | pre, [] => Nat.le_refl _
  | pre, t :: ts => by
    have ih := signsF_size ls hz true ts
    have h1 : (ls.getD t ⟨#[]⟩).size ≤ 4 := by
      rw [List.getD_eq_getElem?_getD]
      rcases Nat.lt_or_ge t ls.length with h | h
      · rw [List.getElem?_eq_getElem h]; exact hz _ (List.getElem_mem h)
      · rw [List.getElem?_eq_none h]; exact Nat.zero_le _
    rw [signsF, List.length_cons, ByteArray.size_append, ByteArray.size_append]
    cases pre
    · have : (if false = true then (⟨#[32]⟩ : ByteArray) else ⟨#[]⟩).size = 0 := rfl
      omega
    · have : (if true = true then (⟨#[32]⟩ : ByteArray) else ⟨#[]⟩).size = 1 := rfl
      omega
theorem signs_26 (ls : List ByteArray) (ts : List Nat) (A B : Option Addr) (c d : Nat) (w : World) (hA : SlA strK w A ls) (hB : SlA intK w B (ts.map fun t : Nat => (t : Int))) (hz : ∀ s ∈ ls, s.size ≤ 4) (hll : ls.length ≤ 1000) (htl : ts.length ≤ 1000) (ht : ∀ t ∈ ts, t < ls.length) :
    Calls Try.prog 26 #[.agg #[.slice A ls.length c], .slice B ts.length d] w fun e w' => e = .returned (.string (signsF ls false ts)) ∧ Ext w w' := by
  obtain ⟨w0, hw0⟩ : ∃ w0, w0 = w.alloc (.cells #[.slice A ls.length c] 24) := ⟨_, rfl⟩
  have hE0 : Ext w w0 := by rw [hw0]; exact e1 w _
  have hsz : w0.heap.size = w.heap.size + 1 := by rw [hw0]; simp
  have hb0 : ∀ W, Below w0.heap.size w0 W → W.cell? ⟨w.heap.size, 0, none⟩ = some (.slice A ls.length c) := fun W hW => by
    rw [hW.cell (by rw [hsz]; simp only []; omega), hw0]; simp [go_sem]
  go_enter Try.func26, Try.ntmps26
  go_wp2
  rw [← hw0]
  clear hw0 hsz
  go_loopw [5, 6] (fun o i wr => ∃ (k : Nat) (out : ByteArray), k ≤ ts.length ∧ i = .int .i64 k ∧ o = .string out ∧ out = signsF ls false (ts.take k) ∧ Below w0.heap.size w0 wr) (fun _ i _ => ts.length - (intOf i).toNat)
  case atStart => exact ⟨0, ⟨#[]⟩, Nat.zero_le _, rfl, rfl, rfl, Below.refl _ _⟩
  case round =>
    obtain ⟨k, out, hk, rfl, rfl, hout, hBl⟩ := hrel
    have hos : out.size ≤ 5 * k := by
      have := signsF_size ls hz false (ts.take k)
      rw [← hout, List.length_take] at this
      omega
    have hos' : out.size ≤ 5000 := by omega
    have HO := Lib.hid hout
    have HBl := Lib.hid hBl
    clear hout
    by_cases hlt : k < ts.length
    · have hlt' : (k : Int) < (ts.length : Int) := by omega
      obtain ⟨b, off, cs, rfl, hcs, hat⟩ := Sl.at_ hB k (by simpa using hlt)
      have hcs' : cs = [.int .i64 (ts[k] : Int)] := by simpa [intK, scalar] using hcs
      subst hcs'
      simp only [show intK.sz = 1 from rfl, Nat.mul_one] at hat
      have htk := ht ts[k] (List.getElem_mem hlt)
      obtain ⟨t, hte⟩ : ∃ t, t = ts[k] := ⟨_, rfl⟩
      rw [← hte] at hat htk
      obtain ⟨b2, off2, cs2, rfl, hcs2, hat2⟩ := Sl.at_ hA t htk
      have hcs2' : cs2 = [.string ls[t]] := by simpa [strK, scalar] using hcs2
      subst hcs2'
      simp only [show strK.sz = 1 from rfl, Nat.mul_one] at hat2
      have hc := fun (W : World) (h : Below wr.heap.size wr W) => at1 hat (hE0.trans (hBl.trans (h.mono hBl.size)))
      have hc2 := fun (W : World) (h : Below wr.heap.size wr W) => at1 hat2 (hE0.trans (hBl.trans (h.mono hBl.size)))
      have hb' := fun (W : World) (h : Below wr.heap.size wr W) => hb0 W (hBl.trans (h.mono hBl.size))
      have hlz := hz ls[t] (List.getElem_mem htk)
      obtain ⟨s, hse⟩ : ∃ s, s = ls[t] := ⟨_, rfl⟩
      rw [← hse] at hc2 hlz
      have HS := Lib.hid (show signsF ls false (ts.take (k + 1)) = out ++ ((if 0 < k then ⟨#[32]⟩ else ⟨#[]⟩) ++ s) by
        rw [List.take_succ_eq_append_getElem hlt, signsF_snoc, ← HO.out, ← hte, List.getD_eq_getElem?_getD, List.getElem?_eq_getElem htk, hse]
        have : (false || !(ts.take k).isEmpty) = decide (0 < k) := by
          cases k with
          | zero => rfl
          | succ k => cases ts with
            | nil => simp at hlt
            | cons u us => simp
        rw [this]
        simp)
      have htk' : (t : Int) < (ls.length : Int) := by omega
      clear hat hat2 hcs hcs2 hA hB hb0 hBl hte hse ht hz
      by_cases hk0 : 0 < k
      · have hk0' : decide ((0 : Int) < (k : Int)) = true := by simpa using hk0
        go_wp2
        go_quiet (fail)
        go_wp2
        refine ⟨⟨k + 1, out ++ ⟨#[32]⟩ ++ s, by omega, by go_num, rfl, ?_, Ext.dr HBl.out _⟩, by simp [intOf]; omega⟩
        rw [HS.out, if_pos hk0]
        apply ByteArray.ext
        simp
      · have hk0' : decide ((0 : Int) < (k : Int)) = false := by simpa using hk0
        go_wp2
        go_quiet (fail)
        go_wp2
        refine ⟨⟨k + 1, out ++ s, by omega, by go_num, rfl, ?_, Ext.dr HBl.out _⟩, by simp [intOf]; omega⟩
        rw [HS.out, if_neg hk0]
        apply ByteArray.ext
        simp
    · have hlt' : ¬ (k : Int) < (ts.length : Int) := by omega
      obtain rfl : k = ts.length := by omega
      have hv := Lib.hid (show out = signsF ls false ts by have := HO.out; rwa [List.take_length] at this)
      clear HO
      go_wp2
      go_ret
      exact ⟨congrArg (fun x => Ending.returned (.string x)) hv.out, hE0.trans HBl.out⟩
end Go.Proofs.Tp
