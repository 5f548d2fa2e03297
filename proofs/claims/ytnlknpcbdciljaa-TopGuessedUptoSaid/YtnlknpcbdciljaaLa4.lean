import Derived.Test.YtnlknpcbdciljaaLa2
import Derived.Test.YtnlknpcbdciljaaFl3
/- The statement's own tests of codes. -/
namespace Go.Proofs.Tp
open Go.RowKit Go.Proofs.Gr
set_option linter.unusedVariables false
set_option linter.unusedSimpArgs false
set_option maxRecDepth 100000
attribute [local go_sem] below_alloc' below_drewN' below_drew' below_set' Below.refl
/-- some test's answer -/
def RB (e : Ending) : Prop := ∃ r : Bool, e = .returned (.bool r)
/-- an error's number; where it is 0, p -/
def RF (p : Prop) (e : Ending) : Prop := ∃ n : Int, e = .returned (.int .i64 n) ∧ (n = 0 → p)
theorem thin_4 (xs : List ByteArray) (A : Option Addr) (c : Nat) (t : ByteArray) (w : World) (hx : SlA strK w A xs) (hl : xs.length ≤ 1048576) (hz : ∀ s ∈ xs, s.size ≤ 1048576) (ht : t.size ≤ 1048576) :
    Calls Try.prog 4 #[.agg #[.slice A xs.length c], .string t] w fun e w' => RB e ∧ Ext w w' := by
  obtain ⟨w0, hw0⟩ : ∃ w0, w0 = w.alloc (.cells #[.slice A xs.length c] 24) := ⟨_, rfl⟩
  have hE0 : Ext w w0 := by rw [hw0]; exact e1 w _
  have hsz : w0.heap.size = w.heap.size + 1 := by rw [hw0]; simp
  have hb : w0.cell? ⟨w.heap.size, 0, none⟩ = some (.slice A xs.length c) := by
    rw [hw0]; simp [go_sem]
  go_enter Try.func4, Try.ntmps4
  go_wp2
  rw [← hw0]
  clear hw0
  go_loop [5] (fun i => ∃ k : Nat, k ≤ xs.length ∧ k ≤ 10 ∧ i = .int .i64 k) (fun i => 10 - (intOf i).toNat)
  case atStart => exact ⟨0, Nat.zero_le _, Nat.zero_le _, rfl⟩
  case round =>
    obtain ⟨k, hk, hk10, rfl⟩ := hrel
    by_cases hlt : k < xs.length
    · have hlt' : (k : Int) < (xs.length : Int) := by omega
      by_cases h10 : k < 10
      · have h10' : (k : Int) < 10 := by omega
        obtain ⟨b, off, cs, rfl, hcs, hat⟩ := Sl.at_ hx k hlt
        have hcs' : cs = [.string xs[k]] := by simpa [strK, scalar] using hcs
        subst hcs'
        simp only [show strK.sz = 1 from rfl, Nat.mul_one] at hat
        have hc := at1 hat hE0
        have hzk := hz xs[k] (List.getElem_mem hlt)
        clear hat hcs
        by_cases h9 : 9 < xs[k].size
        · have h9' : (9 : Int) < (xs[k].size : Int) := by omega
          go_wp2
          go_ret
          exact ⟨⟨_, rfl⟩, hE0⟩
        · have h9' : ¬ (9 : Int) < (xs[k].size : Int) := by omega
          go_wp2
          exact ⟨⟨k + 1, by omega, by omega, by go_num⟩, by simp [intOf]; omega⟩
      · have h10' : ¬ (k : Int) < 10 := by omega
        by_cases h9 : xs.length ≤ 9
        · omega
        · have h9' : ¬ (xs.length : Int) ≤ 9 := by omega
          go_wp2
          go_ret
          exact ⟨⟨_, rfl⟩, hE0⟩
    · have hlt' : ¬ (k : Int) < (xs.length : Int) := by omega
      by_cases h9 : xs.length ≤ 9
      · have h9' : (xs.length : Int) ≤ 9 := by omega
        go_wp2
        go_ret
        exact ⟨⟨_, rfl⟩, hE0⟩
      · have h9' : ¬ (xs.length : Int) ≤ 9 := by omega
        go_wp2
        go_ret
        exact ⟨⟨_, rfl⟩, hE0⟩
theorem byte_eq' (s : ByteArray) (k : Nat) (h : k < s.size) (c : UInt8) (d : Int) (hd : d = (c.toNat : Int)) : ((s[k].toNat : Int) == d) = (s[k] == c) := by
  rw [hd, Bool.eq_iff_iff, beq_iff_eq, beq_iff_eq]
  constructor
  · intro e; exact UInt8.toNat_inj.1 (Int.ofNat.inj e)
  · intro e; rw [e]
theorem letter_of {s : ByteArray} (h1 : inR s.size 1 4 = true) (h2 : ∀ j (h : j < s.size), (s[j] == 46 || s[j] == 45) = true) : letterF s = true := by
  rw [letterF, h1, Bool.true_and, List.all_eq_true]
  intro b hb
  obtain ⟨j, hj, rfl⟩ := List.mem_iff_getElem.1 hb
  have hj' : j < s.size := by simpa using hj
  have h3 := byte_get s j hj'
  rw [List.getElem?_eq_getElem hj] at h3
  rw [Option.some.inj h3]
  have := h2 j hj'
  simpa [Bool.or_comm] using this
theorem fault_5 (xs : List ByteArray) (A : Option Addr) (c : Nat) (w : World) (hx : SlA strK w A xs) (hl : xs.length ≤ 1048576) (hz : ∀ s ∈ xs, s.size ≤ 1048576) :
    Calls Try.prog 5 #[.agg #[.slice A xs.length c]] w fun e w' => RF (Fine xs) e ∧ Ext w w' := by
  obtain ⟨w0, hw0⟩ : ∃ w0, w0 = w.alloc (.cells #[.slice A xs.length c] 24) := ⟨_, rfl⟩
  have hE0 : Ext w w0 := by rw [hw0]; exact e1 w _
  have hsz : w0.heap.size = w.heap.size + 1 := by rw [hw0]; simp
  have hb : w0.cell? ⟨w.heap.size, 0, none⟩ = some (.slice A xs.length c) := by
    rw [hw0]; simp [go_sem]
  by_cases h6 : 6 < xs.length
  · have h6' : (6 : Int) < (xs.length : Int) := by omega
    go_enter Try.func5, Try.ntmps5
    go_wp2
    go_ret
    exact ⟨⟨3, rfl, fun h => absurd h (by decide)⟩, by rw [← hw0]; exact hE0⟩
  · have h6' : ¬ (6 : Int) < (xs.length : Int) := by omega
    go_enter Try.func5, Try.ntmps5
    go_wp2
    rw [← hw0]
    clear hw0
    go_loop [3] (fun i => ∃ k : Nat, k ≤ xs.length ∧ i = .int .i64 k ∧ (∀ j (h : j < xs.length), j < k → letterF xs[j] = true) ∧ (∀ i (h : i < xs.length), i < k → (xs.take i).any (fun x => xs[i].toList == x.toList) = false)) (fun i => xs.length - (intOf i).toNat)
    case atStart => exact ⟨0, Nat.zero_le _, rfl, fun j h hj => absurd hj (Nat.not_lt_zero _), fun j h hj => absurd hj (Nat.not_lt_zero _)⟩
    case round =>
      obtain ⟨k, hk, rfl, hle, hap⟩ := hrel
      have HLE := Lib.hid hle
      have HAP := Lib.hid hap
      clear hle hap
      by_cases hlt : k < xs.length
      · have hlt' : (k : Int) < (xs.length : Int) := by omega
        obtain ⟨b, off, cs, rfl, hcs, hat⟩ := Sl.at_ hx k hlt
        have hcs' : cs = [.string xs[k]] := by simpa [strK, scalar] using hcs
        subst hcs'
        simp only [show strK.sz = 1 from rfl, Nat.mul_one] at hat
        have hc := at1 hat hE0
        have hzk := hz xs[k] (List.getElem_mem hlt)
        obtain ⟨s, hs⟩ : ∃ s, s = xs[k] := ⟨_, rfl⟩
        rw [← hs] at hc hzk
        have HS := Lib.hid hs
        clear hat hcs hs
        cases hin : inR s.size 1 4
        · go_wp2_with (go_at_call 15; refine (in_15 _ _ _ _).mono ?_; rintro e w' ⟨rfl, rfl⟩)
          go_ret
          exact ⟨⟨1, rfl, fun h => absurd h (by decide)⟩, hE0⟩
        · go_wp2_with (go_at_call 15; refine (in_15 _ _ _ _).mono ?_; rintro e w' ⟨rfl, rfl⟩)
          go_loop [5] (fun i => ∃ m : Nat, m ≤ s.size ∧ i = .int .i64 m ∧ ∀ j (h : j < s.size), j < m → (s[j] == 46 || s[j] == 45) = true) (fun i => s.size - (intOf i).toNat)
          case atStart => exact ⟨0, Nat.zero_le _, rfl, fun j h hj => absurd hj (Nat.not_lt_zero _)⟩
          case round =>
            obtain ⟨m, hm, rfl, hno⟩ := hrel
            have HNO := Lib.hid hno
            clear hno
            by_cases hml : m < s.size
            · have hml' : (m : Int) < (s.size : Int) := by omega
              have hq46 : ((s[m].toNat : Int) != 46) = !(s[m] == 46) := by rw [bne, byte_eq' s m hml 46 46 rfl]
              have hq45 : ((s[m].toNat : Int) != 45) = !(s[m] == 45) := by rw [bne, byte_eq' s m hml 45 45 rfl]
              cases h46 : (s[m] == 46)
              · cases h45 : (s[m] == 45)
                · rw [h46] at hq46
                  rw [h45] at hq45
                  clear h46 h45
                  go_wp2
                  go_ret
                  exact ⟨⟨1, rfl, fun h => absurd h (by decide)⟩, hE0⟩
                · have hno' := Lib.hid (show ∀ j (h : j < s.size), j < m + 1 → (s[j] == 46 || s[j] == 45) = true from fun j h hj => by
                    by_cases e : j = m
                    · subst e; rw [h45, Bool.or_true]
                    · exact HNO.out j h (by omega))
                  rw [h46] at hq46
                  rw [h45] at hq45
                  clear h46 h45
                  go_wp2
                  exact ⟨⟨m + 1, by omega, by go_num, hno'.out⟩, by simp [intOf]; omega⟩
              · have hno' := Lib.hid (show ∀ j (h : j < s.size), j < m + 1 → (s[j] == 46 || s[j] == 45) = true from fun j h hj => by
                  by_cases e : j = m
                  · subst e; rw [h46, Bool.true_or]
                  · exact HNO.out j h (by omega))
                rw [h46] at hq46
                clear h46 hq45
                go_wp2
                exact ⟨⟨m + 1, by omega, by go_num, hno'.out⟩, by simp [intOf]; omega⟩
            · have hml' : ¬ (m : Int) < (s.size : Int) := by omega
              have hlet := Lib.hid (show letterF s = true from letter_of hin (fun j h => HNO.out j h (by omega)))
              clear HNO
              go_wp2
              go_loop [6] (fun i => ∃ j : Nat, j ≤ k ∧ i = .int .i64 j ∧ ∀ q (h : q < xs.length), q < j → (xs[q].toList == s.toList) = false) (fun i => k - (intOf i).toNat)
              case atStart => exact ⟨0, Nat.zero_le _, rfl, fun j h hj => absurd hj (Nat.not_lt_zero _)⟩
              case round =>
                obtain ⟨j, hj, rfl, hno⟩ := hrel
                have HNO := Lib.hid hno
                clear hno
                by_cases hjk : j < k
                · have hjk' : (j : Int) < (k : Int) := by omega
                  have hjl : j < xs.length := by omega
                  obtain ⟨b2, off2, cs2, hA2, hcs2, hat2⟩ := Sl.at_ hx j hjl
                  simp only [Option.some.injEq, Addr.mk.injEq, and_true] at hA2
                  obtain ⟨rfl, rfl⟩ := hA2
                  have hcs2' : cs2 = [.string xs[j]] := by simpa [strK, scalar] using hcs2
                  subst hcs2'
                  simp only [show strK.sz = 1 from rfl, Nat.mul_one] at hat2
                  have hc2 := at1 hat2 hE0
                  clear hat2 hcs2
                  cases hp : (xs[j].toList == s.toList)
                  · have hno' := Lib.hid (show ∀ q (h : q < xs.length), q < j + 1 → (xs[q].toList == s.toList) = false from fun q h hq => by
                      by_cases e : q = j
                      · subst e; exact hp
                      · exact HNO.out q h (by omega))
                    go_wp2
                    exact ⟨⟨j + 1, by omega, by go_num, hno'.out⟩, by simp [intOf]; omega⟩
                  · go_wp2
                    go_ret
                    exact ⟨⟨1, rfl, fun h => absurd h (by decide)⟩, hE0⟩
                · have hjk' : ¬ (j : Int) < (k : Int) := by omega
                  have hle' := Lib.hid (show ∀ j (h : j < xs.length), j < k + 1 → letterF xs[j] = true from fun q h hq => by
                    by_cases e : q = k
                    · subst e; rw [← HS.out]; exact hlet.out
                    · exact HLE.out q h (by omega))
                  have hap' := Lib.hid (show ∀ i (h : i < xs.length), i < k + 1 → (xs.take i).any (fun x => xs[i].toList == x.toList) = false from fun q h hq => by
                    by_cases e : q = k
                    · subst e
                      rw [List.any_eq_false]
                      intro x hx
                      obtain ⟨i, hi, rfl⟩ := List.mem_iff_getElem.1 hx
                      have hi' : i < xs.length := by simp at hi; omega
                      have h1 := HNO.out i hi' (by simp at hi; omega)
                      rw [List.getElem_take, ← HS.out]
                      intro h2
                      rw [beq_iff_eq] at h2
                      rw [h2, beq_self_eq_true] at h1
                      cases h1
                    · exact HAP.out q h (by omega))
                  clear HNO HLE HAP hlet
                  go_wp2
                  exact ⟨⟨k + 1, by omega, by go_num, hle'.out, hap'.out⟩, by simp [intOf]; omega⟩
      · have hlt' : ¬ (k : Int) < (xs.length : Int) := by omega
        have hk' : k = xs.length := by omega
        subst hk'
        by_cases h0 : xs.length = 0
        · have h0' : ((xs.length : Int) == 0) = true := by simpa using h0
          go_wp2
          go_ret
          exact ⟨⟨1, rfl, fun h => absurd h (by decide)⟩, hE0⟩
        · have h0' : ((xs.length : Int) == 0) = false := by rw [beq_eq_false_iff_ne]; omega
          go_wp2
          go_ret
          refine ⟨⟨0, rfl, fun _ => ⟨by omega, by omega, fun s hs => ?_, fun i hi => HAP.out i hi hi⟩⟩, hE0⟩
          obtain ⟨j, hj, rfl⟩ := List.mem_iff_getElem.1 hs
          exact HLE.out j hj hj
end Go.Proofs.Tp
