import Derived.Test.YtnlknpcbdciljaaFam
import Derived.Lib.Strings
import Derived.Lib.Slices
import Derived.Lib.Walk
import Derived.Lib.Bytealg
import Derived.Lib.ConvBytes
/- Package flash: its small tests, what a code is refused for, what signs are refused for. -/
namespace Go.Proofs.Tp
open Go.RowKit
set_option linter.unusedVariables false
set_option linter.unusedSimpArgs false
set_option maxRecDepth 100000
attribute [local go_sem] below_alloc' below_drewN' below_drew' below_set' Below.refl
theorem within_50 (n lo hi : Int) (w : World) : Calls Try.prog 50 #[.int .i64 n, .int .i64 lo, .int .i64 hi] w fun e w' => e = .returned (.bool (inR n lo hi)) ∧ w = w' := by
  by_cases h : lo ≤ n
  · have hv := Lib.hid (show decide (n ≤ hi) = inR n lo hi by simp [inR, h])
    go_enter Try.func50, Try.ntmps50
    go_wp2
    go_ret
    exact ⟨ret_bool hv.out, rfl⟩
  · have hv := Lib.hid (show false = inR n lo hi by simp [inR, h])
    go_enter Try.func50, Try.ntmps50
    go_wp2
    go_ret
    exact ⟨ret_bool hv.out, rfl⟩
theorem islite_95 (s : ByteArray) (c : Int) (w : World) :
    Calls Try.prog 95 #[.string s, .int .u8 c] w fun e w' => e = .returned (.int .i64 (Lib.indexByte s.data.toList c.toNat.toUInt8)) ∧ w' = w := by
  go_enter Try.func95, Try.ntmps95
  go_wp2
  rw [run_callFunc_extern Try.func98 (by kernel_rfl) (by kernel_rfl) (by kernel_rfl) (e := Extern.BytealgIndexByte.indexByte) (by kernel_rfl), Lib.run_indexByteString]
  simp only [Result.andThen]
  rw [Oper.upon_value]
  go_wp2
  go_ret
  exact ⟨rfl, rfl⟩
theorem index_86 (s : ByteArray) (c : Int) (w : World) :
    Calls Try.prog 86 #[.string s, .int .u8 c] w fun e w' => e = .returned (.int .i64 (Lib.indexByte s.data.toList c.toNat.toUInt8)) ∧ w' = w := by
  go_enter Try.func86, Try.ntmps86
  go_wp2_with (go_at_call 95; refine (islite_95 _ _ _).mono ?_; rintro e w' ⟨rfl, rfl⟩)
  go_ret
  exact ⟨rfl, rfl⟩
theorem indexByte_cons (b : UInt8) (l : List UInt8) (c : UInt8) : Lib.indexByte (b :: l) c = if b == c then 0 else if Lib.indexByte l c == -1 then -1 else Lib.indexByte l c + 1 := rfl
theorem indexByte_has (l : List UInt8) (c : UInt8) : decide (0 ≤ Lib.indexByte l c) = l.contains c := by
  induction l with
  | nil => rfl
  | cons b l ih =>
    have hge := Lib.indexByte_ge l c
    rw [List.contains_cons, ← ih, indexByte_cons]
    generalize Lib.indexByte l c = n at hge
    by_cases h : b = c
    · subst h
      rw [if_pos (beq_self_eq_true b), beq_self_eq_true b]
      rfl
    · have h1 : ¬ (b == c) = true := by simpa using h
      have h2 : (c == b) = false := by
        rw [beq_eq_false_iff_ne]
        exact fun e => h e.symm
      rw [if_neg h1, h2, Bool.false_or]
      by_cases h3 : n = -1
      · subst h3
        rfl
      · rw [if_neg (by simpa using h3), decide_eq_decide]
        omega
theorem has_72 (f : ByteArray) (m : Int) (b : UInt8) (w : World) :
    Calls Try.prog 72 #[.agg #[.string f, .int .i64 m], .int .u8 b.toNat] w fun e w' => e = .returned (.bool (f.data.toList.contains b)) ∧ Ext w w' := by
  have hv := Lib.hid (show decide (0 ≤ Lib.indexByte f.data.toList b) = f.data.toList.contains b from indexByte_has _ _)
  go_enter Try.func72, Try.ntmps72
  go_wp2_with (go_at_call 86; refine (index_86 _ _ _).mono ?_; rintro e w' ⟨rfl, rfl⟩)
  go_ret
  exact ⟨ret_bool hv.out, by simp [go_sem]⟩
theorem bytesWorld_ext (w : World) (e : TypeId) (s : ByteArray) : Ext w (Lib.bytesWorld w e s) :=
  ⟨rfl, rfl, rfl, by rw [Lib.bytesWorld_size]; omega, fun k hk => Lib.bytesWorld_at_old w e s k hk⟩
theorem bytesWorld_sl (w : World) (e : TypeId) (s : ByteArray) : SlA byteK (Lib.bytesWorld w e s) (some ⟨w.heap.size, 0, none⟩) s.data.toList := by
  refine .inr ⟨w.heap.size, 0, rfl, fun i hi => ⟨[.int .u8 s.data.toList[i].toNat], rfl, At.mk fun j hj => ?_⟩⟩
  obtain rfl : j = 0 := by simpa using hj
  have hi' : i < s.size := by simpa using hi
  have := Lib.bytesWorld_cell w e s i hi'
  simpa [byteK, scalar, hi'] using this
theorem toList_len (s : ByteArray) : s.data.toList.length = s.size := by simp
def letterF (s : ByteArray) : Bool := inR s.size 1 4 && s.data.toList.all fun b => [46, 45].contains b
theorem letter_68 (s : ByteArray) (w : World) (hs : s.size ≤ 1048576) :
    Calls Try.prog 68 #[.agg #[.string ⟨#[46, 45]⟩, .int .i64 4], .string s] w fun e w' => e = .returned (.bool (letterF s)) ∧ Ext w w' := by
  have hcv := fun (w : World) => Lib.run_convert_string_bytes (P := Try.prog) w 9 118 5 s Try.underlying9 Try.underlying118 Try.underlying5
  have hE0 := e1 w (.cells #[.string ⟨#[46, 45]⟩, .int .i64 4] 113)
  have hall := fun (c : Nat) => Lib.hid (all_byte s.data.toList (fun b => [46, 45].contains b) (some ⟨(w.alloc (.cells #[.string ⟨#[46, 45]⟩, .int .i64 4] 113)).heap.size, 0, none⟩) c 72 #[.agg #[.string ⟨#[46, 45]⟩, .int .i64 4]] #[] (Lib.bytesWorld (w.alloc (.cells #[.string ⟨#[46, 45]⟩, .int .i64 4] 113)) 5 s) enters_72
    (bytesWorld_sl _ 5 s) (by simpa using hs) (fun x hx V hV => has_72 _ 4 x V))
  rw [toList_len] at hall
  obtain ⟨r, hr⟩ : ∃ r, r = s.data.toList.all fun b => [46, 45].contains b := ⟨_, rfl⟩
  rw [← hr] at hall
  simp only [World.size_alloc] at hall
  have hB := hE0.trans (bytesWorld_ext (w.alloc (.cells #[.string ⟨#[46, 45]⟩, .int .i64 4] 113)) 5 s)
  have hold := fun (a : Addr) (ha : a.block < (w.alloc (.cells #[.string ⟨#[46, 45]⟩, .int .i64 4] 113)).heap.size) => Lib.bytesWorld_old (w.alloc (.cells #[.string ⟨#[46, 45]⟩, .int .i64 4] 113)) 5 s a ha
  cases h : inR s.size 1 4
  · clear hr
    have hv := Lib.hid (show false = letterF s by simp [letterF, h])
    go_enter Try.func68, Try.ntmps68
    go_wp2_with (go_at_call 50; refine (within_50 _ _ _ _).mono ?_; rintro e w' ⟨rfl, rfl⟩)
    go_ret
    exact ⟨ret_bool hv.out, by simp [go_sem]⟩
  · have hv := Lib.hid (show r = letterF s by rw [hr]; simp [letterF, h])
    clear hr
    go_enter Try.func68, Try.ntmps68
    go_wp2_with (go_at_call 50; refine (within_50 _ _ _ _).mono ?_; rintro e w' ⟨rfl, rfl⟩)
    refine (hall _).out.mono ?_
    rintro e W1 ⟨rfl, hE1⟩
    have hB1 := hB.trans hE1
    clear hall hcv hold
    go_wp2_with fail
    go_ret
    exact ⟨ret_bool hv.out, hB1⟩
theorem short_71 (s : ByteArray) (w : World) (hs : s.size ≤ 1048576) :
    Calls Try.prog 71 #[.string s] w fun e w' => e = .returned (.bool (decide (s.size ≤ 40))) ∧ Ext w w' := by
  have hv := Lib.hid (show decide ((s.size : Int) ≤ 40) = decide (s.size ≤ 40) by rw [decide_eq_decide]; omega)
  go_enter Try.func71, Try.ntmps71
  go_wp2
  go_ret
  exact ⟨ret_bool hv.out, Ext.refl _⟩
/-- the signs, by the string of them in a box -/
theorem signs_73 (s f : ByteArray) (m : Int) (g : Nat) (w : World) (hs : s.size ≤ 1048576) (hc : ∀ W, Ext w W → W.cell? ⟨g, 0, none⟩ = some (.func (.func 72) #[.agg #[.string f, .int .i64 m]] #[])) :
    Calls Try.prog 73 #[.string s, .pointer (some ⟨g, 0, none⟩)] w fun e w' => e = .returned (.bool (s.data.toList.all fun b => f.data.toList.contains b)) ∧ Ext w w' := by
  have hcv := fun (w : World) => Lib.run_convert_string_bytes (P := Try.prog) w 9 118 5 s Try.underlying9 Try.underlying118 Try.underlying5
  have hB := bytesWorld_ext w 5 s
  have hall := fun (c : Nat) => Lib.hid (all_byte s.data.toList (fun b => f.data.toList.contains b) (some ⟨w.heap.size, 0, none⟩) c 72 #[.agg #[.string f, .int .i64 m]] #[] (Lib.bytesWorld w 5 s) enters_72
    (bytesWorld_sl _ 5 s) (by simpa using hs) (fun x hx V hV => has_72 _ m x V))
  rw [toList_len] at hall
  obtain ⟨r, hr⟩ : ∃ r, r = s.data.toList.all fun b => f.data.toList.contains b := ⟨_, rfl⟩
  rw [← hr] at hall ⊢
  clear hr
  have hc0 := hc _ hB
  clear hc
  go_enter Try.func73, Try.ntmps73
  go_wp2_with fail
  refine (hall _).out.mono ?_
  rintro e W1 ⟨rfl, hE1⟩
  have hB1 := hB.trans hE1
  clear hall hcv
  go_wp2_with fail
  go_ret
  exact ⟨rfl, hB1⟩
theorem idxS_85 (xs : List ByteArray) (v : ByteArray) (A : Option Addr) (c : Nat) (w : World) (hx : SlA strK w A xs) (hl : xs.length ≤ 1048576) :
    Calls Try.prog 85 #[.slice A xs.length c, .string v] w fun e w' => e = .returned (.int .i64 (idxF (fun x => v.toList == x.toList) xs)) ∧ w = w' := by
  go_enter Try.func85, Try.ntmps85
  go_wp2
  go_loop [4, 5, 8] (fun r i j => ∃ k : Nat, k ≤ xs.length ∧ j = .int .i64 k ∧ r = .int .i64 0 ∧ (xs.take k).findIdx? (fun x => v.toList == x.toList) = none) (fun _ _ j => xs.length - (intOf j).toNat)
  case atStart => exact ⟨0, Nat.zero_le _, rfl, rfl, rfl⟩
  case round =>
    obtain ⟨k, hk, rfl, rfl, hno⟩ := hrel
    by_cases hlt : k < xs.length
    · obtain ⟨b, off, cs, rfl, hcs, hat⟩ := Sl.at_ hx k hlt
      have hcs' : cs = [.string xs[k]] := by simpa [strK, scalar] using hcs
      subst hcs'
      simp only [show strK.sz = 1 from rfl, Nat.mul_one] at hat
      have hc := at1 hat (Ext.refl w)
      clear hat hcs
      cases hp : v.toList == xs[k].toList
      · have h1 := Lib.hid (idx_next (p := fun x => v.toList == x.toList) hlt hno hp)
        clear hno
        go_wp2_with fail
        exact ⟨⟨k + 1, by omega, by go_num, rfl, h1.out⟩, by simp [intOf]; omega⟩
      · go_wp2_with fail
        go_ret
        exact ⟨ret_int (idx_hit (p := fun x => v.toList == x.toList) hlt hno hp).symm, rfl⟩
    · have hk' : k = xs.length := by omega
      subst hk'
      go_wp2_with fail
      go_ret
      exact ⟨ret_int (idx_end hno).symm, rfl⟩
end Go.Proofs.Tp
