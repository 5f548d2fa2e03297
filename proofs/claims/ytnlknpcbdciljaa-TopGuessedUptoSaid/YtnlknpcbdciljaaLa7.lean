import Derived.Test.YtnlknpcbdciljaaLa6
import Derived.Test.YtnlknpcbdciljaaLaw
import Derived.Lib.SlicesS
/- The reader's steps. -/
namespace Go.Proofs.Tp
open Go.RowKit Go.Proofs.Gr
set_option linter.unusedVariables false
set_option linter.unusedSimpArgs false
set_option maxRecDepth 100000
attribute [local go_sem] below_alloc' below_drewN' below_drew' below_set' Below.refl
def costN (k : Nat) : Nat := if k = 0 then 0 else 1
/-- what a step of some kind makes of signs that are sent, if it can be -/
def SP (k : Nat) (s W : ByteArray) (e : Ending) : Prop := ∃ (left rest : ByteArray) (is : Bool), e = .returned (.tuple #[.string left, .string rest, .bool is]) ∧
  (is = true → (∀ r n, Ex left.data.toList r n → Ex s.data.toList (W.data.toList ++ r) (n + costN k)) ∧ left.size ≤ s.size ∧ (k = 0 → left.size < s.size))
theorem drop1 (s : ByteArray) (h : 1 ≤ s.size) : s.data.toList = s[0] :: (s.extract 1 s.size).data.toList := by
  have h1 := byte_get s 0 (by omega)
  have h2 : s.data.toList.length = s.size := by simp
  have h3 := List.drop_eq_getElem_cons (l := s.data.toList) (i := 0) (by omega)
  rw [List.getElem?_eq_getElem (by omega)] at h1
  rw [List.drop_zero, Option.some.inj h1] at h3
  rw [h3]
  congr 1
  simp [ByteArray.data_extract]
  rw [List.take_of_length_le (by simp)]
theorem nonempty_of (s : ByteArray) (h : 1 ≤ s.size) : s.toList.isEmpty = false := by
  rw [ByteArray.toList_eq]
  have h2 : s.data.toList.length = s.size := by simp
  cases h3 : s.data.toList with
  | nil => rw [h3] at h2; simp at h2; omega
  | cons a l => rfl
theorem first1 (s : ByteArray) (h : 1 ≤ s.size) : (s.extract 0 1).data.toList = [s[0]] := by
  have h1 := drop1 s h
  have : (s.extract 0 1).data.toList = s.data.toList.take 1 := by simp [ByteArray.data_extract]
  rw [this, h1]
  rfl
theorem byteOf (s : ByteArray) (h : 1 ≤ s.size) (d : UInt8) (e : Int) (he : e = (d.toNat : Int)) (hb : ((s[0].toNat : Int) == e) = true) : s[0] = d := by
  rw [beq_iff_eq, he] at hb
  exact UInt8.toNat_inj.1 (Int.ofNat.inj hb)
theorem step_53_0 (s : ByteArray) (w : World) (h : 1 ≤ s.size) (hs : s.size ≤ 1000) :
    Calls Try.prog 53 #[.int .i64 0, .string s, .string (s.extract 0 1)] w fun e w' => SP 0 s (s.extract 0 1) e ∧ Ext w w' := by
  have hz : (s.extract 0 1).size = 1 := by simp; omega
  have hne := nonempty_of s h
  have hx : (s.extract 0 1).extract 0 1 = s.extract 0 1 := by
    apply ByteArray.ext
    simp [ByteArray.data_extract]
  have hb : (!(((s.extract 0 1).extract 0 1).toList == (s.extract 0 1).toList)) = false := by rw [hx, beq_self_eq_true]; rfl
  have HP := Lib.hid (show (∀ r n, Ex (s.extract 1 s.size).data.toList r n → Ex s.data.toList ((s.extract 0 1).data.toList ++ r) (n + costN 0)) ∧ (s.extract 1 s.size).size ≤ s.size ∧ ((0 : Nat) = 0 → (s.extract 1 s.size).size < s.size) by
    refine ⟨fun r n hx => ?_, by simp, fun _ => by simp; omega⟩
    rw [first1 s h, drop1 s h]
    exact .copy _ hx)
  clear hx
  go_enter Try.func53, Try.ntmps53
  go_wp2
  go_quiet (fail)
  go_wp2
  go_ret3
  exact ⟨⟨_, _, true, rfl, fun _ => ⟨HP.out.1, HP.out.2.1, fun _ => HP.out.2.2 trivial⟩⟩, Ext.dr (Ext.refl _) _⟩
theorem step_53_1 (s : ByteArray) (w : World) (h : 1 ≤ s.size) (hs : s.size ≤ 1000) :
    Calls Try.prog 53 #[.int .i64 1, .string s, .string ⟨#[]⟩] w fun e w' => SP 1 s ⟨#[]⟩ e ∧ Ext w w' := by
  have hne := nonempty_of s h
  have HP := Lib.hid (show (∀ r n, Ex (s.extract 1 s.size).data.toList r n → Ex s.data.toList ((⟨#[]⟩ : ByteArray).data.toList ++ r) (n + costN 1)) ∧ (s.extract 1 s.size).size ≤ s.size ∧ ((1 : Nat) = 0 → (s.extract 1 s.size).size < s.size) by
    refine ⟨fun r n hx => ?_, by simp, fun h => by cases h⟩
    rw [drop1 s h]
    exact .miss _ hx)
  cases hq : ((s[0].toNat : Int) == 32)
  · go_enter Try.func53, Try.ntmps53
    go_wp2
    go_quiet (fail)
    go_wp2
    go_ret3
    exact ⟨⟨_, _, true, rfl, fun _ => HP.out⟩, Ext.dr (Ext.refl _) _⟩
  · go_enter Try.func53, Try.ntmps53
    go_wp2
    go_ret3
    exact ⟨⟨_, _, false, rfl, fun h => by cases h⟩, Ext.refl _⟩
theorem step_53_4 (s : ByteArray) (w : World) (h : 1 ≤ s.size) (hs : s.size ≤ 1000) :
    Calls Try.prog 53 #[.int .i64 4, .string s, .string ⟨#[]⟩] w fun e w' => SP 4 s ⟨#[]⟩ e ∧ Ext w w' := by
  have hne := nonempty_of s h
  have HP := Lib.hid (show (∀ r n, Ex (s.extract 1 s.size).data.toList r n → Ex s.data.toList ((⟨#[]⟩ : ByteArray).data.toList ++ r) (n + costN 4)) ∧ (s.extract 1 s.size).size ≤ s.size ∧ ((4 : Nat) = 0 → (s.extract 1 s.size).size < s.size) by
    refine ⟨fun r n hx => ?_, by simp, fun h => by cases h⟩
    rw [drop1 s h]
    exact .miss _ hx)
  cases hq : ((s[0].toNat : Int) == 32)
  · have hq' : ((s[0].toNat : Int) != 32) = true := by rw [bne, hq]; rfl
    go_enter Try.func53, Try.ntmps53
    go_wp2
    go_ret3
    exact ⟨⟨_, _, false, rfl, fun h => by cases h⟩, Ext.refl _⟩
  · have hq' : ((s[0].toNat : Int) != 32) = false := by rw [bne, hq]; rfl
    go_enter Try.func53, Try.ntmps53
    go_wp2
    go_quiet (fail)
    go_wp2
    go_ret3
    exact ⟨⟨_, _, true, rfl, fun _ => HP.out⟩, Ext.dr (Ext.refl _) _⟩
theorem step_53_2 (s : ByteArray) (w : World) (h : 1 ≤ s.size) (hs : s.size ≤ 1000) :
    Calls Try.prog 53 #[.int .i64 2, .string s, .string ⟨#[46, 46]⟩] w fun e w' => SP 2 s ⟨#[46, 46]⟩ e ∧ Ext w w' := by
  have hne := nonempty_of s h
  cases hq : ((s[0].toNat : Int) == 45)
  · have hq' : ((s[0].toNat : Int) != 45) = true := by rw [bne, hq]; rfl
    go_enter Try.func53, Try.ntmps53
    go_wp2
    go_ret3
    exact ⟨⟨_, _, false, rfl, fun h => by cases h⟩, Ext.refl _⟩
  · have hq' : ((s[0].toNat : Int) != 45) = false := by rw [bne, hq]; rfl
    have HP := Lib.hid (show (∀ r n, Ex (s.extract 1 s.size).data.toList r n → Ex s.data.toList ((⟨#[46, 46]⟩ : ByteArray).data.toList ++ r) (n + costN 2)) ∧ (s.extract 1 s.size).size ≤ s.size ∧ ((2 : Nat) = 0 → (s.extract 1 s.size).size < s.size) by
      refine ⟨fun r n hx => ?_, by simp, fun h => by cases h⟩
      rw [drop1 s h, byteOf s h 45 45 rfl hq]
      exact .split hx)
    go_enter Try.func53, Try.ntmps53
    go_wp2
    · go_ret3
      exact ⟨⟨_, _, false, rfl, fun h => by cases h⟩, Ext.refl _⟩
    go_quiet (fail)
    go_wp2
    go_ret3
    exact ⟨⟨_, _, true, rfl, fun _ => HP.out⟩, Ext.dr (Ext.refl _) _⟩
theorem step_53_5 (s : ByteArray) (w : World) (h : 1 ≤ s.size) (hs : s.size ≤ 1000) :
    Calls Try.prog 53 #[.int .i64 5, .string s, .string ⟨#[32]⟩] w fun e w' => SP 5 s ⟨#[32]⟩ e ∧ Ext w w' := by
  have hss : s.extract 0 s.size = s := by
    apply ByteArray.ext
    simp [ByteArray.data_extract]
  have HP := Lib.hid (show (∀ r n, Ex s.data.toList r n → Ex s.data.toList ((⟨#[32]⟩ : ByteArray).data.toList ++ r) (n + costN 5)) ∧ s.size ≤ s.size ∧ ((5 : Nat) = 0 → s.size < s.size) by
    refine ⟨fun r n hx => ?_, Nat.le_refl _, fun h => by cases h⟩
    exact .gap hx)
  go_enter Try.func53, Try.ntmps53
  go_wp2
  · go_ret3
    exact ⟨⟨_, _, false, rfl, fun h => by cases h⟩, Ext.refl _⟩
  go_quiet (fail)
  go_wp2
  go_ret3
  exact ⟨⟨_, _, true, rfl, fun _ => HP.out⟩, Ext.dr (Ext.refl _) _⟩
theorem dots_of (s : ByteArray) (h : 2 ≤ s.size) (hb : ((s.extract 0 2).toList == [46, 46]) = true) : s.data.toList = 46 :: 46 :: (s.extract 2 s.size).data.toList := by
  have h2 : (⟨#[46, 46]⟩ : ByteArray).toList = [46, 46] := by decide +kernel
  have h3 := Lib.bytes_beq_iff (s.extract 0 2) ⟨#[46, 46]⟩
  rw [h2] at h3
  have h4 := congrArg (fun x => x.data.toList) (h3.1 hb)
  have h5 : s.data.toList = s.data.toList.take 2 ++ s.data.toList.drop 2 := (List.take_append_drop 2 _).symm
  have h6 : (s.extract 0 2).data.toList = s.data.toList.take 2 := by simp [ByteArray.data_extract]
  have h7 : (s.extract 2 s.size).data.toList = s.data.toList.drop 2 := by
    simp [ByteArray.data_extract]
    rw [List.take_of_length_le (by simp)]
  simp only [h6] at h4
  rw [h7, h5, h4]
  rfl
theorem step_53_3 (s : ByteArray) (w : World) (h : 1 ≤ s.size) (hs : s.size ≤ 1000) :
    Calls Try.prog 53 #[.int .i64 3, .string s, .string ⟨#[45]⟩] w fun e w' => SP 3 s ⟨#[45]⟩ e ∧ Ext w w' := by
  by_cases h2 : s.size < 2
  · have h2' : decide ((s.size : Int) < 2) = true := by simp; omega
    go_enter Try.func53, Try.ntmps53
    go_wp2
    go_ret3
    exact ⟨⟨_, _, false, rfl, fun h => by cases h⟩, Ext.refl _⟩
  · have h2' : decide ((s.size : Int) < 2) = false := by simp; omega
    cases hq : ((s.extract 0 2).toList == [46, 46])
    · go_enter Try.func53, Try.ntmps53
      go_wp2
      go_ret3
      exact ⟨⟨_, _, false, rfl, fun h => by cases h⟩, Ext.refl _⟩
    · have HP := Lib.hid (show (∀ r n, Ex (s.extract 2 s.size).data.toList r n → Ex s.data.toList ((⟨#[45]⟩ : ByteArray).data.toList ++ r) (n + costN 3)) ∧ (s.extract 2 s.size).size ≤ s.size ∧ ((3 : Nat) = 0 → (s.extract 2 s.size).size < s.size) by
        refine ⟨fun r n hx => ?_, by simp, fun h => by cases h⟩
        rw [dots_of s (by omega) hq]
        exact .join hx)
      go_enter Try.func53, Try.ntmps53
      go_wp2
      · go_ret3
        exact ⟨⟨_, _, false, rfl, fun h => by cases h⟩, Ext.refl _⟩
      go_quiet (fail)
      go_wp2
      go_ret3
      exact ⟨⟨_, _, true, rfl, fun _ => HP.out⟩, Ext.dr (Ext.refl _) _⟩
end Go.Proofs.Tp
