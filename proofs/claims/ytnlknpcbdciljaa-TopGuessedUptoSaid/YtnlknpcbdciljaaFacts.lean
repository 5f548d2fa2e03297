import Derived.Test.YtnlknpcbdciljaaBase
import Derived.Test.YtnlknpcbdciljaaProg
/- Small facts on the program's tables, and small plain lemmas that many walks end with. -/
namespace Go.Proofs.Tp
open Go.RowKit
def Enters (g : Nat) : Prop := ∀ (args : Array Value) (W : World), (callFunc g args).run Try.prog W = .ok (.enter g args) W
theorem enters_84 : Enters 84 := fun _ _ => by simp [go_sem]
theorem enters_66 : Enters 66 := fun _ _ => by simp [go_sem]
theorem enters_82 : Enters 82 := fun _ _ => by simp [go_sem]
theorem enters_80 : Enters 80 := fun _ _ => by simp [go_sem]
theorem enters_88 : Enters 88 := fun _ _ => by simp [go_sem]
theorem enters_61 : Enters 61 := fun _ _ => by simp [go_sem]
theorem enters_62 : Enters 62 := fun _ _ => by simp [go_sem]
theorem enters_40 : Enters 40 := fun _ _ => by simp [go_sem]
theorem enters_68 : Enters 68 := fun _ _ => by simp [go_sem]
theorem enters_72 : Enters 72 := fun _ _ => by simp [go_sem]
theorem enters_71 : Enters 71 := fun _ _ => by simp [go_sem]
theorem enters_73 : Enters 73 := fun _ _ => by simp [go_sem]
theorem enters_55 : Enters 55 := fun _ _ => by simp [go_sem]
theorem enters_59 : Enters 59 := fun _ _ => by simp [go_sem]
theorem enters_89 : Enters 89 := fun _ _ => by simp [go_sem]
theorem enters_43 : Enters 43 := fun _ _ => by simp [go_sem]
theorem enters_33 : Enters 33 := fun _ _ => by simp [go_sem]
theorem enters_47 : Enters 47 := fun _ _ => by simp [go_sem]
/-- the number of the first element that passes, or -1 -/
def idxF {α : Type} (p : α → Bool) (xs : List α) : Int := match xs.findIdx? p with | some i => (i : Int) | none => -1
theorem idx_hit {α : Type} {p : α → Bool} {xs : List α} {k : Nat} (hk : k < xs.length) (hno : (xs.take k).findIdx? p = none) (h : p xs[k] = true) : idxF p xs = (k : Int) := by
  have : xs.findIdx? p = some k := by
    rw [List.findIdx?_eq_some_iff_getElem]
    refine ⟨hk, h, fun j hj => ?_⟩
    rw [List.findIdx?_eq_none_iff] at hno
    have := hno xs[j] (by rw [List.mem_iff_getElem]; exact ⟨j, by simp; omega, by simp⟩)
    simpa using this
  simp [idxF, this]
theorem idx_next {α : Type} {p : α → Bool} {xs : List α} {k : Nat} (hk : k < xs.length) (hno : (xs.take k).findIdx? p = none) (h : p xs[k] = false) : (xs.take (k + 1)).findIdx? p = none := by
  rw [List.findIdx?_eq_none_iff] at *
  rw [List.take_succ_eq_append_getElem hk]
  intro x hx
  rcases List.mem_append.1 hx with hx | hx
  · exact hno x hx
  · rw [List.mem_singleton.1 hx]; simp [h]
theorem idx_end {α : Type} {p : α → Bool} {xs : List α} (hno : (xs.take xs.length).findIdx? p = none) : idxF p xs = -1 := by
  rw [List.take_length] at hno
  simp [idxF, hno]
theorem idxF_any {α : Type} (p : α → Bool) (xs : List α) : decide (0 ≤ idxF p xs) = xs.any p := by
  unfold idxF
  rw [Bool.eq_iff_iff, decide_eq_true_eq]
  cases h : xs.findIdx? p with
  | none =>
    rw [List.findIdx?_eq_none_iff] at h
    constructor
    · intro h0; simp at h0
    · intro h0
      obtain ⟨x, hx, hp⟩ := List.any_eq_true.1 h0
      have h1 := h x hx
      rw [hp] at h1
      cases h1
  | some i =>
    obtain ⟨hi, hp, _⟩ := List.findIdx?_eq_some_iff_getElem.1 h
    exact ⟨fun _ => List.any_eq_true.2 ⟨_, List.getElem_mem hi, hp⟩, fun _ => by simp⟩
theorem any_not_all {α : Type} (p : α → Bool) (xs : List α) : (!xs.any fun x => !p x) = xs.all p := by
  induction xs with
  | nil => rfl
  | cons x xs ih => simp only [List.any_cons, List.all_cons, ← ih]; cases p x <;> simp
theorem ret_int {k : IntKind} {a b : Int} (h : a = b) : Ending.returned (.int k a) = .returned (.int k b) := by rw [h]
theorem ret_bool {a b : Bool} (h : a = b) : Ending.returned (.bool a) = .returned (.bool b) := by rw [h]
end Go.Proofs.Tp
