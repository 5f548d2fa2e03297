import Derived.Test.YtnlknpcbdciljaaLd5
import Derived.Test.YtnlknpcbdciljaaLb1
/- Plain laws: numbers and their texts; signs and what is left to send; what is read has signs alone. -/
namespace Go.Proofs.Tp
open Go.RowKit Go.Proofs.Gr
set_option linter.unusedVariables false
set_option linter.unusedSimpArgs false
theorem meant_spelt (L : Nat) (hL : 0 < L) : ∀ (k m : Nat), m < L ^ k → meantF L (speltF L m k) = m
  | 0, m, h => by
    obtain rfl : m = 0 := by simpa using h
    rfl
  | k + 1, m, h => by
    rw [speltF, meantF_snoc, meant_spelt L hL k (m / L) (by rw [Nat.div_lt_iff_lt_mul hL, ← Nat.pow_succ]; exact h)]
    exact Nat.div_add_mod' m L
theorem sign_rem (ls : List ByteArray) : ∀ (ts pre : List Nat), (signsF ls (!pre.isEmpty) ts).data.toList = remF (lsB ls) pre ts
  | [], pre => rfl
  | t :: ts, pre => by
    have ih := sign_rem ls ts (pre ++ [t])
    have hne : (!(pre ++ [t]).isEmpty) = true := by simp
    rw [hne] at ih
    rw [signsF, remF, ← ih]
    have hg : (ls.getD t ⟨#[]⟩).data.toList = (lsB ls).getD t [] := by
      simp only [lsB, List.getD_eq_getElem?_getD, List.getElem?_map]
      cases ls[t]? <;> rfl
    rw [← hg]
    cases pre <;> simp [lead]
def goodB (b : UInt8) : Prop := b = 46 ∨ b = 45 ∨ b = 32
theorem ex_good {s r : Bytes} {n : Nat} (h : Ex s r n) : (∀ b ∈ s, goodB b) → ∀ b ∈ r, goodB b := by
  induction h with
  | nil => intro _ b hb; cases hb
  | copy c h ih =>
    intro hs b hb
    rcases List.mem_cons.1 hb with rfl | hb
    · exact hs _ List.mem_cons_self
    · exact ih (fun x hx => hs x (List.mem_cons_of_mem _ hx)) b hb
  | miss c h ih => intro hs; exact ih (fun x hx => hs x (List.mem_cons_of_mem _ hx))
  | split h ih =>
    intro hs b hb
    rcases List.mem_cons.1 hb with rfl | hb
    · exact .inl rfl
    · rcases List.mem_cons.1 hb with rfl | hb
      · exact .inl rfl
      · exact ih (fun x hx => hs x (List.mem_cons_of_mem _ hx)) b hb
  | join h ih =>
    intro hs b hb
    rcases List.mem_cons.1 hb with rfl | hb
    · exact .inr (.inl rfl)
    · exact ih (fun x hx => hs x (List.mem_cons_of_mem _ (List.mem_cons_of_mem _ hx))) b hb
  | gap h ih =>
    intro hs b hb
    rcases List.mem_cons.1 hb with rfl | hb
    · exact .inr (.inr rfl)
    · exact ih hs b hb
theorem letter_good {s : ByteArray} (h : letterF s = true) : ∀ b ∈ s.data.toList, goodB b := by
  intro b hb
  simp only [letterF, Bool.and_eq_true, List.all_eq_true] at h
  have := h.2 b hb
  simp at this
  rcases this with h | h
  · exact .inl h
  · exact .inr (.inl h)
theorem signs_good (ls : List ByteArray) (hF : ∀ s ∈ ls, letterF s = true) : ∀ (ts : List Nat) (pre : Bool), ∀ b ∈ (signsF ls pre ts).data.toList, goodB b
  | [], pre => by intro b hb; cases hb
  | t :: ts, pre => by
    intro b hb
    rw [signsF] at hb
    simp only [ByteArray.data_append, Array.toList_append, List.mem_append] at hb
    rcases hb with (hb | hb) | hb
    · cases pre
      · cases hb
      · simp at hb
        exact .inr (.inr hb)
    · rw [List.getD_eq_getElem?_getD] at hb
      rcases Nat.lt_or_ge t ls.length with h | h
      · rw [List.getElem?_eq_getElem h] at hb
        exact letter_good (hF _ (List.getElem_mem h)) b hb
      · rw [List.getElem?_eq_none h] at hb
        cases hb
    · exact signs_good ls hF ts true b hb
/-- the numbers that can have been sent -/
def candF (L p : Nat) (s : Int) (T : List (List Nat)) : List Int := (T.map fun t => meantR L t p).filter fun n => decide (0 ≤ n) && decide (n < s)
theorem cand_bound {L p : Nat} {s : Int} {T : List (List Nat)} : ∀ x ∈ candF L p s T, 0 ≤ x ∧ x < s := by
  intro x hx
  have := (List.mem_filter.1 hx).2
  simpa using this
theorem cand_len {L p : Nat} {s : Int} {T : List (List Nat)} : (candF L p s T).length ≤ T.length := by
  have := List.length_filter_le (fun n => decide (0 ≤ n) && decide (n < s)) (T.map fun t => meantR L t p)
  rw [List.length_map] at this
  exact this
/-- what was sent is among them -/
theorem cand_mem (ls : List ByteArray) (rd : Bytes) (E num p n : Nat) (s : Int) (hL : 0 < ls.length) (hx : Ex (signsF ls false (speltF ls.length num p)).data.toList rd n) (hn : n ≤ E) (hp : num < ls.length ^ p) (hs : (num : Int) < s) :
    (num : Int) ∈ candF ls.length p s (textsF (lsB ls) rd E p) := by
  have hr := sign_rem ls (speltF ls.length num p) []
  have hr' : (signsF ls false (speltF ls.length num p)).data.toList = remF (lsB ls) [] (speltF ls.length num p) := hr
  rw [hr'] at hx
  have hm := texts_mem (lsB ls) rd E p (speltF ls.length num p) n (fun t ht => by rw [lsB, List.length_map]; exact speltF_lt _ hL _ _ t ht) (by rw [speltF_len]; exact Nat.le_refl _) hx (by omega)
  refine List.mem_filter.2 ⟨List.mem_map.2 ⟨_, hm, ?_⟩, by simp; omega⟩
  rw [meantR, if_pos (speltF_len _ _ _), meant_spelt _ hL _ _ hp]
end Go.Proofs.Tp
