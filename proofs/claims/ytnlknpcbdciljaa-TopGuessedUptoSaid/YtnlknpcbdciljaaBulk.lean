import Derived.Test.YtnlknpcbdciljaaRows
import Derived.Test.YtnlknpcbdciljaaBase
import Derived.Deep.Slices
import Derived.Deep.Fields
import Derived.ChangeSame
import Derived.ChangeArms
/-
  FOR A PROOF OF AN '..UptoSaid': WHAT THE BOUND GIVES. Copy it as <Name>Bulk.lean (put your seat's Name for Ytnlknpcbdciljaa, the bound of 'uptoSmall' for 1048576), name it in GOCLAIM.json's 'order' behind <Name>Rows. By an AI agent, Sun Nov 15 2026. No person has read it. No macro, syntax, notation, axiom, sorry.
-/
namespace Go.Proofs.Ytnlknpcbdciljaa.bulks

theorem one_le {H : Type} (d : DataW H) : 1 ≤ Rows.uptoBulk d := by
  cases d with
  | lit l => cases l <;> simp [Rows.uptoBulk]
  | nil => simp [Rows.uptoBulk]
  | ptr d => simp [Rows.uptoBulk]
  | slice elems spare => simp [Rows.uptoBulk]
  | agg parts => simp [Rows.uptoBulk]
  | iface t d => simp [Rows.uptoBulk]
  | map entries => simp [Rows.uptoBulk]
  | held h => simp [Rows.uptoBulk]

/-- a part's bulk is at most the whole's -/
theorem part_le {H : Type} {d : DataW H} {l : List (DataW H)} (h : d ∈ l) : Rows.uptoBulk d ≤ Rows.uptoBulkAll l := by
  induction l with
  | nil => cases h
  | cons x r ih =>
    simp only [Rows.uptoBulkAll]
    cases List.mem_cons.1 h with
    | inl e => subst e; omega
    | inr e => have := ih e; omega

theorem append {H : Type} (l r : List (DataW H)) : Rows.uptoBulkAll (l ++ r) = Rows.uptoBulkAll l + Rows.uptoBulkAll r := by
  induction l with
  | nil => simp [Rows.uptoBulkAll]
  | cons x l ih => simp only [List.cons_append, Rows.uptoBulkAll, ih]; omega

/-- so many values at the most -/
theorem length_le {H : Type} (l : List (DataW H)) : l.length ≤ Rows.uptoBulkAll l := by
  induction l with
  | nil => simp [Rows.uptoBulkAll]
  | cons x r ih => have := one_le x; simp only [Rows.uptoBulkAll, List.length_cons]; omega

/-- a slice's places, and what they hold -/
theorem slice_le {H : Type} (elems spare : List (DataW H)) : elems.length + spare.length + 1 ≤ Rows.uptoBulk (.slice elems spare) := by
  have h1 := length_le elems
  have h2 := length_le spare
  simp only [Rows.uptoBulk]
  omega
theorem slice_elems {H : Type} (elems spare : List (DataW H)) : Rows.uptoBulkAll elems + 1 ≤ Rows.uptoBulk (.slice elems spare) := by
  simp only [Rows.uptoBulk]
  omega

/-- a string's letters -/
theorem string_eq {H : Type} (bytes : List UInt8) : Rows.uptoBulk (DataW.lit (H := H) (.string bytes)) = bytes.length + 1 := by
  simp [Rows.uptoBulk]

/-- THE BOUND, as the builder hands it over ('hk') -/
theorem bound {H : Type} {l : List (DataW H)} (hk : Rows.uptoSmall H l = true) : Rows.uptoBulkAll l ≤ 1048576 := by
  simpa [Rows.uptoSmall] using hk

/-- ROOM: a slice of n elements of b bytes, grown by append: below the 2^48 bytes that append, make and a Builder bear. Here n up to 2^21, b up to 4,096: put your own numbers. -/
theorem room {n b : Nat} (hn : n ≤ 2097152) (hb : b ≤ 4096) : (n + n / 4 + 192) * b ≤ 281474976710656 := by
  have h : (n + n / 4 + 192) * b ≤ 2621632 * 4096 := Nat.mul_le_mul (by omega) hb
  omega

end Go.Proofs.Ytnlknpcbdciljaa.bulks
/- A slice among the arguments, as the walks want it: its elements at an address. -/
namespace Go.Proofs.Tp
open Go.ChangeShapes Go.WideShapes Go.Deep Go.RowKit
set_option linter.unusedVariables false
set_option linter.unusedSimpArgs false
section
variable {H : Type} {enc : TypeId × Value → H} {P : Program} {w : World}
theorem spot_none {w : World} {a : Addr} {v : Value} (h : w.cell? a = some v) : a.spot = none := by
  unfold World.cell? at h
  split at h
  · split at h
    · cases h
    · rename_i h1
      simpa using h1
  · cases h
theorem add_plain {a : Addr} (h : a.spot = none) (n : Nat) : a.add n = ⟨a.block, a.off + n, none⟩ := by
  unfold Addr.add
  split
  · rename_i h0
    subst h0
    cases a
    simp only at h
    subst h
    rfl
  · rfl
/-- the first so many elements -/
theorem take_elems {α : Type} {k : Kd α} {Q : α → DataW H → Prop} {g : Nat → List Value → Prop} {D : Nat → DataW H} (len : Nat) (h : ∀ i, i < len → ∃ cs, g i cs ∧ ∃ x : α, k.rep w x cs ∧ Q x (D i)) :
    ∃ xs : List α, xs.length = len ∧ ∀ i (hi : i < xs.length), (∃ cs, g i cs ∧ k.rep w xs[i] cs) ∧ Q xs[i] (D i) := by
  induction len with
  | zero => exact ⟨[], rfl, fun i hi => absurd hi (Nat.not_lt_zero _)⟩
  | succ n ih =>
    obtain ⟨xs, hl, hx⟩ := ih (fun i hi => h i (by omega))
    obtain ⟨cs, hg, x, hr, hq⟩ := h n (by omega)
    refine ⟨xs ++ [x], by simp [hl], fun i hi => ?_⟩
    by_cases hin : i < xs.length
    · rw [List.getElem_append_left hin]
      exact hx i hin
    · have e : i = xs.length := by simp at hi; omega
      subst e
      rw [List.getElem_append_right (Nat.le_refl _)]
      simp only [Nat.sub_self, List.getElem_cons_zero]
      rw [hl]
      exact ⟨⟨cs, hg, hr⟩, hq⟩
theorem open_sl {α : Type} (k : Kd α) (Q : α → DataW H → Prop) {spare : Nat → Bool} {held : Bool} {base : Nat} {t e : TypeId} {fuel : Nat} {v : Value} {x : DataW H × List MemPlace} (ht : P.underlying t = some (.slice e)) (hsz : P.cellsOf e = k.sz) (hsz0 : 0 < k.sz)
    (hrep : ∀ n cs y, DataW.trod enc P w base spare held n e cs = some y → ∃ a : α, k.rep w a cs ∧ Q a y.1) (h : DataW.trod enc P w base spare held fuel t [v] = some x) :
    ∃ A c, ∃ xs : List α, v = .slice A xs.length c ∧ xs.length ≤ c ∧ SlA k w A xs ∧ xs.length ≤ Ytnlknpcbdciljaa.Rows.uptoBulk x.1 ∧ ∀ a ∈ xs, ∃ d, Q a d ∧ Ytnlknpcbdciljaa.Rows.uptoBulk d ≤ Ytnlknpcbdciljaa.Rows.uptoBulk x.1 := by
  rcases open_slice ht h with ⟨h1, h2⟩ | ⟨a, len, cap, m, n, D, Pl, hcs, hb, hl, hm, hmm, hx, hi⟩
  · simp only [List.cons.injEq, and_true] at h1
    exact ⟨none, 0, [], h1, Nat.zero_le _, .inl rfl, Nat.zero_le _, fun a ha => absurd ha (by simp)⟩
  · simp only [List.cons.injEq, and_true] at hcs
    have hlm : len ≤ m := by rw [hmm]; split <;> omega
    obtain ⟨xs, hxl, hxs⟩ := take_elems (w := w) (k := k) (Q := Q) (D := D) (g := fun i cs => w.cells? base (a.add (i * P.cellsOf e)) (P.cellsOf e) = some cs) len (fun i hil => by
      obtain ⟨cs, h1, h2⟩ := hi i (by omega)
      obtain ⟨y, h3, h4⟩ := hrep n cs _ h2
      exact ⟨cs, h1, y, h3, h4⟩)
    subst hxl
    refine ⟨some a, cap, xs, hcs, hl, ?_, ?_, fun y hy => ?_⟩
    · by_cases h0 : xs.length = 0
      · exact .inl (List.eq_nil_of_length_eq_zero h0)
      · have hsp : a.spot = none := by
          obtain ⟨⟨cs, h1, h2⟩, _⟩ := hxs 0 (by omega)
          obtain ⟨_, h3, h4⟩ := World.cells?_some h1
          have h5 := h4 0 (by omega)
          rw [List.getElem?_eq_getElem (by omega), Nat.zero_mul] at h5
          have : (a.add 0).add 0 = a := rfl
          rw [this] at h5
          exact spot_none h5
        refine .inr ⟨a.block, a.off, by cases a; simp only at hsp; subst hsp; rfl, fun i hil => ?_⟩
        obtain ⟨⟨cs, h1, h2⟩, _⟩ := hxs i hil
        obtain ⟨_, h3, h4⟩ := World.cells?_some h1
        refine ⟨cs, h2, At.mk fun j hj => ?_⟩
        rw [← h4 j (by omega), add_plain hsp, hsz, add_plain rfl]
    · rw [hx]
      refine Nat.le_trans ?_ (Ytnlknpcbdciljaa.bulks.slice_le _ _)
      simp only [List.length_map, List.length_range]
      omega
    · obtain ⟨i, hil, rfl⟩ := List.mem_iff_getElem.1 hy
      refine ⟨D i, (hxs i hil).2, ?_⟩
      rw [hx]
      refine Nat.le_trans ?_ (Nat.le_trans (Nat.le_succ _) (Ytnlknpcbdciljaa.bulks.slice_elems _ _))
      exact Ytnlknpcbdciljaa.bulks.part_le (List.mem_map.2 ⟨i, List.mem_range.2 hil, rfl⟩)
end
end Go.Proofs.Tp
