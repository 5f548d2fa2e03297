import Derived.Test.YtnlknpcbdciljaaGrow2
import Derived.OrdersIn
import Derived.TacticsIn
/- A region that draws its order, in a frame of a round: Grow and Grow2 inside a fence. -/
namespace Go.Proofs.Gr
open Go.RowKit
set_option linter.unusedVariables false
section
variable {F : Fence} {n : Nat} {P : Program} {ops : Array Oper} {Q : Exit → Act → World → Prop}
theorem tail_anyIn {k : Nat} (hB : growB ops k = true) : ∀ (m i : Nat), i + m = ops.size → k ≤ i → ∀ (fuel : Nat) (listed : Array Bool) (a : Act) (w : World), listed.size = ops.size → Upto i listed → m ≤ fuel →
    wpOpsIn F n P ops Q (List.range' i m) a w → wpAnyIn F n P .any ops Q fuel listed a w := by
  obtain ⟨h1, h2, h3, h4⟩ := growB_parts hB
  intro m
  induction m with
  | zero =>
    intro i him hk fuel listed a w hsz hup _ h
    have hr : Region.ready .any ops listed = [] := by
      rw [List.eq_nil_iff_forall_not_mem]
      intro j hj
      obtain ⟨hj1, o, ho, _⟩ := ready_iff.1 hj
      have hlt := (Array.getElem?_eq_some_iff.1 ho).1
      have := (hup j (by omega)).2 (by omega)
      rw [this] at hj1; cases hj1
    have h' : Q .normal a w := by simpa [wpOpsIn] using h
    cases fuel with
    | zero => exact ⟨hr, h'⟩
    | succ f => exact ⟨fun _ => h', fun j hj => by rw [hr] at hj; cases hj⟩
  | succ m ih =>
    intro i him hk fuel listed a w hsz hup hf h
    cases fuel with
    | zero => omega
    | succ f =>
      have hi : i < ops.size := by omega
      have hun : listed.getD i true = false := by
        have := hup i (by omega)
        cases hh : listed.getD i true
        · rfl
        · exact absurd (this.1 hh) (by omega)
      have hir : i ∈ Region.ready .any ops listed := by
        refine ready_iff.2 ⟨hun, ops[i], by simp [hi], fun e he => ?_⟩
        have he' := h1 i ops[i] (by simp [hi]) e he
        rw [getD_ff (by omega)]
        exact (hup e (by omega)).2 he'
      have hlc : LC ops listed := by
        intro j o ho hl e he
        have hlt := (Array.getElem?_eq_some_iff.1 ho).1
        have h5 : j < i := (hup j (by omega)).1 (by rw [getD_ff (by omega)]; exact hl)
        have h6 := h1 j o ho e he
        rw [getD_ff (by omega)]
        exact (hup e (by omega)).2 (by omega)
      refine ⟨fun h0 => (by rw [h0] at hir; cases hir), fun j hj => ?_⟩
      have hji : j = i := by
        obtain ⟨hj1, o, ho, hoe⟩ := ready_iff.1 hj
        have hlt := (Array.getElem?_eq_some_iff.1 ho).1
        rcases Nat.lt_trichotomy j i with hlt' | he | hgt
        · have := (hup j (by omega)).2 hlt'
          rw [this] at hj1; cases hj1
        · exact he
        · -- i is among what j waits for
          have hin := h3 j (by omega) hlt i hgt
          have hset := hlc.set hj
          have hspec := clos_spec hset ops.toList [] (fun j => by simp) (fun i _ j hj => by simp at hj) j (by rw [Array.getD_eq_getD_getElem?]; simp [show j < listed.size by omega]) i hin
          rw [getD_set_ne false (by omega)] at hspec
          rw [getD_ff (by omega)] at hspec
          have : listed.getD i true = true := hspec
          rw [hun] at this; cases this
      subst hji
      rw [List.range'_succ, wpOpsIn_cons] at h
      refine wpOpIn_mono (fun a' w' h' => ih (j + 1) (by omega) (by omega) f _ a' w' (by simpa using hsz) ?_ (by omega) h') h
      intro x hx
      simp only [Array.size_setIfInBounds] at hx
      by_cases e : j = x
      · subst e; simp [hx]
      · rw [getD_set_ne true e, hup x hx]
        omega

/-- **A region that draws its order.** -/
theorem region_growIn (hFF : ∀ f, F.fn f) {id : Nat} {a : Act} {w : World} (hm : P.follows .mixedOrders = true) (k : Nat) (hB : growB ops k = true)
    (E : World → World → Prop) (hEr : ∀ W, E W W) (hEt : ∀ {A B C}, E A B → E B C → E A C) (hEd : E w { w with drawn := w.drawn + 1 })
    (R : Nat → Value → World → Prop)
    (hstep : ∀ i, i < k → ∀ (u : Nat → Value) (W : World), E w W → (∀ j, (∃ o, ops[i]? = some o ∧ j ∈ edgesOf o) → R j (u j) W) → ∀ o, ops[i]? = some o →
      (if Region.wanted o (yielded ops (puts ops u k a).tmps) then o.wpIn F n P (puts ops u k a) W (fun a' W' => ∃ v, a' = (puts ops u k a).put o.dst v ∧ E W W' ∧ ∀ W'', E W' W'' → R i v W'') Q else ∀ W'', E W W'' → R i undef W''))
    (htail : ∀ u W, E w W → (∀ j, j < k → R j (u j) W) → wpOpsIn F n P ops Q (List.range' k (ops.size - k)) (puts ops u k a) W) :
    (Code.region id ops true).wpIn F n P Q a w := by
  obtain ⟨h1, h2, h3, h4⟩ := growB_parts hB
  refine wpIn_region_any hm ?_
  suffices H : ∀ (fuel : Nat) (listed : Array Bool) (u : Nat → Value) (W : World), listed.size = ops.size → LC ops listed → (∀ j, k ≤ j → listed.getD j false = false) → unl ops.size listed ≤ fuel → E w W →
      (∀ j, j < k → listed.getD j false = true → ∀ W', E W W' → R j (u j) W') → wpAnyIn F n P .any ops Q fuel listed (puts ops u k a) W by
    obtain ⟨u, hu⟩ := puts_self (ops := ops) a k
    have := H ops.size (Array.replicate ops.size false) u { w with drawn := w.drawn + 1 } (by simp) (by
      intro j o ho hl e he
      rw [getD_rep] at hl; cases hl) (fun j hj => getD_rep) (by
      unfold unl
      exact Nat.le_trans (List.length_filter_le _ _) (by simp)) hEd (fun j hj hl => by rw [getD_rep] at hl; cases hl)
    rwa [hu] at this
  intro fuel
  induction fuel with
  | zero =>
    intro listed u W hsz hlc hnt hun hEw hR
    have hall := unl_zero (Nat.le_zero.1 hun)
    have hkn : k = ops.size := by
      rcases Nat.lt_or_ge k ops.size with h | h
      · have h5 := hall k h
        have h6 := hnt k (Nat.le_refl _)
        rw [getD_ff (by omega)] at h6
        have : listed.getD k true = false := h6
        rw [h5] at this; cases this
      · omega
    refine tail_anyIn hB 0 ops.size (by omega) h4 0 listed _ W hsz (fun j hj => Iff.intro (fun _ => by omega) (fun _ => hall j (by omega))) (Nat.le_refl _) ?_
    have := htail u W hEw (fun j hj => hR j hj (by rw [getD_ff (by omega)]; exact hall j (by omega)) W (hEr W))
    simpa [hkn, wpOpsIn] using this
  | succ f ih =>
    intro listed u W hsz hlc hnt hun hEw hR
    by_cases hdone : ∀ j, j < k → listed.getD j false = true
    · -- all of the first k have come up
      have hup : Upto k listed := by
        intro j hj
        constructor
        · intro hh
          rcases Nat.lt_or_ge j k with h | h
          · exact h
          · have := hnt j h
            rw [getD_ff hj] at this
            have h5 : listed.getD j true = false := this
            rw [hh] at h5
            cases h5
        · intro hh
          exact (getD_ff hj true).trans (hdone j hh)
      refine tail_anyIn hB (ops.size - k) k (by omega) (Nat.le_refl _) (f + 1) listed _ W hsz hup ?_ (htail u W hEw (fun j hj => hR j hj (hdone j hj) W (hEr W)))
      refine Nat.le_trans ?_ hun
      have hsub : ((List.range' k (ops.size - k)).filter fun i => !listed.getD i true).length ≤ unl ops.size listed := by
        unfold unl
        have : List.range ops.size = List.range k ++ List.range' k (ops.size - k) := by
          rw [List.range_eq_range', List.range_eq_range']
          have := @List.range'_append_1 0 k (ops.size - k)
          rw [Nat.zero_add, Nat.add_sub_cancel' h4] at this
          exact this.symm
        rw [this, List.filter_append, List.length_append]
        omega
      have hfull : ((List.range' k (ops.size - k)).filter fun i => !listed.getD i true) = List.range' k (ops.size - k) := by
        rw [List.filter_eq_self]
        intro j hj
        obtain ⟨hj1, hj2⟩ := List.mem_range'_1.1 hj
        have := hnt j hj1
        rw [getD_ff (by omega)] at this
        have h5 : listed.getD j true = false := this
        simpa using h5
      rw [hfull] at hsub
      simpa using hsub
    · -- one of the first k has not
      have hex : ∃ j, j < k ∧ listed.getD j false = false := by
        apply Classical.byContradiction
        intro hno
        apply hdone
        intro j hj
        cases hh : listed.getD j false
        · exact absurd ⟨j, hj, hh⟩ hno
        · rfl
      -- the smallest one is ready
      have hready : ∃ j, j < k ∧ j ∈ Region.ready .any ops listed := by
        obtain ⟨j, hj, hjf⟩ := hex
        induction j using Nat.strongRecOn with
        | _ j ihj =>
          by_cases hpre : ∃ i, i < j ∧ listed.getD i false = false
          · obtain ⟨i, hi, hif⟩ := hpre
            exact ihj i hi (by omega) hif
          · refine ⟨j, hj, ready_iff.2 ⟨by rw [getD_ff (by omega)]; exact hjf, ops[j]'(by omega), by simp [show j < ops.size by omega], fun e he => ?_⟩⟩
            have := h1 j _ (by simp [show j < ops.size by omega]) e he
            cases hh : listed.getD e false
            · exact absurd ⟨e, this, hh⟩ hpre
            · rfl
      obtain ⟨j0, hj0, hj0r⟩ := hready
      refine ⟨fun h0 => (by rw [h0] at hj0r; cases hj0r), fun i hi => ?_⟩
      obtain ⟨hi1, o, ho, hoe⟩ := ready_iff.1 hi
      have hlt := (Array.getElem?_eq_some_iff.1 ho).1
      -- it is one of the first k
      have hik : i < k := by
        rcases Nat.lt_or_ge i k with h | h
        · exact h
        · exfalso
          apply hdone
          intro j hj
          have hin := h3 i h hlt j (by omega)
          have hspec := clos_spec (hlc.set hi) ops.toList [] (fun j => by simp) (fun i _ j hj => by simp at hj) i (by rw [Array.getD_eq_getD_getElem?]; simp [show i < listed.size by omega]) j hin
          rwa [getD_set_ne false (by omega)] at hspec
      have hdeps : ∀ j, (∃ o, ops[i]? = some o ∧ j ∈ edgesOf o) → R j (u j) W := by
        rintro j ⟨o', ho', hj⟩
        have hj1 := h1 i o' ho' j hj
        obtain rfl : o = o' := Option.some.inj (ho.symm.trans ho')
        exact hR j (by omega) (hoe j hj) W (hEr W)
      have hs := hstep i hik u W hEw hdeps o ho
      have hdst : dstOf ops i = o.dst := by simp [dstOf, ho]
      have hup : ∀ v, (puts ops u k a).put o.dst v = puts ops (upd u i v) k a := fun v => by
        rw [← hdst]; exact puts_upd hik (fun j hj hne => h2 i hik j hj hne)
      have hrec : ∀ v W', E W W' → (∀ W'', E W' W'' → R i v W'') → wpAnyIn F n P .any ops Q f (listed.setIfInBounds i true) (puts ops (upd u i v) k a) W' := by
        intro v W' hE hRv
        refine ih _ _ W' (by simpa using hsz) (hlc.set hi) (fun j hj => by rw [getD_set_ne false (by omega)]; exact hnt j hj) ?_ (hEt hEw hE) ?_
        · have := unl_set (n := ops.size) hsz hi1
          omega
        · intro j hj hl W'' hE2
          by_cases e : j = i
          · subst e; simpa [upd] using hRv W'' hE2
          · rw [getD_set_ne false (Ne.symm e)] at hl
            simpa [upd, e] using hR j hj hl W'' (hEt hE hE2)
      unfold wpOpIn
      rw [ho]
      simp only []
      split
      · rename_i hw
        rw [if_pos hw] at hs
        refine Oper.wpIn_mono ?_ hs
        rintro a' W' ⟨v, rfl, hE, hRv⟩
        rw [hup]
        exact hrec v W' hE hRv
      · rename_i hw
        rw [if_neg hw] at hs
        refine ⟨fun f _ => hFF f, ?_⟩
        rw [hup]
        exact hrec undef W (hEr W) hs
end
section
variable {F : Fence} {n : Nat} {P : Program} {Q : Exit → Act → World → Prop}
/-- the goal of operation o, number i -/
def StepGI (F : Fence) (n : Nat) (P : Program) (ops : Array Oper) (Q : Exit → Act → World → Prop) (k : Nat) (a : Act) (w : World) (E : World → World → Prop) (R : Nat → Value → World → Prop) (i : Nat) (o : Oper) : Prop :=
  ∀ (u : Nat → Value) (W : World) (A : Act), A = puts ops u k a → E w W → Deps R u W (edgesOf o) →
    if Region.wanted o (yielded ops A.tmps) then o.wpIn F n P A W (fun a' W' => ∃ v, a' = A.put o.dst v ∧ E W W' ∧ ∀ W'', E W' W'' → R i v W'') Q else ∀ W'', E W W'' → R i undef W''
theorem StepGI.plain {ops : Array Oper} {k : Nat} {a : Act} {w : World} {E : World → World → Prop} {R : Nat → Value → World → Prop} {i : Nat} {o : Oper} (hg : o.guard = none)
    (h : ∀ (u : Nat → Value) (W : World) (A : Act), A = puts ops u k a → E w W → Deps R u W (edgesOf o) → ∀ K : Act → World → Prop, (∀ v W', E W W' → (∀ W'', E W' W'' → R i v W'') → K (A.put o.dst v) W') → o.wpIn F n P A W K Q) : StepGI F n P ops Q k a w E R i o := by
  intro u W A hA hW hd
  rw [if_pos (by simp [Region.wanted, hg])]
  exact h u W A hA hW hd _ (fun v W' hE hR => ⟨v, rfl, hE, hR⟩)
def StepsGI (F : Fence) (n : Nat) (P : Program) (ops : Array Oper) (Q : Exit → Act → World → Prop) (k : Nat) (a : Act) (w : World) (E : World → World → Prop) (R : Nat → Value → World → Prop) : Nat → List Oper → Prop
  | _, [] => True
  | i, o :: r => StepGI F n P ops Q k a w E R i o ∧ StepsGI F n P ops Q k a w E R (i + 1) r
theorem StepsGI.get {ops : Array Oper} {k : Nat} {a : Act} {w : World} {E : World → World → Prop} {R : Nat → Value → World → Prop} : ∀ {l : List Oper} {m : Nat}, StepsGI F n P ops Q k a w E R m l → ∀ i o, l[i]? = some o → StepGI F n P ops Q k a w E R (m + i) o
  | [], _, _, i, o, h => by simp at h
  | x :: l, m, h, 0, o, ho => by
    simp only [List.getElem?_cons_zero, Option.some.injEq] at ho
    subst ho
    exact h.1
  | x :: l, m, h, i + 1, o, ho => by
    have := StepsGI.get h.2 i o (by simpa using ho)
    rwa [Nat.add_assoc, Nat.add_comm 1 i] at this
theorem region_litI (hFF : ∀ f, F.fn f) {id : Nat} {l : List Oper} {a : Act} {w : World} (k : Nat) (E : World → World → Prop) (R : Nat → Value → World → Prop) (hm : P.follows .mixedOrders = true) (hB : growB l.toArray k = true)
    (hEr : ∀ W, E W W) (hEt : ∀ {A B C}, E A B → E B C → E A C) (hEd : E w w.drew)
    (hsteps : StepsGI F n P l.toArray Q k a w E R 0 (l.take k))
    (htail : ∀ u W, E w W → Deps R u W (List.range k) → wpListIn F n P l.toArray Q (l.drop k) (puts l.toArray u k a) W) :
    (Code.region id l.toArray true).wpIn F n P Q a w := by
  refine region_growIn hFF hm k hB E hEr hEt hEd R ?_ ?_
  · intro i hi u W hW hd o ho
    have ho' : (l.take k)[i]? = some o := by
      rw [List.getElem?_take_of_lt hi]
      simpa using ho
    have := hsteps.get i o ho' u W _ rfl hW (Deps.of fun j hj => hd j ⟨o, ho, hj⟩)
    rwa [Nat.zero_add] at this
  · intro u W hW hR
    have h := htail u W hW (Deps.of fun j hj => hR j (List.mem_range.1 hj))
    rw [← wpOpsIn_eq_wpListIn (l.drop k) k (fun j => by simp [List.getElem?_drop])] at h
    simpa using h

end
end Go.Proofs.Gr
