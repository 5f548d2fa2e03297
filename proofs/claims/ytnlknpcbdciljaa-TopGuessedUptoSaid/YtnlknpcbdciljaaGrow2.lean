import Derived.Test.YtnlknpcbdciljaaGrow
/- region_grow with its operations written out: one goal for each of the first operations, and one for what stands behind them. -/
namespace Go.Proofs.Gr
open Go.RowKit
set_option linter.unusedVariables false
section
variable {P : Program} {Q : Exit → Act → World → Prop}
/-- whose destination is slot t, among the first m -/
def who (ops : Array Oper) (t : Nat) : Nat → Option Nat
  | 0 => none
  | m + 1 => if dstOf ops m == some t then some m else who ops t m
theorem puts_size {ops : Array Oper} {u : Nat → Value} {a : Act} : ∀ {k : Nat}, (puts ops u k a).tmps.size = a.tmps.size
  | 0 => rfl
  | k + 1 => by
    rw [puts]
    cases dstOf ops k with
    | none => exact puts_size
    | some d => simp [Act.put, puts_size]
theorem ev_aux {ops : Array Oper} {u : Nat → Value} {a : Act} {t : Nat} (ht : t < a.tmps.size) : ∀ {k : Nat}, (puts ops u k a).eval (.tmp t) = match who ops t k with | some j => u j | none => a.eval (.tmp t)
  | 0 => rfl
  | k + 1 => by
    rw [puts, who]
    by_cases h : dstOf ops k = some t
    · simp only [h, BEq.rfl, if_true, Act.put, Act.eval]
      rw [Array.getD_eq_getD_getElem?, Array.getElem?_setIfInBounds_self_of_lt (by rw [puts_size]; exact ht)]
      rfl
    · have hb : (dstOf ops k == some t) = false := by simpa using h
      rw [hb]
      simp only [Bool.false_eq_true, if_false]
      rw [← ev_aux ht (k := k)]
      exact Act.eval_put (fun d hd e => by cases e; exact h hd)
theorem ev_in' {ops : Array Oper} {u : Nat → Value} {k : Nat} {a A : Act} {t j : Nat} (hA : A = puts ops u k a) (h : who ops t k = some j) (ht : t < a.tmps.size) : A.tmps[t]? = some (u j) := by
  have h1 := ev_aux (ops := ops) (u := u) ht (k := k)
  rw [h] at h1
  simp only [Act.eval] at h1
  rw [hA, Array.getElem?_eq_getElem (by rw [puts_size]; exact ht)]
  rw [Array.getD_eq_getD_getElem?, Array.getElem?_eq_getElem (by rw [puts_size]; exact ht)] at h1
  exact congrArg some h1
theorem ev_in {ops : Array Oper} {u : Nat → Value} {k : Nat} {a A : Act} (t j : Nat) (hA : A = puts ops u k a) (h : who ops t k = some j) (ht : t < a.tmps.size) : A.tmps[t]?.getD undef = u j := by
  have := ev_aux (ops := ops) (u := u) ht (k := k)
  rw [h] at this
  simp only [Act.eval, Array.getD_eq_getD_getElem?] at this
  rw [hA]
  exact this
theorem ev_out {ops : Array Oper} {u : Nat → Value} {k : Nat} {a A : Act} (t : Nat) (hA : A = puts ops u k a) (h : who ops t k = none) (ht : t < a.tmps.size) : A.tmps[t]?.getD undef = a.tmps[t]?.getD undef := by
  have := ev_aux (ops := ops) (u := u) ht (k := k)
  rw [h] at this
  simp only [Act.eval, Array.getD_eq_getD_getElem?] at this
  rw [hA, ← this]
def Deps (R : Nat → Value → World → Prop) (u : Nat → Value) (W : World) : List Nat → Prop
  | [] => True
  | j :: r => R j (u j) W ∧ Deps R u W r
theorem Deps.of {R : Nat → Value → World → Prop} {u : Nat → Value} {W : World} : ∀ {l : List Nat}, (∀ j ∈ l, R j (u j) W) → Deps R u W l
  | [], _ => trivial
  | j :: r, h => ⟨h j List.mem_cons_self, Deps.of fun i hi => h i (List.mem_cons_of_mem _ hi)⟩
/-- the goal of operation o, number i -/
def StepG (P : Program) (ops : Array Oper) (Q : Exit → Act → World → Prop) (k : Nat) (a : Act) (w : World) (E : World → World → Prop) (R : Nat → Value → World → Prop) (i : Nat) (o : Oper) : Prop :=
  ∀ (u : Nat → Value) (W : World) (A : Act), A = puts ops u k a → E w W → Deps R u W (edgesOf o) →
    if Region.wanted o (yielded ops A.tmps) then o.wp P A W (fun a' W' => ∃ v, a' = A.put o.dst v ∧ E W W' ∧ ∀ W'', E W' W'' → R i v W'') Q else ∀ W'', E W W'' → R i undef W''
theorem StepG.plain {ops : Array Oper} {k : Nat} {a : Act} {w : World} {E : World → World → Prop} {R : Nat → Value → World → Prop} {i : Nat} {o : Oper} (hg : o.guard = none)
    (h : ∀ (u : Nat → Value) (W : World) (A : Act), A = puts ops u k a → E w W → Deps R u W (edgesOf o) → ∀ K : Act → World → Prop, (∀ v W', E W W' → (∀ W'', E W' W'' → R i v W'') → K (A.put o.dst v) W') → o.wp P A W K Q) : StepG P ops Q k a w E R i o := by
  intro u W A hA hW hd
  rw [if_pos (by simp [Region.wanted, hg])]
  exact h u W A hA hW hd _ (fun v W' hE hR => ⟨v, rfl, hE, hR⟩)
/-- a guarded operation: the guard's own slot is known -/
theorem StepG.guarded {ops : Array Oper} {k : Nat} {a : Act} {w : World} {E : World → World → Prop} {R : Nat → Value → World → Prop} {i : Nat} {o : Oper} (j : Nat) (want : Bool) (d : Nat) (hg : o.guard = some (j, want)) (hd : dstOf ops j = some d) (hdl : d < a.tmps.size) (hw : who ops d k = some j)
    (h : ∀ (u : Nat → Value) (W : World) (A : Act), A = puts ops u k a → E w W → Deps R u W (edgesOf o) → ∃ b, u j = .bool b ∧
      (b = want → ∀ K : Act → World → Prop, (∀ v W', E W W' → (∀ W'', E W' W'' → R i v W'') → K (A.put o.dst v) W') → o.wp P A W K Q) ∧ (b ≠ want → ∀ W'', E W W'' → R i undef W'')) : StepG P ops Q k a w E R i o := by
  intro u W A hA hW hdp
  obtain ⟨b, hb, h1, h2⟩ := h u W A hA hW hdp
  have hev : A.tmps[d]? = some (.bool b) := by
    have h3 := ev_in' (t := d) hA hw hdl
    rw [hb] at h3
    exact h3
  have hy : yielded ops A.tmps j = some b := by
    unfold yielded
    unfold dstOf at hd
    rw [hd]
    simp only [Option.bind_some, hev]
  by_cases e : b = want
  · rw [if_pos (by simp [Region.wanted, hg, hy, e])]
    exact h1 e _ (fun v W' hE hR => ⟨v, rfl, hE, hR⟩)
  · rw [if_neg (by simp [Region.wanted, hg, hy, e])]
    exact h2 e
def StepsG (P : Program) (ops : Array Oper) (Q : Exit → Act → World → Prop) (k : Nat) (a : Act) (w : World) (E : World → World → Prop) (R : Nat → Value → World → Prop) : Nat → List Oper → Prop
  | _, [] => True
  | i, o :: r => StepG P ops Q k a w E R i o ∧ StepsG P ops Q k a w E R (i + 1) r
theorem StepsG.get {ops : Array Oper} {k : Nat} {a : Act} {w : World} {E : World → World → Prop} {R : Nat → Value → World → Prop} : ∀ {l : List Oper} {m : Nat}, StepsG P ops Q k a w E R m l → ∀ i o, l[i]? = some o → StepG P ops Q k a w E R (m + i) o
  | [], _, _, i, o, h => by simp at h
  | x :: l, m, h, 0, o, ho => by
    simp only [List.getElem?_cons_zero, Option.some.injEq] at ho
    subst ho
    exact h.1
  | x :: l, m, h, i + 1, o, ho => by
    have := StepsG.get h.2 i o (by simpa using ho)
    rwa [Nat.add_assoc, Nat.add_comm 1 i] at this
theorem region_lit {id : Nat} {l : List Oper} {a : Act} {w : World} (k : Nat) (E : World → World → Prop) (R : Nat → Value → World → Prop) (hm : P.follows .mixedOrders = true) (hB : growB l.toArray k = true)
    (hEr : ∀ W, E W W) (hEt : ∀ {A B C}, E A B → E B C → E A C) (hEd : E w w.drew)
    (hsteps : StepsG P l.toArray Q k a w E R 0 (l.take k))
    (htail : ∀ u W, E w W → Deps R u W (List.range k) → wpList P l.toArray Q (l.drop k) (puts l.toArray u k a) W) :
    (Code.region id l.toArray true).wp P Q a w := by
  refine region_grow hm k hB E hEr hEt hEd R ?_ ?_
  · intro i hi u W hW hd o ho
    have ho' : (l.take k)[i]? = some o := by
      rw [List.getElem?_take_of_lt hi]
      simpa using ho
    have := hsteps.get i o ho' u W _ rfl hW (Deps.of fun j hj => hd j ⟨o, ho, hj⟩)
    rwa [Nat.zero_add] at this
  · intro u W hW hR
    have h := htail u W hW (Deps.of fun j hj => hR j (List.mem_range.1 hj))
    rw [← wpOps_eq_wpList (l.drop k) k (fun j => by simp [List.getElem?_drop])] at h
    simpa using h

end
end Go.Proofs.Gr
