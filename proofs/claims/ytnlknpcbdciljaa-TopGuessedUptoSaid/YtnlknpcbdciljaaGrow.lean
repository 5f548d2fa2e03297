import Derived.WalkKit
import Derived.WalkLawsBesides
import Derived.Deep.QuietTactic
import Derived.BigQuiet
import Derived.Lib.Hide
/- A region that draws its order: its first operations in whatever order, each shown once; the others behind them, in the order of the text. -/
namespace Go.Proofs.Gr
open Go.RowKit
section
/-- number i's destination -/
def dstOf (ops : Array Oper) (i : Nat) : Option Tmp := (ops[i]?).bind (·.dst)
/-- the first m destinations filled -/
def puts (ops : Array Oper) (u : Nat → Value) : Nat → Act → Act
  | 0, a => a
  | m + 1, a => (puts ops u m a).put (dstOf ops m) (u m)
def upd (u : Nat → Value) (i : Nat) (v : Value) : Nat → Value := fun j => if j = i then v else u j
/-- what must have come up before, edges alone and closed -/
def edgesOf (o : Oper) : List Nat := (o.after.toList.filter (fun e => Region.binds .any e)).map (·.on)
def closOne (cs : List (List Nat)) (es : List Nat) : List Nat := es ++ (es.flatMap fun j => cs.getD j [])
def clos : List Oper → List (List Nat) → List (List Nat)
  | [], cs => cs
  | o :: r, cs => clos r (cs ++ [(closOne cs (edgesOf o)).eraseDups])
def growB (ops : Array Oper) (k : Nat) : Bool :=
  let cs := clos ops.toList []
  -- each edge goes to an earlier operation
  ((List.range ops.size).all fun i => match ops[i]? with | some o => (edgesOf o).all (fun j => decide (j < i)) | none => false) &&
  -- the first k: destinations apart
  ((List.range k).all fun i => (List.range k).all fun j => decide (i = j) || (dstOf ops i).isNone || dstOf ops i != dstOf ops j) &&
  -- the others wait for all that stands before them
  ((List.range ops.size).all fun i => decide (i < k) || (List.range i).all fun j => (cs.getD i []).contains j) && decide (k ≤ ops.size)

variable {P : Program} {ops : Array Oper} {Q : Exit → Act → World → Prop}

theorem put_same {a : Act} (d : Option Tmp) (v v' : Value) : (a.put d v).put d v' = a.put d v' := by
  cases d with
  | none => rfl
  | some d => simp [Act.put]

theorem puts_congr {u u' : Nat → Value} {m : Nat} {a : Act} (h : ∀ j, j < m → u j = u' j) : puts ops u m a = puts ops u' m a := by
  induction m with
  | zero => rfl
  | succ m ih => rw [puts, puts, ih (fun j hj => h j (by omega)), h m (by omega)]

theorem puts_put {u : Nat → Value} {i : Nat} {v : Value} {a : Act} : ∀ {m : Nat}, (∀ j, j < m → ∀ d, dstOf ops i = some d → dstOf ops j ≠ some d) → (puts ops u m a).put (dstOf ops i) v = puts ops u m (a.put (dstOf ops i) v)
  | 0, _ => rfl
  | m + 1, h => by
    rw [puts, puts, ← puts_put (fun j hj => h j (by omega)), Act.put_comm]
    intro d hd hd'
    exact h m (by omega) d hd' hd

theorem puts_upd {u : Nat → Value} {i : Nat} {v : Value} {a : Act} : ∀ {m : Nat}, i < m → (∀ j, j < m → j ≠ i → ∀ d, dstOf ops i = some d → dstOf ops j ≠ some d) → (puts ops u m a).put (dstOf ops i) v = puts ops (upd u i v) m a
  | 0, h, _ => by omega
  | m + 1, h, hd => by
    rw [puts, puts]
    by_cases e : m = i
    · subst e
      rw [put_same]
      have : puts ops u m a = puts ops (upd u m v) m a := puts_congr (fun j hj => by simp [upd, show j ≠ m by omega])
      rw [this]; simp [upd]
    · rw [Act.put_comm, puts_upd (by omega) (fun j hj hne => hd j (by omega) hne)]
      · simp [upd, e]
      · intro d h1 h2
        exact hd m (by omega) e d h2 h1

theorem puts_self (a : Act) (m : Nat) : ∃ u, puts ops u m a = a := by
  induction m with
  | zero => exact ⟨fun _ => undef, rfl⟩
  | succ m ih =>
    obtain ⟨u, hu⟩ := ih
    refine ⟨upd u m (match dstOf ops m with | some d => a.tmps.getD d undef | none => undef), ?_⟩
    rw [puts, puts_congr (u' := u) (fun j hj => by simp [upd, show j ≠ m by omega]), hu]
    simp only [upd, if_true]
    cases h : dstOf ops m with
    | none => rfl
    | some d =>
      simp only [Act.put]
      have : a.tmps.setIfInBounds d (a.tmps.getD d undef) = a.tmps := by
        apply Array.ext
        · simp
        · intro i h1 h2
          rw [Array.getElem_setIfInBounds]
          split
          · rename_i e
            subst e
            rw [Array.getD_eq_getD_getElem?, Array.getElem?_eq_getElem h2]
            rfl
          · rfl
      rw [this]

theorem closOne_sub {cs : List (List Nat)} {listed : Array Bool} {es : List Nat} (hcs : ∀ i, listed.getD i false = true → ∀ j ∈ cs.getD i [], listed.getD j false = true)
    (hes : ∀ j ∈ es, listed.getD j false = true) : ∀ j ∈ closOne cs es, listed.getD j false = true := by
  intro j hj
  simp only [closOne, List.mem_append, List.mem_flatMap] at hj
  rcases hj with hj | ⟨i, hi, hj⟩
  · exact hes j hj
  · exact hcs i (hes i hi) j hj

/-- what is listed is closed -/
def LC (ops : Array Oper) (listed : Array Bool) : Prop := ∀ j o, ops[j]? = some o → listed.getD j false = true → ∀ e ∈ edgesOf o, listed.getD e false = true

theorem clos_spec {listed : Array Bool} (hl : LC ops listed) : ∀ (l : List Oper) (cs : List (List Nat)), (∀ j, l[j]? = ops[cs.length + j]?) →
    (∀ i, listed.getD i false = true → ∀ j ∈ cs.getD i [], listed.getD j false = true) → ∀ i, listed.getD i false = true → ∀ j ∈ (clos l cs).getD i [], listed.getD j false = true
  | [], cs, _, h => h
  | o :: r, cs, ho, h => by
    refine clos_spec hl r _ (fun j => by simpa [Nat.add_assoc, Nat.add_comm 1 j] using ho (j + 1)) ?_
    intro i hi j hj
    by_cases e : i < cs.length
    · have : (cs ++ [(closOne cs (edgesOf o)).eraseDups]).getD i [] = cs.getD i [] := by simp [List.getD_eq_getElem?_getD, List.getElem?_append_left e]
      rw [this] at hj
      exact h i hi j hj
    · by_cases e2 : i = cs.length
      · subst e2
        have : (cs ++ [(closOne cs (edgesOf o)).eraseDups]).getD cs.length [] = (closOne cs (edgesOf o)).eraseDups := by simp [List.getD_eq_getElem?_getD]
        rw [this, List.mem_eraseDups] at hj
        refine closOne_sub h (fun k hk => ?_) j hj
        exact hl cs.length o (by simpa using (ho 0).symm) hi k hk
      · have : (cs ++ [(closOne cs (edgesOf o)).eraseDups]).getD i [] = [] := by
          rw [List.getD_eq_getElem?_getD, List.getElem?_eq_none (by simp; omega)]; rfl
        rw [this] at hj
        cases hj

theorem mem_edges {o : Oper} {j : Nat} : j ∈ edgesOf o ↔ ∃ e ∈ o.after, Region.binds .any e = true ∧ e.on = j := by
  simp [edgesOf, and_assoc]

theorem ready_iff {j : Nat} {listed : Array Bool} : j ∈ Region.ready .any ops listed ↔ listed.getD j true = false ∧ ∃ o, ops[j]? = some o ∧ ∀ e ∈ edgesOf o, listed.getD e false = true := by
  rw [mem_ready]
  constructor
  · rintro ⟨h, o, ho, hh⟩
    refine ⟨h, o, ho, fun e he => ?_⟩
    obtain ⟨x, hx, hb, rfl⟩ := mem_edges.1 he
    exact hh x hx hb
  · rintro ⟨h, o, ho, hh⟩
    exact ⟨h, o, ho, fun e he hb => hh e.on (mem_edges.2 ⟨e, he, hb, rfl⟩)⟩

theorem LC.set {listed : Array Bool} {i : Nat} (h : LC ops listed) (hi : i ∈ Region.ready .any ops listed) : LC ops (listed.setIfInBounds i true) := by
  obtain ⟨_, oi, hoi, hall⟩ := ready_iff.1 hi
  intro j o ho hl e he
  by_cases hij : i = j
  · subst hij
    have : o = oi := Option.some.inj (ho.symm.trans hoi)
    subst this
    exact getD_set_true (hall e he)
  · rw [getD_set_ne false hij] at hl
    exact getD_set_true (h j o ho hl e he)

def unl (n : Nat) (listed : Array Bool) : Nat := ((List.range n).filter fun i => !listed.getD i true).length

theorem filter_len_lt {α : Type} {p q : α → Bool} : ∀ {l : List α}, (∀ x ∈ l, q x = true → p x = true) → (∃ x ∈ l, p x = true ∧ q x = false) → (l.filter q).length < (l.filter p).length
  | [], _, h => by obtain ⟨x, hx, _⟩ := h; cases hx
  | y :: l, h, hx => by
    have hle : ∀ {l : List α}, (∀ x ∈ l, q x = true → p x = true) → (l.filter q).length ≤ (l.filter p).length := by
      intro l
      induction l with
      | nil => intro _; simp
      | cons z l ih =>
        intro h
        have := ih (fun x hx => h x (List.mem_cons_of_mem _ hx))
        by_cases hq : q z = true
        · simp [hq, h z List.mem_cons_self hq, this]
        · by_cases hp : p z = true
          · simp [hq, hp]; omega
          · simp [hq, hp, this]
    obtain ⟨x, hx, hp, hq⟩ := hx
    rcases List.mem_cons.1 hx with rfl | hx
    · have := hle (l := l) (fun z hz => h z (List.mem_cons_of_mem _ hz))
      simp [hp, hq]; omega
    · have := filter_len_lt (l := l) (fun z hz => h z (List.mem_cons_of_mem _ hz)) ⟨x, hx, hp, hq⟩
      by_cases hq' : q y = true
      · simp [hq', h y List.mem_cons_self hq', this]
      · by_cases hp' : p y = true
        · simp [hq', hp']; omega
        · simp [hq', hp', this]

theorem unl_set {n : Nat} {listed : Array Bool} {i : Nat} (hn : listed.size = n) (hi : listed.getD i true = false) : unl n (listed.setIfInBounds i true) < unl n listed := by
  have hlt : i < n := by
    rcases Nat.lt_or_ge i listed.size with h | h
    · omega
    · simp [Array.getElem?_eq_none h] at hi
  refine filter_len_lt (fun x _ hx => ?_) ⟨i, List.mem_range.2 hlt, by simp [hi], ?_⟩
  · by_cases e : i = x
    · subst e
      simp [show i < listed.size by omega] at hx
    · rwa [getD_set_ne true e] at hx
  · simp [show i < listed.size by omega]

theorem unl_zero {n : Nat} {listed : Array Bool} (h : unl n listed = 0) : ∀ i, i < n → listed.getD i true = true := by
  intro i hi
  have := List.length_eq_zero_iff.1 h
  have h2 := List.filter_eq_nil_iff.1 this i (List.mem_range.2 hi)
  simpa using h2

theorem getD_rep {n j : Nat} : (Array.replicate n false).getD j false = false := by
  simp only [Array.getD_eq_getD_getElem?, Array.getElem?_replicate]
  split <;> rfl
theorem getD_ff {listed : Array Bool} {i : Nat} (h : i < listed.size) (b : Bool) : listed.getD i b = listed.getD i (!b) := by simp [h]

/-- all before i is listed, nothing from i on -/
def Upto (i : Nat) (listed : Array Bool) : Prop := ∀ j, j < listed.size → (listed.getD j true = true ↔ j < i)

theorem growB_parts {k : Nat} (h : growB ops k = true) : (∀ i o, ops[i]? = some o → ∀ e ∈ edgesOf o, e < i) ∧
    (∀ i, i < k → ∀ j, j < k → j ≠ i → ∀ d, dstOf ops i = some d → dstOf ops j ≠ some d) ∧
    (∀ i, k ≤ i → i < ops.size → ∀ j, j < i → j ∈ (clos ops.toList []).getD i []) ∧ k ≤ ops.size := by
  simp only [growB, Bool.and_eq_true, List.all_eq_true, List.mem_range, decide_eq_true_eq, Bool.or_eq_true, List.contains_iff_mem] at h
  obtain ⟨⟨⟨h1, h2⟩, h3⟩, h4⟩ := h
  refine ⟨fun i o ho e he => ?_, fun i hi j hj hne d hd hd' => ?_, fun i hk hi j hj => ?_, h4⟩
  · have := h1 i (Array.getElem?_eq_some_iff.1 ho).1
    rw [ho] at this
    simp only [List.all_eq_true, decide_eq_true_eq] at this
    exact this e he
  · rcases h2 i hi j hj with (h | h) | h
    · exact hne h.symm
    · rw [hd] at h; simp at h
    · rw [hd, hd'] at h; simp at h
  · rcases h3 i hi with h | h
    · omega
    · exact h j hj

theorem tail_any {k : Nat} (hB : growB ops k = true) : ∀ (m i : Nat), i + m = ops.size → k ≤ i → ∀ (fuel : Nat) (listed : Array Bool) (a : Act) (w : World), listed.size = ops.size → Upto i listed → m ≤ fuel →
    wpOps P ops Q (List.range' i m) a w → wpAny P .any ops Q fuel listed a w := by
  obtain ⟨h1, h2, h3, h4⟩ := growB_parts hB
  intro m
  induction m with
  | zero =>
    intro i him hk fuel listed a w hsz hup _ h
    have hr : Region.ready .any ops listed = [] := by
      rw [List.eq_nil_iff_forall_not_mem]
      intro j hj
      obtain ⟨hj1, o, ho, _⟩ := ready_iff.1 hj
      have hlt := (Array.getElem?_eq_some_iff.1 ho).1
      have := (hup j (by omega)).2 (by omega)
      rw [this] at hj1; cases hj1
    have h' : Q .normal a w := by simpa [wpOps] using h
    cases fuel with
    | zero => exact ⟨hr, h'⟩
    | succ f => exact ⟨fun _ => h', fun j hj => by rw [hr] at hj; cases hj⟩
  | succ m ih =>
    intro i him hk fuel listed a w hsz hup hf h
    cases fuel with
    | zero => omega
    | succ f =>
      have hi : i < ops.size := by omega
      have hun : listed.getD i true = false := by
        have := hup i (by omega)
        cases hh : listed.getD i true
        · rfl
        · exact absurd (this.1 hh) (by omega)
      have hir : i ∈ Region.ready .any ops listed := by
        refine ready_iff.2 ⟨hun, ops[i], by simp [hi], fun e he => ?_⟩
        have he' := h1 i ops[i] (by simp [hi]) e he
        rw [getD_ff (by omega)]
        exact (hup e (by omega)).2 he'
      have hlc : LC ops listed := by
        intro j o ho hl e he
        have hlt := (Array.getElem?_eq_some_iff.1 ho).1
        have h5 : j < i := (hup j (by omega)).1 (by rw [getD_ff (by omega)]; exact hl)
        have h6 := h1 j o ho e he
        rw [getD_ff (by omega)]
        exact (hup e (by omega)).2 (by omega)
      refine ⟨fun h0 => (by rw [h0] at hir; cases hir), fun j hj => ?_⟩
      have hji : j = i := by
        obtain ⟨hj1, o, ho, hoe⟩ := ready_iff.1 hj
        have hlt := (Array.getElem?_eq_some_iff.1 ho).1
        rcases Nat.lt_trichotomy j i with hlt' | he | hgt
        · have := (hup j (by omega)).2 hlt'
          rw [this] at hj1; cases hj1
        · exact he
        · -- i is among what j waits for
          have hin := h3 j (by omega) hlt i hgt
          have hset := hlc.set hj
          have hspec := clos_spec hset ops.toList [] (fun j => by simp) (fun i _ j hj => by simp at hj) j (by rw [Array.getD_eq_getD_getElem?]; simp [show j < listed.size by omega]) i hin
          rw [getD_set_ne false (by omega)] at hspec
          rw [getD_ff (by omega)] at hspec
          have : listed.getD i true = true := hspec
          rw [hun] at this; cases this
      subst hji
      rw [List.range'_succ, wpOps_cons] at h
      refine wpOp_mono (fun a' w' h' => ih (j + 1) (by omega) (by omega) f _ a' w' (by simpa using hsz) ?_ (by omega) h') h
      intro x hx
      simp only [Array.size_setIfInBounds] at hx
      by_cases e : j = x
      · subst e; simp [hx]
      · rw [getD_set_ne true e, hup x hx]
        omega

/-- **A region that draws its order.** -/
theorem region_grow {id : Nat} {a : Act} {w : World} (hm : P.follows .mixedOrders = true) (k : Nat) (hB : growB ops k = true)
    (E : World → World → Prop) (hEr : ∀ W, E W W) (hEt : ∀ {A B C}, E A B → E B C → E A C) (hEd : E w { w with drawn := w.drawn + 1 })
    (R : Nat → Value → World → Prop)
    (hstep : ∀ i, i < k → ∀ (u : Nat → Value) (W : World), E w W → (∀ j, (∃ o, ops[i]? = some o ∧ j ∈ edgesOf o) → R j (u j) W) → ∀ o, ops[i]? = some o →
      (if Region.wanted o (yielded ops (puts ops u k a).tmps) then o.wp P (puts ops u k a) W (fun a' W' => ∃ v, a' = (puts ops u k a).put o.dst v ∧ E W W' ∧ ∀ W'', E W' W'' → R i v W'') Q else ∀ W'', E W W'' → R i undef W''))
    (htail : ∀ u W, E w W → (∀ j, j < k → R j (u j) W) → wpOps P ops Q (List.range' k (ops.size - k)) (puts ops u k a) W) :
    (Code.region id ops true).wp P Q a w := by
  obtain ⟨h1, h2, h3, h4⟩ := growB_parts hB
  refine wp_region_any hm ?_
  suffices H : ∀ (fuel : Nat) (listed : Array Bool) (u : Nat → Value) (W : World), listed.size = ops.size → LC ops listed → (∀ j, k ≤ j → listed.getD j false = false) → unl ops.size listed ≤ fuel → E w W →
      (∀ j, j < k → listed.getD j false = true → ∀ W', E W W' → R j (u j) W') → wpAny P .any ops Q fuel listed (puts ops u k a) W by
    obtain ⟨u, hu⟩ := puts_self (ops := ops) a k
    have := H ops.size (Array.replicate ops.size false) u { w with drawn := w.drawn + 1 } (by simp) (by
      intro j o ho hl e he
      rw [getD_rep] at hl; cases hl) (fun j hj => getD_rep) (by
      unfold unl
      exact Nat.le_trans (List.length_filter_le _ _) (by simp)) hEd (fun j hj hl => by rw [getD_rep] at hl; cases hl)
    rwa [hu] at this
  intro fuel
  induction fuel with
  | zero =>
    intro listed u W hsz hlc hnt hun hEw hR
    have hall := unl_zero (Nat.le_zero.1 hun)
    have hkn : k = ops.size := by
      rcases Nat.lt_or_ge k ops.size with h | h
      · have h5 := hall k h
        have h6 := hnt k (Nat.le_refl _)
        rw [getD_ff (by omega)] at h6
        have : listed.getD k true = false := h6
        rw [h5] at this; cases this
      · omega
    refine tail_any hB 0 ops.size (by omega) h4 0 listed _ W hsz (fun j hj => Iff.intro (fun _ => by omega) (fun _ => hall j (by omega))) (Nat.le_refl _) ?_
    have := htail u W hEw (fun j hj => hR j hj (by rw [getD_ff (by omega)]; exact hall j (by omega)) W (hEr W))
    simpa [hkn, wpOps] using this
  | succ f ih =>
    intro listed u W hsz hlc hnt hun hEw hR
    by_cases hdone : ∀ j, j < k → listed.getD j false = true
    · -- all of the first k have come up
      have hup : Upto k listed := by
        intro j hj
        constructor
        · intro hh
          rcases Nat.lt_or_ge j k with h | h
          · exact h
          · have := hnt j h
            rw [getD_ff hj] at this
            have h5 : listed.getD j true = false := this
            rw [hh] at h5
            cases h5
        · intro hh
          exact (getD_ff hj true).trans (hdone j hh)
      refine tail_any hB (ops.size - k) k (by omega) (Nat.le_refl _) (f + 1) listed _ W hsz hup ?_ (htail u W hEw (fun j hj => hR j hj (hdone j hj) W (hEr W)))
      refine Nat.le_trans ?_ hun
      have hsub : ((List.range' k (ops.size - k)).filter fun i => !listed.getD i true).length ≤ unl ops.size listed := by
        unfold unl
        have : List.range ops.size = List.range k ++ List.range' k (ops.size - k) := by
          rw [List.range_eq_range', List.range_eq_range']
          have := @List.range'_append_1 0 k (ops.size - k)
          rw [Nat.zero_add, Nat.add_sub_cancel' h4] at this
          exact this.symm
        rw [this, List.filter_append, List.length_append]
        omega
      have hfull : ((List.range' k (ops.size - k)).filter fun i => !listed.getD i true) = List.range' k (ops.size - k) := by
        rw [List.filter_eq_self]
        intro j hj
        obtain ⟨hj1, hj2⟩ := List.mem_range'_1.1 hj
        have := hnt j hj1
        rw [getD_ff (by omega)] at this
        have h5 : listed.getD j true = false := this
        simpa using h5
      rw [hfull] at hsub
      simpa using hsub
    · -- one of the first k has not
      have hex : ∃ j, j < k ∧ listed.getD j false = false := by
        apply Classical.byContradiction
        intro hno
        apply hdone
        intro j hj
        cases hh : listed.getD j false
        · exact absurd ⟨j, hj, hh⟩ hno
        · rfl
      -- the smallest one is ready
      have hready : ∃ j, j < k ∧ j ∈ Region.ready .any ops listed := by
        obtain ⟨j, hj, hjf⟩ := hex
        induction j using Nat.strongRecOn with
        | _ j ihj =>
          by_cases hpre : ∃ i, i < j ∧ listed.getD i false = false
          · obtain ⟨i, hi, hif⟩ := hpre
            exact ihj i hi (by omega) hif
          · refine ⟨j, hj, ready_iff.2 ⟨by rw [getD_ff (by omega)]; exact hjf, ops[j]'(by omega), by simp [show j < ops.size by omega], fun e he => ?_⟩⟩
            have := h1 j _ (by simp [show j < ops.size by omega]) e he
            cases hh : listed.getD e false
            · exact absurd ⟨e, this, hh⟩ hpre
            · rfl
      obtain ⟨j0, hj0, hj0r⟩ := hready
      refine ⟨fun h0 => (by rw [h0] at hj0r; cases hj0r), fun i hi => ?_⟩
      obtain ⟨hi1, o, ho, hoe⟩ := ready_iff.1 hi
      have hlt := (Array.getElem?_eq_some_iff.1 ho).1
      -- it is one of the first k
      have hik : i < k := by
        rcases Nat.lt_or_ge i k with h | h
        · exact h
        · exfalso
          apply hdone
          intro j hj
          have hin := h3 i h hlt j (by omega)
          have hspec := clos_spec (hlc.set hi) ops.toList [] (fun j => by simp) (fun i _ j hj => by simp at hj) i (by rw [Array.getD_eq_getD_getElem?]; simp [show i < listed.size by omega]) j hin
          rwa [getD_set_ne false (by omega)] at hspec
      have hdeps : ∀ j, (∃ o, ops[i]? = some o ∧ j ∈ edgesOf o) → R j (u j) W := by
        rintro j ⟨o', ho', hj⟩
        have hj1 := h1 i o' ho' j hj
        obtain rfl : o = o' := Option.some.inj (ho.symm.trans ho')
        exact hR j (by omega) (hoe j hj) W (hEr W)
      have hs := hstep i hik u W hEw hdeps o ho
      have hdst : dstOf ops i = o.dst := by simp [dstOf, ho]
      have hup : ∀ v, (puts ops u k a).put o.dst v = puts ops (upd u i v) k a := fun v => by
        rw [← hdst]; exact puts_upd hik (fun j hj hne => h2 i hik j hj hne)
      have hrec : ∀ v W', E W W' → (∀ W'', E W' W'' → R i v W'') → wpAny P .any ops Q f (listed.setIfInBounds i true) (puts ops (upd u i v) k a) W' := by
        intro v W' hE hRv
        refine ih _ _ W' (by simpa using hsz) (hlc.set hi) (fun j hj => by rw [getD_set_ne false (by omega)]; exact hnt j hj) ?_ (hEt hEw hE) ?_
        · have := unl_set (n := ops.size) hsz hi1
          omega
        · intro j hj hl W'' hE2
          by_cases e : j = i
          · subst e; simpa [upd] using hRv W'' hE2
          · rw [getD_set_ne false (Ne.symm e)] at hl
            simpa [upd, e] using hR j hj hl W'' (hEt hE hE2)
      unfold wpOp
      rw [ho]
      simp only []
      split
      · rename_i hw
        rw [if_pos hw] at hs
        refine .inl (Oper.wp_mono ?_ hs)
        rintro a' W' ⟨v, rfl, hE, hRv⟩
        rw [hup]
        exact hrec v W' hE hRv
      · rename_i hw
        rw [if_neg hw] at hs
        rw [hup]
        exact hrec undef W (hEr W) hs
end
end Go.Proofs.Gr
