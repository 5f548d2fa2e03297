
/- Plain laws for TopGuessed: rows of errors, texts that can have been sent, keys by which a number was coded. No program in sight. -/
namespace Go.Proofs.Tp
set_option linter.unusedVariables false
abbrev Bytes := List UInt8
abbrev Row := Nat → Int
def farF : Int := 1048576
def begunRow (rd : Bytes) : Row
  | 0 => 0
  | k + 1 => if k + 1 ≤ rd.length ∧ rd[k]? = some 32 then min farF (begunRow rd k + 1) else farF
def o2F (rd : Bytes) (r : Row) (sg : UInt8) (k : Nat) : Int := if rd[k]? = some sg then min (r (k + 1) + 1) (r k) else r (k + 1) + 1
def o3F (rd : Bytes) (r : Row) (sg : UInt8) (k : Nat) : Int := if 1 ≤ k ∧ sg = 45 ∧ rd[k - 1]? = some 46 ∧ rd[k]? = some 46 then min (o2F rd r sg k) (r (k - 1) + 1) else o2F rd r sg k
def o4F (rd : Bytes) (r b : Row) (last sg : UInt8) (k : Nat) : Int := if sg = 46 ∧ last = 46 ∧ rd[k]? = some 45 then min (o3F rd r sg k) (b k + 1) else o3F rd r sg k
def signRow (rd : Bytes) (r b : Row) (last sg : UInt8) : Row
  | 0 => min (r 0 + 1) farF
  | k + 1 => if rd.length < k + 1 then farF else
      min (if rd[k]? = some 32 then min (o4F rd r b last sg k) (signRow rd r b last sg k + 1) else o4F rd r b last sg k) farF
def afterF (rd : Bytes) : Row → Row → UInt8 → Bytes → Row
  | r, b, l, [] => r
  | r, b, l, s :: ss => afterF rd (signRow rd r b l s) r s ss
def zeroRow : Row := fun _ => 0
def afterRow (rd : Bytes) (r : Row) (ss : Bytes) : Row := afterF rd r zeroRow 32 ss
def sameRow (r b : Row) : Bool := (List.range 41).all fun k => r k == b k
def hopelessF (rd : Bytes) (e : Int) (r : Row) : Bool := if sameRow r (begunRow rd) then false else !((List.range (rd.length + 1)).any fun k => decide (r k ≤ e))
def lead (text : List Nat) (s : Bytes) : Bytes := if text = [] then s else 32 :: s
def addF (ls : List Bytes) (rd : Bytes) (e : Int) : Nat → List Nat → Row → List (List Nat)
  | 0, text, r => if hopelessF rd e r then [] else if r rd.length ≤ e then [text] else []
  | m + 1, text, r => if hopelessF rd e r then [] else (List.range ls.length).flatMap fun n => addF ls rd e m (text ++ [n]) (afterRow rd r (lead text (ls.getD n [])))
def textsF (ls : List Bytes) (rd : Bytes) (e : Int) (letters : Nat) : List (List Nat) := (List.range (letters + 1)).flatMap fun n => addF ls rd e n [] (begunRow rd)

/-- steps that explain what is read by what is sent, with so many errors -/
inductive Ex : Bytes → Bytes → Nat → Prop
  | nil : Ex [] [] 0
  | copy {s r n} (c) : Ex s r n → Ex (c :: s) (c :: r) n
  | miss {s r n} (c) : Ex s r n → Ex (c :: s) r (n + 1)
  | split {s r n} : Ex s r n → Ex (45 :: s) (46 :: 46 :: r) (n + 1)
  | join {s r n} : Ex s r n → Ex (46 :: 46 :: s) (45 :: r) (n + 1)
  | gap {s r n} : Ex s r n → Ex s (32 :: r) (n + 1)

theorem Ex.len {s r n} (h : Ex s r n) : r.length ≤ s.length + n := by
  induction h <;> simp only [List.length_cons, List.length_nil] <;> omega

def Closed (rd : Bytes) (r : Row) : Prop := ∀ k, rd[k]? = some 32 → r (k + 1) ≤ r k + 1
theorem lt_of_get {rd : Bytes} {k : Nat} {c : UInt8} (h : rd[k]? = some c) : k < rd.length := by
  rcases Nat.lt_or_ge k rd.length with h1 | h1
  · exact h1
  · rw [List.getElem?_eq_none h1] at h; cases h
theorem begun_closed (rd : Bytes) : Closed rd (begunRow rd) := by
  intro k h
  have := lt_of_get h
  rw [begunRow, if_pos ⟨by omega, h⟩]
  omega
theorem signRow_closed (rd : Bytes) (r b : Row) (l s : UInt8) : Closed rd (signRow rd r b l s) := by
  intro k h
  have := lt_of_get h
  rw [signRow, if_neg (by omega), if_pos h]
  omega
theorem o3_le {rd : Bytes} {r : Row} {sg : UInt8} {k : Nat} : o3F rd r sg k ≤ o2F rd r sg k := by
  unfold o3F; split <;> omega
theorem o4_le {rd : Bytes} {r b : Row} {l sg : UInt8} {k : Nat} : o4F rd r b l sg k ≤ o3F rd r sg k := by
  unfold o4F; split <;> omega
theorem sign_le {rd : Bytes} {r b : Row} {l sg : UInt8} {k : Nat} (h : k < rd.length) : signRow rd r b l sg (k + 1) ≤ o4F rd r b l sg k := by
  rw [signRow, if_neg (by omega)]
  split <;> omega
theorem sign_copy {rd : Bytes} {r b : Row} {l sg : UInt8} {k : Nat} (h : rd[k]? = some sg) : signRow rd r b l sg (k + 1) ≤ r k := by
  have h1 := sign_le (r := r) (b := b) (l := l) (sg := sg) (lt_of_get h)
  have h2 := o4_le (rd := rd) (r := r) (b := b) (l := l) (sg := sg) (k := k)
  have h3 := o3_le (rd := rd) (r := r) (sg := sg) (k := k)
  have h4 : o2F rd r sg k ≤ r k := by unfold o2F; rw [if_pos h]; omega
  omega
theorem sign_miss {rd : Bytes} {r b : Row} {l sg : UInt8} {k : Nat} (h : k ≤ rd.length) : signRow rd r b l sg k ≤ r k + 1 := by
  cases k with
  | zero => rw [signRow]; omega
  | succ k =>
    have h1 := sign_le (rd := rd) (r := r) (b := b) (l := l) (sg := sg) (k := k) (by omega)
    have h2 := o4_le (rd := rd) (r := r) (b := b) (l := l) (sg := sg) (k := k)
    have h3 := o3_le (rd := rd) (r := r) (sg := sg) (k := k)
    have h4 : o2F rd r sg k ≤ r (k + 1) + 1 := by unfold o2F; split <;> omega
    omega
theorem sign_split {rd : Bytes} {r b : Row} {l : UInt8} {k : Nat} (h : rd[k]? = some 46) (h' : rd[k + 1]? = some 46) : signRow rd r b l 45 (k + 2) ≤ r k + 1 := by
  have h1 := sign_le (r := r) (b := b) (l := l) (sg := 45) (lt_of_get h')
  have h2 := o4_le (rd := rd) (r := r) (b := b) (l := l) (sg := 45) (k := k + 1)
  have h3 : o3F rd r 45 (k + 1) ≤ r k + 1 := by
    unfold o3F
    rw [if_pos ⟨by omega, rfl, by simpa using h, h'⟩]
    simp only [Nat.add_sub_cancel]
    omega
  have : k + 2 = k + 1 + 1 := rfl
  rw [this]
  omega
theorem sign_join {rd : Bytes} {r b : Row} {k : Nat} (h : rd[k]? = some 45) : signRow rd r b 46 46 (k + 1) ≤ b k + 1 := by
  have h1 := sign_le (r := r) (b := b) (l := 46) (sg := 46) (lt_of_get h)
  have h3 : o4F rd r b 46 46 k ≤ b k + 1 := by
    unfold o4F
    rw [if_pos ⟨rfl, rfl, h⟩]
    omega
  omega
theorem get_of_drop {rd : Bytes} {k : Nat} {c : UInt8} {r : Bytes} (h : rd.drop k = c :: r) : rd[k]? = some c ∧ rd.drop (k + 1) = r := by
  constructor
  · have : (rd.drop k)[0]? = some c := by rw [h]; rfl
    simpa using this
  · rw [← List.drop_drop, h]
    rfl
/-- one letter's signs -/
theorem after_ex {sent read : Bytes} {n : Nat} (h : Ex sent read n) : ∀ (rd : Bytes) (ss tail : Bytes) (r b : Row) (l : UInt8) (k : Nat) (c : Int), sent = ss ++ tail → (tail = [] ∨ ∃ t, tail = 32 :: t) → read = rd.drop k → k ≤ rd.length → r k ≤ c → Closed rd r →
    ∃ (k' : Nat) (c' : Int) (n' : Nat), c' + n' = c + n ∧ Ex tail (rd.drop k') n' ∧ k' ≤ rd.length ∧ afterF rd r b l ss k' ≤ c' ∧ Closed rd (afterF rd r b l ss) := by
  induction h with
  | nil =>
    intro rd ss tail r b l k c h1 h2 h3 h4 h5 h6
    obtain ⟨rfl, rfl⟩ : ss = [] ∧ tail = [] := by simpa using h1.symm
    exact ⟨k, c, 0, rfl, by rw [← h3]; exact .nil, h4, h5, h6⟩
  | @copy s r' n g he ih =>
    intro rd ss tail r b l k c h1 h2 h3 h4 h5 h6
    cases ss with
    | nil => exact ⟨k, c, n, rfl, by rw [← h3]; simp only [List.nil_append] at h1; rw [← h1]; exact .copy g he, h4, h5, h6⟩
    | cons a ss =>
      simp only [List.cons_append, List.cons.injEq] at h1
      obtain ⟨rfl, h1⟩ := h1
      obtain ⟨hg, hd⟩ := get_of_drop h3.symm
      exact ih rd ss tail _ r g (k + 1) c h1 h2 hd.symm (by have := lt_of_get hg; omega) (Int.le_trans (sign_copy hg) h5) (signRow_closed _ _ _ _ _)
  | @miss s r' n g he ih =>
    intro rd ss tail r b l k c h1 h2 h3 h4 h5 h6
    cases ss with
    | nil => exact ⟨k, c, n + 1, rfl, by rw [← h3]; simp only [List.nil_append] at h1; rw [← h1]; exact .miss g he, h4, h5, h6⟩
    | cons a ss =>
      simp only [List.cons_append, List.cons.injEq] at h1
      obtain ⟨rfl, h1⟩ := h1
      obtain ⟨k', c', n', g1, g2⟩ := ih rd ss tail (signRow rd r b l g) r g k (c + 1) h1 h2 h3 h4 (Int.le_trans (sign_miss h4) (by omega)) (signRow_closed _ _ _ _ _)
      exact ⟨k', c', n', by omega, g2⟩
  | @split s r' n he ih =>
    intro rd ss tail r b l k c h1 h2 h3 h4 h5 h6
    cases ss with
    | nil => exact ⟨k, c, n + 1, rfl, by rw [← h3]; simp only [List.nil_append] at h1; rw [← h1]; exact .split he, h4, h5, h6⟩
    | cons a ss =>
      simp only [List.cons_append, List.cons.injEq] at h1
      obtain ⟨rfl, h1⟩ := h1
      obtain ⟨hg, hd⟩ := get_of_drop h3.symm
      obtain ⟨hg', hd'⟩ := get_of_drop hd
      obtain ⟨k', c', n', g1, g2⟩ := ih rd ss tail (signRow rd r b l 45) r 45 (k + 2) (c + 1) h1 h2 hd'.symm (by have := lt_of_get hg'; omega) (Int.le_trans (sign_split (b := b) (l := l) hg hg') (by omega)) (signRow_closed _ _ _ _ _)
      exact ⟨k', c', n', by omega, g2⟩
  | @join s r' n he ih =>
    intro rd ss tail r b l k c h1 h2 h3 h4 h5 h6
    cases ss with
    | nil => exact ⟨k, c, n + 1, rfl, by rw [← h3]; simp only [List.nil_append] at h1; rw [← h1]; exact .join he, h4, h5, h6⟩
    | cons a ss =>
      simp only [List.cons_append, List.cons.injEq] at h1
      obtain ⟨rfl, h1⟩ := h1
      cases ss with
      | nil =>
        rcases h2 with rfl | ⟨t, rfl⟩
        · simp at h1
        · simp only [List.nil_append, List.cons.injEq] at h1
          exact absurd h1.1 (by decide)
      | cons a ss =>
        simp only [List.cons_append, List.cons.injEq] at h1
        obtain ⟨rfl, h1⟩ := h1
        obtain ⟨hg, hd⟩ := get_of_drop h3.symm
        obtain ⟨k', c', n', g1, g2⟩ := ih rd ss tail (signRow rd (signRow rd r b l 46) r 46 46) (signRow rd r b l 46) 46 (k + 1) (c + 1) h1 h2 hd.symm (by have := lt_of_get hg; omega) (Int.le_trans (sign_join hg) (by omega)) (signRow_closed _ _ _ _ _)
        exact ⟨k', c', n', by omega, g2⟩
  | @gap s r' n he ih =>
    intro rd ss tail r b l k c h1 h2 h3 h4 h5 h6
    obtain ⟨hg, hd⟩ := get_of_drop h3.symm
    obtain ⟨k', c', n', g1, g2⟩ := ih rd ss tail r b l (k + 1) (c + 1) h1 h2 hd.symm (by have := lt_of_get hg; omega) (Int.le_trans (h6 k hg) (by omega)) h6
    exact ⟨k', c', n', by omega, g2⟩
theorem ex_end {s read : Bytes} {n : Nat} (h : Ex s read n) : ∀ (rd : Bytes) (r : Row) (k : Nat) (c : Int), s = [] → read = rd.drop k → k ≤ rd.length → r k ≤ c → Closed rd r → r rd.length ≤ c + n := by
  induction h with
  | nil =>
    intro rd r k c _ h3 h4 h5 h6
    have : rd.length - k = 0 := by rw [← List.length_drop, ← h3]; rfl
    obtain rfl : k = rd.length := by omega
    omega
  | copy => intro rd r k c h; cases h
  | miss => intro rd r k c h; cases h
  | split => intro rd r k c h; cases h
  | join => intro rd r k c h; cases h
  | @gap s r' n he ih =>
    intro rd r k c h1 h3 h4 h5 h6
    obtain ⟨hg, hd⟩ := get_of_drop h3.symm
    have := ih rd r (k + 1) (c + 1) h1 hd.symm (by have := lt_of_get hg; omega) (Int.le_trans (h6 k hg) (by omega)) h6
    omega
def remF (ls : List Bytes) : List Nat → List Nat → Bytes
  | _, [] => []
  | pre, t :: ts => lead pre (ls.getD t []) ++ remF ls (pre ++ [t]) ts
theorem rem_head (ls : List Bytes) (pre ts : List Nat) (h : pre ≠ []) : remF ls pre ts = [] ∨ ∃ t, remF ls pre ts = 32 :: t := by
  cases ts with
  | nil => exact .inl rfl
  | cons t ts => exact .inr ⟨_, by rw [remF, lead, if_neg h]; rfl⟩
theorem not_hopeless {rd : Bytes} {e : Int} {r : Row} {k : Nat} (hk : k ≤ rd.length) (h : r k ≤ e) : hopelessF rd e r = false := by
  unfold hopelessF
  split
  · rfl
  · have : ((List.range (rd.length + 1)).any fun k => decide (r k ≤ e)) = true := List.any_eq_true.2 ⟨k, List.mem_range.2 (by omega), by simpa using h⟩
    rw [this]
    rfl
theorem add_mem (ls : List Bytes) (rd : Bytes) (e : Int) : ∀ (ts pre : List Nat) (r : Row) (k : Nat) (c : Int) (n : Nat), (∀ t ∈ ts, t < ls.length) → Ex (remF ls pre ts) (rd.drop k) n → k ≤ rd.length → r k ≤ c → c + n ≤ e → Closed rd r →
    pre ++ ts ∈ addF ls rd e ts.length pre r
  | [], pre, r, k, c, n, ht, hx, hk, hr, he, hc => by
    rw [List.length_nil, addF, not_hopeless hk (by omega)]
    have := ex_end hx rd r k c rfl rfl hk hr hc
    rw [if_neg (by simp), if_pos (by omega)]
    simp
  | t :: ts, pre, r, k, c, n, ht, hx, hk, hr, he, hc => by
    rw [List.length_cons, addF, not_hopeless hk (by omega), if_neg (by simp)]
    obtain ⟨k', c', n', g1, g2, g3, g4, g5⟩ := after_ex hx rd (lead pre (ls.getD t [])) (remF ls (pre ++ [t]) ts) r zeroRow 32 k c rfl (rem_head ls _ _ (by simp)) rfl hk hr hc
    refine List.mem_flatMap.2 ⟨t, List.mem_range.2 (ht t List.mem_cons_self), ?_⟩
    have := add_mem ls rd e ts (pre ++ [t]) (afterRow rd r (lead pre (ls.getD t []))) k' c' n' (fun u hu => ht u (List.mem_cons_of_mem _ hu)) g2 g3 g4 (by omega) g5
    simpa using this
/-- what was sent is among the texts -/
theorem texts_mem (ls : List Bytes) (rd : Bytes) (e : Int) (letters : Nat) (ts : List Nat) (n : Nat) (ht : ∀ t ∈ ts, t < ls.length) (hl : ts.length ≤ letters) (hx : Ex (remF ls [] ts) rd n) (hn : (n : Int) ≤ e) : ts ∈ textsF ls rd e letters := by
  refine List.mem_flatMap.2 ⟨ts.length, List.mem_range.2 (by omega), ?_⟩
  have := add_mem ls rd e ts [] (begunRow rd) 0 0 n ht (by simpa using hx) (Nat.zero_le _) (Int.le_refl _) (by omega) (begun_closed rd)
  simpa using this
theorem add_len (ls : List Bytes) (rd : Bytes) (e : Int) : ∀ (m : Nat) (pre : List Nat) (r : Row), ∀ t ∈ addF ls rd e m pre r, t.length = pre.length + m ∧ ((∀ x ∈ pre, x < ls.length) → ∀ x ∈ t, x < ls.length)
  | 0, pre, r, t, h => by
    rw [addF] at h
    split at h
    · cases h
    · split at h
      · rw [List.mem_singleton.1 h]; exact ⟨rfl, id⟩
      · cases h
  | m + 1, pre, r, t, h => by
    rw [addF] at h
    split at h
    · cases h
    · obtain ⟨n, hn, h⟩ := List.mem_flatMap.1 h
      obtain ⟨h1, h2⟩ := add_len ls rd e m _ _ t h
      refine ⟨by simp at h1; omega, fun hp => h2 fun x hx => ?_⟩
      rcases List.mem_append.1 hx with hx | hx
      · exact hp x hx
      · rw [List.mem_singleton.1 hx]; exact List.mem_range.1 hn
theorem texts_len {ls : List Bytes} {rd : Bytes} {e : Int} {letters : Nat} {t : List Nat} (h : t ∈ textsF ls rd e letters) : t.length ≤ letters ∧ ∀ x ∈ t, x < ls.length := by
  obtain ⟨m, hm, h⟩ := List.mem_flatMap.1 h
  obtain ⟨h1, h2⟩ := add_len ls rd e m _ _ t h
  have := List.mem_range.1 hm
  exact ⟨by simp at h1; omega, h2 (fun x hx => by cases hx)⟩
end Go.Proofs.Tp
