import Derived.Test.YtnlknpcbdciljaaGrow
/- Words on memory: what lies in a world and stays there in every later one. -/
namespace Go.Proofs.Tp
open Go.RowKit
/-- W' is later than W: whatever lay there lies there as it did. -/
abbrev Ext (W W' : World) : Prop := Below W.heap.size W W'
theorem below_alloc' {B : Nat} {w W : World} (h : Below B w W) (hB : B ≤ W.heap.size) (o : Obj) : Below B w (W.alloc o) := h.alloc hB o
theorem below_drewN' {B : Nat} {w W : World} (h : Below B w W) (n : Nat) : Below B w (W.drewN n) := ⟨h.os, h.tape, h.output, h.size, h.block⟩
theorem below_drew' {B : Nat} {w W : World} (h : Below B w W) : Below B w W.drew := ⟨h.os, h.tape, h.output, h.size, h.block⟩
theorem below_set' {B : Nat} {w W : World} (h : Below B w W) {p : Addr} (hp : B ≤ p.block) (u : Value) : Below B w (W.setCell p u) := h.setCell hp u
theorem Ext.refl (w : World) : Ext w w := Below.refl _ _
theorem Ext.trans {a b c : World} (h : Ext a b) (k : Ext b c) : Ext a c := Below.trans h (k.mono h.size)
theorem e1 (w : World) (o : Obj) : Ext w (w.alloc o) := (Ext.refl w).alloc (Nat.le_refl _) _
theorem Ext.al {w W : World} (h : Ext w W) (o : Obj) : Ext w (W.alloc o) := h.alloc h.size o
theorem Ext.dr {w W : World} (h : Ext w W) (n : Nat) : Ext w (W.drewN n) := below_drewN' h n
theorem Ext.st {w W : World} (h : Ext w W) {p : Addr} (hp : w.heap.size ≤ p.block) (u : Value) : Ext w (W.setCell p u) := h.setCell hp u
theorem e2 (w : World) (o p : Obj) : Ext w ((w.alloc o).alloc p) := (e1 w o).al p
theorem e3 (w : World) (o p q : Obj) : Ext w (((w.alloc o).alloc p).alloc q) := (e2 w o p).al q
/-- from a world w on, over a call made in a later world -/
theorem below_call {B : Nat} {w W W' : World} (h : Below B w W) (k : Ext W W') (hB : B ≤ W.heap.size) : Below B w W' := h.trans (k.mono hB)
/-- what a call leaves of what was there: for the walk -/
theorem ext3 {W W' : World} (h : Ext W W') : (∀ p : Addr, p.block < W.heap.size → W'.cell? p = W.cell? p) ∧ (∀ p : Addr, p.block < W.heap.size → W'.frozen? p = W.frozen? p) ∧ W.heap.size ≤ W'.heap.size :=
  ⟨fun _ hp => h.cell hp, fun _ hp => h.frozen hp, h.size⟩
theorem lt_of_cell {w : World} {a : Addr} {v : Value} (h : w.cell? a = some v) : a.block < w.heap.size := World.block_lt_of_cell? w a h
/-- the cells cs lie at (b, off), now and later -/
def At (w : World) (b off : Nat) (cs : List Value) : Prop := ∀ j, j < cs.length → ∀ W, Ext w W → W.cell? ⟨b, off + j, none⟩ = cs[j]?
theorem At.ext {w W : World} {b off : Nat} {cs : List Value} (h : At w b off cs) (e : Ext w W) : At W b off cs := fun j hj V hV => h j hj V (e.trans hV)
theorem At.mk {w : World} {b off : Nat} {cs : List Value} (h : ∀ j, j < cs.length → w.cell? ⟨b, off + j, none⟩ = cs[j]?) : At w b off cs := fun j hj W hW => by
  have := h j hj
  rw [hW.cell]
  · exact this
  · rw [List.getElem?_eq_getElem hj] at this
    exact lt_of_cell this

/-- How a value of a kind lies in cells. -/
structure Kd (α : Type) where
  sz : Nat
  rep : World → α → List Value → Prop
  len : ∀ {w x cs}, rep w x cs → cs.length = sz
  one : ∀ {w x cs}, rep w x cs → ∀ u ∈ cs, u.oneCell' = true
  ext : ∀ {w W x cs}, rep w x cs → Ext w W → rep W x cs

/-- A slice's elements, at an address. -/
def SlA {α : Type} (k : Kd α) (w : World) (A : Option Addr) (xs : List α) : Prop :=
  xs = [] ∨ ∃ b off, A = some ⟨b, off, none⟩ ∧ ∀ i (h : i < xs.length), ∃ cs, k.rep w xs[i] cs ∧ At w b (off + i * k.sz) cs
/-- A slice's value. -/
def Sl {α : Type} (k : Kd α) (w : World) (v : Value) (xs : List α) : Prop := ∃ A c, v = .slice A xs.length c ∧ xs.length ≤ c ∧ xs.length ≤ 1048576 ∧ SlA k w A xs
theorem SlA.ext {α : Type} {k : Kd α} {w W : World} {A : Option Addr} {xs : List α} (h : SlA k w A xs) (e : Ext w W) : SlA k W A xs := by
  rcases h with h | ⟨b, off, h1, h2⟩
  · exact .inl h
  · exact .inr ⟨b, off, h1, fun i hi => let ⟨cs, r, a⟩ := h2 i hi; ⟨cs, k.ext r e, a.ext e⟩⟩
theorem Sl.ext {α : Type} {k : Kd α} {w W : World} {v : Value} {xs : List α} (h : Sl k w v xs) (e : Ext w W) : Sl k W v xs := by
  obtain ⟨A, c, h1, h2, h3, h4⟩ := h
  exact ⟨A, c, h1, h2, h3, h4.ext e⟩
theorem Sl.nil {α : Type} (k : Kd α) (w : World) (A : Option Addr) (c : Nat) : Sl k w (.slice A 0 c) ([] : List α) := ⟨A, c, rfl, Nat.zero_le _, Nat.zero_le _, .inl rfl⟩
theorem Sl.at_ {α : Type} {k : Kd α} {w : World} {A : Option Addr} {xs : List α} (h : SlA k w A xs) (i : Nat) (hi : i < xs.length) :
    ∃ b off cs, A = some ⟨b, off, none⟩ ∧ k.rep w xs[i] cs ∧ At w b (off + i * k.sz) cs := by
  rcases h with h | ⟨b, off, h1, h2⟩
  · subst h; simp at hi
  · obtain ⟨cs, r, a⟩ := h2 i hi
    exact ⟨b, off, cs, h1, r, a⟩
def scalar {α : Type} (enc : α → Value) (h1 : ∀ x, (enc x).oneCell' = true) : Kd α where
  sz := 1
  rep := fun _ x cs => cs = [enc x]
  len := fun h => by rw [h]; rfl
  one := fun h u hu => by rw [h] at hu; rw [List.mem_singleton.1 hu]; exact h1 _
  ext := fun h _ => h
def intK : Kd Int := scalar (Value.int .i64) (fun _ => rfl)
def boolK : Kd Bool := scalar Value.bool (fun _ => rfl)
def strK : Kd ByteArray := scalar Value.string (fun _ => rfl)
def byteK : Kd UInt8 := scalar (fun b => Value.int .u8 b.toNat) (fun _ => rfl)
/-- a slice in one cell -/
def slK {α : Type} (k : Kd α) : Kd (List α) where
  sz := 1
  rep := fun w xs cs => ∃ v, cs = [v] ∧ Sl k w v xs
  len := fun ⟨_, h, _⟩ => by rw [h]; rfl
  one := fun ⟨v, h, A, c, hv, _⟩ u hu => by rw [h] at hu; rw [List.mem_singleton.1 hu, hv]; rfl
  ext := fun ⟨v, h, s⟩ e => ⟨v, h, s.ext e⟩
theorem at1 {w : World} {b o : Nat} {x : Value} (h : At w b o [x]) {W : World} (e : Ext w W) : W.cell? ⟨b, o, none⟩ = some x := h 0 (by simp) W e
theorem at2 {w : World} {b o : Nat} {x y : Value} (h : At w b o [x, y]) {W : World} (e : Ext w W) : W.cell? ⟨b, o, none⟩ = some x ∧ W.cell? ⟨b, o + 1, none⟩ = some y := ⟨h 0 (by simp) W e, h 1 (by simp) W e⟩
theorem at3 {w : World} {b o : Nat} {x y z : Value} (h : At w b o [x, y, z]) {W : World} (e : Ext w W) : W.cell? ⟨b, o, none⟩ = some x ∧ W.cell? ⟨b, o + 1, none⟩ = some y ∧ W.cell? ⟨b, o + 2, none⟩ = some z := ⟨h 0 (by simp) W e, h 1 (by simp) W e, h 2 (by simp) W e⟩
theorem at4 {w : World} {b o : Nat} {x y z u : Value} (h : At w b o [x, y, z, u]) {W : World} (e : Ext w W) : W.cell? ⟨b, o, none⟩ = some x ∧ W.cell? ⟨b, o + 1, none⟩ = some y ∧ W.cell? ⟨b, o + 2, none⟩ = some z ∧ W.cell? ⟨b, o + 3, none⟩ = some u := ⟨h 0 (by simp) W e, h 1 (by simp) W e, h 2 (by simp) W e, h 3 (by simp) W e⟩

/-! ### the kinds of this program -/
/-- a struct of whole numbers, bools and slices: its cells by a relation -/
def recK {α : Type} (n : Nat) (R : World → α → List Value → Prop) (hl : ∀ {w x cs}, R w x cs → cs.length = n) (h1 : ∀ {w x cs}, R w x cs → ∀ u ∈ cs, u.oneCell' = true) (he : ∀ {w W x cs}, R w x cs → Ext w W → R W x cs) : Kd α := ⟨n, R, hl, h1, he⟩
theorem sl_one {α : Type} {k : Kd α} {w : World} {v : Value} {xs : List α} (h : Sl k w v xs) : v.oneCell' = true := by
  obtain ⟨A, c, rfl, _⟩ := h
  rfl
structure CKey where
  mul : Int
  add : Int
  step : Int
structure Guess where
  at_ : Int
  plain : Int
def ckeyK : Kd CKey := recK 3 (fun _ x cs => cs = [.int .i64 x.mul, .int .i64 x.add, .int .i64 x.step]) (fun h => by rw [h]; rfl) (fun h => by rw [h]; simp [Value.oneCell']) (fun h _ => h)
def guessK : Kd Guess := recK 2 (fun _ x cs => cs = [.int .i64 x.at_, .int .i64 x.plain]) (fun h => by rw [h]; rfl) (fun h => by rw [h]; simp [Value.oneCell']) (fun h _ => h)
def inR (n lo hi : Int) : Bool := decide (lo ≤ n) && decide (n ≤ hi)
def keyB (s : Int) (k : CKey) : Bool := inR k.mul 1 (s - 1) && inR k.add 0 (s - 1) && inR k.step 0 (s - 1)
end Go.Proofs.Tp
