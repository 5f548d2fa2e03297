import Derived.Test.YtnlknpcbdciljaaLc7
import Derived.Test.YtnlknpcbdciljaaFl6
/- Rows of numbers that share their arrays: what an append leaves; slices.Clone. -/
namespace Go.Proofs.Tp
open Go.RowKit Go.Proofs.Gr
set_option linter.unusedVariables false
set_option linter.unusedSimpArgs false
set_option maxRecDepth 100000
attribute [local go_sem] below_alloc' below_drewN' below_drew' below_set' Below.refl
theorem CI_len (xs : List Nat) : (CI xs).length = xs.length := by simp [CI]
/-- v reads as xs, from block B on -/
def IR (B : Nat) (W : World) (v : Value) (xs : List Nat) : Prop := W.ownsRow B 3 1 v xs.length (CI xs)
theorem IR.nil (B : Nat) (W : World) : IR B W (.slice none 0 0) [] := World.ownsRow_nil _ _ _ _
theorem IR.kept {B : Nat} {W W' : World} {v : Value} {xs : List Nat} {row : Option Nat} (h : IR B W v xs) (hg : W.grownBy W' row) (hne : v.ownBlock = none ∨ v.ownBlock ≠ row) : IR B W' v xs := World.ownsRow.kept h hg hne
theorem IR.ext {B : Nat} {W W' : World} {v : Value} {xs : List Nat} (h : IR B W v xs) (e : Ext W W') : IR B W' v xs := h.kept (grownBy_ext e) (by cases v.ownBlock <;> simp)
theorem IR.mono {B B' : Nat} {W : World} {v : Value} {xs : List Nat} (h : IR B W v xs) (hb : B' ≤ B) : IR B' W v xs := ownsRow_mono h hb
theorem IR.form {B : Nat} {W : World} {v : Value} {xs : List Nat} (h : IR B W v xs) : (v = .slice none 0 0 ∧ xs = []) ∨ ∃ g cap cur, v = .slice (some ⟨g, 0, none⟩) xs.length cap ∧ B ≤ g ∧ W.heap[g]? = some (.cells cur 3 (0, 0)) ∧ xs.length ≤ cap ∧ cap ≤ maxLen ∧ cur.size = cap ∧ cur.toList.take xs.length = CI xs := by
  rcases h.2 with ⟨h1, h2⟩ | ⟨g, cap, cur, h1, h2, h3, h4, h5, h6, h7⟩
  · exact .inl ⟨h1, List.eq_nil_of_length_eq_zero h2⟩
  · exact .inr ⟨g, cap, cur, h1, h2, h3, h4, h5, by simpa using h6, by simpa using h7⟩
theorem IR.of {B : Nat} {W : World} {g cap : Nat} {cur : Array Value} {xs : List Nat} (h2 : B ≤ g) (h3 : W.heap[g]? = some (.cells cur 3 (0, 0))) (h4 : xs.length ≤ cap) (h5 : cap ≤ maxLen) (h6 : cur.size = cap) (h7 : cur.toList.take xs.length = CI xs) :
    IR B W (.slice (some ⟨g, 0, none⟩) xs.length cap) xs := ⟨by simp [CI_len], .inr ⟨g, cap, cur, rfl, h2, h3, h4, h5, by simpa using h6, by simpa using h7⟩⟩
theorem IR.block {B : Nat} {W : World} {v : Value} {xs : List Nat} (h : IR B W v xs) {g : Nat} (hg : v.ownBlock = some g) : B ≤ g ∧ g < W.heap.size ∧ ∃ cur, W.heap[g]? = some (.cells cur 3 (0, 0)) :=
  ⟨(World.ownsRow.lt h g hg).1, (World.ownsRow.lt h g hg).2, ownBlock_row h hg⟩
/-- a row lies in no block of another type -/
theorem IR.off {B : Nat} {W : World} {v : Value} {xs : List Nat} (h : IR B W v xs) {j : Nat} {cs : Array Value} {T : TypeId} {fr : Nat × Nat} (hk : W.heap[j]? = some (.cells cs T fr)) (hne : T ≠ 3) : v.ownBlock ≠ some j := by
  intro hv
  obtain ⟨_, _, cur, hc⟩ := h.block hv
  rw [hk] at hc
  injection hc with h1
  injection h1 with h2 h3 h4
  exact hne h3
theorem IR.sl {B : Nat} {W : World} {v : Value} {xs : List Nat} (h : IR B W v xs) (hl : xs.length ≤ 1048576) : Sl intK W v (xs.map fun x : Nat => (x : Int)) := by
  rcases h.form with ⟨rfl, rfl⟩ | ⟨g, cap, cur, rfl, hB, hg, hc, hm, hs, ht⟩
  · exact Sl.nil intK W none 0
  · refine ⟨some ⟨g, 0, none⟩, cap, by simp, by simpa using hc, by simpa using hl, .inr ⟨g, 0, rfl, fun i hi => ?_⟩⟩
    have hi' : i < xs.length := by simpa using hi
    refine ⟨[.int .i64 (xs[i] : Int)], by simp [intK, scalar], At.mk fun j hj => ?_⟩
    obtain rfl : j = 0 := by simpa using hj
    rw [show intK.sz = 1 from rfl, cell_of_row W g _ _ _ _ hg]
    have := congrArg (fun l => l[i]?) ht
    simp only [List.getElem?_take, if_pos hi'] at this
    simpa [CI, hi'] using this
/-- what an append to a row of block t leaves of the rows that read as a beginning of xs -/
def EE (B : Nat) (t : Option Nat) (xs : List Nat) (W W' : World) : Prop := W.grownBy W' t ∧ ∀ v ys, ys <+: xs → IR B W v ys → IR B W' v ys
theorem grownBy_but {W W' : World} (h : W.grownBy W' none) (t : Option Nat) : W.grownBy W' t := ⟨h.os, h.tape, h.output, h.size, fun i hi _ => h.block i hi (by simp)⟩
theorem EE.refl (B : Nat) (t : Option Nat) (xs : List Nat) (W : World) : EE B t xs W W := ⟨World.grownBy.refl _ _, fun _ _ _ h => h⟩
theorem EE.trans {B : Nat} {t : Option Nat} {xs : List Nat} {A C D : World} (h : EE B t xs A C) (k : EE B t xs C D) : EE B t xs A D := ⟨World.grownBy.trans h.1 k.1, fun v ys hp hi => k.2 v ys hp (h.2 v ys hp hi)⟩
theorem EE.of_ext {B : Nat} {t : Option Nat} {xs : List Nat} {W W' : World} (e : Ext W W') : EE B t xs W W' := ⟨grownBy_but (grownBy_ext e) t, fun v ys _ h => h.ext e⟩
theorem take_prefix {xs ys : List Nat} (h : ys <+: xs) : xs.take ys.length = ys := by
  obtain ⟨zs, rfl⟩ := h
  simp
theorem CI_take (xs : List Nat) (n : Nat) : (CI xs).take n = CI (xs.take n) := by simp [CI, List.map_take]
/-- append(v, n) -/
theorem app_in {B : Nat} {W : World} {v : Value} {pre : List Nat} (n gb : Nat) (ty : TypeId) (h : IR B W v pre) (hB : B ≤ W.heap.size) (hl : pre.length ≤ 1000) (hb : W.heap[gb]? = some (.cells #[.int .i64 n] 3 (0, 0))) :
    ∃ v1 W1, (Builtin.append_ #[26, 26] ty #[v, .slice (some ⟨gb, 0, none⟩) 1 1]).run Try.prog W = .ok v1 W1 ∧ IR B W1 v1 (pre ++ [n]) ∧ EE B v.ownBlock (pre ++ [n]) W W1 ∧ (v1.ownBlock = v.ownBlock ∨ v1.ownBlock = some W.heap.size) := by
  obtain ⟨i, hi, hz, h1, h2⟩ := info_parts inf3
  have hnews : ∀ j u, (CI [n])[j]? = some u → W.cell? ((⟨gb, 0, none⟩ : Addr).add j) = some u := World.news_of_block (cs := #[.int .i64 (n : Int)]) hb
  have h1c : ∀ u ∈ CI [n], u.oneCell' = true := by intro u hu; rw [List.mem_singleton.1 hu]; rfl
  have hCI : CI (pre ++ [n]) = CI pre ++ CI [n] := by simp [CI]
  have hml : pre.length + 1 ≤ maxLen := by unfold maxLen; omega
  have grown : ∀ (old : Nat), old < pre.length + 1 → ∀ W1, W1 = W.drew.alloc (.cells ((CI pre).toArray ++ (CI [n]).toArray ++ Builtin.zeroCells (Value.cells (.int .i64 0)) (grownCap W (pre.length + 1) old 3 - (pre.length + 1))) 3) →
      IR B W1 (.slice (some ⟨W.heap.size, 0, none⟩) (pre.length + 1) (grownCap W (pre.length + 1) old 3)) (pre ++ [n]) ∧ W.grownBy W1 none := by
    rintro old ho W1 rfl
    have hge := grownCap_ge W (pre.length + 1) old 3
    have hcm : grownCap W (pre.length + 1) old 3 ≤ maxLen := grownCap_le_maxLen W (pre.length + 1) old 3 hml
    refine ⟨⟨by simp [CI], .inr ⟨W.heap.size, _, _, by simp, hB, heap_alloc_new W.drew _, by simpa using hge, hcm, ?_, ?_⟩⟩, ⟨rfl, rfl, rfl, by simp, fun k hk _ => heap_alloc_old W.drew _ hk⟩⟩
    · simp only [Array.size_append, List.size_toArray, size_zeroCells, CI_len, Value.cells, List.length_singleton]
      simp
      omega
    · simp only [Array.toList_append, List.append_assoc]
      rw [← List.append_assoc, ← hCI]
      refine List.take_left' ?_
      simp [CI]
  rcases h.form with ⟨rfl, rfl⟩ | ⟨g, cap, cur, rfl, hbg, hg, hnc, hcm, hcs, htake⟩
  · have hr := run_append_nil (P := Try.prog) W 26 ty 3 i (.int .i64 0) Try.underlying26 hi hz ⟨gb, 0, none⟩ 1 1 (CI [n]) (by rw [h1]; rfl) hnews (by decide) (by decide) (by rw [h2]; decide)
    have hgr := grown 0 (by simp) _ rfl
    simp only [List.length_nil, Nat.zero_add] at hgr
    exact ⟨_, _, hr, by simpa [CI] using hgr.1, ⟨grownBy_but (by simpa [CI] using hgr.2) _, fun v ys _ hv => hv.kept (by simpa [CI] using hgr.2) (by cases v.ownBlock <;> simp)⟩, .inr rfl⟩
  · by_cases hroom : pre.length + 1 ≤ cap
    · obtain ⟨W1, hr, ho, hgr⟩ := run_append_fits (P := Try.prog) W B 26 ty 3 i 1 Try.underlying26 hi h1 g pre.length cap (CI pre) h ⟨gb, 0, none⟩ 1 1 (CI [n]) rfl hnews h1c hroom
      have ho' : IR B W1 (.slice (some ⟨g, 0, none⟩) (pre.length + 1) cap) (pre ++ [n]) := by
        unfold IR
        rw [hCI, List.length_append]
        exact ho
      refine ⟨_, W1, hr, ho', ⟨hgr, fun v ys hp hv => ?_⟩, .inl rfl⟩
      by_cases hvb : v.ownBlock = some g
      · rcases hv.form with ⟨rfl, rfl⟩ | ⟨g', cap', cur', rfl, hbg', hg', hnc', hcm', hcs', htake'⟩
        · exact IR.nil B W1
        · have : g' = g := by simpa [Value.ownBlock] using hvb
          subst this
          have : cap' = cap := by rw [hg] at hg'; injection hg' with e; injection e with e; rw [← hcs, ← hcs', e]
          subst this
          rcases ho'.form with ⟨e, _⟩ | ⟨g2, cap2, cur2, e, hb2, hg2, hn2, hm2, hs2, ht2⟩
          · cases e
          · injection e with e1 e2 e3
            injection e1 with e1
            injection e1 with e1
            subst e1 e3
            refine IR.of hbg hg2 hnc' hcm hs2 ?_
            have := congrArg (List.take ys.length) ht2
            rw [List.take_take, Nat.min_eq_left hp.length_le, CI_take, take_prefix hp] at this
            exact this
      · exact hv.kept hgr (.inr hvb)
    · have holds : ∀ j u, (CI pre)[j]? = some u → W.cell? ((⟨g, 0, none⟩ : Addr).add j) = some u := World.ownsRow.cells h (g := g) rfl
      have hr := run_append_grow (P := Try.prog) W 26 ty 3 i (.int .i64 0) Try.underlying26 hi hz ⟨g, 0, none⟩ pre.length cap (CI pre) (by rw [h1]; simp [CI]) holds ⟨gb, 0, none⟩ 1 1 (CI [n]) (by rw [h1]; rfl) hnews (by omega) (by omega) (growslice_fits (by omega) (by rw [h2]; omega))
      have hgr := grown cap (by omega) _ rfl
      exact ⟨_, _, hr, hgr.1, ⟨grownBy_but hgr.2 _, fun v ys _ hv => hv.kept hgr.2 (by cases v.ownBlock <;> simp)⟩, .inr rfl⟩
end Go.Proofs.Tp
