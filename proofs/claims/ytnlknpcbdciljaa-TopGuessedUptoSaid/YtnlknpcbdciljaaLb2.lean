import Derived.Test.YtnlknpcbdciljaaLa9
import Derived.Test.YtnlknpcbdciljaaOwn
/- Copies of lists. -/
namespace Go.Proofs.Tp
open Go.RowKit Go.Proofs.Gr
set_option linter.unusedVariables false
set_option linter.unusedSimpArgs false
set_option maxRecDepth 100000
attribute [local go_sem] below_alloc' below_drewN' below_drew' below_set' Below.refl
theorem inf9 : (Try.prog.info? 9).map (fun i => (i.zero, i.size, i.bytes)) = some (some (.string ⟨#[]⟩), 1, 16) := by kernel_rfl
theorem list_35 (xs : List Int) (A : Option Addr) (c : Nat) (w : World) (hx : SlA intK w A xs) (hl : xs.length ≤ 1048576) :
    Calls Try.prog 35 #[.slice A xs.length c] w fun e w' => ∃ v, e = .returned v ∧ OwX intK 3 w w' v xs := by
  have hO := Lib.hid (Ow.lit (k := intK) (e := 3) (Ext.refl w) (xs := []) [] [] rfl rfl (by decide) (fun i h => by simp at h))
  by_cases hne : xs = []
  · subst hne
    cases A with
    | none =>
      go_enter Try.func35, Try.ntmps35
      go_wp2
      go_ret
      exact ⟨_, rfl, w, Ext.refl w, hO.out⟩
    | some a0 =>
      go_enter Try.func35, Try.ntmps35
      go_wp2
      go_ret
      exact ⟨_, rfl, w, Ext.refl w, hO.out⟩
  · go_enter Try.func35, Try.ntmps35
    go_wp2_with (first
      | (at_builtin; refine appS (k := intK) (w0 := w) (ys := xs) A c _ _ 26 (.int .i64 0) 8 rfl rfl Try.underlying26 inf3 rfl (by decide) (by decide) rfl rfl hO.out hx (by simp; omega) hne ?_; intro v1 W3 hO3 hg3))
    go_ret
    exact ⟨_, rfl, w, Ext.refl w, by simpa using hO3⟩
end Go.Proofs.Tp
