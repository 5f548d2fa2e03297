import Derived.Test.YtnlknpcbdciljaaLa7
import Derived.Test.YtnlknpcbdciljaaOwn
/- What is read of signs that are sent. -/
namespace Go.Proofs.Tp
open Go.RowKit Go.Proofs.Gr
set_option linter.unusedVariables false
set_option linter.unusedSimpArgs false
set_option maxRecDepth 100000
attribute [local go_sem] below_alloc' below_drewN' below_drew' below_set' Below.refl
def u16K : Kd Nat := recK 1 (fun _ x cs => cs = [.int .u16 (x : Int)] ∧ x < 65536) (fun h => by rw [h.1]; rfl) (fun h => by rw [h.1]; simp [Value.oneCell']) (fun h _ => h)
def WR (e : Ending) : Prop := ∃ n : Nat, e = .returned (.int .i64 n) ∧ n < 65536
theorem word_52 (xs : List Nat) (A : Option Addr) (c k : Nat) (w : World) (hx : SlA u16K w A xs) (hl : xs.length ≤ 1048576) (hk : k ≤ 1000000) :
    Calls Try.prog 52 #[.slice A xs.length c, .int .i64 k] w fun e w' => WR e ∧ w = w' := by
  by_cases h0 : xs.length = 0
  · have h0' : ((xs.length : Int) == 0) = true := by simpa using h0
    go_enter Try.func52, Try.ntmps52
    go_wp2
    go_ret
    exact ⟨⟨0, rfl, by decide⟩, rfl⟩
  · have h0' : ((xs.length : Int) == 0) = false := by rw [beq_eq_false_iff_ne]; omega
    have hm : k % xs.length < xs.length := Nat.mod_lt _ (by omega)
    have hmi : ((k : Int)).tmod (xs.length : Int) = ((k % xs.length : Nat) : Int) := by
      rw [Int.tmod_eq_emod_of_nonneg (by omega)]; rfl
    have hmi2 : ((k : Int)) % (xs.length : Int) = ((k % xs.length : Nat) : Int) := rfl
    obtain ⟨m, hmm⟩ : ∃ m, m = k % xs.length := ⟨_, rfl⟩
    rw [← hmm] at hm hmi hmi2
    obtain ⟨b, off, cs, rfl, ⟨hcs, h16⟩, hat⟩ := Sl.at_ hx m hm
    subst hcs
    simp only [show u16K.sz = 1 from rfl, Nat.mul_one] at hat
    have hc := at1 hat (Ext.refl w)
    obtain ⟨x, hxe⟩ : ∃ x, x = xs[m] := ⟨_, rfl⟩
    rw [← hxe] at hc h16
    have hm' : (m : Int) < (xs.length : Int) := by omega
    have hz : ¬ (xs.length : Int) = 0 := by omega
    clear hmm hxe hat hx
    go_enter Try.func52, Try.ntmps52
    go_wp2
    go_ret
    exact ⟨⟨x, rfl, h16⟩, rfl⟩
end Go.Proofs.Tp
