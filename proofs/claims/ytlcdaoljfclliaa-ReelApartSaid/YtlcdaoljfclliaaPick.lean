/- Pick of the reference: which of n things a raw number speaks of. -/
import Derived.Test.YtlcdaoljfclliaaProg
import Derived.Test.YtlcdaoljfclliaaBase
namespace Go.Proofs.Ytlcdaoljfclliaa
open Go.RowKit

def pickF (c n : Int) : Int := if c < 0 then (-(c + 1)) % n else c % n
theorem pickF_bd (c n : Int) (h : 1 ≤ n) : 0 ≤ pickF c n ∧ pickF c n < n := by
  unfold pickF
  split
  · exact ⟨Int.emod_nonneg _ (by omega), Int.emod_lt_of_pos _ (by omega)⟩
  · exact ⟨Int.emod_nonneg _ (by omega), Int.emod_lt_of_pos _ (by omega)⟩
/-- A number fits an int64. -/
def I64 (n : Int) : Prop := -9223372036854775808 ≤ n ∧ n ≤ 9223372036854775807
theorem I64.of_wf {n : Int} (h : (Lit.int .i64 n).wf = true) : I64 n := by
  simpa [I64, Lit.wf, IntKind.min, IntKind.max, IntKind.signed, IntKind.bits] using h

theorem pick_any (c n : Int) (w : World) (hc : I64 c) (n0 : 1 ≤ n) (n1 : n ≤ 4294967296) :
    Calls Try.prog 22 #[.int .i64 c, .int .i64 n] w fun e w' => e = .returned (.int .i64 (pickF c n)) ∧ w = w' := by
  obtain ⟨c0, c1⟩ := hc
  by_cases h : c < 0
  · have E : Hid (pickF c n = -((c + 1).tmod n)) := hid (by unfold pickF; rw [if_pos h, ← Int.neg_tmod, Int.tmod_eq_emod_of_nonneg (by omega)])
    have mb := pickF_bd c n n0
    rw [E.out] at mb
    obtain ⟨m0, m1⟩ := mb
    go_enter Try.func22, Try.ntmps22
    go_wp2_with fail
    go_ret
    exact ⟨ret_int E.out.symm, rfl⟩
  · have E : Hid (pickF c n = c % n) := hid (if_neg h)
    have m0 : 0 ≤ c % n := Int.emod_nonneg _ (by omega)
    have m1 : c % n < n := Int.emod_lt_of_pos _ (by omega)
    go_enter Try.func22, Try.ntmps22
    go_wp2_with fail
    go_ret
    exact ⟨ret_int E.out.symm, rfl⟩
end Go.Proofs.Ytlcdaoljfclliaa
