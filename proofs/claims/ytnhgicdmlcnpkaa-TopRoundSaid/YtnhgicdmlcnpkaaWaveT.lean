/- Waves: a table of the parts of a turn, in 60 binary digits; the program's powers stand close to it. -/
import Derived.Test.YtnhgicdmlcnpkaaWaveC
import Derived.Test.YtnhgicdmlcnpkaaFltErr
namespace Go.Proofs.Ytnhgicdmlcnpkaa
open Go.RowKit Ev Flt
set_option linter.unusedVariables false
set_option linter.unusedSimpArgs false
set_option maxRecDepth 20000
set_option maxHeartbeats 4000000

def cosL : List Int := [1152921504606846976, 1147369872436662991, 1130768441178740757, 1103277091691359535, 1065160580698383124, 1016785991037278313, 958619196450722178, 891220374967787610, 815238614083298888, 731405659690429196, 640528868967736374, 543483435088187080, 441203958630471860, 334675446864527722, 224923827593068887, 113006068906017470, 0]
def ctF (i : Nat) : Int := if i ≤ 16 then cosL.getD i 0 else if i ≤ 32 then -cosL.getD (32 - i) 0 else if i ≤ 48 then -cosL.getD (i - 32) 0 else cosL.getD (64 - i) 0
/-- The cosine of so many parts of a turn. -/
@[irreducible] def ct (i : Nat) : Int := ctF (i % 64)
theorem ct_mod (i : Nat) : ct (i % 64) = ct i := by unfold ct; rw [Nat.mod_mod]
theorem ct_per (i k : Nat) : ct (i + 64 * k) = ct i := by unfold ct; rw [Nat.add_mul_mod_self_left]
theorem ctF_half : ∀ i : Nat, i < 64 → ctF ((i + 32) % 64) = -ctF i := by decide +kernel
theorem ct_half (i : Nat) : ct (i + 32) = -ct i := by
  unfold ct
  rw [← ctF_half (i % 64) (Nat.mod_lt _ (by decide))]
  congr 1
  omega
def ctOk (i j : Nat) : Bool := decide (ctF i * ctF j - ctF ((i + 48) % 64) * ctF ((j + 48) % 64) - 1152921504606846976 * ctF ((i + j) % 64) ≤ 2305843009213693952) &&
  decide (1152921504606846976 * ctF ((i + j) % 64) - (ctF i * ctF j - ctF ((i + 48) % 64) * ctF ((j + 48) % 64)) ≤ 2305843009213693952) &&
  decide (ctF i * ctF ((j + 48) % 64) + ctF ((i + 48) % 64) * ctF j - 1152921504606846976 * ctF ((i + j + 48) % 64) ≤ 2305843009213693952) &&
  decide (1152921504606846976 * ctF ((i + j + 48) % 64) - (ctF i * ctF ((j + 48) % 64) + ctF ((i + 48) % 64) * ctF j) ≤ 2305843009213693952)
theorem ct_ok : ∀ i : Nat, i < 64 → ∀ j : Nat, j < 64 → ctOk i j = true := by decide +kernel
theorem ct_abs_ : ∀ i : Nat, i < 64 → -1152921504606846976 ≤ ctF i ∧ ctF i ≤ 1152921504606846976 := by decide +kernel
def finB (x : Nat) : Bool := match Ieee.double.read x with | .number .. => true | _ => false
theorem finB_ok {x : Nat} (h : finB x = true) : Flt.Fin x := by
  unfold finB at h
  split at h
  · exact ⟨_, _, _, by assumption⟩
  · cases h
def bit (n : Nat) : Nat := 2 ^ n
def nrB (x : Nat) (c : Int) : Bool := finB x && decide (V x * 1152921504606846976 - c * (bit 1074 : Nat) ≤ (bit 1085 : Nat)) && decide (c * (bit 1074 : Nat) - V x * 1152921504606846976 ≤ (bit 1085 : Nat))
def twOk (b : Bool) (m k : Nat) : Bool := nrB (pwC (rtB b (m + 1)) k).1 (ctF (k * 2 ^ (5 - m) % 64)) && nrB (pwC (rtB b (m + 1)) k).2 (bif b then ctF ((k * 2 ^ (5 - m) + 48) % 64) else ctF ((k * 2 ^ (5 - m) + 16) % 64))
theorem tw_ok : ∀ b : Bool, ∀ m : Nat, m < 6 → ∀ k : Nat, k < 2 ^ m → twOk b m k = true := by decide +kernel
end Go.Proofs.Ytnhgicdmlcnpkaa
