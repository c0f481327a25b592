/- Whole numbers that fit; what is made of raw numbers. -/
import Derived.Test.YtphdjmaebdmdmaaGreatDoorEvCon
namespace Go.Proofs.YtphdjmaebdmdmaaGreatDoor
open Go.RowKit
set_option linter.unusedVariables false
namespace Ev
theorem wrapI {x : Int} (h : -9223372036854775808 ≤ x) (h' : x ≤ 9223372036854775807) : IntKind.i64.wrap x = x := by
  have : (Lit.int .i64 x).wf = true := by simp [Lit.wf, IntKind.min, IntKind.max, IntKind.signed, IntKind.bits]; omega
  simp only [IntKind.wrap, IntKind.signed, IntKind.bits]
  simp
  omega
theorem wrapU8 {x : Int} (h : 0 ≤ x) (h' : x < 256) : IntKind.u8.wrap x = x := by
  simp [IntKind.wrap, IntKind.signed, IntKind.bits]; omega
theorem wrapU32 {x : Int} (h : 0 ≤ x) (h' : x < 4294967296) : IntKind.u32.wrap x = x := by
  simp [IntKind.wrap, IntKind.signed, IntKind.bits]; omega
structure In64 (n : Int) : Prop where
  lo : -9223372036854775808 ≤ n
  hi : n ≤ 9223372036854775807
theorem in64_iff {n : Int} : In64 n ↔ -9223372036854775808 ≤ n ∧ n ≤ 9223372036854775807 := ⟨fun h => ⟨h.1, h.2⟩, fun h => ⟨h.1, h.2⟩⟩
theorem wrap_in (x : Int) : In64 (IntKind.i64.wrap x) := by
  rw [in64_iff]; simp only [IntKind.wrap, IntKind.signed, IntKind.bits]; simp; omega
theorem In64.of_wf {n : Int} (h : (Lit.int .i64 n).wf = true) : In64 n := by
  rw [in64_iff]; simpa [Lit.wf, IntKind.min, IntKind.max, IntKind.signed, IntKind.bits] using h
@[reducible] def ints (k : IntKind) (n : Nat) (F : Nat → Int) : AV := .sl n 1 fun j => .int k (F j)
def intF (g : Nat → AV) : Nat → Int := fun j => avInt (g j)
theorem intF_mk (k : IntKind) (F : Nat → Int) : intF (fun j => .int k (F j)) = F := rfl
structure IsI (k : IntKind) (g : Nat → AV) : Prop where
  at_ : ∀ j, g j = .int k (avInt (g j))
theorem IsI.eq {k : IntKind} {g : Nat → AV} (h : IsI k g) : g = fun j => .int k (intF g j) := funext h.at_
theorem avInt_int (k : IntKind) (n : Int) : avInt (.int k n) = n := rfl
theorem isI_mk {k : IntKind} {F : Nat → Int} : IsI k (fun j => .int k (F j)) := ⟨fun _ => rfl⟩
theorem mulN1 (i : Nat) : mulN i 1 = i := rfl
end Ev
open Ev
def pickF (c n : Int) : Int := if c < 0 then (-(c + 1)) % n else c % n
theorem pickF_bd (c n : Int) (h : 1 ≤ n) : 0 ≤ pickF c n ∧ pickF c n < n := by
  unfold pickF
  split
  · exact ⟨Int.emod_nonneg _ (by omega), Int.emod_lt_of_pos _ (by omega)⟩
  · exact ⟨Int.emod_nonneg _ (by omega), Int.emod_lt_of_pos _ (by omega)⟩
theorem pickF_in {c n : Int} (h : 1 ≤ n ∧ n ≤ 9223372036854775807) : In64 (pickF c n) := by
  have := pickF_bd c n h.1; exact ⟨by omega, by omega⟩
def rawF (n : Nat) (F : Nat → Int) (k : Int) : Int := if n = 0 then 0 else F (k.toNat % n)
theorem rawF_in {n : Nat} {F : Nat → Int} {k : Int} (h : ∀ j, In64 (F j)) : In64 (rawF n F k) := by
  unfold rawF; split
  · exact ⟨by omega, by omega⟩
  · exact h _
end Go.Proofs.YtphdjmaebdmdmaaGreatDoor
