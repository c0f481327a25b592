/- Plain: how two rows of bytes differ, gathered byte by byte. D: the difference at each byte. -/
import Derived.Test.YtlcdaoljfclliaaBase
namespace Go.Proofs.Ytlcdaoljfclliaa

def mostF (D : Nat → Int) : Nat → Int
  | 0 => 0
  | j + 1 => if mostF D j < (D j).natAbs then (D j).natAbs else mostF D j
def sqF (D : Nat → Int) : Nat → Int
  | 0 => 0
  | j + 1 => sqF D j + D j * D j
def difF (D : Nat → Int) (s : Nat) : Nat → Bool
  | 0 => false
  | c + 1 => difF D s c || (D (s + c) != 0)
def unlF (D : Nat → Int) : Nat → Int
  | 0 => 0
  | p + 1 => unlF D p + if difF D (4 * p) 4 then 1 else 0
theorem mostF_bd {D : Nat → Int} (h : ∀ i, -255 ≤ D i ∧ D i ≤ 255) : ∀ j, 0 ≤ mostF D j ∧ mostF D j ≤ 255
  | 0 => by simp [mostF]
  | j + 1 => by
    have := mostF_bd h j
    have := h j
    unfold mostF
    split <;> omega
theorem sq_bd {x : Int} (h : -255 ≤ x ∧ x ≤ 255) : 0 ≤ x * x ∧ x * x ≤ 65025 := by
  have e : x * x = (x.natAbs : Int) * (x.natAbs : Int) := (Int.natAbs_mul_self' x).symm
  have h1 : (x.natAbs : Int) * (x.natAbs : Int) ≤ 255 * 255 := Int.mul_le_mul (by omega) (by omega) (by omega) (by omega)
  have h0 : 0 ≤ (x.natAbs : Int) * (x.natAbs : Int) := Int.mul_nonneg (by omega) (by omega)
  omega
theorem sqF_bd {D : Nat → Int} (h : ∀ i, -255 ≤ D i ∧ D i ≤ 255) : ∀ j : Nat, 0 ≤ sqF D j ∧ sqF D j ≤ 65025 * j
  | 0 => by simp [sqF]
  | j + 1 => by
    have := sqF_bd h j
    have := sq_bd (h j)
    unfold sqF
    omega
theorem unlF_bd (D : Nat → Int) : ∀ p : Nat, 0 ≤ unlF D p ∧ unlF D p ≤ p
  | 0 => by simp [unlF]
  | p + 1 => by
    have := unlF_bd D p
    unfold unlF
    split <;> omega
/-- The step of 'most' as max of three numbers. -/
theorem mostF_max (D : Nat → Int) (h : ∀ i, -255 ≤ D i ∧ D i ≤ 255) (j : Nat) :
    mostF D (j + 1) = (if -D j > (if D j > mostF D j then D j else mostF D j) then -D j else (if D j > mostF D j then D j else mostF D j)) := by
  have := mostF_bd h j
  rw [mostF]
  split <;> split <;> split <;> omega
end Go.Proofs.Ytlcdaoljfclliaa
