/- No single byte can be turned without the sum being another (plain). -/
import Derived.Test.YtehjhfifldefiaaWorkG
namespace Go.Proofs.Ytehjhfifldefiaa
open Go.RowKit Ev
set_option linter.unusedVariables false
set_option linter.unusedSimpArgs false
set_option maxRecDepth 20000
set_option maxHeartbeats 4000000

theorem u32w (y : Int) : IntKind.u32.wrap y = y % 4294967296 := by
  simp only [IntKind.wrap, IntKind.signed, IntKind.bits]
  simp
theorem fnv_inj {x y : Int} (hx : 0 ≤ x ∧ x < 4294967296) (hy : 0 ≤ y ∧ y < 4294967296) (h : IntKind.u32.wrap (x * 16777619) = IntKind.u32.wrap (y * 16777619)) : x = y := by
  rw [u32w, u32w] at h
  omega
theorem xorA_nat (a c : Int) : bitsA .xor .u32 a c = ((BitVec.ofInt 32 a ^^^ BitVec.ofInt 32 c).toNat : Int) := by
  show IntKind.u32.wrap ((BitVec.ofInt 32 a ^^^ BitVec.ofInt 32 c).toNat : Nat) = _
  have := (BitVec.ofInt 32 a ^^^ BitVec.ofInt 32 c).isLt
  rw [u32w]
  omega
theorem xorA_bd (a c : Int) : 0 ≤ bitsA .xor .u32 a c ∧ bitsA .xor .u32 a c < 4294967296 := by
  rw [xorA_nat]
  have := (BitVec.ofInt 32 a ^^^ BitVec.ofInt 32 c).isLt
  omega
theorem ofInt_inj {a b : Int} (ha : 0 ≤ a ∧ a < 4294967296) (hb : 0 ≤ b ∧ b < 4294967296) (h : BitVec.ofInt 32 a = BitVec.ofInt 32 b) : a = b := by
  have := congrArg BitVec.toNat h
  rw [BitVec.toNat_ofInt, BitVec.toNat_ofInt] at this
  omega
theorem xor_l {a b c : Int} (ha : 0 ≤ a ∧ a < 4294967296) (hb : 0 ≤ b ∧ b < 4294967296) (h : bitsA .xor .u32 a c = bitsA .xor .u32 b c) : a = b := by
  rw [xorA_nat, xorA_nat] at h
  have h2 : BitVec.ofInt 32 a ^^^ BitVec.ofInt 32 c = BitVec.ofInt 32 b ^^^ BitVec.ofInt 32 c := BitVec.eq_of_toNat_eq (by omega)
  have h3 := congrArg (fun z => z ^^^ BitVec.ofInt 32 c) h2
  simp only [BitVec.xor_assoc, BitVec.xor_self, BitVec.xor_zero] at h3
  exact ofInt_inj ha hb h3
theorem xor_r {a b c : Int} (ha : 0 ≤ a ∧ a < 4294967296) (hb : 0 ≤ b ∧ b < 4294967296) (h : bitsA .xor .u32 c a = bitsA .xor .u32 c b) : a = b := by
  rw [xorA_nat, xorA_nat, BitVec.xor_comm, BitVec.xor_comm (BitVec.ofInt 32 c)] at h
  exact xor_l (c := c) ha hb (by rw [xorA_nat, xorA_nat]; exact h)
/-- Of two rows of bytes that differ in just one place the sums differ. -/
theorem sumV_turned {A B : Nat → Int} (hA : U8s A) (hB : U8s B) {p : Nat} (hp : A p ≠ B p) (he : ∀ j, j ≠ p → A j = B j) : ∀ n, p < n → sumV A n ≠ sumV B n
  | 0, h => by omega
  | n + 1, h => by
    rw [sumV_s, sumV_s]
    intro hc
    have h1 := fnv_inj (xorA_bd _ _) (xorA_bd _ _) hc
    have a := hA n
    have b := hB n
    by_cases hn : p = n
    · subst hn
      rw [sumV_ext fun j hj => he j (by omega)] at h1
      have := xor_r (by rw [u32w]; omega) (by rw [u32w]; omega) h1
      rw [u32w, u32w] at this
      omega
    · rw [he n (by omega)] at h1
      exact sumV_turned hA hB hp he n (by omega) (xor_l (sumV_bd _ _) (sumV_bd _ _) h1)
/-- The number that bytes are is another when one of them is. -/
theorem getV_turned {A B : Nat → Int} (hA : U8s A) (hB : U8s B) {p : Nat} (hp : A p ≠ B p) (he : ∀ j, j ≠ p → A j = B j) : ∀ n, p < n → getV A n ≠ getV B n
  | 0, h => by omega
  | n + 1, h => by
    rw [getV_s, getV_s]
    intro hc
    have a := hA n
    have b := hB n
    by_cases hn : p = n
    · subst hn
      rw [getV_ext fun j hj => he j (by omega)] at hc
      omega
    · rw [he n (by omega)] at hc
      have := getV_turned hA hB hp he n (by omega)
      omega
theorem loadE_ok {n : Nat} {B : Nat → Int} (h : loadE n B = 0) : 10 ≤ n ∧ getV (shB B (n - 4)) 4 = IntKind.i64.wrap (sumV B (n - 4)) := by
  unfold loadE at h
  split at h
  · omega
  split at h
  case isFalse => omega
  split at h
  case isFalse => omega
  split at h
  · omega
  split at h
  · omega
  split at h
  case isFalse => omega
  exact ⟨by omega, by assumption⟩
theorem sum_i64 (B : Nat → Int) (n : Nat) : IntKind.i64.wrap (sumV B n) = sumV B n := by
  have := sumV_bd B n
  exact wrapI (by omega) (by omega)
/-- What is one film's bytes isn't, when a byte is turned. -/
theorem load_turned {n : Nat} {A B : Nat → Int} (hA : U8s A) (hB : U8s B) (h0 : loadE n A = 0) {p : Nat} (hpn : p < n) (hp : A p ≠ B p) (he : ∀ j, j ≠ p → A j = B j) : loadE n B ≠ 0 := fun h1 => by
  obtain ⟨a0, a1⟩ := loadE_ok h0
  obtain ⟨b0, b1⟩ := loadE_ok h1
  rw [sum_i64] at a1 b1
  by_cases hq : p < n - 4
  · have e : getV (shB A (n - 4)) 4 = getV (shB B (n - 4)) 4 := getV_ext fun j hj => he _ (by omega)
    exact sumV_turned hA hB hp he (n - 4) hq (by rw [← a1, ← b1, e])
  · have e : sumV A (n - 4) = sumV B (n - 4) := sumV_ext fun j hj => he j (by omega)
    refine getV_turned (A := shB A (n - 4)) (B := shB B (n - 4)) (fun j => hA _) (fun j => hB _) (p := p - (n - 4)) ?_ ?_ 4 (by omega) (by rw [a1, b1, e])
    · show A (n - 4 + (p - (n - 4))) ≠ B (n - 4 + (p - (n - 4)))
      rw [show n - 4 + (p - (n - 4)) = p by omega]
      exact hp
    · intro j hj
      exact he _ (by omega)
end Go.Proofs.Ytehjhfifldefiaa
