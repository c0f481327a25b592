/- Plain facts on the numbers of package chance: what Mix, Mirrored and Shot come to, in plain Lean. No program in sight. -/
import Derived.Test.YtllllhnjhjdeiaaBase
import Derived.Laws.BitsAllLaws
namespace Go.Proofs.Ytllllhnjhjdeiaa
open Go.RowKit


theorem xor_u32 (a b : Int) : 0 ≤ bits .xor .u32 a b ∧ bits .xor .u32 a b < 4294967296 := by
  unfold bits
  simp only
  rw [IntKind.wrap_u32]
  omega
theorem and_u32 (a b : Int) : 0 ≤ bits .and .u32 a b ∧ bits .and .u32 a b < 4294967296 := by
  unfold bits
  simp only
  rw [IntKind.wrap_u32]
  omega
theorem xor_tdiv (a b k : Int) (hk : 1 ≤ k) : (bits .xor .u32 a b).tdiv k % 4294967296 = bits .xor .u32 a b / k := by
  obtain ⟨h0, h1⟩ := xor_u32 a b
  rw [Int.tdiv_eq_ediv_of_nonneg h0]
  have h2 : 0 ≤ bits .xor .u32 a b / k := Int.ediv_nonneg h0 (by omega)
  have h3 : bits .xor .u32 a b / k ≤ bits .xor .u32 a b := Int.ediv_le_self _ h0
  omega

/-- Mix: what stirring comes to. -/
def mixF (a b c : Int) : Int :=
  let h := bits .xor .u32 (bits .xor .u32 (a * 2654435761 % 4294967296) (b * 2246822519 % 4294967296)) (c * 3266489917 % 4294967296)
  let h := bits .xor .u32 h (h / 32768) * 2246822507 % 4294967296
  let h := bits .xor .u32 h (h / 32768) * 3266489909 % 4294967296
  bits .xor .u32 h (h / 65536)
theorem mixF_bd (a b c : Int) : 0 ≤ mixF a b c ∧ mixF a b c < 4294967296 := xor_u32 _ _

/-- Mirrored: digits turned about. -/
def mir (b : Nat) : Nat → Nat → Nat → Nat → Nat × Nat
  | 0, _, num, den => (num, den)
  | f + 1, n, num, den => if n = 0 then (num, den) else mir b f (n / b) (num * b + n % b) (den * b)
theorem mir_zero (b f num den : Nat) : mir b f 0 num den = (num, den) := by cases f <;> rfl
theorem mir_step (b f n num den : Nat) (h : 0 < n) : mir b (f + 1) n num den = mir b f (n / b) (num * b + n % b) (den * b) := by
  rw [mir, if_neg (by omega)]
theorem mir_fuel (b : Nat) (hb : 2 ≤ b) : ∀ (f g n num den : Nat), n ≤ f → n ≤ g → mir b f n num den = mir b g n num den
  | 0, g, n, num, den, h, _ => by
    obtain rfl : n = 0 := by omega
    rw [mir_zero, mir_zero]
  | f + 1, 0, n, num, den, _, h => by
    obtain rfl : n = 0 := by omega
    rw [mir_zero, mir_zero]
  | f + 1, g + 1, n, num, den, h, h' => by
    by_cases h0 : n = 0
    · subst h0; rw [mir_zero, mir_zero]
    · have h1 : n / b < n := Nat.div_lt_self (by omega) hb
      rw [mir_step _ _ _ _ _ (by omega), mir_step _ _ _ _ _ (by omega)]
      exact mir_fuel b hb f g _ _ _ (by omega) (by omega)
/-- What holds at the head of a round of Mirrored. -/
structure MirInv (b n n' num den : Nat) : Prop where
  eq : mir b n' n' num den = mir b n n 0 1
  lt : num < den
  pr : den * n' ≤ n ∨ n' = 0
  bd : den ≤ 268435456
  le : n' ≤ n
theorem MirInv.start (b n : Nat) : MirInv b n n 0 1 := ⟨rfl, by omega, .inl (by omega), by omega, Nat.le_refl _⟩
theorem MirInv.small {b n n' num den : Nat} (h : MirInv b n n' num den) (hn : n < 16777216) (h0 : 0 < n') : den < 16777216 ∧ num < 16777216 := by
  have h1 : den * n' ≤ n := by
    rcases h.pr with h1 | h1
    · exact h1
    · omega
  have h2 : den * 1 ≤ den * n' := Nat.mul_le_mul_left _ h0
  have := h.lt
  omega
theorem mul16 {x b : Nat} (hb : b ≤ 16) : x * b ≤ x * 16 := Nat.mul_le_mul_left _ hb
theorem MirInv.step {b n n' num den : Nat} (h : MirInv b n n' num den) (hb : 2 ≤ b) (hb' : b ≤ 16) (hn : n < 16777216) (h0 : 0 < n') :
    MirInv b n (n' / b) (num * b + n' % b) (den * b) := by
  have hs := h.small hn h0
  have hd : n' / b < n' := Nat.div_lt_self h0 hb
  refine ⟨?_, ?_, ?_, ?_, ?_⟩
  · rw [← h.eq]
    obtain ⟨m, rfl⟩ : ∃ m, n' = m + 1 := ⟨n' - 1, by omega⟩
    rw [mir_step b m (m + 1) _ _ (by omega)]
    exact mir_fuel b hb _ _ _ _ _ (Nat.le_refl _) (by omega)
  · have h1 : (num + 1) * b ≤ den * b := Nat.mul_le_mul_right _ h.lt
    have h2 : n' % b < b := Nat.mod_lt _ (by omega)
    rw [Nat.add_mul] at h1
    omega
  · left
    have h1 : den * n' ≤ n := by
      rcases h.pr with h1 | h1
      · exact h1
      · omega
    have h2 : b * (n' / b) ≤ n' := Nat.mul_div_le _ _
    calc den * b * (n' / b) = den * (b * (n' / b)) := Nat.mul_assoc _ _ _
      _ ≤ den * n' := Nat.mul_le_mul_left _ h2
      _ ≤ n := h1
  · have := mul16 (x := den) hb'
    omega
  · have := h.le
    omega
theorem MirInv.done {b n num den : Nat} (h : MirInv b n 0 num den) : mir b n n 0 1 = (num, den) := by rw [← h.eq, mir_zero]

/-- Mirrored, whole: three results. -/
def mirBad (b n : Int) : Prop := b < 2 ∨ 16 < b ∨ n < 0 ∨ 16777216 ≤ n
instance (b n : Int) : Decidable (mirBad b n) := by unfold mirBad; infer_instance
def mirR (b n : Int) : Int × Int × Int :=
  if mirBad b n then (0, 0, 6) else (((mir b.toNat n.toNat n.toNat 0 1).1 : Int), ((mir b.toNat n.toNat n.toNat 0 1).2 : Int), 0)
theorem mirR_bad {b n : Int} (h : mirBad b n) : mirR b n = (0, 0, 6) := if_pos h
theorem mirR_good {b n num den : Nat} (h : ¬ mirBad b n) (hi : MirInv b n 0 num den) : mirR b n = ((num : Int), (den : Int), 0) := by
  unfold mirR
  rw [if_neg h]
  simp only [Int.toNat_natCast, hi.done]

theorem mir_bd (b n : Nat) (hb : 2 ≤ b) (hb' : b ≤ 16) (hn : n < 16777216) : (mir b n n 0 1).1 < (mir b n n 0 1).2 ∧ (mir b n n 0 1).2 ≤ 268435456 := by
  suffices H : ∀ (m n' p q : Nat), n' ≤ m → MirInv b n n' p q → ∃ p' q', MirInv b n 0 p' q' by
    obtain ⟨p, q, h⟩ := H n n 0 1 (Nat.le_refl _) (.start b n)
    rw [h.done]
    exact ⟨h.lt, h.bd⟩
  intro m
  induction m with
  | zero =>
    intro n' p q h hi
    obtain rfl : n' = 0 := by omega
    exact ⟨p, q, hi⟩
  | succ m ih =>
    intro n' p q h hi
    by_cases h0 : 0 < n'
    · have hd : n' / b < n' := Nat.div_lt_self h0 hb
      exact ih (n' / b) _ _ (by omega) (hi.step hb hb' hn h0)
    · obtain rfl : n' = 0 := by omega
      exact ⟨p, q, hi⟩
theorem mirR_bd {b n : Int} (h : ¬ mirBad b n) : 0 ≤ (mirR b n).1 ∧ (mirR b n).1 < (mirR b n).2.1 ∧ (mirR b n).2.1 ≤ 268435456 := by
  unfold mirR
  rw [if_neg h]
  unfold mirBad at h
  have := mir_bd b.toNat n.toNat (by omega) (by omega) (by omega)
  simp only
  omega
theorem part_bd {p q : Int} (h0 : 0 ≤ p) (h : p < q) : 0 ≤ p * 65536 / q ∧ p * 65536 / q < 65536 :=
  ⟨Int.ediv_nonneg (by omega) (by omega), Int.ediv_lt_of_lt_mul (by omega) (by omega)⟩
theorem mask16 {h : Int} (h0 : 0 ≤ h) (h1 : h < 4294967296) : bits .and .u32 h 65535 = h % 65536 := by
  rw [u32_and h 65535 h0 h1 (by omega) (by omega)]
  have : (65535 : Int).toNat = 2 ^ 16 - 1 := by decide
  rw [this, Nat.and_two_pow_sub_one_eq_mod]
  omega
theorem mask8 {h : Int} (h0 : 0 ≤ h) (h1 : h < 4294967296) : bits .and .u32 h 255 = h % 256 := by
  rw [u32_and h 255 h0 h1 (by omega) (by omega)]
  have : (255 : Int).toNat = 2 ^ 8 - 1 := by decide
  rw [this, Nat.and_two_pow_sub_one_eq_mod]
  omega

/-- Shot, whole. -/
def shotBad (x y k : Int) : Prop := x < 0 ∨ 64 ≤ x ∨ y < 0 ∨ 64 ≤ y ∨ k < 0 ∨ 16 ≤ k
instance (x y k : Int) : Decidable (shotBad x y k) := by unfold shotBad; infer_instance
def shotU (x y k : Int) : Int := ((mirR 2 k).1 * 65536 / (mirR 2 k).2.1 + mixF x y 77 % 65536) % 65536
def shotV (x y k : Int) : Int := ((mirR 3 k).1 * 65536 / (mirR 3 k).2.1 + mixF x y 77 / 65536) % 65536
def shotR (x y k : Int) : Int × Int × Int := if shotBad x y k then (0, 0, 6) else (shotU x y k, shotV x y k, 0)
theorem shotR_bad {x y k : Int} (h : shotBad x y k) : shotR x y k = (0, 0, 6) := if_pos h
theorem shotR_good {x y k : Int} (h : ¬ shotBad x y k) : shotR x y k = (shotU x y k, shotV x y k, 0) := if_neg h
theorem shot_cases (x y k : Int) : x < 0 ∨ (¬ x < 0 ∧ 64 ≤ x) ∨ (0 ≤ x ∧ x < 64 ∧ y < 0) ∨ (0 ≤ x ∧ x < 64 ∧ ¬ y < 0 ∧ 64 ≤ y) ∨ (0 ≤ x ∧ x < 64 ∧ 0 ≤ y ∧ y < 64 ∧ k < 0) ∨ (0 ≤ x ∧ x < 64 ∧ 0 ≤ y ∧ y < 64 ∧ ¬ k < 0 ∧ 16 ≤ k) ∨
    (0 ≤ x ∧ x < 64 ∧ 0 ≤ y ∧ y < 64 ∧ 0 ≤ k ∧ k < 16) := by omega

theorem i64_and255 (n : Int) : bits .and .i64 n 255 = n % 256 := by
  have h255 : (BitVec.ofInt 64 255).toNat = 2 ^ 8 - 1 := by decide
  have key : (BitVec.ofInt 64 n &&& BitVec.ofInt 64 255).toNat = (n % ((2 ^ 64 : Nat) : Int)).toNat % 2 ^ 8 := by
    rw [BitVec.toNat_and, BitVec.toNat_ofInt, h255, Nat.and_two_pow_sub_one_eq_mod]
  show IntKind.i64.wrap ((BitVec.ofInt 64 n &&& BitVec.ofInt 64 255).toNat : Nat) = n % 256
  rw [key, IntKind.wrap_i64]
  omega

/-- The corner of a lattice; the mean of two; a plane; the noise. -/
def cornerF (x y z : Int) : Int := mixF (x % 4294967296) (y % 4294967296) (z % 4294967296) % 256
theorem cornerF_bd (x y z : Int) : 0 ≤ cornerF x y z ∧ cornerF x y z < 256 := by unfold cornerF; omega
def blendF (a b k : Int) : Int := (a * (256 - k) + b * k) / 256
theorem mul_bd {a k m n : Int} (h0 : 0 ≤ a) (h1 : a ≤ m) (k0 : 0 ≤ k) (k1 : k ≤ n) : 0 ≤ a * k ∧ a * k ≤ m * n :=
  ⟨Int.mul_nonneg h0 k0, Int.mul_le_mul h1 k1 k0 (by omega)⟩
theorem blendF_sum {a b k : Int} (a0 : 0 ≤ a) (a1 : a < 256) (b0 : 0 ≤ b) (b1 : b < 256) (k0 : 0 ≤ k) (k1 : k ≤ 256) :
    0 ≤ a * (256 - k) ∧ 0 ≤ b * k ∧ a * (256 - k) ≤ 65280 ∧ b * k ≤ 65280 ∧ a * (256 - k) + b * k ≤ 65280 := by
  have h1 := mul_bd a0 (show a ≤ 255 by omega) (show 0 ≤ 256 - k by omega) (show 256 - k ≤ 256 - k by omega)
  have h2 := mul_bd b0 (show b ≤ 255 by omega) k0 (show k ≤ k by omega)
  omega
theorem blendF_bd {a b k : Int} (a0 : 0 ≤ a) (a1 : a < 256) (b0 : 0 ≤ b) (b1 : b < 256) (k0 : 0 ≤ k) (k1 : k ≤ 256) : 0 ≤ blendF a b k ∧ blendF a b k < 256 := by
  have := blendF_sum a0 a1 b0 b1 k0 k1
  unfold blendF
  omega
def planeF (i j u v k : Int) : Int := blendF (blendF (cornerF i j k) (cornerF (i + 1) j k) u) (blendF (cornerF i (j + 1) k) (cornerF (i + 1) (j + 1) k) u) v
theorem planeF_bd {i j u v k : Int} (u0 : 0 ≤ u) (u1 : u < 256) (v0 : 0 ≤ v) (v1 : v < 256) : 0 ≤ planeF i j u v k ∧ planeF i j u v k < 256 := by
  unfold planeF
  obtain ⟨a0, a1⟩ := cornerF_bd i j k
  obtain ⟨b0, b1⟩ := cornerF_bd (i + 1) j k
  obtain ⟨c0, c1⟩ := cornerF_bd i (j + 1) k
  obtain ⟨d0, d1⟩ := cornerF_bd (i + 1) (j + 1) k
  obtain ⟨e0, e1⟩ := blendF_bd a0 a1 b0 b1 u0 (by omega)
  obtain ⟨f0, f1⟩ := blendF_bd c0 c1 d0 d1 u0 (by omega)
  exact blendF_bd e0 e1 f0 f1 v0 (by omega)
def noiseV (x y z : Int) : Int := blendF (planeF (x / 256) (y / 256) (x % 256) (y % 256) (z / 256)) (planeF (x / 256) (y / 256) (x % 256) (y % 256) (z / 256 + 1)) (z % 256)
def farB (x : Int) : Prop := x < -1073741824 ∨ 1073741824 < x
instance (x : Int) : Decidable (farB x) := by unfold farB; infer_instance
def noiseR (x y z : Int) : Int × Int := if farB x ∨ farB y ∨ farB z then (0, 1) else (noiseV x y z, 0)
theorem noiseR_bad {x y z : Int} (h : farB x ∨ farB y ∨ farB z) : noiseR x y z = (0, 1) := if_pos h
theorem noiseR_good {x y z : Int} (h : ¬ (farB x ∨ farB y ∨ farB z)) : noiseR x y z = (noiseV x y z, 0) := if_neg h
end Go.Proofs.Ytllllhnjhjdeiaa
