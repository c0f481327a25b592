/- Rounding goes up with what is rounded: sums, differences and quotients of floats. -/
import Derived.Test.YtdjckabogdohcaaGreatFltVal
namespace Go.Proofs.YtdjckabogdohcaaGreat
open Go.RowKit Ev Ieee
set_option linter.unusedVariables false
set_option linter.unusedSimpArgs false
namespace Flt
def rhe (n g : Nat) : Nat := n / g + if g < 2 * (n % g) ∨ (2 * (n % g) = g ∧ n / g % 2 = 1) then 1 else 0
theorem rhe_mono {m n g : Nat} (_ : 0 < g) (h : m ≤ n) : rhe m g ≤ rhe n g := by
  unfold rhe
  have h1 : m / g ≤ n / g := Nat.div_le_div_right h
  have e1 := Nat.div_add_mod m g
  have e2 := Nat.div_add_mod n g
  rcases Nat.lt_or_eq_of_le h1 with h2 | h2
  · split <;> split <;> omega
  · rw [h2] at e1 ⊢
    have : m % g ≤ n % g := by omega
    split <;> split <;> omega
theorem rhe_scale {n g c : Nat} (hc : 0 < c) : rhe (n * c) (g * c) = rhe n g := by
  unfold rhe
  rw [Nat.mul_div_mul_right _ _ hc, Nat.mul_mod_mul_right]
  have e1 : g * c < 2 * (n % g * c) ↔ g < 2 * (n % g) := by
    rw [← Nat.mul_assoc]; exact Nat.mul_lt_mul_right hc
  have e2 : 2 * (n % g * c) = g * c ↔ 2 * (n % g) = g := by
    rw [← Nat.mul_assoc]; exact Nat.mul_left_inj (by omega)
  simp only [e1, e2]
theorem rhe_le {n g n' g' : Nat} (hg : 0 < g) (hg' : 0 < g') (h : n * g' ≤ n' * g) : rhe n g ≤ rhe n' g' := by
  rw [← rhe_scale (n := n) (g := g) hg', ← rhe_scale (n := n') (g := g') hg, Nat.mul_comm g' g]
  exact rhe_mono (Nat.mul_pos hg hg') h
theorem rhe_eq {n g n' g' : Nat} (hg : 0 < g) (hg' : 0 < g') (h : n * g' = n' * g) : rhe n g = rhe n' g' :=
  Nat.le_antisymm (rhe_le hg hg' (Nat.le_of_eq h)) (rhe_le hg' hg (Nat.le_of_eq h.symm))
theorem rhe_upper {n g k : Nat} (hg : 0 < g) (h : n ≤ k * g) : rhe n g ≤ k := by
  have := rhe_mono hg h
  have e : rhe (k * g) g = k := by
    unfold rhe
    rw [Nat.mul_div_cancel _ hg, Nat.mul_mod_left]
    split <;> omega
  omega
theorem rhe_lower {n g k : Nat} (hg : 0 < g) (h : k * g ≤ n) : k ≤ rhe n g := by
  have := rhe_mono hg h
  have e : rhe (k * g) g = k := by
    unfold rhe
    rw [Nat.mul_div_cancel _ hg, Nat.mul_mod_left]
    split <;> omega
  omega
/-- A number with one digit for all that is left over is rounded as the number. -/
theorem rhe_sticky {X Y Z : Nat} (hY : 0 < Y) : rhe (2 * (X / Y) + (X % Y != 0).toNat) (2 * (2 * Z)) = rhe X (Y * (2 * Z)) := by
  obtain ⟨σ, hσ, hs, hs1⟩ : ∃ σ, (X % Y != 0).toNat = σ ∧ (σ = 0 ↔ X % Y = 0) ∧ σ ≤ 1 := by
    refine ⟨_, rfl, ?_⟩
    by_cases h : X % Y = 0
    · simp [h]
    · have : (X % Y != 0) = true := bne_iff_ne.2 h
      rw [this]; simp [h]
  rw [hσ]
  have hr : X % Y < Y := Nat.mod_lt _ hY
  have q1 : X / (Y * (2 * Z)) = X / Y / (2 * Z) := (Nat.div_div_eq_div_mul _ _ _).symm
  have q2 : X % (Y * (2 * Z)) = X % Y + Y * (X / Y % (2 * Z)) := Nat.mod_mul
  unfold rhe
  rw [q1, q2]
  generalize X / Y = q at *
  generalize X % Y = ρ at *
  have d0 : (2 * q + σ) / 2 = q := by omega
  have d1 : (2 * q + σ) / (2 * (2 * Z)) = q / (2 * Z) := by rw [← Nat.div_div_eq_div_mul, d0]
  have d2 : (2 * q + σ) % (2 * (2 * Z)) = 2 * (q % (2 * Z)) + σ := by rw [Nat.mod_mul, d0]; omega
  rw [d1, d2]
  generalize q % (2 * Z) = r
  generalize q / (2 * Z) = k
  have key : ∀ a b : Nat, a < b → Y * a + Y ≤ Y * b := fun a b h => by rw [← Nat.mul_succ]; exact Nat.mul_le_mul_left _ h
  have yz : Y * (2 * Z) = 2 * (Y * Z) := Nat.mul_left_comm _ _ _
  rw [yz]
  have e1 : 2 * (Y * Z) < 2 * (ρ + Y * r) ↔ 2 * (2 * Z) < 2 * (2 * r + σ) := by
    rcases Nat.lt_trichotomy Z r with h | h | h
    · have := key _ _ h; omega
    · subst h; omega
    · have := key _ _ h; omega
  have e2 : 2 * (ρ + Y * r) = 2 * (Y * Z) ↔ 2 * (2 * r + σ) = 2 * (2 * Z) := by
    rcases Nat.lt_trichotomy Z r with h | h | h
    · have := key _ _ h; omega
    · subst h; omega
    · have := key _ _ h; omega
  simp only [e1, e2]
theorem log_lt (n : Nat) : n < 2 ^ (n.log2 + 1) := Nat.lt_log2_self
theorem log_le {n : Nat} (h : n ≠ 0) : 2 ^ n.log2 ≤ n := Nat.log2_self_le h
/-- What the rounding does is this. -/
theorem cut_even (neg : Bool) (n drop : Nat) : Toward.even.cut neg n drop = rhe n (2 ^ drop) := by
  have key : Toward.even.cut neg n drop = rhe n (1 <<< min drop (n.log2 + 2)) := by
    unfold Toward.cut rhe
    simp only
    congr 1
    generalize 1 <<< min drop (n.log2 + 2) = g
    generalize n % g = r
    generalize n / g = k
    by_cases h1 : g < 2 * r
    · rw [if_pos (.inl h1), decide_eq_true h1]; rfl
    · rw [decide_eq_false h1, Bool.false_or]
      by_cases h2 : g = 2 * r ∧ k % 2 = 1
      · rw [if_pos (.inr ⟨h2.1.symm, h2.2⟩), show (g == 2 * r) = true from beq_iff_eq.2 h2.1, show (k % 2 == 1) = true from beq_iff_eq.2 h2.2]; rfl
      · rw [if_neg (by omega)]
        have : (g == 2 * r && k % 2 == 1) = false := by
          rw [Bool.eq_false_iff]; intro h; apply h2
          rw [Bool.and_eq_true, beq_iff_eq, beq_iff_eq] at h; exact h
        rw [this]; rfl
  rw [key, Nat.one_shiftLeft]
  by_cases h : drop ≤ n.log2 + 2
  · rw [Nat.min_eq_left h]
  · rw [Nat.min_eq_right (by omega)]
    have z : ∀ k, n.log2 + 2 ≤ k → rhe n (2 ^ k) = 0 := fun k hk => by
      have h1 := log_lt n
      have h2 : 2 ^ (n.log2 + 1 + 1) ≤ 2 ^ k := Nat.pow_le_pow_right (by omega) hk
      rw [Nat.pow_succ] at h2
      have h3 := Nat.two_pow_pos (n.log2 + 1)
      unfold rhe
      rw [Nat.div_eq_of_lt (by omega), Nat.mod_eq_of_lt (by omega)]
      split <;> omega
    rw [z _ (Nat.le_refl _), z _ (by omega)]
/-- P/D is in the t-th pair of binades (of B rungs each). -/
def Rng (B P D t : Nat) : Prop := (t = 0 ∧ P < 2 * B * D) ∨ (0 < t ∧ B * 2 ^ t * D ≤ P ∧ P < 2 * B * 2 ^ t * D)
def rung (B I P D t : Nat) : Nat := min (t * B + rhe P (D * 2 ^ t)) I
theorem Rng.upper {B P D t : Nat} (h : Rng B P D t) : P ≤ 2 * B * (D * 2 ^ t) := by
  rcases h with ⟨rfl, h⟩ | ⟨_, _, h⟩
  · rw [Nat.pow_zero, Nat.mul_one]; omega
  · rw [Nat.mul_comm D, ← Nat.mul_assoc]; omega
theorem rung_mono {B I P D t P' D' t' : Nat} (hD : 0 < D) (hD' : 0 < D') (h : P * D' ≤ P' * D) (hr : Rng B P D t) (hr' : Rng B P' D' t') : rung B I P D t ≤ rung B I P' D' t' := by
  have p1 : 0 < D * 2 ^ t := Nat.mul_pos hD (Nat.two_pow_pos t)
  have p2 : 0 < D' * 2 ^ t' := Nat.mul_pos hD' (Nat.two_pow_pos t')
  have main : t * B + rhe P (D * 2 ^ t) ≤ t' * B + rhe P' (D' * 2 ^ t') := by
    rcases Nat.lt_trichotomy t t' with c | c | c
    · have u1 : rhe P (D * 2 ^ t) ≤ 2 * B := rhe_upper p1 hr.upper
      have u2 : B ≤ rhe P' (D' * 2 ^ t') := by
        rcases hr' with ⟨rfl, _⟩ | ⟨_, h2, _⟩
        · omega
        · refine rhe_lower p2 ?_
          rw [Nat.mul_comm D', ← Nat.mul_assoc]; exact h2
      have u3 : (t + 1) * B ≤ t' * B := Nat.mul_le_mul_right _ c
      rw [Nat.succ_mul] at u3
      omega
    · subst c
      have := rhe_le p1 p2 (n := P) (n' := P') (by rw [← Nat.mul_assoc, ← Nat.mul_assoc]; exact Nat.mul_le_mul_right _ h)
      omega
    · exfalso
      rcases hr with ⟨rfl, _⟩ | ⟨_, h2, _⟩
      · omega
      · have a1 : 2 * B * 2 ^ t' * D ≤ B * 2 ^ t * D := by
          refine Nat.mul_le_mul_right _ ?_
          rw [Nat.mul_comm 2 B, Nat.mul_assoc, ← Nat.pow_succ']
          exact Nat.mul_le_mul_left _ (Nat.pow_le_pow_right (by omega) c)
        have a2 : P' < 2 * B * 2 ^ t' * D' := by
          rcases hr' with ⟨rfl, h3⟩ | ⟨_, _, h3⟩
          · rw [Nat.pow_zero, Nat.mul_one]; exact h3
          · exact h3
        have a3 : P' * D < 2 * B * 2 ^ t' * D' * D := Nat.mul_lt_mul_of_pos_right a2 hD
        have a4 : 2 * B * 2 ^ t' * D * D' ≤ P * D' := Nat.mul_le_mul_right _ (Nat.le_trans a1 h2)
        rw [Nat.mul_right_comm] at a4
        omega
  unfold rung
  omega
/-- Numbers of that many digits are in that pair. -/
theorem rng_log {P D t : Nat} {Λ b : Nat} (h1 : 2 ^ Λ * D ≤ P * 2 ^ b) (h2 : P * 2 ^ b < 2 ^ (Λ + 1) * D) (ht : (t = 0 ∧ Λ ≤ 52 + b) ∨ (0 < t ∧ Λ = 52 + t + b)) : Rng (2 ^ 52) P D t := by
  have p := Nat.two_pow_pos b
  unfold Rng
  generalize hB : 2 ^ 52 = B
  have hB2 : 2 * B = 2 ^ (52 + 1) := by rw [Nat.pow_succ, hB, Nat.mul_comm]
  rcases ht with ⟨h0, hl⟩ | ⟨h0, hl⟩
  · refine .inl ⟨h0, ?_⟩
    have h3 : 2 ^ (Λ + 1) * D ≤ 2 ^ (52 + 1 + b) * D := Nat.mul_le_mul_right _ (Nat.pow_le_pow_right (by omega) (by omega))
    rw [Nat.pow_add 2 (52 + 1) b, Nat.mul_right_comm, ← hB2] at h3
    exact Nat.lt_of_mul_lt_mul_right (Nat.lt_of_lt_of_le h2 h3)
  · refine .inr ⟨h0, ?_, ?_⟩
    · rw [hl, Nat.pow_add 2 (52 + t) b, Nat.mul_right_comm, Nat.pow_add 2 52 t, hB] at h1
      exact Nat.le_of_mul_le_mul_right h1 p
    · rw [show Λ + 1 = 52 + 1 + t + b by omega, Nat.pow_add 2 (52 + 1 + t) b, Nat.mul_right_comm, Nat.pow_add 2 (52 + 1) t, ← hB2] at h2
      exact Nat.lt_of_mul_lt_mul_right h2

abbrev II : Nat := 2047 * 4503599627370496
theorem p52 : (2 : Nat) ^ 52 = 4503599627370496 := by decide
theorem rung_zero (B I D : Nat) (hB : 0 < B) (hD : 0 < D) : Rng B 0 D 0 ∧ rung B I 0 D 0 = 0 := by
  refine ⟨.inl ⟨rfl, Nat.mul_pos (Nat.mul_pos (by decide) hB) hD⟩, ?_⟩
  unfold rung rhe
  rw [Nat.zero_div, Nat.zero_mod, Nat.pow_zero, Nat.mul_one]
  rw [if_neg (by omega)]
  omega
/-- A whole number of parts is written as the rung of a ratio. -/
theorem nearest_form (neg : Bool) (mag : Nat) (place : Int) : ∃ t, Rng (2 ^ 52) (mag * 2 ^ (place + 1074).toNat) (2 ^ (-1074 - place).toNat) t ∧
    double.nearest neg mag place = double.word neg (rung (2 ^ 52) II (mag * 2 ^ (place + 1074).toNat) (2 ^ (-1074 - place).toNat) t) := by
  by_cases h0 : mag = 0
  · subst h0
    obtain ⟨r1, r2⟩ := rung_zero (2 ^ 52) II (2 ^ (-1074 - place).toNat) (Nat.two_pow_pos _) (Nat.two_pow_pos _)
    rw [Nat.zero_mul]
    exact ⟨0, r1, by rw [r2, near_0]⟩
  rw [nearest_eq neg mag place h0]
  have h1 := log_lt mag
  have h2 := log_le h0
  generalize mag.log2 = Λ at *
  generalize hlast : max (place + (Λ : Int) - 52) (-1074) = last
  generalize hP : (place + 1074).toNat = a
  generalize hQ : (-1074 - place).toNat = b
  refine ⟨(last + 1074).toNat, ?_, ?_⟩
  · refine rng_log (Λ := Λ + a) (b := b) ?_ ?_ (by omega)
    · rw [Nat.pow_add, Nat.mul_assoc, Nat.mul_assoc]
      exact Nat.mul_le_mul_right _ h2
    · rw [show Λ + a + 1 = Λ + 1 + a by omega, Nat.pow_add _ (Λ + 1), Nat.mul_assoc, Nat.mul_assoc]
      exact Nat.mul_lt_mul_of_pos_right h1 (Nat.mul_pos (Nat.two_pow_pos _) (Nat.two_pow_pos _))
  · rw [cut_even, Nat.shiftLeft_eq, ← p52]
    unfold rung
    congr 3
    refine rhe_eq (Nat.two_pow_pos _) (Nat.mul_pos (Nat.two_pow_pos _) (Nat.two_pow_pos _)) ?_
    rw [Nat.mul_assoc, Nat.mul_assoc, ← Nat.pow_add, ← Nat.pow_add, ← Nat.pow_add]
    congr 2
    omega
/-- A quotient is written as the rung of the ratio. -/
theorem quo_form {x y : Nat} {s t : Bool} {m n : Nat} {i j : Int} (hx : double.read x = .number s m i) (hy : double.read y = .number t n j) (hn : n ≠ 0) :
    ∃ τ, Rng (2 ^ 52) (m * 2 ^ (i - j + 1074).toNat) (n * 2 ^ (j - i - 1074).toNat) τ ∧ fop .quo x y = some (double.word (s ^^ t) (rung (2 ^ 52) II (m * 2 ^ (i - j + 1074).toNat) (n * 2 ^ (j - i - 1074).toNat) τ)) := by
  have hf : double.fractionBits + 2 = 54 := by decide +kernel
  have ef : fop .quo x y = some (double.nearest (s ^^ t) (2 * (m <<< (54 + n.log2 - m.log2) / n) + (m <<< (54 + n.log2 - m.log2) % n != 0).toNat) (i - j - (54 + n.log2 - m.log2 : Nat) - 1)) := by
    show ((double.read x).quotient (double.fractionBits + 2) (double.read y)).map double.write = _
    rw [hx, hy, hf]
    simp only [Datum.quotient]
    rw [if_neg hn]
    rfl
  rw [ef]
  have hn0 : 0 < n := by omega
  by_cases h0 : m = 0
  · subst h0
    obtain ⟨r1, r2⟩ := rung_zero (2 ^ 52) II (n * 2 ^ (j - i - 1074).toNat) (Nat.two_pow_pos _) (Nat.mul_pos hn0 (Nat.two_pow_pos _))
    rw [Nat.zero_mul]
    refine ⟨0, r1, ?_⟩
    rw [r2, Nat.zero_shiftLeft, Nat.zero_div, Nat.zero_mod]
    exact congrArg some (near_0 _ _)
  generalize hmore : 54 + n.log2 - m.log2 = more
  rw [Nat.shiftLeft_eq]
  have m1 := log_le h0
  have n1 := log_lt n
  generalize n.log2 = N at *
  generalize m.log2 = M at *
  generalize hX : m * 2 ^ more = X
  have hXl : 2 ^ 53 * n ≤ X := by
    have a1 : 2 ^ M * 2 ^ more ≤ X := by rw [← hX]; exact Nat.mul_le_mul_right _ m1
    have a2 : 2 ^ 53 * n ≤ 2 ^ 53 * 2 ^ (N + 1) := Nat.mul_le_mul_left _ (Nat.le_of_lt n1)
    have a3 : (2 : Nat) ^ 53 * 2 ^ (N + 1) ≤ 2 ^ M * 2 ^ more := by
      rw [← Nat.pow_add, ← Nat.pow_add]
      exact Nat.pow_le_pow_right (by omega) (by omega)
    exact Nat.le_trans a2 (Nat.le_trans a3 a1)
  obtain ⟨σ, hσ, hσ1⟩ : ∃ σ, (X % n != 0).toNat = σ ∧ σ ≤ 1 := ⟨_, rfl, by cases (X % n != 0) <;> decide⟩
  have hq : 2 ^ 53 ≤ X / n := (Nat.le_div_iff_mul_le hn0).2 hXl
  have hm0 : 2 * (X / n) + σ ≠ 0 := by have := Nat.two_pow_pos 53; omega
  have hmag : 2 ^ 54 ≤ 2 * (X / n) + σ := by have : (2 : Nat) ^ 54 = 2 ^ 53 * 2 := Nat.pow_succ .. ; omega
  have l1 := log_lt (2 * (X / n) + σ)
  have l2 := log_le hm0
  have hΛ : 54 ≤ (2 * (X / n) + σ).log2 := by
    have : 2 ^ 54 < 2 ^ ((2 * (X / n) + σ).log2 + 1) := Nat.lt_of_le_of_lt hmag l1
    have := (Nat.pow_lt_pow_iff_right (by decide)).1 this
    omega
  rw [nearest_eq _ _ _ (by rw [hσ]; exact hm0), hσ]
  generalize hΛ' : (2 * (X / n) + σ).log2 = Λ at *
  obtain ⟨K, rfl⟩ : ∃ K, Λ = K + 1 := ⟨Λ - 1, by omega⟩
  have k1 : 2 ^ K * n ≤ X := by
    refine (Nat.le_div_iff_mul_le hn0).1 ?_
    rw [Nat.pow_succ] at l2; omega
  have k2 : X < 2 ^ (K + 1) * n := by
    refine (Nat.div_lt_iff_lt_mul hn0).1 ?_
    rw [Nat.pow_succ 2 (K + 1)] at l1; omega
  generalize hlast : max (i - j - (more : Int) - 1 + ((K + 1 : Nat) : Int) - 52) (-1074) = last
  generalize hP : (i - j + 1074).toNat = a
  generalize hQ : (j - i - 1074).toNat = b
  refine ⟨(last + 1074).toNat, ?_, ?_⟩
  · refine rng_log (Λ := K + a) (b := more + b) ?_ ?_ (by omega)
    · have e1 : m * 2 ^ a * 2 ^ (more + b) = X * (2 ^ a * 2 ^ b) := by rw [← hX, Nat.pow_add]; simp only [Nat.mul_assoc, Nat.mul_left_comm, Nat.mul_comm]
      have e2 : 2 ^ (K + a) * (n * 2 ^ b) = 2 ^ K * n * (2 ^ a * 2 ^ b) := by rw [Nat.pow_add]; simp only [Nat.mul_assoc, Nat.mul_left_comm, Nat.mul_comm]
      rw [e1, e2]
      exact Nat.mul_le_mul_right _ k1
    · have e1 : m * 2 ^ a * 2 ^ (more + b) = X * (2 ^ a * 2 ^ b) := by rw [← hX, Nat.pow_add]; simp only [Nat.mul_assoc, Nat.mul_left_comm, Nat.mul_comm]
      have e2 : 2 ^ (K + a + 1) * (n * 2 ^ b) = 2 ^ (K + 1) * n * (2 ^ a * 2 ^ b) := by rw [show K + a + 1 = K + 1 + a by omega, Nat.pow_add]; simp only [Nat.mul_assoc, Nat.mul_left_comm, Nat.mul_comm]
      rw [e1, e2]
      exact Nat.mul_lt_mul_of_pos_right k2 (Nat.mul_pos (Nat.two_pow_pos _) (Nat.two_pow_pos _))
  · rw [cut_even, ← p52, show (i - j - (more : Int) - 1 - last).toNat = 0 by omega, Nat.shiftLeft_zero, ← hσ]
    obtain ⟨d, hd⟩ : ∃ d, (last - (i - j - (more : Int) - 1)).toNat = d + 2 := ⟨(last - (i - j - (more : Int) - 1)).toNat - 2, by omega⟩
    rw [hd, show (2 : Nat) ^ (d + 2) = 2 * (2 * 2 ^ d) by rw [Nat.pow_succ, Nat.pow_succ]; omega, rhe_sticky hn0]
    unfold rung
    congr 4
    refine rhe_eq (Nat.mul_pos hn0 (Nat.mul_pos (by decide) (Nat.two_pow_pos _))) (Nat.mul_pos (Nat.mul_pos hn0 (Nat.two_pow_pos _)) (Nat.two_pow_pos _)) ?_
    have e1 : X * (n * 2 ^ b * 2 ^ (last + 1074).toNat) = m * n * 2 ^ (more + b + (last + 1074).toNat) := by rw [← hX, Nat.pow_add, Nat.pow_add]; simp only [Nat.mul_assoc, Nat.mul_left_comm, Nat.mul_comm]
    have e2 : m * 2 ^ a * (n * (2 * 2 ^ d)) = m * n * 2 ^ (a + (d + 1)) := by rw [Nat.pow_add, Nat.pow_succ]; simp only [Nat.mul_assoc, Nat.mul_left_comm, Nat.mul_comm]
    rw [e1, e2]
    congr 2
    omega
end Flt
end Go.Proofs.YtdjckabogdohcaaGreat
