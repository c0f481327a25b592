/- Floats that are bounded: sums, differences, products, quotients; differences turned about. -/
import Derived.Test.YtdjckabogdohcaaGreatFltErr
namespace Go.Proofs.YtdjckabogdohcaaGreat
open Go.RowKit Ev Ieee
set_option linter.unusedVariables false
set_option linter.unusedSimpArgs false
set_option maxRecDepth 20000
namespace Flt

theorem h0_nn : 0 ≤ h0 := by
  have h := h0_U
  refine Rat.le_of_mul_le_mul_right (c := U) ?_ U_pos
  rw [h]; grind
theorem two_ge : ∀ k : Nat, (2 : Rat) ≤ ((2 ^ (k + 1) : Nat) : Rat) := fun k => by
  have h : 2 ^ 1 ≤ 2 ^ (k + 1) := Nat.pow_le_pow_right (by decide) (by omega)
  have e : (2 : Rat) = ((2 : Nat) : Rat) := rfl
  rw [e]
  exact Rat.natCast_le_natCast.2 h
theorem U_two : (2 : Rat) ≤ U := by
  obtain ⟨κ, hκ, e⟩ := U_nat
  have h := two_ge (κ - 1)
  rw [show κ - 1 + 1 = κ by omega, ← e] at h
  exact h
theorem h0_one : h0 ≤ 1 / 2 := by
  have h1 : (2 : Rat) * h0 ≤ U * h0 := Rat.mul_le_mul_of_nonneg_right U_two h0_nn
  rw [Rat.mul_comm U, h0_U] at h1
  have := h0_nn
  grind
theorem err_one {M : Rat} (h0' : 0 ≤ M) (h : M ≤ 1152921504606846976) : M * u + h0 ≤ 129 := by
  have := h0_one
  unfold u
  grind
/-- A float that stands for a number, and one no greater than M. -/
structure Q (x : Nat) (M : Rat) : Prop where
  fin : Fin x
  bd : Bd (val x) M
theorem Q.nn {x : Nat} {M : Rat} (h : Q x M) : 0 ≤ M := by have := h.bd; unfold Bd at this; grind
theorem Q.le {x : Nat} {M N : Rat} (h : Q x M) (h' : M ≤ N) : Q x N := ⟨h.fin, h.bd.le h'⟩
theorem near_bd {a e E M : Rat} (h : Nr a e E) (hM : Bd e M) : Bd a (M + E) := by unfold Nr Bd at *; grind
theorem Q.of {r : Nat} {e M : Rat} (h : Fin r ∧ Nr (val r) e (M * u + h0)) (hb : Bd e M) (hM : M ≤ 1152921504606846976) : Q r (M + 129) := by
  have h0M : 0 ≤ M := by unfold Bd at hb; grind
  exact ⟨h.1, (near_bd h.2 hb).le (by have := err_one h0M hM; grind)⟩
theorem Q.add {x y : Nat} {M N : Rat} (hx : Q x M) (hy : Q y N) (h : M + N ≤ 1152921504606846976) : Q (F .add x y) (M + N + 129) :=
  .of (add_err hx.fin hy.fin (hx.bd.add hy.bd) h) (hx.bd.add hy.bd) h
theorem Q.sub {x y : Nat} {M N : Rat} (hx : Q x M) (hy : Q y N) (h : M + N ≤ 1152921504606846976) : Q (F .sub x y) (M + N + 129) :=
  .of (sub_err hx.fin hy.fin (hx.bd.sub hy.bd) h) (hx.bd.sub hy.bd) h
theorem Q.mul {x y : Nat} {M N : Rat} (hx : Q x M) (hy : Q y N) (h : M * N ≤ 1152921504606846976) : Q (F .mul x y) (M * N + 129) :=
  .of (mul_err hx.fin hy.fin (mul_Bd hx.bd hy.bd) h) (mul_Bd hx.bd hy.bd) h
theorem val_pos_U {x : Nat} : 0 ≤ V x → 0 ≤ val x := fun h => by
  refine Rat.le_of_mul_le_mul_right (c := U) ?_ U_pos
  rw [Rat.zero_mul, val_U]
  exact Rat.intCast_nonneg.2 h
theorem val_le {x y : Nat} (h : V x ≤ V y) : val x ≤ val y := by
  refine Rat.le_of_mul_le_mul_right (c := U) ?_ U_pos
  rw [val_U, val_U]
  exact Rat.intCast_le_intCast.2 h
theorem val_neg {z w : Nat} (h : V z ≤ -V w) : val z ≤ -val w := by
  refine Rat.le_of_mul_le_mul_right (c := U) ?_ U_pos
  rw [Rat.neg_mul, val_U, val_U, ← Rat.intCast_neg]
  exact Rat.intCast_le_intCast.2 h
theorem val_neg' {z w : Nat} (h : -V w ≤ V z) : -val w ≤ val z := by
  refine Rat.le_of_mul_le_mul_right (c := U) ?_ U_pos
  rw [Rat.neg_mul, val_U, val_U, ← Rat.intCast_neg]
  exact Rat.intCast_le_intCast.2 h
theorem val_le_of {x κ : Nat} {M : Int} (hκ : U = ((2 ^ κ : Nat) : Rat)) (h : V x ≤ M * (2 ^ κ : Nat)) : val x ≤ (M : Rat) := by
  refine Rat.le_of_mul_le_mul_right (c := U) ?_ U_pos
  rw [val_U]
  have := Rat.intCast_le_intCast.2 h
  rw [Rat.intCast_mul, Rat.intCast_natCast, ← hκ] at this
  exact this
theorem le_val_of {x κ : Nat} {M : Int} (hκ : U = ((2 ^ κ : Nat) : Rat)) (h : M * (2 ^ κ : Nat) ≤ V x) : (M : Rat) ≤ val x := by
  refine Rat.le_of_mul_le_mul_right (c := U) ?_ U_pos
  rw [val_U]
  have := Rat.intCast_le_intCast.2 h
  rw [Rat.intCast_mul, Rat.intCast_natCast, ← hκ] at this
  exact this
theorem of_val_le {x κ : Nat} {M : Int} (hκ : U = ((2 ^ κ : Nat) : Rat)) (h : val x ≤ (M : Rat)) : V x ≤ M * (2 ^ κ : Nat) := by
  have := Rat.mul_le_mul_of_nonneg_right h (Rat.le_of_lt U_pos)
  rw [val_U, hκ] at this
  refine Rat.intCast_le_intCast.1 ?_
  rw [Rat.intCast_mul, Rat.intCast_natCast]
  exact this
theorem of_le_val {x κ : Nat} {M : Int} (hκ : U = ((2 ^ κ : Nat) : Rat)) (h : (M : Rat) ≤ val x) : M * (2 ^ κ : Nat) ≤ V x := by
  have := Rat.mul_le_mul_of_nonneg_right h (Rat.le_of_lt U_pos)
  rw [val_U, hκ] at this
  refine Rat.intCast_le_intCast.1 ?_
  rw [Rat.intCast_mul, Rat.intCast_natCast]
  exact this
theorem val_ne {x : Nat} (h : V x ≠ 0) : val x ≠ 0 := fun e => h (by
  have := val_U x
  rw [e, Rat.zero_mul] at this
  exact Rat.intCast_eq_zero_iff.1 this.symm)
theorem V_0 : V 0 = 0 := by rw [V_of (show double.read 0 = .number false 0 (-1074) by decide +kernel)]; exact signed_0 _ _
theorem val_0 : val 0 = 0 := by unfold val; rw [V_0, Rat.intCast_zero, Rat.div_def, Rat.zero_mul]
/-- A quotient of a number by one that is no lesser. -/
theorem ratio_bd {x y : Nat} (h0y : V y ≠ 0) (h : (V x).natAbs ≤ (V y).natAbs) : Bd (val x / val y) 1 := by
  have hv := val_ne h0y
  have he : (val x / val y) * val y = val x := Rat.div_mul_cancel hv
  generalize val x / val y = q at he ⊢
  rcases Int.lt_or_le (V y) 0 with g | g
  · have g1 : val y ≤ 0 := by rw [← val_0]; exact val_le (by rw [V_0]; omega)
    have g2 : val y ≤ val x := val_le (by omega)
    have g3 : val x ≤ -val y := val_neg (by omega)
    have gp : 0 < -val y := by grind
    unfold Bd
    constructor
    · refine Rat.le_of_mul_le_mul_right (c := -val y) ?_ gp
      rw [Rat.mul_neg q, he]; grind
    · refine Rat.le_of_mul_le_mul_right (c := -val y) ?_ gp
      rw [Rat.mul_neg q, he]; grind
  · have g1 := val_pos_U g
    have g2 : -val y ≤ val x := val_neg' (by omega)
    have g3 : val x ≤ val y := val_le (by omega)
    have gp : 0 < val y := by grind
    unfold Bd
    constructor
    · refine Rat.le_of_mul_le_mul_right (c := val y) ?_ gp
      rw [he]; grind
    · refine Rat.le_of_mul_le_mul_right (c := val y) ?_ gp
      rw [he]; grind
theorem Q.ratio {x y : Nat} (hx : Fin x) (hy : Fin y) (h0y : V y ≠ 0) (h : (V x).natAbs ≤ (V y).natAbs) : Q (F .quo x y) 130 := by
  have he : (val x / val y) * val y = val x := Rat.div_mul_cancel (val_ne h0y)
  have hb := ratio_bd h0y h
  exact (Q.of (quo_err hx hy h0y he hb (by grind)) hb (by grind)).le (by grind)
theorem pw_gen (c : Nat) : (8589934592000000 : Nat) <<< c = 1000000 * 2 ^ (33 + c) := by
  rw [Nat.shiftLeft_eq, Nat.pow_add, ← Nat.mul_assoc]
theorem pw33 {κ : Nat} (hκ : κ = 1074) : (8589934592000000 : Nat) <<< 1041 = 1000000 * 2 ^ κ := by
  have e : κ = 33 + 1041 := by omega
  subst e
  exact pw_gen 1041
/-- What is near is no greater than a million. -/
theorem near_V {x κ : Nat} (hκ : κ = 1074) : nearB x = true ↔ Fin x ∧ -1000000 * ((2 ^ κ : Nat) : Int) ≤ V x ∧ V x ≤ 1000000 * ((2 ^ κ : Nat) : Int) := by
  have f1 : Fin 13920209183539462144 := ⟨_, _, _, read_n1e6⟩
  have f2 : Fin 4696837146684686336 := ⟨_, _, _, read_1e6⟩
  have e1 : V 13920209183539462144 = -1000000 * ((2 ^ κ : Nat) : Int) := by
    rw [V_of read_n1e6]
    unfold signed
    rw [if_pos rfl, show ((-33 : Int) + 1074).toNat = 1041 by decide, pw33 hκ, Int.natCast_mul, Int.neg_mul]; rfl
  have e2 : V 4696837146684686336 = 1000000 * ((2 ^ κ : Nat) : Int) := by
    rw [V_of read_1e6]
    unfold signed
    rw [if_neg (by decide), show ((-33 : Int) + 1074).toNat = 1041 by decide, pw33 hκ, Int.natCast_mul]; rfl
  constructor
  · intro h
    have f := (near_small h).fin
    unfold nearB at h
    rw [fgt_flt, flt_V f1 f, flt_V f f2, feq_V f f1, feq_V f f2, e1, e2] at h
    simp only [Bool.and_eq_true, Bool.or_eq_true, decide_eq_true_eq] at h
    exact ⟨f, by omega, by omega⟩
  · rintro ⟨f, h1, h2⟩
    unfold nearB
    rw [fgt_flt, flt_V f1 f, flt_V f f2, feq_V f f1, feq_V f f2, e1, e2]
    simp only [Bool.and_eq_true, Bool.or_eq_true, decide_eq_true_eq]
    omega
theorem near_Q {x : Nat} (h : nearB x = true) : Q x 1000000 := by
  obtain ⟨κ, hκ, e⟩ := U_nat
  obtain ⟨f, h1, h2⟩ := (near_V hκ).1 h
  refine ⟨f, ?_⟩
  have g1 := le_val_of e h1
  have g2 := val_le_of e h2
  unfold Bd
  exact ⟨by simpa using g1, by simpa using g2⟩
theorem Q.near {x : Nat} (h : Q x 1000000) : nearB x = true := by
  obtain ⟨κ, hκ, e⟩ := U_nat
  have hb := h.bd
  unfold Bd at hb
  exact (near_V hκ).2 ⟨h.fin, of_le_val e (by simpa using hb.1), of_val_le e (by simpa using hb.2)⟩
theorem rung_same {P t t' : Nat} (h : Rng (2 ^ 52) P 1 t) (h' : Rng (2 ^ 52) P 1 t') : rung (2 ^ 52) II P 1 t = rung (2 ^ 52) II P 1 t' :=
  Nat.le_antisymm (rung_mono (by decide) (by decide) (Nat.le_refl _) h h') (rung_mono (by decide) (by decide) (Nat.le_refl _) h' h)
theorem II_pos : 0 < II := by unfold II; decide
theorem rung_pos {P t : Nat} (hP : 0 < P) (h : Rng (2 ^ 52) P 1 t) : 0 < rung (2 ^ 52) II P 1 t := by
  have hi := II_pos
  rcases h with ⟨rfl, _⟩ | ⟨h, _⟩
  · unfold rung rhe
    rw [Nat.zero_mul, Nat.zero_add, Nat.pow_zero, Nat.mul_one, Nat.div_one]
    omega
  · unfold rung
    have := Nat.mul_pos h (show 0 < 2 ^ 52 by decide)
    omega
/-- A difference turned about. -/
theorem sub_turn {x y : Nat} (hx : Fin x) (hy : Fin y) : isN (F .sub x y) = false ∧ isN (F .sub y x) = false ∧ key (F .sub y x) = -key (F .sub x y) := by
  obtain ⟨t, r1, n1, k1⟩ := sub_form hx hy
  obtain ⟨t', r2, n2, k2⟩ := sub_form hy hx
  refine ⟨n1, n2, ?_⟩
  have e : (V y - V x).natAbs = (V x - V y).natAbs := by omega
  rw [e] at r2 k2
  rw [k1, k2, rung_same r2 r1]
  rcases Int.lt_trichotomy (V x) (V y) with g | g | g
  · rw [decide_eq_true g, decide_eq_false (show ¬ V y < V x by omega)]; unfold sg; simp
  · have e0 : (V x - V y).natAbs = 0 := by omega
    rw [e0] at r1 ⊢
    rw [rng_0 (by decide) (by decide) r1]; unfold sg; split <;> split <;> simp
  · rw [decide_eq_true g, decide_eq_false (show ¬ V x < V y by omega)]; unfold sg; simp
theorem key_0 : key 0 = 0 := by decide +kernel
theorem Fin_0 : Fin 0 := ⟨false, 0, -1074, by decide +kernel⟩
theorem V_pos {x : Nat} (h : Fin x) : 0 < V x ↔ 0 < key x := by
  have := (V_key Fin_0 h).1
  rw [V_0, key_0] at this; exact this
theorem V_nonneg {x : Nat} (h : Fin x) : 0 ≤ V x ↔ 0 ≤ key x := by
  have := (V_key h Fin_0).1
  rw [V_0, key_0] at this; omega
theorem add_pos {x y : Nat} (hx : Fin x) (hy : Fin y) (h : 0 < V x + V y) : isN (F .add x y) = false ∧ 0 < key (F .add x y) := by
  obtain ⟨t, r, n, k⟩ := add_form hx hy
  refine ⟨n, ?_⟩
  rw [k, decide_eq_false (by omega)]
  have := rung_pos (by omega) r
  unfold sg
  rw [if_neg (by decide)]
  omega
theorem add_neg {x y : Nat} (hx : Fin x) (hy : Fin y) (h : V x + V y < 0) : isN (F .add x y) = false ∧ key (F .add x y) < 0 := by
  obtain ⟨t, r, n, k⟩ := add_form hx hy
  refine ⟨n, ?_⟩
  rw [k, decide_eq_true h]
  have := rung_pos (by omega) r
  unfold sg
  rw [if_pos rfl]
  omega
/-- The sign turned. -/
theorem key_fneg (x : Nat) : key (fneg x) = -key x := by
  have hm : fneg x % 9223372036854775808 = x % 9223372036854775808 := fneg_mod x
  have hd : fneg x / 9223372036854775808 % 2 = 1 - x / 9223372036854775808 % 2 := by
    have e : fneg x / 2 ^ 63 = x / 2 ^ 63 ^^^ 1 := by
      show (x ^^^ 2 ^ 63) / 2 ^ 63 = _
      rw [Nat.xor_div_two_pow, Nat.div_self (by decide)]
    rw [show (9223372036854775808 : Nat) = 2 ^ 63 by decide, e, show (2 : Nat) = 2 ^ 1 by decide, Nat.xor_mod_two_pow]
    have : x / (2 ^ 1) ^ 63 % 2 ^ 1 = 0 ∨ x / (2 ^ 1) ^ 63 % 2 ^ 1 = 1 := by omega
    rcases this with h | h <;> rw [h] <;> rfl
  unfold key
  rw [hm, hd]
  have : x / 9223372036854775808 % 2 = 0 ∨ x / 9223372036854775808 % 2 = 1 := by omega
  rcases this with h | h <;> rw [h] <;> unfold sg <;> simp
theorem key_Fneg {x : Nat} (h : isN x = false) : isN (Fneg x) = false ∧ key (Fneg x) = -key x := by
  have e : Fneg x = fneg x := by unfold Fneg; exact cn_notN (by rw [isN_fneg]; exact h)
  rw [e]
  exact ⟨by rw [isN_fneg]; exact h, key_fneg x⟩
end Flt
end Go.Proofs.YtdjckabogdohcaaGreat
