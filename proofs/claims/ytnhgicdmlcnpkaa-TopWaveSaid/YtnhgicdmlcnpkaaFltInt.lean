/- Floats that are whole numbers: their sums, products and even quotients are exact. -/
import Derived.Test.YtnhgicdmlcnpkaaFltErr
namespace Go.Proofs.Ytnhgicdmlcnpkaa
open Go.RowKit Ev Ieee
set_option linter.unusedVariables false
set_option linter.unusedSimpArgs false
set_option maxRecDepth 20000
namespace Flt

theorem rhe_exact {q g : Nat} (hg : 0 < g) : rhe (q * g) g = q := by
  unfold rhe
  rw [Nat.mul_mod_left, Nat.mul_div_cancel _ hg, if_neg (by omega)]; rfl
theorem rung_at {P D t q : Nat} (hq : rhe P (D * 2 ^ t) = q) (h1 : q ≤ 9007199254740992) (ht : t ≤ 1074) : rung (2 ^ 52) II P D t = t * 4503599627370496 + q ∧ t * 4503599627370496 + q < II := by
  have hII : II = 9218868437227405312 := by decide
  unfold rung; rw [p52, hII, hq]
  omega
theorem rung_exact {P D t Z κ : Nat} (hκ : κ = 1074) (hD : 0 < D) (h : Rng (2 ^ 52) P D t) (hP : P = Z * 2 ^ κ * D) (hZ : Z < 9007199254740992) : rung (2 ^ 52) II P D t < II ∧ Vr (rung (2 ^ 52) II P D t) = Z * 2 ^ κ := by
  have hII : II = 9218868437227405312 := by decide
  have hg : 0 < D * 2 ^ t := Nat.mul_pos hD (Nat.two_pow_pos _)
  have p53 : (2 : Nat) ^ 53 = 9007199254740992 := by decide
  have ht : t ≤ κ := by
    rcases h with ⟨h, _⟩ | ⟨_, h, _⟩
    · omega
    · rw [hP] at h
      have h1 := Nat.le_of_mul_le_mul_right h hD
      have h2 : Z * 2 ^ κ < 2 ^ 53 * 2 ^ κ := Nat.mul_lt_mul_of_pos_right (by omega) (Nat.two_pow_pos _)
      have h3 : 2 ^ 52 * 2 ^ t < 2 ^ 53 * 2 ^ κ := Nat.lt_of_le_of_lt h1 h2
      rw [← Nat.pow_add, ← Nat.pow_add] at h3
      have := (Nat.pow_lt_pow_iff_right (by decide)).1 h3
      omega
  have eP : P = Z * 2 ^ (κ - t) * (D * 2 ^ t) := by
    have : Z * 2 ^ (κ - t) * (D * 2 ^ t) = Z * D * (2 ^ (κ - t) * 2 ^ t) := by simp only [Nat.mul_assoc, Nat.mul_left_comm, Nat.mul_comm]
    rw [this, ← Nat.pow_add, show κ - t + t = κ by omega, hP, Nat.mul_right_comm]
  have er : rhe P (D * 2 ^ t) = Z * 2 ^ (κ - t) := by rw [eP]; exact rhe_exact hg
  have q1 : rhe P (D * 2 ^ t) ≤ 9007199254740992 := rhe_upper hg (by have := h.upper; rw [p52] at this; exact this)
  have q2 : 0 < t → 4503599627370496 ≤ rhe P (D * 2 ^ t) := fun ht => rhe_lower hg (by
    rcases h with ⟨h, _⟩ | ⟨_, h, _⟩
    · omega
    · rw [p52] at h; rw [Nat.mul_comm D, ← Nat.mul_assoc]; exact h)
  rw [er] at q1 q2
  obtain ⟨f1, f2⟩ := rung_at er q1 (Nat.le_trans ht (Nat.le_of_eq hκ))
  rw [f1, Vr_at q1 q2, Nat.mul_assoc, ← Nat.pow_add, Nat.sub_add_cancel ht]
  exact ⟨f2, rfl⟩
theorem sg_natAbs {s : Bool} {P m : Nat} {z : Int} (h : sg s P = z * (m : Int)) : P = z.natAbs * m := by
  have h1 := congrArg Int.natAbs h
  rw [Int.natAbs_mul] at h1
  have h2 : (sg s P).natAbs = P := by unfold sg; cases s <;> simp
  rw [h2] at h1
  exact h1
theorem op_exact {r P D t : Nat} {s : Bool} (hD : 0 < D) (hr : Rng (2 ^ 52) P D t) (hn : isN r = false) (hk : key r = sg s (rung (2 ^ 52) II P D t)) {z : Int} (he : (z : Rat) * (U * (D : Rat)) = ((sg s P : Int) : Rat))
    (hz : -9007199254740992 < z ∧ z < 9007199254740992) : Fin r ∧ val r = (z : Rat) := by
  obtain ⟨κ, hκ, hU⟩ := U_nat
  have e1 : sg s P = z * ((2 ^ κ * D : Nat) : Int) := by
    refine Rat.intCast_inj.1 ?_
    rw [← he, hU, Rat.intCast_mul, Rat.intCast_natCast, Rat.natCast_mul]
  have e2 := sg_natAbs e1
  obtain ⟨r1, r2⟩ := rung_exact hκ hD hr (Z := z.natAbs) (by rw [e2, Nat.mul_assoc]) (by omega)
  obtain ⟨f, v⟩ := key_V hk hn r1
  refine ⟨f, ?_⟩
  have ev : V r = z * ((2 ^ κ : Nat) : Int) := by
    rw [v, r2]
    have e3 : sg s (z.natAbs * 2 ^ κ) * (D : Int) = z * ((2 ^ κ : Nat) : Int) * (D : Int) := by
      have : sg s (z.natAbs * 2 ^ κ) * (D : Int) = sg s P := by
        rw [e2]
        unfold sg
        cases s
        · simp only [Bool.false_eq_true, if_false]; rw [← Int.natCast_mul, Nat.mul_assoc]
        · simp only [if_true]; rw [Int.neg_mul, ← Int.natCast_mul, Nat.mul_assoc]
      rw [this, e1, Int.natCast_mul, Int.mul_assoc]
    exact Int.eq_of_mul_eq_mul_right (by omega) e3
  have hUp := U_pos
  have e4 : val r * U = (z : Rat) * U := by rw [val_U, ev, hU, Rat.intCast_mul, Rat.intCast_natCast]
  exact Rat.le_antisymm (Rat.le_of_mul_le_mul_right (c := U) (by rw [e4]; exact Rat.le_refl) hUp) (Rat.le_of_mul_le_mul_right (c := U) (by rw [e4]; exact Rat.le_refl) hUp)
/-- A float that is a whole number. -/
structure Iv (x : Nat) (z : Int) : Prop where
  fin : Fin x
  eq : val x = (z : Rat)
theorem Iv.V {x : Nat} {z : Int} (h : Iv x z) {κ : Nat} (hκ : U = ((2 ^ κ : Nat) : Rat)) : V x = z * ((2 ^ κ : Nat) : Int) := by
  refine Rat.intCast_inj.1 ?_
  rw [← val_U, h.eq, hκ, Rat.intCast_mul, Rat.intCast_natCast]
theorem iv_add {x y : Nat} {a b : Int} (hx : Iv x a) (hy : Iv y b) (h : -9007199254740992 < a + b ∧ a + b < 9007199254740992) : Iv (F .add x y) (a + b) := by
  obtain ⟨t, r, n, k⟩ := add_form hx.fin hy.fin
  obtain ⟨f, v⟩ := op_exact (by decide) r n k (z := a + b) (by rw [sg_abs, one_cast, Rat.mul_one, Rat.intCast_add, Rat.add_mul, ← hx.eq, ← hy.eq, val_U, val_U, Rat.intCast_add]) h
  exact ⟨f, v⟩
theorem iv_sub {x y : Nat} {a b : Int} (hx : Iv x a) (hy : Iv y b) (h : -9007199254740992 < a - b ∧ a - b < 9007199254740992) : Iv (F .sub x y) (a - b) := by
  obtain ⟨t, r, n, k⟩ := sub_form hx.fin hy.fin
  rw [show decide (Flt.V x < Flt.V y) = decide (Flt.V x - Flt.V y < 0) from decide_eq_decide.2 (by omega)] at k
  have e1 := val_U x
  have e2 := val_U y
  obtain ⟨f, v⟩ := op_exact (by decide) r n k (z := a - b) (by rw [sg_abs, one_cast, Rat.mul_one, Rat.intCast_sub, Rat.intCast_sub, ← e1, ← e2, hx.eq, hy.eq]; grind) h
  exact ⟨f, v⟩
theorem iv_mul {x y : Nat} {a b : Int} (hx : Iv x a) (hy : Iv y b) (h : -9007199254740992 < a * b ∧ a * b < 9007199254740992) : Iv (F .mul x y) (a * b) := by
  have hx' := hx
  have hy' := hy
  obtain ⟨⟨s, m, i, ex⟩, vx⟩ := hx
  obtain ⟨⟨t, n, j, ey⟩, vy⟩ := hy
  obtain ⟨_, i0, _⟩ := read_form ex
  obtain ⟨_, j0, _⟩ := read_form ey
  obtain ⟨τ, r, nn, k⟩ := mul_form ex ey
  obtain ⟨κ, hκ, hκU⟩ := U_nat
  have e1 : m * n * 2 ^ (i + j + 1074).toNat * 2 ^ κ = m * 2 ^ (i + 1074).toNat * (n * 2 ^ (j + 1074).toNat) * 2 ^ (-1074 - (i + j)).toNat := by
    have : m * 2 ^ (i + 1074).toNat * (n * 2 ^ (j + 1074).toNat) * 2 ^ (-1074 - (i + j)).toNat = m * n * (2 ^ ((i + 1074).toNat + (j + 1074).toNat + (-1074 - (i + j)).toNat)) := by
      rw [Nat.pow_add, Nat.pow_add]; simp only [Nat.mul_assoc, Nat.mul_left_comm, Nat.mul_comm]
    rw [this, Nat.mul_assoc, ← Nat.pow_add, show (i + j + 1074).toNat + κ = (i + 1074).toNat + (j + 1074).toNat + (-1074 - (i + j)).toNat by omega]
  have e2 : ((sg (s ^^ t) (m * n * 2 ^ (i + j + 1074).toNat) : Int) : Rat) * U = (Flt.V x : Rat) * (Flt.V y : Rat) * ((2 ^ (-1074 - (i + j)).toNat : Nat) : Rat) := by
    rw [V_sg ex, V_sg ey, hκU, ← sg_scale, e1, sg_scale, ← sg_mul, Rat.intCast_mul]
  obtain ⟨f, v⟩ := op_exact (Nat.two_pow_pos _) r nn k (z := a * b) (by
    have hU := U_pos
    rw [← val_U x, ← val_U y, vx, vy] at e2
    rw [Rat.intCast_mul]
    generalize ((sg (s ^^ t) (m * n * 2 ^ (i + j + 1074).toNat) : Int) : Rat) = z at *
    generalize ((2 ^ (-1074 - (i + j)).toNat : Nat) : Rat) = d at *
    have e3 : z * U = (a : Rat) * (b : Rat) * (U * d) * U := by rw [e2]; grind
    exact Rat.le_antisymm (Rat.le_of_mul_le_mul_right (c := U) (by rw [e3]; exact Rat.le_refl) hU) (Rat.le_of_mul_le_mul_right (c := U) (by rw [e3]; exact Rat.le_refl) hU)) h
  exact ⟨f, v⟩
theorem iv_quo {x y : Nat} {a b c : Int} (hx : Iv x a) (hy : Iv y b) (hb : b ≠ 0) (hc : c * b = a) (h : -9007199254740992 < c ∧ c < 9007199254740992) : Iv (F .quo x y) c := by
  obtain ⟨κ, hκ, hκU⟩ := U_nat
  have vx := hx.V hκU
  have vy := hy.V hκU
  obtain ⟨⟨s, m, i, ex⟩, _⟩ := hx
  obtain ⟨⟨t, n, j, ey⟩, _⟩ := hy
  obtain ⟨_, i0, _⟩ := read_form ex
  obtain ⟨_, j0, _⟩ := read_form ey
  have hp : (0 : Int) < ((2 ^ κ : Nat) : Int) := by have := Nat.two_pow_pos κ; omega
  have h0y : Flt.V y ≠ 0 := by rw [vy]; exact fun e => (Int.mul_eq_zero.1 e).elim hb (by omega)
  have hn : n ≠ 0 := by
    intro h; subst h; apply h0y; rw [V_of ey]; exact signed_0 _ _
  obtain ⟨τ, r, nn, k⟩ := quo_key ex ey hn
  have e1 : m * 2 ^ (i - j + 1074).toNat * (n * 2 ^ (j + 1074).toNat) = m * 2 ^ (i + 1074).toNat * 2 ^ κ * (n * 2 ^ (j - i - 1074).toNat) := by
    have h1 : m * 2 ^ (i - j + 1074).toNat * (n * 2 ^ (j + 1074).toNat) = m * n * 2 ^ ((i - j + 1074).toNat + (j + 1074).toNat) := by
      rw [Nat.pow_add]; simp only [Nat.mul_assoc, Nat.mul_left_comm, Nat.mul_comm]
    have h2 : m * 2 ^ (i + 1074).toNat * 2 ^ κ * (n * 2 ^ (j - i - 1074).toNat) = m * n * 2 ^ ((i + 1074).toNat + κ + (j - i - 1074).toNat) := by
      rw [Nat.pow_add, Nat.pow_add]; simp only [Nat.mul_assoc, Nat.mul_left_comm, Nat.mul_comm]
    rw [h1, h2, show (i - j + 1074).toNat + (j + 1074).toNat = (i + 1074).toNat + κ + (j - i - 1074).toNat by omega]
  have e2 : ((sg (s ^^ t) (m * 2 ^ (i - j + 1074).toNat) : Int) : Rat) * (Flt.V y : Rat) = (Flt.V x : Rat) * ((2 ^ κ : Nat) : Rat) * ((n * 2 ^ (j - i - 1074).toNat : Nat) : Rat) := by
    rw [V_sg ex, V_sg ey, ← Rat.intCast_mul, sg_mul, e1, sg_scale, sg_scale, Bool.xor_assoc, Bool.xor_self, Bool.xor_false]
  obtain ⟨f, v⟩ := op_exact (Nat.mul_pos (by omega) (Nat.two_pow_pos _)) r nn k (z := c) (by
    have hU := U_pos
    have hb' : (b : Rat) ≠ 0 := fun e => hb (Rat.intCast_eq_zero_iff.1 e)
    rw [vx, vy, ← hc, ← hκU, Rat.intCast_mul, Rat.intCast_mul, Rat.intCast_mul, Rat.intCast_natCast, ← hκU] at e2
    generalize ((sg (s ^^ t) (m * 2 ^ (i - j + 1074).toNat) : Int) : Rat) = z at *
    generalize ((n * 2 ^ (j - i - 1074).toNat : Nat) : Rat) = d at *
    generalize (b : Rat) = b' at *
    generalize (c : Rat) = c' at *
    generalize U = U' at *
    grind) h
  exact ⟨f, v⟩
theorem iv_of {x : Nat} {z : Int} {κ : Nat} (hκ : U = ((2 ^ κ : Nat) : Rat)) (hf : Fin x) (h : Flt.V x = z * ((2 ^ κ : Nat) : Int)) : Iv x z := by
  refine ⟨hf, ?_⟩
  have hUp := U_pos
  have e4 : val x * U = (z : Rat) * U := by rw [val_U, h, hκ, Rat.intCast_mul, Rat.intCast_natCast]
  exact Rat.le_antisymm (Rat.le_of_mul_le_mul_right (c := U) (by rw [e4]; exact Rat.le_refl) hUp) (Rat.le_of_mul_le_mul_right (c := U) (by rw [e4]; exact Rat.le_refl) hUp)
theorem iv_near {z : Int} (h : -9007199254740992 < z ∧ z < 9007199254740992) : Iv (cn (FloatKind.f64.nearest z)) z := by
  have e : FloatKind.f64.nearest z = double.nearest (decide (z < 0)) z.natAbs 0 := rfl
  obtain ⟨n1, n2⟩ := nearest_V (decide (z < 0)) (m := z.natAbs) (i := 0) (by omega) (by decide) (by decide)
  obtain ⟨κ, hκ, hU⟩ := U_nat
  rw [e, cn_notN n1.notN]
  refine iv_of hU n1 ?_
  rw [n2, show ((0 : Int) + 1074).toNat = κ by omega]
  unfold signed
  rw [Nat.shiftLeft_eq]
  by_cases g : z < 0
  · rw [decide_eq_true g, if_pos rfl, Int.natCast_mul, ← Int.neg_mul]
    congr 1; omega
  · rw [decide_eq_false g, if_neg (by decide), Int.natCast_mul]
    congr 1; omega
theorem iv_feq {x y : Nat} {z : Int} (hx : Iv x z) (hy : Iv y z) : feq x y = true := by
  obtain ⟨κ, hκ, hU⟩ := U_nat
  rw [feq_V hx.fin hy.fin, hx.V hU, hy.V hU, decide_eq_true rfl]
theorem iv_cmp {x y : Nat} {a b : Int} (hx : Iv x a) (hy : Iv y b) : flt x y = decide (a < b) ∧ feq x y = decide (a = b) ∧ fgt x y = decide (b < a) := by
  obtain ⟨κ, hκ, hU⟩ := U_nat
  have hp : (0 : Int) < ((2 ^ κ : Nat) : Int) := by have := Nat.two_pow_pos κ; omega
  have lt : ∀ a b : Int, (a * ((2 ^ κ : Nat) : Int) < b * ((2 ^ κ : Nat) : Int)) = (a < b) := fun a b => propext ⟨fun h => Int.lt_of_mul_lt_mul_right h (Int.le_of_lt hp), fun h => Int.mul_lt_mul_of_pos_right h hp⟩
  refine ⟨?_, ?_, ?_⟩
  · rw [flt_V hx.fin hy.fin, hx.V hU, hy.V hU]; exact decide_eq_decide.2 (by rw [lt])
  · rw [feq_V hx.fin hy.fin, hx.V hU, hy.V hU]
    refine decide_eq_decide.2 ⟨fun h => Int.eq_of_mul_eq_mul_right (by omega) h, fun h => by rw [h]⟩
  · rw [fgt_flt, flt_V hy.fin hx.fin, hx.V hU, hy.V hU]; exact decide_eq_decide.2 (by rw [lt])
end Flt
end Go.Proofs.Ytnhgicdmlcnpkaa
