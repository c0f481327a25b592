/- How far the answer of a float's operation is from the exact one. -/
import Derived.Test.YtdjckabogdohcaaGreatFltKey
namespace Go.Proofs.YtdjckabogdohcaaGreat
open Go.RowKit Ev Ieee
set_option linter.unusedVariables false
set_option linter.unusedSimpArgs false
set_option maxRecDepth 20000
namespace Flt

theorem rhe_near {P g : Nat} (hg : 0 < g) : 2 * (rhe P g * g) ≤ 2 * P + g ∧ 2 * P ≤ 2 * (rhe P g * g) + g := by
  unfold rhe
  have h := Nat.div_add_mod P g
  have hm := Nat.mod_lt P hg
  split
  · rename_i hc
    rw [Nat.add_mul, Nat.one_mul, Nat.mul_comm (P / g)]
    generalize g * (P / g) = a at *
    generalize P / g % 2 = b at *
    generalize P % g = r at *
    omega
  · rename_i hc
    rw [Nat.add_zero, Nat.mul_comm (P / g)]
    generalize g * (P / g) = a at *
    generalize P / g % 2 = b at *
    generalize P % g = r at *
    omega
theorem Vr_at {t q : Nat} (h1 : q ≤ 9007199254740992) (h2 : 0 < t → 4503599627370496 ≤ q) : Vr (t * 4503599627370496 + q) = q * 2 ^ t := by
  unfold Vr
  by_cases h0 : t = 0
  · subst h0
    rw [Nat.zero_mul, Nat.zero_add, Nat.pow_zero, Nat.mul_one]
    split
    · rfl
    · by_cases h : q = 9007199254740992
      · subst h; decide
      · rw [show q / 4503599627370496 - 1 = 0 by omega, Nat.pow_zero]; omega
  · have h2 := h2 (by omega)
    rw [if_neg (by omega)]
    by_cases h : q = 9007199254740992
    · subst h
      rw [show (t * 4503599627370496 + 9007199254740992) % 4503599627370496 = 0 by omega, show (t * 4503599627370496 + 9007199254740992) / 4503599627370496 - 1 = t + 1 by omega, Nat.pow_succ]
      omega
    · rw [show (t * 4503599627370496 + q) % 4503599627370496 = q - 4503599627370496 by omega, show (t * 4503599627370496 + q) / 4503599627370496 - 1 = t by omega, show 4503599627370496 + (q - 4503599627370496) = q by omega]
theorem rung_err {P D t κ : Nat} (hD : 0 < D) (h : Rng (2 ^ 52) P D t) (hκ : κ ≤ 1900) (hP : P ≤ 2 ^ κ * D) : rung (2 ^ 52) II P D t < II ∧
    9007199254740992 * (Vr (rung (2 ^ 52) II P D t) * D) ≤ 9007199254740992 * P + P + 4503599627370496 * D ∧ 9007199254740992 * P ≤ 9007199254740992 * (Vr (rung (2 ^ 52) II P D t) * D) + P + 4503599627370496 * D := by
  have hII : II = 9218868437227405312 := by decide
  have hg : 0 < D * 2 ^ t := Nat.mul_pos hD (Nat.two_pow_pos _)
  obtain ⟨n1, n2⟩ := rhe_near (P := P) hg
  have q1 : rhe P (D * 2 ^ t) ≤ 9007199254740992 := rhe_upper hg (by have := h.upper; rw [p52] at this; exact this)
  have q2 : 0 < t → 4503599627370496 ≤ rhe P (D * 2 ^ t) := fun ht => rhe_lower hg (by
    rcases h with ⟨h, _⟩ | ⟨_, h, _⟩
    · omega
    · rw [p52] at h; rw [Nat.mul_comm D, ← Nat.mul_assoc]; exact h)
  have t1 : t ≤ 1900 := by
    rcases h with ⟨h, _⟩ | ⟨_, h, _⟩
    · omega
    · have h' : 2 ^ 52 * 2 ^ t * D ≤ 2 ^ κ * D := Nat.le_trans h hP
      have h'' := Nat.le_of_mul_le_mul_right h' hD
      rw [← Nat.pow_add] at h''
      have := (Nat.pow_le_pow_iff_right (by decide)).1 h''
      omega
  have er : rung (2 ^ 52) II P D t = t * 4503599627370496 + rhe P (D * 2 ^ t) := by
    unfold rung; rw [p52, hII]; omega
  rw [er, Vr_at q1 q2]
  refine ⟨by rw [hII]; omega, ?_⟩
  have e : rhe P (D * 2 ^ t) * 2 ^ t * D = rhe P (D * 2 ^ t) * (D * 2 ^ t) := by rw [Nat.mul_assoc, Nat.mul_comm (2 ^ t)]
  rw [e]
  generalize rhe P (D * 2 ^ t) * (D * 2 ^ t) = X at *
  rcases h with ⟨rfl, h⟩ | ⟨_, h, _⟩
  · rw [Nat.pow_zero, Nat.mul_one] at n1 n2
    omega
  · rw [p52, Nat.mul_assoc, Nat.mul_comm _ D] at h
    generalize D * 2 ^ t = g at *
    omega
theorem key_V {r : Nat} {s : Bool} {ρ : Nat} (hk : key r = sg s ρ) (hn : isN r = false) (hr : ρ < II) : Fin r ∧ V r = sg s (Vr ρ) := by
  obtain ⟨s', r', k, a, b, c⟩ := read_sr r
  have hII : II = 9218868437227405312 := by decide
  have e : r' = ρ := by rw [hk] at k; unfold sg at k; split at k <;> split at k <;> omega
  subst e
  obtain ⟨m, i, h1, h2⟩ := a hr
  refine ⟨⟨_, _, _, h1⟩, ?_⟩
  rw [h2]
  rw [hk] at k
  rw [(sg_cmp s' s r' r').2, k]
/-- A sum: its sign, and its rung. -/
theorem add_form {x y : Nat} (hx : Fin x) (hy : Fin y) : ∃ t, Rng (2 ^ 52) (V x + V y).natAbs 1 t ∧ isN (F .add x y) = false ∧ key (F .add x y) = sg (decide (V x + V y < 0)) (rung (2 ^ 52) II (V x + V y).natAbs 1 t) := by
  obtain ⟨s, m, i, ex⟩ := hx
  obtain ⟨t, n, j, ey⟩ := hy
  obtain ⟨_, i0, _⟩ := read_form ex
  obtain ⟨_, j0, _⟩ := read_form ey
  have e0 : fop .add x y = some (double.nearest (if signed s m (i - min i j).toNat + signed t n (j - min i j).toNat = 0 then s && t else decide (signed s m (i - min i j).toNat + signed t n (j - min i j).toNat < 0)) (signed s m (i - min i j).toNat + signed t n (j - min i j).toNat).natAbs (min i j)) := by
    show ((double.read x).sum (double.read y)).map double.write = _
    rw [ex, ey]
    rfl
  have hd : (signed s m (i - min i j).toNat + signed t n (j - min i j).toNat) * (2 ^ (min i j + 1074).toNat : Nat) = V x + V y := by
    rw [V_of ex, V_of ey, Int.add_mul, ← signed_add, ← signed_add, show (i - min i j).toNat + (min i j + 1074).toNat = (i + 1074).toNat by omega, show (j - min i j).toNat + (min i j + 1074).toNat = (j + 1074).toNat by omega]
  have p : (0 : Int) < (2 ^ (min i j + 1074).toNat : Nat) := by have := Nat.two_pow_pos (min i j + 1074).toNat; omega
  generalize signed s m (i - min i j).toNat + signed t n (j - min i j).toNat = d at *
  have hb : (-1074 - min i j).toNat = 0 := by omega
  generalize hneg : (if d = 0 then s && t else decide (d < 0)) = neg at e0
  obtain ⟨τ, hr, hn⟩ := nearest_form neg d.natAbs (min i j)
  have hab : d.natAbs * 2 ^ (min i j + 1074).toNat = (V x + V y).natAbs := by
    rw [← hd, Int.natAbs_mul]; rfl
  rw [hb, Nat.pow_zero, hab] at hr hn
  rw [hn] at e0
  have hw := word_ok neg (rung_le (2 ^ 52) II (V x + V y).natAbs 1 τ)
  refine ⟨τ, hr, ?_, ?_⟩
  · rw [F_some e0 hw]; exact hw
  · rw [F_some e0 hw, key_word _ (rung_le _ _ _ _ _)]
    rcases Int.lt_trichotomy d 0 with g | g | g
    · have : V x + V y < 0 := by
        have := Int.mul_neg_of_neg_of_pos g p; omega
      rw [decide_eq_true this, ← hneg, if_neg (by omega), decide_eq_true g]
    · have h0 : V x + V y = 0 := by rw [← hd, g, Int.zero_mul]
      rw [h0] at hr ⊢
      have e : rung (2 ^ 52) II (Int.natAbs 0) 1 τ = 0 := rng_0 (Nat.two_pow_pos _) (by decide) hr
      rw [e]
      unfold sg
      split <;> split <;> rfl
    · have : ¬ V x + V y < 0 := by
        have := Int.mul_pos g p; omega
      rw [decide_eq_false this, ← hneg, if_neg (by omega), decide_eq_false (by omega)]
/-- A product: its sign, and its rung. -/
theorem mul_form {x y : Nat} {s t : Bool} {m n : Nat} {i j : Int} (hx : double.read x = .number s m i) (hy : double.read y = .number t n j) :
    ∃ τ, Rng (2 ^ 52) (m * n * 2 ^ (i + j + 1074).toNat) (2 ^ (-1074 - (i + j)).toNat) τ ∧ isN (F .mul x y) = false ∧ key (F .mul x y) = sg (s ^^ t) (rung (2 ^ 52) II (m * n * 2 ^ (i + j + 1074).toNat) (2 ^ (-1074 - (i + j)).toNat) τ) := by
  have e0 : fop .mul x y = some (double.nearest (s ^^ t) (m * n) (i + j)) := by
    show ((double.read x).product (double.read y)).map double.write = _
    rw [hx, hy]
    rfl
  obtain ⟨τ, hr, hn⟩ := nearest_form (s ^^ t) (m * n) (i + j)
  rw [hn] at e0
  have hw := word_ok (s ^^ t) (rung_le (2 ^ 52) II (m * n * 2 ^ (i + j + 1074).toNat) (2 ^ (-1074 - (i + j)).toNat) τ)
  exact ⟨τ, hr, by rw [F_some e0 hw]; exact hw, by rw [F_some e0 hw, key_word _ (rung_le _ _ _ _ _)]⟩

/-- How many least parts make one. -/
@[irreducible] def U : Rat := ((2 ^ 1074 : Nat) : Rat)
theorem two_pos (k : Nat) : (0 : Rat) < ((2 ^ k : Nat) : Rat) := Rat.natCast_pos.2 (Nat.two_pow_pos k)
theorem U_pos : 0 < U := by unfold U; exact two_pos 1074
/-- What a finite float stands for. -/
def val (x : Nat) : Rat := (V x : Rat) / U
theorem val_U (x : Nat) : val x * U = (V x : Rat) := by
  unfold val; exact Rat.div_mul_cancel (Rat.ne_of_gt U_pos)
def Nr (a b E : Rat) : Prop := a - b ≤ E ∧ b - a ≤ E
def Bd (a M : Rat) : Prop := -M ≤ a ∧ a ≤ M
theorem mul_Bd {a b A B : Rat} (ha : Bd a A) (hb : Bd b B) : Bd (a * b) (A * B) := by
  have h1 : 0 ≤ (A - a) * (B + b) := Rat.mul_nonneg (by grind [Bd]) (by grind [Bd])
  have h2 : 0 ≤ (A + a) * (B - b) := Rat.mul_nonneg (by grind [Bd]) (by grind [Bd])
  have h3 : 0 ≤ (A - a) * (B - b) := Rat.mul_nonneg (by grind [Bd]) (by grind [Bd])
  have h4 : 0 ≤ (A + a) * (B + b) := Rat.mul_nonneg (by grind [Bd]) (by grind [Bd])
  constructor <;> grind
theorem Nr.bd {a b E : Rat} (h : Nr a b E) : Bd (a - b) E := by unfold Nr at h; unfold Bd; grind
theorem Bd.nr {a b E : Rat} (h : Bd (a - b) E) : Nr a b E := by unfold Bd at h; unfold Nr; grind
theorem Bd.add {a b A B : Rat} (ha : Bd a A) (hb : Bd b B) : Bd (a + b) (A + B) := by unfold Bd at *; grind
theorem Bd.sub {a b A B : Rat} (ha : Bd a A) (hb : Bd b B) : Bd (a - b) (A + B) := by unfold Bd at *; grind
theorem Bd.le {a A B : Rat} (ha : Bd a A) (h : A ≤ B) : Bd a B := by unfold Bd at *; grind
theorem Nr.le {a b A B : Rat} (ha : Nr a b A) (h : A ≤ B) : Nr a b B := by unfold Nr at *; grind
def u : Rat := 1 / 9007199254740992
/-- Half of the least part. -/
def h0 : Rat := 1 / (2 * U)
theorem h0_U : h0 * U = 1 / 2 := by
  unfold h0
  have := U_pos
  grind
theorem U_eq : U = ((2 ^ 1074 : Nat) : Rat) := by unfold U; rfl
theorem two_split (a b D : Nat) : ((2 ^ (a + b) * D : Nat) : Rat) = ((2 ^ a : Nat) : Rat) * (((2 ^ b : Nat) : Rat) * (D : Rat)) := by
  rw [Nat.pow_add, Rat.natCast_mul, Rat.natCast_mul, Rat.mul_assoc]
theorem two_60 : ((2 ^ 60 : Nat) : Rat) = 1152921504606846976 := by
  rw [show (2 : Nat) ^ 60 = 1152921504606846976 by decide]; rfl
theorem le_split {P D : Nat} (a b : Nat) (hab : a + b ≤ 1900) {x y : Rat} (hy : y = ((2 ^ b : Nat) : Rat)) (h1 : (P : Rat) ≤ x) (h2 : x ≤ ((2 ^ a : Nat) : Rat) * (y * (D : Rat))) : ∃ κ, κ ≤ 1900 ∧ P ≤ 2 ^ κ * D := by
  rw [hy, ← two_split] at h2
  exact ⟨_, hab, Rat.natCast_le_natCast.1 (Rat.le_trans h1 h2)⟩
theorem op_err {r P D t : Nat} {s : Bool} (hD : 0 < D) (hr : Rng (2 ^ 52) P D t) (hn : isN r = false) (hk : key r = sg s (rung (2 ^ 52) II P D t)) {e M : Rat} (he : e * (U * (D : Rat)) = ((sg s P : Int) : Rat))
    (hM : Bd e M) (hM2 : M ≤ 1152921504606846976) : Fin r ∧ Nr (val r) e (M * u + h0) := by
  have hD' : (0 : Rat) < (D : Rat) := Rat.natCast_pos.2 hD
  have hUD : 0 < U * (D : Rat) := Rat.mul_pos U_pos hD'
  have b1 : e * (U * (D : Rat)) ≤ M * (U * (D : Rat)) := Rat.mul_le_mul_of_nonneg_right hM.2 (Rat.le_of_lt hUD)
  have b2 : (-M) * (U * (D : Rat)) ≤ e * (U * (D : Rat)) := Rat.mul_le_mul_of_nonneg_right hM.1 (Rat.le_of_lt hUD)
  have hP1 : (P : Rat) ≤ M * (U * (D : Rat)) := by
    rw [he] at b1 b2
    unfold sg at b1 b2
    cases s
    · simp only [Bool.false_eq_true, if_false, Rat.intCast_natCast] at b1 b2; exact b1
    · simp only [if_true, Rat.intCast_neg, Rat.intCast_natCast] at b1 b2; grind
  obtain ⟨κ, hκ, hP2⟩ : ∃ κ, κ ≤ 1900 ∧ P ≤ 2 ^ κ * D := by
    have h1 : M * (U * (D : Rat)) ≤ 1152921504606846976 * (U * (D : Rat)) := Rat.mul_le_mul_of_nonneg_right hM2 (Rat.le_of_lt hUD)
    rw [← two_60] at h1
    exact le_split 60 1074 (by decide) U_eq hP1 h1
  obtain ⟨r1, r2, r3⟩ := rung_err hD hr hκ hP2
  obtain ⟨f, v⟩ := key_V hk hn r1
  refine ⟨f, ?_⟩
  generalize Vr (rung (2 ^ 52) II P D t) = R at *
  have r2' : ((9007199254740992 * (R * D) : Nat) : Rat) ≤ ((9007199254740992 * P + P + 4503599627370496 * D : Nat) : Rat) := Rat.natCast_le_natCast.2 r2
  have r3' : ((9007199254740992 * P : Nat) : Rat) ≤ ((9007199254740992 * (R * D) + P + 4503599627370496 * D : Nat) : Rat) := Rat.natCast_le_natCast.2 r3
  simp only [Rat.natCast_mul, Rat.natCast_add] at r2' r3'
  have ev : val r * (U * (D : Rat)) = ((sg s R : Int) : Rat) * (D : Rat) := by rw [← Rat.mul_assoc, val_U, v]
  have eh : h0 * (U * (D : Rat)) = (D : Rat) / 2 := by rw [← Rat.mul_assoc, h0_U]; grind
  generalize hX : U * (D : Rat) = X at *
  generalize hY : (R : Rat) * (D : Rat) = Y at *
  have es : ((sg s R : Int) : Rat) * (D : Rat) = if s then -Y else Y := by
    unfold sg
    cases s
    · simp only [Bool.false_eq_true, if_false, Rat.intCast_natCast]; exact hY
    · simp only [if_true, Rat.intCast_neg, Rat.intCast_natCast]; grind
  have ep : ((sg s P : Int) : Rat) = if s then -(P : Rat) else (P : Rat) := by
    unfold sg
    cases s
    · simp only [Bool.false_eq_true, if_false, Rat.intCast_natCast]
    · simp only [if_true, Rat.intCast_neg, Rat.intCast_natCast]
  rw [es] at ev
  rw [ep] at he
  have c53 : ((9007199254740992 : Nat) : Rat) = 9007199254740992 := rfl
  have c52 : ((4503599627370496 : Nat) : Rat) = 4503599627370496 := rfl
  rw [c53, c52] at r2' r3'
  have hu : u = 1 / 9007199254740992 := rfl
  unfold Nr
  rw [hu]
  constructor
  · refine Rat.le_of_mul_le_mul_right (c := X) ?_ hUD
    cases s <;> simp only [Bool.false_eq_true, if_false, if_true] at ev he <;> grind
  · refine Rat.le_of_mul_le_mul_right (c := X) ?_ hUD
    cases s <;> simp only [Bool.false_eq_true, if_false, if_true] at ev he <;> grind
theorem sg_abs (d : Int) : sg (decide (d < 0)) d.natAbs = d := by
  unfold sg
  by_cases h : d < 0
  · rw [decide_eq_true h, if_pos rfl]; omega
  · rw [decide_eq_false h, if_neg (by decide)]; omega
theorem one_cast : ((1 : Nat) : Rat) = 1 := rfl
theorem add_err {x y : Nat} (hx : Fin x) (hy : Fin y) {M : Rat} (hM : Bd (val x + val y) M) (hM2 : M ≤ 1152921504606846976) :
    Fin (F .add x y) ∧ Nr (val (F .add x y)) (val x + val y) (M * u + h0) := by
  obtain ⟨t, r, n, k⟩ := add_form hx hy
  refine op_err (by decide) r n k ?_ hM hM2
  rw [sg_abs, one_cast, Rat.mul_one, Rat.add_mul, val_U, val_U, Rat.intCast_add]
theorem sub_err {x y : Nat} (hx : Fin x) (hy : Fin y) {M : Rat} (hM : Bd (val x - val y) M) (hM2 : M ≤ 1152921504606846976) :
    Fin (F .sub x y) ∧ Nr (val (F .sub x y)) (val x - val y) (M * u + h0) := by
  obtain ⟨t, r, n, k⟩ := sub_form hx hy
  rw [show decide (V x < V y) = decide (V x - V y < 0) from decide_eq_decide.2 (by omega)] at k
  refine op_err (by decide) r n k ?_ hM hM2
  have a := val_U x
  have b := val_U y
  rw [sg_abs, one_cast, Rat.mul_one, Rat.intCast_sub, ← a, ← b]
  grind
theorem V_sg {x : Nat} {s : Bool} {m : Nat} {i : Int} (h : double.read x = .number s m i) : V x = sg s (m * 2 ^ (i + 1074).toNat) := by
  rw [V_of h]; unfold signed sg; rw [Nat.shiftLeft_eq]
theorem sg_mul (s t : Bool) (a b : Nat) : sg s a * sg t b = sg (s ^^ t) (a * b) := by
  unfold sg; cases s <;> cases t <;> simp [Int.neg_mul, Int.mul_neg]
theorem U_nat : ∃ k : Nat, k = 1074 ∧ U = ((2 ^ k : Nat) : Rat) := ⟨1074, rfl, U_eq⟩
theorem sg_scale (s : Bool) (a b : Nat) : ((sg s (a * b) : Int) : Rat) = ((sg s a : Int) : Rat) * (b : Rat) := by
  unfold sg
  cases s
  · simp only [Bool.false_eq_true, if_false, Rat.intCast_natCast, Rat.natCast_mul]
  · simp only [if_true, Rat.intCast_neg, Rat.intCast_natCast, Rat.natCast_mul]; grind
theorem mul_err {x y : Nat} (hx : Fin x) (hy : Fin y) {M : Rat} (hM : Bd (val x * val y) M) (hM2 : M ≤ 1152921504606846976) :
    Fin (F .mul x y) ∧ Nr (val (F .mul x y)) (val x * val y) (M * u + h0) := by
  obtain ⟨s, m, i, ex⟩ := hx
  obtain ⟨t, n, j, ey⟩ := hy
  obtain ⟨_, i0, _⟩ := read_form ex
  obtain ⟨_, j0, _⟩ := read_form ey
  obtain ⟨τ, r, nn, k⟩ := mul_form ex ey
  refine op_err (Nat.two_pow_pos _) r nn k ?_ hM hM2
  obtain ⟨κ, hκ, hκU⟩ := U_nat
  generalize ha : (i + j + 1074).toNat = a
  generalize hb : (-1074 - (i + j)).toNat = b
  have e1 : m * n * 2 ^ a * 2 ^ κ = m * 2 ^ (i + 1074).toNat * (n * 2 ^ (j + 1074).toNat) * 2 ^ b := by
    have : m * 2 ^ (i + 1074).toNat * (n * 2 ^ (j + 1074).toNat) * 2 ^ b = m * n * (2 ^ ((i + 1074).toNat + (j + 1074).toNat + b)) := by
      rw [Nat.pow_add, Nat.pow_add]; simp only [Nat.mul_assoc, Nat.mul_left_comm, Nat.mul_comm]
    rw [this, Nat.mul_assoc, ← Nat.pow_add, show a + κ = (i + 1074).toNat + (j + 1074).toNat + b by omega]
  have e2 : ((sg (s ^^ t) (m * n * 2 ^ a) : Int) : Rat) * U = (V x : Rat) * (V y : Rat) * ((2 ^ b : Nat) : Rat) := by
    rw [V_sg ex, V_sg ey, hκU, ← sg_scale, e1, sg_scale, ← sg_mul, Rat.intCast_mul]
  have hU := U_pos
  rw [← val_U x, ← val_U y] at e2
  generalize ((sg (s ^^ t) (m * n * 2 ^ a) : Int) : Rat) = z at *
  generalize ((2 ^ b : Nat) : Rat) = d at *
  have e3 : z * U = val x * val y * (U * d) * U := by rw [e2]; grind
  refine Rat.le_antisymm (Rat.le_of_mul_le_mul_right (c := U) (by rw [e3]; exact Rat.le_refl) hU) (Rat.le_of_mul_le_mul_right (c := U) (by rw [e3]; exact Rat.le_refl) hU)
theorem quo_err {x y : Nat} (hx : Fin x) (hy : Fin y) (h0y : V y ≠ 0) {e M : Rat} (he : e * val y = val x) (hM : Bd e M) (hM2 : M ≤ 1152921504606846976) :
    Fin (F .quo x y) ∧ Nr (val (F .quo x y)) e (M * u + h0) := by
  obtain ⟨s, m, i, ex⟩ := hx
  obtain ⟨t, n, j, ey⟩ := hy
  obtain ⟨_, i0, _⟩ := read_form ex
  obtain ⟨_, j0, _⟩ := read_form ey
  have hn : n ≠ 0 := by
    intro h; subst h; apply h0y; rw [V_of ey]; exact signed_0 _ _
  obtain ⟨τ, r, nn, k⟩ := quo_key ex ey hn
  refine op_err (Nat.mul_pos (by omega) (Nat.two_pow_pos _)) r nn k ?_ hM hM2
  obtain ⟨κ, hκ, hκU⟩ := U_nat
  generalize ha : (i - j + 1074).toNat = a
  generalize hb : (j - i - 1074).toNat = b
  have e1 : m * 2 ^ a * (n * 2 ^ (j + 1074).toNat) = m * 2 ^ (i + 1074).toNat * 2 ^ κ * (n * 2 ^ b) := by
    have h1 : m * 2 ^ a * (n * 2 ^ (j + 1074).toNat) = m * n * 2 ^ (a + (j + 1074).toNat) := by
      rw [Nat.pow_add]; simp only [Nat.mul_assoc, Nat.mul_left_comm, Nat.mul_comm]
    have h2 : m * 2 ^ (i + 1074).toNat * 2 ^ κ * (n * 2 ^ b) = m * n * 2 ^ ((i + 1074).toNat + κ + b) := by
      rw [Nat.pow_add, Nat.pow_add]; simp only [Nat.mul_assoc, Nat.mul_left_comm, Nat.mul_comm]
    rw [h1, h2, show a + (j + 1074).toNat = (i + 1074).toNat + κ + b by omega]
  have hD : ((n * 2 ^ b : Nat) : Rat) = ((n * 2 ^ b : Nat) : Rat) := rfl
  have e2 : ((sg (s ^^ t) (m * 2 ^ a) : Int) : Rat) * (V y : Rat) = (V x : Rat) * ((2 ^ κ : Nat) : Rat) * ((n * 2 ^ b : Nat) : Rat) := by
    rw [V_sg ex, V_sg ey, ← Rat.intCast_mul, sg_mul, e1, sg_scale, sg_scale, Bool.xor_assoc, Bool.xor_self, Bool.xor_false]
  have hU := U_pos
  have hV : val y ≠ 0 := by
    intro h
    apply h0y
    have := val_U y
    rw [h, Rat.zero_mul] at this
    exact Rat.intCast_eq_zero_iff.1 this.symm
  rw [← hκU, ← val_U x, ← val_U y, ← he] at e2
  generalize ((sg (s ^^ t) (m * 2 ^ a) : Int) : Rat) = z at *
  generalize ((n * 2 ^ b : Nat) : Rat) = d at *
  grind
end Flt
end Go.Proofs.YtdjckabogdohcaaGreat
