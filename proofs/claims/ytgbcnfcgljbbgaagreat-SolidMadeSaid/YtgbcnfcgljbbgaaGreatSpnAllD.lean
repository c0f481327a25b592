/- How far the answer of a float's operation is from the exact one. -/
import Derived.Test.YtgbcnfcgljbbgaaGreatSpnAllA
import Derived.Test.YtgbcnfcgljbbgaaGreatEvNum
import Derived.Test.YtgbcnfcgljbbgaaGreatSlabA
import Derived.Test.YtgbcnfcgljbbgaaGreatSolidA
import Derived.Test.YtgbcnfcgljbbgaaGreatLin
import Derived.Test.YtgbcnfcgljbbgaaGreatSpnAllC
namespace Go.Proofs.YtgbcnfcgljbbgaaGreat
open Go.RowKit Ev Ieee
set_option linter.unusedVariables false
set_option linter.unusedSimpArgs false
set_option maxRecDepth 20000
namespace Flt

theorem rhe_near {P g : Nat} (hg : 0 < g) : 2 * (rhe P g * g) ≤ 2 * P + g ∧ 2 * P ≤ 2 * (rhe P g * g) + g := by
  unfold rhe
  have h := Nat.div_add_mod P g
  have hm := Nat.mod_lt P hg
  split
  · rename_i hc
    rw [Nat.add_mul, Nat.one_mul, Nat.mul_comm (P / g)]
    generalize g * (P / g) = a at *
    generalize P / g % 2 = b at *
    generalize P % g = r at *
    omega
  · rename_i hc
    rw [Nat.add_zero, Nat.mul_comm (P / g)]
    generalize g * (P / g) = a at *
    generalize P / g % 2 = b at *
    generalize P % g = r at *
    omega
theorem Vr_at {t q : Nat} (h1 : q ≤ 9007199254740992) (h2 : 0 < t → 4503599627370496 ≤ q) : Vr (t * 4503599627370496 + q) = q * 2 ^ t := by
  unfold Vr
  by_cases h0 : t = 0
  · subst h0
    rw [Nat.zero_mul, Nat.zero_add, Nat.pow_zero, Nat.mul_one]
    split
    · rfl
    · by_cases h : q = 9007199254740992
      · subst h; decide
      · rw [show q / 4503599627370496 - 1 = 0 by omega, Nat.pow_zero]; omega
  · have h2 := h2 (by omega)
    rw [if_neg (by omega)]
    by_cases h : q = 9007199254740992
    · subst h
      rw [show (t * 4503599627370496 + 9007199254740992) % 4503599627370496 = 0 by omega, show (t * 4503599627370496 + 9007199254740992) / 4503599627370496 - 1 = t + 1 by omega, Nat.pow_succ]
      omega
    · rw [show (t * 4503599627370496 + q) % 4503599627370496 = q - 4503599627370496 by omega, show (t * 4503599627370496 + q) / 4503599627370496 - 1 = t by omega, show 4503599627370496 + (q - 4503599627370496) = q by omega]
theorem rung_err {P D t κ : Nat} (hD : 0 < D) (h : Rng (2 ^ 52) P D t) (hκ : κ ≤ 1900) (hP : P ≤ 2 ^ κ * D) : rung (2 ^ 52) II P D t < II ∧
    9007199254740992 * (Vr (rung (2 ^ 52) II P D t) * D) ≤ 9007199254740992 * P + P + 4503599627370496 * D ∧ 9007199254740992 * P ≤ 9007199254740992 * (Vr (rung (2 ^ 52) II P D t) * D) + P + 4503599627370496 * D := by
  have hII : II = 9218868437227405312 := by decide
  have hg : 0 < D * 2 ^ t := Nat.mul_pos hD (Nat.two_pow_pos _)
  obtain ⟨n1, n2⟩ := rhe_near (P := P) hg
  have q1 : rhe P (D * 2 ^ t) ≤ 9007199254740992 := rhe_upper hg (by have := h.upper; rw [p52] at this; exact this)
  have q2 : 0 < t → 4503599627370496 ≤ rhe P (D * 2 ^ t) := fun ht => rhe_lower hg (by
    rcases h with ⟨h, _⟩ | ⟨_, h, _⟩
    · omega
    · rw [p52] at h; rw [Nat.mul_comm D, ← Nat.mul_assoc]; exact h)
  have t1 : t ≤ 1900 := by
    rcases h with ⟨h, _⟩ | ⟨_, h, _⟩
    · omega
    · have h' : 2 ^ 52 * 2 ^ t * D ≤ 2 ^ κ * D := Nat.le_trans h hP
      have h'' := Nat.le_of_mul_le_mul_right h' hD
      rw [← Nat.pow_add] at h''
      have := (Nat.pow_le_pow_iff_right (by decide)).1 h''
      omega
  have er : rung (2 ^ 52) II P D t = t * 4503599627370496 + rhe P (D * 2 ^ t) := by
    unfold rung; rw [p52, hII]; omega
  rw [er, Vr_at q1 q2]
  refine ⟨by rw [hII]; omega, ?_⟩
  have e : rhe P (D * 2 ^ t) * 2 ^ t * D = rhe P (D * 2 ^ t) * (D * 2 ^ t) := by rw [Nat.mul_assoc, Nat.mul_comm (2 ^ t)]
  rw [e]
  generalize rhe P (D * 2 ^ t) * (D * 2 ^ t) = X at *
  rcases h with ⟨rfl, h⟩ | ⟨_, h, _⟩
  · rw [Nat.pow_zero, Nat.mul_one] at n1 n2
    omega
  · rw [p52, Nat.mul_assoc, Nat.mul_comm _ D] at h
    generalize D * 2 ^ t = g at *
    omega
theorem key_V {r : Nat} {s : Bool} {ρ : Nat} (hk : key r = sg s ρ) (hn : isN r = false) (hr : ρ < II) : Fin r ∧ V r = sg s (Vr ρ) := by
  obtain ⟨s', r', k, a, b, c⟩ := read_sr r
  have hII : II = 9218868437227405312 := by decide
  have e : r' = ρ := by rw [hk] at k; unfold sg at k; split at k <;> split at k <;> omega
  subst e
  obtain ⟨m, i, h1, h2⟩ := a hr
  refine ⟨⟨_, _, _, h1⟩, ?_⟩
  rw [h2]
  rw [hk] at k
  rw [(sg_cmp s' s r' r').2, k]
/-- A sum: its sign, and its rung. -/
theorem add_form {x y : Nat} (hx : Fin x) (hy : Fin y) : ∃ t, Rng (2 ^ 52) (V x + V y).natAbs 1 t ∧ isN (F .add x y) = false ∧ key (F .add x y) = sg (decide (V x + V y < 0)) (rung (2 ^ 52) II (V x + V y).natAbs 1 t) := by
  obtain ⟨s, m, i, ex⟩ := hx
  obtain ⟨t, n, j, ey⟩ := hy
  obtain ⟨_, i0, _⟩ := read_form ex
  obtain ⟨_, j0, _⟩ := read_form ey
  have e0 : fop .add x y = some (double.nearest (if signed s m (i - min i j).toNat + signed t n (j - min i j).toNat = 0 then s && t else decide (signed s m (i - min i j).toNat + signed t n (j - min i j).toNat < 0)) (signed s m (i - min i j).toNat + signed t n (j - min i j).toNat).natAbs (min i j)) := by
    show ((double.read x).sum (double.read y)).map double.write = _
    rw [ex, ey]
    rfl
  have hd : (signed s m (i - min i j).toNat + signed t n (j - min i j).toNat) * (2 ^ (min i j + 1074).toNat : Nat) = V x + V y := by
    rw [V_of ex, V_of ey, Int.add_mul, ← signed_add, ← signed_add, show (i - min i j).toNat + (min i j + 1074).toNat = (i + 1074).toNat by omega, show (j - min i j).toNat + (min i j + 1074).toNat = (j + 1074).toNat by omega]
  have p : (0 : Int) < (2 ^ (min i j + 1074).toNat : Nat) := by have := Nat.two_pow_pos (min i j + 1074).toNat; omega
  generalize signed s m (i - min i j).toNat + signed t n (j - min i j).toNat = d at *
  have hb : (-1074 - min i j).toNat = 0 := by omega
  generalize hneg : (if d = 0 then s && t else decide (d < 0)) = neg at e0
  obtain ⟨τ, hr, hn⟩ := nearest_form neg d.natAbs (min i j)
  have hab : d.natAbs * 2 ^ (min i j + 1074).toNat = (V x + V y).natAbs := by
    rw [← hd, Int.natAbs_mul]; rfl
  rw [hb, Nat.pow_zero, hab] at hr hn
  rw [hn] at e0
  have hw := word_ok neg (rung_le (2 ^ 52) II (V x + V y).natAbs 1 τ)
  refine ⟨τ, hr, ?_, ?_⟩
  · rw [F_some e0 hw]; exact hw
  · rw [F_some e0 hw, key_word _ (rung_le _ _ _ _ _)]
    rcases Int.lt_trichotomy d 0 with g | g | g
    · have : V x + V y < 0 := by
        have := Int.mul_neg_of_neg_of_pos g p; omega
      rw [decide_eq_true this, ← hneg, if_neg (by omega), decide_eq_true g]
    · have h0 : V x + V y = 0 := by rw [← hd, g, Int.zero_mul]
      rw [h0] at hr ⊢
      have e : rung (2 ^ 52) II (Int.natAbs 0) 1 τ = 0 := rng_0 (Nat.two_pow_pos _) (by decide) hr
      rw [e]
      unfold sg
      split <;> split <;> rfl
    · have : ¬ V x + V y < 0 := by
        have := Int.mul_pos g p; omega
      rw [decide_eq_false this, ← hneg, if_neg (by omega), decide_eq_false (by omega)]
/-- A product: its sign, and its rung. -/
theorem mul_form {x y : Nat} {s t : Bool} {m n : Nat} {i j : Int} (hx : double.read x = .number s m i) (hy : double.read y = .number t n j) :
    ∃ τ, Rng (2 ^ 52) (m * n * 2 ^ (i + j + 1074).toNat) (2 ^ (-1074 - (i + j)).toNat) τ ∧ isN (F .mul x y) = false ∧ key (F .mul x y) = sg (s ^^ t) (rung (2 ^ 52) II (m * n * 2 ^ (i + j + 1074).toNat) (2 ^ (-1074 - (i + j)).toNat) τ) := by
  have e0 : fop .mul x y = some (double.nearest (s ^^ t) (m * n) (i + j)) := by
    show ((double.read x).product (double.read y)).map double.write = _
    rw [hx, hy]
    rfl
  obtain ⟨τ, hr, hn⟩ := nearest_form (s ^^ t) (m * n) (i + j)
  rw [hn] at e0
  have hw := word_ok (s ^^ t) (rung_le (2 ^ 52) II (m * n * 2 ^ (i + j + 1074).toNat) (2 ^ (-1074 - (i + j)).toNat) τ)
  exact ⟨τ, hr, by rw [F_some e0 hw]; exact hw, by rw [F_some e0 hw, key_word _ (rung_le _ _ _ _ _)]⟩

/-- How many least parts make one. -/
@[irreducible] def U : Rat := ((2 ^ 1074 : Nat) : Rat)
theorem two_pos (k : Nat) : (0 : Rat) < ((2 ^ k : Nat) : Rat) := Rat.natCast_pos.2 (Nat.two_pow_pos k)
theorem U_pos : 0 < U := by unfold U; exact two_pos 1074
/-- What a finite float stands for. -/
def val (x : Nat) : Rat := (V x : Rat) / U
theorem val_U (x : Nat) : val x * U = (V x : Rat) := by
  unfold val; exact Rat.div_mul_cancel (Rat.ne_of_gt U_pos)
def Nr (a b E : Rat) : Prop := a - b ≤ E ∧ b - a ≤ E
def Bd (a M : Rat) : Prop := -M ≤ a ∧ a ≤ M
theorem mul_Bd {a b A B : Rat} (ha : Bd a A) (hb : Bd b B) : Bd (a * b) (A * B) := by
  have h1 : 0 ≤ (A - a) * (B + b) := Rat.mul_nonneg (by grind [Bd]) (by grind [Bd])
  have h2 : 0 ≤ (A + a) * (B - b) := Rat.mul_nonneg (by grind [Bd]) (by grind [Bd])
  have h3 : 0 ≤ (A - a) * (B - b) := Rat.mul_nonneg (by grind [Bd]) (by grind [Bd])
  have h4 : 0 ≤ (A + a) * (B + b) := Rat.mul_nonneg (by grind [Bd]) (by grind [Bd])
  constructor <;> grind
theorem Nr.bd {a b E : Rat} (h : Nr a b E) : Bd (a - b) E := by unfold Nr at h; unfold Bd; grind
theorem Bd.nr {a b E : Rat} (h : Bd (a - b) E) : Nr a b E := by unfold Bd at h; unfold Nr; grind
theorem Bd.add {a b A B : Rat} (ha : Bd a A) (hb : Bd b B) : Bd (a + b) (A + B) := by unfold Bd at *; grind
theorem Bd.sub {a b A B : Rat} (ha : Bd a A) (hb : Bd b B) : Bd (a - b) (A + B) := by unfold Bd at *; grind
theorem Bd.le {a A B : Rat} (ha : Bd a A) (h : A ≤ B) : Bd a B := by unfold Bd at *; grind
theorem Nr.le {a b A B : Rat} (ha : Nr a b A) (h : A ≤ B) : Nr a b B := by unfold Nr at *; grind
def u : Rat := 1 / 9007199254740992
/-- Half of the least part. -/
def h0 : Rat := 1 / (2 * U)
theorem h0_U : h0 * U = 1 / 2 := by
  unfold h0
  have := U_pos
  grind
theorem U_eq : U = ((2 ^ 1074 : Nat) : Rat) := by unfold U; rfl
theorem two_split (a b D : Nat) : ((2 ^ (a + b) * D : Nat) : Rat) = ((2 ^ a : Nat) : Rat) * (((2 ^ b : Nat) : Rat) * (D : Rat)) := by
  rw [Nat.pow_add, Rat.natCast_mul, Rat.natCast_mul, Rat.mul_assoc]
theorem two_60 : ((2 ^ 60 : Nat) : Rat) = 1152921504606846976 := by
  rw [show (2 : Nat) ^ 60 = 1152921504606846976 by decide]; rfl
theorem le_split {P D : Nat} (a b : Nat) (hab : a + b ≤ 1900) {x y : Rat} (hy : y = ((2 ^ b : Nat) : Rat)) (h1 : (P : Rat) ≤ x) (h2 : x ≤ ((2 ^ a : Nat) : Rat) * (y * (D : Rat))) : ∃ κ, κ ≤ 1900 ∧ P ≤ 2 ^ κ * D := by
  rw [hy, ← two_split] at h2
  exact ⟨_, hab, Rat.natCast_le_natCast.1 (Rat.le_trans h1 h2)⟩
theorem op_err {r P D t : Nat} {s : Bool} (hD : 0 < D) (hr : Rng (2 ^ 52) P D t) (hn : isN r = false) (hk : key r = sg s (rung (2 ^ 52) II P D t)) {e M : Rat} (he : e * (U * (D : Rat)) = ((sg s P : Int) : Rat))
    (hM : Bd e M) (hM2 : M ≤ 1152921504606846976) : Fin r ∧ Nr (val r) e (M * u + h0) := by
  have hD' : (0 : Rat) < (D : Rat) := Rat.natCast_pos.2 hD
  have hUD : 0 < U * (D : Rat) := Rat.mul_pos U_pos hD'
  have b1 : e * (U * (D : Rat)) ≤ M * (U * (D : Rat)) := Rat.mul_le_mul_of_nonneg_right hM.2 (Rat.le_of_lt hUD)
  have b2 : (-M) * (U * (D : Rat)) ≤ e * (U * (D : Rat)) := Rat.mul_le_mul_of_nonneg_right hM.1 (Rat.le_of_lt hUD)
  have hP1 : (P : Rat) ≤ M * (U * (D : Rat)) := by
    rw [he] at b1 b2
    unfold sg at b1 b2
    cases s
    · simp only [Bool.false_eq_true, if_false, Rat.intCast_natCast] at b1 b2; exact b1
    · simp only [if_true, Rat.intCast_neg, Rat.intCast_natCast] at b1 b2; grind
  obtain ⟨κ, hκ, hP2⟩ : ∃ κ, κ ≤ 1900 ∧ P ≤ 2 ^ κ * D := by
    have h1 : M * (U * (D : Rat)) ≤ 1152921504606846976 * (U * (D : Rat)) := Rat.mul_le_mul_of_nonneg_right hM2 (Rat.le_of_lt hUD)
    rw [← two_60] at h1
    exact le_split 60 1074 (by decide) U_eq hP1 h1
  obtain ⟨r1, r2, r3⟩ := rung_err hD hr hκ hP2
  obtain ⟨f, v⟩ := key_V hk hn r1
  refine ⟨f, ?_⟩
  generalize Vr (rung (2 ^ 52) II P D t) = R at *
  have r2' : ((9007199254740992 * (R * D) : Nat) : Rat) ≤ ((9007199254740992 * P + P + 4503599627370496 * D : Nat) : Rat) := Rat.natCast_le_natCast.2 r2
  have r3' : ((9007199254740992 * P : Nat) : Rat) ≤ ((9007199254740992 * (R * D) + P + 4503599627370496 * D : Nat) : Rat) := Rat.natCast_le_natCast.2 r3
  simp only [Rat.natCast_mul, Rat.natCast_add] at r2' r3'
  have ev : val r * (U * (D : Rat)) = ((sg s R : Int) : Rat) * (D : Rat) := by rw [← Rat.mul_assoc, val_U, v]
  have eh : h0 * (U * (D : Rat)) = (D : Rat) / 2 := by rw [← Rat.mul_assoc, h0_U]; grind
  generalize hX : U * (D : Rat) = X at *
  generalize hY : (R : Rat) * (D : Rat) = Y at *
  have es : ((sg s R : Int) : Rat) * (D : Rat) = if s then -Y else Y := by
    unfold sg
    cases s
    · simp only [Bool.false_eq_true, if_false, Rat.intCast_natCast]; exact hY
    · simp only [if_true, Rat.intCast_neg, Rat.intCast_natCast]; grind
  have ep : ((sg s P : Int) : Rat) = if s then -(P : Rat) else (P : Rat) := by
    unfold sg
    cases s
    · simp only [Bool.false_eq_true, if_false, Rat.intCast_natCast]
    · simp only [if_true, Rat.intCast_neg, Rat.intCast_natCast]
  rw [es] at ev
  rw [ep] at he
  have c53 : ((9007199254740992 : Nat) : Rat) = 9007199254740992 := rfl
  have c52 : ((4503599627370496 : Nat) : Rat) = 4503599627370496 := rfl
  rw [c53, c52] at r2' r3'
  have hu : u = 1 / 9007199254740992 := rfl
  unfold Nr
  rw [hu]
  constructor
  · refine Rat.le_of_mul_le_mul_right (c := X) ?_ hUD
    cases s <;> simp only [Bool.false_eq_true, if_false, if_true] at ev he <;> grind
  · refine Rat.le_of_mul_le_mul_right (c := X) ?_ hUD
    cases s <;> simp only [Bool.false_eq_true, if_false, if_true] at ev he <;> grind
theorem sg_abs (d : Int) : sg (decide (d < 0)) d.natAbs = d := by
  unfold sg
  by_cases h : d < 0
  · rw [decide_eq_true h, if_pos rfl]; omega
  · rw [decide_eq_false h, if_neg (by decide)]; omega
theorem one_cast : ((1 : Nat) : Rat) = 1 := rfl
theorem add_err {x y : Nat} (hx : Fin x) (hy : Fin y) {M : Rat} (hM : Bd (val x + val y) M) (hM2 : M ≤ 1152921504606846976) :
    Fin (F .add x y) ∧ Nr (val (F .add x y)) (val x + val y) (M * u + h0) := by
  obtain ⟨t, r, n, k⟩ := add_form hx hy
  refine op_err (by decide) r n k ?_ hM hM2
  rw [sg_abs, one_cast, Rat.mul_one, Rat.add_mul, val_U, val_U, Rat.intCast_add]
theorem sub_err {x y : Nat} (hx : Fin x) (hy : Fin y) {M : Rat} (hM : Bd (val x - val y) M) (hM2 : M ≤ 1152921504606846976) :
    Fin (F .sub x y) ∧ Nr (val (F .sub x y)) (val x - val y) (M * u + h0) := by
  obtain ⟨t, r, n, k⟩ := sub_form hx hy
  rw [show decide (V x < V y) = decide (V x - V y < 0) from decide_eq_decide.2 (by omega)] at k
  refine op_err (by decide) r n k ?_ hM hM2
  have a := val_U x
  have b := val_U y
  rw [sg_abs, one_cast, Rat.mul_one, Rat.intCast_sub, ← a, ← b]
  grind
theorem V_sg {x : Nat} {s : Bool} {m : Nat} {i : Int} (h : double.read x = .number s m i) : V x = sg s (m * 2 ^ (i + 1074).toNat) := by
  rw [V_of h]; unfold signed sg; rw [Nat.shiftLeft_eq]
theorem sg_mul (s t : Bool) (a b : Nat) : sg s a * sg t b = sg (s ^^ t) (a * b) := by
  unfold sg; cases s <;> cases t <;> simp [Int.neg_mul, Int.mul_neg]
theorem U_nat : ∃ k : Nat, k = 1074 ∧ U = ((2 ^ k : Nat) : Rat) := ⟨1074, rfl, U_eq⟩
theorem sg_scale (s : Bool) (a b : Nat) : ((sg s (a * b) : Int) : Rat) = ((sg s a : Int) : Rat) * (b : Rat) := by
  unfold sg
  cases s
  · simp only [Bool.false_eq_true, if_false, Rat.intCast_natCast, Rat.natCast_mul]
  · simp only [if_true, Rat.intCast_neg, Rat.intCast_natCast, Rat.natCast_mul]; grind
theorem mul_err {x y : Nat} (hx : Fin x) (hy : Fin y) {M : Rat} (hM : Bd (val x * val y) M) (hM2 : M ≤ 1152921504606846976) :
    Fin (F .mul x y) ∧ Nr (val (F .mul x y)) (val x * val y) (M * u + h0) := by
  obtain ⟨s, m, i, ex⟩ := hx
  obtain ⟨t, n, j, ey⟩ := hy
  obtain ⟨_, i0, _⟩ := read_form ex
  obtain ⟨_, j0, _⟩ := read_form ey
  obtain ⟨τ, r, nn, k⟩ := mul_form ex ey
  refine op_err (Nat.two_pow_pos _) r nn k ?_ hM hM2
  obtain ⟨κ, hκ, hκU⟩ := U_nat
  generalize ha : (i + j + 1074).toNat = a
  generalize hb : (-1074 - (i + j)).toNat = b
  have e1 : m * n * 2 ^ a * 2 ^ κ = m * 2 ^ (i + 1074).toNat * (n * 2 ^ (j + 1074).toNat) * 2 ^ b := by
    have : m * 2 ^ (i + 1074).toNat * (n * 2 ^ (j + 1074).toNat) * 2 ^ b = m * n * (2 ^ ((i + 1074).toNat + (j + 1074).toNat + b)) := by
      rw [Nat.pow_add, Nat.pow_add]; simp only [Nat.mul_assoc, Nat.mul_left_comm, Nat.mul_comm]
    rw [this, Nat.mul_assoc, ← Nat.pow_add, show a + κ = (i + 1074).toNat + (j + 1074).toNat + b by omega]
  have e2 : ((sg (s ^^ t) (m * n * 2 ^ a) : Int) : Rat) * U = (V x : Rat) * (V y : Rat) * ((2 ^ b : Nat) : Rat) := by
    rw [V_sg ex, V_sg ey, hκU, ← sg_scale, e1, sg_scale, ← sg_mul, Rat.intCast_mul]
  have hU := U_pos
  rw [← val_U x, ← val_U y] at e2
  generalize ((sg (s ^^ t) (m * n * 2 ^ a) : Int) : Rat) = z at *
  generalize ((2 ^ b : Nat) : Rat) = d at *
  have e3 : z * U = val x * val y * (U * d) * U := by rw [e2]; grind
  refine Rat.le_antisymm (Rat.le_of_mul_le_mul_right (c := U) (by rw [e3]; exact Rat.le_refl) hU) (Rat.le_of_mul_le_mul_right (c := U) (by rw [e3]; exact Rat.le_refl) hU)
theorem quo_err {x y : Nat} (hx : Fin x) (hy : Fin y) (h0y : V y ≠ 0) {e M : Rat} (he : e * val y = val x) (hM : Bd e M) (hM2 : M ≤ 1152921504606846976) :
    Fin (F .quo x y) ∧ Nr (val (F .quo x y)) e (M * u + h0) := by
  obtain ⟨s, m, i, ex⟩ := hx
  obtain ⟨t, n, j, ey⟩ := hy
  obtain ⟨_, i0, _⟩ := read_form ex
  obtain ⟨_, j0, _⟩ := read_form ey
  have hn : n ≠ 0 := by
    intro h; subst h; apply h0y; rw [V_of ey]; exact signed_0 _ _
  obtain ⟨τ, r, nn, k⟩ := quo_key ex ey hn
  refine op_err (Nat.mul_pos (by omega) (Nat.two_pow_pos _)) r nn k ?_ hM hM2
  obtain ⟨κ, hκ, hκU⟩ := U_nat
  generalize ha : (i - j + 1074).toNat = a
  generalize hb : (j - i - 1074).toNat = b
  have e1 : m * 2 ^ a * (n * 2 ^ (j + 1074).toNat) = m * 2 ^ (i + 1074).toNat * 2 ^ κ * (n * 2 ^ b) := by
    have h1 : m * 2 ^ a * (n * 2 ^ (j + 1074).toNat) = m * n * 2 ^ (a + (j + 1074).toNat) := by
      rw [Nat.pow_add]; simp only [Nat.mul_assoc, Nat.mul_left_comm, Nat.mul_comm]
    have h2 : m * 2 ^ (i + 1074).toNat * 2 ^ κ * (n * 2 ^ b) = m * n * 2 ^ ((i + 1074).toNat + κ + b) := by
      rw [Nat.pow_add, Nat.pow_add]; simp only [Nat.mul_assoc, Nat.mul_left_comm, Nat.mul_comm]
    rw [h1, h2, show a + (j + 1074).toNat = (i + 1074).toNat + κ + b by omega]
  have hD : ((n * 2 ^ b : Nat) : Rat) = ((n * 2 ^ b : Nat) : Rat) := rfl
  have e2 : ((sg (s ^^ t) (m * 2 ^ a) : Int) : Rat) * (V y : Rat) = (V x : Rat) * ((2 ^ κ : Nat) : Rat) * ((n * 2 ^ b : Nat) : Rat) := by
    rw [V_sg ex, V_sg ey, ← Rat.intCast_mul, sg_mul, e1, sg_scale, sg_scale, Bool.xor_assoc, Bool.xor_self, Bool.xor_false]
  have hU := U_pos
  have hV : val y ≠ 0 := by
    intro h
    apply h0y
    have := val_U y
    rw [h, Rat.zero_mul] at this
    exact Rat.intCast_eq_zero_iff.1 this.symm
  rw [← hκU, ← val_U x, ← val_U y, ← he] at e2
  generalize ((sg (s ^^ t) (m * 2 ^ a) : Int) : Rat) = z at *
  generalize ((n * 2 ^ b : Nat) : Rat) = d at *
  grind
end Flt
end Go.Proofs.YtgbcnfcgljbbgaaGreat
/- Floats that are bounded: sums, differences, products, quotients; differences turned about. -/
namespace Go.Proofs.YtgbcnfcgljbbgaaGreat
open Go.RowKit Ev Ieee
set_option linter.unusedVariables false
set_option linter.unusedSimpArgs false
set_option maxRecDepth 20000
namespace Flt

theorem h0_nn : 0 ≤ h0 := by
  have h := h0_U
  refine Rat.le_of_mul_le_mul_right (c := U) ?_ U_pos
  rw [h]; grind
theorem two_ge : ∀ k : Nat, (2 : Rat) ≤ ((2 ^ (k + 1) : Nat) : Rat) := fun k => by
  have h : 2 ^ 1 ≤ 2 ^ (k + 1) := Nat.pow_le_pow_right (by decide) (by omega)
  have e : (2 : Rat) = ((2 : Nat) : Rat) := rfl
  rw [e]
  exact Rat.natCast_le_natCast.2 h
theorem U_two : (2 : Rat) ≤ U := by
  obtain ⟨κ, hκ, e⟩ := U_nat
  have h := two_ge (κ - 1)
  rw [show κ - 1 + 1 = κ by omega, ← e] at h
  exact h
theorem h0_one : h0 ≤ 1 / 2 := by
  have h1 : (2 : Rat) * h0 ≤ U * h0 := Rat.mul_le_mul_of_nonneg_right U_two h0_nn
  rw [Rat.mul_comm U, h0_U] at h1
  have := h0_nn
  grind
theorem err_one {M : Rat} (h0' : 0 ≤ M) (h : M ≤ 1152921504606846976) : M * u + h0 ≤ 129 := by
  have := h0_one
  unfold u
  grind
/-- A float that stands for a number, and one no greater than M. -/
structure Q (x : Nat) (M : Rat) : Prop where
  fin : Fin x
  bd : Bd (val x) M
theorem Q.nn {x : Nat} {M : Rat} (h : Q x M) : 0 ≤ M := by have := h.bd; unfold Bd at this; grind
theorem Q.le {x : Nat} {M N : Rat} (h : Q x M) (h' : M ≤ N) : Q x N := ⟨h.fin, h.bd.le h'⟩
theorem near_bd {a e E M : Rat} (h : Nr a e E) (hM : Bd e M) : Bd a (M + E) := by unfold Nr Bd at *; grind
theorem Q.of {r : Nat} {e M : Rat} (h : Fin r ∧ Nr (val r) e (M * u + h0)) (hb : Bd e M) (hM : M ≤ 1152921504606846976) : Q r (M + 129) := by
  have h0M : 0 ≤ M := by unfold Bd at hb; grind
  exact ⟨h.1, (near_bd h.2 hb).le (by have := err_one h0M hM; grind)⟩
theorem Q.add {x y : Nat} {M N : Rat} (hx : Q x M) (hy : Q y N) (h : M + N ≤ 1152921504606846976) : Q (F .add x y) (M + N + 129) :=
  .of (add_err hx.fin hy.fin (hx.bd.add hy.bd) h) (hx.bd.add hy.bd) h
theorem Q.sub {x y : Nat} {M N : Rat} (hx : Q x M) (hy : Q y N) (h : M + N ≤ 1152921504606846976) : Q (F .sub x y) (M + N + 129) :=
  .of (sub_err hx.fin hy.fin (hx.bd.sub hy.bd) h) (hx.bd.sub hy.bd) h
theorem Q.mul {x y : Nat} {M N : Rat} (hx : Q x M) (hy : Q y N) (h : M * N ≤ 1152921504606846976) : Q (F .mul x y) (M * N + 129) :=
  .of (mul_err hx.fin hy.fin (mul_Bd hx.bd hy.bd) h) (mul_Bd hx.bd hy.bd) h
theorem val_pos_U {x : Nat} : 0 ≤ V x → 0 ≤ val x := fun h => by
  refine Rat.le_of_mul_le_mul_right (c := U) ?_ U_pos
  rw [Rat.zero_mul, val_U]
  exact Rat.intCast_nonneg.2 h
theorem val_le {x y : Nat} (h : V x ≤ V y) : val x ≤ val y := by
  refine Rat.le_of_mul_le_mul_right (c := U) ?_ U_pos
  rw [val_U, val_U]
  exact Rat.intCast_le_intCast.2 h
theorem val_neg {z w : Nat} (h : V z ≤ -V w) : val z ≤ -val w := by
  refine Rat.le_of_mul_le_mul_right (c := U) ?_ U_pos
  rw [Rat.neg_mul, val_U, val_U, ← Rat.intCast_neg]
  exact Rat.intCast_le_intCast.2 h
theorem val_neg' {z w : Nat} (h : -V w ≤ V z) : -val w ≤ val z := by
  refine Rat.le_of_mul_le_mul_right (c := U) ?_ U_pos
  rw [Rat.neg_mul, val_U, val_U, ← Rat.intCast_neg]
  exact Rat.intCast_le_intCast.2 h
theorem val_le_of {x κ : Nat} {M : Int} (hκ : U = ((2 ^ κ : Nat) : Rat)) (h : V x ≤ M * (2 ^ κ : Nat)) : val x ≤ (M : Rat) := by
  refine Rat.le_of_mul_le_mul_right (c := U) ?_ U_pos
  rw [val_U]
  have := Rat.intCast_le_intCast.2 h
  rw [Rat.intCast_mul, Rat.intCast_natCast, ← hκ] at this
  exact this
theorem le_val_of {x κ : Nat} {M : Int} (hκ : U = ((2 ^ κ : Nat) : Rat)) (h : M * (2 ^ κ : Nat) ≤ V x) : (M : Rat) ≤ val x := by
  refine Rat.le_of_mul_le_mul_right (c := U) ?_ U_pos
  rw [val_U]
  have := Rat.intCast_le_intCast.2 h
  rw [Rat.intCast_mul, Rat.intCast_natCast, ← hκ] at this
  exact this
theorem of_val_le {x κ : Nat} {M : Int} (hκ : U = ((2 ^ κ : Nat) : Rat)) (h : val x ≤ (M : Rat)) : V x ≤ M * (2 ^ κ : Nat) := by
  have := Rat.mul_le_mul_of_nonneg_right h (Rat.le_of_lt U_pos)
  rw [val_U, hκ] at this
  refine Rat.intCast_le_intCast.1 ?_
  rw [Rat.intCast_mul, Rat.intCast_natCast]
  exact this
theorem of_le_val {x κ : Nat} {M : Int} (hκ : U = ((2 ^ κ : Nat) : Rat)) (h : (M : Rat) ≤ val x) : M * (2 ^ κ : Nat) ≤ V x := by
  have := Rat.mul_le_mul_of_nonneg_right h (Rat.le_of_lt U_pos)
  rw [val_U, hκ] at this
  refine Rat.intCast_le_intCast.1 ?_
  rw [Rat.intCast_mul, Rat.intCast_natCast]
  exact this
theorem val_ne {x : Nat} (h : V x ≠ 0) : val x ≠ 0 := fun e => h (by
  have := val_U x
  rw [e, Rat.zero_mul] at this
  exact Rat.intCast_eq_zero_iff.1 this.symm)
theorem V_0 : V 0 = 0 := by rw [V_of (show double.read 0 = .number false 0 (-1074) by decide +kernel)]; exact signed_0 _ _
theorem val_0 : val 0 = 0 := by unfold val; rw [V_0, Rat.intCast_zero, Rat.div_def, Rat.zero_mul]
/-- A quotient of a number by one that is no lesser. -/
theorem ratio_bd {x y : Nat} (h0y : V y ≠ 0) (h : (V x).natAbs ≤ (V y).natAbs) : Bd (val x / val y) 1 := by
  have hv := val_ne h0y
  have he : (val x / val y) * val y = val x := Rat.div_mul_cancel hv
  generalize val x / val y = q at he ⊢
  rcases Int.lt_or_le (V y) 0 with g | g
  · have g1 : val y ≤ 0 := by rw [← val_0]; exact val_le (by rw [V_0]; omega)
    have g2 : val y ≤ val x := val_le (by omega)
    have g3 : val x ≤ -val y := val_neg (by omega)
    have gp : 0 < -val y := by grind
    unfold Bd
    constructor
    · refine Rat.le_of_mul_le_mul_right (c := -val y) ?_ gp
      rw [Rat.mul_neg q, he]; grind
    · refine Rat.le_of_mul_le_mul_right (c := -val y) ?_ gp
      rw [Rat.mul_neg q, he]; grind
  · have g1 := val_pos_U g
    have g2 : -val y ≤ val x := val_neg' (by omega)
    have g3 : val x ≤ val y := val_le (by omega)
    have gp : 0 < val y := by grind
    unfold Bd
    constructor
    · refine Rat.le_of_mul_le_mul_right (c := val y) ?_ gp
      rw [he]; grind
    · refine Rat.le_of_mul_le_mul_right (c := val y) ?_ gp
      rw [he]; grind
theorem Q.ratio {x y : Nat} (hx : Fin x) (hy : Fin y) (h0y : V y ≠ 0) (h : (V x).natAbs ≤ (V y).natAbs) : Q (F .quo x y) 130 := by
  have he : (val x / val y) * val y = val x := Rat.div_mul_cancel (val_ne h0y)
  have hb := ratio_bd h0y h
  exact (Q.of (quo_err hx hy h0y he hb (by grind)) hb (by grind)).le (by grind)
theorem pw_gen (c : Nat) : (8589934592000000 : Nat) <<< c = 1000000 * 2 ^ (33 + c) := by
  rw [Nat.shiftLeft_eq, Nat.pow_add, ← Nat.mul_assoc]
theorem pw33 {κ : Nat} (hκ : κ = 1074) : (8589934592000000 : Nat) <<< 1041 = 1000000 * 2 ^ κ := by
  have e : κ = 33 + 1041 := by omega
  subst e
  exact pw_gen 1041
/-- What is near is no greater than a million. -/
theorem near_V {x κ : Nat} (hκ : κ = 1074) : nearB x = true ↔ Fin x ∧ -1000000 * ((2 ^ κ : Nat) : Int) ≤ V x ∧ V x ≤ 1000000 * ((2 ^ κ : Nat) : Int) := by
  have f1 : Fin 13920209183539462144 := ⟨_, _, _, read_n1e6⟩
  have f2 : Fin 4696837146684686336 := ⟨_, _, _, read_1e6⟩
  have e1 : V 13920209183539462144 = -1000000 * ((2 ^ κ : Nat) : Int) := by
    rw [V_of read_n1e6]
    unfold signed
    rw [if_pos rfl, show ((-33 : Int) + 1074).toNat = 1041 by decide, pw33 hκ, Int.natCast_mul, Int.neg_mul]; rfl
  have e2 : V 4696837146684686336 = 1000000 * ((2 ^ κ : Nat) : Int) := by
    rw [V_of read_1e6]
    unfold signed
    rw [if_neg (by decide), show ((-33 : Int) + 1074).toNat = 1041 by decide, pw33 hκ, Int.natCast_mul]; rfl
  constructor
  · intro h
    have f := (near_small h).fin
    unfold nearB at h
    rw [fgt_flt, flt_V f1 f, flt_V f f2, feq_V f f1, feq_V f f2, e1, e2] at h
    simp only [Bool.and_eq_true, Bool.or_eq_true, decide_eq_true_eq] at h
    exact ⟨f, by omega, by omega⟩
  · rintro ⟨f, h1, h2⟩
    unfold nearB
    rw [fgt_flt, flt_V f1 f, flt_V f f2, feq_V f f1, feq_V f f2, e1, e2]
    simp only [Bool.and_eq_true, Bool.or_eq_true, decide_eq_true_eq]
    omega
theorem near_Q {x : Nat} (h : nearB x = true) : Q x 1000000 := by
  obtain ⟨κ, hκ, e⟩ := U_nat
  obtain ⟨f, h1, h2⟩ := (near_V hκ).1 h
  refine ⟨f, ?_⟩
  have g1 := le_val_of e h1
  have g2 := val_le_of e h2
  unfold Bd
  exact ⟨by simpa using g1, by simpa using g2⟩
theorem Q.near {x : Nat} (h : Q x 1000000) : nearB x = true := by
  obtain ⟨κ, hκ, e⟩ := U_nat
  have hb := h.bd
  unfold Bd at hb
  exact (near_V hκ).2 ⟨h.fin, of_le_val e (by simpa using hb.1), of_val_le e (by simpa using hb.2)⟩
theorem rung_same {P t t' : Nat} (h : Rng (2 ^ 52) P 1 t) (h' : Rng (2 ^ 52) P 1 t') : rung (2 ^ 52) II P 1 t = rung (2 ^ 52) II P 1 t' :=
  Nat.le_antisymm (rung_mono (by decide) (by decide) (Nat.le_refl _) h h') (rung_mono (by decide) (by decide) (Nat.le_refl _) h' h)
theorem II_pos : 0 < II := by unfold II; decide
theorem rung_pos {P t : Nat} (hP : 0 < P) (h : Rng (2 ^ 52) P 1 t) : 0 < rung (2 ^ 52) II P 1 t := by
  have hi := II_pos
  rcases h with ⟨rfl, _⟩ | ⟨h, _⟩
  · unfold rung rhe
    rw [Nat.zero_mul, Nat.zero_add, Nat.pow_zero, Nat.mul_one, Nat.div_one]
    omega
  · unfold rung
    have := Nat.mul_pos h (show 0 < 2 ^ 52 by decide)
    omega
/-- A difference turned about. -/
theorem sub_turn {x y : Nat} (hx : Fin x) (hy : Fin y) : isN (F .sub x y) = false ∧ isN (F .sub y x) = false ∧ key (F .sub y x) = -key (F .sub x y) := by
  obtain ⟨t, r1, n1, k1⟩ := sub_form hx hy
  obtain ⟨t', r2, n2, k2⟩ := sub_form hy hx
  refine ⟨n1, n2, ?_⟩
  have e : (V y - V x).natAbs = (V x - V y).natAbs := by omega
  rw [e] at r2 k2
  rw [k1, k2, rung_same r2 r1]
  rcases Int.lt_trichotomy (V x) (V y) with g | g | g
  · rw [decide_eq_true g, decide_eq_false (show ¬ V y < V x by omega)]; unfold sg; simp
  · have e0 : (V x - V y).natAbs = 0 := by omega
    rw [e0] at r1 ⊢
    rw [rng_0 (by decide) (by decide) r1]; unfold sg; split <;> split <;> simp
  · rw [decide_eq_true g, decide_eq_false (show ¬ V x < V y by omega)]; unfold sg; simp
theorem key_0 : key 0 = 0 := by decide +kernel
theorem Fin_0 : Fin 0 := ⟨false, 0, -1074, by decide +kernel⟩
theorem V_pos {x : Nat} (h : Fin x) : 0 < V x ↔ 0 < key x := by
  have := (V_key Fin_0 h).1
  rw [V_0, key_0] at this; exact this
theorem V_nonneg {x : Nat} (h : Fin x) : 0 ≤ V x ↔ 0 ≤ key x := by
  have := (V_key h Fin_0).1
  rw [V_0, key_0] at this; omega
theorem add_pos {x y : Nat} (hx : Fin x) (hy : Fin y) (h : 0 < V x + V y) : isN (F .add x y) = false ∧ 0 < key (F .add x y) := by
  obtain ⟨t, r, n, k⟩ := add_form hx hy
  refine ⟨n, ?_⟩
  rw [k, decide_eq_false (by omega)]
  have := rung_pos (by omega) r
  unfold sg
  rw [if_neg (by decide)]
  omega
theorem add_neg {x y : Nat} (hx : Fin x) (hy : Fin y) (h : V x + V y < 0) : isN (F .add x y) = false ∧ key (F .add x y) < 0 := by
  obtain ⟨t, r, n, k⟩ := add_form hx hy
  refine ⟨n, ?_⟩
  rw [k, decide_eq_true h]
  have := rung_pos (by omega) r
  unfold sg
  rw [if_pos rfl]
  omega
/-- The sign turned. -/
theorem key_fneg (x : Nat) : key (fneg x) = -key x := by
  have hm : fneg x % 9223372036854775808 = x % 9223372036854775808 := fneg_mod x
  have hd : fneg x / 9223372036854775808 % 2 = 1 - x / 9223372036854775808 % 2 := by
    have e : fneg x / 2 ^ 63 = x / 2 ^ 63 ^^^ 1 := by
      show (x ^^^ 2 ^ 63) / 2 ^ 63 = _
      rw [Nat.xor_div_two_pow, Nat.div_self (by decide)]
    rw [show (9223372036854775808 : Nat) = 2 ^ 63 by decide, e, show (2 : Nat) = 2 ^ 1 by decide, Nat.xor_mod_two_pow]
    have : x / (2 ^ 1) ^ 63 % 2 ^ 1 = 0 ∨ x / (2 ^ 1) ^ 63 % 2 ^ 1 = 1 := by omega
    rcases this with h | h <;> rw [h] <;> rfl
  unfold key
  rw [hm, hd]
  have : x / 9223372036854775808 % 2 = 0 ∨ x / 9223372036854775808 % 2 = 1 := by omega
  rcases this with h | h <;> rw [h] <;> unfold sg <;> simp
theorem key_Fneg {x : Nat} (h : isN x = false) : isN (Fneg x) = false ∧ key (Fneg x) = -key x := by
  have e : Fneg x = fneg x := by unfold Fneg; exact cn_notN (by rw [isN_fneg]; exact h)
  rw [e]
  exact ⟨by rw [isN_fneg]; exact h, key_fneg x⟩
theorem V_absK {x : Nat} (h : Fin x) : (V x).natAbs = Vr (key x).natAbs := by
  obtain ⟨s, r, k, h1, h2, h3⟩ := read_sr x
  have hr : r < II := by
    rcases Nat.lt_trichotomy r II with g | g | g
    · exact g
    · obtain ⟨t, m, i, e⟩ := h
      rw [h2 g] at e; cases e
    · have := h3 g; rw [h.notN] at this; cases this
  obtain ⟨m, i, _, e⟩ := h1 hr
  rw [e, k]
  unfold sg
  cases s <;> simp
end Flt
end Go.Proofs.YtgbcnfcgljbbgaaGreat
/- Floats that are whole numbers: their sums, products and even quotients are exact. -/
namespace Go.Proofs.YtgbcnfcgljbbgaaGreat
open Go.RowKit Ev Ieee
set_option linter.unusedVariables false
set_option linter.unusedSimpArgs false
set_option maxRecDepth 20000
namespace Flt

theorem rhe_exact {q g : Nat} (hg : 0 < g) : rhe (q * g) g = q := by
  unfold rhe
  rw [Nat.mul_mod_left, Nat.mul_div_cancel _ hg, if_neg (by omega)]; rfl
theorem rung_at {P D t q : Nat} (hq : rhe P (D * 2 ^ t) = q) (h1 : q ≤ 9007199254740992) (ht : t ≤ 1074) : rung (2 ^ 52) II P D t = t * 4503599627370496 + q ∧ t * 4503599627370496 + q < II := by
  have hII : II = 9218868437227405312 := by decide
  unfold rung; rw [p52, hII, hq]
  omega
theorem rung_exact {P D t Z κ : Nat} (hκ : κ = 1074) (hD : 0 < D) (h : Rng (2 ^ 52) P D t) (hP : P = Z * 2 ^ κ * D) (hZ : Z < 9007199254740992) : rung (2 ^ 52) II P D t < II ∧ Vr (rung (2 ^ 52) II P D t) = Z * 2 ^ κ := by
  have hII : II = 9218868437227405312 := by decide
  have hg : 0 < D * 2 ^ t := Nat.mul_pos hD (Nat.two_pow_pos _)
  have p53 : (2 : Nat) ^ 53 = 9007199254740992 := by decide
  have ht : t ≤ κ := by
    rcases h with ⟨h, _⟩ | ⟨_, h, _⟩
    · omega
    · rw [hP] at h
      have h1 := Nat.le_of_mul_le_mul_right h hD
      have h2 : Z * 2 ^ κ < 2 ^ 53 * 2 ^ κ := Nat.mul_lt_mul_of_pos_right (by omega) (Nat.two_pow_pos _)
      have h3 : 2 ^ 52 * 2 ^ t < 2 ^ 53 * 2 ^ κ := Nat.lt_of_le_of_lt h1 h2
      rw [← Nat.pow_add, ← Nat.pow_add] at h3
      have := (Nat.pow_lt_pow_iff_right (by decide)).1 h3
      omega
  have eP : P = Z * 2 ^ (κ - t) * (D * 2 ^ t) := by
    have : Z * 2 ^ (κ - t) * (D * 2 ^ t) = Z * D * (2 ^ (κ - t) * 2 ^ t) := by simp only [Nat.mul_assoc, Nat.mul_left_comm, Nat.mul_comm]
    rw [this, ← Nat.pow_add, show κ - t + t = κ by omega, hP, Nat.mul_right_comm]
  have er : rhe P (D * 2 ^ t) = Z * 2 ^ (κ - t) := by rw [eP]; exact rhe_exact hg
  have q1 : rhe P (D * 2 ^ t) ≤ 9007199254740992 := rhe_upper hg (by have := h.upper; rw [p52] at this; exact this)
  have q2 : 0 < t → 4503599627370496 ≤ rhe P (D * 2 ^ t) := fun ht => rhe_lower hg (by
    rcases h with ⟨h, _⟩ | ⟨_, h, _⟩
    · omega
    · rw [p52] at h; rw [Nat.mul_comm D, ← Nat.mul_assoc]; exact h)
  rw [er] at q1 q2
  obtain ⟨f1, f2⟩ := rung_at er q1 (Nat.le_trans ht (Nat.le_of_eq hκ))
  rw [f1, Vr_at q1 q2, Nat.mul_assoc, ← Nat.pow_add, Nat.sub_add_cancel ht]
  exact ⟨f2, rfl⟩
theorem sg_natAbs {s : Bool} {P m : Nat} {z : Int} (h : sg s P = z * (m : Int)) : P = z.natAbs * m := by
  have h1 := congrArg Int.natAbs h
  rw [Int.natAbs_mul] at h1
  have h2 : (sg s P).natAbs = P := by unfold sg; cases s <;> simp
  rw [h2] at h1
  exact h1
theorem op_exact {r P D t : Nat} {s : Bool} (hD : 0 < D) (hr : Rng (2 ^ 52) P D t) (hn : isN r = false) (hk : key r = sg s (rung (2 ^ 52) II P D t)) {z : Int} (he : (z : Rat) * (U * (D : Rat)) = ((sg s P : Int) : Rat))
    (hz : -9007199254740992 < z ∧ z < 9007199254740992) : Fin r ∧ val r = (z : Rat) := by
  obtain ⟨κ, hκ, hU⟩ := U_nat
  have e1 : sg s P = z * ((2 ^ κ * D : Nat) : Int) := by
    refine Rat.intCast_inj.1 ?_
    rw [← he, hU, Rat.intCast_mul, Rat.intCast_natCast, Rat.natCast_mul]
  have e2 := sg_natAbs e1
  obtain ⟨r1, r2⟩ := rung_exact hκ hD hr (Z := z.natAbs) (by rw [e2, Nat.mul_assoc]) (by omega)
  obtain ⟨f, v⟩ := key_V hk hn r1
  refine ⟨f, ?_⟩
  have ev : V r = z * ((2 ^ κ : Nat) : Int) := by
    rw [v, r2]
    have e3 : sg s (z.natAbs * 2 ^ κ) * (D : Int) = z * ((2 ^ κ : Nat) : Int) * (D : Int) := by
      have : sg s (z.natAbs * 2 ^ κ) * (D : Int) = sg s P := by
        rw [e2]
        unfold sg
        cases s
        · simp only [Bool.false_eq_true, if_false]; rw [← Int.natCast_mul, Nat.mul_assoc]
        · simp only [if_true]; rw [Int.neg_mul, ← Int.natCast_mul, Nat.mul_assoc]
      rw [this, e1, Int.natCast_mul, Int.mul_assoc]
    exact Int.eq_of_mul_eq_mul_right (by omega) e3
  have hUp := U_pos
  have e4 : val r * U = (z : Rat) * U := by rw [val_U, ev, hU, Rat.intCast_mul, Rat.intCast_natCast]
  exact Rat.le_antisymm (Rat.le_of_mul_le_mul_right (c := U) (by rw [e4]; exact Rat.le_refl) hUp) (Rat.le_of_mul_le_mul_right (c := U) (by rw [e4]; exact Rat.le_refl) hUp)
/-- A float that is a whole number. -/
structure Iv (x : Nat) (z : Int) : Prop where
  fin : Fin x
  eq : val x = (z : Rat)
theorem Iv.V {x : Nat} {z : Int} (h : Iv x z) {κ : Nat} (hκ : U = ((2 ^ κ : Nat) : Rat)) : V x = z * ((2 ^ κ : Nat) : Int) := by
  refine Rat.intCast_inj.1 ?_
  rw [← val_U, h.eq, hκ, Rat.intCast_mul, Rat.intCast_natCast]
theorem iv_add {x y : Nat} {a b : Int} (hx : Iv x a) (hy : Iv y b) (h : -9007199254740992 < a + b ∧ a + b < 9007199254740992) : Iv (F .add x y) (a + b) := by
  obtain ⟨t, r, n, k⟩ := add_form hx.fin hy.fin
  obtain ⟨f, v⟩ := op_exact (by decide) r n k (z := a + b) (by rw [sg_abs, one_cast, Rat.mul_one, Rat.intCast_add, Rat.add_mul, ← hx.eq, ← hy.eq, val_U, val_U, Rat.intCast_add]) h
  exact ⟨f, v⟩
theorem iv_sub {x y : Nat} {a b : Int} (hx : Iv x a) (hy : Iv y b) (h : -9007199254740992 < a - b ∧ a - b < 9007199254740992) : Iv (F .sub x y) (a - b) := by
  obtain ⟨t, r, n, k⟩ := sub_form hx.fin hy.fin
  rw [show decide (Flt.V x < Flt.V y) = decide (Flt.V x - Flt.V y < 0) from decide_eq_decide.2 (by omega)] at k
  have e1 := val_U x
  have e2 := val_U y
  obtain ⟨f, v⟩ := op_exact (by decide) r n k (z := a - b) (by rw [sg_abs, one_cast, Rat.mul_one, Rat.intCast_sub, Rat.intCast_sub, ← e1, ← e2, hx.eq, hy.eq]; grind) h
  exact ⟨f, v⟩
theorem iv_mul {x y : Nat} {a b : Int} (hx : Iv x a) (hy : Iv y b) (h : -9007199254740992 < a * b ∧ a * b < 9007199254740992) : Iv (F .mul x y) (a * b) := by
  have hx' := hx
  have hy' := hy
  obtain ⟨⟨s, m, i, ex⟩, vx⟩ := hx
  obtain ⟨⟨t, n, j, ey⟩, vy⟩ := hy
  obtain ⟨_, i0, _⟩ := read_form ex
  obtain ⟨_, j0, _⟩ := read_form ey
  obtain ⟨τ, r, nn, k⟩ := mul_form ex ey
  obtain ⟨κ, hκ, hκU⟩ := U_nat
  have e1 : m * n * 2 ^ (i + j + 1074).toNat * 2 ^ κ = m * 2 ^ (i + 1074).toNat * (n * 2 ^ (j + 1074).toNat) * 2 ^ (-1074 - (i + j)).toNat := by
    have : m * 2 ^ (i + 1074).toNat * (n * 2 ^ (j + 1074).toNat) * 2 ^ (-1074 - (i + j)).toNat = m * n * (2 ^ ((i + 1074).toNat + (j + 1074).toNat + (-1074 - (i + j)).toNat)) := by
      rw [Nat.pow_add, Nat.pow_add]; simp only [Nat.mul_assoc, Nat.mul_left_comm, Nat.mul_comm]
    rw [this, Nat.mul_assoc, ← Nat.pow_add, show (i + j + 1074).toNat + κ = (i + 1074).toNat + (j + 1074).toNat + (-1074 - (i + j)).toNat by omega]
  have e2 : ((sg (s ^^ t) (m * n * 2 ^ (i + j + 1074).toNat) : Int) : Rat) * U = (Flt.V x : Rat) * (Flt.V y : Rat) * ((2 ^ (-1074 - (i + j)).toNat : Nat) : Rat) := by
    rw [V_sg ex, V_sg ey, hκU, ← sg_scale, e1, sg_scale, ← sg_mul, Rat.intCast_mul]
  obtain ⟨f, v⟩ := op_exact (Nat.two_pow_pos _) r nn k (z := a * b) (by
    have hU := U_pos
    rw [← val_U x, ← val_U y, vx, vy] at e2
    rw [Rat.intCast_mul]
    generalize ((sg (s ^^ t) (m * n * 2 ^ (i + j + 1074).toNat) : Int) : Rat) = z at *
    generalize ((2 ^ (-1074 - (i + j)).toNat : Nat) : Rat) = d at *
    have e3 : z * U = (a : Rat) * (b : Rat) * (U * d) * U := by rw [e2]; grind
    exact Rat.le_antisymm (Rat.le_of_mul_le_mul_right (c := U) (by rw [e3]; exact Rat.le_refl) hU) (Rat.le_of_mul_le_mul_right (c := U) (by rw [e3]; exact Rat.le_refl) hU)) h
  exact ⟨f, v⟩
theorem iv_quo {x y : Nat} {a b c : Int} (hx : Iv x a) (hy : Iv y b) (hb : b ≠ 0) (hc : c * b = a) (h : -9007199254740992 < c ∧ c < 9007199254740992) : Iv (F .quo x y) c := by
  obtain ⟨κ, hκ, hκU⟩ := U_nat
  have vx := hx.V hκU
  have vy := hy.V hκU
  obtain ⟨⟨s, m, i, ex⟩, _⟩ := hx
  obtain ⟨⟨t, n, j, ey⟩, _⟩ := hy
  obtain ⟨_, i0, _⟩ := read_form ex
  obtain ⟨_, j0, _⟩ := read_form ey
  have hp : (0 : Int) < ((2 ^ κ : Nat) : Int) := by have := Nat.two_pow_pos κ; omega
  have h0y : Flt.V y ≠ 0 := by rw [vy]; exact fun e => (Int.mul_eq_zero.1 e).elim hb (by omega)
  have hn : n ≠ 0 := by
    intro h; subst h; apply h0y; rw [V_of ey]; exact signed_0 _ _
  obtain ⟨τ, r, nn, k⟩ := quo_key ex ey hn
  have e1 : m * 2 ^ (i - j + 1074).toNat * (n * 2 ^ (j + 1074).toNat) = m * 2 ^ (i + 1074).toNat * 2 ^ κ * (n * 2 ^ (j - i - 1074).toNat) := by
    have h1 : m * 2 ^ (i - j + 1074).toNat * (n * 2 ^ (j + 1074).toNat) = m * n * 2 ^ ((i - j + 1074).toNat + (j + 1074).toNat) := by
      rw [Nat.pow_add]; simp only [Nat.mul_assoc, Nat.mul_left_comm, Nat.mul_comm]
    have h2 : m * 2 ^ (i + 1074).toNat * 2 ^ κ * (n * 2 ^ (j - i - 1074).toNat) = m * n * 2 ^ ((i + 1074).toNat + κ + (j - i - 1074).toNat) := by
      rw [Nat.pow_add, Nat.pow_add]; simp only [Nat.mul_assoc, Nat.mul_left_comm, Nat.mul_comm]
    rw [h1, h2, show (i - j + 1074).toNat + (j + 1074).toNat = (i + 1074).toNat + κ + (j - i - 1074).toNat by omega]
  have e2 : ((sg (s ^^ t) (m * 2 ^ (i - j + 1074).toNat) : Int) : Rat) * (Flt.V y : Rat) = (Flt.V x : Rat) * ((2 ^ κ : Nat) : Rat) * ((n * 2 ^ (j - i - 1074).toNat : Nat) : Rat) := by
    rw [V_sg ex, V_sg ey, ← Rat.intCast_mul, sg_mul, e1, sg_scale, sg_scale, Bool.xor_assoc, Bool.xor_self, Bool.xor_false]
  obtain ⟨f, v⟩ := op_exact (Nat.mul_pos (by omega) (Nat.two_pow_pos _)) r nn k (z := c) (by
    have hU := U_pos
    have hb' : (b : Rat) ≠ 0 := fun e => hb (Rat.intCast_eq_zero_iff.1 e)
    rw [vx, vy, ← hc, ← hκU, Rat.intCast_mul, Rat.intCast_mul, Rat.intCast_mul, Rat.intCast_natCast, ← hκU] at e2
    generalize ((sg (s ^^ t) (m * 2 ^ (i - j + 1074).toNat) : Int) : Rat) = z at *
    generalize ((n * 2 ^ (j - i - 1074).toNat : Nat) : Rat) = d at *
    generalize (b : Rat) = b' at *
    generalize (c : Rat) = c' at *
    generalize U = U' at *
    grind) h
  exact ⟨f, v⟩
theorem iv_of {x : Nat} {z : Int} {κ : Nat} (hκ : U = ((2 ^ κ : Nat) : Rat)) (hf : Fin x) (h : Flt.V x = z * ((2 ^ κ : Nat) : Int)) : Iv x z := by
  refine ⟨hf, ?_⟩
  have hUp := U_pos
  have e4 : val x * U = (z : Rat) * U := by rw [val_U, h, hκ, Rat.intCast_mul, Rat.intCast_natCast]
  exact Rat.le_antisymm (Rat.le_of_mul_le_mul_right (c := U) (by rw [e4]; exact Rat.le_refl) hUp) (Rat.le_of_mul_le_mul_right (c := U) (by rw [e4]; exact Rat.le_refl) hUp)
theorem iv_near {z : Int} (h : -9007199254740992 < z ∧ z < 9007199254740992) : Iv (cn (FloatKind.f64.nearest z)) z := by
  have e : FloatKind.f64.nearest z = double.nearest (decide (z < 0)) z.natAbs 0 := rfl
  obtain ⟨n1, n2⟩ := nearest_V (decide (z < 0)) (m := z.natAbs) (i := 0) (by omega) (by decide) (by decide)
  obtain ⟨κ, hκ, hU⟩ := U_nat
  rw [e, cn_notN n1.notN]
  refine iv_of hU n1 ?_
  rw [n2, show ((0 : Int) + 1074).toNat = κ by omega]
  unfold signed
  rw [Nat.shiftLeft_eq]
  by_cases g : z < 0
  · rw [decide_eq_true g, if_pos rfl, Int.natCast_mul, ← Int.neg_mul]
    congr 1; omega
  · rw [decide_eq_false g, if_neg (by decide), Int.natCast_mul]
    congr 1; omega
theorem iv_feq {x y : Nat} {z : Int} (hx : Iv x z) (hy : Iv y z) : feq x y = true := by
  obtain ⟨κ, hκ, hU⟩ := U_nat
  rw [feq_V hx.fin hy.fin, hx.V hU, hy.V hU, decide_eq_true rfl]
theorem iv_cmp {x y : Nat} {a b : Int} (hx : Iv x a) (hy : Iv y b) : flt x y = decide (a < b) ∧ feq x y = decide (a = b) ∧ fgt x y = decide (b < a) := by
  obtain ⟨κ, hκ, hU⟩ := U_nat
  have hp : (0 : Int) < ((2 ^ κ : Nat) : Int) := by have := Nat.two_pow_pos κ; omega
  have lt : ∀ a b : Int, (a * ((2 ^ κ : Nat) : Int) < b * ((2 ^ κ : Nat) : Int)) = (a < b) := fun a b => propext ⟨fun h => Int.lt_of_mul_lt_mul_right h (Int.le_of_lt hp), fun h => Int.mul_lt_mul_of_pos_right h hp⟩
  refine ⟨?_, ?_, ?_⟩
  · rw [flt_V hx.fin hy.fin, hx.V hU, hy.V hU]; exact decide_eq_decide.2 (by rw [lt])
  · rw [feq_V hx.fin hy.fin, hx.V hU, hy.V hU]
    refine decide_eq_decide.2 ⟨fun h => Int.eq_of_mul_eq_mul_right (by omega) h, fun h => by rw [h]⟩
  · rw [fgt_flt, flt_V hy.fin hx.fin, hx.V hU, hy.V hU]; exact decide_eq_decide.2 (by rw [lt])
end Flt
end Go.Proofs.YtgbcnfcgljbbgaaGreat
/- Floats of whole numbers, and thousandths of them. -/
namespace Go.Proofs.YtgbcnfcgljbbgaaGreat
open Go.RowKit Ev Flt
set_option linter.unusedVariables false
set_option linter.unusedSimpArgs false
set_option maxRecDepth 20000

theorem nI_Q {i M : Int} (h : -M ≤ i ∧ i ≤ M) (hM : M ≤ 9007199254740991) : Q (cn (FloatKind.f64.nearest i)) (M : Rat) := by
  obtain ⟨f, e⟩ := iv_near (z := i) (by omega)
  refine ⟨f, ?_⟩
  rw [e]
  unfold Bd
  have h1 := Rat.intCast_le_intCast.2 h.1
  have h2 := Rat.intCast_le_intCast.2 h.2
  rw [Rat.intCast_neg] at h1
  exact ⟨h1, h2⟩
theorem iv_1000 : Iv 4652007308841189376 1000 := by
  have := iv_near (z := 1000) (by omega)
  rwa [show cn (FloatKind.f64.nearest 1000) = 4652007308841189376 by decide +kernel] at this
theorem quo_1000 {x : Nat} {M : Rat} (h : Q x M) (hM : M ≤ 1152921504606846976) : Q (F .quo x 4652007308841189376) (M + 129) := by
  have v : val 4652007308841189376 = 1000 := by rw [iv_1000.eq]; rfl
  have v0 : V 4652007308841189376 ≠ 0 := fun e => by
    have : val 4652007308841189376 = 0 := by unfold val; rw [e, Rat.intCast_zero, Rat.div_def, Rat.zero_mul]
    rw [v] at this; exact absurd this (by decide)
  have he : (val x / 1000) * val 4652007308841189376 = val x := by rw [v]; grind
  have hb : Bd (val x / 1000) M := by
    have := h.bd
    unfold Bd at *
    grind
  exact .of (quo_err h.fin iv_1000.fin v0 he hb hM) hb hM
end Go.Proofs.YtgbcnfcgljbbgaaGreat
/- Numbers cut off to whole ones. -/
namespace Go.Proofs.YtgbcnfcgljbbgaaGreat
open Go.RowKit Ev Flt Ieee
set_option linter.unusedVariables false
set_option linter.unusedSimpArgs false

theorem shr_powT {n drop : Nat} : n / (1 <<< min drop (n.log2 + 2)) = n / 2 ^ drop := by
  rw [Nat.shiftLeft_eq, Nat.one_mul]
  by_cases h : drop ≤ n.log2 + 2
  · rw [Nat.min_eq_left h]
  · rw [Nat.min_eq_right (by omega)]
    have h1 : n < 2 ^ (n.log2 + 1) := Nat.lt_log2_self
    have h2 : 2 ^ (n.log2 + 1) ≤ 2 ^ (n.log2 + 2) := Nat.pow_le_pow_right (by decide) (by omega)
    have h3 : 2 ^ (n.log2 + 1) ≤ 2 ^ drop := Nat.pow_le_pow_right (by decide) (by omega)
    rw [Nat.div_eq_of_lt (by omega), Nat.div_eq_of_lt (by omega)]
theorem cut_zeroT (s : Bool) (n d : Nat) : Toward.zero.cut s n d = n / 2 ^ d := by
  show n / (1 <<< min d (n.log2 + 2)) + false.toNat = _
  rw [shr_powT]; rfl
theorem signedT (s : Bool) (c : Nat) : signed s c 0 = if s then -(c : Int) else (c : Int) := by
  unfold signed; rw [Nat.shiftLeft_zero]
theorem trunc_some {x : Nat} {M : Int} (h : Q x (M : Rat)) (hM : 0 ≤ M) : ∃ z, (FloatKind.f64.decode x).toInt .zero = some z ∧ -M ≤ z ∧ z ≤ M := by
  obtain ⟨s, m, i, ex⟩ := h.fin
  obtain ⟨_, i0, _⟩ := read_form ex
  obtain ⟨κ, hκ, hU⟩ := U_nat
  have b := h.bd
  unfold Bd at b
  have b1 : V x ≤ M * (2 ^ κ : Nat) := of_val_le hU b.2
  have b2 : -M * (2 ^ κ : Nat) ≤ V x := of_le_val hU (by rw [Rat.intCast_neg]; exact b.1)
  have v := V_sg ex
  have hc : ((m <<< i.toNat) / 2 ^ (-i).toNat : Nat) * 2 ^ κ ≤ m * 2 ^ (i + 1074).toNat := by
    have e : m * 2 ^ (i + 1074).toNat * 2 ^ (-i).toNat = m * 2 ^ i.toNat * 2 ^ κ := by
      rw [Nat.mul_assoc, Nat.mul_assoc, ← Nat.pow_add, ← Nat.pow_add, show (i + 1074).toNat + (-i).toNat = i.toNat + κ by omega]
    have hp := Nat.two_pow_pos (-i).toNat
    refine Nat.le_of_mul_le_mul_right ?_ hp
    rw [e, Nat.shiftLeft_eq, Nat.mul_right_comm]
    exact Nat.mul_le_mul_right _ (Nat.div_mul_le_self _ _)
  have hk : (0 : Int) < ((2 ^ κ : Nat) : Int) := by have := Nat.two_pow_pos κ; omega
  generalize hC : ((m <<< i.toNat) / 2 ^ (-i).toNat : Nat) = c at hc
  refine ⟨signed s c 0, ?_, ?_⟩
  · show Datum.toInt .zero (double.read x) = _
    rw [ex]
    show some (signed s (Toward.zero.cut s (m <<< i.toNat) (-i).toNat) 0) = _
    rw [cut_zeroT, hC]
  · have hc' : (c : Int) * ((2 ^ κ : Nat) : Int) ≤ ((m * 2 ^ (i + 1074).toNat : Nat) : Int) := by
      have := Int.ofNat_le.2 hc
      rwa [Int.natCast_mul c] at this
    have key : (c : Int) ≤ M := by
      refine Int.le_of_mul_le_mul_right ?_ hk
      unfold sg at v
      split at v
      · rw [v] at b2
        have : ((m * 2 ^ (i + 1074).toNat : Nat) : Int) ≤ M * ((2 ^ κ : Nat) : Int) := by
          rw [Int.neg_mul] at b2; omega
        exact Int.le_trans hc' this
      · rw [v] at b1; exact Int.le_trans hc' b1
    rw [signedT]
    split <;> omega
end Go.Proofs.YtgbcnfcgljbbgaaGreat
/- Floats that are one another times a power of two: all operations go along. -/
namespace Go.Proofs.YtgbcnfcgljbbgaaGreat
open Go.RowKit Ev Ieee
set_option linter.unusedVariables false
set_option linter.unusedSimpArgs false
set_option maxRecDepth 20000
namespace Flt

theorem log2_52 {m : Nat} (h : 4503599627370496 ≤ m) (h' : m < 9007199254740992) : m.log2 = 52 := by
  have h0 : m ≠ 0 := by omega
  refine (Nat.log2_eq_iff h0).2 ⟨?_, ?_⟩
  · exact h
  · exact h'
theorem kept_ge (neg : Bool) (m : Nat) (up drop : Nat) (hm : m ≠ 0) (h : (up = 52 - m.log2 ∧ drop = m.log2 - 52)) : 4503599627370496 ≤ Toward.even.cut neg (m <<< up) drop := by
  have hl := Nat.log2_self_le hm
  rw [cut_even]
  refine rhe_lower (Nat.two_pow_pos _) ?_
  obtain ⟨rfl, rfl⟩ := h
  rw [Nat.shiftLeft_eq]
  have e : (4503599627370496 : Nat) = 2 ^ 52 := by decide
  rw [e, ← Nat.pow_add]
  by_cases g : m.log2 ≤ 52
  · rw [show m.log2 - 52 = 0 by omega, Nat.add_zero]
    calc 2 ^ 52 = 2 ^ m.log2 * 2 ^ (52 - m.log2) := by rw [← Nat.pow_add]; congr 1; omega
      _ ≤ m * 2 ^ (52 - m.log2) := Nat.mul_le_mul_right _ hl
  · rw [show 52 - m.log2 = 0 by omega, Nat.pow_zero, Nat.mul_one, show 52 + (m.log2 - 52) = m.log2 by omega]
    exact hl
theorem read_low {neg : Bool} {Q C : Nat} {i : Int} (h : 4503599627370496 ≤ C) (h' : C < 9007199254740992) (hq : Q ≤ 2000) (hi : i = -1074 + Q) : double.read (double.word neg (Q * 4503599627370496 + C)) = .number neg C i := by
  have m1 : 4503599627370496 + (Q * 4503599627370496 + C) % 4503599627370496 = C := by omega
  have m2 : (-1074 : Int) + ((Q * 4503599627370496 + C) / 4503599627370496 - 1 : Nat) = i := by omega
  rw [read_word neg _ (by omega), if_neg (by omega), m1, m2]
theorem read_top {neg : Bool} {Q : Nat} {i : Int} (hq : Q ≤ 2000) (hi : i = -1073 + Q) : double.read (double.word neg (Q * 4503599627370496 + 9007199254740992)) = .number neg 4503599627370496 i := by
  have m1 : 4503599627370496 + (Q * 4503599627370496 + 9007199254740992) % 4503599627370496 = 4503599627370496 := by omega
  have m2 : (-1074 : Int) + ((Q * 4503599627370496 + 9007199254740992) / 4503599627370496 - 1 : Nat) = i := by omega
  rw [read_word neg _ (by omega), if_neg (by omega), m1, m2]
/-- What is written of a number whose exponent has room: read, and shifted by so many. -/
theorem near_sc {neg : Bool} {mag : Nat} {p e : Int} (hm : mag ≠ 0) (h1 : -1050 ≤ p + mag.log2 - 52) (h2 : p + mag.log2 - 52 ≤ 850) (he : -20 ≤ e ∧ e ≤ 20) :
    ∃ m i, 4503599627370496 ≤ m ∧ m < 9007199254740992 ∧ p + mag.log2 - 52 ≤ i ∧ i ≤ p + mag.log2 - 51 ∧ double.read (double.nearest neg mag p) = .number neg m i ∧ double.read (double.nearest neg mag (p + e)) = .number neg m (i + e) := by
  obtain ⟨C, hC⟩ : ∃ C, C = Toward.even.cut neg (mag <<< (52 - mag.log2)) (mag.log2 - 52) := ⟨_, rfl⟩
  have c1 : 4503599627370496 ≤ C := by rw [hC]; exact kept_ge neg mag _ _ hm ⟨rfl, rfl⟩
  have key : ∀ p : Int, -1074 ≤ p + mag.log2 - 52 → p + mag.log2 - 52 ≤ 900 → double.nearest neg mag p = double.word neg ((p + mag.log2 - 52 + 1074).toNat * 4503599627370496 + C) ∧ C ≤ 9007199254740992 := fun p a b => by
    have hk := kept_le neg mag p (max (p + mag.log2 - 52) (-1074)) hm (by omega)
    rw [nearest_eq neg mag p hm]
    have hq : max (p + mag.log2 - 52) (-1074) = p + mag.log2 - 52 := by omega
    rw [hq] at hk ⊢
    have u : (p - (p + mag.log2 - 52)).toNat = 52 - mag.log2 := by omega
    have d : (p + mag.log2 - 52 - p).toNat = mag.log2 - 52 := by omega
    rw [u, d, ← hC] at hk ⊢
    have hm2 : min ((p + mag.log2 - 52 + 1074).toNat * 4503599627370496 + C) (2047 * 4503599627370496) = (p + mag.log2 - 52 + 1074).toNat * 4503599627370496 + C := by
      refine Nat.min_eq_left ?_
      omega
    exact ⟨congrArg (double.word neg) hm2, hk⟩
  obtain ⟨k1, c2⟩ := key p (by omega) (by omega)
  obtain ⟨k2, _⟩ := key (p + e) (by omega) (by omega)
  rw [k1, k2]
  obtain ⟨Q, hQ⟩ : ∃ Q : Nat, (Q : Int) = p + mag.log2 - 52 + 1074 := ⟨(p + mag.log2 - 52 + 1074).toNat, by omega⟩
  obtain ⟨Q', hQ'⟩ : ∃ Q : Nat, (Q : Int) = p + e + mag.log2 - 52 + 1074 := ⟨(p + e + mag.log2 - 52 + 1074).toNat, by omega⟩
  have e1 : (p + mag.log2 - 52 + 1074).toNat = Q := by omega
  have e2 : (p + e + mag.log2 - 52 + 1074).toNat = Q' := by omega
  rw [e1, e2]
  by_cases g : C = 9007199254740992
  · rw [g]
    refine ⟨4503599627370496, p + mag.log2 - 51, by omega, by omega, by omega, by omega, read_top (by omega) (by omega), read_top (by omega) (by omega)⟩
  · refine ⟨C, p + mag.log2 - 52, c1, by omega, by omega, by omega, read_low c1 (by omega) (by omega) (by omega), read_low c1 (by omega) (by omega) (by omega)⟩
/-- The one is the other times a power of two; how great it is at most, and at least. -/
def Sc (e lo hi : Int) (x x' : Nat) : Prop := (∃ s, double.read x = .number s 0 (-1074) ∧ double.read x' = .number s 0 (-1074)) ∨
  ∃ s m i, 4503599627370496 ≤ m ∧ m < 9007199254740992 ∧ lo ≤ i ∧ i ≤ hi ∧ double.read x = .number s m i ∧ double.read x' = .number s m (i + e)
theorem Sc.wk {e lo hi lo' hi' : Int} {x x' : Nat} (h : Sc e lo hi x x') (a : lo' ≤ lo) (b : hi ≤ hi') : Sc e lo' hi' x x' := by
  rcases h with h | ⟨s, m, i, h1, h2, h3, h4, h5, h6⟩
  · exact .inl h
  · exact .inr ⟨s, m, i, h1, h2, by omega, by omega, h5, h6⟩
theorem Sc.fin {e lo hi : Int} {x x' : Nat} (h : Sc e lo hi x x') : Flt.Fin x ∧ Flt.Fin x' := by
  rcases h with ⟨s, h1, h2⟩ | ⟨s, m, i, h1, h2, h3, h4, h5, h6⟩
  · exact ⟨⟨_, _, _, h1⟩, ⟨_, _, _, h2⟩⟩
  · exact ⟨⟨_, _, _, h5⟩, ⟨_, _, _, h6⟩⟩
theorem read_zero (s : Bool) : double.read (double.word s 0) = .number s 0 (-1074) := by
  rw [read_word s 0 (by decide), if_pos (by decide)]
/-- Two writings of one number, so many places apart. -/
theorem Sc.mk {e lo hi p : Int} {s : Bool} {mag : Nat} (he : -20 ≤ e ∧ e ≤ 20) (h : mag ≠ 0 → lo ≤ p + mag.log2 - 52 ∧ p + mag.log2 - 51 ≤ hi) (h1 : -1050 ≤ lo) (h2 : hi ≤ 850) : Sc e lo hi (double.nearest s mag p) (double.nearest s mag (p + e)) := by
  by_cases hm : mag = 0
  · subst hm
    rw [near_0, near_0]
    exact .inl ⟨s, read_zero s, read_zero s⟩
  · obtain ⟨a, b⟩ := h hm
    obtain ⟨m, i, c1, c2, c3, c4, c5, c6⟩ := near_sc (neg := s) (p := p) (e := e) hm (by omega) (by omega) he
    exact .inr ⟨s, m, i, c1, c2, by omega, by omega, c5, c6⟩
theorem near_num (s : Bool) (mag : Nat) (p : Int) : isN (double.nearest s mag p) = false := by
  by_cases hm : mag = 0
  · subst hm; rw [near_0]; exact word_ok s (Nat.zero_le _)
  · obtain ⟨t, _, e⟩ := nearest_form s mag p
    rw [e]; exact word_ok s (rung_le _ _ _ _ _)
theorem F_near {op : BinOp} {x y : Nat} {s : Bool} {mag : Nat} {p : Int} (h : fop op x y = some (double.nearest s mag p)) : F op x y = double.nearest s mag p := F_some h (near_num s mag p)
theorem fop_mul {x y : Nat} {s t : Bool} {m n : Nat} {i j : Int} (hx : double.read x = .number s m i) (hy : double.read y = .number t n j) : fop .mul x y = some (double.nearest (s ^^ t) (m * n) (i + j)) := by
  show ((double.read x).product (double.read y)).map double.write = _
  rw [hx, hy]; rfl
theorem Sc.mul {e e' lo hi lo' hi' : Int} {x x' y y' : Nat} (hx : Sc e lo hi x x') (hy : Sc e' lo' hi' y y') (he : -20 ≤ e + e' ∧ e + e' ≤ 20) (h1 : -1050 ≤ lo + lo' + 52) (h2 : hi + hi' + 54 ≤ 850) : Sc (e + e') (lo + lo' + 52) (hi + hi' + 54) (F .mul x y) (F .mul x' y') := by
  have z : ∀ {s t : Bool} {a b c d : Nat} {i j k l : Int}, double.read x = .number s a i → double.read y = .number t b j → double.read x' = .number s c k → double.read y' = .number t d l → a * b = 0 → c * d = 0 → Sc (e + e') (lo + lo' + 52) (hi + hi' + 54) (F .mul x y) (F .mul x' y') := fun {s t a b c d i j k l} q1 q2 q3 q4 z1 z2 => by
    rw [F_near (fop_mul q1 q2), F_near (fop_mul q3 q4), z1, z2, near_0, near_0]
    exact .inl ⟨_, read_zero _, read_zero _⟩
  rcases hx with ⟨s, a1, a2⟩ | ⟨s, m, i, a1, a2, a3, a4, a5, a6⟩ <;> rcases hy with ⟨t, b1, b2⟩ | ⟨t, n, j, b1, b2, b3, b4, b5, b6⟩
  · exact z a1 b1 a2 b2 (Nat.zero_mul _) (Nat.zero_mul _)
  · exact z a1 b5 a2 b6 (Nat.zero_mul _) (Nat.zero_mul _)
  · exact z a5 b1 a6 b2 (Nat.mul_zero _) (Nat.mul_zero _)
  · rw [F_near (fop_mul a5 b5), F_near (fop_mul a6 b6), show i + e + (j + e') = i + j + (e + e') by omega]
    have g : m * n ≠ 0 → (m * n).log2 = 104 ∨ (m * n).log2 = 105 := fun h0 => by
      have h3 : 2 ^ 104 ≤ m * n := by
        have := Nat.mul_le_mul a1 b1
        rw [show (2 : Nat) ^ 104 = 4503599627370496 * 4503599627370496 by decide]; exact this
      have h4 : m * n < 2 ^ 106 := by
        have := Nat.mul_lt_mul'' a2 b2
        rw [show (2 : Nat) ^ 106 = 9007199254740992 * 9007199254740992 by decide]; exact this
      have h5 := (Nat.le_log2 h0).2 h3
      have h6 := (Nat.log2_lt h0).2 h4
      omega
    refine Sc.mk he (fun h0 => ?_) h1 h2
    have := g h0
    omega
theorem fop_quo {x y : Nat} {s t : Bool} {m n : Nat} {i j : Int} (hx : double.read x = .number s m i) (hy : double.read y = .number t n j) (hn : n ≠ 0) :
    fop .quo x y = some (double.nearest (s ^^ t) (2 * ((m <<< (54 + n.log2 - m.log2)) / n) + ((m <<< (54 + n.log2 - m.log2)) % n != 0).toNat) (i - j - (54 + n.log2 - m.log2 : Nat) - 1)) := by
  show ((double.read x).quotient (double.fractionBits + 2) (double.read y)).map double.write = _
  have fb : double.fractionBits + 2 = 54 := by decide +kernel
  rw [hx, hy, fb]
  simp only [Datum.quotient, if_neg hn, Option.map_some]
  rfl
theorem Sc.quo {e e' lo hi lo' hi' : Int} {x x' y y' : Nat} (hx : Sc e lo hi x x') (hy : Sc e' lo' hi' y y') (h0 : feq y 0 = false) (he : -20 ≤ e - e' ∧ e - e' ≤ 20) (h1 : -1050 ≤ lo - hi' - 53) (h2 : hi - lo' - 51 ≤ 850) : Sc (e - e') (lo - hi' - 53) (hi - lo' - 51) (F .quo x y) (F .quo x' y') := by
  rcases hy with ⟨t, b1, b2⟩ | ⟨t, n, j, b1, b2, b3, b4, b5, b6⟩
  · exfalso
    rw [feq_V ⟨_, _, _, b1⟩ Fin_0, V_0, V_of b1, signed_0] at h0
    exact absurd h0 (by decide)
  have hn : n ≠ 0 := by omega
  have ln := log2_52 b1 b2
  rcases hx with ⟨s, a1, a2⟩ | ⟨s, m, i, a1, a2, a3, a4, a5, a6⟩
  · have z : (2 * ((0 <<< (54 + n.log2 - (0 : Nat).log2)) / n) + ((0 <<< (54 + n.log2 - (0 : Nat).log2)) % n != 0).toNat) = 0 := by simp
    rw [F_near (fop_quo a1 b5 hn), F_near (fop_quo a2 b6 hn), z, near_0, near_0]
    exact .inl ⟨_, read_zero _, read_zero _⟩
  · rw [F_near (fop_quo a5 b5 hn), F_near (fop_quo a6 b6 hn)]
    have lm := log2_52 a1 a2
    rw [ln, lm, show 54 + 52 - 52 = 54 by decide, show i + e - (j + e') - ((54 : Nat) : Int) - 1 = i - j - ((54 : Nat) : Int) - 1 + (e - e') by omega]
    have d0 : m <<< 54 = m * 18014398509481984 := Nat.shiftLeft_eq m 54
    rw [d0]
    have d1 : 9007199254740992 ≤ m * 18014398509481984 / n := by
      rw [Nat.le_div_iff_mul_le (by omega)]
      omega
    have d2 : m * 18014398509481984 / n < 36028797018963968 := by
      rw [Nat.div_lt_iff_lt_mul (by omega)]
      omega
    have tb : ((m * 18014398509481984) % n != 0).toNat ≤ 1 := by cases ((m * 18014398509481984) % n != 0) <;> decide
    generalize m * 18014398509481984 / n = D at *
    generalize ((m * 18014398509481984) % n != 0).toNat = T at *
    refine Sc.mk he (fun h0 => ?_) h1 h2
    have h5 := (Nat.le_log2 h0).2 (show 2 ^ 54 ≤ 2 * D + T by rw [show (2 : Nat) ^ 54 = 18014398509481984 by decide]; omega)
    have h6 := (Nat.log2_lt h0).2 (show 2 * D + T < 2 ^ 56 by rw [show (2 : Nat) ^ 56 = 72057594037927936 by decide]; omega)
    omega
theorem rootFrom_bd (n : Nat) : ∀ (todo r : Nat), r ≤ Datum.rootFrom n todo r ∧ Datum.rootFrom n todo r < r + 2 ^ todo
  | 0, r => ⟨Nat.le_refl _, by show r < r + 2 ^ 0; omega⟩
  | t + 1, r => by
    have e : Datum.rootFrom n (t + 1) r = Datum.rootFrom n t (if (r + 1 <<< t) * (r + 1 <<< t) ≤ n then r + 1 <<< t else r) := rfl
    rw [e, Nat.shiftLeft_eq, Nat.one_mul, Nat.pow_succ]
    split
    · have := rootFrom_bd n t (r + 2 ^ t); omega
    · have := rootFrom_bd n t r; omega
theorem root_read {x : Nat} {m : Nat} {i : Int} (hx : double.read x = .number false m i) (h : 4503599627370496 ≤ m) (h' : m < 9007199254740992) :
    ∃ (W : Nat) (k : Nat), (k : Int) = 56 + ((i - 56) % 2) ∧ 2 ^ 55 ≤ W ∧ W < 2 ^ 56 ∧ sq x = double.nearest false W ((i - k) / 2 - 1) ∧ ∀ y j, double.read y = .number false m j → (j - i) % 2 = 0 → sq y = double.nearest false W ((j - k) / 2 - 1) := by
  have fb : double.fractionBits + 2 = 54 := by decide +kernel
  have lm := log2_52 h h'
  have gen : ∀ y j, double.read y = .number false m j → Ieee.double.sqrt y = some (double.nearest false (2 * Datum.rootFrom (m <<< (56 + ((j - (56 : Nat)) % 2).toNat)) ((m <<< (56 + ((j - (56 : Nat)) % 2).toNat)).log2 / 2 + 1) 0 + (Datum.rootFrom (m <<< (56 + ((j - (56 : Nat)) % 2).toNat)) ((m <<< (56 + ((j - (56 : Nat)) % 2).toNat)).log2 / 2 + 1) 0 * Datum.rootFrom (m <<< (56 + ((j - (56 : Nat)) % 2).toNat)) ((m <<< (56 + ((j - (56 : Nat)) % 2).toNat)).log2 / 2 + 1) 0 != m <<< (56 + ((j - (56 : Nat)) % 2).toNat)).toNat) ((j - (56 + ((j - (56 : Nat)) % 2).toNat : Nat)) / 2 - 1)) := fun y j hy => by
    show ((double.read y).root (double.fractionBits + 2)).map double.write = _
    rw [hy, fb]
    simp only [Datum.root, if_neg (show ¬ m = 0 by omega), lm, Bool.false_eq_true, if_false, Option.map_some]
    rfl
  obtain ⟨k, hk⟩ : ∃ k : Nat, k = 56 + ((i - (56 : Nat)) % 2).toNat := ⟨_, rfl⟩
  have k2 : k = 56 ∨ k = 57 := by omega
  have sqs : ∀ y j, double.read y = .number false m j → (j - i) % 2 = 0 → sq y = double.nearest false (2 * Datum.rootFrom (m <<< k) ((m <<< k).log2 / 2 + 1) 0 + (Datum.rootFrom (m <<< k) ((m <<< k).log2 / 2 + 1) 0 * Datum.rootFrom (m <<< k) ((m <<< k).log2 / 2 + 1) 0 != m <<< k).toNat) ((j - (k : Nat)) / 2 - 1) := fun y j hy hp => by
    have g := gen y j hy
    have e : 56 + ((j - (56 : Nat)) % 2).toNat = k := by omega
    rw [e] at g
    unfold sq
    rw [g]
    exact cn_notN (near_num _ _ _)
  have lg : (m <<< k).log2 / 2 + 1 = 55 := by
    rw [log2_shl m k (by omega), lm]
    omega
  rw [lg] at sqs
  have big : (0 + 1 <<< 54) * (0 + 1 <<< 54) ≤ m <<< k := by
    rw [Nat.shiftLeft_eq, Nat.shiftLeft_eq]
    have h1 : 4503599627370496 * 2 ^ 56 ≤ m * 2 ^ k := Nat.mul_le_mul h (Nat.pow_le_pow_right (by decide) (by omega))
    have h2 : (0 + 1 * 2 ^ 54) * (0 + 1 * 2 ^ 54) = 4503599627370496 * 2 ^ 56 := by decide
    omega
  have step : Datum.rootFrom (m <<< k) 55 0 = Datum.rootFrom (m <<< k) 54 (0 + 1 <<< 54) := by
    have e : Datum.rootFrom (m <<< k) 55 0 = Datum.rootFrom (m <<< k) 54 (if (0 + 1 <<< 54) * (0 + 1 <<< 54) ≤ m <<< k then 0 + 1 <<< 54 else 0) := rfl
    rw [e, if_pos big]
  have rb := rootFrom_bd (m <<< k) 54 (0 + 1 <<< 54)
  rw [← step] at rb
  have e54 : (0 + 1 <<< 54 : Nat) = 2 ^ 54 := by decide
  rw [e54] at rb
  have tb : (Datum.rootFrom (m <<< k) 55 0 * Datum.rootFrom (m <<< k) 55 0 != m <<< k).toNat ≤ 1 := by cases (Datum.rootFrom (m <<< k) 55 0 * Datum.rootFrom (m <<< k) 55 0 != m <<< k) <;> decide
  refine ⟨2 * Datum.rootFrom (m <<< k) 55 0 + (Datum.rootFrom (m <<< k) 55 0 * Datum.rootFrom (m <<< k) 55 0 != m <<< k).toNat, k, by omega, by omega, by omega, sqs x i hx (by omega), sqs⟩
theorem Sc.sqrt {e lo hi : Int} {x x' : Nat} (hx : Sc (e + e) lo hi x x') (h0 : flt x 0 = false) (he : -20 ≤ e ∧ e ≤ 20) (h1 : -1050 ≤ (lo - 57) / 2 + 2) (h2 : (hi - 56) / 2 + 3 ≤ 850) : Sc e ((lo - 57) / 2 + 2) ((hi - 56) / 2 + 3) (sq x) (sq x') := by
  rcases hx with ⟨s, a1, a2⟩ | ⟨s, m, i, a1, a2, a3, a4, a5, a6⟩
  · have fb : double.fractionBits + 2 = 54 := by decide +kernel
    have g : ∀ y, double.read y = .number s 0 (-1074) → sq y = double.nearest s 0 (-1074) := fun y hy => by
      have e : Ieee.double.sqrt y = some (double.nearest s 0 (-1074)) := by
        show ((double.read y).root (double.fractionBits + 2)).map double.write = _
        rw [hy]; rfl
      unfold sq; rw [e]; exact cn_notN (near_num _ _ _)
    rw [g x a1, g x' a2, near_0]
    exact .inl ⟨s, read_zero s, read_zero s⟩
  · have hs : s = false := by
      cases s
      · rfl
      · exfalso
        rw [flt_V ⟨_, _, _, a5⟩ Fin_0, V_0, V_of a5, decide_eq_false_iff_not] at h0
        unfold signed at h0
        rw [if_pos rfl, Nat.shiftLeft_eq] at h0
        have := Nat.mul_pos (show 0 < m by omega) (Nat.two_pow_pos (i + 1074).toNat)
        omega
    subst hs
    obtain ⟨W, k, hk, w1, w2, q1, q2⟩ := root_read a5 a1 a2
    rw [q1, q2 x' (i + (e + e)) a6 (by omega), show (i + (e + e) - (k : Int)) / 2 - 1 = (i - (k : Int)) / 2 - 1 + e by omega]
    refine Sc.mk he (fun hz => ?_) h1 h2
    have h5 := (Nat.le_log2 hz).2 w1
    have h6 := (Nat.log2_lt hz).2 w2
    omega
theorem fop_add {x y : Nat} {s t : Bool} {m n : Nat} {i j : Int} (hx : double.read x = .number s m i) (hy : double.read y = .number t n j) :
    fop .add x y = some (double.nearest (if signed s m (i - min i j).toNat + signed t n (j - min i j).toNat = 0 then s && t else decide (signed s m (i - min i j).toNat + signed t n (j - min i j).toNat < 0)) (signed s m (i - min i j).toNat + signed t n (j - min i j).toNat).natAbs (min i j)) := by
  show ((double.read x).sum (double.read y)).map double.write = _
  rw [hx, hy]; rfl
theorem signed_ne {s : Bool} {m k : Nat} (h : 0 < m) : signed s m k ≠ 0 ∧ decide (signed s m k < 0) = s ∧ (signed s m k).natAbs = m <<< k := by
  have hp := Nat.mul_pos h (Nat.two_pow_pos k)
  unfold signed
  rw [Nat.shiftLeft_eq]
  cases s
  · rw [if_neg (by decide)]
    exact ⟨by omega, decide_eq_false (by omega), by omega⟩
  · rw [if_pos rfl]
    exact ⟨by omega, decide_eq_true (by omega), by omega⟩
theorem add_0l {x y : Nat} {s t : Bool} {n : Nat} {j : Int} (hx : double.read x = .number s 0 (-1074)) (hy : double.read y = .number t n j) (hn : 0 < n) (hj : -1074 ≤ j) : F .add x y = double.nearest t n j := by
  have h := fop_add hx hy
  have hb : min (-1074) j = -1074 := by omega
  rw [hb, signed_0, Int.zero_add] at h
  obtain ⟨a, b, c⟩ := signed_ne (s := t) (k := (j - -1074).toNat) hn
  rw [if_neg a, b, c] at h
  rw [F_near h, near_shift]
  congr 1
  omega
theorem add_0r {x y : Nat} {s t : Bool} {n : Nat} {j : Int} (hx : double.read x = .number s 0 (-1074)) (hy : double.read y = .number t n j) (hn : 0 < n) (hj : -1074 ≤ j) : F .add y x = double.nearest t n j := by
  rw [F_add_comm]; exact add_0l hx hy hn hj
theorem sum_lt {s t : Bool} {m n a b D : Nat} (hm : m < 9007199254740992) (hn : n < 9007199254740992) (ha : a ≤ D) (hb : b ≤ D) : (signed s m a + signed t n b).natAbs < 2 ^ (54 + D) := by
  have h1 : (signed s m a).natAbs = m * 2 ^ a := by rw [signed_abs, Nat.shiftLeft_eq]
  have h2 : (signed t n b).natAbs = n * 2 ^ b := by rw [signed_abs, Nat.shiftLeft_eq]
  have p1 := Nat.pow_le_pow_right (n := 2) (by decide) ha
  have p2 := Nat.pow_le_pow_right (n := 2) (by decide) hb
  have q1 : m * 2 ^ a ≤ 9007199254740991 * 2 ^ D := Nat.mul_le_mul (by omega) p1
  have q2 : n * 2 ^ b ≤ 9007199254740991 * 2 ^ D := Nat.mul_le_mul (by omega) p2
  have e : 2 ^ (54 + D) = 18014398509481984 * 2 ^ D := by rw [Nat.pow_add]
  have pd := Nat.two_pow_pos D
  omega
theorem Sc.add {e lo hi lo' hi' : Int} {x x' y y' : Nat} (hx : Sc e lo hi x x') (hy : Sc e lo' hi' y y') (he : -20 ≤ e ∧ e ≤ 20) (l1 : -1050 ≤ lo) (l2 : -1050 ≤ lo') (h1 : -1050 ≤ min lo lo' - 52) (h2 : max hi hi' + 2 ≤ 850) : Sc e (min lo lo' - 52) (max hi hi' + 2) (F .add x y) (F .add x' y') := by
  rcases hx with ⟨s, a1, a2⟩ | ⟨s, m, i, a1, a2, a3, a4, a5, a6⟩ <;> rcases hy with ⟨t, b1, b2⟩ | ⟨t, n, j, b1, b2, b3, b4, b5, b6⟩
  · have z : ∀ u v, double.read u = .number s 0 (-1074) → double.read v = .number t 0 (-1074) → F .add u v = double.word (s && t) 0 := fun u v hu hv => by
      have h := fop_add hu hv
      rw [signed_0, signed_0, Int.add_zero, if_pos rfl] at h
      rw [F_near h]
      exact near_0 _ _
    rw [z _ _ a1 b1, z _ _ a2 b2]
    exact .inl ⟨_, read_zero _, read_zero _⟩
  · rw [add_0l a1 b5 (by omega) (by omega), add_0l a2 b6 (by omega) (by omega)]
    have ln := log2_52 b1 b2
    exact Sc.mk he (fun h0 => by rw [ln]; omega) h1 h2
  · rw [add_0r b1 a5 (by omega) (by omega), add_0r b2 a6 (by omega) (by omega)]
    have lm := log2_52 a1 a2
    exact Sc.mk he (fun h0 => by rw [lm]; omega) h1 h2
  · have h := fop_add a5 b5
    have h' := fop_add a6 b6
    have eb : min (i + e) (j + e) = min i j + e := by omega
    have e1 : i + e - (min i j + e) = i - min i j := by omega
    have e2 : j + e - (min i j + e) = j - min i j := by omega
    rw [eb, e1, e2] at h'
    rw [F_near h, F_near h']
    have sl := sum_lt (s := s) (t := t) (a := (i - min i j).toNat) (b := (j - min i j).toNat) (D := (max i j - min i j).toNat) a2 b2 (by omega) (by omega)
    generalize (signed s m (i - min i j).toNat + signed t n (j - min i j).toNat).natAbs = M at *
    refine Sc.mk he (fun h0 => ?_) h1 h2
    have h6 := (Nat.log2_lt h0).2 sl
    omega
theorem read_fneg {x : Nat} {s : Bool} {m : Nat} {i : Int} (h : double.read x = .number s m i) : double.read (fneg x) = .number (!s) m i := by
  have hm : fneg x % 9223372036854775808 = x % 9223372036854775808 := fneg_mod x
  have hd : fneg x / 9223372036854775808 % 2 = 1 - x / 9223372036854775808 % 2 := by
    have e : fneg x / 2 ^ 63 = x / 2 ^ 63 ^^^ 1 := by
      show (x ^^^ 2 ^ 63) / 2 ^ 63 = _
      rw [Nat.xor_div_two_pow, Nat.div_self (by decide)]
    rw [show (9223372036854775808 : Nat) = 2 ^ 63 by decide, e, show (2 : Nat) = 2 ^ 1 by decide, Nat.xor_mod_two_pow]
    have : x / (2 ^ 1) ^ 63 % 2 ^ 1 = 0 ∨ x / (2 ^ 1) ^ 63 % 2 ^ 1 = 1 := by omega
    rcases this with h | h <;> rw [h] <;> rfl
  have hs : (fneg x / 9223372036854775808 % 2 == 1) = !(x / 9223372036854775808 % 2 == 1) := by
    rw [hd]
    have : x / 9223372036854775808 % 2 = 0 ∨ x / 9223372036854775808 % 2 = 1 := by omega
    rcases this with h | h <;> rw [h] <;> rfl
  have w : double.signWeight = 9223372036854775808 := by decide +kernel
  unfold Format.read at h ⊢
  simp only [w, hm, hs] at h ⊢
  split at h
  · rename_i c
    rw [if_pos c]
    injection h with h1 h2 h3
    rw [h1, h2, h3]
  · rename_i c
    rw [if_neg c]
    split at h
    · rename_i c2
      rw [if_pos c2]
      injection h with h1 h2 h3
      rw [h1, h2, h3]
    · rename_i c2
      rw [if_neg c2]
      split at h <;> cases h
theorem Sc.fneg {e lo hi : Int} {x x' : Nat} (h : Sc e lo hi x x') : Sc e lo hi (fneg x) (fneg x') := by
  rcases h with ⟨s, a, b⟩ | ⟨s, m, i, a1, a2, a3, a4, a5, a6⟩
  · exact .inl ⟨_, read_fneg a, read_fneg b⟩
  · exact .inr ⟨_, m, i, a1, a2, a3, a4, read_fneg a5, read_fneg a6⟩
theorem Fneg_eq {x : Nat} (h : Flt.Fin x) : Fneg x = fneg x := by unfold Fneg; exact cn_notN (by rw [isN_fneg]; exact h.notN)
theorem Sc.neg {e lo hi : Int} {x x' : Nat} (h : Sc e lo hi x x') : Sc e lo hi (Fneg x) (Fneg x') := by
  rw [Fneg_eq h.fin.1, Fneg_eq h.fin.2]; exact h.fneg
theorem sub_add {x y : Nat} (h : Flt.Fin y) : F .sub x y = F .add x (fneg y) := by
  obtain ⟨s, m, i, e⟩ := h
  have : fop .sub x y = fop .add x (fneg y) := by
    show ((double.read x).sum (double.read y).opposite).map double.write = ((double.read x).sum (double.read (fneg y))).map double.write
    rw [e, read_fneg e]; rfl
  unfold F; rw [this]
theorem Sc.sub {e lo hi lo' hi' : Int} {x x' y y' : Nat} (hx : Sc e lo hi x x') (hy : Sc e lo' hi' y y') (he : -20 ≤ e ∧ e ≤ 20) (l1 : -1050 ≤ lo) (l2 : -1050 ≤ lo') (h1 : -1050 ≤ min lo lo' - 52) (h2 : max hi hi' + 2 ≤ 850) : Sc e (min lo lo' - 52) (max hi hi' + 2) (F .sub x y) (F .sub x' y') := by
  rw [sub_add hy.fin.1, sub_add hy.fin.2]
  exact hx.add hy.fneg he l1 l2 h1 h2
/-- What both stand for, so many places apart. -/
theorem Sc.V {e lo hi : Int} {x x' : Nat} (h : Sc e lo hi x x') (he : -20 ≤ e ∧ e ≤ 20) (hl : -1050 ≤ lo) : Flt.V x' * (2 ^ 20 : Nat) = Flt.V x * (2 ^ (20 + e).toNat : Nat) := by
  rcases h with ⟨s, a, b⟩ | ⟨s, m, i, a1, a2, a3, a4, a5, a6⟩
  · rw [V_of a, V_of b, signed_0, Int.zero_mul, Int.zero_mul]
  · rw [V_of a5, V_of a6, ← signed_add, ← signed_add]
    congr 1
    omega
theorem cmp_sc {a a' b b' : Int} {p q : Nat} (hp : 0 < p) (hq : 0 < q) (h1 : a' * p = a * q) (h2 : b' * p = b * q) : (a' < b' ↔ a < b) ∧ (a' = b' ↔ a = b) := by
  have P : (0 : Int) < p := by omega
  have Q : (0 : Int) < q := by omega
  constructor
  · rw [← Int.mul_lt_mul_right P, h1, h2, Int.mul_lt_mul_right Q]
  · constructor
    · intro h
      have : a * q = b * q := by rw [← h1, ← h2, h]
      exact Int.eq_of_mul_eq_mul_right (by omega) this
    · intro h
      have : a' * p = b' * p := by rw [h1, h2, h]
      exact Int.eq_of_mul_eq_mul_right (by omega) this
theorem Sc.cmp {e lo hi lo' hi' : Int} {x x' y y' : Nat} (hx : Sc e lo hi x x') (hy : Sc e lo' hi' y y') (he : -20 ≤ e ∧ e ≤ 20) (l1 : -1050 ≤ lo) (l2 : -1050 ≤ lo') : flt x' y' = flt x y ∧ feq x' y' = feq x y ∧ fgt x' y' = fgt x y := by
  have h := cmp_sc (Nat.two_pow_pos 20) (Nat.two_pow_pos (20 + e).toNat) (hx.V he l1) (hy.V he l2)
  have h' := cmp_sc (Nat.two_pow_pos 20) (Nat.two_pow_pos (20 + e).toNat) (hy.V he l2) (hx.V he l1)
  rw [fgt_flt, fgt_flt, flt_V hx.fin.2 hy.fin.2, flt_V hx.fin.1 hy.fin.1, feq_V hx.fin.2 hy.fin.2, feq_V hx.fin.1 hy.fin.1, flt_V hy.fin.2 hx.fin.2, flt_V hy.fin.1 hx.fin.1]
  exact ⟨decide_eq_decide.2 h.1, decide_eq_decide.2 h.2, decide_eq_decide.2 h'.1⟩
theorem sc_0 (e : Int) : Sc e 0 0 0 0 := .inl ⟨false, by decide +kernel, by decide +kernel⟩
theorem Sc.zero {e lo hi : Int} {x x' : Nat} (hx : Sc e lo hi x x') (he : -20 ≤ e ∧ e ≤ 20) (l1 : -1050 ≤ lo) : flt x' 0 = flt x 0 ∧ feq x' 0 = feq x 0 ∧ fgt x' 0 = fgt x 0 := hx.cmp (sc_0 e) he l1 (by decide)
theorem Sc.less {e lo hi lo' hi' : Int} {x x' y y' : Nat} (hx : Sc e lo hi x x') (hy : Sc e lo' hi' y y') (he : -20 ≤ e ∧ e ≤ 20) (l1 : -1050 ≤ lo) (l2 : -1050 ≤ lo') : Sc e (min lo lo') (max hi hi') (lessV x y) (lessV x' y') := by
  unfold lessV
  rw [(hy.cmp hx he l2 l1).1]
  cases flt y x
  · exact hx.wk (by omega) (by omega)
  · exact hy.wk (by omega) (by omega)
theorem Sc.more {e lo hi lo' hi' : Int} {x x' y y' : Nat} (hx : Sc e lo hi x x') (hy : Sc e lo' hi' y y') (he : -20 ≤ e ∧ e ≤ 20) (l1 : -1050 ≤ lo) (l2 : -1050 ≤ lo') : Sc e (min lo lo') (max hi hi') (moreV x y) (moreV x' y') := by
  unfold moreV
  rw [(hy.cmp hx he l2 l1).2.2]
  cases fgt y x
  · exact hx.wk (by omega) (by omega)
  · exact hy.wk (by omega) (by omega)
/-- Quotients of two that go along are the same. -/
theorem Sc.quo_eq {e lo hi lo' hi' : Int} {x x' y y' : Nat} (hx : Sc e lo hi x x') (hy : Sc e lo' hi' y y') (h0 : feq y 0 = false) : F .quo x y = F .quo x' y' := by
  rcases hy with ⟨t, b1, b2⟩ | ⟨t, n, j, b1, b2, b3, b4, b5, b6⟩
  · exfalso
    rw [feq_V ⟨_, _, _, b1⟩ Fin_0, V_0, V_of b1, signed_0] at h0
    exact absurd h0 (by decide)
  have hn : n ≠ 0 := by omega
  rcases hx with ⟨s, a1, a2⟩ | ⟨s, m, i, a1, a2, a3, a4, a5, a6⟩
  · have z : (2 * ((0 <<< (54 + n.log2 - (0 : Nat).log2)) / n) + ((0 <<< (54 + n.log2 - (0 : Nat).log2)) % n != 0).toNat) = 0 := by simp
    rw [F_near (fop_quo a1 b5 hn), F_near (fop_quo a2 b6 hn), z, near_0, near_0]
  · rw [F_near (fop_quo a5 b5 hn), F_near (fop_quo a6 b6 hn), show i + e - (j + e) = i - j by omega]
theorem near_id {s : Bool} {m : Nat} {i : Int} (h : 4503599627370496 ≤ m) (h' : m < 9007199254740992) (h1 : -1060 ≤ i) (h2 : i ≤ 860) : double.read (double.nearest s m i) = .number s m i := by
  have lm := log2_52 h h'
  rw [nearest_eq s m i (by omega), lm]
  have hq : max (i + ((52 : Nat) : Int) - 52) (-1074) = i := by omega
  rw [hq, show (i - i).toNat = 0 by omega, Nat.shiftLeft_zero, cut_even, Nat.pow_zero]
  have hr : rhe m 1 = m := by unfold rhe; rw [Nat.mod_one, Nat.div_one]; simp
  rw [hr]
  obtain ⟨Q, hQ⟩ : ∃ Q : Nat, (Q : Int) = i + 1074 := ⟨(i + 1074).toNat, by omega⟩
  rw [show (i + 1074).toNat = Q by omega, Nat.min_eq_left (by omega)]
  exact read_low h h' (by omega) (by omega)
theorem fop_pow {a k : Nat} {s : Bool} {m : Nat} {i j : Int} (ha : double.read a = .number s m i) (hk : double.read k = .number false 4503599627370496 j) : F .mul a k = double.nearest s m (i + j + 52) := by
  have h := fop_mul ha hk
  have e : m * 4503599627370496 = m <<< 52 := by rw [Nat.shiftLeft_eq]
  rw [e, near_shift, Bool.xor_false] at h
  exact F_near h
/-- A number times a power of two. -/
theorem Sc.pow {lo hi j : Int} {a k : Nat} (h : Sc 0 lo hi a a) (hk : double.read k = .number false 4503599627370496 j) (hj : -72 ≤ j ∧ j ≤ -32) (l1 : -1000 ≤ lo) (l2 : hi ≤ 800) : Sc (j + 52) lo hi a (F .mul a k) := by
  rcases h with ⟨s, b1, b2⟩ | ⟨s, m, i, b1, b2, b3, b4, b5, b6⟩
  · rw [fop_pow b1 hk, near_0]
    exact .inl ⟨s, b1, read_zero s⟩
  · refine .inr ⟨s, m, i, b1, b2, b3, b4, b5, ?_⟩
    rw [fop_pow b5 hk, near_id b1 b2 (by omega) (by omega)]
    congr 1
    omega
end Flt
end Go.Proofs.YtgbcnfcgljbbgaaGreat
/- What is made of raw numbers. -/
namespace Go.Proofs.YtgbcnfcgljbbgaaGreat
open Go.RowKit Ev
set_option linter.unusedVariables false
set_option linter.unusedSimpArgs false
set_option maxRecDepth 20000
set_option maxHeartbeats 4000000

theorem pick_f : FnOk Tryz.prog 19 Tryz.f19 := ⟨Tryz.func19, by kernel_rfl⟩
theorem pick_a (c n : Int) (hpre : In64 c ∧ 1 ≤ n ∧ n ≤ 4294967296) : ACalls Tryz.prog 19 [.int .i64 c, .int .i64 n] (.int .i64 (pickF c n)) := by
  refine acalls_of (inl := hasI (P := Tryz.prog) [] []) (base [] [] []) 0 pick_f (And.intro (by kernel_rfl) ?_)
  repeat' (first | refine And.intro ?_ ?_ | (with_reducible exact ff_elim) | (with_reducible exact tf_elim) | intro _ | (with_reducible rfl) | ((with_reducible refine lk_t ?_); exact rfl) | ((with_reducible refine pf_t ?_); exact rfl) | refine tell ?_ | exact True.intro | (refine IsT.of ?_; kernel_rfl))
  all_goals obtain ⟨⟨c0, c1⟩, n0, n1⟩ := hpre
  all_goals (try refine Tell.mk ?_)
  all_goals first | with_reducible rfl | (simp only [decide_eq_true_eq, decide_eq_false_iff_not] at *; (iterate 3 (try simp (disch := omega) only [wrapI] at *)); subst_vars; first | omega | (unfold pickF; split <;> first | omega | (rw [Int.tmod_eq_emod_of_nonneg (by omega)]; done) | (rw [Int.tmod_eq_emod_of_nonneg (by omega)]; congr 1; omega)))
def pick_k : Con Tryz.prog := ⟨19, fun args => match args with | [.int .i64 c, .int .i64 n] => .ok (some (In64 c ∧ 1 ≤ n ∧ n ≤ 4294967296)) (.int .i64 (pickF c n)) | _ => .no, by
  intro args p r h hp
  split at h
  · cases h; exact pick_a _ _ hp
  · cases h⟩
theorem raw_f : FnOk Tryz.prog 40 Tryz.f40 := ⟨Tryz.func40, by kernel_rfl⟩
theorem raw_a (n : Nat) (F : Nat → Int) (k : Int) (hpre : 0 ≤ k) : ACalls Tryz.prog 40 [ints .i64 n F, .int .i64 k] (.int .i64 (rawF n F k)) := by
  refine acalls_of (inl := hasI (P := Tryz.prog) [] []) (base [] [] []) 0 raw_f (And.intro (by kernel_rfl) ?_)
  repeat' (first | refine And.intro ?_ ?_ | (with_reducible exact ff_elim) | (with_reducible exact tf_elim) | intro _ | (with_reducible rfl) | ((with_reducible refine lk_t ?_); exact rfl) | ((with_reducible refine pf_t ?_); exact rfl) | refine tell ?_ | exact True.intro | (refine IsT.of ?_; kernel_rfl))
  all_goals (try refine Tell.mk ?_)
  all_goals first | with_reducible rfl | (simp only [beq_iff_eq, beq_eq_false_iff_ne] at *; subst_vars; first | omega | exact Int.tmod_nonneg _ hpre | exact Int.tmod_lt_of_pos _ (by omega) | (unfold rawF; rw [if_pos (by omega)]; done) | (unfold rawF; rw [if_neg (by omega), Int.tmod_eq_emod_of_nonneg hpre, mulN1, Nat.add_zero, Int.toNat_emod hpre (by omega)]; rfl))
def raw_r (n : Nat) (F : Nat → Int) (k : Int) : AV := .int .i64 (rawF n F k)
def raw_p (n : Nat) (F : Nat → Int) (k : Int) : Prop := 0 ≤ k
def raw_k : Con Tryz.prog := ⟨40, fun args => match args with | [.sl n 1 g_F, .int .i64 k] => .ok (some (IsI .i64 g_F ∧ raw_p n (intF g_F) k)) (raw_r n (intF g_F) k) | _ => .no, by
  intro args p r h hp
  split at h
  · cases h; obtain ⟨h_F, hp⟩ := hp; have e_F := h_F.eq; rw [e_F]; exact raw_a _ _ _ hp
  · cases h⟩
def thoF (n : Int) : Nat := F .quo (cn (FloatKind.f64.nearest n)) 4652007308841189376
theorem thousandth_f : FnOk Tryz.prog 42 Tryz.f42 := ⟨Tryz.func42, by kernel_rfl⟩
theorem thousandth_a (n : Int) : ACalls Tryz.prog 42 [.int .i64 n] (.flt (thoF n)) := by
  refine acalls_of (inl := hasI (P := Tryz.prog) [] []) (base [] [] []) 0 thousandth_f (And.intro (by kernel_rfl) ?_)
  repeat' (first | refine And.intro ?_ ?_ | (with_reducible exact ff_elim) | (with_reducible exact tf_elim) | intro _ | (with_reducible rfl) | ((with_reducible refine lk_t ?_); exact rfl) | ((with_reducible refine pf_t ?_); exact rfl) | refine tell ?_ | exact True.intro | (refine IsT.of ?_; kernel_rfl))
  all_goals (try refine Tell.mk ?_)
  all_goals first | with_reducible rfl | with_reducible exact isI_mk | with_reducible assumption | (with_reducible refine gb_t ?_; with_reducible assumption) | (with_reducible refine gb_f ?_; with_reducible assumption) | ((with_reducible refine ks_t ?_); rfl) | ((with_reducible refine pk_t ?_); rfl) | ((with_reducible refine pf_t ?_); rfl) | ((with_reducible refine lk_t ?_); rfl) | ((with_reducible refine okF_t ?_); kernel_rfl) | ((with_reducible refine rawF_in ?_); assumption) | ((try simp only [in64_iff, decide_eq_true_eq, decide_eq_false_iff_not, beq_iff_eq, beq_eq_false_iff_ne, ne_eq, bne_iff_ne, intF_mk, thoF] at *) <;> (iterate 4 (try simp (disch := omega) only [wrapI, wrapU8, wrapU32] at *)) <;> subst_vars <;> (try simp (disch := omega) only [wrapI, wrapU8, wrapU32] at *) <;> (first | with_reducible rfl | omega | (simp only [thoF]; done) | (simp only [thoF]; omega) | (simp [thoF, *]; done) | grind [thoF]))
def thousandth_k : Con Tryz.prog := ⟨42, fun args => match args with | [.int .i64 n] => .ok (none) (.flt (thoF n)) | _ => .no, by
  intro args p r h hp
  split at h
  · cases h; exact thousandth_a _
  · cases h⟩
def milF (c most : Int) : Nat := thoF (pickF c (2 * most + 1) - most)
theorem milli_f : FnOk Tryz.prog 44 Tryz.f44 := ⟨Tryz.func44, by kernel_rfl⟩
theorem milli_a (c most : Int) (hpre : In64 c ∧ 0 ≤ most ∧ most ≤ 1000000) : ACalls Tryz.prog 44 [.int .i64 c, .int .i64 most] (.flt (milF c most)) := by
  refine acalls_of (inl := hasI (P := Tryz.prog) [] []) (base [pick_k, thousandth_k] [] []) 0 milli_f (And.intro (by kernel_rfl) ?_)
  repeat' (first | refine And.intro ?_ ?_ | (with_reducible exact ff_elim) | (with_reducible exact tf_elim) | intro _ | (with_reducible rfl) | ((with_reducible refine lk_t ?_); exact rfl) | ((with_reducible refine pf_t ?_); exact rfl) | refine tell ?_ | exact True.intro | (refine IsT.of ?_; kernel_rfl))
  all_goals have hb := pickF_bd c (2 * most + 1) (by omega)
  all_goals (try refine Tell.mk ?_)
  all_goals first | with_reducible rfl | with_reducible exact isI_mk | with_reducible assumption | (with_reducible refine gb_t ?_; with_reducible assumption) | (with_reducible refine gb_f ?_; with_reducible assumption) | ((with_reducible refine ks_t ?_); rfl) | ((with_reducible refine pk_t ?_); rfl) | ((with_reducible refine pf_t ?_); rfl) | ((with_reducible refine lk_t ?_); rfl) | ((with_reducible refine okF_t ?_); kernel_rfl) | ((with_reducible refine rawF_in ?_); assumption) | ((try simp only [in64_iff, decide_eq_true_eq, decide_eq_false_iff_not, beq_iff_eq, beq_eq_false_iff_ne, ne_eq, bne_iff_ne, intF_mk, milF] at *) <;> (iterate 4 (try simp (disch := omega) only [wrapI, wrapU8, wrapU32] at *)) <;> subst_vars <;> (try simp (disch := omega) only [wrapI, wrapU8, wrapU32] at *) <;> (first | with_reducible rfl | omega | (simp only [milF]; done) | (simp only [milF]; omega) | (simp [milF, *]; done) | grind [milF]))
def milli_k : Con Tryz.prog := ⟨44, fun args => match args with | [.int .i64 c, .int .i64 most] => .ok (some (In64 c ∧ 0 ≤ most ∧ most ≤ 1000000)) (.flt (milF c most)) | _ => .no, by
  intro args p r h hp
  split at h
  · cases h; exact milli_a _ _ hp
  · cases h⟩
theorem vecOf_f : FnOk Tryz.prog 21 Tryz.f21 := ⟨Tryz.func21, by kernel_rfl⟩
theorem vecOf_a (n : Nat) (F : Nat → Int) (k most : Int) (hpre : (∀ j, In64 (F j)) ∧ 0 ≤ most ∧ most ≤ 1000000 ∧ 0 ≤ k ∧ k ≤ 1000000) : ACalls Tryz.prog 21 [ints .i64 n F, .int .i64 k, .int .i64 most] (.agg [.flt (milF (rawF n F k) most), .flt (milF (rawF n F (k + 1)) most), .flt (milF (rawF n F (k + 2)) most)]) := by
  refine acalls_of (inl := hasI (P := Tryz.prog) [] []) (base [raw_k, milli_k] [] []) 0 vecOf_f (And.intro (by kernel_rfl) ?_)
  repeat' (first | refine And.intro ?_ ?_ | (with_reducible exact ff_elim) | (with_reducible exact tf_elim) | intro _ | (with_reducible rfl) | ((with_reducible refine lk_t ?_); exact rfl) | ((with_reducible refine pf_t ?_); exact rfl) | refine tell ?_ | exact True.intro | (refine IsT.of ?_; kernel_rfl))
  all_goals obtain ⟨hF, hpre⟩ := hpre
  all_goals (try refine Tell.mk ?_)
  all_goals first | with_reducible rfl | with_reducible exact isI_mk | with_reducible assumption | (with_reducible refine gb_t ?_; with_reducible assumption) | (with_reducible refine gb_f ?_; with_reducible assumption) | ((with_reducible refine ks_t ?_); rfl) | ((with_reducible refine pk_t ?_); rfl) | ((with_reducible refine pf_t ?_); rfl) | ((with_reducible refine lk_t ?_); rfl) | ((with_reducible refine okF_t ?_); kernel_rfl) | ((with_reducible refine rawF_in ?_); assumption) | ((try simp only [in64_iff, decide_eq_true_eq, decide_eq_false_iff_not, beq_iff_eq, beq_eq_false_iff_ne, ne_eq, bne_iff_ne, intF_mk, raw_p] at *) <;> (iterate 4 (try simp (disch := omega) only [wrapI, wrapU8, wrapU32] at *)) <;> subst_vars <;> (try simp (disch := omega) only [wrapI, wrapU8, wrapU32] at *) <;> (first | with_reducible rfl | omega | (simp only [raw_p]; done) | (simp only [raw_p]; omega) | (simp [raw_p, *]; done) | grind [raw_p]))
def vecOf_r (n : Nat) (F : Nat → Int) (k most : Int) : AV := .agg [.flt (milF (rawF n F k) most), .flt (milF (rawF n F (k + 1)) most), .flt (milF (rawF n F (k + 2)) most)]
def vecOf_p (n : Nat) (F : Nat → Int) (k most : Int) : Prop := (∀ j, In64 (F j)) ∧ 0 ≤ most ∧ most ≤ 1000000 ∧ 0 ≤ k ∧ k ≤ 1000000
def vecOf_k : Con Tryz.prog := ⟨21, fun args => match args with | [.sl n 1 g_F, .int .i64 k, .int .i64 most] => .ok (some (IsI .i64 g_F ∧ vecOf_p n (intF g_F) k most)) (vecOf_r n (intF g_F) k most) | _ => .no, by
  intro args p r h hp
  split at h
  · cases h; obtain ⟨h_F, hp⟩ := hp; have e_F := h_F.eq; rw [e_F]; exact vecOf_a _ _ _ _ hp
  · cases h⟩
theorem noughtM_f : FnOk Tryz.prog 43 Tryz.f43 := ⟨Tryz.func43, by kernel_rfl⟩
theorem noughtM_a (a b c : Nat) : ACalls Tryz.prog 43 [.agg [.flt a, .flt b, .flt c]] (.bool (feq a 0 && (feq b 0 && feq c 0))) := by
  refine acalls_of (inl := hasI (P := Tryz.prog) [] []) (base [] [] []) 0 noughtM_f (And.intro (by kernel_rfl) ?_)
  repeat' (first | refine And.intro ?_ ?_ | (with_reducible exact ff_elim) | (with_reducible exact tf_elim) | intro _ | (with_reducible rfl) | ((with_reducible refine lk_t ?_); exact rfl) | ((with_reducible refine pf_t ?_); exact rfl) | refine tell ?_ | exact True.intro | (refine IsT.of ?_; kernel_rfl))
  all_goals ((try refine Tell.mk ?_); first | with_reducible rfl | ((show (_ : Int) ≤ _); decide) | ((show (_ : Int) < _); decide) | (with_reducible refine gb_t ?_; with_reducible assumption) | with_reducible assumption | (with_reducible refine gb_f ?_; with_reducible assumption) | (simp only [gb, *, cond_true, cond_false]; done) | ((with_reducible refine ks_t ?_); rfl) | ((with_reducible refine pk_t ?_); rfl) | ((with_reducible refine pf_t ?_); rfl) | ((with_reducible refine lk_t ?_); rfl) | ((with_reducible refine okF_t ?_); kernel_rfl) | grind [gb])
def noughtM_k : Con Tryz.prog := ⟨43, fun args => match args with | [.agg [.flt a, .flt b, .flt c]] => .ok (none) (.bool (feq a 0 && (feq b 0 && feq c 0))) | _ => .no, by
  intro args p r h hp
  split at h
  · cases h; exact noughtM_a _ _ _
  · cases h⟩
def ryX (n : Nat) (F : Nat → Int) (k : Int) : Nat := bif pickF (rawF n F (k + 7)) 3 == 0 then 0 else milF (rawF n F (k + 3)) 1500
def ryY (n : Nat) (F : Nat → Int) (k : Int) : Nat := bif pickF (rawF n F (k + 8)) 4 == 0 then 0 else milF (rawF n F (k + 4)) 1500
def ryZ (n : Nat) (F : Nat → Int) (k : Int) : Nat := bif feq (ryX n F k) 0 && (feq (ryY n F k) 0 && feq (milF (rawF n F (k + 5)) 1500) 0) then 4607182418800017408 else milF (rawF n F (k + 5)) 1500
theorem rayOf_f : FnOk Tryz.prog 20 Tryz.f20 := ⟨Tryz.func20, by kernel_rfl⟩
theorem rayOf_a (n : Nat) (F : Nat → Int) (k : Int) (hpre : (∀ j, In64 (F j)) ∧ 0 ≤ k ∧ k ≤ 900000) : ACalls Tryz.prog 20 [ints .i64 n F, .int .i64 k] (.agg [.flt (milF (rawF n F k) 6000), .flt (milF (rawF n F (k + 1)) 6000), .flt (milF (rawF n F (k + 2)) 6000), .flt (ryX n F k), .flt (ryY n F k), .flt (ryZ n F k), .flt (thoF (pickF (rawF n F (k + 6)) 3))]) := by
  refine acalls_of (inl := hasI (P := Tryz.prog) [] []) (base [raw_k, vecOf_k, thousandth_k, pick_k, noughtM_k] [] []) 0 rayOf_f (And.intro (by kernel_rfl) ?_)
  have w1 : IntKind.i64.wrap (k + 1) = k + 1 := wrapI (by omega) (by omega)
  have w2 : IntKind.i64.wrap (k + 2) = k + 2 := wrapI (by omega) (by omega)
  have w3 : IntKind.i64.wrap (k + 3) = k + 3 := wrapI (by omega) (by omega)
  have w4 : IntKind.i64.wrap (k + 6) = k + 6 := wrapI (by omega) (by omega)
  have w5 : IntKind.i64.wrap (k + 7) = k + 7 := wrapI (by omega) (by omega)
  have w6 : IntKind.i64.wrap (k + 8) = k + 8 := wrapI (by omega) (by omega)
  repeat' (first | refine And.intro ?_ ?_ | (with_reducible exact ff_elim) | (with_reducible exact tf_elim) | refine num_elim ?_ | intro _ | (with_reducible rfl) | ((with_reducible refine lk_t ?_); exact rfl) | ((with_reducible refine pf_t ?_); exact rfl) | refine tell ?_ | exact True.intro | (refine IsT.of ?_; kernel_rfl))
  all_goals obtain ⟨hF, hpre⟩ := hpre
  all_goals (try refine Tell.mk ?_)
  all_goals first | with_reducible rfl | with_reducible exact isI_mk | with_reducible assumption | (with_reducible refine gb_t ?_; with_reducible assumption) | (with_reducible refine gb_f ?_; with_reducible assumption) | ((with_reducible refine ks_t ?_); rfl) | ((with_reducible refine pk_t ?_); rfl) | ((with_reducible refine pf_t ?_); rfl) | ((with_reducible refine lk_t ?_); rfl) | ((with_reducible refine okF_t ?_); kernel_rfl) | ((try simp only [w1, w2, w3, w4, w5, w6, intF_mk, Int.add_assoc, Int.reduceAdd] at *) <;> first | with_reducible rfl | (simp only [ryX, ryY, ryZ, raw_p, *, cond_true, cond_false]; done) | exact rawF_in hF | exact hF _ | omega | (simp only [ryX, ryY, ryZ, raw_p]; omega) | (simp only [ryX, ryY, ryZ, raw_p] at *; omega))
def rayOf_r (n : Nat) (F : Nat → Int) (k : Int) : AV := .agg [.flt (milF (rawF n F k) 6000), .flt (milF (rawF n F (k + 1)) 6000), .flt (milF (rawF n F (k + 2)) 6000), .flt (ryX n F k), .flt (ryY n F k), .flt (ryZ n F k), .flt (thoF (pickF (rawF n F (k + 6)) 3))]
def rayOf_p (n : Nat) (F : Nat → Int) (k : Int) : Prop := (∀ j, In64 (F j)) ∧ 0 ≤ k ∧ k ≤ 900000
def rayOf_k : Con Tryz.prog := ⟨20, fun args => match args with | [.sl n 1 g_F, .int .i64 k] => .ok (some (IsI .i64 g_F ∧ rayOf_p n (intF g_F) k)) (rayOf_r n (intF g_F) k) | _ => .no, by
  intro args p r h hp
  split at h
  · cases h; obtain ⟨h_F, hp⟩ := hp; have e_F := h_F.eq; rw [e_F]; exact rayOf_a _ _ _ hp
  · cases h⟩
end Go.Proofs.YtgbcnfcgljbbgaaGreat
/- Shapes that are made of raw numbers, at any place. -/
namespace Go.Proofs.YtgbcnfcgljbbgaaGreat
open Go.RowKit Ev
set_option linter.unusedVariables false
set_option linter.unusedSimpArgs false
set_option maxRecDepth 20000
set_option maxHeartbeats 4000000

def Shp.lso (p : Shp) : List AV := [.int .i64 p.k, .flt p.a, .flt p.b, .flt p.c, .flt p.d, .flt p.e, .flt p.f, .flt p.g, .flt p.h, .flt p.i, .flt p.r, .flt p.q, .int .i64 p.s]
theorem tdiv_bo {a b : Int} (h : 0 ≤ a ∧ a < 2500) (hb : 0 ≤ b ∧ b < 3) : 0 ≤ a.tdiv (1 + b) ∧ a.tdiv (1 + b) < 2500 := by
  rw [Int.tdiv_eq_ediv_of_nonneg h.1]
  have h1 := Int.ediv_nonneg h.1 (show 0 ≤ 1 + b by omega)
  have h2 := Int.ediv_le_self (1 + b) h.1
  omega
theorem putW_f : FnOk Tryz.prog 84 Tryz.f84 := ⟨Tryz.func84, by kernel_rfl⟩
theorem putW_a (a b c x : Nat) (k : Int) (hpre : 0 ≤ k ∧ k ≤ 2) : ACalls Tryz.prog 84 [.agg [.flt a, .flt b, .flt c], .int .i64 k, .flt x] (.agg [.flt (bif k == 0 then x else a), .flt (bif k == 1 then x else b), .flt (bif k == 0 || k == 1 then c else x)]) := by
  exact put_a a b c x k hpre
def putW_k : Con Tryz.prog := ⟨84, fun args => match args with | [.agg [.flt a, .flt b, .flt c], .int .i64 k, .flt x] => .ok (some (0 ≤ k ∧ k ≤ 2)) (.agg [.flt (bif k == 0 then x else a), .flt (bif k == 1 then x else b), .flt (bif k == 0 || k == 1 then c else x)]) | _ => .no, by
  intro args p r h hp
  split at h
  · cases h; exact putW_a _ _ _ _ _ hp
  · cases h⟩
theorem siy1_f : FnOk Tryz.prog 19 Tryz.f19 := ⟨Tryz.func19, by kernel_rfl⟩
theorem siy1_a (c : Int) (hpre : In64 c ∧ pickF c 6 = 0) : ACalls Tryz.prog 19 [.int .i64 c, .int .i64 6] (.int .i64 0) := by
  have h := pick_a c 6 ⟨hpre.1, by omega, by omega⟩
  rw [hpre.2] at h
  exact h
def siy1_k : Con Tryz.prog := ⟨19, fun args => match args with | [.int .i64 c, .int .i64 6] => .ok (some (In64 c ∧ pickF c 6 = 0)) (.int .i64 0) | _ => .no, by
  intro args p r h hp
  split at h
  · cases h; exact siy1_a _ hp
  · cases h⟩
def shq1oS (n : Nat) (G : Nat → Int) (m : Int) : Shp := ⟨1, milF (rawF n G (m + 1)) 4000, milF (rawF n G (m + 1 + 1)) 4000, milF (rawF n G (m + 1 + 2)) 4000, 0, 0, 0, 0, 0, 0, thoF (1 + pickF (rawF n G (m + 8)) 2500), 0, pickF (rawF n G (m + 7)) 1⟩
theorem shq1o_f : FnOk Tryz.prog 79 Tryz.f79 := ⟨Tryz.func79, by kernel_rfl⟩
theorem shq1o_a (n : Nat) (G : Nat → Int) (m : Int) (hpre : (∀ j, In64 (G j)) ∧ (0 ≤ m ∧ m ≤ 900000) ∧ pickF (rawF n G m) 6 = 0) : ACalls Tryz.prog 79 [ints .i64 n G, .int .i64 m, .int .i64 1] (.agg (shq1oS n G m).lso) := by
  refine acalls_of (inl := hasI (P := Tryz.prog) [] []) (base [siy1_k, raw_k, vecOf_k, thousandth_k, pick_k, addR_k, putW_k, noughtM_k] [] []) 0 shq1o_f (And.intro (by kernel_rfl) ?_)
  obtain ⟨hF, hm, hk⟩ := hpre
  have h5 := pickF_bd (rawF n G (m + 5)) 3000 (by omega)
  have h5' := pickF_bd (rawF n G (m + 5)) 2000 (by omega)
  have h6 := pickF_bd (rawF n G (m + 6)) 2000 (by omega)
  have h6' := pickF_bd (rawF n G (m + 6)) 3 (by omega)
  have h8 := pickF_bd (rawF n G (m + 8)) 2500 (by omega)
  have h4 := pickF_bd (rawF n G (m + 4)) 3 (by omega)
  have hd := tdiv_bo h8 h4
  have w1 : IntKind.i64.wrap (1 + pickF (rawF n G (m + 8)) 2500) = 1 + pickF (rawF n G (m + 8)) 2500 := wrapI (by omega) (by omega)
  have w2 : IntKind.i64.wrap (1 + pickF (rawF n G (m + 5)) 3000) = 1 + pickF (rawF n G (m + 5)) 3000 := wrapI (by omega) (by omega)
  have w3 : IntKind.i64.wrap (1 + pickF (rawF n G (m + 4)) 3) = 1 + pickF (rawF n G (m + 4)) 3 := wrapI (by omega) (by omega)
  have w4 : IntKind.i64.wrap ((pickF (rawF n G (m + 8)) 2500).tdiv (1 + pickF (rawF n G (m + 4)) 3)) = (pickF (rawF n G (m + 8)) 2500).tdiv (1 + pickF (rawF n G (m + 4)) 3) := wrapI (by omega) (by omega)
  have w5 : IntKind.i64.wrap (1 + (pickF (rawF n G (m + 8)) 2500).tdiv (1 + pickF (rawF n G (m + 4)) 3)) = 1 + (pickF (rawF n G (m + 8)) 2500).tdiv (1 + pickF (rawF n G (m + 4)) 3) := wrapI (by omega) (by omega)
  have c01 : IntKind.i64.wrap (m + 1) = m + 1 := wrapI (by omega) (by omega)
  have c04 : IntKind.i64.wrap (m + 4) = m + 4 := wrapI (by omega) (by omega)
  have c05 : IntKind.i64.wrap (m + 5) = m + 5 := wrapI (by omega) (by omega)
  have c06 : IntKind.i64.wrap (m + 6) = m + 6 := wrapI (by omega) (by omega)
  have c07 : IntKind.i64.wrap (m + 7) = m + 7 := wrapI (by omega) (by omega)
  have c08 : IntKind.i64.wrap (m + 8) = m + 8 := wrapI (by omega) (by omega)
  have c09 : IntKind.i64.wrap (m + 9) = m + 9 := wrapI (by omega) (by omega)
  have c10 : IntKind.i64.wrap (1 + 0) = 1 := by decide
  have c11 : IntKind.i64.wrap (1 + 1) = 2 := by decide
  have c12 : IntKind.i64.wrap (1 + 2) = 3 := by decide
  have c13 : IntKind.i64.wrap (1 + 3) = 4 := by decide
  have c14 : IntKind.i64.wrap (1 + 4) = 5 := by decide
  have c15 : IntKind.i64.wrap (1 + 5) = 6 := by decide
  repeat' (first | refine And.intro ?_ ?_ | (with_reducible exact ff_elim) | (with_reducible exact tf_elim) | (intro hq; exact absurd hq (by decide)) | refine num_elim ?_ | intro _ | (with_reducible rfl) | ((with_reducible refine lk_t ?_); exact rfl) | ((with_reducible refine pf_t ?_); exact rfl) | refine tell ?_ | exact True.intro | (refine IsT.of ?_; kernel_rfl))
  all_goals (try refine Tell.mk ?_)
  all_goals first | with_reducible rfl | with_reducible exact isI_mk | with_reducible assumption | (with_reducible refine gb_t ?_; with_reducible assumption) | (with_reducible refine gb_f ?_; with_reducible assumption) | ((with_reducible refine ks_t ?_); rfl) | ((with_reducible refine pk_t ?_); rfl) | ((with_reducible refine pf_t ?_); rfl) | ((with_reducible refine lk_t ?_); rfl) | ((with_reducible refine okF_t ?_); kernel_rfl) | ((with_reducible refine rawF_in ?_); assumption) | skip
  all_goals (try simp only [decide_eq_true_eq, decide_eq_false_iff_not, beq_iff_eq, beq_eq_false_iff_ne, ne_eq, bne_iff_ne, intF_mk])
  all_goals (try unfold shq1oS)
  all_goals (try dsimp only)
  all_goals (try simp only [w1, w2, w3, w4, w5, c01, c04, c05, c06, c07, c08, c09, c10, c11, c12, c13, c14, c15])
  all_goals first | with_reducible rfl | omega | (simp only [raw_p]; omega) | exact hF _ | with_reducible exact rawF_in hF | (simp only [intF_mk, c04] at *; simp only [*, cond_true, cond_false]; done) | (simp only [intF_mk, c04, w3] at *; omega) | trace_state
theorem siy2_f : FnOk Tryz.prog 19 Tryz.f19 := ⟨Tryz.func19, by kernel_rfl⟩
theorem siy2_a (c : Int) (hpre : In64 c ∧ pickF c 6 = 1) : ACalls Tryz.prog 19 [.int .i64 c, .int .i64 6] (.int .i64 1) := by
  have h := pick_a c 6 ⟨hpre.1, by omega, by omega⟩
  rw [hpre.2] at h
  exact h
def siy2_k : Con Tryz.prog := ⟨19, fun args => match args with | [.int .i64 c, .int .i64 6] => .ok (some (In64 c ∧ pickF c 6 = 1)) (.int .i64 1) | _ => .no, by
  intro args p r h hp
  split at h
  · cases h; exact siy2_a _ hp
  · cases h⟩
def shq2oS (n : Nat) (G : Nat → Int) (m : Int) : Shp := ⟨2, milF (rawF n G (m + 1)) 4000, milF (rawF n G (m + 1 + 1)) 4000, milF (rawF n G (m + 1 + 2)) 4000, F .add (milF (rawF n G (m + 1)) 4000) (thoF (1 + pickF (rawF n G (m + 8)) 2500)), F .add (milF (rawF n G (m + 1 + 1)) 4000) (thoF (pickF (rawF n G (m + 5)) 2000)), F .add (milF (rawF n G (m + 1 + 2)) 4000) (thoF (pickF (rawF n G (m + 6)) 2000)), 0, 0, 0, 0, 0, pickF (rawF n G (m + 7)) 1⟩
theorem shq2o_f : FnOk Tryz.prog 79 Tryz.f79 := ⟨Tryz.func79, by kernel_rfl⟩
theorem shq2o_a (n : Nat) (G : Nat → Int) (m : Int) (hpre : (∀ j, In64 (G j)) ∧ (0 ≤ m ∧ m ≤ 900000) ∧ pickF (rawF n G m) 6 = 1) : ACalls Tryz.prog 79 [ints .i64 n G, .int .i64 m, .int .i64 1] (.agg (shq2oS n G m).lso) := by
  refine acalls_of (inl := hasI (P := Tryz.prog) [] []) (base [siy2_k, raw_k, vecOf_k, thousandth_k, pick_k, addR_k, putW_k, noughtM_k] [] []) 0 shq2o_f (And.intro (by kernel_rfl) ?_)
  obtain ⟨hF, hm, hk⟩ := hpre
  have h5 := pickF_bd (rawF n G (m + 5)) 3000 (by omega)
  have h5' := pickF_bd (rawF n G (m + 5)) 2000 (by omega)
  have h6 := pickF_bd (rawF n G (m + 6)) 2000 (by omega)
  have h6' := pickF_bd (rawF n G (m + 6)) 3 (by omega)
  have h8 := pickF_bd (rawF n G (m + 8)) 2500 (by omega)
  have h4 := pickF_bd (rawF n G (m + 4)) 3 (by omega)
  have hd := tdiv_bo h8 h4
  have w1 : IntKind.i64.wrap (1 + pickF (rawF n G (m + 8)) 2500) = 1 + pickF (rawF n G (m + 8)) 2500 := wrapI (by omega) (by omega)
  have w2 : IntKind.i64.wrap (1 + pickF (rawF n G (m + 5)) 3000) = 1 + pickF (rawF n G (m + 5)) 3000 := wrapI (by omega) (by omega)
  have w3 : IntKind.i64.wrap (1 + pickF (rawF n G (m + 4)) 3) = 1 + pickF (rawF n G (m + 4)) 3 := wrapI (by omega) (by omega)
  have w4 : IntKind.i64.wrap ((pickF (rawF n G (m + 8)) 2500).tdiv (1 + pickF (rawF n G (m + 4)) 3)) = (pickF (rawF n G (m + 8)) 2500).tdiv (1 + pickF (rawF n G (m + 4)) 3) := wrapI (by omega) (by omega)
  have w5 : IntKind.i64.wrap (1 + (pickF (rawF n G (m + 8)) 2500).tdiv (1 + pickF (rawF n G (m + 4)) 3)) = 1 + (pickF (rawF n G (m + 8)) 2500).tdiv (1 + pickF (rawF n G (m + 4)) 3) := wrapI (by omega) (by omega)
  have c01 : IntKind.i64.wrap (m + 1) = m + 1 := wrapI (by omega) (by omega)
  have c04 : IntKind.i64.wrap (m + 4) = m + 4 := wrapI (by omega) (by omega)
  have c05 : IntKind.i64.wrap (m + 5) = m + 5 := wrapI (by omega) (by omega)
  have c06 : IntKind.i64.wrap (m + 6) = m + 6 := wrapI (by omega) (by omega)
  have c07 : IntKind.i64.wrap (m + 7) = m + 7 := wrapI (by omega) (by omega)
  have c08 : IntKind.i64.wrap (m + 8) = m + 8 := wrapI (by omega) (by omega)
  have c09 : IntKind.i64.wrap (m + 9) = m + 9 := wrapI (by omega) (by omega)
  have c10 : IntKind.i64.wrap (1 + 0) = 1 := by decide
  have c11 : IntKind.i64.wrap (1 + 1) = 2 := by decide
  have c12 : IntKind.i64.wrap (1 + 2) = 3 := by decide
  have c13 : IntKind.i64.wrap (1 + 3) = 4 := by decide
  have c14 : IntKind.i64.wrap (1 + 4) = 5 := by decide
  have c15 : IntKind.i64.wrap (1 + 5) = 6 := by decide
  repeat' (first | refine And.intro ?_ ?_ | (with_reducible exact ff_elim) | (with_reducible exact tf_elim) | (intro hq; exact absurd hq (by decide)) | refine num_elim ?_ | intro _ | (with_reducible rfl) | ((with_reducible refine lk_t ?_); exact rfl) | ((with_reducible refine pf_t ?_); exact rfl) | refine tell ?_ | exact True.intro | (refine IsT.of ?_; kernel_rfl))
  all_goals (try refine Tell.mk ?_)
  all_goals first | with_reducible rfl | with_reducible exact isI_mk | with_reducible assumption | (with_reducible refine gb_t ?_; with_reducible assumption) | (with_reducible refine gb_f ?_; with_reducible assumption) | ((with_reducible refine ks_t ?_); rfl) | ((with_reducible refine pk_t ?_); rfl) | ((with_reducible refine pf_t ?_); rfl) | ((with_reducible refine lk_t ?_); rfl) | ((with_reducible refine okF_t ?_); kernel_rfl) | ((with_reducible refine rawF_in ?_); assumption) | skip
  all_goals (try simp only [decide_eq_true_eq, decide_eq_false_iff_not, beq_iff_eq, beq_eq_false_iff_ne, ne_eq, bne_iff_ne, intF_mk])
  all_goals (try unfold shq2oS)
  all_goals (try dsimp only)
  all_goals (try simp only [w1, w2, w3, w4, w5, c01, c04, c05, c06, c07, c08, c09, c10, c11, c12, c13, c14, c15])
  all_goals first | with_reducible rfl | omega | (simp only [raw_p]; omega) | exact hF _ | with_reducible exact rawF_in hF | (simp only [intF_mk, c04] at *; simp only [*, cond_true, cond_false]; done) | (simp only [intF_mk, c04, w3] at *; omega) | trace_state
theorem siy5_f : FnOk Tryz.prog 19 Tryz.f19 := ⟨Tryz.func19, by kernel_rfl⟩
theorem siy5_a (c : Int) (hpre : In64 c ∧ pickF c 6 = 4) : ACalls Tryz.prog 19 [.int .i64 c, .int .i64 6] (.int .i64 4) := by
  have h := pick_a c 6 ⟨hpre.1, by omega, by omega⟩
  rw [hpre.2] at h
  exact h
def siy5_k : Con Tryz.prog := ⟨19, fun args => match args with | [.int .i64 c, .int .i64 6] => .ok (some (In64 c ∧ pickF c 6 = 4)) (.int .i64 4) | _ => .no, by
  intro args p r h hp
  split at h
  · cases h; exact siy5_a _ hp
  · cases h⟩
def shq5oS (n : Nat) (G : Nat → Int) (m : Int) : Shp := ⟨5, milF (rawF n G (m + 1)) 4000, milF (rawF n G (m + 1 + 1)) 4000, milF (rawF n G (m + 1 + 2)) 4000, bif pickF (rawF n G (m + 6)) 3 == 0 then thoF (1 + pickF (rawF n G (m + 5)) 3000) else 0, bif pickF (rawF n G (m + 6)) 3 == 1 then thoF (1 + pickF (rawF n G (m + 5)) 3000) else 0, bif pickF (rawF n G (m + 6)) 3 == 0 || pickF (rawF n G (m + 6)) 3 == 1 then 0 else thoF (1 + pickF (rawF n G (m + 5)) 3000), 0, 0, 0, thoF (1 + pickF (rawF n G (m + 8)) 2500), 0, pickF (rawF n G (m + 7)) 1⟩
theorem shq5o_f : FnOk Tryz.prog 79 Tryz.f79 := ⟨Tryz.func79, by kernel_rfl⟩
theorem shq5o_a (n : Nat) (G : Nat → Int) (m : Int) (hpre : (∀ j, In64 (G j)) ∧ (0 ≤ m ∧ m ≤ 900000) ∧ pickF (rawF n G m) 6 = 4) : ACalls Tryz.prog 79 [ints .i64 n G, .int .i64 m, .int .i64 1] (.agg (shq5oS n G m).lso) := by
  refine acalls_of (inl := hasI (P := Tryz.prog) [] []) (base [siy5_k, raw_k, vecOf_k, thousandth_k, pick_k, addR_k, putW_k, noughtM_k] [] []) 0 shq5o_f (And.intro (by kernel_rfl) ?_)
  obtain ⟨hF, hm, hk⟩ := hpre
  have h5 := pickF_bd (rawF n G (m + 5)) 3000 (by omega)
  have h5' := pickF_bd (rawF n G (m + 5)) 2000 (by omega)
  have h6 := pickF_bd (rawF n G (m + 6)) 2000 (by omega)
  have h6' := pickF_bd (rawF n G (m + 6)) 3 (by omega)
  have h8 := pickF_bd (rawF n G (m + 8)) 2500 (by omega)
  have h4 := pickF_bd (rawF n G (m + 4)) 3 (by omega)
  have hd := tdiv_bo h8 h4
  have w1 : IntKind.i64.wrap (1 + pickF (rawF n G (m + 8)) 2500) = 1 + pickF (rawF n G (m + 8)) 2500 := wrapI (by omega) (by omega)
  have w2 : IntKind.i64.wrap (1 + pickF (rawF n G (m + 5)) 3000) = 1 + pickF (rawF n G (m + 5)) 3000 := wrapI (by omega) (by omega)
  have w3 : IntKind.i64.wrap (1 + pickF (rawF n G (m + 4)) 3) = 1 + pickF (rawF n G (m + 4)) 3 := wrapI (by omega) (by omega)
  have w4 : IntKind.i64.wrap ((pickF (rawF n G (m + 8)) 2500).tdiv (1 + pickF (rawF n G (m + 4)) 3)) = (pickF (rawF n G (m + 8)) 2500).tdiv (1 + pickF (rawF n G (m + 4)) 3) := wrapI (by omega) (by omega)
  have w5 : IntKind.i64.wrap (1 + (pickF (rawF n G (m + 8)) 2500).tdiv (1 + pickF (rawF n G (m + 4)) 3)) = 1 + (pickF (rawF n G (m + 8)) 2500).tdiv (1 + pickF (rawF n G (m + 4)) 3) := wrapI (by omega) (by omega)
  have c01 : IntKind.i64.wrap (m + 1) = m + 1 := wrapI (by omega) (by omega)
  have c04 : IntKind.i64.wrap (m + 4) = m + 4 := wrapI (by omega) (by omega)
  have c05 : IntKind.i64.wrap (m + 5) = m + 5 := wrapI (by omega) (by omega)
  have c06 : IntKind.i64.wrap (m + 6) = m + 6 := wrapI (by omega) (by omega)
  have c07 : IntKind.i64.wrap (m + 7) = m + 7 := wrapI (by omega) (by omega)
  have c08 : IntKind.i64.wrap (m + 8) = m + 8 := wrapI (by omega) (by omega)
  have c09 : IntKind.i64.wrap (m + 9) = m + 9 := wrapI (by omega) (by omega)
  have c10 : IntKind.i64.wrap (1 + 0) = 1 := by decide
  have c11 : IntKind.i64.wrap (1 + 1) = 2 := by decide
  have c12 : IntKind.i64.wrap (1 + 2) = 3 := by decide
  have c13 : IntKind.i64.wrap (1 + 3) = 4 := by decide
  have c14 : IntKind.i64.wrap (1 + 4) = 5 := by decide
  have c15 : IntKind.i64.wrap (1 + 5) = 6 := by decide
  repeat' (first | refine And.intro ?_ ?_ | (with_reducible exact ff_elim) | (with_reducible exact tf_elim) | (intro hq; exact absurd hq (by decide)) | refine num_elim ?_ | intro _ | (with_reducible rfl) | ((with_reducible refine lk_t ?_); exact rfl) | ((with_reducible refine pf_t ?_); exact rfl) | refine tell ?_ | exact True.intro | (refine IsT.of ?_; kernel_rfl))
  all_goals (try refine Tell.mk ?_)
  all_goals first | with_reducible rfl | with_reducible exact isI_mk | with_reducible assumption | (with_reducible refine gb_t ?_; with_reducible assumption) | (with_reducible refine gb_f ?_; with_reducible assumption) | ((with_reducible refine ks_t ?_); rfl) | ((with_reducible refine pk_t ?_); rfl) | ((with_reducible refine pf_t ?_); rfl) | ((with_reducible refine lk_t ?_); rfl) | ((with_reducible refine okF_t ?_); kernel_rfl) | ((with_reducible refine rawF_in ?_); assumption) | skip
  all_goals (try simp only [decide_eq_true_eq, decide_eq_false_iff_not, beq_iff_eq, beq_eq_false_iff_ne, ne_eq, bne_iff_ne, intF_mk])
  all_goals (try unfold shq5oS)
  all_goals (try dsimp only)
  all_goals (try simp only [w1, w2, w3, w4, w5, c01, c04, c05, c06, c07, c08, c09, c10, c11, c12, c13, c14, c15])
  all_goals first | with_reducible rfl | omega | (simp only [raw_p]; omega) | exact hF _ | with_reducible exact rawF_in hF | (simp only [intF_mk, c04] at *; simp only [*, cond_true, cond_false]; done) | (simp only [intF_mk, c04, w3] at *; omega) | trace_state
end Go.Proofs.YtgbcnfcgljbbgaaGreat
/- Leaves that are made of raw numbers. -/
namespace Go.Proofs.YtgbcnfcgljbbgaaGreat
open Go.RowKit Ev Flt
set_option linter.unusedVariables false
set_option linter.unusedSimpArgs false
set_option maxRecDepth 20000
set_option maxHeartbeats 4000000

theorem Q_Fneg {x : Nat} {M : Rat} (h : Q x M) : Q (Fneg x) M := by
  obtain ⟨s, m, i, e⟩ := h.fin
  have e1 := read_fneg e
  have ev : V (fneg x) = -V x := by rw [V_of e, V_of e1, signed_not]
  rw [Fneg_eq h.fin]
  refine ⟨⟨_, _, _, e1⟩, ?_⟩
  have b := h.bd
  unfold Bd at *
  have : val (fneg x) = -val x := by
    unfold val
    rw [ev, Rat.intCast_neg, Rat.div_def, Rat.div_def, Rat.neg_mul]
  rw [this]
  grind
theorem iv_1 : Iv 4607182418800017408 1 := by
  have := iv_near (z := 1) (by omega)
  rwa [show cn (FloatKind.f64.nearest 1) = 4607182418800017408 by decide +kernel] at this
theorem half_Q : Q 4602678819172646912 1 := by
  have f : Flt.Fin 4602678819172646912 := ⟨false, 4503599627370496, -53, by decide +kernel⟩
  have h1 : flt 4602678819172646912 4607182418800017408 = true := by decide +kernel
  have h2 : flt 0 4602678819172646912 = true := by decide +kernel
  rw [flt_V f iv_1.fin, decide_eq_true_eq] at h1
  rw [flt_V Fin_0 f, V_0, decide_eq_true_eq] at h2
  have e1 : val 4607182418800017408 = 1 := by rw [iv_1.eq]; rfl
  have l := val_le (Int.le_of_lt h1)
  have p := val_pos_U (Int.le_of_lt h2)
  rw [e1] at l
  refine ⟨f, ?_⟩
  unfold Bd
  constructor <;> grind
@[irreducible] def tiF (y : Nat) : Int := ((FloatKind.f64.decode y).toInt .zero).getD 0
theorem ti_some {y : Nat} {M : Int} (h : Q y (M : Rat)) (hM : 0 ≤ M) : (FloatKind.f64.decode y).toInt .zero = some (tiF y) ∧ -M ≤ tiF y ∧ tiF y ≤ M := by
  obtain ⟨z, h1, h2, h3⟩ := trunc_some h hM
  unfold tiF
  rw [h1]
  exact ⟨rfl, h2, h3⟩
def mk1 (x : Nat) : Nat := F .add (F .mul x 4652007308841189376) 4602678819172646912
theorem mk1_Q {x : Nat} (h : Q x 1000) : Q (mk1 x) ((2000000 : Int) : Rat) := by
  have q : Q 4652007308841189376 1000 := ⟨iv_1000.fin, by rw [iv_1000.eq]; unfold Bd; rw [show (((1000 : Int)) : Rat) = 1000 from rfl]; constructor <;> grind⟩
  have h1 := h.mul q (by grind)
  have h2 := h1.add half_Q (by grind)
  exact h2.le (by rw [show (((2000000 : Int)) : Rat) = 2000000 from rfl]; grind)
@[irreducible] def rndV (x : Nat) : Nat := bif flt x 0 then thoF (-(tiF (mk1 (Fneg x)))) else thoF (tiF (mk1 x))
theorem rounded_f : FnOk Tryz.prog 80 Tryz.f80 := ⟨Tryz.func80, by kernel_rfl⟩
theorem rounded_a (x : Nat) (hpre : Q x 1000) : ACalls Tryz.prog 80 [.flt x] (.flt (rndV x)) := by
  refine acalls_of (inl := hasI (P := Tryz.prog) [] []) (base [thousandth_k] [] []) 0 rounded_f (And.intro (by kernel_rfl) ?_)
  have h1 := ti_some (mk1_Q hpre) (by decide)
  have h2 := ti_some (mk1_Q (Q_Fneg hpre)) (by decide)
  unfold mk1 at h1 h2
  have m1 : IntKind.i64.min = -9223372036854775808 := rfl
  have m2 : IntKind.i64.max = 9223372036854775807 := rfl
  repeat' (first | refine And.intro ?_ ?_ | (with_reducible exact ff_elim) | (with_reducible exact tf_elim) | refine num_elim ?_ | intro _ | (with_reducible rfl) | ((with_reducible refine lk_t ?_); exact rfl) | ((with_reducible refine pf_t ?_); exact rfl) | refine tell ?_ | exact True.intro | (refine IsT.of ?_; kernel_rfl))
  all_goals (try refine Tell.mk ?_)
  all_goals first | with_reducible rfl | exact ⟨_, h1.1, by rw [m1]; omega, by rw [m2]; omega⟩ | exact ⟨_, h2.1, by rw [m1]; omega, by rw [m2]; omega⟩ | skip
  all_goals (unfold rndV mk1; rw [‹flt x 0 = _›])
  all_goals first | (rw [h1.1]; rfl) | (rw [h2.1]; simp only [cond_true, Option.getD_some]; rw [wrapI (by omega) (by omega)]; congr 1; omega)
def rounded_k : Con Tryz.prog := ⟨80, fun args => match args with | [.flt x] => .ok (some (Q x 1000)) (.flt (rndV x)) | _ => .no, by
  intro args p r h hp
  split at h
  · cases h; exact rounded_a _ hp
  · cases h⟩
@[irreducible] def leafL (n : Nat) (F : Nat → Int) (j : Nat) : Int := if j < n then F j else rawF n F j
theorem leafL_in {n : Nat} {F : Nat → Int} (h : ∀ j, In64 (F j)) (j : Nat) : In64 (leafL n F j) := by
  unfold leafL; split
  · exact h j
  · exact rawF_in h
def leafN (n : Nat) (m : Int) : Nat := max n (m.toNat + 9)
@[irreducible] def leafG (n : Nat) (F : Nat → Int) (m v : Int) (j : Nat) : Int := if j = m.toNat then v else leafL n F j
theorem leafG_in {n : Nat} {F : Nat → Int} {m v : Int} (h : ∀ j, In64 (F j)) (hv : 0 ≤ v ∧ v ≤ 4) (j : Nat) : In64 (leafG n F m v j) := by
  unfold leafG; split
  · exact ⟨by omega, by omega⟩
  · exact leafL_in h j
theorem leafG_raw {n : Nat} {F : Nat → Int} {m v : Int} (hm : 0 ≤ m) : rawF (leafN n m) (leafG n F m v) m = v := by
  unfold rawF leafN
  rw [if_neg (by omega), Nat.mod_eq_of_lt (by omega)]
  unfold leafG; rw [if_pos rfl]
theorem pick_v {v : Int} (h : 0 ≤ v ∧ v ≤ 4) : pickF v 6 = v := by
  unfold pickF; rw [if_neg (by omega)]; exact Int.emod_eq_of_lt h.1 (by omega)
theorem quo_tho {x : Nat} {M : Rat} (h : Q x M) (hM : M ≤ 1152921504606846976) : Q (F .quo x 4652007308841189376) (M / 1000 + 129) := by
  have v : val 4652007308841189376 = 1000 := by rw [iv_1000.eq]; rfl
  have v0 : V 4652007308841189376 ≠ 0 := fun e => by
    have : val 4652007308841189376 = 0 := by unfold val; rw [e, Rat.intCast_zero, Rat.div_def, Rat.zero_mul]
    rw [v] at this; exact absurd this (by decide)
  have he : (val x / 1000) * val 4652007308841189376 = val x := by rw [v]; grind
  have hn := h.nn
  have hb : Bd (val x / 1000) (M / 1000) := by
    have := h.bd
    unfold Bd at *
    grind
  exact .of (quo_err h.fin iv_1000.fin v0 he hb (by grind)) hb (by grind)
theorem tho_Q {i M : Int} (h : -M ≤ i ∧ i ≤ M) (hM : M ≤ 9007199254740991) : Q (thoF i) ((M : Rat) / 1000 + 129) := by
  unfold thoF
  refine quo_tho (nI_Q h hM) ?_
  have := Rat.intCast_le_intCast.2 hM
  rw [show (((9007199254740991 : Int)) : Rat) = 9007199254740991 from rfl] at this
  grind
theorem mil_Q {c : Int} : Q (milF c 4000) 133 := by
  have hb := pickF_bd c (2 * 4000 + 1) (by omega)
  have h := tho_Q (i := pickF c (2 * 4000 + 1) - 4000) (M := 4000) (by omega) (by omega)
  unfold milF
  exact h.le (by rw [show (((4000 : Int)) : Rat) = 4000 from rfl]; grind)
theorem quart_Q : Q 4598175219545276416 1 := by
  have f : Flt.Fin 4598175219545276416 := ⟨false, 4503599627370496, -54, by decide +kernel⟩
  have h1 : flt 4598175219545276416 4607182418800017408 = true := by decide +kernel
  have h2 : flt 0 4598175219545276416 = true := by decide +kernel
  rw [flt_V f iv_1.fin, decide_eq_true_eq] at h1
  rw [flt_V Fin_0 f, V_0, decide_eq_true_eq] at h2
  have e1 : val 4607182418800017408 = 1 := by rw [iv_1.eq]; rfl
  have l := val_le (Int.le_of_lt h1)
  have p := val_pos_U (Int.le_of_lt h2)
  rw [e1] at l
  refine ⟨f, ?_⟩
  unfold Bd
  constructor <;> grind
theorem one_Q : Q 4607182418800017408 1 := by
  refine ⟨iv_1.fin, ?_⟩
  rw [iv_1.eq]
  unfold Bd
  rw [show (((1 : Int)) : Rat) = 1 from rfl]; constructor <;> grind
def qa (c : Int) : Nat := F .mul (milF c 4000) 4598175219545276416
theorem qa_Q {c : Int} : Q (qa c) 1000 := (mil_Q.mul quart_Q (by grind)).le (by grind)
theorem rnd_Q {x : Nat} (h : Q x 262) : Q (rndV x) 400 := by
  have q : Q 4652007308841189376 1000 := ⟨iv_1000.fin, by rw [iv_1000.eq]; unfold Bd; rw [show (((1000 : Int)) : Rat) = 1000 from rfl]; constructor <;> grind⟩
  have mk : ∀ {y}, Q y 262 → Q (mk1 y) ((270000 : Int) : Rat) := fun hy =>
    ((hy.mul q (by grind)).add half_Q (by grind)).le (by rw [show (((270000 : Int)) : Rat) = 270000 from rfl]; grind)
  have h1 := ti_some (mk h) (by decide)
  have h2 := ti_some (mk (Q_Fneg h)) (by decide)
  unfold rndV
  cases flt x 0
  · exact (tho_Q ⟨h1.2.1, h1.2.2⟩ (by decide)).le (by rw [show (((270000 : Int)) : Rat) = 270000 from rfl]; grind)
  · exact (tho_Q (i := -tiF (mk1 (Fneg x))) (M := 270000) ⟨by omega, by omega⟩ (by decide)).le (by rw [show (((270000 : Int)) : Rat) = 270000 from rfl]; grind)
theorem qa_Q' {c : Int} : Q (qa c) 262 := (mil_Q.mul quart_Q (by grind)).le (by grind)
/-- The other end of a block. -/
def lfE (a x : Nat) : Nat := F .add a x
theorem lfE_Q {a x : Nat} (ha : Q a 400) (hx : Q x 130) : Q (lfE a x) 1000 := (ha.add hx (by grind)).le (by grind)
theorem leaf_0 {n : Nat} {F : Nat → Int} {j k : Nat} {P : Nat → Int} (h : j < n) : leafL n F j = catI 0 (some k) P (fun j => F j) j := by
  rw [catI_some, if_neg (Nat.not_lt_zero _), Nat.sub_zero]
  unfold leafL; rw [if_pos h]
theorem leaf_s {n i j k : Nat} {F : Nat → Int} (h : j < n + (i + 1)) : leafL n F j = catI (n + i) (some k) (leafL n F) (fun _ => rawF n F ((n + i : Nat) : Int)) j := by
  rw [catI_some]
  split
  · rfl
  · obtain rfl : j = n + i := by omega
    unfold leafL; rw [if_neg (by omega)]
theorem leaf_e {n i : Nat} {m : Int} (h1 : n + i ≤ leafN n m) (h2 : m + 9 ≤ ((n + i : Nat) : Int)) (hm : 0 ≤ m) : n + i = leafN n m := by
  unfold leafN at *; omega
theorem leaf_g (n : Nat) (F : Nat → Int) (m v : Int) : (fun j => if 0 + j = 0 + mulN m.toNat 1 then v else leafL n F (0 + j)) = leafG n F m v := by
  funext j
  unfold leafG
  rw [mulN1, Nat.zero_add, Nat.zero_add]
def leafA (p : Shp) : Shp := { p with a := rndV (F .mul p.a 4598175219545276416), b := rndV (F .mul p.b 4598175219545276416), c := rndV (F .mul p.c 4598175219545276416) }
def leafB (p : Shp) : Shp := { leafA p with d := rndV (F .add (leafA p).a (F .add p.r 4607182418800017408)), e := rndV (F .add (leafA p).b 4607182418800017408), f := rndV (F .add (leafA p).c 4602678819172646912) }
theorem zero_Q : Q 0 1 := by
  refine ⟨Fin_0, ?_⟩
  rw [val_0]
  unfold Bd
  constructor <;> grind
def shq1oC : Con Tryz.prog := ⟨79, fun args => match args with | [.sl n 1 g, .int .i64 m, .int .i64 1] => .ok (some (IsI .i64 g ∧ (∀ j, In64 (intF g j)) ∧ (0 ≤ m ∧ m ≤ 900000) ∧ pickF (rawF n (intF g) m) 6 = 0)) (.agg (shq1oS n (intF g) m).lso) | _ => .no, by
  intro args p r h hp
  split at h
  · cases h; obtain ⟨h_g, hq⟩ := hp; have e_g := h_g.eq; rw [e_g]; exact shq1o_a _ _ _ hq
  · cases h⟩
theorem trip0_f : FnOk Tryz.prog 19 Tryz.f19 := ⟨Tryz.func19, by kernel_rfl⟩
theorem trip0_a (c : Int) (hpre : In64 c ∧ pickF c 3 = 0) : ACalls Tryz.prog 19 [.int .i64 c, .int .i64 3] (.int .i64 0) := by
  have h := pick_a c 3 ⟨hpre.1, by omega, by omega⟩
  rw [hpre.2] at h
  exact h
def trip0_k : Con Tryz.prog := ⟨19, fun args => match args with | [.int .i64 c, .int .i64 3] => .ok (some (In64 c ∧ pickF c 3 = 0)) (.int .i64 0) | _ => .no, by
  intro args p r h hp
  split at h
  · cases h; exact trip0_a _ hp
  · cases h⟩
theorem leaf1_f : FnOk Tryz.prog 41 Tryz.f41 := ⟨Tryz.func41, by kernel_rfl⟩
theorem leaf1_a (n : Nat) (F : Nat → Int) (m : Int) (hpre : (∀ j, In64 (F j)) ∧ (0 ≤ m ∧ m ≤ 900000) ∧ n ≤ 1000000 ∧ pickF (leafL n F m.toNat) 3 = 0) : ACalls Tryz.prog 41 [ints .i64 n F, .int .i64 m] (.agg (leafA (shq1oS (leafN n m) (leafG n F m 0) m)).lso) := by
  refine acalls_of (inl := hasI (P := Tryz.prog) [] []) (base [raw_k, trip0_k, shq1oC, scaleR_k, rounded_k, addR_k] [] []) 0 leaf1_f (And.intro (by kernel_rfl) ?_)
  obtain ⟨hF, hm, hn, hp⟩ := hpre
  have w9 : IntKind.i64.wrap (m + 9) = m + 9 := wrapI (by omega) (by omega)
  repeat' (first | refine And.intro ?_ ?_ | (with_reducible exact ff_elim) | (with_reducible exact tf_elim) | refine num_elim ?_ | intro _ | (with_reducible rfl) | ((with_reducible refine lk_t ?_); exact rfl) | ((with_reducible refine pf_t ?_); exact rfl) | refine tell ?_ | exact True.intro | (refine IsT.of ?_; kernel_rfl))
  all_goals (try (refine loop_keep [0, 1, 4] [0] ?_; refine LoopI.mk ({i : Nat // n + i ≤ leafN n m}) (fun i => [(5, .os 1 1 0 (n + i.1))]) (fun i => [(1, .nums .i64 (n + i.1) (leafL n F))]) (fun i => leafN n m - i.1) (⟨0, by unfold leafN; omega⟩) (wk_mk [some 3, some 0] ?_) (fun ⟨i, hi⟩ => ?_)))
  repeat' (first | refine And.intro ?_ ?_ | (with_reducible exact ff_elim) | (with_reducible exact tf_elim) | refine' stp_mk [some _, some 0] (⟨i + 1, ?_⟩) ?_ ?_ | refine num_elim ?_ | intro _ | (with_reducible rfl) | ((with_reducible refine lk_t ?_); exact rfl) | ((with_reducible refine pf_t ?_); exact rfl) | refine tell ?_ | exact True.intro | (refine IsT.of ?_; kernel_rfl))
  all_goals (try refine Tell.mk ?_)
  all_goals first | with_reducible rfl | with_reducible exact isI_mk | with_reducible assumption | rfl | skip
  all_goals (try dsimp only at *)
  all_goals (try simp only [intF_mk, w9, raw_p, avInt_int, leaf_g, show (Tab.cx.ti 3).bytes = 8 from rfl] at *)
  all_goals (try simp only [decide_eq_true_eq, decide_eq_false_iff_not, Int.not_lt] at *)
  all_goals (try have hN : leafN n m ≤ 1900018 := (by unfold leafN; omega))
  all_goals first | with_reducible assumption | with_reducible exact isI_mk | rfl | omega | exact leafL_in hF _ | exact leafG_in hF (by omega) _ | exact leaf_0 (by omega) | exact leaf_s (by omega) | ((show (_ : Int) ≤ _); decide) | ((show (_ : Int) < _); decide) | (simp only [mulN1, Nat.zero_add]; first | assumption | omega) | (split <;> first | exact ⟨by omega, by omega⟩ | exact leafL_in hF _) | (unfold leafN at *; omega) | skip
  all_goals (have he := leaf_e hi (by omega) hm.1; simp only [he] at *)
  all_goals first | (rw [leafG_raw hm.1]; exact pick_v (by omega)) | exact ff_elim (show false = true from ‹((shq1oS (leafN n m) (leafG n F m 0) m).k == 2) = true›) | rfl | exact (mil_Q.mul quart_Q (by grind)).le (by grind) | exact ((rnd_Q ((mil_Q.mul quart_Q (by grind)).le (by grind))).add ((zero_Q.add one_Q (by grind)).le (N := 131) (by grind)) (by grind)).le (by grind) | exact ((rnd_Q ((mil_Q.mul quart_Q (by grind)).le (by grind))).add one_Q (by grind)).le (by grind) | exact ((rnd_Q ((mil_Q.mul quart_Q (by grind)).le (by grind))).add half_Q (by grind)).le (by grind) | trace_state
def shq2oC : Con Tryz.prog := ⟨79, fun args => match args with | [.sl n 1 g, .int .i64 m, .int .i64 1] => .ok (some (IsI .i64 g ∧ (∀ j, In64 (intF g j)) ∧ (0 ≤ m ∧ m ≤ 900000) ∧ pickF (rawF n (intF g) m) 6 = 1)) (.agg (shq2oS n (intF g) m).lso) | _ => .no, by
  intro args p r h hp
  split at h
  · cases h; obtain ⟨h_g, hq⟩ := hp; have e_g := h_g.eq; rw [e_g]; exact shq2o_a _ _ _ hq
  · cases h⟩
theorem trip1_f : FnOk Tryz.prog 19 Tryz.f19 := ⟨Tryz.func19, by kernel_rfl⟩
theorem trip1_a (c : Int) (hpre : In64 c ∧ pickF c 3 = 1) : ACalls Tryz.prog 19 [.int .i64 c, .int .i64 3] (.int .i64 1) := by
  have h := pick_a c 3 ⟨hpre.1, by omega, by omega⟩
  rw [hpre.2] at h
  exact h
def trip1_k : Con Tryz.prog := ⟨19, fun args => match args with | [.int .i64 c, .int .i64 3] => .ok (some (In64 c ∧ pickF c 3 = 1)) (.int .i64 1) | _ => .no, by
  intro args p r h hp
  split at h
  · cases h; exact trip1_a _ hp
  · cases h⟩
theorem leaf2_f : FnOk Tryz.prog 41 Tryz.f41 := ⟨Tryz.func41, by kernel_rfl⟩
theorem leaf2_a (n : Nat) (F : Nat → Int) (m : Int) (hpre : (∀ j, In64 (F j)) ∧ (0 ≤ m ∧ m ≤ 900000) ∧ n ≤ 1000000 ∧ pickF (leafL n F m.toNat) 3 = 1) : ACalls Tryz.prog 41 [ints .i64 n F, .int .i64 m] (.agg (leafB (shq2oS (leafN n m) (leafG n F m 1) m)).lso) := by
  refine acalls_of (inl := hasI (P := Tryz.prog) [] []) (base [raw_k, trip1_k, shq2oC, scaleR_k, rounded_k, addR_k] [] []) 0 leaf2_f (And.intro (by kernel_rfl) ?_)
  obtain ⟨hF, hm, hn, hp⟩ := hpre
  have w9 : IntKind.i64.wrap (m + 9) = m + 9 := wrapI (by omega) (by omega)
  repeat' (first | refine And.intro ?_ ?_ | (with_reducible exact ff_elim) | (with_reducible exact tf_elim) | refine num_elim ?_ | intro _ | (with_reducible rfl) | ((with_reducible refine lk_t ?_); exact rfl) | ((with_reducible refine pf_t ?_); exact rfl) | refine tell ?_ | exact True.intro | (refine IsT.of ?_; kernel_rfl))
  all_goals (try (refine loop_keep [0, 1, 4] [0] ?_; refine LoopI.mk ({i : Nat // n + i ≤ leafN n m}) (fun i => [(5, .os 1 1 0 (n + i.1))]) (fun i => [(1, .nums .i64 (n + i.1) (leafL n F))]) (fun i => leafN n m - i.1) (⟨0, by unfold leafN; omega⟩) (wk_mk [some 3, some 0] ?_) (fun ⟨i, hi⟩ => ?_)))
  repeat' (first | refine And.intro ?_ ?_ | (with_reducible exact ff_elim) | (with_reducible exact tf_elim) | refine' stp_mk [some _, some 0] (⟨i + 1, ?_⟩) ?_ ?_ | refine num_elim ?_ | intro _ | (with_reducible rfl) | ((with_reducible refine lk_t ?_); exact rfl) | ((with_reducible refine pf_t ?_); exact rfl) | refine tell ?_ | exact True.intro | (refine IsT.of ?_; kernel_rfl))
  all_goals (try refine Tell.mk ?_)
  all_goals first | with_reducible rfl | with_reducible exact isI_mk | with_reducible assumption | rfl | skip
  all_goals (try dsimp only at *)
  all_goals (try simp only [intF_mk, w9, raw_p, avInt_int, leaf_g, show (Tab.cx.ti 3).bytes = 8 from rfl] at *)
  all_goals (try simp only [decide_eq_true_eq, decide_eq_false_iff_not, Int.not_lt] at *)
  all_goals (try have hN : leafN n m ≤ 1900018 := (by unfold leafN; omega))
  all_goals first | with_reducible assumption | with_reducible exact isI_mk | rfl | omega | exact leafL_in hF _ | exact leafG_in hF (by omega) _ | exact leaf_0 (by omega) | exact leaf_s (by omega) | ((show (_ : Int) ≤ _); decide) | ((show (_ : Int) < _); decide) | (simp only [mulN1, Nat.zero_add]; first | assumption | omega) | (split <;> first | exact ⟨by omega, by omega⟩ | exact leafL_in hF _) | (unfold leafN at *; omega) | skip
  all_goals (have he := leaf_e hi (by omega) hm.1; simp only [he] at *)
  all_goals first | (rw [leafG_raw hm.1]; exact pick_v (by omega)) | exact tf_elim (show true = false from ‹((shq2oS (leafN n m) (leafG n F m 1) m).k == 2) = false›) | rfl | exact (mil_Q.mul quart_Q (by grind)).le (by grind) | exact ((rnd_Q ((mil_Q.mul quart_Q (by grind)).le (by grind))).add ((zero_Q.add one_Q (by grind)).le (N := 131) (by grind)) (by grind)).le (by grind) | exact ((rnd_Q ((mil_Q.mul quart_Q (by grind)).le (by grind))).add one_Q (by grind)).le (by grind) | exact ((rnd_Q ((mil_Q.mul quart_Q (by grind)).le (by grind))).add half_Q (by grind)).le (by grind) | trace_state
def shq5oC : Con Tryz.prog := ⟨79, fun args => match args with | [.sl n 1 g, .int .i64 m, .int .i64 1] => .ok (some (IsI .i64 g ∧ (∀ j, In64 (intF g j)) ∧ (0 ≤ m ∧ m ≤ 900000) ∧ pickF (rawF n (intF g) m) 6 = 4)) (.agg (shq5oS n (intF g) m).lso) | _ => .no, by
  intro args p r h hp
  split at h
  · cases h; obtain ⟨h_g, hq⟩ := hp; have e_g := h_g.eq; rw [e_g]; exact shq5o_a _ _ _ hq
  · cases h⟩
theorem trip2_f : FnOk Tryz.prog 19 Tryz.f19 := ⟨Tryz.func19, by kernel_rfl⟩
theorem trip2_a (c : Int) (hpre : In64 c ∧ pickF c 3 = 2) : ACalls Tryz.prog 19 [.int .i64 c, .int .i64 3] (.int .i64 2) := by
  have h := pick_a c 3 ⟨hpre.1, by omega, by omega⟩
  rw [hpre.2] at h
  exact h
def trip2_k : Con Tryz.prog := ⟨19, fun args => match args with | [.int .i64 c, .int .i64 3] => .ok (some (In64 c ∧ pickF c 3 = 2)) (.int .i64 2) | _ => .no, by
  intro args p r h hp
  split at h
  · cases h; exact trip2_a _ hp
  · cases h⟩
theorem leaf5_f : FnOk Tryz.prog 41 Tryz.f41 := ⟨Tryz.func41, by kernel_rfl⟩
theorem leaf5_a (n : Nat) (F : Nat → Int) (m : Int) (hpre : (∀ j, In64 (F j)) ∧ (0 ≤ m ∧ m ≤ 900000) ∧ n ≤ 1000000 ∧ pickF (leafL n F m.toNat) 3 = 2) : ACalls Tryz.prog 41 [ints .i64 n F, .int .i64 m] (.agg (leafA (shq5oS (leafN n m) (leafG n F m 4) m)).lso) := by
  refine acalls_of (inl := hasI (P := Tryz.prog) [] []) (base [raw_k, trip2_k, shq5oC, scaleR_k, rounded_k, addR_k] [] []) 0 leaf5_f (And.intro (by kernel_rfl) ?_)
  obtain ⟨hF, hm, hn, hp⟩ := hpre
  have w9 : IntKind.i64.wrap (m + 9) = m + 9 := wrapI (by omega) (by omega)
  repeat' (first | refine And.intro ?_ ?_ | (with_reducible exact ff_elim) | (with_reducible exact tf_elim) | refine num_elim ?_ | intro _ | (with_reducible rfl) | ((with_reducible refine lk_t ?_); exact rfl) | ((with_reducible refine pf_t ?_); exact rfl) | refine tell ?_ | exact True.intro | (refine IsT.of ?_; kernel_rfl))
  all_goals (try (refine loop_keep [0, 1, 4] [0] ?_; refine LoopI.mk ({i : Nat // n + i ≤ leafN n m}) (fun i => [(5, .os 1 1 0 (n + i.1))]) (fun i => [(1, .nums .i64 (n + i.1) (leafL n F))]) (fun i => leafN n m - i.1) (⟨0, by unfold leafN; omega⟩) (wk_mk [some 3, some 0] ?_) (fun ⟨i, hi⟩ => ?_)))
  repeat' (first | refine And.intro ?_ ?_ | (with_reducible exact ff_elim) | (with_reducible exact tf_elim) | refine' stp_mk [some _, some 0] (⟨i + 1, ?_⟩) ?_ ?_ | refine num_elim ?_ | intro _ | (with_reducible rfl) | ((with_reducible refine lk_t ?_); exact rfl) | ((with_reducible refine pf_t ?_); exact rfl) | refine tell ?_ | exact True.intro | (refine IsT.of ?_; kernel_rfl))
  all_goals (try refine Tell.mk ?_)
  all_goals first | with_reducible rfl | with_reducible exact isI_mk | with_reducible assumption | rfl | skip
  all_goals (try dsimp only at *)
  all_goals (try simp only [intF_mk, w9, raw_p, avInt_int, leaf_g, show (Tab.cx.ti 3).bytes = 8 from rfl] at *)
  all_goals (try simp only [decide_eq_true_eq, decide_eq_false_iff_not, Int.not_lt] at *)
  all_goals (try have hN : leafN n m ≤ 1900018 := (by unfold leafN; omega))
  all_goals first | with_reducible assumption | with_reducible exact isI_mk | rfl | omega | exact leafL_in hF _ | exact leafG_in hF (by omega) _ | exact leaf_0 (by omega) | exact leaf_s (by omega) | ((show (_ : Int) ≤ _); decide) | ((show (_ : Int) < _); decide) | (simp only [mulN1, Nat.zero_add]; first | assumption | omega) | (split <;> first | exact ⟨by omega, by omega⟩ | exact leafL_in hF _) | (unfold leafN at *; omega) | skip
  all_goals (have he := leaf_e hi (by omega) hm.1; simp only [he] at *)
  all_goals first | (rw [leafG_raw hm.1]; exact pick_v (by omega)) | exact ff_elim (show false = true from ‹((shq5oS (leafN n m) (leafG n F m 4) m).k == 2) = true›) | rfl | exact (mil_Q.mul quart_Q (by grind)).le (by grind) | exact ((rnd_Q ((mil_Q.mul quart_Q (by grind)).le (by grind))).add ((zero_Q.add one_Q (by grind)).le (N := 131) (by grind)) (by grind)).le (by grind) | exact ((rnd_Q ((mil_Q.mul quart_Q (by grind)).le (by grind))).add one_Q (by grind)).le (by grind) | exact ((rnd_Q ((mil_Q.mul quart_Q (by grind)).le (by grind))).add half_Q (by grind)).le (by grind) | trace_state
def leafO (n : Nat) (F : Nat → Int) (m : Int) : Shp := if pickF (leafL n F m.toNat) 3 = 0 then leafA (shq1oS (leafN n m) (leafG n F m 0) m) else if pickF (leafL n F m.toNat) 3 = 1 then leafB (shq2oS (leafN n m) (leafG n F m 1) m) else leafA (shq5oS (leafN n m) (leafG n F m 4) m)
theorem leafOf_f : FnOk Tryz.prog 41 Tryz.f41 := ⟨Tryz.func41, by kernel_rfl⟩
theorem leafOf_a (n : Nat) (F : Nat → Int) (m : Int) (hpre : (∀ j, In64 (F j)) ∧ (0 ≤ m ∧ m ≤ 900000) ∧ n ≤ 1000000) : ACalls Tryz.prog 41 [ints .i64 n F, .int .i64 m] (.agg (leafO n F m).lso) := by
  obtain ⟨h1, h2, h3⟩ := hpre
  have hb := pickF_bd (leafL n F m.toNat) 3 (by omega)
  have hc : pickF (leafL n F m.toNat) 3 = 0 ∨ pickF (leafL n F m.toNat) 3 = 1 ∨ pickF (leafL n F m.toNat) 3 = 2 := by omega
  unfold leafO
  rcases hc with h | h | h
  · rw [if_pos h]; exact leaf1_a n F m ⟨h1, h2, h3, h⟩
  · rw [if_neg (by omega), if_pos h]; exact leaf2_a n F m ⟨h1, h2, h3, h⟩
  · rw [if_neg (by omega), if_neg (by omega)]; exact leaf5_a n F m ⟨h1, h2, h3, h⟩
def leafOf_r (n : Nat) (F : Nat → Int) (m : Int) : AV := .agg (leafO n F m).lso
def leafOf_p (n : Nat) (F : Nat → Int) (m : Int) : Prop := (∀ j, In64 (F j)) ∧ (0 ≤ m ∧ m ≤ 900000) ∧ n ≤ 1000000
def leafOf_k : Con Tryz.prog := ⟨41, fun args => match args with | [.sl n 1 g_F, .int .i64 m] => .ok (some (IsI .i64 g_F ∧ leafOf_p n (intF g_F) m)) (leafOf_r n (intF g_F) m) | _ => .no, by
  intro args p r h hp
  split at h
  · cases h; obtain ⟨h_F, hp⟩ := hp; have e_F := h_F.eq; rw [e_F]; exact leafOf_a _ _ _ hp
  · cases h⟩
end Go.Proofs.YtgbcnfcgljbbgaaGreat
/- Solids that are made of raw numbers. -/
namespace Go.Proofs.YtgbcnfcgljbbgaaGreat
open Go.RowKit Ev
set_option linter.unusedVariables false
set_option linter.unusedSimpArgs false
set_option maxRecDepth 20000
set_option maxHeartbeats 4000000

/-- Parts so far, and what is left over so far. -/
structure St where
  np : Nat
  P : Nat → Prt
  m : Nat
  G : Nat → Int
def zShp : Shp := ⟨0, 0, 0, 0, 0, 0, 0, 0, 0, 0, 0, 0, 0⟩
def St.push (s : St) (x : Shp) : St := ⟨s.np + 1, fun j => if j = s.np then ⟨0, 0, 0, x⟩ else s.P j, s.m + 1, fun j => if j = s.m then (s.np : Int) else s.G j⟩
def St.red (op : Int) (s : St) : St := ⟨s.np + 1, fun j => if j = s.np then ⟨op, s.G (s.m - 2), s.G (s.m - 1), zShp⟩ else s.P j, s.m - 1, fun j => if j = s.m - 2 then (s.np : Int) else s.G j⟩
def redK (op : Int) : Nat → St → St
  | 0, s => s
  | k + 1, s => (redK op k s).red op
theorem redK_s (op : Int) (k : Nat) (s : St) : redK op (k + 1) s = (redK op k s).red op := rfl
theorem redK_0 (op : Int) (s : St) : redK op 0 s = s := rfl
theorem redK_m (op : Int) : ∀ (k : Nat) (s : St), (redK op k s).m = s.m - k ∧ (redK op k s).np = s.np + k
  | 0, s => ⟨rfl, rfl⟩
  | k + 1, s => by
    obtain ⟨h1, h2⟩ := redK_m op k s
    constructor
    · show (redK op k s).m - 1 = _; rw [h1]; omega
    · show (redK op k s).np + 1 = _; rw [h2]; omega
/-- How many parts are combined behind leaf i. -/
def soN (n : Nat) (F : Nat → Int) (m : Int) : Int := 1 + pickF (rawF n F (m + 1)) 4
def soC (n : Nat) (F : Nat → Int) (m : Int) (i : Nat) : Bool := (i : Int) == soN n F m - 1 || pickF (rawF n F (m + i)) 2 == 0
def soO (n : Nat) (F : Nat → Int) (m : Int) (i : Nat) : Int := 1 + pickF (rawF n F (m + 3 + i)) 3
def soL (n : Nat) (F : Nat → Int) (m : Int) (i : Nat) (s : St) : St := s.push (leafO n F (m + 2 + 9 * i))
def soK (n : Nat) (F : Nat → Int) (m : Int) (i : Nat) (s : St) : Nat := bif soC n F m i then s.m - 1 else 0
def so (n : Nat) (F : Nat → Int) (m : Int) : Nat → St
  | 0 => ⟨0, fun _ => ⟨0, 0, 0, zShp⟩, 0, fun _ => 0⟩
  | i + 1 => redK (soO n F m i) (soK n F m i (soL n F m i (so n F m i))) (soL n F m i (so n F m i))
theorem so_0 (n : Nat) (F : Nat → Int) (m : Int) : (so n F m 0).m = 0 ∧ (so n F m 0).np = 0 := ⟨rfl, rfl⟩
theorem so_s (n : Nat) (F : Nat → Int) (m : Int) (i : Nat) : so n F m (i + 1) = redK (soO n F m i) (soK n F m i (soL n F m i (so n F m i))) (soL n F m i (so n F m i)) := rfl
theorem so_bd (n : Nat) (F : Nat → Int) (m : Int) : ∀ i, (so n F m i).m ≤ i ∧ (so n F m i).np + (so n F m i).m ≤ 2 * i
  | 0 => ⟨Nat.le_refl _, Nat.le_refl _⟩
  | i + 1 => by
    obtain ⟨h1, h2⟩ := so_bd n F m i
    rw [so_s]
    obtain ⟨g1, g2⟩ := redK_m (soO n F m i) (soK n F m i (soL n F m i (so n F m i))) (soL n F m i (so n F m i))
    have e1 : (soL n F m i (so n F m i)).m = (so n F m i).m + 1 := rfl
    have e2 : (soL n F m i (so n F m i)).np = (so n F m i).np + 1 := rfl
    have e3 : soK n F m i (soL n F m i (so n F m i)) ≤ (so n F m i).m := by
      unfold soK; cases soC n F m i <;> simp [e1]
    rw [g1, g2, e1, e2]
    omega
attribute [irreducible] redK so soC
structure UpS (n : Nat) where
  v : Nat
  le : v ≤ n
structure UpR (n : Nat) where
  v : Nat
  le : v ≤ n
theorem red_m (op : Int) (s : St) : (s.red op).m = s.m - 1 := rfl
theorem red_np (op : Int) (s : St) : (s.red op).np = s.np + 1 := rfl
theorem soL_m (n : Nat) (F : Nat → Int) (m : Int) (i : Nat) (s : St) : (soL n F m i s).m = s.m + 1 := rfl
theorem soL_np (n : Nat) (F : Nat → Int) (m : Int) (i : Nat) (s : St) : (soL n F m i s).np = s.np + 1 := rfl
theorem part_app {P : Nat → Prt} {np j : Nat} {x : Prt} (hj : j < (np + 1) * 16) : partF (fun j => if j = np then x else P j) j = catA (np * 16) (partF P) (fun j => x.row.getD (0 + j) .any) j := by
  unfold catA
  split
  · rename_i h
    unfold partF
    dsimp only
    rw [if_neg (by omega)]
  · rename_i h
    unfold partF
    dsimp only
    have e1 : j / 16 = np := by omega
    have e2 : j % 16 = 0 + (j - np * 16) := by omega
    rw [e1, if_pos rfl, e2]
    have hc : 0 + (j - np * 16) < 16 := by omega
    generalize 0 + (j - np * 16) = c at hc
    match c, hc with
    | 0, _ => rfl
    | 1, _ => rfl
    | 2, _ => rfl
    | 3, _ => rfl
    | 4, _ => rfl
    | 5, _ => rfl
    | 6, _ => rfl
    | 7, _ => rfl
    | 8, _ => rfl
    | 9, _ => rfl
    | 10, _ => rfl
    | 11, _ => rfl
    | 12, _ => rfl
    | 13, _ => rfl
    | 14, _ => rfl
    | 15, _ => rfl
    | c + 16, h => omega
theorem part_app1 {P : Nat → Prt} {np j : Nat} {x : Prt} (hj : j < (np + 1) * 16) : partF (fun j => if j = np then x else P j) j = catA (np * 16) (partF P) (fun j => x.row.getD j .any) j := by
  have := part_app (P := P) (x := x) hj
  simp only [Nat.zero_add] at this
  exact this
theorem num_app {G : Nat → Int} {m j k : Nat} {v : Int} (hj : j < m + 1) : (fun j => if j = m then v else G j) j = catI m (some k) G (fun _ => v) j := by
  rw [catI_some]
  dsimp only
  by_cases h : j < m
  · rw [if_pos h, if_neg (by omega)]
  · rw [if_neg h, if_pos (by omega)]
theorem so_end {n : Nat} {F : Nat → Int} {m : Int} {i t : Nat} (ht : t ≤ soK n F m i (soL n F m i (so n F m i))) (h : soC n F m i = true → (redK (soO n F m i) t (soL n F m i (so n F m i))).m ≤ 1) : redK (soO n F m i) t (soL n F m i (so n F m i)) = so n F m (i + 1) := by
  rw [so_s]
  congr 1
  unfold soK at *
  cases hc : soC n F m i
  · rw [hc] at ht; simpa using ht
  · rw [hc] at ht
    have h1 := h hc
    rw [(redK_m _ _ _).1] at h1
    simp only [cond_true] at *
    rw [soL_m] at *
    omega
theorem so_more {n : Nat} {F : Nat → Int} {m : Int} {i t : Nat} (hc : soC n F m i = true) (h : 1 < (redK (soO n F m i) t (soL n F m i (so n F m i))).m) : t + 1 ≤ soK n F m i (soL n F m i (so n F m i)) := by
  unfold soK
  rw [hc, (redK_m _ _ _).1] at *
  simp only [cond_true]
  omega
theorem soK_le {n : Nat} {F : Nat → Int} {m : Int} {i : Nat} {s : St} : soK n F m i s ≤ s.m - 1 := by
  unfold soK; cases soC n F m i <;> simp
theorem solidOf0_f : FnOk Tryz.prog 18 Tryz.f18 := ⟨Tryz.func18, by kernel_rfl⟩
theorem solidOf0_a (n : Nat) (F : Nat → Int) (m sk : Int) (hpre : (∀ j, In64 (F j)) ∧ (0 ≤ m ∧ m ≤ 800000) ∧ n ≤ 1000000 ∧ 1 ≤ sk ∧ sk ≤ 16) : ACalls Tryz.prog 18 [ints .i64 n F, .int .i64 m, .int .i64 sk] (.agg [.sl (so n F m (soN n F m).toNat).np 16 (partF (so n F m (soN n F m).toNat).P), .int .i64 (pickF (rawF n F m) sk)]) := by
  refine acalls_of (inl := hasI (P := Tryz.prog) [] []) (base [raw_k, pick_k, leafOf_k] [] []) 0 solidOf0_f (And.intro (by kernel_rfl) ?_)
  obtain ⟨hF, hm, hn, hs⟩ := hpre
  have hN := pickF_bd (rawF n F (m + 1)) 4 (by omega)
  have w1 : IntKind.i64.wrap (m + 1) = m + 1 := wrapI (by omega) (by omega)
  repeat' (first | refine And.intro ?_ ?_ | (with_reducible exact ff_elim) | (with_reducible exact tf_elim) | refine num_elim ?_ | intro _ | (with_reducible rfl) | ((with_reducible refine lk_t ?_); exact rfl) | ((with_reducible refine pf_t ?_); exact rfl) | refine tell ?_ | exact True.intro | (refine IsT.of ?_; kernel_rfl))
  all_goals (try (refine loop_keep [0, 1, 6, 7, 8] [0] ?_; refine LoopI.mk (UpS (soN n F m).toNat) (fun i => [(10, .int .i64 i.v), (9, .os 2 1 0 (so n F m i.v).m)]) (fun i => [(7, .row [.os 1 16 0 (so n F m i.v).np, .int .i64 (pickF (rawF n F m) sk)]), (1, .arr ((so n F m i.v).np * 16) (partF (so n F m i.v).P)), (2, .nums .i64 (so n F m i.v).m (so n F m i.v).G)]) (fun i => (soN n F m).toNat - i.v) (⟨0, Nat.zero_le _⟩) (wk_mk [some 7, none, none, some 0] ?_) (fun ⟨i, hi⟩ => ?_)))
  repeat' (first | refine And.intro ?_ ?_ | (with_reducible exact ff_elim) | (with_reducible exact tf_elim) | refine' stp_mk [some 7, some _, some _, some 0] ((⟨i + 1, ?_⟩ : UpS (soN n F m).toNat)) ?_ ?_ | refine num_elim ?_ | intro _ | (with_reducible rfl) | ((with_reducible refine lk_t ?_); exact rfl) | ((with_reducible refine pf_t ?_); exact rfl) | refine tell ?_ | exact True.intro | (refine IsT.of ?_; kernel_rfl))
  all_goals (try (refine loop_keep [0, 1, 6, 7, 8, 10] [0] ?_; refine LoopI.mk (UpR (soK n F m i (soL n F m i (so n F m i)))) (fun t => [(9, .os 2 1 0 (redK (soO n F m i) t.v (soL n F m i (so n F m i))).m)]) (fun t => [(7, .row [.os 1 16 0 (redK (soO n F m i) t.v (soL n F m i (so n F m i))).np, .int .i64 (pickF (rawF n F m) sk)]), (1, .arr ((redK (soO n F m i) t.v (soL n F m i (so n F m i))).np * 16) (partF (redK (soO n F m i) t.v (soL n F m i (so n F m i))).P)), (2, .nums .i64 (redK (soO n F m i) t.v (soL n F m i (so n F m i))).m (redK (soO n F m i) t.v (soL n F m i (so n F m i))).G)]) (fun t => (soL n F m i (so n F m i)).m - t.v) (⟨0, Nat.zero_le _⟩) (wk_mk [some 7, some 32, some 41, some 0] ?_) (fun ⟨t, ht⟩ => ?_)))
  repeat' (first | refine And.intro ?_ ?_ | (with_reducible exact ff_elim) | (with_reducible exact tf_elim) | refine' stp_mk [some 7, some _, some _, some 0] ((⟨t + 1, ?_⟩ : UpR (soK n F m i (soL n F m i (so n F m i))))) ?_ ?_ | refine' stp_mk [some 7, some _, some _, some 0] (⟨i + 1, ?_⟩ : UpS (soN n F m).toNat) ?_ ?_ | refine num_elim ?_ | intro _ | (with_reducible rfl) | ((with_reducible refine lk_t ?_); exact rfl) | ((with_reducible refine pf_t ?_); exact rfl) | refine tell ?_ | exact True.intro | (refine IsT.of ?_; kernel_rfl))
  all_goals (try refine Tell.mk ?_)
  all_goals first | with_reducible rfl | with_reducible exact isI_mk | with_reducible assumption | rfl | skip
  all_goals (have hso : 1 ≤ soN n F m ∧ soN n F m ≤ 4 := (by unfold soN; omega))
  all_goals (try dsimp only at *)
  all_goals (try simp only [intF_mk, raw_p, avInt_int, lenN_none, redK_s, redK_0, show (Tab.cx.ti 3).bytes = 8 from rfl, show (Tab.cx.ti 61).size = 16 from rfl, show (Tab.cx.ti 61).bytes = 128 from rfl] at *)
  all_goals first | omega | exact hF _ | exact rawF_in hF | ((show (_ : Int) ≤ _); decide) | ((show (_ : Nat) ≤ _); decide) | skip
  all_goals first | exact (so_0 n F m).1 | exact (so_0 n F m).2 | (show (so n F m 0).np * 16 = 0; rw [(so_0 n F m).2]; done) | (show (so n F m 0).m = 0; exact (so_0 n F m).1) | skip
  all_goals (have sb := so_bd n F m i)
  all_goals (have w2 : IntKind.i64.wrap (m + 2) = m + 2 := wrapI (by omega) (by omega); have w3 : IntKind.i64.wrap (m + 3) = m + 3 := wrapI (by omega) (by omega); have w4 : IntKind.i64.wrap (1 + pickF (rawF n F (m + 1)) 4) = soN n F m := (by unfold soN; exact wrapI (by omega) (by omega)); have w5 : IntKind.i64.wrap (9 * (i : Int)) = 9 * i := wrapI (by omega) (by omega); have w6 : IntKind.i64.wrap (m + 2 + 9 * (i : Int)) = m + 2 + 9 * i := wrapI (by omega) (by omega); have w7 : IntKind.i64.wrap (m + (i : Int)) = m + i := wrapI (by omega) (by omega); have w8 : IntKind.i64.wrap (m + 3 + (i : Int)) = m + 3 + i := wrapI (by omega) (by omega); have w9 : IntKind.i64.wrap (soN n F m - 1) = soN n F m - 1 := wrapI (by omega) (by omega))
  all_goals (have wa : IntKind.i64.wrap (1 + pickF (rawF n F (m + 3 + (i : Int))) 3) = soO n F m i := (by have := pickF_bd (rawF n F (m + 3 + (i : Int))) 3 (by omega); unfold soO; exact wrapI (by omega) (by omega)))
  all_goals (have hsc : ((i : Int) == soN n F m - 1 || pickF (rawF n F (m + (i : Int))) 2 == 0) = soC n F m i := (by unfold soC; rfl))
  all_goals (try simp only [w1, w2, w3, w4, w5, w6, w7, w8, w9, wa, hsc] at *)
  all_goals (have l1 := soL_m n F m i (so n F m i); have l2 := soL_np n F m i (so n F m i); have wb : IntKind.i64.wrap ((((so n F m i).np + 1 : Nat) : Int) - 1) = ((so n F m i).np : Int) := (by rw [wrapI (by omega) (by omega)]; omega); have wc : IntKind.i64.wrap ((i : Int) + 1) = ((i + 1 : Nat) : Int) := (by rw [wrapI (by omega) (by omega)]; omega))
  all_goals (try simp only [wb, wc] at *)
  all_goals first | omega | with_reducible assumption | (show 0 + 1 * 16 ≤ 16; decide) | exact part_app (by omega) | exact num_app (by omega) | skip
  all_goals (first | (have r1 := (redK_m (soO n F m i) t (soL n F m i (so n F m i))).1; have r2 := (redK_m (soO n F m i) t (soL n F m i (so n F m i))).2; have r3 := soK_le (n := n) (F := F) (m := m) (i := i) (s := soL n F m i (so n F m i))) | skip)
  all_goals first | (have re := so_end (n := n) (F := F) (m := m) (i := i) ht (fun hc => by simp only [hc, Bool.and_true, decide_eq_false_iff_not] at *; omega); rw [← re]; first | done | rfl | exact Nat.le_refl _) | skip
  all_goals first | (with_reducible refine gb_t ?_; with_reducible assumption) | with_reducible assumption | (unfold gb at *; with_reducible assumption) | skip
  all_goals (try simp only [Bool.and_eq_true, decide_eq_true_eq, decide_eq_false_iff_not, gt_iff_lt] at *)
  all_goals first | omega | (have ei : i = (soN n F m).toNat := (by omega); subst ei; first | rfl | (rw [Nat.zero_add]; done)) | skip
  all_goals first | exact ⟨by assumption, gb_f (by assumption)⟩ | skip
  all_goals (have hc : soC n F m i = true := (by first | exact (‹_ ∧ soC n F m i = true›).2 | assumption); have h1 : 1 < (redK (soO n F m i) t (soL n F m i (so n F m i))).m := (by first | (have := (‹_ ∧ soC n F m i = true›).1; omega) | omega))
  all_goals (have sm := so_more hc h1; have wd : IntKind.i64.wrap (((redK (soO n F m i) t (soL n F m i (so n F m i))).m : Int) - 2) = ((redK (soO n F m i) t (soL n F m i (so n F m i))).m : Int) - 2 := wrapI (by omega) (by omega); have we : IntKind.i64.wrap (((redK (soO n F m i) t (soL n F m i (so n F m i))).m : Int) - 1) = ((redK (soO n F m i) t (soL n F m i (so n F m i))).m : Int) - 1 := wrapI (by omega) (by omega))
  all_goals (have wf : (((redK (soO n F m i) t (soL n F m i (so n F m i))).m : Int) - 2).toNat = (redK (soO n F m i) t (soL n F m i (so n F m i))).m - 2 := (by omega); have wg : (((redK (soO n F m i) t (soL n F m i (so n F m i))).m : Int) - 1).toNat = (redK (soO n F m i) t (soL n F m i (so n F m i))).m - 1 := (by omega); have wh : IntKind.i64.wrap ((((redK (soO n F m i) t (soL n F m i (so n F m i))).np + 1 : Nat) : Int) - 1) = ((redK (soO n F m i) t (soL n F m i (so n F m i))).np : Int) := (by rw [wrapI (by omega) (by omega)]; omega))
  all_goals (try simp only [wd, we, wf, wg, wh, mulN1, Nat.zero_add, red_m, red_np])
  all_goals first | omega | exact part_app1 (by assumption) | exact num_app (by rw [red_m] at *; omega) | skip
def solO (n : Nat) (F : Nat → Int) (m : Int) : St := so n F m (soN n F m).toNat
def solidOf_k : Con Tryz.prog := ⟨18, fun args => match args with | [.sl n 1 g, .int .i64 m, .int .i64 sk] => .ok (some (IsI .i64 g ∧ (∀ j, In64 (intF g j)) ∧ (0 ≤ m ∧ m ≤ 800000) ∧ n ≤ 1000000 ∧ 1 ≤ sk ∧ sk ≤ 16)) (.agg [.sl (solO n (intF g) m).np 16 (partF (solO n (intF g) m).P), .int .i64 (pickF (rawF n (intF g) m) sk)]) | _ => .no, by
  intro args p r h hp
  split at h
  · cases h; obtain ⟨h_g, hq⟩ := hp; have e_g := h_g.eq; rw [e_g]; exact solidOf0_a _ _ _ _ hq
  · cases h⟩
end Go.Proofs.YtgbcnfcgljbbgaaGreat
/- The law of solids that are made of raw numbers. -/
namespace Go.Proofs.YtgbcnfcgljbbgaaGreat
open Go.RowKit Ev Flt
set_option linter.unusedVariables false
set_option linter.unusedSimpArgs false
set_option maxRecDepth 20000
set_option maxHeartbeats 4000000

def solidSays_k : Con Tryz.prog := ⟨3, fun args => match args with
    | [.agg [.sl n 16 g, .int .i64 s], .agg [.flt a0, .flt a1, .flt a2, .flt a3, .flt a4, .flt a5, .flt a6], .agg [.flt t, .int .i64 l, .bool u], .agg [.flt x, .flt y, .flt z]] => .ok (some (∃ P, g = partF P)) (.bool true)
    | _ => .no, by
  intro args p r h hp
  split at h
  · cases h
    obtain ⟨P, rfl⟩ := hp
    exact solidSays_a _ P _ ⟨_, _, _, _, _, _, _⟩ _ _ _ _ _ _
  · cases h⟩
theorem solO_np (n : Nat) (F : Nat → Int) (m : Int) : 1 ≤ (solO n F m).np ∧ (solO n F m).np ≤ 8 := by
  have h4 := pickF_bd (rawF n F (m + 1)) 4 (by omega)
  have hN : 1 ≤ (soN n F m).toNat ∧ (soN n F m).toNat ≤ 4 := by unfold soN; omega
  unfold solO
  have hb := so_bd n F m (soN n F m).toNat
  refine ⟨?_, by omega⟩
  obtain ⟨i, hi⟩ : ∃ i, (soN n F m).toNat = i + 1 := ⟨(soN n F m).toNat - 1, by omega⟩
  rw [hi, so_s, (redK_m _ _ _).2, soL_np]
  omega
theorem solidMade_f : FnOk Tryz.prog 4 Tryz.f4 := ⟨Tryz.func4, by kernel_rfl⟩
theorem solidMade_a (n : Nat) (F : Nat → Int) (lf : Int) (hpre : (∀ j, In64 (F j)) ∧ In64 lf) : ACalls Tryz.prog 4 [ints .i64 n F, .int .i64 lf] (.bool true) := by
  refine acalls_of (inl := hasI (P := Tryz.prog) [] []) (base [pick_k, rayOf_k, vecOf_k, solidOf_k, solidSays_k] [] []) 0 solidMade_f (And.intro (by kernel_rfl) ?_)
  obtain ⟨hF, hl⟩ := hpre
  have hn := solO_np n F 0
  repeat' (first | refine And.intro ?_ ?_ | (with_reducible exact ff_elim) | (with_reducible exact tf_elim) | refine num_elim ?_ | intro _ | (with_reducible rfl) | ((with_reducible refine lk_t ?_); exact rfl) | ((with_reducible refine pf_t ?_); exact rfl) | refine tell ?_ | exact True.intro | (refine IsT.of ?_; kernel_rfl))
  all_goals (try refine Tell.mk ?_)
  all_goals first | with_reducible rfl | with_reducible assumption | with_reducible exact isI_mk | rfl | exact hF _ | exact ⟨_, rfl⟩ | (simp only [decide_eq_true_eq, decide_eq_false_iff_not, intF_mk] at *; omega) | trace_state
end Go.Proofs.YtgbcnfcgljbbgaaGreat
