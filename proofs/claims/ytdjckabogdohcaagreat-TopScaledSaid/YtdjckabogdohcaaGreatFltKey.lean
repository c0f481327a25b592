/- Floats in their order: a whole number for each; differences and quotients go up with what they are of. -/
import Derived.Test.YtdjckabogdohcaaGreatFltMono
namespace Go.Proofs.YtdjckabogdohcaaGreat
open Go.RowKit Ev Ieee
set_option linter.unusedVariables false
set_option linter.unusedSimpArgs false
namespace Flt

def sg (s : Bool) (n : Nat) : Int := if s then -(n : Int) else n
/-- The place of a float in their order. -/
def key (x : Nat) : Int := sg (x / 9223372036854775808 % 2 == 1) (x % 9223372036854775808)
theorem key_word (s : Bool) {r : Nat} (h : r ≤ II) : key (double.word s r) = sg s r := by
  have w : double.signWeight = 9223372036854775808 := by decide +kernel
  unfold key Format.word
  rw [w]
  have h : r ≤ 9218868437227405312 := h
  have e1 : ((if s = true then 9223372036854775808 + r else r) / 9223372036854775808 % 2 == 1) = s := by cases s <;> simp <;> omega
  have e2 : (if s = true then 9223372036854775808 + r else r) % 9223372036854775808 = r := by cases s <;> simp <;> omega
  rw [e1, e2]
/-- How many parts the number on a rung has. -/
def Vr (r : Nat) : Nat := if r < 4503599627370496 then r else (4503599627370496 + r % 4503599627370496) * 2 ^ (r / 4503599627370496 - 1)
theorem Vr_succ (r : Nat) : Vr r < Vr (r + 1) := by
  unfold Vr
  by_cases h0 : r + 1 < 4503599627370496
  · rw [if_pos h0, if_pos (by omega)]; omega
  by_cases h1 : r < 4503599627370496
  · obtain rfl : r = 4503599627370495 := by omega
    rw [if_pos h1, if_neg h0]; decide
  rw [if_neg h0, if_neg h1]
  have hr := Nat.div_add_mod r 4503599627370496
  have hm := Nat.mod_lt r (show 0 < 4503599627370496 by decide)
  have hq : 1 ≤ r / 4503599627370496 := by omega
  generalize r / 4503599627370496 = q at *
  generalize r % 4503599627370496 = f at *
  obtain ⟨q, rfl⟩ : ∃ k, q = k + 1 := ⟨q - 1, by omega⟩
  subst hr
  have p := Nat.two_pow_pos q
  by_cases h2 : f + 1 < 4503599627370496
  · have d1 : (4503599627370496 * (q + 1) + f + 1) / 4503599627370496 = q + 1 := by omega
    have d2 : (4503599627370496 * (q + 1) + f + 1) % 4503599627370496 = f + 1 := by omega
    rw [d1, d2]
    exact Nat.mul_lt_mul_of_pos_right (by omega) p
  · have d1 : (4503599627370496 * (q + 1) + f + 1) / 4503599627370496 = q + 2 := by omega
    have d2 : (4503599627370496 * (q + 1) + f + 1) % 4503599627370496 = 0 := by omega
    rw [d1, d2, show q + 2 - 1 = q + 1 by omega, show q + 1 - 1 = q by omega, Nat.pow_succ]
    have e : (4503599627370496 + 0) * (2 ^ q * 2) = (2 * 4503599627370496) * 2 ^ q := by rw [Nat.add_zero, Nat.mul_comm (2 ^ q) 2, ← Nat.mul_assoc, Nat.mul_comm 2]
    rw [e]
    exact Nat.mul_lt_mul_of_pos_right (by omega) p
theorem Vr_lt {r r' : Nat} (h : r < r') : Vr r < Vr r' := by
  induction r' with
  | zero => omega
  | succ n ih =>
    rcases Nat.lt_or_eq_of_le (Nat.le_of_lt_succ h) with h' | h'
    · exact Nat.lt_trans (ih h') (Vr_succ n)
    · subst h'; exact Vr_succ _
theorem Vr_0 : Vr 0 = 0 := by unfold Vr; rfl
theorem Vr_cmp {r r' : Nat} : (Vr r < Vr r' ↔ r < r') ∧ (Vr r = Vr r' ↔ r = r') := by
  rcases Nat.lt_trichotomy r r' with h | h | h
  · have := Vr_lt h; omega
  · subst h; omega
  · have := Vr_lt h; omega
theorem sg_cmp (s t : Bool) (r r' : Nat) : (sg s (Vr r) < sg t (Vr r') ↔ sg s r < sg t r') ∧ (sg s (Vr r) = sg t (Vr r') ↔ sg s r = sg t r') := by
  have h1 := @Vr_cmp r r'
  have h2 := @Vr_cmp r' r
  have h3 := @Vr_cmp 0 r
  have h4 := @Vr_cmp 0 r'
  rw [Vr_0] at h3 h4
  unfold sg
  cases s <;> cases t <;> simp only [if_true, if_false, Bool.false_eq_true] <;> omega
/-- What a word stands for, by its sign and rung. -/
theorem read_sr (x : Nat) : ∃ s r, key x = sg s r ∧ (r < II → ∃ m i, double.read x = .number s m i ∧ V x = sg s (Vr r)) ∧ (r = II → double.read x = .infinity s) ∧ (II < r → isN x = true) := by
  have w : double.signWeight = 9223372036854775808 := by decide +kernel
  have b : double.binade = 4503599627370496 := by decide +kernel
  have f : double.infRung = 9218868437227405312 := by decide +kernel
  have l : double.leastPlace = -1074 := by decide +kernel
  have hII : II = 9218868437227405312 := by decide
  refine ⟨x / 9223372036854775808 % 2 == 1, x % 9223372036854775808, rfl, ?_, ?_, ?_⟩
  · intro h
    rw [hII] at h
    have e : double.read x = if x % 9223372036854775808 < 4503599627370496 then .number (x / 9223372036854775808 % 2 == 1) (x % 9223372036854775808) (-1074) else .number (x / 9223372036854775808 % 2 == 1) (4503599627370496 + x % 9223372036854775808 % 4503599627370496) (-1074 + (x % 9223372036854775808 / 4503599627370496 - 1 : Nat)) := by
      unfold Format.read
      rw [w, b, f, l]
      simp only
      split
      · rfl
      · first | rfl | (rw [if_pos h])
    generalize (x / 9223372036854775808 % 2 == 1) = s at *
    generalize x % 9223372036854775808 = r at *
    have hs : ∀ m k : Nat, signed s m k = sg s (m * 2 ^ k) := fun m k => by
      unfold signed sg; rw [Nat.shiftLeft_eq]
    by_cases h1 : r < 4503599627370496
    · rw [if_pos h1] at e
      refine ⟨_, _, e, ?_⟩
      rw [V_of e, hs]
      unfold Vr; rw [if_pos h1]
      simp
    · rw [if_neg h1] at e
      refine ⟨_, _, e, ?_⟩
      rw [V_of e, hs]
      unfold Vr; rw [if_neg h1]
      congr 3
      omega
  · intro h
    rw [hII] at h
    unfold Format.read
    rw [w, b, f, l]
    simp only
    rw [if_neg (by omega), if_neg (by omega), if_pos h]
  · intro h
    rw [hII] at h
    unfold isN Format.read
    rw [w, b, f, l]
    simp only
    rw [if_neg (by omega), if_neg (by omega), if_neg (by omega)]
    rfl
theorem order_key {x y : Nat} (hx : isN x = false) (hy : isN y = false) : double.order x y = some (compare (key x) (key y)) := by
  obtain ⟨s, r, kx, x1, x2, x3⟩ := read_sr x
  obtain ⟨t, r', ky, y1, y2, y3⟩ := read_sr y
  have cmp : ∀ a b c d : Int, ((a < b ↔ c < d) ∧ (a = b ↔ c = d)) → compare a b = compare c d := fun a b c d h => by
    rcases Int.lt_trichotomy a b with g | g | g
    · rw [Int.compare_eq_lt.2 g, Int.compare_eq_lt.2 (h.1.1 g)]
    · rw [Int.compare_eq_eq.2 g, Int.compare_eq_eq.2 (h.2.1 g)]
    · rw [Int.compare_eq_gt.2 g, Int.compare_eq_gt.2 (by omega)]
  have hII : II = 9218868437227405312 := by decide
  rcases Nat.lt_trichotomy r II with a | a | a
  · obtain ⟨m, i, ex, vx⟩ := x1 a
    rcases Nat.lt_trichotomy r' II with c | c | c
    · obtain ⟨n, j, ey, vy⟩ := y1 c
      rw [order_V ⟨_, _, _, ex⟩ ⟨_, _, _, ey⟩, vx, vy, kx, ky]
      exact congrArg some (cmp _ _ _ _ (sg_cmp s t r r'))
    · unfold Format.order
      rw [ex, y2 c, kx, ky]
      simp only [Datum.order, Option.some.injEq]
      unfold sg
      cases t <;> cases s <;> simp only [if_true, if_false, Bool.false_eq_true] <;> first | (refine (Int.compare_eq_lt.2 ?_).symm; omega) | (refine (Int.compare_eq_gt.2 ?_).symm; omega)
    · rw [y3 c] at hy; cases hy
  · rcases Nat.lt_trichotomy r' II with c | c | c
    · obtain ⟨n, j, ey, vy⟩ := y1 c
      unfold Format.order
      rw [ey, x2 a, kx, ky]
      simp only [Datum.order, Option.some.injEq]
      unfold sg
      cases s <;> cases t <;> simp only [if_true, if_false, Bool.false_eq_true] <;> first | (refine (Int.compare_eq_lt.2 ?_).symm; omega) | (refine (Int.compare_eq_gt.2 ?_).symm; omega)
    · unfold Format.order
      rw [y2 c, x2 a, kx, ky, a, c]
      simp only [Datum.order, Option.some.injEq]
      cases s <;> cases t <;> decide +kernel
    · rw [y3 c] at hy; cases hy
  · rw [x3 a] at hx; cases hx
theorem flt_key {x y : Nat} (hx : isN x = false) (hy : isN y = false) : flt x y = decide (key x < key y) := by
  have e : FloatKind.f64.format.order x y = some (compare (key x) (key y)) := order_key hx hy
  unfold flt; rw [e]
  rcases Int.lt_trichotomy (key x) (key y) with h | h | h
  · rw [Int.compare_eq_lt.2 h, decide_eq_true h]; rfl
  · rw [Int.compare_eq_eq.2 h, decide_eq_false (by omega)]; rfl
  · rw [Int.compare_eq_gt.2 h, decide_eq_false (by omega)]; rfl
theorem feq_key {x y : Nat} (hx : isN x = false) (hy : isN y = false) : feq x y = decide (key x = key y) := by
  have e : FloatKind.f64.format.order x y = some (compare (key x) (key y)) := order_key hx hy
  unfold feq; rw [e]
  rcases Int.lt_trichotomy (key x) (key y) with h | h | h
  · rw [Int.compare_eq_lt.2 h, decide_eq_false (by omega)]; rfl
  · rw [Int.compare_eq_eq.2 h, decide_eq_true h]; rfl
  · rw [Int.compare_eq_gt.2 h, decide_eq_false (by omega)]; rfl
theorem fgt_key {x y : Nat} (hx : isN x = false) (hy : isN y = false) : fgt x y = decide (key y < key x) := by
  rw [fgt_flt, flt_key hy hx]
/-- The keys of finite floats stand as their numbers. -/
theorem V_key {x y : Nat} (hx : Fin x) (hy : Fin y) : (V x < V y ↔ key x < key y) ∧ (V x = V y ↔ key x = key y) := by
  have a := order_V hx hy
  have b := order_key hx.notN hy.notN
  rw [a, Option.some.injEq] at b
  rcases Int.lt_trichotomy (V x) (V y) with h | h | h
  · rw [Int.compare_eq_lt.2 h] at b; have := Int.compare_eq_lt.1 b.symm; omega
  · rw [Int.compare_eq_eq.2 h] at b; have := Int.compare_eq_eq.1 b.symm; omega
  · rw [Int.compare_eq_gt.2 h] at b; have := Int.compare_eq_gt.1 b.symm; omega
theorem rung_le (B I P D t : Nat) : rung B I P D t ≤ I := by unfold rung; omega
theorem word_ok (s : Bool) {r : Nat} (h : r ≤ II) : isN (double.word s r) = false := Go.Proofs.YtdjckabogdohcaaGreat.word_notN s r h
theorem rng_0 {B D t : Nat} (hB : 0 < B) (hD : 0 < D) (h : Rng B 0 D t) : rung B II 0 D t = 0 := by
  rcases h with ⟨rfl, _⟩ | ⟨_, h, _⟩
  · exact (rung_zero B II D hB hD).2
  · have := Nat.mul_pos (Nat.mul_pos hB (Nat.two_pow_pos t)) hD
    omega
/-- A difference: its sign, and its rung. -/
theorem sub_form {x y : Nat} (hx : Fin x) (hy : Fin y) : ∃ t, Rng (2 ^ 52) (V x - V y).natAbs 1 t ∧ isN (F .sub x y) = false ∧ key (F .sub x y) = sg (decide (V x < V y)) (rung (2 ^ 52) II (V x - V y).natAbs 1 t) := by
  obtain ⟨s, m, i, ex⟩ := hx
  obtain ⟨t, n, j, ey⟩ := hy
  obtain ⟨_, i0, _⟩ := read_form ex
  obtain ⟨_, j0, _⟩ := read_form ey
  have e0 : fop .sub x y = some (double.nearest (if signed s m (i - min i j).toNat + signed (!t) n (j - min i j).toNat = 0 then s && !t else decide (signed s m (i - min i j).toNat + signed (!t) n (j - min i j).toNat < 0)) (signed s m (i - min i j).toNat + signed (!t) n (j - min i j).toNat).natAbs (min i j)) := by
    show ((double.read x).sum (double.read y).opposite).map double.write = _
    rw [ex, ey]
    rfl
  have hd : (signed s m (i - min i j).toNat + signed (!t) n (j - min i j).toNat) * (2 ^ (min i j + 1074).toNat : Nat) = V x - V y := by
    rw [V_of ex, V_of ey, Int.add_mul, ← signed_add, ← signed_add, signed_not, show (i - min i j).toNat + (min i j + 1074).toNat = (i + 1074).toNat by omega, show (j - min i j).toNat + (min i j + 1074).toNat = (j + 1074).toNat by omega]
    omega
  have p : (0 : Int) < (2 ^ (min i j + 1074).toNat : Nat) := by have := Nat.two_pow_pos (min i j + 1074).toNat; omega
  generalize signed s m (i - min i j).toNat + signed (!t) n (j - min i j).toNat = d at *
  have hb : (-1074 - min i j).toNat = 0 := by omega
  generalize hneg : (if d = 0 then s && !t else decide (d < 0)) = neg at e0
  obtain ⟨τ, hr, hn⟩ := nearest_form neg d.natAbs (min i j)
  have hab : d.natAbs * 2 ^ (min i j + 1074).toNat = (V x - V y).natAbs := by
    rw [← hd, Int.natAbs_mul]; rfl
  rw [hb, Nat.pow_zero, hab] at hr hn
  rw [hn] at e0
  have hw := word_ok neg (rung_le (2 ^ 52) II (V x - V y).natAbs 1 τ)
  refine ⟨τ, hr, ?_, ?_⟩
  · rw [F_some e0 hw]; exact hw
  · rw [F_some e0 hw, key_word _ (rung_le _ _ _ _ _)]
    rcases Int.lt_trichotomy d 0 with g | g | g
    · have : V x < V y := by
        have := Int.mul_neg_of_neg_of_pos g p; omega
      rw [decide_eq_true this, ← hneg, if_neg (by omega), decide_eq_true g]
    · have h0 : V x - V y = 0 := by rw [← hd, g, Int.zero_mul]
      rw [h0] at hr ⊢
      have e : rung (2 ^ 52) II (Int.natAbs 0) 1 τ = 0 := rng_0 (Nat.two_pow_pos _) (by decide) hr
      rw [e]
      unfold sg
      split <;> split <;> rfl
    · have : ¬ V x < V y := by
        have := Int.mul_pos g p; omega
      rw [decide_eq_false this, ← hneg, if_neg (by omega), decide_eq_false (by omega)]
theorem sg_mono {a b : Int} {r r' : Nat} (hab : a ≤ b) (h1 : a.natAbs ≤ b.natAbs → r ≤ r') (h2 : b.natAbs ≤ a.natAbs → r' ≤ r) : sg (decide (a < 0)) r ≤ sg (decide (b < 0)) r' := by
  unfold sg
  by_cases ha : a < 0
  · by_cases hb : b < 0
    · rw [decide_eq_true ha, decide_eq_true hb, if_pos rfl, if_pos rfl]
      have := h2 (by omega); omega
    · rw [decide_eq_true ha, decide_eq_false hb, if_pos rfl, if_neg (by decide)]; omega
  · rw [decide_eq_false ha, decide_eq_false (show ¬ b < 0 by omega), if_neg (by decide), if_neg (by decide)]
    have := h1 (by omega); omega
/-- A difference goes up with what is taken from. -/
theorem sub_mono {x x' y : Nat} (hx : Fin x) (hx' : Fin x') (hy : Fin y) (h : key x ≤ key x') : isN (F .sub x y) = false ∧ isN (F .sub x' y) = false ∧ key (F .sub x y) ≤ key (F .sub x' y) := by
  obtain ⟨t, r1, n1, k1⟩ := sub_form hx hy
  obtain ⟨t', r2, n2, k2⟩ := sub_form hx' hy
  refine ⟨n1, n2, ?_⟩
  have hv := V_key hx hx'
  rw [k1, k2, show decide (V x < V y) = decide (V x - V y < 0) from decide_eq_decide.2 (by omega), show decide (V x' < V y) = decide (V x' - V y < 0) from decide_eq_decide.2 (by omega)]
  refine sg_mono (by omega) (fun g => ?_) (fun g => ?_)
  · exact rung_mono (by decide) (by decide) (by rw [Nat.mul_one, Nat.mul_one]; exact g) r1 r2
  · exact rung_mono (by decide) (by decide) (by rw [Nat.mul_one, Nat.mul_one]; exact g) r2 r1
/-- A quotient: its sign, and its rung. -/
theorem quo_key {x y : Nat} {s t : Bool} {m n : Nat} {i j : Int} (hx : double.read x = .number s m i) (hy : double.read y = .number t n j) (hn : n ≠ 0) :
    ∃ τ, Rng (2 ^ 52) (m * 2 ^ (i - j + 1074).toNat) (n * 2 ^ (j - i - 1074).toNat) τ ∧ isN (F .quo x y) = false ∧ key (F .quo x y) = sg (s ^^ t) (rung (2 ^ 52) II (m * 2 ^ (i - j + 1074).toNat) (n * 2 ^ (j - i - 1074).toNat) τ) := by
  obtain ⟨τ, r, e⟩ := quo_form hx hy hn
  have hw := word_ok (s ^^ t) (rung_le (2 ^ 52) II (m * 2 ^ (i - j + 1074).toNat) (n * 2 ^ (j - i - 1074).toNat) τ)
  exact ⟨τ, r, by rw [F_some e hw]; exact hw, by rw [F_some e hw, key_word _ (rung_le _ _ _ _ _)]⟩
theorem ratio_le {m m' n : Nat} {i i' j : Int} (i0 : -1074 ≤ i) (i0' : -1074 ≤ i') (j0 : -1074 ≤ j) (h : m * 2 ^ (i + 1074).toNat ≤ m' * 2 ^ (i' + 1074).toNat) :
    m * 2 ^ (i - j + 1074).toNat * (n * 2 ^ (j - i' - 1074).toNat) ≤ m' * 2 ^ (i' - j + 1074).toNat * (n * 2 ^ (j - i - 1074).toNat) := by
  generalize ha : (i - j + 1074).toNat = a
  generalize hb : (j - i - 1074).toNat = b
  generalize ha' : (i' - j + 1074).toNat = a'
  generalize hb' : (j - i' - 1074).toNat = b'
  generalize hJ : (j + 1074).toNat = J
  have h1 : m * 2 ^ (i + 1074).toNat * 2 ^ (b + b' + 1074) ≤ m' * 2 ^ (i' + 1074).toNat * 2 ^ (b + b' + 1074) := Nat.mul_le_mul_right _ h
  rw [Nat.mul_assoc, Nat.mul_assoc, ← Nat.pow_add, ← Nat.pow_add, show (i + 1074).toNat + (b + b' + 1074) = a + b' + J by omega, show (i' + 1074).toNat + (b + b' + 1074) = a' + b + J by omega, Nat.pow_add 2 (a + b') J, Nat.pow_add 2 (a' + b) J, ← Nat.mul_assoc, ← Nat.mul_assoc] at h1
  have h2 := Nat.le_of_mul_le_mul_right h1 (Nat.two_pow_pos J)
  have e1 : m * 2 ^ a * (n * 2 ^ b') = m * 2 ^ (a + b') * n := by rw [Nat.pow_add]; simp only [Nat.mul_assoc, Nat.mul_left_comm, Nat.mul_comm]
  have e2 : m' * 2 ^ a' * (n * 2 ^ b) = m' * 2 ^ (a' + b) * n := by rw [Nat.pow_add]; simp only [Nat.mul_assoc, Nat.mul_left_comm, Nat.mul_comm]
  rw [e1, e2]
  exact Nat.mul_le_mul_right _ h2
theorem sg_up {s s' : Bool} {a b r r' : Nat} (h : sg s a ≤ sg s' b) (h1 : a ≤ b → r ≤ r') (h2 : b ≤ a → r' ≤ r) (z : a = 0 → r = 0) (z' : b = 0 → r' = 0) : sg s r ≤ sg s' r' := by
  unfold sg at *
  cases s <;> cases s' <;> simp only [if_true, if_false, Bool.false_eq_true] at *
  · have := h1 (by omega); omega
  · have := z (by omega); have := z' (by omega); omega
  · omega
  · have := h2 (by omega); omega
theorem sg_not (s : Bool) (r : Nat) : sg (!s) r = - sg s r := by unfold sg; cases s <;> simp
/-- A quotient goes up with what is divided, or down, as what it is divided by is above or below nought. -/
theorem quo_mono {x x' y : Nat} (hx : Fin x) (hx' : Fin x') (hy : Fin y) (h : key x ≤ key x') (hz : V y ≠ 0) : isN (F .quo x y) = false ∧ isN (F .quo x' y) = false ∧ (0 < V y → key (F .quo x y) ≤ key (F .quo x' y)) ∧ (V y < 0 → key (F .quo x' y) ≤ key (F .quo x y)) := by
  have hv := V_key hx hx'
  have hv : V x ≤ V x' := by omega
  obtain ⟨s, m, i, ex⟩ := hx
  obtain ⟨s', m', i', ex'⟩ := hx'
  obtain ⟨t, n, j, ey⟩ := hy
  obtain ⟨_, i0, _⟩ := read_form ex
  obtain ⟨_, i0', _⟩ := read_form ex'
  obtain ⟨_, j0, _⟩ := read_form ey
  have hn : n ≠ 0 := by
    rintro rfl
    exact hz (by rw [V_of ey, signed_0])
  obtain ⟨τ, r1, n1, k1⟩ := quo_key ex ey hn
  obtain ⟨τ', r2, n2, k2⟩ := quo_key ex' ey hn
  have hs : ∀ (s : Bool) (m k : Nat), signed s m k = sg s (m * 2 ^ k) := fun s m k => by
    unfold signed sg; rw [Nat.shiftLeft_eq]
  have yt : (t = true ↔ V y < 0) ∧ (t = false ↔ 0 < V y) := by
    rw [V_of ey, hs]
    have p := Nat.mul_pos (Nat.pos_of_ne_zero hn) (Nat.two_pow_pos (j + 1074).toNat)
    generalize n * 2 ^ (j + 1074).toNat = N at *
    unfold sg
    cases t
    · exact ⟨⟨fun h => (by cases h), fun h => (by rw [if_neg (by decide)] at h; omega)⟩, ⟨fun _ => (by rw [if_neg (by decide)]; omega), fun _ => rfl⟩⟩
    · exact ⟨⟨fun _ => (by rw [if_pos rfl]; omega), fun _ => rfl⟩, ⟨fun h => (by cases h), fun h => (by rw [if_pos rfl] at h; omega)⟩⟩
  rw [V_of ex, V_of ex', hs, hs] at hv
  have d1 : 0 < n * 2 ^ (j - i - 1074).toNat := Nat.mul_pos (Nat.pos_of_ne_zero hn) (Nat.two_pow_pos _)
  have d2 : 0 < n * 2 ^ (j - i' - 1074).toNat := Nat.mul_pos (Nat.pos_of_ne_zero hn) (Nat.two_pow_pos _)
  have z : ∀ {m : Nat} {k k2 τ : Nat} {D : Nat}, 0 < D → Rng (2 ^ 52) (m * 2 ^ k2) D τ → m * 2 ^ k = 0 → rung (2 ^ 52) II (m * 2 ^ k2) D τ = 0 := fun {m k k2 τ D} hD hr h => by
    have : m = 0 := by
      rcases Nat.mul_eq_zero.1 h with h | h
      · exact h
      · have := Nat.two_pow_pos k; omega
    subst this
    rw [Nat.zero_mul] at hr ⊢
    exact rng_0 (Nat.two_pow_pos _) hD hr
  have key0 : sg s (rung (2 ^ 52) II (m * 2 ^ (i - j + 1074).toNat) (n * 2 ^ (j - i - 1074).toNat) τ) ≤ sg s' (rung (2 ^ 52) II (m' * 2 ^ (i' - j + 1074).toNat) (n * 2 ^ (j - i' - 1074).toNat) τ') :=
    sg_up hv (fun g => rung_mono d1 d2 (ratio_le i0 i0' j0 g) r1 r2) (fun g => rung_mono d2 d1 (ratio_le i0' i0 j0 g) r2 r1) (z d1 r1) (z d2 r2)
  refine ⟨n1, n2, fun g => ?_, fun g => ?_⟩
  · rw [k1, k2, yt.2.2 g, Bool.xor_false, Bool.xor_false]
    exact key0
  · rw [k1, k2, yt.1.2 g, Bool.xor_true, Bool.xor_true, sg_not, sg_not]
    omega
end Flt
end Go.Proofs.YtdjckabogdohcaaGreat
