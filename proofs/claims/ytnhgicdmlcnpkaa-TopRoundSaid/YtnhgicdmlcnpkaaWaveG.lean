/- Waves: the exact sums of exact sums are what is spread number by number. -/
import Derived.Test.YtnhgicdmlcnpkaaWaveF
namespace Go.Proofs.Ytnhgicdmlcnpkaa
open Go.RowKit Ev Flt
set_option linter.unusedVariables false
set_option linter.unusedSimpArgs false
set_option maxRecDepth 20000
set_option maxHeartbeats 4000000

theorem sumR_const (c : Rat) : ∀ n : Nat, sumR n (fun _ => c) = (n : Rat) * c
  | 0 => by show (0 : Rat) = ((0 : Nat) : Rat) * c; have : ((0 : Nat) : Rat) = 0 := rfl; rw [this]; grind
  | n + 1 => by show sumR n (fun _ => c) + c = _; rw [sumR_const c n, Rat.natCast_add, one_cast]; grind
theorem sumR_swap (f : Nat → Nat → Rat) (m : Nat) : ∀ n : Nat, sumR n (fun j => sumR m fun l => f j l) = sumR m (fun l => sumR n fun j => f j l)
  | 0 => by
    show (0 : Rat) = sumR m (fun _ => 0)
    rw [sumR_const]; grind
  | n + 1 => by
    show sumR n (fun j => sumR m fun l => f j l) + sumR m (fun l => f n l) = sumR m (fun l => sumR n (fun j => f j l) + f n l)
    rw [sumR_swap f m n, sumR_add]
theorem sumR_prod (f g : Nat → Rat) (n : Nat) : sumR n f * sumR n g = sumR n (fun j => sumR n fun l => f j * g l) := by
  have e : ∀ j, (sumR n fun l => f j * g l) = sumR n g * f j := fun j => by rw [sumR_mul]; grind
  rw [sumR_congr fun j _ => e j, sumR_mul]; grind
theorem sumR_one (f : Nat → Rat) (l0 : Nat) : ∀ n : Nat, (sumR n fun l => if l = l0 then f l else 0) = if l0 < n then f l0 else 0
  | 0 => by rw [if_neg (by omega)]; rfl
  | n + 1 => by
    show (sumR n fun l => if l = l0 then f l else 0) + (if n = l0 then f n else 0) = _
    rw [sumR_one f l0 n]
    by_cases h : n = l0
    · subst h; rw [if_neg (by omega), if_pos rfl, if_pos (by omega)]; grind
    · rw [if_neg h]
      by_cases g : l0 < n
      · rw [if_pos g, if_pos (by omega)]; grind
      · rw [if_neg g, if_neg (by omega)]; grind
theorem ctF_even : ∀ x : Nat, x < 64 → ctF ((64 - x) % 64) = ctF x ∧ ctF ((64 - x + 48) % 64) = ctF ((x + 16) % 64) := by decide +kernel
theorem ct_conj {x y k : Nat} (h : x + y = 64 * k) : ct x = ct y ∧ ct (x + 16) = ct (y + 48) := by
  have e := ctF_even (x % 64) (Nat.mod_lt _ (by decide))
  have e1 : ct y = ctF ((64 - x % 64) % 64) := by unfold ct; congr 1; omega
  have e2 : ct (y + 48) = ctF ((64 - x % 64 + 48) % 64) := by unfold ct; congr 1; omega
  have e3 : ct x = ctF (x % 64) := by unfold ct; rfl
  have e4 : ct (x + 16) = ctF ((x % 64 + 16) % 64) := by unfold ct; congr 1; omega
  rw [e1, e2, e3, e4]
  exact ⟨e.1.symm, e.2.symm⟩
theorem t_conj {x y k : Nat} (h : x + y = 64 * k) : tr x = tr y ∧ ti true x = ti false y := by
  obtain ⟨h1, h2⟩ := ct_conj (x := y) (y := x) (k := k) (by omega)
  unfold tr ti
  simp only [cond_true, cond_false]
  rw [h1, h2]; exact ⟨rfl, rfl⟩
def sumZ : Nat → (Nat → Int) → Int
  | 0, f => 0
  | n + 1, f => sumZ n f + f n
theorem sum_ct : ∀ m : Nat, m < 7 → ∀ r : Nat, r < 2 ^ m → (sumZ (2 ^ m) fun k => ctF (r * k * 2 ^ (6 - m) % 64)) = if r = 0 then ((2 ^ m : Nat) : Int) * (1152921504606846976 : Int) else (0 : Int) := by decide +kernel
theorem sumZ_cast (f : Nat → Int) : ∀ n : Nat, sumR n (fun k => (f k : Rat) / 1152921504606846976) = ((sumZ n f : Int) : Rat) / 1152921504606846976
  | 0 => by show (0 : Rat) = ((0 : Int) : Rat) / _; rw [Rat.intCast_zero]; grind
  | n + 1 => by
    show sumR n (fun k => (f k : Rat) / 1152921504606846976) + (f n : Rat) / 1152921504606846976 = ((sumZ n f + f n : Int) : Rat) / _
    rw [sumZ_cast f n, Rat.intCast_add]; grind
theorem n_s {m : Nat} (hm : m < 7) : 2 ^ m * 2 ^ (6 - m) = 64 := by rw [← Nat.pow_add, show m + (6 - m) = 6 by omega]
/-- The turns' sums. -/
theorem sum_tr {m : Nat} (hm : m < 7) (d : Nat) : (sumR (2 ^ m) fun k => tr (d * k * 2 ^ (6 - m))) = if d % 2 ^ m = 0 then ((2 ^ m : Nat) : Rat) else 0 := by
  have hs := n_s hm
  have e : ∀ k, tr (d * k * 2 ^ (6 - m)) = (ctF (d % 2 ^ m * k * 2 ^ (6 - m) % 64) : Rat) / 1152921504606846976 := fun k => by
    unfold tr ct
    congr 3
    have h := Nat.div_add_mod d (2 ^ m)
    generalize d % 2 ^ m = r at *
    generalize d / 2 ^ m = q at *
    rw [← h, show (2 ^ m * q + r) * k * 2 ^ (6 - m) = r * k * 2 ^ (6 - m) + 2 ^ m * 2 ^ (6 - m) * (q * k) by grind, hs, Nat.add_mul_mod_self_left]
  rw [sumR_congr fun k _ => e k, sumZ_cast, sum_ct m hm _ (Nat.mod_lt _ (Nat.two_pow_pos m))]
  split
  · rw [Rat.intCast_mul, Rat.intCast_natCast]
    have c : ((1152921504606846976 : Int) : Rat) = 1152921504606846976 := rfl
    rw [c]; grind
  · rw [Rat.intCast_zero]; grind
theorem mod_hit {n i j l : Nat} (hi : i < n) (hj : j < n) (hl : l < n) : (j + l + (n - i)) % n = 0 ↔ l = (i + n - j) % n := by
  have e1 : (j + l + (n - i)) % n = if j + l + (n - i) < n then j + l + (n - i) else if j + l + (n - i) < 2 * n then j + l + (n - i) - n else j + l + (n - i) - 2 * n := by
    split
    · exact Nat.mod_eq_of_lt (by assumption)
    · split
      · rw [Nat.mod_eq_sub_mod (by omega), Nat.mod_eq_of_lt (by omega)]
      · rw [Nat.mod_eq_sub_mod (by omega), Nat.mod_eq_sub_mod (by omega), Nat.mod_eq_of_lt (by omega)]; omega
  have e2 : (i + n - j) % n = if i < j then i + n - j else i - j := by
    split
    · exact Nat.mod_eq_of_lt (by omega)
    · rw [Nat.mod_eq_sub_mod (by omega), Nat.mod_eq_of_lt (by omega)]; omega
  rw [e1, e2]
  split <;> split <;> try split
  all_goals omega
/-- What is spread number by number. -/
def conv (n : Nat) (a b : Nat → Rat) (i : Nat) : Rat := sumR n fun j => a j * b ((i + n - j) % n)
theorem Nr.trans {a b c E G : Rat} (h : Nr a b E) (g : Nr b c G) : Nr a c (E + G) := by unfold Nr at *; grind
theorem Nr.refl' (a : Rat) : Nr a a 0 := by unfold Nr; grind
def PR (b : Bool) (m : Nat) (Y Z : Nat → Rat) (k : Nat) : Rat := Dr b m Y (fun _ => 0) k * Dr b m Z (fun _ => 0) k - Di b m Y (fun _ => 0) k * Di b m Z (fun _ => 0) k
def PI (b : Bool) (m : Nat) (Y Z : Nat → Rat) (k : Nat) : Rat := Dr b m Y (fun _ => 0) k * Di b m Z (fun _ => 0) k + Di b m Y (fun _ => 0) k * Dr b m Z (fun _ => 0) k
def QR (m : Nat) (Y Z : Nat → Rat) (k : Nat) : Rat := sumR (2 ^ m) fun j => sumR (2 ^ m) fun l => Y j * Z l * tr ((j + l) * k * 2 ^ (6 - m))
def QI (m : Nat) (Y Z : Nat → Rat) (k : Nat) : Rat := sumR (2 ^ m) fun j => sumR (2 ^ m) fun l => Y j * Z l * ti false ((j + l) * k * 2 ^ (6 - m))
theorem P_near {m : Nat} {Y Z : Nat → Rat} (hY : ∀ j, j < 2 ^ m → Bd (Y j) 255) (hZ : ∀ j, j < 2 ^ m → Bd (Z j) 255) (k : Nat) :
    Nr (PR false m Y Z k) (QR m Y Z k) (((2 ^ m : Nat) : Rat) * (((2 ^ m : Nat) : Rat) * (65025 * (2 / 1152921504606846976)))) ∧ Nr (PI false m Y Z k) (QI m Y Z k) (((2 ^ m : Nat) : Rat) * (((2 ^ m : Nat) : Rat) * (65025 * (2 / 1152921504606846976)))) := by
  unfold PR PI QR QI Dr Di
  generalize 2 ^ (6 - m) = s
  constructor
  · rw [sumR_prod, sumR_prod, ← sumR_sub]
    refine sumR_near fun j hj => ?_
    try dsimp only
    rw [← sumR_sub]
    refine sumR_near fun l hl => ?_
    try dsimp only
    have q := mul_Bd (mul_Bd (hY j hj) (hZ l hl)) (t_mul false (k * j * s) (k * l * s)).1.bd
    rw [show k * j * s + k * l * s = (j + l) * k * s by grind] at q
    refine Bd.nr ?_
    generalize tr (k * j * s) = x1 at *
    generalize tr (k * l * s) = x2 at *
    generalize ti false (k * j * s) = x3 at *
    generalize ti false (k * l * s) = x4 at *
    generalize tr ((j + l) * k * s) = x5 at *
    unfold Bd at *
    grind
  · rw [sumR_prod, sumR_prod, ← sumR_add]
    refine sumR_near fun j hj => ?_
    try dsimp only
    rw [← sumR_add]
    refine sumR_near fun l hl => ?_
    try dsimp only
    have q := mul_Bd (mul_Bd (hY j hj) (hZ l hl)) (t_mul false (k * j * s) (k * l * s)).2.bd
    rw [show k * j * s + k * l * s = (j + l) * k * s by grind] at q
    refine Bd.nr ?_
    generalize tr (k * j * s) = x1 at *
    generalize tr (k * l * s) = x2 at *
    generalize ti false (k * j * s) = x3 at *
    generalize ti false (k * l * s) = x4 at *
    generalize ti false ((j + l) * k * s) = x5 at *
    unfold Bd at *
    grind
theorem Q_near {m : Nat} (hm : m < 7) {Y Z : Nat → Rat} (hY : ∀ j, j < 2 ^ m → Bd (Y j) 255) (hZ : ∀ j, j < 2 ^ m → Bd (Z j) 255) {i : Nat} (hi : i < 2 ^ m) (k : Nat) :
    Nr (QR m Y Z k * tr (i * k * 2 ^ (6 - m)) - QI m Y Z k * ti true (i * k * 2 ^ (6 - m))) (sumR (2 ^ m) fun j => sumR (2 ^ m) fun l => Y j * Z l * tr ((j + l + (2 ^ m - i)) * k * 2 ^ (6 - m)))
      (((2 ^ m : Nat) : Rat) * (((2 ^ m : Nat) : Rat) * (65025 * (2 / 1152921504606846976)))) := by
  have hs := n_s hm
  obtain ⟨c1, c2⟩ := t_conj (x := i * k * 2 ^ (6 - m)) (y := (2 ^ m - i) * k * 2 ^ (6 - m)) (k := k) (by
    rw [show i * k * 2 ^ (6 - m) + (2 ^ m - i) * k * 2 ^ (6 - m) = (i + (2 ^ m - i)) * 2 ^ (6 - m) * k by grind, show i + (2 ^ m - i) = 2 ^ m by omega, hs])
  rw [c1, c2]
  unfold QR QI
  generalize 2 ^ (6 - m) = s at *
  generalize hd : 2 ^ m - i = d at *
  rw [Rat.mul_comm _ (tr _), Rat.mul_comm _ (ti _ _), ← sumR_mul, ← sumR_mul, ← sumR_sub]
  refine sumR_near fun j hj => ?_
  try dsimp only
  rw [← sumR_mul, ← sumR_mul, ← sumR_sub]
  refine sumR_near fun l hl => ?_
  try dsimp only
  have q := mul_Bd (mul_Bd (hY j hj) (hZ l hl)) (t_mul false ((j + l) * k * s) (d * k * s)).1.bd
  rw [show (j + l) * k * s + d * k * s = (j + l + d) * k * s by grind] at q
  refine Bd.nr ?_
  generalize tr ((j + l) * k * s) = x1 at *
  generalize tr (d * k * s) = x2 at *
  generalize ti false ((j + l) * k * s) = x3 at *
  generalize ti false (d * k * s) = x4 at *
  generalize tr ((j + l + d) * k * s) = x5 at *
  unfold Bd at *
  grind
theorem sum_conv {m : Nat} (hm : m < 7) (Y Z : Nat → Rat) {i : Nat} (hi : i < 2 ^ m) :
    (sumR (2 ^ m) fun k => sumR (2 ^ m) fun j => sumR (2 ^ m) fun l => Y j * Z l * tr ((j + l + (2 ^ m - i)) * k * 2 ^ (6 - m))) = ((2 ^ m : Nat) : Rat) * conv (2 ^ m) Y Z i := by
  rw [sumR_swap]
  unfold conv
  rw [← sumR_mul]
  refine sumR_congr fun j hj => ?_
  try dsimp only
  rw [sumR_swap]
  have e : ∀ l, l < 2 ^ m → (sumR (2 ^ m) fun k => Y j * Z l * tr ((j + l + (2 ^ m - i)) * k * 2 ^ (6 - m))) = if l = (i + 2 ^ m - j) % 2 ^ m then ((2 ^ m : Nat) : Rat) * (Y j * Z l) else 0 := fun l hl => by
    rw [sumR_mul, sum_tr hm]
    have h := mod_hit hi hj hl
    by_cases g : l = (i + 2 ^ m - j) % 2 ^ m
    · rw [if_pos g, if_pos (h.2 g)]; grind
    · rw [if_neg g, if_neg fun c => g (h.1 c)]; grind
  rw [sumR_congr e, sumR_one (fun l => ((2 ^ m : Nat) : Rat) * (Y j * Z l)), if_pos (Nat.mod_lt _ (Nat.two_pow_pos m))]
theorem two_le64 {m : Nat} (h : m < 7) : (1 : Rat) ≤ ((2 ^ m : Nat) : Rat) ∧ ((2 ^ m : Nat) : Rat) ≤ 64 := by
  have h1 : 1 ≤ 2 ^ m := Nat.two_pow_pos m
  have h2 : 2 ^ m ≤ 2 ^ 6 := Nat.pow_le_pow_right (by decide) (by omega)
  exact ⟨Rat.natCast_le_natCast.2 h1, Rat.natCast_le_natCast.2 h2⟩
theorem round_near {m : Nat} (hm : m < 7) {Y Z : Nat → Rat} (hY : ∀ j, j < 2 ^ m → Bd (Y j) 255) (hZ : ∀ j, j < 2 ^ m → Bd (Z j) 255) {i : Nat} (hi : i < 2 ^ m) :
    Nr (Dr true m (PR false m Y Z) (PI false m Y Z) i) (((2 ^ m : Nat) : Rat) * conv (2 ^ m) Y Z i) (1 / 1000) := by
  have e1 : Nr (Dr true m (PR false m Y Z) (PI false m Y Z) i) (sumR (2 ^ m) fun k => QR m Y Z k * tr (i * k * 2 ^ (6 - m)) - QI m Y Z k * ti true (i * k * 2 ^ (6 - m)))
      (((2 ^ m : Nat) : Rat) * (2 * (((2 ^ m : Nat) : Rat) * (((2 ^ m : Nat) : Rat) * (65025 * (2 / 1152921504606846976)))))) := by
    unfold Dr
    refine sumR_near fun k hk => ?_
    try dsimp only
    obtain ⟨p1, p2⟩ := P_near hY hZ k
    have q1 := mul_Bd p1.bd (tr_Bd (i * k * 2 ^ (6 - m)))
    have q2 := mul_Bd p2.bd (ti_Bd true (i * k * 2 ^ (6 - m)))
    refine Bd.nr ?_
    generalize (((2 ^ m : Nat) : Rat) * (((2 ^ m : Nat) : Rat) * (65025 * (2 / 1152921504606846976)))) = E at *
    generalize tr (i * k * 2 ^ (6 - m)) = x1 at *
    generalize ti true (i * k * 2 ^ (6 - m)) = x2 at *
    unfold Bd at *
    grind
  have e2 := sumR_near (n := 2 ^ m) fun k _ => Q_near hm hY hZ hi k
  rw [sum_conv hm Y Z hi] at e2
  refine (Nr.trans e1 e2).le ?_
  obtain ⟨n1, n2⟩ := two_le64 hm
  generalize ((2 ^ m : Nat) : Rat) = N at *
  have a1 : N * N ≤ 64 * 64 := by
    have x := Rat.mul_le_mul_of_nonneg_right n2 (c := N) (by grind)
    grind
  have a2 : N * (N * N) ≤ 64 * (64 * 64) := by
    have x := Rat.mul_le_mul_of_nonneg_left a1 (c := N) (by grind)
    grind
  grind
end Go.Proofs.Ytnhgicdmlcnpkaa
