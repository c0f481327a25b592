/- Waves: how far the program's rows are from the exact sums. -/
import Derived.Test.YtnhgicdmlcnpkaaWaveT
namespace Go.Proofs.Ytnhgicdmlcnpkaa
open Go.RowKit Ev Flt
set_option linter.unusedVariables false
set_option linter.unusedSimpArgs false
set_option maxRecDepth 20000
set_option maxHeartbeats 4000000

/-- The parts of a turn: cosine, and sine with the way's sign. -/
def tr (i : Nat) : Rat := (ct i : Rat) / 1152921504606846976
def ti (b : Bool) (i : Nat) : Rat := (ct (bif b then i + 48 else i + 16) : Rat) / 1152921504606846976
theorem tr_per (i k : Nat) : tr (i + 64 * k) = tr i := by unfold tr; rw [ct_per]
theorem ti_per (b : Bool) (i k : Nat) : ti b (i + 64 * k) = ti b i := by
  unfold ti
  cases b
  · show (ct (i + 64 * k + 16) : Rat) / _ = (ct (i + 16) : Rat) / _
    rw [show i + 64 * k + 16 = i + 16 + 64 * k by omega, ct_per]
  · show (ct (i + 64 * k + 48) : Rat) / _ = (ct (i + 48) : Rat) / _
    rw [show i + 64 * k + 48 = i + 48 + 64 * k by omega, ct_per]
theorem tr_half (i : Nat) : tr (i + 32) = -tr i := by unfold tr; rw [ct_half, Rat.intCast_neg]; grind
theorem ti_half (b : Bool) (i : Nat) : ti b (i + 32) = -ti b i := by
  unfold ti
  cases b
  · show (ct (i + 32 + 16) : Rat) / _ = -((ct (i + 16) : Rat) / _)
    rw [show i + 32 + 16 = i + 16 + 32 by omega, ct_half, Rat.intCast_neg]; grind
  · show (ct (i + 32 + 48) : Rat) / _ = -((ct (i + 48) : Rat) / _)
    rw [show i + 32 + 48 = i + 48 + 32 by omega, ct_half, Rat.intCast_neg]; grind
theorem ct_Bd (i : Nat) : Bd ((ct i : Rat) / 1152921504606846976) 1 := by
  have h : -1152921504606846976 ≤ ct i ∧ ct i ≤ 1152921504606846976 := by unfold ct; exact ct_abs_ _ (Nat.mod_lt _ (by decide))
  have h1 := Rat.intCast_le_intCast.2 h.1
  have h2 := Rat.intCast_le_intCast.2 h.2
  rw [Rat.intCast_neg] at h1
  have c : ((1152921504606846976 : Int) : Rat) = 1152921504606846976 := rfl
  rw [c] at h1 h2
  unfold Bd
  generalize ((ct i : Int) : Rat) = x at *
  grind
theorem tr_Bd (i : Nat) : Bd (tr i) 1 := ct_Bd i
theorem ti_Bd (b : Bool) (i : Nat) : Bd (ti b i) 1 := ct_Bd _
theorem le_cast {a b : Int} (h : a ≤ b) : (a : Rat) ≤ (b : Rat) := Rat.intCast_le_intCast.2 h
theorem t_mul (b : Bool) (i j : Nat) : Nr (tr i * tr j - ti b i * ti b j) (tr (i + j)) (2 / 1152921504606846976) ∧ Nr (tr i * ti b j + ti b i * tr j) (ti b (i + j)) (2 / 1152921504606846976) := by
  have h := ct_ok (i % 64) (Nat.mod_lt _ (by decide)) (j % 64) (Nat.mod_lt _ (by decide))
  unfold ctOk at h
  simp only [Bool.and_eq_true, decide_eq_true_eq] at h
  obtain ⟨⟨⟨h1, h2⟩, h3⟩, h4⟩ := h
  have e0 : ctF (i % 64) = ct i := by unfold ct; rfl
  have e1 : ctF (j % 64) = ct j := by unfold ct; rfl
  have e2 : ctF ((i % 64 + 48) % 64) = ct (i + 48) := by unfold ct; congr 1; omega
  have e3 : ctF ((j % 64 + 48) % 64) = ct (j + 48) := by unfold ct; congr 1; omega
  have e4 : ctF ((i % 64 + j % 64) % 64) = ct (i + j) := by unfold ct; congr 1; omega
  have e5 : ctF ((i % 64 + j % 64 + 48) % 64) = ct (i + j + 48) := by unfold ct; congr 1; omega
  rw [e0, e1, e2, e3, e4] at h1 h2
  rw [e0, e1, e2, e3, e5] at h3 h4
  have g1 := le_cast h1
  have g2 := le_cast h2
  have g3 := le_cast h3
  have g4 := le_cast h4
  simp only [Rat.intCast_sub, Rat.intCast_add, Rat.intCast_mul] at g1 g2 g3 g4
  have c : ((1152921504606846976 : Int) : Rat) = 1152921504606846976 := rfl
  have c2 : ((2305843009213693952 : Int) : Rat) = 2305843009213693952 := rfl
  rw [c, c2] at g1 g2 g3 g4
  have n1 : ((ct (i + 48) : Int) : Rat) = -(ct (i + 16) : Rat) := by rw [show i + 48 = i + 16 + 32 by omega, ct_half, Rat.intCast_neg]
  have n2 : ((ct (j + 48) : Int) : Rat) = -(ct (j + 16) : Rat) := by rw [show j + 48 = j + 16 + 32 by omega, ct_half, Rat.intCast_neg]
  have n3 : ((ct (i + j + 48) : Int) : Rat) = -(ct (i + j + 16) : Rat) := by rw [show i + j + 48 = i + j + 16 + 32 by omega, ct_half, Rat.intCast_neg]
  unfold Nr tr ti
  cases b
  · simp only [cond_false]
    rw [n1, n2] at g1 g2
    rw [n1, n2, n3] at g3 g4
    generalize ((ct i : Int) : Rat) = x1 at *
    generalize ((ct j : Int) : Rat) = x2 at *
    generalize ((ct (i + 16) : Int) : Rat) = x3 at *
    generalize ((ct (j + 16) : Int) : Rat) = x4 at *
    generalize ((ct (i + j) : Int) : Rat) = x5 at *
    generalize ((ct (i + j + 16) : Int) : Rat) = x6 at *
    refine ⟨⟨?_, ?_⟩, ?_, ?_⟩ <;> grind
  · simp only [cond_true]
    generalize ((ct i : Int) : Rat) = x1 at *
    generalize ((ct j : Int) : Rat) = x2 at *
    generalize ((ct (i + 48) : Int) : Rat) = x3 at *
    generalize ((ct (j + 48) : Int) : Rat) = x4 at *
    generalize ((ct (i + j) : Int) : Rat) = x5 at *
    generalize ((ct (i + j + 48) : Int) : Rat) = x6 at *
    refine ⟨⟨?_, ?_⟩, ?_, ?_⟩ <;> grind
theorem bit_U : ((bit 1074 : Nat) : Rat) = U := by rw [U_eq]; rfl
theorem bit_split (a b : Nat) : ((bit (a + b) : Nat) : Rat) = ((bit a : Nat) : Rat) * ((bit b : Nat) : Rat) := by
  unfold bit; rw [Nat.pow_add, Rat.natCast_mul]
theorem nrB_ok {x : Nat} {c : Int} (h : nrB x c = true) : Flt.Fin x ∧ Nr (val x) ((c : Rat) / 1152921504606846976) (1 / 562949953421312) := by
  unfold nrB at h
  simp only [Bool.and_eq_true, decide_eq_true_eq] at h
  obtain ⟨⟨h1, h2⟩, h3⟩ := h
  refine ⟨finB_ok h1, ?_⟩
  have g2 := le_cast h2
  have g3 := le_cast h3
  simp only [Rat.intCast_sub, Rat.intCast_mul, Rat.intCast_natCast] at g2 g3
  have cc : ((1152921504606846976 : Int) : Rat) = 1152921504606846976 := rfl
  have c2 : ((bit 1085 : Nat) : Rat) = 2048 * U := by
    rw [show 1085 = 11 + 1074 from rfl, bit_split, bit_U]
    congr 1
  rw [cc, bit_U, c2, ← val_U x] at g2 g3
  have hU := U_pos
  generalize U = U' at *
  generalize (c : Rat) = c' at *
  generalize val x = v at *
  unfold Nr
  constructor
  · refine Rat.le_of_mul_le_mul_right (c := U') ?_ hU; grind
  · refine Rat.le_of_mul_le_mul_right (c := U') ?_ hU; grind
theorem tw_near (b : Bool) {m k : Nat} (hm : m < 6) (hk : k < 2 ^ m) : Flt.Fin (pwC (rtB b (m + 1)) k).1 ∧ Flt.Fin (pwC (rtB b (m + 1)) k).2 ∧
    Nr (val (pwC (rtB b (m + 1)) k).1) (tr (k * 2 ^ (5 - m))) (1 / 562949953421312) ∧ Nr (val (pwC (rtB b (m + 1)) k).2) (ti b (k * 2 ^ (5 - m))) (1 / 562949953421312) := by
  have h := tw_ok b m hm k hk
  unfold twOk at h
  simp only [Bool.and_eq_true] at h
  obtain ⟨h1, h2⟩ := h
  obtain ⟨f1, n1⟩ := nrB_ok h1
  obtain ⟨f2, n2⟩ := nrB_ok h2
  refine ⟨f1, f2, ?_, ?_⟩
  · unfold tr ct; exact n1
  · unfold ti ct
    cases b <;> exact n2
def sumR : Nat → (Nat → Rat) → Rat
  | 0, f => 0
  | n + 1, f => sumR n f + f n
theorem sumR_congr {f g : Nat → Rat} : ∀ {n : Nat}, (∀ j, j < n → f j = g j) → sumR n f = sumR n g
  | 0, h => rfl
  | n + 1, h => by show sumR n f + f n = sumR n g + g n; rw [sumR_congr fun j hj => h j (by omega), h n (by omega)]
theorem sumR_add (f g : Nat → Rat) : ∀ n : Nat, sumR n (fun j => f j + g j) = sumR n f + sumR n g
  | 0 => by show (0 : Rat) = 0 + 0; grind
  | n + 1 => by show sumR n (fun j => f j + g j) + (f n + g n) = _; rw [sumR_add f g n]; show _ = sumR n f + f n + (sumR n g + g n); grind
theorem sumR_sub (f g : Nat → Rat) : ∀ n : Nat, sumR n (fun j => f j - g j) = sumR n f - sumR n g
  | 0 => by show (0 : Rat) = 0 - 0; grind
  | n + 1 => by show sumR n (fun j => f j - g j) + (f n - g n) = _; rw [sumR_sub f g n]; show _ = sumR n f + f n - (sumR n g + g n); grind
theorem sumR_mul (c : Rat) (f : Nat → Rat) : ∀ n : Nat, sumR n (fun j => c * f j) = c * sumR n f
  | 0 => by show (0 : Rat) = c * 0; grind
  | n + 1 => by show sumR n (fun j => c * f j) + c * f n = _; rw [sumR_mul c f n]; show _ = c * (sumR n f + f n); grind
theorem sumR_neg (f : Nat → Rat) : ∀ n : Nat, sumR n (fun j => - f j) = - sumR n f
  | 0 => by show (0 : Rat) = - 0; grind
  | n + 1 => by show sumR n (fun j => - f j) + - f n = _; rw [sumR_neg f n]; show _ = - (sumR n f + f n); grind
theorem sumR_near {f g : Nat → Rat} {e : Rat} : ∀ {n : Nat}, (∀ j, j < n → Nr (f j) (g j) e) → Nr (sumR n f) (sumR n g) ((n : Rat) * e)
  | 0, h => by unfold Nr sumR; have : ((0 : Nat) : Rat) = 0 := rfl; rw [this]; grind
  | n + 1, h => by
    have ih := sumR_near (n := n) fun j hj => h j (by omega)
    have hn := h n (by omega)
    unfold Nr at *
    rw [Rat.natCast_add, one_cast]
    show sumR n f + f n - (sumR n g + g n) ≤ _ ∧ sumR n g + g n - (sumR n f + f n) ≤ _
    grind
theorem sumR_Bd {f : Nat → Rat} {e : Rat} : ∀ {n : Nat}, (∀ j, j < n → Bd (f j) e) → Bd (sumR n f) ((n : Rat) * e)
  | 0, h => by unfold Bd sumR; have : ((0 : Nat) : Rat) = 0 := rfl; rw [this]; grind
  | n + 1, h => by
    have ih := sumR_Bd (n := n) fun j hj => h j (by omega)
    have hn := h n (by omega)
    unfold Bd at *
    rw [Rat.natCast_add, one_cast]
    show _ ≤ sumR n f + f n ∧ sumR n f + f n ≤ _
    grind
theorem sumR_two (f : Nat → Rat) : ∀ n : Nat, sumR (2 * n) f = sumR n (fun j => f (2 * j)) + sumR n (fun j => f (2 * j + 1))
  | 0 => by show (0 : Rat) = 0 + 0; grind
  | n + 1 => by
    show sumR (2 * n) f + f (2 * n) + f (2 * n + 1) = sumR n (fun j => f (2 * j)) + f (2 * n) + (sumR n (fun j => f (2 * j + 1)) + f (2 * n + 1))
    rw [sumR_two f n]; grind
/-- The exact sums. -/
def Dr (b : Bool) (m : Nat) (Y Z : Nat → Rat) (k : Nat) : Rat := sumR (2 ^ m) fun j => Y j * tr (k * j * 2 ^ (6 - m)) - Z j * ti b (k * j * 2 ^ (6 - m))
def Di (b : Bool) (m : Nat) (Y Z : Nat → Rat) (k : Nat) : Rat := sumR (2 ^ m) fun j => Y j * ti b (k * j * 2 ^ (6 - m)) + Z j * tr (k * j * 2 ^ (6 - m))
def Br (b : Bool) (m : Nat) (Y Z : Nat → Rat) (k : Nat) : Rat := sumR (2 ^ m) fun j => Y (2 * j + 1) * tr (k * (2 * j + 1) * 2 ^ (5 - m)) - Z (2 * j + 1) * ti b (k * (2 * j + 1) * 2 ^ (5 - m))
def Bi (b : Bool) (m : Nat) (Y Z : Nat → Rat) (k : Nat) : Rat := sumR (2 ^ m) fun j => Y (2 * j + 1) * ti b (k * (2 * j + 1) * 2 ^ (5 - m)) + Z (2 * j + 1) * tr (k * (2 * j + 1) * 2 ^ (5 - m))
theorem pw_cd {m : Nat} (hm : m < 6) : ∃ c d, 2 ^ (5 - m) = c ∧ 2 ^ m = d ∧ 2 ^ (6 - m) = 2 * c ∧ d * c = 32 ∧ 2 ^ (6 - (m + 1)) = c := by
  refine ⟨_, _, rfl, rfl, ?_, ?_, ?_⟩
  · rw [show 6 - m = 5 - m + 1 by omega, Nat.pow_succ, Nat.mul_comm]
  · rw [← Nat.pow_add, show m + (5 - m) = 5 by omega]
  · rw [show 6 - (m + 1) = 5 - m by omega]
theorem D_low (b : Bool) {m : Nat} (hm : m < 6) (Y Z : Nat → Rat) (k : Nat) :
    Dr b (m + 1) Y Z k = Dr b m (fun j => Y (2 * j)) (fun j => Z (2 * j)) k + Br b m Y Z k ∧ Di b (m + 1) Y Z k = Di b m (fun j => Y (2 * j)) (fun j => Z (2 * j)) k + Bi b m Y Z k := by
  obtain ⟨c, d, hc, hd, h2, hcd, h6⟩ := pw_cd hm
  unfold Dr Di Br Bi
  rw [Nat.pow_succ, Nat.mul_comm (2 ^ m), sumR_two, sumR_two, h6, h2, hc]
  have e : ∀ j, k * (2 * j) * c = k * j * (2 * c) := fun j => by grind
  simp only [e]
  exact ⟨trivial, trivial⟩
theorem D_high (b : Bool) {m : Nat} (hm : m < 6) (Y Z : Nat → Rat) (k : Nat) :
    Dr b (m + 1) Y Z (k + 2 ^ m) = Dr b m (fun j => Y (2 * j)) (fun j => Z (2 * j)) k - Br b m Y Z k ∧ Di b (m + 1) Y Z (k + 2 ^ m) = Di b m (fun j => Y (2 * j)) (fun j => Z (2 * j)) k - Bi b m Y Z k := by
  obtain ⟨c, d, hc, hd, h2, hcd, h6⟩ := pw_cd hm
  unfold Dr Di Br Bi
  rw [Nat.pow_succ, Nat.mul_comm (2 ^ m) 2, sumR_two, sumR_two, h6, h2, hc, hd]
  have e : ∀ j, (k + d) * (2 * j) * c = k * j * (2 * c) + 64 * j := fun j => by
    rw [show (k + d) * (2 * j) * c = k * j * (2 * c) + 2 * j * (d * c) by grind, hcd]; omega
  have o : ∀ j, (k + d) * (2 * j + 1) * c = k * (2 * j + 1) * c + 32 + 64 * j := fun j => by
    rw [show (k + d) * (2 * j + 1) * c = k * (2 * j + 1) * c + (2 * j + 1) * (d * c) by grind, hcd]; omega
  simp only [e, o, tr_per, ti_per, tr_half, ti_half]
  have n1 : ∀ j, Y (2 * j + 1) * -tr (k * (2 * j + 1) * c) - Z (2 * j + 1) * -ti b (k * (2 * j + 1) * c) = -(Y (2 * j + 1) * tr (k * (2 * j + 1) * c) - Z (2 * j + 1) * ti b (k * (2 * j + 1) * c)) := fun j => by grind
  have n2 : ∀ j, Y (2 * j + 1) * -ti b (k * (2 * j + 1) * c) + Z (2 * j + 1) * -tr (k * (2 * j + 1) * c) = -(Y (2 * j + 1) * ti b (k * (2 * j + 1) * c) + Z (2 * j + 1) * tr (k * (2 * j + 1) * c)) := fun j => by grind
  simp only [n1, n2, sumR_neg]
  constructor <;> grind
/-- The odd places' sums by the one turn. -/
theorem odd_near (b : Bool) {m : Nat} (hm : m < 6) {Y Z : Nat → Rat} {M : Rat} (hY : ∀ j, j < 2 ^ (m + 1) → Bd (Y j) M ∧ Bd (Z j) M) (k : Nat) :
    Nr (tr (k * 2 ^ (5 - m)) * Dr b m (fun j => Y (2 * j + 1)) (fun j => Z (2 * j + 1)) k - ti b (k * 2 ^ (5 - m)) * Di b m (fun j => Y (2 * j + 1)) (fun j => Z (2 * j + 1)) k) (Br b m Y Z k) (((2 ^ m : Nat) : Rat) * (M * (4 / 1152921504606846976))) ∧
    Nr (tr (k * 2 ^ (5 - m)) * Di b m (fun j => Y (2 * j + 1)) (fun j => Z (2 * j + 1)) k + ti b (k * 2 ^ (5 - m)) * Dr b m (fun j => Y (2 * j + 1)) (fun j => Z (2 * j + 1)) k) (Bi b m Y Z k) (((2 ^ m : Nat) : Rat) * (M * (4 / 1152921504606846976))) := by
  obtain ⟨c, d, hc, hd, h2, hcd, h6⟩ := pw_cd hm
  unfold Dr Di Br Bi
  rw [h2, hc]
  have hp : 2 ^ (m + 1) = 2 * 2 ^ m := by rw [Nat.pow_succ]; omega
  constructor
  · rw [← sumR_mul, ← sumR_mul, ← sumR_sub]
    refine sumR_near fun j hj => ?_
    dsimp only
    obtain ⟨y, z⟩ := hY (2 * j + 1) (by omega)
    obtain ⟨t1, t2⟩ := t_mul b (k * c) (k * j * (2 * c))
    rw [show k * c + k * j * (2 * c) = k * (2 * j + 1) * c by grind] at t1 t2
    have q1 := mul_Bd y t1.bd
    have q2 := mul_Bd z t2.bd
    generalize tr (k * c) = a1 at *
    generalize ti b (k * c) = a2 at *
    generalize tr (k * j * (2 * c)) = a3 at *
    generalize ti b (k * j * (2 * c)) = a4 at *
    generalize tr (k * (2 * j + 1) * c) = a5 at *
    generalize ti b (k * (2 * j + 1) * c) = a6 at *
    generalize Y (2 * j + 1) = y1 at *
    generalize Z (2 * j + 1) = z1 at *
    unfold Bd at q1 q2
    unfold Nr
    constructor <;> grind
  · rw [← sumR_mul, ← sumR_mul, ← sumR_add]
    refine sumR_near fun j hj => ?_
    dsimp only
    obtain ⟨y, z⟩ := hY (2 * j + 1) (by omega)
    obtain ⟨t1, t2⟩ := t_mul b (k * c) (k * j * (2 * c))
    rw [show k * c + k * j * (2 * c) = k * (2 * j + 1) * c by grind] at t1 t2
    have q1 := mul_Bd y t2.bd
    have q2 := mul_Bd z t1.bd
    generalize tr (k * c) = a1 at *
    generalize ti b (k * c) = a2 at *
    generalize tr (k * j * (2 * c)) = a3 at *
    generalize ti b (k * j * (2 * c)) = a4 at *
    generalize tr (k * (2 * j + 1) * c) = a5 at *
    generalize ti b (k * (2 * j + 1) * c) = a6 at *
    generalize Y (2 * j + 1) = y1 at *
    generalize Z (2 * j + 1) = z1 at *
    unfold Bd at q1 q2
    unfold Nr
    constructor <;> grind
theorem D_Bd (b : Bool) {m : Nat} {Y Z : Nat → Rat} {M : Rat} (hY : ∀ j, j < 2 ^ m → Bd (Y j) M ∧ Bd (Z j) M) (k : Nat) :
    Bd (Dr b m Y Z k) (((2 ^ m : Nat) : Rat) * (2 * M)) ∧ Bd (Di b m Y Z k) (((2 ^ m : Nat) : Rat) * (2 * M)) := by
  unfold Dr Di
  constructor
  · refine sumR_Bd fun j hj => ?_
    obtain ⟨y, z⟩ := hY j hj
    have q1 := mul_Bd y (tr_Bd (k * j * 2 ^ (6 - m)))
    have q2 := mul_Bd z (ti_Bd b (k * j * 2 ^ (6 - m)))
    exact (q1.sub q2).le (by grind)
  · refine sumR_Bd fun j hj => ?_
    obtain ⟨y, z⟩ := hY j hj
    have q1 := mul_Bd y (ti_Bd b (k * j * 2 ^ (6 - m)))
    have q2 := mul_Bd z (tr_Bd (k * j * 2 ^ (6 - m)))
    exact (q1.add q2).le (by grind)
end Go.Proofs.Ytnhgicdmlcnpkaa
