/- Floats as whole numbers of least parts: their order, and what is exact. -/
import Derived.Test.YtpmmabaecldmkaaGreatSlabB
import Derived.Test.YtpmmabaecldmkaaGreatFltOrd
import Derived.Test.YtpmmabaecldmkaaGreatSolidA
import Derived.Test.YtpmmabaecldmkaaGreatMade
import Derived.Test.YtpmmabaecldmkaaGreatLin
import Derived.Test.YtpmmabaecldmkaaGreatTab
import Derived.Test.YtpmmabaecldmkaaGreatReelAllA
namespace Go.Proofs.YtpmmabaecldmkaaGreat
open Go.RowKit Ev Ieee
set_option linter.unusedVariables false
set_option linter.unusedSimpArgs false
namespace Flt
theorem log2_shl (n k : Nat) (h : n ≠ 0) : (n <<< k).log2 = n.log2 + k := by
  induction k with
  | zero => simp
  | succ k ih =>
    have e : n <<< (k + 1) = 2 * (n <<< k) := by rw [Nat.shiftLeft_eq, Nat.shiftLeft_eq, Nat.pow_succ, ← Nat.mul_assoc, Nat.mul_comm]
    have h' : n <<< k ≠ 0 := by rw [Nat.shiftLeft_eq]; exact Nat.mul_ne_zero h (by have := Nat.two_pow_pos k; omega)
    rw [e, Nat.log2_two_mul h', ih]; omega
theorem cut_shift (neg : Bool) (n drop k : Nat) (hn : n ≠ 0) : Toward.even.cut neg (n <<< k) (drop + k) = Toward.even.cut neg n drop := by
  have hl := log2_shl n k hn
  unfold Toward.cut
  have hg : min (drop + k) ((n <<< k).log2 + 2) = min drop (n.log2 + 2) + k := by omega
  simp only [hg]
  generalize min drop (n.log2 + 2) = g
  have e : 1 <<< (g + k) = (1 <<< g) * 2 ^ k := by simp [Nat.shiftLeft_eq, Nat.pow_add]
  rw [e, Nat.shiftLeft_eq n k, Nat.mul_div_mul_right _ _ (Nat.two_pow_pos k), Nat.mul_mod_mul_right]
  have p := Nat.two_pow_pos k
  generalize 1 <<< g = G
  have c1 : (G * 2 ^ k < 2 * (n % G * 2 ^ k)) = (G < 2 * (n % G)) := by rw [← Nat.mul_assoc]; exact propext (Nat.mul_lt_mul_right p)
  have c2 : (G * 2 ^ k == 2 * (n % G * 2 ^ k)) = (G == 2 * (n % G)) := by
    rw [← Nat.mul_assoc]
    rw [Bool.eq_iff_iff, beq_iff_eq, beq_iff_eq]
    exact ⟨fun h => Nat.eq_of_mul_eq_mul_right p h, fun h => congrArg (· * 2 ^ k) h⟩
  simp only [c1, c2]

theorem near_shift (f : Format) (neg : Bool) (m k : Nat) (place : Int) : f.nearest neg (m <<< k) place = f.nearest neg m (place + k) := by
  rcases Nat.eq_zero_or_pos m with rfl | h0
  · simp [Format.nearest]
  have hn : m ≠ 0 := by omega
  have hs : m <<< k ≠ 0 := by rw [Nat.shiftLeft_eq]; exact Nat.mul_ne_zero hn (by have := Nat.two_pow_pos k; omega)
  have hl := log2_shl m k hn
  unfold Format.nearest
  rw [if_neg hn, if_neg hs, hl]
  have e : place + ((m.log2 + k : Nat) : Int) - f.fractionBits = place + (k : Int) + (m.log2 : Int) - f.fractionBits := by omega
  rw [e]
  generalize max (place + (k : Int) + (m.log2 : Int) - f.fractionBits) f.leastPlace = last
  have hc : Toward.even.cut neg ((m <<< k) <<< (place - last).toNat) (last - place).toNat = Toward.even.cut neg (m <<< (place + k - last).toNat) (last - (place + k)).toNat := by
    rw [← Nat.shiftLeft_add]
    by_cases h1 : last ≤ place
    · rw [show (last - place).toNat = 0 by omega, show (last - (place + k)).toNat = 0 by omega, show k + (place - last).toNat = (place + k - last).toNat by omega]
    · by_cases h2 : last ≤ place + k
      · rw [show (place - last).toNat = 0 by omega, show (last - (place + k)).toNat = 0 by omega]
        have : m <<< (k + 0) = (m <<< (place + k - last).toNat) <<< (last - place).toNat := by rw [← Nat.shiftLeft_add]; congr 1; omega
        rw [this]
        have h3 := cut_shift neg (m <<< (place + k - last).toNat) 0 (last - place).toNat (by rw [Nat.shiftLeft_eq]; exact Nat.mul_ne_zero hn (by have := Nat.two_pow_pos (place + k - last).toNat; omega))
        rw [Nat.zero_add] at h3
        exact h3
      · rw [show (place - last).toNat = 0 by omega, show (place + k - last).toNat = 0 by omega]
        have h3 := cut_shift neg m (last - (place + k)).toNat k hn
        rw [show (last - (place + k)).toNat + k = (last - place).toNat by omega] at h3
        exact h3
  simp only [hc]
theorem read_word (s : Bool) (r : Nat) (h : r < 2047 * 4503599627370496) : double.read (double.word s r) = if r < 4503599627370496 then .number s r (-1074) else .number s (4503599627370496 + r % 4503599627370496) (-1074 + (r / 4503599627370496 - 1 : Nat)) := by
  have w : double.signWeight = 9223372036854775808 := by decide +kernel
  have b : double.binade = 4503599627370496 := by decide +kernel
  have f : double.infRung = 2047 * 4503599627370496 := by decide +kernel
  have l : double.leastPlace = -1074 := by decide +kernel
  unfold Format.read Format.word
  rw [w, b, f, l]
  have e1 : ((if s = true then 9223372036854775808 + r else r) / 9223372036854775808 % 2 == 1) = s := by cases s <;> simp <;> omega
  have e2 : (if s = true then 9223372036854775808 + r else r) % 9223372036854775808 = r := by cases s <;> simp <;> omega
  simp only [e1, e2]
  split
  · rfl
  all_goals first | rfl | (rw [if_pos h])

theorem kept_le (neg : Bool) (m : Nat) (i last : Int) (hm : m ≠ 0) (hl : i + m.log2 - 52 ≤ last) : Toward.even.cut neg (m <<< (i - last).toNat) (last - i).toNat ≤ 9007199254740992 := by
  have h1 := log2_shl m (i - last).toNat hm
  generalize hn : m <<< (i - last).toNat = n at *
  have h2 : n < 2 ^ (n.log2 + 1) := Nat.lt_log2_self
  unfold Toward.cut
  have hg : n.log2 + 1 ≤ 53 + min (last - i).toNat (n.log2 + 2) := by omega
  generalize min (last - i).toNat (n.log2 + 2) = g at hg
  have h3 : n < 2 ^ g * 9007199254740992 := by
    refine Nat.lt_of_lt_of_le h2 ?_
    rw [show (9007199254740992 : Nat) = 2 ^ 53 from rfl, ← Nat.pow_add]
    exact Nat.pow_le_pow_right (by omega) (by omega)
  have h4 : n / 1 <<< g < 9007199254740992 := by
    rw [Nat.shiftLeft_eq, Nat.one_mul]; exact Nat.div_lt_of_lt_mul h3
  have h5 : ∀ b : Bool, b.toNat ≤ 1 := fun b => by cases b <;> decide
  simp only
  exact Nat.le_trans (Nat.add_le_add_left (h5 _) _) (by omega)

theorem nearest_eq (neg : Bool) (m : Nat) (i : Int) (hm : m ≠ 0) : double.nearest neg m i = double.word neg (min ((max (i + m.log2 - 52) (-1074) + 1074).toNat * 4503599627370496 + Toward.even.cut neg (m <<< (i - max (i + m.log2 - 52) (-1074)).toNat) (max (i + m.log2 - 52) (-1074) - i).toNat) (2047 * 4503599627370496)) := by
  have b : double.binade = 4503599627370496 := by decide +kernel
  have f : double.infRung = 2047 * 4503599627370496 := by decide +kernel
  have l : double.leastPlace = -1074 := by decide +kernel
  unfold Format.nearest
  rw [if_neg hm, b, f, l]
  simp only [Int.sub_neg]
  rfl

theorem read_finite (s : Bool) (m : Nat) (i : Int) (h : i + m.log2 ≤ 1000) : ∃ m' p, double.read (double.nearest s m i) = .number s m' p := by
  by_cases hm : m = 0
  · subst hm
    have : double.nearest s 0 i = double.word s 0 := by simp [Format.nearest]
    rw [this, read_word s 0 (by omega), if_pos (by omega)]
    exact ⟨_, _, rfl⟩
  rw [nearest_eq s m i hm]
  have hk := kept_le s m i (max (i + m.log2 - 52) (-1074)) hm (by omega)
  generalize Toward.even.cut s (m <<< (i - max (i + m.log2 - 52) (-1074)).toNat) (max (i + m.log2 - 52) (-1074) - i).toNat = kept at hk
  have hlast : (max (i + m.log2 - 52) (-1074) + 1074).toNat ≤ 2022 := by omega
  generalize (max (i + m.log2 - 52) (-1074) + 1074).toNat = q at hlast
  have hr : q * 4503599627370496 + kept < 2047 * 4503599627370496 := by omega
  rw [Nat.min_eq_left (by omega), read_word s _ hr]
  split <;> exact ⟨_, _, rfl⟩

/-- What a word can bear is written without loss. -/
theorem read_exact (s : Bool) (m : Nat) (i : Int) (hm : m < 9007199254740992) (h0 : -1074 ≤ i) (h1 : i ≤ 900) : ∃ d p, double.read (double.nearest s m i) = .number s (m <<< d) p ∧ p + (d : Int) = i := by
  by_cases h : m = 0
  · subst h
    have : double.nearest s 0 i = double.word s 0 := by simp [Format.nearest]
    rw [this, read_word s 0 (by omega), if_pos (by omega)]
    exact ⟨(i + 1074).toNat, -1074, by simp, by omega⟩
  have hl : m.log2 ≤ 52 := by
    have := (Nat.log2_lt h (k := 53)).2 hm
    omega
  rw [nearest_eq s m i h]
  have hk := kept_le s m i (max (i + m.log2 - 52) (-1074)) h (by omega)
  obtain ⟨last, hlast⟩ : ∃ last, last = max (i + m.log2 - 52) (-1074) := ⟨_, rfl⟩
  rw [← hlast] at hk ⊢
  have z : (last - i).toNat = 0 := by omega
  rw [z] at hk ⊢
  have hc : Toward.even.cut s (m <<< (i - last).toNat) 0 = m <<< (i - last).toNat := by
    unfold Toward.cut
    simp [Nat.mod_one]
  rw [hc] at hk ⊢
  have hsl := log2_shl m (i - last).toNat h
  have hnz : m <<< (i - last).toNat ≠ 0 := by rw [Nat.shiftLeft_eq]; exact Nat.mul_ne_zero h (by have := Nat.two_pow_pos (i - last).toNat; omega)
  have hlt : m <<< (i - last).toNat < 9007199254740992 := by
    have h2 : m <<< (i - last).toNat < 2 ^ ((m <<< (i - last).toNat).log2 + 1) := Nat.lt_log2_self
    refine Nat.lt_of_lt_of_le h2 ?_
    rw [show (9007199254740992 : Nat) = 2 ^ 53 from rfl]
    exact Nat.pow_le_pow_right (by omega) (by omega)
  have hge : last ≠ -1074 → 4503599627370496 ≤ m <<< (i - last).toNat := fun hne => by
    have h2 := Nat.log2_self_le hnz
    refine Nat.le_trans ?_ h2
    rw [show (4503599627370496 : Nat) = 2 ^ 52 from rfl]
    exact Nat.pow_le_pow_right (by omega) (by omega)
  refine ⟨(i - last).toNat, last, ?_, by omega⟩
  generalize m <<< (i - last).toNat = n at *
  have hq : (last + 1074).toNat ≤ 1974 := by omega
  rw [Nat.min_eq_left (by omega), read_word s _ (by omega)]
  by_cases hL : last = -1074
  · rw [hL]
    simp only [show ((-1074 : Int) + 1074).toNat = 0 from rfl, Nat.zero_mul, Nat.zero_add]
    split
    · rfl
    · congr 1
      · omega
      · have : n / 4503599627370496 = 1 := by omega
        rw [this]; rfl
  · have hge' := hge hL
    rw [if_neg (by omega)]
    have hq1 : 1 ≤ (last + 1074).toNat := by omega
    congr 1
    · omega
    · have : ((last + 1074).toNat * 4503599627370496 + n) / 4503599627370496 = (last + 1074).toNat + 1 := by omega
      rw [this]; omega
theorem fop_add_comm (x y : Nat) : fop .add x y = fop .add y x := by
  show ((double.read x).sum (double.read y)).map double.write = ((double.read y).sum (double.read x)).map double.write
  have : ∀ d e : Datum, d.sum e = e.sum d := by
    intro d e
    cases d <;> cases e <;> simp only [Datum.sum]
    case number.number s m i t n j => rw [Int.min_comm i j, Int.add_comm, Bool.and_comm]
    case infinity.infinity s t =>
      by_cases h : s = t
      · subst h; rfl
      · rw [if_neg h, if_neg (Ne.symm h)]
  rw [this]
theorem fop_mul_comm (x y : Nat) : fop .mul x y = fop .mul y x := by
  show ((double.read x).product (double.read y)).map double.write = ((double.read y).product (double.read x)).map double.write
  have : ∀ d e : Datum, d.product e = e.product d := by
    intro d e
    cases d <;> cases e <;> simp only [Datum.product]
    case number.number s m i t n j => rw [Bool.xor_comm s t, Nat.mul_comm, Int.add_comm]
    case infinity.infinity s t => rw [Bool.xor_comm]
  rw [this]
theorem F_add_comm (x y : Nat) : F .add x y = F .add y x := by unfold F; rw [fop_add_comm]
theorem F_mul_comm (x y : Nat) : F .mul x y = F .mul y x := by unfold F; rw [fop_mul_comm]
/-- A number that is near stands for a small number. -/
def Small (x : Nat) : Prop := ∃ s m i, double.read x = .number s m i ∧ m < 9007199254740992 ∧ -1074 ≤ i ∧ i ≤ 900 ∧ i + m.log2 ≤ 40
theorem Small.notN {x : Nat} (h : Small x) : isN x = false := by
  obtain ⟨s, m, i, e, _⟩ := h
  unfold isN; rw [e]; rfl
theorem cn_notN {x : Nat} (h : isN x = false) : cn x = x := by unfold cn; rw [if_neg (by rw [h]; exact Bool.false_ne_true)]
theorem read_form {x : Nat} {s : Bool} {m : Nat} {i : Int} (h : double.read x = .number s m i) : m < 9007199254740992 ∧ -1074 ≤ i ∧ (i ≠ -1074 → 4503599627370496 ≤ m) ∧ i ≤ 900 + 2000 := by
  have w : double.signWeight = 9223372036854775808 := by decide +kernel
  have b : double.binade = 4503599627370496 := by decide +kernel
  have f : double.infRung = 2047 * 4503599627370496 := by decide +kernel
  have l : double.leastPlace = -1074 := by decide +kernel
  unfold Format.read at h
  rw [w, b, f, l] at h
  simp only at h
  split at h
  · simp only [Datum.number.injEq] at h; obtain ⟨-, rfl, rfl⟩ := h; omega
  · split at h
    · simp only [Datum.number.injEq] at h; obtain ⟨-, rfl, rfl⟩ := h; omega
    · split at h <;> cases h
theorem read_1e6 : double.read 4696837146684686336 = .number false 8589934592000000 (-33) := by decide +kernel
theorem read_n1e6 : double.read 13920209183539462144 = .number true 8589934592000000 (-33) := by decide +kernel
theorem near_small {x : Nat} (h : nearB x = true) : Small x := by
  unfold nearB fgt feq flt at h
  simp only [Bool.and_eq_true, Bool.or_eq_true, beq_iff_eq] at h
  obtain ⟨h1, h2⟩ := h
  replace h1 : (double.read x).order (double.read 13920209183539462144) = some .gt ∨ (double.read x).order (double.read 13920209183539462144) = some .eq := h1
  replace h2 : (double.read x).order (double.read 4696837146684686336) = some .lt ∨ (double.read x).order (double.read 4696837146684686336) = some .eq := h2
  rw [read_n1e6] at h1
  rw [read_1e6] at h2
  cases hx : double.read x with
  | nan s t => rw [hx] at h1; simp [Datum.order] at h1
  | infinity s => rw [hx] at h1 h2; cases s <;> simp [Datum.order] at h1 h2
  | number s m i =>
    rw [hx] at h1 h2
    obtain ⟨g1, g2, g3, _⟩ := read_form hx
    refine ⟨s, m, i, hx, g1, g2, ?_⟩
    by_cases hi : i ≤ -33
    · refine ⟨by omega, ?_⟩
      have : m.log2 ≤ 52 := by
        by_cases h : m = 0
        · subst h; decide
        · have := (Nat.log2_lt h (k := 53)).2 g1
          omega
      omega
    · exfalso
      have hm := g3 (by omega)
      simp only [Datum.order, Option.some.injEq] at h1 h2
      rw [Int.compare_eq_gt, Int.compare_eq_eq] at h1
      rw [Int.compare_eq_lt, Int.compare_eq_eq] at h2
      have e : min i (-33) = -33 := by omega
      rw [e] at h1 h2
      have e2 : (i - -33).toNat = (i + 33).toNat := by omega
      have p := Nat.two_pow_pos ((i + 33).toNat - 1)
      have e3 : m <<< (i - -33).toNat = 2 * (m * 2 ^ ((i + 33).toNat - 1)) := by
        rw [e2, Nat.shiftLeft_eq]
        obtain ⟨k, hk⟩ : ∃ k, (i + 33).toNat = k + 1 := ⟨(i + 33).toNat - 1, by omega⟩
        rw [hk, Nat.pow_succ]
        simp [Nat.mul_comm, Nat.mul_left_comm]
      have e4 : 4503599627370496 * 1 ≤ m * 2 ^ ((i + 33).toNat - 1) := Nat.mul_le_mul hm p
      unfold signed at h1 h2
      rw [e3] at h1 h2
      generalize m * 2 ^ ((i + 33).toNat - 1) = M at *
      simp at h1 h2
      cases s <;> simp at h1 h2 <;> omega
theorem fine_small {a b c : Nat} (h : fineB a b c = true) : Small a ∧ Small b ∧ Small c := by
  unfold fineB at h
  simp only [Bool.and_eq_true] at h
  exact ⟨near_small h.1.1, near_small h.1.2, near_small h.2⟩
theorem Small.cn {x : Nat} (h : Small x) : cn x = x := cn_notN h.notN

theorem signed_add (s : Bool) (m a b : Nat) : signed s m (a + b) = signed s m a * (2 ^ b : Nat) := by
  unfold signed
  rw [Nat.shiftLeft_add, Nat.shiftLeft_eq (m <<< a)]
  cases s
  · simp
  · simp [Int.neg_mul]
theorem signed_abs (s : Bool) (m a : Nat) : (signed s m a).natAbs = m <<< a := by
  unfold signed
  cases s
  · exact Int.natAbs_natCast _
  · exact (Int.natAbs_neg _).trans (Int.natAbs_natCast _)
/-- The whole number of least parts that a float is. -/
def V (x : Nat) : Int := match double.read x with | .number s m i => signed s m (i + 1074).toNat | _ => 0
def Fin (x : Nat) : Prop := ∃ s m i, double.read x = .number s m i
theorem V_of {x : Nat} {s : Bool} {m : Nat} {i : Int} (h : double.read x = .number s m i) : V x = signed s m (i + 1074).toNat := by unfold V; rw [h]
theorem Small.fin {x : Nat} (h : Small x) : Fin x := by obtain ⟨s, m, i, e, _⟩ := h; exact ⟨s, m, i, e⟩
theorem Fin.notN {x : Nat} (h : Fin x) : isN x = false := by
  obtain ⟨s, m, i, e⟩ := h
  unfold isN; rw [e]; rfl
theorem compare_scale (a b : Int) {c : Int} (hc : 0 < c) : compare (a * c) (b * c) = compare a b := by
  rcases Int.lt_trichotomy a b with h | h | h
  · rw [Int.compare_eq_lt.2 h, Int.compare_eq_lt]; exact Int.mul_lt_mul_of_pos_right h hc
  · subst h; rw [Int.compare_eq_eq.2 rfl, Int.compare_eq_eq.2 rfl]
  · rw [Int.compare_eq_gt.2 h, Int.compare_eq_gt]; exact Int.mul_lt_mul_of_pos_right h hc
theorem order_V {x y : Nat} (hx : Fin x) (hy : Fin y) : double.order x y = some (compare (V x) (V y)) := by
  obtain ⟨s, m, i, ex⟩ := hx
  obtain ⟨t, n, j, ey⟩ := hy
  obtain ⟨_, i0, _⟩ := read_form ex
  obtain ⟨_, j0, _⟩ := read_form ey
  rw [V_of ex, V_of ey]
  unfold Format.order
  rw [ex, ey]
  simp only [Datum.order, Option.some.injEq]
  generalize hb : min i j = b
  rw [show (i + 1074).toNat = (i - b).toNat + (b + 1074).toNat by omega, show (j + 1074).toNat = (j - b).toNat + (b + 1074).toNat by omega, signed_add, signed_add]
  exact (compare_scale _ _ (by have := Nat.two_pow_pos (b + 1074).toNat; omega)).symm
theorem feq_V {x y : Nat} (hx : Fin x) (hy : Fin y) : feq x y = decide (V x = V y) := by
  have e : FloatKind.f64.format.order x y = some (compare (V x) (V y)) := order_V hx hy
  unfold feq; rw [e]
  rcases Int.lt_trichotomy (V x) (V y) with h | h | h
  · rw [Int.compare_eq_lt.2 h, decide_eq_false (by omega)]; rfl
  · rw [Int.compare_eq_eq.2 h, decide_eq_true h]; rfl
  · rw [Int.compare_eq_gt.2 h, decide_eq_false (by omega)]; rfl
theorem flt_V {x y : Nat} (hx : Fin x) (hy : Fin y) : flt x y = decide (V x < V y) := by
  have e : FloatKind.f64.format.order x y = some (compare (V x) (V y)) := order_V hx hy
  unfold flt; rw [e]
  rcases Int.lt_trichotomy (V x) (V y) with h | h | h
  · rw [Int.compare_eq_lt.2 h, decide_eq_true h]; rfl
  · rw [Int.compare_eq_eq.2 h, decide_eq_false (by omega)]; rfl
  · rw [Int.compare_eq_gt.2 h, decide_eq_false (by omega)]; rfl
theorem F_some {op : BinOp} {x y r : Nat} (h : fop op x y = some r) (hr : isN r = false) : F op x y = r := by
  unfold F; rw [h]; exact cn_notN hr
/-- What is written of a number that a word can bear. -/
theorem nearest_V (s : Bool) {m : Nat} {i : Int} (hm : m < 9007199254740992) (h0 : -1074 ≤ i) (h1 : i ≤ 900) : Fin (double.nearest s m i) ∧ V (double.nearest s m i) = signed s m (i + 1074).toNat := by
  obtain ⟨d, p, e, hp⟩ := read_exact s m i hm h0 h1
  refine ⟨⟨_, _, _, e⟩, ?_⟩
  obtain ⟨_, p0, _⟩ := read_form e
  rw [V_of e]
  unfold signed
  rw [← Nat.shiftLeft_add, show d + (p + 1074).toNat = (i + 1074).toNat by omega]
/-- A small number: its parts are few enough. -/
def Low (x : Nat) : Prop := ∃ s m i, double.read x = .number s m i ∧ i ≤ 900
theorem Low.fin {x : Nat} (h : Low x) : Fin x := by obtain ⟨s, m, i, e, _⟩ := h; exact ⟨s, m, i, e⟩
theorem Small.low {x : Nat} (h : Small x) : Low x := by obtain ⟨s, m, i, e, _, _, h1, _⟩ := h; exact ⟨s, m, i, e, h1⟩
theorem exact_low (s : Bool) {m : Nat} {i : Int} (hm : m < 9007199254740992) (h0 : -1074 ≤ i) (h1 : i ≤ 900) : Low (double.nearest s m i) := by
  obtain ⟨d, p, e, hp⟩ := read_exact s m i hm h0 h1
  exact ⟨_, _, _, e, by omega⟩
theorem mul_one {x : Nat} (h : Low x) : Low (F .mul 4607182418800017408 x) ∧ V (F .mul 4607182418800017408 x) = V x := by
  obtain ⟨s, m, i, e, hi⟩ := h
  obtain ⟨hm, i0, _⟩ := read_form e
  have r1 : double.read 4607182418800017408 = .number false 4503599627370496 (-52) := by decide +kernel
  have ef : fop .mul 4607182418800017408 x = some (double.nearest s m i) := by
    show ((double.read _).product (double.read x)).map double.write = _
    rw [r1, e]
    simp only [Datum.product, Option.map_some, Format.write, Bool.false_xor]
    rw [show 4503599627370496 * m = m <<< 52 by rw [Nat.shiftLeft_eq, Nat.mul_comm], near_shift, show -52 + i + ((52 : Nat) : Int) = i by omega]
  obtain ⟨hf, hv⟩ := nearest_V s hm i0 hi
  rw [F_some ef hf.notN]
  exact ⟨exact_low s hm i0 hi, by rw [hv, V_of e]⟩
theorem signed_not (s : Bool) (m k : Nat) : signed (!s) m k = - signed s m k := by cases s <;> simp [signed]
theorem mul_neg {x : Nat} (h : Low x) : Low (F .mul 13830554455654793216 x) ∧ V (F .mul 13830554455654793216 x) = - V x := by
  obtain ⟨s, m, i, e, hi⟩ := h
  obtain ⟨hm, i0, _⟩ := read_form e
  have r1 : double.read 13830554455654793216 = .number true 4503599627370496 (-52) := by decide +kernel
  have ef : fop .mul 13830554455654793216 x = some (double.nearest (!s) m i) := by
    show ((double.read _).product (double.read x)).map double.write = _
    rw [r1, e]
    simp only [Datum.product, Option.map_some, Format.write, Bool.true_xor]
    rw [show 4503599627370496 * m = m <<< 52 by rw [Nat.shiftLeft_eq, Nat.mul_comm], near_shift, show -52 + i + ((52 : Nat) : Int) = i by omega]
  obtain ⟨hf, hv⟩ := nearest_V (!s) hm i0 hi
  rw [F_some ef hf.notN]
  exact ⟨exact_low (!s) hm i0 hi, by rw [hv, V_of e, signed_not]⟩
/-- Nought, of whichever sign. -/
def Zr (x : Nat) : Prop := x = 0 ∨ x = 9223372036854775808
theorem Zr.read {x : Nat} (h : Zr x) : ∃ s, double.read x = .number s 0 (-1074) := by
  rcases h with rfl | rfl
  · exact ⟨false, by decide +kernel⟩
  · exact ⟨true, by decide +kernel⟩
theorem Zr.low {x : Nat} (h : Zr x) : Low x := by obtain ⟨s, e⟩ := h.read; exact ⟨_, _, _, e, by decide⟩
theorem zr_word (s : Bool) : Zr (double.word s 0) := by
  have w : double.signWeight = 9223372036854775808 := by decide +kernel
  unfold Format.word Zr; rw [w]; cases s <;> simp
theorem near_0 (s : Bool) (i : Int) : double.nearest s 0 i = double.word s 0 := by simp [Format.nearest]
theorem Zr.notN {x : Nat} (h : Zr x) : isN x = false := h.low.fin.notN
theorem mul_zero {z x : Nat} (hz : Zr z) (h : Low x) : Zr (F .mul z x) := by
  obtain ⟨s, m, i, e, hi⟩ := h
  obtain ⟨t, ez⟩ := hz.read
  have ef : fop .mul z x = some (double.word (t ^^ s) 0) := by
    show ((double.read _).product (double.read x)).map double.write = _
    rw [ez, e]
    simp only [Datum.product, Option.map_some, Format.write, Nat.zero_mul, near_0]
  rw [F_some ef (zr_word _).notN]
  exact zr_word _
theorem signed_0 (s : Bool) (k : Nat) : signed s 0 k = 0 := by unfold signed; cases s <;> simp
theorem add_zero {x z : Nat} (h : Low x) (hz : Zr z) : Low (F .add x z) ∧ V (F .add x z) = V x := by
  obtain ⟨s, m, i, e, hi⟩ := h
  obtain ⟨hm, i0, _⟩ := read_form e
  obtain ⟨t, ez⟩ := hz.read
  have ef : fop .add x z = some (double.nearest (if m = 0 then s && t else s) m i) := by
    show ((double.read x).sum (double.read z)).map double.write = _
    rw [ez, e]
    simp only [Datum.sum, Option.map_some, Format.write, Option.some.injEq]
    rw [show min i (-1074) = -1074 by omega, signed_0, Int.add_zero, show (i - -1074).toNat = (i + 1074).toNat by omega, signed_abs, near_shift, show (-1074 : Int) + ((i + 1074).toNat : Nat) = i by omega]
    congr 1
    have p := Nat.two_pow_pos (i + 1074).toNat
    by_cases h0 : m = 0
    · subst h0; rw [signed_0, if_pos rfl, if_pos rfl]
    · have pm : 0 < m <<< (i + 1074).toNat := by rw [Nat.shiftLeft_eq]; exact Nat.mul_pos (by omega) p
      have hab := signed_abs s m (i + 1074).toNat
      have hne : signed s m (i + 1074).toNat ≠ 0 := by omega
      rw [if_neg h0, if_neg hne]
      cases s
      · exact decide_eq_false (by show ¬ ((m <<< (i + 1074).toNat : Nat) : Int) < 0; omega)
      · exact decide_eq_true (by show -((m <<< (i + 1074).toNat : Nat) : Int) < 0; omega)
  obtain ⟨hf, hv⟩ := nearest_V (if m = 0 then s && t else s) hm i0 hi
  rw [F_some ef hf.notN]
  refine ⟨exact_low _ hm i0 hi, ?_⟩
  rw [hv, V_of e]
  by_cases h0 : m = 0
  · subst h0; rw [signed_0, signed_0]
  · rw [if_neg h0]
theorem zero_add {x z : Nat} (h : Low x) (hz : Zr z) : Low (F .add z x) ∧ V (F .add z x) = V x := by
  rw [F_add_comm]; exact add_zero h hz
theorem zero_zero {x z : Nat} (h : Zr x) (hz : Zr z) : Zr (F .add x z) := by
  obtain ⟨s, e⟩ := h.read
  obtain ⟨t, ez⟩ := hz.read
  have ef : fop .add x z = some (double.word (s && t) 0) := by
    show ((double.read x).sum (double.read z)).map double.write = _
    rw [ez, e]
    simp only [Datum.sum, Option.map_some, Format.write, signed_0]
    simp [near_0]
  rw [F_some ef (zr_word _).notN]
  exact zr_word _
end Flt
end Go.Proofs.YtpmmabaecldmkaaGreat
/- Rounding goes up with what is rounded: sums, differences and quotients of floats. -/
namespace Go.Proofs.YtpmmabaecldmkaaGreat
open Go.RowKit Ev Ieee
set_option linter.unusedVariables false
set_option linter.unusedSimpArgs false
namespace Flt
def rhe (n g : Nat) : Nat := n / g + if g < 2 * (n % g) ∨ (2 * (n % g) = g ∧ n / g % 2 = 1) then 1 else 0
theorem rhe_mono {m n g : Nat} (_ : 0 < g) (h : m ≤ n) : rhe m g ≤ rhe n g := by
  unfold rhe
  have h1 : m / g ≤ n / g := Nat.div_le_div_right h
  have e1 := Nat.div_add_mod m g
  have e2 := Nat.div_add_mod n g
  rcases Nat.lt_or_eq_of_le h1 with h2 | h2
  · split <;> split <;> omega
  · rw [h2] at e1 ⊢
    have : m % g ≤ n % g := by omega
    split <;> split <;> omega
theorem rhe_scale {n g c : Nat} (hc : 0 < c) : rhe (n * c) (g * c) = rhe n g := by
  unfold rhe
  rw [Nat.mul_div_mul_right _ _ hc, Nat.mul_mod_mul_right]
  have e1 : g * c < 2 * (n % g * c) ↔ g < 2 * (n % g) := by
    rw [← Nat.mul_assoc]; exact Nat.mul_lt_mul_right hc
  have e2 : 2 * (n % g * c) = g * c ↔ 2 * (n % g) = g := by
    rw [← Nat.mul_assoc]; exact Nat.mul_left_inj (by omega)
  simp only [e1, e2]
theorem rhe_le {n g n' g' : Nat} (hg : 0 < g) (hg' : 0 < g') (h : n * g' ≤ n' * g) : rhe n g ≤ rhe n' g' := by
  rw [← rhe_scale (n := n) (g := g) hg', ← rhe_scale (n := n') (g := g') hg, Nat.mul_comm g' g]
  exact rhe_mono (Nat.mul_pos hg hg') h
theorem rhe_eq {n g n' g' : Nat} (hg : 0 < g) (hg' : 0 < g') (h : n * g' = n' * g) : rhe n g = rhe n' g' :=
  Nat.le_antisymm (rhe_le hg hg' (Nat.le_of_eq h)) (rhe_le hg' hg (Nat.le_of_eq h.symm))
theorem rhe_upper {n g k : Nat} (hg : 0 < g) (h : n ≤ k * g) : rhe n g ≤ k := by
  have := rhe_mono hg h
  have e : rhe (k * g) g = k := by
    unfold rhe
    rw [Nat.mul_div_cancel _ hg, Nat.mul_mod_left]
    split <;> omega
  omega
theorem rhe_lower {n g k : Nat} (hg : 0 < g) (h : k * g ≤ n) : k ≤ rhe n g := by
  have := rhe_mono hg h
  have e : rhe (k * g) g = k := by
    unfold rhe
    rw [Nat.mul_div_cancel _ hg, Nat.mul_mod_left]
    split <;> omega
  omega
/-- A number with one digit for all that is left over is rounded as the number. -/
theorem rhe_sticky {X Y Z : Nat} (hY : 0 < Y) : rhe (2 * (X / Y) + (X % Y != 0).toNat) (2 * (2 * Z)) = rhe X (Y * (2 * Z)) := by
  obtain ⟨σ, hσ, hs, hs1⟩ : ∃ σ, (X % Y != 0).toNat = σ ∧ (σ = 0 ↔ X % Y = 0) ∧ σ ≤ 1 := by
    refine ⟨_, rfl, ?_⟩
    by_cases h : X % Y = 0
    · simp [h]
    · have : (X % Y != 0) = true := bne_iff_ne.2 h
      rw [this]; simp [h]
  rw [hσ]
  have hr : X % Y < Y := Nat.mod_lt _ hY
  have q1 : X / (Y * (2 * Z)) = X / Y / (2 * Z) := (Nat.div_div_eq_div_mul _ _ _).symm
  have q2 : X % (Y * (2 * Z)) = X % Y + Y * (X / Y % (2 * Z)) := Nat.mod_mul
  unfold rhe
  rw [q1, q2]
  generalize X / Y = q at *
  generalize X % Y = ρ at *
  have d0 : (2 * q + σ) / 2 = q := by omega
  have d1 : (2 * q + σ) / (2 * (2 * Z)) = q / (2 * Z) := by rw [← Nat.div_div_eq_div_mul, d0]
  have d2 : (2 * q + σ) % (2 * (2 * Z)) = 2 * (q % (2 * Z)) + σ := by rw [Nat.mod_mul, d0]; omega
  rw [d1, d2]
  generalize q % (2 * Z) = r
  generalize q / (2 * Z) = k
  have key : ∀ a b : Nat, a < b → Y * a + Y ≤ Y * b := fun a b h => by rw [← Nat.mul_succ]; exact Nat.mul_le_mul_left _ h
  have yz : Y * (2 * Z) = 2 * (Y * Z) := Nat.mul_left_comm _ _ _
  rw [yz]
  have e1 : 2 * (Y * Z) < 2 * (ρ + Y * r) ↔ 2 * (2 * Z) < 2 * (2 * r + σ) := by
    rcases Nat.lt_trichotomy Z r with h | h | h
    · have := key _ _ h; omega
    · subst h; omega
    · have := key _ _ h; omega
  have e2 : 2 * (ρ + Y * r) = 2 * (Y * Z) ↔ 2 * (2 * r + σ) = 2 * (2 * Z) := by
    rcases Nat.lt_trichotomy Z r with h | h | h
    · have := key _ _ h; omega
    · subst h; omega
    · have := key _ _ h; omega
  simp only [e1, e2]
theorem log_lt (n : Nat) : n < 2 ^ (n.log2 + 1) := Nat.lt_log2_self
theorem log_le {n : Nat} (h : n ≠ 0) : 2 ^ n.log2 ≤ n := Nat.log2_self_le h
/-- What the rounding does is this. -/
theorem cut_even (neg : Bool) (n drop : Nat) : Toward.even.cut neg n drop = rhe n (2 ^ drop) := by
  have key : Toward.even.cut neg n drop = rhe n (1 <<< min drop (n.log2 + 2)) := by
    unfold Toward.cut rhe
    simp only
    congr 1
    generalize 1 <<< min drop (n.log2 + 2) = g
    generalize n % g = r
    generalize n / g = k
    by_cases h1 : g < 2 * r
    · rw [if_pos (.inl h1), decide_eq_true h1]; rfl
    · rw [decide_eq_false h1, Bool.false_or]
      by_cases h2 : g = 2 * r ∧ k % 2 = 1
      · rw [if_pos (.inr ⟨h2.1.symm, h2.2⟩), show (g == 2 * r) = true from beq_iff_eq.2 h2.1, show (k % 2 == 1) = true from beq_iff_eq.2 h2.2]; rfl
      · rw [if_neg (by omega)]
        have : (g == 2 * r && k % 2 == 1) = false := by
          rw [Bool.eq_false_iff]; intro h; apply h2
          rw [Bool.and_eq_true, beq_iff_eq, beq_iff_eq] at h; exact h
        rw [this]; rfl
  rw [key, Nat.one_shiftLeft]
  by_cases h : drop ≤ n.log2 + 2
  · rw [Nat.min_eq_left h]
  · rw [Nat.min_eq_right (by omega)]
    have z : ∀ k, n.log2 + 2 ≤ k → rhe n (2 ^ k) = 0 := fun k hk => by
      have h1 := log_lt n
      have h2 : 2 ^ (n.log2 + 1 + 1) ≤ 2 ^ k := Nat.pow_le_pow_right (by omega) hk
      rw [Nat.pow_succ] at h2
      have h3 := Nat.two_pow_pos (n.log2 + 1)
      unfold rhe
      rw [Nat.div_eq_of_lt (by omega), Nat.mod_eq_of_lt (by omega)]
      split <;> omega
    rw [z _ (Nat.le_refl _), z _ (by omega)]
/-- P/D is in the t-th pair of binades (of B rungs each). -/
def Rng (B P D t : Nat) : Prop := (t = 0 ∧ P < 2 * B * D) ∨ (0 < t ∧ B * 2 ^ t * D ≤ P ∧ P < 2 * B * 2 ^ t * D)
def rung (B I P D t : Nat) : Nat := min (t * B + rhe P (D * 2 ^ t)) I
theorem Rng.upper {B P D t : Nat} (h : Rng B P D t) : P ≤ 2 * B * (D * 2 ^ t) := by
  rcases h with ⟨rfl, h⟩ | ⟨_, _, h⟩
  · rw [Nat.pow_zero, Nat.mul_one]; omega
  · rw [Nat.mul_comm D, ← Nat.mul_assoc]; omega
theorem rung_mono {B I P D t P' D' t' : Nat} (hD : 0 < D) (hD' : 0 < D') (h : P * D' ≤ P' * D) (hr : Rng B P D t) (hr' : Rng B P' D' t') : rung B I P D t ≤ rung B I P' D' t' := by
  have p1 : 0 < D * 2 ^ t := Nat.mul_pos hD (Nat.two_pow_pos t)
  have p2 : 0 < D' * 2 ^ t' := Nat.mul_pos hD' (Nat.two_pow_pos t')
  have main : t * B + rhe P (D * 2 ^ t) ≤ t' * B + rhe P' (D' * 2 ^ t') := by
    rcases Nat.lt_trichotomy t t' with c | c | c
    · have u1 : rhe P (D * 2 ^ t) ≤ 2 * B := rhe_upper p1 hr.upper
      have u2 : B ≤ rhe P' (D' * 2 ^ t') := by
        rcases hr' with ⟨rfl, _⟩ | ⟨_, h2, _⟩
        · omega
        · refine rhe_lower p2 ?_
          rw [Nat.mul_comm D', ← Nat.mul_assoc]; exact h2
      have u3 : (t + 1) * B ≤ t' * B := Nat.mul_le_mul_right _ c
      rw [Nat.succ_mul] at u3
      omega
    · subst c
      have := rhe_le p1 p2 (n := P) (n' := P') (by rw [← Nat.mul_assoc, ← Nat.mul_assoc]; exact Nat.mul_le_mul_right _ h)
      omega
    · exfalso
      rcases hr with ⟨rfl, _⟩ | ⟨_, h2, _⟩
      · omega
      · have a1 : 2 * B * 2 ^ t' * D ≤ B * 2 ^ t * D := by
          refine Nat.mul_le_mul_right _ ?_
          rw [Nat.mul_comm 2 B, Nat.mul_assoc, ← Nat.pow_succ']
          exact Nat.mul_le_mul_left _ (Nat.pow_le_pow_right (by omega) c)
        have a2 : P' < 2 * B * 2 ^ t' * D' := by
          rcases hr' with ⟨rfl, h3⟩ | ⟨_, _, h3⟩
          · rw [Nat.pow_zero, Nat.mul_one]; exact h3
          · exact h3
        have a3 : P' * D < 2 * B * 2 ^ t' * D' * D := Nat.mul_lt_mul_of_pos_right a2 hD
        have a4 : 2 * B * 2 ^ t' * D * D' ≤ P * D' := Nat.mul_le_mul_right _ (Nat.le_trans a1 h2)
        rw [Nat.mul_right_comm] at a4
        omega
  unfold rung
  omega
/-- Numbers of that many digits are in that pair. -/
theorem rng_log {P D t : Nat} {Λ b : Nat} (h1 : 2 ^ Λ * D ≤ P * 2 ^ b) (h2 : P * 2 ^ b < 2 ^ (Λ + 1) * D) (ht : (t = 0 ∧ Λ ≤ 52 + b) ∨ (0 < t ∧ Λ = 52 + t + b)) : Rng (2 ^ 52) P D t := by
  have p := Nat.two_pow_pos b
  unfold Rng
  generalize hB : 2 ^ 52 = B
  have hB2 : 2 * B = 2 ^ (52 + 1) := by rw [Nat.pow_succ, hB, Nat.mul_comm]
  rcases ht with ⟨h0, hl⟩ | ⟨h0, hl⟩
  · refine .inl ⟨h0, ?_⟩
    have h3 : 2 ^ (Λ + 1) * D ≤ 2 ^ (52 + 1 + b) * D := Nat.mul_le_mul_right _ (Nat.pow_le_pow_right (by omega) (by omega))
    rw [Nat.pow_add 2 (52 + 1) b, Nat.mul_right_comm, ← hB2] at h3
    exact Nat.lt_of_mul_lt_mul_right (Nat.lt_of_lt_of_le h2 h3)
  · refine .inr ⟨h0, ?_, ?_⟩
    · rw [hl, Nat.pow_add 2 (52 + t) b, Nat.mul_right_comm, Nat.pow_add 2 52 t, hB] at h1
      exact Nat.le_of_mul_le_mul_right h1 p
    · rw [show Λ + 1 = 52 + 1 + t + b by omega, Nat.pow_add 2 (52 + 1 + t) b, Nat.mul_right_comm, Nat.pow_add 2 (52 + 1) t, ← hB2] at h2
      exact Nat.lt_of_mul_lt_mul_right h2

abbrev II : Nat := 2047 * 4503599627370496
theorem p52 : (2 : Nat) ^ 52 = 4503599627370496 := by decide
theorem rung_zero (B I D : Nat) (hB : 0 < B) (hD : 0 < D) : Rng B 0 D 0 ∧ rung B I 0 D 0 = 0 := by
  refine ⟨.inl ⟨rfl, Nat.mul_pos (Nat.mul_pos (by decide) hB) hD⟩, ?_⟩
  unfold rung rhe
  rw [Nat.zero_div, Nat.zero_mod, Nat.pow_zero, Nat.mul_one]
  rw [if_neg (by omega)]
  omega
/-- A whole number of parts is written as the rung of a ratio. -/
theorem nearest_form (neg : Bool) (mag : Nat) (place : Int) : ∃ t, Rng (2 ^ 52) (mag * 2 ^ (place + 1074).toNat) (2 ^ (-1074 - place).toNat) t ∧
    double.nearest neg mag place = double.word neg (rung (2 ^ 52) II (mag * 2 ^ (place + 1074).toNat) (2 ^ (-1074 - place).toNat) t) := by
  by_cases h0 : mag = 0
  · subst h0
    obtain ⟨r1, r2⟩ := rung_zero (2 ^ 52) II (2 ^ (-1074 - place).toNat) (Nat.two_pow_pos _) (Nat.two_pow_pos _)
    rw [Nat.zero_mul]
    exact ⟨0, r1, by rw [r2, near_0]⟩
  rw [nearest_eq neg mag place h0]
  have h1 := log_lt mag
  have h2 := log_le h0
  generalize mag.log2 = Λ at *
  generalize hlast : max (place + (Λ : Int) - 52) (-1074) = last
  generalize hP : (place + 1074).toNat = a
  generalize hQ : (-1074 - place).toNat = b
  refine ⟨(last + 1074).toNat, ?_, ?_⟩
  · refine rng_log (Λ := Λ + a) (b := b) ?_ ?_ (by omega)
    · rw [Nat.pow_add, Nat.mul_assoc, Nat.mul_assoc]
      exact Nat.mul_le_mul_right _ h2
    · rw [show Λ + a + 1 = Λ + 1 + a by omega, Nat.pow_add _ (Λ + 1), Nat.mul_assoc, Nat.mul_assoc]
      exact Nat.mul_lt_mul_of_pos_right h1 (Nat.mul_pos (Nat.two_pow_pos _) (Nat.two_pow_pos _))
  · rw [cut_even, Nat.shiftLeft_eq, ← p52]
    unfold rung
    congr 3
    refine rhe_eq (Nat.two_pow_pos _) (Nat.mul_pos (Nat.two_pow_pos _) (Nat.two_pow_pos _)) ?_
    rw [Nat.mul_assoc, Nat.mul_assoc, ← Nat.pow_add, ← Nat.pow_add, ← Nat.pow_add]
    congr 2
    omega
/-- A quotient is written as the rung of the ratio. -/
theorem quo_form {x y : Nat} {s t : Bool} {m n : Nat} {i j : Int} (hx : double.read x = .number s m i) (hy : double.read y = .number t n j) (hn : n ≠ 0) :
    ∃ τ, Rng (2 ^ 52) (m * 2 ^ (i - j + 1074).toNat) (n * 2 ^ (j - i - 1074).toNat) τ ∧ fop .quo x y = some (double.word (s ^^ t) (rung (2 ^ 52) II (m * 2 ^ (i - j + 1074).toNat) (n * 2 ^ (j - i - 1074).toNat) τ)) := by
  have hf : double.fractionBits + 2 = 54 := by decide +kernel
  have ef : fop .quo x y = some (double.nearest (s ^^ t) (2 * (m <<< (54 + n.log2 - m.log2) / n) + (m <<< (54 + n.log2 - m.log2) % n != 0).toNat) (i - j - (54 + n.log2 - m.log2 : Nat) - 1)) := by
    show ((double.read x).quotient (double.fractionBits + 2) (double.read y)).map double.write = _
    rw [hx, hy, hf]
    simp only [Datum.quotient]
    rw [if_neg hn]
    rfl
  rw [ef]
  have hn0 : 0 < n := by omega
  by_cases h0 : m = 0
  · subst h0
    obtain ⟨r1, r2⟩ := rung_zero (2 ^ 52) II (n * 2 ^ (j - i - 1074).toNat) (Nat.two_pow_pos _) (Nat.mul_pos hn0 (Nat.two_pow_pos _))
    rw [Nat.zero_mul]
    refine ⟨0, r1, ?_⟩
    rw [r2, Nat.zero_shiftLeft, Nat.zero_div, Nat.zero_mod]
    exact congrArg some (near_0 _ _)
  generalize hmore : 54 + n.log2 - m.log2 = more
  rw [Nat.shiftLeft_eq]
  have m1 := log_le h0
  have n1 := log_lt n
  generalize n.log2 = N at *
  generalize m.log2 = M at *
  generalize hX : m * 2 ^ more = X
  have hXl : 2 ^ 53 * n ≤ X := by
    have a1 : 2 ^ M * 2 ^ more ≤ X := by rw [← hX]; exact Nat.mul_le_mul_right _ m1
    have a2 : 2 ^ 53 * n ≤ 2 ^ 53 * 2 ^ (N + 1) := Nat.mul_le_mul_left _ (Nat.le_of_lt n1)
    have a3 : (2 : Nat) ^ 53 * 2 ^ (N + 1) ≤ 2 ^ M * 2 ^ more := by
      rw [← Nat.pow_add, ← Nat.pow_add]
      exact Nat.pow_le_pow_right (by omega) (by omega)
    exact Nat.le_trans a2 (Nat.le_trans a3 a1)
  obtain ⟨σ, hσ, hσ1⟩ : ∃ σ, (X % n != 0).toNat = σ ∧ σ ≤ 1 := ⟨_, rfl, by cases (X % n != 0) <;> decide⟩
  have hq : 2 ^ 53 ≤ X / n := (Nat.le_div_iff_mul_le hn0).2 hXl
  have hm0 : 2 * (X / n) + σ ≠ 0 := by have := Nat.two_pow_pos 53; omega
  have hmag : 2 ^ 54 ≤ 2 * (X / n) + σ := by have : (2 : Nat) ^ 54 = 2 ^ 53 * 2 := Nat.pow_succ .. ; omega
  have l1 := log_lt (2 * (X / n) + σ)
  have l2 := log_le hm0
  have hΛ : 54 ≤ (2 * (X / n) + σ).log2 := by
    have : 2 ^ 54 < 2 ^ ((2 * (X / n) + σ).log2 + 1) := Nat.lt_of_le_of_lt hmag l1
    have := (Nat.pow_lt_pow_iff_right (by decide)).1 this
    omega
  rw [nearest_eq _ _ _ (by rw [hσ]; exact hm0), hσ]
  generalize hΛ' : (2 * (X / n) + σ).log2 = Λ at *
  obtain ⟨K, rfl⟩ : ∃ K, Λ = K + 1 := ⟨Λ - 1, by omega⟩
  have k1 : 2 ^ K * n ≤ X := by
    refine (Nat.le_div_iff_mul_le hn0).1 ?_
    rw [Nat.pow_succ] at l2; omega
  have k2 : X < 2 ^ (K + 1) * n := by
    refine (Nat.div_lt_iff_lt_mul hn0).1 ?_
    rw [Nat.pow_succ 2 (K + 1)] at l1; omega
  generalize hlast : max (i - j - (more : Int) - 1 + ((K + 1 : Nat) : Int) - 52) (-1074) = last
  generalize hP : (i - j + 1074).toNat = a
  generalize hQ : (j - i - 1074).toNat = b
  refine ⟨(last + 1074).toNat, ?_, ?_⟩
  · refine rng_log (Λ := K + a) (b := more + b) ?_ ?_ (by omega)
    · have e1 : m * 2 ^ a * 2 ^ (more + b) = X * (2 ^ a * 2 ^ b) := by rw [← hX, Nat.pow_add]; simp only [Nat.mul_assoc, Nat.mul_left_comm, Nat.mul_comm]
      have e2 : 2 ^ (K + a) * (n * 2 ^ b) = 2 ^ K * n * (2 ^ a * 2 ^ b) := by rw [Nat.pow_add]; simp only [Nat.mul_assoc, Nat.mul_left_comm, Nat.mul_comm]
      rw [e1, e2]
      exact Nat.mul_le_mul_right _ k1
    · have e1 : m * 2 ^ a * 2 ^ (more + b) = X * (2 ^ a * 2 ^ b) := by rw [← hX, Nat.pow_add]; simp only [Nat.mul_assoc, Nat.mul_left_comm, Nat.mul_comm]
      have e2 : 2 ^ (K + a + 1) * (n * 2 ^ b) = 2 ^ (K + 1) * n * (2 ^ a * 2 ^ b) := by rw [show K + a + 1 = K + 1 + a by omega, Nat.pow_add]; simp only [Nat.mul_assoc, Nat.mul_left_comm, Nat.mul_comm]
      rw [e1, e2]
      exact Nat.mul_lt_mul_of_pos_right k2 (Nat.mul_pos (Nat.two_pow_pos _) (Nat.two_pow_pos _))
  · rw [cut_even, ← p52, show (i - j - (more : Int) - 1 - last).toNat = 0 by omega, Nat.shiftLeft_zero, ← hσ]
    obtain ⟨d, hd⟩ : ∃ d, (last - (i - j - (more : Int) - 1)).toNat = d + 2 := ⟨(last - (i - j - (more : Int) - 1)).toNat - 2, by omega⟩
    rw [hd, show (2 : Nat) ^ (d + 2) = 2 * (2 * 2 ^ d) by rw [Nat.pow_succ, Nat.pow_succ]; omega, rhe_sticky hn0]
    unfold rung
    congr 4
    refine rhe_eq (Nat.mul_pos hn0 (Nat.mul_pos (by decide) (Nat.two_pow_pos _))) (Nat.mul_pos (Nat.mul_pos hn0 (Nat.two_pow_pos _)) (Nat.two_pow_pos _)) ?_
    have e1 : X * (n * 2 ^ b * 2 ^ (last + 1074).toNat) = m * n * 2 ^ (more + b + (last + 1074).toNat) := by rw [← hX, Nat.pow_add, Nat.pow_add]; simp only [Nat.mul_assoc, Nat.mul_left_comm, Nat.mul_comm]
    have e2 : m * 2 ^ a * (n * (2 * 2 ^ d)) = m * n * 2 ^ (a + (d + 1)) := by rw [Nat.pow_add, Nat.pow_succ]; simp only [Nat.mul_assoc, Nat.mul_left_comm, Nat.mul_comm]
    rw [e1, e2]
    congr 2
    omega
end Flt
end Go.Proofs.YtpmmabaecldmkaaGreat
/- Floats in their order: a whole number for each; differences and quotients go up with what they are of. -/
namespace Go.Proofs.YtpmmabaecldmkaaGreat
open Go.RowKit Ev Ieee
set_option linter.unusedVariables false
set_option linter.unusedSimpArgs false
namespace Flt

def sg (s : Bool) (n : Nat) : Int := if s then -(n : Int) else n
/-- The place of a float in their order. -/
def key (x : Nat) : Int := sg (x / 9223372036854775808 % 2 == 1) (x % 9223372036854775808)
theorem key_word (s : Bool) {r : Nat} (h : r ≤ II) : key (double.word s r) = sg s r := by
  have w : double.signWeight = 9223372036854775808 := by decide +kernel
  unfold key Format.word
  rw [w]
  have h : r ≤ 9218868437227405312 := h
  have e1 : ((if s = true then 9223372036854775808 + r else r) / 9223372036854775808 % 2 == 1) = s := by cases s <;> simp <;> omega
  have e2 : (if s = true then 9223372036854775808 + r else r) % 9223372036854775808 = r := by cases s <;> simp <;> omega
  rw [e1, e2]
/-- How many parts the number on a rung has. -/
def Vr (r : Nat) : Nat := if r < 4503599627370496 then r else (4503599627370496 + r % 4503599627370496) * 2 ^ (r / 4503599627370496 - 1)
theorem Vr_succ (r : Nat) : Vr r < Vr (r + 1) := by
  unfold Vr
  by_cases h0 : r + 1 < 4503599627370496
  · rw [if_pos h0, if_pos (by omega)]; omega
  by_cases h1 : r < 4503599627370496
  · obtain rfl : r = 4503599627370495 := by omega
    rw [if_pos h1, if_neg h0]; decide
  rw [if_neg h0, if_neg h1]
  have hr := Nat.div_add_mod r 4503599627370496
  have hm := Nat.mod_lt r (show 0 < 4503599627370496 by decide)
  have hq : 1 ≤ r / 4503599627370496 := by omega
  generalize r / 4503599627370496 = q at *
  generalize r % 4503599627370496 = f at *
  obtain ⟨q, rfl⟩ : ∃ k, q = k + 1 := ⟨q - 1, by omega⟩
  subst hr
  have p := Nat.two_pow_pos q
  by_cases h2 : f + 1 < 4503599627370496
  · have d1 : (4503599627370496 * (q + 1) + f + 1) / 4503599627370496 = q + 1 := by omega
    have d2 : (4503599627370496 * (q + 1) + f + 1) % 4503599627370496 = f + 1 := by omega
    rw [d1, d2]
    exact Nat.mul_lt_mul_of_pos_right (by omega) p
  · have d1 : (4503599627370496 * (q + 1) + f + 1) / 4503599627370496 = q + 2 := by omega
    have d2 : (4503599627370496 * (q + 1) + f + 1) % 4503599627370496 = 0 := by omega
    rw [d1, d2, show q + 2 - 1 = q + 1 by omega, show q + 1 - 1 = q by omega, Nat.pow_succ]
    have e : (4503599627370496 + 0) * (2 ^ q * 2) = (2 * 4503599627370496) * 2 ^ q := by rw [Nat.add_zero, Nat.mul_comm (2 ^ q) 2, ← Nat.mul_assoc, Nat.mul_comm 2]
    rw [e]
    exact Nat.mul_lt_mul_of_pos_right (by omega) p
theorem Vr_lt {r r' : Nat} (h : r < r') : Vr r < Vr r' := by
  induction r' with
  | zero => omega
  | succ n ih =>
    rcases Nat.lt_or_eq_of_le (Nat.le_of_lt_succ h) with h' | h'
    · exact Nat.lt_trans (ih h') (Vr_succ n)
    · subst h'; exact Vr_succ _
theorem Vr_0 : Vr 0 = 0 := by unfold Vr; rfl
theorem Vr_cmp {r r' : Nat} : (Vr r < Vr r' ↔ r < r') ∧ (Vr r = Vr r' ↔ r = r') := by
  rcases Nat.lt_trichotomy r r' with h | h | h
  · have := Vr_lt h; omega
  · subst h; omega
  · have := Vr_lt h; omega
theorem sg_cmp (s t : Bool) (r r' : Nat) : (sg s (Vr r) < sg t (Vr r') ↔ sg s r < sg t r') ∧ (sg s (Vr r) = sg t (Vr r') ↔ sg s r = sg t r') := by
  have h1 := @Vr_cmp r r'
  have h2 := @Vr_cmp r' r
  have h3 := @Vr_cmp 0 r
  have h4 := @Vr_cmp 0 r'
  rw [Vr_0] at h3 h4
  unfold sg
  cases s <;> cases t <;> simp only [if_true, if_false, Bool.false_eq_true] <;> omega
/-- What a word stands for, by its sign and rung. -/
theorem read_sr (x : Nat) : ∃ s r, key x = sg s r ∧ (r < II → ∃ m i, double.read x = .number s m i ∧ V x = sg s (Vr r)) ∧ (r = II → double.read x = .infinity s) ∧ (II < r → isN x = true) := by
  have w : double.signWeight = 9223372036854775808 := by decide +kernel
  have b : double.binade = 4503599627370496 := by decide +kernel
  have f : double.infRung = 9218868437227405312 := by decide +kernel
  have l : double.leastPlace = -1074 := by decide +kernel
  have hII : II = 9218868437227405312 := by decide
  refine ⟨x / 9223372036854775808 % 2 == 1, x % 9223372036854775808, rfl, ?_, ?_, ?_⟩
  · intro h
    rw [hII] at h
    have e : double.read x = if x % 9223372036854775808 < 4503599627370496 then .number (x / 9223372036854775808 % 2 == 1) (x % 9223372036854775808) (-1074) else .number (x / 9223372036854775808 % 2 == 1) (4503599627370496 + x % 9223372036854775808 % 4503599627370496) (-1074 + (x % 9223372036854775808 / 4503599627370496 - 1 : Nat)) := by
      unfold Format.read
      rw [w, b, f, l]
      simp only
      split
      · rfl
      · first | rfl | (rw [if_pos h])
    generalize (x / 9223372036854775808 % 2 == 1) = s at *
    generalize x % 9223372036854775808 = r at *
    have hs : ∀ m k : Nat, signed s m k = sg s (m * 2 ^ k) := fun m k => by
      unfold signed sg; rw [Nat.shiftLeft_eq]
    by_cases h1 : r < 4503599627370496
    · rw [if_pos h1] at e
      refine ⟨_, _, e, ?_⟩
      rw [V_of e, hs]
      unfold Vr; rw [if_pos h1]
      simp
    · rw [if_neg h1] at e
      refine ⟨_, _, e, ?_⟩
      rw [V_of e, hs]
      unfold Vr; rw [if_neg h1]
      congr 3
      omega
  · intro h
    rw [hII] at h
    unfold Format.read
    rw [w, b, f, l]
    simp only
    rw [if_neg (by omega), if_neg (by omega), if_pos h]
  · intro h
    rw [hII] at h
    unfold isN Format.read
    rw [w, b, f, l]
    simp only
    rw [if_neg (by omega), if_neg (by omega), if_neg (by omega)]
    rfl
theorem order_key {x y : Nat} (hx : isN x = false) (hy : isN y = false) : double.order x y = some (compare (key x) (key y)) := by
  obtain ⟨s, r, kx, x1, x2, x3⟩ := read_sr x
  obtain ⟨t, r', ky, y1, y2, y3⟩ := read_sr y
  have cmp : ∀ a b c d : Int, ((a < b ↔ c < d) ∧ (a = b ↔ c = d)) → compare a b = compare c d := fun a b c d h => by
    rcases Int.lt_trichotomy a b with g | g | g
    · rw [Int.compare_eq_lt.2 g, Int.compare_eq_lt.2 (h.1.1 g)]
    · rw [Int.compare_eq_eq.2 g, Int.compare_eq_eq.2 (h.2.1 g)]
    · rw [Int.compare_eq_gt.2 g, Int.compare_eq_gt.2 (by omega)]
  have hII : II = 9218868437227405312 := by decide
  rcases Nat.lt_trichotomy r II with a | a | a
  · obtain ⟨m, i, ex, vx⟩ := x1 a
    rcases Nat.lt_trichotomy r' II with c | c | c
    · obtain ⟨n, j, ey, vy⟩ := y1 c
      rw [order_V ⟨_, _, _, ex⟩ ⟨_, _, _, ey⟩, vx, vy, kx, ky]
      exact congrArg some (cmp _ _ _ _ (sg_cmp s t r r'))
    · unfold Format.order
      rw [ex, y2 c, kx, ky]
      simp only [Datum.order, Option.some.injEq]
      unfold sg
      cases t <;> cases s <;> simp only [if_true, if_false, Bool.false_eq_true] <;> first | (refine (Int.compare_eq_lt.2 ?_).symm; omega) | (refine (Int.compare_eq_gt.2 ?_).symm; omega)
    · rw [y3 c] at hy; cases hy
  · rcases Nat.lt_trichotomy r' II with c | c | c
    · obtain ⟨n, j, ey, vy⟩ := y1 c
      unfold Format.order
      rw [ey, x2 a, kx, ky]
      simp only [Datum.order, Option.some.injEq]
      unfold sg
      cases s <;> cases t <;> simp only [if_true, if_false, Bool.false_eq_true] <;> first | (refine (Int.compare_eq_lt.2 ?_).symm; omega) | (refine (Int.compare_eq_gt.2 ?_).symm; omega)
    · unfold Format.order
      rw [y2 c, x2 a, kx, ky, a, c]
      simp only [Datum.order, Option.some.injEq]
      cases s <;> cases t <;> decide +kernel
    · rw [y3 c] at hy; cases hy
  · rw [x3 a] at hx; cases hx
theorem flt_key {x y : Nat} (hx : isN x = false) (hy : isN y = false) : flt x y = decide (key x < key y) := by
  have e : FloatKind.f64.format.order x y = some (compare (key x) (key y)) := order_key hx hy
  unfold flt; rw [e]
  rcases Int.lt_trichotomy (key x) (key y) with h | h | h
  · rw [Int.compare_eq_lt.2 h, decide_eq_true h]; rfl
  · rw [Int.compare_eq_eq.2 h, decide_eq_false (by omega)]; rfl
  · rw [Int.compare_eq_gt.2 h, decide_eq_false (by omega)]; rfl
theorem feq_key {x y : Nat} (hx : isN x = false) (hy : isN y = false) : feq x y = decide (key x = key y) := by
  have e : FloatKind.f64.format.order x y = some (compare (key x) (key y)) := order_key hx hy
  unfold feq; rw [e]
  rcases Int.lt_trichotomy (key x) (key y) with h | h | h
  · rw [Int.compare_eq_lt.2 h, decide_eq_false (by omega)]; rfl
  · rw [Int.compare_eq_eq.2 h, decide_eq_true h]; rfl
  · rw [Int.compare_eq_gt.2 h, decide_eq_false (by omega)]; rfl
theorem fgt_key {x y : Nat} (hx : isN x = false) (hy : isN y = false) : fgt x y = decide (key y < key x) := by
  rw [fgt_flt, flt_key hy hx]
/-- The keys of finite floats stand as their numbers. -/
theorem V_key {x y : Nat} (hx : Fin x) (hy : Fin y) : (V x < V y ↔ key x < key y) ∧ (V x = V y ↔ key x = key y) := by
  have a := order_V hx hy
  have b := order_key hx.notN hy.notN
  rw [a, Option.some.injEq] at b
  rcases Int.lt_trichotomy (V x) (V y) with h | h | h
  · rw [Int.compare_eq_lt.2 h] at b; have := Int.compare_eq_lt.1 b.symm; omega
  · rw [Int.compare_eq_eq.2 h] at b; have := Int.compare_eq_eq.1 b.symm; omega
  · rw [Int.compare_eq_gt.2 h] at b; have := Int.compare_eq_gt.1 b.symm; omega
theorem rung_le (B I P D t : Nat) : rung B I P D t ≤ I := by unfold rung; omega
theorem word_ok (s : Bool) {r : Nat} (h : r ≤ II) : isN (double.word s r) = false := Go.Proofs.YtpmmabaecldmkaaGreat.word_notN s r h
theorem rng_0 {B D t : Nat} (hB : 0 < B) (hD : 0 < D) (h : Rng B 0 D t) : rung B II 0 D t = 0 := by
  rcases h with ⟨rfl, _⟩ | ⟨_, h, _⟩
  · exact (rung_zero B II D hB hD).2
  · have := Nat.mul_pos (Nat.mul_pos hB (Nat.two_pow_pos t)) hD
    omega
/-- A difference: its sign, and its rung. -/
theorem sub_form {x y : Nat} (hx : Fin x) (hy : Fin y) : ∃ t, Rng (2 ^ 52) (V x - V y).natAbs 1 t ∧ isN (F .sub x y) = false ∧ key (F .sub x y) = sg (decide (V x < V y)) (rung (2 ^ 52) II (V x - V y).natAbs 1 t) := by
  obtain ⟨s, m, i, ex⟩ := hx
  obtain ⟨t, n, j, ey⟩ := hy
  obtain ⟨_, i0, _⟩ := read_form ex
  obtain ⟨_, j0, _⟩ := read_form ey
  have e0 : fop .sub x y = some (double.nearest (if signed s m (i - min i j).toNat + signed (!t) n (j - min i j).toNat = 0 then s && !t else decide (signed s m (i - min i j).toNat + signed (!t) n (j - min i j).toNat < 0)) (signed s m (i - min i j).toNat + signed (!t) n (j - min i j).toNat).natAbs (min i j)) := by
    show ((double.read x).sum (double.read y).opposite).map double.write = _
    rw [ex, ey]
    rfl
  have hd : (signed s m (i - min i j).toNat + signed (!t) n (j - min i j).toNat) * (2 ^ (min i j + 1074).toNat : Nat) = V x - V y := by
    rw [V_of ex, V_of ey, Int.add_mul, ← signed_add, ← signed_add, signed_not, show (i - min i j).toNat + (min i j + 1074).toNat = (i + 1074).toNat by omega, show (j - min i j).toNat + (min i j + 1074).toNat = (j + 1074).toNat by omega]
    omega
  have p : (0 : Int) < (2 ^ (min i j + 1074).toNat : Nat) := by have := Nat.two_pow_pos (min i j + 1074).toNat; omega
  generalize signed s m (i - min i j).toNat + signed (!t) n (j - min i j).toNat = d at *
  have hb : (-1074 - min i j).toNat = 0 := by omega
  generalize hneg : (if d = 0 then s && !t else decide (d < 0)) = neg at e0
  obtain ⟨τ, hr, hn⟩ := nearest_form neg d.natAbs (min i j)
  have hab : d.natAbs * 2 ^ (min i j + 1074).toNat = (V x - V y).natAbs := by
    rw [← hd, Int.natAbs_mul]; rfl
  rw [hb, Nat.pow_zero, hab] at hr hn
  rw [hn] at e0
  have hw := word_ok neg (rung_le (2 ^ 52) II (V x - V y).natAbs 1 τ)
  refine ⟨τ, hr, ?_, ?_⟩
  · rw [F_some e0 hw]; exact hw
  · rw [F_some e0 hw, key_word _ (rung_le _ _ _ _ _)]
    rcases Int.lt_trichotomy d 0 with g | g | g
    · have : V x < V y := by
        have := Int.mul_neg_of_neg_of_pos g p; omega
      rw [decide_eq_true this, ← hneg, if_neg (by omega), decide_eq_true g]
    · have h0 : V x - V y = 0 := by rw [← hd, g, Int.zero_mul]
      rw [h0] at hr ⊢
      have e : rung (2 ^ 52) II (Int.natAbs 0) 1 τ = 0 := rng_0 (Nat.two_pow_pos _) (by decide) hr
      rw [e]
      unfold sg
      split <;> split <;> rfl
    · have : ¬ V x < V y := by
        have := Int.mul_pos g p; omega
      rw [decide_eq_false this, ← hneg, if_neg (by omega), decide_eq_false (by omega)]
theorem sg_mono {a b : Int} {r r' : Nat} (hab : a ≤ b) (h1 : a.natAbs ≤ b.natAbs → r ≤ r') (h2 : b.natAbs ≤ a.natAbs → r' ≤ r) : sg (decide (a < 0)) r ≤ sg (decide (b < 0)) r' := by
  unfold sg
  by_cases ha : a < 0
  · by_cases hb : b < 0
    · rw [decide_eq_true ha, decide_eq_true hb, if_pos rfl, if_pos rfl]
      have := h2 (by omega); omega
    · rw [decide_eq_true ha, decide_eq_false hb, if_pos rfl, if_neg (by decide)]; omega
  · rw [decide_eq_false ha, decide_eq_false (show ¬ b < 0 by omega), if_neg (by decide), if_neg (by decide)]
    have := h1 (by omega); omega
/-- A difference goes up with what is taken from. -/
theorem sub_mono {x x' y : Nat} (hx : Fin x) (hx' : Fin x') (hy : Fin y) (h : key x ≤ key x') : isN (F .sub x y) = false ∧ isN (F .sub x' y) = false ∧ key (F .sub x y) ≤ key (F .sub x' y) := by
  obtain ⟨t, r1, n1, k1⟩ := sub_form hx hy
  obtain ⟨t', r2, n2, k2⟩ := sub_form hx' hy
  refine ⟨n1, n2, ?_⟩
  have hv := V_key hx hx'
  rw [k1, k2, show decide (V x < V y) = decide (V x - V y < 0) from decide_eq_decide.2 (by omega), show decide (V x' < V y) = decide (V x' - V y < 0) from decide_eq_decide.2 (by omega)]
  refine sg_mono (by omega) (fun g => ?_) (fun g => ?_)
  · exact rung_mono (by decide) (by decide) (by rw [Nat.mul_one, Nat.mul_one]; exact g) r1 r2
  · exact rung_mono (by decide) (by decide) (by rw [Nat.mul_one, Nat.mul_one]; exact g) r2 r1
/-- A quotient: its sign, and its rung. -/
theorem quo_key {x y : Nat} {s t : Bool} {m n : Nat} {i j : Int} (hx : double.read x = .number s m i) (hy : double.read y = .number t n j) (hn : n ≠ 0) :
    ∃ τ, Rng (2 ^ 52) (m * 2 ^ (i - j + 1074).toNat) (n * 2 ^ (j - i - 1074).toNat) τ ∧ isN (F .quo x y) = false ∧ key (F .quo x y) = sg (s ^^ t) (rung (2 ^ 52) II (m * 2 ^ (i - j + 1074).toNat) (n * 2 ^ (j - i - 1074).toNat) τ) := by
  obtain ⟨τ, r, e⟩ := quo_form hx hy hn
  have hw := word_ok (s ^^ t) (rung_le (2 ^ 52) II (m * 2 ^ (i - j + 1074).toNat) (n * 2 ^ (j - i - 1074).toNat) τ)
  exact ⟨τ, r, by rw [F_some e hw]; exact hw, by rw [F_some e hw, key_word _ (rung_le _ _ _ _ _)]⟩
theorem ratio_le {m m' n : Nat} {i i' j : Int} (i0 : -1074 ≤ i) (i0' : -1074 ≤ i') (j0 : -1074 ≤ j) (h : m * 2 ^ (i + 1074).toNat ≤ m' * 2 ^ (i' + 1074).toNat) :
    m * 2 ^ (i - j + 1074).toNat * (n * 2 ^ (j - i' - 1074).toNat) ≤ m' * 2 ^ (i' - j + 1074).toNat * (n * 2 ^ (j - i - 1074).toNat) := by
  generalize ha : (i - j + 1074).toNat = a
  generalize hb : (j - i - 1074).toNat = b
  generalize ha' : (i' - j + 1074).toNat = a'
  generalize hb' : (j - i' - 1074).toNat = b'
  generalize hJ : (j + 1074).toNat = J
  have h1 : m * 2 ^ (i + 1074).toNat * 2 ^ (b + b' + 1074) ≤ m' * 2 ^ (i' + 1074).toNat * 2 ^ (b + b' + 1074) := Nat.mul_le_mul_right _ h
  rw [Nat.mul_assoc, Nat.mul_assoc, ← Nat.pow_add, ← Nat.pow_add, show (i + 1074).toNat + (b + b' + 1074) = a + b' + J by omega, show (i' + 1074).toNat + (b + b' + 1074) = a' + b + J by omega, Nat.pow_add 2 (a + b') J, Nat.pow_add 2 (a' + b) J, ← Nat.mul_assoc, ← Nat.mul_assoc] at h1
  have h2 := Nat.le_of_mul_le_mul_right h1 (Nat.two_pow_pos J)
  have e1 : m * 2 ^ a * (n * 2 ^ b') = m * 2 ^ (a + b') * n := by rw [Nat.pow_add]; simp only [Nat.mul_assoc, Nat.mul_left_comm, Nat.mul_comm]
  have e2 : m' * 2 ^ a' * (n * 2 ^ b) = m' * 2 ^ (a' + b) * n := by rw [Nat.pow_add]; simp only [Nat.mul_assoc, Nat.mul_left_comm, Nat.mul_comm]
  rw [e1, e2]
  exact Nat.mul_le_mul_right _ h2
theorem sg_up {s s' : Bool} {a b r r' : Nat} (h : sg s a ≤ sg s' b) (h1 : a ≤ b → r ≤ r') (h2 : b ≤ a → r' ≤ r) (z : a = 0 → r = 0) (z' : b = 0 → r' = 0) : sg s r ≤ sg s' r' := by
  unfold sg at *
  cases s <;> cases s' <;> simp only [if_true, if_false, Bool.false_eq_true] at *
  · have := h1 (by omega); omega
  · have := z (by omega); have := z' (by omega); omega
  · omega
  · have := h2 (by omega); omega
theorem sg_not (s : Bool) (r : Nat) : sg (!s) r = - sg s r := by unfold sg; cases s <;> simp
/-- A quotient goes up with what is divided, or down, as what it is divided by is above or below nought. -/
theorem quo_mono {x x' y : Nat} (hx : Fin x) (hx' : Fin x') (hy : Fin y) (h : key x ≤ key x') (hz : V y ≠ 0) : isN (F .quo x y) = false ∧ isN (F .quo x' y) = false ∧ (0 < V y → key (F .quo x y) ≤ key (F .quo x' y)) ∧ (V y < 0 → key (F .quo x' y) ≤ key (F .quo x y)) := by
  have hv := V_key hx hx'
  have hv : V x ≤ V x' := by omega
  obtain ⟨s, m, i, ex⟩ := hx
  obtain ⟨s', m', i', ex'⟩ := hx'
  obtain ⟨t, n, j, ey⟩ := hy
  obtain ⟨_, i0, _⟩ := read_form ex
  obtain ⟨_, i0', _⟩ := read_form ex'
  obtain ⟨_, j0, _⟩ := read_form ey
  have hn : n ≠ 0 := by
    rintro rfl
    exact hz (by rw [V_of ey, signed_0])
  obtain ⟨τ, r1, n1, k1⟩ := quo_key ex ey hn
  obtain ⟨τ', r2, n2, k2⟩ := quo_key ex' ey hn
  have hs : ∀ (s : Bool) (m k : Nat), signed s m k = sg s (m * 2 ^ k) := fun s m k => by
    unfold signed sg; rw [Nat.shiftLeft_eq]
  have yt : (t = true ↔ V y < 0) ∧ (t = false ↔ 0 < V y) := by
    rw [V_of ey, hs]
    have p := Nat.mul_pos (Nat.pos_of_ne_zero hn) (Nat.two_pow_pos (j + 1074).toNat)
    generalize n * 2 ^ (j + 1074).toNat = N at *
    unfold sg
    cases t
    · exact ⟨⟨fun h => (by cases h), fun h => (by rw [if_neg (by decide)] at h; omega)⟩, ⟨fun _ => (by rw [if_neg (by decide)]; omega), fun _ => rfl⟩⟩
    · exact ⟨⟨fun _ => (by rw [if_pos rfl]; omega), fun _ => rfl⟩, ⟨fun h => (by cases h), fun h => (by rw [if_pos rfl] at h; omega)⟩⟩
  rw [V_of ex, V_of ex', hs, hs] at hv
  have d1 : 0 < n * 2 ^ (j - i - 1074).toNat := Nat.mul_pos (Nat.pos_of_ne_zero hn) (Nat.two_pow_pos _)
  have d2 : 0 < n * 2 ^ (j - i' - 1074).toNat := Nat.mul_pos (Nat.pos_of_ne_zero hn) (Nat.two_pow_pos _)
  have z : ∀ {m : Nat} {k k2 τ : Nat} {D : Nat}, 0 < D → Rng (2 ^ 52) (m * 2 ^ k2) D τ → m * 2 ^ k = 0 → rung (2 ^ 52) II (m * 2 ^ k2) D τ = 0 := fun {m k k2 τ D} hD hr h => by
    have : m = 0 := by
      rcases Nat.mul_eq_zero.1 h with h | h
      · exact h
      · have := Nat.two_pow_pos k; omega
    subst this
    rw [Nat.zero_mul] at hr ⊢
    exact rng_0 (Nat.two_pow_pos _) hD hr
  have key0 : sg s (rung (2 ^ 52) II (m * 2 ^ (i - j + 1074).toNat) (n * 2 ^ (j - i - 1074).toNat) τ) ≤ sg s' (rung (2 ^ 52) II (m' * 2 ^ (i' - j + 1074).toNat) (n * 2 ^ (j - i' - 1074).toNat) τ') :=
    sg_up hv (fun g => rung_mono d1 d2 (ratio_le i0 i0' j0 g) r1 r2) (fun g => rung_mono d2 d1 (ratio_le i0' i0 j0 g) r2 r1) (z d1 r1) (z d2 r2)
  refine ⟨n1, n2, fun g => ?_, fun g => ?_⟩
  · rw [k1, k2, yt.2.2 g, Bool.xor_false, Bool.xor_false]
    exact key0
  · rw [k1, k2, yt.1.2 g, Bool.xor_true, Bool.xor_true, sg_not, sg_not]
    omega
end Flt
end Go.Proofs.YtpmmabaecldmkaaGreat
/- How far the answer of a float's operation is from the exact one. -/
namespace Go.Proofs.YtpmmabaecldmkaaGreat
open Go.RowKit Ev Ieee
set_option linter.unusedVariables false
set_option linter.unusedSimpArgs false
set_option maxRecDepth 20000
namespace Flt

theorem rhe_near {P g : Nat} (hg : 0 < g) : 2 * (rhe P g * g) ≤ 2 * P + g ∧ 2 * P ≤ 2 * (rhe P g * g) + g := by
  unfold rhe
  have h := Nat.div_add_mod P g
  have hm := Nat.mod_lt P hg
  split
  · rename_i hc
    rw [Nat.add_mul, Nat.one_mul, Nat.mul_comm (P / g)]
    generalize g * (P / g) = a at *
    generalize P / g % 2 = b at *
    generalize P % g = r at *
    omega
  · rename_i hc
    rw [Nat.add_zero, Nat.mul_comm (P / g)]
    generalize g * (P / g) = a at *
    generalize P / g % 2 = b at *
    generalize P % g = r at *
    omega
theorem Vr_at {t q : Nat} (h1 : q ≤ 9007199254740992) (h2 : 0 < t → 4503599627370496 ≤ q) : Vr (t * 4503599627370496 + q) = q * 2 ^ t := by
  unfold Vr
  by_cases h0 : t = 0
  · subst h0
    rw [Nat.zero_mul, Nat.zero_add, Nat.pow_zero, Nat.mul_one]
    split
    · rfl
    · by_cases h : q = 9007199254740992
      · subst h; decide
      · rw [show q / 4503599627370496 - 1 = 0 by omega, Nat.pow_zero]; omega
  · have h2 := h2 (by omega)
    rw [if_neg (by omega)]
    by_cases h : q = 9007199254740992
    · subst h
      rw [show (t * 4503599627370496 + 9007199254740992) % 4503599627370496 = 0 by omega, show (t * 4503599627370496 + 9007199254740992) / 4503599627370496 - 1 = t + 1 by omega, Nat.pow_succ]
      omega
    · rw [show (t * 4503599627370496 + q) % 4503599627370496 = q - 4503599627370496 by omega, show (t * 4503599627370496 + q) / 4503599627370496 - 1 = t by omega, show 4503599627370496 + (q - 4503599627370496) = q by omega]
theorem rung_err {P D t κ : Nat} (hD : 0 < D) (h : Rng (2 ^ 52) P D t) (hκ : κ ≤ 1900) (hP : P ≤ 2 ^ κ * D) : rung (2 ^ 52) II P D t < II ∧
    9007199254740992 * (Vr (rung (2 ^ 52) II P D t) * D) ≤ 9007199254740992 * P + P + 4503599627370496 * D ∧ 9007199254740992 * P ≤ 9007199254740992 * (Vr (rung (2 ^ 52) II P D t) * D) + P + 4503599627370496 * D := by
  have hII : II = 9218868437227405312 := by decide
  have hg : 0 < D * 2 ^ t := Nat.mul_pos hD (Nat.two_pow_pos _)
  obtain ⟨n1, n2⟩ := rhe_near (P := P) hg
  have q1 : rhe P (D * 2 ^ t) ≤ 9007199254740992 := rhe_upper hg (by have := h.upper; rw [p52] at this; exact this)
  have q2 : 0 < t → 4503599627370496 ≤ rhe P (D * 2 ^ t) := fun ht => rhe_lower hg (by
    rcases h with ⟨h, _⟩ | ⟨_, h, _⟩
    · omega
    · rw [p52] at h; rw [Nat.mul_comm D, ← Nat.mul_assoc]; exact h)
  have t1 : t ≤ 1900 := by
    rcases h with ⟨h, _⟩ | ⟨_, h, _⟩
    · omega
    · have h' : 2 ^ 52 * 2 ^ t * D ≤ 2 ^ κ * D := Nat.le_trans h hP
      have h'' := Nat.le_of_mul_le_mul_right h' hD
      rw [← Nat.pow_add] at h''
      have := (Nat.pow_le_pow_iff_right (by decide)).1 h''
      omega
  have er : rung (2 ^ 52) II P D t = t * 4503599627370496 + rhe P (D * 2 ^ t) := by
    unfold rung; rw [p52, hII]; omega
  rw [er, Vr_at q1 q2]
  refine ⟨by rw [hII]; omega, ?_⟩
  have e : rhe P (D * 2 ^ t) * 2 ^ t * D = rhe P (D * 2 ^ t) * (D * 2 ^ t) := by rw [Nat.mul_assoc, Nat.mul_comm (2 ^ t)]
  rw [e]
  generalize rhe P (D * 2 ^ t) * (D * 2 ^ t) = X at *
  rcases h with ⟨rfl, h⟩ | ⟨_, h, _⟩
  · rw [Nat.pow_zero, Nat.mul_one] at n1 n2
    omega
  · rw [p52, Nat.mul_assoc, Nat.mul_comm _ D] at h
    generalize D * 2 ^ t = g at *
    omega
theorem key_V {r : Nat} {s : Bool} {ρ : Nat} (hk : key r = sg s ρ) (hn : isN r = false) (hr : ρ < II) : Fin r ∧ V r = sg s (Vr ρ) := by
  obtain ⟨s', r', k, a, b, c⟩ := read_sr r
  have hII : II = 9218868437227405312 := by decide
  have e : r' = ρ := by rw [hk] at k; unfold sg at k; split at k <;> split at k <;> omega
  subst e
  obtain ⟨m, i, h1, h2⟩ := a hr
  refine ⟨⟨_, _, _, h1⟩, ?_⟩
  rw [h2]
  rw [hk] at k
  rw [(sg_cmp s' s r' r').2, k]
/-- A sum: its sign, and its rung. -/
theorem add_form {x y : Nat} (hx : Fin x) (hy : Fin y) : ∃ t, Rng (2 ^ 52) (V x + V y).natAbs 1 t ∧ isN (F .add x y) = false ∧ key (F .add x y) = sg (decide (V x + V y < 0)) (rung (2 ^ 52) II (V x + V y).natAbs 1 t) := by
  obtain ⟨s, m, i, ex⟩ := hx
  obtain ⟨t, n, j, ey⟩ := hy
  obtain ⟨_, i0, _⟩ := read_form ex
  obtain ⟨_, j0, _⟩ := read_form ey
  have e0 : fop .add x y = some (double.nearest (if signed s m (i - min i j).toNat + signed t n (j - min i j).toNat = 0 then s && t else decide (signed s m (i - min i j).toNat + signed t n (j - min i j).toNat < 0)) (signed s m (i - min i j).toNat + signed t n (j - min i j).toNat).natAbs (min i j)) := by
    show ((double.read x).sum (double.read y)).map double.write = _
    rw [ex, ey]
    rfl
  have hd : (signed s m (i - min i j).toNat + signed t n (j - min i j).toNat) * (2 ^ (min i j + 1074).toNat : Nat) = V x + V y := by
    rw [V_of ex, V_of ey, Int.add_mul, ← signed_add, ← signed_add, show (i - min i j).toNat + (min i j + 1074).toNat = (i + 1074).toNat by omega, show (j - min i j).toNat + (min i j + 1074).toNat = (j + 1074).toNat by omega]
  have p : (0 : Int) < (2 ^ (min i j + 1074).toNat : Nat) := by have := Nat.two_pow_pos (min i j + 1074).toNat; omega
  generalize signed s m (i - min i j).toNat + signed t n (j - min i j).toNat = d at *
  have hb : (-1074 - min i j).toNat = 0 := by omega
  generalize hneg : (if d = 0 then s && t else decide (d < 0)) = neg at e0
  obtain ⟨τ, hr, hn⟩ := nearest_form neg d.natAbs (min i j)
  have hab : d.natAbs * 2 ^ (min i j + 1074).toNat = (V x + V y).natAbs := by
    rw [← hd, Int.natAbs_mul]; rfl
  rw [hb, Nat.pow_zero, hab] at hr hn
  rw [hn] at e0
  have hw := word_ok neg (rung_le (2 ^ 52) II (V x + V y).natAbs 1 τ)
  refine ⟨τ, hr, ?_, ?_⟩
  · rw [F_some e0 hw]; exact hw
  · rw [F_some e0 hw, key_word _ (rung_le _ _ _ _ _)]
    rcases Int.lt_trichotomy d 0 with g | g | g
    · have : V x + V y < 0 := by
        have := Int.mul_neg_of_neg_of_pos g p; omega
      rw [decide_eq_true this, ← hneg, if_neg (by omega), decide_eq_true g]
    · have h0 : V x + V y = 0 := by rw [← hd, g, Int.zero_mul]
      rw [h0] at hr ⊢
      have e : rung (2 ^ 52) II (Int.natAbs 0) 1 τ = 0 := rng_0 (Nat.two_pow_pos _) (by decide) hr
      rw [e]
      unfold sg
      split <;> split <;> rfl
    · have : ¬ V x + V y < 0 := by
        have := Int.mul_pos g p; omega
      rw [decide_eq_false this, ← hneg, if_neg (by omega), decide_eq_false (by omega)]
/-- A product: its sign, and its rung. -/
theorem mul_form {x y : Nat} {s t : Bool} {m n : Nat} {i j : Int} (hx : double.read x = .number s m i) (hy : double.read y = .number t n j) :
    ∃ τ, Rng (2 ^ 52) (m * n * 2 ^ (i + j + 1074).toNat) (2 ^ (-1074 - (i + j)).toNat) τ ∧ isN (F .mul x y) = false ∧ key (F .mul x y) = sg (s ^^ t) (rung (2 ^ 52) II (m * n * 2 ^ (i + j + 1074).toNat) (2 ^ (-1074 - (i + j)).toNat) τ) := by
  have e0 : fop .mul x y = some (double.nearest (s ^^ t) (m * n) (i + j)) := by
    show ((double.read x).product (double.read y)).map double.write = _
    rw [hx, hy]
    rfl
  obtain ⟨τ, hr, hn⟩ := nearest_form (s ^^ t) (m * n) (i + j)
  rw [hn] at e0
  have hw := word_ok (s ^^ t) (rung_le (2 ^ 52) II (m * n * 2 ^ (i + j + 1074).toNat) (2 ^ (-1074 - (i + j)).toNat) τ)
  exact ⟨τ, hr, by rw [F_some e0 hw]; exact hw, by rw [F_some e0 hw, key_word _ (rung_le _ _ _ _ _)]⟩

/-- How many least parts make one. -/
@[irreducible] def U : Rat := ((2 ^ 1074 : Nat) : Rat)
theorem two_pos (k : Nat) : (0 : Rat) < ((2 ^ k : Nat) : Rat) := Rat.natCast_pos.2 (Nat.two_pow_pos k)
theorem U_pos : 0 < U := by unfold U; exact two_pos 1074
/-- What a finite float stands for. -/
def val (x : Nat) : Rat := (V x : Rat) / U
theorem val_U (x : Nat) : val x * U = (V x : Rat) := by
  unfold val; exact Rat.div_mul_cancel (Rat.ne_of_gt U_pos)
def Nr (a b E : Rat) : Prop := a - b ≤ E ∧ b - a ≤ E
def Bd (a M : Rat) : Prop := -M ≤ a ∧ a ≤ M
theorem mul_Bd {a b A B : Rat} (ha : Bd a A) (hb : Bd b B) : Bd (a * b) (A * B) := by
  have h1 : 0 ≤ (A - a) * (B + b) := Rat.mul_nonneg (by grind [Bd]) (by grind [Bd])
  have h2 : 0 ≤ (A + a) * (B - b) := Rat.mul_nonneg (by grind [Bd]) (by grind [Bd])
  have h3 : 0 ≤ (A - a) * (B - b) := Rat.mul_nonneg (by grind [Bd]) (by grind [Bd])
  have h4 : 0 ≤ (A + a) * (B + b) := Rat.mul_nonneg (by grind [Bd]) (by grind [Bd])
  constructor <;> grind
theorem Nr.bd {a b E : Rat} (h : Nr a b E) : Bd (a - b) E := by unfold Nr at h; unfold Bd; grind
theorem Bd.nr {a b E : Rat} (h : Bd (a - b) E) : Nr a b E := by unfold Bd at h; unfold Nr; grind
theorem Bd.add {a b A B : Rat} (ha : Bd a A) (hb : Bd b B) : Bd (a + b) (A + B) := by unfold Bd at *; grind
theorem Bd.sub {a b A B : Rat} (ha : Bd a A) (hb : Bd b B) : Bd (a - b) (A + B) := by unfold Bd at *; grind
theorem Bd.le {a A B : Rat} (ha : Bd a A) (h : A ≤ B) : Bd a B := by unfold Bd at *; grind
theorem Nr.le {a b A B : Rat} (ha : Nr a b A) (h : A ≤ B) : Nr a b B := by unfold Nr at *; grind
def u : Rat := 1 / 9007199254740992
/-- Half of the least part. -/
def h0 : Rat := 1 / (2 * U)
theorem h0_U : h0 * U = 1 / 2 := by
  unfold h0
  have := U_pos
  grind
theorem U_eq : U = ((2 ^ 1074 : Nat) : Rat) := by unfold U; rfl
theorem two_split (a b D : Nat) : ((2 ^ (a + b) * D : Nat) : Rat) = ((2 ^ a : Nat) : Rat) * (((2 ^ b : Nat) : Rat) * (D : Rat)) := by
  rw [Nat.pow_add, Rat.natCast_mul, Rat.natCast_mul, Rat.mul_assoc]
theorem two_60 : ((2 ^ 60 : Nat) : Rat) = 1152921504606846976 := by
  rw [show (2 : Nat) ^ 60 = 1152921504606846976 by decide]; rfl
theorem le_split {P D : Nat} (a b : Nat) (hab : a + b ≤ 1900) {x y : Rat} (hy : y = ((2 ^ b : Nat) : Rat)) (h1 : (P : Rat) ≤ x) (h2 : x ≤ ((2 ^ a : Nat) : Rat) * (y * (D : Rat))) : ∃ κ, κ ≤ 1900 ∧ P ≤ 2 ^ κ * D := by
  rw [hy, ← two_split] at h2
  exact ⟨_, hab, Rat.natCast_le_natCast.1 (Rat.le_trans h1 h2)⟩
theorem op_err {r P D t : Nat} {s : Bool} (hD : 0 < D) (hr : Rng (2 ^ 52) P D t) (hn : isN r = false) (hk : key r = sg s (rung (2 ^ 52) II P D t)) {e M : Rat} (he : e * (U * (D : Rat)) = ((sg s P : Int) : Rat))
    (hM : Bd e M) (hM2 : M ≤ 1152921504606846976) : Fin r ∧ Nr (val r) e (M * u + h0) := by
  have hD' : (0 : Rat) < (D : Rat) := Rat.natCast_pos.2 hD
  have hUD : 0 < U * (D : Rat) := Rat.mul_pos U_pos hD'
  have b1 : e * (U * (D : Rat)) ≤ M * (U * (D : Rat)) := Rat.mul_le_mul_of_nonneg_right hM.2 (Rat.le_of_lt hUD)
  have b2 : (-M) * (U * (D : Rat)) ≤ e * (U * (D : Rat)) := Rat.mul_le_mul_of_nonneg_right hM.1 (Rat.le_of_lt hUD)
  have hP1 : (P : Rat) ≤ M * (U * (D : Rat)) := by
    rw [he] at b1 b2
    unfold sg at b1 b2
    cases s
    · simp only [Bool.false_eq_true, if_false, Rat.intCast_natCast] at b1 b2; exact b1
    · simp only [if_true, Rat.intCast_neg, Rat.intCast_natCast] at b1 b2; grind
  obtain ⟨κ, hκ, hP2⟩ : ∃ κ, κ ≤ 1900 ∧ P ≤ 2 ^ κ * D := by
    have h1 : M * (U * (D : Rat)) ≤ 1152921504606846976 * (U * (D : Rat)) := Rat.mul_le_mul_of_nonneg_right hM2 (Rat.le_of_lt hUD)
    rw [← two_60] at h1
    exact le_split 60 1074 (by decide) U_eq hP1 h1
  obtain ⟨r1, r2, r3⟩ := rung_err hD hr hκ hP2
  obtain ⟨f, v⟩ := key_V hk hn r1
  refine ⟨f, ?_⟩
  generalize Vr (rung (2 ^ 52) II P D t) = R at *
  have r2' : ((9007199254740992 * (R * D) : Nat) : Rat) ≤ ((9007199254740992 * P + P + 4503599627370496 * D : Nat) : Rat) := Rat.natCast_le_natCast.2 r2
  have r3' : ((9007199254740992 * P : Nat) : Rat) ≤ ((9007199254740992 * (R * D) + P + 4503599627370496 * D : Nat) : Rat) := Rat.natCast_le_natCast.2 r3
  simp only [Rat.natCast_mul, Rat.natCast_add] at r2' r3'
  have ev : val r * (U * (D : Rat)) = ((sg s R : Int) : Rat) * (D : Rat) := by rw [← Rat.mul_assoc, val_U, v]
  have eh : h0 * (U * (D : Rat)) = (D : Rat) / 2 := by rw [← Rat.mul_assoc, h0_U]; grind
  generalize hX : U * (D : Rat) = X at *
  generalize hY : (R : Rat) * (D : Rat) = Y at *
  have es : ((sg s R : Int) : Rat) * (D : Rat) = if s then -Y else Y := by
    unfold sg
    cases s
    · simp only [Bool.false_eq_true, if_false, Rat.intCast_natCast]; exact hY
    · simp only [if_true, Rat.intCast_neg, Rat.intCast_natCast]; grind
  have ep : ((sg s P : Int) : Rat) = if s then -(P : Rat) else (P : Rat) := by
    unfold sg
    cases s
    · simp only [Bool.false_eq_true, if_false, Rat.intCast_natCast]
    · simp only [if_true, Rat.intCast_neg, Rat.intCast_natCast]
  rw [es] at ev
  rw [ep] at he
  have c53 : ((9007199254740992 : Nat) : Rat) = 9007199254740992 := rfl
  have c52 : ((4503599627370496 : Nat) : Rat) = 4503599627370496 := rfl
  rw [c53, c52] at r2' r3'
  have hu : u = 1 / 9007199254740992 := rfl
  unfold Nr
  rw [hu]
  constructor
  · refine Rat.le_of_mul_le_mul_right (c := X) ?_ hUD
    cases s <;> simp only [Bool.false_eq_true, if_false, if_true] at ev he <;> grind
  · refine Rat.le_of_mul_le_mul_right (c := X) ?_ hUD
    cases s <;> simp only [Bool.false_eq_true, if_false, if_true] at ev he <;> grind
theorem sg_abs (d : Int) : sg (decide (d < 0)) d.natAbs = d := by
  unfold sg
  by_cases h : d < 0
  · rw [decide_eq_true h, if_pos rfl]; omega
  · rw [decide_eq_false h, if_neg (by decide)]; omega
theorem one_cast : ((1 : Nat) : Rat) = 1 := rfl
theorem add_err {x y : Nat} (hx : Fin x) (hy : Fin y) {M : Rat} (hM : Bd (val x + val y) M) (hM2 : M ≤ 1152921504606846976) :
    Fin (F .add x y) ∧ Nr (val (F .add x y)) (val x + val y) (M * u + h0) := by
  obtain ⟨t, r, n, k⟩ := add_form hx hy
  refine op_err (by decide) r n k ?_ hM hM2
  rw [sg_abs, one_cast, Rat.mul_one, Rat.add_mul, val_U, val_U, Rat.intCast_add]
theorem sub_err {x y : Nat} (hx : Fin x) (hy : Fin y) {M : Rat} (hM : Bd (val x - val y) M) (hM2 : M ≤ 1152921504606846976) :
    Fin (F .sub x y) ∧ Nr (val (F .sub x y)) (val x - val y) (M * u + h0) := by
  obtain ⟨t, r, n, k⟩ := sub_form hx hy
  rw [show decide (V x < V y) = decide (V x - V y < 0) from decide_eq_decide.2 (by omega)] at k
  refine op_err (by decide) r n k ?_ hM hM2
  have a := val_U x
  have b := val_U y
  rw [sg_abs, one_cast, Rat.mul_one, Rat.intCast_sub, ← a, ← b]
  grind
theorem V_sg {x : Nat} {s : Bool} {m : Nat} {i : Int} (h : double.read x = .number s m i) : V x = sg s (m * 2 ^ (i + 1074).toNat) := by
  rw [V_of h]; unfold signed sg; rw [Nat.shiftLeft_eq]
theorem sg_mul (s t : Bool) (a b : Nat) : sg s a * sg t b = sg (s ^^ t) (a * b) := by
  unfold sg; cases s <;> cases t <;> simp [Int.neg_mul, Int.mul_neg]
theorem U_nat : ∃ k : Nat, k = 1074 ∧ U = ((2 ^ k : Nat) : Rat) := ⟨1074, rfl, U_eq⟩
theorem sg_scale (s : Bool) (a b : Nat) : ((sg s (a * b) : Int) : Rat) = ((sg s a : Int) : Rat) * (b : Rat) := by
  unfold sg
  cases s
  · simp only [Bool.false_eq_true, if_false, Rat.intCast_natCast, Rat.natCast_mul]
  · simp only [if_true, Rat.intCast_neg, Rat.intCast_natCast, Rat.natCast_mul]; grind
theorem mul_err {x y : Nat} (hx : Fin x) (hy : Fin y) {M : Rat} (hM : Bd (val x * val y) M) (hM2 : M ≤ 1152921504606846976) :
    Fin (F .mul x y) ∧ Nr (val (F .mul x y)) (val x * val y) (M * u + h0) := by
  obtain ⟨s, m, i, ex⟩ := hx
  obtain ⟨t, n, j, ey⟩ := hy
  obtain ⟨_, i0, _⟩ := read_form ex
  obtain ⟨_, j0, _⟩ := read_form ey
  obtain ⟨τ, r, nn, k⟩ := mul_form ex ey
  refine op_err (Nat.two_pow_pos _) r nn k ?_ hM hM2
  obtain ⟨κ, hκ, hκU⟩ := U_nat
  generalize ha : (i + j + 1074).toNat = a
  generalize hb : (-1074 - (i + j)).toNat = b
  have e1 : m * n * 2 ^ a * 2 ^ κ = m * 2 ^ (i + 1074).toNat * (n * 2 ^ (j + 1074).toNat) * 2 ^ b := by
    have : m * 2 ^ (i + 1074).toNat * (n * 2 ^ (j + 1074).toNat) * 2 ^ b = m * n * (2 ^ ((i + 1074).toNat + (j + 1074).toNat + b)) := by
      rw [Nat.pow_add, Nat.pow_add]; simp only [Nat.mul_assoc, Nat.mul_left_comm, Nat.mul_comm]
    rw [this, Nat.mul_assoc, ← Nat.pow_add, show a + κ = (i + 1074).toNat + (j + 1074).toNat + b by omega]
  have e2 : ((sg (s ^^ t) (m * n * 2 ^ a) : Int) : Rat) * U = (V x : Rat) * (V y : Rat) * ((2 ^ b : Nat) : Rat) := by
    rw [V_sg ex, V_sg ey, hκU, ← sg_scale, e1, sg_scale, ← sg_mul, Rat.intCast_mul]
  have hU := U_pos
  rw [← val_U x, ← val_U y] at e2
  generalize ((sg (s ^^ t) (m * n * 2 ^ a) : Int) : Rat) = z at *
  generalize ((2 ^ b : Nat) : Rat) = d at *
  have e3 : z * U = val x * val y * (U * d) * U := by rw [e2]; grind
  refine Rat.le_antisymm (Rat.le_of_mul_le_mul_right (c := U) (by rw [e3]; exact Rat.le_refl) hU) (Rat.le_of_mul_le_mul_right (c := U) (by rw [e3]; exact Rat.le_refl) hU)
theorem quo_err {x y : Nat} (hx : Fin x) (hy : Fin y) (h0y : V y ≠ 0) {e M : Rat} (he : e * val y = val x) (hM : Bd e M) (hM2 : M ≤ 1152921504606846976) :
    Fin (F .quo x y) ∧ Nr (val (F .quo x y)) e (M * u + h0) := by
  obtain ⟨s, m, i, ex⟩ := hx
  obtain ⟨t, n, j, ey⟩ := hy
  obtain ⟨_, i0, _⟩ := read_form ex
  obtain ⟨_, j0, _⟩ := read_form ey
  have hn : n ≠ 0 := by
    intro h; subst h; apply h0y; rw [V_of ey]; exact signed_0 _ _
  obtain ⟨τ, r, nn, k⟩ := quo_key ex ey hn
  refine op_err (Nat.mul_pos (by omega) (Nat.two_pow_pos _)) r nn k ?_ hM hM2
  obtain ⟨κ, hκ, hκU⟩ := U_nat
  generalize ha : (i - j + 1074).toNat = a
  generalize hb : (j - i - 1074).toNat = b
  have e1 : m * 2 ^ a * (n * 2 ^ (j + 1074).toNat) = m * 2 ^ (i + 1074).toNat * 2 ^ κ * (n * 2 ^ b) := by
    have h1 : m * 2 ^ a * (n * 2 ^ (j + 1074).toNat) = m * n * 2 ^ (a + (j + 1074).toNat) := by
      rw [Nat.pow_add]; simp only [Nat.mul_assoc, Nat.mul_left_comm, Nat.mul_comm]
    have h2 : m * 2 ^ (i + 1074).toNat * 2 ^ κ * (n * 2 ^ b) = m * n * 2 ^ ((i + 1074).toNat + κ + b) := by
      rw [Nat.pow_add, Nat.pow_add]; simp only [Nat.mul_assoc, Nat.mul_left_comm, Nat.mul_comm]
    rw [h1, h2, show a + (j + 1074).toNat = (i + 1074).toNat + κ + b by omega]
  have hD : ((n * 2 ^ b : Nat) : Rat) = ((n * 2 ^ b : Nat) : Rat) := rfl
  have e2 : ((sg (s ^^ t) (m * 2 ^ a) : Int) : Rat) * (V y : Rat) = (V x : Rat) * ((2 ^ κ : Nat) : Rat) * ((n * 2 ^ b : Nat) : Rat) := by
    rw [V_sg ex, V_sg ey, ← Rat.intCast_mul, sg_mul, e1, sg_scale, sg_scale, Bool.xor_assoc, Bool.xor_self, Bool.xor_false]
  have hU := U_pos
  have hV : val y ≠ 0 := by
    intro h
    apply h0y
    have := val_U y
    rw [h, Rat.zero_mul] at this
    exact Rat.intCast_eq_zero_iff.1 this.symm
  rw [← hκU, ← val_U x, ← val_U y, ← he] at e2
  generalize ((sg (s ^^ t) (m * 2 ^ a) : Int) : Rat) = z at *
  generalize ((n * 2 ^ b : Nat) : Rat) = d at *
  grind
end Flt
end Go.Proofs.YtpmmabaecldmkaaGreat
/- Floats that are bounded: sums, differences, products, quotients; differences turned about. -/
namespace Go.Proofs.YtpmmabaecldmkaaGreat
open Go.RowKit Ev Ieee
set_option linter.unusedVariables false
set_option linter.unusedSimpArgs false
set_option maxRecDepth 20000
namespace Flt

theorem h0_nn : 0 ≤ h0 := by
  have h := h0_U
  refine Rat.le_of_mul_le_mul_right (c := U) ?_ U_pos
  rw [h]; grind
theorem two_ge : ∀ k : Nat, (2 : Rat) ≤ ((2 ^ (k + 1) : Nat) : Rat) := fun k => by
  have h : 2 ^ 1 ≤ 2 ^ (k + 1) := Nat.pow_le_pow_right (by decide) (by omega)
  have e : (2 : Rat) = ((2 : Nat) : Rat) := rfl
  rw [e]
  exact Rat.natCast_le_natCast.2 h
theorem U_two : (2 : Rat) ≤ U := by
  obtain ⟨κ, hκ, e⟩ := U_nat
  have h := two_ge (κ - 1)
  rw [show κ - 1 + 1 = κ by omega, ← e] at h
  exact h
theorem h0_one : h0 ≤ 1 / 2 := by
  have h1 : (2 : Rat) * h0 ≤ U * h0 := Rat.mul_le_mul_of_nonneg_right U_two h0_nn
  rw [Rat.mul_comm U, h0_U] at h1
  have := h0_nn
  grind
theorem err_one {M : Rat} (h0' : 0 ≤ M) (h : M ≤ 1152921504606846976) : M * u + h0 ≤ 129 := by
  have := h0_one
  unfold u
  grind
/-- A float that stands for a number, and one no greater than M. -/
structure Q (x : Nat) (M : Rat) : Prop where
  fin : Fin x
  bd : Bd (val x) M
theorem Q.nn {x : Nat} {M : Rat} (h : Q x M) : 0 ≤ M := by have := h.bd; unfold Bd at this; grind
theorem Q.le {x : Nat} {M N : Rat} (h : Q x M) (h' : M ≤ N) : Q x N := ⟨h.fin, h.bd.le h'⟩
theorem near_bd {a e E M : Rat} (h : Nr a e E) (hM : Bd e M) : Bd a (M + E) := by unfold Nr Bd at *; grind
theorem Q.of {r : Nat} {e M : Rat} (h : Fin r ∧ Nr (val r) e (M * u + h0)) (hb : Bd e M) (hM : M ≤ 1152921504606846976) : Q r (M + 129) := by
  have h0M : 0 ≤ M := by unfold Bd at hb; grind
  exact ⟨h.1, (near_bd h.2 hb).le (by have := err_one h0M hM; grind)⟩
theorem Q.add {x y : Nat} {M N : Rat} (hx : Q x M) (hy : Q y N) (h : M + N ≤ 1152921504606846976) : Q (F .add x y) (M + N + 129) :=
  .of (add_err hx.fin hy.fin (hx.bd.add hy.bd) h) (hx.bd.add hy.bd) h
theorem Q.sub {x y : Nat} {M N : Rat} (hx : Q x M) (hy : Q y N) (h : M + N ≤ 1152921504606846976) : Q (F .sub x y) (M + N + 129) :=
  .of (sub_err hx.fin hy.fin (hx.bd.sub hy.bd) h) (hx.bd.sub hy.bd) h
theorem Q.mul {x y : Nat} {M N : Rat} (hx : Q x M) (hy : Q y N) (h : M * N ≤ 1152921504606846976) : Q (F .mul x y) (M * N + 129) :=
  .of (mul_err hx.fin hy.fin (mul_Bd hx.bd hy.bd) h) (mul_Bd hx.bd hy.bd) h
theorem val_pos_U {x : Nat} : 0 ≤ V x → 0 ≤ val x := fun h => by
  refine Rat.le_of_mul_le_mul_right (c := U) ?_ U_pos
  rw [Rat.zero_mul, val_U]
  exact Rat.intCast_nonneg.2 h
theorem val_le {x y : Nat} (h : V x ≤ V y) : val x ≤ val y := by
  refine Rat.le_of_mul_le_mul_right (c := U) ?_ U_pos
  rw [val_U, val_U]
  exact Rat.intCast_le_intCast.2 h
theorem val_neg {z w : Nat} (h : V z ≤ -V w) : val z ≤ -val w := by
  refine Rat.le_of_mul_le_mul_right (c := U) ?_ U_pos
  rw [Rat.neg_mul, val_U, val_U, ← Rat.intCast_neg]
  exact Rat.intCast_le_intCast.2 h
theorem val_neg' {z w : Nat} (h : -V w ≤ V z) : -val w ≤ val z := by
  refine Rat.le_of_mul_le_mul_right (c := U) ?_ U_pos
  rw [Rat.neg_mul, val_U, val_U, ← Rat.intCast_neg]
  exact Rat.intCast_le_intCast.2 h
theorem val_le_of {x κ : Nat} {M : Int} (hκ : U = ((2 ^ κ : Nat) : Rat)) (h : V x ≤ M * (2 ^ κ : Nat)) : val x ≤ (M : Rat) := by
  refine Rat.le_of_mul_le_mul_right (c := U) ?_ U_pos
  rw [val_U]
  have := Rat.intCast_le_intCast.2 h
  rw [Rat.intCast_mul, Rat.intCast_natCast, ← hκ] at this
  exact this
theorem le_val_of {x κ : Nat} {M : Int} (hκ : U = ((2 ^ κ : Nat) : Rat)) (h : M * (2 ^ κ : Nat) ≤ V x) : (M : Rat) ≤ val x := by
  refine Rat.le_of_mul_le_mul_right (c := U) ?_ U_pos
  rw [val_U]
  have := Rat.intCast_le_intCast.2 h
  rw [Rat.intCast_mul, Rat.intCast_natCast, ← hκ] at this
  exact this
theorem of_val_le {x κ : Nat} {M : Int} (hκ : U = ((2 ^ κ : Nat) : Rat)) (h : val x ≤ (M : Rat)) : V x ≤ M * (2 ^ κ : Nat) := by
  have := Rat.mul_le_mul_of_nonneg_right h (Rat.le_of_lt U_pos)
  rw [val_U, hκ] at this
  refine Rat.intCast_le_intCast.1 ?_
  rw [Rat.intCast_mul, Rat.intCast_natCast]
  exact this
theorem of_le_val {x κ : Nat} {M : Int} (hκ : U = ((2 ^ κ : Nat) : Rat)) (h : (M : Rat) ≤ val x) : M * (2 ^ κ : Nat) ≤ V x := by
  have := Rat.mul_le_mul_of_nonneg_right h (Rat.le_of_lt U_pos)
  rw [val_U, hκ] at this
  refine Rat.intCast_le_intCast.1 ?_
  rw [Rat.intCast_mul, Rat.intCast_natCast]
  exact this
theorem val_ne {x : Nat} (h : V x ≠ 0) : val x ≠ 0 := fun e => h (by
  have := val_U x
  rw [e, Rat.zero_mul] at this
  exact Rat.intCast_eq_zero_iff.1 this.symm)
theorem V_0 : V 0 = 0 := by rw [V_of (show double.read 0 = .number false 0 (-1074) by decide +kernel)]; exact signed_0 _ _
theorem val_0 : val 0 = 0 := by unfold val; rw [V_0, Rat.intCast_zero, Rat.div_def, Rat.zero_mul]
/-- A quotient of a number by one that is no lesser. -/
theorem ratio_bd {x y : Nat} (h0y : V y ≠ 0) (h : (V x).natAbs ≤ (V y).natAbs) : Bd (val x / val y) 1 := by
  have hv := val_ne h0y
  have he : (val x / val y) * val y = val x := Rat.div_mul_cancel hv
  generalize val x / val y = q at he ⊢
  rcases Int.lt_or_le (V y) 0 with g | g
  · have g1 : val y ≤ 0 := by rw [← val_0]; exact val_le (by rw [V_0]; omega)
    have g2 : val y ≤ val x := val_le (by omega)
    have g3 : val x ≤ -val y := val_neg (by omega)
    have gp : 0 < -val y := by grind
    unfold Bd
    constructor
    · refine Rat.le_of_mul_le_mul_right (c := -val y) ?_ gp
      rw [Rat.mul_neg q, he]; grind
    · refine Rat.le_of_mul_le_mul_right (c := -val y) ?_ gp
      rw [Rat.mul_neg q, he]; grind
  · have g1 := val_pos_U g
    have g2 : -val y ≤ val x := val_neg' (by omega)
    have g3 : val x ≤ val y := val_le (by omega)
    have gp : 0 < val y := by grind
    unfold Bd
    constructor
    · refine Rat.le_of_mul_le_mul_right (c := val y) ?_ gp
      rw [he]; grind
    · refine Rat.le_of_mul_le_mul_right (c := val y) ?_ gp
      rw [he]; grind
theorem Q.ratio {x y : Nat} (hx : Fin x) (hy : Fin y) (h0y : V y ≠ 0) (h : (V x).natAbs ≤ (V y).natAbs) : Q (F .quo x y) 130 := by
  have he : (val x / val y) * val y = val x := Rat.div_mul_cancel (val_ne h0y)
  have hb := ratio_bd h0y h
  exact (Q.of (quo_err hx hy h0y he hb (by grind)) hb (by grind)).le (by grind)
theorem pw_gen (c : Nat) : (8589934592000000 : Nat) <<< c = 1000000 * 2 ^ (33 + c) := by
  rw [Nat.shiftLeft_eq, Nat.pow_add, ← Nat.mul_assoc]
theorem pw33 {κ : Nat} (hκ : κ = 1074) : (8589934592000000 : Nat) <<< 1041 = 1000000 * 2 ^ κ := by
  have e : κ = 33 + 1041 := by omega
  subst e
  exact pw_gen 1041
/-- What is near is no greater than a million. -/
theorem near_V {x κ : Nat} (hκ : κ = 1074) : nearB x = true ↔ Fin x ∧ -1000000 * ((2 ^ κ : Nat) : Int) ≤ V x ∧ V x ≤ 1000000 * ((2 ^ κ : Nat) : Int) := by
  have f1 : Fin 13920209183539462144 := ⟨_, _, _, read_n1e6⟩
  have f2 : Fin 4696837146684686336 := ⟨_, _, _, read_1e6⟩
  have e1 : V 13920209183539462144 = -1000000 * ((2 ^ κ : Nat) : Int) := by
    rw [V_of read_n1e6]
    unfold signed
    rw [if_pos rfl, show ((-33 : Int) + 1074).toNat = 1041 by decide, pw33 hκ, Int.natCast_mul, Int.neg_mul]; rfl
  have e2 : V 4696837146684686336 = 1000000 * ((2 ^ κ : Nat) : Int) := by
    rw [V_of read_1e6]
    unfold signed
    rw [if_neg (by decide), show ((-33 : Int) + 1074).toNat = 1041 by decide, pw33 hκ, Int.natCast_mul]; rfl
  constructor
  · intro h
    have f := (near_small h).fin
    unfold nearB at h
    rw [fgt_flt, flt_V f1 f, flt_V f f2, feq_V f f1, feq_V f f2, e1, e2] at h
    simp only [Bool.and_eq_true, Bool.or_eq_true, decide_eq_true_eq] at h
    exact ⟨f, by omega, by omega⟩
  · rintro ⟨f, h1, h2⟩
    unfold nearB
    rw [fgt_flt, flt_V f1 f, flt_V f f2, feq_V f f1, feq_V f f2, e1, e2]
    simp only [Bool.and_eq_true, Bool.or_eq_true, decide_eq_true_eq]
    omega
theorem near_Q {x : Nat} (h : nearB x = true) : Q x 1000000 := by
  obtain ⟨κ, hκ, e⟩ := U_nat
  obtain ⟨f, h1, h2⟩ := (near_V hκ).1 h
  refine ⟨f, ?_⟩
  have g1 := le_val_of e h1
  have g2 := val_le_of e h2
  unfold Bd
  exact ⟨by simpa using g1, by simpa using g2⟩
theorem Q.near {x : Nat} (h : Q x 1000000) : nearB x = true := by
  obtain ⟨κ, hκ, e⟩ := U_nat
  have hb := h.bd
  unfold Bd at hb
  exact (near_V hκ).2 ⟨h.fin, of_le_val e (by simpa using hb.1), of_val_le e (by simpa using hb.2)⟩
theorem rung_same {P t t' : Nat} (h : Rng (2 ^ 52) P 1 t) (h' : Rng (2 ^ 52) P 1 t') : rung (2 ^ 52) II P 1 t = rung (2 ^ 52) II P 1 t' :=
  Nat.le_antisymm (rung_mono (by decide) (by decide) (Nat.le_refl _) h h') (rung_mono (by decide) (by decide) (Nat.le_refl _) h' h)
theorem II_pos : 0 < II := by unfold II; decide
theorem rung_pos {P t : Nat} (hP : 0 < P) (h : Rng (2 ^ 52) P 1 t) : 0 < rung (2 ^ 52) II P 1 t := by
  have hi := II_pos
  rcases h with ⟨rfl, _⟩ | ⟨h, _⟩
  · unfold rung rhe
    rw [Nat.zero_mul, Nat.zero_add, Nat.pow_zero, Nat.mul_one, Nat.div_one]
    omega
  · unfold rung
    have := Nat.mul_pos h (show 0 < 2 ^ 52 by decide)
    omega
/-- A difference turned about. -/
theorem sub_turn {x y : Nat} (hx : Fin x) (hy : Fin y) : isN (F .sub x y) = false ∧ isN (F .sub y x) = false ∧ key (F .sub y x) = -key (F .sub x y) := by
  obtain ⟨t, r1, n1, k1⟩ := sub_form hx hy
  obtain ⟨t', r2, n2, k2⟩ := sub_form hy hx
  refine ⟨n1, n2, ?_⟩
  have e : (V y - V x).natAbs = (V x - V y).natAbs := by omega
  rw [e] at r2 k2
  rw [k1, k2, rung_same r2 r1]
  rcases Int.lt_trichotomy (V x) (V y) with g | g | g
  · rw [decide_eq_true g, decide_eq_false (show ¬ V y < V x by omega)]; unfold sg; simp
  · have e0 : (V x - V y).natAbs = 0 := by omega
    rw [e0] at r1 ⊢
    rw [rng_0 (by decide) (by decide) r1]; unfold sg; split <;> split <;> simp
  · rw [decide_eq_true g, decide_eq_false (show ¬ V x < V y by omega)]; unfold sg; simp
theorem key_0 : key 0 = 0 := by decide +kernel
theorem Fin_0 : Fin 0 := ⟨false, 0, -1074, by decide +kernel⟩
theorem V_pos {x : Nat} (h : Fin x) : 0 < V x ↔ 0 < key x := by
  have := (V_key Fin_0 h).1
  rw [V_0, key_0] at this; exact this
theorem V_nonneg {x : Nat} (h : Fin x) : 0 ≤ V x ↔ 0 ≤ key x := by
  have := (V_key h Fin_0).1
  rw [V_0, key_0] at this; omega
theorem add_pos {x y : Nat} (hx : Fin x) (hy : Fin y) (h : 0 < V x + V y) : isN (F .add x y) = false ∧ 0 < key (F .add x y) := by
  obtain ⟨t, r, n, k⟩ := add_form hx hy
  refine ⟨n, ?_⟩
  rw [k, decide_eq_false (by omega)]
  have := rung_pos (by omega) r
  unfold sg
  rw [if_neg (by decide)]
  omega
theorem add_neg {x y : Nat} (hx : Fin x) (hy : Fin y) (h : V x + V y < 0) : isN (F .add x y) = false ∧ key (F .add x y) < 0 := by
  obtain ⟨t, r, n, k⟩ := add_form hx hy
  refine ⟨n, ?_⟩
  rw [k, decide_eq_true h]
  have := rung_pos (by omega) r
  unfold sg
  rw [if_pos rfl]
  omega
/-- The sign turned. -/
theorem key_fneg (x : Nat) : key (fneg x) = -key x := by
  have hm : fneg x % 9223372036854775808 = x % 9223372036854775808 := fneg_mod x
  have hd : fneg x / 9223372036854775808 % 2 = 1 - x / 9223372036854775808 % 2 := by
    have e : fneg x / 2 ^ 63 = x / 2 ^ 63 ^^^ 1 := by
      show (x ^^^ 2 ^ 63) / 2 ^ 63 = _
      rw [Nat.xor_div_two_pow, Nat.div_self (by decide)]
    rw [show (9223372036854775808 : Nat) = 2 ^ 63 by decide, e, show (2 : Nat) = 2 ^ 1 by decide, Nat.xor_mod_two_pow]
    have : x / (2 ^ 1) ^ 63 % 2 ^ 1 = 0 ∨ x / (2 ^ 1) ^ 63 % 2 ^ 1 = 1 := by omega
    rcases this with h | h <;> rw [h] <;> rfl
  unfold key
  rw [hm, hd]
  have : x / 9223372036854775808 % 2 = 0 ∨ x / 9223372036854775808 % 2 = 1 := by omega
  rcases this with h | h <;> rw [h] <;> unfold sg <;> simp
theorem key_Fneg {x : Nat} (h : isN x = false) : isN (Fneg x) = false ∧ key (Fneg x) = -key x := by
  have e : Fneg x = fneg x := by unfold Fneg; exact cn_notN (by rw [isN_fneg]; exact h)
  rw [e]
  exact ⟨by rw [isN_fneg]; exact h, key_fneg x⟩
theorem V_absK {x : Nat} (h : Fin x) : (V x).natAbs = Vr (key x).natAbs := by
  obtain ⟨s, r, k, h1, h2, h3⟩ := read_sr x
  have hr : r < II := by
    rcases Nat.lt_trichotomy r II with g | g | g
    · exact g
    · obtain ⟨t, m, i, e⟩ := h
      rw [h2 g] at e; cases e
    · have := h3 g; rw [h.notN] at this; cases this
  obtain ⟨m, i, _, e⟩ := h1 hr
  rw [e, k]
  unfold sg
  cases s <;> simp
end Flt
end Go.Proofs.YtpmmabaecldmkaaGreat
/- Floats that are whole numbers: their sums, products and even quotients are exact. -/
namespace Go.Proofs.YtpmmabaecldmkaaGreat
open Go.RowKit Ev Ieee
set_option linter.unusedVariables false
set_option linter.unusedSimpArgs false
set_option maxRecDepth 20000
namespace Flt

theorem rhe_exact {q g : Nat} (hg : 0 < g) : rhe (q * g) g = q := by
  unfold rhe
  rw [Nat.mul_mod_left, Nat.mul_div_cancel _ hg, if_neg (by omega)]; rfl
theorem rung_at {P D t q : Nat} (hq : rhe P (D * 2 ^ t) = q) (h1 : q ≤ 9007199254740992) (ht : t ≤ 1074) : rung (2 ^ 52) II P D t = t * 4503599627370496 + q ∧ t * 4503599627370496 + q < II := by
  have hII : II = 9218868437227405312 := by decide
  unfold rung; rw [p52, hII, hq]
  omega
theorem rung_exact {P D t Z κ : Nat} (hκ : κ = 1074) (hD : 0 < D) (h : Rng (2 ^ 52) P D t) (hP : P = Z * 2 ^ κ * D) (hZ : Z < 9007199254740992) : rung (2 ^ 52) II P D t < II ∧ Vr (rung (2 ^ 52) II P D t) = Z * 2 ^ κ := by
  have hII : II = 9218868437227405312 := by decide
  have hg : 0 < D * 2 ^ t := Nat.mul_pos hD (Nat.two_pow_pos _)
  have p53 : (2 : Nat) ^ 53 = 9007199254740992 := by decide
  have ht : t ≤ κ := by
    rcases h with ⟨h, _⟩ | ⟨_, h, _⟩
    · omega
    · rw [hP] at h
      have h1 := Nat.le_of_mul_le_mul_right h hD
      have h2 : Z * 2 ^ κ < 2 ^ 53 * 2 ^ κ := Nat.mul_lt_mul_of_pos_right (by omega) (Nat.two_pow_pos _)
      have h3 : 2 ^ 52 * 2 ^ t < 2 ^ 53 * 2 ^ κ := Nat.lt_of_le_of_lt h1 h2
      rw [← Nat.pow_add, ← Nat.pow_add] at h3
      have := (Nat.pow_lt_pow_iff_right (by decide)).1 h3
      omega
  have eP : P = Z * 2 ^ (κ - t) * (D * 2 ^ t) := by
    have : Z * 2 ^ (κ - t) * (D * 2 ^ t) = Z * D * (2 ^ (κ - t) * 2 ^ t) := by simp only [Nat.mul_assoc, Nat.mul_left_comm, Nat.mul_comm]
    rw [this, ← Nat.pow_add, show κ - t + t = κ by omega, hP, Nat.mul_right_comm]
  have er : rhe P (D * 2 ^ t) = Z * 2 ^ (κ - t) := by rw [eP]; exact rhe_exact hg
  have q1 : rhe P (D * 2 ^ t) ≤ 9007199254740992 := rhe_upper hg (by have := h.upper; rw [p52] at this; exact this)
  have q2 : 0 < t → 4503599627370496 ≤ rhe P (D * 2 ^ t) := fun ht => rhe_lower hg (by
    rcases h with ⟨h, _⟩ | ⟨_, h, _⟩
    · omega
    · rw [p52] at h; rw [Nat.mul_comm D, ← Nat.mul_assoc]; exact h)
  rw [er] at q1 q2
  obtain ⟨f1, f2⟩ := rung_at er q1 (Nat.le_trans ht (Nat.le_of_eq hκ))
  rw [f1, Vr_at q1 q2, Nat.mul_assoc, ← Nat.pow_add, Nat.sub_add_cancel ht]
  exact ⟨f2, rfl⟩
theorem sg_natAbs {s : Bool} {P m : Nat} {z : Int} (h : sg s P = z * (m : Int)) : P = z.natAbs * m := by
  have h1 := congrArg Int.natAbs h
  rw [Int.natAbs_mul] at h1
  have h2 : (sg s P).natAbs = P := by unfold sg; cases s <;> simp
  rw [h2] at h1
  exact h1
theorem op_exact {r P D t : Nat} {s : Bool} (hD : 0 < D) (hr : Rng (2 ^ 52) P D t) (hn : isN r = false) (hk : key r = sg s (rung (2 ^ 52) II P D t)) {z : Int} (he : (z : Rat) * (U * (D : Rat)) = ((sg s P : Int) : Rat))
    (hz : -9007199254740992 < z ∧ z < 9007199254740992) : Fin r ∧ val r = (z : Rat) := by
  obtain ⟨κ, hκ, hU⟩ := U_nat
  have e1 : sg s P = z * ((2 ^ κ * D : Nat) : Int) := by
    refine Rat.intCast_inj.1 ?_
    rw [← he, hU, Rat.intCast_mul, Rat.intCast_natCast, Rat.natCast_mul]
  have e2 := sg_natAbs e1
  obtain ⟨r1, r2⟩ := rung_exact hκ hD hr (Z := z.natAbs) (by rw [e2, Nat.mul_assoc]) (by omega)
  obtain ⟨f, v⟩ := key_V hk hn r1
  refine ⟨f, ?_⟩
  have ev : V r = z * ((2 ^ κ : Nat) : Int) := by
    rw [v, r2]
    have e3 : sg s (z.natAbs * 2 ^ κ) * (D : Int) = z * ((2 ^ κ : Nat) : Int) * (D : Int) := by
      have : sg s (z.natAbs * 2 ^ κ) * (D : Int) = sg s P := by
        rw [e2]
        unfold sg
        cases s
        · simp only [Bool.false_eq_true, if_false]; rw [← Int.natCast_mul, Nat.mul_assoc]
        · simp only [if_true]; rw [Int.neg_mul, ← Int.natCast_mul, Nat.mul_assoc]
      rw [this, e1, Int.natCast_mul, Int.mul_assoc]
    exact Int.eq_of_mul_eq_mul_right (by omega) e3
  have hUp := U_pos
  have e4 : val r * U = (z : Rat) * U := by rw [val_U, ev, hU, Rat.intCast_mul, Rat.intCast_natCast]
  exact Rat.le_antisymm (Rat.le_of_mul_le_mul_right (c := U) (by rw [e4]; exact Rat.le_refl) hUp) (Rat.le_of_mul_le_mul_right (c := U) (by rw [e4]; exact Rat.le_refl) hUp)
/-- A float that is a whole number. -/
structure Iv (x : Nat) (z : Int) : Prop where
  fin : Fin x
  eq : val x = (z : Rat)
theorem Iv.V {x : Nat} {z : Int} (h : Iv x z) {κ : Nat} (hκ : U = ((2 ^ κ : Nat) : Rat)) : V x = z * ((2 ^ κ : Nat) : Int) := by
  refine Rat.intCast_inj.1 ?_
  rw [← val_U, h.eq, hκ, Rat.intCast_mul, Rat.intCast_natCast]
theorem iv_add {x y : Nat} {a b : Int} (hx : Iv x a) (hy : Iv y b) (h : -9007199254740992 < a + b ∧ a + b < 9007199254740992) : Iv (F .add x y) (a + b) := by
  obtain ⟨t, r, n, k⟩ := add_form hx.fin hy.fin
  obtain ⟨f, v⟩ := op_exact (by decide) r n k (z := a + b) (by rw [sg_abs, one_cast, Rat.mul_one, Rat.intCast_add, Rat.add_mul, ← hx.eq, ← hy.eq, val_U, val_U, Rat.intCast_add]) h
  exact ⟨f, v⟩
theorem iv_sub {x y : Nat} {a b : Int} (hx : Iv x a) (hy : Iv y b) (h : -9007199254740992 < a - b ∧ a - b < 9007199254740992) : Iv (F .sub x y) (a - b) := by
  obtain ⟨t, r, n, k⟩ := sub_form hx.fin hy.fin
  rw [show decide (Flt.V x < Flt.V y) = decide (Flt.V x - Flt.V y < 0) from decide_eq_decide.2 (by omega)] at k
  have e1 := val_U x
  have e2 := val_U y
  obtain ⟨f, v⟩ := op_exact (by decide) r n k (z := a - b) (by rw [sg_abs, one_cast, Rat.mul_one, Rat.intCast_sub, Rat.intCast_sub, ← e1, ← e2, hx.eq, hy.eq]; grind) h
  exact ⟨f, v⟩
theorem iv_mul {x y : Nat} {a b : Int} (hx : Iv x a) (hy : Iv y b) (h : -9007199254740992 < a * b ∧ a * b < 9007199254740992) : Iv (F .mul x y) (a * b) := by
  have hx' := hx
  have hy' := hy
  obtain ⟨⟨s, m, i, ex⟩, vx⟩ := hx
  obtain ⟨⟨t, n, j, ey⟩, vy⟩ := hy
  obtain ⟨_, i0, _⟩ := read_form ex
  obtain ⟨_, j0, _⟩ := read_form ey
  obtain ⟨τ, r, nn, k⟩ := mul_form ex ey
  obtain ⟨κ, hκ, hκU⟩ := U_nat
  have e1 : m * n * 2 ^ (i + j + 1074).toNat * 2 ^ κ = m * 2 ^ (i + 1074).toNat * (n * 2 ^ (j + 1074).toNat) * 2 ^ (-1074 - (i + j)).toNat := by
    have : m * 2 ^ (i + 1074).toNat * (n * 2 ^ (j + 1074).toNat) * 2 ^ (-1074 - (i + j)).toNat = m * n * (2 ^ ((i + 1074).toNat + (j + 1074).toNat + (-1074 - (i + j)).toNat)) := by
      rw [Nat.pow_add, Nat.pow_add]; simp only [Nat.mul_assoc, Nat.mul_left_comm, Nat.mul_comm]
    rw [this, Nat.mul_assoc, ← Nat.pow_add, show (i + j + 1074).toNat + κ = (i + 1074).toNat + (j + 1074).toNat + (-1074 - (i + j)).toNat by omega]
  have e2 : ((sg (s ^^ t) (m * n * 2 ^ (i + j + 1074).toNat) : Int) : Rat) * U = (Flt.V x : Rat) * (Flt.V y : Rat) * ((2 ^ (-1074 - (i + j)).toNat : Nat) : Rat) := by
    rw [V_sg ex, V_sg ey, hκU, ← sg_scale, e1, sg_scale, ← sg_mul, Rat.intCast_mul]
  obtain ⟨f, v⟩ := op_exact (Nat.two_pow_pos _) r nn k (z := a * b) (by
    have hU := U_pos
    rw [← val_U x, ← val_U y, vx, vy] at e2
    rw [Rat.intCast_mul]
    generalize ((sg (s ^^ t) (m * n * 2 ^ (i + j + 1074).toNat) : Int) : Rat) = z at *
    generalize ((2 ^ (-1074 - (i + j)).toNat : Nat) : Rat) = d at *
    have e3 : z * U = (a : Rat) * (b : Rat) * (U * d) * U := by rw [e2]; grind
    exact Rat.le_antisymm (Rat.le_of_mul_le_mul_right (c := U) (by rw [e3]; exact Rat.le_refl) hU) (Rat.le_of_mul_le_mul_right (c := U) (by rw [e3]; exact Rat.le_refl) hU)) h
  exact ⟨f, v⟩
theorem iv_quo {x y : Nat} {a b c : Int} (hx : Iv x a) (hy : Iv y b) (hb : b ≠ 0) (hc : c * b = a) (h : -9007199254740992 < c ∧ c < 9007199254740992) : Iv (F .quo x y) c := by
  obtain ⟨κ, hκ, hκU⟩ := U_nat
  have vx := hx.V hκU
  have vy := hy.V hκU
  obtain ⟨⟨s, m, i, ex⟩, _⟩ := hx
  obtain ⟨⟨t, n, j, ey⟩, _⟩ := hy
  obtain ⟨_, i0, _⟩ := read_form ex
  obtain ⟨_, j0, _⟩ := read_form ey
  have hp : (0 : Int) < ((2 ^ κ : Nat) : Int) := by have := Nat.two_pow_pos κ; omega
  have h0y : Flt.V y ≠ 0 := by rw [vy]; exact fun e => (Int.mul_eq_zero.1 e).elim hb (by omega)
  have hn : n ≠ 0 := by
    intro h; subst h; apply h0y; rw [V_of ey]; exact signed_0 _ _
  obtain ⟨τ, r, nn, k⟩ := quo_key ex ey hn
  have e1 : m * 2 ^ (i - j + 1074).toNat * (n * 2 ^ (j + 1074).toNat) = m * 2 ^ (i + 1074).toNat * 2 ^ κ * (n * 2 ^ (j - i - 1074).toNat) := by
    have h1 : m * 2 ^ (i - j + 1074).toNat * (n * 2 ^ (j + 1074).toNat) = m * n * 2 ^ ((i - j + 1074).toNat + (j + 1074).toNat) := by
      rw [Nat.pow_add]; simp only [Nat.mul_assoc, Nat.mul_left_comm, Nat.mul_comm]
    have h2 : m * 2 ^ (i + 1074).toNat * 2 ^ κ * (n * 2 ^ (j - i - 1074).toNat) = m * n * 2 ^ ((i + 1074).toNat + κ + (j - i - 1074).toNat) := by
      rw [Nat.pow_add, Nat.pow_add]; simp only [Nat.mul_assoc, Nat.mul_left_comm, Nat.mul_comm]
    rw [h1, h2, show (i - j + 1074).toNat + (j + 1074).toNat = (i + 1074).toNat + κ + (j - i - 1074).toNat by omega]
  have e2 : ((sg (s ^^ t) (m * 2 ^ (i - j + 1074).toNat) : Int) : Rat) * (Flt.V y : Rat) = (Flt.V x : Rat) * ((2 ^ κ : Nat) : Rat) * ((n * 2 ^ (j - i - 1074).toNat : Nat) : Rat) := by
    rw [V_sg ex, V_sg ey, ← Rat.intCast_mul, sg_mul, e1, sg_scale, sg_scale, Bool.xor_assoc, Bool.xor_self, Bool.xor_false]
  obtain ⟨f, v⟩ := op_exact (Nat.mul_pos (by omega) (Nat.two_pow_pos _)) r nn k (z := c) (by
    have hU := U_pos
    have hb' : (b : Rat) ≠ 0 := fun e => hb (Rat.intCast_eq_zero_iff.1 e)
    rw [vx, vy, ← hc, ← hκU, Rat.intCast_mul, Rat.intCast_mul, Rat.intCast_mul, Rat.intCast_natCast, ← hκU] at e2
    generalize ((sg (s ^^ t) (m * 2 ^ (i - j + 1074).toNat) : Int) : Rat) = z at *
    generalize ((n * 2 ^ (j - i - 1074).toNat : Nat) : Rat) = d at *
    generalize (b : Rat) = b' at *
    generalize (c : Rat) = c' at *
    generalize U = U' at *
    grind) h
  exact ⟨f, v⟩
theorem iv_of {x : Nat} {z : Int} {κ : Nat} (hκ : U = ((2 ^ κ : Nat) : Rat)) (hf : Fin x) (h : Flt.V x = z * ((2 ^ κ : Nat) : Int)) : Iv x z := by
  refine ⟨hf, ?_⟩
  have hUp := U_pos
  have e4 : val x * U = (z : Rat) * U := by rw [val_U, h, hκ, Rat.intCast_mul, Rat.intCast_natCast]
  exact Rat.le_antisymm (Rat.le_of_mul_le_mul_right (c := U) (by rw [e4]; exact Rat.le_refl) hUp) (Rat.le_of_mul_le_mul_right (c := U) (by rw [e4]; exact Rat.le_refl) hUp)
theorem iv_near {z : Int} (h : -9007199254740992 < z ∧ z < 9007199254740992) : Iv (cn (FloatKind.f64.nearest z)) z := by
  have e : FloatKind.f64.nearest z = double.nearest (decide (z < 0)) z.natAbs 0 := rfl
  obtain ⟨n1, n2⟩ := nearest_V (decide (z < 0)) (m := z.natAbs) (i := 0) (by omega) (by decide) (by decide)
  obtain ⟨κ, hκ, hU⟩ := U_nat
  rw [e, cn_notN n1.notN]
  refine iv_of hU n1 ?_
  rw [n2, show ((0 : Int) + 1074).toNat = κ by omega]
  unfold signed
  rw [Nat.shiftLeft_eq]
  by_cases g : z < 0
  · rw [decide_eq_true g, if_pos rfl, Int.natCast_mul, ← Int.neg_mul]
    congr 1; omega
  · rw [decide_eq_false g, if_neg (by decide), Int.natCast_mul]
    congr 1; omega
theorem iv_feq {x y : Nat} {z : Int} (hx : Iv x z) (hy : Iv y z) : feq x y = true := by
  obtain ⟨κ, hκ, hU⟩ := U_nat
  rw [feq_V hx.fin hy.fin, hx.V hU, hy.V hU, decide_eq_true rfl]
theorem iv_cmp {x y : Nat} {a b : Int} (hx : Iv x a) (hy : Iv y b) : flt x y = decide (a < b) ∧ feq x y = decide (a = b) ∧ fgt x y = decide (b < a) := by
  obtain ⟨κ, hκ, hU⟩ := U_nat
  have hp : (0 : Int) < ((2 ^ κ : Nat) : Int) := by have := Nat.two_pow_pos κ; omega
  have lt : ∀ a b : Int, (a * ((2 ^ κ : Nat) : Int) < b * ((2 ^ κ : Nat) : Int)) = (a < b) := fun a b => propext ⟨fun h => Int.lt_of_mul_lt_mul_right h (Int.le_of_lt hp), fun h => Int.mul_lt_mul_of_pos_right h hp⟩
  refine ⟨?_, ?_, ?_⟩
  · rw [flt_V hx.fin hy.fin, hx.V hU, hy.V hU]; exact decide_eq_decide.2 (by rw [lt])
  · rw [feq_V hx.fin hy.fin, hx.V hU, hy.V hU]
    refine decide_eq_decide.2 ⟨fun h => Int.eq_of_mul_eq_mul_right (by omega) h, fun h => by rw [h]⟩
  · rw [fgt_flt, flt_V hy.fin hx.fin, hx.V hU, hy.V hU]; exact decide_eq_decide.2 (by rw [lt])
end Flt
end Go.Proofs.YtpmmabaecldmkaaGreat
/- Floats of whole numbers, and thousandths of them. -/
namespace Go.Proofs.YtpmmabaecldmkaaGreat
open Go.RowKit Ev Flt
set_option linter.unusedVariables false
set_option linter.unusedSimpArgs false
set_option maxRecDepth 20000

theorem nI_Q {i M : Int} (h : -M ≤ i ∧ i ≤ M) (hM : M ≤ 9007199254740991) : Q (cn (FloatKind.f64.nearest i)) (M : Rat) := by
  obtain ⟨f, e⟩ := iv_near (z := i) (by omega)
  refine ⟨f, ?_⟩
  rw [e]
  unfold Bd
  have h1 := Rat.intCast_le_intCast.2 h.1
  have h2 := Rat.intCast_le_intCast.2 h.2
  rw [Rat.intCast_neg] at h1
  exact ⟨h1, h2⟩
theorem iv_1000 : Iv 4652007308841189376 1000 := by
  have := iv_near (z := 1000) (by omega)
  rwa [show cn (FloatKind.f64.nearest 1000) = 4652007308841189376 by decide +kernel] at this
theorem quo_1000 {x : Nat} {M : Rat} (h : Q x M) (hM : M ≤ 1152921504606846976) : Q (F .quo x 4652007308841189376) (M + 129) := by
  have v : val 4652007308841189376 = 1000 := by rw [iv_1000.eq]; rfl
  have v0 : V 4652007308841189376 ≠ 0 := fun e => by
    have : val 4652007308841189376 = 0 := by unfold val; rw [e, Rat.intCast_zero, Rat.div_def, Rat.zero_mul]
    rw [v] at this; exact absurd this (by decide)
  have he : (val x / 1000) * val 4652007308841189376 = val x := by rw [v]; grind
  have hb : Bd (val x / 1000) M := by
    have := h.bd
    unfold Bd at *
    grind
  exact .of (quo_err h.fin iv_1000.fin v0 he hb hM) hb hM
end Go.Proofs.YtpmmabaecldmkaaGreat
/- Numbers cut off to whole ones. -/
namespace Go.Proofs.YtpmmabaecldmkaaGreat
open Go.RowKit Ev Flt Ieee
set_option linter.unusedVariables false
set_option linter.unusedSimpArgs false

theorem shr_powT {n drop : Nat} : n / (1 <<< min drop (n.log2 + 2)) = n / 2 ^ drop := by
  rw [Nat.shiftLeft_eq, Nat.one_mul]
  by_cases h : drop ≤ n.log2 + 2
  · rw [Nat.min_eq_left h]
  · rw [Nat.min_eq_right (by omega)]
    have h1 : n < 2 ^ (n.log2 + 1) := Nat.lt_log2_self
    have h2 : 2 ^ (n.log2 + 1) ≤ 2 ^ (n.log2 + 2) := Nat.pow_le_pow_right (by decide) (by omega)
    have h3 : 2 ^ (n.log2 + 1) ≤ 2 ^ drop := Nat.pow_le_pow_right (by decide) (by omega)
    rw [Nat.div_eq_of_lt (by omega), Nat.div_eq_of_lt (by omega)]
theorem cut_zeroT (s : Bool) (n d : Nat) : Toward.zero.cut s n d = n / 2 ^ d := by
  show n / (1 <<< min d (n.log2 + 2)) + false.toNat = _
  rw [shr_powT]; rfl
theorem signedT (s : Bool) (c : Nat) : signed s c 0 = if s then -(c : Int) else (c : Int) := by
  unfold signed; rw [Nat.shiftLeft_zero]
theorem trunc_some {x : Nat} {M : Int} (h : Q x (M : Rat)) (hM : 0 ≤ M) : ∃ z, (FloatKind.f64.decode x).toInt .zero = some z ∧ -M ≤ z ∧ z ≤ M := by
  obtain ⟨s, m, i, ex⟩ := h.fin
  obtain ⟨_, i0, _⟩ := read_form ex
  obtain ⟨κ, hκ, hU⟩ := U_nat
  have b := h.bd
  unfold Bd at b
  have b1 : V x ≤ M * (2 ^ κ : Nat) := of_val_le hU b.2
  have b2 : -M * (2 ^ κ : Nat) ≤ V x := of_le_val hU (by rw [Rat.intCast_neg]; exact b.1)
  have v := V_sg ex
  have hc : ((m <<< i.toNat) / 2 ^ (-i).toNat : Nat) * 2 ^ κ ≤ m * 2 ^ (i + 1074).toNat := by
    have e : m * 2 ^ (i + 1074).toNat * 2 ^ (-i).toNat = m * 2 ^ i.toNat * 2 ^ κ := by
      rw [Nat.mul_assoc, Nat.mul_assoc, ← Nat.pow_add, ← Nat.pow_add, show (i + 1074).toNat + (-i).toNat = i.toNat + κ by omega]
    have hp := Nat.two_pow_pos (-i).toNat
    refine Nat.le_of_mul_le_mul_right ?_ hp
    rw [e, Nat.shiftLeft_eq, Nat.mul_right_comm]
    exact Nat.mul_le_mul_right _ (Nat.div_mul_le_self _ _)
  have hk : (0 : Int) < ((2 ^ κ : Nat) : Int) := by have := Nat.two_pow_pos κ; omega
  generalize hC : ((m <<< i.toNat) / 2 ^ (-i).toNat : Nat) = c at hc
  refine ⟨signed s c 0, ?_, ?_⟩
  · show Datum.toInt .zero (double.read x) = _
    rw [ex]
    show some (signed s (Toward.zero.cut s (m <<< i.toNat) (-i).toNat) 0) = _
    rw [cut_zeroT, hC]
  · have hc' : (c : Int) * ((2 ^ κ : Nat) : Int) ≤ ((m * 2 ^ (i + 1074).toNat : Nat) : Int) := by
      have := Int.ofNat_le.2 hc
      rwa [Int.natCast_mul c] at this
    have key : (c : Int) ≤ M := by
      refine Int.le_of_mul_le_mul_right ?_ hk
      unfold sg at v
      split at v
      · rw [v] at b2
        have : ((m * 2 ^ (i + 1074).toNat : Nat) : Int) ≤ M * ((2 ^ κ : Nat) : Int) := by
          rw [Int.neg_mul] at b2; omega
        exact Int.le_trans hc' this
      · rw [v] at b1; exact Int.le_trans hc' b1
    rw [signedT]
    split <;> omega
end Go.Proofs.YtpmmabaecldmkaaGreat
/- Floats that are one another times a power of two: all operations go along. -/
namespace Go.Proofs.YtpmmabaecldmkaaGreat
open Go.RowKit Ev Ieee
set_option linter.unusedVariables false
set_option linter.unusedSimpArgs false
set_option maxRecDepth 20000
namespace Flt

theorem log2_52 {m : Nat} (h : 4503599627370496 ≤ m) (h' : m < 9007199254740992) : m.log2 = 52 := by
  have h0 : m ≠ 0 := by omega
  refine (Nat.log2_eq_iff h0).2 ⟨?_, ?_⟩
  · exact h
  · exact h'
theorem kept_ge (neg : Bool) (m : Nat) (up drop : Nat) (hm : m ≠ 0) (h : (up = 52 - m.log2 ∧ drop = m.log2 - 52)) : 4503599627370496 ≤ Toward.even.cut neg (m <<< up) drop := by
  have hl := Nat.log2_self_le hm
  rw [cut_even]
  refine rhe_lower (Nat.two_pow_pos _) ?_
  obtain ⟨rfl, rfl⟩ := h
  rw [Nat.shiftLeft_eq]
  have e : (4503599627370496 : Nat) = 2 ^ 52 := by decide
  rw [e, ← Nat.pow_add]
  by_cases g : m.log2 ≤ 52
  · rw [show m.log2 - 52 = 0 by omega, Nat.add_zero]
    calc 2 ^ 52 = 2 ^ m.log2 * 2 ^ (52 - m.log2) := by rw [← Nat.pow_add]; congr 1; omega
      _ ≤ m * 2 ^ (52 - m.log2) := Nat.mul_le_mul_right _ hl
  · rw [show 52 - m.log2 = 0 by omega, Nat.pow_zero, Nat.mul_one, show 52 + (m.log2 - 52) = m.log2 by omega]
    exact hl
theorem read_low {neg : Bool} {Q C : Nat} {i : Int} (h : 4503599627370496 ≤ C) (h' : C < 9007199254740992) (hq : Q ≤ 2000) (hi : i = -1074 + Q) : double.read (double.word neg (Q * 4503599627370496 + C)) = .number neg C i := by
  have m1 : 4503599627370496 + (Q * 4503599627370496 + C) % 4503599627370496 = C := by omega
  have m2 : (-1074 : Int) + ((Q * 4503599627370496 + C) / 4503599627370496 - 1 : Nat) = i := by omega
  rw [read_word neg _ (by omega), if_neg (by omega), m1, m2]
theorem read_top {neg : Bool} {Q : Nat} {i : Int} (hq : Q ≤ 2000) (hi : i = -1073 + Q) : double.read (double.word neg (Q * 4503599627370496 + 9007199254740992)) = .number neg 4503599627370496 i := by
  have m1 : 4503599627370496 + (Q * 4503599627370496 + 9007199254740992) % 4503599627370496 = 4503599627370496 := by omega
  have m2 : (-1074 : Int) + ((Q * 4503599627370496 + 9007199254740992) / 4503599627370496 - 1 : Nat) = i := by omega
  rw [read_word neg _ (by omega), if_neg (by omega), m1, m2]
/-- What is written of a number whose exponent has room: read, and shifted by so many. -/
theorem near_sc {neg : Bool} {mag : Nat} {p e : Int} (hm : mag ≠ 0) (h1 : -1050 ≤ p + mag.log2 - 52) (h2 : p + mag.log2 - 52 ≤ 850) (he : -20 ≤ e ∧ e ≤ 20) :
    ∃ m i, 4503599627370496 ≤ m ∧ m < 9007199254740992 ∧ p + mag.log2 - 52 ≤ i ∧ i ≤ p + mag.log2 - 51 ∧ double.read (double.nearest neg mag p) = .number neg m i ∧ double.read (double.nearest neg mag (p + e)) = .number neg m (i + e) := by
  obtain ⟨C, hC⟩ : ∃ C, C = Toward.even.cut neg (mag <<< (52 - mag.log2)) (mag.log2 - 52) := ⟨_, rfl⟩
  have c1 : 4503599627370496 ≤ C := by rw [hC]; exact kept_ge neg mag _ _ hm ⟨rfl, rfl⟩
  have key : ∀ p : Int, -1074 ≤ p + mag.log2 - 52 → p + mag.log2 - 52 ≤ 900 → double.nearest neg mag p = double.word neg ((p + mag.log2 - 52 + 1074).toNat * 4503599627370496 + C) ∧ C ≤ 9007199254740992 := fun p a b => by
    have hk := kept_le neg mag p (max (p + mag.log2 - 52) (-1074)) hm (by omega)
    rw [nearest_eq neg mag p hm]
    have hq : max (p + mag.log2 - 52) (-1074) = p + mag.log2 - 52 := by omega
    rw [hq] at hk ⊢
    have u : (p - (p + mag.log2 - 52)).toNat = 52 - mag.log2 := by omega
    have d : (p + mag.log2 - 52 - p).toNat = mag.log2 - 52 := by omega
    rw [u, d, ← hC] at hk ⊢
    have hm2 : min ((p + mag.log2 - 52 + 1074).toNat * 4503599627370496 + C) (2047 * 4503599627370496) = (p + mag.log2 - 52 + 1074).toNat * 4503599627370496 + C := by
      refine Nat.min_eq_left ?_
      omega
    exact ⟨congrArg (double.word neg) hm2, hk⟩
  obtain ⟨k1, c2⟩ := key p (by omega) (by omega)
  obtain ⟨k2, _⟩ := key (p + e) (by omega) (by omega)
  rw [k1, k2]
  obtain ⟨Q, hQ⟩ : ∃ Q : Nat, (Q : Int) = p + mag.log2 - 52 + 1074 := ⟨(p + mag.log2 - 52 + 1074).toNat, by omega⟩
  obtain ⟨Q', hQ'⟩ : ∃ Q : Nat, (Q : Int) = p + e + mag.log2 - 52 + 1074 := ⟨(p + e + mag.log2 - 52 + 1074).toNat, by omega⟩
  have e1 : (p + mag.log2 - 52 + 1074).toNat = Q := by omega
  have e2 : (p + e + mag.log2 - 52 + 1074).toNat = Q' := by omega
  rw [e1, e2]
  by_cases g : C = 9007199254740992
  · rw [g]
    refine ⟨4503599627370496, p + mag.log2 - 51, by omega, by omega, by omega, by omega, read_top (by omega) (by omega), read_top (by omega) (by omega)⟩
  · refine ⟨C, p + mag.log2 - 52, c1, by omega, by omega, by omega, read_low c1 (by omega) (by omega) (by omega), read_low c1 (by omega) (by omega) (by omega)⟩
/-- The one is the other times a power of two; how great it is at most, and at least. -/
def Sc (e lo hi : Int) (x x' : Nat) : Prop := (∃ s, double.read x = .number s 0 (-1074) ∧ double.read x' = .number s 0 (-1074)) ∨
  ∃ s m i, 4503599627370496 ≤ m ∧ m < 9007199254740992 ∧ lo ≤ i ∧ i ≤ hi ∧ double.read x = .number s m i ∧ double.read x' = .number s m (i + e)
theorem Sc.wk {e lo hi lo' hi' : Int} {x x' : Nat} (h : Sc e lo hi x x') (a : lo' ≤ lo) (b : hi ≤ hi') : Sc e lo' hi' x x' := by
  rcases h with h | ⟨s, m, i, h1, h2, h3, h4, h5, h6⟩
  · exact .inl h
  · exact .inr ⟨s, m, i, h1, h2, by omega, by omega, h5, h6⟩
theorem Sc.fin {e lo hi : Int} {x x' : Nat} (h : Sc e lo hi x x') : Flt.Fin x ∧ Flt.Fin x' := by
  rcases h with ⟨s, h1, h2⟩ | ⟨s, m, i, h1, h2, h3, h4, h5, h6⟩
  · exact ⟨⟨_, _, _, h1⟩, ⟨_, _, _, h2⟩⟩
  · exact ⟨⟨_, _, _, h5⟩, ⟨_, _, _, h6⟩⟩
theorem read_zero (s : Bool) : double.read (double.word s 0) = .number s 0 (-1074) := by
  rw [read_word s 0 (by decide), if_pos (by decide)]
/-- Two writings of one number, so many places apart. -/
theorem Sc.mk {e lo hi p : Int} {s : Bool} {mag : Nat} (he : -20 ≤ e ∧ e ≤ 20) (h : mag ≠ 0 → lo ≤ p + mag.log2 - 52 ∧ p + mag.log2 - 51 ≤ hi) (h1 : -1050 ≤ lo) (h2 : hi ≤ 850) : Sc e lo hi (double.nearest s mag p) (double.nearest s mag (p + e)) := by
  by_cases hm : mag = 0
  · subst hm
    rw [near_0, near_0]
    exact .inl ⟨s, read_zero s, read_zero s⟩
  · obtain ⟨a, b⟩ := h hm
    obtain ⟨m, i, c1, c2, c3, c4, c5, c6⟩ := near_sc (neg := s) (p := p) (e := e) hm (by omega) (by omega) he
    exact .inr ⟨s, m, i, c1, c2, by omega, by omega, c5, c6⟩
theorem near_num (s : Bool) (mag : Nat) (p : Int) : isN (double.nearest s mag p) = false := by
  by_cases hm : mag = 0
  · subst hm; rw [near_0]; exact word_ok s (Nat.zero_le _)
  · obtain ⟨t, _, e⟩ := nearest_form s mag p
    rw [e]; exact word_ok s (rung_le _ _ _ _ _)
theorem F_near {op : BinOp} {x y : Nat} {s : Bool} {mag : Nat} {p : Int} (h : fop op x y = some (double.nearest s mag p)) : F op x y = double.nearest s mag p := F_some h (near_num s mag p)
theorem fop_mul {x y : Nat} {s t : Bool} {m n : Nat} {i j : Int} (hx : double.read x = .number s m i) (hy : double.read y = .number t n j) : fop .mul x y = some (double.nearest (s ^^ t) (m * n) (i + j)) := by
  show ((double.read x).product (double.read y)).map double.write = _
  rw [hx, hy]; rfl
theorem Sc.mul {e e' lo hi lo' hi' : Int} {x x' y y' : Nat} (hx : Sc e lo hi x x') (hy : Sc e' lo' hi' y y') (he : -20 ≤ e + e' ∧ e + e' ≤ 20) (h1 : -1050 ≤ lo + lo' + 52) (h2 : hi + hi' + 54 ≤ 850) : Sc (e + e') (lo + lo' + 52) (hi + hi' + 54) (F .mul x y) (F .mul x' y') := by
  have z : ∀ {s t : Bool} {a b c d : Nat} {i j k l : Int}, double.read x = .number s a i → double.read y = .number t b j → double.read x' = .number s c k → double.read y' = .number t d l → a * b = 0 → c * d = 0 → Sc (e + e') (lo + lo' + 52) (hi + hi' + 54) (F .mul x y) (F .mul x' y') := fun {s t a b c d i j k l} q1 q2 q3 q4 z1 z2 => by
    rw [F_near (fop_mul q1 q2), F_near (fop_mul q3 q4), z1, z2, near_0, near_0]
    exact .inl ⟨_, read_zero _, read_zero _⟩
  rcases hx with ⟨s, a1, a2⟩ | ⟨s, m, i, a1, a2, a3, a4, a5, a6⟩ <;> rcases hy with ⟨t, b1, b2⟩ | ⟨t, n, j, b1, b2, b3, b4, b5, b6⟩
  · exact z a1 b1 a2 b2 (Nat.zero_mul _) (Nat.zero_mul _)
  · exact z a1 b5 a2 b6 (Nat.zero_mul _) (Nat.zero_mul _)
  · exact z a5 b1 a6 b2 (Nat.mul_zero _) (Nat.mul_zero _)
  · rw [F_near (fop_mul a5 b5), F_near (fop_mul a6 b6), show i + e + (j + e') = i + j + (e + e') by omega]
    have g : m * n ≠ 0 → (m * n).log2 = 104 ∨ (m * n).log2 = 105 := fun h0 => by
      have h3 : 2 ^ 104 ≤ m * n := by
        have := Nat.mul_le_mul a1 b1
        rw [show (2 : Nat) ^ 104 = 4503599627370496 * 4503599627370496 by decide]; exact this
      have h4 : m * n < 2 ^ 106 := by
        have := Nat.mul_lt_mul'' a2 b2
        rw [show (2 : Nat) ^ 106 = 9007199254740992 * 9007199254740992 by decide]; exact this
      have h5 := (Nat.le_log2 h0).2 h3
      have h6 := (Nat.log2_lt h0).2 h4
      omega
    refine Sc.mk he (fun h0 => ?_) h1 h2
    have := g h0
    omega
theorem fop_quo {x y : Nat} {s t : Bool} {m n : Nat} {i j : Int} (hx : double.read x = .number s m i) (hy : double.read y = .number t n j) (hn : n ≠ 0) :
    fop .quo x y = some (double.nearest (s ^^ t) (2 * ((m <<< (54 + n.log2 - m.log2)) / n) + ((m <<< (54 + n.log2 - m.log2)) % n != 0).toNat) (i - j - (54 + n.log2 - m.log2 : Nat) - 1)) := by
  show ((double.read x).quotient (double.fractionBits + 2) (double.read y)).map double.write = _
  have fb : double.fractionBits + 2 = 54 := by decide +kernel
  rw [hx, hy, fb]
  simp only [Datum.quotient, if_neg hn, Option.map_some]
  rfl
theorem Sc.quo {e e' lo hi lo' hi' : Int} {x x' y y' : Nat} (hx : Sc e lo hi x x') (hy : Sc e' lo' hi' y y') (h0 : feq y 0 = false) (he : -20 ≤ e - e' ∧ e - e' ≤ 20) (h1 : -1050 ≤ lo - hi' - 53) (h2 : hi - lo' - 51 ≤ 850) : Sc (e - e') (lo - hi' - 53) (hi - lo' - 51) (F .quo x y) (F .quo x' y') := by
  rcases hy with ⟨t, b1, b2⟩ | ⟨t, n, j, b1, b2, b3, b4, b5, b6⟩
  · exfalso
    rw [feq_V ⟨_, _, _, b1⟩ Fin_0, V_0, V_of b1, signed_0] at h0
    exact absurd h0 (by decide)
  have hn : n ≠ 0 := by omega
  have ln := log2_52 b1 b2
  rcases hx with ⟨s, a1, a2⟩ | ⟨s, m, i, a1, a2, a3, a4, a5, a6⟩
  · have z : (2 * ((0 <<< (54 + n.log2 - (0 : Nat).log2)) / n) + ((0 <<< (54 + n.log2 - (0 : Nat).log2)) % n != 0).toNat) = 0 := by simp
    rw [F_near (fop_quo a1 b5 hn), F_near (fop_quo a2 b6 hn), z, near_0, near_0]
    exact .inl ⟨_, read_zero _, read_zero _⟩
  · rw [F_near (fop_quo a5 b5 hn), F_near (fop_quo a6 b6 hn)]
    have lm := log2_52 a1 a2
    rw [ln, lm, show 54 + 52 - 52 = 54 by decide, show i + e - (j + e') - ((54 : Nat) : Int) - 1 = i - j - ((54 : Nat) : Int) - 1 + (e - e') by omega]
    have d0 : m <<< 54 = m * 18014398509481984 := Nat.shiftLeft_eq m 54
    rw [d0]
    have d1 : 9007199254740992 ≤ m * 18014398509481984 / n := by
      rw [Nat.le_div_iff_mul_le (by omega)]
      omega
    have d2 : m * 18014398509481984 / n < 36028797018963968 := by
      rw [Nat.div_lt_iff_lt_mul (by omega)]
      omega
    have tb : ((m * 18014398509481984) % n != 0).toNat ≤ 1 := by cases ((m * 18014398509481984) % n != 0) <;> decide
    generalize m * 18014398509481984 / n = D at *
    generalize ((m * 18014398509481984) % n != 0).toNat = T at *
    refine Sc.mk he (fun h0 => ?_) h1 h2
    have h5 := (Nat.le_log2 h0).2 (show 2 ^ 54 ≤ 2 * D + T by rw [show (2 : Nat) ^ 54 = 18014398509481984 by decide]; omega)
    have h6 := (Nat.log2_lt h0).2 (show 2 * D + T < 2 ^ 56 by rw [show (2 : Nat) ^ 56 = 72057594037927936 by decide]; omega)
    omega
theorem rootFrom_bd (n : Nat) : ∀ (todo r : Nat), r ≤ Datum.rootFrom n todo r ∧ Datum.rootFrom n todo r < r + 2 ^ todo
  | 0, r => ⟨Nat.le_refl _, by show r < r + 2 ^ 0; omega⟩
  | t + 1, r => by
    have e : Datum.rootFrom n (t + 1) r = Datum.rootFrom n t (if (r + 1 <<< t) * (r + 1 <<< t) ≤ n then r + 1 <<< t else r) := rfl
    rw [e, Nat.shiftLeft_eq, Nat.one_mul, Nat.pow_succ]
    split
    · have := rootFrom_bd n t (r + 2 ^ t); omega
    · have := rootFrom_bd n t r; omega
theorem root_read {x : Nat} {m : Nat} {i : Int} (hx : double.read x = .number false m i) (h : 4503599627370496 ≤ m) (h' : m < 9007199254740992) :
    ∃ (W : Nat) (k : Nat), (k : Int) = 56 + ((i - 56) % 2) ∧ 2 ^ 55 ≤ W ∧ W < 2 ^ 56 ∧ sq x = double.nearest false W ((i - k) / 2 - 1) ∧ ∀ y j, double.read y = .number false m j → (j - i) % 2 = 0 → sq y = double.nearest false W ((j - k) / 2 - 1) := by
  have fb : double.fractionBits + 2 = 54 := by decide +kernel
  have lm := log2_52 h h'
  have gen : ∀ y j, double.read y = .number false m j → Ieee.double.sqrt y = some (double.nearest false (2 * Datum.rootFrom (m <<< (56 + ((j - (56 : Nat)) % 2).toNat)) ((m <<< (56 + ((j - (56 : Nat)) % 2).toNat)).log2 / 2 + 1) 0 + (Datum.rootFrom (m <<< (56 + ((j - (56 : Nat)) % 2).toNat)) ((m <<< (56 + ((j - (56 : Nat)) % 2).toNat)).log2 / 2 + 1) 0 * Datum.rootFrom (m <<< (56 + ((j - (56 : Nat)) % 2).toNat)) ((m <<< (56 + ((j - (56 : Nat)) % 2).toNat)).log2 / 2 + 1) 0 != m <<< (56 + ((j - (56 : Nat)) % 2).toNat)).toNat) ((j - (56 + ((j - (56 : Nat)) % 2).toNat : Nat)) / 2 - 1)) := fun y j hy => by
    show ((double.read y).root (double.fractionBits + 2)).map double.write = _
    rw [hy, fb]
    simp only [Datum.root, if_neg (show ¬ m = 0 by omega), lm, Bool.false_eq_true, if_false, Option.map_some]
    rfl
  obtain ⟨k, hk⟩ : ∃ k : Nat, k = 56 + ((i - (56 : Nat)) % 2).toNat := ⟨_, rfl⟩
  have k2 : k = 56 ∨ k = 57 := by omega
  have sqs : ∀ y j, double.read y = .number false m j → (j - i) % 2 = 0 → sq y = double.nearest false (2 * Datum.rootFrom (m <<< k) ((m <<< k).log2 / 2 + 1) 0 + (Datum.rootFrom (m <<< k) ((m <<< k).log2 / 2 + 1) 0 * Datum.rootFrom (m <<< k) ((m <<< k).log2 / 2 + 1) 0 != m <<< k).toNat) ((j - (k : Nat)) / 2 - 1) := fun y j hy hp => by
    have g := gen y j hy
    have e : 56 + ((j - (56 : Nat)) % 2).toNat = k := by omega
    rw [e] at g
    unfold sq
    rw [g]
    exact cn_notN (near_num _ _ _)
  have lg : (m <<< k).log2 / 2 + 1 = 55 := by
    rw [log2_shl m k (by omega), lm]
    omega
  rw [lg] at sqs
  have big : (0 + 1 <<< 54) * (0 + 1 <<< 54) ≤ m <<< k := by
    rw [Nat.shiftLeft_eq, Nat.shiftLeft_eq]
    have h1 : 4503599627370496 * 2 ^ 56 ≤ m * 2 ^ k := Nat.mul_le_mul h (Nat.pow_le_pow_right (by decide) (by omega))
    have h2 : (0 + 1 * 2 ^ 54) * (0 + 1 * 2 ^ 54) = 4503599627370496 * 2 ^ 56 := by decide
    omega
  have step : Datum.rootFrom (m <<< k) 55 0 = Datum.rootFrom (m <<< k) 54 (0 + 1 <<< 54) := by
    have e : Datum.rootFrom (m <<< k) 55 0 = Datum.rootFrom (m <<< k) 54 (if (0 + 1 <<< 54) * (0 + 1 <<< 54) ≤ m <<< k then 0 + 1 <<< 54 else 0) := rfl
    rw [e, if_pos big]
  have rb := rootFrom_bd (m <<< k) 54 (0 + 1 <<< 54)
  rw [← step] at rb
  have e54 : (0 + 1 <<< 54 : Nat) = 2 ^ 54 := by decide
  rw [e54] at rb
  have tb : (Datum.rootFrom (m <<< k) 55 0 * Datum.rootFrom (m <<< k) 55 0 != m <<< k).toNat ≤ 1 := by cases (Datum.rootFrom (m <<< k) 55 0 * Datum.rootFrom (m <<< k) 55 0 != m <<< k) <;> decide
  refine ⟨2 * Datum.rootFrom (m <<< k) 55 0 + (Datum.rootFrom (m <<< k) 55 0 * Datum.rootFrom (m <<< k) 55 0 != m <<< k).toNat, k, by omega, by omega, by omega, sqs x i hx (by omega), sqs⟩
theorem Sc.sqrt {e lo hi : Int} {x x' : Nat} (hx : Sc (e + e) lo hi x x') (h0 : flt x 0 = false) (he : -20 ≤ e ∧ e ≤ 20) (h1 : -1050 ≤ (lo - 57) / 2 + 2) (h2 : (hi - 56) / 2 + 3 ≤ 850) : Sc e ((lo - 57) / 2 + 2) ((hi - 56) / 2 + 3) (sq x) (sq x') := by
  rcases hx with ⟨s, a1, a2⟩ | ⟨s, m, i, a1, a2, a3, a4, a5, a6⟩
  · have fb : double.fractionBits + 2 = 54 := by decide +kernel
    have g : ∀ y, double.read y = .number s 0 (-1074) → sq y = double.nearest s 0 (-1074) := fun y hy => by
      have e : Ieee.double.sqrt y = some (double.nearest s 0 (-1074)) := by
        show ((double.read y).root (double.fractionBits + 2)).map double.write = _
        rw [hy]; rfl
      unfold sq; rw [e]; exact cn_notN (near_num _ _ _)
    rw [g x a1, g x' a2, near_0]
    exact .inl ⟨s, read_zero s, read_zero s⟩
  · have hs : s = false := by
      cases s
      · rfl
      · exfalso
        rw [flt_V ⟨_, _, _, a5⟩ Fin_0, V_0, V_of a5, decide_eq_false_iff_not] at h0
        unfold signed at h0
        rw [if_pos rfl, Nat.shiftLeft_eq] at h0
        have := Nat.mul_pos (show 0 < m by omega) (Nat.two_pow_pos (i + 1074).toNat)
        omega
    subst hs
    obtain ⟨W, k, hk, w1, w2, q1, q2⟩ := root_read a5 a1 a2
    rw [q1, q2 x' (i + (e + e)) a6 (by omega), show (i + (e + e) - (k : Int)) / 2 - 1 = (i - (k : Int)) / 2 - 1 + e by omega]
    refine Sc.mk he (fun hz => ?_) h1 h2
    have h5 := (Nat.le_log2 hz).2 w1
    have h6 := (Nat.log2_lt hz).2 w2
    omega
theorem fop_add {x y : Nat} {s t : Bool} {m n : Nat} {i j : Int} (hx : double.read x = .number s m i) (hy : double.read y = .number t n j) :
    fop .add x y = some (double.nearest (if signed s m (i - min i j).toNat + signed t n (j - min i j).toNat = 0 then s && t else decide (signed s m (i - min i j).toNat + signed t n (j - min i j).toNat < 0)) (signed s m (i - min i j).toNat + signed t n (j - min i j).toNat).natAbs (min i j)) := by
  show ((double.read x).sum (double.read y)).map double.write = _
  rw [hx, hy]; rfl
theorem signed_ne {s : Bool} {m k : Nat} (h : 0 < m) : signed s m k ≠ 0 ∧ decide (signed s m k < 0) = s ∧ (signed s m k).natAbs = m <<< k := by
  have hp := Nat.mul_pos h (Nat.two_pow_pos k)
  unfold signed
  rw [Nat.shiftLeft_eq]
  cases s
  · rw [if_neg (by decide)]
    exact ⟨by omega, decide_eq_false (by omega), by omega⟩
  · rw [if_pos rfl]
    exact ⟨by omega, decide_eq_true (by omega), by omega⟩
theorem add_0l {x y : Nat} {s t : Bool} {n : Nat} {j : Int} (hx : double.read x = .number s 0 (-1074)) (hy : double.read y = .number t n j) (hn : 0 < n) (hj : -1074 ≤ j) : F .add x y = double.nearest t n j := by
  have h := fop_add hx hy
  have hb : min (-1074) j = -1074 := by omega
  rw [hb, signed_0, Int.zero_add] at h
  obtain ⟨a, b, c⟩ := signed_ne (s := t) (k := (j - -1074).toNat) hn
  rw [if_neg a, b, c] at h
  rw [F_near h, near_shift]
  congr 1
  omega
theorem add_0r {x y : Nat} {s t : Bool} {n : Nat} {j : Int} (hx : double.read x = .number s 0 (-1074)) (hy : double.read y = .number t n j) (hn : 0 < n) (hj : -1074 ≤ j) : F .add y x = double.nearest t n j := by
  rw [F_add_comm]; exact add_0l hx hy hn hj
theorem sum_lt {s t : Bool} {m n a b D : Nat} (hm : m < 9007199254740992) (hn : n < 9007199254740992) (ha : a ≤ D) (hb : b ≤ D) : (signed s m a + signed t n b).natAbs < 2 ^ (54 + D) := by
  have h1 : (signed s m a).natAbs = m * 2 ^ a := by rw [signed_abs, Nat.shiftLeft_eq]
  have h2 : (signed t n b).natAbs = n * 2 ^ b := by rw [signed_abs, Nat.shiftLeft_eq]
  have p1 := Nat.pow_le_pow_right (n := 2) (by decide) ha
  have p2 := Nat.pow_le_pow_right (n := 2) (by decide) hb
  have q1 : m * 2 ^ a ≤ 9007199254740991 * 2 ^ D := Nat.mul_le_mul (by omega) p1
  have q2 : n * 2 ^ b ≤ 9007199254740991 * 2 ^ D := Nat.mul_le_mul (by omega) p2
  have e : 2 ^ (54 + D) = 18014398509481984 * 2 ^ D := by rw [Nat.pow_add]
  have pd := Nat.two_pow_pos D
  omega
theorem Sc.add {e lo hi lo' hi' : Int} {x x' y y' : Nat} (hx : Sc e lo hi x x') (hy : Sc e lo' hi' y y') (he : -20 ≤ e ∧ e ≤ 20) (l1 : -1050 ≤ lo) (l2 : -1050 ≤ lo') (h1 : -1050 ≤ min lo lo' - 52) (h2 : max hi hi' + 2 ≤ 850) : Sc e (min lo lo' - 52) (max hi hi' + 2) (F .add x y) (F .add x' y') := by
  rcases hx with ⟨s, a1, a2⟩ | ⟨s, m, i, a1, a2, a3, a4, a5, a6⟩ <;> rcases hy with ⟨t, b1, b2⟩ | ⟨t, n, j, b1, b2, b3, b4, b5, b6⟩
  · have z : ∀ u v, double.read u = .number s 0 (-1074) → double.read v = .number t 0 (-1074) → F .add u v = double.word (s && t) 0 := fun u v hu hv => by
      have h := fop_add hu hv
      rw [signed_0, signed_0, Int.add_zero, if_pos rfl] at h
      rw [F_near h]
      exact near_0 _ _
    rw [z _ _ a1 b1, z _ _ a2 b2]
    exact .inl ⟨_, read_zero _, read_zero _⟩
  · rw [add_0l a1 b5 (by omega) (by omega), add_0l a2 b6 (by omega) (by omega)]
    have ln := log2_52 b1 b2
    exact Sc.mk he (fun h0 => by rw [ln]; omega) h1 h2
  · rw [add_0r b1 a5 (by omega) (by omega), add_0r b2 a6 (by omega) (by omega)]
    have lm := log2_52 a1 a2
    exact Sc.mk he (fun h0 => by rw [lm]; omega) h1 h2
  · have h := fop_add a5 b5
    have h' := fop_add a6 b6
    have eb : min (i + e) (j + e) = min i j + e := by omega
    have e1 : i + e - (min i j + e) = i - min i j := by omega
    have e2 : j + e - (min i j + e) = j - min i j := by omega
    rw [eb, e1, e2] at h'
    rw [F_near h, F_near h']
    have sl := sum_lt (s := s) (t := t) (a := (i - min i j).toNat) (b := (j - min i j).toNat) (D := (max i j - min i j).toNat) a2 b2 (by omega) (by omega)
    generalize (signed s m (i - min i j).toNat + signed t n (j - min i j).toNat).natAbs = M at *
    refine Sc.mk he (fun h0 => ?_) h1 h2
    have h6 := (Nat.log2_lt h0).2 sl
    omega
theorem read_fneg {x : Nat} {s : Bool} {m : Nat} {i : Int} (h : double.read x = .number s m i) : double.read (fneg x) = .number (!s) m i := by
  have hm : fneg x % 9223372036854775808 = x % 9223372036854775808 := fneg_mod x
  have hd : fneg x / 9223372036854775808 % 2 = 1 - x / 9223372036854775808 % 2 := by
    have e : fneg x / 2 ^ 63 = x / 2 ^ 63 ^^^ 1 := by
      show (x ^^^ 2 ^ 63) / 2 ^ 63 = _
      rw [Nat.xor_div_two_pow, Nat.div_self (by decide)]
    rw [show (9223372036854775808 : Nat) = 2 ^ 63 by decide, e, show (2 : Nat) = 2 ^ 1 by decide, Nat.xor_mod_two_pow]
    have : x / (2 ^ 1) ^ 63 % 2 ^ 1 = 0 ∨ x / (2 ^ 1) ^ 63 % 2 ^ 1 = 1 := by omega
    rcases this with h | h <;> rw [h] <;> rfl
  have hs : (fneg x / 9223372036854775808 % 2 == 1) = !(x / 9223372036854775808 % 2 == 1) := by
    rw [hd]
    have : x / 9223372036854775808 % 2 = 0 ∨ x / 9223372036854775808 % 2 = 1 := by omega
    rcases this with h | h <;> rw [h] <;> rfl
  have w : double.signWeight = 9223372036854775808 := by decide +kernel
  unfold Format.read at h ⊢
  simp only [w, hm, hs] at h ⊢
  split at h
  · rename_i c
    rw [if_pos c]
    injection h with h1 h2 h3
    rw [h1, h2, h3]
  · rename_i c
    rw [if_neg c]
    split at h
    · rename_i c2
      rw [if_pos c2]
      injection h with h1 h2 h3
      rw [h1, h2, h3]
    · rename_i c2
      rw [if_neg c2]
      split at h <;> cases h
theorem Sc.fneg {e lo hi : Int} {x x' : Nat} (h : Sc e lo hi x x') : Sc e lo hi (fneg x) (fneg x') := by
  rcases h with ⟨s, a, b⟩ | ⟨s, m, i, a1, a2, a3, a4, a5, a6⟩
  · exact .inl ⟨_, read_fneg a, read_fneg b⟩
  · exact .inr ⟨_, m, i, a1, a2, a3, a4, read_fneg a5, read_fneg a6⟩
theorem Fneg_eq {x : Nat} (h : Flt.Fin x) : Fneg x = fneg x := by unfold Fneg; exact cn_notN (by rw [isN_fneg]; exact h.notN)
theorem Sc.neg {e lo hi : Int} {x x' : Nat} (h : Sc e lo hi x x') : Sc e lo hi (Fneg x) (Fneg x') := by
  rw [Fneg_eq h.fin.1, Fneg_eq h.fin.2]; exact h.fneg
theorem sub_add {x y : Nat} (h : Flt.Fin y) : F .sub x y = F .add x (fneg y) := by
  obtain ⟨s, m, i, e⟩ := h
  have : fop .sub x y = fop .add x (fneg y) := by
    show ((double.read x).sum (double.read y).opposite).map double.write = ((double.read x).sum (double.read (fneg y))).map double.write
    rw [e, read_fneg e]; rfl
  unfold F; rw [this]
theorem Sc.sub {e lo hi lo' hi' : Int} {x x' y y' : Nat} (hx : Sc e lo hi x x') (hy : Sc e lo' hi' y y') (he : -20 ≤ e ∧ e ≤ 20) (l1 : -1050 ≤ lo) (l2 : -1050 ≤ lo') (h1 : -1050 ≤ min lo lo' - 52) (h2 : max hi hi' + 2 ≤ 850) : Sc e (min lo lo' - 52) (max hi hi' + 2) (F .sub x y) (F .sub x' y') := by
  rw [sub_add hy.fin.1, sub_add hy.fin.2]
  exact hx.add hy.fneg he l1 l2 h1 h2
/-- What both stand for, so many places apart. -/
theorem Sc.V {e lo hi : Int} {x x' : Nat} (h : Sc e lo hi x x') (he : -20 ≤ e ∧ e ≤ 20) (hl : -1050 ≤ lo) : Flt.V x' * (2 ^ 20 : Nat) = Flt.V x * (2 ^ (20 + e).toNat : Nat) := by
  rcases h with ⟨s, a, b⟩ | ⟨s, m, i, a1, a2, a3, a4, a5, a6⟩
  · rw [V_of a, V_of b, signed_0, Int.zero_mul, Int.zero_mul]
  · rw [V_of a5, V_of a6, ← signed_add, ← signed_add]
    congr 1
    omega
theorem cmp_sc {a a' b b' : Int} {p q : Nat} (hp : 0 < p) (hq : 0 < q) (h1 : a' * p = a * q) (h2 : b' * p = b * q) : (a' < b' ↔ a < b) ∧ (a' = b' ↔ a = b) := by
  have P : (0 : Int) < p := by omega
  have Q : (0 : Int) < q := by omega
  constructor
  · rw [← Int.mul_lt_mul_right P, h1, h2, Int.mul_lt_mul_right Q]
  · constructor
    · intro h
      have : a * q = b * q := by rw [← h1, ← h2, h]
      exact Int.eq_of_mul_eq_mul_right (by omega) this
    · intro h
      have : a' * p = b' * p := by rw [h1, h2, h]
      exact Int.eq_of_mul_eq_mul_right (by omega) this
theorem Sc.cmp {e lo hi lo' hi' : Int} {x x' y y' : Nat} (hx : Sc e lo hi x x') (hy : Sc e lo' hi' y y') (he : -20 ≤ e ∧ e ≤ 20) (l1 : -1050 ≤ lo) (l2 : -1050 ≤ lo') : flt x' y' = flt x y ∧ feq x' y' = feq x y ∧ fgt x' y' = fgt x y := by
  have h := cmp_sc (Nat.two_pow_pos 20) (Nat.two_pow_pos (20 + e).toNat) (hx.V he l1) (hy.V he l2)
  have h' := cmp_sc (Nat.two_pow_pos 20) (Nat.two_pow_pos (20 + e).toNat) (hy.V he l2) (hx.V he l1)
  rw [fgt_flt, fgt_flt, flt_V hx.fin.2 hy.fin.2, flt_V hx.fin.1 hy.fin.1, feq_V hx.fin.2 hy.fin.2, feq_V hx.fin.1 hy.fin.1, flt_V hy.fin.2 hx.fin.2, flt_V hy.fin.1 hx.fin.1]
  exact ⟨decide_eq_decide.2 h.1, decide_eq_decide.2 h.2, decide_eq_decide.2 h'.1⟩
theorem sc_0 (e : Int) : Sc e 0 0 0 0 := .inl ⟨false, by decide +kernel, by decide +kernel⟩
theorem Sc.zero {e lo hi : Int} {x x' : Nat} (hx : Sc e lo hi x x') (he : -20 ≤ e ∧ e ≤ 20) (l1 : -1050 ≤ lo) : flt x' 0 = flt x 0 ∧ feq x' 0 = feq x 0 ∧ fgt x' 0 = fgt x 0 := hx.cmp (sc_0 e) he l1 (by decide)
theorem Sc.less {e lo hi lo' hi' : Int} {x x' y y' : Nat} (hx : Sc e lo hi x x') (hy : Sc e lo' hi' y y') (he : -20 ≤ e ∧ e ≤ 20) (l1 : -1050 ≤ lo) (l2 : -1050 ≤ lo') : Sc e (min lo lo') (max hi hi') (lessV x y) (lessV x' y') := by
  unfold lessV
  rw [(hy.cmp hx he l2 l1).1]
  cases flt y x
  · exact hx.wk (by omega) (by omega)
  · exact hy.wk (by omega) (by omega)
theorem Sc.more {e lo hi lo' hi' : Int} {x x' y y' : Nat} (hx : Sc e lo hi x x') (hy : Sc e lo' hi' y y') (he : -20 ≤ e ∧ e ≤ 20) (l1 : -1050 ≤ lo) (l2 : -1050 ≤ lo') : Sc e (min lo lo') (max hi hi') (moreV x y) (moreV x' y') := by
  unfold moreV
  rw [(hy.cmp hx he l2 l1).2.2]
  cases fgt y x
  · exact hx.wk (by omega) (by omega)
  · exact hy.wk (by omega) (by omega)
/-- Quotients of two that go along are the same. -/
theorem Sc.quo_eq {e lo hi lo' hi' : Int} {x x' y y' : Nat} (hx : Sc e lo hi x x') (hy : Sc e lo' hi' y y') (h0 : feq y 0 = false) : F .quo x y = F .quo x' y' := by
  rcases hy with ⟨t, b1, b2⟩ | ⟨t, n, j, b1, b2, b3, b4, b5, b6⟩
  · exfalso
    rw [feq_V ⟨_, _, _, b1⟩ Fin_0, V_0, V_of b1, signed_0] at h0
    exact absurd h0 (by decide)
  have hn : n ≠ 0 := by omega
  rcases hx with ⟨s, a1, a2⟩ | ⟨s, m, i, a1, a2, a3, a4, a5, a6⟩
  · have z : (2 * ((0 <<< (54 + n.log2 - (0 : Nat).log2)) / n) + ((0 <<< (54 + n.log2 - (0 : Nat).log2)) % n != 0).toNat) = 0 := by simp
    rw [F_near (fop_quo a1 b5 hn), F_near (fop_quo a2 b6 hn), z, near_0, near_0]
  · rw [F_near (fop_quo a5 b5 hn), F_near (fop_quo a6 b6 hn), show i + e - (j + e) = i - j by omega]
theorem near_id {s : Bool} {m : Nat} {i : Int} (h : 4503599627370496 ≤ m) (h' : m < 9007199254740992) (h1 : -1060 ≤ i) (h2 : i ≤ 860) : double.read (double.nearest s m i) = .number s m i := by
  have lm := log2_52 h h'
  rw [nearest_eq s m i (by omega), lm]
  have hq : max (i + ((52 : Nat) : Int) - 52) (-1074) = i := by omega
  rw [hq, show (i - i).toNat = 0 by omega, Nat.shiftLeft_zero, cut_even, Nat.pow_zero]
  have hr : rhe m 1 = m := by unfold rhe; rw [Nat.mod_one, Nat.div_one]; simp
  rw [hr]
  obtain ⟨Q, hQ⟩ : ∃ Q : Nat, (Q : Int) = i + 1074 := ⟨(i + 1074).toNat, by omega⟩
  rw [show (i + 1074).toNat = Q by omega, Nat.min_eq_left (by omega)]
  exact read_low h h' (by omega) (by omega)
theorem fop_pow {a k : Nat} {s : Bool} {m : Nat} {i j : Int} (ha : double.read a = .number s m i) (hk : double.read k = .number false 4503599627370496 j) : F .mul a k = double.nearest s m (i + j + 52) := by
  have h := fop_mul ha hk
  have e : m * 4503599627370496 = m <<< 52 := by rw [Nat.shiftLeft_eq]
  rw [e, near_shift, Bool.xor_false] at h
  exact F_near h
/-- A number times a power of two. -/
theorem Sc.pow {lo hi j : Int} {a k : Nat} (h : Sc 0 lo hi a a) (hk : double.read k = .number false 4503599627370496 j) (hj : -72 ≤ j ∧ j ≤ -32) (l1 : -1000 ≤ lo) (l2 : hi ≤ 800) : Sc (j + 52) lo hi a (F .mul a k) := by
  rcases h with ⟨s, b1, b2⟩ | ⟨s, m, i, b1, b2, b3, b4, b5, b6⟩
  · rw [fop_pow b1 hk, near_0]
    exact .inl ⟨s, b1, read_zero s⟩
  · refine .inr ⟨s, m, i, b1, b2, b3, b4, b5, ?_⟩
    rw [fop_pow b5 hk, near_id b1 b2 (by omega) (by omega)]
    congr 1
    omega
end Flt
end Go.Proofs.YtpmmabaecldmkaaGreat
/- Shapes that are made of raw numbers, at any place. -/
namespace Go.Proofs.YtpmmabaecldmkaaGreat
open Go.RowKit Ev
set_option linter.unusedVariables false
set_option linter.unusedSimpArgs false
set_option maxRecDepth 20000
set_option maxHeartbeats 4000000

def Shp.lst (p : Shp) : List AV := [.int .i64 p.k, .flt p.a, .flt p.b, .flt p.c, .flt p.d, .flt p.e, .flt p.f, .flt p.g, .flt p.h, .flt p.i, .flt p.r, .flt p.q, .int .i64 p.s]
theorem tdiv_bdO {a b : Int} (h : 0 ≤ a ∧ a < 2500) (hb : 0 ≤ b ∧ b < 3) : 0 ≤ a.tdiv (1 + b) ∧ a.tdiv (1 + b) < 2500 := by
  rw [Int.tdiv_eq_ediv_of_nonneg h.1]
  have h1 := Int.ediv_nonneg h.1 (show 0 ≤ 1 + b by omega)
  have h2 := Int.ediv_le_self (1 + b) h.1
  omega
theorem putV_f : FnOk Tryz.prog 78 Tryz.f78 := ⟨Tryz.func78, by kernel_rfl⟩
theorem putV_a (a b c x : Nat) (k : Int) (hpre : 0 ≤ k ∧ k ≤ 2) : ACalls Tryz.prog 78 [.agg [.flt a, .flt b, .flt c], .int .i64 k, .flt x] (.agg [.flt (bif k == 0 then x else a), .flt (bif k == 1 then x else b), .flt (bif k == 0 || k == 1 then c else x)]) := by
  exact put_a a b c x k hpre
def putV_k : Con Tryz.prog := ⟨78, fun args => match args with | [.agg [.flt a, .flt b, .flt c], .int .i64 k, .flt x] => .ok (some (0 ≤ k ∧ k ≤ 2)) (.agg [.flt (bif k == 0 then x else a), .flt (bif k == 1 then x else b), .flt (bif k == 0 || k == 1 then c else x)]) | _ => .no, by
  intro args p r h hp
  split at h
  · cases h; exact putV_a _ _ _ _ _ hp
  · cases h⟩
theorem six1_f : FnOk Tryz.prog 13 Tryz.f13 := ⟨Tryz.func13, by kernel_rfl⟩
theorem six1_a (c : Int) (hpre : In64 c ∧ pickF c 6 = 0) : ACalls Tryz.prog 13 [.int .i64 c, .int .i64 6] (.int .i64 0) := by
  have h := pick_a c 6 ⟨hpre.1, by omega, by omega⟩
  rw [hpre.2] at h
  exact h
def six1_k : Con Tryz.prog := ⟨13, fun args => match args with | [.int .i64 c, .int .i64 6] => .ok (some (In64 c ∧ pickF c 6 = 0)) (.int .i64 0) | _ => .no, by
  intro args p r h hp
  split at h
  · cases h; exact six1_a _ hp
  · cases h⟩
def shq1S (n : Nat) (G : Nat → Int) (m : Int) : Shp := ⟨1, milF (rawF n G (m + 1)) 4000, milF (rawF n G (m + 1 + 1)) 4000, milF (rawF n G (m + 1 + 2)) 4000, 0, 0, 0, 0, 0, 0, thoF (1 + pickF (rawF n G (m + 8)) 2500), 0, pickF (rawF n G (m + 7)) 3⟩
theorem shq1_f : FnOk Tryz.prog 59 Tryz.f59 := ⟨Tryz.func59, by kernel_rfl⟩
theorem shq1_a (n : Nat) (G : Nat → Int) (m : Int) (hpre : (∀ j, In64 (G j)) ∧ (0 ≤ m ∧ m ≤ 900000) ∧ pickF (rawF n G m) 6 = 0) : ACalls Tryz.prog 59 [ints .i64 n G, .int .i64 m, .int .i64 3] (.agg (shq1S n G m).lst) := by
  refine acalls_of (inl := hasI (P := Tryz.prog) [] []) (base [six1_k, raw_k, vecOf_k, thousandth_k, pick_k, addR_k, putV_k, nought_k] [] []) 0 shq1_f (And.intro (by kernel_rfl) ?_)
  obtain ⟨hF, hm, hk⟩ := hpre
  have h5 := pickF_bd (rawF n G (m + 5)) 3000 (by omega)
  have h5' := pickF_bd (rawF n G (m + 5)) 2000 (by omega)
  have h6 := pickF_bd (rawF n G (m + 6)) 2000 (by omega)
  have h6' := pickF_bd (rawF n G (m + 6)) 3 (by omega)
  have h8 := pickF_bd (rawF n G (m + 8)) 2500 (by omega)
  have h4 := pickF_bd (rawF n G (m + 4)) 3 (by omega)
  have hd := tdiv_bdO h8 h4
  have w1 : IntKind.i64.wrap (1 + pickF (rawF n G (m + 8)) 2500) = 1 + pickF (rawF n G (m + 8)) 2500 := wrapI (by omega) (by omega)
  have w2 : IntKind.i64.wrap (1 + pickF (rawF n G (m + 5)) 3000) = 1 + pickF (rawF n G (m + 5)) 3000 := wrapI (by omega) (by omega)
  have w3 : IntKind.i64.wrap (1 + pickF (rawF n G (m + 4)) 3) = 1 + pickF (rawF n G (m + 4)) 3 := wrapI (by omega) (by omega)
  have w4 : IntKind.i64.wrap ((pickF (rawF n G (m + 8)) 2500).tdiv (1 + pickF (rawF n G (m + 4)) 3)) = (pickF (rawF n G (m + 8)) 2500).tdiv (1 + pickF (rawF n G (m + 4)) 3) := wrapI (by omega) (by omega)
  have w5 : IntKind.i64.wrap (1 + (pickF (rawF n G (m + 8)) 2500).tdiv (1 + pickF (rawF n G (m + 4)) 3)) = 1 + (pickF (rawF n G (m + 8)) 2500).tdiv (1 + pickF (rawF n G (m + 4)) 3) := wrapI (by omega) (by omega)
  have c01 : IntKind.i64.wrap (m + 1) = m + 1 := wrapI (by omega) (by omega)
  have c04 : IntKind.i64.wrap (m + 4) = m + 4 := wrapI (by omega) (by omega)
  have c05 : IntKind.i64.wrap (m + 5) = m + 5 := wrapI (by omega) (by omega)
  have c06 : IntKind.i64.wrap (m + 6) = m + 6 := wrapI (by omega) (by omega)
  have c07 : IntKind.i64.wrap (m + 7) = m + 7 := wrapI (by omega) (by omega)
  have c08 : IntKind.i64.wrap (m + 8) = m + 8 := wrapI (by omega) (by omega)
  have c09 : IntKind.i64.wrap (m + 9) = m + 9 := wrapI (by omega) (by omega)
  have c10 : IntKind.i64.wrap (1 + 0) = 1 := by decide
  have c11 : IntKind.i64.wrap (1 + 1) = 2 := by decide
  have c12 : IntKind.i64.wrap (1 + 2) = 3 := by decide
  have c13 : IntKind.i64.wrap (1 + 3) = 4 := by decide
  have c14 : IntKind.i64.wrap (1 + 4) = 5 := by decide
  have c15 : IntKind.i64.wrap (1 + 5) = 6 := by decide
  repeat' (first | refine And.intro ?_ ?_ | (with_reducible exact ff_elim) | (with_reducible exact tf_elim) | (intro hq; exact absurd hq (by decide)) | refine num_elim ?_ | intro _ | (with_reducible rfl) | ((with_reducible refine lk_t ?_); exact rfl) | ((with_reducible refine pf_t ?_); exact rfl) | refine tell ?_ | exact True.intro | (refine IsT.of ?_; kernel_rfl))
  all_goals (try refine Tell.mk ?_)
  all_goals first | with_reducible rfl | with_reducible exact isI_mk | with_reducible assumption | (with_reducible refine gb_t ?_; with_reducible assumption) | (with_reducible refine gb_f ?_; with_reducible assumption) | ((with_reducible refine ks_t ?_); rfl) | ((with_reducible refine pk_t ?_); rfl) | ((with_reducible refine pf_t ?_); rfl) | ((with_reducible refine lk_t ?_); rfl) | ((with_reducible refine okF_t ?_); kernel_rfl) | ((with_reducible refine rawF_in ?_); assumption) | skip
  all_goals (try simp only [decide_eq_true_eq, decide_eq_false_iff_not, beq_iff_eq, beq_eq_false_iff_ne, ne_eq, bne_iff_ne, intF_mk])
  all_goals (try unfold shq1S)
  all_goals (try dsimp only)
  all_goals (try simp only [w1, w2, w3, w4, w5, c01, c04, c05, c06, c07, c08, c09, c10, c11, c12, c13, c14, c15])
  all_goals first | with_reducible rfl | omega | (simp only [raw_p]; omega) | exact hF _ | with_reducible exact rawF_in hF | (simp only [intF_mk, c04] at *; simp only [*, cond_true, cond_false]; done) | (simp only [intF_mk, c04, w3] at *; omega) | trace_state
theorem six2_f : FnOk Tryz.prog 13 Tryz.f13 := ⟨Tryz.func13, by kernel_rfl⟩
theorem six2_a (c : Int) (hpre : In64 c ∧ pickF c 6 = 1) : ACalls Tryz.prog 13 [.int .i64 c, .int .i64 6] (.int .i64 1) := by
  have h := pick_a c 6 ⟨hpre.1, by omega, by omega⟩
  rw [hpre.2] at h
  exact h
def six2_k : Con Tryz.prog := ⟨13, fun args => match args with | [.int .i64 c, .int .i64 6] => .ok (some (In64 c ∧ pickF c 6 = 1)) (.int .i64 1) | _ => .no, by
  intro args p r h hp
  split at h
  · cases h; exact six2_a _ hp
  · cases h⟩
def shq2S (n : Nat) (G : Nat → Int) (m : Int) : Shp := ⟨2, milF (rawF n G (m + 1)) 4000, milF (rawF n G (m + 1 + 1)) 4000, milF (rawF n G (m + 1 + 2)) 4000, F .add (milF (rawF n G (m + 1)) 4000) (thoF (1 + pickF (rawF n G (m + 8)) 2500)), F .add (milF (rawF n G (m + 1 + 1)) 4000) (thoF (pickF (rawF n G (m + 5)) 2000)), F .add (milF (rawF n G (m + 1 + 2)) 4000) (thoF (pickF (rawF n G (m + 6)) 2000)), 0, 0, 0, 0, 0, pickF (rawF n G (m + 7)) 3⟩
theorem shq2_f : FnOk Tryz.prog 59 Tryz.f59 := ⟨Tryz.func59, by kernel_rfl⟩
theorem shq2_a (n : Nat) (G : Nat → Int) (m : Int) (hpre : (∀ j, In64 (G j)) ∧ (0 ≤ m ∧ m ≤ 900000) ∧ pickF (rawF n G m) 6 = 1) : ACalls Tryz.prog 59 [ints .i64 n G, .int .i64 m, .int .i64 3] (.agg (shq2S n G m).lst) := by
  refine acalls_of (inl := hasI (P := Tryz.prog) [] []) (base [six2_k, raw_k, vecOf_k, thousandth_k, pick_k, addR_k, putV_k, nought_k] [] []) 0 shq2_f (And.intro (by kernel_rfl) ?_)
  obtain ⟨hF, hm, hk⟩ := hpre
  have h5 := pickF_bd (rawF n G (m + 5)) 3000 (by omega)
  have h5' := pickF_bd (rawF n G (m + 5)) 2000 (by omega)
  have h6 := pickF_bd (rawF n G (m + 6)) 2000 (by omega)
  have h6' := pickF_bd (rawF n G (m + 6)) 3 (by omega)
  have h8 := pickF_bd (rawF n G (m + 8)) 2500 (by omega)
  have h4 := pickF_bd (rawF n G (m + 4)) 3 (by omega)
  have hd := tdiv_bdO h8 h4
  have w1 : IntKind.i64.wrap (1 + pickF (rawF n G (m + 8)) 2500) = 1 + pickF (rawF n G (m + 8)) 2500 := wrapI (by omega) (by omega)
  have w2 : IntKind.i64.wrap (1 + pickF (rawF n G (m + 5)) 3000) = 1 + pickF (rawF n G (m + 5)) 3000 := wrapI (by omega) (by omega)
  have w3 : IntKind.i64.wrap (1 + pickF (rawF n G (m + 4)) 3) = 1 + pickF (rawF n G (m + 4)) 3 := wrapI (by omega) (by omega)
  have w4 : IntKind.i64.wrap ((pickF (rawF n G (m + 8)) 2500).tdiv (1 + pickF (rawF n G (m + 4)) 3)) = (pickF (rawF n G (m + 8)) 2500).tdiv (1 + pickF (rawF n G (m + 4)) 3) := wrapI (by omega) (by omega)
  have w5 : IntKind.i64.wrap (1 + (pickF (rawF n G (m + 8)) 2500).tdiv (1 + pickF (rawF n G (m + 4)) 3)) = 1 + (pickF (rawF n G (m + 8)) 2500).tdiv (1 + pickF (rawF n G (m + 4)) 3) := wrapI (by omega) (by omega)
  have c01 : IntKind.i64.wrap (m + 1) = m + 1 := wrapI (by omega) (by omega)
  have c04 : IntKind.i64.wrap (m + 4) = m + 4 := wrapI (by omega) (by omega)
  have c05 : IntKind.i64.wrap (m + 5) = m + 5 := wrapI (by omega) (by omega)
  have c06 : IntKind.i64.wrap (m + 6) = m + 6 := wrapI (by omega) (by omega)
  have c07 : IntKind.i64.wrap (m + 7) = m + 7 := wrapI (by omega) (by omega)
  have c08 : IntKind.i64.wrap (m + 8) = m + 8 := wrapI (by omega) (by omega)
  have c09 : IntKind.i64.wrap (m + 9) = m + 9 := wrapI (by omega) (by omega)
  have c10 : IntKind.i64.wrap (1 + 0) = 1 := by decide
  have c11 : IntKind.i64.wrap (1 + 1) = 2 := by decide
  have c12 : IntKind.i64.wrap (1 + 2) = 3 := by decide
  have c13 : IntKind.i64.wrap (1 + 3) = 4 := by decide
  have c14 : IntKind.i64.wrap (1 + 4) = 5 := by decide
  have c15 : IntKind.i64.wrap (1 + 5) = 6 := by decide
  repeat' (first | refine And.intro ?_ ?_ | (with_reducible exact ff_elim) | (with_reducible exact tf_elim) | (intro hq; exact absurd hq (by decide)) | refine num_elim ?_ | intro _ | (with_reducible rfl) | ((with_reducible refine lk_t ?_); exact rfl) | ((with_reducible refine pf_t ?_); exact rfl) | refine tell ?_ | exact True.intro | (refine IsT.of ?_; kernel_rfl))
  all_goals (try refine Tell.mk ?_)
  all_goals first | with_reducible rfl | with_reducible exact isI_mk | with_reducible assumption | (with_reducible refine gb_t ?_; with_reducible assumption) | (with_reducible refine gb_f ?_; with_reducible assumption) | ((with_reducible refine ks_t ?_); rfl) | ((with_reducible refine pk_t ?_); rfl) | ((with_reducible refine pf_t ?_); rfl) | ((with_reducible refine lk_t ?_); rfl) | ((with_reducible refine okF_t ?_); kernel_rfl) | ((with_reducible refine rawF_in ?_); assumption) | skip
  all_goals (try simp only [decide_eq_true_eq, decide_eq_false_iff_not, beq_iff_eq, beq_eq_false_iff_ne, ne_eq, bne_iff_ne, intF_mk])
  all_goals (try unfold shq2S)
  all_goals (try dsimp only)
  all_goals (try simp only [w1, w2, w3, w4, w5, c01, c04, c05, c06, c07, c08, c09, c10, c11, c12, c13, c14, c15])
  all_goals first | with_reducible rfl | omega | (simp only [raw_p]; omega) | exact hF _ | with_reducible exact rawF_in hF | (simp only [intF_mk, c04] at *; simp only [*, cond_true, cond_false]; done) | (simp only [intF_mk, c04, w3] at *; omega) | trace_state
theorem six3_f : FnOk Tryz.prog 13 Tryz.f13 := ⟨Tryz.func13, by kernel_rfl⟩
theorem six3_a (c : Int) (hpre : In64 c ∧ pickF c 6 = 2) : ACalls Tryz.prog 13 [.int .i64 c, .int .i64 6] (.int .i64 2) := by
  have h := pick_a c 6 ⟨hpre.1, by omega, by omega⟩
  rw [hpre.2] at h
  exact h
def six3_k : Con Tryz.prog := ⟨13, fun args => match args with | [.int .i64 c, .int .i64 6] => .ok (some (In64 c ∧ pickF c 6 = 2)) (.int .i64 2) | _ => .no, by
  intro args p r h hp
  split at h
  · cases h; exact six3_a _ hp
  · cases h⟩
def shq3S (n : Nat) (G : Nat → Int) (m : Int) : Shp := ⟨3, milF (rawF n G (m + 1)) 4000, milF (rawF n G (m + 1 + 1)) 4000, milF (rawF n G (m + 1 + 2)) 4000, F .add (milF (rawF n G (m + 1)) 4000) (milF (rawF n G (m + 4)) 3000), F .add (milF (rawF n G (m + 1 + 1)) 4000) (milF (rawF n G (m + 4 + 1)) 3000), F .add (milF (rawF n G (m + 1 + 2)) 4000) (milF (rawF n G (m + 4 + 2)) 3000), milF (rawF n G (m + 9)) 4000, milF (rawF n G (m + 9 + 1)) 4000, milF (rawF n G (m + 9 + 2)) 4000, 0, 0, pickF (rawF n G (m + 7)) 3⟩
theorem shq3_f : FnOk Tryz.prog 59 Tryz.f59 := ⟨Tryz.func59, by kernel_rfl⟩
theorem shq3_a (n : Nat) (G : Nat → Int) (m : Int) (hpre : (∀ j, In64 (G j)) ∧ (0 ≤ m ∧ m ≤ 900000) ∧ pickF (rawF n G m) 6 = 2) : ACalls Tryz.prog 59 [ints .i64 n G, .int .i64 m, .int .i64 3] (.agg (shq3S n G m).lst) := by
  refine acalls_of (inl := hasI (P := Tryz.prog) [] []) (base [six3_k, raw_k, vecOf_k, thousandth_k, pick_k, addR_k, putV_k, nought_k] [] []) 0 shq3_f (And.intro (by kernel_rfl) ?_)
  obtain ⟨hF, hm, hk⟩ := hpre
  have h5 := pickF_bd (rawF n G (m + 5)) 3000 (by omega)
  have h5' := pickF_bd (rawF n G (m + 5)) 2000 (by omega)
  have h6 := pickF_bd (rawF n G (m + 6)) 2000 (by omega)
  have h6' := pickF_bd (rawF n G (m + 6)) 3 (by omega)
  have h8 := pickF_bd (rawF n G (m + 8)) 2500 (by omega)
  have h4 := pickF_bd (rawF n G (m + 4)) 3 (by omega)
  have hd := tdiv_bdO h8 h4
  have w1 : IntKind.i64.wrap (1 + pickF (rawF n G (m + 8)) 2500) = 1 + pickF (rawF n G (m + 8)) 2500 := wrapI (by omega) (by omega)
  have w2 : IntKind.i64.wrap (1 + pickF (rawF n G (m + 5)) 3000) = 1 + pickF (rawF n G (m + 5)) 3000 := wrapI (by omega) (by omega)
  have w3 : IntKind.i64.wrap (1 + pickF (rawF n G (m + 4)) 3) = 1 + pickF (rawF n G (m + 4)) 3 := wrapI (by omega) (by omega)
  have w4 : IntKind.i64.wrap ((pickF (rawF n G (m + 8)) 2500).tdiv (1 + pickF (rawF n G (m + 4)) 3)) = (pickF (rawF n G (m + 8)) 2500).tdiv (1 + pickF (rawF n G (m + 4)) 3) := wrapI (by omega) (by omega)
  have w5 : IntKind.i64.wrap (1 + (pickF (rawF n G (m + 8)) 2500).tdiv (1 + pickF (rawF n G (m + 4)) 3)) = 1 + (pickF (rawF n G (m + 8)) 2500).tdiv (1 + pickF (rawF n G (m + 4)) 3) := wrapI (by omega) (by omega)
  have c01 : IntKind.i64.wrap (m + 1) = m + 1 := wrapI (by omega) (by omega)
  have c04 : IntKind.i64.wrap (m + 4) = m + 4 := wrapI (by omega) (by omega)
  have c05 : IntKind.i64.wrap (m + 5) = m + 5 := wrapI (by omega) (by omega)
  have c06 : IntKind.i64.wrap (m + 6) = m + 6 := wrapI (by omega) (by omega)
  have c07 : IntKind.i64.wrap (m + 7) = m + 7 := wrapI (by omega) (by omega)
  have c08 : IntKind.i64.wrap (m + 8) = m + 8 := wrapI (by omega) (by omega)
  have c09 : IntKind.i64.wrap (m + 9) = m + 9 := wrapI (by omega) (by omega)
  have c10 : IntKind.i64.wrap (1 + 0) = 1 := by decide
  have c11 : IntKind.i64.wrap (1 + 1) = 2 := by decide
  have c12 : IntKind.i64.wrap (1 + 2) = 3 := by decide
  have c13 : IntKind.i64.wrap (1 + 3) = 4 := by decide
  have c14 : IntKind.i64.wrap (1 + 4) = 5 := by decide
  have c15 : IntKind.i64.wrap (1 + 5) = 6 := by decide
  repeat' (first | refine And.intro ?_ ?_ | (with_reducible exact ff_elim) | (with_reducible exact tf_elim) | (intro hq; exact absurd hq (by decide)) | refine num_elim ?_ | intro _ | (with_reducible rfl) | ((with_reducible refine lk_t ?_); exact rfl) | ((with_reducible refine pf_t ?_); exact rfl) | refine tell ?_ | exact True.intro | (refine IsT.of ?_; kernel_rfl))
  all_goals (try refine Tell.mk ?_)
  all_goals first | with_reducible rfl | with_reducible exact isI_mk | with_reducible assumption | (with_reducible refine gb_t ?_; with_reducible assumption) | (with_reducible refine gb_f ?_; with_reducible assumption) | ((with_reducible refine ks_t ?_); rfl) | ((with_reducible refine pk_t ?_); rfl) | ((with_reducible refine pf_t ?_); rfl) | ((with_reducible refine lk_t ?_); rfl) | ((with_reducible refine okF_t ?_); kernel_rfl) | ((with_reducible refine rawF_in ?_); assumption) | skip
  all_goals (try simp only [decide_eq_true_eq, decide_eq_false_iff_not, beq_iff_eq, beq_eq_false_iff_ne, ne_eq, bne_iff_ne, intF_mk])
  all_goals (try unfold shq3S)
  all_goals (try dsimp only)
  all_goals (try simp only [w1, w2, w3, w4, w5, c01, c04, c05, c06, c07, c08, c09, c10, c11, c12, c13, c14, c15])
  all_goals first | with_reducible rfl | omega | (simp only [raw_p]; omega) | exact hF _ | with_reducible exact rawF_in hF | (simp only [intF_mk, c04] at *; simp only [*, cond_true, cond_false]; done) | (simp only [intF_mk, c04, w3] at *; omega) | trace_state
theorem six4_f : FnOk Tryz.prog 13 Tryz.f13 := ⟨Tryz.func13, by kernel_rfl⟩
theorem six4_a (c : Int) (hpre : In64 c ∧ pickF c 6 = 3) : ACalls Tryz.prog 13 [.int .i64 c, .int .i64 6] (.int .i64 3) := by
  have h := pick_a c 6 ⟨hpre.1, by omega, by omega⟩
  rw [hpre.2] at h
  exact h
def six4_k : Con Tryz.prog := ⟨13, fun args => match args with | [.int .i64 c, .int .i64 6] => .ok (some (In64 c ∧ pickF c 6 = 3)) (.int .i64 3) | _ => .no, by
  intro args p r h hp
  split at h
  · cases h; exact six4_a _ hp
  · cases h⟩
def shq4S (n : Nat) (G : Nat → Int) (m : Int) : Shp := ⟨4, milF (rawF n G (m + 1)) 4000, milF (rawF n G (m + 1 + 1)) 4000, milF (rawF n G (m + 1 + 2)) 4000, bif (feq (milF (rawF n G (m + 4)) 3000) 0 && (feq (milF (rawF n G (m + 4 + 1)) 3000) 0 && feq (milF (rawF n G (m + 4 + 2)) 3000) 0)) then 0 else milF (rawF n G (m + 4)) 3000, bif (feq (milF (rawF n G (m + 4)) 3000) 0 && (feq (milF (rawF n G (m + 4 + 1)) 3000) 0 && feq (milF (rawF n G (m + 4 + 2)) 3000) 0)) then 4607182418800017408 else milF (rawF n G (m + 4 + 1)) 3000, bif (feq (milF (rawF n G (m + 4)) 3000) 0 && (feq (milF (rawF n G (m + 4 + 1)) 3000) 0 && feq (milF (rawF n G (m + 4 + 2)) 3000) 0)) then 0 else milF (rawF n G (m + 4 + 2)) 3000, 0, 0, 0, thoF (1 + pickF (rawF n G (m + 8)) 2500), 0, pickF (rawF n G (m + 7)) 3⟩
theorem shq4_f : FnOk Tryz.prog 59 Tryz.f59 := ⟨Tryz.func59, by kernel_rfl⟩
theorem shq4_a (n : Nat) (G : Nat → Int) (m : Int) (hpre : (∀ j, In64 (G j)) ∧ (0 ≤ m ∧ m ≤ 900000) ∧ pickF (rawF n G m) 6 = 3) : ACalls Tryz.prog 59 [ints .i64 n G, .int .i64 m, .int .i64 3] (.agg (shq4S n G m).lst) := by
  refine acalls_of (inl := hasI (P := Tryz.prog) [] []) (base [six4_k, raw_k, vecOf_k, thousandth_k, pick_k, addR_k, putV_k, nought_k] [] []) 0 shq4_f (And.intro (by kernel_rfl) ?_)
  obtain ⟨hF, hm, hk⟩ := hpre
  have h5 := pickF_bd (rawF n G (m + 5)) 3000 (by omega)
  have h5' := pickF_bd (rawF n G (m + 5)) 2000 (by omega)
  have h6 := pickF_bd (rawF n G (m + 6)) 2000 (by omega)
  have h6' := pickF_bd (rawF n G (m + 6)) 3 (by omega)
  have h8 := pickF_bd (rawF n G (m + 8)) 2500 (by omega)
  have h4 := pickF_bd (rawF n G (m + 4)) 3 (by omega)
  have hd := tdiv_bdO h8 h4
  have w1 : IntKind.i64.wrap (1 + pickF (rawF n G (m + 8)) 2500) = 1 + pickF (rawF n G (m + 8)) 2500 := wrapI (by omega) (by omega)
  have w2 : IntKind.i64.wrap (1 + pickF (rawF n G (m + 5)) 3000) = 1 + pickF (rawF n G (m + 5)) 3000 := wrapI (by omega) (by omega)
  have w3 : IntKind.i64.wrap (1 + pickF (rawF n G (m + 4)) 3) = 1 + pickF (rawF n G (m + 4)) 3 := wrapI (by omega) (by omega)
  have w4 : IntKind.i64.wrap ((pickF (rawF n G (m + 8)) 2500).tdiv (1 + pickF (rawF n G (m + 4)) 3)) = (pickF (rawF n G (m + 8)) 2500).tdiv (1 + pickF (rawF n G (m + 4)) 3) := wrapI (by omega) (by omega)
  have w5 : IntKind.i64.wrap (1 + (pickF (rawF n G (m + 8)) 2500).tdiv (1 + pickF (rawF n G (m + 4)) 3)) = 1 + (pickF (rawF n G (m + 8)) 2500).tdiv (1 + pickF (rawF n G (m + 4)) 3) := wrapI (by omega) (by omega)
  have c01 : IntKind.i64.wrap (m + 1) = m + 1 := wrapI (by omega) (by omega)
  have c04 : IntKind.i64.wrap (m + 4) = m + 4 := wrapI (by omega) (by omega)
  have c05 : IntKind.i64.wrap (m + 5) = m + 5 := wrapI (by omega) (by omega)
  have c06 : IntKind.i64.wrap (m + 6) = m + 6 := wrapI (by omega) (by omega)
  have c07 : IntKind.i64.wrap (m + 7) = m + 7 := wrapI (by omega) (by omega)
  have c08 : IntKind.i64.wrap (m + 8) = m + 8 := wrapI (by omega) (by omega)
  have c09 : IntKind.i64.wrap (m + 9) = m + 9 := wrapI (by omega) (by omega)
  have c10 : IntKind.i64.wrap (1 + 0) = 1 := by decide
  have c11 : IntKind.i64.wrap (1 + 1) = 2 := by decide
  have c12 : IntKind.i64.wrap (1 + 2) = 3 := by decide
  have c13 : IntKind.i64.wrap (1 + 3) = 4 := by decide
  have c14 : IntKind.i64.wrap (1 + 4) = 5 := by decide
  have c15 : IntKind.i64.wrap (1 + 5) = 6 := by decide
  repeat' (first | refine And.intro ?_ ?_ | (with_reducible exact ff_elim) | (with_reducible exact tf_elim) | (intro hq; exact absurd hq (by decide)) | refine num_elim ?_ | intro _ | (with_reducible rfl) | ((with_reducible refine lk_t ?_); exact rfl) | ((with_reducible refine pf_t ?_); exact rfl) | refine tell ?_ | exact True.intro | (refine IsT.of ?_; kernel_rfl))
  all_goals (try refine Tell.mk ?_)
  all_goals first | with_reducible rfl | with_reducible exact isI_mk | with_reducible assumption | (with_reducible refine gb_t ?_; with_reducible assumption) | (with_reducible refine gb_f ?_; with_reducible assumption) | ((with_reducible refine ks_t ?_); rfl) | ((with_reducible refine pk_t ?_); rfl) | ((with_reducible refine pf_t ?_); rfl) | ((with_reducible refine lk_t ?_); rfl) | ((with_reducible refine okF_t ?_); kernel_rfl) | ((with_reducible refine rawF_in ?_); assumption) | skip
  all_goals (try simp only [decide_eq_true_eq, decide_eq_false_iff_not, beq_iff_eq, beq_eq_false_iff_ne, ne_eq, bne_iff_ne, intF_mk])
  all_goals (try unfold shq4S)
  all_goals (try dsimp only)
  all_goals (try simp only [w1, w2, w3, w4, w5, c01, c04, c05, c06, c07, c08, c09, c10, c11, c12, c13, c14, c15])
  all_goals first | with_reducible rfl | omega | (simp only [raw_p]; omega) | exact hF _ | with_reducible exact rawF_in hF | (simp only [intF_mk, c04] at *; simp only [*, cond_true, cond_false]; done) | (simp only [intF_mk, c04, w3] at *; omega) | trace_state
theorem six5_f : FnOk Tryz.prog 13 Tryz.f13 := ⟨Tryz.func13, by kernel_rfl⟩
theorem six5_a (c : Int) (hpre : In64 c ∧ pickF c 6 = 4) : ACalls Tryz.prog 13 [.int .i64 c, .int .i64 6] (.int .i64 4) := by
  have h := pick_a c 6 ⟨hpre.1, by omega, by omega⟩
  rw [hpre.2] at h
  exact h
def six5_k : Con Tryz.prog := ⟨13, fun args => match args with | [.int .i64 c, .int .i64 6] => .ok (some (In64 c ∧ pickF c 6 = 4)) (.int .i64 4) | _ => .no, by
  intro args p r h hp
  split at h
  · cases h; exact six5_a _ hp
  · cases h⟩
def shq5S (n : Nat) (G : Nat → Int) (m : Int) : Shp := ⟨5, milF (rawF n G (m + 1)) 4000, milF (rawF n G (m + 1 + 1)) 4000, milF (rawF n G (m + 1 + 2)) 4000, bif pickF (rawF n G (m + 6)) 3 == 0 then thoF (1 + pickF (rawF n G (m + 5)) 3000) else 0, bif pickF (rawF n G (m + 6)) 3 == 1 then thoF (1 + pickF (rawF n G (m + 5)) 3000) else 0, bif pickF (rawF n G (m + 6)) 3 == 0 || pickF (rawF n G (m + 6)) 3 == 1 then 0 else thoF (1 + pickF (rawF n G (m + 5)) 3000), 0, 0, 0, thoF (1 + pickF (rawF n G (m + 8)) 2500), 0, pickF (rawF n G (m + 7)) 3⟩
theorem shq5_f : FnOk Tryz.prog 59 Tryz.f59 := ⟨Tryz.func59, by kernel_rfl⟩
theorem shq5_a (n : Nat) (G : Nat → Int) (m : Int) (hpre : (∀ j, In64 (G j)) ∧ (0 ≤ m ∧ m ≤ 900000) ∧ pickF (rawF n G m) 6 = 4) : ACalls Tryz.prog 59 [ints .i64 n G, .int .i64 m, .int .i64 3] (.agg (shq5S n G m).lst) := by
  refine acalls_of (inl := hasI (P := Tryz.prog) [] []) (base [six5_k, raw_k, vecOf_k, thousandth_k, pick_k, addR_k, putV_k, nought_k] [] []) 0 shq5_f (And.intro (by kernel_rfl) ?_)
  obtain ⟨hF, hm, hk⟩ := hpre
  have h5 := pickF_bd (rawF n G (m + 5)) 3000 (by omega)
  have h5' := pickF_bd (rawF n G (m + 5)) 2000 (by omega)
  have h6 := pickF_bd (rawF n G (m + 6)) 2000 (by omega)
  have h6' := pickF_bd (rawF n G (m + 6)) 3 (by omega)
  have h8 := pickF_bd (rawF n G (m + 8)) 2500 (by omega)
  have h4 := pickF_bd (rawF n G (m + 4)) 3 (by omega)
  have hd := tdiv_bdO h8 h4
  have w1 : IntKind.i64.wrap (1 + pickF (rawF n G (m + 8)) 2500) = 1 + pickF (rawF n G (m + 8)) 2500 := wrapI (by omega) (by omega)
  have w2 : IntKind.i64.wrap (1 + pickF (rawF n G (m + 5)) 3000) = 1 + pickF (rawF n G (m + 5)) 3000 := wrapI (by omega) (by omega)
  have w3 : IntKind.i64.wrap (1 + pickF (rawF n G (m + 4)) 3) = 1 + pickF (rawF n G (m + 4)) 3 := wrapI (by omega) (by omega)
  have w4 : IntKind.i64.wrap ((pickF (rawF n G (m + 8)) 2500).tdiv (1 + pickF (rawF n G (m + 4)) 3)) = (pickF (rawF n G (m + 8)) 2500).tdiv (1 + pickF (rawF n G (m + 4)) 3) := wrapI (by omega) (by omega)
  have w5 : IntKind.i64.wrap (1 + (pickF (rawF n G (m + 8)) 2500).tdiv (1 + pickF (rawF n G (m + 4)) 3)) = 1 + (pickF (rawF n G (m + 8)) 2500).tdiv (1 + pickF (rawF n G (m + 4)) 3) := wrapI (by omega) (by omega)
  have c01 : IntKind.i64.wrap (m + 1) = m + 1 := wrapI (by omega) (by omega)
  have c04 : IntKind.i64.wrap (m + 4) = m + 4 := wrapI (by omega) (by omega)
  have c05 : IntKind.i64.wrap (m + 5) = m + 5 := wrapI (by omega) (by omega)
  have c06 : IntKind.i64.wrap (m + 6) = m + 6 := wrapI (by omega) (by omega)
  have c07 : IntKind.i64.wrap (m + 7) = m + 7 := wrapI (by omega) (by omega)
  have c08 : IntKind.i64.wrap (m + 8) = m + 8 := wrapI (by omega) (by omega)
  have c09 : IntKind.i64.wrap (m + 9) = m + 9 := wrapI (by omega) (by omega)
  have c10 : IntKind.i64.wrap (1 + 0) = 1 := by decide
  have c11 : IntKind.i64.wrap (1 + 1) = 2 := by decide
  have c12 : IntKind.i64.wrap (1 + 2) = 3 := by decide
  have c13 : IntKind.i64.wrap (1 + 3) = 4 := by decide
  have c14 : IntKind.i64.wrap (1 + 4) = 5 := by decide
  have c15 : IntKind.i64.wrap (1 + 5) = 6 := by decide
  repeat' (first | refine And.intro ?_ ?_ | (with_reducible exact ff_elim) | (with_reducible exact tf_elim) | (intro hq; exact absurd hq (by decide)) | refine num_elim ?_ | intro _ | (with_reducible rfl) | ((with_reducible refine lk_t ?_); exact rfl) | ((with_reducible refine pf_t ?_); exact rfl) | refine tell ?_ | exact True.intro | (refine IsT.of ?_; kernel_rfl))
  all_goals (try refine Tell.mk ?_)
  all_goals first | with_reducible rfl | with_reducible exact isI_mk | with_reducible assumption | (with_reducible refine gb_t ?_; with_reducible assumption) | (with_reducible refine gb_f ?_; with_reducible assumption) | ((with_reducible refine ks_t ?_); rfl) | ((with_reducible refine pk_t ?_); rfl) | ((with_reducible refine pf_t ?_); rfl) | ((with_reducible refine lk_t ?_); rfl) | ((with_reducible refine okF_t ?_); kernel_rfl) | ((with_reducible refine rawF_in ?_); assumption) | skip
  all_goals (try simp only [decide_eq_true_eq, decide_eq_false_iff_not, beq_iff_eq, beq_eq_false_iff_ne, ne_eq, bne_iff_ne, intF_mk])
  all_goals (try unfold shq5S)
  all_goals (try dsimp only)
  all_goals (try simp only [w1, w2, w3, w4, w5, c01, c04, c05, c06, c07, c08, c09, c10, c11, c12, c13, c14, c15])
  all_goals first | with_reducible rfl | omega | (simp only [raw_p]; omega) | exact hF _ | with_reducible exact rawF_in hF | (simp only [intF_mk, c04] at *; simp only [*, cond_true, cond_false]; done) | (simp only [intF_mk, c04, w3] at *; omega) | trace_state
theorem six6_f : FnOk Tryz.prog 13 Tryz.f13 := ⟨Tryz.func13, by kernel_rfl⟩
theorem six6_a (c : Int) (hpre : In64 c ∧ pickF c 6 = 5) : ACalls Tryz.prog 13 [.int .i64 c, .int .i64 6] (.int .i64 5) := by
  have h := pick_a c 6 ⟨hpre.1, by omega, by omega⟩
  rw [hpre.2] at h
  exact h
def six6_k : Con Tryz.prog := ⟨13, fun args => match args with | [.int .i64 c, .int .i64 6] => .ok (some (In64 c ∧ pickF c 6 = 5)) (.int .i64 5) | _ => .no, by
  intro args p r h hp
  split at h
  · cases h; exact six6_a _ hp
  · cases h⟩
def shq6S (n : Nat) (G : Nat → Int) (m : Int) : Shp := ⟨6, milF (rawF n G (m + 1)) 4000, milF (rawF n G (m + 1 + 1)) 4000, milF (rawF n G (m + 1 + 2)) 4000, bif pickF (rawF n G (m + 6)) 3 == 0 then thoF (1 + pickF (rawF n G (m + 5)) 3000) else 0, bif pickF (rawF n G (m + 6)) 3 == 1 then thoF (1 + pickF (rawF n G (m + 5)) 3000) else 0, bif pickF (rawF n G (m + 6)) 3 == 0 || pickF (rawF n G (m + 6)) 3 == 1 then 0 else thoF (1 + pickF (rawF n G (m + 5)) 3000), 0, 0, 0, thoF (1 + pickF (rawF n G (m + 8)) 2500), thoF (1 + (pickF (rawF n G (m + 8)) 2500).tdiv (1 + pickF (rawF n G (m + 4)) 3)), pickF (rawF n G (m + 7)) 3⟩
theorem shq6_f : FnOk Tryz.prog 59 Tryz.f59 := ⟨Tryz.func59, by kernel_rfl⟩
theorem shq6_a (n : Nat) (G : Nat → Int) (m : Int) (hpre : (∀ j, In64 (G j)) ∧ (0 ≤ m ∧ m ≤ 900000) ∧ pickF (rawF n G m) 6 = 5) : ACalls Tryz.prog 59 [ints .i64 n G, .int .i64 m, .int .i64 3] (.agg (shq6S n G m).lst) := by
  refine acalls_of (inl := hasI (P := Tryz.prog) [] []) (base [six6_k, raw_k, vecOf_k, thousandth_k, pick_k, addR_k, putV_k, nought_k] [] []) 0 shq6_f (And.intro (by kernel_rfl) ?_)
  obtain ⟨hF, hm, hk⟩ := hpre
  have h5 := pickF_bd (rawF n G (m + 5)) 3000 (by omega)
  have h5' := pickF_bd (rawF n G (m + 5)) 2000 (by omega)
  have h6 := pickF_bd (rawF n G (m + 6)) 2000 (by omega)
  have h6' := pickF_bd (rawF n G (m + 6)) 3 (by omega)
  have h8 := pickF_bd (rawF n G (m + 8)) 2500 (by omega)
  have h4 := pickF_bd (rawF n G (m + 4)) 3 (by omega)
  have hd := tdiv_bdO h8 h4
  have w1 : IntKind.i64.wrap (1 + pickF (rawF n G (m + 8)) 2500) = 1 + pickF (rawF n G (m + 8)) 2500 := wrapI (by omega) (by omega)
  have w2 : IntKind.i64.wrap (1 + pickF (rawF n G (m + 5)) 3000) = 1 + pickF (rawF n G (m + 5)) 3000 := wrapI (by omega) (by omega)
  have w3 : IntKind.i64.wrap (1 + pickF (rawF n G (m + 4)) 3) = 1 + pickF (rawF n G (m + 4)) 3 := wrapI (by omega) (by omega)
  have w4 : IntKind.i64.wrap ((pickF (rawF n G (m + 8)) 2500).tdiv (1 + pickF (rawF n G (m + 4)) 3)) = (pickF (rawF n G (m + 8)) 2500).tdiv (1 + pickF (rawF n G (m + 4)) 3) := wrapI (by omega) (by omega)
  have w5 : IntKind.i64.wrap (1 + (pickF (rawF n G (m + 8)) 2500).tdiv (1 + pickF (rawF n G (m + 4)) 3)) = 1 + (pickF (rawF n G (m + 8)) 2500).tdiv (1 + pickF (rawF n G (m + 4)) 3) := wrapI (by omega) (by omega)
  have c01 : IntKind.i64.wrap (m + 1) = m + 1 := wrapI (by omega) (by omega)
  have c04 : IntKind.i64.wrap (m + 4) = m + 4 := wrapI (by omega) (by omega)
  have c05 : IntKind.i64.wrap (m + 5) = m + 5 := wrapI (by omega) (by omega)
  have c06 : IntKind.i64.wrap (m + 6) = m + 6 := wrapI (by omega) (by omega)
  have c07 : IntKind.i64.wrap (m + 7) = m + 7 := wrapI (by omega) (by omega)
  have c08 : IntKind.i64.wrap (m + 8) = m + 8 := wrapI (by omega) (by omega)
  have c09 : IntKind.i64.wrap (m + 9) = m + 9 := wrapI (by omega) (by omega)
  have c10 : IntKind.i64.wrap (1 + 0) = 1 := by decide
  have c11 : IntKind.i64.wrap (1 + 1) = 2 := by decide
  have c12 : IntKind.i64.wrap (1 + 2) = 3 := by decide
  have c13 : IntKind.i64.wrap (1 + 3) = 4 := by decide
  have c14 : IntKind.i64.wrap (1 + 4) = 5 := by decide
  have c15 : IntKind.i64.wrap (1 + 5) = 6 := by decide
  repeat' (first | refine And.intro ?_ ?_ | (with_reducible exact ff_elim) | (with_reducible exact tf_elim) | (intro hq; exact absurd hq (by decide)) | refine num_elim ?_ | intro _ | (with_reducible rfl) | ((with_reducible refine lk_t ?_); exact rfl) | ((with_reducible refine pf_t ?_); exact rfl) | refine tell ?_ | exact True.intro | (refine IsT.of ?_; kernel_rfl))
  all_goals (try refine Tell.mk ?_)
  all_goals first | with_reducible rfl | with_reducible exact isI_mk | with_reducible assumption | (with_reducible refine gb_t ?_; with_reducible assumption) | (with_reducible refine gb_f ?_; with_reducible assumption) | ((with_reducible refine ks_t ?_); rfl) | ((with_reducible refine pk_t ?_); rfl) | ((with_reducible refine pf_t ?_); rfl) | ((with_reducible refine lk_t ?_); rfl) | ((with_reducible refine okF_t ?_); kernel_rfl) | ((with_reducible refine rawF_in ?_); assumption) | skip
  all_goals (try simp only [decide_eq_true_eq, decide_eq_false_iff_not, beq_iff_eq, beq_eq_false_iff_ne, ne_eq, bne_iff_ne, intF_mk])
  all_goals (try unfold shq6S)
  all_goals (try dsimp only)
  all_goals (try simp only [w1, w2, w3, w4, w5, c01, c04, c05, c06, c07, c08, c09, c10, c11, c12, c13, c14, c15])
  all_goals first | with_reducible rfl | omega | (simp only [raw_p]; omega) | exact hF _ | with_reducible exact rawF_in hF | (simp only [intF_mk, c04] at *; simp only [*, cond_true, cond_false]; done) | (simp only [intF_mk, c04, w3] at *; omega) | trace_state
def shpO (n : Nat) (G : Nat → Int) (m : Int) : Shp :=
  if pickF (rawF n G m) 6 = 0 then shq1S n G m else if pickF (rawF n G m) 6 = 1 then shq2S n G m else if pickF (rawF n G m) 6 = 2 then shq3S n G m else
  if pickF (rawF n G m) 6 = 3 then shq4S n G m else if pickF (rawF n G m) 6 = 4 then shq5S n G m else shq6S n G m
theorem shapeOf_f : FnOk Tryz.prog 59 Tryz.f59 := ⟨Tryz.func59, by kernel_rfl⟩
theorem shapeOf_a (n : Nat) (G : Nat → Int) (m : Int) (hpre : (∀ j, In64 (G j)) ∧ (0 ≤ m ∧ m ≤ 900000)) : ACalls Tryz.prog 59 [ints .i64 n G, .int .i64 m, .int .i64 3] (.agg (shpO n G m).lst) := by
  obtain ⟨h1, h2⟩ := hpre
  have hb := pickF_bd (rawF n G m) 6 (by omega)
  have hc : pickF (rawF n G m) 6 = 0 ∨ pickF (rawF n G m) 6 = 1 ∨ pickF (rawF n G m) 6 = 2 ∨ pickF (rawF n G m) 6 = 3 ∨ pickF (rawF n G m) 6 = 4 ∨ pickF (rawF n G m) 6 = 5 := by omega
  unfold shpO
  rcases hc with h | h | h | h | h | h
  · rw [if_pos h]; exact shq1_a n G m ⟨h1, h2, h⟩
  · rw [if_neg (by omega), if_pos h]; exact shq2_a n G m ⟨h1, h2, h⟩
  · rw [if_neg (by omega), if_neg (by omega), if_pos h]; exact shq3_a n G m ⟨h1, h2, h⟩
  · rw [if_neg (by omega), if_neg (by omega), if_neg (by omega), if_pos h]; exact shq4_a n G m ⟨h1, h2, h⟩
  · rw [if_neg (by omega), if_neg (by omega), if_neg (by omega), if_neg (by omega), if_pos h]; exact shq5_a n G m ⟨h1, h2, h⟩
  · rw [if_neg (by omega), if_neg (by omega), if_neg (by omega), if_neg (by omega), if_neg (by omega)]; exact shq6_a n G m ⟨h1, h2, h⟩
def shapeOf_k : Con Tryz.prog := ⟨59, fun args => match args with | [.sl n 1 g, .int .i64 m, .int .i64 3] => .ok (some (IsI .i64 g ∧ (∀ j, In64 (intF g j)) ∧ (0 ≤ m ∧ m ≤ 900000))) (.agg (shpO n (intF g) m).lst) | _ => .no, by
  intro args p r h hp
  split at h
  · cases h; obtain ⟨h_g, hq⟩ := hp; have e_g := h_g.eq; rw [e_g]; exact shapeOf_a _ _ _ hq
  · cases h⟩
end Go.Proofs.YtpmmabaecldmkaaGreat
/- Shapes that are made of raw numbers, at any place. -/
namespace Go.Proofs.YtpmmabaecldmkaaGreat
open Go.RowKit Ev
set_option linter.unusedVariables false
set_option linter.unusedSimpArgs false
set_option maxRecDepth 20000
set_option maxHeartbeats 4000000

def Shp.lso (p : Shp) : List AV := [.int .i64 p.k, .flt p.a, .flt p.b, .flt p.c, .flt p.d, .flt p.e, .flt p.f, .flt p.g, .flt p.h, .flt p.i, .flt p.r, .flt p.q, .int .i64 p.s]
theorem tdiv_bo {a b : Int} (h : 0 ≤ a ∧ a < 2500) (hb : 0 ≤ b ∧ b < 3) : 0 ≤ a.tdiv (1 + b) ∧ a.tdiv (1 + b) < 2500 := by
  rw [Int.tdiv_eq_ediv_of_nonneg h.1]
  have h1 := Int.ediv_nonneg h.1 (show 0 ≤ 1 + b by omega)
  have h2 := Int.ediv_le_self (1 + b) h.1
  omega
theorem putW_f : FnOk Tryz.prog 78 Tryz.f78 := ⟨Tryz.func78, by kernel_rfl⟩
theorem putW_a (a b c x : Nat) (k : Int) (hpre : 0 ≤ k ∧ k ≤ 2) : ACalls Tryz.prog 78 [.agg [.flt a, .flt b, .flt c], .int .i64 k, .flt x] (.agg [.flt (bif k == 0 then x else a), .flt (bif k == 1 then x else b), .flt (bif k == 0 || k == 1 then c else x)]) := by
  exact put_a a b c x k hpre
def putW_k : Con Tryz.prog := ⟨78, fun args => match args with | [.agg [.flt a, .flt b, .flt c], .int .i64 k, .flt x] => .ok (some (0 ≤ k ∧ k ≤ 2)) (.agg [.flt (bif k == 0 then x else a), .flt (bif k == 1 then x else b), .flt (bif k == 0 || k == 1 then c else x)]) | _ => .no, by
  intro args p r h hp
  split at h
  · cases h; exact putW_a _ _ _ _ _ hp
  · cases h⟩
theorem siy1_f : FnOk Tryz.prog 13 Tryz.f13 := ⟨Tryz.func13, by kernel_rfl⟩
theorem siy1_a (c : Int) (hpre : In64 c ∧ pickF c 6 = 0) : ACalls Tryz.prog 13 [.int .i64 c, .int .i64 6] (.int .i64 0) := by
  have h := pick_a c 6 ⟨hpre.1, by omega, by omega⟩
  rw [hpre.2] at h
  exact h
def siy1_k : Con Tryz.prog := ⟨13, fun args => match args with | [.int .i64 c, .int .i64 6] => .ok (some (In64 c ∧ pickF c 6 = 0)) (.int .i64 0) | _ => .no, by
  intro args p r h hp
  split at h
  · cases h; exact siy1_a _ hp
  · cases h⟩
def shq1oS (n : Nat) (G : Nat → Int) (m : Int) : Shp := ⟨1, milF (rawF n G (m + 1)) 4000, milF (rawF n G (m + 1 + 1)) 4000, milF (rawF n G (m + 1 + 2)) 4000, 0, 0, 0, 0, 0, 0, thoF (1 + pickF (rawF n G (m + 8)) 2500), 0, pickF (rawF n G (m + 7)) 1⟩
theorem shq1o_f : FnOk Tryz.prog 59 Tryz.f59 := ⟨Tryz.func59, by kernel_rfl⟩
theorem shq1o_a (n : Nat) (G : Nat → Int) (m : Int) (hpre : (∀ j, In64 (G j)) ∧ (0 ≤ m ∧ m ≤ 900000) ∧ pickF (rawF n G m) 6 = 0) : ACalls Tryz.prog 59 [ints .i64 n G, .int .i64 m, .int .i64 1] (.agg (shq1oS n G m).lso) := by
  refine acalls_of (inl := hasI (P := Tryz.prog) [] []) (base [siy1_k, raw_k, vecOf_k, thousandth_k, pick_k, addR_k, putW_k, nought_k] [] []) 0 shq1o_f (And.intro (by kernel_rfl) ?_)
  obtain ⟨hF, hm, hk⟩ := hpre
  have h5 := pickF_bd (rawF n G (m + 5)) 3000 (by omega)
  have h5' := pickF_bd (rawF n G (m + 5)) 2000 (by omega)
  have h6 := pickF_bd (rawF n G (m + 6)) 2000 (by omega)
  have h6' := pickF_bd (rawF n G (m + 6)) 3 (by omega)
  have h8 := pickF_bd (rawF n G (m + 8)) 2500 (by omega)
  have h4 := pickF_bd (rawF n G (m + 4)) 3 (by omega)
  have hd := tdiv_bo h8 h4
  have w1 : IntKind.i64.wrap (1 + pickF (rawF n G (m + 8)) 2500) = 1 + pickF (rawF n G (m + 8)) 2500 := wrapI (by omega) (by omega)
  have w2 : IntKind.i64.wrap (1 + pickF (rawF n G (m + 5)) 3000) = 1 + pickF (rawF n G (m + 5)) 3000 := wrapI (by omega) (by omega)
  have w3 : IntKind.i64.wrap (1 + pickF (rawF n G (m + 4)) 3) = 1 + pickF (rawF n G (m + 4)) 3 := wrapI (by omega) (by omega)
  have w4 : IntKind.i64.wrap ((pickF (rawF n G (m + 8)) 2500).tdiv (1 + pickF (rawF n G (m + 4)) 3)) = (pickF (rawF n G (m + 8)) 2500).tdiv (1 + pickF (rawF n G (m + 4)) 3) := wrapI (by omega) (by omega)
  have w5 : IntKind.i64.wrap (1 + (pickF (rawF n G (m + 8)) 2500).tdiv (1 + pickF (rawF n G (m + 4)) 3)) = 1 + (pickF (rawF n G (m + 8)) 2500).tdiv (1 + pickF (rawF n G (m + 4)) 3) := wrapI (by omega) (by omega)
  have c01 : IntKind.i64.wrap (m + 1) = m + 1 := wrapI (by omega) (by omega)
  have c04 : IntKind.i64.wrap (m + 4) = m + 4 := wrapI (by omega) (by omega)
  have c05 : IntKind.i64.wrap (m + 5) = m + 5 := wrapI (by omega) (by omega)
  have c06 : IntKind.i64.wrap (m + 6) = m + 6 := wrapI (by omega) (by omega)
  have c07 : IntKind.i64.wrap (m + 7) = m + 7 := wrapI (by omega) (by omega)
  have c08 : IntKind.i64.wrap (m + 8) = m + 8 := wrapI (by omega) (by omega)
  have c09 : IntKind.i64.wrap (m + 9) = m + 9 := wrapI (by omega) (by omega)
  have c10 : IntKind.i64.wrap (1 + 0) = 1 := by decide
  have c11 : IntKind.i64.wrap (1 + 1) = 2 := by decide
  have c12 : IntKind.i64.wrap (1 + 2) = 3 := by decide
  have c13 : IntKind.i64.wrap (1 + 3) = 4 := by decide
  have c14 : IntKind.i64.wrap (1 + 4) = 5 := by decide
  have c15 : IntKind.i64.wrap (1 + 5) = 6 := by decide
  repeat' (first | refine And.intro ?_ ?_ | (with_reducible exact ff_elim) | (with_reducible exact tf_elim) | (intro hq; exact absurd hq (by decide)) | refine num_elim ?_ | intro _ | (with_reducible rfl) | ((with_reducible refine lk_t ?_); exact rfl) | ((with_reducible refine pf_t ?_); exact rfl) | refine tell ?_ | exact True.intro | (refine IsT.of ?_; kernel_rfl))
  all_goals (try refine Tell.mk ?_)
  all_goals first | with_reducible rfl | with_reducible exact isI_mk | with_reducible assumption | (with_reducible refine gb_t ?_; with_reducible assumption) | (with_reducible refine gb_f ?_; with_reducible assumption) | ((with_reducible refine ks_t ?_); rfl) | ((with_reducible refine pk_t ?_); rfl) | ((with_reducible refine pf_t ?_); rfl) | ((with_reducible refine lk_t ?_); rfl) | ((with_reducible refine okF_t ?_); kernel_rfl) | ((with_reducible refine rawF_in ?_); assumption) | skip
  all_goals (try simp only [decide_eq_true_eq, decide_eq_false_iff_not, beq_iff_eq, beq_eq_false_iff_ne, ne_eq, bne_iff_ne, intF_mk])
  all_goals (try unfold shq1oS)
  all_goals (try dsimp only)
  all_goals (try simp only [w1, w2, w3, w4, w5, c01, c04, c05, c06, c07, c08, c09, c10, c11, c12, c13, c14, c15])
  all_goals first | with_reducible rfl | omega | (simp only [raw_p]; omega) | exact hF _ | with_reducible exact rawF_in hF | (simp only [intF_mk, c04] at *; simp only [*, cond_true, cond_false]; done) | (simp only [intF_mk, c04, w3] at *; omega) | trace_state
theorem siy2_f : FnOk Tryz.prog 13 Tryz.f13 := ⟨Tryz.func13, by kernel_rfl⟩
theorem siy2_a (c : Int) (hpre : In64 c ∧ pickF c 6 = 1) : ACalls Tryz.prog 13 [.int .i64 c, .int .i64 6] (.int .i64 1) := by
  have h := pick_a c 6 ⟨hpre.1, by omega, by omega⟩
  rw [hpre.2] at h
  exact h
def siy2_k : Con Tryz.prog := ⟨13, fun args => match args with | [.int .i64 c, .int .i64 6] => .ok (some (In64 c ∧ pickF c 6 = 1)) (.int .i64 1) | _ => .no, by
  intro args p r h hp
  split at h
  · cases h; exact siy2_a _ hp
  · cases h⟩
def shq2oS (n : Nat) (G : Nat → Int) (m : Int) : Shp := ⟨2, milF (rawF n G (m + 1)) 4000, milF (rawF n G (m + 1 + 1)) 4000, milF (rawF n G (m + 1 + 2)) 4000, F .add (milF (rawF n G (m + 1)) 4000) (thoF (1 + pickF (rawF n G (m + 8)) 2500)), F .add (milF (rawF n G (m + 1 + 1)) 4000) (thoF (pickF (rawF n G (m + 5)) 2000)), F .add (milF (rawF n G (m + 1 + 2)) 4000) (thoF (pickF (rawF n G (m + 6)) 2000)), 0, 0, 0, 0, 0, pickF (rawF n G (m + 7)) 1⟩
theorem shq2o_f : FnOk Tryz.prog 59 Tryz.f59 := ⟨Tryz.func59, by kernel_rfl⟩
theorem shq2o_a (n : Nat) (G : Nat → Int) (m : Int) (hpre : (∀ j, In64 (G j)) ∧ (0 ≤ m ∧ m ≤ 900000) ∧ pickF (rawF n G m) 6 = 1) : ACalls Tryz.prog 59 [ints .i64 n G, .int .i64 m, .int .i64 1] (.agg (shq2oS n G m).lso) := by
  refine acalls_of (inl := hasI (P := Tryz.prog) [] []) (base [siy2_k, raw_k, vecOf_k, thousandth_k, pick_k, addR_k, putW_k, nought_k] [] []) 0 shq2o_f (And.intro (by kernel_rfl) ?_)
  obtain ⟨hF, hm, hk⟩ := hpre
  have h5 := pickF_bd (rawF n G (m + 5)) 3000 (by omega)
  have h5' := pickF_bd (rawF n G (m + 5)) 2000 (by omega)
  have h6 := pickF_bd (rawF n G (m + 6)) 2000 (by omega)
  have h6' := pickF_bd (rawF n G (m + 6)) 3 (by omega)
  have h8 := pickF_bd (rawF n G (m + 8)) 2500 (by omega)
  have h4 := pickF_bd (rawF n G (m + 4)) 3 (by omega)
  have hd := tdiv_bo h8 h4
  have w1 : IntKind.i64.wrap (1 + pickF (rawF n G (m + 8)) 2500) = 1 + pickF (rawF n G (m + 8)) 2500 := wrapI (by omega) (by omega)
  have w2 : IntKind.i64.wrap (1 + pickF (rawF n G (m + 5)) 3000) = 1 + pickF (rawF n G (m + 5)) 3000 := wrapI (by omega) (by omega)
  have w3 : IntKind.i64.wrap (1 + pickF (rawF n G (m + 4)) 3) = 1 + pickF (rawF n G (m + 4)) 3 := wrapI (by omega) (by omega)
  have w4 : IntKind.i64.wrap ((pickF (rawF n G (m + 8)) 2500).tdiv (1 + pickF (rawF n G (m + 4)) 3)) = (pickF (rawF n G (m + 8)) 2500).tdiv (1 + pickF (rawF n G (m + 4)) 3) := wrapI (by omega) (by omega)
  have w5 : IntKind.i64.wrap (1 + (pickF (rawF n G (m + 8)) 2500).tdiv (1 + pickF (rawF n G (m + 4)) 3)) = 1 + (pickF (rawF n G (m + 8)) 2500).tdiv (1 + pickF (rawF n G (m + 4)) 3) := wrapI (by omega) (by omega)
  have c01 : IntKind.i64.wrap (m + 1) = m + 1 := wrapI (by omega) (by omega)
  have c04 : IntKind.i64.wrap (m + 4) = m + 4 := wrapI (by omega) (by omega)
  have c05 : IntKind.i64.wrap (m + 5) = m + 5 := wrapI (by omega) (by omega)
  have c06 : IntKind.i64.wrap (m + 6) = m + 6 := wrapI (by omega) (by omega)
  have c07 : IntKind.i64.wrap (m + 7) = m + 7 := wrapI (by omega) (by omega)
  have c08 : IntKind.i64.wrap (m + 8) = m + 8 := wrapI (by omega) (by omega)
  have c09 : IntKind.i64.wrap (m + 9) = m + 9 := wrapI (by omega) (by omega)
  have c10 : IntKind.i64.wrap (1 + 0) = 1 := by decide
  have c11 : IntKind.i64.wrap (1 + 1) = 2 := by decide
  have c12 : IntKind.i64.wrap (1 + 2) = 3 := by decide
  have c13 : IntKind.i64.wrap (1 + 3) = 4 := by decide
  have c14 : IntKind.i64.wrap (1 + 4) = 5 := by decide
  have c15 : IntKind.i64.wrap (1 + 5) = 6 := by decide
  repeat' (first | refine And.intro ?_ ?_ | (with_reducible exact ff_elim) | (with_reducible exact tf_elim) | (intro hq; exact absurd hq (by decide)) | refine num_elim ?_ | intro _ | (with_reducible rfl) | ((with_reducible refine lk_t ?_); exact rfl) | ((with_reducible refine pf_t ?_); exact rfl) | refine tell ?_ | exact True.intro | (refine IsT.of ?_; kernel_rfl))
  all_goals (try refine Tell.mk ?_)
  all_goals first | with_reducible rfl | with_reducible exact isI_mk | with_reducible assumption | (with_reducible refine gb_t ?_; with_reducible assumption) | (with_reducible refine gb_f ?_; with_reducible assumption) | ((with_reducible refine ks_t ?_); rfl) | ((with_reducible refine pk_t ?_); rfl) | ((with_reducible refine pf_t ?_); rfl) | ((with_reducible refine lk_t ?_); rfl) | ((with_reducible refine okF_t ?_); kernel_rfl) | ((with_reducible refine rawF_in ?_); assumption) | skip
  all_goals (try simp only [decide_eq_true_eq, decide_eq_false_iff_not, beq_iff_eq, beq_eq_false_iff_ne, ne_eq, bne_iff_ne, intF_mk])
  all_goals (try unfold shq2oS)
  all_goals (try dsimp only)
  all_goals (try simp only [w1, w2, w3, w4, w5, c01, c04, c05, c06, c07, c08, c09, c10, c11, c12, c13, c14, c15])
  all_goals first | with_reducible rfl | omega | (simp only [raw_p]; omega) | exact hF _ | with_reducible exact rawF_in hF | (simp only [intF_mk, c04] at *; simp only [*, cond_true, cond_false]; done) | (simp only [intF_mk, c04, w3] at *; omega) | trace_state
theorem siy5_f : FnOk Tryz.prog 13 Tryz.f13 := ⟨Tryz.func13, by kernel_rfl⟩
theorem siy5_a (c : Int) (hpre : In64 c ∧ pickF c 6 = 4) : ACalls Tryz.prog 13 [.int .i64 c, .int .i64 6] (.int .i64 4) := by
  have h := pick_a c 6 ⟨hpre.1, by omega, by omega⟩
  rw [hpre.2] at h
  exact h
def siy5_k : Con Tryz.prog := ⟨13, fun args => match args with | [.int .i64 c, .int .i64 6] => .ok (some (In64 c ∧ pickF c 6 = 4)) (.int .i64 4) | _ => .no, by
  intro args p r h hp
  split at h
  · cases h; exact siy5_a _ hp
  · cases h⟩
def shq5oS (n : Nat) (G : Nat → Int) (m : Int) : Shp := ⟨5, milF (rawF n G (m + 1)) 4000, milF (rawF n G (m + 1 + 1)) 4000, milF (rawF n G (m + 1 + 2)) 4000, bif pickF (rawF n G (m + 6)) 3 == 0 then thoF (1 + pickF (rawF n G (m + 5)) 3000) else 0, bif pickF (rawF n G (m + 6)) 3 == 1 then thoF (1 + pickF (rawF n G (m + 5)) 3000) else 0, bif pickF (rawF n G (m + 6)) 3 == 0 || pickF (rawF n G (m + 6)) 3 == 1 then 0 else thoF (1 + pickF (rawF n G (m + 5)) 3000), 0, 0, 0, thoF (1 + pickF (rawF n G (m + 8)) 2500), 0, pickF (rawF n G (m + 7)) 1⟩
theorem shq5o_f : FnOk Tryz.prog 59 Tryz.f59 := ⟨Tryz.func59, by kernel_rfl⟩
theorem shq5o_a (n : Nat) (G : Nat → Int) (m : Int) (hpre : (∀ j, In64 (G j)) ∧ (0 ≤ m ∧ m ≤ 900000) ∧ pickF (rawF n G m) 6 = 4) : ACalls Tryz.prog 59 [ints .i64 n G, .int .i64 m, .int .i64 1] (.agg (shq5oS n G m).lso) := by
  refine acalls_of (inl := hasI (P := Tryz.prog) [] []) (base [siy5_k, raw_k, vecOf_k, thousandth_k, pick_k, addR_k, putW_k, nought_k] [] []) 0 shq5o_f (And.intro (by kernel_rfl) ?_)
  obtain ⟨hF, hm, hk⟩ := hpre
  have h5 := pickF_bd (rawF n G (m + 5)) 3000 (by omega)
  have h5' := pickF_bd (rawF n G (m + 5)) 2000 (by omega)
  have h6 := pickF_bd (rawF n G (m + 6)) 2000 (by omega)
  have h6' := pickF_bd (rawF n G (m + 6)) 3 (by omega)
  have h8 := pickF_bd (rawF n G (m + 8)) 2500 (by omega)
  have h4 := pickF_bd (rawF n G (m + 4)) 3 (by omega)
  have hd := tdiv_bo h8 h4
  have w1 : IntKind.i64.wrap (1 + pickF (rawF n G (m + 8)) 2500) = 1 + pickF (rawF n G (m + 8)) 2500 := wrapI (by omega) (by omega)
  have w2 : IntKind.i64.wrap (1 + pickF (rawF n G (m + 5)) 3000) = 1 + pickF (rawF n G (m + 5)) 3000 := wrapI (by omega) (by omega)
  have w3 : IntKind.i64.wrap (1 + pickF (rawF n G (m + 4)) 3) = 1 + pickF (rawF n G (m + 4)) 3 := wrapI (by omega) (by omega)
  have w4 : IntKind.i64.wrap ((pickF (rawF n G (m + 8)) 2500).tdiv (1 + pickF (rawF n G (m + 4)) 3)) = (pickF (rawF n G (m + 8)) 2500).tdiv (1 + pickF (rawF n G (m + 4)) 3) := wrapI (by omega) (by omega)
  have w5 : IntKind.i64.wrap (1 + (pickF (rawF n G (m + 8)) 2500).tdiv (1 + pickF (rawF n G (m + 4)) 3)) = 1 + (pickF (rawF n G (m + 8)) 2500).tdiv (1 + pickF (rawF n G (m + 4)) 3) := wrapI (by omega) (by omega)
  have c01 : IntKind.i64.wrap (m + 1) = m + 1 := wrapI (by omega) (by omega)
  have c04 : IntKind.i64.wrap (m + 4) = m + 4 := wrapI (by omega) (by omega)
  have c05 : IntKind.i64.wrap (m + 5) = m + 5 := wrapI (by omega) (by omega)
  have c06 : IntKind.i64.wrap (m + 6) = m + 6 := wrapI (by omega) (by omega)
  have c07 : IntKind.i64.wrap (m + 7) = m + 7 := wrapI (by omega) (by omega)
  have c08 : IntKind.i64.wrap (m + 8) = m + 8 := wrapI (by omega) (by omega)
  have c09 : IntKind.i64.wrap (m + 9) = m + 9 := wrapI (by omega) (by omega)
  have c10 : IntKind.i64.wrap (1 + 0) = 1 := by decide
  have c11 : IntKind.i64.wrap (1 + 1) = 2 := by decide
  have c12 : IntKind.i64.wrap (1 + 2) = 3 := by decide
  have c13 : IntKind.i64.wrap (1 + 3) = 4 := by decide
  have c14 : IntKind.i64.wrap (1 + 4) = 5 := by decide
  have c15 : IntKind.i64.wrap (1 + 5) = 6 := by decide
  repeat' (first | refine And.intro ?_ ?_ | (with_reducible exact ff_elim) | (with_reducible exact tf_elim) | (intro hq; exact absurd hq (by decide)) | refine num_elim ?_ | intro _ | (with_reducible rfl) | ((with_reducible refine lk_t ?_); exact rfl) | ((with_reducible refine pf_t ?_); exact rfl) | refine tell ?_ | exact True.intro | (refine IsT.of ?_; kernel_rfl))
  all_goals (try refine Tell.mk ?_)
  all_goals first | with_reducible rfl | with_reducible exact isI_mk | with_reducible assumption | (with_reducible refine gb_t ?_; with_reducible assumption) | (with_reducible refine gb_f ?_; with_reducible assumption) | ((with_reducible refine ks_t ?_); rfl) | ((with_reducible refine pk_t ?_); rfl) | ((with_reducible refine pf_t ?_); rfl) | ((with_reducible refine lk_t ?_); rfl) | ((with_reducible refine okF_t ?_); kernel_rfl) | ((with_reducible refine rawF_in ?_); assumption) | skip
  all_goals (try simp only [decide_eq_true_eq, decide_eq_false_iff_not, beq_iff_eq, beq_eq_false_iff_ne, ne_eq, bne_iff_ne, intF_mk])
  all_goals (try unfold shq5oS)
  all_goals (try dsimp only)
  all_goals (try simp only [w1, w2, w3, w4, w5, c01, c04, c05, c06, c07, c08, c09, c10, c11, c12, c13, c14, c15])
  all_goals first | with_reducible rfl | omega | (simp only [raw_p]; omega) | exact hF _ | with_reducible exact rawF_in hF | (simp only [intF_mk, c04] at *; simp only [*, cond_true, cond_false]; done) | (simp only [intF_mk, c04, w3] at *; omega) | trace_state
end Go.Proofs.YtpmmabaecldmkaaGreat
/- Leaves that are made of raw numbers. -/
namespace Go.Proofs.YtpmmabaecldmkaaGreat
open Go.RowKit Ev Flt
set_option linter.unusedVariables false
set_option linter.unusedSimpArgs false
set_option maxRecDepth 20000
set_option maxHeartbeats 4000000

theorem Q_Fneg {x : Nat} {M : Rat} (h : Q x M) : Q (Fneg x) M := by
  obtain ⟨s, m, i, e⟩ := h.fin
  have e1 := read_fneg e
  have ev : V (fneg x) = -V x := by rw [V_of e, V_of e1, signed_not]
  rw [Fneg_eq h.fin]
  refine ⟨⟨_, _, _, e1⟩, ?_⟩
  have b := h.bd
  unfold Bd at *
  have : val (fneg x) = -val x := by
    unfold val
    rw [ev, Rat.intCast_neg, Rat.div_def, Rat.div_def, Rat.neg_mul]
  rw [this]
  grind
theorem iv_1 : Iv 4607182418800017408 1 := by
  have := iv_near (z := 1) (by omega)
  rwa [show cn (FloatKind.f64.nearest 1) = 4607182418800017408 by decide +kernel] at this
theorem half_Q : Q 4602678819172646912 1 := by
  have f : Flt.Fin 4602678819172646912 := ⟨false, 4503599627370496, -53, by decide +kernel⟩
  have h1 : flt 4602678819172646912 4607182418800017408 = true := by decide +kernel
  have h2 : flt 0 4602678819172646912 = true := by decide +kernel
  rw [flt_V f iv_1.fin, decide_eq_true_eq] at h1
  rw [flt_V Fin_0 f, V_0, decide_eq_true_eq] at h2
  have e1 : val 4607182418800017408 = 1 := by rw [iv_1.eq]; rfl
  have l := val_le (Int.le_of_lt h1)
  have p := val_pos_U (Int.le_of_lt h2)
  rw [e1] at l
  refine ⟨f, ?_⟩
  unfold Bd
  constructor <;> grind
@[irreducible] def tiF (y : Nat) : Int := ((FloatKind.f64.decode y).toInt .zero).getD 0
theorem ti_some {y : Nat} {M : Int} (h : Q y (M : Rat)) (hM : 0 ≤ M) : (FloatKind.f64.decode y).toInt .zero = some (tiF y) ∧ -M ≤ tiF y ∧ tiF y ≤ M := by
  obtain ⟨z, h1, h2, h3⟩ := trunc_some h hM
  unfold tiF
  rw [h1]
  exact ⟨rfl, h2, h3⟩
def mk1 (x : Nat) : Nat := F .add (F .mul x 4652007308841189376) 4602678819172646912
theorem mk1_Q {x : Nat} (h : Q x 1000) : Q (mk1 x) ((2000000 : Int) : Rat) := by
  have q : Q 4652007308841189376 1000 := ⟨iv_1000.fin, by rw [iv_1000.eq]; unfold Bd; rw [show (((1000 : Int)) : Rat) = 1000 from rfl]; constructor <;> grind⟩
  have h1 := h.mul q (by grind)
  have h2 := h1.add half_Q (by grind)
  exact h2.le (by rw [show (((2000000 : Int)) : Rat) = 2000000 from rfl]; grind)
@[irreducible] def rndV (x : Nat) : Nat := bif flt x 0 then thoF (-(tiF (mk1 (Fneg x)))) else thoF (tiF (mk1 x))
theorem rounded_f : FnOk Tryz.prog 81 Tryz.f81 := ⟨Tryz.func81, by kernel_rfl⟩
theorem rounded_a (x : Nat) (hpre : Q x 1000) : ACalls Tryz.prog 81 [.flt x] (.flt (rndV x)) := by
  refine acalls_of (inl := hasI (P := Tryz.prog) [] []) (base [thousandth_k] [] []) 0 rounded_f (And.intro (by kernel_rfl) ?_)
  have h1 := ti_some (mk1_Q hpre) (by decide)
  have h2 := ti_some (mk1_Q (Q_Fneg hpre)) (by decide)
  unfold mk1 at h1 h2
  have m1 : IntKind.i64.min = -9223372036854775808 := rfl
  have m2 : IntKind.i64.max = 9223372036854775807 := rfl
  repeat' (first | refine And.intro ?_ ?_ | (with_reducible exact ff_elim) | (with_reducible exact tf_elim) | refine num_elim ?_ | intro _ | (with_reducible rfl) | ((with_reducible refine lk_t ?_); exact rfl) | ((with_reducible refine pf_t ?_); exact rfl) | refine tell ?_ | exact True.intro | (refine IsT.of ?_; kernel_rfl))
  all_goals (try refine Tell.mk ?_)
  all_goals first | with_reducible rfl | exact ⟨_, h1.1, by rw [m1]; omega, by rw [m2]; omega⟩ | exact ⟨_, h2.1, by rw [m1]; omega, by rw [m2]; omega⟩ | skip
  all_goals (unfold rndV mk1; rw [‹flt x 0 = _›])
  all_goals first | (rw [h1.1]; rfl) | (rw [h2.1]; simp only [cond_true, Option.getD_some]; rw [wrapI (by omega) (by omega)]; congr 1; omega)
def rounded_k : Con Tryz.prog := ⟨81, fun args => match args with | [.flt x] => .ok (some (Q x 1000)) (.flt (rndV x)) | _ => .no, by
  intro args p r h hp
  split at h
  · cases h; exact rounded_a _ hp
  · cases h⟩
@[irreducible] def leafL (n : Nat) (F : Nat → Int) (j : Nat) : Int := if j < n then F j else rawF n F j
theorem leafL_in {n : Nat} {F : Nat → Int} (h : ∀ j, In64 (F j)) (j : Nat) : In64 (leafL n F j) := by
  unfold leafL; split
  · exact h j
  · exact rawF_in h
def leafN (n : Nat) (m : Int) : Nat := max n (m.toNat + 9)
@[irreducible] def leafG (n : Nat) (F : Nat → Int) (m v : Int) (j : Nat) : Int := if j = m.toNat then v else leafL n F j
theorem leafG_in {n : Nat} {F : Nat → Int} {m v : Int} (h : ∀ j, In64 (F j)) (hv : 0 ≤ v ∧ v ≤ 4) (j : Nat) : In64 (leafG n F m v j) := by
  unfold leafG; split
  · exact ⟨by omega, by omega⟩
  · exact leafL_in h j
theorem leafG_raw {n : Nat} {F : Nat → Int} {m v : Int} (hm : 0 ≤ m) : rawF (leafN n m) (leafG n F m v) m = v := by
  unfold rawF leafN
  rw [if_neg (by omega), Nat.mod_eq_of_lt (by omega)]
  unfold leafG; rw [if_pos rfl]
theorem pick_v {v : Int} (h : 0 ≤ v ∧ v ≤ 4) : pickF v 6 = v := by
  unfold pickF; rw [if_neg (by omega)]; exact Int.emod_eq_of_lt h.1 (by omega)
theorem quo_tho {x : Nat} {M : Rat} (h : Q x M) (hM : M ≤ 1152921504606846976) : Q (F .quo x 4652007308841189376) (M / 1000 + 129) := by
  have v : val 4652007308841189376 = 1000 := by rw [iv_1000.eq]; rfl
  have v0 : V 4652007308841189376 ≠ 0 := fun e => by
    have : val 4652007308841189376 = 0 := by unfold val; rw [e, Rat.intCast_zero, Rat.div_def, Rat.zero_mul]
    rw [v] at this; exact absurd this (by decide)
  have he : (val x / 1000) * val 4652007308841189376 = val x := by rw [v]; grind
  have hn := h.nn
  have hb : Bd (val x / 1000) (M / 1000) := by
    have := h.bd
    unfold Bd at *
    grind
  exact .of (quo_err h.fin iv_1000.fin v0 he hb (by grind)) hb (by grind)
theorem tho_Q {i M : Int} (h : -M ≤ i ∧ i ≤ M) (hM : M ≤ 9007199254740991) : Q (thoF i) ((M : Rat) / 1000 + 129) := by
  unfold thoF
  refine quo_tho (nI_Q h hM) ?_
  have := Rat.intCast_le_intCast.2 hM
  rw [show (((9007199254740991 : Int)) : Rat) = 9007199254740991 from rfl] at this
  grind
theorem mil_Q {c : Int} : Q (milF c 4000) 133 := by
  have hb := pickF_bd c (2 * 4000 + 1) (by omega)
  have h := tho_Q (i := pickF c (2 * 4000 + 1) - 4000) (M := 4000) (by omega) (by omega)
  unfold milF
  exact h.le (by rw [show (((4000 : Int)) : Rat) = 4000 from rfl]; grind)
theorem quart_Q : Q 4598175219545276416 1 := by
  have f : Flt.Fin 4598175219545276416 := ⟨false, 4503599627370496, -54, by decide +kernel⟩
  have h1 : flt 4598175219545276416 4607182418800017408 = true := by decide +kernel
  have h2 : flt 0 4598175219545276416 = true := by decide +kernel
  rw [flt_V f iv_1.fin, decide_eq_true_eq] at h1
  rw [flt_V Fin_0 f, V_0, decide_eq_true_eq] at h2
  have e1 : val 4607182418800017408 = 1 := by rw [iv_1.eq]; rfl
  have l := val_le (Int.le_of_lt h1)
  have p := val_pos_U (Int.le_of_lt h2)
  rw [e1] at l
  refine ⟨f, ?_⟩
  unfold Bd
  constructor <;> grind
theorem one_Q : Q 4607182418800017408 1 := by
  refine ⟨iv_1.fin, ?_⟩
  rw [iv_1.eq]
  unfold Bd
  rw [show (((1 : Int)) : Rat) = 1 from rfl]; constructor <;> grind
def qa (c : Int) : Nat := F .mul (milF c 4000) 4598175219545276416
theorem qa_Q {c : Int} : Q (qa c) 1000 := (mil_Q.mul quart_Q (by grind)).le (by grind)
theorem rnd_Q {x : Nat} (h : Q x 262) : Q (rndV x) 400 := by
  have q : Q 4652007308841189376 1000 := ⟨iv_1000.fin, by rw [iv_1000.eq]; unfold Bd; rw [show (((1000 : Int)) : Rat) = 1000 from rfl]; constructor <;> grind⟩
  have mk : ∀ {y}, Q y 262 → Q (mk1 y) ((270000 : Int) : Rat) := fun hy =>
    ((hy.mul q (by grind)).add half_Q (by grind)).le (by rw [show (((270000 : Int)) : Rat) = 270000 from rfl]; grind)
  have h1 := ti_some (mk h) (by decide)
  have h2 := ti_some (mk (Q_Fneg h)) (by decide)
  unfold rndV
  cases flt x 0
  · exact (tho_Q ⟨h1.2.1, h1.2.2⟩ (by decide)).le (by rw [show (((270000 : Int)) : Rat) = 270000 from rfl]; grind)
  · exact (tho_Q (i := -tiF (mk1 (Fneg x))) (M := 270000) ⟨by omega, by omega⟩ (by decide)).le (by rw [show (((270000 : Int)) : Rat) = 270000 from rfl]; grind)
theorem qa_Q' {c : Int} : Q (qa c) 262 := (mil_Q.mul quart_Q (by grind)).le (by grind)
/-- The other end of a block. -/
def lfE (a x : Nat) : Nat := F .add a x
theorem lfE_Q {a x : Nat} (ha : Q a 400) (hx : Q x 130) : Q (lfE a x) 1000 := (ha.add hx (by grind)).le (by grind)
theorem leaf_0 {n : Nat} {F : Nat → Int} {j k : Nat} {P : Nat → Int} (h : j < n) : leafL n F j = catI 0 (some k) P (fun j => F j) j := by
  rw [catI_some, if_neg (Nat.not_lt_zero _), Nat.sub_zero]
  unfold leafL; rw [if_pos h]
theorem leaf_s {n i j k : Nat} {F : Nat → Int} (h : j < n + (i + 1)) : leafL n F j = catI (n + i) (some k) (leafL n F) (fun _ => rawF n F ((n + i : Nat) : Int)) j := by
  rw [catI_some]
  split
  · rfl
  · obtain rfl : j = n + i := by omega
    unfold leafL; rw [if_neg (by omega)]
theorem leaf_e {n i : Nat} {m : Int} (h1 : n + i ≤ leafN n m) (h2 : m + 9 ≤ ((n + i : Nat) : Int)) (hm : 0 ≤ m) : n + i = leafN n m := by
  unfold leafN at *; omega
theorem leaf_g (n : Nat) (F : Nat → Int) (m v : Int) : (fun j => if 0 + j = 0 + mulN m.toNat 1 then v else leafL n F (0 + j)) = leafG n F m v := by
  funext j
  unfold leafG
  rw [mulN1, Nat.zero_add, Nat.zero_add]
def leafA (p : Shp) : Shp := { p with a := rndV (F .mul p.a 4598175219545276416), b := rndV (F .mul p.b 4598175219545276416), c := rndV (F .mul p.c 4598175219545276416) }
def leafB (p : Shp) : Shp := { leafA p with d := rndV (F .add (leafA p).a (F .add p.r 4607182418800017408)), e := rndV (F .add (leafA p).b 4607182418800017408), f := rndV (F .add (leafA p).c 4602678819172646912) }
theorem zero_Q : Q 0 1 := by
  refine ⟨Fin_0, ?_⟩
  rw [val_0]
  unfold Bd
  constructor <;> grind
def shq1oC : Con Tryz.prog := ⟨59, fun args => match args with | [.sl n 1 g, .int .i64 m, .int .i64 1] => .ok (some (IsI .i64 g ∧ (∀ j, In64 (intF g j)) ∧ (0 ≤ m ∧ m ≤ 900000) ∧ pickF (rawF n (intF g) m) 6 = 0)) (.agg (shq1oS n (intF g) m).lso) | _ => .no, by
  intro args p r h hp
  split at h
  · cases h; obtain ⟨h_g, hq⟩ := hp; have e_g := h_g.eq; rw [e_g]; exact shq1o_a _ _ _ hq
  · cases h⟩
theorem trip0_f : FnOk Tryz.prog 13 Tryz.f13 := ⟨Tryz.func13, by kernel_rfl⟩
theorem trip0_a (c : Int) (hpre : In64 c ∧ pickF c 3 = 0) : ACalls Tryz.prog 13 [.int .i64 c, .int .i64 3] (.int .i64 0) := by
  have h := pick_a c 3 ⟨hpre.1, by omega, by omega⟩
  rw [hpre.2] at h
  exact h
def trip0_k : Con Tryz.prog := ⟨13, fun args => match args with | [.int .i64 c, .int .i64 3] => .ok (some (In64 c ∧ pickF c 3 = 0)) (.int .i64 0) | _ => .no, by
  intro args p r h hp
  split at h
  · cases h; exact trip0_a _ hp
  · cases h⟩
theorem leaf1_f : FnOk Tryz.prog 60 Tryz.f60 := ⟨Tryz.func60, by kernel_rfl⟩
theorem leaf1_a (n : Nat) (F : Nat → Int) (m : Int) (hpre : (∀ j, In64 (F j)) ∧ (0 ≤ m ∧ m ≤ 900000) ∧ n ≤ 1000000 ∧ pickF (leafL n F m.toNat) 3 = 0) : ACalls Tryz.prog 60 [ints .i64 n F, .int .i64 m] (.agg (leafA (shq1oS (leafN n m) (leafG n F m 0) m)).lso) := by
  refine acalls_of (inl := hasI (P := Tryz.prog) [] []) (base [raw_k, trip0_k, shq1oC, scaleR_k, rounded_k, addR_k] [] []) 0 leaf1_f (And.intro (by kernel_rfl) ?_)
  obtain ⟨hF, hm, hn, hp⟩ := hpre
  have w9 : IntKind.i64.wrap (m + 9) = m + 9 := wrapI (by omega) (by omega)
  repeat' (first | refine And.intro ?_ ?_ | (with_reducible exact ff_elim) | (with_reducible exact tf_elim) | refine num_elim ?_ | intro _ | (with_reducible rfl) | ((with_reducible refine lk_t ?_); exact rfl) | ((with_reducible refine pf_t ?_); exact rfl) | refine tell ?_ | exact True.intro | (refine IsT.of ?_; kernel_rfl))
  all_goals (try (refine loop_keep [0, 1, 4] [0] ?_; refine LoopI.mk ({i : Nat // n + i ≤ leafN n m}) (fun i => [(5, .os 1 1 0 (n + i.1))]) (fun i => [(1, .nums .i64 (n + i.1) (leafL n F))]) (fun i => leafN n m - i.1) (⟨0, by unfold leafN; omega⟩) (wk_mk [some 3, some 0] ?_) (fun ⟨i, hi⟩ => ?_)))
  repeat' (first | refine And.intro ?_ ?_ | (with_reducible exact ff_elim) | (with_reducible exact tf_elim) | refine' stp_mk [some _, some 0] (⟨i + 1, ?_⟩) ?_ ?_ | refine num_elim ?_ | intro _ | (with_reducible rfl) | ((with_reducible refine lk_t ?_); exact rfl) | ((with_reducible refine pf_t ?_); exact rfl) | refine tell ?_ | exact True.intro | (refine IsT.of ?_; kernel_rfl))
  all_goals (try refine Tell.mk ?_)
  all_goals first | with_reducible rfl | with_reducible exact isI_mk | with_reducible assumption | rfl | skip
  all_goals (try dsimp only at *)
  all_goals (try simp only [intF_mk, w9, raw_p, avInt_int, leaf_g, show (Tab.cx.ti 3).bytes = 8 from rfl] at *)
  all_goals (try simp only [decide_eq_true_eq, decide_eq_false_iff_not, Int.not_lt] at *)
  all_goals (try have hN : leafN n m ≤ 1900018 := (by unfold leafN; omega))
  all_goals first | with_reducible assumption | with_reducible exact isI_mk | rfl | omega | exact leafL_in hF _ | exact leafG_in hF (by omega) _ | exact leaf_0 (by omega) | exact leaf_s (by omega) | ((show (_ : Int) ≤ _); decide) | ((show (_ : Int) < _); decide) | (simp only [mulN1, Nat.zero_add]; first | assumption | omega) | (split <;> first | exact ⟨by omega, by omega⟩ | exact leafL_in hF _) | (unfold leafN at *; omega) | skip
  all_goals (have he := leaf_e hi (by omega) hm.1; simp only [he] at *)
  all_goals first | (rw [leafG_raw hm.1]; exact pick_v (by omega)) | exact ff_elim (show false = true from ‹((shq1oS (leafN n m) (leafG n F m 0) m).k == 2) = true›) | rfl | exact (mil_Q.mul quart_Q (by grind)).le (by grind) | exact ((rnd_Q ((mil_Q.mul quart_Q (by grind)).le (by grind))).add ((zero_Q.add one_Q (by grind)).le (N := 131) (by grind)) (by grind)).le (by grind) | exact ((rnd_Q ((mil_Q.mul quart_Q (by grind)).le (by grind))).add one_Q (by grind)).le (by grind) | exact ((rnd_Q ((mil_Q.mul quart_Q (by grind)).le (by grind))).add half_Q (by grind)).le (by grind) | trace_state
def shq2oC : Con Tryz.prog := ⟨59, fun args => match args with | [.sl n 1 g, .int .i64 m, .int .i64 1] => .ok (some (IsI .i64 g ∧ (∀ j, In64 (intF g j)) ∧ (0 ≤ m ∧ m ≤ 900000) ∧ pickF (rawF n (intF g) m) 6 = 1)) (.agg (shq2oS n (intF g) m).lso) | _ => .no, by
  intro args p r h hp
  split at h
  · cases h; obtain ⟨h_g, hq⟩ := hp; have e_g := h_g.eq; rw [e_g]; exact shq2o_a _ _ _ hq
  · cases h⟩
theorem trip1_f : FnOk Tryz.prog 13 Tryz.f13 := ⟨Tryz.func13, by kernel_rfl⟩
theorem trip1_a (c : Int) (hpre : In64 c ∧ pickF c 3 = 1) : ACalls Tryz.prog 13 [.int .i64 c, .int .i64 3] (.int .i64 1) := by
  have h := pick_a c 3 ⟨hpre.1, by omega, by omega⟩
  rw [hpre.2] at h
  exact h
def trip1_k : Con Tryz.prog := ⟨13, fun args => match args with | [.int .i64 c, .int .i64 3] => .ok (some (In64 c ∧ pickF c 3 = 1)) (.int .i64 1) | _ => .no, by
  intro args p r h hp
  split at h
  · cases h; exact trip1_a _ hp
  · cases h⟩
theorem leaf2_f : FnOk Tryz.prog 60 Tryz.f60 := ⟨Tryz.func60, by kernel_rfl⟩
theorem leaf2_a (n : Nat) (F : Nat → Int) (m : Int) (hpre : (∀ j, In64 (F j)) ∧ (0 ≤ m ∧ m ≤ 900000) ∧ n ≤ 1000000 ∧ pickF (leafL n F m.toNat) 3 = 1) : ACalls Tryz.prog 60 [ints .i64 n F, .int .i64 m] (.agg (leafB (shq2oS (leafN n m) (leafG n F m 1) m)).lso) := by
  refine acalls_of (inl := hasI (P := Tryz.prog) [] []) (base [raw_k, trip1_k, shq2oC, scaleR_k, rounded_k, addR_k] [] []) 0 leaf2_f (And.intro (by kernel_rfl) ?_)
  obtain ⟨hF, hm, hn, hp⟩ := hpre
  have w9 : IntKind.i64.wrap (m + 9) = m + 9 := wrapI (by omega) (by omega)
  repeat' (first | refine And.intro ?_ ?_ | (with_reducible exact ff_elim) | (with_reducible exact tf_elim) | refine num_elim ?_ | intro _ | (with_reducible rfl) | ((with_reducible refine lk_t ?_); exact rfl) | ((with_reducible refine pf_t ?_); exact rfl) | refine tell ?_ | exact True.intro | (refine IsT.of ?_; kernel_rfl))
  all_goals (try (refine loop_keep [0, 1, 4] [0] ?_; refine LoopI.mk ({i : Nat // n + i ≤ leafN n m}) (fun i => [(5, .os 1 1 0 (n + i.1))]) (fun i => [(1, .nums .i64 (n + i.1) (leafL n F))]) (fun i => leafN n m - i.1) (⟨0, by unfold leafN; omega⟩) (wk_mk [some 3, some 0] ?_) (fun ⟨i, hi⟩ => ?_)))
  repeat' (first | refine And.intro ?_ ?_ | (with_reducible exact ff_elim) | (with_reducible exact tf_elim) | refine' stp_mk [some _, some 0] (⟨i + 1, ?_⟩) ?_ ?_ | refine num_elim ?_ | intro _ | (with_reducible rfl) | ((with_reducible refine lk_t ?_); exact rfl) | ((with_reducible refine pf_t ?_); exact rfl) | refine tell ?_ | exact True.intro | (refine IsT.of ?_; kernel_rfl))
  all_goals (try refine Tell.mk ?_)
  all_goals first | with_reducible rfl | with_reducible exact isI_mk | with_reducible assumption | rfl | skip
  all_goals (try dsimp only at *)
  all_goals (try simp only [intF_mk, w9, raw_p, avInt_int, leaf_g, show (Tab.cx.ti 3).bytes = 8 from rfl] at *)
  all_goals (try simp only [decide_eq_true_eq, decide_eq_false_iff_not, Int.not_lt] at *)
  all_goals (try have hN : leafN n m ≤ 1900018 := (by unfold leafN; omega))
  all_goals first | with_reducible assumption | with_reducible exact isI_mk | rfl | omega | exact leafL_in hF _ | exact leafG_in hF (by omega) _ | exact leaf_0 (by omega) | exact leaf_s (by omega) | ((show (_ : Int) ≤ _); decide) | ((show (_ : Int) < _); decide) | (simp only [mulN1, Nat.zero_add]; first | assumption | omega) | (split <;> first | exact ⟨by omega, by omega⟩ | exact leafL_in hF _) | (unfold leafN at *; omega) | skip
  all_goals (have he := leaf_e hi (by omega) hm.1; simp only [he] at *)
  all_goals first | (rw [leafG_raw hm.1]; exact pick_v (by omega)) | exact tf_elim (show true = false from ‹((shq2oS (leafN n m) (leafG n F m 1) m).k == 2) = false›) | rfl | exact (mil_Q.mul quart_Q (by grind)).le (by grind) | exact ((rnd_Q ((mil_Q.mul quart_Q (by grind)).le (by grind))).add ((zero_Q.add one_Q (by grind)).le (N := 131) (by grind)) (by grind)).le (by grind) | exact ((rnd_Q ((mil_Q.mul quart_Q (by grind)).le (by grind))).add one_Q (by grind)).le (by grind) | exact ((rnd_Q ((mil_Q.mul quart_Q (by grind)).le (by grind))).add half_Q (by grind)).le (by grind) | trace_state
def shq5oC : Con Tryz.prog := ⟨59, fun args => match args with | [.sl n 1 g, .int .i64 m, .int .i64 1] => .ok (some (IsI .i64 g ∧ (∀ j, In64 (intF g j)) ∧ (0 ≤ m ∧ m ≤ 900000) ∧ pickF (rawF n (intF g) m) 6 = 4)) (.agg (shq5oS n (intF g) m).lso) | _ => .no, by
  intro args p r h hp
  split at h
  · cases h; obtain ⟨h_g, hq⟩ := hp; have e_g := h_g.eq; rw [e_g]; exact shq5o_a _ _ _ hq
  · cases h⟩
theorem trip2_f : FnOk Tryz.prog 13 Tryz.f13 := ⟨Tryz.func13, by kernel_rfl⟩
theorem trip2_a (c : Int) (hpre : In64 c ∧ pickF c 3 = 2) : ACalls Tryz.prog 13 [.int .i64 c, .int .i64 3] (.int .i64 2) := by
  have h := pick_a c 3 ⟨hpre.1, by omega, by omega⟩
  rw [hpre.2] at h
  exact h
def trip2_k : Con Tryz.prog := ⟨13, fun args => match args with | [.int .i64 c, .int .i64 3] => .ok (some (In64 c ∧ pickF c 3 = 2)) (.int .i64 2) | _ => .no, by
  intro args p r h hp
  split at h
  · cases h; exact trip2_a _ hp
  · cases h⟩
theorem leaf5_f : FnOk Tryz.prog 60 Tryz.f60 := ⟨Tryz.func60, by kernel_rfl⟩
theorem leaf5_a (n : Nat) (F : Nat → Int) (m : Int) (hpre : (∀ j, In64 (F j)) ∧ (0 ≤ m ∧ m ≤ 900000) ∧ n ≤ 1000000 ∧ pickF (leafL n F m.toNat) 3 = 2) : ACalls Tryz.prog 60 [ints .i64 n F, .int .i64 m] (.agg (leafA (shq5oS (leafN n m) (leafG n F m 4) m)).lso) := by
  refine acalls_of (inl := hasI (P := Tryz.prog) [] []) (base [raw_k, trip2_k, shq5oC, scaleR_k, rounded_k, addR_k] [] []) 0 leaf5_f (And.intro (by kernel_rfl) ?_)
  obtain ⟨hF, hm, hn, hp⟩ := hpre
  have w9 : IntKind.i64.wrap (m + 9) = m + 9 := wrapI (by omega) (by omega)
  repeat' (first | refine And.intro ?_ ?_ | (with_reducible exact ff_elim) | (with_reducible exact tf_elim) | refine num_elim ?_ | intro _ | (with_reducible rfl) | ((with_reducible refine lk_t ?_); exact rfl) | ((with_reducible refine pf_t ?_); exact rfl) | refine tell ?_ | exact True.intro | (refine IsT.of ?_; kernel_rfl))
  all_goals (try (refine loop_keep [0, 1, 4] [0] ?_; refine LoopI.mk ({i : Nat // n + i ≤ leafN n m}) (fun i => [(5, .os 1 1 0 (n + i.1))]) (fun i => [(1, .nums .i64 (n + i.1) (leafL n F))]) (fun i => leafN n m - i.1) (⟨0, by unfold leafN; omega⟩) (wk_mk [some 3, some 0] ?_) (fun ⟨i, hi⟩ => ?_)))
  repeat' (first | refine And.intro ?_ ?_ | (with_reducible exact ff_elim) | (with_reducible exact tf_elim) | refine' stp_mk [some _, some 0] (⟨i + 1, ?_⟩) ?_ ?_ | refine num_elim ?_ | intro _ | (with_reducible rfl) | ((with_reducible refine lk_t ?_); exact rfl) | ((with_reducible refine pf_t ?_); exact rfl) | refine tell ?_ | exact True.intro | (refine IsT.of ?_; kernel_rfl))
  all_goals (try refine Tell.mk ?_)
  all_goals first | with_reducible rfl | with_reducible exact isI_mk | with_reducible assumption | rfl | skip
  all_goals (try dsimp only at *)
  all_goals (try simp only [intF_mk, w9, raw_p, avInt_int, leaf_g, show (Tab.cx.ti 3).bytes = 8 from rfl] at *)
  all_goals (try simp only [decide_eq_true_eq, decide_eq_false_iff_not, Int.not_lt] at *)
  all_goals (try have hN : leafN n m ≤ 1900018 := (by unfold leafN; omega))
  all_goals first | with_reducible assumption | with_reducible exact isI_mk | rfl | omega | exact leafL_in hF _ | exact leafG_in hF (by omega) _ | exact leaf_0 (by omega) | exact leaf_s (by omega) | ((show (_ : Int) ≤ _); decide) | ((show (_ : Int) < _); decide) | (simp only [mulN1, Nat.zero_add]; first | assumption | omega) | (split <;> first | exact ⟨by omega, by omega⟩ | exact leafL_in hF _) | (unfold leafN at *; omega) | skip
  all_goals (have he := leaf_e hi (by omega) hm.1; simp only [he] at *)
  all_goals first | (rw [leafG_raw hm.1]; exact pick_v (by omega)) | exact ff_elim (show false = true from ‹((shq5oS (leafN n m) (leafG n F m 4) m).k == 2) = true›) | rfl | exact (mil_Q.mul quart_Q (by grind)).le (by grind) | exact ((rnd_Q ((mil_Q.mul quart_Q (by grind)).le (by grind))).add ((zero_Q.add one_Q (by grind)).le (N := 131) (by grind)) (by grind)).le (by grind) | exact ((rnd_Q ((mil_Q.mul quart_Q (by grind)).le (by grind))).add one_Q (by grind)).le (by grind) | exact ((rnd_Q ((mil_Q.mul quart_Q (by grind)).le (by grind))).add half_Q (by grind)).le (by grind) | trace_state
def leafO (n : Nat) (F : Nat → Int) (m : Int) : Shp := if pickF (leafL n F m.toNat) 3 = 0 then leafA (shq1oS (leafN n m) (leafG n F m 0) m) else if pickF (leafL n F m.toNat) 3 = 1 then leafB (shq2oS (leafN n m) (leafG n F m 1) m) else leafA (shq5oS (leafN n m) (leafG n F m 4) m)
theorem leafOf_f : FnOk Tryz.prog 60 Tryz.f60 := ⟨Tryz.func60, by kernel_rfl⟩
theorem leafOf_a (n : Nat) (F : Nat → Int) (m : Int) (hpre : (∀ j, In64 (F j)) ∧ (0 ≤ m ∧ m ≤ 900000) ∧ n ≤ 1000000) : ACalls Tryz.prog 60 [ints .i64 n F, .int .i64 m] (.agg (leafO n F m).lso) := by
  obtain ⟨h1, h2, h3⟩ := hpre
  have hb := pickF_bd (leafL n F m.toNat) 3 (by omega)
  have hc : pickF (leafL n F m.toNat) 3 = 0 ∨ pickF (leafL n F m.toNat) 3 = 1 ∨ pickF (leafL n F m.toNat) 3 = 2 := by omega
  unfold leafO
  rcases hc with h | h | h
  · rw [if_pos h]; exact leaf1_a n F m ⟨h1, h2, h3, h⟩
  · rw [if_neg (by omega), if_pos h]; exact leaf2_a n F m ⟨h1, h2, h3, h⟩
  · rw [if_neg (by omega), if_neg (by omega)]; exact leaf5_a n F m ⟨h1, h2, h3, h⟩
def leafOf_r (n : Nat) (F : Nat → Int) (m : Int) : AV := .agg (leafO n F m).lso
def leafOf_p (n : Nat) (F : Nat → Int) (m : Int) : Prop := (∀ j, In64 (F j)) ∧ (0 ≤ m ∧ m ≤ 900000) ∧ n ≤ 1000000
def leafOf_k : Con Tryz.prog := ⟨60, fun args => match args with | [.sl n 1 g_F, .int .i64 m] => .ok (some (IsI .i64 g_F ∧ leafOf_p n (intF g_F) m)) (leafOf_r n (intF g_F) m) | _ => .no, by
  intro args p r h hp
  split at h
  · cases h; obtain ⟨h_F, hp⟩ := hp; have e_F := h_F.eq; rw [e_F]; exact leafOf_a _ _ _ hp
  · cases h⟩
end Go.Proofs.YtpmmabaecldmkaaGreat
/- Solids that are made of raw numbers. -/
namespace Go.Proofs.YtpmmabaecldmkaaGreat
open Go.RowKit Ev
set_option linter.unusedVariables false
set_option linter.unusedSimpArgs false
set_option maxRecDepth 20000
set_option maxHeartbeats 4000000

/-- Parts so far, and what is left over so far. -/
structure St where
  np : Nat
  P : Nat → Prt
  m : Nat
  G : Nat → Int
def zShp : Shp := ⟨0, 0, 0, 0, 0, 0, 0, 0, 0, 0, 0, 0, 0⟩
def St.push (s : St) (x : Shp) : St := ⟨s.np + 1, fun j => if j = s.np then ⟨0, 0, 0, x⟩ else s.P j, s.m + 1, fun j => if j = s.m then (s.np : Int) else s.G j⟩
def St.red (op : Int) (s : St) : St := ⟨s.np + 1, fun j => if j = s.np then ⟨op, s.G (s.m - 2), s.G (s.m - 1), zShp⟩ else s.P j, s.m - 1, fun j => if j = s.m - 2 then (s.np : Int) else s.G j⟩
def redK (op : Int) : Nat → St → St
  | 0, s => s
  | k + 1, s => (redK op k s).red op
theorem redK_s (op : Int) (k : Nat) (s : St) : redK op (k + 1) s = (redK op k s).red op := rfl
theorem redK_0 (op : Int) (s : St) : redK op 0 s = s := rfl
theorem redK_m (op : Int) : ∀ (k : Nat) (s : St), (redK op k s).m = s.m - k ∧ (redK op k s).np = s.np + k
  | 0, s => ⟨rfl, rfl⟩
  | k + 1, s => by
    obtain ⟨h1, h2⟩ := redK_m op k s
    constructor
    · show (redK op k s).m - 1 = _; rw [h1]; omega
    · show (redK op k s).np + 1 = _; rw [h2]; omega
/-- How many parts are combined behind leaf i. -/
def soN (n : Nat) (F : Nat → Int) (m : Int) : Int := 1 + pickF (rawF n F (m + 1)) 4
def soC (n : Nat) (F : Nat → Int) (m : Int) (i : Nat) : Bool := (i : Int) == soN n F m - 1 || pickF (rawF n F (m + i)) 2 == 0
def soO (n : Nat) (F : Nat → Int) (m : Int) (i : Nat) : Int := 1 + pickF (rawF n F (m + 3 + i)) 3
def soL (n : Nat) (F : Nat → Int) (m : Int) (i : Nat) (s : St) : St := s.push (leafO n F (m + 2 + 9 * i))
def soK (n : Nat) (F : Nat → Int) (m : Int) (i : Nat) (s : St) : Nat := bif soC n F m i then s.m - 1 else 0
def so (n : Nat) (F : Nat → Int) (m : Int) : Nat → St
  | 0 => ⟨0, fun _ => ⟨0, 0, 0, zShp⟩, 0, fun _ => 0⟩
  | i + 1 => redK (soO n F m i) (soK n F m i (soL n F m i (so n F m i))) (soL n F m i (so n F m i))
theorem so_0 (n : Nat) (F : Nat → Int) (m : Int) : (so n F m 0).m = 0 ∧ (so n F m 0).np = 0 := ⟨rfl, rfl⟩
theorem so_s (n : Nat) (F : Nat → Int) (m : Int) (i : Nat) : so n F m (i + 1) = redK (soO n F m i) (soK n F m i (soL n F m i (so n F m i))) (soL n F m i (so n F m i)) := rfl
theorem so_bd (n : Nat) (F : Nat → Int) (m : Int) : ∀ i, (so n F m i).m ≤ i ∧ (so n F m i).np + (so n F m i).m ≤ 2 * i
  | 0 => ⟨Nat.le_refl _, Nat.le_refl _⟩
  | i + 1 => by
    obtain ⟨h1, h2⟩ := so_bd n F m i
    rw [so_s]
    obtain ⟨g1, g2⟩ := redK_m (soO n F m i) (soK n F m i (soL n F m i (so n F m i))) (soL n F m i (so n F m i))
    have e1 : (soL n F m i (so n F m i)).m = (so n F m i).m + 1 := rfl
    have e2 : (soL n F m i (so n F m i)).np = (so n F m i).np + 1 := rfl
    have e3 : soK n F m i (soL n F m i (so n F m i)) ≤ (so n F m i).m := by
      unfold soK; cases soC n F m i <;> simp [e1]
    rw [g1, g2, e1, e2]
    omega
attribute [irreducible] redK so soC
structure UpS (n : Nat) where
  v : Nat
  le : v ≤ n
structure UpR (n : Nat) where
  v : Nat
  le : v ≤ n
theorem red_m (op : Int) (s : St) : (s.red op).m = s.m - 1 := rfl
theorem red_np (op : Int) (s : St) : (s.red op).np = s.np + 1 := rfl
theorem soL_m (n : Nat) (F : Nat → Int) (m : Int) (i : Nat) (s : St) : (soL n F m i s).m = s.m + 1 := rfl
theorem soL_np (n : Nat) (F : Nat → Int) (m : Int) (i : Nat) (s : St) : (soL n F m i s).np = s.np + 1 := rfl
theorem part_app {P : Nat → Prt} {np j : Nat} {x : Prt} (hj : j < (np + 1) * 16) : partF (fun j => if j = np then x else P j) j = catA (np * 16) (partF P) (fun j => x.row.getD (0 + j) .any) j := by
  unfold catA
  split
  · rename_i h
    unfold partF
    dsimp only
    rw [if_neg (by omega)]
  · rename_i h
    unfold partF
    dsimp only
    have e1 : j / 16 = np := by omega
    have e2 : j % 16 = 0 + (j - np * 16) := by omega
    rw [e1, if_pos rfl, e2]
    have hc : 0 + (j - np * 16) < 16 := by omega
    generalize 0 + (j - np * 16) = c at hc
    match c, hc with
    | 0, _ => rfl
    | 1, _ => rfl
    | 2, _ => rfl
    | 3, _ => rfl
    | 4, _ => rfl
    | 5, _ => rfl
    | 6, _ => rfl
    | 7, _ => rfl
    | 8, _ => rfl
    | 9, _ => rfl
    | 10, _ => rfl
    | 11, _ => rfl
    | 12, _ => rfl
    | 13, _ => rfl
    | 14, _ => rfl
    | 15, _ => rfl
    | c + 16, h => omega
theorem part_app1 {P : Nat → Prt} {np j : Nat} {x : Prt} (hj : j < (np + 1) * 16) : partF (fun j => if j = np then x else P j) j = catA (np * 16) (partF P) (fun j => x.row.getD j .any) j := by
  have := part_app (P := P) (x := x) hj
  simp only [Nat.zero_add] at this
  exact this
theorem num_app {G : Nat → Int} {m j k : Nat} {v : Int} (hj : j < m + 1) : (fun j => if j = m then v else G j) j = catI m (some k) G (fun _ => v) j := by
  rw [catI_some]
  dsimp only
  by_cases h : j < m
  · rw [if_pos h, if_neg (by omega)]
  · rw [if_neg h, if_pos (by omega)]
theorem so_end {n : Nat} {F : Nat → Int} {m : Int} {i t : Nat} (ht : t ≤ soK n F m i (soL n F m i (so n F m i))) (h : soC n F m i = true → (redK (soO n F m i) t (soL n F m i (so n F m i))).m ≤ 1) : redK (soO n F m i) t (soL n F m i (so n F m i)) = so n F m (i + 1) := by
  rw [so_s]
  congr 1
  unfold soK at *
  cases hc : soC n F m i
  · rw [hc] at ht; simpa using ht
  · rw [hc] at ht
    have h1 := h hc
    rw [(redK_m _ _ _).1] at h1
    simp only [cond_true] at *
    rw [soL_m] at *
    omega
theorem so_more {n : Nat} {F : Nat → Int} {m : Int} {i t : Nat} (hc : soC n F m i = true) (h : 1 < (redK (soO n F m i) t (soL n F m i (so n F m i))).m) : t + 1 ≤ soK n F m i (soL n F m i (so n F m i)) := by
  unfold soK
  rw [hc, (redK_m _ _ _).1] at *
  simp only [cond_true]
  omega
theorem soK_le {n : Nat} {F : Nat → Int} {m : Int} {i : Nat} {s : St} : soK n F m i s ≤ s.m - 1 := by
  unfold soK; cases soC n F m i <;> simp
theorem solidOf0_f : FnOk Tryz.prog 32 Tryz.f32 := ⟨Tryz.func32, by kernel_rfl⟩
theorem solidOf0_a (n : Nat) (F : Nat → Int) (m sk : Int) (hpre : (∀ j, In64 (F j)) ∧ (0 ≤ m ∧ m ≤ 800000) ∧ n ≤ 1000000 ∧ 1 ≤ sk ∧ sk ≤ 16) : ACalls Tryz.prog 32 [ints .i64 n F, .int .i64 m, .int .i64 sk] (.agg [.sl (so n F m (soN n F m).toNat).np 16 (partF (so n F m (soN n F m).toNat).P), .int .i64 (pickF (rawF n F m) sk)]) := by
  refine acalls_of (inl := hasI (P := Tryz.prog) [] []) (base [raw_k, pick_k, leafOf_k] [] []) 0 solidOf0_f (And.intro (by kernel_rfl) ?_)
  obtain ⟨hF, hm, hn, hs⟩ := hpre
  have hN := pickF_bd (rawF n F (m + 1)) 4 (by omega)
  have w1 : IntKind.i64.wrap (m + 1) = m + 1 := wrapI (by omega) (by omega)
  repeat' (first | refine And.intro ?_ ?_ | (with_reducible exact ff_elim) | (with_reducible exact tf_elim) | refine num_elim ?_ | intro _ | (with_reducible rfl) | ((with_reducible refine lk_t ?_); exact rfl) | ((with_reducible refine pf_t ?_); exact rfl) | refine tell ?_ | exact True.intro | (refine IsT.of ?_; kernel_rfl))
  all_goals (try (refine loop_keep [0, 1, 6, 7, 8] [0] ?_; refine LoopI.mk (UpS (soN n F m).toNat) (fun i => [(10, .int .i64 i.v), (9, .os 2 1 0 (so n F m i.v).m)]) (fun i => [(7, .row [.os 1 16 0 (so n F m i.v).np, .int .i64 (pickF (rawF n F m) sk)]), (1, .arr ((so n F m i.v).np * 16) (partF (so n F m i.v).P)), (2, .nums .i64 (so n F m i.v).m (so n F m i.v).G)]) (fun i => (soN n F m).toNat - i.v) (⟨0, Nat.zero_le _⟩) (wk_mk [some 7, none, none, some 0] ?_) (fun ⟨i, hi⟩ => ?_)))
  repeat' (first | refine And.intro ?_ ?_ | (with_reducible exact ff_elim) | (with_reducible exact tf_elim) | refine' stp_mk [some 7, some _, some _, some 0] ((⟨i + 1, ?_⟩ : UpS (soN n F m).toNat)) ?_ ?_ | refine num_elim ?_ | intro _ | (with_reducible rfl) | ((with_reducible refine lk_t ?_); exact rfl) | ((with_reducible refine pf_t ?_); exact rfl) | refine tell ?_ | exact True.intro | (refine IsT.of ?_; kernel_rfl))
  all_goals (try (refine loop_keep [0, 1, 6, 7, 8, 10] [0] ?_; refine LoopI.mk (UpR (soK n F m i (soL n F m i (so n F m i)))) (fun t => [(9, .os 2 1 0 (redK (soO n F m i) t.v (soL n F m i (so n F m i))).m)]) (fun t => [(7, .row [.os 1 16 0 (redK (soO n F m i) t.v (soL n F m i (so n F m i))).np, .int .i64 (pickF (rawF n F m) sk)]), (1, .arr ((redK (soO n F m i) t.v (soL n F m i (so n F m i))).np * 16) (partF (redK (soO n F m i) t.v (soL n F m i (so n F m i))).P)), (2, .nums .i64 (redK (soO n F m i) t.v (soL n F m i (so n F m i))).m (redK (soO n F m i) t.v (soL n F m i (so n F m i))).G)]) (fun t => (soL n F m i (so n F m i)).m - t.v) (⟨0, Nat.zero_le _⟩) (wk_mk [some 7, some 32, some 41, some 0] ?_) (fun ⟨t, ht⟩ => ?_)))
  repeat' (first | refine And.intro ?_ ?_ | (with_reducible exact ff_elim) | (with_reducible exact tf_elim) | refine' stp_mk [some 7, some _, some _, some 0] ((⟨t + 1, ?_⟩ : UpR (soK n F m i (soL n F m i (so n F m i))))) ?_ ?_ | refine' stp_mk [some 7, some _, some _, some 0] (⟨i + 1, ?_⟩ : UpS (soN n F m).toNat) ?_ ?_ | refine num_elim ?_ | intro _ | (with_reducible rfl) | ((with_reducible refine lk_t ?_); exact rfl) | ((with_reducible refine pf_t ?_); exact rfl) | refine tell ?_ | exact True.intro | (refine IsT.of ?_; kernel_rfl))
  all_goals (try refine Tell.mk ?_)
  all_goals first | with_reducible rfl | with_reducible exact isI_mk | with_reducible assumption | rfl | skip
  all_goals (have hso : 1 ≤ soN n F m ∧ soN n F m ≤ 4 := (by unfold soN; omega))
  all_goals (try dsimp only at *)
  all_goals (try simp only [intF_mk, raw_p, avInt_int, lenN_none, redK_s, redK_0, show (Tab.cx.ti 3).bytes = 8 from rfl, show (Tab.cx.ti 68).size = 16 from rfl, show (Tab.cx.ti 68).bytes = 128 from rfl] at *)
  all_goals first | omega | exact hF _ | exact rawF_in hF | ((show (_ : Int) ≤ _); decide) | ((show (_ : Nat) ≤ _); decide) | skip
  all_goals first | exact (so_0 n F m).1 | exact (so_0 n F m).2 | (show (so n F m 0).np * 16 = 0; rw [(so_0 n F m).2]; done) | (show (so n F m 0).m = 0; exact (so_0 n F m).1) | skip
  all_goals (have sb := so_bd n F m i)
  all_goals (have w2 : IntKind.i64.wrap (m + 2) = m + 2 := wrapI (by omega) (by omega); have w3 : IntKind.i64.wrap (m + 3) = m + 3 := wrapI (by omega) (by omega); have w4 : IntKind.i64.wrap (1 + pickF (rawF n F (m + 1)) 4) = soN n F m := (by unfold soN; exact wrapI (by omega) (by omega)); have w5 : IntKind.i64.wrap (9 * (i : Int)) = 9 * i := wrapI (by omega) (by omega); have w6 : IntKind.i64.wrap (m + 2 + 9 * (i : Int)) = m + 2 + 9 * i := wrapI (by omega) (by omega); have w7 : IntKind.i64.wrap (m + (i : Int)) = m + i := wrapI (by omega) (by omega); have w8 : IntKind.i64.wrap (m + 3 + (i : Int)) = m + 3 + i := wrapI (by omega) (by omega); have w9 : IntKind.i64.wrap (soN n F m - 1) = soN n F m - 1 := wrapI (by omega) (by omega))
  all_goals (have wa : IntKind.i64.wrap (1 + pickF (rawF n F (m + 3 + (i : Int))) 3) = soO n F m i := (by have := pickF_bd (rawF n F (m + 3 + (i : Int))) 3 (by omega); unfold soO; exact wrapI (by omega) (by omega)))
  all_goals (have hsc : ((i : Int) == soN n F m - 1 || pickF (rawF n F (m + (i : Int))) 2 == 0) = soC n F m i := (by unfold soC; rfl))
  all_goals (try simp only [w1, w2, w3, w4, w5, w6, w7, w8, w9, wa, hsc] at *)
  all_goals (have l1 := soL_m n F m i (so n F m i); have l2 := soL_np n F m i (so n F m i); have wb : IntKind.i64.wrap ((((so n F m i).np + 1 : Nat) : Int) - 1) = ((so n F m i).np : Int) := (by rw [wrapI (by omega) (by omega)]; omega); have wc : IntKind.i64.wrap ((i : Int) + 1) = ((i + 1 : Nat) : Int) := (by rw [wrapI (by omega) (by omega)]; omega))
  all_goals (try simp only [wb, wc] at *)
  all_goals first | omega | with_reducible assumption | (show 0 + 1 * 16 ≤ 16; decide) | exact part_app (by omega) | exact num_app (by omega) | skip
  all_goals (first | (have r1 := (redK_m (soO n F m i) t (soL n F m i (so n F m i))).1; have r2 := (redK_m (soO n F m i) t (soL n F m i (so n F m i))).2; have r3 := soK_le (n := n) (F := F) (m := m) (i := i) (s := soL n F m i (so n F m i))) | skip)
  all_goals first | (have re := so_end (n := n) (F := F) (m := m) (i := i) ht (fun hc => by simp only [hc, Bool.and_true, decide_eq_false_iff_not] at *; omega); rw [← re]; first | done | rfl | exact Nat.le_refl _) | skip
  all_goals first | (with_reducible refine gb_t ?_; with_reducible assumption) | with_reducible assumption | (unfold gb at *; with_reducible assumption) | skip
  all_goals (try simp only [Bool.and_eq_true, decide_eq_true_eq, decide_eq_false_iff_not, gt_iff_lt] at *)
  all_goals first | omega | (have ei : i = (soN n F m).toNat := (by omega); subst ei; first | rfl | (rw [Nat.zero_add]; done)) | skip
  all_goals first | exact ⟨by assumption, gb_f (by assumption)⟩ | skip
  all_goals (have hc : soC n F m i = true := (by first | exact (‹_ ∧ soC n F m i = true›).2 | assumption); have h1 : 1 < (redK (soO n F m i) t (soL n F m i (so n F m i))).m := (by first | (have := (‹_ ∧ soC n F m i = true›).1; omega) | omega))
  all_goals (have sm := so_more hc h1; have wd : IntKind.i64.wrap (((redK (soO n F m i) t (soL n F m i (so n F m i))).m : Int) - 2) = ((redK (soO n F m i) t (soL n F m i (so n F m i))).m : Int) - 2 := wrapI (by omega) (by omega); have we : IntKind.i64.wrap (((redK (soO n F m i) t (soL n F m i (so n F m i))).m : Int) - 1) = ((redK (soO n F m i) t (soL n F m i (so n F m i))).m : Int) - 1 := wrapI (by omega) (by omega))
  all_goals (have wf : (((redK (soO n F m i) t (soL n F m i (so n F m i))).m : Int) - 2).toNat = (redK (soO n F m i) t (soL n F m i (so n F m i))).m - 2 := (by omega); have wg : (((redK (soO n F m i) t (soL n F m i (so n F m i))).m : Int) - 1).toNat = (redK (soO n F m i) t (soL n F m i (so n F m i))).m - 1 := (by omega); have wh : IntKind.i64.wrap ((((redK (soO n F m i) t (soL n F m i (so n F m i))).np + 1 : Nat) : Int) - 1) = ((redK (soO n F m i) t (soL n F m i (so n F m i))).np : Int) := (by rw [wrapI (by omega) (by omega)]; omega))
  all_goals (try simp only [wd, we, wf, wg, wh, mulN1, Nat.zero_add, red_m, red_np])
  all_goals first | omega | exact part_app1 (by assumption) | exact num_app (by rw [red_m] at *; omega) | skip
def solO (n : Nat) (F : Nat → Int) (m : Int) : St := so n F m (soN n F m).toNat
def solidOf_k : Con Tryz.prog := ⟨32, fun args => match args with | [.sl n 1 g, .int .i64 m, .int .i64 sk] => .ok (some (IsI .i64 g ∧ (∀ j, In64 (intF g j)) ∧ (0 ≤ m ∧ m ≤ 800000) ∧ n ≤ 1000000 ∧ 1 ≤ sk ∧ sk ≤ 16)) (.agg [.sl (solO n (intF g) m).np 16 (partF (solO n (intF g) m).P), .int .i64 (pickF (rawF n (intF g) m) sk)]) | _ => .no, by
  intro args p r h hp
  split at h
  · cases h; obtain ⟨h_g, hq⟩ := hp; have e_g := h_g.eq; rw [e_g]; exact solidOf0_a _ _ _ _ hq
  · cases h⟩
end Go.Proofs.YtpmmabaecldmkaaGreat
/- Fields that are made of raw numbers. -/
namespace Go.Proofs.YtpmmabaecldmkaaGreat
open Go.RowKit Ev
set_option linter.unusedVariables false
set_option linter.unusedSimpArgs false
set_option maxRecDepth 20000
set_option maxHeartbeats 4000000

@[irreducible] def foW (n : Nat) (F : Nat → Int) (k : Int) : Int := 2 + pickF (rawF n F k) 3
@[irreducible] def foR (n : Nat) (F : Nat → Int) (k : Int) (i : Nat) : Int := pickF (rawF n F (k + 7 + i)) 2000 - 1000
theorem foW_bd (n : Nat) (F : Nat → Int) (k : Int) : 2 ≤ foW n F k ∧ foW n F k ≤ 4 := by
  unfold foW; have := pickF_bd (rawF n F k) 3 (by omega); omega
theorem foW_eq (n : Nat) (F : Nat → Int) (k : Int) : IntKind.i64.wrap (2 + pickF (rawF n F k) 3) = foW n F k := by
  have := pickF_bd (rawF n F k) 3 (by omega)
  unfold foW; exact wrapI (by omega) (by omega)
theorem foR_eq {n : Nat} {F : Nat → Int} {k : Int} {i : Nat} (hk : 0 ≤ k ∧ k ≤ 900000) (hi : i ≤ 16) : IntKind.i64.wrap (pickF (rawF n F (IntKind.i64.wrap (IntKind.i64.wrap (k + 7) + i))) 2000 - 1000) = foR n F k i := by
  have := pickF_bd (rawF n F (k + 7 + i)) 2000 (by omega)
  rw [wrapI (x := k + 7) (by omega) (by omega), wrapI (x := k + 7 + i) (by omega) (by omega), wrapI (by omega) (by omega)]
  unfold foR; rfl
theorem foWH (n : Nat) (F : Nat → Int) (k : Int) : 4 ≤ foW n F k * foW n F (k + 1) ∧ foW n F k * foW n F (k + 1) ≤ 16 := by
  have a := foW_bd n F k
  have b := foW_bd n F (k + 1)
  generalize foW n F k = x at *
  generalize foW n F (k + 1) = y at *
  have : x = 2 ∨ x = 3 ∨ x = 4 := by omega
  rcases this with rfl | rfl | rfl <;> omega
theorem fo_step {n : Nat} {F : Nat → Int} {k : Int} {i j q : Nat} (hk : 0 ≤ k ∧ k ≤ 900000) (hi : i ≤ 16) (hj : j < i + 1) :
    foR n F k j = catI i (some q) (foR n F k) (fun _ => IntKind.i64.wrap (pickF (rawF n F (IntKind.i64.wrap (IntKind.i64.wrap (k + 7) + i))) 2000 - 1000)) j := by
  rw [foR_eq hk hi, catI_some]
  split
  · rfl
  · rw [show j = i by omega]
theorem fieldOf_f : FnOk Tryz.prog 33 Tryz.f33 := ⟨Tryz.func33, by kernel_rfl⟩
theorem fieldOf_a (n : Nat) (F : Nat → Int) (k m : Int) (hpre : (∀ j, In64 (F j)) ∧ (0 ≤ k ∧ k ≤ 900000) ∧ 1 ≤ m ∧ m ≤ 1000) : ACalls Tryz.prog 33 [ints .i64 n F, .int .i64 k, .int .i64 m] (.agg [.int .i64 (foW n F k), .int .i64 (foW n F (k + 1)), .flt (milF (rawF n F (k + 2)) 3000), .flt (milF (rawF n F (k + 2 + 1)) 3000), .flt (milF (rawF n F (k + 2 + 2)) 3000), .flt (thoF (300 + pickF (rawF n F (k + 5)) 1500)), ints .i64 (foW n F k * foW n F (k + 1)).toNat (foR n F k), .int .i64 (pickF (rawF n F (k + 6)) m)]) := by
  refine acalls_of (inl := hasI (P := Tryz.prog) [] []) (base [raw_k, pick_k, vecOf_k, thousandth_k] [] []) 0 fieldOf_f (And.intro (by kernel_rfl) ?_)
  have hb := pickF_bd (rawF n F (k + 5)) 1500 (by omega)
  have w1 : IntKind.i64.wrap (k + 1) = k + 1 := wrapI (by omega) (by omega)
  have w2 : IntKind.i64.wrap (k + 2) = k + 2 := wrapI (by omega) (by omega)
  have w5 : IntKind.i64.wrap (k + 5) = k + 5 := wrapI (by omega) (by omega)
  have w6 : IntKind.i64.wrap (k + 6) = k + 6 := wrapI (by omega) (by omega)
  have w7 : IntKind.i64.wrap (300 + pickF (rawF n F (k + 5)) 1500) = 300 + pickF (rawF n F (k + 5)) 1500 := wrapI (by omega) (by omega)
  have hp := foWH n F k
  have w8 : IntKind.i64.wrap (foW n F k * foW n F (k + 1)) = foW n F k * foW n F (k + 1) := wrapI (by omega) (by omega)
  repeat' (first | refine And.intro ?_ ?_ | (with_reducible exact ff_elim) | (with_reducible exact tf_elim) | refine num_elim ?_ | intro _ | (with_reducible rfl) | ((with_reducible refine lk_t ?_); exact rfl) | ((with_reducible refine pf_t ?_); exact rfl) | refine tell ?_ | exact True.intro | (refine IsT.of ?_; kernel_rfl))
  all_goals (try (refine loop_keep [0, 1, 6, 7] [0] ?_; refine LoopI.mk ({i : Nat // (i : Int) ≤ foW n F k * foW n F (k + 1)}) (fun i => [(8, .int .i64 i.1)]) (fun i => [(30, .row [.int .i64 (foW n F k), .int .i64 (foW n F (k + 1)), .flt (milF (rawF n F (k + 2)) 3000), .flt (milF (rawF n F (k + 2 + 1)) 3000), .flt (milF (rawF n F (k + 2 + 2)) 3000), .flt (thoF (300 + pickF (rawF n F (k + 5)) 1500)), .os 1 1 0 i.1, .int .i64 (pickF (rawF n F (k + 6)) m)]), (1, .nums .i64 i.1 (foR n F k))]) (fun i => (foW n F k * foW n F (k + 1)).toNat - i.1) (⟨0, by omega⟩) (wk_mk [some 30, none, some 0] ?_) (fun ⟨i, hi⟩ => ?_)))
  repeat' (first | refine And.intro ?_ ?_ | (with_reducible exact ff_elim) | (with_reducible exact tf_elim) | refine' stp_mk [some 30, some _, some 0] (⟨i + 1, ?_⟩) ?_ ?_ | refine num_elim ?_ | intro _ | (with_reducible rfl) | ((with_reducible refine lk_t ?_); exact rfl) | ((with_reducible refine pf_t ?_); exact rfl) | refine tell ?_ | exact True.intro | (refine IsT.of ?_; kernel_rfl))
  all_goals (try refine Tell.mk ?_)
  all_goals (try dsimp only at *)
  all_goals (try simp only [intF_mk, w1, w2, w5, w6, w7, foW_eq, w8, decide_eq_true_eq, decide_eq_false_iff_not, Tab.b3, Nat.zero_add] at *)
  all_goals first | with_reducible rfl | with_reducible exact isI_mk | with_reducible assumption | omega | exact hpre.1 | exact hpre.1 _ | exact rawF_in hpre.1 | (unfold raw_p; omega) | (unfold raw_p; rw [wrapI (x := k + 7) (by omega) (by omega), wrapI (by omega) (by omega)]; omega) | (have hii : ¬ (i : Int) < foW n F k * foW n F (k + 1) := (by assumption); omega) | (generalize foW n F k * foW n F (k + 1) = z at *; omega) | exact fo_step hpre.2.1 (by omega) (by assumption) | ((with_reducible refine lk_t ?_); rfl) | ((with_reducible refine ks_t ?_); rfl) | exact nums_N | (rw [wrapI (by omega) (by omega)]; omega) | trace_state
def fieldOf_r (n : Nat) (F : Nat → Int) (k m : Int) : AV := .agg [.int .i64 (foW n F k), .int .i64 (foW n F (k + 1)), .flt (milF (rawF n F (k + 2)) 3000), .flt (milF (rawF n F (k + 2 + 1)) 3000), .flt (milF (rawF n F (k + 2 + 2)) 3000), .flt (thoF (300 + pickF (rawF n F (k + 5)) 1500)), ints .i64 (foW n F k * foW n F (k + 1)).toNat (foR n F k), .int .i64 (pickF (rawF n F (k + 6)) m)]
def fieldOf_p (n : Nat) (F : Nat → Int) (k m : Int) : Prop := (∀ j, In64 (F j)) ∧ (0 ≤ k ∧ k ≤ 900000) ∧ 1 ≤ m ∧ m ≤ 1000
def fieldOf_k : Con Tryz.prog := ⟨33, fun args => match args with | [.sl n 1 g_F, .int .i64 k, .int .i64 m] => .ok (some (IsI .i64 g_F ∧ fieldOf_p n (intF g_F) k m)) (fieldOf_r n (intF g_F) k m) | _ => .no, by
  intro args p r h hp
  split at h
  · cases h; obtain ⟨h_F, hp⟩ := hp; have e_F := h_F.eq; rw [e_F]; exact fieldOf_a _ _ _ _ hp
  · cases h⟩
end Go.Proofs.YtpmmabaecldmkaaGreat
/- Scenes that are made of raw numbers. -/
namespace Go.Proofs.YtpmmabaecldmkaaGreat
open Go.RowKit Ev
set_option linter.unusedVariables false
set_option linter.unusedSimpArgs false
set_option maxRecDepth 20000
set_option maxHeartbeats 4000000

theorem app_row {sz i j : Nat} {row : Nat → List AV} (h : j < (i + 1) * sz) (hs : 0 < sz) : flatF sz row j = catA (i * sz) (flatF sz row) (fun j => (row i).getD (0 + j) .any) j := by
  unfold catA
  split
  · rfl
  · rename_i hj
    dsimp only
    rw [Nat.zero_add]
    have e : j = i * sz + (j - i * sz) := by omega
    have hc : j - i * sz < sz := by rw [Nat.add_mul, Nat.one_mul] at h; omega
    generalize j - i * sz = c at *
    subst e
    exact flat_at hc
theorem app_row1 {sz i j : Nat} {row : Nat → List AV} (h : j < (i + 1) * sz) (hs : 0 < sz) : flatF sz row j = catA (i * sz) (flatF sz row) (fun j => (row i).getD j .any) j := by
  have := app_row (row := row) h hs
  simp only [Nat.zero_add] at this
  exact this
theorem shapesOf_f : FnOk Tryz.prog 31 Tryz.f31 := ⟨Tryz.func31, by kernel_rfl⟩
theorem shapesOf_a (n : Nat) (F : Nat → Int) (k : Nat) (hpre : (∀ j, In64 (F j)) ∧ k ≤ 64) : ACalls Tryz.prog 31 [ints .i64 n F, .int .i64 k, .int .i64 3] (.sl k 13 (flatF 13 fun i => (shpO n F (13 * (i : Int))).row)) := by
  refine acalls_of (inl := hasI (P := Tryz.prog) [] []) (base [shapeOf_k] [] []) 0 shapesOf_f (And.intro (by kernel_rfl) ?_)
  repeat' (first | refine And.intro ?_ ?_ | (with_reducible exact ff_elim) | (with_reducible exact tf_elim) | refine num_elim ?_ | intro _ | (with_reducible rfl) | ((with_reducible refine lk_t ?_); exact rfl) | ((with_reducible refine pf_t ?_); exact rfl) | refine tell ?_ | exact True.intro | (refine IsT.of ?_; kernel_rfl))
  all_goals (try (refine loop_keep [0, 1, 2] [] ?_; refine LoopI.mk ({i : Nat // i ≤ k}) (fun i => [(8, .int .i64 i.1), (7, .os 1 13 0 i.1)]) (fun i => [(1, .arr (i.1 * 13) (flatF 13 fun i => (shpO n F (13 * (i : Int))).row))]) (fun i => k - i.1) (⟨0, Nat.zero_le _⟩) (wk_mk [none] ?_) (fun ⟨i, hi⟩ => ?_)))
  repeat' (first | refine And.intro ?_ ?_ | (with_reducible exact ff_elim) | (with_reducible exact tf_elim) | refine' stp_mk [some _] (⟨i + 1, ?_⟩) ?_ ?_ | refine num_elim ?_ | intro _ | (with_reducible rfl) | ((with_reducible refine lk_t ?_); exact rfl) | ((with_reducible refine pf_t ?_); exact rfl) | refine tell ?_ | exact True.intro | (refine IsT.of ?_; kernel_rfl))
  all_goals obtain ⟨hF, hk⟩ := hpre
  all_goals (try refine Tell.mk ?_)
  all_goals first | with_reducible rfl | with_reducible exact isI_mk | with_reducible assumption | rfl | skip
  all_goals (try dsimp only at *)
  all_goals (try simp only [intF_mk, Nat.zero_add, show (Tab.cx.ti 61).size = 13 from rfl, show (Tab.cx.ti 61).bytes = 104 from rfl, decide_eq_true_eq, decide_eq_false_iff_not] at *)
  all_goals first | omega | exact hF _ | (show 1 * 13 ≤ 13; decide) | skip
  all_goals (have w1 : IntKind.i64.wrap (13 * (i : Int)) = 13 * i := wrapI (by omega) (by omega); have w2 : IntKind.i64.wrap ((i : Int) + 1) = ((i + 1 : Nat) : Int) := (by rw [wrapI (by omega) (by omega)]; omega))
  all_goals (try simp only [w1, w2] at *)
  all_goals first | omega | rfl | exact app_row1 (row := fun i => (shpO n F (13 * (i : Int))).row) (by assumption) (by decide) | trace_state
def shapesOfK (k : Nat) : Con Tryz.prog := ⟨31, fun args => match args with | [.sl n 1 g, .int .i64 k', .int .i64 3] => .ok (some (k' = (k : Int) ∧ IsI .i64 g ∧ (∀ j, In64 (intF g j)) ∧ k ≤ 64)) (.sl k 13 (flatF 13 fun i => (shpO n (intF g) (13 * (i : Int))).row)) | _ => .no, by
  intro args p r h hp
  split at h
  · cases h; obtain ⟨rfl, h_g, hq⟩ := hp; have e_g := h_g.eq; rw [e_g]; exact shapesOf_a _ _ _ hq
  · cases h⟩
def litV (v : Int) : AV → Bool
  | .int _ n => decide (n = v)
  | _ => false
/-- A loop is run round by round if its counter begins so. -/
theorem unr_S {lo : Nat} {T : AK → (Nat → AV) → (Nat → OB) → Nat → Prop} {K : AK} {env : Nat → AV} {own : Nat → OB} {nk : Nat} (t : Nat) (v : Int) (ht : litV v (env t) = true) (n : Nat) (h : unrR T K n env own nk) : loopR lo T K env own nk := Or.inl ⟨n, h⟩
namespace ScO
def isIntW : AV → Bool
  | .int _ _ => true
  | _ => false
theorem loop_keepS {lo : Nat} {T : AK → (Nat → AV) → (Nat → OB) → Nat → Prop} {K : AK} {env : Nat → AV} {own : Nat → OB} {nk : Nat} (t : Nat) (ht : isIntW (env t) = true) (ts ks : List Nat)
    (h : keepK env ts fun l => keepO own ks fun m => LoopI lo T K env own nk l m) : loopR lo T K env own nk := loop_keep ts ks h
end ScO
open ScO
def sknO (n : Nat) (F : Nat → Int) (i : Nat) : Skn := ⟨pickF (rawF n F (11 + 3 * (i : Int))) 401, pickF (rawF n F (11 + 3 * (i : Int) + 1)) 401, pickF (rawF n F (11 + 3 * (i : Int) + 2)) 401,
  pickF (rawF n F (12 + 2 * (i : Int))) 301 * ((i % 2 : Nat) : Int), pickF (rawF n F (12 + 2 * (i : Int) + 1)) 301 * ((i % 2 : Nat) : Int), pickF (rawF n F (12 + 2 * (i : Int) + 2)) 301 * ((i % 2 : Nat) : Int),
  pickF (rawF n F (13 + 5 * (i : Int))) 301 * ((i / 2 : Nat) : Int), pickF (rawF n F (13 + 5 * (i : Int) + 1)) 301 * ((i / 2 : Nat) : Int), pickF (rawF n F (13 + 5 * (i : Int) + 2)) 301 * ((i / 2 : Nat) : Int), 700 + pickF (rawF n F (6 + (i : Int))) 1500⟩
def lmpO (n : Nat) (F : Nat → Int) (i : Nat) : Lmp := ⟨milF (rawF n F (17 + 4 * (i : Int))) 6000, milF (rawF n F (17 + 4 * (i : Int) + 1)) 6000, milF (rawF n F (17 + 4 * (i : Int) + 2)) 6000,
  pickF (IntKind.i64.wrap (rawF n F (21 + (i : Int)) * 977)) 65537, pickF (IntKind.i64.wrap (rawF n F (21 + (i : Int) + 1) * 977)) 65537, pickF (IntKind.i64.wrap (rawF n F (21 + (i : Int) + 2) * 977)) 65537⟩
def solS (n : Nat) (F : Nat → Int) (i : Nat) : Sol := ⟨(solO n F (5 + 7 * (i : Int))).np, (solO n F (5 + 7 * (i : Int))).P, pickF (rawF n F (5 + 7 * (i : Int))) 3⟩
def fldO (n : Nat) (F : Nat → Int) : Fld := ⟨foW n F 4, foW n F (4 + 1), milF (rawF n F (4 + 2)) 3000, milF (rawF n F (4 + 2 + 1)) 3000, milF (rawF n F (4 + 2 + 2)) 3000, thoF (300 + pickF (rawF n F (4 + 5)) 1500), (foW n F 4 * foW n F (4 + 1)).toNat, foR n F 4, pickF (rawF n F (4 + 6)) 3⟩
def scnO (n : Nat) (F : Nat → Int) (k : Nat) : Scn := ⟨k, fun i => shpO n F (13 * (i : Int)), (pickF (rawF n F 9) 3).toNat, solS n F, if pickF (rawF n F 8) 3 = 0 then 1 else 0, fun _ => fldO n F, 3, sknO n F, (pickF (rawF n F 1) 3).toNat, lmpO n F,
  pickF (IntKind.i64.wrap (rawF n F 2 * 661)) 65537, pickF (IntKind.i64.wrap (rawF n F 3 * 661)) 65537, pickF (IntKind.i64.wrap (rawF n F 4 * 661)) 65537, milF (rawF n F 3) 2000, milF (rawF n F 4) 2000, 13842939354630062080, 0, 0, 0, 0, 4607182418800017408, 0, thoF (500 + pickF (rawF n F 5) 1500)⟩
theorem app_row0 {sz j : Nat} {row : Nat → List AV} {f : Nat → AV} {r : List AV} (e : r = row 0) (h : j < sz) : flatF sz row j = catA 0 f (fun j => r.getD j .any) j := by
  subst e
  have := flat_at (row := row) (i := 0) h
  unfold catA
  simp only [Nat.zero_mul, Nat.zero_add, Nat.not_lt_zero, if_false, Nat.sub_zero] at *
  exact this
theorem rows3 {row : Nat → List AV} {f : Nat → AV} {r0 r1 r2 : List AV} {j : Nat} (e0 : r0 = row 0) (e1 : r1 = row 1) (e2 : r2 = row 2) (hj : j < 30) :
    flatF 10 row j = catA 20 (catA 10 (catA 0 f (fun j => r0.getD j .any)) (fun j => r1.getD j .any)) (fun j => r2.getD j .any) j := by
  rw [app_row1 (i := 2) (sz := 10) (by omega) (by omega)]
  subst e1; subst e2
  by_cases h2 : j < 20
  · simp only [catA, show 2 * 10 = 20 from rfl, h2, if_true]
    rw [app_row1 (i := 1) (sz := 10) (by omega) (by omega)]
    by_cases h1 : j < 10
    · simp only [catA, show 1 * 10 = 10 from rfl, h1, if_true]
      rw [app_row0 (f := f) e0 h1]; rfl
    · simp only [catA, show 1 * 10 = 10 from rfl, h1, if_false]
  · simp only [catA, show 2 * 10 = 20 from rfl, h2, if_false]
theorem wsk0 (x : Int) : IntKind.i64.wrap (pickF x 301 * 0) = pickF x 301 * 0 := by rw [Int.mul_zero]; decide
theorem wsk1 (x : Int) : IntKind.i64.wrap (pickF x 301 * 1) = pickF x 301 * 1 := by have := pickF_bd x 301 (by omega); exact wrapI (by omega) (by omega)
theorem wsk2 (x : Int) : IntKind.i64.wrap (700 + pickF x 1500) = 700 + pickF x 1500 := by have := pickF_bd x 1500 (by omega); exact wrapI (by omega) (by omega)
theorem wsk3 (x : Int) : IntKind.i64.wrap (500 + pickF x 1500) = 500 + pickF x 1500 := by have := pickF_bd x 1500 (by omega); exact wrapI (by omega) (by omega)
theorem n3_lt {n : Nat} {F : Nat → Int} {k j : Nat} (h : j < (scnO n F k).n3 * 8) : j < 8 := by
  have : (scnO n F k).n3 ≤ 1 := by unfold scnO; dsimp only; split <;> omega
  omega
theorem n3_1 {n : Nat} {F : Nat → Int} {k : Nat} (h : (pickF (rawF n F 8) 3 == 0) = true) : (scnO n F k).n3 = 1 := by
  have := eq_of_beq h
  unfold scnO; dsimp only; rw [if_pos this]
theorem n3_0 {n : Nat} {F : Nat → Int} {k : Nat} (h : (pickF (rawF n F 8) 3 == 0) = false) : (scnO n F k).n3 = 0 := by
  have := ne_of_beq_false h
  unfold scnO; dsimp only; rw [if_neg this]
theorem sceneOf_f : FnOk Tryz.prog 14 Tryz.f14 := ⟨Tryz.func14, by kernel_rfl⟩
theorem sceneOf_a (n : Nat) (F : Nat → Int) (k : Nat) (hpre : (∀ j, In64 (F j)) ∧ k ≤ 64 ∧ n ≤ 1000000) : ACalls Tryz.prog 14 [ints .i64 n F, .int .i64 k] (.agg (scnO n F k).row) := by
  refine acalls_of (inl := hasI (P := Tryz.prog) [] []) (base [raw_k, pick_k, milli_k, thousandth_k, vecOf_k, (shapesOfK k), solidOf_k, fieldOf_k] [] []) 0 sceneOf_f (And.intro (by kernel_rfl) ?_)
  obtain ⟨hF, hk, hn⟩ := hpre
  have p1 := pickF_bd (rawF n F 1) 3 (by omega)
  have p9 := pickF_bd (rawF n F 9) 3 (by omega)
  repeat' (first | refine And.intro ?_ ?_ | (with_reducible exact ff_elim) | (with_reducible exact tf_elim) | refine unr_S 8 0 (by rfl) 4 ?_ | refine unr_S 6 0 (by rfl) 4 ?_ | refine num_lit 0 (by decide) ?_ | refine num_lit 1 (by decide) ?_ | refine num_lit 2 (by decide) ?_ | refine num_lit 3 (by decide) ?_ | refine num_lit 4 (by decide) ?_ | refine num_lit 5 (by decide) ?_ | refine num_lit 6 (by decide) ?_ | refine num_lit 7 (by decide) ?_ | refine num_lit 8 (by decide) ?_ | (intro h; exact absurd h (by decide)) | refine num_elim ?_ | intro _ | (with_reducible rfl) | ((with_reducible refine lk_t ?_); exact rfl) | ((with_reducible refine pf_t ?_); exact rfl) | refine tell ?_ | exact True.intro | (refine IsT.of ?_; kernel_rfl))
  all_goals first | with_reducible exact isI_mk | (with_reducible refine Tell.mk ?_; with_reducible rfl) | ((show (_ : Int) ≤ _); decide) | ((show (_ : Int) < _); decide) | (simp only [intF_mk]; exact rawF_in hF) | (unfold raw_p; decide) | skip
  all_goals (try (refine loop_keepS 9 (by rfl) [0, 1, 4, 5] [0] ?_; refine LoopI.mk ({i : Nat // (i : Int) ≤ pickF (rawF n F 1) 3}) (fun i => [(9, .int .i64 i.1)]) (fun i => [(16, .row [.nils, .nils, .nils, .os 508 10 0 3, .os 1 6 0 i.1, .int .i64 0, .int .i64 0, .int .i64 0, .flt (milF (rawF n F 3) 2000), .flt (milF (rawF n F 4) 2000), .flt 13842939354630062080, .flt 0, .flt 0, .flt 0, .flt 0, .flt 4607182418800017408, .flt 0, .flt (thoF (500 + pickF (rawF n F 5) 1500))]), (1, .arr (i.1 * 6) (flatF 6 fun i => (lmpO n F i).row)), (508, .arr 30 (flatF 10 fun i => (sknO n F i).row))]) (fun i => 3 - i.1) (⟨0, by omega⟩) (wk_mk [some 16, none, some 508, some 0] ?_) (fun ⟨i, hi⟩ => ?_)))
  repeat' (first | refine And.intro ?_ ?_ | (with_reducible exact ff_elim) | (with_reducible exact tf_elim) | refine' stp_mk [some 16, some _, some 508, some 0] (⟨i + 1, ?_⟩) ?_ ?_ | refine unr_S 11 0 (by rfl) 4 ?_ | refine unr_S 12 0 (by rfl) 4 ?_ | refine num_lit 0 (by decide) ?_ | refine num_lit 1 (by decide) ?_ | refine num_lit 2 (by decide) ?_ | refine num_lit 3 (by decide) ?_ | refine num_lit 4 (by decide) ?_ | refine num_lit 5 (by decide) ?_ | refine num_lit 6 (by decide) ?_ | refine num_lit 7 (by decide) ?_ | refine num_lit 8 (by decide) ?_ | (intro h; exact absurd h (by decide)) | refine num_elim ?_ | intro _ | (with_reducible rfl) | ((with_reducible refine lk_t ?_); exact rfl) | ((with_reducible refine pf_t ?_); exact rfl) | refine tell ?_ | exact True.intro | (refine IsT.of ?_; kernel_rfl))
  all_goals (try (refine loop_keepS 13 (by rfl) [0, 4, 5] [0, 1, 508] ?_; refine LoopI.mk ({b : Nat // (b : Int) ≤ pickF (rawF n F 9) 3}) (fun b => [(13, .int .i64 b.1)]) (fun b => [(16, .row [.sl k 13 (flatF 13 fun i => (shpO n F (13 * (i : Int))).row), .os 2 2 0 b.1, .nils, .os 508 10 0 3, .os 1 6 0 i, .int .i64 (pickF (IntKind.i64.wrap (rawF n F 2 * 661)) 65537), .int .i64 (pickF (IntKind.i64.wrap (rawF n F 3 * 661)) 65537), .int .i64 (pickF (IntKind.i64.wrap (rawF n F 4 * 661)) 65537), .flt (milF (rawF n F 3) 2000), .flt (milF (rawF n F 4) 2000), .flt 13842939354630062080, .flt 0, .flt 0, .flt 0, .flt 0, .flt 4607182418800017408, .flt 0, .flt (thoF (500 + pickF (rawF n F 5) 1500))]), (2, .arr (b.1 * 2) (flatF 2 fun i => (solS n F i).row))]) (fun b => 3 - b.1) (⟨0, by omega⟩) (wk_mk [some 16, none, some 0, some 1, some 508] ?_) (fun ⟨b, hb⟩ => ?_)))
  repeat' (first | refine And.intro ?_ ?_ | (with_reducible exact ff_elim) | (with_reducible exact tf_elim) | refine' stp_mk [some 16, some _, some 0, some 1, some 508] (⟨b + 1, ?_⟩) ?_ ?_ | refine num_lit 0 (by decide) ?_ | refine num_lit 1 (by decide) ?_ | refine num_lit 2 (by decide) ?_ | refine num_lit 3 (by decide) ?_ | refine num_lit 4 (by decide) ?_ | refine num_lit 5 (by decide) ?_ | refine num_lit 6 (by decide) ?_ | refine num_lit 7 (by decide) ?_ | refine num_lit 8 (by decide) ?_ | (intro h; exact absurd h (by decide)) | refine num_elim ?_ | intro _ | (with_reducible rfl) | ((with_reducible refine lk_t ?_); exact rfl) | ((with_reducible refine pf_t ?_); exact rfl) | refine tell ?_ | exact True.intro | (refine IsT.of ?_; kernel_rfl))
  all_goals (try with_reducible refine Tell.mk ?_)
  all_goals (try dsimp only)
  all_goals (try simp only [intF_mk, raw_p, Nat.zero_add, Int.add_zero, show (Tab.cx.ti 73).size = 10 from rfl, show (Tab.cx.ti 73).bytes = 80 from rfl, show (Tab.cx.ti 75).size = 6 from rfl, show (Tab.cx.ti 75).bytes = 48 from rfl, show (Tab.cx.ti 66).size = 2 from rfl, show (Tab.cx.ti 66).bytes = 32 from rfl, show (Tab.cx.ti 71).size = 8 from rfl, show (Tab.cx.ti 71).bytes = 80 from rfl, wsk0, wsk1, wsk2, wsk3])
  all_goals first
    | with_reducible rfl | with_reducible exact isI_mk | with_reducible assumption | exact rawF_in hF | exact wrap_in _ | exact hF _ | decide | ((show (_ : Int) ≤ _); decide) | ((show (_ : Nat) ≤ _); decide) | ((show (_ : Int) < _); decide)
    | (show 0 + 1 * 10 ≤ 10; decide) | (show 1 * 10 ≤ 10; decide) | (show 1 * 6 ≤ 6; decide) | (show 1 * 2 ≤ 2; decide) | (show 1 * 8 ≤ 8; decide) | omega
    | (refine rows3 ?_ ?_ ?_ (by assumption) <;> rfl)
    | exact app_row0 rfl (by assumption)
    | skip
  all_goals first | rfl | (show 0 * _ = 0; rw [Nat.zero_mul]; done) | skip
  all_goals (try dsimp only at *)
  all_goals (try simp only [decide_eq_true_eq, decide_eq_false_iff_not] at *)
  all_goals (try simp only [intF_mk] at *)
  all_goals first | exact app_row0 rfl (n3_lt (by assumption)) | exact n3_1 (by assumption) | exact n3_0 (by assumption) | omega | (show (pickF (rawF n F 1) 3).toNat = i; omega) | (show (pickF (rawF n F 9) 3).toNat = b; omega) | skip
  all_goals (try simp (disch := omega) only [wrapI])
  all_goals first | omega | exact app_row1 (row := fun i => (lmpO n F i).row) (by assumption) (by decide) | exact app_row1 (row := fun i => (solS n F i).row) (by assumption) (by decide) | trace_state
end Go.Proofs.YtpmmabaecldmkaaGreat
