/- Floats as whole numbers of least parts: their order, and what is exact. -/
import Derived.Test.YtdjckabogdohcaaGreatSlabB
import Derived.Test.YtdjckabogdohcaaGreatFltOrd
namespace Go.Proofs.YtdjckabogdohcaaGreat
open Go.RowKit Ev Ieee
set_option linter.unusedVariables false
set_option linter.unusedSimpArgs false
namespace Flt
theorem log2_shl (n k : Nat) (h : n ≠ 0) : (n <<< k).log2 = n.log2 + k := by
  induction k with
  | zero => simp
  | succ k ih =>
    have e : n <<< (k + 1) = 2 * (n <<< k) := by rw [Nat.shiftLeft_eq, Nat.shiftLeft_eq, Nat.pow_succ, ← Nat.mul_assoc, Nat.mul_comm]
    have h' : n <<< k ≠ 0 := by rw [Nat.shiftLeft_eq]; exact Nat.mul_ne_zero h (by have := Nat.two_pow_pos k; omega)
    rw [e, Nat.log2_two_mul h', ih]; omega
theorem cut_shift (neg : Bool) (n drop k : Nat) (hn : n ≠ 0) : Toward.even.cut neg (n <<< k) (drop + k) = Toward.even.cut neg n drop := by
  have hl := log2_shl n k hn
  unfold Toward.cut
  have hg : min (drop + k) ((n <<< k).log2 + 2) = min drop (n.log2 + 2) + k := by omega
  simp only [hg]
  generalize min drop (n.log2 + 2) = g
  have e : 1 <<< (g + k) = (1 <<< g) * 2 ^ k := by simp [Nat.shiftLeft_eq, Nat.pow_add]
  rw [e, Nat.shiftLeft_eq n k, Nat.mul_div_mul_right _ _ (Nat.two_pow_pos k), Nat.mul_mod_mul_right]
  have p := Nat.two_pow_pos k
  generalize 1 <<< g = G
  have c1 : (G * 2 ^ k < 2 * (n % G * 2 ^ k)) = (G < 2 * (n % G)) := by rw [← Nat.mul_assoc]; exact propext (Nat.mul_lt_mul_right p)
  have c2 : (G * 2 ^ k == 2 * (n % G * 2 ^ k)) = (G == 2 * (n % G)) := by
    rw [← Nat.mul_assoc]
    rw [Bool.eq_iff_iff, beq_iff_eq, beq_iff_eq]
    exact ⟨fun h => Nat.eq_of_mul_eq_mul_right p h, fun h => congrArg (· * 2 ^ k) h⟩
  simp only [c1, c2]

theorem near_shift (f : Format) (neg : Bool) (m k : Nat) (place : Int) : f.nearest neg (m <<< k) place = f.nearest neg m (place + k) := by
  rcases Nat.eq_zero_or_pos m with rfl | h0
  · simp [Format.nearest]
  have hn : m ≠ 0 := by omega
  have hs : m <<< k ≠ 0 := by rw [Nat.shiftLeft_eq]; exact Nat.mul_ne_zero hn (by have := Nat.two_pow_pos k; omega)
  have hl := log2_shl m k hn
  unfold Format.nearest
  rw [if_neg hn, if_neg hs, hl]
  have e : place + ((m.log2 + k : Nat) : Int) - f.fractionBits = place + (k : Int) + (m.log2 : Int) - f.fractionBits := by omega
  rw [e]
  generalize max (place + (k : Int) + (m.log2 : Int) - f.fractionBits) f.leastPlace = last
  have hc : Toward.even.cut neg ((m <<< k) <<< (place - last).toNat) (last - place).toNat = Toward.even.cut neg (m <<< (place + k - last).toNat) (last - (place + k)).toNat := by
    rw [← Nat.shiftLeft_add]
    by_cases h1 : last ≤ place
    · rw [show (last - place).toNat = 0 by omega, show (last - (place + k)).toNat = 0 by omega, show k + (place - last).toNat = (place + k - last).toNat by omega]
    · by_cases h2 : last ≤ place + k
      · rw [show (place - last).toNat = 0 by omega, show (last - (place + k)).toNat = 0 by omega]
        have : m <<< (k + 0) = (m <<< (place + k - last).toNat) <<< (last - place).toNat := by rw [← Nat.shiftLeft_add]; congr 1; omega
        rw [this]
        have h3 := cut_shift neg (m <<< (place + k - last).toNat) 0 (last - place).toNat (by rw [Nat.shiftLeft_eq]; exact Nat.mul_ne_zero hn (by have := Nat.two_pow_pos (place + k - last).toNat; omega))
        rw [Nat.zero_add] at h3
        exact h3
      · rw [show (place - last).toNat = 0 by omega, show (place + k - last).toNat = 0 by omega]
        have h3 := cut_shift neg m (last - (place + k)).toNat k hn
        rw [show (last - (place + k)).toNat + k = (last - place).toNat by omega] at h3
        exact h3
  simp only [hc]
theorem read_word (s : Bool) (r : Nat) (h : r < 2047 * 4503599627370496) : double.read (double.word s r) = if r < 4503599627370496 then .number s r (-1074) else .number s (4503599627370496 + r % 4503599627370496) (-1074 + (r / 4503599627370496 - 1 : Nat)) := by
  have w : double.signWeight = 9223372036854775808 := by decide +kernel
  have b : double.binade = 4503599627370496 := by decide +kernel
  have f : double.infRung = 2047 * 4503599627370496 := by decide +kernel
  have l : double.leastPlace = -1074 := by decide +kernel
  unfold Format.read Format.word
  rw [w, b, f, l]
  have e1 : ((if s = true then 9223372036854775808 + r else r) / 9223372036854775808 % 2 == 1) = s := by cases s <;> simp <;> omega
  have e2 : (if s = true then 9223372036854775808 + r else r) % 9223372036854775808 = r := by cases s <;> simp <;> omega
  simp only [e1, e2]
  split
  · rfl
  all_goals first | rfl | (rw [if_pos h])

theorem kept_le (neg : Bool) (m : Nat) (i last : Int) (hm : m ≠ 0) (hl : i + m.log2 - 52 ≤ last) : Toward.even.cut neg (m <<< (i - last).toNat) (last - i).toNat ≤ 9007199254740992 := by
  have h1 := log2_shl m (i - last).toNat hm
  generalize hn : m <<< (i - last).toNat = n at *
  have h2 : n < 2 ^ (n.log2 + 1) := Nat.lt_log2_self
  unfold Toward.cut
  have hg : n.log2 + 1 ≤ 53 + min (last - i).toNat (n.log2 + 2) := by omega
  generalize min (last - i).toNat (n.log2 + 2) = g at hg
  have h3 : n < 2 ^ g * 9007199254740992 := by
    refine Nat.lt_of_lt_of_le h2 ?_
    rw [show (9007199254740992 : Nat) = 2 ^ 53 from rfl, ← Nat.pow_add]
    exact Nat.pow_le_pow_right (by omega) (by omega)
  have h4 : n / 1 <<< g < 9007199254740992 := by
    rw [Nat.shiftLeft_eq, Nat.one_mul]; exact Nat.div_lt_of_lt_mul h3
  have h5 : ∀ b : Bool, b.toNat ≤ 1 := fun b => by cases b <;> decide
  simp only
  exact Nat.le_trans (Nat.add_le_add_left (h5 _) _) (by omega)

theorem nearest_eq (neg : Bool) (m : Nat) (i : Int) (hm : m ≠ 0) : double.nearest neg m i = double.word neg (min ((max (i + m.log2 - 52) (-1074) + 1074).toNat * 4503599627370496 + Toward.even.cut neg (m <<< (i - max (i + m.log2 - 52) (-1074)).toNat) (max (i + m.log2 - 52) (-1074) - i).toNat) (2047 * 4503599627370496)) := by
  have b : double.binade = 4503599627370496 := by decide +kernel
  have f : double.infRung = 2047 * 4503599627370496 := by decide +kernel
  have l : double.leastPlace = -1074 := by decide +kernel
  unfold Format.nearest
  rw [if_neg hm, b, f, l]
  simp only [Int.sub_neg]
  rfl

theorem read_finite (s : Bool) (m : Nat) (i : Int) (h : i + m.log2 ≤ 1000) : ∃ m' p, double.read (double.nearest s m i) = .number s m' p := by
  by_cases hm : m = 0
  · subst hm
    have : double.nearest s 0 i = double.word s 0 := by simp [Format.nearest]
    rw [this, read_word s 0 (by omega), if_pos (by omega)]
    exact ⟨_, _, rfl⟩
  rw [nearest_eq s m i hm]
  have hk := kept_le s m i (max (i + m.log2 - 52) (-1074)) hm (by omega)
  generalize Toward.even.cut s (m <<< (i - max (i + m.log2 - 52) (-1074)).toNat) (max (i + m.log2 - 52) (-1074) - i).toNat = kept at hk
  have hlast : (max (i + m.log2 - 52) (-1074) + 1074).toNat ≤ 2022 := by omega
  generalize (max (i + m.log2 - 52) (-1074) + 1074).toNat = q at hlast
  have hr : q * 4503599627370496 + kept < 2047 * 4503599627370496 := by omega
  rw [Nat.min_eq_left (by omega), read_word s _ hr]
  split <;> exact ⟨_, _, rfl⟩

/-- What a word can bear is written without loss. -/
theorem read_exact (s : Bool) (m : Nat) (i : Int) (hm : m < 9007199254740992) (h0 : -1074 ≤ i) (h1 : i ≤ 900) : ∃ d p, double.read (double.nearest s m i) = .number s (m <<< d) p ∧ p + (d : Int) = i := by
  by_cases h : m = 0
  · subst h
    have : double.nearest s 0 i = double.word s 0 := by simp [Format.nearest]
    rw [this, read_word s 0 (by omega), if_pos (by omega)]
    exact ⟨(i + 1074).toNat, -1074, by simp, by omega⟩
  have hl : m.log2 ≤ 52 := by
    have := (Nat.log2_lt h (k := 53)).2 hm
    omega
  rw [nearest_eq s m i h]
  have hk := kept_le s m i (max (i + m.log2 - 52) (-1074)) h (by omega)
  obtain ⟨last, hlast⟩ : ∃ last, last = max (i + m.log2 - 52) (-1074) := ⟨_, rfl⟩
  rw [← hlast] at hk ⊢
  have z : (last - i).toNat = 0 := by omega
  rw [z] at hk ⊢
  have hc : Toward.even.cut s (m <<< (i - last).toNat) 0 = m <<< (i - last).toNat := by
    unfold Toward.cut
    simp [Nat.mod_one]
  rw [hc] at hk ⊢
  have hsl := log2_shl m (i - last).toNat h
  have hnz : m <<< (i - last).toNat ≠ 0 := by rw [Nat.shiftLeft_eq]; exact Nat.mul_ne_zero h (by have := Nat.two_pow_pos (i - last).toNat; omega)
  have hlt : m <<< (i - last).toNat < 9007199254740992 := by
    have h2 : m <<< (i - last).toNat < 2 ^ ((m <<< (i - last).toNat).log2 + 1) := Nat.lt_log2_self
    refine Nat.lt_of_lt_of_le h2 ?_
    rw [show (9007199254740992 : Nat) = 2 ^ 53 from rfl]
    exact Nat.pow_le_pow_right (by omega) (by omega)
  have hge : last ≠ -1074 → 4503599627370496 ≤ m <<< (i - last).toNat := fun hne => by
    have h2 := Nat.log2_self_le hnz
    refine Nat.le_trans ?_ h2
    rw [show (4503599627370496 : Nat) = 2 ^ 52 from rfl]
    exact Nat.pow_le_pow_right (by omega) (by omega)
  refine ⟨(i - last).toNat, last, ?_, by omega⟩
  generalize m <<< (i - last).toNat = n at *
  have hq : (last + 1074).toNat ≤ 1974 := by omega
  rw [Nat.min_eq_left (by omega), read_word s _ (by omega)]
  by_cases hL : last = -1074
  · rw [hL]
    simp only [show ((-1074 : Int) + 1074).toNat = 0 from rfl, Nat.zero_mul, Nat.zero_add]
    split
    · rfl
    · congr 1
      · omega
      · have : n / 4503599627370496 = 1 := by omega
        rw [this]; rfl
  · have hge' := hge hL
    rw [if_neg (by omega)]
    have hq1 : 1 ≤ (last + 1074).toNat := by omega
    congr 1
    · omega
    · have : ((last + 1074).toNat * 4503599627370496 + n) / 4503599627370496 = (last + 1074).toNat + 1 := by omega
      rw [this]; omega
theorem fop_add_comm (x y : Nat) : fop .add x y = fop .add y x := by
  show ((double.read x).sum (double.read y)).map double.write = ((double.read y).sum (double.read x)).map double.write
  have : ∀ d e : Datum, d.sum e = e.sum d := by
    intro d e
    cases d <;> cases e <;> simp only [Datum.sum]
    case number.number s m i t n j => rw [Int.min_comm i j, Int.add_comm, Bool.and_comm]
    case infinity.infinity s t =>
      by_cases h : s = t
      · subst h; rfl
      · rw [if_neg h, if_neg (Ne.symm h)]
  rw [this]
theorem fop_mul_comm (x y : Nat) : fop .mul x y = fop .mul y x := by
  show ((double.read x).product (double.read y)).map double.write = ((double.read y).product (double.read x)).map double.write
  have : ∀ d e : Datum, d.product e = e.product d := by
    intro d e
    cases d <;> cases e <;> simp only [Datum.product]
    case number.number s m i t n j => rw [Bool.xor_comm s t, Nat.mul_comm, Int.add_comm]
    case infinity.infinity s t => rw [Bool.xor_comm]
  rw [this]
theorem F_add_comm (x y : Nat) : F .add x y = F .add y x := by unfold F; rw [fop_add_comm]
theorem F_mul_comm (x y : Nat) : F .mul x y = F .mul y x := by unfold F; rw [fop_mul_comm]
/-- A number that is near stands for a small number. -/
def Small (x : Nat) : Prop := ∃ s m i, double.read x = .number s m i ∧ m < 9007199254740992 ∧ -1074 ≤ i ∧ i ≤ 900 ∧ i + m.log2 ≤ 40
theorem Small.notN {x : Nat} (h : Small x) : isN x = false := by
  obtain ⟨s, m, i, e, _⟩ := h
  unfold isN; rw [e]; rfl
theorem cn_notN {x : Nat} (h : isN x = false) : cn x = x := by unfold cn; rw [if_neg (by rw [h]; exact Bool.false_ne_true)]
theorem read_form {x : Nat} {s : Bool} {m : Nat} {i : Int} (h : double.read x = .number s m i) : m < 9007199254740992 ∧ -1074 ≤ i ∧ (i ≠ -1074 → 4503599627370496 ≤ m) ∧ i ≤ 900 + 2000 := by
  have w : double.signWeight = 9223372036854775808 := by decide +kernel
  have b : double.binade = 4503599627370496 := by decide +kernel
  have f : double.infRung = 2047 * 4503599627370496 := by decide +kernel
  have l : double.leastPlace = -1074 := by decide +kernel
  unfold Format.read at h
  rw [w, b, f, l] at h
  simp only at h
  split at h
  · simp only [Datum.number.injEq] at h; obtain ⟨-, rfl, rfl⟩ := h; omega
  · split at h
    · simp only [Datum.number.injEq] at h; obtain ⟨-, rfl, rfl⟩ := h; omega
    · split at h <;> cases h
theorem read_1e6 : double.read 4696837146684686336 = .number false 8589934592000000 (-33) := by decide +kernel
theorem read_n1e6 : double.read 13920209183539462144 = .number true 8589934592000000 (-33) := by decide +kernel
theorem near_small {x : Nat} (h : nearB x = true) : Small x := by
  unfold nearB fgt feq flt at h
  simp only [Bool.and_eq_true, Bool.or_eq_true, beq_iff_eq] at h
  obtain ⟨h1, h2⟩ := h
  replace h1 : (double.read x).order (double.read 13920209183539462144) = some .gt ∨ (double.read x).order (double.read 13920209183539462144) = some .eq := h1
  replace h2 : (double.read x).order (double.read 4696837146684686336) = some .lt ∨ (double.read x).order (double.read 4696837146684686336) = some .eq := h2
  rw [read_n1e6] at h1
  rw [read_1e6] at h2
  cases hx : double.read x with
  | nan s t => rw [hx] at h1; simp [Datum.order] at h1
  | infinity s => rw [hx] at h1 h2; cases s <;> simp [Datum.order] at h1 h2
  | number s m i =>
    rw [hx] at h1 h2
    obtain ⟨g1, g2, g3, _⟩ := read_form hx
    refine ⟨s, m, i, hx, g1, g2, ?_⟩
    by_cases hi : i ≤ -33
    · refine ⟨by omega, ?_⟩
      have : m.log2 ≤ 52 := by
        by_cases h : m = 0
        · subst h; decide
        · have := (Nat.log2_lt h (k := 53)).2 g1
          omega
      omega
    · exfalso
      have hm := g3 (by omega)
      simp only [Datum.order, Option.some.injEq] at h1 h2
      rw [Int.compare_eq_gt, Int.compare_eq_eq] at h1
      rw [Int.compare_eq_lt, Int.compare_eq_eq] at h2
      have e : min i (-33) = -33 := by omega
      rw [e] at h1 h2
      have e2 : (i - -33).toNat = (i + 33).toNat := by omega
      have p := Nat.two_pow_pos ((i + 33).toNat - 1)
      have e3 : m <<< (i - -33).toNat = 2 * (m * 2 ^ ((i + 33).toNat - 1)) := by
        rw [e2, Nat.shiftLeft_eq]
        obtain ⟨k, hk⟩ : ∃ k, (i + 33).toNat = k + 1 := ⟨(i + 33).toNat - 1, by omega⟩
        rw [hk, Nat.pow_succ]
        simp [Nat.mul_comm, Nat.mul_left_comm]
      have e4 : 4503599627370496 * 1 ≤ m * 2 ^ ((i + 33).toNat - 1) := Nat.mul_le_mul hm p
      unfold signed at h1 h2
      rw [e3] at h1 h2
      generalize m * 2 ^ ((i + 33).toNat - 1) = M at *
      simp at h1 h2
      cases s <;> simp at h1 h2 <;> omega
theorem fine_small {a b c : Nat} (h : fineB a b c = true) : Small a ∧ Small b ∧ Small c := by
  unfold fineB at h
  simp only [Bool.and_eq_true] at h
  exact ⟨near_small h.1.1, near_small h.1.2, near_small h.2⟩
theorem Small.cn {x : Nat} (h : Small x) : cn x = x := cn_notN h.notN

theorem signed_add (s : Bool) (m a b : Nat) : signed s m (a + b) = signed s m a * (2 ^ b : Nat) := by
  unfold signed
  rw [Nat.shiftLeft_add, Nat.shiftLeft_eq (m <<< a)]
  cases s
  · simp
  · simp [Int.neg_mul]
theorem signed_abs (s : Bool) (m a : Nat) : (signed s m a).natAbs = m <<< a := by
  unfold signed
  cases s
  · exact Int.natAbs_natCast _
  · exact (Int.natAbs_neg _).trans (Int.natAbs_natCast _)
/-- The whole number of least parts that a float is. -/
def V (x : Nat) : Int := match double.read x with | .number s m i => signed s m (i + 1074).toNat | _ => 0
def Fin (x : Nat) : Prop := ∃ s m i, double.read x = .number s m i
theorem V_of {x : Nat} {s : Bool} {m : Nat} {i : Int} (h : double.read x = .number s m i) : V x = signed s m (i + 1074).toNat := by unfold V; rw [h]
theorem Small.fin {x : Nat} (h : Small x) : Fin x := by obtain ⟨s, m, i, e, _⟩ := h; exact ⟨s, m, i, e⟩
theorem Fin.notN {x : Nat} (h : Fin x) : isN x = false := by
  obtain ⟨s, m, i, e⟩ := h
  unfold isN; rw [e]; rfl
theorem compare_scale (a b : Int) {c : Int} (hc : 0 < c) : compare (a * c) (b * c) = compare a b := by
  rcases Int.lt_trichotomy a b with h | h | h
  · rw [Int.compare_eq_lt.2 h, Int.compare_eq_lt]; exact Int.mul_lt_mul_of_pos_right h hc
  · subst h; rw [Int.compare_eq_eq.2 rfl, Int.compare_eq_eq.2 rfl]
  · rw [Int.compare_eq_gt.2 h, Int.compare_eq_gt]; exact Int.mul_lt_mul_of_pos_right h hc
theorem order_V {x y : Nat} (hx : Fin x) (hy : Fin y) : double.order x y = some (compare (V x) (V y)) := by
  obtain ⟨s, m, i, ex⟩ := hx
  obtain ⟨t, n, j, ey⟩ := hy
  obtain ⟨_, i0, _⟩ := read_form ex
  obtain ⟨_, j0, _⟩ := read_form ey
  rw [V_of ex, V_of ey]
  unfold Format.order
  rw [ex, ey]
  simp only [Datum.order, Option.some.injEq]
  generalize hb : min i j = b
  rw [show (i + 1074).toNat = (i - b).toNat + (b + 1074).toNat by omega, show (j + 1074).toNat = (j - b).toNat + (b + 1074).toNat by omega, signed_add, signed_add]
  exact (compare_scale _ _ (by have := Nat.two_pow_pos (b + 1074).toNat; omega)).symm
theorem feq_V {x y : Nat} (hx : Fin x) (hy : Fin y) : feq x y = decide (V x = V y) := by
  have e : FloatKind.f64.format.order x y = some (compare (V x) (V y)) := order_V hx hy
  unfold feq; rw [e]
  rcases Int.lt_trichotomy (V x) (V y) with h | h | h
  · rw [Int.compare_eq_lt.2 h, decide_eq_false (by omega)]; rfl
  · rw [Int.compare_eq_eq.2 h, decide_eq_true h]; rfl
  · rw [Int.compare_eq_gt.2 h, decide_eq_false (by omega)]; rfl
theorem flt_V {x y : Nat} (hx : Fin x) (hy : Fin y) : flt x y = decide (V x < V y) := by
  have e : FloatKind.f64.format.order x y = some (compare (V x) (V y)) := order_V hx hy
  unfold flt; rw [e]
  rcases Int.lt_trichotomy (V x) (V y) with h | h | h
  · rw [Int.compare_eq_lt.2 h, decide_eq_true h]; rfl
  · rw [Int.compare_eq_eq.2 h, decide_eq_false (by omega)]; rfl
  · rw [Int.compare_eq_gt.2 h, decide_eq_false (by omega)]; rfl
theorem F_some {op : BinOp} {x y r : Nat} (h : fop op x y = some r) (hr : isN r = false) : F op x y = r := by
  unfold F; rw [h]; exact cn_notN hr
/-- What is written of a number that a word can bear. -/
theorem nearest_V (s : Bool) {m : Nat} {i : Int} (hm : m < 9007199254740992) (h0 : -1074 ≤ i) (h1 : i ≤ 900) : Fin (double.nearest s m i) ∧ V (double.nearest s m i) = signed s m (i + 1074).toNat := by
  obtain ⟨d, p, e, hp⟩ := read_exact s m i hm h0 h1
  refine ⟨⟨_, _, _, e⟩, ?_⟩
  obtain ⟨_, p0, _⟩ := read_form e
  rw [V_of e]
  unfold signed
  rw [← Nat.shiftLeft_add, show d + (p + 1074).toNat = (i + 1074).toNat by omega]
/-- A small number: its parts are few enough. -/
def Low (x : Nat) : Prop := ∃ s m i, double.read x = .number s m i ∧ i ≤ 900
theorem Low.fin {x : Nat} (h : Low x) : Fin x := by obtain ⟨s, m, i, e, _⟩ := h; exact ⟨s, m, i, e⟩
theorem Small.low {x : Nat} (h : Small x) : Low x := by obtain ⟨s, m, i, e, _, _, h1, _⟩ := h; exact ⟨s, m, i, e, h1⟩
theorem exact_low (s : Bool) {m : Nat} {i : Int} (hm : m < 9007199254740992) (h0 : -1074 ≤ i) (h1 : i ≤ 900) : Low (double.nearest s m i) := by
  obtain ⟨d, p, e, hp⟩ := read_exact s m i hm h0 h1
  exact ⟨_, _, _, e, by omega⟩
theorem mul_one {x : Nat} (h : Low x) : Low (F .mul 4607182418800017408 x) ∧ V (F .mul 4607182418800017408 x) = V x := by
  obtain ⟨s, m, i, e, hi⟩ := h
  obtain ⟨hm, i0, _⟩ := read_form e
  have r1 : double.read 4607182418800017408 = .number false 4503599627370496 (-52) := by decide +kernel
  have ef : fop .mul 4607182418800017408 x = some (double.nearest s m i) := by
    show ((double.read _).product (double.read x)).map double.write = _
    rw [r1, e]
    simp only [Datum.product, Option.map_some, Format.write, Bool.false_xor]
    rw [show 4503599627370496 * m = m <<< 52 by rw [Nat.shiftLeft_eq, Nat.mul_comm], near_shift, show -52 + i + ((52 : Nat) : Int) = i by omega]
  obtain ⟨hf, hv⟩ := nearest_V s hm i0 hi
  rw [F_some ef hf.notN]
  exact ⟨exact_low s hm i0 hi, by rw [hv, V_of e]⟩
theorem signed_not (s : Bool) (m k : Nat) : signed (!s) m k = - signed s m k := by cases s <;> simp [signed]
theorem mul_neg {x : Nat} (h : Low x) : Low (F .mul 13830554455654793216 x) ∧ V (F .mul 13830554455654793216 x) = - V x := by
  obtain ⟨s, m, i, e, hi⟩ := h
  obtain ⟨hm, i0, _⟩ := read_form e
  have r1 : double.read 13830554455654793216 = .number true 4503599627370496 (-52) := by decide +kernel
  have ef : fop .mul 13830554455654793216 x = some (double.nearest (!s) m i) := by
    show ((double.read _).product (double.read x)).map double.write = _
    rw [r1, e]
    simp only [Datum.product, Option.map_some, Format.write, Bool.true_xor]
    rw [show 4503599627370496 * m = m <<< 52 by rw [Nat.shiftLeft_eq, Nat.mul_comm], near_shift, show -52 + i + ((52 : Nat) : Int) = i by omega]
  obtain ⟨hf, hv⟩ := nearest_V (!s) hm i0 hi
  rw [F_some ef hf.notN]
  exact ⟨exact_low (!s) hm i0 hi, by rw [hv, V_of e, signed_not]⟩
/-- Nought, of whichever sign. -/
def Zr (x : Nat) : Prop := x = 0 ∨ x = 9223372036854775808
theorem Zr.read {x : Nat} (h : Zr x) : ∃ s, double.read x = .number s 0 (-1074) := by
  rcases h with rfl | rfl
  · exact ⟨false, by decide +kernel⟩
  · exact ⟨true, by decide +kernel⟩
theorem Zr.low {x : Nat} (h : Zr x) : Low x := by obtain ⟨s, e⟩ := h.read; exact ⟨_, _, _, e, by decide⟩
theorem zr_word (s : Bool) : Zr (double.word s 0) := by
  have w : double.signWeight = 9223372036854775808 := by decide +kernel
  unfold Format.word Zr; rw [w]; cases s <;> simp
theorem near_0 (s : Bool) (i : Int) : double.nearest s 0 i = double.word s 0 := by simp [Format.nearest]
theorem Zr.notN {x : Nat} (h : Zr x) : isN x = false := h.low.fin.notN
theorem mul_zero {z x : Nat} (hz : Zr z) (h : Low x) : Zr (F .mul z x) := by
  obtain ⟨s, m, i, e, hi⟩ := h
  obtain ⟨t, ez⟩ := hz.read
  have ef : fop .mul z x = some (double.word (t ^^ s) 0) := by
    show ((double.read _).product (double.read x)).map double.write = _
    rw [ez, e]
    simp only [Datum.product, Option.map_some, Format.write, Nat.zero_mul, near_0]
  rw [F_some ef (zr_word _).notN]
  exact zr_word _
theorem signed_0 (s : Bool) (k : Nat) : signed s 0 k = 0 := by unfold signed; cases s <;> simp
theorem add_zero {x z : Nat} (h : Low x) (hz : Zr z) : Low (F .add x z) ∧ V (F .add x z) = V x := by
  obtain ⟨s, m, i, e, hi⟩ := h
  obtain ⟨hm, i0, _⟩ := read_form e
  obtain ⟨t, ez⟩ := hz.read
  have ef : fop .add x z = some (double.nearest (if m = 0 then s && t else s) m i) := by
    show ((double.read x).sum (double.read z)).map double.write = _
    rw [ez, e]
    simp only [Datum.sum, Option.map_some, Format.write, Option.some.injEq]
    rw [show min i (-1074) = -1074 by omega, signed_0, Int.add_zero, show (i - -1074).toNat = (i + 1074).toNat by omega, signed_abs, near_shift, show (-1074 : Int) + ((i + 1074).toNat : Nat) = i by omega]
    congr 1
    have p := Nat.two_pow_pos (i + 1074).toNat
    by_cases h0 : m = 0
    · subst h0; rw [signed_0, if_pos rfl, if_pos rfl]
    · have pm : 0 < m <<< (i + 1074).toNat := by rw [Nat.shiftLeft_eq]; exact Nat.mul_pos (by omega) p
      have hab := signed_abs s m (i + 1074).toNat
      have hne : signed s m (i + 1074).toNat ≠ 0 := by omega
      rw [if_neg h0, if_neg hne]
      cases s
      · exact decide_eq_false (by show ¬ ((m <<< (i + 1074).toNat : Nat) : Int) < 0; omega)
      · exact decide_eq_true (by show -((m <<< (i + 1074).toNat : Nat) : Int) < 0; omega)
  obtain ⟨hf, hv⟩ := nearest_V (if m = 0 then s && t else s) hm i0 hi
  rw [F_some ef hf.notN]
  refine ⟨exact_low _ hm i0 hi, ?_⟩
  rw [hv, V_of e]
  by_cases h0 : m = 0
  · subst h0; rw [signed_0, signed_0]
  · rw [if_neg h0]
theorem zero_add {x z : Nat} (h : Low x) (hz : Zr z) : Low (F .add z x) ∧ V (F .add z x) = V x := by
  rw [F_add_comm]; exact add_zero h hz
theorem zero_zero {x z : Nat} (h : Zr x) (hz : Zr z) : Zr (F .add x z) := by
  obtain ⟨s, e⟩ := h.read
  obtain ⟨t, ez⟩ := hz.read
  have ef : fop .add x z = some (double.word (s && t) 0) := by
    show ((double.read x).sum (double.read z)).map double.write = _
    rw [ez, e]
    simp only [Datum.sum, Option.map_some, Format.write, signed_0]
    simp [near_0]
  rw [F_some ef (zr_word _).notN]
  exact zr_word _
end Flt
end Go.Proofs.YtdjckabogdohcaaGreat
