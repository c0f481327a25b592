/- Floats as whole numbers of least parts: their order, and what is exact. -/
import Derived.Test.YtphdjmaebdmdmaaGreatDoorScnA
namespace Go.Proofs.YtphdjmaebdmdmaaGreatDoor
open Go.RowKit Ev Ieee
set_option linter.unusedVariables false
set_option linter.unusedSimpArgs false
namespace Flt
theorem log2_shl (n k : Nat) (h : n ≠ 0) : (n <<< k).log2 = n.log2 + k := by
  induction k with
  | zero => simp
  | succ k ih =>
    have e : n <<< (k + 1) = 2 * (n <<< k) := by rw [Nat.shiftLeft_eq, Nat.shiftLeft_eq, Nat.pow_succ, ← Nat.mul_assoc, Nat.mul_comm]
    have h' : n <<< k ≠ 0 := by rw [Nat.shiftLeft_eq]; exact Nat.mul_ne_zero h (by have := Nat.two_pow_pos k; omega)
    rw [e, Nat.log2_two_mul h', ih]; omega
theorem cut_shift (neg : Bool) (n drop k : Nat) (hn : n ≠ 0) : Toward.even.cut neg (n <<< k) (drop + k) = Toward.even.cut neg n drop := by
  have hl := log2_shl n k hn
  unfold Toward.cut
  have hg : min (drop + k) ((n <<< k).log2 + 2) = min drop (n.log2 + 2) + k := by omega
  simp only [hg]
  generalize min drop (n.log2 + 2) = g
  have e : 1 <<< (g + k) = (1 <<< g) * 2 ^ k := by simp [Nat.shiftLeft_eq, Nat.pow_add]
  rw [e, Nat.shiftLeft_eq n k, Nat.mul_div_mul_right _ _ (Nat.two_pow_pos k), Nat.mul_mod_mul_right]
  have p := Nat.two_pow_pos k
  generalize 1 <<< g = G
  have c1 : (G * 2 ^ k < 2 * (n % G * 2 ^ k)) = (G < 2 * (n % G)) := by rw [← Nat.mul_assoc]; exact propext (Nat.mul_lt_mul_right p)
  have c2 : (G * 2 ^ k == 2 * (n % G * 2 ^ k)) = (G == 2 * (n % G)) := by
    rw [← Nat.mul_assoc]
    rw [Bool.eq_iff_iff, beq_iff_eq, beq_iff_eq]
    exact ⟨fun h => Nat.eq_of_mul_eq_mul_right p h, fun h => congrArg (· * 2 ^ k) h⟩
  simp only [c1, c2]

theorem near_shift (f : Format) (neg : Bool) (m k : Nat) (place : Int) : f.nearest neg (m <<< k) place = f.nearest neg m (place + k) := by
  rcases Nat.eq_zero_or_pos m with rfl | h0
  · simp [Format.nearest]
  have hn : m ≠ 0 := by omega
  have hs : m <<< k ≠ 0 := by rw [Nat.shiftLeft_eq]; exact Nat.mul_ne_zero hn (by have := Nat.two_pow_pos k; omega)
  have hl := log2_shl m k hn
  unfold Format.nearest
  rw [if_neg hn, if_neg hs, hl]
  have e : place + ((m.log2 + k : Nat) : Int) - f.fractionBits = place + (k : Int) + (m.log2 : Int) - f.fractionBits := by omega
  rw [e]
  generalize max (place + (k : Int) + (m.log2 : Int) - f.fractionBits) f.leastPlace = last
  have hc : Toward.even.cut neg ((m <<< k) <<< (place - last).toNat) (last - place).toNat = Toward.even.cut neg (m <<< (place + k - last).toNat) (last - (place + k)).toNat := by
    rw [← Nat.shiftLeft_add]
    by_cases h1 : last ≤ place
    · rw [show (last - place).toNat = 0 by omega, show (last - (place + k)).toNat = 0 by omega, show k + (place - last).toNat = (place + k - last).toNat by omega]
    · by_cases h2 : last ≤ place + k
      · rw [show (place - last).toNat = 0 by omega, show (last - (place + k)).toNat = 0 by omega]
        have : m <<< (k + 0) = (m <<< (place + k - last).toNat) <<< (last - place).toNat := by rw [← Nat.shiftLeft_add]; congr 1; omega
        rw [this]
        have h3 := cut_shift neg (m <<< (place + k - last).toNat) 0 (last - place).toNat (by rw [Nat.shiftLeft_eq]; exact Nat.mul_ne_zero hn (by have := Nat.two_pow_pos (place + k - last).toNat; omega))
        rw [Nat.zero_add] at h3
        exact h3
      · rw [show (place - last).toNat = 0 by omega, show (place + k - last).toNat = 0 by omega]
        have h3 := cut_shift neg m (last - (place + k)).toNat k hn
        rw [show (last - (place + k)).toNat + k = (last - place).toNat by omega] at h3
        exact h3
  simp only [hc]
theorem read_word (s : Bool) (r : Nat) (h : r < 2047 * 4503599627370496) : double.read (double.word s r) = if r < 4503599627370496 then .number s r (-1074) else .number s (4503599627370496 + r % 4503599627370496) (-1074 + (r / 4503599627370496 - 1 : Nat)) := by
  have w : double.signWeight = 9223372036854775808 := by decide +kernel
  have b : double.binade = 4503599627370496 := by decide +kernel
  have f : double.infRung = 2047 * 4503599627370496 := by decide +kernel
  have l : double.leastPlace = -1074 := by decide +kernel
  unfold Format.read Format.word
  rw [w, b, f, l]
  have e1 : ((if s = true then 9223372036854775808 + r else r) / 9223372036854775808 % 2 == 1) = s := by cases s <;> simp <;> omega
  have e2 : (if s = true then 9223372036854775808 + r else r) % 9223372036854775808 = r := by cases s <;> simp <;> omega
  simp only [e1, e2]
  split
  · rfl
  all_goals first | rfl | (rw [if_pos h])

theorem kept_le (neg : Bool) (m : Nat) (i last : Int) (hm : m ≠ 0) (hl : i + m.log2 - 52 ≤ last) : Toward.even.cut neg (m <<< (i - last).toNat) (last - i).toNat ≤ 9007199254740992 := by
  have h1 := log2_shl m (i - last).toNat hm
  generalize hn : m <<< (i - last).toNat = n at *
  have h2 : n < 2 ^ (n.log2 + 1) := Nat.lt_log2_self
  unfold Toward.cut
  have hg : n.log2 + 1 ≤ 53 + min (last - i).toNat (n.log2 + 2) := by omega
  generalize min (last - i).toNat (n.log2 + 2) = g at hg
  have h3 : n < 2 ^ g * 9007199254740992 := by
    refine Nat.lt_of_lt_of_le h2 ?_
    rw [show (9007199254740992 : Nat) = 2 ^ 53 from rfl, ← Nat.pow_add]
    exact Nat.pow_le_pow_right (by omega) (by omega)
  have h4 : n / 1 <<< g < 9007199254740992 := by
    rw [Nat.shiftLeft_eq, Nat.one_mul]; exact Nat.div_lt_of_lt_mul h3
  have h5 : ∀ b : Bool, b.toNat ≤ 1 := fun b => by cases b <;> decide
  simp only
  exact Nat.le_trans (Nat.add_le_add_left (h5 _) _) (by omega)

theorem nearest_eq (neg : Bool) (m : Nat) (i : Int) (hm : m ≠ 0) : double.nearest neg m i = double.word neg (min ((max (i + m.log2 - 52) (-1074) + 1074).toNat * 4503599627370496 + Toward.even.cut neg (m <<< (i - max (i + m.log2 - 52) (-1074)).toNat) (max (i + m.log2 - 52) (-1074) - i).toNat) (2047 * 4503599627370496)) := by
  have b : double.binade = 4503599627370496 := by decide +kernel
  have f : double.infRung = 2047 * 4503599627370496 := by decide +kernel
  have l : double.leastPlace = -1074 := by decide +kernel
  unfold Format.nearest
  rw [if_neg hm, b, f, l]
  simp only [Int.sub_neg]
  rfl

theorem read_finite (s : Bool) (m : Nat) (i : Int) (h : i + m.log2 ≤ 1000) : ∃ m' p, double.read (double.nearest s m i) = .number s m' p := by
  by_cases hm : m = 0
  · subst hm
    have : double.nearest s 0 i = double.word s 0 := by simp [Format.nearest]
    rw [this, read_word s 0 (by omega), if_pos (by omega)]
    exact ⟨_, _, rfl⟩
  rw [nearest_eq s m i hm]
  have hk := kept_le s m i (max (i + m.log2 - 52) (-1074)) hm (by omega)
  generalize Toward.even.cut s (m <<< (i - max (i + m.log2 - 52) (-1074)).toNat) (max (i + m.log2 - 52) (-1074) - i).toNat = kept at hk
  have hlast : (max (i + m.log2 - 52) (-1074) + 1074).toNat ≤ 2022 := by omega
  generalize (max (i + m.log2 - 52) (-1074) + 1074).toNat = q at hlast
  have hr : q * 4503599627370496 + kept < 2047 * 4503599627370496 := by omega
  rw [Nat.min_eq_left (by omega), read_word s _ hr]
  split <;> exact ⟨_, _, rfl⟩

/-- What a word can bear is written without loss. -/
theorem read_exact (s : Bool) (m : Nat) (i : Int) (hm : m < 9007199254740992) (h0 : -1074 ≤ i) (h1 : i ≤ 900) : ∃ d p, double.read (double.nearest s m i) = .number s (m <<< d) p ∧ p + (d : Int) = i := by
  by_cases h : m = 0
  · subst h
    have : double.nearest s 0 i = double.word s 0 := by simp [Format.nearest]
    rw [this, read_word s 0 (by omega), if_pos (by omega)]
    exact ⟨(i + 1074).toNat, -1074, by simp, by omega⟩
  have hl : m.log2 ≤ 52 := by
    have := (Nat.log2_lt h (k := 53)).2 hm
    omega
  rw [nearest_eq s m i h]
  have hk := kept_le s m i (max (i + m.log2 - 52) (-1074)) h (by omega)
  obtain ⟨last, hlast⟩ : ∃ last, last = max (i + m.log2 - 52) (-1074) := ⟨_, rfl⟩
  rw [← hlast] at hk ⊢
  have z : (last - i).toNat = 0 := by omega
  rw [z] at hk ⊢
  have hc : Toward.even.cut s (m <<< (i - last).toNat) 0 = m <<< (i - last).toNat := by
    unfold Toward.cut
    simp [Nat.mod_one]
  rw [hc] at hk ⊢
  have hsl := log2_shl m (i - last).toNat h
  have hnz : m <<< (i - last).toNat ≠ 0 := by rw [Nat.shiftLeft_eq]; exact Nat.mul_ne_zero h (by have := Nat.two_pow_pos (i - last).toNat; omega)
  have hlt : m <<< (i - last).toNat < 9007199254740992 := by
    have h2 : m <<< (i - last).toNat < 2 ^ ((m <<< (i - last).toNat).log2 + 1) := Nat.lt_log2_self
    refine Nat.lt_of_lt_of_le h2 ?_
    rw [show (9007199254740992 : Nat) = 2 ^ 53 from rfl]
    exact Nat.pow_le_pow_right (by omega) (by omega)
  have hge : last ≠ -1074 → 4503599627370496 ≤ m <<< (i - last).toNat := fun hne => by
    have h2 := Nat.log2_self_le hnz
    refine Nat.le_trans ?_ h2
    rw [show (4503599627370496 : Nat) = 2 ^ 52 from rfl]
    exact Nat.pow_le_pow_right (by omega) (by omega)
  refine ⟨(i - last).toNat, last, ?_, by omega⟩
  generalize m <<< (i - last).toNat = n at *
  have hq : (last + 1074).toNat ≤ 1974 := by omega
  rw [Nat.min_eq_left (by omega), read_word s _ (by omega)]
  by_cases hL : last = -1074
  · rw [hL]
    simp only [show ((-1074 : Int) + 1074).toNat = 0 from rfl, Nat.zero_mul, Nat.zero_add]
    split
    · rfl
    · congr 1
      · omega
      · have : n / 4503599627370496 = 1 := by omega
        rw [this]; rfl
  · have hge' := hge hL
    rw [if_neg (by omega)]
    have hq1 : 1 ≤ (last + 1074).toNat := by omega
    congr 1
    · omega
    · have : ((last + 1074).toNat * 4503599627370496 + n) / 4503599627370496 = (last + 1074).toNat + 1 := by omega
      rw [this]; omega
theorem fop_add_comm (x y : Nat) : fop .add x y = fop .add y x := by
  show ((double.read x).sum (double.read y)).map double.write = ((double.read y).sum (double.read x)).map double.write
  have : ∀ d e : Datum, d.sum e = e.sum d := by
    intro d e
    cases d <;> cases e <;> simp only [Datum.sum]
    case number.number s m i t n j => rw [Int.min_comm i j, Int.add_comm, Bool.and_comm]
    case infinity.infinity s t =>
      by_cases h : s = t
      · subst h; rfl
      · rw [if_neg h, if_neg (Ne.symm h)]
  rw [this]
theorem fop_mul_comm (x y : Nat) : fop .mul x y = fop .mul y x := by
  show ((double.read x).product (double.read y)).map double.write = ((double.read y).product (double.read x)).map double.write
  have : ∀ d e : Datum, d.product e = e.product d := by
    intro d e
    cases d <;> cases e <;> simp only [Datum.product]
    case number.number s m i t n j => rw [Bool.xor_comm s t, Nat.mul_comm, Int.add_comm]
    case infinity.infinity s t => rw [Bool.xor_comm]
  rw [this]
theorem F_add_comm (x y : Nat) : F .add x y = F .add y x := by unfold F; rw [fop_add_comm]
theorem F_mul_comm (x y : Nat) : F .mul x y = F .mul y x := by unfold F; rw [fop_mul_comm]
/-- A number that is near stands for a small number. -/
def Small (x : Nat) : Prop := ∃ s m i, double.read x = .number s m i ∧ m < 9007199254740992 ∧ -1074 ≤ i ∧ i ≤ 900 ∧ i + m.log2 ≤ 40
theorem Small.notN {x : Nat} (h : Small x) : isN x = false := by
  obtain ⟨s, m, i, e, _⟩ := h
  unfold isN; rw [e]; rfl
theorem cn_notN {x : Nat} (h : isN x = false) : cn x = x := by unfold cn; rw [if_neg (by rw [h]; exact Bool.false_ne_true)]
theorem read_form {x : Nat} {s : Bool} {m : Nat} {i : Int} (h : double.read x = .number s m i) : m < 9007199254740992 ∧ -1074 ≤ i ∧ (i ≠ -1074 → 4503599627370496 ≤ m) ∧ i ≤ 900 + 2000 := by
  have w : double.signWeight = 9223372036854775808 := by decide +kernel
  have b : double.binade = 4503599627370496 := by decide +kernel
  have f : double.infRung = 2047 * 4503599627370496 := by decide +kernel
  have l : double.leastPlace = -1074 := by decide +kernel
  unfold Format.read at h
  rw [w, b, f, l] at h
  simp only at h
  split at h
  · simp only [Datum.number.injEq] at h; obtain ⟨-, rfl, rfl⟩ := h; omega
  · split at h
    · simp only [Datum.number.injEq] at h; obtain ⟨-, rfl, rfl⟩ := h; omega
    · split at h <;> cases h
theorem read_1e6 : double.read 4696837146684686336 = .number false 8589934592000000 (-33) := by decide +kernel
theorem read_n1e6 : double.read 13920209183539462144 = .number true 8589934592000000 (-33) := by decide +kernel
theorem near_small {x : Nat} (h : nearB x = true) : Small x := by
  unfold nearB fgt feq flt at h
  simp only [Bool.and_eq_true, Bool.or_eq_true, beq_iff_eq] at h
  obtain ⟨h1, h2⟩ := h
  replace h1 : (double.read x).order (double.read 13920209183539462144) = some .gt ∨ (double.read x).order (double.read 13920209183539462144) = some .eq := h1
  replace h2 : (double.read x).order (double.read 4696837146684686336) = some .lt ∨ (double.read x).order (double.read 4696837146684686336) = some .eq := h2
  rw [read_n1e6] at h1
  rw [read_1e6] at h2
  cases hx : double.read x with
  | nan s t => rw [hx] at h1; simp [Datum.order] at h1
  | infinity s => rw [hx] at h1 h2; cases s <;> simp [Datum.order] at h1 h2
  | number s m i =>
    rw [hx] at h1 h2
    obtain ⟨g1, g2, g3, _⟩ := read_form hx
    refine ⟨s, m, i, hx, g1, g2, ?_⟩
    by_cases hi : i ≤ -33
    · refine ⟨by omega, ?_⟩
      have : m.log2 ≤ 52 := by
        by_cases h : m = 0
        · subst h; decide
        · have := (Nat.log2_lt h (k := 53)).2 g1
          omega
      omega
    · exfalso
      have hm := g3 (by omega)
      simp only [Datum.order, Option.some.injEq] at h1 h2
      rw [Int.compare_eq_gt, Int.compare_eq_eq] at h1
      rw [Int.compare_eq_lt, Int.compare_eq_eq] at h2
      have e : min i (-33) = -33 := by omega
      rw [e] at h1 h2
      have e2 : (i - -33).toNat = (i + 33).toNat := by omega
      have p := Nat.two_pow_pos ((i + 33).toNat - 1)
      have e3 : m <<< (i - -33).toNat = 2 * (m * 2 ^ ((i + 33).toNat - 1)) := by
        rw [e2, Nat.shiftLeft_eq]
        obtain ⟨k, hk⟩ : ∃ k, (i + 33).toNat = k + 1 := ⟨(i + 33).toNat - 1, by omega⟩
        rw [hk, Nat.pow_succ]
        simp [Nat.mul_comm, Nat.mul_left_comm]
      have e4 : 4503599627370496 * 1 ≤ m * 2 ^ ((i + 33).toNat - 1) := Nat.mul_le_mul hm p
      unfold signed at h1 h2
      rw [e3] at h1 h2
      generalize m * 2 ^ ((i + 33).toNat - 1) = M at *
      simp at h1 h2
      cases s <;> simp at h1 h2 <;> omega
theorem fine_small {a b c : Nat} (h : fineB a b c = true) : Small a ∧ Small b ∧ Small c := by
  unfold fineB at h
  simp only [Bool.and_eq_true] at h
  exact ⟨near_small h.1.1, near_small h.1.2, near_small h.2⟩
theorem Small.cn {x : Nat} (h : Small x) : cn x = x := cn_notN h.notN

theorem signed_add (s : Bool) (m a b : Nat) : signed s m (a + b) = signed s m a * (2 ^ b : Nat) := by
  unfold signed
  rw [Nat.shiftLeft_add, Nat.shiftLeft_eq (m <<< a)]
  cases s
  · simp
  · simp [Int.neg_mul]
theorem signed_abs (s : Bool) (m a : Nat) : (signed s m a).natAbs = m <<< a := by
  unfold signed
  cases s
  · exact Int.natAbs_natCast _
  · exact (Int.natAbs_neg _).trans (Int.natAbs_natCast _)
/-- The whole number of least parts that a float is. -/
def V (x : Nat) : Int := match double.read x with | .number s m i => signed s m (i + 1074).toNat | _ => 0
def Fin (x : Nat) : Prop := ∃ s m i, double.read x = .number s m i
theorem V_of {x : Nat} {s : Bool} {m : Nat} {i : Int} (h : double.read x = .number s m i) : V x = signed s m (i + 1074).toNat := by unfold V; rw [h]
theorem Small.fin {x : Nat} (h : Small x) : Fin x := by obtain ⟨s, m, i, e, _⟩ := h; exact ⟨s, m, i, e⟩
theorem Fin.notN {x : Nat} (h : Fin x) : isN x = false := by
  obtain ⟨s, m, i, e⟩ := h
  unfold isN; rw [e]; rfl
theorem compare_scale (a b : Int) {c : Int} (hc : 0 < c) : compare (a * c) (b * c) = compare a b := by
  rcases Int.lt_trichotomy a b with h | h | h
  · rw [Int.compare_eq_lt.2 h, Int.compare_eq_lt]; exact Int.mul_lt_mul_of_pos_right h hc
  · subst h; rw [Int.compare_eq_eq.2 rfl, Int.compare_eq_eq.2 rfl]
  · rw [Int.compare_eq_gt.2 h, Int.compare_eq_gt]; exact Int.mul_lt_mul_of_pos_right h hc
theorem order_V {x y : Nat} (hx : Fin x) (hy : Fin y) : double.order x y = some (compare (V x) (V y)) := by
  obtain ⟨s, m, i, ex⟩ := hx
  obtain ⟨t, n, j, ey⟩ := hy
  obtain ⟨_, i0, _⟩ := read_form ex
  obtain ⟨_, j0, _⟩ := read_form ey
  rw [V_of ex, V_of ey]
  unfold Format.order
  rw [ex, ey]
  simp only [Datum.order, Option.some.injEq]
  generalize hb : min i j = b
  rw [show (i + 1074).toNat = (i - b).toNat + (b + 1074).toNat by omega, show (j + 1074).toNat = (j - b).toNat + (b + 1074).toNat by omega, signed_add, signed_add]
  exact (compare_scale _ _ (by have := Nat.two_pow_pos (b + 1074).toNat; omega)).symm
theorem feq_V {x y : Nat} (hx : Fin x) (hy : Fin y) : feq x y = decide (V x = V y) := by
  have e : FloatKind.f64.format.order x y = some (compare (V x) (V y)) := order_V hx hy
  unfold feq; rw [e]
  rcases Int.lt_trichotomy (V x) (V y) with h | h | h
  · rw [Int.compare_eq_lt.2 h, decide_eq_false (by omega)]; rfl
  · rw [Int.compare_eq_eq.2 h, decide_eq_true h]; rfl
  · rw [Int.compare_eq_gt.2 h, decide_eq_false (by omega)]; rfl
theorem flt_V {x y : Nat} (hx : Fin x) (hy : Fin y) : flt x y = decide (V x < V y) := by
  have e : FloatKind.f64.format.order x y = some (compare (V x) (V y)) := order_V hx hy
  unfold flt; rw [e]
  rcases Int.lt_trichotomy (V x) (V y) with h | h | h
  · rw [Int.compare_eq_lt.2 h, decide_eq_true h]; rfl
  · rw [Int.compare_eq_eq.2 h, decide_eq_false (by omega)]; rfl
  · rw [Int.compare_eq_gt.2 h, decide_eq_false (by omega)]; rfl
theorem F_some {op : BinOp} {x y r : Nat} (h : fop op x y = some r) (hr : isN r = false) : F op x y = r := by
  unfold F; rw [h]; exact cn_notN hr
/-- What is written of a number that a word can bear. -/
theorem nearest_V (s : Bool) {m : Nat} {i : Int} (hm : m < 9007199254740992) (h0 : -1074 ≤ i) (h1 : i ≤ 900) : Fin (double.nearest s m i) ∧ V (double.nearest s m i) = signed s m (i + 1074).toNat := by
  obtain ⟨d, p, e, hp⟩ := read_exact s m i hm h0 h1
  refine ⟨⟨_, _, _, e⟩, ?_⟩
  obtain ⟨_, p0, _⟩ := read_form e
  rw [V_of e]
  unfold signed
  rw [← Nat.shiftLeft_add, show d + (p + 1074).toNat = (i + 1074).toNat by omega]
/-- A small number: its parts are few enough. -/
def Low (x : Nat) : Prop := ∃ s m i, double.read x = .number s m i ∧ i ≤ 900
theorem Low.fin {x : Nat} (h : Low x) : Fin x := by obtain ⟨s, m, i, e, _⟩ := h; exact ⟨s, m, i, e⟩
theorem Small.low {x : Nat} (h : Small x) : Low x := by obtain ⟨s, m, i, e, _, _, h1, _⟩ := h; exact ⟨s, m, i, e, h1⟩
theorem exact_low (s : Bool) {m : Nat} {i : Int} (hm : m < 9007199254740992) (h0 : -1074 ≤ i) (h1 : i ≤ 900) : Low (double.nearest s m i) := by
  obtain ⟨d, p, e, hp⟩ := read_exact s m i hm h0 h1
  exact ⟨_, _, _, e, by omega⟩
theorem mul_one {x : Nat} (h : Low x) : Low (F .mul 4607182418800017408 x) ∧ V (F .mul 4607182418800017408 x) = V x := by
  obtain ⟨s, m, i, e, hi⟩ := h
  obtain ⟨hm, i0, _⟩ := read_form e
  have r1 : double.read 4607182418800017408 = .number false 4503599627370496 (-52) := by decide +kernel
  have ef : fop .mul 4607182418800017408 x = some (double.nearest s m i) := by
    show ((double.read _).product (double.read x)).map double.write = _
    rw [r1, e]
    simp only [Datum.product, Option.map_some, Format.write, Bool.false_xor]
    rw [show 4503599627370496 * m = m <<< 52 by rw [Nat.shiftLeft_eq, Nat.mul_comm], near_shift, show -52 + i + ((52 : Nat) : Int) = i by omega]
  obtain ⟨hf, hv⟩ := nearest_V s hm i0 hi
  rw [F_some ef hf.notN]
  exact ⟨exact_low s hm i0 hi, by rw [hv, V_of e]⟩
theorem signed_not (s : Bool) (m k : Nat) : signed (!s) m k = - signed s m k := by cases s <;> simp [signed]
theorem mul_neg {x : Nat} (h : Low x) : Low (F .mul 13830554455654793216 x) ∧ V (F .mul 13830554455654793216 x) = - V x := by
  obtain ⟨s, m, i, e, hi⟩ := h
  obtain ⟨hm, i0, _⟩ := read_form e
  have r1 : double.read 13830554455654793216 = .number true 4503599627370496 (-52) := by decide +kernel
  have ef : fop .mul 13830554455654793216 x = some (double.nearest (!s) m i) := by
    show ((double.read _).product (double.read x)).map double.write = _
    rw [r1, e]
    simp only [Datum.product, Option.map_some, Format.write, Bool.true_xor]
    rw [show 4503599627370496 * m = m <<< 52 by rw [Nat.shiftLeft_eq, Nat.mul_comm], near_shift, show -52 + i + ((52 : Nat) : Int) = i by omega]
  obtain ⟨hf, hv⟩ := nearest_V (!s) hm i0 hi
  rw [F_some ef hf.notN]
  exact ⟨exact_low (!s) hm i0 hi, by rw [hv, V_of e, signed_not]⟩
/-- Nought, of whichever sign. -/
def Zr (x : Nat) : Prop := x = 0 ∨ x = 9223372036854775808
theorem Zr.read {x : Nat} (h : Zr x) : ∃ s, double.read x = .number s 0 (-1074) := by
  rcases h with rfl | rfl
  · exact ⟨false, by decide +kernel⟩
  · exact ⟨true, by decide +kernel⟩
theorem Zr.low {x : Nat} (h : Zr x) : Low x := by obtain ⟨s, e⟩ := h.read; exact ⟨_, _, _, e, by decide⟩
theorem zr_word (s : Bool) : Zr (double.word s 0) := by
  have w : double.signWeight = 9223372036854775808 := by decide +kernel
  unfold Format.word Zr; rw [w]; cases s <;> simp
theorem near_0 (s : Bool) (i : Int) : double.nearest s 0 i = double.word s 0 := by simp [Format.nearest]
theorem Zr.notN {x : Nat} (h : Zr x) : isN x = false := h.low.fin.notN
theorem mul_zero {z x : Nat} (hz : Zr z) (h : Low x) : Zr (F .mul z x) := by
  obtain ⟨s, m, i, e, hi⟩ := h
  obtain ⟨t, ez⟩ := hz.read
  have ef : fop .mul z x = some (double.word (t ^^ s) 0) := by
    show ((double.read _).product (double.read x)).map double.write = _
    rw [ez, e]
    simp only [Datum.product, Option.map_some, Format.write, Nat.zero_mul, near_0]
  rw [F_some ef (zr_word _).notN]
  exact zr_word _
theorem signed_0 (s : Bool) (k : Nat) : signed s 0 k = 0 := by unfold signed; cases s <;> simp
theorem add_zero {x z : Nat} (h : Low x) (hz : Zr z) : Low (F .add x z) ∧ V (F .add x z) = V x := by
  obtain ⟨s, m, i, e, hi⟩ := h
  obtain ⟨hm, i0, _⟩ := read_form e
  obtain ⟨t, ez⟩ := hz.read
  have ef : fop .add x z = some (double.nearest (if m = 0 then s && t else s) m i) := by
    show ((double.read x).sum (double.read z)).map double.write = _
    rw [ez, e]
    simp only [Datum.sum, Option.map_some, Format.write, Option.some.injEq]
    rw [show min i (-1074) = -1074 by omega, signed_0, Int.add_zero, show (i - -1074).toNat = (i + 1074).toNat by omega, signed_abs, near_shift, show (-1074 : Int) + ((i + 1074).toNat : Nat) = i by omega]
    congr 1
    have p := Nat.two_pow_pos (i + 1074).toNat
    by_cases h0 : m = 0
    · subst h0; rw [signed_0, if_pos rfl, if_pos rfl]
    · have pm : 0 < m <<< (i + 1074).toNat := by rw [Nat.shiftLeft_eq]; exact Nat.mul_pos (by omega) p
      have hab := signed_abs s m (i + 1074).toNat
      have hne : signed s m (i + 1074).toNat ≠ 0 := by omega
      rw [if_neg h0, if_neg hne]
      cases s
      · exact decide_eq_false (by show ¬ ((m <<< (i + 1074).toNat : Nat) : Int) < 0; omega)
      · exact decide_eq_true (by show -((m <<< (i + 1074).toNat : Nat) : Int) < 0; omega)
  obtain ⟨hf, hv⟩ := nearest_V (if m = 0 then s && t else s) hm i0 hi
  rw [F_some ef hf.notN]
  refine ⟨exact_low _ hm i0 hi, ?_⟩
  rw [hv, V_of e]
  by_cases h0 : m = 0
  · subst h0; rw [signed_0, signed_0]
  · rw [if_neg h0]
theorem zero_add {x z : Nat} (h : Low x) (hz : Zr z) : Low (F .add z x) ∧ V (F .add z x) = V x := by
  rw [F_add_comm]; exact add_zero h hz
theorem zero_zero {x z : Nat} (h : Zr x) (hz : Zr z) : Zr (F .add x z) := by
  obtain ⟨s, e⟩ := h.read
  obtain ⟨t, ez⟩ := hz.read
  have ef : fop .add x z = some (double.word (s && t) 0) := by
    show ((double.read x).sum (double.read z)).map double.write = _
    rw [ez, e]
    simp only [Datum.sum, Option.map_some, Format.write, signed_0]
    simp [near_0]
  rw [F_some ef (zr_word _).notN]
  exact zr_word _
end Flt
end Go.Proofs.YtphdjmaebdmdmaaGreatDoor
/- Rounding goes up with what is rounded: sums, differences and quotients of floats. -/
namespace Go.Proofs.YtphdjmaebdmdmaaGreatDoor
open Go.RowKit Ev Ieee
set_option linter.unusedVariables false
set_option linter.unusedSimpArgs false
namespace Flt
def rhe (n g : Nat) : Nat := n / g + if g < 2 * (n % g) ∨ (2 * (n % g) = g ∧ n / g % 2 = 1) then 1 else 0
theorem rhe_mono {m n g : Nat} (_ : 0 < g) (h : m ≤ n) : rhe m g ≤ rhe n g := by
  unfold rhe
  have h1 : m / g ≤ n / g := Nat.div_le_div_right h
  have e1 := Nat.div_add_mod m g
  have e2 := Nat.div_add_mod n g
  rcases Nat.lt_or_eq_of_le h1 with h2 | h2
  · split <;> split <;> omega
  · rw [h2] at e1 ⊢
    have : m % g ≤ n % g := by omega
    split <;> split <;> omega
theorem rhe_scale {n g c : Nat} (hc : 0 < c) : rhe (n * c) (g * c) = rhe n g := by
  unfold rhe
  rw [Nat.mul_div_mul_right _ _ hc, Nat.mul_mod_mul_right]
  have e1 : g * c < 2 * (n % g * c) ↔ g < 2 * (n % g) := by
    rw [← Nat.mul_assoc]; exact Nat.mul_lt_mul_right hc
  have e2 : 2 * (n % g * c) = g * c ↔ 2 * (n % g) = g := by
    rw [← Nat.mul_assoc]; exact Nat.mul_left_inj (by omega)
  simp only [e1, e2]
theorem rhe_le {n g n' g' : Nat} (hg : 0 < g) (hg' : 0 < g') (h : n * g' ≤ n' * g) : rhe n g ≤ rhe n' g' := by
  rw [← rhe_scale (n := n) (g := g) hg', ← rhe_scale (n := n') (g := g') hg, Nat.mul_comm g' g]
  exact rhe_mono (Nat.mul_pos hg hg') h
theorem rhe_eq {n g n' g' : Nat} (hg : 0 < g) (hg' : 0 < g') (h : n * g' = n' * g) : rhe n g = rhe n' g' :=
  Nat.le_antisymm (rhe_le hg hg' (Nat.le_of_eq h)) (rhe_le hg' hg (Nat.le_of_eq h.symm))
theorem rhe_upper {n g k : Nat} (hg : 0 < g) (h : n ≤ k * g) : rhe n g ≤ k := by
  have := rhe_mono hg h
  have e : rhe (k * g) g = k := by
    unfold rhe
    rw [Nat.mul_div_cancel _ hg, Nat.mul_mod_left]
    split <;> omega
  omega
theorem rhe_lower {n g k : Nat} (hg : 0 < g) (h : k * g ≤ n) : k ≤ rhe n g := by
  have := rhe_mono hg h
  have e : rhe (k * g) g = k := by
    unfold rhe
    rw [Nat.mul_div_cancel _ hg, Nat.mul_mod_left]
    split <;> omega
  omega
/-- A number with one digit for all that is left over is rounded as the number. -/
theorem rhe_sticky {X Y Z : Nat} (hY : 0 < Y) : rhe (2 * (X / Y) + (X % Y != 0).toNat) (2 * (2 * Z)) = rhe X (Y * (2 * Z)) := by
  obtain ⟨σ, hσ, hs, hs1⟩ : ∃ σ, (X % Y != 0).toNat = σ ∧ (σ = 0 ↔ X % Y = 0) ∧ σ ≤ 1 := by
    refine ⟨_, rfl, ?_⟩
    by_cases h : X % Y = 0
    · simp [h]
    · have : (X % Y != 0) = true := bne_iff_ne.2 h
      rw [this]; simp [h]
  rw [hσ]
  have hr : X % Y < Y := Nat.mod_lt _ hY
  have q1 : X / (Y * (2 * Z)) = X / Y / (2 * Z) := (Nat.div_div_eq_div_mul _ _ _).symm
  have q2 : X % (Y * (2 * Z)) = X % Y + Y * (X / Y % (2 * Z)) := Nat.mod_mul
  unfold rhe
  rw [q1, q2]
  generalize X / Y = q at *
  generalize X % Y = ρ at *
  have d0 : (2 * q + σ) / 2 = q := by omega
  have d1 : (2 * q + σ) / (2 * (2 * Z)) = q / (2 * Z) := by rw [← Nat.div_div_eq_div_mul, d0]
  have d2 : (2 * q + σ) % (2 * (2 * Z)) = 2 * (q % (2 * Z)) + σ := by rw [Nat.mod_mul, d0]; omega
  rw [d1, d2]
  generalize q % (2 * Z) = r
  generalize q / (2 * Z) = k
  have key : ∀ a b : Nat, a < b → Y * a + Y ≤ Y * b := fun a b h => by rw [← Nat.mul_succ]; exact Nat.mul_le_mul_left _ h
  have yz : Y * (2 * Z) = 2 * (Y * Z) := Nat.mul_left_comm _ _ _
  rw [yz]
  have e1 : 2 * (Y * Z) < 2 * (ρ + Y * r) ↔ 2 * (2 * Z) < 2 * (2 * r + σ) := by
    rcases Nat.lt_trichotomy Z r with h | h | h
    · have := key _ _ h; omega
    · subst h; omega
    · have := key _ _ h; omega
  have e2 : 2 * (ρ + Y * r) = 2 * (Y * Z) ↔ 2 * (2 * r + σ) = 2 * (2 * Z) := by
    rcases Nat.lt_trichotomy Z r with h | h | h
    · have := key _ _ h; omega
    · subst h; omega
    · have := key _ _ h; omega
  simp only [e1, e2]
theorem log_lt (n : Nat) : n < 2 ^ (n.log2 + 1) := Nat.lt_log2_self
theorem log_le {n : Nat} (h : n ≠ 0) : 2 ^ n.log2 ≤ n := Nat.log2_self_le h
/-- What the rounding does is this. -/
theorem cut_even (neg : Bool) (n drop : Nat) : Toward.even.cut neg n drop = rhe n (2 ^ drop) := by
  have key : Toward.even.cut neg n drop = rhe n (1 <<< min drop (n.log2 + 2)) := by
    unfold Toward.cut rhe
    simp only
    congr 1
    generalize 1 <<< min drop (n.log2 + 2) = g
    generalize n % g = r
    generalize n / g = k
    by_cases h1 : g < 2 * r
    · rw [if_pos (.inl h1), decide_eq_true h1]; rfl
    · rw [decide_eq_false h1, Bool.false_or]
      by_cases h2 : g = 2 * r ∧ k % 2 = 1
      · rw [if_pos (.inr ⟨h2.1.symm, h2.2⟩), show (g == 2 * r) = true from beq_iff_eq.2 h2.1, show (k % 2 == 1) = true from beq_iff_eq.2 h2.2]; rfl
      · rw [if_neg (by omega)]
        have : (g == 2 * r && k % 2 == 1) = false := by
          rw [Bool.eq_false_iff]; intro h; apply h2
          rw [Bool.and_eq_true, beq_iff_eq, beq_iff_eq] at h; exact h
        rw [this]; rfl
  rw [key, Nat.one_shiftLeft]
  by_cases h : drop ≤ n.log2 + 2
  · rw [Nat.min_eq_left h]
  · rw [Nat.min_eq_right (by omega)]
    have z : ∀ k, n.log2 + 2 ≤ k → rhe n (2 ^ k) = 0 := fun k hk => by
      have h1 := log_lt n
      have h2 : 2 ^ (n.log2 + 1 + 1) ≤ 2 ^ k := Nat.pow_le_pow_right (by omega) hk
      rw [Nat.pow_succ] at h2
      have h3 := Nat.two_pow_pos (n.log2 + 1)
      unfold rhe
      rw [Nat.div_eq_of_lt (by omega), Nat.mod_eq_of_lt (by omega)]
      split <;> omega
    rw [z _ (Nat.le_refl _), z _ (by omega)]
/-- P/D is in the t-th pair of binades (of B rungs each). -/
def Rng (B P D t : Nat) : Prop := (t = 0 ∧ P < 2 * B * D) ∨ (0 < t ∧ B * 2 ^ t * D ≤ P ∧ P < 2 * B * 2 ^ t * D)
def rung (B I P D t : Nat) : Nat := min (t * B + rhe P (D * 2 ^ t)) I
theorem Rng.upper {B P D t : Nat} (h : Rng B P D t) : P ≤ 2 * B * (D * 2 ^ t) := by
  rcases h with ⟨rfl, h⟩ | ⟨_, _, h⟩
  · rw [Nat.pow_zero, Nat.mul_one]; omega
  · rw [Nat.mul_comm D, ← Nat.mul_assoc]; omega
theorem rung_mono {B I P D t P' D' t' : Nat} (hD : 0 < D) (hD' : 0 < D') (h : P * D' ≤ P' * D) (hr : Rng B P D t) (hr' : Rng B P' D' t') : rung B I P D t ≤ rung B I P' D' t' := by
  have p1 : 0 < D * 2 ^ t := Nat.mul_pos hD (Nat.two_pow_pos t)
  have p2 : 0 < D' * 2 ^ t' := Nat.mul_pos hD' (Nat.two_pow_pos t')
  have main : t * B + rhe P (D * 2 ^ t) ≤ t' * B + rhe P' (D' * 2 ^ t') := by
    rcases Nat.lt_trichotomy t t' with c | c | c
    · have u1 : rhe P (D * 2 ^ t) ≤ 2 * B := rhe_upper p1 hr.upper
      have u2 : B ≤ rhe P' (D' * 2 ^ t') := by
        rcases hr' with ⟨rfl, _⟩ | ⟨_, h2, _⟩
        · omega
        · refine rhe_lower p2 ?_
          rw [Nat.mul_comm D', ← Nat.mul_assoc]; exact h2
      have u3 : (t + 1) * B ≤ t' * B := Nat.mul_le_mul_right _ c
      rw [Nat.succ_mul] at u3
      omega
    · subst c
      have := rhe_le p1 p2 (n := P) (n' := P') (by rw [← Nat.mul_assoc, ← Nat.mul_assoc]; exact Nat.mul_le_mul_right _ h)
      omega
    · exfalso
      rcases hr with ⟨rfl, _⟩ | ⟨_, h2, _⟩
      · omega
      · have a1 : 2 * B * 2 ^ t' * D ≤ B * 2 ^ t * D := by
          refine Nat.mul_le_mul_right _ ?_
          rw [Nat.mul_comm 2 B, Nat.mul_assoc, ← Nat.pow_succ']
          exact Nat.mul_le_mul_left _ (Nat.pow_le_pow_right (by omega) c)
        have a2 : P' < 2 * B * 2 ^ t' * D' := by
          rcases hr' with ⟨rfl, h3⟩ | ⟨_, _, h3⟩
          · rw [Nat.pow_zero, Nat.mul_one]; exact h3
          · exact h3
        have a3 : P' * D < 2 * B * 2 ^ t' * D' * D := Nat.mul_lt_mul_of_pos_right a2 hD
        have a4 : 2 * B * 2 ^ t' * D * D' ≤ P * D' := Nat.mul_le_mul_right _ (Nat.le_trans a1 h2)
        rw [Nat.mul_right_comm] at a4
        omega
  unfold rung
  omega
/-- Numbers of that many digits are in that pair. -/
theorem rng_log {P D t : Nat} {Λ b : Nat} (h1 : 2 ^ Λ * D ≤ P * 2 ^ b) (h2 : P * 2 ^ b < 2 ^ (Λ + 1) * D) (ht : (t = 0 ∧ Λ ≤ 52 + b) ∨ (0 < t ∧ Λ = 52 + t + b)) : Rng (2 ^ 52) P D t := by
  have p := Nat.two_pow_pos b
  unfold Rng
  generalize hB : 2 ^ 52 = B
  have hB2 : 2 * B = 2 ^ (52 + 1) := by rw [Nat.pow_succ, hB, Nat.mul_comm]
  rcases ht with ⟨h0, hl⟩ | ⟨h0, hl⟩
  · refine .inl ⟨h0, ?_⟩
    have h3 : 2 ^ (Λ + 1) * D ≤ 2 ^ (52 + 1 + b) * D := Nat.mul_le_mul_right _ (Nat.pow_le_pow_right (by omega) (by omega))
    rw [Nat.pow_add 2 (52 + 1) b, Nat.mul_right_comm, ← hB2] at h3
    exact Nat.lt_of_mul_lt_mul_right (Nat.lt_of_lt_of_le h2 h3)
  · refine .inr ⟨h0, ?_, ?_⟩
    · rw [hl, Nat.pow_add 2 (52 + t) b, Nat.mul_right_comm, Nat.pow_add 2 52 t, hB] at h1
      exact Nat.le_of_mul_le_mul_right h1 p
    · rw [show Λ + 1 = 52 + 1 + t + b by omega, Nat.pow_add 2 (52 + 1 + t) b, Nat.mul_right_comm, Nat.pow_add 2 (52 + 1) t, ← hB2] at h2
      exact Nat.lt_of_mul_lt_mul_right h2

abbrev II : Nat := 2047 * 4503599627370496
theorem p52 : (2 : Nat) ^ 52 = 4503599627370496 := by decide
theorem rung_zero (B I D : Nat) (hB : 0 < B) (hD : 0 < D) : Rng B 0 D 0 ∧ rung B I 0 D 0 = 0 := by
  refine ⟨.inl ⟨rfl, Nat.mul_pos (Nat.mul_pos (by decide) hB) hD⟩, ?_⟩
  unfold rung rhe
  rw [Nat.zero_div, Nat.zero_mod, Nat.pow_zero, Nat.mul_one]
  rw [if_neg (by omega)]
  omega
/-- A whole number of parts is written as the rung of a ratio. -/
theorem nearest_form (neg : Bool) (mag : Nat) (place : Int) : ∃ t, Rng (2 ^ 52) (mag * 2 ^ (place + 1074).toNat) (2 ^ (-1074 - place).toNat) t ∧
    double.nearest neg mag place = double.word neg (rung (2 ^ 52) II (mag * 2 ^ (place + 1074).toNat) (2 ^ (-1074 - place).toNat) t) := by
  by_cases h0 : mag = 0
  · subst h0
    obtain ⟨r1, r2⟩ := rung_zero (2 ^ 52) II (2 ^ (-1074 - place).toNat) (Nat.two_pow_pos _) (Nat.two_pow_pos _)
    rw [Nat.zero_mul]
    exact ⟨0, r1, by rw [r2, near_0]⟩
  rw [nearest_eq neg mag place h0]
  have h1 := log_lt mag
  have h2 := log_le h0
  generalize mag.log2 = Λ at *
  generalize hlast : max (place + (Λ : Int) - 52) (-1074) = last
  generalize hP : (place + 1074).toNat = a
  generalize hQ : (-1074 - place).toNat = b
  refine ⟨(last + 1074).toNat, ?_, ?_⟩
  · refine rng_log (Λ := Λ + a) (b := b) ?_ ?_ (by omega)
    · rw [Nat.pow_add, Nat.mul_assoc, Nat.mul_assoc]
      exact Nat.mul_le_mul_right _ h2
    · rw [show Λ + a + 1 = Λ + 1 + a by omega, Nat.pow_add _ (Λ + 1), Nat.mul_assoc, Nat.mul_assoc]
      exact Nat.mul_lt_mul_of_pos_right h1 (Nat.mul_pos (Nat.two_pow_pos _) (Nat.two_pow_pos _))
  · rw [cut_even, Nat.shiftLeft_eq, ← p52]
    unfold rung
    congr 3
    refine rhe_eq (Nat.two_pow_pos _) (Nat.mul_pos (Nat.two_pow_pos _) (Nat.two_pow_pos _)) ?_
    rw [Nat.mul_assoc, Nat.mul_assoc, ← Nat.pow_add, ← Nat.pow_add, ← Nat.pow_add]
    congr 2
    omega
/-- A quotient is written as the rung of the ratio. -/
theorem quo_form {x y : Nat} {s t : Bool} {m n : Nat} {i j : Int} (hx : double.read x = .number s m i) (hy : double.read y = .number t n j) (hn : n ≠ 0) :
    ∃ τ, Rng (2 ^ 52) (m * 2 ^ (i - j + 1074).toNat) (n * 2 ^ (j - i - 1074).toNat) τ ∧ fop .quo x y = some (double.word (s ^^ t) (rung (2 ^ 52) II (m * 2 ^ (i - j + 1074).toNat) (n * 2 ^ (j - i - 1074).toNat) τ)) := by
  have hf : double.fractionBits + 2 = 54 := by decide +kernel
  have ef : fop .quo x y = some (double.nearest (s ^^ t) (2 * (m <<< (54 + n.log2 - m.log2) / n) + (m <<< (54 + n.log2 - m.log2) % n != 0).toNat) (i - j - (54 + n.log2 - m.log2 : Nat) - 1)) := by
    show ((double.read x).quotient (double.fractionBits + 2) (double.read y)).map double.write = _
    rw [hx, hy, hf]
    simp only [Datum.quotient]
    rw [if_neg hn]
    rfl
  rw [ef]
  have hn0 : 0 < n := by omega
  by_cases h0 : m = 0
  · subst h0
    obtain ⟨r1, r2⟩ := rung_zero (2 ^ 52) II (n * 2 ^ (j - i - 1074).toNat) (Nat.two_pow_pos _) (Nat.mul_pos hn0 (Nat.two_pow_pos _))
    rw [Nat.zero_mul]
    refine ⟨0, r1, ?_⟩
    rw [r2, Nat.zero_shiftLeft, Nat.zero_div, Nat.zero_mod]
    exact congrArg some (near_0 _ _)
  generalize hmore : 54 + n.log2 - m.log2 = more
  rw [Nat.shiftLeft_eq]
  have m1 := log_le h0
  have n1 := log_lt n
  generalize n.log2 = N at *
  generalize m.log2 = M at *
  generalize hX : m * 2 ^ more = X
  have hXl : 2 ^ 53 * n ≤ X := by
    have a1 : 2 ^ M * 2 ^ more ≤ X := by rw [← hX]; exact Nat.mul_le_mul_right _ m1
    have a2 : 2 ^ 53 * n ≤ 2 ^ 53 * 2 ^ (N + 1) := Nat.mul_le_mul_left _ (Nat.le_of_lt n1)
    have a3 : (2 : Nat) ^ 53 * 2 ^ (N + 1) ≤ 2 ^ M * 2 ^ more := by
      rw [← Nat.pow_add, ← Nat.pow_add]
      exact Nat.pow_le_pow_right (by omega) (by omega)
    exact Nat.le_trans a2 (Nat.le_trans a3 a1)
  obtain ⟨σ, hσ, hσ1⟩ : ∃ σ, (X % n != 0).toNat = σ ∧ σ ≤ 1 := ⟨_, rfl, by cases (X % n != 0) <;> decide⟩
  have hq : 2 ^ 53 ≤ X / n := (Nat.le_div_iff_mul_le hn0).2 hXl
  have hm0 : 2 * (X / n) + σ ≠ 0 := by have := Nat.two_pow_pos 53; omega
  have hmag : 2 ^ 54 ≤ 2 * (X / n) + σ := by have : (2 : Nat) ^ 54 = 2 ^ 53 * 2 := Nat.pow_succ .. ; omega
  have l1 := log_lt (2 * (X / n) + σ)
  have l2 := log_le hm0
  have hΛ : 54 ≤ (2 * (X / n) + σ).log2 := by
    have : 2 ^ 54 < 2 ^ ((2 * (X / n) + σ).log2 + 1) := Nat.lt_of_le_of_lt hmag l1
    have := (Nat.pow_lt_pow_iff_right (by decide)).1 this
    omega
  rw [nearest_eq _ _ _ (by rw [hσ]; exact hm0), hσ]
  generalize hΛ' : (2 * (X / n) + σ).log2 = Λ at *
  obtain ⟨K, rfl⟩ : ∃ K, Λ = K + 1 := ⟨Λ - 1, by omega⟩
  have k1 : 2 ^ K * n ≤ X := by
    refine (Nat.le_div_iff_mul_le hn0).1 ?_
    rw [Nat.pow_succ] at l2; omega
  have k2 : X < 2 ^ (K + 1) * n := by
    refine (Nat.div_lt_iff_lt_mul hn0).1 ?_
    rw [Nat.pow_succ 2 (K + 1)] at l1; omega
  generalize hlast : max (i - j - (more : Int) - 1 + ((K + 1 : Nat) : Int) - 52) (-1074) = last
  generalize hP : (i - j + 1074).toNat = a
  generalize hQ : (j - i - 1074).toNat = b
  refine ⟨(last + 1074).toNat, ?_, ?_⟩
  · refine rng_log (Λ := K + a) (b := more + b) ?_ ?_ (by omega)
    · have e1 : m * 2 ^ a * 2 ^ (more + b) = X * (2 ^ a * 2 ^ b) := by rw [← hX, Nat.pow_add]; simp only [Nat.mul_assoc, Nat.mul_left_comm, Nat.mul_comm]
      have e2 : 2 ^ (K + a) * (n * 2 ^ b) = 2 ^ K * n * (2 ^ a * 2 ^ b) := by rw [Nat.pow_add]; simp only [Nat.mul_assoc, Nat.mul_left_comm, Nat.mul_comm]
      rw [e1, e2]
      exact Nat.mul_le_mul_right _ k1
    · have e1 : m * 2 ^ a * 2 ^ (more + b) = X * (2 ^ a * 2 ^ b) := by rw [← hX, Nat.pow_add]; simp only [Nat.mul_assoc, Nat.mul_left_comm, Nat.mul_comm]
      have e2 : 2 ^ (K + a + 1) * (n * 2 ^ b) = 2 ^ (K + 1) * n * (2 ^ a * 2 ^ b) := by rw [show K + a + 1 = K + 1 + a by omega, Nat.pow_add]; simp only [Nat.mul_assoc, Nat.mul_left_comm, Nat.mul_comm]
      rw [e1, e2]
      exact Nat.mul_lt_mul_of_pos_right k2 (Nat.mul_pos (Nat.two_pow_pos _) (Nat.two_pow_pos _))
  · rw [cut_even, ← p52, show (i - j - (more : Int) - 1 - last).toNat = 0 by omega, Nat.shiftLeft_zero, ← hσ]
    obtain ⟨d, hd⟩ : ∃ d, (last - (i - j - (more : Int) - 1)).toNat = d + 2 := ⟨(last - (i - j - (more : Int) - 1)).toNat - 2, by omega⟩
    rw [hd, show (2 : Nat) ^ (d + 2) = 2 * (2 * 2 ^ d) by rw [Nat.pow_succ, Nat.pow_succ]; omega, rhe_sticky hn0]
    unfold rung
    congr 4
    refine rhe_eq (Nat.mul_pos hn0 (Nat.mul_pos (by decide) (Nat.two_pow_pos _))) (Nat.mul_pos (Nat.mul_pos hn0 (Nat.two_pow_pos _)) (Nat.two_pow_pos _)) ?_
    have e1 : X * (n * 2 ^ b * 2 ^ (last + 1074).toNat) = m * n * 2 ^ (more + b + (last + 1074).toNat) := by rw [← hX, Nat.pow_add, Nat.pow_add]; simp only [Nat.mul_assoc, Nat.mul_left_comm, Nat.mul_comm]
    have e2 : m * 2 ^ a * (n * (2 * 2 ^ d)) = m * n * 2 ^ (a + (d + 1)) := by rw [Nat.pow_add, Nat.pow_succ]; simp only [Nat.mul_assoc, Nat.mul_left_comm, Nat.mul_comm]
    rw [e1, e2]
    congr 2
    omega
end Flt
end Go.Proofs.YtphdjmaebdmdmaaGreatDoor
/- Floats in their order: a whole number for each; differences and quotients go up with what they are of. -/
namespace Go.Proofs.YtphdjmaebdmdmaaGreatDoor
open Go.RowKit Ev Ieee
set_option linter.unusedVariables false
set_option linter.unusedSimpArgs false
namespace Flt

def sg (s : Bool) (n : Nat) : Int := if s then -(n : Int) else n
/-- The place of a float in their order. -/
def key (x : Nat) : Int := sg (x / 9223372036854775808 % 2 == 1) (x % 9223372036854775808)
theorem key_word (s : Bool) {r : Nat} (h : r ≤ II) : key (double.word s r) = sg s r := by
  have w : double.signWeight = 9223372036854775808 := by decide +kernel
  unfold key Format.word
  rw [w]
  have h : r ≤ 9218868437227405312 := h
  have e1 : ((if s = true then 9223372036854775808 + r else r) / 9223372036854775808 % 2 == 1) = s := by cases s <;> simp <;> omega
  have e2 : (if s = true then 9223372036854775808 + r else r) % 9223372036854775808 = r := by cases s <;> simp <;> omega
  rw [e1, e2]
/-- How many parts the number on a rung has. -/
def Vr (r : Nat) : Nat := if r < 4503599627370496 then r else (4503599627370496 + r % 4503599627370496) * 2 ^ (r / 4503599627370496 - 1)
theorem Vr_succ (r : Nat) : Vr r < Vr (r + 1) := by
  unfold Vr
  by_cases h0 : r + 1 < 4503599627370496
  · rw [if_pos h0, if_pos (by omega)]; omega
  by_cases h1 : r < 4503599627370496
  · obtain rfl : r = 4503599627370495 := by omega
    rw [if_pos h1, if_neg h0]; decide
  rw [if_neg h0, if_neg h1]
  have hr := Nat.div_add_mod r 4503599627370496
  have hm := Nat.mod_lt r (show 0 < 4503599627370496 by decide)
  have hq : 1 ≤ r / 4503599627370496 := by omega
  generalize r / 4503599627370496 = q at *
  generalize r % 4503599627370496 = f at *
  obtain ⟨q, rfl⟩ : ∃ k, q = k + 1 := ⟨q - 1, by omega⟩
  subst hr
  have p := Nat.two_pow_pos q
  by_cases h2 : f + 1 < 4503599627370496
  · have d1 : (4503599627370496 * (q + 1) + f + 1) / 4503599627370496 = q + 1 := by omega
    have d2 : (4503599627370496 * (q + 1) + f + 1) % 4503599627370496 = f + 1 := by omega
    rw [d1, d2]
    exact Nat.mul_lt_mul_of_pos_right (by omega) p
  · have d1 : (4503599627370496 * (q + 1) + f + 1) / 4503599627370496 = q + 2 := by omega
    have d2 : (4503599627370496 * (q + 1) + f + 1) % 4503599627370496 = 0 := by omega
    rw [d1, d2, show q + 2 - 1 = q + 1 by omega, show q + 1 - 1 = q by omega, Nat.pow_succ]
    have e : (4503599627370496 + 0) * (2 ^ q * 2) = (2 * 4503599627370496) * 2 ^ q := by rw [Nat.add_zero, Nat.mul_comm (2 ^ q) 2, ← Nat.mul_assoc, Nat.mul_comm 2]
    rw [e]
    exact Nat.mul_lt_mul_of_pos_right (by omega) p
theorem Vr_lt {r r' : Nat} (h : r < r') : Vr r < Vr r' := by
  induction r' with
  | zero => omega
  | succ n ih =>
    rcases Nat.lt_or_eq_of_le (Nat.le_of_lt_succ h) with h' | h'
    · exact Nat.lt_trans (ih h') (Vr_succ n)
    · subst h'; exact Vr_succ _
theorem Vr_0 : Vr 0 = 0 := by unfold Vr; rfl
theorem Vr_cmp {r r' : Nat} : (Vr r < Vr r' ↔ r < r') ∧ (Vr r = Vr r' ↔ r = r') := by
  rcases Nat.lt_trichotomy r r' with h | h | h
  · have := Vr_lt h; omega
  · subst h; omega
  · have := Vr_lt h; omega
theorem sg_cmp (s t : Bool) (r r' : Nat) : (sg s (Vr r) < sg t (Vr r') ↔ sg s r < sg t r') ∧ (sg s (Vr r) = sg t (Vr r') ↔ sg s r = sg t r') := by
  have h1 := @Vr_cmp r r'
  have h2 := @Vr_cmp r' r
  have h3 := @Vr_cmp 0 r
  have h4 := @Vr_cmp 0 r'
  rw [Vr_0] at h3 h4
  unfold sg
  cases s <;> cases t <;> simp only [if_true, if_false, Bool.false_eq_true] <;> omega
/-- What a word stands for, by its sign and rung. -/
theorem read_sr (x : Nat) : ∃ s r, key x = sg s r ∧ (r < II → ∃ m i, double.read x = .number s m i ∧ V x = sg s (Vr r)) ∧ (r = II → double.read x = .infinity s) ∧ (II < r → isN x = true) := by
  have w : double.signWeight = 9223372036854775808 := by decide +kernel
  have b : double.binade = 4503599627370496 := by decide +kernel
  have f : double.infRung = 9218868437227405312 := by decide +kernel
  have l : double.leastPlace = -1074 := by decide +kernel
  have hII : II = 9218868437227405312 := by decide
  refine ⟨x / 9223372036854775808 % 2 == 1, x % 9223372036854775808, rfl, ?_, ?_, ?_⟩
  · intro h
    rw [hII] at h
    have e : double.read x = if x % 9223372036854775808 < 4503599627370496 then .number (x / 9223372036854775808 % 2 == 1) (x % 9223372036854775808) (-1074) else .number (x / 9223372036854775808 % 2 == 1) (4503599627370496 + x % 9223372036854775808 % 4503599627370496) (-1074 + (x % 9223372036854775808 / 4503599627370496 - 1 : Nat)) := by
      unfold Format.read
      rw [w, b, f, l]
      simp only
      split
      · rfl
      · first | rfl | (rw [if_pos h])
    generalize (x / 9223372036854775808 % 2 == 1) = s at *
    generalize x % 9223372036854775808 = r at *
    have hs : ∀ m k : Nat, signed s m k = sg s (m * 2 ^ k) := fun m k => by
      unfold signed sg; rw [Nat.shiftLeft_eq]
    by_cases h1 : r < 4503599627370496
    · rw [if_pos h1] at e
      refine ⟨_, _, e, ?_⟩
      rw [V_of e, hs]
      unfold Vr; rw [if_pos h1]
      simp
    · rw [if_neg h1] at e
      refine ⟨_, _, e, ?_⟩
      rw [V_of e, hs]
      unfold Vr; rw [if_neg h1]
      congr 3
      omega
  · intro h
    rw [hII] at h
    unfold Format.read
    rw [w, b, f, l]
    simp only
    rw [if_neg (by omega), if_neg (by omega), if_pos h]
  · intro h
    rw [hII] at h
    unfold isN Format.read
    rw [w, b, f, l]
    simp only
    rw [if_neg (by omega), if_neg (by omega), if_neg (by omega)]
    rfl
theorem order_key {x y : Nat} (hx : isN x = false) (hy : isN y = false) : double.order x y = some (compare (key x) (key y)) := by
  obtain ⟨s, r, kx, x1, x2, x3⟩ := read_sr x
  obtain ⟨t, r', ky, y1, y2, y3⟩ := read_sr y
  have cmp : ∀ a b c d : Int, ((a < b ↔ c < d) ∧ (a = b ↔ c = d)) → compare a b = compare c d := fun a b c d h => by
    rcases Int.lt_trichotomy a b with g | g | g
    · rw [Int.compare_eq_lt.2 g, Int.compare_eq_lt.2 (h.1.1 g)]
    · rw [Int.compare_eq_eq.2 g, Int.compare_eq_eq.2 (h.2.1 g)]
    · rw [Int.compare_eq_gt.2 g, Int.compare_eq_gt.2 (by omega)]
  have hII : II = 9218868437227405312 := by decide
  rcases Nat.lt_trichotomy r II with a | a | a
  · obtain ⟨m, i, ex, vx⟩ := x1 a
    rcases Nat.lt_trichotomy r' II with c | c | c
    · obtain ⟨n, j, ey, vy⟩ := y1 c
      rw [order_V ⟨_, _, _, ex⟩ ⟨_, _, _, ey⟩, vx, vy, kx, ky]
      exact congrArg some (cmp _ _ _ _ (sg_cmp s t r r'))
    · unfold Format.order
      rw [ex, y2 c, kx, ky]
      simp only [Datum.order, Option.some.injEq]
      unfold sg
      cases t <;> cases s <;> simp only [if_true, if_false, Bool.false_eq_true] <;> first | (refine (Int.compare_eq_lt.2 ?_).symm; omega) | (refine (Int.compare_eq_gt.2 ?_).symm; omega)
    · rw [y3 c] at hy; cases hy
  · rcases Nat.lt_trichotomy r' II with c | c | c
    · obtain ⟨n, j, ey, vy⟩ := y1 c
      unfold Format.order
      rw [ey, x2 a, kx, ky]
      simp only [Datum.order, Option.some.injEq]
      unfold sg
      cases s <;> cases t <;> simp only [if_true, if_false, Bool.false_eq_true] <;> first | (refine (Int.compare_eq_lt.2 ?_).symm; omega) | (refine (Int.compare_eq_gt.2 ?_).symm; omega)
    · unfold Format.order
      rw [y2 c, x2 a, kx, ky, a, c]
      simp only [Datum.order, Option.some.injEq]
      cases s <;> cases t <;> decide +kernel
    · rw [y3 c] at hy; cases hy
  · rw [x3 a] at hx; cases hx
theorem flt_key {x y : Nat} (hx : isN x = false) (hy : isN y = false) : flt x y = decide (key x < key y) := by
  have e : FloatKind.f64.format.order x y = some (compare (key x) (key y)) := order_key hx hy
  unfold flt; rw [e]
  rcases Int.lt_trichotomy (key x) (key y) with h | h | h
  · rw [Int.compare_eq_lt.2 h, decide_eq_true h]; rfl
  · rw [Int.compare_eq_eq.2 h, decide_eq_false (by omega)]; rfl
  · rw [Int.compare_eq_gt.2 h, decide_eq_false (by omega)]; rfl
theorem feq_key {x y : Nat} (hx : isN x = false) (hy : isN y = false) : feq x y = decide (key x = key y) := by
  have e : FloatKind.f64.format.order x y = some (compare (key x) (key y)) := order_key hx hy
  unfold feq; rw [e]
  rcases Int.lt_trichotomy (key x) (key y) with h | h | h
  · rw [Int.compare_eq_lt.2 h, decide_eq_false (by omega)]; rfl
  · rw [Int.compare_eq_eq.2 h, decide_eq_true h]; rfl
  · rw [Int.compare_eq_gt.2 h, decide_eq_false (by omega)]; rfl
theorem fgt_key {x y : Nat} (hx : isN x = false) (hy : isN y = false) : fgt x y = decide (key y < key x) := by
  rw [fgt_flt, flt_key hy hx]
/-- The keys of finite floats stand as their numbers. -/
theorem V_key {x y : Nat} (hx : Fin x) (hy : Fin y) : (V x < V y ↔ key x < key y) ∧ (V x = V y ↔ key x = key y) := by
  have a := order_V hx hy
  have b := order_key hx.notN hy.notN
  rw [a, Option.some.injEq] at b
  rcases Int.lt_trichotomy (V x) (V y) with h | h | h
  · rw [Int.compare_eq_lt.2 h] at b; have := Int.compare_eq_lt.1 b.symm; omega
  · rw [Int.compare_eq_eq.2 h] at b; have := Int.compare_eq_eq.1 b.symm; omega
  · rw [Int.compare_eq_gt.2 h] at b; have := Int.compare_eq_gt.1 b.symm; omega
theorem rung_le (B I P D t : Nat) : rung B I P D t ≤ I := by unfold rung; omega
theorem word_ok (s : Bool) {r : Nat} (h : r ≤ II) : isN (double.word s r) = false := Go.Proofs.YtphdjmaebdmdmaaGreatDoor.word_notN s r h
theorem rng_0 {B D t : Nat} (hB : 0 < B) (hD : 0 < D) (h : Rng B 0 D t) : rung B II 0 D t = 0 := by
  rcases h with ⟨rfl, _⟩ | ⟨_, h, _⟩
  · exact (rung_zero B II D hB hD).2
  · have := Nat.mul_pos (Nat.mul_pos hB (Nat.two_pow_pos t)) hD
    omega
/-- A difference: its sign, and its rung. -/
theorem sub_form {x y : Nat} (hx : Fin x) (hy : Fin y) : ∃ t, Rng (2 ^ 52) (V x - V y).natAbs 1 t ∧ isN (F .sub x y) = false ∧ key (F .sub x y) = sg (decide (V x < V y)) (rung (2 ^ 52) II (V x - V y).natAbs 1 t) := by
  obtain ⟨s, m, i, ex⟩ := hx
  obtain ⟨t, n, j, ey⟩ := hy
  obtain ⟨_, i0, _⟩ := read_form ex
  obtain ⟨_, j0, _⟩ := read_form ey
  have e0 : fop .sub x y = some (double.nearest (if signed s m (i - min i j).toNat + signed (!t) n (j - min i j).toNat = 0 then s && !t else decide (signed s m (i - min i j).toNat + signed (!t) n (j - min i j).toNat < 0)) (signed s m (i - min i j).toNat + signed (!t) n (j - min i j).toNat).natAbs (min i j)) := by
    show ((double.read x).sum (double.read y).opposite).map double.write = _
    rw [ex, ey]
    rfl
  have hd : (signed s m (i - min i j).toNat + signed (!t) n (j - min i j).toNat) * (2 ^ (min i j + 1074).toNat : Nat) = V x - V y := by
    rw [V_of ex, V_of ey, Int.add_mul, ← signed_add, ← signed_add, signed_not, show (i - min i j).toNat + (min i j + 1074).toNat = (i + 1074).toNat by omega, show (j - min i j).toNat + (min i j + 1074).toNat = (j + 1074).toNat by omega]
    omega
  have p : (0 : Int) < (2 ^ (min i j + 1074).toNat : Nat) := by have := Nat.two_pow_pos (min i j + 1074).toNat; omega
  generalize signed s m (i - min i j).toNat + signed (!t) n (j - min i j).toNat = d at *
  have hb : (-1074 - min i j).toNat = 0 := by omega
  generalize hneg : (if d = 0 then s && !t else decide (d < 0)) = neg at e0
  obtain ⟨τ, hr, hn⟩ := nearest_form neg d.natAbs (min i j)
  have hab : d.natAbs * 2 ^ (min i j + 1074).toNat = (V x - V y).natAbs := by
    rw [← hd, Int.natAbs_mul]; rfl
  rw [hb, Nat.pow_zero, hab] at hr hn
  rw [hn] at e0
  have hw := word_ok neg (rung_le (2 ^ 52) II (V x - V y).natAbs 1 τ)
  refine ⟨τ, hr, ?_, ?_⟩
  · rw [F_some e0 hw]; exact hw
  · rw [F_some e0 hw, key_word _ (rung_le _ _ _ _ _)]
    rcases Int.lt_trichotomy d 0 with g | g | g
    · have : V x < V y := by
        have := Int.mul_neg_of_neg_of_pos g p; omega
      rw [decide_eq_true this, ← hneg, if_neg (by omega), decide_eq_true g]
    · have h0 : V x - V y = 0 := by rw [← hd, g, Int.zero_mul]
      rw [h0] at hr ⊢
      have e : rung (2 ^ 52) II (Int.natAbs 0) 1 τ = 0 := rng_0 (Nat.two_pow_pos _) (by decide) hr
      rw [e]
      unfold sg
      split <;> split <;> rfl
    · have : ¬ V x < V y := by
        have := Int.mul_pos g p; omega
      rw [decide_eq_false this, ← hneg, if_neg (by omega), decide_eq_false (by omega)]
theorem sg_mono {a b : Int} {r r' : Nat} (hab : a ≤ b) (h1 : a.natAbs ≤ b.natAbs → r ≤ r') (h2 : b.natAbs ≤ a.natAbs → r' ≤ r) : sg (decide (a < 0)) r ≤ sg (decide (b < 0)) r' := by
  unfold sg
  by_cases ha : a < 0
  · by_cases hb : b < 0
    · rw [decide_eq_true ha, decide_eq_true hb, if_pos rfl, if_pos rfl]
      have := h2 (by omega); omega
    · rw [decide_eq_true ha, decide_eq_false hb, if_pos rfl, if_neg (by decide)]; omega
  · rw [decide_eq_false ha, decide_eq_false (show ¬ b < 0 by omega), if_neg (by decide), if_neg (by decide)]
    have := h1 (by omega); omega
/-- A difference goes up with what is taken from. -/
theorem sub_mono {x x' y : Nat} (hx : Fin x) (hx' : Fin x') (hy : Fin y) (h : key x ≤ key x') : isN (F .sub x y) = false ∧ isN (F .sub x' y) = false ∧ key (F .sub x y) ≤ key (F .sub x' y) := by
  obtain ⟨t, r1, n1, k1⟩ := sub_form hx hy
  obtain ⟨t', r2, n2, k2⟩ := sub_form hx' hy
  refine ⟨n1, n2, ?_⟩
  have hv := V_key hx hx'
  rw [k1, k2, show decide (V x < V y) = decide (V x - V y < 0) from decide_eq_decide.2 (by omega), show decide (V x' < V y) = decide (V x' - V y < 0) from decide_eq_decide.2 (by omega)]
  refine sg_mono (by omega) (fun g => ?_) (fun g => ?_)
  · exact rung_mono (by decide) (by decide) (by rw [Nat.mul_one, Nat.mul_one]; exact g) r1 r2
  · exact rung_mono (by decide) (by decide) (by rw [Nat.mul_one, Nat.mul_one]; exact g) r2 r1
/-- A quotient: its sign, and its rung. -/
theorem quo_key {x y : Nat} {s t : Bool} {m n : Nat} {i j : Int} (hx : double.read x = .number s m i) (hy : double.read y = .number t n j) (hn : n ≠ 0) :
    ∃ τ, Rng (2 ^ 52) (m * 2 ^ (i - j + 1074).toNat) (n * 2 ^ (j - i - 1074).toNat) τ ∧ isN (F .quo x y) = false ∧ key (F .quo x y) = sg (s ^^ t) (rung (2 ^ 52) II (m * 2 ^ (i - j + 1074).toNat) (n * 2 ^ (j - i - 1074).toNat) τ) := by
  obtain ⟨τ, r, e⟩ := quo_form hx hy hn
  have hw := word_ok (s ^^ t) (rung_le (2 ^ 52) II (m * 2 ^ (i - j + 1074).toNat) (n * 2 ^ (j - i - 1074).toNat) τ)
  exact ⟨τ, r, by rw [F_some e hw]; exact hw, by rw [F_some e hw, key_word _ (rung_le _ _ _ _ _)]⟩
theorem ratio_le {m m' n : Nat} {i i' j : Int} (i0 : -1074 ≤ i) (i0' : -1074 ≤ i') (j0 : -1074 ≤ j) (h : m * 2 ^ (i + 1074).toNat ≤ m' * 2 ^ (i' + 1074).toNat) :
    m * 2 ^ (i - j + 1074).toNat * (n * 2 ^ (j - i' - 1074).toNat) ≤ m' * 2 ^ (i' - j + 1074).toNat * (n * 2 ^ (j - i - 1074).toNat) := by
  generalize ha : (i - j + 1074).toNat = a
  generalize hb : (j - i - 1074).toNat = b
  generalize ha' : (i' - j + 1074).toNat = a'
  generalize hb' : (j - i' - 1074).toNat = b'
  generalize hJ : (j + 1074).toNat = J
  have h1 : m * 2 ^ (i + 1074).toNat * 2 ^ (b + b' + 1074) ≤ m' * 2 ^ (i' + 1074).toNat * 2 ^ (b + b' + 1074) := Nat.mul_le_mul_right _ h
  rw [Nat.mul_assoc, Nat.mul_assoc, ← Nat.pow_add, ← Nat.pow_add, show (i + 1074).toNat + (b + b' + 1074) = a + b' + J by omega, show (i' + 1074).toNat + (b + b' + 1074) = a' + b + J by omega, Nat.pow_add 2 (a + b') J, Nat.pow_add 2 (a' + b) J, ← Nat.mul_assoc, ← Nat.mul_assoc] at h1
  have h2 := Nat.le_of_mul_le_mul_right h1 (Nat.two_pow_pos J)
  have e1 : m * 2 ^ a * (n * 2 ^ b') = m * 2 ^ (a + b') * n := by rw [Nat.pow_add]; simp only [Nat.mul_assoc, Nat.mul_left_comm, Nat.mul_comm]
  have e2 : m' * 2 ^ a' * (n * 2 ^ b) = m' * 2 ^ (a' + b) * n := by rw [Nat.pow_add]; simp only [Nat.mul_assoc, Nat.mul_left_comm, Nat.mul_comm]
  rw [e1, e2]
  exact Nat.mul_le_mul_right _ h2
theorem sg_up {s s' : Bool} {a b r r' : Nat} (h : sg s a ≤ sg s' b) (h1 : a ≤ b → r ≤ r') (h2 : b ≤ a → r' ≤ r) (z : a = 0 → r = 0) (z' : b = 0 → r' = 0) : sg s r ≤ sg s' r' := by
  unfold sg at *
  cases s <;> cases s' <;> simp only [if_true, if_false, Bool.false_eq_true] at *
  · have := h1 (by omega); omega
  · have := z (by omega); have := z' (by omega); omega
  · omega
  · have := h2 (by omega); omega
theorem sg_not (s : Bool) (r : Nat) : sg (!s) r = - sg s r := by unfold sg; cases s <;> simp
/-- A quotient goes up with what is divided, or down, as what it is divided by is above or below nought. -/
theorem quo_mono {x x' y : Nat} (hx : Fin x) (hx' : Fin x') (hy : Fin y) (h : key x ≤ key x') (hz : V y ≠ 0) : isN (F .quo x y) = false ∧ isN (F .quo x' y) = false ∧ (0 < V y → key (F .quo x y) ≤ key (F .quo x' y)) ∧ (V y < 0 → key (F .quo x' y) ≤ key (F .quo x y)) := by
  have hv := V_key hx hx'
  have hv : V x ≤ V x' := by omega
  obtain ⟨s, m, i, ex⟩ := hx
  obtain ⟨s', m', i', ex'⟩ := hx'
  obtain ⟨t, n, j, ey⟩ := hy
  obtain ⟨_, i0, _⟩ := read_form ex
  obtain ⟨_, i0', _⟩ := read_form ex'
  obtain ⟨_, j0, _⟩ := read_form ey
  have hn : n ≠ 0 := by
    rintro rfl
    exact hz (by rw [V_of ey, signed_0])
  obtain ⟨τ, r1, n1, k1⟩ := quo_key ex ey hn
  obtain ⟨τ', r2, n2, k2⟩ := quo_key ex' ey hn
  have hs : ∀ (s : Bool) (m k : Nat), signed s m k = sg s (m * 2 ^ k) := fun s m k => by
    unfold signed sg; rw [Nat.shiftLeft_eq]
  have yt : (t = true ↔ V y < 0) ∧ (t = false ↔ 0 < V y) := by
    rw [V_of ey, hs]
    have p := Nat.mul_pos (Nat.pos_of_ne_zero hn) (Nat.two_pow_pos (j + 1074).toNat)
    generalize n * 2 ^ (j + 1074).toNat = N at *
    unfold sg
    cases t
    · exact ⟨⟨fun h => (by cases h), fun h => (by rw [if_neg (by decide)] at h; omega)⟩, ⟨fun _ => (by rw [if_neg (by decide)]; omega), fun _ => rfl⟩⟩
    · exact ⟨⟨fun _ => (by rw [if_pos rfl]; omega), fun _ => rfl⟩, ⟨fun h => (by cases h), fun h => (by rw [if_pos rfl] at h; omega)⟩⟩
  rw [V_of ex, V_of ex', hs, hs] at hv
  have d1 : 0 < n * 2 ^ (j - i - 1074).toNat := Nat.mul_pos (Nat.pos_of_ne_zero hn) (Nat.two_pow_pos _)
  have d2 : 0 < n * 2 ^ (j - i' - 1074).toNat := Nat.mul_pos (Nat.pos_of_ne_zero hn) (Nat.two_pow_pos _)
  have z : ∀ {m : Nat} {k k2 τ : Nat} {D : Nat}, 0 < D → Rng (2 ^ 52) (m * 2 ^ k2) D τ → m * 2 ^ k = 0 → rung (2 ^ 52) II (m * 2 ^ k2) D τ = 0 := fun {m k k2 τ D} hD hr h => by
    have : m = 0 := by
      rcases Nat.mul_eq_zero.1 h with h | h
      · exact h
      · have := Nat.two_pow_pos k; omega
    subst this
    rw [Nat.zero_mul] at hr ⊢
    exact rng_0 (Nat.two_pow_pos _) hD hr
  have key0 : sg s (rung (2 ^ 52) II (m * 2 ^ (i - j + 1074).toNat) (n * 2 ^ (j - i - 1074).toNat) τ) ≤ sg s' (rung (2 ^ 52) II (m' * 2 ^ (i' - j + 1074).toNat) (n * 2 ^ (j - i' - 1074).toNat) τ') :=
    sg_up hv (fun g => rung_mono d1 d2 (ratio_le i0 i0' j0 g) r1 r2) (fun g => rung_mono d2 d1 (ratio_le i0' i0 j0 g) r2 r1) (z d1 r1) (z d2 r2)
  refine ⟨n1, n2, fun g => ?_, fun g => ?_⟩
  · rw [k1, k2, yt.2.2 g, Bool.xor_false, Bool.xor_false]
    exact key0
  · rw [k1, k2, yt.1.2 g, Bool.xor_true, Bool.xor_true, sg_not, sg_not]
    omega
end Flt
end Go.Proofs.YtphdjmaebdmdmaaGreatDoor
/- How far the answer of a float's operation is from the exact one. -/
namespace Go.Proofs.YtphdjmaebdmdmaaGreatDoor
open Go.RowKit Ev Ieee
set_option linter.unusedVariables false
set_option linter.unusedSimpArgs false
set_option maxRecDepth 20000
namespace Flt

theorem rhe_near {P g : Nat} (hg : 0 < g) : 2 * (rhe P g * g) ≤ 2 * P + g ∧ 2 * P ≤ 2 * (rhe P g * g) + g := by
  unfold rhe
  have h := Nat.div_add_mod P g
  have hm := Nat.mod_lt P hg
  split
  · rename_i hc
    rw [Nat.add_mul, Nat.one_mul, Nat.mul_comm (P / g)]
    generalize g * (P / g) = a at *
    generalize P / g % 2 = b at *
    generalize P % g = r at *
    omega
  · rename_i hc
    rw [Nat.add_zero, Nat.mul_comm (P / g)]
    generalize g * (P / g) = a at *
    generalize P / g % 2 = b at *
    generalize P % g = r at *
    omega
theorem Vr_at {t q : Nat} (h1 : q ≤ 9007199254740992) (h2 : 0 < t → 4503599627370496 ≤ q) : Vr (t * 4503599627370496 + q) = q * 2 ^ t := by
  unfold Vr
  by_cases h0 : t = 0
  · subst h0
    rw [Nat.zero_mul, Nat.zero_add, Nat.pow_zero, Nat.mul_one]
    split
    · rfl
    · by_cases h : q = 9007199254740992
      · subst h; decide
      · rw [show q / 4503599627370496 - 1 = 0 by omega, Nat.pow_zero]; omega
  · have h2 := h2 (by omega)
    rw [if_neg (by omega)]
    by_cases h : q = 9007199254740992
    · subst h
      rw [show (t * 4503599627370496 + 9007199254740992) % 4503599627370496 = 0 by omega, show (t * 4503599627370496 + 9007199254740992) / 4503599627370496 - 1 = t + 1 by omega, Nat.pow_succ]
      omega
    · rw [show (t * 4503599627370496 + q) % 4503599627370496 = q - 4503599627370496 by omega, show (t * 4503599627370496 + q) / 4503599627370496 - 1 = t by omega, show 4503599627370496 + (q - 4503599627370496) = q by omega]
theorem rung_err {P D t κ : Nat} (hD : 0 < D) (h : Rng (2 ^ 52) P D t) (hκ : κ ≤ 1900) (hP : P ≤ 2 ^ κ * D) : rung (2 ^ 52) II P D t < II ∧
    9007199254740992 * (Vr (rung (2 ^ 52) II P D t) * D) ≤ 9007199254740992 * P + P + 4503599627370496 * D ∧ 9007199254740992 * P ≤ 9007199254740992 * (Vr (rung (2 ^ 52) II P D t) * D) + P + 4503599627370496 * D := by
  have hII : II = 9218868437227405312 := by decide
  have hg : 0 < D * 2 ^ t := Nat.mul_pos hD (Nat.two_pow_pos _)
  obtain ⟨n1, n2⟩ := rhe_near (P := P) hg
  have q1 : rhe P (D * 2 ^ t) ≤ 9007199254740992 := rhe_upper hg (by have := h.upper; rw [p52] at this; exact this)
  have q2 : 0 < t → 4503599627370496 ≤ rhe P (D * 2 ^ t) := fun ht => rhe_lower hg (by
    rcases h with ⟨h, _⟩ | ⟨_, h, _⟩
    · omega
    · rw [p52] at h; rw [Nat.mul_comm D, ← Nat.mul_assoc]; exact h)
  have t1 : t ≤ 1900 := by
    rcases h with ⟨h, _⟩ | ⟨_, h, _⟩
    · omega
    · have h' : 2 ^ 52 * 2 ^ t * D ≤ 2 ^ κ * D := Nat.le_trans h hP
      have h'' := Nat.le_of_mul_le_mul_right h' hD
      rw [← Nat.pow_add] at h''
      have := (Nat.pow_le_pow_iff_right (by decide)).1 h''
      omega
  have er : rung (2 ^ 52) II P D t = t * 4503599627370496 + rhe P (D * 2 ^ t) := by
    unfold rung; rw [p52, hII]; omega
  rw [er, Vr_at q1 q2]
  refine ⟨by rw [hII]; omega, ?_⟩
  have e : rhe P (D * 2 ^ t) * 2 ^ t * D = rhe P (D * 2 ^ t) * (D * 2 ^ t) := by rw [Nat.mul_assoc, Nat.mul_comm (2 ^ t)]
  rw [e]
  generalize rhe P (D * 2 ^ t) * (D * 2 ^ t) = X at *
  rcases h with ⟨rfl, h⟩ | ⟨_, h, _⟩
  · rw [Nat.pow_zero, Nat.mul_one] at n1 n2
    omega
  · rw [p52, Nat.mul_assoc, Nat.mul_comm _ D] at h
    generalize D * 2 ^ t = g at *
    omega
theorem key_V {r : Nat} {s : Bool} {ρ : Nat} (hk : key r = sg s ρ) (hn : isN r = false) (hr : ρ < II) : Fin r ∧ V r = sg s (Vr ρ) := by
  obtain ⟨s', r', k, a, b, c⟩ := read_sr r
  have hII : II = 9218868437227405312 := by decide
  have e : r' = ρ := by rw [hk] at k; unfold sg at k; split at k <;> split at k <;> omega
  subst e
  obtain ⟨m, i, h1, h2⟩ := a hr
  refine ⟨⟨_, _, _, h1⟩, ?_⟩
  rw [h2]
  rw [hk] at k
  rw [(sg_cmp s' s r' r').2, k]
/-- A sum: its sign, and its rung. -/
theorem add_form {x y : Nat} (hx : Fin x) (hy : Fin y) : ∃ t, Rng (2 ^ 52) (V x + V y).natAbs 1 t ∧ isN (F .add x y) = false ∧ key (F .add x y) = sg (decide (V x + V y < 0)) (rung (2 ^ 52) II (V x + V y).natAbs 1 t) := by
  obtain ⟨s, m, i, ex⟩ := hx
  obtain ⟨t, n, j, ey⟩ := hy
  obtain ⟨_, i0, _⟩ := read_form ex
  obtain ⟨_, j0, _⟩ := read_form ey
  have e0 : fop .add x y = some (double.nearest (if signed s m (i - min i j).toNat + signed t n (j - min i j).toNat = 0 then s && t else decide (signed s m (i - min i j).toNat + signed t n (j - min i j).toNat < 0)) (signed s m (i - min i j).toNat + signed t n (j - min i j).toNat).natAbs (min i j)) := by
    show ((double.read x).sum (double.read y)).map double.write = _
    rw [ex, ey]
    rfl
  have hd : (signed s m (i - min i j).toNat + signed t n (j - min i j).toNat) * (2 ^ (min i j + 1074).toNat : Nat) = V x + V y := by
    rw [V_of ex, V_of ey, Int.add_mul, ← signed_add, ← signed_add, show (i - min i j).toNat + (min i j + 1074).toNat = (i + 1074).toNat by omega, show (j - min i j).toNat + (min i j + 1074).toNat = (j + 1074).toNat by omega]
  have p : (0 : Int) < (2 ^ (min i j + 1074).toNat : Nat) := by have := Nat.two_pow_pos (min i j + 1074).toNat; omega
  generalize signed s m (i - min i j).toNat + signed t n (j - min i j).toNat = d at *
  have hb : (-1074 - min i j).toNat = 0 := by omega
  generalize hneg : (if d = 0 then s && t else decide (d < 0)) = neg at e0
  obtain ⟨τ, hr, hn⟩ := nearest_form neg d.natAbs (min i j)
  have hab : d.natAbs * 2 ^ (min i j + 1074).toNat = (V x + V y).natAbs := by
    rw [← hd, Int.natAbs_mul]; rfl
  rw [hb, Nat.pow_zero, hab] at hr hn
  rw [hn] at e0
  have hw := word_ok neg (rung_le (2 ^ 52) II (V x + V y).natAbs 1 τ)
  refine ⟨τ, hr, ?_, ?_⟩
  · rw [F_some e0 hw]; exact hw
  · rw [F_some e0 hw, key_word _ (rung_le _ _ _ _ _)]
    rcases Int.lt_trichotomy d 0 with g | g | g
    · have : V x + V y < 0 := by
        have := Int.mul_neg_of_neg_of_pos g p; omega
      rw [decide_eq_true this, ← hneg, if_neg (by omega), decide_eq_true g]
    · have h0 : V x + V y = 0 := by rw [← hd, g, Int.zero_mul]
      rw [h0] at hr ⊢
      have e : rung (2 ^ 52) II (Int.natAbs 0) 1 τ = 0 := rng_0 (Nat.two_pow_pos _) (by decide) hr
      rw [e]
      unfold sg
      split <;> split <;> rfl
    · have : ¬ V x + V y < 0 := by
        have := Int.mul_pos g p; omega
      rw [decide_eq_false this, ← hneg, if_neg (by omega), decide_eq_false (by omega)]
/-- A product: its sign, and its rung. -/
theorem mul_form {x y : Nat} {s t : Bool} {m n : Nat} {i j : Int} (hx : double.read x = .number s m i) (hy : double.read y = .number t n j) :
    ∃ τ, Rng (2 ^ 52) (m * n * 2 ^ (i + j + 1074).toNat) (2 ^ (-1074 - (i + j)).toNat) τ ∧ isN (F .mul x y) = false ∧ key (F .mul x y) = sg (s ^^ t) (rung (2 ^ 52) II (m * n * 2 ^ (i + j + 1074).toNat) (2 ^ (-1074 - (i + j)).toNat) τ) := by
  have e0 : fop .mul x y = some (double.nearest (s ^^ t) (m * n) (i + j)) := by
    show ((double.read x).product (double.read y)).map double.write = _
    rw [hx, hy]
    rfl
  obtain ⟨τ, hr, hn⟩ := nearest_form (s ^^ t) (m * n) (i + j)
  rw [hn] at e0
  have hw := word_ok (s ^^ t) (rung_le (2 ^ 52) II (m * n * 2 ^ (i + j + 1074).toNat) (2 ^ (-1074 - (i + j)).toNat) τ)
  exact ⟨τ, hr, by rw [F_some e0 hw]; exact hw, by rw [F_some e0 hw, key_word _ (rung_le _ _ _ _ _)]⟩

/-- How many least parts make one. -/
@[irreducible] def U : Rat := ((2 ^ 1074 : Nat) : Rat)
theorem two_pos (k : Nat) : (0 : Rat) < ((2 ^ k : Nat) : Rat) := Rat.natCast_pos.2 (Nat.two_pow_pos k)
theorem U_pos : 0 < U := by unfold U; exact two_pos 1074
/-- What a finite float stands for. -/
def val (x : Nat) : Rat := (V x : Rat) / U
theorem val_U (x : Nat) : val x * U = (V x : Rat) := by
  unfold val; exact Rat.div_mul_cancel (Rat.ne_of_gt U_pos)
def Nr (a b E : Rat) : Prop := a - b ≤ E ∧ b - a ≤ E
def Bd (a M : Rat) : Prop := -M ≤ a ∧ a ≤ M
theorem mul_Bd {a b A B : Rat} (ha : Bd a A) (hb : Bd b B) : Bd (a * b) (A * B) := by
  have h1 : 0 ≤ (A - a) * (B + b) := Rat.mul_nonneg (by grind [Bd]) (by grind [Bd])
  have h2 : 0 ≤ (A + a) * (B - b) := Rat.mul_nonneg (by grind [Bd]) (by grind [Bd])
  have h3 : 0 ≤ (A - a) * (B - b) := Rat.mul_nonneg (by grind [Bd]) (by grind [Bd])
  have h4 : 0 ≤ (A + a) * (B + b) := Rat.mul_nonneg (by grind [Bd]) (by grind [Bd])
  constructor <;> grind
theorem Nr.bd {a b E : Rat} (h : Nr a b E) : Bd (a - b) E := by unfold Nr at h; unfold Bd; grind
theorem Bd.nr {a b E : Rat} (h : Bd (a - b) E) : Nr a b E := by unfold Bd at h; unfold Nr; grind
theorem Bd.add {a b A B : Rat} (ha : Bd a A) (hb : Bd b B) : Bd (a + b) (A + B) := by unfold Bd at *; grind
theorem Bd.sub {a b A B : Rat} (ha : Bd a A) (hb : Bd b B) : Bd (a - b) (A + B) := by unfold Bd at *; grind
theorem Bd.le {a A B : Rat} (ha : Bd a A) (h : A ≤ B) : Bd a B := by unfold Bd at *; grind
theorem Nr.le {a b A B : Rat} (ha : Nr a b A) (h : A ≤ B) : Nr a b B := by unfold Nr at *; grind
def u : Rat := 1 / 9007199254740992
/-- Half of the least part. -/
def h0 : Rat := 1 / (2 * U)
theorem h0_U : h0 * U = 1 / 2 := by
  unfold h0
  have := U_pos
  grind
theorem U_eq : U = ((2 ^ 1074 : Nat) : Rat) := by unfold U; rfl
theorem two_split (a b D : Nat) : ((2 ^ (a + b) * D : Nat) : Rat) = ((2 ^ a : Nat) : Rat) * (((2 ^ b : Nat) : Rat) * (D : Rat)) := by
  rw [Nat.pow_add, Rat.natCast_mul, Rat.natCast_mul, Rat.mul_assoc]
theorem two_60 : ((2 ^ 60 : Nat) : Rat) = 1152921504606846976 := by
  rw [show (2 : Nat) ^ 60 = 1152921504606846976 by decide]; rfl
theorem le_split {P D : Nat} (a b : Nat) (hab : a + b ≤ 1900) {x y : Rat} (hy : y = ((2 ^ b : Nat) : Rat)) (h1 : (P : Rat) ≤ x) (h2 : x ≤ ((2 ^ a : Nat) : Rat) * (y * (D : Rat))) : ∃ κ, κ ≤ 1900 ∧ P ≤ 2 ^ κ * D := by
  rw [hy, ← two_split] at h2
  exact ⟨_, hab, Rat.natCast_le_natCast.1 (Rat.le_trans h1 h2)⟩
theorem op_err {r P D t : Nat} {s : Bool} (hD : 0 < D) (hr : Rng (2 ^ 52) P D t) (hn : isN r = false) (hk : key r = sg s (rung (2 ^ 52) II P D t)) {e M : Rat} (he : e * (U * (D : Rat)) = ((sg s P : Int) : Rat))
    (hM : Bd e M) (hM2 : M ≤ 1152921504606846976) : Fin r ∧ Nr (val r) e (M * u + h0) := by
  have hD' : (0 : Rat) < (D : Rat) := Rat.natCast_pos.2 hD
  have hUD : 0 < U * (D : Rat) := Rat.mul_pos U_pos hD'
  have b1 : e * (U * (D : Rat)) ≤ M * (U * (D : Rat)) := Rat.mul_le_mul_of_nonneg_right hM.2 (Rat.le_of_lt hUD)
  have b2 : (-M) * (U * (D : Rat)) ≤ e * (U * (D : Rat)) := Rat.mul_le_mul_of_nonneg_right hM.1 (Rat.le_of_lt hUD)
  have hP1 : (P : Rat) ≤ M * (U * (D : Rat)) := by
    rw [he] at b1 b2
    unfold sg at b1 b2
    cases s
    · simp only [Bool.false_eq_true, if_false, Rat.intCast_natCast] at b1 b2; exact b1
    · simp only [if_true, Rat.intCast_neg, Rat.intCast_natCast] at b1 b2; grind
  obtain ⟨κ, hκ, hP2⟩ : ∃ κ, κ ≤ 1900 ∧ P ≤ 2 ^ κ * D := by
    have h1 : M * (U * (D : Rat)) ≤ 1152921504606846976 * (U * (D : Rat)) := Rat.mul_le_mul_of_nonneg_right hM2 (Rat.le_of_lt hUD)
    rw [← two_60] at h1
    exact le_split 60 1074 (by decide) U_eq hP1 h1
  obtain ⟨r1, r2, r3⟩ := rung_err hD hr hκ hP2
  obtain ⟨f, v⟩ := key_V hk hn r1
  refine ⟨f, ?_⟩
  generalize Vr (rung (2 ^ 52) II P D t) = R at *
  have r2' : ((9007199254740992 * (R * D) : Nat) : Rat) ≤ ((9007199254740992 * P + P + 4503599627370496 * D : Nat) : Rat) := Rat.natCast_le_natCast.2 r2
  have r3' : ((9007199254740992 * P : Nat) : Rat) ≤ ((9007199254740992 * (R * D) + P + 4503599627370496 * D : Nat) : Rat) := Rat.natCast_le_natCast.2 r3
  simp only [Rat.natCast_mul, Rat.natCast_add] at r2' r3'
  have ev : val r * (U * (D : Rat)) = ((sg s R : Int) : Rat) * (D : Rat) := by rw [← Rat.mul_assoc, val_U, v]
  have eh : h0 * (U * (D : Rat)) = (D : Rat) / 2 := by rw [← Rat.mul_assoc, h0_U]; grind
  generalize hX : U * (D : Rat) = X at *
  generalize hY : (R : Rat) * (D : Rat) = Y at *
  have es : ((sg s R : Int) : Rat) * (D : Rat) = if s then -Y else Y := by
    unfold sg
    cases s
    · simp only [Bool.false_eq_true, if_false, Rat.intCast_natCast]; exact hY
    · simp only [if_true, Rat.intCast_neg, Rat.intCast_natCast]; grind
  have ep : ((sg s P : Int) : Rat) = if s then -(P : Rat) else (P : Rat) := by
    unfold sg
    cases s
    · simp only [Bool.false_eq_true, if_false, Rat.intCast_natCast]
    · simp only [if_true, Rat.intCast_neg, Rat.intCast_natCast]
  rw [es] at ev
  rw [ep] at he
  have c53 : ((9007199254740992 : Nat) : Rat) = 9007199254740992 := rfl
  have c52 : ((4503599627370496 : Nat) : Rat) = 4503599627370496 := rfl
  rw [c53, c52] at r2' r3'
  have hu : u = 1 / 9007199254740992 := rfl
  unfold Nr
  rw [hu]
  constructor
  · refine Rat.le_of_mul_le_mul_right (c := X) ?_ hUD
    cases s <;> simp only [Bool.false_eq_true, if_false, if_true] at ev he <;> grind
  · refine Rat.le_of_mul_le_mul_right (c := X) ?_ hUD
    cases s <;> simp only [Bool.false_eq_true, if_false, if_true] at ev he <;> grind
theorem sg_abs (d : Int) : sg (decide (d < 0)) d.natAbs = d := by
  unfold sg
  by_cases h : d < 0
  · rw [decide_eq_true h, if_pos rfl]; omega
  · rw [decide_eq_false h, if_neg (by decide)]; omega
theorem one_cast : ((1 : Nat) : Rat) = 1 := rfl
theorem add_err {x y : Nat} (hx : Fin x) (hy : Fin y) {M : Rat} (hM : Bd (val x + val y) M) (hM2 : M ≤ 1152921504606846976) :
    Fin (F .add x y) ∧ Nr (val (F .add x y)) (val x + val y) (M * u + h0) := by
  obtain ⟨t, r, n, k⟩ := add_form hx hy
  refine op_err (by decide) r n k ?_ hM hM2
  rw [sg_abs, one_cast, Rat.mul_one, Rat.add_mul, val_U, val_U, Rat.intCast_add]
theorem sub_err {x y : Nat} (hx : Fin x) (hy : Fin y) {M : Rat} (hM : Bd (val x - val y) M) (hM2 : M ≤ 1152921504606846976) :
    Fin (F .sub x y) ∧ Nr (val (F .sub x y)) (val x - val y) (M * u + h0) := by
  obtain ⟨t, r, n, k⟩ := sub_form hx hy
  rw [show decide (V x < V y) = decide (V x - V y < 0) from decide_eq_decide.2 (by omega)] at k
  refine op_err (by decide) r n k ?_ hM hM2
  have a := val_U x
  have b := val_U y
  rw [sg_abs, one_cast, Rat.mul_one, Rat.intCast_sub, ← a, ← b]
  grind
theorem V_sg {x : Nat} {s : Bool} {m : Nat} {i : Int} (h : double.read x = .number s m i) : V x = sg s (m * 2 ^ (i + 1074).toNat) := by
  rw [V_of h]; unfold signed sg; rw [Nat.shiftLeft_eq]
theorem sg_mul (s t : Bool) (a b : Nat) : sg s a * sg t b = sg (s ^^ t) (a * b) := by
  unfold sg; cases s <;> cases t <;> simp [Int.neg_mul, Int.mul_neg]
theorem U_nat : ∃ k : Nat, k = 1074 ∧ U = ((2 ^ k : Nat) : Rat) := ⟨1074, rfl, U_eq⟩
theorem sg_scale (s : Bool) (a b : Nat) : ((sg s (a * b) : Int) : Rat) = ((sg s a : Int) : Rat) * (b : Rat) := by
  unfold sg
  cases s
  · simp only [Bool.false_eq_true, if_false, Rat.intCast_natCast, Rat.natCast_mul]
  · simp only [if_true, Rat.intCast_neg, Rat.intCast_natCast, Rat.natCast_mul]; grind
theorem mul_err {x y : Nat} (hx : Fin x) (hy : Fin y) {M : Rat} (hM : Bd (val x * val y) M) (hM2 : M ≤ 1152921504606846976) :
    Fin (F .mul x y) ∧ Nr (val (F .mul x y)) (val x * val y) (M * u + h0) := by
  obtain ⟨s, m, i, ex⟩ := hx
  obtain ⟨t, n, j, ey⟩ := hy
  obtain ⟨_, i0, _⟩ := read_form ex
  obtain ⟨_, j0, _⟩ := read_form ey
  obtain ⟨τ, r, nn, k⟩ := mul_form ex ey
  refine op_err (Nat.two_pow_pos _) r nn k ?_ hM hM2
  obtain ⟨κ, hκ, hκU⟩ := U_nat
  generalize ha : (i + j + 1074).toNat = a
  generalize hb : (-1074 - (i + j)).toNat = b
  have e1 : m * n * 2 ^ a * 2 ^ κ = m * 2 ^ (i + 1074).toNat * (n * 2 ^ (j + 1074).toNat) * 2 ^ b := by
    have : m * 2 ^ (i + 1074).toNat * (n * 2 ^ (j + 1074).toNat) * 2 ^ b = m * n * (2 ^ ((i + 1074).toNat + (j + 1074).toNat + b)) := by
      rw [Nat.pow_add, Nat.pow_add]; simp only [Nat.mul_assoc, Nat.mul_left_comm, Nat.mul_comm]
    rw [this, Nat.mul_assoc, ← Nat.pow_add, show a + κ = (i + 1074).toNat + (j + 1074).toNat + b by omega]
  have e2 : ((sg (s ^^ t) (m * n * 2 ^ a) : Int) : Rat) * U = (V x : Rat) * (V y : Rat) * ((2 ^ b : Nat) : Rat) := by
    rw [V_sg ex, V_sg ey, hκU, ← sg_scale, e1, sg_scale, ← sg_mul, Rat.intCast_mul]
  have hU := U_pos
  rw [← val_U x, ← val_U y] at e2
  generalize ((sg (s ^^ t) (m * n * 2 ^ a) : Int) : Rat) = z at *
  generalize ((2 ^ b : Nat) : Rat) = d at *
  have e3 : z * U = val x * val y * (U * d) * U := by rw [e2]; grind
  refine Rat.le_antisymm (Rat.le_of_mul_le_mul_right (c := U) (by rw [e3]; exact Rat.le_refl) hU) (Rat.le_of_mul_le_mul_right (c := U) (by rw [e3]; exact Rat.le_refl) hU)
theorem quo_err {x y : Nat} (hx : Fin x) (hy : Fin y) (h0y : V y ≠ 0) {e M : Rat} (he : e * val y = val x) (hM : Bd e M) (hM2 : M ≤ 1152921504606846976) :
    Fin (F .quo x y) ∧ Nr (val (F .quo x y)) e (M * u + h0) := by
  obtain ⟨s, m, i, ex⟩ := hx
  obtain ⟨t, n, j, ey⟩ := hy
  obtain ⟨_, i0, _⟩ := read_form ex
  obtain ⟨_, j0, _⟩ := read_form ey
  have hn : n ≠ 0 := by
    intro h; subst h; apply h0y; rw [V_of ey]; exact signed_0 _ _
  obtain ⟨τ, r, nn, k⟩ := quo_key ex ey hn
  refine op_err (Nat.mul_pos (by omega) (Nat.two_pow_pos _)) r nn k ?_ hM hM2
  obtain ⟨κ, hκ, hκU⟩ := U_nat
  generalize ha : (i - j + 1074).toNat = a
  generalize hb : (j - i - 1074).toNat = b
  have e1 : m * 2 ^ a * (n * 2 ^ (j + 1074).toNat) = m * 2 ^ (i + 1074).toNat * 2 ^ κ * (n * 2 ^ b) := by
    have h1 : m * 2 ^ a * (n * 2 ^ (j + 1074).toNat) = m * n * 2 ^ (a + (j + 1074).toNat) := by
      rw [Nat.pow_add]; simp only [Nat.mul_assoc, Nat.mul_left_comm, Nat.mul_comm]
    have h2 : m * 2 ^ (i + 1074).toNat * 2 ^ κ * (n * 2 ^ b) = m * n * 2 ^ ((i + 1074).toNat + κ + b) := by
      rw [Nat.pow_add, Nat.pow_add]; simp only [Nat.mul_assoc, Nat.mul_left_comm, Nat.mul_comm]
    rw [h1, h2, show a + (j + 1074).toNat = (i + 1074).toNat + κ + b by omega]
  have hD : ((n * 2 ^ b : Nat) : Rat) = ((n * 2 ^ b : Nat) : Rat) := rfl
  have e2 : ((sg (s ^^ t) (m * 2 ^ a) : Int) : Rat) * (V y : Rat) = (V x : Rat) * ((2 ^ κ : Nat) : Rat) * ((n * 2 ^ b : Nat) : Rat) := by
    rw [V_sg ex, V_sg ey, ← Rat.intCast_mul, sg_mul, e1, sg_scale, sg_scale, Bool.xor_assoc, Bool.xor_self, Bool.xor_false]
  have hU := U_pos
  have hV : val y ≠ 0 := by
    intro h
    apply h0y
    have := val_U y
    rw [h, Rat.zero_mul] at this
    exact Rat.intCast_eq_zero_iff.1 this.symm
  rw [← hκU, ← val_U x, ← val_U y, ← he] at e2
  generalize ((sg (s ^^ t) (m * 2 ^ a) : Int) : Rat) = z at *
  generalize ((n * 2 ^ b : Nat) : Rat) = d at *
  grind
end Flt
end Go.Proofs.YtphdjmaebdmdmaaGreatDoor
/- Floats that are bounded: sums, differences, products, quotients; differences turned about. -/
namespace Go.Proofs.YtphdjmaebdmdmaaGreatDoor
open Go.RowKit Ev Ieee
set_option linter.unusedVariables false
set_option linter.unusedSimpArgs false
set_option maxRecDepth 20000
namespace Flt

theorem h0_nn : 0 ≤ h0 := by
  have h := h0_U
  refine Rat.le_of_mul_le_mul_right (c := U) ?_ U_pos
  rw [h]; grind
theorem two_ge : ∀ k : Nat, (2 : Rat) ≤ ((2 ^ (k + 1) : Nat) : Rat) := fun k => by
  have h : 2 ^ 1 ≤ 2 ^ (k + 1) := Nat.pow_le_pow_right (by decide) (by omega)
  have e : (2 : Rat) = ((2 : Nat) : Rat) := rfl
  rw [e]
  exact Rat.natCast_le_natCast.2 h
theorem U_two : (2 : Rat) ≤ U := by
  obtain ⟨κ, hκ, e⟩ := U_nat
  have h := two_ge (κ - 1)
  rw [show κ - 1 + 1 = κ by omega, ← e] at h
  exact h
theorem h0_one : h0 ≤ 1 / 2 := by
  have h1 : (2 : Rat) * h0 ≤ U * h0 := Rat.mul_le_mul_of_nonneg_right U_two h0_nn
  rw [Rat.mul_comm U, h0_U] at h1
  have := h0_nn
  grind
theorem err_one {M : Rat} (h0' : 0 ≤ M) (h : M ≤ 1152921504606846976) : M * u + h0 ≤ 129 := by
  have := h0_one
  unfold u
  grind
/-- A float that stands for a number, and one no greater than M. -/
structure Q (x : Nat) (M : Rat) : Prop where
  fin : Fin x
  bd : Bd (val x) M
theorem Q.nn {x : Nat} {M : Rat} (h : Q x M) : 0 ≤ M := by have := h.bd; unfold Bd at this; grind
theorem Q.le {x : Nat} {M N : Rat} (h : Q x M) (h' : M ≤ N) : Q x N := ⟨h.fin, h.bd.le h'⟩
theorem near_bd {a e E M : Rat} (h : Nr a e E) (hM : Bd e M) : Bd a (M + E) := by unfold Nr Bd at *; grind
theorem Q.of {r : Nat} {e M : Rat} (h : Fin r ∧ Nr (val r) e (M * u + h0)) (hb : Bd e M) (hM : M ≤ 1152921504606846976) : Q r (M + 129) := by
  have h0M : 0 ≤ M := by unfold Bd at hb; grind
  exact ⟨h.1, (near_bd h.2 hb).le (by have := err_one h0M hM; grind)⟩
theorem Q.add {x y : Nat} {M N : Rat} (hx : Q x M) (hy : Q y N) (h : M + N ≤ 1152921504606846976) : Q (F .add x y) (M + N + 129) :=
  .of (add_err hx.fin hy.fin (hx.bd.add hy.bd) h) (hx.bd.add hy.bd) h
theorem Q.sub {x y : Nat} {M N : Rat} (hx : Q x M) (hy : Q y N) (h : M + N ≤ 1152921504606846976) : Q (F .sub x y) (M + N + 129) :=
  .of (sub_err hx.fin hy.fin (hx.bd.sub hy.bd) h) (hx.bd.sub hy.bd) h
theorem Q.mul {x y : Nat} {M N : Rat} (hx : Q x M) (hy : Q y N) (h : M * N ≤ 1152921504606846976) : Q (F .mul x y) (M * N + 129) :=
  .of (mul_err hx.fin hy.fin (mul_Bd hx.bd hy.bd) h) (mul_Bd hx.bd hy.bd) h
theorem val_pos_U {x : Nat} : 0 ≤ V x → 0 ≤ val x := fun h => by
  refine Rat.le_of_mul_le_mul_right (c := U) ?_ U_pos
  rw [Rat.zero_mul, val_U]
  exact Rat.intCast_nonneg.2 h
theorem val_le {x y : Nat} (h : V x ≤ V y) : val x ≤ val y := by
  refine Rat.le_of_mul_le_mul_right (c := U) ?_ U_pos
  rw [val_U, val_U]
  exact Rat.intCast_le_intCast.2 h
theorem val_neg {z w : Nat} (h : V z ≤ -V w) : val z ≤ -val w := by
  refine Rat.le_of_mul_le_mul_right (c := U) ?_ U_pos
  rw [Rat.neg_mul, val_U, val_U, ← Rat.intCast_neg]
  exact Rat.intCast_le_intCast.2 h
theorem val_neg' {z w : Nat} (h : -V w ≤ V z) : -val w ≤ val z := by
  refine Rat.le_of_mul_le_mul_right (c := U) ?_ U_pos
  rw [Rat.neg_mul, val_U, val_U, ← Rat.intCast_neg]
  exact Rat.intCast_le_intCast.2 h
theorem val_le_of {x κ : Nat} {M : Int} (hκ : U = ((2 ^ κ : Nat) : Rat)) (h : V x ≤ M * (2 ^ κ : Nat)) : val x ≤ (M : Rat) := by
  refine Rat.le_of_mul_le_mul_right (c := U) ?_ U_pos
  rw [val_U]
  have := Rat.intCast_le_intCast.2 h
  rw [Rat.intCast_mul, Rat.intCast_natCast, ← hκ] at this
  exact this
theorem le_val_of {x κ : Nat} {M : Int} (hκ : U = ((2 ^ κ : Nat) : Rat)) (h : M * (2 ^ κ : Nat) ≤ V x) : (M : Rat) ≤ val x := by
  refine Rat.le_of_mul_le_mul_right (c := U) ?_ U_pos
  rw [val_U]
  have := Rat.intCast_le_intCast.2 h
  rw [Rat.intCast_mul, Rat.intCast_natCast, ← hκ] at this
  exact this
theorem of_val_le {x κ : Nat} {M : Int} (hκ : U = ((2 ^ κ : Nat) : Rat)) (h : val x ≤ (M : Rat)) : V x ≤ M * (2 ^ κ : Nat) := by
  have := Rat.mul_le_mul_of_nonneg_right h (Rat.le_of_lt U_pos)
  rw [val_U, hκ] at this
  refine Rat.intCast_le_intCast.1 ?_
  rw [Rat.intCast_mul, Rat.intCast_natCast]
  exact this
theorem of_le_val {x κ : Nat} {M : Int} (hκ : U = ((2 ^ κ : Nat) : Rat)) (h : (M : Rat) ≤ val x) : M * (2 ^ κ : Nat) ≤ V x := by
  have := Rat.mul_le_mul_of_nonneg_right h (Rat.le_of_lt U_pos)
  rw [val_U, hκ] at this
  refine Rat.intCast_le_intCast.1 ?_
  rw [Rat.intCast_mul, Rat.intCast_natCast]
  exact this
theorem val_ne {x : Nat} (h : V x ≠ 0) : val x ≠ 0 := fun e => h (by
  have := val_U x
  rw [e, Rat.zero_mul] at this
  exact Rat.intCast_eq_zero_iff.1 this.symm)
theorem V_0 : V 0 = 0 := by rw [V_of (show double.read 0 = .number false 0 (-1074) by decide +kernel)]; exact signed_0 _ _
theorem val_0 : val 0 = 0 := by unfold val; rw [V_0, Rat.intCast_zero, Rat.div_def, Rat.zero_mul]
/-- A quotient of a number by one that is no lesser. -/
theorem ratio_bd {x y : Nat} (h0y : V y ≠ 0) (h : (V x).natAbs ≤ (V y).natAbs) : Bd (val x / val y) 1 := by
  have hv := val_ne h0y
  have he : (val x / val y) * val y = val x := Rat.div_mul_cancel hv
  generalize val x / val y = q at he ⊢
  rcases Int.lt_or_le (V y) 0 with g | g
  · have g1 : val y ≤ 0 := by rw [← val_0]; exact val_le (by rw [V_0]; omega)
    have g2 : val y ≤ val x := val_le (by omega)
    have g3 : val x ≤ -val y := val_neg (by omega)
    have gp : 0 < -val y := by grind
    unfold Bd
    constructor
    · refine Rat.le_of_mul_le_mul_right (c := -val y) ?_ gp
      rw [Rat.mul_neg q, he]; grind
    · refine Rat.le_of_mul_le_mul_right (c := -val y) ?_ gp
      rw [Rat.mul_neg q, he]; grind
  · have g1 := val_pos_U g
    have g2 : -val y ≤ val x := val_neg' (by omega)
    have g3 : val x ≤ val y := val_le (by omega)
    have gp : 0 < val y := by grind
    unfold Bd
    constructor
    · refine Rat.le_of_mul_le_mul_right (c := val y) ?_ gp
      rw [he]; grind
    · refine Rat.le_of_mul_le_mul_right (c := val y) ?_ gp
      rw [he]; grind
theorem Q.ratio {x y : Nat} (hx : Fin x) (hy : Fin y) (h0y : V y ≠ 0) (h : (V x).natAbs ≤ (V y).natAbs) : Q (F .quo x y) 130 := by
  have he : (val x / val y) * val y = val x := Rat.div_mul_cancel (val_ne h0y)
  have hb := ratio_bd h0y h
  exact (Q.of (quo_err hx hy h0y he hb (by grind)) hb (by grind)).le (by grind)
theorem pw_gen (c : Nat) : (8589934592000000 : Nat) <<< c = 1000000 * 2 ^ (33 + c) := by
  rw [Nat.shiftLeft_eq, Nat.pow_add, ← Nat.mul_assoc]
theorem pw33 {κ : Nat} (hκ : κ = 1074) : (8589934592000000 : Nat) <<< 1041 = 1000000 * 2 ^ κ := by
  have e : κ = 33 + 1041 := by omega
  subst e
  exact pw_gen 1041
/-- What is near is no greater than a million. -/
theorem near_V {x κ : Nat} (hκ : κ = 1074) : nearB x = true ↔ Fin x ∧ -1000000 * ((2 ^ κ : Nat) : Int) ≤ V x ∧ V x ≤ 1000000 * ((2 ^ κ : Nat) : Int) := by
  have f1 : Fin 13920209183539462144 := ⟨_, _, _, read_n1e6⟩
  have f2 : Fin 4696837146684686336 := ⟨_, _, _, read_1e6⟩
  have e1 : V 13920209183539462144 = -1000000 * ((2 ^ κ : Nat) : Int) := by
    rw [V_of read_n1e6]
    unfold signed
    rw [if_pos rfl, show ((-33 : Int) + 1074).toNat = 1041 by decide, pw33 hκ, Int.natCast_mul, Int.neg_mul]; rfl
  have e2 : V 4696837146684686336 = 1000000 * ((2 ^ κ : Nat) : Int) := by
    rw [V_of read_1e6]
    unfold signed
    rw [if_neg (by decide), show ((-33 : Int) + 1074).toNat = 1041 by decide, pw33 hκ, Int.natCast_mul]; rfl
  constructor
  · intro h
    have f := (near_small h).fin
    unfold nearB at h
    rw [fgt_flt, flt_V f1 f, flt_V f f2, feq_V f f1, feq_V f f2, e1, e2] at h
    simp only [Bool.and_eq_true, Bool.or_eq_true, decide_eq_true_eq] at h
    exact ⟨f, by omega, by omega⟩
  · rintro ⟨f, h1, h2⟩
    unfold nearB
    rw [fgt_flt, flt_V f1 f, flt_V f f2, feq_V f f1, feq_V f f2, e1, e2]
    simp only [Bool.and_eq_true, Bool.or_eq_true, decide_eq_true_eq]
    omega
theorem near_Q {x : Nat} (h : nearB x = true) : Q x 1000000 := by
  obtain ⟨κ, hκ, e⟩ := U_nat
  obtain ⟨f, h1, h2⟩ := (near_V hκ).1 h
  refine ⟨f, ?_⟩
  have g1 := le_val_of e h1
  have g2 := val_le_of e h2
  unfold Bd
  exact ⟨by simpa using g1, by simpa using g2⟩
theorem Q.near {x : Nat} (h : Q x 1000000) : nearB x = true := by
  obtain ⟨κ, hκ, e⟩ := U_nat
  have hb := h.bd
  unfold Bd at hb
  exact (near_V hκ).2 ⟨h.fin, of_le_val e (by simpa using hb.1), of_val_le e (by simpa using hb.2)⟩
theorem rung_same {P t t' : Nat} (h : Rng (2 ^ 52) P 1 t) (h' : Rng (2 ^ 52) P 1 t') : rung (2 ^ 52) II P 1 t = rung (2 ^ 52) II P 1 t' :=
  Nat.le_antisymm (rung_mono (by decide) (by decide) (Nat.le_refl _) h h') (rung_mono (by decide) (by decide) (Nat.le_refl _) h' h)
theorem II_pos : 0 < II := by unfold II; decide
theorem rung_pos {P t : Nat} (hP : 0 < P) (h : Rng (2 ^ 52) P 1 t) : 0 < rung (2 ^ 52) II P 1 t := by
  have hi := II_pos
  rcases h with ⟨rfl, _⟩ | ⟨h, _⟩
  · unfold rung rhe
    rw [Nat.zero_mul, Nat.zero_add, Nat.pow_zero, Nat.mul_one, Nat.div_one]
    omega
  · unfold rung
    have := Nat.mul_pos h (show 0 < 2 ^ 52 by decide)
    omega
/-- A difference turned about. -/
theorem sub_turn {x y : Nat} (hx : Fin x) (hy : Fin y) : isN (F .sub x y) = false ∧ isN (F .sub y x) = false ∧ key (F .sub y x) = -key (F .sub x y) := by
  obtain ⟨t, r1, n1, k1⟩ := sub_form hx hy
  obtain ⟨t', r2, n2, k2⟩ := sub_form hy hx
  refine ⟨n1, n2, ?_⟩
  have e : (V y - V x).natAbs = (V x - V y).natAbs := by omega
  rw [e] at r2 k2
  rw [k1, k2, rung_same r2 r1]
  rcases Int.lt_trichotomy (V x) (V y) with g | g | g
  · rw [decide_eq_true g, decide_eq_false (show ¬ V y < V x by omega)]; unfold sg; simp
  · have e0 : (V x - V y).natAbs = 0 := by omega
    rw [e0] at r1 ⊢
    rw [rng_0 (by decide) (by decide) r1]; unfold sg; split <;> split <;> simp
  · rw [decide_eq_true g, decide_eq_false (show ¬ V x < V y by omega)]; unfold sg; simp
theorem key_0 : key 0 = 0 := by decide +kernel
theorem Fin_0 : Fin 0 := ⟨false, 0, -1074, by decide +kernel⟩
theorem V_pos {x : Nat} (h : Fin x) : 0 < V x ↔ 0 < key x := by
  have := (V_key Fin_0 h).1
  rw [V_0, key_0] at this; exact this
theorem V_nonneg {x : Nat} (h : Fin x) : 0 ≤ V x ↔ 0 ≤ key x := by
  have := (V_key h Fin_0).1
  rw [V_0, key_0] at this; omega
theorem add_pos {x y : Nat} (hx : Fin x) (hy : Fin y) (h : 0 < V x + V y) : isN (F .add x y) = false ∧ 0 < key (F .add x y) := by
  obtain ⟨t, r, n, k⟩ := add_form hx hy
  refine ⟨n, ?_⟩
  rw [k, decide_eq_false (by omega)]
  have := rung_pos (by omega) r
  unfold sg
  rw [if_neg (by decide)]
  omega
theorem add_neg {x y : Nat} (hx : Fin x) (hy : Fin y) (h : V x + V y < 0) : isN (F .add x y) = false ∧ key (F .add x y) < 0 := by
  obtain ⟨t, r, n, k⟩ := add_form hx hy
  refine ⟨n, ?_⟩
  rw [k, decide_eq_true h]
  have := rung_pos (by omega) r
  unfold sg
  rw [if_pos rfl]
  omega
/-- The sign turned. -/
theorem key_fneg (x : Nat) : key (fneg x) = -key x := by
  have hm : fneg x % 9223372036854775808 = x % 9223372036854775808 := fneg_mod x
  have hd : fneg x / 9223372036854775808 % 2 = 1 - x / 9223372036854775808 % 2 := by
    have e : fneg x / 2 ^ 63 = x / 2 ^ 63 ^^^ 1 := by
      show (x ^^^ 2 ^ 63) / 2 ^ 63 = _
      rw [Nat.xor_div_two_pow, Nat.div_self (by decide)]
    rw [show (9223372036854775808 : Nat) = 2 ^ 63 by decide, e, show (2 : Nat) = 2 ^ 1 by decide, Nat.xor_mod_two_pow]
    have : x / (2 ^ 1) ^ 63 % 2 ^ 1 = 0 ∨ x / (2 ^ 1) ^ 63 % 2 ^ 1 = 1 := by omega
    rcases this with h | h <;> rw [h] <;> rfl
  unfold key
  rw [hm, hd]
  have : x / 9223372036854775808 % 2 = 0 ∨ x / 9223372036854775808 % 2 = 1 := by omega
  rcases this with h | h <;> rw [h] <;> unfold sg <;> simp
theorem key_Fneg {x : Nat} (h : isN x = false) : isN (Fneg x) = false ∧ key (Fneg x) = -key x := by
  have e : Fneg x = fneg x := by unfold Fneg; exact cn_notN (by rw [isN_fneg]; exact h)
  rw [e]
  exact ⟨by rw [isN_fneg]; exact h, key_fneg x⟩
theorem V_absK {x : Nat} (h : Fin x) : (V x).natAbs = Vr (key x).natAbs := by
  obtain ⟨s, r, k, h1, h2, h3⟩ := read_sr x
  have hr : r < II := by
    rcases Nat.lt_trichotomy r II with g | g | g
    · exact g
    · obtain ⟨t, m, i, e⟩ := h
      rw [h2 g] at e; cases e
    · have := h3 g; rw [h.notN] at this; cases this
  obtain ⟨m, i, _, e⟩ := h1 hr
  rw [e, k]
  unfold sg
  cases s <;> simp
end Flt
end Go.Proofs.YtphdjmaebdmdmaaGreatDoor
/- Floats that are whole numbers: their sums, products and even quotients are exact. -/
namespace Go.Proofs.YtphdjmaebdmdmaaGreatDoor
open Go.RowKit Ev Ieee
set_option linter.unusedVariables false
set_option linter.unusedSimpArgs false
set_option maxRecDepth 20000
namespace Flt

theorem rhe_exact {q g : Nat} (hg : 0 < g) : rhe (q * g) g = q := by
  unfold rhe
  rw [Nat.mul_mod_left, Nat.mul_div_cancel _ hg, if_neg (by omega)]; rfl
theorem rung_at {P D t q : Nat} (hq : rhe P (D * 2 ^ t) = q) (h1 : q ≤ 9007199254740992) (ht : t ≤ 1074) : rung (2 ^ 52) II P D t = t * 4503599627370496 + q ∧ t * 4503599627370496 + q < II := by
  have hII : II = 9218868437227405312 := by decide
  unfold rung; rw [p52, hII, hq]
  omega
theorem rung_exact {P D t Z κ : Nat} (hκ : κ = 1074) (hD : 0 < D) (h : Rng (2 ^ 52) P D t) (hP : P = Z * 2 ^ κ * D) (hZ : Z < 9007199254740992) : rung (2 ^ 52) II P D t < II ∧ Vr (rung (2 ^ 52) II P D t) = Z * 2 ^ κ := by
  have hII : II = 9218868437227405312 := by decide
  have hg : 0 < D * 2 ^ t := Nat.mul_pos hD (Nat.two_pow_pos _)
  have p53 : (2 : Nat) ^ 53 = 9007199254740992 := by decide
  have ht : t ≤ κ := by
    rcases h with ⟨h, _⟩ | ⟨_, h, _⟩
    · omega
    · rw [hP] at h
      have h1 := Nat.le_of_mul_le_mul_right h hD
      have h2 : Z * 2 ^ κ < 2 ^ 53 * 2 ^ κ := Nat.mul_lt_mul_of_pos_right (by omega) (Nat.two_pow_pos _)
      have h3 : 2 ^ 52 * 2 ^ t < 2 ^ 53 * 2 ^ κ := Nat.lt_of_le_of_lt h1 h2
      rw [← Nat.pow_add, ← Nat.pow_add] at h3
      have := (Nat.pow_lt_pow_iff_right (by decide)).1 h3
      omega
  have eP : P = Z * 2 ^ (κ - t) * (D * 2 ^ t) := by
    have : Z * 2 ^ (κ - t) * (D * 2 ^ t) = Z * D * (2 ^ (κ - t) * 2 ^ t) := by simp only [Nat.mul_assoc, Nat.mul_left_comm, Nat.mul_comm]
    rw [this, ← Nat.pow_add, show κ - t + t = κ by omega, hP, Nat.mul_right_comm]
  have er : rhe P (D * 2 ^ t) = Z * 2 ^ (κ - t) := by rw [eP]; exact rhe_exact hg
  have q1 : rhe P (D * 2 ^ t) ≤ 9007199254740992 := rhe_upper hg (by have := h.upper; rw [p52] at this; exact this)
  have q2 : 0 < t → 4503599627370496 ≤ rhe P (D * 2 ^ t) := fun ht => rhe_lower hg (by
    rcases h with ⟨h, _⟩ | ⟨_, h, _⟩
    · omega
    · rw [p52] at h; rw [Nat.mul_comm D, ← Nat.mul_assoc]; exact h)
  rw [er] at q1 q2
  obtain ⟨f1, f2⟩ := rung_at er q1 (Nat.le_trans ht (Nat.le_of_eq hκ))
  rw [f1, Vr_at q1 q2, Nat.mul_assoc, ← Nat.pow_add, Nat.sub_add_cancel ht]
  exact ⟨f2, rfl⟩
theorem sg_natAbs {s : Bool} {P m : Nat} {z : Int} (h : sg s P = z * (m : Int)) : P = z.natAbs * m := by
  have h1 := congrArg Int.natAbs h
  rw [Int.natAbs_mul] at h1
  have h2 : (sg s P).natAbs = P := by unfold sg; cases s <;> simp
  rw [h2] at h1
  exact h1
theorem op_exact {r P D t : Nat} {s : Bool} (hD : 0 < D) (hr : Rng (2 ^ 52) P D t) (hn : isN r = false) (hk : key r = sg s (rung (2 ^ 52) II P D t)) {z : Int} (he : (z : Rat) * (U * (D : Rat)) = ((sg s P : Int) : Rat))
    (hz : -9007199254740992 < z ∧ z < 9007199254740992) : Fin r ∧ val r = (z : Rat) := by
  obtain ⟨κ, hκ, hU⟩ := U_nat
  have e1 : sg s P = z * ((2 ^ κ * D : Nat) : Int) := by
    refine Rat.intCast_inj.1 ?_
    rw [← he, hU, Rat.intCast_mul, Rat.intCast_natCast, Rat.natCast_mul]
  have e2 := sg_natAbs e1
  obtain ⟨r1, r2⟩ := rung_exact hκ hD hr (Z := z.natAbs) (by rw [e2, Nat.mul_assoc]) (by omega)
  obtain ⟨f, v⟩ := key_V hk hn r1
  refine ⟨f, ?_⟩
  have ev : V r = z * ((2 ^ κ : Nat) : Int) := by
    rw [v, r2]
    have e3 : sg s (z.natAbs * 2 ^ κ) * (D : Int) = z * ((2 ^ κ : Nat) : Int) * (D : Int) := by
      have : sg s (z.natAbs * 2 ^ κ) * (D : Int) = sg s P := by
        rw [e2]
        unfold sg
        cases s
        · simp only [Bool.false_eq_true, if_false]; rw [← Int.natCast_mul, Nat.mul_assoc]
        · simp only [if_true]; rw [Int.neg_mul, ← Int.natCast_mul, Nat.mul_assoc]
      rw [this, e1, Int.natCast_mul, Int.mul_assoc]
    exact Int.eq_of_mul_eq_mul_right (by omega) e3
  have hUp := U_pos
  have e4 : val r * U = (z : Rat) * U := by rw [val_U, ev, hU, Rat.intCast_mul, Rat.intCast_natCast]
  exact Rat.le_antisymm (Rat.le_of_mul_le_mul_right (c := U) (by rw [e4]; exact Rat.le_refl) hUp) (Rat.le_of_mul_le_mul_right (c := U) (by rw [e4]; exact Rat.le_refl) hUp)
/-- A float that is a whole number. -/
structure Iv (x : Nat) (z : Int) : Prop where
  fin : Fin x
  eq : val x = (z : Rat)
theorem Iv.V {x : Nat} {z : Int} (h : Iv x z) {κ : Nat} (hκ : U = ((2 ^ κ : Nat) : Rat)) : V x = z * ((2 ^ κ : Nat) : Int) := by
  refine Rat.intCast_inj.1 ?_
  rw [← val_U, h.eq, hκ, Rat.intCast_mul, Rat.intCast_natCast]
theorem iv_add {x y : Nat} {a b : Int} (hx : Iv x a) (hy : Iv y b) (h : -9007199254740992 < a + b ∧ a + b < 9007199254740992) : Iv (F .add x y) (a + b) := by
  obtain ⟨t, r, n, k⟩ := add_form hx.fin hy.fin
  obtain ⟨f, v⟩ := op_exact (by decide) r n k (z := a + b) (by rw [sg_abs, one_cast, Rat.mul_one, Rat.intCast_add, Rat.add_mul, ← hx.eq, ← hy.eq, val_U, val_U, Rat.intCast_add]) h
  exact ⟨f, v⟩
theorem iv_sub {x y : Nat} {a b : Int} (hx : Iv x a) (hy : Iv y b) (h : -9007199254740992 < a - b ∧ a - b < 9007199254740992) : Iv (F .sub x y) (a - b) := by
  obtain ⟨t, r, n, k⟩ := sub_form hx.fin hy.fin
  rw [show decide (Flt.V x < Flt.V y) = decide (Flt.V x - Flt.V y < 0) from decide_eq_decide.2 (by omega)] at k
  have e1 := val_U x
  have e2 := val_U y
  obtain ⟨f, v⟩ := op_exact (by decide) r n k (z := a - b) (by rw [sg_abs, one_cast, Rat.mul_one, Rat.intCast_sub, Rat.intCast_sub, ← e1, ← e2, hx.eq, hy.eq]; grind) h
  exact ⟨f, v⟩
theorem iv_mul {x y : Nat} {a b : Int} (hx : Iv x a) (hy : Iv y b) (h : -9007199254740992 < a * b ∧ a * b < 9007199254740992) : Iv (F .mul x y) (a * b) := by
  have hx' := hx
  have hy' := hy
  obtain ⟨⟨s, m, i, ex⟩, vx⟩ := hx
  obtain ⟨⟨t, n, j, ey⟩, vy⟩ := hy
  obtain ⟨_, i0, _⟩ := read_form ex
  obtain ⟨_, j0, _⟩ := read_form ey
  obtain ⟨τ, r, nn, k⟩ := mul_form ex ey
  obtain ⟨κ, hκ, hκU⟩ := U_nat
  have e1 : m * n * 2 ^ (i + j + 1074).toNat * 2 ^ κ = m * 2 ^ (i + 1074).toNat * (n * 2 ^ (j + 1074).toNat) * 2 ^ (-1074 - (i + j)).toNat := by
    have : m * 2 ^ (i + 1074).toNat * (n * 2 ^ (j + 1074).toNat) * 2 ^ (-1074 - (i + j)).toNat = m * n * (2 ^ ((i + 1074).toNat + (j + 1074).toNat + (-1074 - (i + j)).toNat)) := by
      rw [Nat.pow_add, Nat.pow_add]; simp only [Nat.mul_assoc, Nat.mul_left_comm, Nat.mul_comm]
    rw [this, Nat.mul_assoc, ← Nat.pow_add, show (i + j + 1074).toNat + κ = (i + 1074).toNat + (j + 1074).toNat + (-1074 - (i + j)).toNat by omega]
  have e2 : ((sg (s ^^ t) (m * n * 2 ^ (i + j + 1074).toNat) : Int) : Rat) * U = (Flt.V x : Rat) * (Flt.V y : Rat) * ((2 ^ (-1074 - (i + j)).toNat : Nat) : Rat) := by
    rw [V_sg ex, V_sg ey, hκU, ← sg_scale, e1, sg_scale, ← sg_mul, Rat.intCast_mul]
  obtain ⟨f, v⟩ := op_exact (Nat.two_pow_pos _) r nn k (z := a * b) (by
    have hU := U_pos
    rw [← val_U x, ← val_U y, vx, vy] at e2
    rw [Rat.intCast_mul]
    generalize ((sg (s ^^ t) (m * n * 2 ^ (i + j + 1074).toNat) : Int) : Rat) = z at *
    generalize ((2 ^ (-1074 - (i + j)).toNat : Nat) : Rat) = d at *
    have e3 : z * U = (a : Rat) * (b : Rat) * (U * d) * U := by rw [e2]; grind
    exact Rat.le_antisymm (Rat.le_of_mul_le_mul_right (c := U) (by rw [e3]; exact Rat.le_refl) hU) (Rat.le_of_mul_le_mul_right (c := U) (by rw [e3]; exact Rat.le_refl) hU)) h
  exact ⟨f, v⟩
theorem iv_quo {x y : Nat} {a b c : Int} (hx : Iv x a) (hy : Iv y b) (hb : b ≠ 0) (hc : c * b = a) (h : -9007199254740992 < c ∧ c < 9007199254740992) : Iv (F .quo x y) c := by
  obtain ⟨κ, hκ, hκU⟩ := U_nat
  have vx := hx.V hκU
  have vy := hy.V hκU
  obtain ⟨⟨s, m, i, ex⟩, _⟩ := hx
  obtain ⟨⟨t, n, j, ey⟩, _⟩ := hy
  obtain ⟨_, i0, _⟩ := read_form ex
  obtain ⟨_, j0, _⟩ := read_form ey
  have hp : (0 : Int) < ((2 ^ κ : Nat) : Int) := by have := Nat.two_pow_pos κ; omega
  have h0y : Flt.V y ≠ 0 := by rw [vy]; exact fun e => (Int.mul_eq_zero.1 e).elim hb (by omega)
  have hn : n ≠ 0 := by
    intro h; subst h; apply h0y; rw [V_of ey]; exact signed_0 _ _
  obtain ⟨τ, r, nn, k⟩ := quo_key ex ey hn
  have e1 : m * 2 ^ (i - j + 1074).toNat * (n * 2 ^ (j + 1074).toNat) = m * 2 ^ (i + 1074).toNat * 2 ^ κ * (n * 2 ^ (j - i - 1074).toNat) := by
    have h1 : m * 2 ^ (i - j + 1074).toNat * (n * 2 ^ (j + 1074).toNat) = m * n * 2 ^ ((i - j + 1074).toNat + (j + 1074).toNat) := by
      rw [Nat.pow_add]; simp only [Nat.mul_assoc, Nat.mul_left_comm, Nat.mul_comm]
    have h2 : m * 2 ^ (i + 1074).toNat * 2 ^ κ * (n * 2 ^ (j - i - 1074).toNat) = m * n * 2 ^ ((i + 1074).toNat + κ + (j - i - 1074).toNat) := by
      rw [Nat.pow_add, Nat.pow_add]; simp only [Nat.mul_assoc, Nat.mul_left_comm, Nat.mul_comm]
    rw [h1, h2, show (i - j + 1074).toNat + (j + 1074).toNat = (i + 1074).toNat + κ + (j - i - 1074).toNat by omega]
  have e2 : ((sg (s ^^ t) (m * 2 ^ (i - j + 1074).toNat) : Int) : Rat) * (Flt.V y : Rat) = (Flt.V x : Rat) * ((2 ^ κ : Nat) : Rat) * ((n * 2 ^ (j - i - 1074).toNat : Nat) : Rat) := by
    rw [V_sg ex, V_sg ey, ← Rat.intCast_mul, sg_mul, e1, sg_scale, sg_scale, Bool.xor_assoc, Bool.xor_self, Bool.xor_false]
  obtain ⟨f, v⟩ := op_exact (Nat.mul_pos (by omega) (Nat.two_pow_pos _)) r nn k (z := c) (by
    have hU := U_pos
    have hb' : (b : Rat) ≠ 0 := fun e => hb (Rat.intCast_eq_zero_iff.1 e)
    rw [vx, vy, ← hc, ← hκU, Rat.intCast_mul, Rat.intCast_mul, Rat.intCast_mul, Rat.intCast_natCast, ← hκU] at e2
    generalize ((sg (s ^^ t) (m * 2 ^ (i - j + 1074).toNat) : Int) : Rat) = z at *
    generalize ((n * 2 ^ (j - i - 1074).toNat : Nat) : Rat) = d at *
    generalize (b : Rat) = b' at *
    generalize (c : Rat) = c' at *
    generalize U = U' at *
    grind) h
  exact ⟨f, v⟩
theorem iv_of {x : Nat} {z : Int} {κ : Nat} (hκ : U = ((2 ^ κ : Nat) : Rat)) (hf : Fin x) (h : Flt.V x = z * ((2 ^ κ : Nat) : Int)) : Iv x z := by
  refine ⟨hf, ?_⟩
  have hUp := U_pos
  have e4 : val x * U = (z : Rat) * U := by rw [val_U, h, hκ, Rat.intCast_mul, Rat.intCast_natCast]
  exact Rat.le_antisymm (Rat.le_of_mul_le_mul_right (c := U) (by rw [e4]; exact Rat.le_refl) hUp) (Rat.le_of_mul_le_mul_right (c := U) (by rw [e4]; exact Rat.le_refl) hUp)
theorem iv_near {z : Int} (h : -9007199254740992 < z ∧ z < 9007199254740992) : Iv (cn (FloatKind.f64.nearest z)) z := by
  have e : FloatKind.f64.nearest z = double.nearest (decide (z < 0)) z.natAbs 0 := rfl
  obtain ⟨n1, n2⟩ := nearest_V (decide (z < 0)) (m := z.natAbs) (i := 0) (by omega) (by decide) (by decide)
  obtain ⟨κ, hκ, hU⟩ := U_nat
  rw [e, cn_notN n1.notN]
  refine iv_of hU n1 ?_
  rw [n2, show ((0 : Int) + 1074).toNat = κ by omega]
  unfold signed
  rw [Nat.shiftLeft_eq]
  by_cases g : z < 0
  · rw [decide_eq_true g, if_pos rfl, Int.natCast_mul, ← Int.neg_mul]
    congr 1; omega
  · rw [decide_eq_false g, if_neg (by decide), Int.natCast_mul]
    congr 1; omega
theorem iv_feq {x y : Nat} {z : Int} (hx : Iv x z) (hy : Iv y z) : feq x y = true := by
  obtain ⟨κ, hκ, hU⟩ := U_nat
  rw [feq_V hx.fin hy.fin, hx.V hU, hy.V hU, decide_eq_true rfl]
theorem iv_cmp {x y : Nat} {a b : Int} (hx : Iv x a) (hy : Iv y b) : flt x y = decide (a < b) ∧ feq x y = decide (a = b) ∧ fgt x y = decide (b < a) := by
  obtain ⟨κ, hκ, hU⟩ := U_nat
  have hp : (0 : Int) < ((2 ^ κ : Nat) : Int) := by have := Nat.two_pow_pos κ; omega
  have lt : ∀ a b : Int, (a * ((2 ^ κ : Nat) : Int) < b * ((2 ^ κ : Nat) : Int)) = (a < b) := fun a b => propext ⟨fun h => Int.lt_of_mul_lt_mul_right h (Int.le_of_lt hp), fun h => Int.mul_lt_mul_of_pos_right h hp⟩
  refine ⟨?_, ?_, ?_⟩
  · rw [flt_V hx.fin hy.fin, hx.V hU, hy.V hU]; exact decide_eq_decide.2 (by rw [lt])
  · rw [feq_V hx.fin hy.fin, hx.V hU, hy.V hU]
    refine decide_eq_decide.2 ⟨fun h => Int.eq_of_mul_eq_mul_right (by omega) h, fun h => by rw [h]⟩
  · rw [fgt_flt, flt_V hy.fin hx.fin, hx.V hU, hy.V hU]; exact decide_eq_decide.2 (by rw [lt])
end Flt
end Go.Proofs.YtphdjmaebdmdmaaGreatDoor
/- Floats of whole numbers, and thousandths of them. -/
namespace Go.Proofs.YtphdjmaebdmdmaaGreatDoor
open Go.RowKit Ev Flt
set_option linter.unusedVariables false
set_option linter.unusedSimpArgs false
set_option maxRecDepth 20000

theorem nI_Q {i M : Int} (h : -M ≤ i ∧ i ≤ M) (hM : M ≤ 9007199254740991) : Q (cn (FloatKind.f64.nearest i)) (M : Rat) := by
  obtain ⟨f, e⟩ := iv_near (z := i) (by omega)
  refine ⟨f, ?_⟩
  rw [e]
  unfold Bd
  have h1 := Rat.intCast_le_intCast.2 h.1
  have h2 := Rat.intCast_le_intCast.2 h.2
  rw [Rat.intCast_neg] at h1
  exact ⟨h1, h2⟩
theorem iv_1000 : Iv 4652007308841189376 1000 := by
  have := iv_near (z := 1000) (by omega)
  rwa [show cn (FloatKind.f64.nearest 1000) = 4652007308841189376 by decide +kernel] at this
theorem quo_1000 {x : Nat} {M : Rat} (h : Q x M) (hM : M ≤ 1152921504606846976) : Q (F .quo x 4652007308841189376) (M + 129) := by
  have v : val 4652007308841189376 = 1000 := by rw [iv_1000.eq]; rfl
  have v0 : V 4652007308841189376 ≠ 0 := fun e => by
    have : val 4652007308841189376 = 0 := by unfold val; rw [e, Rat.intCast_zero, Rat.div_def, Rat.zero_mul]
    rw [v] at this; exact absurd this (by decide)
  have he : (val x / 1000) * val 4652007308841189376 = val x := by rw [v]; grind
  have hb : Bd (val x / 1000) M := by
    have := h.bd
    unfold Bd at *
    grind
  exact .of (quo_err h.fin iv_1000.fin v0 he hb hM) hb hM
end Go.Proofs.YtphdjmaebdmdmaaGreatDoor
/- Numbers cut off to whole ones. -/
namespace Go.Proofs.YtphdjmaebdmdmaaGreatDoor
open Go.RowKit Ev Flt Ieee
set_option linter.unusedVariables false
set_option linter.unusedSimpArgs false

theorem shr_powT {n drop : Nat} : n / (1 <<< min drop (n.log2 + 2)) = n / 2 ^ drop := by
  rw [Nat.shiftLeft_eq, Nat.one_mul]
  by_cases h : drop ≤ n.log2 + 2
  · rw [Nat.min_eq_left h]
  · rw [Nat.min_eq_right (by omega)]
    have h1 : n < 2 ^ (n.log2 + 1) := Nat.lt_log2_self
    have h2 : 2 ^ (n.log2 + 1) ≤ 2 ^ (n.log2 + 2) := Nat.pow_le_pow_right (by decide) (by omega)
    have h3 : 2 ^ (n.log2 + 1) ≤ 2 ^ drop := Nat.pow_le_pow_right (by decide) (by omega)
    rw [Nat.div_eq_of_lt (by omega), Nat.div_eq_of_lt (by omega)]
theorem cut_zeroT (s : Bool) (n d : Nat) : Toward.zero.cut s n d = n / 2 ^ d := by
  show n / (1 <<< min d (n.log2 + 2)) + false.toNat = _
  rw [shr_powT]; rfl
theorem signedT (s : Bool) (c : Nat) : signed s c 0 = if s then -(c : Int) else (c : Int) := by
  unfold signed; rw [Nat.shiftLeft_zero]
theorem trunc_some {x : Nat} {M : Int} (h : Q x (M : Rat)) (hM : 0 ≤ M) : ∃ z, (FloatKind.f64.decode x).toInt .zero = some z ∧ -M ≤ z ∧ z ≤ M := by
  obtain ⟨s, m, i, ex⟩ := h.fin
  obtain ⟨_, i0, _⟩ := read_form ex
  obtain ⟨κ, hκ, hU⟩ := U_nat
  have b := h.bd
  unfold Bd at b
  have b1 : V x ≤ M * (2 ^ κ : Nat) := of_val_le hU b.2
  have b2 : -M * (2 ^ κ : Nat) ≤ V x := of_le_val hU (by rw [Rat.intCast_neg]; exact b.1)
  have v := V_sg ex
  have hc : ((m <<< i.toNat) / 2 ^ (-i).toNat : Nat) * 2 ^ κ ≤ m * 2 ^ (i + 1074).toNat := by
    have e : m * 2 ^ (i + 1074).toNat * 2 ^ (-i).toNat = m * 2 ^ i.toNat * 2 ^ κ := by
      rw [Nat.mul_assoc, Nat.mul_assoc, ← Nat.pow_add, ← Nat.pow_add, show (i + 1074).toNat + (-i).toNat = i.toNat + κ by omega]
    have hp := Nat.two_pow_pos (-i).toNat
    refine Nat.le_of_mul_le_mul_right ?_ hp
    rw [e, Nat.shiftLeft_eq, Nat.mul_right_comm]
    exact Nat.mul_le_mul_right _ (Nat.div_mul_le_self _ _)
  have hk : (0 : Int) < ((2 ^ κ : Nat) : Int) := by have := Nat.two_pow_pos κ; omega
  generalize hC : ((m <<< i.toNat) / 2 ^ (-i).toNat : Nat) = c at hc
  refine ⟨signed s c 0, ?_, ?_⟩
  · show Datum.toInt .zero (double.read x) = _
    rw [ex]
    show some (signed s (Toward.zero.cut s (m <<< i.toNat) (-i).toNat) 0) = _
    rw [cut_zeroT, hC]
  · have hc' : (c : Int) * ((2 ^ κ : Nat) : Int) ≤ ((m * 2 ^ (i + 1074).toNat : Nat) : Int) := by
      have := Int.ofNat_le.2 hc
      rwa [Int.natCast_mul c] at this
    have key : (c : Int) ≤ M := by
      refine Int.le_of_mul_le_mul_right ?_ hk
      unfold sg at v
      split at v
      · rw [v] at b2
        have : ((m * 2 ^ (i + 1074).toNat : Nat) : Int) ≤ M * ((2 ^ κ : Nat) : Int) := by
          rw [Int.neg_mul] at b2; omega
        exact Int.le_trans hc' this
      · rw [v] at b1; exact Int.le_trans hc' b1
    rw [signedT]
    split <;> omega
end Go.Proofs.YtphdjmaebdmdmaaGreatDoor
