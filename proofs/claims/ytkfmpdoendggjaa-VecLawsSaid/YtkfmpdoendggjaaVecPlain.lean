/- Laws of floats, plainly: sums and products turned about; a power of two taken in and out. -/
import Derived.Test.YtkfmpdoendggjaaVecMore
namespace Go.Proofs.Ytkfmpdoendggjaa
open Go.RowKit Ieee
set_option linter.unusedVariables false
set_option linter.unusedSimpArgs false
theorem log2_shl (n k : Nat) (h : n ≠ 0) : (n <<< k).log2 = n.log2 + k := by
  induction k with
  | zero => simp
  | succ k ih =>
    have e : n <<< (k + 1) = 2 * (n <<< k) := by rw [Nat.shiftLeft_eq, Nat.shiftLeft_eq, Nat.pow_succ, ← Nat.mul_assoc, Nat.mul_comm]
    have h' : n <<< k ≠ 0 := by rw [Nat.shiftLeft_eq]; exact Nat.mul_ne_zero h (by have := Nat.two_pow_pos k; omega)
    rw [e, Nat.log2_two_mul h', ih]; omega
theorem cut_shift (neg : Bool) (n drop k : Nat) (hn : n ≠ 0) : Toward.even.cut neg (n <<< k) (drop + k) = Toward.even.cut neg n drop := by
  have hl := log2_shl n k hn
  unfold Toward.cut
  have hg : min (drop + k) ((n <<< k).log2 + 2) = min drop (n.log2 + 2) + k := by omega
  simp only [hg]
  generalize min drop (n.log2 + 2) = g
  have e : 1 <<< (g + k) = (1 <<< g) * 2 ^ k := by simp [Nat.shiftLeft_eq, Nat.pow_add]
  rw [e, Nat.shiftLeft_eq n k, Nat.mul_div_mul_right _ _ (Nat.two_pow_pos k), Nat.mul_mod_mul_right]
  have p := Nat.two_pow_pos k
  generalize 1 <<< g = G
  have c1 : (G * 2 ^ k < 2 * (n % G * 2 ^ k)) = (G < 2 * (n % G)) := by rw [← Nat.mul_assoc]; exact propext (Nat.mul_lt_mul_right p)
  have c2 : (G * 2 ^ k == 2 * (n % G * 2 ^ k)) = (G == 2 * (n % G)) := by
    rw [← Nat.mul_assoc]
    rw [Bool.eq_iff_iff, beq_iff_eq, beq_iff_eq]
    exact ⟨fun h => Nat.eq_of_mul_eq_mul_right p h, fun h => congrArg (· * 2 ^ k) h⟩
  simp only [c1, c2]

theorem near_shift (f : Format) (neg : Bool) (m k : Nat) (place : Int) : f.nearest neg (m <<< k) place = f.nearest neg m (place + k) := by
  rcases Nat.eq_zero_or_pos m with rfl | h0
  · simp [Format.nearest]
  have hn : m ≠ 0 := by omega
  have hs : m <<< k ≠ 0 := by rw [Nat.shiftLeft_eq]; exact Nat.mul_ne_zero hn (by have := Nat.two_pow_pos k; omega)
  have hl := log2_shl m k hn
  unfold Format.nearest
  rw [if_neg hn, if_neg hs, hl]
  have e : place + ((m.log2 + k : Nat) : Int) - f.fractionBits = place + (k : Int) + (m.log2 : Int) - f.fractionBits := by omega
  rw [e]
  generalize max (place + (k : Int) + (m.log2 : Int) - f.fractionBits) f.leastPlace = last
  have hc : Toward.even.cut neg ((m <<< k) <<< (place - last).toNat) (last - place).toNat = Toward.even.cut neg (m <<< (place + k - last).toNat) (last - (place + k)).toNat := by
    rw [← Nat.shiftLeft_add]
    by_cases h1 : last ≤ place
    · rw [show (last - place).toNat = 0 by omega, show (last - (place + k)).toNat = 0 by omega, show k + (place - last).toNat = (place + k - last).toNat by omega]
    · by_cases h2 : last ≤ place + k
      · rw [show (place - last).toNat = 0 by omega, show (last - (place + k)).toNat = 0 by omega]
        have : m <<< (k + 0) = (m <<< (place + k - last).toNat) <<< (last - place).toNat := by rw [← Nat.shiftLeft_add]; congr 1; omega
        rw [this]
        have h3 := cut_shift neg (m <<< (place + k - last).toNat) 0 (last - place).toNat (by rw [Nat.shiftLeft_eq]; exact Nat.mul_ne_zero hn (by have := Nat.two_pow_pos (place + k - last).toNat; omega))
        rw [Nat.zero_add] at h3
        exact h3
      · rw [show (place - last).toNat = 0 by omega, show (place + k - last).toNat = 0 by omega]
        have h3 := cut_shift neg m (last - (place + k)).toNat k hn
        rw [show (last - (place + k)).toNat + k = (last - place).toNat by omega] at h3
        exact h3
  simp only [hc]
theorem read_word (s : Bool) (r : Nat) (h : r < 2047 * 4503599627370496) : double.read (double.word s r) = if r < 4503599627370496 then .number s r (-1074) else .number s (4503599627370496 + r % 4503599627370496) (-1074 + (r / 4503599627370496 - 1 : Nat)) := by
  have w : double.signWeight = 9223372036854775808 := by decide +kernel
  have b : double.binade = 4503599627370496 := by decide +kernel
  have f : double.infRung = 2047 * 4503599627370496 := by decide +kernel
  have l : double.leastPlace = -1074 := by decide +kernel
  unfold Format.read Format.word
  rw [w, b, f, l]
  have e1 : ((if s = true then 9223372036854775808 + r else r) / 9223372036854775808 % 2 == 1) = s := by cases s <;> simp <;> omega
  have e2 : (if s = true then 9223372036854775808 + r else r) % 9223372036854775808 = r := by cases s <;> simp <;> omega
  simp only [e1, e2]
  split
  · rfl
  all_goals first | rfl | (rw [if_pos h])

theorem kept_le (neg : Bool) (m : Nat) (i last : Int) (hm : m ≠ 0) (hl : i + m.log2 - 52 ≤ last) : Toward.even.cut neg (m <<< (i - last).toNat) (last - i).toNat ≤ 9007199254740992 := by
  have h1 := log2_shl m (i - last).toNat hm
  generalize hn : m <<< (i - last).toNat = n at *
  have h2 : n < 2 ^ (n.log2 + 1) := Nat.lt_log2_self
  unfold Toward.cut
  have hg : n.log2 + 1 ≤ 53 + min (last - i).toNat (n.log2 + 2) := by omega
  generalize min (last - i).toNat (n.log2 + 2) = g at hg
  have h3 : n < 2 ^ g * 9007199254740992 := by
    refine Nat.lt_of_lt_of_le h2 ?_
    rw [show (9007199254740992 : Nat) = 2 ^ 53 from rfl, ← Nat.pow_add]
    exact Nat.pow_le_pow_right (by omega) (by omega)
  have h4 : n / 1 <<< g < 9007199254740992 := by
    rw [Nat.shiftLeft_eq, Nat.one_mul]; exact Nat.div_lt_of_lt_mul h3
  have h5 : ∀ b : Bool, b.toNat ≤ 1 := fun b => by cases b <;> decide
  simp only
  exact Nat.le_trans (Nat.add_le_add_left (h5 _) _) (by omega)

theorem nearest_eq (neg : Bool) (m : Nat) (i : Int) (hm : m ≠ 0) : double.nearest neg m i = double.word neg (min ((max (i + m.log2 - 52) (-1074) + 1074).toNat * 4503599627370496 + Toward.even.cut neg (m <<< (i - max (i + m.log2 - 52) (-1074)).toNat) (max (i + m.log2 - 52) (-1074) - i).toNat) (2047 * 4503599627370496)) := by
  have b : double.binade = 4503599627370496 := by decide +kernel
  have f : double.infRung = 2047 * 4503599627370496 := by decide +kernel
  have l : double.leastPlace = -1074 := by decide +kernel
  unfold Format.nearest
  rw [if_neg hm, b, f, l]
  simp only [Int.sub_neg]
  rfl

theorem read_finite (s : Bool) (m : Nat) (i : Int) (h : i + m.log2 ≤ 1000) : ∃ m' p, double.read (double.nearest s m i) = .number s m' p := by
  by_cases hm : m = 0
  · subst hm
    have : double.nearest s 0 i = double.word s 0 := by simp [Format.nearest]
    rw [this, read_word s 0 (by omega), if_pos (by omega)]
    exact ⟨_, _, rfl⟩
  rw [nearest_eq s m i hm]
  have hk := kept_le s m i (max (i + m.log2 - 52) (-1074)) hm (by omega)
  generalize Toward.even.cut s (m <<< (i - max (i + m.log2 - 52) (-1074)).toNat) (max (i + m.log2 - 52) (-1074) - i).toNat = kept at hk
  have hlast : (max (i + m.log2 - 52) (-1074) + 1074).toNat ≤ 2022 := by omega
  generalize (max (i + m.log2 - 52) (-1074) + 1074).toNat = q at hlast
  have hr : q * 4503599627370496 + kept < 2047 * 4503599627370496 := by omega
  rw [Nat.min_eq_left (by omega), read_word s _ hr]
  split <;> exact ⟨_, _, rfl⟩

/-- What a word can bear is written without loss. -/
theorem read_exact (s : Bool) (m : Nat) (i : Int) (hm : m < 9007199254740992) (h0 : -1074 ≤ i) (h1 : i ≤ 900) : ∃ d p, double.read (double.nearest s m i) = .number s (m <<< d) p ∧ p + (d : Int) = i := by
  by_cases h : m = 0
  · subst h
    have : double.nearest s 0 i = double.word s 0 := by simp [Format.nearest]
    rw [this, read_word s 0 (by omega), if_pos (by omega)]
    exact ⟨(i + 1074).toNat, -1074, by simp, by omega⟩
  have hl : m.log2 ≤ 52 := by
    have := (Nat.log2_lt h (k := 53)).2 hm
    omega
  rw [nearest_eq s m i h]
  have hk := kept_le s m i (max (i + m.log2 - 52) (-1074)) h (by omega)
  obtain ⟨last, hlast⟩ : ∃ last, last = max (i + m.log2 - 52) (-1074) := ⟨_, rfl⟩
  rw [← hlast] at hk ⊢
  have z : (last - i).toNat = 0 := by omega
  rw [z] at hk ⊢
  have hc : Toward.even.cut s (m <<< (i - last).toNat) 0 = m <<< (i - last).toNat := by
    unfold Toward.cut
    simp [Nat.mod_one]
  rw [hc] at hk ⊢
  have hsl := log2_shl m (i - last).toNat h
  have hnz : m <<< (i - last).toNat ≠ 0 := by rw [Nat.shiftLeft_eq]; exact Nat.mul_ne_zero h (by have := Nat.two_pow_pos (i - last).toNat; omega)
  have hlt : m <<< (i - last).toNat < 9007199254740992 := by
    have h2 : m <<< (i - last).toNat < 2 ^ ((m <<< (i - last).toNat).log2 + 1) := Nat.lt_log2_self
    refine Nat.lt_of_lt_of_le h2 ?_
    rw [show (9007199254740992 : Nat) = 2 ^ 53 from rfl]
    exact Nat.pow_le_pow_right (by omega) (by omega)
  have hge : last ≠ -1074 → 4503599627370496 ≤ m <<< (i - last).toNat := fun hne => by
    have h2 := Nat.log2_self_le hnz
    refine Nat.le_trans ?_ h2
    rw [show (4503599627370496 : Nat) = 2 ^ 52 from rfl]
    exact Nat.pow_le_pow_right (by omega) (by omega)
  refine ⟨(i - last).toNat, last, ?_, by omega⟩
  generalize m <<< (i - last).toNat = n at *
  have hq : (last + 1074).toNat ≤ 1974 := by omega
  rw [Nat.min_eq_left (by omega), read_word s _ (by omega)]
  by_cases hL : last = -1074
  · rw [hL]
    simp only [show ((-1074 : Int) + 1074).toNat = 0 from rfl, Nat.zero_mul, Nat.zero_add]
    split
    · rfl
    · congr 1
      · omega
      · have : n / 4503599627370496 = 1 := by omega
        rw [this]; rfl
  · have hge' := hge hL
    rw [if_neg (by omega)]
    have hq1 : 1 ≤ (last + 1074).toNat := by omega
    congr 1
    · omega
    · have : ((last + 1074).toNat * 4503599627370496 + n) / 4503599627370496 = (last + 1074).toNat + 1 := by omega
      rw [this]; omega
theorem fop_add_comm (x y : Nat) : fop .add x y = fop .add y x := by
  show ((double.read x).sum (double.read y)).map double.write = ((double.read y).sum (double.read x)).map double.write
  have : ∀ d e : Datum, d.sum e = e.sum d := by
    intro d e
    cases d <;> cases e <;> simp only [Datum.sum]
    case number.number s m i t n j => rw [Int.min_comm i j, Int.add_comm, Bool.and_comm]
    case infinity.infinity s t =>
      by_cases h : s = t
      · subst h; rfl
      · rw [if_neg h, if_neg (Ne.symm h)]
  rw [this]
theorem fop_mul_comm (x y : Nat) : fop .mul x y = fop .mul y x := by
  show ((double.read x).product (double.read y)).map double.write = ((double.read y).product (double.read x)).map double.write
  have : ∀ d e : Datum, d.product e = e.product d := by
    intro d e
    cases d <;> cases e <;> simp only [Datum.product]
    case number.number s m i t n j => rw [Bool.xor_comm s t, Nat.mul_comm, Int.add_comm]
    case infinity.infinity s t => rw [Bool.xor_comm]
  rw [this]
theorem F_add_comm (x y : Nat) : F .add x y = F .add y x := by unfold F; rw [fop_add_comm]
theorem F_mul_comm (x y : Nat) : F .mul x y = F .mul y x := by unfold F; rw [fop_mul_comm]
theorem dotF_comm (a1 a2 a3 b1 b2 b3 : Nat) : dotF a1 a2 a3 b1 b2 b3 = dotF b1 b2 b3 a1 a2 a3 := by
  unfold dotF; rw [F_mul_comm a1, F_mul_comm a2, F_mul_comm a3]

/-- A number that is near stands for a small number. -/
def Small (x : Nat) : Prop := ∃ s m i, double.read x = .number s m i ∧ m < 9007199254740992 ∧ -1074 ≤ i ∧ i ≤ 900 ∧ i + m.log2 ≤ 40
theorem Small.notN {x : Nat} (h : Small x) : isN x = false := by
  obtain ⟨s, m, i, e, _⟩ := h
  unfold isN; rw [e]; rfl
theorem cn_notN {x : Nat} (h : isN x = false) : cn x = x := by unfold cn; rw [if_neg (by rw [h]; exact Bool.false_ne_true)]
theorem read_form {x : Nat} {s : Bool} {m : Nat} {i : Int} (h : double.read x = .number s m i) : m < 9007199254740992 ∧ -1074 ≤ i ∧ (i ≠ -1074 → 4503599627370496 ≤ m) ∧ i ≤ 900 + 2000 := by
  have w : double.signWeight = 9223372036854775808 := by decide +kernel
  have b : double.binade = 4503599627370496 := by decide +kernel
  have f : double.infRung = 2047 * 4503599627370496 := by decide +kernel
  have l : double.leastPlace = -1074 := by decide +kernel
  unfold Format.read at h
  rw [w, b, f, l] at h
  simp only at h
  split at h
  · simp only [Datum.number.injEq] at h; obtain ⟨-, rfl, rfl⟩ := h; omega
  · split at h
    · simp only [Datum.number.injEq] at h; obtain ⟨-, rfl, rfl⟩ := h; omega
    · split at h <;> cases h
theorem read_1e6 : double.read 4696837146684686336 = .number false 8589934592000000 (-33) := by decide +kernel
theorem read_n1e6 : double.read 13920209183539462144 = .number true 8589934592000000 (-33) := by decide +kernel
theorem near_small {x : Nat} (h : nearB x = true) : Small x := by
  unfold nearB at h
  simp only [Bool.and_eq_true, Bool.or_eq_true, beq_iff_eq] at h
  obtain ⟨h1, h2⟩ := h
  replace h1 : (double.read x).order (double.read 13920209183539462144) = some .gt ∨ (double.read x).order (double.read 13920209183539462144) = some .eq := h1
  replace h2 : (double.read x).order (double.read 4696837146684686336) = some .lt ∨ (double.read x).order (double.read 4696837146684686336) = some .eq := h2
  rw [read_n1e6] at h1
  rw [read_1e6] at h2
  cases hx : double.read x with
  | nan s t => rw [hx] at h1; simp [Datum.order] at h1
  | infinity s => rw [hx] at h1 h2; cases s <;> simp [Datum.order] at h1 h2
  | number s m i =>
    rw [hx] at h1 h2
    obtain ⟨g1, g2, g3, _⟩ := read_form hx
    refine ⟨s, m, i, hx, g1, g2, ?_⟩
    by_cases hi : i ≤ -33
    · refine ⟨by omega, ?_⟩
      have : m.log2 ≤ 52 := by
        by_cases h : m = 0
        · subst h; decide
        · have := (Nat.log2_lt h (k := 53)).2 g1
          omega
      omega
    · exfalso
      have hm := g3 (by omega)
      simp only [Datum.order, Option.some.injEq] at h1 h2
      rw [Int.compare_eq_gt, Int.compare_eq_eq] at h1
      rw [Int.compare_eq_lt, Int.compare_eq_eq] at h2
      have e : min i (-33) = -33 := by omega
      rw [e] at h1 h2
      have e2 : (i - -33).toNat = (i + 33).toNat := by omega
      have p := Nat.two_pow_pos ((i + 33).toNat - 1)
      have e3 : m <<< (i - -33).toNat = 2 * (m * 2 ^ ((i + 33).toNat - 1)) := by
        rw [e2, Nat.shiftLeft_eq]
        obtain ⟨k, hk⟩ : ∃ k, (i + 33).toNat = k + 1 := ⟨(i + 33).toNat - 1, by omega⟩
        rw [hk, Nat.pow_succ]
        simp [Nat.mul_comm, Nat.mul_left_comm]
      have e4 : 4503599627370496 * 1 ≤ m * 2 ^ ((i + 33).toNat - 1) := Nat.mul_le_mul hm p
      unfold signed at h1 h2
      rw [e3] at h1 h2
      generalize m * 2 ^ ((i + 33).toNat - 1) = M at *
      simp at h1 h2
      cases s <;> simp at h1 h2 <;> omega
theorem fine_small {a b c : Nat} (h : fineB a b c = true) : Small a ∧ Small b ∧ Small c := by
  unfold fineB at h
  simp only [Bool.and_eq_true] at h
  exact ⟨near_small h.1.1, near_small h.1.2, near_small h.2⟩
theorem Small.cn {x : Nat} (h : Small x) : cn x = x := cn_notN h.notN
theorem prod_number {a b : Nat} (ha : Small a) (hb : Small b) : ∃ p s m i, fop .mul a b = some p ∧ F .mul a b = p ∧ double.read p = .number s m i := by
  obtain ⟨s, m, i, ea, _, _, _, ba⟩ := ha
  obtain ⟨t, n, j, eb, _, _, _, bb⟩ := hb
  have e : fop .mul a b = some (double.nearest (s ^^ t) (m * n) (i + j)) := by
    show ((double.read a).product (double.read b)).map double.write = _
    rw [ea, eb]; rfl
  have hlog : (m * n).log2 ≤ m.log2 + n.log2 + 1 := by
    by_cases h : m * n = 0
    · rw [h]; simp
    have h1 : m < 2 ^ (m.log2 + 1) := Nat.lt_log2_self
    have h2 : n < 2 ^ (n.log2 + 1) := Nat.lt_log2_self
    have h3 : m * n < 2 ^ (m.log2 + n.log2 + 1 + 1) := by
      have := Nat.mul_lt_mul'' h1 h2
      rw [← Nat.pow_add] at this
      rwa [show m.log2 + 1 + (n.log2 + 1) = m.log2 + n.log2 + 1 + 1 by omega] at this
    have := (Nat.log2_lt h).2 h3
    omega
  obtain ⟨m', p', hr⟩ := read_finite (s ^^ t) (m * n) (i + j) (by omega)
  refine ⟨_, _, m', p', e, ?_, hr⟩
  unfold F
  rw [e]
  exact cn_notN (by unfold isN; rw [hr]; rfl)

theorem xor_top (r : Nat) (h : r < 2 ^ 63) : r ^^^ 2 ^ 63 = 2 ^ 63 + r := by
  have e : 2 ^ 63 + r = 2 ^ 63 ||| r := by
    have := Nat.two_pow_add_eq_or_of_lt h 1
    rwa [Nat.mul_one] at this
  rw [e]
  apply Nat.eq_of_testBit_eq
  intro j
  rw [Nat.testBit_xor, Nat.testBit_or, Nat.testBit_two_pow]
  by_cases hj : 63 = j
  · subst hj; rw [Nat.testBit_lt_two_pow h]; rfl
  · simp [hj]
theorem fneg_word (s : Bool) (r : Nat) (h : r < 9223372036854775808) : fneg (double.word (!s) r) = double.word s r := by
  have w : double.signWeight = 2 ^ 63 := by decide +kernel
  have t := xor_top r h
  unfold Format.word
  rw [w]
  show _ ^^^ 2 ^ 63 = _
  cases s
  · simp only [Bool.not_false, if_true]
    rw [← t, Nat.xor_assoc, Nat.xor_self, Nat.xor_zero]; rfl
  · simp only [Bool.not_true, Bool.false_eq_true, if_false, if_true]
    exact t
theorem nearest_word (m : Nat) (i : Int) : ∃ r, r ≤ 2047 * 4503599627370496 ∧ ∀ s, double.nearest s m i = double.word s r := by
  by_cases h : m = 0
  · subst h; exact ⟨0, by omega, fun s => by simp [Format.nearest]⟩
  · exact ⟨_, Nat.min_le_right _ _, fun s => (nearest_eq s m i h).trans (by rw [show ∀ n d, Toward.even.cut s n d = Toward.even.cut false n d from fun _ _ => rfl])⟩
theorem word_notN (s : Bool) (r : Nat) (h : r ≤ 2047 * 4503599627370496) : isN (double.word s r) = false := by
  by_cases h' : r < 2047 * 4503599627370496
  · unfold isN
    rw [read_word s r h']
    split <;> rfl
  · have : r = 2047 * 4503599627370496 := by omega
    subst this
    cases s <;> decide +kernel
theorem nearest_notN (s : Bool) (m : Nat) (i : Int) : isN (double.nearest s m i) = false := by
  obtain ⟨r, hr, e⟩ := nearest_word m i
  rw [e]; exact word_notN s r hr
theorem F_of {op : BinOp} {x y : Nat} {s : Bool} {m : Nat} {i : Int} (h : fop op x y = some (double.nearest s m i)) : F op x y = double.nearest s m i := by
  unfold F; rw [h]; exact cn_notN (nearest_notN s m i)
theorem order_refl {x : Nat} (h : isN x = false) : double.order x x = some .eq := by
  unfold isN at h
  unfold Format.order
  cases hx : double.read x with
  | nan s t => rw [hx] at h; cases h
  | infinity s => simp [Datum.order]
  | number s m i => simp [Datum.order]
theorem signed_neg (s : Bool) (m k : Nat) : signed (!s) m k = - signed s m k := by cases s <;> simp [signed]
theorem sub_anti {P Q : Nat} {s : Bool} {m : Nat} {i : Int} {t : Bool} {n : Nat} {j : Int} (hP : double.read P = .number s m i) (hQ : double.read Q = .number t n j) :
    double.order (F .sub P Q) (Fneg (F .sub Q P)) = some .eq ∧ isN (F .sub P Q) = false := by
  obtain ⟨T, hT⟩ : ∃ T, T = signed s m (i - min i j).toNat + signed (!t) n (j - min i j).toNat := ⟨_, rfl⟩
  have e1 : fop .sub P Q = some (double.nearest (if T = 0 then s && !t else decide (T < 0)) T.natAbs (min i j)) := by
    show ((double.read P).sum (double.read Q).opposite).map double.write = _
    rw [hP, hQ, hT]; rfl
  have e2 : fop .sub Q P = some (double.nearest (if T = 0 then t && !s else decide (0 < T)) T.natAbs (min i j)) := by
    show ((double.read Q).sum (double.read P).opposite).map double.write = _
    rw [hP, hQ]
    have h1 : signed t n (j - min i j).toNat + signed (!s) m (i - min i j).toNat = -T := by rw [hT, signed_neg, signed_neg]; omega
    simp only [Datum.opposite, Datum.sum, Option.map_some, Int.min_comm j i, h1, Format.write, Int.natAbs_neg]
    congr 2
    by_cases h0 : T = 0
    · simp [h0]
    · rw [if_neg (by omega), if_neg h0]; congr 1; exact propext (by omega)
  rw [F_of e1, F_of e2]
  obtain ⟨r, hr, e⟩ := nearest_word T.natAbs (min i j)
  rw [e, e]
  refine ⟨?_, word_notN _ _ hr⟩
  by_cases h0 : T = 0
  · have hr0 : r = 0 := by
      have h1 := e false
      rw [h0] at h1
      have h2 : double.nearest false (0 : Int).natAbs (min i j) = 0 := by simp [Format.nearest, Format.word]
      rw [h2] at h1
      have h3 : double.word false r = r := rfl
      omega
    rw [if_pos h0, if_pos h0, hr0]
    cases s <;> cases t <;> decide +kernel
  · rw [if_neg h0, if_neg h0]
    have hd : decide (0 < T) = !decide (T < 0) := by
      by_cases h : T < 0
      · simp [h]; omega
      · simp [h]; omega
    rw [hd]
    unfold Fneg
    rw [fneg_word _ r (by omega), cn_notN (word_notN _ r hr)]
    exact order_refl (word_notN _ r hr)

theorem mul_pow {a k : Nat} {s : Bool} {m : Nat} {i j : Int} (ha : double.read a = .number s m i) (hk : double.read k = .number false 4503599627370496 j) : F .mul a k = double.nearest s m (i + j + 52) := by
  have e : fop .mul a k = some (double.nearest s (m * 4503599627370496) (i + j)) := by
    show ((double.read a).product (double.read k)).map double.write = _
    rw [ha, hk]
    simp [Datum.product, Format.write]
  rw [F_of e, show m * 4503599627370496 = m <<< 52 by rw [Nat.shiftLeft_eq], near_shift]
  rfl
theorem quo_pow {a k : Nat} {s : Bool} {m : Nat} {i j : Int} (ha : double.read a = .number s m i) (hm : m < 9007199254740992) (hk : double.read k = .number false 4503599627370496 j) : F .quo a k = double.nearest s m (i - j - 52) := by
  have hl : m.log2 ≤ 52 := by
    by_cases h : m = 0
    · subst h; decide
    · have := (Nat.log2_lt h (k := 53)).2 hm
      omega
  have hx : (4503599627370496 : Nat).log2 = 52 := by decide +kernel
  obtain ⟨c, hc⟩ : ∃ c, 54 + 52 - m.log2 = 52 + c := ⟨54 - m.log2, by omega⟩
  have e : fop .quo a k = some (double.nearest s (m <<< (c + 1)) (i - j - (52 + c : Nat) - 1)) := by
    show ((double.read a).quotient 54 (double.read k)).map double.write = _
    rw [ha, hk]
    simp only [Datum.quotient, hx, hc]
    rw [if_neg (by omega)]
    have d1 : m <<< (52 + c) = (m <<< c) * 4503599627370496 := by
      rw [Nat.shiftLeft_eq, Nat.shiftLeft_eq, Nat.pow_add, show (4503599627370496 : Nat) = 2 ^ 52 from rfl, Nat.mul_assoc, Nat.mul_comm (2 ^ 52)]
    have d2 : m <<< (52 + c) / 4503599627370496 = m <<< c := by rw [d1]; exact Nat.mul_div_cancel _ (by omega)
    have d3 : m <<< (52 + c) % 4503599627370496 = 0 := by rw [d1]; exact Nat.mul_mod_left _ _
    rw [d2, d3]
    have d4 : 2 * (m <<< c) + (0 != 0 : Bool).toNat = m <<< (c + 1) := by rw [Nat.shiftLeft_eq, Nat.shiftLeft_eq, Nat.pow_succ]; simp [Nat.mul_comm, Nat.mul_left_comm]
    have d5 : (s ^^ false) = s := by cases s <;> rfl
    simp only [Option.map_some, Format.write]
    rw [d4, d5]
  rw [F_of e, near_shift]
  congr 1
  omega
theorem read_four : double.read 4616189618054758400 = .number false 4503599627370496 (-50) := by decide +kernel
theorem read_two : double.read 4611686018427387904 = .number false 4503599627370496 (-51) := by decide +kernel
theorem read_half : double.read 4602678819172646912 = .number false 4503599627370496 (-53) := by decide +kernel
theorem read_eight : double.read 4620693217682128896 = .number false 4503599627370496 (-49) := by decide +kernel
theorem scale_four {a k : Nat} (ha : Small a) (hk : k = 4611686018427387904 ∨ k = 4602678819172646912) : F .mul (F .mul a 4616189618054758400) k = F .mul a (F .mul 4616189618054758400 k) := by
  obtain ⟨s, m, i, e, hm, h0, h1, _⟩ := ha
  rw [mul_pow e read_four]
  obtain ⟨d, p, hr, hd⟩ := read_exact s m (i + -50 + 52) hm (by omega) (by omega)
  rcases hk with rfl | rfl
  · rw [mul_pow hr read_two, near_shift, show F .mul 4616189618054758400 4611686018427387904 = 4620693217682128896 by decide +kernel, mul_pow e read_eight]
    congr 1; omega
  · rw [mul_pow hr read_half, near_shift, show F .mul 4616189618054758400 4602678819172646912 = 4611686018427387904 by decide +kernel, mul_pow e read_two]
    congr 1; omega
theorem over_scale {a k : Nat} (ha : Small a) (hk : k = 4611686018427387904 ∨ k = 4602678819172646912) : F .quo a k = F .mul a (F .quo 4607182418800017408 k) := by
  obtain ⟨s, m, i, e, hm, h0, h1, _⟩ := ha
  rcases hk with rfl | rfl
  · rw [quo_pow e hm read_two, show F .quo 4607182418800017408 4611686018427387904 = 4602678819172646912 by decide +kernel, mul_pow e read_half]
    congr 1; omega
  · rw [quo_pow e hm read_half, show F .quo 4607182418800017408 4602678819172646912 = 4611686018427387904 by decide +kernel, mul_pow e read_two]
    congr 1; omega
theorem cleanV_twice (x : Nat) : cleanV (cleanV x) = cleanV x := by
  have h0 : cleanV 0 = 0 := by decide +kernel
  by_cases h : cleanB x = true
  · have : cleanV x = 0 := by unfold cleanV; rw [if_pos h]
    rw [this, h0]
  · have : cleanV x = x := by unfold cleanV; rw [if_neg h]
    rw [this, this]
end Go.Proofs.Ytkfmpdoendggjaa
