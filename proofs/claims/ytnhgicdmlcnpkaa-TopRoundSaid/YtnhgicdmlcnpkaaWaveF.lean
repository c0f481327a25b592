/- Waves: the program's rows stand close to the exact sums. -/
import Derived.Test.YtnhgicdmlcnpkaaWaveE
namespace Go.Proofs.Ytnhgicdmlcnpkaa
open Go.RowKit Ev Flt
set_option linter.unusedVariables false
set_option linter.unusedSimpArgs false
set_option maxRecDepth 20000
set_option maxHeartbeats 4000000

theorem two_ge : ∀ k : Nat, (1208925819614629174706176 : Rat) ≤ ((2 ^ (k + 80) : Nat) : Rat) := fun k => by
  have h : 2 ^ 80 ≤ 2 ^ (k + 80) := Nat.pow_le_pow_right (by decide) (by omega)
  have e : (1208925819614629174706176 : Rat) = ((1208925819614629174706176 : Nat) : Rat) := rfl
  rw [e]
  refine Rat.natCast_le_natCast.2 ?_
  have e2 : (2 : Nat) ^ 80 = 1208925819614629174706176 := by decide
  omega
theorem U_ge : (1208925819614629174706176 : Rat) ≤ U := by
  obtain ⟨κ, hκ, e⟩ := U_nat
  have h := two_ge (κ - 80)
  rw [show κ - 80 + 80 = κ by omega, ← e] at h
  exact h
theorem h0_pos : 0 ≤ h0 := by
  have h := h0_U
  have hU := U_pos
  refine Rat.le_of_mul_le_mul_right (c := U) ?_ hU
  rw [h]; grind
theorem h0_le : h0 ≤ 1 / 2417851639229258349412352 := by
  have h1 : (1208925819614629174706176 : Rat) * h0 ≤ U * h0 := Rat.mul_le_mul_of_nonneg_right U_ge h0_pos
  rw [Rat.mul_comm U, h0_U] at h1
  grind
theorem one_prod {p o : Nat} {t O M ε : Rat} (fp : Flt.Fin p) (fo : Flt.Fin o) (n : Nr (val p) t (1 / 562949953421312)) (b : Bd t 1) (m : Nr (val o) O ε) (B : Bd O M)
    (e0 : 0 ≤ ε) (e1 : 16 * ε ≤ M) (M1 : 1 ≤ M) (M2 : M ≤ 1125899906842624) : Flt.Fin (F .mul p o) ∧ Nr (val (F .mul p o)) (t * O) (ε + 19 / 9007199254740992 * M) := by
  have hh := h0_le
  have hp := h0_pos
  have bp : Bd (val p) (1 + 1 / 562949953421312) := by unfold Bd Nr at *; grind
  have bo : Bd (val o) (M + ε) := by unfold Bd Nr at *; grind
  have q1 := mul_Bd bp bo
  have q2 := mul_Bd n.bd bo
  have q3 := mul_Bd b m.bd
  obtain ⟨f, r⟩ := mul_err fp fo q1 (by grind)
  refine ⟨f, ?_⟩
  have hu : u = 1 / 9007199254740992 := rfl
  rw [hu] at r
  generalize val (F .mul p o) = z at *
  generalize val p = x at *
  generalize val o = y at *
  unfold Nr Bd at *
  constructor <;> grind
theorem times_near {p1 p2 o1 o2 : Nat} {t1 t2 O1 O2 M ε : Rat} (f1 : Flt.Fin p1) (f2 : Flt.Fin p2) (g1 : Flt.Fin o1) (g2 : Flt.Fin o2) (n1 : Nr (val p1) t1 (1 / 562949953421312)) (n2 : Nr (val p2) t2 (1 / 562949953421312))
    (b1 : Bd t1 1) (b2 : Bd t2 1) (m1 : Nr (val o1) O1 ε) (m2 : Nr (val o2) O2 ε) (B1 : Bd O1 M) (B2 : Bd O2 M) (e0 : 0 ≤ ε) (e1 : 16 * ε ≤ M) (M1 : 1 ≤ M) (M2 : M ≤ 1125899906842624) :
    Flt.Fin (cm1 p1 p2 o1 o2) ∧ Flt.Fin (cm2 p1 p2 o1 o2) ∧ Nr (val (cm1 p1 p2 o1 o2)) (t1 * O1 - t2 * O2) (2 * ε + 42 / 9007199254740992 * M) ∧ Nr (val (cm2 p1 p2 o1 o2)) (t1 * O2 + t2 * O1) (2 * ε + 42 / 9007199254740992 * M) := by
  have hh := h0_le
  have hp := h0_pos
  have hu : u = 1 / 9007199254740992 := rfl
  unfold cm1 cm2
  obtain ⟨a1, r1⟩ := one_prod f1 g1 n1 b1 m1 B1 e0 e1 M1 M2
  obtain ⟨a2, r2⟩ := one_prod f2 g2 n2 b2 m2 B2 e0 e1 M1 M2
  obtain ⟨a3, r3⟩ := one_prod f1 g2 n1 b1 m2 B2 e0 e1 M1 M2
  obtain ⟨a4, r4⟩ := one_prod f2 g1 n2 b2 m1 B1 e0 e1 M1 M2
  have q1 := mul_Bd b1 B1
  have q2 := mul_Bd b2 B2
  have q3 := mul_Bd b1 B2
  have q4 := mul_Bd b2 B1
  generalize F .mul p1 o1 = P1 at *
  generalize F .mul p2 o2 = P2 at *
  generalize F .mul p1 o2 = P3 at *
  generalize F .mul p2 o1 = P4 at *
  generalize t1 * O1 = T1 at *
  generalize t2 * O2 = T2 at *
  generalize t1 * O2 = T3 at *
  generalize t2 * O1 = T4 at *
  obtain ⟨c1, s1⟩ := sub_err a1 a2 (M := 3 * M) (by unfold Nr Bd at *; constructor <;> grind) (by grind)
  obtain ⟨c2, s2⟩ := add_err a3 a4 (M := 3 * M) (by unfold Nr Bd at *; constructor <;> grind) (by grind)
  rw [hu] at s1 s2
  refine ⟨c1, c2, ?_, ?_⟩
  · unfold Nr Bd at *; constructor <;> grind
  · unfold Nr Bd at *; constructor <;> grind
theorem add_near {e t : Nat} {E T B M ε : Rat} (fe : Flt.Fin e) (ft : Flt.Fin t) (ne : Nr (val e) E ε) (nt : Nr (val t) T (2 * ε + 42 / 9007199254740992 * M)) (nb : Nr T B (1 / 9007199254740992 * M)) (bE : Bd E M) (bT : Bd T (2 * M))
    (e0 : 0 ≤ ε) (e1 : 16 * ε ≤ M) (M1 : 1 ≤ M) (M2 : M ≤ 1125899906842624) : Flt.Fin (F .add e t) ∧ Flt.Fin (F .sub e t) ∧ Nr (val (F .add e t)) (E + B) (3 * ε + 64 / 9007199254740992 * M) ∧ Nr (val (F .sub e t)) (E - B) (3 * ε + 64 / 9007199254740992 * M) := by
  have hh := h0_le
  have hp := h0_pos
  have hu : u = 1 / 9007199254740992 := rfl
  obtain ⟨c1, s1⟩ := add_err fe ft (M := 4 * M) (by unfold Nr Bd at *; constructor <;> grind) (by grind)
  obtain ⟨c2, s2⟩ := sub_err fe ft (M := 4 * M) (by unfold Nr Bd at *; constructor <;> grind) (by grind)
  rw [hu] at s1 s2
  refine ⟨c1, c2, ?_, ?_⟩
  · unfold Nr Bd at *; constructor <;> grind
  · unfold Nr Bd at *; constructor <;> grind
/-- The error after so many levels. -/
def Er : Nat → Rat → Rat → Rat
  | 0, ε, M => ε
  | m + 1, ε, M => 3 * Er m ε M + 64 / 9007199254740992 * (((2 ^ m : Nat) : Rat) * (2 * M))
theorem Er_pos {ε M : Rat} (h : 0 ≤ ε) (hM : 1 ≤ M) : ∀ m, 0 ≤ Er m ε M
  | 0 => h
  | m + 1 => by
    have ih := Er_pos h hM m
    have h2 : 0 ≤ ((2 ^ m : Nat) : Rat) * (2 * M) := Rat.mul_nonneg Rat.natCast_nonneg (by grind)
    show 0 ≤ 3 * Er m ε M + 64 / 9007199254740992 * (((2 ^ m : Nat) : Rat) * (2 * M))
    grind
structure Apx (X : Nat → Nat × Nat) (Y Z : Nat → Rat) (n : Nat) (ε : Rat) : Prop where
  f1 : ∀ j, j < n → Flt.Fin (X j).1
  f2 : ∀ j, j < n → Flt.Fin (X j).2
  n1 : ∀ j, j < n → Nr (val (X j).1) (Y j) ε
  n2 : ∀ j, j < n → Nr (val (X j).2) (Z j) ε
theorem two_le32 {m : Nat} (h : m < 6) : (1 : Rat) ≤ ((2 ^ m : Nat) : Rat) ∧ ((2 ^ m : Nat) : Rat) ≤ 32 := by
  have h1 : 1 ≤ 2 ^ m := Nat.two_pow_pos m
  have h2 : 2 ^ m ≤ 2 ^ 5 := Nat.pow_le_pow_right (by decide) (by omega)
  exact ⟨Rat.natCast_le_natCast.2 h1, Rat.natCast_le_natCast.2 h2⟩
theorem tr_0 : tr 0 = 1 := by
  unfold tr
  have : ct 0 = 1152921504606846976 := by unfold ct; decide
  rw [this]
  have c : ((1152921504606846976 : Int) : Rat) = 1152921504606846976 := rfl
  rw [c]; grind
theorem ti_0 (b : Bool) : ti b 0 = 0 := by
  unfold ti
  have : ct (bif b then 0 + 48 else 0 + 16) = 0 := by unfold ct; cases b <;> decide
  rw [this, Rat.intCast_zero]; grind
theorem wv_near (b : Bool) : ∀ m : Nat, m ≤ 6 → ∀ {X : Nat → Nat × Nat} {Y Z : Nat → Rat} {M ε : Rat}, Apx X Y Z (2 ^ m) ε → (∀ j, j < 2 ^ m → Bd (Y j) M ∧ Bd (Z j) M) → 0 ≤ ε → 1 ≤ M → M ≤ 17592186044416 → 16 * Er m ε M ≤ M →
    Apx (wv b m X) (Dr b m Y Z) (Di b m Y Z) (2 ^ m) (Er m ε M)
  | 0, _, X, Y, Z, M, ε, h, hM, e0, M1, M2, hE => by
    have e1 : ∀ j, j < 2 ^ 0 → Dr b 0 Y Z j = Y j := fun j hj => by
      obtain rfl : j = 0 := by omega
      show (0 : Rat) + (Y 0 * tr (0 * 0 * 2 ^ (6 - 0)) - Z 0 * ti b (0 * 0 * 2 ^ (6 - 0))) = Y 0
      rw [show 0 * 0 * 2 ^ (6 - 0) = 0 from rfl, tr_0, ti_0]; grind
    have e2 : ∀ j, j < 2 ^ 0 → Di b 0 Y Z j = Z j := fun j hj => by
      obtain rfl : j = 0 := by omega
      show (0 : Rat) + (Y 0 * ti b (0 * 0 * 2 ^ (6 - 0)) + Z 0 * tr (0 * 0 * 2 ^ (6 - 0))) = Z 0
      rw [show 0 * 0 * 2 ^ (6 - 0) = 0 from rfl, tr_0, ti_0]; grind
    exact ⟨h.f1, h.f2, fun j hj => by rw [e1 j hj]; exact h.n1 j hj, fun j hj => by rw [e2 j hj]; exact h.n2 j hj⟩
  | m + 1, hm, X, Y, Z, M, ε, h, hM, e0, M1, M2, hE => by
    have hm' : m < 6 := by omega
    obtain ⟨p1, p2⟩ := two_le32 hm'
    have hp : 2 ^ (m + 1) = 2 * 2 ^ m := by rw [Nat.pow_succ]; omega
    have E0 := Er_pos e0 M1 m
    have eE : Er (m + 1) ε M = 3 * Er m ε M + 64 / 9007199254740992 * (((2 ^ m : Nat) : Rat) * (2 * M)) := rfl
    have hMM1 : 2 * M ≤ ((2 ^ m : Nat) : Rat) * (2 * M) := by
      have := Rat.mul_le_mul_of_nonneg_right (c := 2 * M) p1 (by grind)
      grind
    have hMM2 : ((2 ^ m : Nat) : Rat) * (2 * M) ≤ 32 * (2 * M) := Rat.mul_le_mul_of_nonneg_right p2 (by grind)
    have hEm : 16 * Er m ε M ≤ M := by rw [eE] at hE; grind
    have ev := wv_near b m (by omega) (X := fun j => X (2 * j)) (Y := fun j => Y (2 * j)) (Z := fun j => Z (2 * j)) (M := M) (ε := ε)
      ⟨fun j hj => h.f1 _ (by omega), fun j hj => h.f2 _ (by omega), fun j hj => h.n1 _ (by omega), fun j hj => h.n2 _ (by omega)⟩ (fun j hj => hM _ (by omega)) e0 M1 M2 hEm
    have od := wv_near b m (by omega) (X := fun j => X (2 * j + 1)) (Y := fun j => Y (2 * j + 1)) (Z := fun j => Z (2 * j + 1)) (M := M) (ε := ε)
      ⟨fun j hj => h.f1 _ (by omega), fun j hj => h.f2 _ (by omega), fun j hj => h.n1 _ (by omega), fun j hj => h.n2 _ (by omega)⟩ (fun j hj => hM _ (by omega)) e0 M1 M2 hEm
    have key : ∀ k, k < 2 ^ m → ∀ s : Bool, Flt.Fin (bif s then highC (rtB b (m + 1)) (wv b m fun j => X (2 * j)) (wv b m fun j => X (2 * j + 1)) k else lowC (rtB b (m + 1)) (wv b m fun j => X (2 * j)) (wv b m fun j => X (2 * j + 1)) k).1 ∧
        Flt.Fin (bif s then highC (rtB b (m + 1)) (wv b m fun j => X (2 * j)) (wv b m fun j => X (2 * j + 1)) k else lowC (rtB b (m + 1)) (wv b m fun j => X (2 * j)) (wv b m fun j => X (2 * j + 1)) k).2 ∧
        Nr (val (bif s then highC (rtB b (m + 1)) (wv b m fun j => X (2 * j)) (wv b m fun j => X (2 * j + 1)) k else lowC (rtB b (m + 1)) (wv b m fun j => X (2 * j)) (wv b m fun j => X (2 * j + 1)) k).1) (Dr b (m + 1) Y Z (bif s then k + 2 ^ m else k)) (Er (m + 1) ε M) ∧
        Nr (val (bif s then highC (rtB b (m + 1)) (wv b m fun j => X (2 * j)) (wv b m fun j => X (2 * j + 1)) k else lowC (rtB b (m + 1)) (wv b m fun j => X (2 * j)) (wv b m fun j => X (2 * j + 1)) k).2) (Di b (m + 1) Y Z (bif s then k + 2 ^ m else k)) (Er (m + 1) ε M) := fun k hk s => by
      obtain ⟨w1, w2, w3, w4⟩ := tw_near b hm' hk
      obtain ⟨E1, E2⟩ := D_Bd b (m := m) (Y := fun j => Y (2 * j)) (Z := fun j => Z (2 * j)) (M := M) (fun j hj => hM _ (by omega)) k
      obtain ⟨O1, O2⟩ := D_Bd b (m := m) (Y := fun j => Y (2 * j + 1)) (Z := fun j => Z (2 * j + 1)) (M := M) (fun j hj => hM _ (by omega)) k
      obtain ⟨o1, o2⟩ := odd_near b hm' hM k
      obtain ⟨l1, l2⟩ := D_low b hm' Y Z k
      obtain ⟨h1, h2⟩ := D_high b hm' Y Z k
      have t1 := tr_Bd (k * 2 ^ (5 - m))
      have t2 := ti_Bd b (k * 2 ^ (5 - m))
      obtain ⟨c1, c2, c3, c4⟩ := times_near w1 w2 (od.f1 k hk) (od.f2 k hk) w3 w4 t1 t2 (od.n1 k hk) (od.n2 k hk) O1 O2 E0 (by grind) (by grind) (by grind)
      have x1 := (mul_Bd t1 O1).sub (mul_Bd t2 O2)
      have x2 := (mul_Bd t1 O2).add (mul_Bd t2 O1)
      obtain ⟨d1, d2, d3, d4⟩ := add_near (ev.f1 k hk) c1 (ev.n1 k hk) c3 (o1.le (by grind)) E1 (x1.le (by grind)) E0 (by grind) (by grind) (by grind)
      obtain ⟨d5, d6, d7, d8⟩ := add_near (ev.f2 k hk) c2 (ev.n2 k hk) c4 (o2.le (by grind)) E2 (x2.le (by grind)) E0 (by grind) (by grind) (by grind)
      cases s
      · simp only [cond_false]
        rw [l1, l2, eE]
        exact ⟨d1, d5, d3, d7⟩
      · simp only [cond_true]
        rw [h1, h2, eE]
        exact ⟨d2, d6, d4, d8⟩
    have lo : ∀ k, k < 2 ^ m → wv b (m + 1) X k = lowC (rtB b (m + 1)) (wv b m fun j => X (2 * j)) (wv b m fun j => X (2 * j + 1)) k := fun k hk => by
      show (if k < 2 ^ m then _ else _) = _
      rw [if_pos hk]
    have hi : ∀ k, ¬ k < 2 ^ m → wv b (m + 1) X k = highC (rtB b (m + 1)) (wv b m fun j => X (2 * j)) (wv b m fun j => X (2 * j + 1)) (k - 2 ^ m) := fun k hk => by
      show (if k < 2 ^ m then _ else _) = _
      rw [if_neg hk]
    refine ⟨fun k hk => ?_, fun k hk => ?_, fun k hk => ?_, fun k hk => ?_⟩ <;> by_cases g : k < 2 ^ m
    · rw [lo k g]; exact (key k g false).1
    · rw [hi k g]; exact (key (k - 2 ^ m) (by omega) true).1
    · rw [lo k g]; exact (key k g false).2.1
    · rw [hi k g]; exact (key (k - 2 ^ m) (by omega) true).2.1
    · rw [lo k g]; exact (key k g false).2.2.1
    · have := (key (k - 2 ^ m) (by omega) true).2.2.1
      simp only [cond_true] at this
      rw [Nat.sub_add_cancel (by omega)] at this
      rw [hi k g]; exact this
    · rw [lo k g]; exact (key k g false).2.2.2
    · have := (key (k - 2 ^ m) (by omega) true).2.2.2
      simp only [cond_true] at this
      rw [Nat.sub_add_cancel (by omega)] at this
      rw [hi k g]; exact this
end Go.Proofs.Ytnhgicdmlcnpkaa
