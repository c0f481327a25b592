/- Waves of whole numbers in rows of one, two and four: exact. -/
import Derived.Test.YtnhgicdmlcnpkaaWaveN
import Derived.Test.YtnhgicdmlcnpkaaFltInt
namespace Go.Proofs.Ytnhgicdmlcnpkaa
open Go.RowKit Ev Flt
set_option linter.unusedVariables false
set_option linter.unusedSimpArgs false
set_option maxRecDepth 20000
set_option maxHeartbeats 4000000

/-- The turns of rows of two and of four. -/
def twI (b : Bool) (k : Nat) : Int × Int := if k = 0 then (1, 0) else (0, if b = true then 1 else -1)
def finX (x : Nat) : Bool := match Ieee.double.read x with | .number .. => true | _ => false
theorem finX_ok {x : Nat} (h : finX x = true) : Flt.Fin x := by
  unfold finX at h
  split at h
  · exact ⟨_, _, _, by assumption⟩
  · cases h
def bitX (n : Nat) : Nat := 2 ^ n
theorem bitX_eq (n : Nat) : bitX n = 2 ^ n := rfl
def ivB (x : Nat) (z : Int) : Bool := finX x && decide (V x = z * (bitX 1074 : Nat))
theorem ivB_ok {x : Nat} {z : Int} (h : ivB x z = true) : Iv x z := by
  unfold ivB at h
  rw [Bool.and_eq_true, decide_eq_true_eq] at h
  obtain ⟨κ, hκ, hU⟩ := U_nat
  exact iv_of hU (finX_ok h.1) (by rw [h.2, bitX_eq, hκ])
theorem tw_iv : ∀ b : Bool, ∀ m : Nat, m < 2 → ∀ k : Nat, k < 2 ^ m → (ivB (pwC (rtB b (m + 1)) k).1 (twI b k).1 && ivB (pwC (rtB b (m + 1)) k).2 (twI b k).2) = true := by decide +kernel
theorem twI_bd (b : Bool) (k : Nat) : (twI b k = (1, 0)) ∨ (twI b k = (0, 1)) ∨ (twI b k = (0, -1)) := by
  unfold twI
  split
  · exact .inl rfl
  · cases b
    · exact .inr (.inr rfl)
    · exact .inr (.inl rfl)
def iw (b : Bool) : Nat → (Nat → Int × Int) → Nat → Int × Int
  | 0, X => X
  | m + 1, X => fun k => if k < 2 ^ m
    then ((iw b m (fun j => X (2 * j)) k).1 + ((twI b k).1 * (iw b m (fun j => X (2 * j + 1)) k).1 - (twI b k).2 * (iw b m (fun j => X (2 * j + 1)) k).2),
      (iw b m (fun j => X (2 * j)) k).2 + ((twI b k).1 * (iw b m (fun j => X (2 * j + 1)) k).2 + (twI b k).2 * (iw b m (fun j => X (2 * j + 1)) k).1))
    else ((iw b m (fun j => X (2 * j)) (k - 2 ^ m)).1 - ((twI b (k - 2 ^ m)).1 * (iw b m (fun j => X (2 * j + 1)) (k - 2 ^ m)).1 - (twI b (k - 2 ^ m)).2 * (iw b m (fun j => X (2 * j + 1)) (k - 2 ^ m)).2),
      (iw b m (fun j => X (2 * j)) (k - 2 ^ m)).2 - ((twI b (k - 2 ^ m)).1 * (iw b m (fun j => X (2 * j + 1)) (k - 2 ^ m)).2 + (twI b (k - 2 ^ m)).2 * (iw b m (fun j => X (2 * j + 1)) (k - 2 ^ m)).1))
/-- A complex float of whole numbers up to a bound. -/
structure Iz (x : Nat × Nat) (z : Int × Int) (M : Int) : Prop where
  a : Iv x.1 z.1
  b : Iv x.2 z.2
  a0 : -M ≤ z.1
  a1 : z.1 ≤ M
  b0 : -M ≤ z.2
  b1 : z.2 ≤ M
theorem iz_step {e o p : Nat × Nat} {E O T : Int × Int} {M : Int} (he : Iz e E M) (ho : Iz o O M) (hp : Iv p.1 T.1 ∧ Iv p.2 T.2) (hT : T = (1, 0) ∨ T = (0, 1) ∨ T = (0, -1)) (hM : M ≤ 1000000000) :
    Iz (F .add e.1 (cm1 p.1 p.2 o.1 o.2), F .add e.2 (cm2 p.1 p.2 o.1 o.2)) (E.1 + (T.1 * O.1 - T.2 * O.2), E.2 + (T.1 * O.2 + T.2 * O.1)) (2 * M) ∧
    Iz (F .sub e.1 (cm1 p.1 p.2 o.1 o.2), F .sub e.2 (cm2 p.1 p.2 o.1 o.2)) (E.1 - (T.1 * O.1 - T.2 * O.2), E.2 - (T.1 * O.2 + T.2 * O.1)) (2 * M) := by
  obtain ⟨x1, x2, x3, x4, x5, x6⟩ := he
  obtain ⟨y1, y2, y3, y4, y5, y6⟩ := ho
  obtain ⟨z1, z2⟩ := hp
  have c : (T.1 * O.1 = O.1 ∧ T.2 * O.2 = 0 ∧ T.1 * O.2 = O.2 ∧ T.2 * O.1 = 0) ∨ (T.1 * O.1 = 0 ∧ T.2 * O.2 = O.2 ∧ T.1 * O.2 = 0 ∧ T.2 * O.1 = O.1) ∨ (T.1 * O.1 = 0 ∧ T.2 * O.2 = -O.2 ∧ T.1 * O.2 = 0 ∧ T.2 * O.1 = -O.1) := by
    rcases hT with rfl | rfl | rfl
    · left; simp
    · right; left; simp
    · right; right; simp
  have m1 := iv_mul z1 y1 (by omega)
  have m2 := iv_mul z2 y2 (by omega)
  have m3 := iv_mul z1 y2 (by omega)
  have m4 := iv_mul z2 y1 (by omega)
  have t1 := iv_sub m1 m2 (by omega)
  have t2 := iv_add m3 m4 (by omega)
  exact ⟨⟨iv_add x1 t1 (by omega), iv_add x2 t2 (by omega), by show _ ≤ E.1 + _; omega, by show E.1 + _ ≤ _; omega, by show _ ≤ E.2 + _; omega, by show E.2 + _ ≤ _; omega⟩,
    ⟨iv_sub x1 t1 (by omega), iv_sub x2 t2 (by omega), by show _ ≤ E.1 - _; omega, by show E.1 - _ ≤ _; omega, by show _ ≤ E.2 - _; omega, by show E.2 - _ ≤ _; omega⟩⟩
def gro (M : Int) : Nat → Int
  | 0 => M
  | m + 1 => 2 * gro M m
theorem wv_iz (b : Bool) {M : Int} (h0 : 0 ≤ M) (hM : M ≤ 100000000) : ∀ m : Nat, m ≤ 2 → ∀ {X : Nat → Nat × Nat} {Y : Nat → Int × Int}, (∀ j, j < 2 ^ m → Iz (X j) (Y j) M) → ∀ k, k < 2 ^ m → Iz (wv b m X k) (iw b m Y k) (gro M m)
  | 0, _, X, Y, h, k, hk => h k hk
  | m + 1, hm, X, Y, h, k, hk => by
    have hp : 2 ^ (m + 1) = 2 * 2 ^ m := by rw [Nat.pow_succ]; omega
    have hg : gro M m ≤ 1000000000 := by
      have : m = 0 ∨ m = 1 := by omega
      rcases this with rfl | rfl
      · show M ≤ _; omega
      · show 2 * M ≤ _; omega
    have ev := wv_iz b h0 hM m (by omega) (X := fun j => X (2 * j)) (Y := fun j => Y (2 * j)) fun j hj => h _ (by omega)
    have od := wv_iz b h0 hM m (by omega) (X := fun j => X (2 * j + 1)) (Y := fun j => Y (2 * j + 1)) fun j hj => h _ (by omega)
    have tw : ∀ k, k < 2 ^ m → Iv (pwC (rtB b (m + 1)) k).1 (twI b k).1 ∧ Iv (pwC (rtB b (m + 1)) k).2 (twI b k).2 := fun k hk => by
      have := tw_iv b m (by omega) k hk
      rw [Bool.and_eq_true] at this
      exact ⟨ivB_ok this.1, ivB_ok this.2⟩
    show Iz (if k < 2 ^ m then lowC (rtB b (m + 1)) (wv b m fun j => X (2 * j)) (wv b m fun j => X (2 * j + 1)) k else highC (rtB b (m + 1)) (wv b m fun j => X (2 * j)) (wv b m fun j => X (2 * j + 1)) (k - 2 ^ m)) (if k < 2 ^ m then _ else _) (2 * gro M m)
    by_cases g : k < 2 ^ m
    · rw [if_pos g, if_pos g]
      exact (iz_step (ev k g) (od k g) (tw k g) (twI_bd b k) hg).1
    · rw [if_neg g, if_neg g]
      exact (iz_step (ev _ (by omega)) (od _ (by omega)) (tw _ (by omega)) (twI_bd b _) hg).2
theorem iw_back : ∀ m : Nat, m < 3 → ∀ i : Nat, i < 2 ^ m → ∀ Y : Nat → Int × Int, iw true m (iw false m Y) i = (((2 ^ m : Nat) : Int) * (Y i).1, ((2 ^ m : Nat) : Int) * (Y i).2) := by
  intro m hm i hi Y
  have h : m = 0 ∨ m = 1 ∨ m = 2 := by omega
  rcases h with rfl | rfl | rfl
  · have : i = 0 := by omega
    subst this
    simp [iw]
  · have : i = 0 ∨ i = 1 := by omega
    rcases this with rfl | rfl <;> simp [iw, twI] <;> omega
  · have : i = 0 ∨ i = 1 ∨ i = 2 ∨ i = 3 := by omega
    rcases this with rfl | rfl | rfl | rfl <;> simp [iw, twI] <;> omega
theorem near_iv {x : Nat} {z : Int} (h : Iv x z) (h0 : -1000000 ≤ z) (h1 : z ≤ 1000000) : nearB x = true := by
  have c1 : Iv 13920209183539462144 (-1000000) := ivB_ok (by decide +kernel)
  have c2 : Iv 4696837146684686336 1000000 := ivB_ok (by decide +kernel)
  obtain ⟨_, a2, a3⟩ := iv_cmp h c1
  obtain ⟨b1, b2, _⟩ := iv_cmp h c2
  unfold nearB
  rw [a2, a3, b1, b2]
  simp only [Bool.and_eq_true, Bool.or_eq_true, decide_eq_true_eq]
  omega
/-- Rows of whole numbers up to a thousand go forth and back. -/
theorem wave_ok {m : Nat} (hm : m < 3) {X : Nat → Nat × Nat} {Y : Nat → Int × Int} (h : ∀ j, j < 2 ^ m → Iz (X j) (Y j) 1000) :
    WaveOk (2 ^ m) X ∧ WaveOk (2 ^ m) (wvN false ((2 ^ m : Nat) : Int) X) ∧ ∀ j, j < 2 ^ m → feq (bkF (2 ^ m) (wvN true ((2 ^ m : Nat) : Int) (wvN false ((2 ^ m : Nat) : Int) X)) j).1 (X j).1 = true ∧ feq (bkF (2 ^ m) (wvN true ((2 ^ m : Nat) : Int) (wvN false ((2 ^ m : Nat) : Int) X)) j).2 (X j).2 = true := by
  have hg : gro 1000 m ≤ 4000 ∧ 0 ≤ gro 1000 m ∧ gro (gro 1000 m) m ≤ 16000 := by
    have h : m = 0 ∨ m = 1 ∨ m = 2 := by omega
    rcases h with rfl | rfl | rfl <;> decide
  have hl : lg ((2 ^ m : Nat) : Int) = m := by
    have h : m = 0 ∨ m = 1 ∨ m = 2 := by omega
    rcases h with rfl | rfl | rfl <;> decide
  have hp : pwB (2 ^ m) = true := by
    have h : m = 0 ∨ m = 1 ∨ m = 2 := by omega
    rcases h with rfl | rfl | rfl <;> decide
  have f := wv_iz false (M := 1000) (by decide) (by decide) m (by omega) h
  have g := wv_iz true hg.2.1 (by omega) m (by omega) f
  unfold wvN
  rw [hl]
  refine ⟨⟨hp, fun j hj => ?_⟩, ⟨hp, fun j hj => ?_⟩, fun j hj => ?_⟩
  · obtain ⟨a, b, a0, a1, b0, b1⟩ := h j hj
    exact ⟨near_iv a (by omega) (by omega), near_iv b (by omega) (by omega)⟩
  · obtain ⟨a, b, a0, a1, b0, b1⟩ := f j hj
    exact ⟨near_iv a (by omega) (by omega), near_iv b (by omega) (by omega)⟩
  · obtain ⟨a, b, a0, a1, b0, b1⟩ := g j hj
    obtain ⟨xa, xb, xa0, xa1, xb0, xb1⟩ := h j hj
    rw [iw_back m hm j hj] at a b
    have p1 : 1 ≤ 2 ^ m := Nat.two_pow_pos m
    have p2 : 2 ^ m ≤ 2 ^ 2 := Nat.pow_le_pow_right (by decide) (by omega)
    have hn := iv_near (z := ((2 ^ m : Nat) : Int)) (by omega)
    unfold bkF
    exact ⟨iv_feq (iv_quo a hn (by omega) (Int.mul_comm _ _) (by omega)) xa, iv_feq (iv_quo b hn (by omega) (Int.mul_comm _ _) (by omega)) xb⟩
end Go.Proofs.Ytnhgicdmlcnpkaa
