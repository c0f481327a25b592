/- Waves: what comes out is what is spread number by number. -/
import Derived.Test.YtnhgicdmlcnpkaaWaveG
import Derived.Test.YtnhgicdmlcnpkaaWaveD
namespace Go.Proofs.Ytnhgicdmlcnpkaa
open Go.RowKit Ev Flt
set_option linter.unusedVariables false
set_option linter.unusedSimpArgs false
set_option maxRecDepth 20000
set_option maxHeartbeats 4000000

theorem shr_pow {n drop : Nat} : n / (1 <<< min drop (n.log2 + 2)) = n / 2 ^ drop := by
  rw [Nat.shiftLeft_eq, Nat.one_mul]
  by_cases h : drop ≤ n.log2 + 2
  · rw [Nat.min_eq_left h]
  · rw [Nat.min_eq_right (by omega)]
    have h1 := log_lt n
    have h2 : 2 ^ (n.log2 + 1) ≤ 2 ^ (n.log2 + 2) := Nat.pow_le_pow_right (by decide) (by omega)
    have h3 : 2 ^ (n.log2 + 1) ≤ 2 ^ drop := Nat.pow_le_pow_right (by decide) (by omega)
    rw [Nat.div_eq_of_lt (by omega), Nat.div_eq_of_lt (by omega)]
theorem cut_down (n drop : Nat) : Ieee.Toward.down.cut false n drop = n / 2 ^ drop := by
  show n / (1 <<< min drop (n.log2 + 2)) + (false && _).toNat = _
  rw [shr_pow]; rfl
theorem cut_zero (s : Bool) (n drop : Nat) : Ieee.Toward.zero.cut s n drop = n / 2 ^ drop := by
  show n / (1 <<< min drop (n.log2 + 2)) + false.toNat = _
  rw [shr_pow]; rfl
/-- The whole part of a number that is not below nought. -/
theorem whole_of {m : Nat} {i : Int} {z κ : Nat} (hκ : κ = 1074) (hi : -1074 ≤ i) (h1 : z * 2 ^ κ ≤ m * 2 ^ (i + 1074).toNat) (h2 : m * 2 ^ (i + 1074).toNat < (z + 1) * 2 ^ κ) :
    (m <<< i.toNat) / 2 ^ (-i).toNat = z := by
  rw [Nat.shiftLeft_eq]
  have e : m * 2 ^ (i + 1074).toNat * 2 ^ (-i).toNat = m * 2 ^ i.toNat * 2 ^ κ := by
    rw [Nat.mul_assoc, Nat.mul_assoc, ← Nat.pow_add, ← Nat.pow_add, show (i + 1074).toNat + (-i).toNat = i.toNat + κ by omega]
  have hp := Nat.two_pow_pos (-i).toNat
  have hq := Nat.two_pow_pos κ
  have l1 : z * 2 ^ (-i).toNat * 2 ^ κ ≤ m * 2 ^ i.toNat * 2 ^ κ := by
    rw [← e, Nat.mul_right_comm]
    exact Nat.mul_le_mul_right _ h1
  have l2 : m * 2 ^ i.toNat * 2 ^ κ < (z + 1) * 2 ^ (-i).toNat * 2 ^ κ := by
    rw [← e, Nat.mul_right_comm (z + 1)]
    exact Nat.mul_lt_mul_of_pos_right h2 hp
  have g1 := Nat.le_of_mul_le_mul_right l1 hq
  have g2 := Nat.lt_of_mul_lt_mul_right l2
  exact Nat.le_antisymm (Nat.le_of_lt_succ ((Nat.div_lt_iff_lt_mul hp).2 g2)) ((Nat.le_div_iff_mul_le hp).2 g1)
theorem V_of_nat {x z κ : Nat} (hκ : κ = 1074) (hf : Flt.Fin x) (h1 : ((z * 2 ^ κ : Nat) : Int) ≤ V x) (h2 : V x < (((z + 1) * 2 ^ κ : Nat) : Int)) (h0 : 0 ≤ V x) :
    ∃ s m i, Ieee.double.read x = .number s m i ∧ (m <<< i.toNat) / 2 ^ (-i).toNat = z ∧ (0 < V x → s = false) := by
  obtain ⟨s, m, i, ex⟩ := hf
  obtain ⟨_, i0, _⟩ := read_form ex
  have v := V_sg ex
  refine ⟨s, m, i, ex, ?_, ?_⟩
  · cases s
    · unfold sg at v
      simp only [Bool.false_eq_true, if_false] at v
      rw [v] at h1 h2
      exact whole_of hκ i0 (by exact_mod_cast h1) (by exact_mod_cast h2)
    · unfold sg at v
      simp only [if_true] at v
      have hv : m * 2 ^ (i + 1074).toNat = 0 := by omega
      have hz : z * 2 ^ κ = 0 := by omega
      exact whole_of hκ i0 (by omega) (by rw [hv]; exact Nat.mul_pos (by omega) (Nat.two_pow_pos _))
  · intro hpos
    cases s
    · rfl
    · unfold sg at v
      simp only [if_true] at v
      omega
theorem signed_pos (z k : Nat) : Ieee.signed false z k = ((z * 2 ^ k : Nat) : Int) := by
  unfold Ieee.signed
  rw [Nat.shiftLeft_eq]
  rfl
theorem floor_V {x z κ : Nat} (hκ : κ = 1074) (hf : Flt.Fin x) (h1 : ((z * 2 ^ κ : Nat) : Int) ≤ V x) (h2 : V x < (((z + 1) * 2 ^ κ : Nat) : Int)) (h0 : 0 < V x) (hz : z < 9007199254740992) :
    (FloatKind.f64.decode (Ffl x)).toInt .zero = some (z : Int) := by
  obtain ⟨s, m, i, ex, e1, e2⟩ := V_of_nat hκ hf h1 h2 (by omega)
  have es := e2 h0
  subst es
  have f1 : Ffl x = cn (Ieee.double.nearest false z 0) := by
    unfold Ffl
    have : FloatKind.f64.decode x = .number false m i := ex
    rw [this]
    show cn (Ieee.double.nearest false (Ieee.Toward.down.cut false (m <<< i.toNat) (-i).toNat) 0) = _
    rw [cut_down, e1]
  obtain ⟨n1, n2⟩ := nearest_V false (m := z) (i := 0) hz (by decide) (by decide)
  rw [f1, cn_notN n1.notN]
  have hv : V (Ieee.double.nearest false z 0) = ((z * 2 ^ κ : Nat) : Int) := by
    rw [n2, signed_pos, show ((0 : Int) + 1074).toNat = κ by omega]
  have hv2 : (0 : Int) < ((2 ^ κ : Nat) : Int) := by have := Nat.two_pow_pos κ; omega
  obtain ⟨s, m', j, ex', e1', e2'⟩ := V_of_nat (z := z) hκ n1 (by rw [hv]; exact Int.le_refl _) (by rw [hv, Nat.add_mul]; omega) (by rw [hv]; omega)
  show Ieee.Datum.toInt .zero (Ieee.double.read (Ieee.double.nearest false z 0)) = _
  rw [ex']
  show some (Ieee.signed s (Ieee.Toward.zero.cut s (m' <<< j.toNat) (-j).toNat) 0) = _
  rw [cut_zero, e1']
  unfold Ieee.signed
  rw [Nat.shiftLeft_zero]
  cases s
  · rfl
  · by_cases hz0 : z = 0
    · subst hz0; rfl
    · have : 0 < V (Ieee.double.nearest false z 0) := by
        rw [hv]
        have := Nat.mul_pos (show 0 < z by omega) (Nat.two_pow_pos κ)
        omega
      have := e2' this
      cases this
theorem floor_ok {x z : Nat} (hf : Flt.Fin x) (h1 : (z : Rat) ≤ val x) (h2 : val x < (z : Rat) + 1) (h0 : 0 < val x) (hz : z < 9007199254740992) :
    (FloatKind.f64.decode (Ffl x)).toInt .zero = some (z : Int) := by
  obtain ⟨κ, hκ, hU⟩ := U_nat
  have hUp := U_pos
  have v := val_U x
  refine floor_V hκ hf ?_ ?_ ?_ hz
  · refine Rat.intCast_le_intCast.1 ?_
    rw [← v, Rat.intCast_natCast, Rat.natCast_mul, ← hU]
    exact Rat.mul_le_mul_of_nonneg_right h1 (Rat.le_of_lt hUp)
  · refine Rat.intCast_lt_intCast.1 ?_
    rw [← v, Rat.intCast_natCast, Rat.natCast_mul, ← hU, Rat.natCast_add, one_cast]
    exact Rat.mul_lt_mul_of_pos_right h2 hUp
  · refine Rat.intCast_lt_intCast.1 ?_
    rw [← v, Rat.intCast_zero]
    exact Rat.mul_pos h0 hUp
theorem val_nat {a : Nat} (h : a < 9007199254740992) : Flt.Fin (cn (FloatKind.f64.nearest (a : Int))) ∧ val (cn (FloatKind.f64.nearest (a : Int))) = (a : Rat) := by
  have e : FloatKind.f64.nearest (a : Int) = Ieee.double.nearest false a 0 := by
    show Ieee.double.nearest (decide ((a : Int) < 0)) (a : Int).natAbs 0 = _
    rw [decide_eq_false (by omega)]; rfl
  obtain ⟨n1, n2⟩ := nearest_V false (m := a) (i := 0) h (by decide) (by decide)
  rw [e, cn_notN n1.notN]
  refine ⟨n1, ?_⟩
  obtain ⟨κ, hκ, hU⟩ := U_nat
  have hUp := U_pos
  have v := val_U (Ieee.double.nearest false a 0)
  have hv : V (Ieee.double.nearest false a 0) = ((a * 2 ^ κ : Nat) : Int) := by
    rw [n2, signed_pos, show ((0 : Int) + 1074).toNat = κ by omega]
  rw [hv, Rat.intCast_natCast, Rat.natCast_mul, ← hU] at v
  exact Rat.le_antisymm (Rat.le_of_mul_le_mul_right (c := U) (by rw [v]; exact Rat.le_refl) hUp) (Rat.le_of_mul_le_mul_right (c := U) (by rw [v]; exact Rat.le_refl) hUp)
theorem fin_0 : Flt.Fin 0 := finB_ok (by decide +kernel)
theorem val_0 : val 0 = 0 := by
  have v : V 0 = 0 := by decide +kernel
  unfold val; rw [v, Rat.intCast_zero]; grind
theorem fin_half : Flt.Fin 4602678819172646912 := finB_ok (by decide +kernel)
theorem V_half : V 4602678819172646912 * 2 = ((bit 1074 : Nat) : Int) := by decide +kernel
theorem val_half : val 4602678819172646912 = 1 / 2 := by
  have v := congrArg (fun z : Int => (z : Rat)) V_half
  rw [Rat.intCast_mul, Rat.intCast_natCast, bit_U, ← val_U] at v
  have c : ((2 : Int) : Rat) = 2 := rfl
  rw [c] at v
  have hUp := U_pos
  generalize val 4602678819172646912 = x at *
  generalize U = y at *
  refine Rat.le_antisymm (Rat.le_of_mul_le_mul_right (c := y) ?_ hUp) (Rat.le_of_mul_le_mul_right (c := y) ?_ hUp) <;> grind
theorem quo_V {y : Nat} (hn : val y ≠ 0) : V y ≠ 0 := by
  intro h; apply hn; unfold val; rw [h, Rat.intCast_zero]; grind
theorem prod1 {x y : Nat} {X Y : Rat} (fx : Flt.Fin x) (fy : Flt.Fin y) (nx : Nr (val x) X (21705600 / 9007199254740992)) (ny : Nr (val y) Y (21705600 / 9007199254740992)) (bX : Bd X 32640) (bY : Bd Y 32640) :
    Flt.Fin (F .mul x y) ∧ Nr (val (F .mul x y)) (X * Y) (1420000000000 / 9007199254740992) := by
  have hh := h0_le
  have hp := h0_pos
  have bx : Bd (val x) 32641 := by unfold Bd Nr at *; grind
  have bo : Bd (val y) 32641 := by unfold Bd Nr at *; grind
  have q1 := mul_Bd bx bo
  have q2 := mul_Bd nx.bd bo
  have q3 := mul_Bd bX ny.bd
  obtain ⟨f, r⟩ := mul_err fx fy q1 (by grind)
  refine ⟨f, ?_⟩
  have hu : u = 1 / 9007199254740992 := rfl
  rw [hu] at r
  generalize val (F .mul x y) = z at *
  generalize val x = x' at *
  generalize val y = y' at *
  unfold Nr Bd at *
  constructor <;> grind
theorem prod2 {a b c d : Nat} {A B C D : Rat} (fa : Flt.Fin a) (fb : Flt.Fin b) (fc : Flt.Fin c) (fd : Flt.Fin d) (na : Nr (val a) A (21705600 / 9007199254740992)) (nb : Nr (val b) B (21705600 / 9007199254740992))
    (nc : Nr (val c) C (21705600 / 9007199254740992)) (nd : Nr (val d) D (21705600 / 9007199254740992)) (bA : Bd A 32640) (bB : Bd B 32640) (bC : Bd C 32640) (bD : Bd D 32640) :
    Flt.Fin (cm1 a b c d) ∧ Flt.Fin (cm2 a b c d) ∧ Nr (val (cm1 a b c d)) (A * C - B * D) (3000000000000 / 9007199254740992) ∧ Nr (val (cm2 a b c d)) (A * D + B * C) (3000000000000 / 9007199254740992) := by
  have hh := h0_le
  have hp := h0_pos
  have hu : u = 1 / 9007199254740992 := rfl
  unfold cm1 cm2
  obtain ⟨a1, r1⟩ := prod1 fa fc na nc bA bC
  obtain ⟨a2, r2⟩ := prod1 fb fd nb nd bB bD
  obtain ⟨a3, r3⟩ := prod1 fa fd na nd bA bD
  obtain ⟨a4, r4⟩ := prod1 fb fc nb nc bB bC
  have q1 := mul_Bd bA bC
  have q2 := mul_Bd bB bD
  have q3 := mul_Bd bA bD
  have q4 := mul_Bd bB bC
  generalize F .mul a c = P1 at *
  generalize F .mul b d = P2 at *
  generalize F .mul a d = P3 at *
  generalize F .mul b c = P4 at *
  generalize A * C = T1 at *
  generalize B * D = T2 at *
  generalize A * D = T3 at *
  generalize B * C = T4 at *
  obtain ⟨c1, s1⟩ := sub_err a1 a2 (M := 2130739201) (by unfold Nr Bd at *; constructor <;> grind) (by grind)
  obtain ⟨c2, s2⟩ := add_err a3 a4 (M := 2130739201) (by unfold Nr Bd at *; constructor <;> grind) (by grind)
  rw [hu] at s1 s2
  refine ⟨c1, c2, ?_, ?_⟩
  · unfold Nr Bd at *; constructor <;> grind
  · unfold Nr Bd at *; constructor <;> grind
theorem Er_f {m : Nat} (hm : m < 7) : 0 ≤ Er m 0 255 ∧ Er m 0 255 ≤ 21705600 / 9007199254740992 := by
  have h : m = 0 ∨ m = 1 ∨ m = 2 ∨ m = 3 ∨ m = 4 ∨ m = 5 ∨ m = 6 := by omega
  rcases h with rfl | rfl | rfl | rfl | rfl | rfl | rfl <;> decide +kernel
theorem Er_b {m : Nat} (hm : m < 7) : 0 ≤ Er m (3000000000000 / 9007199254740992) 2130739200 ∧ Er m (3000000000000 / 9007199254740992) 2130739200 ≤ 2400000000000000 / 9007199254740992 := by
  have h : m = 0 ∨ m = 1 ∨ m = 2 ∨ m = 3 ∨ m = 4 ∨ m = 5 ∨ m = 6 := by omega
  rcases h with rfl | rfl | rfl | rfl | rfl | rfl | rfl <;> decide +kernel
theorem lg_two {m : Nat} (hm : m < 7) : lg ((2 ^ m : Nat) : Int) = m := by
  have h : m = 0 ∨ m = 1 ∨ m = 2 ∨ m = 3 ∨ m = 4 ∨ m = 5 ∨ m = 6 := by omega
  rcases h with rfl | rfl | rfl | rfl | rfl | rfl | rfl <;> decide
def natR (A : Nat → Int) (j : Nat) : Rat := (A j : Rat)
theorem natR_Bd {A : Nat → Int} {j : Nat} (h : 0 ≤ A j ∧ A j ≤ 255) : Bd (natR A j) 255 ∧ 0 ≤ natR A j := by
  have h1 := le_cast h.1
  have h2 := le_cast h.2
  have c : ((255 : Int) : Rat) = 255 := rfl
  rw [Rat.intCast_zero] at h1
  rw [c] at h2
  unfold natR Bd
  grind
theorem inC_apx {A : Nat → Int} {n : Nat} (h : ∀ j, j < n → 0 ≤ A j ∧ A j ≤ 255) : Apx (inC A) (natR A) (fun _ => 0) n 0 := by
  have e : ∀ j, j < n → Flt.Fin (cn (FloatKind.f64.nearest (A j))) ∧ val (cn (FloatKind.f64.nearest (A j))) = natR A j := fun j hj => by
    obtain ⟨a, ha⟩ : ∃ a : Nat, A j = (a : Int) := ⟨(A j).toNat, by have := h j hj; omega⟩
    have := h j hj
    unfold natR
    rw [ha, Rat.intCast_natCast]
    exact val_nat (by omega)
  refine ⟨fun j hj => (e j hj).1, fun j hj => fin_0, fun j hj => ?_, fun j hj => ?_⟩
  · show Nr (val (cn (FloatKind.f64.nearest (A j)))) (natR A j) 0
    rw [(e j hj).2]; exact Nr.refl' _
  · show Nr (val 0) 0 0
    rw [val_0]; exact Nr.refl' _
/-- The row that goes back. -/
theorem back_near {m : Nat} (hm : m < 7) {A B : Nat → Int} (hA : ∀ j, j < 2 ^ m → 0 ≤ A j ∧ A j ≤ 255) (hB : ∀ j, j < 2 ^ m → 0 ≤ B j ∧ B j ≤ 255) {i : Nat} (hi : i < 2 ^ m) :
    Flt.Fin (wvN true ((2 ^ m : Nat) : Int) (prdC ((2 ^ m : Nat) : Int) A B) i).1 ∧ Nr (val (wvN true ((2 ^ m : Nat) : Int) (prdC ((2 ^ m : Nat) : Int) A B) i).1) (((2 ^ m : Nat) : Rat) * conv (2 ^ m) (natR A) (natR B) i) (27 / 100) := by
  obtain ⟨n1, n2⟩ := two_le64 hm
  have ha : ∀ j, j < 2 ^ m → Bd (natR A j) 255 ∧ Bd (0 : Rat) 255 := fun j hj => ⟨(natR_Bd (hA j hj)).1, by unfold Bd; grind⟩
  have hb : ∀ j, j < 2 ^ m → Bd (natR B j) 255 ∧ Bd (0 : Rat) 255 := fun j hj => ⟨(natR_Bd (hB j hj)).1, by unfold Bd; grind⟩
  obtain ⟨E0, E1⟩ := Er_f hm
  obtain ⟨E2, E3⟩ := Er_b hm
  have wa := wv_near false m (by omega) (inC_apx hA) ha (by grind) (by grind) (by grind) (by grind)
  have wb := wv_near false m (by omega) (inC_apx hB) hb (by grind) (by grind) (by grind) (by grind)
  have hp : ∀ j, j < 2 ^ m → Bd (PR false m (natR A) (natR B) j) 2130739200 ∧ Bd (PI false m (natR A) (natR B) j) 2130739200 := fun j hj => by
    obtain ⟨x1, x2⟩ := D_Bd false ha j
    obtain ⟨y1, y2⟩ := D_Bd false hb j
    replace x1 := x1.le (B := 32640) (by grind)
    replace x2 := x2.le (B := 32640) (by grind)
    replace y1 := y1.le (B := 32640) (by grind)
    replace y2 := y2.le (B := 32640) (by grind)
    unfold PR PI
    exact ⟨((mul_Bd x1 y1).sub (mul_Bd x2 y2)).le (by grind), ((mul_Bd x1 y2).add (mul_Bd x2 y1)).le (by grind)⟩
  have key : ∀ j, j < 2 ^ m → Flt.Fin (prdC ((2 ^ m : Nat) : Int) A B j).1 ∧ Flt.Fin (prdC ((2 ^ m : Nat) : Int) A B j).2 ∧
      Nr (val (prdC ((2 ^ m : Nat) : Int) A B j).1) (PR false m (natR A) (natR B) j) (3000000000000 / 9007199254740992) ∧ Nr (val (prdC ((2 ^ m : Nat) : Int) A B j).2) (PI false m (natR A) (natR B) j) (3000000000000 / 9007199254740992) := fun j hj => by
    obtain ⟨x1, x2⟩ := D_Bd false ha j
    obtain ⟨y1, y2⟩ := D_Bd false hb j
    have := prod2 (wa.f1 j hj) (wa.f2 j hj) (wb.f1 j hj) (wb.f2 j hj) ((wa.n1 j hj).le E1) ((wa.n2 j hj).le E1) ((wb.n1 j hj).le E1) ((wb.n2 j hj).le E1)
      (x1.le (by grind)) (x2.le (by grind)) (y1.le (by grind)) (y2.le (by grind))
    unfold prdC wvN
    rw [lg_two hm]
    exact this
  have bk := wv_near true m (by omega) (X := prdC ((2 ^ m : Nat) : Int) A B) (Y := PR false m (natR A) (natR B)) (Z := PI false m (natR A) (natR B)) (M := 2130739200) (ε := 3000000000000 / 9007199254740992)
    ⟨fun j hj => (key j hj).1, fun j hj => (key j hj).2.1, fun j hj => (key j hj).2.2.1, fun j hj => (key j hj).2.2.2⟩ hp (by grind) (by grind) (by grind) (by grind)
  unfold wvN
  rw [lg_two hm]
  refine ⟨bk.f1 i hi, ?_⟩
  have r := round_near hm (Y := natR A) (Z := natR B) (fun j hj => (ha j hj).1) (fun j hj => (hb j hj).1) hi
  exact (Nr.trans ((bk.n1 i hi).le E3) r).le (by grind)
theorem conv_Bd {n : Nat} {A B : Nat → Int} (hA : ∀ j, j < n → 0 ≤ A j ∧ A j ≤ 255) (hB : ∀ j, j < n → 0 ≤ B j ∧ B j ≤ 255) {i : Nat} (hi : i < n) : Bd (conv n (natR A) (natR B) i) ((n : Rat) * (255 * 255)) := by
  unfold conv
  exact sumR_Bd fun j hj => mul_Bd (natR_Bd (hA j hj)).1 (natR_Bd (hB _ (Nat.mod_lt _ (by omega)))).1
def convI (n : Nat) (A B : Nat → Int) (i : Nat) : Int := sumZ n fun j => A j * B ((i + n - j) % n)
theorem sumZ_R (f : Nat → Int) : ∀ n : Nat, sumR n (fun k => (f k : Rat)) = ((sumZ n f : Int) : Rat)
  | 0 => rfl
  | n + 1 => by
    show sumR n (fun k => (f k : Rat)) + (f n : Rat) = ((sumZ n f + f n : Int) : Rat)
    rw [sumZ_R f n, Rat.intCast_add]
theorem conv_I (n : Nat) (A B : Nat → Int) (i : Nat) : conv n (natR A) (natR B) i = ((convI n A B i : Int) : Rat) := by
  unfold conv convI natR
  rw [← sumZ_R]
  exact sumR_congr fun j _ => by rw [Rat.intCast_mul]
theorem sumZ_pos {f : Nat → Int} : ∀ {n : Nat}, (∀ j, j < n → 0 ≤ f j) → 0 ≤ sumZ n f
  | 0, h => Int.le_refl 0
  | n + 1, h => by
    have := sumZ_pos (n := n) fun j hj => h j (by omega)
    have := h n (by omega)
    show 0 ≤ sumZ n f + f n
    omega
theorem convI_pos {n : Nat} {A B : Nat → Int} (hA : ∀ j, j < n → 0 ≤ A j ∧ A j ≤ 255) (hB : ∀ j, j < n → 0 ≤ B j ∧ B j ≤ 255) {i : Nat} (hi : i < n) : 0 ≤ convI n A B i :=
  sumZ_pos fun j hj => Int.mul_nonneg (hA j hj).1 (hB _ (Nat.mod_lt _ (by omega))).1
/-- Each number that comes out, before it is made whole. -/
theorem rnd_near {m : Nat} (hm : m < 7) {A B : Nat → Int} (hA : ∀ j, j < 2 ^ m → 0 ≤ A j ∧ A j ≤ 255) (hB : ∀ j, j < 2 ^ m → 0 ≤ B j ∧ B j ≤ 255) {i : Nat} (hi : i < 2 ^ m) :
    Flt.Fin (rndF ((2 ^ m : Nat) : Int) A B i) ∧ Nr (val (rndF ((2 ^ m : Nat) : Int) A B i)) (conv (2 ^ m) (natR A) (natR B) i + 1 / 2) (3 / 10) := by
  have hh := h0_le
  have hp := h0_pos
  have hu : u = 1 / 9007199254740992 := rfl
  obtain ⟨n1, n2⟩ := two_le64 hm
  obtain ⟨f1, b1⟩ := back_near hm hA hB hi
  have cb := conv_Bd hA hB hi
  have hn64 : 2 ^ m ≤ 2 ^ 6 := Nat.pow_le_pow_right (by decide) (by omega)
  obtain ⟨fn, vn⟩ := val_nat (a := 2 ^ m) (by omega)
  unfold rndF
  generalize (wvN true ((2 ^ m : Nat) : Int) (prdC ((2 ^ m : Nat) : Int) A B) i).1 = w at *
  generalize cn (FloatKind.f64.nearest ((2 ^ m : Nat) : Int)) = y at *
  generalize conv (2 ^ m) (natR A) (natR B) i = c at *
  generalize ((2 ^ m : Nat) : Rat) = N at *
  have hN0 : 0 < N := by grind
  have ee : val w / N * N = val w := Rat.div_mul_cancel (Rat.ne_of_gt hN0)
  have bc : Bd c 4161600 := cb.le (by grind)
  generalize he : val w / N = e at *
  have hec : Nr e c (27 / 100) := by
    unfold Nr at *
    constructor
    · refine Rat.le_of_mul_le_mul_right (c := N) ?_ hN0
      grind
    · refine Rat.le_of_mul_le_mul_right (c := N) ?_ hN0
      grind
  have be : Bd e 4161601 := by unfold Bd Nr at *; grind
  obtain ⟨fq, nq⟩ := quo_err f1 fn (quo_V (by rw [vn]; exact Rat.ne_of_gt hN0)) (e := e) (M := 4161601) (by rw [vn]; exact ee) be (by grind)
  rw [hu] at nq
  obtain ⟨fa, na⟩ := add_err fq fin_half (M := 4161603) (by rw [val_half]; unfold Bd Nr at *; grind) (by grind)
  rw [hu, val_half] at na
  refine ⟨fa, ?_⟩
  unfold Nr Bd at *
  constructor <;> grind
theorem rnd_floor {m : Nat} (hm : m < 7) {A B : Nat → Int} (hA : ∀ j, j < 2 ^ m → 0 ≤ A j ∧ A j ≤ 255) (hB : ∀ j, j < 2 ^ m → 0 ≤ B j ∧ B j ≤ 255) {i : Nat} (hi : i < 2 ^ m) :
    (FloatKind.f64.decode (Ffl (rndF ((2 ^ m : Nat) : Int) A B i))).toInt .zero = some (convI (2 ^ m) A B i) ∧ 0 ≤ convI (2 ^ m) A B i ∧ convI (2 ^ m) A B i ≤ 4161600 := by
  obtain ⟨f, n⟩ := rnd_near hm hA hB hi
  have cb := conv_Bd hA hB hi
  obtain ⟨n1, n2⟩ := two_le64 hm
  have bc : Bd (conv (2 ^ m) (natR A) (natR B) i) 4161600 := cb.le (by grind)
  have p := convI_pos hA hB hi
  rw [conv_I] at n bc
  have c : ((4161600 : Int) : Rat) = 4161600 := rfl
  have le : convI (2 ^ m) A B i ≤ 4161600 := by
    refine Rat.intCast_le_intCast.1 ?_
    rw [c]; exact bc.2
  refine ⟨?_, p, le⟩
  obtain ⟨z, hz⟩ : ∃ z : Nat, convI (2 ^ m) A B i = (z : Int) := ⟨(convI (2 ^ m) A B i).toNat, by omega⟩
  rw [hz] at n bc p le ⊢
  rw [Rat.intCast_natCast] at n bc
  have z0 : (0 : Rat) ≤ (z : Rat) := Rat.natCast_nonneg
  unfold Nr at n
  exact floor_ok f (by grind) (by grind) (by grind) (by omega)
theorem rnd_all {n : Nat} {A B : Nat → Int} (hp : pwB n = true) (h : ∀ i, i < n → okI A B i = true) :
    RndOk n A B ∧ ∀ i, i < n → rndV n A B i = convI n A B i := by
  obtain ⟨m, hm, e⟩ := (pwB_iff.1 hp).ex
  obtain rfl : n = 2 ^ m := by omega
  have hA : ∀ j, j < 2 ^ m → 0 ≤ A j ∧ A j ≤ 255 := fun j hj => by have := h j hj; unfold okI at this; rw [decide_eq_true_eq] at this; omega
  have hB : ∀ j, j < 2 ^ m → 0 ≤ B j ∧ B j ≤ 255 := fun j hj => by have := h j hj; unfold okI at this; rw [decide_eq_true_eq] at this; omega
  have mi : IntKind.i64.min ≤ 0 := by decide
  have ma : 4161600 ≤ IntKind.i64.max := by decide
  refine ⟨⟨fun i hi => (rnd_near (by omega) hA hB hi).1.notN, fun i hi => ?_⟩, fun i hi => ?_⟩
  · obtain ⟨f1, f2, f3⟩ := rnd_floor (m := m) (by omega) hA hB hi
    exact ⟨_, f1, by omega, by omega⟩
  · obtain ⟨f1, f2, f3⟩ := rnd_floor (m := m) (by omega) hA hB hi
    unfold rndV; rw [f1]; rfl
theorem round_ok {n m : Nat} {A B : Nat → Int} (h : roundE n m A B = 0) : RndOk n A B := by
  obtain ⟨_, h2, h3⟩ := roundE_ok h
  exact (rnd_all h2 h3).1
end Go.Proofs.Ytnhgicdmlcnpkaa
