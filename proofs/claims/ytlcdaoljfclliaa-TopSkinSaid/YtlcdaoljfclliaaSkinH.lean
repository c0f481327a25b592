/- Pictures in the middle of a pixel, and pictures of one colour (plain). -/
import Derived.Test.YtlcdaoljfclliaaSkinG
namespace Go.Proofs.Ytlcdaoljfclliaa
open Go.RowKit Ev
set_option linter.unusedVariables false
set_option linter.unusedSimpArgs false
set_option maxRecDepth 20000
set_option maxHeartbeats 4000000

theorem wrapV_id (t : Int) {k n : Int} (h : 0 ≤ k ∧ k < n) : wrapV t k n = k := by
  unfold wrapV
  have e1 : k % n = k := Int.emod_eq_of_lt h.1 h.2
  have e2 : k % (2 * n) = k := Int.emod_eq_of_lt h.1 (by omega)
  rw [e1, e2]
  repeat' split
  all_goals omega
theorem wrapV_rep {k n m : Int} (h : 0 ≤ k ∧ k < n) : wrapV 0 (k + m * n) n = k := by
  rw [wrapV0, Int.add_mul_emod_self_right, Int.emod_eq_of_lt h.1 h.2]
theorem wrapV_fold {k n m : Int} (h : 0 ≤ k ∧ k < n) : wrapV 1 (m * (2 * n) - 1 - k) n = k ∧ wrapV 1 (m * (2 * n) + k) n = k := by
  rw [wrapV1 rfl, wrapV1 rfl]
  have e1 : (m * (2 * n) - 1 - k) % (2 * n) = 2 * n - 1 - k := by
    rw [show m * (2 * n) - 1 - k = (2 * n - 1 - k) + (m - 1) * (2 * n) by rw [Int.sub_mul]; omega, Int.add_mul_emod_self_right, Int.emod_eq_of_lt (by omega) (by omega)]
  have e2 : (m * (2 * n) + k) % (2 * n) = k := by
    rw [Int.add_comm, Int.add_mul_emod_self_right, Int.emod_eq_of_lt h.1 (by omega)]
  rw [e1, e2, if_pos (by omega), if_neg (by omega)]
  exact ⟨by omega, rfl⟩
theorem tap_all (a s t : Int) : tap a (256 - s) (256 - t) + tap a s (256 - t) + tap a (256 - s) t + tap a s t = 65536 * a := by
  unfold tap
  have h1 : ∀ z : Int, a * (256 - s) * z + a * s * z = a * 256 * z := fun z => by rw [← Int.add_mul, ← Int.mul_add, Int.sub_add_cancel]
  have h2 : a * 256 * (256 - t) + a * 256 * t = a * 256 * 256 := by rw [← Int.mul_add, Int.sub_add_cancel]
  have h3 := h1 (256 - t)
  have h4 := h1 t
  omega
theorem tap_one (a b c d : Int) : tap a 256 256 + tap b 0 256 + tap c 256 0 + tap d 0 0 = 65536 * a := by
  unfold tap
  simp only [Int.mul_zero, Int.zero_mul]
  omega
/-- In the middle of a pixel is its colour. -/
theorem atV_mid {w h : Int} {A : Nat → Int} (hA : U8s A) {t u v : Int} (hu : (u - 128) % 256 = 0) (hv : (v - 128) % 256 = 0) (k : Nat) : atV w h A t u v k = pxA w h A t ((u - 128) / 256) ((v - 128) / 256) k := by
  have b := pxA_bd (w := w) (h := h) hA t ((u - 128) / 256) ((v - 128) / 256) k
  unfold atV atS
  rw [hu, hv, Int.sub_zero, tap_one, u8w]
  omega
/-- Of one colour, as far as it goes. -/
def OneC (w h : Int) (A o : Nat → Int) : Prop := ∀ j : Nat, (j : Int) < 4 * (w * h) → A j = o (j % 4)
theorem OneC.px {w h : Int} {A o : Nat → Int} (ho : OneC w h A o) (hs : Side w h) (t x y : Int) {k : Nat} (hk : k < 4) : pxA w h A t x y k = o k := by
  obtain ⟨a0, a1, a2, a3⟩ := atI_bd hs (wrapV_bd t x hs.1) (wrapV_bd t y hs.2.2.1)
  unfold pxA
  have e : atI w (wrapV t x w) (wrapV t y h) = 4 * (wrapV t y h * w + wrapV t x w) := by unfold atI; rfl
  rw [e, ho _ (by omega)]
  congr 1
  omega
theorem atV_one {w h : Int} {A o : Nat → Int} (ho : OneC w h A o) (hs : Side w h) {t u v : Int} {k : Nat} (hk : k < 4) (hb : 0 ≤ o k ∧ o k < 256) : atV w h A t u v k = o k := by
  unfold atV atS
  rw [ho.px hs _ _ _ hk, ho.px hs _ _ _ hk, ho.px hs _ _ _ hk, ho.px hs _ _ _ hk, tap_all, u8w]
  omega
theorem sumH_one {w h : Int} {A o : Nat → Int} (ho : OneC w h A o) (hs : Side w h) (x y : Nat) {k : Nat} (hk : k < 4) : ∀ c, sumH w h A x y k c = o k * cntH w h x y c
  | 0 => by rw [sumH_0, cntH_0, Int.mul_zero]
  | c + 1 => by
    have ih := sumH_one ho hs x y hk c
    by_cases hh : 2 * (x : Int) + (c : Int) % 2 < w ∧ 2 * (y : Int) + (c : Int) / 2 < h
    · rw [sumH_y hh, cntH_y hh, ih, Int.mul_add, Int.mul_one]
      obtain ⟨a0, a1, a2, a3⟩ := atI_bd hs (x := 2 * (x : Int) + (c : Int) % 2) (y := 2 * (y : Int) + (c : Int) / 2) ⟨by omega, by omega⟩ ⟨by omega, by omega⟩
      have e : atI w (2 * (x : Int) + (c : Int) % 2) (2 * (y : Int) + (c : Int) / 2) = 4 * ((2 * (y : Int) + (c : Int) / 2) * w + (2 * (x : Int) + (c : Int) % 2)) := by unfold atI; rfl
      rw [e]
      congr 1
      rw [ho _ (by omega)]
      congr 1
      omega
    · rw [sumH_n hh, cntH_n hh, ih]
theorem half_one {w h : Int} {A o : Nat → Int} (ho : OneC w h A o) (hs : Side w h) (hb : ∀ k, 0 ≤ o k ∧ o k < 256) : OneC ((w + 1) / 2) ((h + 1) / 2) (halfV w h A) o := fun j hj => by
  obtain ⟨s1, s2, s3, s4⟩ := hs
  unfold halfV
  generalize hW : ((w + 1) / 2).toNat = W
  have eW : (w + 1) / 2 = (W : Int) := by omega
  obtain ⟨H, eH⟩ : ∃ H : Nat, (h + 1) / 2 = (H : Int) := ⟨((h + 1) / 2).toNat, by omega⟩
  rw [eW, eH] at hj
  have hj2 : j < 4 * (W * H) := by rw [← Int.natCast_mul] at hj; omega
  have hW0 : 0 < W := by omega
  have hx : j / 4 % W < W := Nat.mod_lt _ hW0
  have hy : j / 4 / W < H := Nat.div_lt_of_lt_mul (by omega)
  have hk : j % 4 < 4 := Nat.mod_lt _ (by omega)
  generalize j / 4 % W = x at *
  generalize j / 4 / W = y at *
  generalize j % 4 = k at *
  have hc := cntH_pos (w := w) (h := h) (x := x) (y := y) (by omega) (by omega)
  have hb := hb k
  unfold halfB
  rw [sumH_one ho ⟨s1, s2, s3, s4⟩ x y hk 4]
  generalize cntH w h x y 4 = m at *
  have e : 2 * (o k * m) + m = o k * (2 * m) + m := by rw [Int.mul_left_comm]
  rw [e, Int.add_comm, Int.add_mul_ediv_right _ _ (by omega), Int.ediv_eq_zero_of_lt (by omega) (by omega), u8w]
  omega
theorem py_one {w h : Int} {A o : Nat → Int} (ho : OneC w h A o) (hs : Side w h) (hb : ∀ k, 0 ≤ o k ∧ o k < 256) : ∀ i, OneC (dimN w i) (dimN h i) (pyA w h A i) o
  | 0 => ho
  | i + 1 => half_one (py_one ho hs hb i) (picE_ok (pic_lv hs i)).1 hb
theorem lv_bd {w h : Int} : lv w h ≤ 6 := by
  have key : ∀ m, lvF w h m ≤ m := fun m => by
    induction m with
    | zero => exact Nat.le_refl _
    | succ m ih => rw [lvF]; split <;> omega
  unfold lv
  exact key 6
/-- The last is of one pixel. -/
theorem lv_last {w h : Int} (hs : Side w h) : dimN w (lv w h) = 1 ∧ dimN h (lv w h) = 1 := by
  have key : ∀ m, m ≤ 6 → und w h m ∨ ∃ i, i ≤ m ∧ und w h i ∧ dimN w i ≤ 1 ∧ dimN h i ≤ 1 := fun m => by
    induction m with
    | zero => exact fun _ => .inl (und_0 w h)
    | succ m ih =>
      intro hm
      rcases ih (by omega) with hu | ⟨i, hi, hu, hd⟩
      · by_cases hd : dimN w m ≤ 1 ∧ dimN h m ≤ 1
        · exact .inr ⟨m, by omega, hu, hd⟩
        · exact .inl (und_s hu hd)
      · exact .inr ⟨i, by omega, hu, hd⟩
  have d1 := dim_6 ⟨hs.1, hs.2.1⟩
  have d2 := dim_6 ⟨hs.2.2.1, hs.2.2.2⟩
  have : ∃ i, i ≤ 6 ∧ und w h i ∧ dimN w i ≤ 1 ∧ dimN h i ≤ 1 := by
    rcases key 6 (Nat.le_refl _) with hu | ⟨i, hi, hu, hd⟩
    · exact ⟨6, Nat.le_refl _, hu, d1, d2⟩
    · exact ⟨i, hi, hu, hd⟩
  obtain ⟨i, hi, hu, hd⟩ := this
  rw [lv_done hs hi hu hd]
  have b1 := dim_bd ⟨hs.1, hs.2.1⟩ i
  have b2 := dim_bd ⟨hs.2.2.1, hs.2.2.2⟩ i
  omega
end Go.Proofs.Ytlcdaoljfclliaa
