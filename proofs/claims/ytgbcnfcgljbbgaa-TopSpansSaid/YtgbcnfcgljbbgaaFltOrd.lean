/- The order of floats. -/
import Derived.Test.YtgbcnfcgljbbgaaEvOps
namespace Go.Proofs.Ytgbcnfcgljbbgaa
open Go.RowKit Ev
set_option linter.unusedVariables false
set_option linter.unusedSimpArgs false

theorem datum_swap (a b : Ieee.Datum) : b.order a = (a.order b).map Ordering.swap := by
  cases a <;> cases b <;> simp only [Ieee.Datum.order, Option.map_none, Option.map_some]
  · rename_i s m i t n j
    rw [Int.min_comm j i]
    congr 1
    exact (Std.OrientedCmp.eq_swap (cmp := (compare : Int → Int → Ordering)))
  · rename_i t; cases t <;> rfl
  · rename_i s _ _ _; cases s <;> rfl
  · congr 1
    exact (Std.OrientedCmp.eq_swap (cmp := (compare : Nat → Nat → Ordering)))
theorem order_swap (x y : Nat) : Ieee.double.order y x = (Ieee.double.order x y).map Ordering.swap := datum_swap _ _
theorem fgt_flt (x y : Nat) : fgt x y = flt y x := by
  show (Ieee.double.order x y == some .gt) = (Ieee.double.order y x == some .lt)
  rw [order_swap y x]
  rcases Ieee.double.order y x with _ | o
  · rfl
  · cases o <;> rfl
theorem order_some {x y : Nat} (hx : isN x = false) (hy : isN y = false) : ∃ o, Ieee.double.order x y = some o := by
  unfold isN at hx hy
  unfold Ieee.Format.order
  generalize Ieee.double.read x = a at *
  generalize Ieee.double.read y = b at *
  cases a <;> cases b <;> simp [Ieee.Datum.isNaN, Ieee.Datum.order] at *
theorem order_none {x y : Nat} (h : isN x = true) : Ieee.double.order x y = none := by
  obtain ⟨s, t, e⟩ := read_nan h
  simp [Ieee.Format.order, e, Ieee.Datum.order]
theorem flt_nan {x y : Nat} (h : isN x = true) : flt x y = false ∧ feq x y = false ∧ fgt x y = false := by
  have e : FloatKind.f64.format.order x y = none := order_none h
  unfold flt feq fgt; rw [e]; exact ⟨rfl, rfl, rfl⟩
theorem le_not {x y : Nat} (hx : isN x = false) (hy : isN y = false) : (flt x y || feq x y) = !(fgt x y) := by
  obtain ⟨o, h⟩ := order_some hx hy
  have h : FloatKind.f64.format.order x y = some o := h
  unfold flt feq fgt; rw [h]; cases o <;> rfl
theorem feq_refl {x : Nat} (h : isN x = false) : feq x x = true := by
  obtain ⟨o, e⟩ := order_some h h
  have h2 := order_swap x x
  rw [e] at h2
  have : o = .eq := by
    cases o
    · cases h2
    · rfl
    · cases h2
  subst this
  have e : FloatKind.f64.format.order x x = some .eq := e
  unfold feq; rw [e]; rfl
theorem feq_notN {x y : Nat} (h : feq x y = true) : isN x = false := by
  cases hx : isN x with
  | false => rfl
  | true => rw [(flt_nan hx).2.1] at h; cases h
theorem word_notN (s : Bool) (r : Nat) (h : r ≤ 9218868437227405312) : isN (Ieee.double.word s r) = false := by
  have hs : Ieee.double.signWeight = 9223372036854775808 := by decide +kernel
  have hi : Ieee.double.infRung = 9218868437227405312 := by decide +kernel
  have e : Ieee.double.word s r % 9223372036854775808 = r := by
    unfold Ieee.Format.word; rw [hs]; split <;> omega
  unfold isN Ieee.Format.read
  simp only [hs, hi, e]
  split
  · rfl
  · split
    · rfl
    · split
      · rfl
      · omega
theorem order_zero {s : Bool} {m : Nat} {i : Int} (h : (Ieee.Datum.number s m i).order (.number false 0 (-1074)) = some .eq) : m = 0 := by
  simp only [Ieee.Datum.order, Option.some.injEq] at h
  have h := Std.LawfulEqCmp.eq_of_compare h
  have e : Ieee.signed false 0 ((-1074 : Int) - min i (-1074)).toNat = 0 := by simp [Ieee.signed]
  rw [e] at h
  have : m <<< (i - min i (-1074)).toNat = 0 := by
    cases s <;> simp [Ieee.signed] at h <;> simp [Nat.shiftLeft_eq, h]
  rw [Nat.shiftLeft_eq] at this
  rcases Nat.mul_eq_zero.1 this with h | h
  · exact h
  · exact absurd h (by have := Nat.two_pow_pos (i - min i (-1074)).toNat; omega)
/-- What is nought, one is divided by: an infinity. -/
theorem over_zero {x : Nat} (h : feq x 0 = true) : isN (F .quo 4607182418800017408 x) = false := by
  have hx := feq_notN h
  have h0 : Ieee.double.order x 0 = some .eq := by
    have : (Ieee.double.order x 0 == some .eq) = true := h
    simpa using this
  have r0 : Ieee.double.read 0 = .number false 0 (-1074) := by decide +kernel
  have r1 : Ieee.double.read 4607182418800017408 = .number false 4503599627370496 (-52) := by decide +kernel
  unfold Ieee.Format.order at h0
  rw [r0] at h0
  cases hr : Ieee.double.read x with
  | nan s t => unfold isN at hx; rw [hr] at hx; cases hx
  | infinity s => rw [hr] at h0; cases s <;> cases h0
  | number s m i =>
    rw [hr] at h0
    have hm := order_zero h0
    subst hm
    have e : fop .quo 4607182418800017408 x = some (Ieee.double.word (false ^^ s) Ieee.double.infRung) := by
      unfold fop floatBits
      simp only [FloatKind.format, Ieee.Format.div, r1, hr, Ieee.Datum.quotient]
      rfl
    have hi : Ieee.double.infRung = 9218868437227405312 := by decide +kernel
    unfold F
    rw [e]
    simp only
    rw [isN_cn, hi]
    exact word_notN _ _ (Nat.le_refl _)
end Go.Proofs.Ytgbcnfcgljbbgaa
