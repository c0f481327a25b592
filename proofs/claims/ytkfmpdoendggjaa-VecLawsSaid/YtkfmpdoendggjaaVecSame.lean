/- Walks of Same and SameVec: of floats that are the same up to which not-a-number they answer true. -/
import Derived.Test.YtkfmpdoendggjaaVecMore
namespace Go.Proofs.Ytkfmpdoendggjaa
open Go.RowKit
set_option linter.unusedVariables false
set_option linter.unusedSimpArgs false
attribute [local go_sem] run_fadd run_fsub run_fmul run_fquo run_stf

theorem ord_self {x : Nat} (h : isN x = false) : FloatKind.f64.format.order x x = some .eq := by
  show Ieee.double.order x x = some .eq
  unfold isN at h
  unfold Ieee.Format.order
  cases hx : Ieee.double.read x with
  | nan s t => rw [hx] at h; cases h
  | infinity s => simp [Ieee.Datum.order]
  | number s m i => simp [Ieee.Datum.order]
theorem ord_nan {x : Nat} (h : isN x = true) : FloatKind.f64.format.order x x = none := by
  obtain ⟨s, t, e⟩ := read_nan h
  show Ieee.double.order x x = none
  simp [Ieee.Format.order, e, Ieee.Datum.order]
theorem read_zero : Ieee.double.read 0 = .number false 0 (-1074) := by decide +kernel
theorem read_one : Ieee.double.read 4607182418800017408 = .number false 4503599627370496 (-52) := by decide +kernel
theorem isN_inf (s : Bool) : isN (Ieee.double.write (.infinity s)) = false := by cases s <;> decide +kernel
theorem zero_mag {x : Nat} (h : FloatKind.f64.format.order x 0 = some .eq) : ∃ s p, Ieee.double.read x = .number s 0 p := by
  have h' : (Ieee.double.read x).order (Ieee.double.read 0) = some .eq := h
  rw [read_zero] at h'
  cases hx : Ieee.double.read x with
  | nan s t => rw [hx] at h'; simp [Ieee.Datum.order] at h'
  | infinity s => rw [hx] at h'; cases s <;> simp [Ieee.Datum.order] at h'
  | number s m i =>
    rw [hx] at h'
    simp only [Ieee.Datum.order, Option.some.injEq] at h'
    rw [Int.compare_eq_eq] at h'
    have h0 : m = 0 := by
      unfold Ieee.signed at h'
      rcases Nat.eq_zero_or_pos m with h1 | h1
      · exact h1
      · exfalso
        have h2 : 0 < m <<< (i - min i (-1074)).toNat := by rw [Nat.shiftLeft_eq]; exact Nat.mul_pos h1 (Nat.two_pow_pos _)
        cases s <;> simp at h' <;> omega
    subst h0
    exact ⟨s, i, rfl⟩
theorem zero_div {x : Nat} (h : FloatKind.f64.format.order x 0 = some .eq) : ∃ r, fop .quo 4607182418800017408 x = some r ∧ isN r = false := by
  obtain ⟨s, p, e⟩ := zero_mag h
  refine ⟨Ieee.double.write (.infinity s), ?_, isN_inf s⟩
  show (((Ieee.double.read 4607182418800017408).quotient _ (Ieee.double.read x)).map Ieee.double.write) = _
  rw [read_one, e]
  simp [Ieee.Datum.quotient]

theorem same_true (a b : Nat) (w : World) (h : Hid (cn a = cn b)) : Calls Try.prog 11 #[.float .f64 a, .float .f64 b] w fun e w' => e = .returned (.bool true) ∧ ∃ n, w' = w.drewN n := by
  by_cases ha : isN a = true
  · have hb : isN b = true := by rw [← isN_cn, ← h.out, isN_cn]; exact ha
    have h1 := ord_nan ha
    have h2 := ord_nan hb
    clear ha hb
    go_enter Try.func11, Try.ntmps11
    go_wp2_with fail
    go_ret
    exact ⟨rfl, 0, rfl⟩
  · have ha' : isN a = false := by simpa using ha
    have hb' : isN b = false := by rw [← isN_cn, ← h.out, isN_cn]; exact ha'
    have e : a = b := by have := h.out; unfold cn at this; rw [if_neg (by rw [ha']; exact Bool.false_ne_true), if_neg (by rw [hb']; exact Bool.false_ne_true)] at this; exact this
    subst e
    have h1 := ord_self ha'
    by_cases h0 : FloatKind.f64.format.order a 0 = some .eq
    · obtain ⟨r, hr, hn⟩ := zero_div h0
      have hv : ∀ w, fval .quo w 4607182418800017408 a = r := fun w => by unfold fval; rw [hr]
      have h2 := ord_self hn
      clear hr hn ha ha' hb' h
      go_enter Try.func11, Try.ntmps11
      go_wp2_with fail
      go_ret
      exact ⟨rfl, _, rfl⟩
    · have h3 : (FloatKind.f64.format.order a 0 == some .eq) = false := by simpa using h0
      have h4 : (FloatKind.f64.format.order a 0 != some .eq) = true := by simpa using h0
      clear h0 ha ha' hb' h
      go_enter Try.func11, Try.ntmps11
      go_wp2_with fail
      go_ret
      exact ⟨rfl, 0, rfl⟩

theorem samevec_true (a1 a2 a3 b1 b2 b3 : Nat) (w : World) (h1 : Hid (cn a1 = cn b1)) (h2 : Hid (cn a2 = cn b2)) (h3 : Hid (cn a3 = cn b3)) :
    Calls Try.prog 9 #[.agg #[.float .f64 a1, .float .f64 a2, .float .f64 a3], .agg #[.float .f64 b1, .float .f64 b2, .float .f64 b3]] w fun e w' => e = .returned (.bool true) ∧ Below w.heap.size w w' := by
  go_enter Try.func9, Try.ntmps9
  go_wp2_with fail
  refine (same_true _ _ _ h1).mono ?_
  rintro e w' ⟨rfl, n1, rfl⟩
  go_wp2_with fail
  refine (same_true _ _ _ h2).mono ?_
  rintro e w' ⟨rfl, n2, rfl⟩
  go_wp2_with fail
  refine (same_true _ _ _ h3).mono ?_
  rintro e w' ⟨rfl, n3, rfl⟩
  go_wp2_with fail
  go_ret
  exact ⟨rfl, (by repeat (first | exact Below.refl _ _ | refine below_drewN ?_ _ | refine bel_alloc ?_ _ | refine Below.setCell ?_ (by simp <;> omega) _))⟩
end Go.Proofs.Ytkfmpdoendggjaa
