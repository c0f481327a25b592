/- Walks of Near, Fine, clean, Same, SameVec, Sqrt, Length: program and reference. -/
import Derived.Test.YtkfmpdoendggjaaVecOps
import Derived.Deep.RegionHeld3
namespace Go.Proofs.Ytkfmpdoendggjaa
open Go.RowKit
set_option linter.unusedVariables false
set_option linter.unusedSimpArgs false
attribute [local go_sem] run_fadd run_fsub run_fmul run_fquo run_stf

/-- Near: V1. -/
def nearB (x : Nat) : Bool :=
  (FloatKind.f64.format.order x 13920209183539462144 == some .gt || FloatKind.f64.format.order x 13920209183539462144 == some .eq) && (FloatKind.f64.format.order x 4696837146684686336 == some .lt || FloatKind.f64.format.order x 4696837146684686336 == some .eq)
theorem order_cn_left (x c : Nat) : FloatKind.f64.format.order (cn x) c = FloatKind.f64.format.order x c := by
  show Ieee.double.order (cn x) c = Ieee.double.order x c
  by_cases h : isN x = true
  · obtain ⟨s, t, e⟩ := read_nan h
    obtain ⟨s', t', e'⟩ := read_nan (show isN (cn x) = true by rw [isN_cn]; exact h)
    simp [Ieee.Format.order, e, e', Ieee.Datum.order]
  · unfold cn; rw [if_neg h]
theorem nearB_cn (x : Nat) : nearB (cn x) = nearB x := by unfold nearB; rw [order_cn_left, order_cn_left]
def fineB (a1 a2 a3 : Nat) : Bool := nearB a1 && nearB a2 && nearB a3
theorem fineB_cn (a1 a2 a3 : Nat) : fineB (cn a1) (cn a2) (cn a3) = fineB a1 a2 a3 := by unfold fineB; rw [nearB_cn, nearB_cn, nearB_cn]
def cleanB (x : Nat) : Bool := FloatKind.f64.format.order x 13740701229962882445 == some .gt && FloatKind.f64.format.order x 4517329193108106637 == some .lt
def cleanV (x : Nat) : Nat := if cleanB x then 0 else x
theorem cleanB_cn (x : Nat) : cleanB (cn x) = cleanB x := by unfold cleanB; rw [order_cn_left, order_cn_left]
theorem cn_zero : cn 0 = 0 := by decide +kernel
theorem cn_cleanV (x : Nat) : cn (cleanV x) = cleanV (cn x) := by
  unfold cleanV
  rw [cleanB_cn]
  split
  · exact cn_zero
  · rfl

theorem near_any (x : Nat) (w : World) : Calls Try.prog 20 #[.float .f64 x] w fun e w' => e = .returned (.bool (nearB x)) ∧ w = w' := by
  go_enter Try.func20, Try.ntmps20
  go_wp2_with fail
  all_goals go_ret
  · exact ⟨rfl, rfl⟩
  · rename_i h
    exact ⟨ret_bool (by unfold nearB; simp [h]), rfl⟩
theorem fine_any (a1 a2 a3 : Nat) (w : World) : Calls Try.prog 8 #[.agg #[.float .f64 a1, .float .f64 a2, .float .f64 a3]] w fun e w' => e = .returned (.bool (fineB a1 a2 a3)) ∧ Below w.heap.size w w' := by
  rcases Bool.eq_false_or_eq_true (nearB a1) with h1 | h1
  · rcases Bool.eq_false_or_eq_true (nearB a2) with h2 | h2
    · have E : Hid (fineB a1 a2 a3 = nearB a3) := hid (by unfold fineB; rw [h1, h2]; rfl)
      go_enter Try.func8, Try.ntmps8
      go_wp2_with (go_at_call 20; refine (near_any _ _).mono ?_; rintro e w' ⟨rfl, rfl⟩)
      go_ret
      exact ⟨ret_bool E.out.symm, (by repeat (first | exact Below.refl _ _ | refine below_drewN ?_ _ | refine bel_alloc ?_ _ | refine Below.setCell ?_ (by simp <;> omega) _))⟩
    · have E : Hid (fineB a1 a2 a3 = false) := hid (by unfold fineB; rw [h1, h2]; rfl)
      go_enter Try.func8, Try.ntmps8
      go_wp2_with (go_at_call 20; refine (near_any _ _).mono ?_; rintro e w' ⟨rfl, rfl⟩)
      go_ret
      exact ⟨ret_bool E.out.symm, (by repeat (first | exact Below.refl _ _ | refine below_drewN ?_ _ | refine bel_alloc ?_ _ | refine Below.setCell ?_ (by simp <;> omega) _))⟩
  · have E : Hid (fineB a1 a2 a3 = false) := hid (by unfold fineB; rw [h1]; rfl)
    go_enter Try.func8, Try.ntmps8
    go_wp2_with (go_at_call 20; refine (near_any _ _).mono ?_; rintro e w' ⟨rfl, rfl⟩)
    go_ret
    exact ⟨ret_bool E.out.symm, (by repeat (first | exact Below.refl _ _ | refine below_drewN ?_ _ | refine bel_alloc ?_ _ | refine Below.setCell ?_ (by simp <;> omega) _))⟩
theorem clean1_any (x : Nat) (w : World) : Calls Try.prog 35 #[.float .f64 x] w fun e w' => e = .returned (.float .f64 (cleanV x)) ∧ w = w' := by
  rcases Bool.eq_false_or_eq_true (FloatKind.f64.format.order x 13740701229962882445 == some .gt) with h1 | h1
  · rcases Bool.eq_false_or_eq_true (FloatKind.f64.format.order x 4517329193108106637 == some .lt) with h2 | h2
    · have E : Hid (cleanV x = 0) := hid (by unfold cleanV cleanB; rw [h1, h2]; rfl)
      go_enter Try.func35, Try.ntmps35
      go_wp2_with fail
      go_ret
      exact ⟨by rw [E.out]; rfl, rfl⟩
    · have E : Hid (cleanV x = x) := hid (by unfold cleanV cleanB; rw [h1, h2]; rfl)
      go_enter Try.func35, Try.ntmps35
      go_wp2_with fail
      go_ret
      exact ⟨by rw [E.out]; rfl, rfl⟩
  · have E : Hid (cleanV x = x) := hid (by unfold cleanV cleanB; rw [h1]; rfl)
    go_enter Try.func35, Try.ntmps35
    go_wp2_with fail
    go_ret
    exact ⟨by rw [E.out]; rfl, rfl⟩

theorem near_ref (x : Nat) (w : World) : Calls Try.prog 21 #[.float .f64 x] w fun e w' => e = .returned (.bool (nearB x)) ∧ w = w' := by
  go_enter Try.func21, Try.ntmps21
  go_wp2_with fail
  all_goals go_ret
  · exact ⟨rfl, rfl⟩
  · rename_i h
    exact ⟨ret_bool (by unfold nearB; simp [h]), rfl⟩
theorem fine_ref (a1 a2 a3 : Nat) (w : World) : Calls Try.prog 22 #[.agg #[.float .f64 a1, .float .f64 a2, .float .f64 a3]] w fun e w' => e = .returned (.bool (fineB a1 a2 a3)) ∧ Below w.heap.size w w' := by
  rcases Bool.eq_false_or_eq_true (nearB a1) with h1 | h1
  · rcases Bool.eq_false_or_eq_true (nearB a2) with h2 | h2
    · have E : Hid (fineB a1 a2 a3 = nearB a3) := hid (by unfold fineB; rw [h1, h2]; rfl)
      go_enter Try.func22, Try.ntmps22
      go_wp2_with (go_at_call 21; refine (near_ref _ _).mono ?_; rintro e w' ⟨rfl, rfl⟩)
      go_ret
      exact ⟨ret_bool E.out.symm, (by repeat (first | exact Below.refl _ _ | refine below_drewN ?_ _ | refine bel_alloc ?_ _ | refine Below.setCell ?_ (by simp <;> omega) _))⟩
    · have E : Hid (fineB a1 a2 a3 = false) := hid (by unfold fineB; rw [h1, h2]; rfl)
      go_enter Try.func22, Try.ntmps22
      go_wp2_with (go_at_call 21; refine (near_ref _ _).mono ?_; rintro e w' ⟨rfl, rfl⟩)
      go_ret
      exact ⟨ret_bool E.out.symm, (by repeat (first | exact Below.refl _ _ | refine below_drewN ?_ _ | refine bel_alloc ?_ _ | refine Below.setCell ?_ (by simp <;> omega) _))⟩
  · have E : Hid (fineB a1 a2 a3 = false) := hid (by unfold fineB; rw [h1]; rfl)
    go_enter Try.func22, Try.ntmps22
    go_wp2_with (go_at_call 21; refine (near_ref _ _).mono ?_; rintro e w' ⟨rfl, rfl⟩)
    go_ret
    exact ⟨ret_bool E.out.symm, (by repeat (first | exact Below.refl _ _ | refine below_drewN ?_ _ | refine bel_alloc ?_ _ | refine Below.setCell ?_ (by simp <;> omega) _))⟩
theorem clean1_ref (x : Nat) (w : World) : Calls Try.prog 38 #[.float .f64 x] w fun e w' => e = .returned (.float .f64 (cleanV x)) ∧ w = w' := by
  rcases Bool.eq_false_or_eq_true (FloatKind.f64.format.order x 13740701229962882445 == some .gt) with h1 | h1
  · rcases Bool.eq_false_or_eq_true (FloatKind.f64.format.order x 4517329193108106637 == some .lt) with h2 | h2
    · have E : Hid (cleanV x = 0) := hid (by unfold cleanV cleanB; rw [h1, h2]; rfl)
      go_enter Try.func38, Try.ntmps38
      go_wp2_with fail
      go_ret
      exact ⟨by rw [E.out]; rfl, rfl⟩
    · have E : Hid (cleanV x = x) := hid (by unfold cleanV cleanB; rw [h1, h2]; rfl)
      go_enter Try.func38, Try.ntmps38
      go_wp2_with fail
      go_ret
      exact ⟨by rw [E.out]; rfl, rfl⟩
  · have E : Hid (cleanV x = x) := hid (by unfold cleanV cleanB; rw [h1]; rfl)
    go_enter Try.func38, Try.ntmps38
    go_wp2_with fail
    go_ret
    exact ⟨by rw [E.out]; rfl, rfl⟩

theorem find_sqrt : Extern.find Try.f39 = some Extern.MathSqrt.sqrt := by kernel_rfl
theorem callsqrt (x : Nat) (w : World) : (callFunc 39 #[.float .f64 x]).run Try.prog w = .ok (.value (.float .f64 (sval w x))) (w.drewN (sdr x)) := by
  rw [run_callFunc_extern Try.func39 (by kernel_rfl) (by kernel_rfl) (by kernel_rfl) find_sqrt, run_sqrt]
  rfl
theorem sqrt_any (x : Nat) (w : World) : Calls Try.prog 36 #[.float .f64 x] w fun e w' => ∃ y n, e = .returned (.float .f64 y) ∧ cn y = sq (cn x) ∧ w' = w.drewN n := by
  have hq := callsqrt
  go_enter Try.func36, Try.ntmps36
  go_wp2_with fail
  go_ret
  exact ⟨_, _, rfl, cn_sval _ _, rfl⟩
end Go.Proofs.Ytkfmpdoendggjaa
