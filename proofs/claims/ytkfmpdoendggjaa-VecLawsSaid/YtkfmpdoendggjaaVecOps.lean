/- Walks of small functions on vectors, of the program and of the reference: each comes to the same plain function of the floats, up to which not-a-number. -/
import Derived.Test.YtkfmpdoendggjaaProg
import Derived.Test.YtkfmpdoendggjaaFloat
namespace Go.Proofs.Ytkfmpdoendggjaa
open Go.RowKit
set_option linter.unusedVariables false
set_option linter.unusedSimpArgs false
attribute [local go_sem] run_fadd run_fsub run_fmul run_fquo run_stf

/-- Dot, as plain numbers. -/
def dotF (a1 a2 a3 b1 b2 b3 : Nat) : Nat := F .add (F .add (F .mul a1 b1) (F .mul a2 b2)) (F .mul a3 b3)

theorem add_any (a1 a2 a3 b1 b2 b3 : Nat) (w : World) :
    Calls Try.prog 10 #[.agg #[.float .f64 a1, .float .f64 a2, .float .f64 a3], .agg #[.float .f64 b1, .float .f64 b2, .float .f64 b3]] w fun e w' => ∃ x y z, e = .returned (.agg #[.float .f64 x, .float .f64 y, .float .f64 z]) ∧ cn x = F .add (cn a1) (cn b1) ∧ cn y = F .add (cn a2) (cn b2) ∧ cn z = F .add (cn a3) (cn b3) ∧ Below w.heap.size w w' := by
  go_enter Try.func10, Try.ntmps10
  go_wp2_with fail
  refine bodyPost_ret (v := .agg #[.float .f64 _, .float .f64 _, .float .f64 _]) (by simp [results, Try.results10, go_sem]; exact ⟨rfl, rfl, rfl⟩) rfl ⟨_, _, _, rfl, ?_, ?_, ?_, (by repeat (first | exact Below.refl _ _ | refine below_drewN ?_ _ | refine bel_alloc ?_ _ | refine Below.setCell ?_ (by simp <;> omega) _))⟩ <;> simp only [cn_fval']

theorem sub_any (a1 a2 a3 b1 b2 b3 : Nat) (w : World) :
    Calls Try.prog 24 #[.agg #[.float .f64 a1, .float .f64 a2, .float .f64 a3], .agg #[.float .f64 b1, .float .f64 b2, .float .f64 b3]] w fun e w' => ∃ x y z, e = .returned (.agg #[.float .f64 x, .float .f64 y, .float .f64 z]) ∧ cn x = F .sub (cn a1) (cn b1) ∧ cn y = F .sub (cn a2) (cn b2) ∧ cn z = F .sub (cn a3) (cn b3) ∧ Below w.heap.size w w' := by
  go_enter Try.func24, Try.ntmps24
  go_wp2_with fail
  refine bodyPost_ret (v := .agg #[.float .f64 _, .float .f64 _, .float .f64 _]) (by simp [results, Try.results24, go_sem]; exact ⟨rfl, rfl, rfl⟩) rfl ⟨_, _, _, rfl, ?_, ?_, ?_, (by repeat (first | exact Below.refl _ _ | refine below_drewN ?_ _ | refine bel_alloc ?_ _ | refine Below.setCell ?_ (by simp <;> omega) _))⟩ <;> simp only [cn_fval']

theorem scale_any (v1 v2 v3 k : Nat) (w : World) :
    Calls Try.prog 13 #[.agg #[.float .f64 v1, .float .f64 v2, .float .f64 v3], .float .f64 k] w fun e w' => ∃ x y z, e = .returned (.agg #[.float .f64 x, .float .f64 y, .float .f64 z]) ∧ cn x = F .mul (cn v1) (cn k) ∧ cn y = F .mul (cn v2) (cn k) ∧ cn z = F .mul (cn v3) (cn k) ∧ Below w.heap.size w w' := by
  go_enter Try.func13, Try.ntmps13
  go_wp2_with fail
  refine bodyPost_ret (v := .agg #[.float .f64 _, .float .f64 _, .float .f64 _]) (by simp [results, Try.results13, go_sem]; exact ⟨rfl, rfl, rfl⟩) rfl ⟨_, _, _, rfl, ?_, ?_, ?_, (by repeat (first | exact Below.refl _ _ | refine below_drewN ?_ _ | refine bel_alloc ?_ _ | refine Below.setCell ?_ (by simp <;> omega) _))⟩ <;> simp only [cn_fval']

theorem over_any (v1 v2 v3 k : Nat) (w : World) :
    Calls Try.prog 14 #[.agg #[.float .f64 v1, .float .f64 v2, .float .f64 v3], .float .f64 k] w fun e w' => ∃ x y z, e = .returned (.agg #[.float .f64 x, .float .f64 y, .float .f64 z]) ∧ cn x = F .quo (cn v1) (cn k) ∧ cn y = F .quo (cn v2) (cn k) ∧ cn z = F .quo (cn v3) (cn k) ∧ Below w.heap.size w w' := by
  go_enter Try.func14, Try.ntmps14
  go_wp2_with fail
  refine bodyPost_ret (v := .agg #[.float .f64 _, .float .f64 _, .float .f64 _]) (by simp [results, Try.results14, go_sem]; exact ⟨rfl, rfl, rfl⟩) rfl ⟨_, _, _, rfl, ?_, ?_, ?_, (by repeat (first | exact Below.refl _ _ | refine below_drewN ?_ _ | refine bel_alloc ?_ _ | refine Below.setCell ?_ (by simp <;> omega) _))⟩ <;> simp only [cn_fval']

theorem add_ref (a1 a2 a3 b1 b2 b3 : Nat) (w : World) :
    Calls Try.prog 23 #[.agg #[.float .f64 a1, .float .f64 a2, .float .f64 a3], .agg #[.float .f64 b1, .float .f64 b2, .float .f64 b3]] w fun e w' => ∃ x y z, e = .returned (.agg #[.float .f64 x, .float .f64 y, .float .f64 z]) ∧ cn x = F .add (cn a1) (cn b1) ∧ cn y = F .add (cn a2) (cn b2) ∧ cn z = F .add (cn a3) (cn b3) ∧ Below w.heap.size w w' := by
  go_enter Try.func23, Try.ntmps23
  go_wp2_with fail
  refine bodyPost_ret (v := .agg #[.float .f64 _, .float .f64 _, .float .f64 _]) (by simp [results, Try.results23, go_sem]; exact ⟨rfl, rfl, rfl⟩) rfl ⟨_, _, _, rfl, ?_, ?_, ?_, (by repeat (first | exact Below.refl _ _ | refine below_drewN ?_ _ | refine bel_alloc ?_ _ | refine Below.setCell ?_ (by simp <;> omega) _))⟩ <;> simp only [cn_fval']

theorem sub_ref (a1 a2 a3 b1 b2 b3 : Nat) (w : World) :
    Calls Try.prog 25 #[.agg #[.float .f64 a1, .float .f64 a2, .float .f64 a3], .agg #[.float .f64 b1, .float .f64 b2, .float .f64 b3]] w fun e w' => ∃ x y z, e = .returned (.agg #[.float .f64 x, .float .f64 y, .float .f64 z]) ∧ cn x = F .sub (cn a1) (cn b1) ∧ cn y = F .sub (cn a2) (cn b2) ∧ cn z = F .sub (cn a3) (cn b3) ∧ Below w.heap.size w w' := by
  go_enter Try.func25, Try.ntmps25
  go_wp2_with fail
  refine bodyPost_ret (v := .agg #[.float .f64 _, .float .f64 _, .float .f64 _]) (by simp [results, Try.results25, go_sem]; exact ⟨rfl, rfl, rfl⟩) rfl ⟨_, _, _, rfl, ?_, ?_, ?_, (by repeat (first | exact Below.refl _ _ | refine below_drewN ?_ _ | refine bel_alloc ?_ _ | refine Below.setCell ?_ (by simp <;> omega) _))⟩ <;> simp only [cn_fval']

theorem scale_ref (v1 v2 v3 k : Nat) (w : World) :
    Calls Try.prog 26 #[.agg #[.float .f64 v1, .float .f64 v2, .float .f64 v3], .float .f64 k] w fun e w' => ∃ x y z, e = .returned (.agg #[.float .f64 x, .float .f64 y, .float .f64 z]) ∧ cn x = F .mul (cn v1) (cn k) ∧ cn y = F .mul (cn v2) (cn k) ∧ cn z = F .mul (cn v3) (cn k) ∧ Below w.heap.size w w' := by
  go_enter Try.func26, Try.ntmps26
  go_wp2_with fail
  refine bodyPost_ret (v := .agg #[.float .f64 _, .float .f64 _, .float .f64 _]) (by simp [results, Try.results26, go_sem]; exact ⟨rfl, rfl, rfl⟩) rfl ⟨_, _, _, rfl, ?_, ?_, ?_, (by repeat (first | exact Below.refl _ _ | refine below_drewN ?_ _ | refine bel_alloc ?_ _ | refine Below.setCell ?_ (by simp <;> omega) _))⟩ <;> simp only [cn_fval']

theorem over_ref (v1 v2 v3 k : Nat) (w : World) :
    Calls Try.prog 27 #[.agg #[.float .f64 v1, .float .f64 v2, .float .f64 v3], .float .f64 k] w fun e w' => ∃ x y z, e = .returned (.agg #[.float .f64 x, .float .f64 y, .float .f64 z]) ∧ cn x = F .quo (cn v1) (cn k) ∧ cn y = F .quo (cn v2) (cn k) ∧ cn z = F .quo (cn v3) (cn k) ∧ Below w.heap.size w w' := by
  go_enter Try.func27, Try.ntmps27
  go_wp2_with fail
  refine bodyPost_ret (v := .agg #[.float .f64 _, .float .f64 _, .float .f64 _]) (by simp [results, Try.results27, go_sem]; exact ⟨rfl, rfl, rfl⟩) rfl ⟨_, _, _, rfl, ?_, ?_, ?_, (by repeat (first | exact Below.refl _ _ | refine below_drewN ?_ _ | refine bel_alloc ?_ _ | refine Below.setCell ?_ (by simp <;> omega) _))⟩ <;> simp only [cn_fval']

theorem cross_any (a1 a2 a3 b1 b2 b3 : Nat) (w : World) :
    Calls Try.prog 12 #[.agg #[.float .f64 a1, .float .f64 a2, .float .f64 a3], .agg #[.float .f64 b1, .float .f64 b2, .float .f64 b3]] w fun e w' => ∃ x y z, e = .returned (.agg #[.float .f64 x, .float .f64 y, .float .f64 z]) ∧ cn x = F .sub (F .mul (cn a2) (cn b3)) (F .mul (cn a3) (cn b2)) ∧ cn y = F .sub (F .mul (cn a3) (cn b1)) (F .mul (cn a1) (cn b3)) ∧ cn z = F .sub (F .mul (cn a1) (cn b2)) (F .mul (cn a2) (cn b1)) ∧ Below w.heap.size w w' := by
  go_enter Try.func12, Try.ntmps12
  go_wp2_with fail
  refine bodyPost_ret (v := .agg #[.float .f64 _, .float .f64 _, .float .f64 _]) (by simp [results, Try.results12, go_sem]; exact ⟨rfl, rfl, rfl⟩) rfl ⟨_, _, _, rfl, ?_, ?_, ?_, (by repeat (first | exact Below.refl _ _ | refine below_drewN ?_ _ | refine bel_alloc ?_ _ | refine Below.setCell ?_ (by simp <;> omega) _))⟩ <;> simp only [cn_fval']

theorem dot_any (a1 a2 a3 b1 b2 b3 : Nat) (w : World) :
    Calls Try.prog 7 #[.agg #[.float .f64 a1, .float .f64 a2, .float .f64 a3], .agg #[.float .f64 b1, .float .f64 b2, .float .f64 b3]] w fun e w' => ∃ x, e = .returned (.float .f64 x) ∧ cn x = dotF (cn a1) (cn a2) (cn a3) (cn b1) (cn b2) (cn b3) ∧ Below w.heap.size w w' := by
  go_enter Try.func7, Try.ntmps7
  go_wp2_with fail
  go_ret
  exact ⟨_, rfl, by simp only [cn_fval', dotF], (by repeat (first | exact Below.refl _ _ | refine below_drewN ?_ _ | refine bel_alloc ?_ _ | refine Below.setCell ?_ (by simp <;> omega) _))⟩

theorem times_ref (x1 y1 : Nat) (w : World) :
    Calls Try.prog 37 #[.float .f64 x1, .float .f64 y1] w fun e w' => ∃ x, e = .returned (.float .f64 x) ∧ cn x = F .mul (cn x1) (cn y1) ∧ Below w.heap.size w w' := by
  go_enter Try.func37, Try.ntmps37
  go_wp2_with fail
  go_ret
  exact ⟨_, rfl, by simp only [cn_fval'], (by repeat (first | exact Below.refl _ _ | refine below_drewN ?_ _ | refine bel_alloc ?_ _ | refine Below.setCell ?_ (by simp <;> omega) _))⟩
end Go.Proofs.Ytkfmpdoendggjaa
