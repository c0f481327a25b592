/- The walk of chance.Noise. No conditions. -/
import Derived.Test.YtllllhnjhjdeiaaChPlane
namespace Go.Proofs.Ytllllhnjhjdeiaa
open Go.RowKit

theorem far_cases (x y z : Int) : x < -1073741824 ∨ (¬ x < -1073741824 ∧ 1073741824 < x) ∨ (-1073741824 ≤ x ∧ x ≤ 1073741824 ∧ y < -1073741824) ∨ (-1073741824 ≤ x ∧ x ≤ 1073741824 ∧ ¬ y < -1073741824 ∧ 1073741824 < y) ∨
    (-1073741824 ≤ x ∧ x ≤ 1073741824 ∧ -1073741824 ≤ y ∧ y ≤ 1073741824 ∧ z < -1073741824) ∨ (-1073741824 ≤ x ∧ x ≤ 1073741824 ∧ -1073741824 ≤ y ∧ y ≤ 1073741824 ∧ ¬ z < -1073741824 ∧ 1073741824 < z) ∨
    (-1073741824 ≤ x ∧ x ≤ 1073741824 ∧ -1073741824 ≤ y ∧ y ≤ 1073741824 ∧ -1073741824 ≤ z ∧ z ≤ 1073741824) := by omega

set_option maxHeartbeats 800000 in
set_option maxRecDepth 100000 in
theorem noise_any (x y z : Int) (w : World) :
    Calls Try.prog 11 #[.int .i64 x, .int .i64 y, .int .i64 z] w fun e w' => e = .returned (.tuple #[.int .i64 (noiseR x y z).1, .int .i64 (noiseR x y z).2]) ∧ Below w.heap.size w w' := by
  have i0 : ∀ w, (Instr.index 35 (.agg #[.int .i64 x, .int .i64 y, .int .i64 z]) (.int .i64 0)).run Try.prog w = .ok (.int .i64 x) w := fun _ => by kernel_rfl
  have i1 : ∀ w, (Instr.index 35 (.agg #[.int .i64 x, .int .i64 y, .int .i64 z]) (.int .i64 1)).run Try.prog w = .ok (.int .i64 y) w := fun _ => by kernel_rfl
  have i2 : ∀ w, (Instr.index 35 (.agg #[.int .i64 x, .int .i64 y, .int .i64 z]) (.int .i64 2)).run Try.prog w = .ok (.int .i64 z) w := fun _ => by kernel_rfl
  rcases far_cases x y z with h | h | h | h | h | h | h
  case inr.inr.inr.inr.inr.inr =>
    rw [noiseR_good (by unfold farB; omega)]
    obtain ⟨x0, x1, y0, y1, z0, z1⟩ := h
    have hmf : ∀ (fn : Fn) (first cap : Array Value) (w : World), (Instr.makeFunc fn first cap).run Try.prog w = .ok (.func fn first cap) w := fun _ _ _ _ => rfl
    have ha := fun n => i64_and255 n
    go_enter Try.func11, Try.ntmps11
    go_wp2_with fail
    refine wp_loop_rounds 4 ?_
    rw [rounds_succ]
    go_wp2_with fail
    rw [rounds_succ]
    go_wp2_with fail
    rw [rounds_succ]
    go_wp2_with fail
    rw [rounds_succ]
    go_wp2_with fail
    obtain ⟨p0, p1⟩ := planeF_bd (i := x / 256) (j := y / 256) (u := x % 256) (v := y % 256) (k := z / 256) (by omega) (by omega) (by omega) (by omega)
    obtain ⟨q0, q1⟩ := planeF_bd (i := x / 256) (j := y / 256) (u := x % 256) (v := y % 256) (k := z / 256 + 1) (by omega) (by omega) (by omega) (by omega)
    refine (plane_any (x / 256) (y / 256) (x % 256) (y % 256) (z / 256) _ _ _ _ _ ?a1 ?a2 ?a3 ?a4 (by omega) (by omega) (by omega) (by omega) (by omega) (by omega) (by omega) (by omega)).mono ?_
    case a1 => simp [cell_alloc_if] <;> repeat (first | rfl | rw [if_neg (by omega)])
    case a2 => simp [cell_alloc_if] <;> repeat (first | rfl | rw [if_neg (by omega)])
    case a3 => simp [cell_alloc_if] <;> repeat (first | rfl | rw [if_neg (by omega)])
    case a4 => simp [cell_alloc_if] <;> repeat (first | rfl | rw [if_neg (by omega)])
    rintro e w' ⟨rfl, n1, rfl⟩
    go_wp2_with fail
    refine (plane_any (x / 256) (y / 256) (x % 256) (y % 256) (z / 256 + 1) _ _ _ _ _ ?b1 ?b2 ?b3 ?b4 (by omega) (by omega) (by omega) (by omega) (by omega) (by omega) (by omega) (by omega)).mono ?_
    case b1 => simp [cell_alloc_if] <;> repeat (first | rfl | rw [if_neg (by omega)])
    case b2 => simp [cell_alloc_if] <;> repeat (first | rfl | rw [if_neg (by omega)])
    case b3 => simp [cell_alloc_if] <;> repeat (first | rfl | rw [if_neg (by omega)])
    case b4 => simp [cell_alloc_if] <;> repeat (first | rfl | rw [if_neg (by omega)])
    rintro e w' ⟨rfl, n2, rfl⟩
    go_wp2_with fail
    refine (blend_any _ _ _ _ (by omega) (by omega) (by omega) (by omega) (by omega) (by omega)).mono ?_
    rintro e w' ⟨rfl, rfl⟩
    go_wp2_with fail
    go_ret2
    exact ⟨rfl, by repeat (first | exact Below.refl _ _ | refine below_drewN ?_ _ | refine bel_alloc ?_ _)⟩
  all_goals
    rw [noiseR_bad (by unfold farB; omega)]
    go_enter Try.func11, Try.ntmps11
    go_wp2_with fail
    refine wp_loop_rounds 4 ?_
    rw [rounds_succ]
    go_wp2_with fail
    try rw [rounds_succ]
    try go_wp2_with fail
    try rw [rounds_succ]
    try go_wp2_with fail
    go_ret2
    exact ⟨rfl, Below.refl _ _⟩
end Go.Proofs.Ytllllhnjhjdeiaa
