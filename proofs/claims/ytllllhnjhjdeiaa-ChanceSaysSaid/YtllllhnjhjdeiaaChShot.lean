/- The walks of chance.Shot and of the reference's. No conditions. -/
import Derived.Test.YtllllhnjhjdeiaaChMix
namespace Go.Proofs.Ytllllhnjhjdeiaa
open Go.RowKit

set_option maxRecDepth 100000 in
theorem shot_any (x y k : Int) (w : World) :
    Calls Try.prog 9 #[.int .i64 x, .int .i64 y, .int .i64 k] w fun e w' => e = .returned (.tuple #[.int .i64 (shotR x y k).1, .int .i64 (shotR x y k).2.1, .int .i64 (shotR x y k).2.2]) ∧ w = w' := by
  rcases shot_cases x y k with h | h | h | h | h | h | h
  case inr.inr.inr.inr.inr.inr =>
    have hx : 0 ≤ x ∧ x < 64 ∧ 0 ≤ y ∧ y < 64 ∧ 0 ≤ k ∧ k < 16 := h
    rw [shotR_good (by unfold shotBad; omega)]
    obtain ⟨h1, h2, h3, h4, h5, h6⟩ := hx
    clear h
    go_enter Try.func9, Try.ntmps9
    go_wp2_with fail
    refine (mix_any x y 77 _).mono ?_
    rintro e w' ⟨rfl, rfl⟩
    go_wp2_with fail
    refine (mirrored_any 2 k _ (by omega)).mono ?_
    rintro e w' ⟨rfl, rfl⟩
    go_wp2_with fail
    refine (mirrored_any 3 k _ (by omega)).mono ?_
    rintro e w' ⟨rfl, rfl⟩
    obtain ⟨m0, m1⟩ := mixF_bd x y 77
    obtain ⟨a0, a1, a2⟩ := mirR_bd (b := 2) (n := k) (by unfold mirBad; omega)
    obtain ⟨c0, c1, c2⟩ := mirR_bd (b := 3) (n := k) (by unfold mirBad; omega)
    obtain ⟨p0, p1⟩ := part_bd a0 a1
    obtain ⟨q0, q1⟩ := part_bd c0 c1
    have MK : Hid (bits .and .u32 (mixF x y 77) 65535 = mixF x y 77 % 65536) := hid (mask16 m0 m1)
    have k0 : 0 ≤ bits .and .u32 (mixF x y 77) 65535 ∧ bits .and .u32 (mixF x y 77) 65535 < 65536 := by rw [MK.out]; omega
    obtain ⟨k0, k1⟩ := k0
    go_wp2_with fail
    go_ret3
    try rw [MK.out]
    exact ⟨rfl, rfl⟩
  all_goals
    rw [shotR_bad (by unfold shotBad; omega)]
    go_enter Try.func9, Try.ntmps9
    go_wp2_with fail
    go_ret3
    exact ⟨rfl, rfl⟩

set_option maxRecDepth 100000 in
theorem shot_ref (x y k : Int) (w : World) :
    Calls Try.prog 10 #[.int .i64 x, .int .i64 y, .int .i64 k] w fun e w' => e = .returned (.tuple #[.int .i64 (shotR x y k).1, .int .i64 (shotR x y k).2.1, .int .i64 (shotR x y k).2.2]) ∧ w = w' := by
  rcases shot_cases x y k with h | h | h | h | h | h | h
  case inr.inr.inr.inr.inr.inr =>
    have hx : 0 ≤ x ∧ x < 64 ∧ 0 ≤ y ∧ y < 64 ∧ 0 ≤ k ∧ k < 16 := h
    rw [shotR_good (by unfold shotBad; omega)]
    obtain ⟨h1, h2, h3, h4, h5, h6⟩ := hx
    clear h
    go_enter Try.func10, Try.ntmps10
    go_wp2_with fail
    refine (mix_ref x y 77 _).mono ?_
    rintro e w' ⟨rfl, rfl⟩
    go_wp2_with fail
    refine (mirrored_ref 2 k _ (by omega)).mono ?_
    rintro e w' ⟨rfl, rfl⟩
    go_wp2_with fail
    refine (mirrored_ref 3 k _ (by omega)).mono ?_
    rintro e w' ⟨rfl, rfl⟩
    obtain ⟨m0, m1⟩ := mixF_bd x y 77
    obtain ⟨a0, a1, a2⟩ := mirR_bd (b := 2) (n := k) (by unfold mirBad; omega)
    obtain ⟨c0, c1, c2⟩ := mirR_bd (b := 3) (n := k) (by unfold mirBad; omega)
    obtain ⟨p0, p1⟩ := part_bd a0 a1
    obtain ⟨q0, q1⟩ := part_bd c0 c1
    have MK : Hid (bits .and .u32 (mixF x y 77) 65535 = mixF x y 77 % 65536) := hid (mask16 m0 m1)
    have k0 : 0 ≤ bits .and .u32 (mixF x y 77) 65535 ∧ bits .and .u32 (mixF x y 77) 65535 < 65536 := by rw [MK.out]; omega
    obtain ⟨k0, k1⟩ := k0
    go_wp2_with fail
    go_ret3
    try rw [MK.out]
    exact ⟨rfl, rfl⟩
  all_goals
    rw [shotR_bad (by unfold shotBad; omega)]
    go_enter Try.func10, Try.ntmps10
    go_wp2_with fail
    go_ret3
    exact ⟨rfl, rfl⟩
end Go.Proofs.Ytllllhnjhjdeiaa
