/- The walks of chance.corner, blend and the closure of Noise, and of the reference's corner and mean. -/
import Derived.Test.YtllllhnjhjdeiaaChMix
namespace Go.Proofs.Ytllllhnjhjdeiaa
open Go.RowKit

set_option maxRecDepth 100000 in
theorem corner_any (x y z : Int) (w : World) :
    Calls Try.prog 16 #[.int .i64 x, .int .i64 y, .int .i64 z] w fun e w' => e = .returned (.int .i64 (cornerF x y z)) ∧ w = w' := by
  go_enter Try.func16, Try.ntmps16
  go_wp2_with fail
  refine (mix_any _ _ _ _).mono ?_
  rintro e w' ⟨rfl, rfl⟩
  obtain ⟨m0, m1⟩ := mixF_bd (x % 4294967296) (y % 4294967296) (z % 4294967296)
  have MK := hid (mask8 m0 m1)
  have k0 : 0 ≤ bits .and .u32 (mixF (x % 4294967296) (y % 4294967296) (z % 4294967296)) 255 ∧ bits .and .u32 (mixF (x % 4294967296) (y % 4294967296) (z % 4294967296)) 255 < 256 := by rw [MK.out]; omega
  obtain ⟨k0, k1⟩ := k0
  clear m0 m1
  go_wp2_with fail
  go_ret
  exact ⟨ret_int (MK.out), rfl⟩

set_option maxRecDepth 100000 in
theorem corner_ref (x y z : Int) (w : World) :
    Calls Try.prog 19 #[.int .i64 x, .int .i64 y, .int .i64 z] w fun e w' => e = .returned (.int .i64 (cornerF x y z)) ∧ w = w' := by
  go_enter Try.func19, Try.ntmps19
  go_wp2_with fail
  refine (mix_ref _ _ _ _).mono ?_
  rintro e w' ⟨rfl, rfl⟩
  obtain ⟨m0, m1⟩ := mixF_bd (x % 4294967296) (y % 4294967296) (z % 4294967296)
  go_wp2_with fail
  go_ret
  exact ⟨ret_int rfl, rfl⟩

theorem blend_any (a b k : Int) (w : World) (a0 : 0 ≤ a) (a1 : a < 256) (b0 : 0 ≤ b) (b1 : b < 256) (k0 : 0 ≤ k) (k1 : k ≤ 256) :
    Calls Try.prog 15 #[.int .i64 a, .int .i64 b, .int .i64 k] w fun e w' => e = .returned (.int .i64 (blendF a b k)) ∧ w = w' := by
  obtain ⟨s0, s1, s2, s3, s4⟩ := blendF_sum a0 a1 b0 b1 k0 k1
  go_enter Try.func15, Try.ntmps15
  go_wp2_with fail
  go_ret
  exact ⟨ret_int rfl, rfl⟩

theorem blend_ref (a b k : Int) (w : World) (a0 : 0 ≤ a) (a1 : a < 256) (b0 : 0 ≤ b) (b1 : b < 256) (k0 : 0 ≤ k) (k1 : k ≤ 256) :
    Calls Try.prog 18 #[.int .i64 a, .int .i64 b, .int .i64 k] w fun e w' => e = .returned (.int .i64 (blendF a b k)) ∧ w = w' := by
  obtain ⟨s0, s1, s2, s3, s4⟩ := blendF_sum a0 a1 b0 b1 k0 k1
  go_enter Try.func18, Try.ntmps18
  go_wp2_with fail
  go_ret
  exact ⟨ret_int rfl, rfl⟩

set_option maxHeartbeats 400000 in
theorem plane_any (i j u v k : Int) (a1 a2 a3 a4 : Nat) (w : World) (h1 : w.cell? ⟨a1, 0, none⟩ = some (.int .i64 i)) (h2 : w.cell? ⟨a2, 0, none⟩ = some (.int .i64 j)) (h3 : w.cell? ⟨a3, 0, none⟩ = some (.int .i64 u)) (h4 : w.cell? ⟨a4, 0, none⟩ = some (.int .i64 v))
    (i0 : -4294967296 ≤ i) (i1 : i ≤ 4294967296) (j0 : -4294967296 ≤ j) (j1 : j ≤ 4294967296) (u0 : 0 ≤ u) (u1 : u < 256) (v0 : 0 ≤ v) (v1 : v < 256) :
    Calls Try.prog 14 #[.int .i64 k, .pointer (some ⟨a1, 0, none⟩), .pointer (some ⟨a2, 0, none⟩), .pointer (some ⟨a3, 0, none⟩), .pointer (some ⟨a4, 0, none⟩)] w fun e w' =>
      e = .returned (.int .i64 (planeF i j u v k)) ∧ ∃ n, w' = w.drewN n := by
  obtain ⟨c0, c1⟩ := cornerF_bd i j k
  obtain ⟨c2, c3⟩ := cornerF_bd (i + 1) j k
  obtain ⟨c4, c5⟩ := cornerF_bd i (j + 1) k
  obtain ⟨c6, c7⟩ := cornerF_bd (i + 1) (j + 1) k
  obtain ⟨e0, e1⟩ := blendF_bd c0 c1 c2 c3 u0 (by omega)
  obtain ⟨f0, f1⟩ := blendF_bd c4 c5 c6 c7 u0 (by omega)
  go_enter Try.func14, Try.ntmps14
  go_wp2_with fail
  go_quiet ((first | (go_at_call 16; exact quiet_left (corner_any _ _ _ _)) | (go_at_call 15; exact quiet_left (blend_any _ _ _ _ (by omega) (by omega) (by omega) (by omega) (by omega) (by omega)))))
  go_wp2_with fail
  go_quiet ((first | (go_at_call 16; exact quiet_add_left (corner_any _ _ _ _)) | (go_at_call 15; exact quiet_add_left (blend_any _ _ _ _ (by omega) (by omega) (by omega) (by omega) (by omega) (by omega)))))
  go_wp2_with fail
  refine (blend_any _ _ _ _ (by omega) (by omega) (by omega) (by omega) (by omega) (by omega)).mono ?_
  rintro e w' ⟨rfl, rfl⟩
  go_wp2_with fail
  go_ret
  exact ⟨ret_int rfl, _, rfl⟩
end Go.Proofs.Ytllllhnjhjdeiaa
