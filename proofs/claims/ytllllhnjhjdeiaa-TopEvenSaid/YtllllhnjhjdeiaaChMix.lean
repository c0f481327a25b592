/- The walks of chance.Mix and Mirrored, and of the reference's: each comes to the plain function of XChPlain. No conditions but that the numbers fit their kinds. -/
import Derived.Test.YtllllhnjhjdeiaaProg
import Derived.Test.YtllllhnjhjdeiaaChPlain
namespace Go.Proofs.Ytllllhnjhjdeiaa
open Go.RowKit

theorem mix_ref (a b c : Int) (w : World) : Calls Try.prog 8 #[.int .u32 a, .int .u32 b, .int .u32 c] w fun e w' => e = .returned (.int .u32 (mixF a b c)) ∧ w = w' := by
  go_enter Try.func8, Try.ntmps8
  go_wp2
  go_ret
  exact ⟨ret_int (by simp only [xor_tdiv _ _ _ (show (1 : Int) ≤ 32768 by omega)]; rfl), rfl⟩

theorem mix_any (a b c : Int) (w : World) : Calls Try.prog 7 #[.int .u32 a, .int .u32 b, .int .u32 c] w fun e w' => e = .returned (.int .u32 (mixF a b c)) ∧ w = w' := by
  have i0 : ∀ w, (Instr.index 33 (.agg #[.int .u32 2246822507, .int .u32 3266489909]) (.int .i64 0)).run Try.prog w = .ok (.int .u32 2246822507) w := fun _ => by kernel_rfl
  have i1 : ∀ w, (Instr.index 33 (.agg #[.int .u32 2246822507, .int .u32 3266489909]) (.int .i64 1)).run Try.prog w = .ok (.int .u32 3266489909) w := fun _ => by kernel_rfl
  go_enter Try.func7, Try.ntmps7
  go_wp2
  refine wp_loop_rounds 3 ?_
  rw [rounds_succ]
  go_wp2
  rw [rounds_succ]
  go_wp2
  rw [rounds_succ]
  go_wp2
  go_ret
  exact ⟨ret_int rfl, rfl⟩

set_option maxRecDepth 100000 in
theorem mirrored_any (b n : Int) (w : World) (hn : -9223372036854775808 ≤ n ∧ n ≤ 9223372036854775807) :
    Calls Try.prog 5 #[.int .i64 b, .int .i64 n] w fun e w' => e = .returned (.tuple #[.int .i64 (mirR b n).1, .int .i64 (mirR b n).2.1, .int .i64 (mirR b n).2.2]) ∧ w = w' := by
  by_cases hbad : mirBad b n
  · rw [mirR_bad hbad]
    unfold mirBad at hbad
    by_cases h1 : b < 2
    · clear hbad
      go_enter Try.func5, Try.ntmps5
      go_wp2
      go_ret3
      exact ⟨rfl, rfl⟩
    · by_cases h2 : 16 < b
      · clear hbad
        go_enter Try.func5, Try.ntmps5
        go_wp2
        go_ret3
        exact ⟨rfl, rfl⟩
      · by_cases h3 : n < 0
        · clear hbad
          go_enter Try.func5, Try.ntmps5
          go_wp2
          go_ret3
          exact ⟨rfl, rfl⟩
        · have h4 : 16777216 ≤ n := by omega
          clear hbad
          go_enter Try.func5, Try.ntmps5
          go_wp2
          go_ret3
          exact ⟨rfl, rfl⟩
  · have hb1 : 2 ≤ b ∧ b ≤ 16 ∧ 0 ≤ n ∧ n < 16777216 := by unfold mirBad at hbad; omega
    obtain ⟨hb1, hb2, hn0, hn1⟩ := hb1
    have HB := hid hbad
    clear hbad
    go_enter Try.func5, Try.ntmps5
    go_wp2
    obtain ⟨b, rfl⟩ := Int.eq_ofNat_of_zero_le (show 0 ≤ b by omega)
    obtain ⟨n, rfl⟩ := Int.eq_ofNat_of_zero_le (show 0 ≤ n by omega)
    have HN : Hid (n < 16777216) := hid (by omega)
    clear hn1 hn0 hn
    go_loop [1, 4, 5] (fun x num den => ∃ n' p q : Nat, MirInv b n n' p q ∧ x = .int .i64 n' ∧ num = .int .i64 p ∧ den = .int .i64 q) (fun x _ _ => (intOf x).toNat)
    case atStart => exact ⟨n, 0, 1, .start b n, rfl, rfl, rfl⟩
    case round =>
      obtain ⟨n', p, q, hi, rfl, rfl, rfl⟩ := hrel
      by_cases h0 : 0 < n'
      · have hx : (0 : Int) ≤ (p : Int) * (b : Int) ∧ (p : Int) * (b : Int) ≤ 268435456 ∧ (0 : Int) ≤ (q : Int) * (b : Int) ∧ (q : Int) * (b : Int) ≤ 268435456 ∧ (0 : Int) ≤ (n' : Int) % (b : Int) ∧ (n' : Int) % (b : Int) < 16 := by
          obtain ⟨hs1, hs2⟩ := hi.small HN.out h0
          have hm := mul16 (x := p) (b := b) (by omega)
          have hm' := mul16 (x := q) (b := b) (by omega)
          have hmod : n' % b < b := Nat.mod_lt _ (by omega)
          rw [← Int.natCast_mul, ← Int.natCast_mul, ← Int.natCast_emod]
          omega
        have hy : n' < 4294967296 := by
          have := hi.le
          have := HN.out
          omega
        have hz : n' / b < n' := Nat.div_lt_self h0 (by omega)
        have hz1 : (0 : Int) ≤ (n' : Int) / (b : Int) ∧ (n' : Int) / (b : Int) < n' := ⟨Int.ediv_nonneg (by omega) (by omega), by omega⟩
        clear hz
        obtain ⟨hz1, hz2⟩ := hz1
        obtain ⟨hx1, hx2, hx3, hx4, hx5, hx6⟩ := hx
        go_wp2
        go_round
        case rel => exact ⟨n' / b, p * b + n' % b, q * b, hi.step (by omega) (by omega) HN.out h0, by simp, by simp, by simp⟩
        case measure => simp [intOf]; omega
      · obtain rfl : n' = 0 := by omega
        go_wp2
        go_ret3
        rw [mirR_good HB.out hi]
        exact ⟨rfl, rfl⟩

set_option maxRecDepth 100000 in
theorem mirrored_ref (b n : Int) (w : World) (hn : -9223372036854775808 ≤ n ∧ n ≤ 9223372036854775807) :
    Calls Try.prog 6 #[.int .i64 b, .int .i64 n] w fun e w' => e = .returned (.tuple #[.int .i64 (mirR b n).1, .int .i64 (mirR b n).2.1, .int .i64 (mirR b n).2.2]) ∧ w = w' := by
  by_cases hbad : mirBad b n
  · rw [mirR_bad hbad]
    unfold mirBad at hbad
    by_cases h1 : b < 2
    · clear hbad
      go_enter Try.func6, Try.ntmps6
      go_wp2
      go_ret3
      exact ⟨rfl, rfl⟩
    · by_cases h2 : 16 < b
      · clear hbad
        go_enter Try.func6, Try.ntmps6
        go_wp2
        go_ret3
        exact ⟨rfl, rfl⟩
      · by_cases h3 : n < 0
        · clear hbad
          go_enter Try.func6, Try.ntmps6
          go_wp2
          go_ret3
          exact ⟨rfl, rfl⟩
        · have h4 : 16777216 ≤ n := by omega
          clear hbad
          go_enter Try.func6, Try.ntmps6
          go_wp2
          go_ret3
          exact ⟨rfl, rfl⟩
  · have hb1 : 2 ≤ b ∧ b ≤ 16 ∧ 0 ≤ n ∧ n < 16777216 := by unfold mirBad at hbad; omega
    obtain ⟨hb1, hb2, hn0, hn1⟩ := hb1
    have HB := hid hbad
    clear hbad
    go_enter Try.func6, Try.ntmps6
    go_wp2
    obtain ⟨b, rfl⟩ := Int.eq_ofNat_of_zero_le (show 0 ≤ b by omega)
    obtain ⟨n, rfl⟩ := Int.eq_ofNat_of_zero_le (show 0 ≤ n by omega)
    have HN : Hid (n < 16777216) := hid (by omega)
    clear hn1 hn0 hn
    go_loop [1, 7, 8] (fun x num den => ∃ n' p q : Nat, MirInv b n n' p q ∧ x = .int .i64 n' ∧ num = .int .i64 p ∧ den = .int .i64 q) (fun x _ _ => (intOf x).toNat)
    case atStart => exact ⟨n, 0, 1, .start b n, rfl, rfl, rfl⟩
    case round =>
      obtain ⟨n', p, q, hi, rfl, rfl, rfl⟩ := hrel
      by_cases h0 : 0 < n'
      · have hx : (0 : Int) ≤ (p : Int) * (b : Int) ∧ (p : Int) * (b : Int) ≤ 268435456 ∧ (0 : Int) ≤ (q : Int) * (b : Int) ∧ (q : Int) * (b : Int) ≤ 268435456 ∧ (0 : Int) ≤ (n' : Int) % (b : Int) ∧ (n' : Int) % (b : Int) < 16 := by
          obtain ⟨hs1, hs2⟩ := hi.small HN.out h0
          have hm := mul16 (x := p) (b := b) (by omega)
          have hm' := mul16 (x := q) (b := b) (by omega)
          have hmod : n' % b < b := Nat.mod_lt _ (by omega)
          rw [← Int.natCast_mul, ← Int.natCast_mul, ← Int.natCast_emod]
          omega
        have hy : n' < 4294967296 := by
          have := hi.le
          have := HN.out
          omega
        have hz : n' / b < n' := Nat.div_lt_self h0 (by omega)
        have hz1 : (0 : Int) ≤ (n' : Int) / (b : Int) ∧ (n' : Int) / (b : Int) < n' := ⟨Int.ediv_nonneg (by omega) (by omega), by omega⟩
        clear hz
        obtain ⟨hz1, hz2⟩ := hz1
        obtain ⟨hx1, hx2, hx3, hx4, hx5, hx6⟩ := hx
        go_wp2
        go_round
        case rel => exact ⟨n' / b, p * b + n' % b, q * b, hi.step (by omega) (by omega) HN.out h0, by simp, by simp, by simp⟩
        case measure => simp [intOf]; omega
      · obtain rfl : n' = 0 := by omega
        go_wp2
        go_ret3
        rw [mirR_good HB.out hi]
        exact ⟨rfl, rfl⟩
end Go.Proofs.Ytllllhnjhjdeiaa
