/- The walk of the law TopEven: it returns true. -/
import Derived.Test.YtllllhnjhjdeiaaPick
import Derived.Test.YtllllhnjhjdeiaaEvenPlain
import Derived.Test.YtllllhnjhjdeiaaChMix
namespace Go.Proofs.Ytllllhnjhjdeiaa
open Go.RowKit

theorem pow_le4 {b k : Nat} (hb : b ≤ 16) (hk : k ≤ 3) : b ^ k ≤ 4096 := by
  have h1 : b ^ k ≤ 16 ^ k := Nat.pow_le_pow_left hb k
  have h2 : 16 ^ k ≤ 16 ^ 3 := Nat.pow_le_pow_right (by omega) hk
  omega
theorem part_lt {a A b : Nat} (h : a < b) (hA : 0 < A) : a * A / b < A := Nat.div_lt_of_lt_mul (by rw [Nat.mul_comm b A, Nat.mul_comm a A]; exact Nat.mul_lt_mul_of_pos_left h hA)

set_option maxHeartbeats 1000000 in
set_option maxRecDepth 100000 in
theorem top_even (base m part : Int) (w : World) (w0 : (Lit.int .i64 base).wf = true) (w1 : (Lit.int .i64 m).wf = true) (w2 : (Lit.int .i64 part).wf = true) :
    Calls Try.prog 4 #[.int .i64 base, .int .i64 m, .int .i64 part] w fun e w' => e = .returned (.bool true) ∧ Below w.heap.size w w' := by
  have H0 := hid (I64.of_wf w0)
  have H1 := hid (I64.of_wf w1)
  have H2 := hid (I64.of_wf w2)
  clear w0 w1 w2
  obtain ⟨b0, b1⟩ := pickF_bd base 15 (by omega)
  obtain ⟨m0, m1⟩ := pickF_bd m 4 (by omega)
  go_enter Try.func4, Try.ntmps4
  go_wp2_with fail
  refine (pick_any base 15 _ H0.out (by omega) (by omega)).mono ?_
  rintro e w' ⟨rfl, rfl⟩
  go_wp2_with fail
  refine (pick_any m 4 _ H1.out (by omega) (by omega)).mono ?_
  rintro e w' ⟨rfl, rfl⟩
  generalize pickF base 15 = B at *
  generalize pickF m 4 = M at *
  obtain ⟨B, rfl⟩ := Int.eq_ofNat_of_zero_le b0
  obtain ⟨M, rfl⟩ := Int.eq_ofNat_of_zero_le m0
  go_wp2_with fail
  go_loop [7, 8] (fun all k => ∃ i : Nat, i ≤ M ∧ k = .int .i64 i ∧ all = .int .i64 (((2 + B) ^ i : Nat) : Int)) (fun _ k => M - (intOf k).toNat)
  case atStart => exact ⟨0, by omega, rfl, rfl⟩
  case round =>
    obtain ⟨i, hi, rfl, rfl⟩ := hrel
    have hp : (2 + B) ^ i ≤ 4096 := pow_le4 (by omega) (by omega)
    have HM := hid (show ((2 + B) ^ i : Nat) * (2 + B) = (2 + B) ^ (i + 1) from rfl)
    by_cases hlt : i < M
    · have hm : (2 + B) ^ (i + 1) ≤ 4096 := pow_le4 (by omega) (by omega)
      rw [← HM.out] at hm
      generalize hA : (2 + B) ^ i = A at *
      have HA := hid hA
      clear hA
      have hb : (0 : Int) ≤ (A : Int) * (2 + (B : Int)) ∧ (A : Int) * (2 + (B : Int)) ≤ 4096 := by
        have e : (A : Int) * (2 + (B : Int)) = ((A * (2 + B) : Nat) : Int) := by simp
        rw [e]; omega
      obtain ⟨hb1, hb2⟩ := hb
      clear hm
      go_wp2_with fail
      go_round
      case rel => exact ⟨i + 1, by omega, by go_num, by rw [← HM.out, Int.natCast_mul]; rfl⟩
      case measure => simp [intOf]; omega
    · obtain rfl : i = M := by omega
      have hp1 : 1 ≤ (2 + B) ^ i := Nat.one_le_pow _ _ (by omega)
      have HR := hid (rev_ok i (2 + B) (by omega) (by omega) (by omega))
      generalize hA : (2 + B) ^ i = A at *
      clear hA HM
      by_cases hbig : 1000 < A
      · go_wp2_with fail
        go_ret
        exact ⟨rfl, Below.refl _ _⟩
      · obtain ⟨p0, p1⟩ := pickF_bd part A (by omega)
        go_wp2_with fail
        refine (pick_any part A _ H2.out (by omega) (by omega)).mono ?_
        rintro e w' ⟨rfl, rfl⟩
        generalize pickF part A = P at *
        obtain ⟨P, rfl⟩ := Int.eq_ofNat_of_zero_le p0
        clear H0 H1 H2
        go_wp2_with fail
        go_loop [9, 10] (fun hits n => ∃ k : Nat, k ≤ A ∧ n = .int .i64 k ∧ hits = .int .i64 ((hitsF (revF (2 + B) A) P k : Nat) : Int)) (fun _ n => A - (intOf n).toNat)
        case atStart => exact ⟨0, by omega, rfl, rfl⟩
        case round =>
          obtain ⟨k, hk, rfl, rfl⟩ := hrel
          have hh := hitsF_le (revF (2 + B) A) P k
          have HS : Hid (hitsF (revF (2 + B) A) P (k + 1) = hitsF (revF (2 + B) A) P k + if revF (2 + B) A k = P then 1 else 0) := hid rfl
          by_cases hkl : k < A
          · have E : mirR (2 + (B : Int)) (k : Int) = (((mir (2 + B) k k 0 1).1 : Int), ((mir (2 + B) k k 0 1).2 : Int), 0) := by
              unfold mirR
              rw [if_neg (by unfold mirBad; omega)]
              simp only [Int.toNat_natCast, show (2 + (B : Int)).toNat = 2 + B by omega]
            obtain ⟨f1, f2⟩ := mir_bd (2 + B) k (by omega) (by omega) (by omega)
            have HP : Hid ((mir (2 + B) k k 0 1).1 * A / (mir (2 + B) k k 0 1).2 = revF (2 + B) A k) := hid rfl
            go_wp2_with fail
            refine (mirrored_any (2 + (B : Int)) k _ (by omega)).mono ?_
            rintro e w' ⟨rfl, rfl⟩
            rw [E]
            clear E
            generalize (mir (2 + B) k k 0 1).1 = num at *
            generalize (mir (2 + B) k k 0 1).2 = den at *
            have hx := part_lt f1 (show 0 < A by omega)
            have hy : (0 : Int) ≤ (num : Int) * (A : Int) ∧ (num : Int) * (A : Int) ≤ 268435456000 := by
              rw [← Int.natCast_mul]
              have : num * A ≤ num * 1000 := Nat.mul_le_mul_left _ (by omega)
              omega
            obtain ⟨hy1, hy2⟩ := hy
            have hz : (0 : Int) ≤ (num : Int) * (A : Int) / (den : Int) ∧ (num : Int) * (A : Int) / (den : Int) < A := by
              rw [← Int.natCast_mul, ← Int.natCast_ediv]
              exact ⟨Int.natCast_nonneg _, by omega⟩
            obtain ⟨hz1, hz2⟩ := hz
            have HQ : Hid ((num : Int) * (A : Int) / (den : Int) = ((revF (2 + B) A k : Nat) : Int)) := hid (by rw [← HP.out, Int.natCast_ediv, Int.natCast_mul])
            clear hx
            have f0 : (0 : Int) ≤ (num : Int) := Int.natCast_nonneg _
            by_cases hit : revF (2 + B) A k = P
            · have ht : ((num : Int) * (A : Int) / (den : Int) == (P : Int)) = true := by rw [HQ.out]; simp [hit]
              have HS2 : Hid (hitsF (revF (2 + B) A) P (k + 1) = hitsF (revF (2 + B) A) P k + 1) := hid (by rw [HS.out, if_pos hit])
              clear hit
              go_wp2_with fail
              go_round
              case rel => exact ⟨k + 1, by omega, by go_num, by rw [HS2.out]; go_num⟩
              case measure => simp [intOf]; omega
            · have ht : ((num : Int) * (A : Int) / (den : Int) == (P : Int)) = false := by rw [HQ.out]; simp; omega
              have HS2 : Hid (hitsF (revF (2 + B) A) P (k + 1) = hitsF (revF (2 + B) A) P k) := hid (by rw [HS.out, if_neg hit, Nat.add_zero])
              clear hit
              go_wp2_with fail
              go_round
              case rel => exact ⟨k + 1, by omega, by go_num, by rw [HS2.out]⟩
              case measure => simp [intOf]; omega
          · obtain rfl : k = A := by omega
            have h1 : hitsF (revF (2 + B) k) P k = 1 := hits_one _ k P (by omega) (fun n hn => HR.out (by omega) n hn)
            rw [h1]
            clear HS
            go_wp2_with fail
            go_ret
            exact ⟨rfl, Below.refl _ _⟩
end Go.Proofs.Ytllllhnjhjdeiaa
