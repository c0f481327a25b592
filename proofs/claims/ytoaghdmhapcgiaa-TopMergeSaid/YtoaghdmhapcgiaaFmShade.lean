/- film.Shade: the walk. -/
import Derived.Test.YtoaghdmhapcgiaaProg
import Derived.Test.YtoaghdmhapcgiaaBase
import Derived.Test.YtoaghdmhapcgiaaMem
namespace Go.Proofs.Ytoaghdmhapcgiaa
open Go.RowKit
set_option linter.unusedVariables false
set_option linter.unusedSimpArgs false

def leastP (b : Int) : Int := (b * b * 65536 + 65024) / 65025
theorem leastP_zero : leastP 0 = 0 := by decide
theorem leastP_mono {a b : Int} (h0 : 0 ≤ a) (h : a ≤ b) : leastP a ≤ leastP b := by
  unfold leastP
  have : a * a ≤ b * b := Int.mul_le_mul h h h0 (by omega)
  omega

theorem least_any (b : Int) (w : World) (h0 : 0 ≤ b) (h1 : b < 256) : Calls Try.prog 29 #[.int .i64 b] w fun e w' => e = .returned (.int .i64 (leastP b)) ∧ w = w' := by
  have a1 : 0 ≤ b * b := Int.mul_nonneg h0 h0
  have a2 : b * b ≤ 255 * 255 := Int.mul_le_mul (by omega) (by omega) h0 (by omega)
  have e : Hid (leastP b = (b * b * 65536 + 65024) / 65025) := hid rfl
  have e2 : Hid (Int.tdiv (b * b * 65536 + 65024) 65025 = (b * b * 65536 + 65024) / 65025) := hid (Int.tdiv_eq_ediv_of_nonneg (by omega))
  go_enter Try.func29, Try.ntmps29
  go_wp2_with fail
  go_ret
  exact ⟨ret_int (by rw [e.out, ← e2.out]), rfl⟩

theorem shadeF (blk : Nat) (l b : Int) (w : World) (hc : w.cell? ⟨blk, 0, none⟩ = some (.int .i64 l)) (h0 : 0 ≤ b) (h1 : b < 256) :
    Calls Try.prog 28 #[.int .i64 b, .pointer (some ⟨blk, 0, none⟩)] w fun e w' => e = .returned (.bool (decide (l < leastP b))) ∧ ∃ n, w' = w.drewN n := by
  have hl := fun w => least_any b w h0 h1
  generalize leastP b = v at *
  go_enter Try.func28, Try.ntmps28
  go_wp2_with fail
  go_quiet ((go_at_call 29; exact quiet_left (hl _)))
  go_wp2_with fail
  go_ret
  exact ⟨rfl, _, rfl⟩

/-- The place that a binary search finds: below it the light suffices, from it on it does not. -/
theorem search_any (blk : Nat) (l : Int) (w : World) (hc : w.cell? ⟨blk, 0, none⟩ = some (.int .i64 l)) :
    Calls Try.prog 27 #[.int .i64 256, .func (.func 28) #[] #[.pointer (some ⟨blk, 0, none⟩)]] w fun e w' => ∃ k : Nat, e = .returned (.int .i64 k) ∧ k ≤ 256 ∧ (∀ b : Nat, b < k → leastP b ≤ l) ∧ (∀ b : Nat, k ≤ b → b < 256 → l < leastP b) ∧ ∃ n, w' = w.drewN n := by
  have hF := fun (b : Int) (n : Nat) h0 h1 => shadeF blk l b (w.drewN n) (by simpa using hc) h0 h1
  have hM := fun (a b : Int) (h0 : 0 ≤ a) (h : a ≤ b) => leastP_mono h0 h
  clear hc
  generalize leastP = v at *
  go_enter Try.func27, Try.ntmps27
  go_wp2_with fail
  go_loopw [5, 6] (fun iv jv wr => ∃ i j : Nat, i ≤ j ∧ j ≤ 256 ∧ iv = .int .i64 i ∧ jv = .int .i64 j ∧ (∀ b : Nat, b < i → v b ≤ l) ∧ (∀ b : Nat, j ≤ b → b < 256 → l < v b) ∧ ∃ n, wr = w.drewN n) (fun x y _ => (intOf y).toNat - (intOf x).toNat)
  case atStart => exact ⟨0, 256, by omega, by omega, rfl, rfl, by omega, by omega, 0, rfl⟩
  case round =>
    obtain ⟨i, j, hij, hj, rfl, rfl, hlo, hhi, n, rfl⟩ := hrel
    by_cases hlt : i < j
    · obtain ⟨h, hh⟩ : ∃ h : Nat, ((i : Int) + j) / 2 = h := ⟨(i + j) / 2, by omega⟩
      go_wp2_with fail
      have h1 : i ≤ h := by omega
      have h2 : h < j := by omega
      refine (hF h n (by omega) (by omega)).mono ?_
      rintro e w' ⟨rfl, m, rfl⟩
      cases hd : decide (l < v h)
      case true =>
        have ht : l < v h := of_decide_eq_true hd
        go_wp2_with fail
        refine ⟨⟨i, h, by omega, by omega, rfl, rfl, hlo, ?_, n + m, by simp⟩, ?_⟩
        · intro b hb hb'
          have := hM h b (by omega) (by omega)
          omega
        · simp [intOf]; omega
      case false =>
        have ht : v h ≤ l := by have := of_decide_eq_false hd; omega
        go_wp2_with fail
        refine ⟨⟨h + 1, j, by omega, by omega, by simp, rfl, ?_, hhi, n + m, by simp⟩, ?_⟩
        · intro b hb
          have := hM b h (by omega) (by omega)
          omega
        · simp [intOf]; omega
    · obtain rfl : i = j := by omega
      go_wp2_with fail
      go_ret
      exact ⟨i, rfl, hj, hlo, hhi, n, rfl⟩

def IsShade (l s : Int) : Prop := (l < 0 ∧ s = 0) ∨ (0 ≤ l ∧ ∃ k : Nat, 1 ≤ k ∧ k ≤ 256 ∧ s = k - 1 ∧ (∀ b : Nat, b < k → leastP b ≤ l) ∧ (∀ b : Nat, k ≤ b → b < 256 → l < leastP b))
theorem IsShade.mono {a b s t : Int} (ha : IsShade a s) (hb : IsShade b t) (h : a ≤ b) : s ≤ t := by
  rcases ha with ⟨h1, rfl⟩ | ⟨h1, k, k1, k2, rfl, kl, kh⟩
  · rcases hb with ⟨_, rfl⟩ | ⟨_, m, m1, m2, rfl, ml, mh⟩ <;> omega
  · rcases hb with ⟨_, rfl⟩ | ⟨_, m, m1, m2, rfl, ml, mh⟩
    · omega
    · by_cases hmk : m < k
      · have g1 := kl m hmk
        have g2 := mh m (by omega) (by omega)
        omega
      · omega
theorem IsShade.bounds {l s : Int} (h : IsShade l s) : 0 ≤ s ∧ s ≤ 255 := by
  rcases h with ⟨h1, rfl⟩ | ⟨h1, k, k1, k2, rfl, kl, kh⟩ <;> omega
theorem IsShade.at0 {s : Int} (h : IsShade 0 s) : s = 0 := by
  rcases h with ⟨h1, rfl⟩ | ⟨h1, k, k1, k2, rfl, kl, kh⟩
  · rfl
  · by_cases hk : k = 1
    · omega
    · have := kl 1 (by omega)
      have e : leastP ((1 : Nat) : Int) = 2 := by decide
      omega
theorem IsShade.full {s : Int} (h : IsShade 65536 s) : s = 255 := by
  rcases h with ⟨h1, rfl⟩ | ⟨h1, k, k1, k2, rfl, kl, kh⟩
  · omega
  · by_cases hk : k < 256
    · have := kh k (by omega) hk
      have e : leastP 255 = 65536 := by decide
      have := leastP_mono (a := (k : Int)) (b := 255) (by omega) (by omega)
      omega
    · omega
theorem IsShade.nearly {s : Int} (h : IsShade 65535 s) : s = 254 := by
  rcases h with ⟨h1, rfl⟩ | ⟨h1, k, k1, k2, rfl, kl, kh⟩
  · omega
  · by_cases hk : k < 255
    · have := kh k (by omega) (by omega)
      have e : leastP 254 ≤ 65535 := by decide
      have := leastP_mono (a := (k : Int)) (b := 254) (by omega) (by omega)
      omega
    · by_cases hk : k = 256
      · have := kl 255 (by omega)
        have e : leastP ((255 : Nat) : Int) = 65536 := by decide
        omega
      · omega

theorem shade_any (l : Int) (w : World) :
    Calls Try.prog 15 #[.int .i64 l] w fun e w' => ∃ s, e = .returned (.int .u8 s) ∧ Hid (IsShade l s) ∧ Below w.heap.size w w' := by
  by_cases hl : l < 0
  · go_enter Try.func15, Try.ntmps15
    go_wp2_with fail
    go_ret
    exact ⟨0, rfl, hid (.inl ⟨hl, rfl⟩), bel_alloc (Below.refl _ _) _⟩
  · have hS := search_any w.heap.size l (w.alloc (.cells #[.int .i64 l] 3)) (by rw [cell_alloc_if]; simp)
    go_enter Try.func15, Try.ntmps15
    go_wp2_with fail
    refine hS.mono ?_
    rintro e w' ⟨k, rfl, k2, kl, kh, n, rfl⟩
    have k1 : 1 ≤ k := by
      rcases Nat.eq_zero_or_pos k with rfl | h
      · have := kh 0 (by omega) (by omega)
        have e0 : leastP ((0 : Nat) : Int) = 0 := by decide
        omega
      · exact h
    have HS : Hid (IsShade l (k - 1)) := hid (.inr ⟨by omega, k, k1, k2, rfl, kl, kh⟩)
    clear kl kh hS
    go_wp2_with fail
    go_ret
    exact ⟨_, rfl, HS, below_drewN (bel_alloc (Below.refl _ _) _) _⟩

theorem topShade_ordered (a b : Int) (w : World) (h : a ≤ b) (h' : ¬ a > b) :
    Calls Try.prog 6 #[.int .i64 a, .int .i64 b] w fun e w' => e = .returned (.bool true) ∧ Below w.heap.size w w' := by
  go_enter Try.func6, Try.ntmps6
  go_wp2_with fail
  refine (shade_any _ _).mono ?_
  rintro e w1 ⟨s, rfl, hs, b1⟩
  go_wp2_with fail
  refine (shade_any _ _).mono ?_
  rintro e w2 ⟨t, rfl, ht, b2⟩
  have hst : s ≤ t := hs.out.mono ht.out h
  go_wp2_with fail
  refine (shade_any _ _).mono ?_
  rintro e w3 ⟨x, rfl, hx, b3⟩
  obtain rfl : x = 0 := hx.out.at0
  go_wp2_with fail
  refine (shade_any _ _).mono ?_
  rintro e w4 ⟨x, rfl, hx4, b4⟩
  obtain rfl : x = 255 := hx4.out.full
  go_wp2_with fail
  refine (shade_any _ _).mono ?_
  rintro e w5 ⟨x, rfl, hx5, b5⟩
  obtain rfl : x = 254 := hx5.out.nearly
  go_wp2_with fail
  go_ret
  have c2 := b1.trans (b2.mono b1.size)
  have c3 := c2.trans (b3.mono c2.size)
  have c4 := c3.trans (b4.mono c3.size)
  exact ⟨rfl, c4.trans (b5.mono c4.size)⟩
end Go.Proofs.Ytoaghdmhapcgiaa
