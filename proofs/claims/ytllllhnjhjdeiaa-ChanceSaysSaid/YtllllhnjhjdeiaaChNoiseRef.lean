/- The walk of the reference's Noise. No conditions. -/
import Derived.Test.YtllllhnjhjdeiaaChNoise
namespace Go.Proofs.Ytllllhnjhjdeiaa
open Go.RowKit

theorem own_form {w : World} {base : Nat} {e : TypeId} {v : Value} {n : Nat} {xs : List Value} (h : w.ownsRow base e 1 v n xs) (hn : 0 < n) :
    ∃ g cap, v = .slice (some ⟨g, 0, none⟩) n cap ∧ base ≤ g ∧ g < w.heap.size := by
  have hl := h.1
  rcases h.2 with ⟨_, hx⟩ | ⟨g, cap, _, hv, _⟩
  · rw [hx] at hl; simp at hl; omega
  · exact ⟨g, cap, hv, h.lt g (by rw [hv]; rfl)⟩
theorem tdiv_bd (a n : Int) (n0 : 1 ≤ n) : (0 ≤ a → 0 ≤ a.tdiv n ∧ a.tdiv n ≤ a) ∧ (a ≤ 0 → a ≤ a.tdiv n ∧ a.tdiv n ≤ 0) := by
  constructor
  · intro h
    rw [Int.tdiv_eq_ediv_of_nonneg h]
    exact ⟨Int.ediv_nonneg h (by omega), Int.ediv_le_self _ h⟩
  · intro h
    obtain ⟨b, rfl⟩ : ∃ b, a = -b := ⟨-a, by omega⟩
    have hb : 0 ≤ b := by omega
    rw [Int.neg_tdiv, Int.tdiv_eq_ediv_of_nonneg hb]
    have h1 := Int.ediv_nonneg hb (show 0 ≤ n by omega)
    have h2 := Int.ediv_le_self n hb
    omega
/-- Go's quotient and rest, and the ones cut off downward. -/
theorem floor_facts (a n : Int) (n0 : 1 ≤ n) : -n < a.tmod n ∧ a.tmod n < n ∧ 0 ≤ a % n ∧ a % n < n ∧
    ((a.tmod n < 0 → a.tdiv n - 1 = a / n ∧ a.tmod n + n = a % n) ∧ (¬ a.tmod n < 0 → a.tdiv n = a / n ∧ a.tmod n = a % n)) := by
  have h0 := Int.emod_nonneg a (show n ≠ 0 by omega)
  have h1 := Int.emod_lt_of_pos a (show 0 < n by omega)
  have h2 := Int.mul_tdiv_add_tmod a n
  have h3 := Int.mul_ediv_add_emod a n
  have hb : -n < a.tmod n ∧ a.tmod n < n := by
    rcases Int.le_total 0 a with h | h
    · rw [Int.tmod_eq_emod_of_nonneg h]; omega
    · obtain ⟨b, rfl⟩ : ∃ b, a = -b := ⟨-a, by omega⟩
      have hb : 0 ≤ b := by omega
      rw [Int.neg_tmod, Int.tmod_eq_emod_of_nonneg hb]
      have h4 := Int.emod_nonneg b (show n ≠ 0 by omega)
      have h5 := Int.emod_lt_of_pos b (show 0 < n by omega)
      omega
  have key : ∀ q r : Int, n * q + r = a → 0 ≤ r → r < n → q = a / n ∧ r = a % n := fun q r he hr0 hr1 => by
    have e : a / n = q := by
      rw [← he, Int.add_comm, Int.add_mul_ediv_left _ _ (by omega), Int.ediv_eq_zero_of_lt hr0 hr1]
      omega
    refine ⟨e.symm, ?_⟩
    rw [e] at h3
    omega
  refine ⟨hb.1, hb.2, h0, h1, fun hneg => ?_, fun hpos => ?_⟩
  · exact key _ _ (by rw [Int.mul_sub]; omega) (by omega) (by omega)
  · exact key _ _ h2 (by omega) (by omega)
theorem floor_any (a n : Int) (w : World) (a0 : -4294967296 ≤ a) (a1 : a ≤ 4294967296) (n0 : 1 ≤ n) (n1 : n ≤ 65536) :
    Calls Try.prog 17 #[.int .i64 a, .int .i64 n] w fun e w' => e = .returned (.tuple #[.int .i64 (a / n), .int .i64 (a % n)]) ∧ w = w' := by
  obtain ⟨q1, q2, r1, r2, h⟩ := floor_facts a n n0
  have t1 : -4294967296 ≤ a.tdiv n ∧ a.tdiv n ≤ 4294967296 := by
    have := tdiv_bd a n n0
    omega
  obtain ⟨t1, t2⟩ := t1
  by_cases hr : a.tmod n < 0
  · have H := hid (h.1 hr)
    clear h
    go_enter Try.func17, Try.ntmps17
    go_wp2_with fail
    go_ret2
    obtain ⟨e1, e2⟩ := H.out
    rw [← e1, ← e2]
    exact ⟨rfl, rfl⟩
  · have H := hid (h.2 hr)
    clear h
    go_enter Try.func17, Try.ntmps17
    go_wp2_with fail
    go_ret2
    obtain ⟨e1, e2⟩ := H.out
    rw [← e1, ← e2]
    exact ⟨rfl, rfl⟩
theorem info_int : (Try.prog.info? 3).map (fun i => (i.zero, i.size, i.bytes)) = some (some (.int .i64 0), 1, 8) := by kernel_rfl

set_option maxHeartbeats 800000 in
set_option maxRecDepth 100000 in
theorem noise_ref (x y z : Int) (w : World) :
    Calls Try.prog 12 #[.int .i64 x, .int .i64 y, .int .i64 z] w fun e w' => e = .returned (.tuple #[.int .i64 (noiseR x y z).1, .int .i64 (noiseR x y z).2]) ∧ Below w.heap.size w w' := by
  rcases far_cases x y z with h | h | h | h | h | h | h
  case inr.inr.inr.inr.inr.inr =>
    rw [noiseR_good (by unfold farB; omega)]
    obtain ⟨x0, x1, y0, y1, z0, z1⟩ := h
    obtain ⟨a0, a1⟩ := cornerF_bd (x / 256) (y / 256) (z / 256)
    obtain ⟨a2, a3⟩ := cornerF_bd (x / 256 + 1) (y / 256) (z / 256)
    obtain ⟨a4, a5⟩ := cornerF_bd (x / 256) (y / 256 + 1) (z / 256)
    obtain ⟨a6, a7⟩ := cornerF_bd (x / 256 + 1) (y / 256 + 1) (z / 256)
    obtain ⟨a8, a9⟩ := blendF_bd a0 a1 a2 a3 (show 0 ≤ x % 256 by omega) (by omega)
    obtain ⟨a10, a11⟩ := blendF_bd a4 a5 a6 a7 (show 0 ≤ x % 256 by omega) (by omega)
    obtain ⟨a12, a13⟩ := planeF_bd (i := x / 256) (j := y / 256) (u := x % 256) (v := y % 256) (k := z / 256) (by omega) (by omega) (by omega) (by omega)
    obtain ⟨b0, b1⟩ := cornerF_bd (x / 256) (y / 256) (z / 256 + 1)
    obtain ⟨b2, b3⟩ := cornerF_bd (x / 256 + 1) (y / 256) (z / 256 + 1)
    obtain ⟨b4, b5⟩ := cornerF_bd (x / 256) (y / 256 + 1) (z / 256 + 1)
    obtain ⟨b6, b7⟩ := cornerF_bd (x / 256 + 1) (y / 256 + 1) (z / 256 + 1)
    obtain ⟨b8, b9⟩ := blendF_bd b0 b1 b2 b3 (show 0 ≤ x % 256 by omega) (by omega)
    obtain ⟨b10, b11⟩ := blendF_bd b4 b5 b6 b7 (show 0 ≤ x % 256 by omega) (by omega)
    obtain ⟨b12, b13⟩ := planeF_bd (i := x / 256) (j := y / 256) (u := x % 256) (v := y % 256) (k := z / 256 + 1) (by omega) (by omega) (by omega) (by omega)
    obtain ⟨i0, hi, hz0, hz1, hz2⟩ := info_parts info_int
    go_enter Try.func12, Try.ntmps12
    go_wp2_with fail
    refine (floor_any x 256 _ (by omega) (by omega) (by omega) (by omega)).mono ?_
    rintro e w' ⟨rfl, rfl⟩
    go_wp2_with fail
    refine (floor_any y 256 _ (by omega) (by omega) (by omega) (by omega)).mono ?_
    rintro e w' ⟨rfl, rfl⟩
    go_wp2_with fail
    refine (floor_any z 256 _ (by omega) (by omega) (by omega) (by omega)).mono ?_
    rintro e w' ⟨rfl, rfl⟩
    go_wp2_with fail
    refine wp_loop_rounds 3 ?_
    rw [rounds_succ]
    go_wp2_with fail
    -- the first plane
    go_wp2_with (first
      | (go_at_call 19; refine (corner_ref _ _ _ _).mono ?_; rintro e w' ⟨rfl, rfl⟩)
      | (go_at_call 18; refine (blend_ref _ _ _ _ (by omega) (by omega) (by omega) (by omega) (by omega) (by omega)).mono ?_; rintro e w' ⟨rfl, rfl⟩)
      | (at_builtin; refine wpList_append_own _ rfl _ _ 40 rfl w.heap.size 3 i0 (.int .i64 0) 1 8 Try.underlying40 hi hz0 hz1 hz2 rfl (by decide) _ _ _ rfl (World.ownsRow_nil _ _ _ _) ⟨w.heap.size, 0, none⟩ 1 1 [.int .i64 (planeF (x / 256) (y / 256) (x % 256) (y % 256) (z / 256))] rfl rfl ?c1 ?c2 ?c3 ?c4 ?c5 ?_))
    case c1 =>
      intro j u hj
      match j, hj with
      | 0, hj => simp at hj; subst hj; simp [Addr.add]; rfl
    case c2 => intro u hu; simp at hu; subst hu; rfl
    case c3 => unfold maxLen; omega
    case c4 => omega
    case c5 => simp
    intro v1 w1 hown1 hg1 _
    have hB1 : Below w.heap.size w w1 := (bel_alloc (Below.refl _ _) _).grown hg1 (by simp) (by simp [Value.ownBlock])
    have hs1 := hB1.size
    go_wp2_with fail
    rw [rounds_succ]
    -- the second plane
    go_wp2_with (first
      | (go_at_call 19; refine (corner_ref _ _ _ _).mono ?_; rintro e w' ⟨rfl, rfl⟩)
      | (go_at_call 18; refine (blend_ref _ _ _ _ (by omega) (by omega) (by omega) (by omega) (by omega) (by omega)).mono ?_; rintro e w' ⟨rfl, rfl⟩)
      | (at_builtin; refine wpList_append_own _ rfl _ _ 40 rfl w.heap.size 3 i0 (.int .i64 0) 1 8 Try.underlying40 hi hz0 hz1 hz2 rfl (by decide) _ _ _ rfl (hown1.alloc _) ⟨w1.heap.size, 0, none⟩ 1 1 [.int .i64 (planeF (x / 256) (y / 256) (x % 256) (y % 256) (z / 256 + 1))] rfl rfl ?d1 ?d2 ?d3 ?d4 ?d5 ?_))
    case d1 =>
      intro j u hj
      match j, hj with
      | 0, hj => simp at hj; subst hj; simp [Addr.add]; rfl
    case d2 => intro u hu; simp at hu; subst hu; rfl
    case d3 => unfold maxLen; omega
    case d4 => omega
    case d5 => simp; omega
    intro v2 w2 hown2 hg2 _
    have hB2 : Below w.heap.size w w2 := (bel_alloc hB1 _).grown hg2 (by simp; omega) (fun k hk => (hown1.lt k hk).1)
    obtain ⟨g, cap, hv2, hgb, hgl⟩ := own_form hown2 (by omega)
    have hA : w2.cell? ⟨g, 0, none⟩ = some (.int .i64 (planeF (x / 256) (y / 256) (x % 256) (y % 256) (z / 256))) := by
      rw [hv2] at hown2
      have := hown2.cells (g := g) rfl 0 _ rfl
      simpa [Addr.add] using this
    have hB : w2.cell? ⟨g, 1, none⟩ = some (.int .i64 (planeF (x / 256) (y / 256) (x % 256) (y % 256) (z / 256 + 1))) := by
      rw [hv2] at hown2
      have := hown2.cells (g := g) rfl 1 _ rfl
      simpa [Addr.add] using this
    rw [hv2]
    clear hg1 hg2 hown1 hown2 hs1
    go_wp2_with fail
    rw [rounds_succ]
    go_wp2_with fail
    go_quiet ((go_at_call 18; exact quiet_left (blend_ref _ _ _ _ (by omega) (by omega) (by omega) (by omega) (by omega) (by omega))))
    go_wp2_with fail
    go_ret2
    exact ⟨rfl, below_drewN hB2 _⟩
  all_goals
    rw [noiseR_bad (by unfold farB; omega)]
    go_enter Try.func12, Try.ntmps12
    go_wp2_with fail
    go_ret2
    exact ⟨rfl, Below.refl _ _⟩
end Go.Proofs.Ytllllhnjhjdeiaa
