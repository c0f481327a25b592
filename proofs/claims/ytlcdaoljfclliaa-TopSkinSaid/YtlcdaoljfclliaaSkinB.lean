/- The colour at a place. -/
import Derived.Test.YtlcdaoljfclliaaSkinA
namespace Go.Proofs.Ytlcdaoljfclliaa
open Go.RowKit Ev
set_option linter.unusedVariables false
set_option linter.unusedSimpArgs false
set_option maxRecDepth 20000
set_option maxHeartbeats 4000000

theorem and255 {u : Int} (h : -9223372036854775808 ≤ u ∧ u < 9223372036854775808) : bitsA .and .i64 u 255 = u % 256 := by
  have e : (BitVec.ofInt IntKind.i64.bits u &&& BitVec.ofInt IntKind.i64.bits 255).toNat = (u % 256).toNat := by
    rw [BitVec.toNat_and, BitVec.toNat_ofInt]
    have e2 : (BitVec.ofInt IntKind.i64.bits 255).toNat = 2 ^ 8 - 1 := by decide
    rw [e2, Nat.and_two_pow_sub_one_eq_mod]
    show ((u % ((2 ^ 64 : Nat) : Int)).toNat % 2 ^ 8) = _
    omega
  show IntKind.i64.wrap ((BitVec.ofInt IntKind.i64.bits u &&& BitVec.ofInt IntKind.i64.bits 255).toNat : Nat) = _
  rw [e, wrapI (by omega) (by omega)]
  omega
@[irreducible] def atI (w x y : Int) : Int := 4 * (y * w + x)
theorem atI_bd {w h x y : Int} (hs : Side w h) (hx : 0 ≤ x ∧ x < w) (hy : 0 ≤ y ∧ y < h) : 0 ≤ y * w + x ∧ y * w + x < w * h ∧ 0 ≤ y * w ∧ y * w ≤ 4096 := by
  have hw := hs.wh
  have a0 : 0 ≤ y * w := Int.mul_nonneg hy.1 (by omega)
  have a1 : (y + 1) * w ≤ h * w := Int.mul_le_mul_of_nonneg_right (by omega) (by omega)
  have a2 : (y + 1) * w = y * w + w := by rw [Int.add_mul, Int.one_mul]
  have a3 : h * w = w * h := Int.mul_comm _ _
  exact ⟨by omega, by omega, by omega, by omega⟩
theorem atI_in {w h x y : Int} (hs : Side w h) (hx : 0 ≤ x ∧ x < w) (hy : 0 ≤ y ∧ y < h) : 0 ≤ atI w x y ∧ atI w x y + 4 ≤ 4 * (w * h) ∧ IntKind.i64.wrap (4 * IntKind.i64.wrap (IntKind.i64.wrap (y * w) + x)) = atI w x y := by
  have := atI_bd hs hx hy
  have hw := hs.wh
  have hb : w ≤ 64 := hs.2.1
  unfold atI
  rw [wrapI (x := y * w) (by omega) (by omega), wrapI (x := y * w + x) (by omega) (by omega), wrapI (by omega) (by omega)]
  exact ⟨by omega, by omega, rfl⟩
theorem ek0 : mulN (Int.toNat 0) 1 + 0 = 0 := rfl
theorem ek1 : mulN (Int.toNat 1) 1 + 0 = 1 := rfl
theorem ek2 : mulN (Int.toNat 2) 1 + 0 = 2 := rfl
theorem ek3 : mulN (Int.toNat 3) 1 + 0 = 3 := rfl
theorem pixelP_f : FnOk Try.prog 32 Try.f32 := ⟨Try.func32, by kernel_rfl⟩
theorem pixelP_a (w h : Int) (n : Nat) (A : Nat → Int) (x y : Int) (hpre : (Side w h ∧ (n : Int) = 4 * (w * h)) ∧ (0 ≤ x ∧ x < w) ∧ (0 ≤ y ∧ y < h)) : ACalls Try.prog 32 [.agg [.int .i64 w, .int .i64 h, ints .u8 n A], .int .i64 x, .int .i64 y] (ints .u8 4 (fun j => A ((atI w x y).toNat + j))) := by
  refine acalls_of (inl := hasI (P := Try.prog) [] []) (base [] [] []) 0 pixelP_f (And.intro (by kernel_rfl) ?_)
  obtain ⟨⟨hs, hn⟩, hx, hy⟩ := hpre
  obtain ⟨a0, a1, a2⟩ := atI_in hs hx hy
  have hw := hs.wh
  have a3 : IntKind.i64.wrap (atI w x y + 4) = atI w x y + 4 := wrapI (by omega) (by omega)
  repeat' (first | refine And.intro ?_ ?_ | (with_reducible exact ff_elim) | (with_reducible exact tf_elim) | refine num_elim ?_ | intro _ | (with_reducible rfl) | ((with_reducible refine lk_t ?_); exact rfl) | refine tell ?_ | exact True.intro | (refine IsT.of ?_; kernel_rfl))
  all_goals (try refine Tell.mk ?_)
  all_goals first | with_reducible rfl | with_reducible exact isI_mk | with_reducible assumption | (with_reducible refine gb_t ?_; with_reducible assumption) | (with_reducible refine gb_f ?_; with_reducible assumption) | ((with_reducible refine lk_t ?_); rfl) | ((with_reducible refine okF_t ?_); kernel_rfl) | ((with_reducible refine ks_t ?_); rfl) | ((with_reducible refine pk_t ?_); rfl) | skip
  all_goals (try dsimp only at *)
  all_goals (try simp only [decide_eq_true_eq, decide_eq_false_iff_not, Bool.or_eq_true, Bool.or_eq_false_iff, Bool.and_eq_true, Bool.and_eq_false_iff, Bool.not_eq_true', Bool.not_eq_false', bne_iff_ne, ne_eq, beq_iff_eq, bne_eq_false_iff_eq, beq_eq_false_iff_ne, Int.not_lt, Int.not_le, gt_iff_lt, ge_iff_le] at *)
  all_goals (try simp only [mulN1, Nat.add_zero, Nat.zero_add, Nat.mul_one, Int.toNat_natCast, avInt_int, a2, a3, shiftA_some, lenN_some] at *)
  all_goals first | with_reducible rfl | with_reducible exact nums_N | omega | ((with_reducible refine by_le 1 rfl ?_); omega) | ((with_reducible refine by_le 8 rfl ?_); omega) | (rw [wrapI (by omega) (by omega)] <;> omega) | skip
def pixelP_r (w h : Int) (n : Nat) (A : Nat → Int) (x y : Int) : AV := ints .u8 4 (fun j => A ((atI w x y).toNat + j))
def pixelP_p (w h : Int) (n : Nat) (A : Nat → Int) (x y : Int) : Prop := (Side w h ∧ (n : Int) = 4 * (w * h)) ∧ (0 ≤ x ∧ x < w) ∧ (0 ≤ y ∧ y < h)
def pixelP_k : Con Try.prog := ⟨32, fun args => match args with | [.agg [.int .i64 w, .int .i64 h, .sl n 1 g_A], .int .i64 x, .int .i64 y] => .ok (some (IsI .u8 g_A ∧ pixelP_p w h n (intF g_A) x y)) (pixelP_r w h n (intF g_A) x y) | _ => .no, by
  intro args p r h hp
  split at h
  · cases h; obtain ⟨h_A, hp⟩ := hp; have e_A := h_A.eq; rw [e_A]; exact pixelP_a _ _ _ _ _ _ hp
  · cases h⟩
@[irreducible] def wgt (s f : Int) : Int := if f = 1 then s else 256 - s
theorem wgt0 (s : Int) : wgt s 0 = 256 - s := by unfold wgt; rfl
theorem wgt1 (s : Int) : wgt s 1 = s := by unfold wgt; rfl
theorem weigh_f : FnOk Try.prog 34 Try.f34 := ⟨Try.func34, by kernel_rfl⟩
theorem weigh_a (s f : Int) (hpre : 0 ≤ s ∧ s ≤ 256) : ACalls Try.prog 34 [.int .i64 s, .int .i64 f] (.int .i64 (wgt s f)) := by
  refine acalls_of (inl := hasI (P := Try.prog) [] []) (base [] [] []) 0 weigh_f (And.intro (by kernel_rfl) ?_)
  repeat' (first | refine And.intro ?_ ?_ | (with_reducible exact ff_elim) | (with_reducible exact tf_elim) | refine num_elim ?_ | intro _ | (with_reducible rfl) | ((with_reducible refine lk_t ?_); exact rfl) | refine tell ?_ | exact True.intro | (refine IsT.of ?_; kernel_rfl))
  all_goals (try refine Tell.mk ?_)
  all_goals first | with_reducible rfl | with_reducible exact isI_mk | with_reducible assumption | (with_reducible refine gb_t ?_; with_reducible assumption) | (with_reducible refine gb_f ?_; with_reducible assumption) | ((with_reducible refine lk_t ?_); rfl) | ((with_reducible refine okF_t ?_); kernel_rfl) | ((with_reducible refine ks_t ?_); rfl) | ((with_reducible refine pk_t ?_); rfl) | skip
  all_goals (try dsimp only at *)
  all_goals (try simp only [decide_eq_true_eq, decide_eq_false_iff_not, Bool.or_eq_true, Bool.or_eq_false_iff, Bool.and_eq_true, Bool.and_eq_false_iff, Bool.not_eq_true', Bool.not_eq_false', bne_iff_ne, ne_eq, beq_iff_eq, bne_eq_false_iff_eq, beq_eq_false_iff_ne, Int.not_lt, Int.not_le, gt_iff_lt, ge_iff_le] at *)
  all_goals (try simp only [mulN1, Nat.add_zero, Nat.zero_add, Nat.mul_one, Int.toNat_natCast, avInt_int] at *)
  all_goals first | with_reducible rfl | with_reducible exact nums_N | omega | ((with_reducible refine by_le 1 rfl ?_); omega) | ((with_reducible refine by_le 8 rfl ?_); omega) | (rw [wrapI (by omega) (by omega)] <;> omega) | skip
  all_goals (unfold wgt; first | (rw [if_pos (by with_reducible assumption)]; done) | (rw [if_neg (by with_reducible assumption), wrapI (by omega) (by omega)]; done))
def weigh_k : Con Try.prog := ⟨34, fun args => match args with | [.int .i64 s, .int .i64 f] => .ok (some (0 ≤ s ∧ s ≤ 256)) (.int .i64 (wgt s f)) | _ => .no, by
  intro args p r h hp
  split at h
  · cases h; exact weigh_a _ _ hp
  · cases h⟩
@[irreducible] def atE (w h : Int) (n : Nat) (t u v : Int) : Int :=
  if picE w h n = 0 then (if 0 ≤ t ∧ t ≤ 2 then (if (-1073741824 ≤ u ∧ u ≤ 1073741824) ∧ (-1073741824 ≤ v ∧ v ≤ 1073741824) then 0 else 1) else 3) else picE w h n
@[irreducible] def tap (a s t : Int) : Int := a * s * t
theorem tap_bd {a s t : Int} (ha : 0 ≤ a ∧ a < 256) (hs : 0 ≤ s ∧ s ≤ 256) (ht : 0 ≤ t ∧ t ≤ 256) : 0 ≤ tap a s t ∧ tap a s t ≤ 16711680 ∧ IntKind.i64.wrap (IntKind.i64.wrap (IntKind.i64.wrap a * s) * t) = tap a s t := by
  have h0 : 0 ≤ a * s := Int.mul_nonneg ha.1 hs.1
  have h1 : a * s ≤ 255 * 256 := Int.mul_le_mul (by omega) hs.2 hs.1 (by omega)
  have h2 : 0 ≤ a * s * t := Int.mul_nonneg h0 ht.1
  have h3 : a * s * t ≤ 65280 * 256 := Int.mul_le_mul (by omega) ht.2 ht.1 (by omega)
  unfold tap
  rw [wrapI (x := a) (by omega) (by omega), wrapI (x := a * s) (by omega) (by omega), wrapI (by omega) (by omega)]
  exact ⟨by omega, by omega, rfl⟩
/-- A colour of a pixel somewhere about a place. -/
@[irreducible] def pxA (w h : Int) (A : Nat → Int) (t x y : Int) (k : Nat) : Int := A ((atI w (wrapV t x w) (wrapV t y h)).toNat + k)
@[irreducible] def atS (w h : Int) (A : Nat → Int) (t u v : Int) (k : Nat) : Int :=
  tap (pxA w h A t ((u - 128) / 256) ((v - 128) / 256) k) (256 - (u - 128) % 256) (256 - (v - 128) % 256) + tap (pxA w h A t ((u - 128) / 256 + 1) ((v - 128) / 256) k) ((u - 128) % 256) (256 - (v - 128) % 256) +
    tap (pxA w h A t ((u - 128) / 256) ((v - 128) / 256 + 1) k) (256 - (u - 128) % 256) ((v - 128) % 256) + tap (pxA w h A t ((u - 128) / 256 + 1) ((v - 128) / 256 + 1) k) ((u - 128) % 256) ((v - 128) % 256)
@[irreducible] def atV (w h : Int) (A : Nat → Int) (t u v : Int) (k : Nat) : Int := IntKind.u8.wrap ((atS w h A t u v k + 32768) / 65536)
@[irreducible] def ifz (e x : Int) : Int := if e = 0 then x else 0
@[irreducible] def ifn (e : Int) (x : Nat) : Nat := if e = 0 then x else 0
theorem ifz0 {e x : Int} (h : e = 0) : ifz e x = x := by unfold ifz; exact if_pos h
theorem ifz1 {e x : Int} (h : ¬ e = 0) : ifz e x = 0 := by unfold ifz; exact if_neg h
theorem ifn0 {e : Int} {x : Nat} (h : e = 0) : ifn e x = x := by unfold ifn; exact if_pos h
theorem ifn1 {e : Int} {x : Nat} (h : ¬ e = 0) : ifn e x = 0 := by unfold ifn; exact if_neg h
theorem pxA_eq (w h : Int) (A : Nat → Int) (t x y : Int) (k : Nat) : A ((atI w (wrapV t x w) (wrapV t y h)).toNat + k) = pxA w h A t x y k := by unfold pxA; rfl
theorem pxA_bd {w h : Int} {A : Nat → Int} (hA : U8s A) (t x y : Int) (k : Nat) : 0 ≤ pxA w h A t x y k ∧ pxA w h A t x y k < 256 := by unfold pxA; exact hA _
theorem atE_p {w h : Int} {n : Nat} {t u v : Int} (h1 : ¬ picE w h n = 0) : atE w h n t u v = picE w h n := by unfold atE; rw [if_neg h1]
theorem atE_3 {w h : Int} {n : Nat} {t u v : Int} (h1 : picE w h n = 0) (h2 : ¬ (0 ≤ t ∧ t ≤ 2)) : atE w h n t u v = 3 := by unfold atE; rw [if_pos h1, if_neg h2]
theorem atE_1 {w h : Int} {n : Nat} {t u v : Int} (h1 : picE w h n = 0) (h2 : 0 ≤ t ∧ t ≤ 2) (h3 : ¬ ((-1073741824 ≤ u ∧ u ≤ 1073741824) ∧ (-1073741824 ≤ v ∧ v ≤ 1073741824))) : atE w h n t u v = 1 := by unfold atE; rw [if_pos h1, if_pos h2, if_neg h3]
theorem atE_0 {w h : Int} {n : Nat} {t u v : Int} (h1 : picE w h n = 0) (h2 : 0 ≤ t ∧ t ≤ 2) (h3 : (-1073741824 ≤ u ∧ u ≤ 1073741824) ∧ (-1073741824 ≤ v ∧ v ≤ 1073741824)) : atE w h n t u v = 0 := by unfold atE; rw [if_pos h1, if_pos h2, if_pos h3]
theorem uv_w {u : Int} (h : -1073741824 ≤ u ∧ u ≤ 1073741824) : IntKind.i64.wrap (u - 128) = u - 128 ∧ (u - 128).fdiv (2 ^ min (Int.toNat 8) IntKind.i64.bits) = (u - 128) / 256 ∧ bitsA .and .i64 (u - 128) 255 = (u - 128) % 256 ∧ IntKind.i64.wrap ((u - 128) / 256) = (u - 128) / 256 ∧ IntKind.i64.wrap ((u - 128) / 256 + 1) = (u - 128) / 256 + 1 ∧ IntKind.i64.wrap ((u - 128) / 256 + 0) = (u - 128) / 256 := by
  refine ⟨wrapI (by omega) (by omega), ?_, and255 (by omega), wrapI (by omega) (by omega), wrapI (by omega) (by omega), by rw [Int.add_zero]; exact wrapI (by omega) (by omega)⟩
  rw [show (2 : Int) ^ min (Int.toNat 8) IntKind.i64.bits = 256 by decide]
  exact Int.fdiv_eq_ediv_of_nonneg _ (by decide)
theorem at_go {a b c d s t : Int} (ha : 0 ≤ a ∧ a < 256) (hb : 0 ≤ b ∧ b < 256) (hc : 0 ≤ c ∧ c < 256) (hd : 0 ≤ d ∧ d < 256) (hs : 0 ≤ s ∧ s ≤ 256) (ht : 0 ≤ t ∧ t ≤ 256) :
    IntKind.u8.wrap ((IntKind.i64.wrap (IntKind.i64.wrap (IntKind.i64.wrap (IntKind.i64.wrap (IntKind.i64.wrap (0 + IntKind.i64.wrap (IntKind.i64.wrap (IntKind.i64.wrap a * (256 - s)) * (256 - t))) + IntKind.i64.wrap (IntKind.i64.wrap (IntKind.i64.wrap b * s) * (256 - t))) + IntKind.i64.wrap (IntKind.i64.wrap (IntKind.i64.wrap c * (256 - s)) * t)) + IntKind.i64.wrap (IntKind.i64.wrap (IntKind.i64.wrap d * s) * t)) + 32768)).fdiv (2 ^ min (Int.toNat 16) IntKind.i64.bits)) =
      IntKind.u8.wrap ((tap a (256 - s) (256 - t) + tap b s (256 - t) + tap c (256 - s) t + tap d s t + 32768) / 65536) := by
  obtain ⟨a0, a1, a2⟩ := tap_bd ha (show 0 ≤ 256 - s ∧ 256 - s ≤ 256 by omega) (show 0 ≤ 256 - t ∧ 256 - t ≤ 256 by omega)
  obtain ⟨b0, b1, b2⟩ := tap_bd hb hs (show 0 ≤ 256 - t ∧ 256 - t ≤ 256 by omega)
  obtain ⟨c0, c1, c2⟩ := tap_bd hc (show 0 ≤ 256 - s ∧ 256 - s ≤ 256 by omega) ht
  obtain ⟨d0, d1, d2⟩ := tap_bd hd hs ht
  rw [a2, b2, c2, d2, show (2 : Int) ^ min (Int.toNat 16) IntKind.i64.bits = 65536 by decide, Int.fdiv_eq_ediv_of_nonneg _ (by decide)]
  generalize tap a (256 - s) (256 - t) = p at *
  generalize tap b s (256 - t) = q at *
  generalize tap c (256 - s) t = r at *
  generalize tap d s t = z at *
  rw [wrapI (x := 0 + p) (by omega) (by omega), wrapI (x := 0 + p + q) (by omega) (by omega), wrapI (x := 0 + p + q + r) (by omega) (by omega), wrapI (x := 0 + p + q + r + z) (by omega) (by omega), wrapI (by omega) (by omega)]
  congr 2
  omega
theorem at_goR {a b c d s t : Int} (ha : 0 ≤ a ∧ a < 256) (hb : 0 ≤ b ∧ b < 256) (hc : 0 ≤ c ∧ c < 256) (hd : 0 ≤ d ∧ d < 256) (hs : 0 ≤ s ∧ s ≤ 256) (ht : 0 ≤ t ∧ t ≤ 256) :
    IntKind.u8.wrap (IntKind.i64.wrap ((IntKind.i64.wrap (IntKind.i64.wrap (IntKind.i64.wrap (IntKind.i64.wrap (32768 + IntKind.i64.wrap (IntKind.i64.wrap (IntKind.i64.wrap a * (256 - s)) * (256 - t))) + IntKind.i64.wrap (IntKind.i64.wrap (IntKind.i64.wrap b * s) * (256 - t))) + IntKind.i64.wrap (IntKind.i64.wrap (IntKind.i64.wrap c * (256 - s)) * t)) + IntKind.i64.wrap (IntKind.i64.wrap (IntKind.i64.wrap d * s) * t))).tdiv 65536)) =
      IntKind.u8.wrap ((tap a (256 - s) (256 - t) + tap b s (256 - t) + tap c (256 - s) t + tap d s t + 32768) / 65536) := by
  obtain ⟨a0, a1, a2⟩ := tap_bd ha (show 0 ≤ 256 - s ∧ 256 - s ≤ 256 by omega) (show 0 ≤ 256 - t ∧ 256 - t ≤ 256 by omega)
  obtain ⟨b0, b1, b2⟩ := tap_bd hb hs (show 0 ≤ 256 - t ∧ 256 - t ≤ 256 by omega)
  obtain ⟨c0, c1, c2⟩ := tap_bd hc (show 0 ≤ 256 - s ∧ 256 - s ≤ 256 by omega) ht
  obtain ⟨d0, d1, d2⟩ := tap_bd hd hs ht
  rw [a2, b2, c2, d2]
  generalize tap a (256 - s) (256 - t) = p at *
  generalize tap b s (256 - t) = q at *
  generalize tap c (256 - s) t = r at *
  generalize tap d s t = z at *
  rw [wrapI (x := 32768 + p) (by omega) (by omega), wrapI (x := 32768 + p + q) (by omega) (by omega), wrapI (x := 32768 + p + q + r) (by omega) (by omega), wrapI (x := 32768 + p + q + r + z) (by omega) (by omega), Int.tdiv_eq_ediv_of_nonneg (by omega), wrapI (by omega) (by omega)]
  congr 2
  omega
theorem atP_f : FnOk Try.prog 13 Try.f13 := ⟨Try.func13, by kernel_rfl⟩
theorem atP_a (w h : Int) (n : Nat) (A : Nat → Int) (t u v : Int) (hpre : U8s A ∧ In64 u ∧ In64 v) : ACalls Try.prog 13 [.agg [.int .i64 w, .int .i64 h, ints .u8 n A], .int .i64 t, .int .i64 u, .int .i64 v] (.tup [.agg [.int .u8 (ifz (atE w h n t u v) (atV w h A t u v 0)), .int .u8 (ifz (atE w h n t u v) (atV w h A t u v 1)), .int .u8 (ifz (atE w h n t u v) (atV w h A t u v 2)), .int .u8 (ifz (atE w h n t u v) (atV w h A t u v 3))], .int .i64 (atE w h n t u v)]) := by
  refine acalls_len fun hlen => ?_
  simp only [lenV, len1, lenV0, len0, and_true, true_and] at hlen
  refine acalls_of (inl := hasI (P := Try.prog) [] []) (base [mayP_k, wrap_k, pixelP_k, weigh_k] [] []) 0 atP_f (And.intro (by kernel_rfl) ?_)
  repeat' (first | refine And.intro ?_ ?_ | refine num_lit 0 (by decide) ?_ | refine num_lit 1 (by decide) ?_ | refine num_lit 2 (by decide) ?_ | refine num_lit 3 (by decide) ?_ | refine num_lit 4 (by decide) ?_ | refine num_lit 5 (by decide) ?_ | refine num_lit 6 (by decide) ?_ | refine num_lit 7 (by decide) ?_ | refine num_lit 8 (by decide) ?_ | refine num_elim ?_ | (with_reducible exact ff_elim) | (with_reducible exact tf_elim) | (intro h; exact absurd h (by decide)) | intro _ | (with_reducible rfl) | refine Or.inl ⟨5, ?_⟩ | refine tell ?_ | exact True.intro | (refine IsT.of ?_; kernel_rfl))
  all_goals (try refine Tell.mk ?_)
  all_goals first | with_reducible rfl | with_reducible exact isI_mk | with_reducible assumption | (with_reducible refine gb_t ?_; with_reducible assumption) | (with_reducible refine gb_f ?_; with_reducible assumption) | ((with_reducible refine lk_t ?_); rfl) | ((with_reducible refine okF_t ?_); kernel_rfl) | ((with_reducible refine ks_t ?_); rfl) | ((with_reducible refine pk_t ?_); rfl) | skip
  all_goals (try dsimp only at *)
  all_goals (try simp only [decide_eq_true_eq, decide_eq_false_iff_not, Bool.or_eq_true, Bool.or_eq_false_iff, Bool.and_eq_true, Bool.and_eq_false_iff, Bool.not_eq_true', Bool.not_eq_false', bne_iff_ne, ne_eq, beq_iff_eq, bne_eq_false_iff_eq, beq_eq_false_iff_ne, Int.not_lt, Int.not_le, gt_iff_lt, ge_iff_le] at *)
  all_goals (try simp only [mulN1, Nat.add_zero, Nat.zero_add, Nat.mul_one, Int.toNat_natCast, avInt_int, intF_mk, ek0, ek1, ek2, ek3] at *)
  all_goals first | with_reducible rfl | with_reducible exact nums_N | omega | ((with_reducible refine by_le 1 rfl ?_); omega) | ((with_reducible refine by_le 8 rfl ?_); omega) | (rw [wrapI (by omega) (by omega)] <;> omega) | skip
  all_goals obtain ⟨hA, hu0, hv0⟩ := hpre
  all_goals first | with_reducible exact isI_mk | skip
  all_goals first | (rw [atE_p (by with_reducible assumption)] <;> first | with_reducible rfl | exact ifz1 (by with_reducible assumption)) | (rw [atE_3 (by with_reducible assumption) (by omega)] <;> first | exact ifz1 (by decide) | skip) | (rw [atE_1 (by with_reducible assumption) (by omega) (by omega)] <;> first | exact ifz1 (by decide) | skip) | skip
  all_goals (have h0 : picE w h n = 0 := by with_reducible assumption)
  all_goals (obtain ⟨hs, hn⟩ := picE_ok h0; have ht : 0 ≤ t ∧ t ≤ 2 := (by omega); have hu : -1073741824 ≤ u ∧ u ≤ 1073741824 := (by omega); have hv : -1073741824 ≤ v ∧ v ≤ 1073741824 := (by omega))
  all_goals (obtain ⟨q1, q2, q3, q4, q5, q6⟩ := uv_w hu; obtain ⟨p1, p2, p3, p4, p5, p6⟩ := uv_w hv)
  all_goals (have hw1 : 1 ≤ w := hs.1; have hh1 : 1 ≤ h := hs.2.2.1)
  all_goals (try simp only [q1, q2, q3, q4, q5, q6, p1, p2, p3, p4, p5, p6, wgt0, wgt1, pxA_eq])
  all_goals first | omega | exact hs.2.1 | exact hs.2.2.2 | exact (wrapV_bd _ _ hw1).1 | exact (wrapV_bd _ _ hw1).2 | exact (wrapV_bd _ _ hh1).1 | exact (wrapV_bd _ _ hh1).2 | skip
  all_goals rw [atE_0 h0 ht ⟨hu, hv⟩]
  all_goals (rw [ifz0 rfl])
  all_goals (unfold atV atS; exact (at_go (pxA_bd hA _ _ _ _) (pxA_bd hA _ _ _ _) (pxA_bd hA _ _ _ _) (pxA_bd hA _ _ _ _) (by omega) (by omega)).symm)
def atP_r (w h : Int) (n : Nat) (A : Nat → Int) (t u v : Int) : AV := .tup [.agg [.int .u8 (ifz (atE w h n t u v) (atV w h A t u v 0)), .int .u8 (ifz (atE w h n t u v) (atV w h A t u v 1)), .int .u8 (ifz (atE w h n t u v) (atV w h A t u v 2)), .int .u8 (ifz (atE w h n t u v) (atV w h A t u v 3))], .int .i64 (atE w h n t u v)]
def atP_p (w h : Int) (n : Nat) (A : Nat → Int) (t u v : Int) : Prop := U8s A ∧ In64 u ∧ In64 v
def atP_k : Con Try.prog := ⟨13, fun args => match args with | [.agg [.int .i64 w, .int .i64 h, .sl n 1 g_A], .int .i64 t, .int .i64 u, .int .i64 v] => .ok (some (IsI .u8 g_A ∧ atP_p w h n (intF g_A) t u v)) (atP_r w h n (intF g_A) t u v) | _ => .no, by
  intro args p r h hp
  split at h
  · cases h; obtain ⟨h_A, hp⟩ := hp; have e_A := h_A.eq; rw [e_A]; exact atP_a _ _ _ _ _ _ _ hp
  · cases h⟩
end Go.Proofs.Ytlcdaoljfclliaa
