/- In the middle of a pixel is its colour; round and round; a picture of one colour has it everywhere. -/
import Derived.Test.YtlcdaoljfclliaaSkinJ
import Derived.Test.YtlcdaoljfclliaaPicOf
namespace Go.Proofs.Ytlcdaoljfclliaa
open Go.RowKit Ev
set_option linter.unusedVariables false
set_option linter.unusedSimpArgs false
set_option maxRecDepth 20000
set_option maxHeartbeats 4000000

theorem strI_size (n : Nat) (P : Nat → Int) : (strI n P).size = n := by
  show ((((List.range n).map P).map fun n => UInt8.ofNat n.toNat).toArray).size = n
  simp
theorem byteAt_strI {n : Nat} {P : Nat → Int} {j : Nat} (hj : j < n) (h : 0 ≤ P j ∧ P j < 256) : byteAt (strI n P) j = P j := by
  have e : (strI n P).data[j]? = some (UInt8.ofNat (P j).toNat) := by
    show ((((List.range n).map P).map fun n => UInt8.ofNat n.toNat).toArray)[j]? = _
    simp [hj]
  unfold byteAt
  rw [e]
  show ((UInt8.ofNat (P j).toNat).toNat : Int) = P j
  rw [UInt8.toNat_ofNat']
  omega
theorem strI_ext {n : Nat} {P Q : Nat → Int} (h : ∀ j, j < n → P j = Q j) : strI n P = strI n Q := by
  unfold strI
  congr 1
  exact List.map_congr_left fun j hj => h j (List.mem_range.1 hj)
/-- A colour's four numbers as a text. -/
@[irreducible] def pixT (A : Nat → Int) (a : Nat) : ByteArray := strI 4 fun j => A (a + j)
theorem pixT_eq (A : Nat → Int) (a : Nat) : strI 4 (fun j => A (a + j)) = pixT A a := by unfold pixT; rfl
theorem str_mid {w h : Int} {A : Nat → Int} (hA : U8s A) {t u v x y : Int} (hu : (u - 128) % 256 = 0) (hv : (v - 128) % 256 = 0) (hx : wrapV t ((u - 128) / 256) w = x) (hy : wrapV t ((v - 128) / 256) h = y) : strI 4 (fun j => atV w h A t u v j) = pixT A (atI w x y).toNat := by
  rw [← pixT_eq]
  refine strI_ext fun j _ => ?_
  rw [atV_mid hA hu hv]
  unfold pxA
  rw [hx, hy]
theorem turn_bd {t w : Int} (ht : -500 ≤ t ∧ t < 500) (hw : 1 ≤ w ∧ w ≤ 8) : -4000 ≤ t * w ∧ t * w ≤ 4000 := by
  have a1 : t * w ≤ 500 * w := Int.mul_le_mul_of_nonneg_right (by omega) (by omega)
  have a2 : -500 * w ≤ t * w := Int.mul_le_mul_of_nonneg_right (by omega) (by omega)
  omega
/-- The colour of a pixel, over and over. -/
@[irreducible] def ownF (r : Nat) (F : Nat → Int) (w h x y : Int) (j : Nat) : Int := pixF false r F ((atI w x y).toNat + j % 4)
theorem ownF_lt {r : Nat} {F : Nat → Int} {w h x y : Int} {j : Nat} (hj : j < 4) : ownF r F w h x y j = pixF false r F ((atI w x y).toNat + j) := by unfold ownF; rw [Nat.mod_eq_of_lt hj]
theorem ownF_u8 (r : Nat) (F : Nat → Int) (w h x y : Int) : U8s (ownF r F w h x y) := fun j => by unfold ownF; exact pixF_bd _ _ _ _
theorem ownF_one (r : Nat) (F : Nat → Int) (w h x y : Int) (a b : Int) : OneC a b (ownF r F w h x y) (ownF r F w h x y) := fun j _ => by
  unfold ownF; rw [Nat.mod_mod]
theorem ownF_str {r : Nat} {F : Nat → Int} {w h x y : Int} {P : Nat → Int} (hP : ∀ j, j < 4 → P j = ownF r F w h x y j) : strI 4 P = pixT (pixF false r F) (atI w x y).toNat := by
  rw [← pixT_eq]
  exact strI_ext fun j hj => by rw [hP j hj, ownF_lt hj]
theorem ownF_step {r : Nat} {F : Nat → Int} {w h x y : Int} {i j k : Nat} (hj : j < 4 * (i + 1)) : ownF r F w h x y j = catI (4 * i) (some k) (ownF r F w h x y) (byteAt (pixT (pixF false r F) (atI w x y).toNat)) j := by
  rw [catI_some]
  split
  · rfl
  · rw [← pixT_eq, byteAt_strI (P := fun j => pixF false r F ((atI w x y).toNat + j)) (by omega) (pixF_bd _ _ _ _)]
    unfold ownF
    congr 2
    omega
theorem pixT_size (A : Nat → Int) (a : Nat) : (pixT A a).size = 4 := by rw [← pixT_eq, strI_size]
/-- All the places that the law looks at. -/
theorem skin_w {W H X Y T : Int} (hW : 1 ≤ W ∧ W ≤ 8) (hH : 1 ≤ H ∧ H ≤ 8) (hX : 0 ≤ X ∧ X < W) (hY : 0 ≤ Y ∧ Y < H) (hT : -500 ≤ T ∧ T < 500) :
    IntKind.i64.wrap (IntKind.i64.wrap (256 * X) + 128) = 256 * X + 128 ∧ IntKind.i64.wrap (IntKind.i64.wrap (256 * Y) + 128) = 256 * Y + 128 ∧
    IntKind.i64.wrap (IntKind.i64.wrap (256 * IntKind.i64.wrap (X + IntKind.i64.wrap (T * W))) + 128) = 256 * (X + T * W) + 128 ∧
    IntKind.i64.wrap (IntKind.i64.wrap (256 * IntKind.i64.wrap (Y - IntKind.i64.wrap (T * H))) + 128) = 256 * (Y - T * H) + 128 ∧
    IntKind.i64.wrap (IntKind.i64.wrap (256 * IntKind.i64.wrap (IntKind.i64.wrap (IntKind.i64.wrap (IntKind.i64.wrap (2 * T) * W) - 1) - X)) + 128) = 256 * (T * (2 * W) - 1 - X) + 128 ∧
    IntKind.i64.wrap (IntKind.i64.wrap (256 * IntKind.i64.wrap (IntKind.i64.wrap (IntKind.i64.wrap (2 * T) * H) + Y)) + 128) = 256 * (T * (2 * H) + Y) + 128 ∧
    IntKind.i64.wrap (128 - IntKind.i64.wrap (256 * X)) = 128 - 256 * X ∧ IntKind.i64.wrap (IntKind.i64.wrap (256 * IntKind.i64.wrap (H + Y)) + 128) = 256 * (H + Y) + 128 ∧
    IntKind.i64.wrap (37 * T) = 37 * T ∧ IntKind.i64.wrap (91 * X) = 91 * X ∧ IntKind.i64.wrap (IntKind.i64.wrap (4 * IntKind.i64.wrap (H - 1)) * W) = atI W 0 (H - 1) := by
  have b1 := turn_bd hT hW
  have b2 := turn_bd hT hH
  have b3 := turn_bd (t := H - 1) (w := W) ⟨by omega, by omega⟩ hW
  have m1 : 2 * T * W = 2 * (T * W) := Int.mul_assoc _ _ _
  have m2 : 2 * T * H = 2 * (T * H) := Int.mul_assoc _ _ _
  have m3 : T * (2 * W) = 2 * (T * W) := Int.mul_left_comm _ _ _
  have m4 : T * (2 * H) = 2 * (T * H) := Int.mul_left_comm _ _ _
  have m5 : 4 * (H - 1) * W = 4 * ((H - 1) * W) := Int.mul_assoc _ _ _
  have a : atI W 0 (H - 1) = 4 * ((H - 1) * W + 0) := by unfold atI; rfl
  refine ⟨?_, ?_, ?_, ?_, ?_, ?_, ?_, ?_, ?_, ?_, ?_⟩
  · rw [wrapI (x := 256 * X) (by omega) (by omega), wrapI (by omega) (by omega)]
  · rw [wrapI (x := 256 * Y) (by omega) (by omega), wrapI (by omega) (by omega)]
  · rw [wrapI (x := T * W) (by omega) (by omega), wrapI (x := X + T * W) (by omega) (by omega), wrapI (x := 256 * _) (by omega) (by omega), wrapI (by omega) (by omega)]
  · rw [wrapI (x := T * H) (by omega) (by omega), wrapI (x := Y - T * H) (by omega) (by omega), wrapI (x := 256 * _) (by omega) (by omega), wrapI (by omega) (by omega)]
  · rw [wrapI (x := 2 * T) (by omega) (by omega), m1, m3, wrapI (x := 2 * (T * W)) (by omega) (by omega), wrapI (x := _ - 1) (by omega) (by omega), wrapI (x := _ - X) (by omega) (by omega), wrapI (x := 256 * _) (by omega) (by omega), wrapI (by omega) (by omega)]
  · rw [wrapI (x := 2 * T) (by omega) (by omega), m2, m4, wrapI (x := 2 * (T * H)) (by omega) (by omega), wrapI (x := _ + Y) (by omega) (by omega), wrapI (x := 256 * _) (by omega) (by omega), wrapI (by omega) (by omega)]
  · rw [wrapI (x := 256 * X) (by omega) (by omega), wrapI (by omega) (by omega)]
  · rw [wrapI (x := H + Y) (by omega) (by omega), wrapI (x := 256 * _) (by omega) (by omega), wrapI (by omega) (by omega)]
  · exact wrapI (by omega) (by omega)
  · exact wrapI (by omega) (by omega)
  · rw [wrapI (x := H - 1) (by omega) (by omega), wrapI (x := 4 * _) (by omega) (by omega), m5, wrapI (by omega) (by omega), a]
    omega
/-- What is read at all these places. -/
theorem skin_at {W H X Y T : Int} (hW : 1 ≤ W ∧ W ≤ 8) (hH : 1 ≤ H ∧ H ≤ 8) (hX : 0 ≤ X ∧ X < W) (hY : 0 ≤ Y ∧ Y < H) (hT : -500 ≤ T ∧ T < 500) {A : Nat → Int} (hA : U8s A) {n : Nat} (hn : picE W H n = 0) :
    (∀ t : Int, 0 ≤ t ∧ t ≤ 2 → atE W H n t (256 * X + 128) (256 * Y + 128) = 0 ∧ strI 4 (fun j => atV W H A t (256 * X + 128) (256 * Y + 128) j) = pixT A (atI W X Y).toNat) ∧
    (atE W H n 0 (256 * (X + T * W) + 128) (256 * (Y - T * H) + 128) = 0 ∧ strI 4 (fun j => atV W H A 0 (256 * (X + T * W) + 128) (256 * (Y - T * H) + 128) j) = pixT A (atI W X Y).toNat) ∧
    (atE W H n 1 (256 * (T * (2 * W) - 1 - X) + 128) (256 * (T * (2 * H) + Y) + 128) = 0 ∧ strI 4 (fun j => atV W H A 1 (256 * (T * (2 * W) - 1 - X) + 128) (256 * (T * (2 * H) + Y) + 128) j) = pixT A (atI W X Y).toNat) ∧
    (atE W H n 2 (128 - 256 * X) (256 * (H + Y) + 128) = 0 ∧ strI 4 (fun j => atV W H A 2 (128 - 256 * X) (256 * (H + Y) + 128) j) = pixT A (atI W 0 (H - 1)).toNat) := by
  have b1 := turn_bd hT hW
  have b2 := turn_bd hT hH
  have m3 : T * (2 * W) = 2 * (T * W) := Int.mul_left_comm _ _ _
  have m4 : T * (2 * H) = 2 * (T * H) := Int.mul_left_comm _ _ _
  have d : ∀ z : Int, (256 * z + 128 - 128) % 256 = 0 ∧ (256 * z + 128 - 128) / 256 = z := fun z => by omega
  refine ⟨fun t ht => ⟨atE_0 hn ht ⟨by omega, by omega⟩, str_mid hA (d _).1 (d _).1 ?_ ?_⟩, ⟨atE_0 hn (by omega) ⟨by omega, by omega⟩, str_mid hA (d _).1 (d _).1 ?_ ?_⟩, ⟨atE_0 hn (by omega) ⟨by omega, by omega⟩, str_mid hA (d _).1 (d _).1 ?_ ?_⟩, ⟨atE_0 hn (by omega) ⟨by omega, by omega⟩, str_mid hA (by omega) (d _).1 ?_ ?_⟩⟩
  · rw [(d _).2]; exact wrapV_id t hX
  · rw [(d _).2]; exact wrapV_id t hY
  · rw [(d _).2]; exact wrapV_rep hX
  · rw [(d _).2, Int.sub_eq_add_neg, ← Int.neg_mul]; exact wrapV_rep hY
  · rw [(d _).2]; exact (wrapV_fold hX).1
  · rw [(d _).2]; exact (wrapV_fold hY).2
  · rw [show (128 - 256 * X - 128) / 256 = -X by omega, wrapV2 (by decide) (by decide)]
    split
    · rfl
    · rw [if_neg (by omega)]; omega
  · rw [(d _).2, wrapV2 (by decide) (by decide), if_neg (by omega), if_pos (by omega)]
theorem topSkin0_f : FnOk Try.prog 6 Try.f6 := ⟨Try.func6, by kernel_rfl⟩
theorem topSkin0_a (r : Nat) (F : Nat → Int) (w h x y u : Int) (hpre : ((∀ j, In64 (F j)) ∧ In64 w ∧ In64 h ∧ In64 x ∧ In64 y ∧ In64 u) ∧ lv (1 + pickF w 8) (1 + pickF h 8) = 0) : ACalls Try.prog 6 [ints .i64 r F, .int .i64 w, .int .i64 h, .int .i64 x, .int .i64 y, .int .i64 u] (.bool true) := by
  refine acalls_of (inl := hasI (P := Try.prog) [] [halves0_m]) (base [pick_k, pictureOf_k, atP_k] [] [halves0_m]) 0 topSkin0_f (And.intro (by kernel_rfl) ?_)
  obtain ⟨⟨hF, hw, hh, hx, hy, hu⟩, hlv⟩ := hpre
  have b0 := pickF_bd w 8 (by omega)
  have b1 := pickF_bd h 8 (by omega)
  have b2 := pickF_bd u 1000 (by omega)
  have e0 : IntKind.i64.wrap (1 + pickF w 8) = 1 + pickF w 8 := wrapI (by omega) (by omega)
  have e1 : IntKind.i64.wrap (1 + pickF h 8) = 1 + pickF h 8 := wrapI (by omega) (by omega)
  have e2 : IntKind.i64.wrap (pickF u 1000 - 500) = pickF u 1000 - 500 := wrapI (by omega) (by omega)
  have hs : Side (IntKind.i64.wrap (1 + pickF w 8)) (IntKind.i64.wrap (1 + pickF h 8)) := by rw [e0, e1]; exact ⟨by omega, by omega, by omega, by omega⟩
  repeat' (first | refine And.intro ?_ ?_ | (with_reducible exact ff_elim) | (with_reducible exact tf_elim) | refine num_elim ?_ | intro _ | (with_reducible rfl) | ((with_reducible refine lk_t ?_); exact rfl) | refine tell ?_ | exact True.intro | (refine IsT.of ?_; kernel_rfl))
  all_goals (try (refine loop_keep [1, 2, 3, 4, 5, 13, 14] [28] ?_; refine LoopI.mk (UpC) (fun k => [(15, .int .i64 k.1)]) (fun k => []) (fun k => 4 - k.1) (⟨0, by omega⟩) (wk_mk [some 28] ?_) (fun ⟨k, hk⟩ => ?_)))
  repeat' (first | refine And.intro ?_ ?_ | (with_reducible exact ff_elim) | (with_reducible exact tf_elim) | refine stp_mk [some 28] ((⟨k + 1, ?_⟩ : UpC)) ?_ ?_ | refine num_elim ?_ | intro _ | (with_reducible rfl) | ((with_reducible refine lk_t ?_); exact rfl) | refine tell ?_ | exact True.intro | (refine IsT.of ?_; kernel_rfl))
  all_goals (try (refine loop_keep [1, 2, 3, 5, 14] [] ?_; refine LoopI.mk ({i : Nat // (i : Int) ≤ IntKind.i64.wrap (1 + pickF w 8) * IntKind.i64.wrap (1 + pickF h 8)}) (fun i => [(26, .int .i64 i.1), (25, .own 165 0)]) (fun i => [(165, .row [.int .i64 (IntKind.i64.wrap (1 + pickF w 8)), .int .i64 (IntKind.i64.wrap (1 + pickF h 8)), .os 1 1 0 (4 * i.1)]), (1, .nums .u8 (4 * i.1) (ownF r F (IntKind.i64.wrap (1 + pickF w 8)) (IntKind.i64.wrap (1 + pickF h 8)) (pickF x (IntKind.i64.wrap (1 + pickF w 8))) (pickF y (IntKind.i64.wrap (1 + pickF h 8)))))]) (fun i => (IntKind.i64.wrap (1 + pickF w 8) * IntKind.i64.wrap (1 + pickF h 8)).toNat - i.1) (⟨0, by have := hs.wh; omega⟩) (wk_mk [some 165, none] ?_) (fun ⟨i, hi⟩ => ?_)))
  repeat' (first | refine And.intro ?_ ?_ | (with_reducible exact ff_elim) | (with_reducible exact tf_elim) | refine' stp_mk [some 165, some _] (⟨i + 1, ?_⟩) ?_ ?_ | refine num_lit 0 (by decide) ?_ | refine num_lit 1 (by decide) ?_ | refine num_lit 2 (by decide) ?_ | refine num_lit 3 (by decide) ?_ | refine num_lit 4 (by decide) ?_ | refine num_lit 5 (by decide) ?_ | refine num_lit 6 (by decide) ?_ | refine num_lit 7 (by decide) ?_ | refine num_lit 8 (by decide) ?_ | (intro h; exact absurd h (by decide)) | refine num_elim ?_ | intro _ | (with_reducible rfl) | ((with_reducible refine lk_t ?_); exact rfl) | refine tell ?_ | exact True.intro | (refine IsT.of ?_; kernel_rfl))
  all_goals (try refine Tell.mk ?_)
  all_goals first | with_reducible rfl | with_reducible exact isI_mk | with_reducible assumption | (with_reducible refine gb_t ?_; with_reducible assumption) | (with_reducible refine gb_f ?_; with_reducible assumption) | ((with_reducible refine lk_t ?_); rfl) | ((with_reducible refine okF_t ?_); kernel_rfl) | ((with_reducible refine ks_t ?_); rfl) | ((with_reducible refine pk_t ?_); rfl) | skip
  all_goals (try dsimp only at *)
  all_goals (try simp only [decide_eq_true_eq, decide_eq_false_iff_not, Bool.or_eq_true, Bool.or_eq_false_iff, Bool.and_eq_true, Bool.and_eq_false_iff, Bool.not_eq_true', Bool.not_eq_false', bne_iff_ne, ne_eq, beq_iff_eq, bne_eq_false_iff_eq, beq_eq_false_iff_ne, Int.not_lt, Int.not_le, gt_iff_lt, ge_iff_le] at *)
  all_goals (try simp only [mulN1, Nat.add_zero, Nat.zero_add, Nat.mul_one, Int.toNat_natCast, avInt_int, intF_mk, e0, e1, e2, shiftA_some, lenN_some, jx0, jy0, jz0] at *)
  all_goals first | with_reducible rfl | with_reducible exact nums_N | omega | ((with_reducible refine by_le 1 rfl ?_); omega) | ((with_reducible refine by_le 8 rfl ?_); omega) | (rw [wrapI (by omega) (by omega)] <;> omega) | skip
  all_goals (generalize hW : 1 + pickF w 8 = W at *; generalize hH : 1 + pickF h 8 = H at *; generalize hT : pickF u 1000 - 500 = T at *)
  all_goals (have bX := pickF_bd x W (by omega); have bY := pickF_bd y H (by omega); generalize pickF x W = X at *; generalize pickF y H = Y at *)
  all_goals (have cw : 1 ≤ W ∧ W ≤ 8 := (by omega); have ch : 1 ≤ H ∧ H ≤ 8 := (by omega); have ct : -500 ≤ T ∧ T < 500 := (by omega))
  all_goals (have hs : Side W H := ⟨by omega, by omega, by omega, by omega⟩; have hy2 := hs.wh; have z0 := hs.wraps.1; have tb1 := turn_bd ct cw; have tb2 := turn_bd ct ch; have tm1 : T * (2 * W) = 2 * (T * W) := Int.mul_left_comm _ _ _; have tm2 : T * (2 * H) = 2 * (T * H) := Int.mul_left_comm _ _ _; have hA := pixF_bd false r F)
  all_goals (have hn : picE W H (4 * (W * H)).toNat = 0 := picE0 hs (by omega))
  all_goals (obtain ⟨w1, w2, w3, w4, w5, w6, w7, w8, w9, w10, w11⟩ := skin_w cw ch bX bY ct; obtain ⟨p0, p1, p2⟩ := atI_in hs bX bY; obtain ⟨o0, o1, o2⟩ := atI_in hs (x := 0) (y := H - 1) ⟨by omega, by omega⟩ ⟨by omega, by omega⟩)
  all_goals (have p3 : IntKind.i64.wrap (atI W X Y + 4) = atI W X Y + 4 := wrapI (by omega) (by omega); have o3 : IntKind.i64.wrap (atI W 0 (H - 1) + 4) = atI W 0 (H - 1) + 4 := wrapI (by omega) (by omega))
  all_goals (have p4 : (atI W X Y + 4 - atI W X Y).toNat = 4 := (by omega); have o4 : (atI W 0 (H - 1) + 4 - atI W 0 (H - 1)).toNat = 4 := (by omega))
  all_goals (try simp only [w1, w2, w3, w4, w5, w6, w7, w8, w9, w10, w11, p2, p3, o2, o3, p4, o4, pixT_eq, pixT_size, z0] at *)
  all_goals first | (with_reducible exact hF _) | omega | exact Nat.le_refl 4 | exact Nat.le_refl 3 | exact ownF_step (by with_reducible assumption) | exact (ownF_u8 _ _ _ _ _ _ _).1 | exact (ownF_u8 _ _ _ _ _ _ _).2 | exact (hA _).1 | exact (hA _).2 | exact ⟨by omega, by omega⟩ | (with_reducible refine by_le 1 rfl ?_; omega) | (rw [wrapI (by omega) (by omega)]; omega) | exact picE0 hs (by omega) | (unfold posR; show 0 < _; omega) | skip
  all_goals (obtain ⟨s0, s1, s2, s3⟩ := skin_at cw ch bX bY ct hA hn)
  all_goals (try (have sk := s0 (k : Int) ⟨by omega, by omega⟩; simp only [str_at sk.1] at *; simp only [ifn0 sk.1] at *; simp only [sk.1, sk.2] at *))
  all_goals (try simp only [str_at s1.1, str_at s2.1, str_at s3.1] at *)
  all_goals (try simp only [ifn0 s1.1, ifn0 s2.1, ifn0 s3.1] at *)
  all_goals (try simp only [s1.1, s1.2, s2.1, s2.2, s3.1, s3.2] at *)
  all_goals (try simp only [not_true_eq_false, or_self, or_false, false_or, and_self, true_and, and_true, false_and, and_false, bne_self_eq_false, beq_self_eq_true, Bool.or_self, Bool.not_true, gb, Bool.not_false, Bool.or_false] at *)
  all_goals (have hn2 : picE W H (4 * i) = 0 := picE0 hs (by omega))
  all_goals (have ue : atE W H (4 * i) (pickF T 3) (37 * T) (91 * X) = 0 := atE_0 hn2 (by have := pickF_bd T 3 (by omega); omega) ⟨by omega, by omega⟩)
  all_goals (have uv : strI 4 (fun j => atV W H (ownF r F W H X Y) (pickF T 3) (37 * T) (91 * X) j) = pixT (pixF false r F) (atI W X Y).toNat := ownF_str fun j hj => atV_one (ownF_one _ _ _ _ _ _ _ _) hs hj (ownF_u8 _ _ _ _ _ _ _))
  all_goals (simp only [str_at ue] at *; simp only [ifn0 ue] at *; simp only [ue, uv] at *)
  all_goals (try simp only [not_true_eq_false, or_self, or_false, false_or, and_self, true_and, and_true, false_and, and_false, bne_self_eq_false, beq_self_eq_true, Bool.or_self, Bool.not_true, gb, Bool.not_false, Bool.or_false] at *)
  all_goals first | (exfalso; omega) | skip
  all_goals (have dl := lv_last hs; rw [hlv] at dl)
  all_goals (have e3 : (strI (pyN W H 0) fun j => pyA W H (ownF r F W H X Y) 0 j) = pixT (pixF false r F) (atI W X Y).toNat := by unfold pyN; rw [dl.1, dl.2]; exact ownF_str fun j hj => ((py_one (ownF_one _ _ _ _ _ _ _ _) hs (ownF_u8 _ _ _ _ _ _)) 0 j (by rw [dl.1, dl.2]; omega)).trans (congrArg _ (Nat.mod_eq_of_lt hj)))
  all_goals (rw [e3, dl.1, dl.2]; simp; done)
def topSkin0_r (r : Nat) (F : Nat → Int) (w h x y u : Int) : AV := .bool true
def topSkin0_p (r : Nat) (F : Nat → Int) (w h x y u : Int) : Prop := ((∀ j, In64 (F j)) ∧ In64 w ∧ In64 h ∧ In64 x ∧ In64 y ∧ In64 u) ∧ lv (1 + pickF w 8) (1 + pickF h 8) = 0
def topSkin0_k : Con Try.prog := ⟨6, fun args => match args with | [.sl r 1 g_F, .int .i64 w, .int .i64 h, .int .i64 x, .int .i64 y, .int .i64 u] => .ok (some (IsI .i64 g_F ∧ topSkin0_p r (intF g_F) w h x y u)) (topSkin0_r r (intF g_F) w h x y u) | _ => .no, by
  intro args p r h hp
  split at h
  · cases h; obtain ⟨h_F, hp⟩ := hp; have e_F := h_F.eq; rw [e_F]; exact topSkin0_a _ _ _ _ _ _ _ hp
  · cases h⟩
theorem topSkin1_f : FnOk Try.prog 6 Try.f6 := ⟨Try.func6, by kernel_rfl⟩
theorem topSkin1_a (r : Nat) (F : Nat → Int) (w h x y u : Int) (hpre : ((∀ j, In64 (F j)) ∧ In64 w ∧ In64 h ∧ In64 x ∧ In64 y ∧ In64 u) ∧ lv (1 + pickF w 8) (1 + pickF h 8) = 1) : ACalls Try.prog 6 [ints .i64 r F, .int .i64 w, .int .i64 h, .int .i64 x, .int .i64 y, .int .i64 u] (.bool true) := by
  refine acalls_of (inl := hasI (P := Try.prog) [] [halves1_m]) (base [pick_k, pictureOf_k, atP_k] [] [halves1_m]) 0 topSkin1_f (And.intro (by kernel_rfl) ?_)
  obtain ⟨⟨hF, hw, hh, hx, hy, hu⟩, hlv⟩ := hpre
  have b0 := pickF_bd w 8 (by omega)
  have b1 := pickF_bd h 8 (by omega)
  have b2 := pickF_bd u 1000 (by omega)
  have e0 : IntKind.i64.wrap (1 + pickF w 8) = 1 + pickF w 8 := wrapI (by omega) (by omega)
  have e1 : IntKind.i64.wrap (1 + pickF h 8) = 1 + pickF h 8 := wrapI (by omega) (by omega)
  have e2 : IntKind.i64.wrap (pickF u 1000 - 500) = pickF u 1000 - 500 := wrapI (by omega) (by omega)
  have hs : Side (IntKind.i64.wrap (1 + pickF w 8)) (IntKind.i64.wrap (1 + pickF h 8)) := by rw [e0, e1]; exact ⟨by omega, by omega, by omega, by omega⟩
  repeat' (first | refine And.intro ?_ ?_ | (with_reducible exact ff_elim) | (with_reducible exact tf_elim) | refine num_elim ?_ | intro _ | (with_reducible rfl) | ((with_reducible refine lk_t ?_); exact rfl) | refine tell ?_ | exact True.intro | (refine IsT.of ?_; kernel_rfl))
  all_goals (try (refine loop_keep [1, 2, 3, 4, 5, 13, 14] [28] ?_; refine LoopI.mk (UpC) (fun k => [(15, .int .i64 k.1)]) (fun k => []) (fun k => 4 - k.1) (⟨0, by omega⟩) (wk_mk [some 28] ?_) (fun ⟨k, hk⟩ => ?_)))
  repeat' (first | refine And.intro ?_ ?_ | (with_reducible exact ff_elim) | (with_reducible exact tf_elim) | refine stp_mk [some 28] ((⟨k + 1, ?_⟩ : UpC)) ?_ ?_ | refine num_elim ?_ | intro _ | (with_reducible rfl) | ((with_reducible refine lk_t ?_); exact rfl) | refine tell ?_ | exact True.intro | (refine IsT.of ?_; kernel_rfl))
  all_goals (try (refine loop_keep [1, 2, 3, 5, 14] [] ?_; refine LoopI.mk ({i : Nat // (i : Int) ≤ IntKind.i64.wrap (1 + pickF w 8) * IntKind.i64.wrap (1 + pickF h 8)}) (fun i => [(26, .int .i64 i.1), (25, .own 165 0)]) (fun i => [(165, .row [.int .i64 (IntKind.i64.wrap (1 + pickF w 8)), .int .i64 (IntKind.i64.wrap (1 + pickF h 8)), .os 1 1 0 (4 * i.1)]), (1, .nums .u8 (4 * i.1) (ownF r F (IntKind.i64.wrap (1 + pickF w 8)) (IntKind.i64.wrap (1 + pickF h 8)) (pickF x (IntKind.i64.wrap (1 + pickF w 8))) (pickF y (IntKind.i64.wrap (1 + pickF h 8)))))]) (fun i => (IntKind.i64.wrap (1 + pickF w 8) * IntKind.i64.wrap (1 + pickF h 8)).toNat - i.1) (⟨0, by have := hs.wh; omega⟩) (wk_mk [some 165, none] ?_) (fun ⟨i, hi⟩ => ?_)))
  repeat' (first | refine And.intro ?_ ?_ | (with_reducible exact ff_elim) | (with_reducible exact tf_elim) | refine' stp_mk [some 165, some _] (⟨i + 1, ?_⟩) ?_ ?_ | refine num_lit 0 (by decide) ?_ | refine num_lit 1 (by decide) ?_ | refine num_lit 2 (by decide) ?_ | refine num_lit 3 (by decide) ?_ | refine num_lit 4 (by decide) ?_ | refine num_lit 5 (by decide) ?_ | refine num_lit 6 (by decide) ?_ | refine num_lit 7 (by decide) ?_ | refine num_lit 8 (by decide) ?_ | (intro h; exact absurd h (by decide)) | refine num_elim ?_ | intro _ | (with_reducible rfl) | ((with_reducible refine lk_t ?_); exact rfl) | refine tell ?_ | exact True.intro | (refine IsT.of ?_; kernel_rfl))
  all_goals (try refine Tell.mk ?_)
  all_goals first | with_reducible rfl | with_reducible exact isI_mk | with_reducible assumption | (with_reducible refine gb_t ?_; with_reducible assumption) | (with_reducible refine gb_f ?_; with_reducible assumption) | ((with_reducible refine lk_t ?_); rfl) | ((with_reducible refine okF_t ?_); kernel_rfl) | ((with_reducible refine ks_t ?_); rfl) | ((with_reducible refine pk_t ?_); rfl) | skip
  all_goals (try dsimp only at *)
  all_goals (try simp only [decide_eq_true_eq, decide_eq_false_iff_not, Bool.or_eq_true, Bool.or_eq_false_iff, Bool.and_eq_true, Bool.and_eq_false_iff, Bool.not_eq_true', Bool.not_eq_false', bne_iff_ne, ne_eq, beq_iff_eq, bne_eq_false_iff_eq, beq_eq_false_iff_ne, Int.not_lt, Int.not_le, gt_iff_lt, ge_iff_le] at *)
  all_goals (try simp only [mulN1, Nat.add_zero, Nat.zero_add, Nat.mul_one, Int.toNat_natCast, avInt_int, intF_mk, e0, e1, e2, shiftA_some, lenN_some, jx1, jy1, jz1] at *)
  all_goals first | with_reducible rfl | with_reducible exact nums_N | omega | ((with_reducible refine by_le 1 rfl ?_); omega) | ((with_reducible refine by_le 8 rfl ?_); omega) | (rw [wrapI (by omega) (by omega)] <;> omega) | skip
  all_goals (generalize hW : 1 + pickF w 8 = W at *; generalize hH : 1 + pickF h 8 = H at *; generalize hT : pickF u 1000 - 500 = T at *)
  all_goals (have bX := pickF_bd x W (by omega); have bY := pickF_bd y H (by omega); generalize pickF x W = X at *; generalize pickF y H = Y at *)
  all_goals (have cw : 1 ≤ W ∧ W ≤ 8 := (by omega); have ch : 1 ≤ H ∧ H ≤ 8 := (by omega); have ct : -500 ≤ T ∧ T < 500 := (by omega))
  all_goals (have hs : Side W H := ⟨by omega, by omega, by omega, by omega⟩; have hy2 := hs.wh; have z0 := hs.wraps.1; have tb1 := turn_bd ct cw; have tb2 := turn_bd ct ch; have tm1 : T * (2 * W) = 2 * (T * W) := Int.mul_left_comm _ _ _; have tm2 : T * (2 * H) = 2 * (T * H) := Int.mul_left_comm _ _ _; have hA := pixF_bd false r F)
  all_goals (have hn : picE W H (4 * (W * H)).toNat = 0 := picE0 hs (by omega))
  all_goals (obtain ⟨w1, w2, w3, w4, w5, w6, w7, w8, w9, w10, w11⟩ := skin_w cw ch bX bY ct; obtain ⟨p0, p1, p2⟩ := atI_in hs bX bY; obtain ⟨o0, o1, o2⟩ := atI_in hs (x := 0) (y := H - 1) ⟨by omega, by omega⟩ ⟨by omega, by omega⟩)
  all_goals (have p3 : IntKind.i64.wrap (atI W X Y + 4) = atI W X Y + 4 := wrapI (by omega) (by omega); have o3 : IntKind.i64.wrap (atI W 0 (H - 1) + 4) = atI W 0 (H - 1) + 4 := wrapI (by omega) (by omega))
  all_goals (have p4 : (atI W X Y + 4 - atI W X Y).toNat = 4 := (by omega); have o4 : (atI W 0 (H - 1) + 4 - atI W 0 (H - 1)).toNat = 4 := (by omega))
  all_goals (try simp only [w1, w2, w3, w4, w5, w6, w7, w8, w9, w10, w11, p2, p3, o2, o3, p4, o4, pixT_eq, pixT_size, z0] at *)
  all_goals first | (with_reducible exact hF _) | omega | exact Nat.le_refl 4 | exact Nat.le_refl 3 | exact ownF_step (by with_reducible assumption) | exact (ownF_u8 _ _ _ _ _ _ _).1 | exact (ownF_u8 _ _ _ _ _ _ _).2 | exact (hA _).1 | exact (hA _).2 | exact ⟨by omega, by omega⟩ | (with_reducible refine by_le 1 rfl ?_; omega) | (rw [wrapI (by omega) (by omega)]; omega) | exact picE0 hs (by omega) | (unfold posR; show 0 < _; omega) | skip
  all_goals (obtain ⟨s0, s1, s2, s3⟩ := skin_at cw ch bX bY ct hA hn)
  all_goals (try (have sk := s0 (k : Int) ⟨by omega, by omega⟩; simp only [str_at sk.1] at *; simp only [ifn0 sk.1] at *; simp only [sk.1, sk.2] at *))
  all_goals (try simp only [str_at s1.1, str_at s2.1, str_at s3.1] at *)
  all_goals (try simp only [ifn0 s1.1, ifn0 s2.1, ifn0 s3.1] at *)
  all_goals (try simp only [s1.1, s1.2, s2.1, s2.2, s3.1, s3.2] at *)
  all_goals (try simp only [not_true_eq_false, or_self, or_false, false_or, and_self, true_and, and_true, false_and, and_false, bne_self_eq_false, beq_self_eq_true, Bool.or_self, Bool.not_true, gb, Bool.not_false, Bool.or_false] at *)
  all_goals (have hn2 : picE W H (4 * i) = 0 := picE0 hs (by omega))
  all_goals (have ue : atE W H (4 * i) (pickF T 3) (37 * T) (91 * X) = 0 := atE_0 hn2 (by have := pickF_bd T 3 (by omega); omega) ⟨by omega, by omega⟩)
  all_goals (have uv : strI 4 (fun j => atV W H (ownF r F W H X Y) (pickF T 3) (37 * T) (91 * X) j) = pixT (pixF false r F) (atI W X Y).toNat := ownF_str fun j hj => atV_one (ownF_one _ _ _ _ _ _ _ _) hs hj (ownF_u8 _ _ _ _ _ _ _))
  all_goals (simp only [str_at ue] at *; simp only [ifn0 ue] at *; simp only [ue, uv] at *)
  all_goals (try simp only [not_true_eq_false, or_self, or_false, false_or, and_self, true_and, and_true, false_and, and_false, bne_self_eq_false, beq_self_eq_true, Bool.or_self, Bool.not_true, gb, Bool.not_false, Bool.or_false] at *)
  all_goals first | (exfalso; omega) | skip
  all_goals (have dl := lv_last hs; rw [hlv] at dl)
  all_goals (have e3 : (strI (pyN W H 1) fun j => pyA W H (ownF r F W H X Y) 1 j) = pixT (pixF false r F) (atI W X Y).toNat := by unfold pyN; rw [dl.1, dl.2]; exact ownF_str fun j hj => ((py_one (ownF_one _ _ _ _ _ _ _ _) hs (ownF_u8 _ _ _ _ _ _)) 1 j (by rw [dl.1, dl.2]; omega)).trans (congrArg _ (Nat.mod_eq_of_lt hj)))
  all_goals (rw [e3, dl.1, dl.2]; simp; done)
def topSkin1_r (r : Nat) (F : Nat → Int) (w h x y u : Int) : AV := .bool true
def topSkin1_p (r : Nat) (F : Nat → Int) (w h x y u : Int) : Prop := ((∀ j, In64 (F j)) ∧ In64 w ∧ In64 h ∧ In64 x ∧ In64 y ∧ In64 u) ∧ lv (1 + pickF w 8) (1 + pickF h 8) = 1
def topSkin1_k : Con Try.prog := ⟨6, fun args => match args with | [.sl r 1 g_F, .int .i64 w, .int .i64 h, .int .i64 x, .int .i64 y, .int .i64 u] => .ok (some (IsI .i64 g_F ∧ topSkin1_p r (intF g_F) w h x y u)) (topSkin1_r r (intF g_F) w h x y u) | _ => .no, by
  intro args p r h hp
  split at h
  · cases h; obtain ⟨h_F, hp⟩ := hp; have e_F := h_F.eq; rw [e_F]; exact topSkin1_a _ _ _ _ _ _ _ hp
  · cases h⟩
theorem topSkin2_f : FnOk Try.prog 6 Try.f6 := ⟨Try.func6, by kernel_rfl⟩
theorem topSkin2_a (r : Nat) (F : Nat → Int) (w h x y u : Int) (hpre : ((∀ j, In64 (F j)) ∧ In64 w ∧ In64 h ∧ In64 x ∧ In64 y ∧ In64 u) ∧ lv (1 + pickF w 8) (1 + pickF h 8) = 2) : ACalls Try.prog 6 [ints .i64 r F, .int .i64 w, .int .i64 h, .int .i64 x, .int .i64 y, .int .i64 u] (.bool true) := by
  refine acalls_of (inl := hasI (P := Try.prog) [] [halves2_m]) (base [pick_k, pictureOf_k, atP_k] [] [halves2_m]) 0 topSkin2_f (And.intro (by kernel_rfl) ?_)
  obtain ⟨⟨hF, hw, hh, hx, hy, hu⟩, hlv⟩ := hpre
  have b0 := pickF_bd w 8 (by omega)
  have b1 := pickF_bd h 8 (by omega)
  have b2 := pickF_bd u 1000 (by omega)
  have e0 : IntKind.i64.wrap (1 + pickF w 8) = 1 + pickF w 8 := wrapI (by omega) (by omega)
  have e1 : IntKind.i64.wrap (1 + pickF h 8) = 1 + pickF h 8 := wrapI (by omega) (by omega)
  have e2 : IntKind.i64.wrap (pickF u 1000 - 500) = pickF u 1000 - 500 := wrapI (by omega) (by omega)
  have hs : Side (IntKind.i64.wrap (1 + pickF w 8)) (IntKind.i64.wrap (1 + pickF h 8)) := by rw [e0, e1]; exact ⟨by omega, by omega, by omega, by omega⟩
  repeat' (first | refine And.intro ?_ ?_ | (with_reducible exact ff_elim) | (with_reducible exact tf_elim) | refine num_elim ?_ | intro _ | (with_reducible rfl) | ((with_reducible refine lk_t ?_); exact rfl) | refine tell ?_ | exact True.intro | (refine IsT.of ?_; kernel_rfl))
  all_goals (try (refine loop_keep [1, 2, 3, 4, 5, 13, 14] [28] ?_; refine LoopI.mk (UpC) (fun k => [(15, .int .i64 k.1)]) (fun k => []) (fun k => 4 - k.1) (⟨0, by omega⟩) (wk_mk [some 28] ?_) (fun ⟨k, hk⟩ => ?_)))
  repeat' (first | refine And.intro ?_ ?_ | (with_reducible exact ff_elim) | (with_reducible exact tf_elim) | refine stp_mk [some 28] ((⟨k + 1, ?_⟩ : UpC)) ?_ ?_ | refine num_elim ?_ | intro _ | (with_reducible rfl) | ((with_reducible refine lk_t ?_); exact rfl) | refine tell ?_ | exact True.intro | (refine IsT.of ?_; kernel_rfl))
  all_goals (try (refine loop_keep [1, 2, 3, 5, 14] [] ?_; refine LoopI.mk ({i : Nat // (i : Int) ≤ IntKind.i64.wrap (1 + pickF w 8) * IntKind.i64.wrap (1 + pickF h 8)}) (fun i => [(26, .int .i64 i.1), (25, .own 165 0)]) (fun i => [(165, .row [.int .i64 (IntKind.i64.wrap (1 + pickF w 8)), .int .i64 (IntKind.i64.wrap (1 + pickF h 8)), .os 1 1 0 (4 * i.1)]), (1, .nums .u8 (4 * i.1) (ownF r F (IntKind.i64.wrap (1 + pickF w 8)) (IntKind.i64.wrap (1 + pickF h 8)) (pickF x (IntKind.i64.wrap (1 + pickF w 8))) (pickF y (IntKind.i64.wrap (1 + pickF h 8)))))]) (fun i => (IntKind.i64.wrap (1 + pickF w 8) * IntKind.i64.wrap (1 + pickF h 8)).toNat - i.1) (⟨0, by have := hs.wh; omega⟩) (wk_mk [some 165, none] ?_) (fun ⟨i, hi⟩ => ?_)))
  repeat' (first | refine And.intro ?_ ?_ | (with_reducible exact ff_elim) | (with_reducible exact tf_elim) | refine' stp_mk [some 165, some _] (⟨i + 1, ?_⟩) ?_ ?_ | refine num_lit 0 (by decide) ?_ | refine num_lit 1 (by decide) ?_ | refine num_lit 2 (by decide) ?_ | refine num_lit 3 (by decide) ?_ | refine num_lit 4 (by decide) ?_ | refine num_lit 5 (by decide) ?_ | refine num_lit 6 (by decide) ?_ | refine num_lit 7 (by decide) ?_ | refine num_lit 8 (by decide) ?_ | (intro h; exact absurd h (by decide)) | refine num_elim ?_ | intro _ | (with_reducible rfl) | ((with_reducible refine lk_t ?_); exact rfl) | refine tell ?_ | exact True.intro | (refine IsT.of ?_; kernel_rfl))
  all_goals (try refine Tell.mk ?_)
  all_goals first | with_reducible rfl | with_reducible exact isI_mk | with_reducible assumption | (with_reducible refine gb_t ?_; with_reducible assumption) | (with_reducible refine gb_f ?_; with_reducible assumption) | ((with_reducible refine lk_t ?_); rfl) | ((with_reducible refine okF_t ?_); kernel_rfl) | ((with_reducible refine ks_t ?_); rfl) | ((with_reducible refine pk_t ?_); rfl) | skip
  all_goals (try dsimp only at *)
  all_goals (try simp only [decide_eq_true_eq, decide_eq_false_iff_not, Bool.or_eq_true, Bool.or_eq_false_iff, Bool.and_eq_true, Bool.and_eq_false_iff, Bool.not_eq_true', Bool.not_eq_false', bne_iff_ne, ne_eq, beq_iff_eq, bne_eq_false_iff_eq, beq_eq_false_iff_ne, Int.not_lt, Int.not_le, gt_iff_lt, ge_iff_le] at *)
  all_goals (try simp only [mulN1, Nat.add_zero, Nat.zero_add, Nat.mul_one, Int.toNat_natCast, avInt_int, intF_mk, e0, e1, e2, shiftA_some, lenN_some, jx2, jy2, jz2] at *)
  all_goals first | with_reducible rfl | with_reducible exact nums_N | omega | ((with_reducible refine by_le 1 rfl ?_); omega) | ((with_reducible refine by_le 8 rfl ?_); omega) | (rw [wrapI (by omega) (by omega)] <;> omega) | skip
  all_goals (generalize hW : 1 + pickF w 8 = W at *; generalize hH : 1 + pickF h 8 = H at *; generalize hT : pickF u 1000 - 500 = T at *)
  all_goals (have bX := pickF_bd x W (by omega); have bY := pickF_bd y H (by omega); generalize pickF x W = X at *; generalize pickF y H = Y at *)
  all_goals (have cw : 1 ≤ W ∧ W ≤ 8 := (by omega); have ch : 1 ≤ H ∧ H ≤ 8 := (by omega); have ct : -500 ≤ T ∧ T < 500 := (by omega))
  all_goals (have hs : Side W H := ⟨by omega, by omega, by omega, by omega⟩; have hy2 := hs.wh; have z0 := hs.wraps.1; have tb1 := turn_bd ct cw; have tb2 := turn_bd ct ch; have tm1 : T * (2 * W) = 2 * (T * W) := Int.mul_left_comm _ _ _; have tm2 : T * (2 * H) = 2 * (T * H) := Int.mul_left_comm _ _ _; have hA := pixF_bd false r F)
  all_goals (have hn : picE W H (4 * (W * H)).toNat = 0 := picE0 hs (by omega))
  all_goals (obtain ⟨w1, w2, w3, w4, w5, w6, w7, w8, w9, w10, w11⟩ := skin_w cw ch bX bY ct; obtain ⟨p0, p1, p2⟩ := atI_in hs bX bY; obtain ⟨o0, o1, o2⟩ := atI_in hs (x := 0) (y := H - 1) ⟨by omega, by omega⟩ ⟨by omega, by omega⟩)
  all_goals (have p3 : IntKind.i64.wrap (atI W X Y + 4) = atI W X Y + 4 := wrapI (by omega) (by omega); have o3 : IntKind.i64.wrap (atI W 0 (H - 1) + 4) = atI W 0 (H - 1) + 4 := wrapI (by omega) (by omega))
  all_goals (have p4 : (atI W X Y + 4 - atI W X Y).toNat = 4 := (by omega); have o4 : (atI W 0 (H - 1) + 4 - atI W 0 (H - 1)).toNat = 4 := (by omega))
  all_goals (try simp only [w1, w2, w3, w4, w5, w6, w7, w8, w9, w10, w11, p2, p3, o2, o3, p4, o4, pixT_eq, pixT_size, z0] at *)
  all_goals first | (with_reducible exact hF _) | omega | exact Nat.le_refl 4 | exact Nat.le_refl 3 | exact ownF_step (by with_reducible assumption) | exact (ownF_u8 _ _ _ _ _ _ _).1 | exact (ownF_u8 _ _ _ _ _ _ _).2 | exact (hA _).1 | exact (hA _).2 | exact ⟨by omega, by omega⟩ | (with_reducible refine by_le 1 rfl ?_; omega) | (rw [wrapI (by omega) (by omega)]; omega) | exact picE0 hs (by omega) | (unfold posR; show 0 < _; omega) | skip
  all_goals (obtain ⟨s0, s1, s2, s3⟩ := skin_at cw ch bX bY ct hA hn)
  all_goals (try (have sk := s0 (k : Int) ⟨by omega, by omega⟩; simp only [str_at sk.1] at *; simp only [ifn0 sk.1] at *; simp only [sk.1, sk.2] at *))
  all_goals (try simp only [str_at s1.1, str_at s2.1, str_at s3.1] at *)
  all_goals (try simp only [ifn0 s1.1, ifn0 s2.1, ifn0 s3.1] at *)
  all_goals (try simp only [s1.1, s1.2, s2.1, s2.2, s3.1, s3.2] at *)
  all_goals (try simp only [not_true_eq_false, or_self, or_false, false_or, and_self, true_and, and_true, false_and, and_false, bne_self_eq_false, beq_self_eq_true, Bool.or_self, Bool.not_true, gb, Bool.not_false, Bool.or_false] at *)
  all_goals (have hn2 : picE W H (4 * i) = 0 := picE0 hs (by omega))
  all_goals (have ue : atE W H (4 * i) (pickF T 3) (37 * T) (91 * X) = 0 := atE_0 hn2 (by have := pickF_bd T 3 (by omega); omega) ⟨by omega, by omega⟩)
  all_goals (have uv : strI 4 (fun j => atV W H (ownF r F W H X Y) (pickF T 3) (37 * T) (91 * X) j) = pixT (pixF false r F) (atI W X Y).toNat := ownF_str fun j hj => atV_one (ownF_one _ _ _ _ _ _ _ _) hs hj (ownF_u8 _ _ _ _ _ _ _))
  all_goals (simp only [str_at ue] at *; simp only [ifn0 ue] at *; simp only [ue, uv] at *)
  all_goals (try simp only [not_true_eq_false, or_self, or_false, false_or, and_self, true_and, and_true, false_and, and_false, bne_self_eq_false, beq_self_eq_true, Bool.or_self, Bool.not_true, gb, Bool.not_false, Bool.or_false] at *)
  all_goals first | (exfalso; omega) | skip
  all_goals (have dl := lv_last hs; rw [hlv] at dl)
  all_goals (have e3 : (strI (pyN W H 2) fun j => pyA W H (ownF r F W H X Y) 2 j) = pixT (pixF false r F) (atI W X Y).toNat := by unfold pyN; rw [dl.1, dl.2]; exact ownF_str fun j hj => ((py_one (ownF_one _ _ _ _ _ _ _ _) hs (ownF_u8 _ _ _ _ _ _)) 2 j (by rw [dl.1, dl.2]; omega)).trans (congrArg _ (Nat.mod_eq_of_lt hj)))
  all_goals (rw [e3, dl.1, dl.2]; simp; done)
def topSkin2_r (r : Nat) (F : Nat → Int) (w h x y u : Int) : AV := .bool true
def topSkin2_p (r : Nat) (F : Nat → Int) (w h x y u : Int) : Prop := ((∀ j, In64 (F j)) ∧ In64 w ∧ In64 h ∧ In64 x ∧ In64 y ∧ In64 u) ∧ lv (1 + pickF w 8) (1 + pickF h 8) = 2
def topSkin2_k : Con Try.prog := ⟨6, fun args => match args with | [.sl r 1 g_F, .int .i64 w, .int .i64 h, .int .i64 x, .int .i64 y, .int .i64 u] => .ok (some (IsI .i64 g_F ∧ topSkin2_p r (intF g_F) w h x y u)) (topSkin2_r r (intF g_F) w h x y u) | _ => .no, by
  intro args p r h hp
  split at h
  · cases h; obtain ⟨h_F, hp⟩ := hp; have e_F := h_F.eq; rw [e_F]; exact topSkin2_a _ _ _ _ _ _ _ hp
  · cases h⟩
theorem topSkin3_f : FnOk Try.prog 6 Try.f6 := ⟨Try.func6, by kernel_rfl⟩
theorem topSkin3_a (r : Nat) (F : Nat → Int) (w h x y u : Int) (hpre : ((∀ j, In64 (F j)) ∧ In64 w ∧ In64 h ∧ In64 x ∧ In64 y ∧ In64 u) ∧ lv (1 + pickF w 8) (1 + pickF h 8) = 3) : ACalls Try.prog 6 [ints .i64 r F, .int .i64 w, .int .i64 h, .int .i64 x, .int .i64 y, .int .i64 u] (.bool true) := by
  refine acalls_of (inl := hasI (P := Try.prog) [] [halves3_m]) (base [pick_k, pictureOf_k, atP_k] [] [halves3_m]) 0 topSkin3_f (And.intro (by kernel_rfl) ?_)
  obtain ⟨⟨hF, hw, hh, hx, hy, hu⟩, hlv⟩ := hpre
  have b0 := pickF_bd w 8 (by omega)
  have b1 := pickF_bd h 8 (by omega)
  have b2 := pickF_bd u 1000 (by omega)
  have e0 : IntKind.i64.wrap (1 + pickF w 8) = 1 + pickF w 8 := wrapI (by omega) (by omega)
  have e1 : IntKind.i64.wrap (1 + pickF h 8) = 1 + pickF h 8 := wrapI (by omega) (by omega)
  have e2 : IntKind.i64.wrap (pickF u 1000 - 500) = pickF u 1000 - 500 := wrapI (by omega) (by omega)
  have hs : Side (IntKind.i64.wrap (1 + pickF w 8)) (IntKind.i64.wrap (1 + pickF h 8)) := by rw [e0, e1]; exact ⟨by omega, by omega, by omega, by omega⟩
  repeat' (first | refine And.intro ?_ ?_ | (with_reducible exact ff_elim) | (with_reducible exact tf_elim) | refine num_elim ?_ | intro _ | (with_reducible rfl) | ((with_reducible refine lk_t ?_); exact rfl) | refine tell ?_ | exact True.intro | (refine IsT.of ?_; kernel_rfl))
  all_goals (try (refine loop_keep [1, 2, 3, 4, 5, 13, 14] [28] ?_; refine LoopI.mk (UpC) (fun k => [(15, .int .i64 k.1)]) (fun k => []) (fun k => 4 - k.1) (⟨0, by omega⟩) (wk_mk [some 28] ?_) (fun ⟨k, hk⟩ => ?_)))
  repeat' (first | refine And.intro ?_ ?_ | (with_reducible exact ff_elim) | (with_reducible exact tf_elim) | refine stp_mk [some 28] ((⟨k + 1, ?_⟩ : UpC)) ?_ ?_ | refine num_elim ?_ | intro _ | (with_reducible rfl) | ((with_reducible refine lk_t ?_); exact rfl) | refine tell ?_ | exact True.intro | (refine IsT.of ?_; kernel_rfl))
  all_goals (try (refine loop_keep [1, 2, 3, 5, 14] [] ?_; refine LoopI.mk ({i : Nat // (i : Int) ≤ IntKind.i64.wrap (1 + pickF w 8) * IntKind.i64.wrap (1 + pickF h 8)}) (fun i => [(26, .int .i64 i.1), (25, .own 165 0)]) (fun i => [(165, .row [.int .i64 (IntKind.i64.wrap (1 + pickF w 8)), .int .i64 (IntKind.i64.wrap (1 + pickF h 8)), .os 1 1 0 (4 * i.1)]), (1, .nums .u8 (4 * i.1) (ownF r F (IntKind.i64.wrap (1 + pickF w 8)) (IntKind.i64.wrap (1 + pickF h 8)) (pickF x (IntKind.i64.wrap (1 + pickF w 8))) (pickF y (IntKind.i64.wrap (1 + pickF h 8)))))]) (fun i => (IntKind.i64.wrap (1 + pickF w 8) * IntKind.i64.wrap (1 + pickF h 8)).toNat - i.1) (⟨0, by have := hs.wh; omega⟩) (wk_mk [some 165, none] ?_) (fun ⟨i, hi⟩ => ?_)))
  repeat' (first | refine And.intro ?_ ?_ | (with_reducible exact ff_elim) | (with_reducible exact tf_elim) | refine' stp_mk [some 165, some _] (⟨i + 1, ?_⟩) ?_ ?_ | refine num_lit 0 (by decide) ?_ | refine num_lit 1 (by decide) ?_ | refine num_lit 2 (by decide) ?_ | refine num_lit 3 (by decide) ?_ | refine num_lit 4 (by decide) ?_ | refine num_lit 5 (by decide) ?_ | refine num_lit 6 (by decide) ?_ | refine num_lit 7 (by decide) ?_ | refine num_lit 8 (by decide) ?_ | (intro h; exact absurd h (by decide)) | refine num_elim ?_ | intro _ | (with_reducible rfl) | ((with_reducible refine lk_t ?_); exact rfl) | refine tell ?_ | exact True.intro | (refine IsT.of ?_; kernel_rfl))
  all_goals (try refine Tell.mk ?_)
  all_goals first | with_reducible rfl | with_reducible exact isI_mk | with_reducible assumption | (with_reducible refine gb_t ?_; with_reducible assumption) | (with_reducible refine gb_f ?_; with_reducible assumption) | ((with_reducible refine lk_t ?_); rfl) | ((with_reducible refine okF_t ?_); kernel_rfl) | ((with_reducible refine ks_t ?_); rfl) | ((with_reducible refine pk_t ?_); rfl) | skip
  all_goals (try dsimp only at *)
  all_goals (try simp only [decide_eq_true_eq, decide_eq_false_iff_not, Bool.or_eq_true, Bool.or_eq_false_iff, Bool.and_eq_true, Bool.and_eq_false_iff, Bool.not_eq_true', Bool.not_eq_false', bne_iff_ne, ne_eq, beq_iff_eq, bne_eq_false_iff_eq, beq_eq_false_iff_ne, Int.not_lt, Int.not_le, gt_iff_lt, ge_iff_le] at *)
  all_goals (try simp only [mulN1, Nat.add_zero, Nat.zero_add, Nat.mul_one, Int.toNat_natCast, avInt_int, intF_mk, e0, e1, e2, shiftA_some, lenN_some, jx3, jy3, jz3] at *)
  all_goals first | with_reducible rfl | with_reducible exact nums_N | omega | ((with_reducible refine by_le 1 rfl ?_); omega) | ((with_reducible refine by_le 8 rfl ?_); omega) | (rw [wrapI (by omega) (by omega)] <;> omega) | skip
  all_goals (generalize hW : 1 + pickF w 8 = W at *; generalize hH : 1 + pickF h 8 = H at *; generalize hT : pickF u 1000 - 500 = T at *)
  all_goals (have bX := pickF_bd x W (by omega); have bY := pickF_bd y H (by omega); generalize pickF x W = X at *; generalize pickF y H = Y at *)
  all_goals (have cw : 1 ≤ W ∧ W ≤ 8 := (by omega); have ch : 1 ≤ H ∧ H ≤ 8 := (by omega); have ct : -500 ≤ T ∧ T < 500 := (by omega))
  all_goals (have hs : Side W H := ⟨by omega, by omega, by omega, by omega⟩; have hy2 := hs.wh; have z0 := hs.wraps.1; have tb1 := turn_bd ct cw; have tb2 := turn_bd ct ch; have tm1 : T * (2 * W) = 2 * (T * W) := Int.mul_left_comm _ _ _; have tm2 : T * (2 * H) = 2 * (T * H) := Int.mul_left_comm _ _ _; have hA := pixF_bd false r F)
  all_goals (have hn : picE W H (4 * (W * H)).toNat = 0 := picE0 hs (by omega))
  all_goals (obtain ⟨w1, w2, w3, w4, w5, w6, w7, w8, w9, w10, w11⟩ := skin_w cw ch bX bY ct; obtain ⟨p0, p1, p2⟩ := atI_in hs bX bY; obtain ⟨o0, o1, o2⟩ := atI_in hs (x := 0) (y := H - 1) ⟨by omega, by omega⟩ ⟨by omega, by omega⟩)
  all_goals (have p3 : IntKind.i64.wrap (atI W X Y + 4) = atI W X Y + 4 := wrapI (by omega) (by omega); have o3 : IntKind.i64.wrap (atI W 0 (H - 1) + 4) = atI W 0 (H - 1) + 4 := wrapI (by omega) (by omega))
  all_goals (have p4 : (atI W X Y + 4 - atI W X Y).toNat = 4 := (by omega); have o4 : (atI W 0 (H - 1) + 4 - atI W 0 (H - 1)).toNat = 4 := (by omega))
  all_goals (try simp only [w1, w2, w3, w4, w5, w6, w7, w8, w9, w10, w11, p2, p3, o2, o3, p4, o4, pixT_eq, pixT_size, z0] at *)
  all_goals first | (with_reducible exact hF _) | omega | exact Nat.le_refl 4 | exact Nat.le_refl 3 | exact ownF_step (by with_reducible assumption) | exact (ownF_u8 _ _ _ _ _ _ _).1 | exact (ownF_u8 _ _ _ _ _ _ _).2 | exact (hA _).1 | exact (hA _).2 | exact ⟨by omega, by omega⟩ | (with_reducible refine by_le 1 rfl ?_; omega) | (rw [wrapI (by omega) (by omega)]; omega) | exact picE0 hs (by omega) | (unfold posR; show 0 < _; omega) | skip
  all_goals (obtain ⟨s0, s1, s2, s3⟩ := skin_at cw ch bX bY ct hA hn)
  all_goals (try (have sk := s0 (k : Int) ⟨by omega, by omega⟩; simp only [str_at sk.1] at *; simp only [ifn0 sk.1] at *; simp only [sk.1, sk.2] at *))
  all_goals (try simp only [str_at s1.1, str_at s2.1, str_at s3.1] at *)
  all_goals (try simp only [ifn0 s1.1, ifn0 s2.1, ifn0 s3.1] at *)
  all_goals (try simp only [s1.1, s1.2, s2.1, s2.2, s3.1, s3.2] at *)
  all_goals (try simp only [not_true_eq_false, or_self, or_false, false_or, and_self, true_and, and_true, false_and, and_false, bne_self_eq_false, beq_self_eq_true, Bool.or_self, Bool.not_true, gb, Bool.not_false, Bool.or_false] at *)
  all_goals (have hn2 : picE W H (4 * i) = 0 := picE0 hs (by omega))
  all_goals (have ue : atE W H (4 * i) (pickF T 3) (37 * T) (91 * X) = 0 := atE_0 hn2 (by have := pickF_bd T 3 (by omega); omega) ⟨by omega, by omega⟩)
  all_goals (have uv : strI 4 (fun j => atV W H (ownF r F W H X Y) (pickF T 3) (37 * T) (91 * X) j) = pixT (pixF false r F) (atI W X Y).toNat := ownF_str fun j hj => atV_one (ownF_one _ _ _ _ _ _ _ _) hs hj (ownF_u8 _ _ _ _ _ _ _))
  all_goals (simp only [str_at ue] at *; simp only [ifn0 ue] at *; simp only [ue, uv] at *)
  all_goals (try simp only [not_true_eq_false, or_self, or_false, false_or, and_self, true_and, and_true, false_and, and_false, bne_self_eq_false, beq_self_eq_true, Bool.or_self, Bool.not_true, gb, Bool.not_false, Bool.or_false] at *)
  all_goals first | (exfalso; omega) | skip
  all_goals (have dl := lv_last hs; rw [hlv] at dl)
  all_goals (have e3 : (strI (pyN W H 3) fun j => pyA W H (ownF r F W H X Y) 3 j) = pixT (pixF false r F) (atI W X Y).toNat := by unfold pyN; rw [dl.1, dl.2]; exact ownF_str fun j hj => ((py_one (ownF_one _ _ _ _ _ _ _ _) hs (ownF_u8 _ _ _ _ _ _)) 3 j (by rw [dl.1, dl.2]; omega)).trans (congrArg _ (Nat.mod_eq_of_lt hj)))
  all_goals (rw [e3, dl.1, dl.2]; simp; done)
def topSkin3_r (r : Nat) (F : Nat → Int) (w h x y u : Int) : AV := .bool true
def topSkin3_p (r : Nat) (F : Nat → Int) (w h x y u : Int) : Prop := ((∀ j, In64 (F j)) ∧ In64 w ∧ In64 h ∧ In64 x ∧ In64 y ∧ In64 u) ∧ lv (1 + pickF w 8) (1 + pickF h 8) = 3
def topSkin3_k : Con Try.prog := ⟨6, fun args => match args with | [.sl r 1 g_F, .int .i64 w, .int .i64 h, .int .i64 x, .int .i64 y, .int .i64 u] => .ok (some (IsI .i64 g_F ∧ topSkin3_p r (intF g_F) w h x y u)) (topSkin3_r r (intF g_F) w h x y u) | _ => .no, by
  intro args p r h hp
  split at h
  · cases h; obtain ⟨h_F, hp⟩ := hp; have e_F := h_F.eq; rw [e_F]; exact topSkin3_a _ _ _ _ _ _ _ hp
  · cases h⟩
theorem lv_le3 {w h : Int} (hw : 1 ≤ w ∧ w ≤ 8) (hh : 1 ≤ h ∧ h ≤ 8) : lv w h = 0 ∨ lv w h = 1 ∨ lv w h = 2 ∨ lv w h = 3 := by
  obtain ⟨b0, b1, b2, b3, b4, b5, hl, c0, c1, c2, c3, c4, c5⟩ := lv_cases w h
  simp only [dimN] at c0 c1 c2 c3 c4 c5
  omega
theorem topSkin_f : FnOk Try.prog 6 Try.f6 := ⟨Try.func6, by kernel_rfl⟩
theorem topSkin_a (r : Nat) (F : Nat → Int) (w h x y u : Int) (hpre : (∀ j, In64 (F j)) ∧ In64 w ∧ In64 h ∧ In64 x ∧ In64 y ∧ In64 u) : ACalls Try.prog 6 [ints .i64 r F, .int .i64 w, .int .i64 h, .int .i64 x, .int .i64 y, .int .i64 u] (.bool true) := by
  have b0 := pickF_bd w 8 (by omega)
  have b1 := pickF_bd h 8 (by omega)
  rcases lv_le3 (w := 1 + pickF w 8) (h := 1 + pickF h 8) ⟨by omega, by omega⟩ ⟨by omega, by omega⟩ with e | e | e | e
  · exact topSkin0_a r F w h x y u ⟨hpre, e⟩
  · exact topSkin1_a r F w h x y u ⟨hpre, e⟩
  · exact topSkin2_a r F w h x y u ⟨hpre, e⟩
  · exact topSkin3_a r F w h x y u ⟨hpre, e⟩
def topSkin_r (r : Nat) (F : Nat → Int) (w h x y u : Int) : AV := .bool true
def topSkin_p (r : Nat) (F : Nat → Int) (w h x y u : Int) : Prop := (∀ j, In64 (F j)) ∧ In64 w ∧ In64 h ∧ In64 x ∧ In64 y ∧ In64 u
def topSkin_k : Con Try.prog := ⟨6, fun args => match args with | [.sl r 1 g_F, .int .i64 w, .int .i64 h, .int .i64 x, .int .i64 y, .int .i64 u] => .ok (some (IsI .i64 g_F ∧ topSkin_p r (intF g_F) w h x y u)) (topSkin_r r (intF g_F) w h x y u) | _ => .no, by
  intro args p r h hp
  split at h
  · cases h; obtain ⟨h_F, hp⟩ := hp; have e_F := h_F.eq; rw [e_F]; exact topSkin_a _ _ _ _ _ _ _ hp
  · cases h⟩
end Go.Proofs.Ytlcdaoljfclliaa
