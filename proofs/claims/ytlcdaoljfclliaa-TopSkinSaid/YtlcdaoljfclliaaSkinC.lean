/- The colour at a place, as the document has it. -/
import Derived.Test.YtlcdaoljfclliaaSkinB
namespace Go.Proofs.Ytlcdaoljfclliaa
open Go.RowKit Ev
set_option linter.unusedVariables false
set_option linter.unusedSimpArgs false
set_option maxRecDepth 20000
set_option maxHeartbeats 4000000

theorem at_pix {w h x y : Int} (hs : Side w h) (hx : 0 ≤ x ∧ x < w) (hy : 0 ≤ y ∧ y < h) (k : Nat) (hk : k < 4) : IntKind.i64.wrap (IntKind.i64.wrap (4 * IntKind.i64.wrap (IntKind.i64.wrap (y * w) + x)) + (k : Int)) = atI w x y + k ∧ 0 ≤ atI w x y + k ∧ atI w x y + k < 4 * (w * h) ∧ (atI w x y + (k : Int)).toNat = (atI w x y).toNat + k := by
  obtain ⟨a0, a1, a2⟩ := atI_in hs hx hy
  have hw := hs.wh
  rw [a2, wrapI (by omega) (by omega)]
  exact ⟨rfl, by omega, by omega, by omega⟩
theorem at_wr {w h : Int} (hs : Side w h) (t x y : Int) (k : Nat) (hk : k < 4) : IntKind.i64.wrap (IntKind.i64.wrap (4 * IntKind.i64.wrap (IntKind.i64.wrap (wrapV t y h * w) + wrapV t x w)) + (k : Int)) = atI w (wrapV t x w) (wrapV t y h) + k ∧ 0 ≤ atI w (wrapV t x w) (wrapV t y h) + k ∧ atI w (wrapV t x w) (wrapV t y h) + k < 4 * (w * h) ∧ (atI w (wrapV t x w) (wrapV t y h) + (k : Int)).toNat = (atI w (wrapV t x w) (wrapV t y h)).toNat + k := at_pix hs (wrapV_bd t x hs.1) (wrapV_bd t y hs.2.2.1) k hk
theorem one_step {P : Nat → Int} {v : Int} {i j r : Nat} (hj : j < i + 1) (hv : v = P i) : P j = catI i (some r) P (fun _ => v) j := by
  rw [catI_some]
  split
  · rfl
  · obtain rfl : j = i := by omega
    exact hv.symm
theorem atR_f : FnOk Try.prog 14 Try.f14 := ⟨Try.func14, by kernel_rfl⟩
theorem atR_a (w h : Int) (n : Nat) (A : Nat → Int) (t u v : Int) (hpre : U8s A ∧ In64 u ∧ In64 v) : ACalls Try.prog 14 [.agg [.int .i64 w, .int .i64 h, ints .u8 n A], .int .i64 t, .int .i64 u, .int .i64 v] (.tup [ints .u8 (ifn (atE w h n t u v) 4) (atV w h A t u v), .int .i64 (atE w h n t u v)]) := by
  refine acalls_len fun hlen => ?_
  simp only [lenV, len1, lenV0, len0, and_true, true_and] at hlen
  refine acalls_of (inl := hasI (P := Try.prog) [] []) (base [mayPR_k, floorR_k, wrapR_k] [] []) 0 atR_f (And.intro (by kernel_rfl) ?_)
  repeat' (first | refine And.intro ?_ ?_ | (with_reducible exact ff_elim) | (with_reducible exact tf_elim) | refine num_elim ?_ | intro _ | (with_reducible rfl) | ((with_reducible refine lk_t ?_); exact rfl) | refine tell ?_ | exact True.intro | (refine IsT.of ?_; kernel_rfl))
  all_goals (try (refine loop_keep [1, 4, 11, 12, 13, 14] [0] ?_; refine LoopI.mk ({k : Nat // k ≤ 4}) (fun k => [(16, .int .i64 k.1), (15, .os 1 1 0 k.1)]) (fun k => [(1, .nums .u8 k.1 (atV w h A t u v))]) (fun k => 4 - k.1) (⟨0, by omega⟩) (wk_mk [none, some 0] ?_) (fun ⟨k, hk⟩ => ?_)))
  repeat' (first | refine And.intro ?_ ?_ | (with_reducible exact ff_elim) | (with_reducible exact tf_elim) | refine' stp_mk [some _, some 0] (⟨k + 1, ?_⟩) ?_ ?_ | refine Or.inl ⟨3, ?_⟩ | refine num_lit 0 (by decide) ?_ | refine num_lit 1 (by decide) ?_ | refine num_lit 2 (by decide) ?_ | refine num_lit 3 (by decide) ?_ | refine num_lit 4 (by decide) ?_ | refine num_lit 5 (by decide) ?_ | refine num_lit 6 (by decide) ?_ | refine num_lit 7 (by decide) ?_ | refine num_lit 8 (by decide) ?_ | (intro h; exact absurd h (by decide)) | refine num_elim ?_ | intro _ | (with_reducible rfl) | ((with_reducible refine lk_t ?_); exact rfl) | refine tell ?_ | exact True.intro | (refine IsT.of ?_; kernel_rfl))
  all_goals (try refine Tell.mk ?_)
  all_goals first | with_reducible rfl | with_reducible exact isI_mk | with_reducible assumption | (with_reducible refine gb_t ?_; with_reducible assumption) | (with_reducible refine gb_f ?_; with_reducible assumption) | ((with_reducible refine lk_t ?_); rfl) | ((with_reducible refine okF_t ?_); kernel_rfl) | ((with_reducible refine ks_t ?_); rfl) | ((with_reducible refine pk_t ?_); rfl) | skip
  all_goals (try dsimp only at *)
  all_goals (try simp only [decide_eq_true_eq, decide_eq_false_iff_not, Bool.or_eq_true, Bool.or_eq_false_iff, Bool.and_eq_true, Bool.and_eq_false_iff, Bool.not_eq_true', Bool.not_eq_false', bne_iff_ne, ne_eq, beq_iff_eq, bne_eq_false_iff_eq, beq_eq_false_iff_ne, Int.not_lt, Int.not_le, gt_iff_lt, ge_iff_le] at *)
  all_goals (try simp only [mulN1, Nat.add_zero, Nat.zero_add, Nat.mul_one, Int.toNat_natCast, avInt_int, intF_mk] at *)
  all_goals first | with_reducible rfl | with_reducible exact nums_N | omega | ((with_reducible refine by_le 1 rfl ?_); omega) | ((with_reducible refine by_le 8 rfl ?_); omega) | (rw [wrapI (by omega) (by omega)] <;> omega) | skip
  all_goals obtain ⟨hA, hu0, hv0⟩ := hpre
  all_goals first | with_reducible exact isI_mk | skip
  all_goals first | (rw [atE_p (by with_reducible assumption)] <;> first | with_reducible rfl | exact ifn1 (by with_reducible assumption)) | (rw [atE_3 (by with_reducible assumption) (by omega)] <;> first | exact ifn1 (by decide) | skip) | (rw [atE_1 (by with_reducible assumption) (by omega) (by omega)] <;> first | exact ifn1 (by decide) | skip) | skip
  all_goals (have h0 : picE w h n = 0 := by with_reducible assumption)
  all_goals (obtain ⟨hs, hn⟩ := picE_ok h0; have ht : 0 ≤ t ∧ t ≤ 2 := (by omega); have hu : -1073741824 ≤ u ∧ u ≤ 1073741824 := (by omega); have hv : -1073741824 ≤ v ∧ v ≤ 1073741824 := (by omega))
  all_goals (obtain ⟨q1, q2, q3, q4, q5, q6⟩ := uv_w hu; obtain ⟨p1, p2, p3, p4, p5, p6⟩ := uv_w hv)
  all_goals (have hw1 : 1 ≤ w := hs.1; have hh1 : 1 ≤ h := hs.2.2.1)
  all_goals (have c0 : IntKind.i64.wrap (256 - (u - 128) % 256) = 256 - (u - 128) % 256 := wrapI (by omega) (by omega); have c1 : IntKind.i64.wrap (256 - (v - 128) % 256) = 256 - (v - 128) % 256 := wrapI (by omega) (by omega))
  all_goals (try simp only [q1, q4, q5, q6, p1, p4, p5, p6, c0, c1])
  all_goals first | omega | exact hs.2.1 | exact hs.2.2.2 | skip
  all_goals first | (rw [atE_0 h0 ht ⟨hu, hv⟩] <;> first | done | (rw [ifn0 rfl]; omega)) | skip
  all_goals (have hk4 : k < 4 := by omega)
  all_goals (have r1 := fun x y => (at_wr hs t x y k hk4).1; have r2 := fun x y => (at_wr hs t x y k hk4).2.1; have r3 := fun x y => (at_wr hs t x y k hk4).2.2.1; have r4 := fun x y => (at_wr hs t x y k hk4).2.2.2)
  all_goals simp only [r1, r4, pxA_eq]
  all_goals first | exact r2 _ _ | (rw [hn]; exact r3 _ _) | skip
  all_goals (refine one_step (by with_reducible assumption) ?_; unfold atV atS; exact at_goR (pxA_bd hA _ _ _ _) (pxA_bd hA _ _ _ _) (pxA_bd hA _ _ _ _) (pxA_bd hA _ _ _ _) (by omega) (by omega))
def atR_r (w h : Int) (n : Nat) (A : Nat → Int) (t u v : Int) : AV := .tup [ints .u8 (ifn (atE w h n t u v) 4) (atV w h A t u v), .int .i64 (atE w h n t u v)]
def atR_p (w h : Int) (n : Nat) (A : Nat → Int) (t u v : Int) : Prop := U8s A ∧ In64 u ∧ In64 v
def atR_k : Con Try.prog := ⟨14, fun args => match args with | [.agg [.int .i64 w, .int .i64 h, .sl n 1 g_A], .int .i64 t, .int .i64 u, .int .i64 v] => .ok (some (IsI .u8 g_A ∧ atR_p w h n (intF g_A) t u v)) (atR_r w h n (intF g_A) t u v) | _ => .no, by
  intro args p r h hp
  split at h
  · cases h; obtain ⟨h_A, hp⟩ := hp; have e_A := h_A.eq; rw [e_A]; exact atR_a _ _ _ _ _ _ _ hp
  · cases h⟩
end Go.Proofs.Ytlcdaoljfclliaa
