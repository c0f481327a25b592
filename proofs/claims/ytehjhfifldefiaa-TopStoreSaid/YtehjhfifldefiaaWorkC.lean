/- Films of bytes, as the document has it. -/
import Derived.Test.YtehjhfifldefiaaWorkB
namespace Go.Proofs.Ytehjhfifldefiaa
open Go.RowKit Ev
set_option linter.unusedVariables false
set_option linter.unusedSimpArgs false
set_option maxRecDepth 20000
set_option maxHeartbeats 4000000

theorem tn0 : Int.toNat 0 = 0 := rfl
theorem tn1 : Int.toNat 1 = 1 := rfl
theorem tn2 : Int.toNat 2 = 2 := rfl
theorem loadR_f : FnOk Try.prog 8 Try.f8 := ⟨Try.func8, by kernel_rfl⟩
theorem loadR_a (n : Nat) (B : Nat → Int) (hpre : n ≤ 1000000 ∧ U8s B) : ACalls Try.prog 8 [ints .u8 n B] (.tup [.agg [.int .i64 (ifz (loadE n B) (B 4)), .int .i64 (ifz (loadE n B) (B 5)), ints .i64 (ifn (loadE n B) (3 * (B 4 * B 5)).toNat) (lightB B), ints .i64 (ifn (loadE n B) (B 4 * B 5).toNat) (shotB B (B 4 * B 5).toNat)], .int .i64 (loadE n B)]) := by
  refine acalls_of (inl := hasI (P := Try.prog) [] []) (base [numberOf_k, sumOf_k, mayFR_k] [] []) 0 loadR_f (And.intro (by kernel_rfl) ?_)
  have u4 : IntKind.i64.wrap (B 4) = B 4 := wrapI (by have := hpre.2 4; omega) (by have := hpre.2 4; omega)
  have u5 : IntKind.i64.wrap (B 5) = B 5 := wrapI (by have := hpre.2 5; omega) (by have := hpre.2 5; omega)
  have hq : 0 ≤ B 4 * B 5 := Int.mul_nonneg (hpre.2 4).1 (hpre.2 5).1
  repeat' (first | refine And.intro ?_ ?_ | (with_reducible exact ff_elim) | (with_reducible exact tf_elim) | refine num_elim ?_ | intro _ | (with_reducible rfl) | ((with_reducible refine lk_t ?_); exact rfl) | ((with_reducible refine pf_t ?_); exact rfl) | refine tell ?_ | exact True.intro | (refine IsT.of ?_; kernel_rfl))
  all_goals (try (refine loop_keep [0, 2, 4, 5, 7] [0] ?_; refine LoopI.mk ({i : Nat // (i : Int) ≤ 3 * (B 4 * B 5)}) (fun i => [(8, .int .i64 i.1)]) (fun i => [(85, .row [.int .i64 (B 4), .int .i64 (B 5), .os 1 1 0 i.1, .nils]), (1, .nums .i64 i.1 (lightB B))]) (fun i => (3 * (B 4 * B 5)).toNat - i.1) (⟨0, by omega⟩) (wk_mk [some 85, none, some 0] ?_) (fun ⟨i, hi⟩ => ?_)))
  repeat' (first | refine And.intro ?_ ?_ | (with_reducible exact ff_elim) | (with_reducible exact tf_elim) | refine' stp_mk [some 85, some _, some 0] (⟨i + 1, ?_⟩) ?_ ?_ | refine num_elim ?_ | intro _ | (with_reducible rfl) | ((with_reducible refine lk_t ?_); exact rfl) | ((with_reducible refine pf_t ?_); exact rfl) | refine tell ?_ | exact True.intro | (refine IsT.of ?_; kernel_rfl))
  all_goals (try (refine loop_keep [0, 2, 4, 5, 7, 10] [0, 1] ?_; refine LoopI.mk ({k : Nat // (k : Int) ≤ B 4 * B 5}) (fun k => [(11, .int .i64 k.1)]) (fun k => [(85, .row [.int .i64 (B 4), .int .i64 (B 5), .os 1 1 0 i, .os 2 1 0 k.1]), (2, .nums .i64 k.1 (fun j => getV (shB B (6 + 6 * i + 3 * j)) 3))]) (fun k => (B 4 * B 5).toNat - k.1) (⟨0, by omega⟩) (wk_mk [some 85, none, some 0, some 1] ?_) (fun ⟨k, hk⟩ => ?_)))
  repeat' (first | refine And.intro ?_ ?_ | (with_reducible exact ff_elim) | (with_reducible exact tf_elim) | refine' stp_mk [some 85, some _, some 0, some 1] (⟨k + 1, ?_⟩) ?_ ?_ | refine num_elim ?_ | intro _ | (with_reducible rfl) | ((with_reducible refine lk_t ?_); exact rfl) | ((with_reducible refine pf_t ?_); exact rfl) | refine tell ?_ | exact True.intro | (refine IsT.of ?_; kernel_rfl))
  all_goals (try refine Tell.mk ?_)
  all_goals first | with_reducible rfl | with_reducible exact isI_mk | with_reducible assumption | (with_reducible refine gb_t ?_; with_reducible assumption) | (with_reducible refine gb_f ?_; with_reducible assumption) | ((with_reducible refine lk_t ?_); rfl) | ((with_reducible refine okF_t ?_); kernel_rfl) | ((with_reducible refine ks_t ?_); rfl) | ((with_reducible refine pk_t ?_); rfl) | ((with_reducible refine pf_t ?_); rfl) | skip
  all_goals (try dsimp only at *)
  all_goals (try simp only [decide_eq_true_eq, decide_eq_false_iff_not, Bool.or_eq_true, Bool.or_eq_false_iff, Bool.and_eq_true, Bool.and_eq_false_iff, Bool.not_eq_true', Bool.not_eq_false', bne_iff_ne, ne_eq, beq_iff_eq, bne_eq_false_iff_eq, beq_eq_false_iff_ne, Int.not_lt, Int.not_le, gt_iff_lt, ge_iff_le] at *)
  all_goals (try simp only [mulN1, Nat.add_zero, Nat.zero_add, Nat.mul_one, Int.toNat_natCast, avInt_int, intF_mk, shiftA_none, shiftA_some, lenN_none, lenN_some] at *)
  all_goals first | with_reducible rfl | with_reducible exact nums_N | omega | ((with_reducible refine by_le 1 rfl ?_); omega) | ((with_reducible refine by_le 8 rfl ?_); omega) | (rw [wrapI (by omega) (by omega)] <;> omega) | skip
  all_goals obtain ⟨hn, hB⟩ := hpre
  all_goals simp only [tn0, tn1, tn2, tn3, tn4, tn5, u4, u5] at *
  all_goals first | with_reducible exact isI_mk | exact (hB _).1 | exact (hB _).2 | skip
  all_goals first | (rw [loadE_8a (n := n) (B := B) (by omega)] <;> first | exact ifz1 (by decide) | exact ifn1 (by decide)) | (rw [loadE_11 (n := n) (B := B) (by omega) (by unfold headB; omega)] <;> first | exact ifz1 (by decide) | exact ifn1 (by decide)) | (rw [loadE_4 (n := n) (B := B) (by omega) (by unfold headB; omega) (by unfold Side; omega)] <;> first | exact ifz1 (by decide) | exact ifn1 (by decide)) | exact congrArg (fun z => AV.int .u8 (B z)) (by omega) | skip
  all_goals have hh : headB B := by unfold headB; omega
  all_goals have hs : Side (B 4) (B 5) := by unfold Side; omega
  all_goals (have hy := hs.wh; have y1 := hs.wraps.1; have y2 := hs.wraps.2.1; have y3 : IntKind.i64.wrap (3 * B 4) = 3 * B 4 := hs.wraps.2.2; have y4 : IntKind.i64.wrap (18 * B 4) = 18 * B 4 := wrapI (by unfold Side at hs; omega) (by unfold Side at hs; omega))
  all_goals (have z1 : 18 * B 4 * B 5 = 18 * (B 4 * B 5) := Int.mul_assoc _ _ _; have z2 : 3 * B 4 * B 5 = 3 * (B 4 * B 5) := Int.mul_assoc _ _ _)
  all_goals (have z3 : IntKind.i64.wrap (18 * (B 4 * B 5)) = 18 * (B 4 * B 5) := wrapI (by omega) (by omega); have z4 : IntKind.i64.wrap (6 + 18 * (B 4 * B 5)) = 6 + 18 * (B 4 * B 5) := wrapI (by omega) (by omega))
  all_goals (have z5 : IntKind.i64.wrap (6 + 18 * (B 4 * B 5) + 3 * (B 4 * B 5)) = 6 + 18 * (B 4 * B 5) + 3 * (B 4 * B 5) := wrapI (by omega) (by omega); have z6 : IntKind.i64.wrap (6 + 18 * (B 4 * B 5) + 3 * (B 4 * B 5) + 4) = 6 + 18 * (B 4 * B 5) + 3 * (B 4 * B 5) + 4 := wrapI (by omega) (by omega))
  all_goals (have z7 : IntKind.i64.wrap (6 + 18 * (B 4 * B 5) + 3 * (B 4 * B 5) + 4 - 4) = 6 + 18 * (B 4 * B 5) + 3 * (B 4 * B 5) := by rw [wrapI (by omega) (by omega)]; omega)
  all_goals simp only [y1, y2, y3, y4, z1, z2, z3, z4, z5, z6, z7, tn4] at *
  all_goals first | (rw [loadE_8b (n := n) (B := B) (by omega) hh hs (by omega)] <;> first | exact ifz1 (by decide) | exact ifn1 (by decide)) | (rw [loadE_5 (n := n) (B := B) (by omega) hh hs (by omega)] <;> first | exact ifz1 (by decide) | exact ifn1 (by decide)) | skip
  all_goals have hN : n = 10 + 21 * (B 4 * B 5).toNat := by omega
  all_goals (have e1 : (6 + 18 * (B 4 * B 5) + 3 * (B 4 * B 5)).toNat = n - 4 := (by omega); have e2 : ((n : Int) - (6 + 18 * (B 4 * B 5) + 3 * (B 4 * B 5))).toNat = 4 := by omega)
  all_goals simp only [e1, e2] at *
  all_goals first | omega | (rw [loadE_12 (n := n) (B := B) hh hs hN (by with_reducible assumption)] <;> first | exact ifz1 (by decide) | exact ifn1 (by decide)) | skip
  all_goals try simp (disch := omega) only [wrapI] at *
  all_goals first | omega | (have f1 : (6 + 6 * (i : Int)).toNat = 6 + 6 * i := (by omega); have f2 : (12 + 6 * (i : Int) - (6 + 6 * (i : Int))).toNat = 6 := (by omega); simp only [f1, f2]; exact cat_step (P := lightB B) (by assumption) rfl) | (have f1 : (6 + 18 * (B 4 * B 5) + 3 * (k : Int)).toNat = 6 + 6 * i + 3 * k := (by omega); have f2 : (6 + 18 * (B 4 * B 5) + 3 * (k : Int) + 3 - (6 + 18 * (B 4 * B 5) + 3 * (k : Int))).toNat = 3 := (by omega); simp only [f1, f2]; exact cat_step (P := fun j => getV (shB B (6 + 6 * i + 3 * j)) 3) (by assumption) rfl) | skip
  all_goals first | (with_reducible refine by_le 8 rfl ?_; omega) | (rw [wrapI (by omega) (by omega)]; omega) | skip
  all_goals obtain ⟨q1, q2, q3, q4⟩ := load_end (by with_reducible assumption) hs hN (by with_reducible assumption) hi (by with_reducible assumption) hk (by with_reducible assumption)
  all_goals first | exact q1 | (rw [q1]; with_reducible assumption) | (rw [q1]; first | exact ifz1 (by with_reducible assumption) | exact ifn1 (by with_reducible assumption) | exact ifz0 (by with_reducible assumption) | exact (ifn0 (by with_reducible assumption)).trans q2.symm | exact (ifn0 (by with_reducible assumption)).trans q3.symm) | rw [q4]
def loadR_r (n : Nat) (B : Nat → Int) : AV := .tup [.agg [.int .i64 (ifz (loadE n B) (B 4)), .int .i64 (ifz (loadE n B) (B 5)), ints .i64 (ifn (loadE n B) (3 * (B 4 * B 5)).toNat) (lightB B), ints .i64 (ifn (loadE n B) (B 4 * B 5).toNat) (shotB B (B 4 * B 5).toNat)], .int .i64 (loadE n B)]
def loadR_p (n : Nat) (B : Nat → Int) : Prop := n ≤ 1000000 ∧ U8s B
def loadR_k : Con Try.prog := ⟨8, fun args => match args with | [.sl n 1 g_B] => .ok (some (IsI .u8 g_B ∧ loadR_p n (intF g_B))) (loadR_r n (intF g_B)) | _ => .no, by
  intro args p r h hp
  split at h
  · cases h; obtain ⟨h_B, hp⟩ := hp; have e_B := h_B.eq; rw [e_B]; exact loadR_a _ _ hp
  · cases h⟩
end Go.Proofs.Ytehjhfifldefiaa
