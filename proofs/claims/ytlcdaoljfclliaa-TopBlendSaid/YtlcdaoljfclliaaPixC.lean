/- Ways to blend. -/
import Derived.Test.YtlcdaoljfclliaaPixB
namespace Go.Proofs.Ytlcdaoljfclliaa
open Go.RowKit Ev
set_option linter.unusedVariables false
set_option linter.unusedSimpArgs false
set_option maxRecDepth 20000
set_option maxHeartbeats 4000000

@[irreducible] def tX (k : Int) : Int := if k = 1 then 1 else if k = 3 then 1 else if k = 4 then 3 else if k = 5 then 2 else if k = 7 then 3 else if k = 9 then 2 else if k = 10 then 3 else if k = 11 then 3 else if k = 12 then 1 else 0
@[irreducible] def tY (k : Int) : Int := if k = 2 then 1 else if k = 3 then 3 else if k = 4 then 1 else if k = 6 then 2 else if k = 8 then 3 else if k = 9 then 3 else if k = 10 then 2 else if k = 11 then 3 else if k = 12 then 1 else 0
@[irreducible] def termV (h n c : Int) : Int := if h = 1 then n else if h = 2 then partV n c else if h = 3 then n - partV n c else 0
theorem termV0 (n c : Int) : termV 0 n c = 0 := by unfold termV; rfl
theorem termV1 (n c : Int) : termV 1 n c = n := by unfold termV; rfl
theorem termV2 (n c : Int) : termV 2 n c = partV n c := by unfold termV; rfl
theorem termV3 (n c : Int) : termV 3 n c = n - partV n c := by unfold termV; rfl
theorem termV_bd (h : Int) {n c : Int} (hn : 0 ≤ n ∧ n < 256) (hc : 0 ≤ c ∧ c < 256) : 0 ≤ termV h n c ∧ termV h n c < 256 := by
  have := partV_bd hn hc
  unfold termV
  repeat' split
  all_goals omega
/-- A byte of two pixels. -/
@[irreducible] def mx (k a b c d : Int) : Int := addV (termV (tX k) a d) (termV (tY k) b c)
theorem mx_bd (k : Int) {a b c d : Int} (ha : 0 ≤ a ∧ a < 256) (hb : 0 ≤ b ∧ b < 256) (hc : 0 ≤ c ∧ c < 256) (hd : 0 ≤ d ∧ d < 256) : 0 ≤ mx k a b c d ∧ mx k a b c d < 256 := by
  unfold mx
  exact addV_bd (termV_bd _ ha hd).1 (termV_bd _ hb hc).1
theorem addV_l {a : Int} (h : a < 256) : addV a 0 = a := by unfold addV; split <;> omega
theorem addV_r {a : Int} (h : a < 256) : addV 0 a = a := by unfold addV; split <;> omega
theorem addV_c (a b : Int) : addV a b = addV b a := by unfold addV; rw [Int.add_comm]
theorem mx0 (a b c d : Int) : mx 0 a b c d = addV (termV 0 a d) (termV 0 b c) := by unfold mx tX tY; rfl
theorem mx1 (a b c d : Int) : mx 1 a b c d = addV (termV 1 a d) (termV 0 b c) := by unfold mx tX tY; rfl
theorem mx2 (a b c d : Int) : mx 2 a b c d = addV (termV 0 a d) (termV 1 b c) := by unfold mx tX tY; rfl
theorem mx3 (a b c d : Int) : mx 3 a b c d = addV (termV 1 a d) (termV 3 b c) := by unfold mx tX tY; rfl
theorem mx4 (a b c d : Int) : mx 4 a b c d = addV (termV 3 a d) (termV 1 b c) := by unfold mx tX tY; rfl
theorem mx5 (a b c d : Int) : mx 5 a b c d = addV (termV 2 a d) (termV 0 b c) := by unfold mx tX tY; rfl
theorem mx6 (a b c d : Int) : mx 6 a b c d = addV (termV 0 a d) (termV 2 b c) := by unfold mx tX tY; rfl
theorem mx7 (a b c d : Int) : mx 7 a b c d = addV (termV 3 a d) (termV 0 b c) := by unfold mx tX tY; rfl
theorem mx8 (a b c d : Int) : mx 8 a b c d = addV (termV 0 a d) (termV 3 b c) := by unfold mx tX tY; rfl
theorem mx9 (a b c d : Int) : mx 9 a b c d = addV (termV 2 a d) (termV 3 b c) := by unfold mx tX tY; rfl
theorem mx10 (a b c d : Int) : mx 10 a b c d = addV (termV 3 a d) (termV 2 b c) := by unfold mx tX tY; rfl
theorem mx11 (a b c d : Int) : mx 11 a b c d = addV (termV 3 a d) (termV 3 b c) := by unfold mx tX tY; rfl
theorem mx12 (a b c d : Int) : mx 12 a b c d = addV (termV 1 a d) (termV 1 b c) := by unfold mx tX tY; rfl
theorem terms_f : FnOk Try.prog 39 Try.f39 := ⟨Try.func39, by kernel_rfl⟩
theorem terms_a (k : Int) : ACalls Try.prog 39 [.int .i64 k] (.tup [.int .i64 (tX k), .int .i64 (tY k)]) := by
  refine acalls_of (inl := hasI (P := Try.prog) [] []) (base [] [] []) 0 terms_f (And.intro (by kernel_rfl) ?_)
  repeat' (first | refine And.intro ?_ ?_ | (with_reducible exact ff_elim) | (with_reducible exact tf_elim) | refine num_elim ?_ | intro _ | (with_reducible rfl) | ((with_reducible refine lk_t ?_); exact rfl) | refine tell ?_ | exact True.intro | (refine IsT.of ?_; kernel_rfl))
  all_goals (try refine Tell.mk ?_)
  all_goals first | with_reducible rfl | with_reducible exact isI_mk | with_reducible assumption | (with_reducible refine gb_t ?_; with_reducible assumption) | (with_reducible refine gb_f ?_; with_reducible assumption) | ((with_reducible refine lk_t ?_); rfl) | ((with_reducible refine okF_t ?_); kernel_rfl) | ((with_reducible refine ks_t ?_); rfl) | ((with_reducible refine pk_t ?_); rfl) | skip
  all_goals (try dsimp only at *)
  all_goals (try simp only [decide_eq_true_eq, decide_eq_false_iff_not, Bool.or_eq_true, Bool.or_eq_false_iff, Bool.and_eq_true, Bool.and_eq_false_iff, Bool.not_eq_true', Bool.not_eq_false', bne_iff_ne, ne_eq, beq_iff_eq, bne_eq_false_iff_eq, beq_eq_false_iff_ne, Int.not_lt, Int.not_le, gt_iff_lt, ge_iff_le] at *)
  all_goals (try simp only [mulN1, Nat.add_zero, Nat.zero_add, Nat.mul_one, Int.toNat_natCast, avInt_int] at *)
  all_goals first | with_reducible rfl | with_reducible exact nums_N | omega | ((with_reducible refine by_le 1 rfl ?_); omega) | ((with_reducible refine by_le 8 rfl ?_); omega) | (rw [wrapI (by omega) (by omega)] <;> omega) | skip
  all_goals (first | unfold tX | unfold tY)
  all_goals first | (simp [*]; done)
def terms_k : Con Try.prog := ⟨39, fun args => match args with | [.int .i64 k] => .ok (none) (.tup [.int .i64 (tX k), .int .i64 (tY k)]) | _ => .no, by
  intro args p r h hp
  split at h
  · cases h; exact terms_a _
  · cases h⟩
theorem term_f : FnOk Try.prog 40 Try.f40 := ⟨Try.func40, by kernel_rfl⟩
theorem term_a (h n c : Int) (hpre : (0 ≤ n ∧ n < 256) ∧ (0 ≤ c ∧ c < 256)) : ACalls Try.prog 40 [.int .i64 h, .int .u8 n, .int .u8 c] (.int .i64 (termV h n c)) := by
  refine acalls_of (inl := hasI (P := Try.prog) [] []) (base [partR_k] [] []) 0 term_f (And.intro (by kernel_rfl) ?_)
  repeat' (first | refine And.intro ?_ ?_ | (with_reducible exact ff_elim) | (with_reducible exact tf_elim) | refine num_elim ?_ | intro _ | (with_reducible rfl) | ((with_reducible refine lk_t ?_); exact rfl) | refine tell ?_ | exact True.intro | (refine IsT.of ?_; kernel_rfl))
  all_goals (try refine Tell.mk ?_)
  all_goals first | with_reducible rfl | with_reducible exact isI_mk | with_reducible assumption | (with_reducible refine gb_t ?_; with_reducible assumption) | (with_reducible refine gb_f ?_; with_reducible assumption) | ((with_reducible refine lk_t ?_); rfl) | ((with_reducible refine okF_t ?_); kernel_rfl) | ((with_reducible refine ks_t ?_); rfl) | ((with_reducible refine pk_t ?_); rfl) | skip
  all_goals (try dsimp only at *)
  all_goals (try simp only [decide_eq_true_eq, decide_eq_false_iff_not, Bool.or_eq_true, Bool.or_eq_false_iff, Bool.and_eq_true, Bool.and_eq_false_iff, Bool.not_eq_true', Bool.not_eq_false', bne_iff_ne, ne_eq, beq_iff_eq, bne_eq_false_iff_eq, beq_eq_false_iff_ne, Int.not_lt, Int.not_le, gt_iff_lt, ge_iff_le] at *)
  all_goals (try simp only [mulN1, Nat.add_zero, Nat.zero_add, Nat.mul_one, Int.toNat_natCast, avInt_int] at *)
  all_goals first | with_reducible rfl | with_reducible exact nums_N | omega | ((with_reducible refine by_le 1 rfl ?_); omega) | ((with_reducible refine by_le 8 rfl ?_); omega) | (rw [wrapI (by omega) (by omega)] <;> omega) | skip
  all_goals (have hb := partV_bd hpre.1 hpre.2)
  all_goals (unfold termV; first | (rw [if_pos (by omega), wrapI (by omega) (by omega)]; done) | (rw [if_neg (by omega), if_pos (by omega), wrapI (by omega) (by omega)]; done) | (rw [if_neg (by omega), if_neg (by omega), if_pos (by omega), wrapI (x := n) (by omega) (by omega), wrapI (x := partV n c) (by omega) (by omega), wrapI (by omega) (by omega)]; done) | (rw [if_neg (by omega), if_neg (by omega), if_neg (by omega)]; done))
def term_k : Con Try.prog := ⟨40, fun args => match args with | [.int .i64 h, .int .u8 n, .int .u8 c] => .ok (some ((0 ≤ n ∧ n < 256) ∧ (0 ≤ c ∧ c < 256))) (.int .i64 (termV h n c)) | _ => .no, by
  intro args p r h hp
  split at h
  · cases h; exact term_a _ _ _ hp
  · cases h⟩
theorem w0_f : FnOk Try.prog 41 Try.f41 := ⟨Try.func41, by kernel_rfl⟩
theorem w0_a (a0 a1 a2 a3 b0 b1 b2 b3 : Int) (hpre : ((0 ≤ a0 ∧ a0 < 256) ∧ (0 ≤ a1 ∧ a1 < 256) ∧ (0 ≤ a2 ∧ a2 < 256) ∧ (0 ≤ a3 ∧ a3 < 256)) ∧ ((0 ≤ b0 ∧ b0 < 256) ∧ (0 ≤ b1 ∧ b1 < 256) ∧ (0 ≤ b2 ∧ b2 < 256) ∧ (0 ≤ b3 ∧ b3 < 256))) : ACalls Try.prog 41 [.agg [.int .u8 a0, .int .u8 a1, .int .u8 a2, .int .u8 a3], .agg [.int .u8 b0, .int .u8 b1, .int .u8 b2, .int .u8 b3]] (.agg [.int .u8 (mx 0 a0 b0 a3 b3), .int .u8 (mx 0 a1 b1 a3 b3), .int .u8 (mx 0 a2 b2 a3 b3), .int .u8 (mx 0 a3 b3 a3 b3)]) := by
  refine acalls_of (inl := hasI (P := Try.prog) [] []) (base [] [] []) 0 w0_f (And.intro (by kernel_rfl) ?_)
  obtain ⟨⟨p0, p1, p2, p3⟩, q0, q1, q2, q3⟩ := hpre
  repeat' (first | refine And.intro ?_ ?_ | (with_reducible exact ff_elim) | (with_reducible exact tf_elim) | refine num_elim ?_ | intro _ | (with_reducible rfl) | ((with_reducible refine lk_t ?_); exact rfl) | refine tell ?_ | exact True.intro | (refine IsT.of ?_; kernel_rfl))
  all_goals (try refine Tell.mk ?_)
  all_goals first | with_reducible rfl | with_reducible exact isI_mk | with_reducible assumption | (with_reducible refine gb_t ?_; with_reducible assumption) | (with_reducible refine gb_f ?_; with_reducible assumption) | ((with_reducible refine lk_t ?_); rfl) | ((with_reducible refine okF_t ?_); kernel_rfl) | ((with_reducible refine ks_t ?_); rfl) | ((with_reducible refine pk_t ?_); rfl) | skip
  all_goals (try dsimp only at *)
  all_goals (try simp only [decide_eq_true_eq, decide_eq_false_iff_not, Bool.or_eq_true, Bool.or_eq_false_iff, Bool.and_eq_true, Bool.and_eq_false_iff, Bool.not_eq_true', Bool.not_eq_false', bne_iff_ne, ne_eq, beq_iff_eq, bne_eq_false_iff_eq, beq_eq_false_iff_ne, Int.not_lt, Int.not_le, gt_iff_lt, ge_iff_le] at *)
  all_goals (try simp only [mulN1, Nat.add_zero, Nat.zero_add, Nat.mul_one, Int.toNat_natCast, avInt_int] at *)
  all_goals first | with_reducible rfl | with_reducible exact nums_N | omega | ((with_reducible refine by_le 1 rfl ?_); omega) | ((with_reducible refine by_le 8 rfl ?_); omega) | (rw [wrapI (by omega) (by omega)] <;> omega) | skip
  all_goals (have u0 := partV_bd p0 q3; have u1 := partV_bd p1 q3; have u2 := partV_bd p2 q3; have u3 := partV_bd p3 q3; have v0 := partV_bd q0 p3; have v1 := partV_bd q1 p3; have v2 := partV_bd q2 p3; have v3 := partV_bd q3 p3)
  all_goals first | omega | (simp only [mx0, mx1, mx2, mx3, mx4, mx5, mx6, mx7, mx8, mx9, mx10, mx11, mx12, termV0, termV1, termV2, termV3]; first | done | (rw [addV_l (by omega)]; done) | (rw [addV_r (by omega)]; done) | exact addV_c _ _)
def w0_k : Con Try.prog := ⟨41, fun args => match args with | [.agg [.int .u8 a0, .int .u8 a1, .int .u8 a2, .int .u8 a3], .agg [.int .u8 b0, .int .u8 b1, .int .u8 b2, .int .u8 b3]] => .ok (some (((0 ≤ a0 ∧ a0 < 256) ∧ (0 ≤ a1 ∧ a1 < 256) ∧ (0 ≤ a2 ∧ a2 < 256) ∧ (0 ≤ a3 ∧ a3 < 256)) ∧ ((0 ≤ b0 ∧ b0 < 256) ∧ (0 ≤ b1 ∧ b1 < 256) ∧ (0 ≤ b2 ∧ b2 < 256) ∧ (0 ≤ b3 ∧ b3 < 256)))) (.agg [.int .u8 (mx 0 a0 b0 a3 b3), .int .u8 (mx 0 a1 b1 a3 b3), .int .u8 (mx 0 a2 b2 a3 b3), .int .u8 (mx 0 a3 b3 a3 b3)]) | _ => .no, by
  intro args p r h hp
  split at h
  · cases h; exact w0_a _ _ _ _ _ _ _ _ hp
  · cases h⟩
theorem w1_f : FnOk Try.prog 42 Try.f42 := ⟨Try.func42, by kernel_rfl⟩
theorem w1_a (a0 a1 a2 a3 b0 b1 b2 b3 : Int) (hpre : ((0 ≤ a0 ∧ a0 < 256) ∧ (0 ≤ a1 ∧ a1 < 256) ∧ (0 ≤ a2 ∧ a2 < 256) ∧ (0 ≤ a3 ∧ a3 < 256)) ∧ ((0 ≤ b0 ∧ b0 < 256) ∧ (0 ≤ b1 ∧ b1 < 256) ∧ (0 ≤ b2 ∧ b2 < 256) ∧ (0 ≤ b3 ∧ b3 < 256))) : ACalls Try.prog 42 [.agg [.int .u8 a0, .int .u8 a1, .int .u8 a2, .int .u8 a3], .agg [.int .u8 b0, .int .u8 b1, .int .u8 b2, .int .u8 b3]] (.agg [.int .u8 (mx 1 a0 b0 a3 b3), .int .u8 (mx 1 a1 b1 a3 b3), .int .u8 (mx 1 a2 b2 a3 b3), .int .u8 (mx 1 a3 b3 a3 b3)]) := by
  refine acalls_of (inl := hasI (P := Try.prog) [] []) (base [] [] []) 0 w1_f (And.intro (by kernel_rfl) ?_)
  obtain ⟨⟨p0, p1, p2, p3⟩, q0, q1, q2, q3⟩ := hpre
  repeat' (first | refine And.intro ?_ ?_ | (with_reducible exact ff_elim) | (with_reducible exact tf_elim) | refine num_elim ?_ | intro _ | (with_reducible rfl) | ((with_reducible refine lk_t ?_); exact rfl) | refine tell ?_ | exact True.intro | (refine IsT.of ?_; kernel_rfl))
  all_goals (try refine Tell.mk ?_)
  all_goals first | with_reducible rfl | with_reducible exact isI_mk | with_reducible assumption | (with_reducible refine gb_t ?_; with_reducible assumption) | (with_reducible refine gb_f ?_; with_reducible assumption) | ((with_reducible refine lk_t ?_); rfl) | ((with_reducible refine okF_t ?_); kernel_rfl) | ((with_reducible refine ks_t ?_); rfl) | ((with_reducible refine pk_t ?_); rfl) | skip
  all_goals (try dsimp only at *)
  all_goals (try simp only [decide_eq_true_eq, decide_eq_false_iff_not, Bool.or_eq_true, Bool.or_eq_false_iff, Bool.and_eq_true, Bool.and_eq_false_iff, Bool.not_eq_true', Bool.not_eq_false', bne_iff_ne, ne_eq, beq_iff_eq, bne_eq_false_iff_eq, beq_eq_false_iff_ne, Int.not_lt, Int.not_le, gt_iff_lt, ge_iff_le] at *)
  all_goals (try simp only [mulN1, Nat.add_zero, Nat.zero_add, Nat.mul_one, Int.toNat_natCast, avInt_int] at *)
  all_goals first | with_reducible rfl | with_reducible exact nums_N | omega | ((with_reducible refine by_le 1 rfl ?_); omega) | ((with_reducible refine by_le 8 rfl ?_); omega) | (rw [wrapI (by omega) (by omega)] <;> omega) | skip
  all_goals (have u0 := partV_bd p0 q3; have u1 := partV_bd p1 q3; have u2 := partV_bd p2 q3; have u3 := partV_bd p3 q3; have v0 := partV_bd q0 p3; have v1 := partV_bd q1 p3; have v2 := partV_bd q2 p3; have v3 := partV_bd q3 p3)
  all_goals first | omega | (simp only [mx0, mx1, mx2, mx3, mx4, mx5, mx6, mx7, mx8, mx9, mx10, mx11, mx12, termV0, termV1, termV2, termV3]; first | done | (rw [addV_l (by omega)]; done) | (rw [addV_r (by omega)]; done) | exact addV_c _ _)
def w1_k : Con Try.prog := ⟨42, fun args => match args with | [.agg [.int .u8 a0, .int .u8 a1, .int .u8 a2, .int .u8 a3], .agg [.int .u8 b0, .int .u8 b1, .int .u8 b2, .int .u8 b3]] => .ok (some (((0 ≤ a0 ∧ a0 < 256) ∧ (0 ≤ a1 ∧ a1 < 256) ∧ (0 ≤ a2 ∧ a2 < 256) ∧ (0 ≤ a3 ∧ a3 < 256)) ∧ ((0 ≤ b0 ∧ b0 < 256) ∧ (0 ≤ b1 ∧ b1 < 256) ∧ (0 ≤ b2 ∧ b2 < 256) ∧ (0 ≤ b3 ∧ b3 < 256)))) (.agg [.int .u8 (mx 1 a0 b0 a3 b3), .int .u8 (mx 1 a1 b1 a3 b3), .int .u8 (mx 1 a2 b2 a3 b3), .int .u8 (mx 1 a3 b3 a3 b3)]) | _ => .no, by
  intro args p r h hp
  split at h
  · cases h; exact w1_a _ _ _ _ _ _ _ _ hp
  · cases h⟩
theorem w2_f : FnOk Try.prog 43 Try.f43 := ⟨Try.func43, by kernel_rfl⟩
theorem w2_a (a0 a1 a2 a3 b0 b1 b2 b3 : Int) (hpre : ((0 ≤ a0 ∧ a0 < 256) ∧ (0 ≤ a1 ∧ a1 < 256) ∧ (0 ≤ a2 ∧ a2 < 256) ∧ (0 ≤ a3 ∧ a3 < 256)) ∧ ((0 ≤ b0 ∧ b0 < 256) ∧ (0 ≤ b1 ∧ b1 < 256) ∧ (0 ≤ b2 ∧ b2 < 256) ∧ (0 ≤ b3 ∧ b3 < 256))) : ACalls Try.prog 43 [.agg [.int .u8 a0, .int .u8 a1, .int .u8 a2, .int .u8 a3], .agg [.int .u8 b0, .int .u8 b1, .int .u8 b2, .int .u8 b3]] (.agg [.int .u8 (mx 2 a0 b0 a3 b3), .int .u8 (mx 2 a1 b1 a3 b3), .int .u8 (mx 2 a2 b2 a3 b3), .int .u8 (mx 2 a3 b3 a3 b3)]) := by
  refine acalls_of (inl := hasI (P := Try.prog) [] []) (base [] [] []) 0 w2_f (And.intro (by kernel_rfl) ?_)
  obtain ⟨⟨p0, p1, p2, p3⟩, q0, q1, q2, q3⟩ := hpre
  repeat' (first | refine And.intro ?_ ?_ | (with_reducible exact ff_elim) | (with_reducible exact tf_elim) | refine num_elim ?_ | intro _ | (with_reducible rfl) | ((with_reducible refine lk_t ?_); exact rfl) | refine tell ?_ | exact True.intro | (refine IsT.of ?_; kernel_rfl))
  all_goals (try refine Tell.mk ?_)
  all_goals first | with_reducible rfl | with_reducible exact isI_mk | with_reducible assumption | (with_reducible refine gb_t ?_; with_reducible assumption) | (with_reducible refine gb_f ?_; with_reducible assumption) | ((with_reducible refine lk_t ?_); rfl) | ((with_reducible refine okF_t ?_); kernel_rfl) | ((with_reducible refine ks_t ?_); rfl) | ((with_reducible refine pk_t ?_); rfl) | skip
  all_goals (try dsimp only at *)
  all_goals (try simp only [decide_eq_true_eq, decide_eq_false_iff_not, Bool.or_eq_true, Bool.or_eq_false_iff, Bool.and_eq_true, Bool.and_eq_false_iff, Bool.not_eq_true', Bool.not_eq_false', bne_iff_ne, ne_eq, beq_iff_eq, bne_eq_false_iff_eq, beq_eq_false_iff_ne, Int.not_lt, Int.not_le, gt_iff_lt, ge_iff_le] at *)
  all_goals (try simp only [mulN1, Nat.add_zero, Nat.zero_add, Nat.mul_one, Int.toNat_natCast, avInt_int] at *)
  all_goals first | with_reducible rfl | with_reducible exact nums_N | omega | ((with_reducible refine by_le 1 rfl ?_); omega) | ((with_reducible refine by_le 8 rfl ?_); omega) | (rw [wrapI (by omega) (by omega)] <;> omega) | skip
  all_goals (have u0 := partV_bd p0 q3; have u1 := partV_bd p1 q3; have u2 := partV_bd p2 q3; have u3 := partV_bd p3 q3; have v0 := partV_bd q0 p3; have v1 := partV_bd q1 p3; have v2 := partV_bd q2 p3; have v3 := partV_bd q3 p3)
  all_goals first | omega | (simp only [mx0, mx1, mx2, mx3, mx4, mx5, mx6, mx7, mx8, mx9, mx10, mx11, mx12, termV0, termV1, termV2, termV3]; first | done | (rw [addV_l (by omega)]; done) | (rw [addV_r (by omega)]; done) | exact addV_c _ _)
def w2_k : Con Try.prog := ⟨43, fun args => match args with | [.agg [.int .u8 a0, .int .u8 a1, .int .u8 a2, .int .u8 a3], .agg [.int .u8 b0, .int .u8 b1, .int .u8 b2, .int .u8 b3]] => .ok (some (((0 ≤ a0 ∧ a0 < 256) ∧ (0 ≤ a1 ∧ a1 < 256) ∧ (0 ≤ a2 ∧ a2 < 256) ∧ (0 ≤ a3 ∧ a3 < 256)) ∧ ((0 ≤ b0 ∧ b0 < 256) ∧ (0 ≤ b1 ∧ b1 < 256) ∧ (0 ≤ b2 ∧ b2 < 256) ∧ (0 ≤ b3 ∧ b3 < 256)))) (.agg [.int .u8 (mx 2 a0 b0 a3 b3), .int .u8 (mx 2 a1 b1 a3 b3), .int .u8 (mx 2 a2 b2 a3 b3), .int .u8 (mx 2 a3 b3 a3 b3)]) | _ => .no, by
  intro args p r h hp
  split at h
  · cases h; exact w2_a _ _ _ _ _ _ _ _ hp
  · cases h⟩
theorem w3_f : FnOk Try.prog 44 Try.f44 := ⟨Try.func44, by kernel_rfl⟩
theorem w3_a (a0 a1 a2 a3 b0 b1 b2 b3 : Int) (hpre : ((0 ≤ a0 ∧ a0 < 256) ∧ (0 ≤ a1 ∧ a1 < 256) ∧ (0 ≤ a2 ∧ a2 < 256) ∧ (0 ≤ a3 ∧ a3 < 256)) ∧ ((0 ≤ b0 ∧ b0 < 256) ∧ (0 ≤ b1 ∧ b1 < 256) ∧ (0 ≤ b2 ∧ b2 < 256) ∧ (0 ≤ b3 ∧ b3 < 256))) : ACalls Try.prog 44 [.agg [.int .u8 a0, .int .u8 a1, .int .u8 a2, .int .u8 a3], .agg [.int .u8 b0, .int .u8 b1, .int .u8 b2, .int .u8 b3]] (.agg [.int .u8 (mx 3 a0 b0 a3 b3), .int .u8 (mx 3 a1 b1 a3 b3), .int .u8 (mx 3 a2 b2 a3 b3), .int .u8 (mx 3 a3 b3 a3 b3)]) := by
  refine acalls_of (inl := hasI (P := Try.prog) [] []) (base [pplus_k, pout_k] [] []) 0 w3_f (And.intro (by kernel_rfl) ?_)
  obtain ⟨⟨p0, p1, p2, p3⟩, q0, q1, q2, q3⟩ := hpre
  repeat' (first | refine And.intro ?_ ?_ | (with_reducible exact ff_elim) | (with_reducible exact tf_elim) | refine num_elim ?_ | intro _ | (with_reducible rfl) | ((with_reducible refine lk_t ?_); exact rfl) | refine tell ?_ | exact True.intro | (refine IsT.of ?_; kernel_rfl))
  all_goals (try refine Tell.mk ?_)
  all_goals first | with_reducible rfl | with_reducible exact isI_mk | with_reducible assumption | (with_reducible refine gb_t ?_; with_reducible assumption) | (with_reducible refine gb_f ?_; with_reducible assumption) | ((with_reducible refine lk_t ?_); rfl) | ((with_reducible refine okF_t ?_); kernel_rfl) | ((with_reducible refine ks_t ?_); rfl) | ((with_reducible refine pk_t ?_); rfl) | skip
  all_goals (try dsimp only at *)
  all_goals (try simp only [decide_eq_true_eq, decide_eq_false_iff_not, Bool.or_eq_true, Bool.or_eq_false_iff, Bool.and_eq_true, Bool.and_eq_false_iff, Bool.not_eq_true', Bool.not_eq_false', bne_iff_ne, ne_eq, beq_iff_eq, bne_eq_false_iff_eq, beq_eq_false_iff_ne, Int.not_lt, Int.not_le, gt_iff_lt, ge_iff_le] at *)
  all_goals (try simp only [mulN1, Nat.add_zero, Nat.zero_add, Nat.mul_one, Int.toNat_natCast, avInt_int] at *)
  all_goals first | with_reducible rfl | with_reducible exact nums_N | omega | ((with_reducible refine by_le 1 rfl ?_); omega) | ((with_reducible refine by_le 8 rfl ?_); omega) | (rw [wrapI (by omega) (by omega)] <;> omega) | skip
  all_goals (have u0 := partV_bd p0 q3; have u1 := partV_bd p1 q3; have u2 := partV_bd p2 q3; have u3 := partV_bd p3 q3; have v0 := partV_bd q0 p3; have v1 := partV_bd q1 p3; have v2 := partV_bd q2 p3; have v3 := partV_bd q3 p3)
  all_goals first | omega | (simp only [mx0, mx1, mx2, mx3, mx4, mx5, mx6, mx7, mx8, mx9, mx10, mx11, mx12, termV0, termV1, termV2, termV3]; first | done | (rw [addV_l (by omega)]; done) | (rw [addV_r (by omega)]; done) | exact addV_c _ _)
def w3_k : Con Try.prog := ⟨44, fun args => match args with | [.agg [.int .u8 a0, .int .u8 a1, .int .u8 a2, .int .u8 a3], .agg [.int .u8 b0, .int .u8 b1, .int .u8 b2, .int .u8 b3]] => .ok (some (((0 ≤ a0 ∧ a0 < 256) ∧ (0 ≤ a1 ∧ a1 < 256) ∧ (0 ≤ a2 ∧ a2 < 256) ∧ (0 ≤ a3 ∧ a3 < 256)) ∧ ((0 ≤ b0 ∧ b0 < 256) ∧ (0 ≤ b1 ∧ b1 < 256) ∧ (0 ≤ b2 ∧ b2 < 256) ∧ (0 ≤ b3 ∧ b3 < 256)))) (.agg [.int .u8 (mx 3 a0 b0 a3 b3), .int .u8 (mx 3 a1 b1 a3 b3), .int .u8 (mx 3 a2 b2 a3 b3), .int .u8 (mx 3 a3 b3 a3 b3)]) | _ => .no, by
  intro args p r h hp
  split at h
  · cases h; exact w3_a _ _ _ _ _ _ _ _ hp
  · cases h⟩
theorem w4_f : FnOk Try.prog 47 Try.f47 := ⟨Try.func47, by kernel_rfl⟩
theorem w4_a (a0 a1 a2 a3 b0 b1 b2 b3 : Int) (hpre : ((0 ≤ a0 ∧ a0 < 256) ∧ (0 ≤ a1 ∧ a1 < 256) ∧ (0 ≤ a2 ∧ a2 < 256) ∧ (0 ≤ a3 ∧ a3 < 256)) ∧ ((0 ≤ b0 ∧ b0 < 256) ∧ (0 ≤ b1 ∧ b1 < 256) ∧ (0 ≤ b2 ∧ b2 < 256) ∧ (0 ≤ b3 ∧ b3 < 256))) : ACalls Try.prog 47 [.agg [.int .u8 a0, .int .u8 a1, .int .u8 a2, .int .u8 a3], .agg [.int .u8 b0, .int .u8 b1, .int .u8 b2, .int .u8 b3]] (.agg [.int .u8 (mx 4 a0 b0 a3 b3), .int .u8 (mx 4 a1 b1 a3 b3), .int .u8 (mx 4 a2 b2 a3 b3), .int .u8 (mx 4 a3 b3 a3 b3)]) := by
  refine acalls_of (inl := hasI (P := Try.prog) [] []) (base [pplus_k, pout_k] [] []) 0 w4_f (And.intro (by kernel_rfl) ?_)
  obtain ⟨⟨p0, p1, p2, p3⟩, q0, q1, q2, q3⟩ := hpre
  repeat' (first | refine And.intro ?_ ?_ | (with_reducible exact ff_elim) | (with_reducible exact tf_elim) | refine num_elim ?_ | intro _ | (with_reducible rfl) | ((with_reducible refine lk_t ?_); exact rfl) | refine tell ?_ | exact True.intro | (refine IsT.of ?_; kernel_rfl))
  all_goals (try refine Tell.mk ?_)
  all_goals first | with_reducible rfl | with_reducible exact isI_mk | with_reducible assumption | (with_reducible refine gb_t ?_; with_reducible assumption) | (with_reducible refine gb_f ?_; with_reducible assumption) | ((with_reducible refine lk_t ?_); rfl) | ((with_reducible refine okF_t ?_); kernel_rfl) | ((with_reducible refine ks_t ?_); rfl) | ((with_reducible refine pk_t ?_); rfl) | skip
  all_goals (try dsimp only at *)
  all_goals (try simp only [decide_eq_true_eq, decide_eq_false_iff_not, Bool.or_eq_true, Bool.or_eq_false_iff, Bool.and_eq_true, Bool.and_eq_false_iff, Bool.not_eq_true', Bool.not_eq_false', bne_iff_ne, ne_eq, beq_iff_eq, bne_eq_false_iff_eq, beq_eq_false_iff_ne, Int.not_lt, Int.not_le, gt_iff_lt, ge_iff_le] at *)
  all_goals (try simp only [mulN1, Nat.add_zero, Nat.zero_add, Nat.mul_one, Int.toNat_natCast, avInt_int] at *)
  all_goals first | with_reducible rfl | with_reducible exact nums_N | omega | ((with_reducible refine by_le 1 rfl ?_); omega) | ((with_reducible refine by_le 8 rfl ?_); omega) | (rw [wrapI (by omega) (by omega)] <;> omega) | skip
  all_goals (have u0 := partV_bd p0 q3; have u1 := partV_bd p1 q3; have u2 := partV_bd p2 q3; have u3 := partV_bd p3 q3; have v0 := partV_bd q0 p3; have v1 := partV_bd q1 p3; have v2 := partV_bd q2 p3; have v3 := partV_bd q3 p3)
  all_goals first | omega | (simp only [mx0, mx1, mx2, mx3, mx4, mx5, mx6, mx7, mx8, mx9, mx10, mx11, mx12, termV0, termV1, termV2, termV3]; first | done | (rw [addV_l (by omega)]; done) | (rw [addV_r (by omega)]; done) | exact addV_c _ _)
def w4_k : Con Try.prog := ⟨47, fun args => match args with | [.agg [.int .u8 a0, .int .u8 a1, .int .u8 a2, .int .u8 a3], .agg [.int .u8 b0, .int .u8 b1, .int .u8 b2, .int .u8 b3]] => .ok (some (((0 ≤ a0 ∧ a0 < 256) ∧ (0 ≤ a1 ∧ a1 < 256) ∧ (0 ≤ a2 ∧ a2 < 256) ∧ (0 ≤ a3 ∧ a3 < 256)) ∧ ((0 ≤ b0 ∧ b0 < 256) ∧ (0 ≤ b1 ∧ b1 < 256) ∧ (0 ≤ b2 ∧ b2 < 256) ∧ (0 ≤ b3 ∧ b3 < 256)))) (.agg [.int .u8 (mx 4 a0 b0 a3 b3), .int .u8 (mx 4 a1 b1 a3 b3), .int .u8 (mx 4 a2 b2 a3 b3), .int .u8 (mx 4 a3 b3 a3 b3)]) | _ => .no, by
  intro args p r h hp
  split at h
  · cases h; exact w4_a _ _ _ _ _ _ _ _ hp
  · cases h⟩
theorem w5_f : FnOk Try.prog 48 Try.f48 := ⟨Try.func48, by kernel_rfl⟩
theorem w5_a (a0 a1 a2 a3 b0 b1 b2 b3 : Int) (hpre : ((0 ≤ a0 ∧ a0 < 256) ∧ (0 ≤ a1 ∧ a1 < 256) ∧ (0 ≤ a2 ∧ a2 < 256) ∧ (0 ≤ a3 ∧ a3 < 256)) ∧ ((0 ≤ b0 ∧ b0 < 256) ∧ (0 ≤ b1 ∧ b1 < 256) ∧ (0 ≤ b2 ∧ b2 < 256) ∧ (0 ≤ b3 ∧ b3 < 256))) : ACalls Try.prog 48 [.agg [.int .u8 a0, .int .u8 a1, .int .u8 a2, .int .u8 a3], .agg [.int .u8 b0, .int .u8 b1, .int .u8 b2, .int .u8 b3]] (.agg [.int .u8 (mx 5 a0 b0 a3 b3), .int .u8 (mx 5 a1 b1 a3 b3), .int .u8 (mx 5 a2 b2 a3 b3), .int .u8 (mx 5 a3 b3 a3 b3)]) := by
  refine acalls_of (inl := hasI (P := Try.prog) [] []) (base [pin_k] [] []) 0 w5_f (And.intro (by kernel_rfl) ?_)
  obtain ⟨⟨p0, p1, p2, p3⟩, q0, q1, q2, q3⟩ := hpre
  repeat' (first | refine And.intro ?_ ?_ | (with_reducible exact ff_elim) | (with_reducible exact tf_elim) | refine num_elim ?_ | intro _ | (with_reducible rfl) | ((with_reducible refine lk_t ?_); exact rfl) | refine tell ?_ | exact True.intro | (refine IsT.of ?_; kernel_rfl))
  all_goals (try refine Tell.mk ?_)
  all_goals first | with_reducible rfl | with_reducible exact isI_mk | with_reducible assumption | (with_reducible refine gb_t ?_; with_reducible assumption) | (with_reducible refine gb_f ?_; with_reducible assumption) | ((with_reducible refine lk_t ?_); rfl) | ((with_reducible refine okF_t ?_); kernel_rfl) | ((with_reducible refine ks_t ?_); rfl) | ((with_reducible refine pk_t ?_); rfl) | skip
  all_goals (try dsimp only at *)
  all_goals (try simp only [decide_eq_true_eq, decide_eq_false_iff_not, Bool.or_eq_true, Bool.or_eq_false_iff, Bool.and_eq_true, Bool.and_eq_false_iff, Bool.not_eq_true', Bool.not_eq_false', bne_iff_ne, ne_eq, beq_iff_eq, bne_eq_false_iff_eq, beq_eq_false_iff_ne, Int.not_lt, Int.not_le, gt_iff_lt, ge_iff_le] at *)
  all_goals (try simp only [mulN1, Nat.add_zero, Nat.zero_add, Nat.mul_one, Int.toNat_natCast, avInt_int] at *)
  all_goals first | with_reducible rfl | with_reducible exact nums_N | omega | ((with_reducible refine by_le 1 rfl ?_); omega) | ((with_reducible refine by_le 8 rfl ?_); omega) | (rw [wrapI (by omega) (by omega)] <;> omega) | skip
  all_goals (have u0 := partV_bd p0 q3; have u1 := partV_bd p1 q3; have u2 := partV_bd p2 q3; have u3 := partV_bd p3 q3; have v0 := partV_bd q0 p3; have v1 := partV_bd q1 p3; have v2 := partV_bd q2 p3; have v3 := partV_bd q3 p3)
  all_goals first | omega | (simp only [mx0, mx1, mx2, mx3, mx4, mx5, mx6, mx7, mx8, mx9, mx10, mx11, mx12, termV0, termV1, termV2, termV3]; first | done | (rw [addV_l (by omega)]; done) | (rw [addV_r (by omega)]; done) | exact addV_c _ _)
def w5_k : Con Try.prog := ⟨48, fun args => match args with | [.agg [.int .u8 a0, .int .u8 a1, .int .u8 a2, .int .u8 a3], .agg [.int .u8 b0, .int .u8 b1, .int .u8 b2, .int .u8 b3]] => .ok (some (((0 ≤ a0 ∧ a0 < 256) ∧ (0 ≤ a1 ∧ a1 < 256) ∧ (0 ≤ a2 ∧ a2 < 256) ∧ (0 ≤ a3 ∧ a3 < 256)) ∧ ((0 ≤ b0 ∧ b0 < 256) ∧ (0 ≤ b1 ∧ b1 < 256) ∧ (0 ≤ b2 ∧ b2 < 256) ∧ (0 ≤ b3 ∧ b3 < 256)))) (.agg [.int .u8 (mx 5 a0 b0 a3 b3), .int .u8 (mx 5 a1 b1 a3 b3), .int .u8 (mx 5 a2 b2 a3 b3), .int .u8 (mx 5 a3 b3 a3 b3)]) | _ => .no, by
  intro args p r h hp
  split at h
  · cases h; exact w5_a _ _ _ _ _ _ _ _ hp
  · cases h⟩
theorem w6_f : FnOk Try.prog 50 Try.f50 := ⟨Try.func50, by kernel_rfl⟩
theorem w6_a (a0 a1 a2 a3 b0 b1 b2 b3 : Int) (hpre : ((0 ≤ a0 ∧ a0 < 256) ∧ (0 ≤ a1 ∧ a1 < 256) ∧ (0 ≤ a2 ∧ a2 < 256) ∧ (0 ≤ a3 ∧ a3 < 256)) ∧ ((0 ≤ b0 ∧ b0 < 256) ∧ (0 ≤ b1 ∧ b1 < 256) ∧ (0 ≤ b2 ∧ b2 < 256) ∧ (0 ≤ b3 ∧ b3 < 256))) : ACalls Try.prog 50 [.agg [.int .u8 a0, .int .u8 a1, .int .u8 a2, .int .u8 a3], .agg [.int .u8 b0, .int .u8 b1, .int .u8 b2, .int .u8 b3]] (.agg [.int .u8 (mx 6 a0 b0 a3 b3), .int .u8 (mx 6 a1 b1 a3 b3), .int .u8 (mx 6 a2 b2 a3 b3), .int .u8 (mx 6 a3 b3 a3 b3)]) := by
  refine acalls_of (inl := hasI (P := Try.prog) [] []) (base [pin_k] [] []) 0 w6_f (And.intro (by kernel_rfl) ?_)
  obtain ⟨⟨p0, p1, p2, p3⟩, q0, q1, q2, q3⟩ := hpre
  repeat' (first | refine And.intro ?_ ?_ | (with_reducible exact ff_elim) | (with_reducible exact tf_elim) | refine num_elim ?_ | intro _ | (with_reducible rfl) | ((with_reducible refine lk_t ?_); exact rfl) | refine tell ?_ | exact True.intro | (refine IsT.of ?_; kernel_rfl))
  all_goals (try refine Tell.mk ?_)
  all_goals first | with_reducible rfl | with_reducible exact isI_mk | with_reducible assumption | (with_reducible refine gb_t ?_; with_reducible assumption) | (with_reducible refine gb_f ?_; with_reducible assumption) | ((with_reducible refine lk_t ?_); rfl) | ((with_reducible refine okF_t ?_); kernel_rfl) | ((with_reducible refine ks_t ?_); rfl) | ((with_reducible refine pk_t ?_); rfl) | skip
  all_goals (try dsimp only at *)
  all_goals (try simp only [decide_eq_true_eq, decide_eq_false_iff_not, Bool.or_eq_true, Bool.or_eq_false_iff, Bool.and_eq_true, Bool.and_eq_false_iff, Bool.not_eq_true', Bool.not_eq_false', bne_iff_ne, ne_eq, beq_iff_eq, bne_eq_false_iff_eq, beq_eq_false_iff_ne, Int.not_lt, Int.not_le, gt_iff_lt, ge_iff_le] at *)
  all_goals (try simp only [mulN1, Nat.add_zero, Nat.zero_add, Nat.mul_one, Int.toNat_natCast, avInt_int] at *)
  all_goals first | with_reducible rfl | with_reducible exact nums_N | omega | ((with_reducible refine by_le 1 rfl ?_); omega) | ((with_reducible refine by_le 8 rfl ?_); omega) | (rw [wrapI (by omega) (by omega)] <;> omega) | skip
  all_goals (have u0 := partV_bd p0 q3; have u1 := partV_bd p1 q3; have u2 := partV_bd p2 q3; have u3 := partV_bd p3 q3; have v0 := partV_bd q0 p3; have v1 := partV_bd q1 p3; have v2 := partV_bd q2 p3; have v3 := partV_bd q3 p3)
  all_goals first | omega | (simp only [mx0, mx1, mx2, mx3, mx4, mx5, mx6, mx7, mx8, mx9, mx10, mx11, mx12, termV0, termV1, termV2, termV3]; first | done | (rw [addV_l (by omega)]; done) | (rw [addV_r (by omega)]; done) | exact addV_c _ _)
def w6_k : Con Try.prog := ⟨50, fun args => match args with | [.agg [.int .u8 a0, .int .u8 a1, .int .u8 a2, .int .u8 a3], .agg [.int .u8 b0, .int .u8 b1, .int .u8 b2, .int .u8 b3]] => .ok (some (((0 ≤ a0 ∧ a0 < 256) ∧ (0 ≤ a1 ∧ a1 < 256) ∧ (0 ≤ a2 ∧ a2 < 256) ∧ (0 ≤ a3 ∧ a3 < 256)) ∧ ((0 ≤ b0 ∧ b0 < 256) ∧ (0 ≤ b1 ∧ b1 < 256) ∧ (0 ≤ b2 ∧ b2 < 256) ∧ (0 ≤ b3 ∧ b3 < 256)))) (.agg [.int .u8 (mx 6 a0 b0 a3 b3), .int .u8 (mx 6 a1 b1 a3 b3), .int .u8 (mx 6 a2 b2 a3 b3), .int .u8 (mx 6 a3 b3 a3 b3)]) | _ => .no, by
  intro args p r h hp
  split at h
  · cases h; exact w6_a _ _ _ _ _ _ _ _ hp
  · cases h⟩
theorem w7_f : FnOk Try.prog 51 Try.f51 := ⟨Try.func51, by kernel_rfl⟩
theorem w7_a (a0 a1 a2 a3 b0 b1 b2 b3 : Int) (hpre : ((0 ≤ a0 ∧ a0 < 256) ∧ (0 ≤ a1 ∧ a1 < 256) ∧ (0 ≤ a2 ∧ a2 < 256) ∧ (0 ≤ a3 ∧ a3 < 256)) ∧ ((0 ≤ b0 ∧ b0 < 256) ∧ (0 ≤ b1 ∧ b1 < 256) ∧ (0 ≤ b2 ∧ b2 < 256) ∧ (0 ≤ b3 ∧ b3 < 256))) : ACalls Try.prog 51 [.agg [.int .u8 a0, .int .u8 a1, .int .u8 a2, .int .u8 a3], .agg [.int .u8 b0, .int .u8 b1, .int .u8 b2, .int .u8 b3]] (.agg [.int .u8 (mx 7 a0 b0 a3 b3), .int .u8 (mx 7 a1 b1 a3 b3), .int .u8 (mx 7 a2 b2 a3 b3), .int .u8 (mx 7 a3 b3 a3 b3)]) := by
  refine acalls_of (inl := hasI (P := Try.prog) [] []) (base [pout_k] [] []) 0 w7_f (And.intro (by kernel_rfl) ?_)
  obtain ⟨⟨p0, p1, p2, p3⟩, q0, q1, q2, q3⟩ := hpre
  repeat' (first | refine And.intro ?_ ?_ | (with_reducible exact ff_elim) | (with_reducible exact tf_elim) | refine num_elim ?_ | intro _ | (with_reducible rfl) | ((with_reducible refine lk_t ?_); exact rfl) | refine tell ?_ | exact True.intro | (refine IsT.of ?_; kernel_rfl))
  all_goals (try refine Tell.mk ?_)
  all_goals first | with_reducible rfl | with_reducible exact isI_mk | with_reducible assumption | (with_reducible refine gb_t ?_; with_reducible assumption) | (with_reducible refine gb_f ?_; with_reducible assumption) | ((with_reducible refine lk_t ?_); rfl) | ((with_reducible refine okF_t ?_); kernel_rfl) | ((with_reducible refine ks_t ?_); rfl) | ((with_reducible refine pk_t ?_); rfl) | skip
  all_goals (try dsimp only at *)
  all_goals (try simp only [decide_eq_true_eq, decide_eq_false_iff_not, Bool.or_eq_true, Bool.or_eq_false_iff, Bool.and_eq_true, Bool.and_eq_false_iff, Bool.not_eq_true', Bool.not_eq_false', bne_iff_ne, ne_eq, beq_iff_eq, bne_eq_false_iff_eq, beq_eq_false_iff_ne, Int.not_lt, Int.not_le, gt_iff_lt, ge_iff_le] at *)
  all_goals (try simp only [mulN1, Nat.add_zero, Nat.zero_add, Nat.mul_one, Int.toNat_natCast, avInt_int] at *)
  all_goals first | with_reducible rfl | with_reducible exact nums_N | omega | ((with_reducible refine by_le 1 rfl ?_); omega) | ((with_reducible refine by_le 8 rfl ?_); omega) | (rw [wrapI (by omega) (by omega)] <;> omega) | skip
  all_goals (have u0 := partV_bd p0 q3; have u1 := partV_bd p1 q3; have u2 := partV_bd p2 q3; have u3 := partV_bd p3 q3; have v0 := partV_bd q0 p3; have v1 := partV_bd q1 p3; have v2 := partV_bd q2 p3; have v3 := partV_bd q3 p3)
  all_goals first | omega | (simp only [mx0, mx1, mx2, mx3, mx4, mx5, mx6, mx7, mx8, mx9, mx10, mx11, mx12, termV0, termV1, termV2, termV3]; first | done | (rw [addV_l (by omega)]; done) | (rw [addV_r (by omega)]; done) | exact addV_c _ _)
def w7_k : Con Try.prog := ⟨51, fun args => match args with | [.agg [.int .u8 a0, .int .u8 a1, .int .u8 a2, .int .u8 a3], .agg [.int .u8 b0, .int .u8 b1, .int .u8 b2, .int .u8 b3]] => .ok (some (((0 ≤ a0 ∧ a0 < 256) ∧ (0 ≤ a1 ∧ a1 < 256) ∧ (0 ≤ a2 ∧ a2 < 256) ∧ (0 ≤ a3 ∧ a3 < 256)) ∧ ((0 ≤ b0 ∧ b0 < 256) ∧ (0 ≤ b1 ∧ b1 < 256) ∧ (0 ≤ b2 ∧ b2 < 256) ∧ (0 ≤ b3 ∧ b3 < 256)))) (.agg [.int .u8 (mx 7 a0 b0 a3 b3), .int .u8 (mx 7 a1 b1 a3 b3), .int .u8 (mx 7 a2 b2 a3 b3), .int .u8 (mx 7 a3 b3 a3 b3)]) | _ => .no, by
  intro args p r h hp
  split at h
  · cases h; exact w7_a _ _ _ _ _ _ _ _ hp
  · cases h⟩
theorem w8_f : FnOk Try.prog 52 Try.f52 := ⟨Try.func52, by kernel_rfl⟩
theorem w8_a (a0 a1 a2 a3 b0 b1 b2 b3 : Int) (hpre : ((0 ≤ a0 ∧ a0 < 256) ∧ (0 ≤ a1 ∧ a1 < 256) ∧ (0 ≤ a2 ∧ a2 < 256) ∧ (0 ≤ a3 ∧ a3 < 256)) ∧ ((0 ≤ b0 ∧ b0 < 256) ∧ (0 ≤ b1 ∧ b1 < 256) ∧ (0 ≤ b2 ∧ b2 < 256) ∧ (0 ≤ b3 ∧ b3 < 256))) : ACalls Try.prog 52 [.agg [.int .u8 a0, .int .u8 a1, .int .u8 a2, .int .u8 a3], .agg [.int .u8 b0, .int .u8 b1, .int .u8 b2, .int .u8 b3]] (.agg [.int .u8 (mx 8 a0 b0 a3 b3), .int .u8 (mx 8 a1 b1 a3 b3), .int .u8 (mx 8 a2 b2 a3 b3), .int .u8 (mx 8 a3 b3 a3 b3)]) := by
  refine acalls_of (inl := hasI (P := Try.prog) [] []) (base [pout_k] [] []) 0 w8_f (And.intro (by kernel_rfl) ?_)
  obtain ⟨⟨p0, p1, p2, p3⟩, q0, q1, q2, q3⟩ := hpre
  repeat' (first | refine And.intro ?_ ?_ | (with_reducible exact ff_elim) | (with_reducible exact tf_elim) | refine num_elim ?_ | intro _ | (with_reducible rfl) | ((with_reducible refine lk_t ?_); exact rfl) | refine tell ?_ | exact True.intro | (refine IsT.of ?_; kernel_rfl))
  all_goals (try refine Tell.mk ?_)
  all_goals first | with_reducible rfl | with_reducible exact isI_mk | with_reducible assumption | (with_reducible refine gb_t ?_; with_reducible assumption) | (with_reducible refine gb_f ?_; with_reducible assumption) | ((with_reducible refine lk_t ?_); rfl) | ((with_reducible refine okF_t ?_); kernel_rfl) | ((with_reducible refine ks_t ?_); rfl) | ((with_reducible refine pk_t ?_); rfl) | skip
  all_goals (try dsimp only at *)
  all_goals (try simp only [decide_eq_true_eq, decide_eq_false_iff_not, Bool.or_eq_true, Bool.or_eq_false_iff, Bool.and_eq_true, Bool.and_eq_false_iff, Bool.not_eq_true', Bool.not_eq_false', bne_iff_ne, ne_eq, beq_iff_eq, bne_eq_false_iff_eq, beq_eq_false_iff_ne, Int.not_lt, Int.not_le, gt_iff_lt, ge_iff_le] at *)
  all_goals (try simp only [mulN1, Nat.add_zero, Nat.zero_add, Nat.mul_one, Int.toNat_natCast, avInt_int] at *)
  all_goals first | with_reducible rfl | with_reducible exact nums_N | omega | ((with_reducible refine by_le 1 rfl ?_); omega) | ((with_reducible refine by_le 8 rfl ?_); omega) | (rw [wrapI (by omega) (by omega)] <;> omega) | skip
  all_goals (have u0 := partV_bd p0 q3; have u1 := partV_bd p1 q3; have u2 := partV_bd p2 q3; have u3 := partV_bd p3 q3; have v0 := partV_bd q0 p3; have v1 := partV_bd q1 p3; have v2 := partV_bd q2 p3; have v3 := partV_bd q3 p3)
  all_goals first | omega | (simp only [mx0, mx1, mx2, mx3, mx4, mx5, mx6, mx7, mx8, mx9, mx10, mx11, mx12, termV0, termV1, termV2, termV3]; first | done | (rw [addV_l (by omega)]; done) | (rw [addV_r (by omega)]; done) | exact addV_c _ _)
def w8_k : Con Try.prog := ⟨52, fun args => match args with | [.agg [.int .u8 a0, .int .u8 a1, .int .u8 a2, .int .u8 a3], .agg [.int .u8 b0, .int .u8 b1, .int .u8 b2, .int .u8 b3]] => .ok (some (((0 ≤ a0 ∧ a0 < 256) ∧ (0 ≤ a1 ∧ a1 < 256) ∧ (0 ≤ a2 ∧ a2 < 256) ∧ (0 ≤ a3 ∧ a3 < 256)) ∧ ((0 ≤ b0 ∧ b0 < 256) ∧ (0 ≤ b1 ∧ b1 < 256) ∧ (0 ≤ b2 ∧ b2 < 256) ∧ (0 ≤ b3 ∧ b3 < 256)))) (.agg [.int .u8 (mx 8 a0 b0 a3 b3), .int .u8 (mx 8 a1 b1 a3 b3), .int .u8 (mx 8 a2 b2 a3 b3), .int .u8 (mx 8 a3 b3 a3 b3)]) | _ => .no, by
  intro args p r h hp
  split at h
  · cases h; exact w8_a _ _ _ _ _ _ _ _ hp
  · cases h⟩
theorem w9_f : FnOk Try.prog 53 Try.f53 := ⟨Try.func53, by kernel_rfl⟩
theorem w9_a (a0 a1 a2 a3 b0 b1 b2 b3 : Int) (hpre : ((0 ≤ a0 ∧ a0 < 256) ∧ (0 ≤ a1 ∧ a1 < 256) ∧ (0 ≤ a2 ∧ a2 < 256) ∧ (0 ≤ a3 ∧ a3 < 256)) ∧ ((0 ≤ b0 ∧ b0 < 256) ∧ (0 ≤ b1 ∧ b1 < 256) ∧ (0 ≤ b2 ∧ b2 < 256) ∧ (0 ≤ b3 ∧ b3 < 256))) : ACalls Try.prog 53 [.agg [.int .u8 a0, .int .u8 a1, .int .u8 a2, .int .u8 a3], .agg [.int .u8 b0, .int .u8 b1, .int .u8 b2, .int .u8 b3]] (.agg [.int .u8 (mx 9 a0 b0 a3 b3), .int .u8 (mx 9 a1 b1 a3 b3), .int .u8 (mx 9 a2 b2 a3 b3), .int .u8 (mx 9 a3 b3 a3 b3)]) := by
  refine acalls_of (inl := hasI (P := Try.prog) [] []) (base [pplus_k, pin_k, pout_k] [] []) 0 w9_f (And.intro (by kernel_rfl) ?_)
  obtain ⟨⟨p0, p1, p2, p3⟩, q0, q1, q2, q3⟩ := hpre
  repeat' (first | refine And.intro ?_ ?_ | (with_reducible exact ff_elim) | (with_reducible exact tf_elim) | refine num_elim ?_ | intro _ | (with_reducible rfl) | ((with_reducible refine lk_t ?_); exact rfl) | refine tell ?_ | exact True.intro | (refine IsT.of ?_; kernel_rfl))
  all_goals (try refine Tell.mk ?_)
  all_goals first | with_reducible rfl | with_reducible exact isI_mk | with_reducible assumption | (with_reducible refine gb_t ?_; with_reducible assumption) | (with_reducible refine gb_f ?_; with_reducible assumption) | ((with_reducible refine lk_t ?_); rfl) | ((with_reducible refine okF_t ?_); kernel_rfl) | ((with_reducible refine ks_t ?_); rfl) | ((with_reducible refine pk_t ?_); rfl) | skip
  all_goals (try dsimp only at *)
  all_goals (try simp only [decide_eq_true_eq, decide_eq_false_iff_not, Bool.or_eq_true, Bool.or_eq_false_iff, Bool.and_eq_true, Bool.and_eq_false_iff, Bool.not_eq_true', Bool.not_eq_false', bne_iff_ne, ne_eq, beq_iff_eq, bne_eq_false_iff_eq, beq_eq_false_iff_ne, Int.not_lt, Int.not_le, gt_iff_lt, ge_iff_le] at *)
  all_goals (try simp only [mulN1, Nat.add_zero, Nat.zero_add, Nat.mul_one, Int.toNat_natCast, avInt_int] at *)
  all_goals first | with_reducible rfl | with_reducible exact nums_N | omega | ((with_reducible refine by_le 1 rfl ?_); omega) | ((with_reducible refine by_le 8 rfl ?_); omega) | (rw [wrapI (by omega) (by omega)] <;> omega) | skip
  all_goals (have u0 := partV_bd p0 q3; have u1 := partV_bd p1 q3; have u2 := partV_bd p2 q3; have u3 := partV_bd p3 q3; have v0 := partV_bd q0 p3; have v1 := partV_bd q1 p3; have v2 := partV_bd q2 p3; have v3 := partV_bd q3 p3)
  all_goals first | omega | (simp only [mx0, mx1, mx2, mx3, mx4, mx5, mx6, mx7, mx8, mx9, mx10, mx11, mx12, termV0, termV1, termV2, termV3]; first | done | (rw [addV_l (by omega)]; done) | (rw [addV_r (by omega)]; done) | exact addV_c _ _)
def w9_k : Con Try.prog := ⟨53, fun args => match args with | [.agg [.int .u8 a0, .int .u8 a1, .int .u8 a2, .int .u8 a3], .agg [.int .u8 b0, .int .u8 b1, .int .u8 b2, .int .u8 b3]] => .ok (some (((0 ≤ a0 ∧ a0 < 256) ∧ (0 ≤ a1 ∧ a1 < 256) ∧ (0 ≤ a2 ∧ a2 < 256) ∧ (0 ≤ a3 ∧ a3 < 256)) ∧ ((0 ≤ b0 ∧ b0 < 256) ∧ (0 ≤ b1 ∧ b1 < 256) ∧ (0 ≤ b2 ∧ b2 < 256) ∧ (0 ≤ b3 ∧ b3 < 256)))) (.agg [.int .u8 (mx 9 a0 b0 a3 b3), .int .u8 (mx 9 a1 b1 a3 b3), .int .u8 (mx 9 a2 b2 a3 b3), .int .u8 (mx 9 a3 b3 a3 b3)]) | _ => .no, by
  intro args p r h hp
  split at h
  · cases h; exact w9_a _ _ _ _ _ _ _ _ hp
  · cases h⟩
theorem w10_f : FnOk Try.prog 54 Try.f54 := ⟨Try.func54, by kernel_rfl⟩
theorem w10_a (a0 a1 a2 a3 b0 b1 b2 b3 : Int) (hpre : ((0 ≤ a0 ∧ a0 < 256) ∧ (0 ≤ a1 ∧ a1 < 256) ∧ (0 ≤ a2 ∧ a2 < 256) ∧ (0 ≤ a3 ∧ a3 < 256)) ∧ ((0 ≤ b0 ∧ b0 < 256) ∧ (0 ≤ b1 ∧ b1 < 256) ∧ (0 ≤ b2 ∧ b2 < 256) ∧ (0 ≤ b3 ∧ b3 < 256))) : ACalls Try.prog 54 [.agg [.int .u8 a0, .int .u8 a1, .int .u8 a2, .int .u8 a3], .agg [.int .u8 b0, .int .u8 b1, .int .u8 b2, .int .u8 b3]] (.agg [.int .u8 (mx 10 a0 b0 a3 b3), .int .u8 (mx 10 a1 b1 a3 b3), .int .u8 (mx 10 a2 b2 a3 b3), .int .u8 (mx 10 a3 b3 a3 b3)]) := by
  refine acalls_of (inl := hasI (P := Try.prog) [] []) (base [pplus_k, pin_k, pout_k] [] []) 0 w10_f (And.intro (by kernel_rfl) ?_)
  obtain ⟨⟨p0, p1, p2, p3⟩, q0, q1, q2, q3⟩ := hpre
  repeat' (first | refine And.intro ?_ ?_ | (with_reducible exact ff_elim) | (with_reducible exact tf_elim) | refine num_elim ?_ | intro _ | (with_reducible rfl) | ((with_reducible refine lk_t ?_); exact rfl) | refine tell ?_ | exact True.intro | (refine IsT.of ?_; kernel_rfl))
  all_goals (try refine Tell.mk ?_)
  all_goals first | with_reducible rfl | with_reducible exact isI_mk | with_reducible assumption | (with_reducible refine gb_t ?_; with_reducible assumption) | (with_reducible refine gb_f ?_; with_reducible assumption) | ((with_reducible refine lk_t ?_); rfl) | ((with_reducible refine okF_t ?_); kernel_rfl) | ((with_reducible refine ks_t ?_); rfl) | ((with_reducible refine pk_t ?_); rfl) | skip
  all_goals (try dsimp only at *)
  all_goals (try simp only [decide_eq_true_eq, decide_eq_false_iff_not, Bool.or_eq_true, Bool.or_eq_false_iff, Bool.and_eq_true, Bool.and_eq_false_iff, Bool.not_eq_true', Bool.not_eq_false', bne_iff_ne, ne_eq, beq_iff_eq, bne_eq_false_iff_eq, beq_eq_false_iff_ne, Int.not_lt, Int.not_le, gt_iff_lt, ge_iff_le] at *)
  all_goals (try simp only [mulN1, Nat.add_zero, Nat.zero_add, Nat.mul_one, Int.toNat_natCast, avInt_int] at *)
  all_goals first | with_reducible rfl | with_reducible exact nums_N | omega | ((with_reducible refine by_le 1 rfl ?_); omega) | ((with_reducible refine by_le 8 rfl ?_); omega) | (rw [wrapI (by omega) (by omega)] <;> omega) | skip
  all_goals (have u0 := partV_bd p0 q3; have u1 := partV_bd p1 q3; have u2 := partV_bd p2 q3; have u3 := partV_bd p3 q3; have v0 := partV_bd q0 p3; have v1 := partV_bd q1 p3; have v2 := partV_bd q2 p3; have v3 := partV_bd q3 p3)
  all_goals first | omega | (simp only [mx0, mx1, mx2, mx3, mx4, mx5, mx6, mx7, mx8, mx9, mx10, mx11, mx12, termV0, termV1, termV2, termV3]; first | done | (rw [addV_l (by omega)]; done) | (rw [addV_r (by omega)]; done) | exact addV_c _ _)
def w10_k : Con Try.prog := ⟨54, fun args => match args with | [.agg [.int .u8 a0, .int .u8 a1, .int .u8 a2, .int .u8 a3], .agg [.int .u8 b0, .int .u8 b1, .int .u8 b2, .int .u8 b3]] => .ok (some (((0 ≤ a0 ∧ a0 < 256) ∧ (0 ≤ a1 ∧ a1 < 256) ∧ (0 ≤ a2 ∧ a2 < 256) ∧ (0 ≤ a3 ∧ a3 < 256)) ∧ ((0 ≤ b0 ∧ b0 < 256) ∧ (0 ≤ b1 ∧ b1 < 256) ∧ (0 ≤ b2 ∧ b2 < 256) ∧ (0 ≤ b3 ∧ b3 < 256)))) (.agg [.int .u8 (mx 10 a0 b0 a3 b3), .int .u8 (mx 10 a1 b1 a3 b3), .int .u8 (mx 10 a2 b2 a3 b3), .int .u8 (mx 10 a3 b3 a3 b3)]) | _ => .no, by
  intro args p r h hp
  split at h
  · cases h; exact w10_a _ _ _ _ _ _ _ _ hp
  · cases h⟩
theorem w11_f : FnOk Try.prog 55 Try.f55 := ⟨Try.func55, by kernel_rfl⟩
theorem w11_a (a0 a1 a2 a3 b0 b1 b2 b3 : Int) (hpre : ((0 ≤ a0 ∧ a0 < 256) ∧ (0 ≤ a1 ∧ a1 < 256) ∧ (0 ≤ a2 ∧ a2 < 256) ∧ (0 ≤ a3 ∧ a3 < 256)) ∧ ((0 ≤ b0 ∧ b0 < 256) ∧ (0 ≤ b1 ∧ b1 < 256) ∧ (0 ≤ b2 ∧ b2 < 256) ∧ (0 ≤ b3 ∧ b3 < 256))) : ACalls Try.prog 55 [.agg [.int .u8 a0, .int .u8 a1, .int .u8 a2, .int .u8 a3], .agg [.int .u8 b0, .int .u8 b1, .int .u8 b2, .int .u8 b3]] (.agg [.int .u8 (mx 11 a0 b0 a3 b3), .int .u8 (mx 11 a1 b1 a3 b3), .int .u8 (mx 11 a2 b2 a3 b3), .int .u8 (mx 11 a3 b3 a3 b3)]) := by
  refine acalls_of (inl := hasI (P := Try.prog) [] []) (base [pplus_k, pout_k] [] []) 0 w11_f (And.intro (by kernel_rfl) ?_)
  obtain ⟨⟨p0, p1, p2, p3⟩, q0, q1, q2, q3⟩ := hpre
  repeat' (first | refine And.intro ?_ ?_ | (with_reducible exact ff_elim) | (with_reducible exact tf_elim) | refine num_elim ?_ | intro _ | (with_reducible rfl) | ((with_reducible refine lk_t ?_); exact rfl) | refine tell ?_ | exact True.intro | (refine IsT.of ?_; kernel_rfl))
  all_goals (try refine Tell.mk ?_)
  all_goals first | with_reducible rfl | with_reducible exact isI_mk | with_reducible assumption | (with_reducible refine gb_t ?_; with_reducible assumption) | (with_reducible refine gb_f ?_; with_reducible assumption) | ((with_reducible refine lk_t ?_); rfl) | ((with_reducible refine okF_t ?_); kernel_rfl) | ((with_reducible refine ks_t ?_); rfl) | ((with_reducible refine pk_t ?_); rfl) | skip
  all_goals (try dsimp only at *)
  all_goals (try simp only [decide_eq_true_eq, decide_eq_false_iff_not, Bool.or_eq_true, Bool.or_eq_false_iff, Bool.and_eq_true, Bool.and_eq_false_iff, Bool.not_eq_true', Bool.not_eq_false', bne_iff_ne, ne_eq, beq_iff_eq, bne_eq_false_iff_eq, beq_eq_false_iff_ne, Int.not_lt, Int.not_le, gt_iff_lt, ge_iff_le] at *)
  all_goals (try simp only [mulN1, Nat.add_zero, Nat.zero_add, Nat.mul_one, Int.toNat_natCast, avInt_int] at *)
  all_goals first | with_reducible rfl | with_reducible exact nums_N | omega | ((with_reducible refine by_le 1 rfl ?_); omega) | ((with_reducible refine by_le 8 rfl ?_); omega) | (rw [wrapI (by omega) (by omega)] <;> omega) | skip
  all_goals (have u0 := partV_bd p0 q3; have u1 := partV_bd p1 q3; have u2 := partV_bd p2 q3; have u3 := partV_bd p3 q3; have v0 := partV_bd q0 p3; have v1 := partV_bd q1 p3; have v2 := partV_bd q2 p3; have v3 := partV_bd q3 p3)
  all_goals first | omega | (simp only [mx0, mx1, mx2, mx3, mx4, mx5, mx6, mx7, mx8, mx9, mx10, mx11, mx12, termV0, termV1, termV2, termV3]; first | done | (rw [addV_l (by omega)]; done) | (rw [addV_r (by omega)]; done) | exact addV_c _ _)
def w11_k : Con Try.prog := ⟨55, fun args => match args with | [.agg [.int .u8 a0, .int .u8 a1, .int .u8 a2, .int .u8 a3], .agg [.int .u8 b0, .int .u8 b1, .int .u8 b2, .int .u8 b3]] => .ok (some (((0 ≤ a0 ∧ a0 < 256) ∧ (0 ≤ a1 ∧ a1 < 256) ∧ (0 ≤ a2 ∧ a2 < 256) ∧ (0 ≤ a3 ∧ a3 < 256)) ∧ ((0 ≤ b0 ∧ b0 < 256) ∧ (0 ≤ b1 ∧ b1 < 256) ∧ (0 ≤ b2 ∧ b2 < 256) ∧ (0 ≤ b3 ∧ b3 < 256)))) (.agg [.int .u8 (mx 11 a0 b0 a3 b3), .int .u8 (mx 11 a1 b1 a3 b3), .int .u8 (mx 11 a2 b2 a3 b3), .int .u8 (mx 11 a3 b3 a3 b3)]) | _ => .no, by
  intro args p r h hp
  split at h
  · cases h; exact w11_a _ _ _ _ _ _ _ _ hp
  · cases h⟩
theorem w12_f : FnOk Try.prog 45 Try.f45 := ⟨Try.func45, by kernel_rfl⟩
theorem w12_a (a0 a1 a2 a3 b0 b1 b2 b3 : Int) (hpre : ((0 ≤ a0 ∧ a0 < 256) ∧ (0 ≤ a1 ∧ a1 < 256) ∧ (0 ≤ a2 ∧ a2 < 256) ∧ (0 ≤ a3 ∧ a3 < 256)) ∧ ((0 ≤ b0 ∧ b0 < 256) ∧ (0 ≤ b1 ∧ b1 < 256) ∧ (0 ≤ b2 ∧ b2 < 256) ∧ (0 ≤ b3 ∧ b3 < 256))) : ACalls Try.prog 45 [.agg [.int .u8 a0, .int .u8 a1, .int .u8 a2, .int .u8 a3], .agg [.int .u8 b0, .int .u8 b1, .int .u8 b2, .int .u8 b3]] (.agg [.int .u8 (mx 12 a0 b0 a3 b3), .int .u8 (mx 12 a1 b1 a3 b3), .int .u8 (mx 12 a2 b2 a3 b3), .int .u8 (mx 12 a3 b3 a3 b3)]) := by
  refine acalls_of (inl := hasI (P := Try.prog) [] []) (base [sum8_k] [] []) 0 w12_f (And.intro (by kernel_rfl) ?_)
  obtain ⟨⟨p0, p1, p2, p3⟩, q0, q1, q2, q3⟩ := hpre
  repeat' (first | refine And.intro ?_ ?_ | refine num_lit 0 (by decide) ?_ | refine num_lit 1 (by decide) ?_ | refine num_lit 2 (by decide) ?_ | refine num_lit 3 (by decide) ?_ | refine num_lit 4 (by decide) ?_ | refine num_lit 5 (by decide) ?_ | refine num_lit 6 (by decide) ?_ | refine num_lit 7 (by decide) ?_ | refine num_lit 8 (by decide) ?_ | refine num_elim ?_ | (with_reducible exact ff_elim) | (with_reducible exact tf_elim) | (intro h; exact absurd h (by decide)) | intro _ | (with_reducible rfl) | refine Or.inl ⟨5, ?_⟩ | refine tell ?_ | exact True.intro | (refine IsT.of ?_; kernel_rfl))
  all_goals (try refine Tell.mk ?_)
  all_goals first | with_reducible rfl | with_reducible exact isI_mk | with_reducible assumption | (with_reducible refine gb_t ?_; with_reducible assumption) | (with_reducible refine gb_f ?_; with_reducible assumption) | ((with_reducible refine lk_t ?_); rfl) | ((with_reducible refine okF_t ?_); kernel_rfl) | ((with_reducible refine ks_t ?_); rfl) | ((with_reducible refine pk_t ?_); rfl) | skip
  all_goals (try dsimp only at *)
  all_goals (try simp only [decide_eq_true_eq, decide_eq_false_iff_not, Bool.or_eq_true, Bool.or_eq_false_iff, Bool.and_eq_true, Bool.and_eq_false_iff, Bool.not_eq_true', Bool.not_eq_false', bne_iff_ne, ne_eq, beq_iff_eq, bne_eq_false_iff_eq, beq_eq_false_iff_ne, Int.not_lt, Int.not_le, gt_iff_lt, ge_iff_le] at *)
  all_goals (try simp only [mulN1, Nat.add_zero, Nat.zero_add, Nat.mul_one, Int.toNat_natCast, avInt_int] at *)
  all_goals first | with_reducible rfl | with_reducible exact nums_N | omega | ((with_reducible refine by_le 1 rfl ?_); omega) | ((with_reducible refine by_le 8 rfl ?_); omega) | (rw [wrapI (by omega) (by omega)] <;> omega) | skip
  all_goals (have u0 := partV_bd p0 q3; have u1 := partV_bd p1 q3; have u2 := partV_bd p2 q3; have u3 := partV_bd p3 q3; have v0 := partV_bd q0 p3; have v1 := partV_bd q1 p3; have v2 := partV_bd q2 p3; have v3 := partV_bd q3 p3)
  all_goals first | omega | (simp only [mx0, mx1, mx2, mx3, mx4, mx5, mx6, mx7, mx8, mx9, mx10, mx11, mx12, termV0, termV1, termV2, termV3]; first | done | (rw [addV_l (by omega)]; done) | (rw [addV_r (by omega)]; done) | exact addV_c _ _)
def w12_k : Con Try.prog := ⟨45, fun args => match args with | [.agg [.int .u8 a0, .int .u8 a1, .int .u8 a2, .int .u8 a3], .agg [.int .u8 b0, .int .u8 b1, .int .u8 b2, .int .u8 b3]] => .ok (some (((0 ≤ a0 ∧ a0 < 256) ∧ (0 ≤ a1 ∧ a1 < 256) ∧ (0 ≤ a2 ∧ a2 < 256) ∧ (0 ≤ a3 ∧ a3 < 256)) ∧ ((0 ≤ b0 ∧ b0 < 256) ∧ (0 ≤ b1 ∧ b1 < 256) ∧ (0 ≤ b2 ∧ b2 < 256) ∧ (0 ≤ b3 ∧ b3 < 256)))) (.agg [.int .u8 (mx 12 a0 b0 a3 b3), .int .u8 (mx 12 a1 b1 a3 b3), .int .u8 (mx 12 a2 b2 a3 b3), .int .u8 (mx 12 a3 b3 a3 b3)]) | _ => .no, by
  intro args p r h hp
  split at h
  · cases h; exact w12_a _ _ _ _ _ _ _ _ hp
  · cases h⟩
end Go.Proofs.Ytlcdaoljfclliaa
