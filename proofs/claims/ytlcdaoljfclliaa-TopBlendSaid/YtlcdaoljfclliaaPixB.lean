/- Parts of pixels; ways to blend. -/
import Derived.Test.YtlcdaoljfclliaaPixA
namespace Go.Proofs.Ytlcdaoljfclliaa
open Go.RowKit Ev
set_option linter.unusedVariables false
set_option linter.unusedSimpArgs false
set_option maxRecDepth 20000
set_option maxHeartbeats 4000000

@[irreducible] def partV (n o : Int) : Int := (n * o + 127) / 255
theorem partV_bd {n o : Int} (hn : 0 ≤ n ∧ n < 256) (ho : 0 ≤ o ∧ o < 256) : 0 ≤ partV n o ∧ partV n o ≤ n := by
  have h0 : 0 ≤ n * o := Int.mul_nonneg hn.1 ho.1
  have h1 : n * o ≤ n * 255 := Int.mul_le_mul_of_nonneg_left (by omega) hn.1
  unfold partV
  omega
theorem part_go {n o : Int} (hn : 0 ≤ n ∧ n < 256) (ho : 0 ≤ o ∧ o < 256) : IntKind.u8.wrap (IntKind.i64.wrap ((IntKind.i64.wrap (IntKind.i64.wrap (IntKind.i64.wrap n * IntKind.i64.wrap o) + 127)).tdiv 255)) = partV n o := by
  have h0 : 0 ≤ n * o := Int.mul_nonneg hn.1 ho.1
  have h1 : n * o ≤ n * 255 := Int.mul_le_mul_of_nonneg_left (by omega) hn.1
  have hb := partV_bd hn ho
  rw [wrapI (x := n) (by omega) (by omega), wrapI (x := o) (by omega) (by omega), wrapI (x := n * o) (by omega) (by omega), wrapI (x := n * o + 127) (by omega) (by omega), Int.tdiv_eq_ediv_of_nonneg (by omega)]
  have e : (n * o + 127) / 255 = partV n o := by unfold partV; rfl
  rw [e, wrapI (by omega) (by omega), wrapU8 (by omega) (by omega)]
theorem part_f : FnOk Try.prog 25 Try.f25 := ⟨Try.func25, by kernel_rfl⟩
theorem part_a (n o : Int) (hpre : (0 ≤ n ∧ n < 256) ∧ (0 ≤ o ∧ o < 256)) : ACalls Try.prog 25 [.int .u8 n, .int .u8 o] (.int .u8 (partV n o)) := by
  refine acalls_of (inl := hasI (P := Try.prog) [] []) (base [] [] []) 0 part_f (And.intro (by kernel_rfl) ?_)
  repeat' (first | refine And.intro ?_ ?_ | (with_reducible exact ff_elim) | (with_reducible exact tf_elim) | refine num_elim ?_ | intro _ | (with_reducible rfl) | ((with_reducible refine lk_t ?_); exact rfl) | refine tell ?_ | exact True.intro | (refine IsT.of ?_; kernel_rfl))
  all_goals (try refine Tell.mk ?_)
  all_goals first | exact (part_go hpre.1 hpre.2) | exact (part_go hpre.1 hpre.2).symm | omega
def part_k : Con Try.prog := ⟨25, fun args => match args with | [.int .u8 n, .int .u8 o] => .ok (some ((0 ≤ n ∧ n < 256) ∧ (0 ≤ o ∧ o < 256))) (.int .u8 (partV n o)) | _ => .no, by
  intro args p r h hp
  split at h
  · cases h; exact part_a _ _ hp
  · cases h⟩
theorem partR_f : FnOk Try.prog 26 Try.f26 := ⟨Try.func26, by kernel_rfl⟩
theorem partR_a (n o : Int) (hpre : (0 ≤ n ∧ n < 256) ∧ (0 ≤ o ∧ o < 256)) : ACalls Try.prog 26 [.int .u8 n, .int .u8 o] (.int .u8 (partV n o)) := by
  refine acalls_of (inl := hasI (P := Try.prog) [] []) (base [] [] []) 0 partR_f (And.intro (by kernel_rfl) ?_)
  repeat' (first | refine And.intro ?_ ?_ | (with_reducible exact ff_elim) | (with_reducible exact tf_elim) | refine num_elim ?_ | intro _ | (with_reducible rfl) | ((with_reducible refine lk_t ?_); exact rfl) | refine tell ?_ | exact True.intro | (refine IsT.of ?_; kernel_rfl))
  all_goals (try refine Tell.mk ?_)
  all_goals first | exact (part_go hpre.1 hpre.2) | exact (part_go hpre.1 hpre.2).symm | omega
def partR_k : Con Try.prog := ⟨26, fun args => match args with | [.int .u8 n, .int .u8 o] => .ok (some ((0 ≤ n ∧ n < 256) ∧ (0 ≤ o ∧ o < 256))) (.int .u8 (partV n o)) | _ => .no, by
  intro args p r h hp
  split at h
  · cases h; exact partR_a _ _ hp
  · cases h⟩
theorem rest_f : FnOk Try.prog 57 Try.f57 := ⟨Try.func57, by kernel_rfl⟩
theorem rest_a (n o : Int) (hpre : (0 ≤ n ∧ n < 256) ∧ (0 ≤ o ∧ o < 256)) : ACalls Try.prog 57 [.int .u8 n, .int .u8 o] (.int .u8 (n - partV n o)) := by
  refine acalls_of (inl := hasI (P := Try.prog) [] []) (base [part_k] [] []) 0 rest_f (And.intro (by kernel_rfl) ?_)
  repeat' (first | refine And.intro ?_ ?_ | (with_reducible exact ff_elim) | (with_reducible exact tf_elim) | refine num_elim ?_ | intro _ | (with_reducible rfl) | ((with_reducible refine lk_t ?_); exact rfl) | refine tell ?_ | exact True.intro | (refine IsT.of ?_; kernel_rfl))
  all_goals (try refine Tell.mk ?_)
  all_goals first | with_reducible rfl | with_reducible exact isI_mk | with_reducible assumption | (with_reducible refine gb_t ?_; with_reducible assumption) | (with_reducible refine gb_f ?_; with_reducible assumption) | ((with_reducible refine lk_t ?_); rfl) | ((with_reducible refine okF_t ?_); kernel_rfl) | ((with_reducible refine ks_t ?_); rfl) | ((with_reducible refine pk_t ?_); rfl) | skip
  all_goals (try dsimp only at *)
  all_goals (try simp only [decide_eq_true_eq, decide_eq_false_iff_not, Bool.or_eq_true, Bool.or_eq_false_iff, Bool.and_eq_true, Bool.and_eq_false_iff, Bool.not_eq_true', Bool.not_eq_false', bne_iff_ne, ne_eq, beq_iff_eq, bne_eq_false_iff_eq, beq_eq_false_iff_ne, Int.not_lt, Int.not_le, gt_iff_lt, ge_iff_le] at *)
  all_goals (try simp only [mulN1, Nat.add_zero, Nat.zero_add, Nat.mul_one, Int.toNat_natCast, avInt_int] at *)
  all_goals first | with_reducible rfl | with_reducible exact nums_N | omega | ((with_reducible refine by_le 1 rfl ?_); omega) | ((with_reducible refine by_le 8 rfl ?_); omega) | (rw [wrapI (by omega) (by omega)] <;> omega) | skip
  all_goals (have hb := partV_bd hpre.1 hpre.2)
  all_goals first | omega | (rw [wrapU8 (by omega) (by omega)]; done)
def rest_k : Con Try.prog := ⟨57, fun args => match args with | [.int .u8 n, .int .u8 o] => .ok (some ((0 ≤ n ∧ n < 256) ∧ (0 ≤ o ∧ o < 256))) (.int .u8 (n - partV n o)) | _ => .no, by
  intro args p r h hp
  split at h
  · cases h; exact rest_a _ _ hp
  · cases h⟩
@[irreducible] def addV (a b : Int) : Int := if a + b < 255 then a + b else 255
theorem addV_bd {a b : Int} (ha : 0 ≤ a) (hb : 0 ≤ b) : 0 ≤ addV a b ∧ addV a b < 256 := by unfold addV; split <;> omega
theorem sum8_f : FnOk Try.prog 56 Try.f56 := ⟨Try.func56, by kernel_rfl⟩
theorem sum8_a (a b : Int) (hpre : (0 ≤ a ∧ a < 256) ∧ (0 ≤ b ∧ b < 256)) : ACalls Try.prog 56 [.int .u8 a, .int .u8 b] (.int .u8 (addV a b)) := by
  refine acalls_of (inl := hasI (P := Try.prog) [] []) (base [] [] []) 0 sum8_f (And.intro (by kernel_rfl) ?_)
  repeat' (first | refine And.intro ?_ ?_ | (with_reducible exact ff_elim) | (with_reducible exact tf_elim) | refine num_elim ?_ | intro _ | (with_reducible rfl) | ((with_reducible refine lk_t ?_); exact rfl) | refine tell ?_ | exact True.intro | (refine IsT.of ?_; kernel_rfl))
  all_goals (try refine Tell.mk ?_)
  all_goals first | with_reducible rfl | with_reducible exact isI_mk | with_reducible assumption | (with_reducible refine gb_t ?_; with_reducible assumption) | (with_reducible refine gb_f ?_; with_reducible assumption) | ((with_reducible refine lk_t ?_); rfl) | ((with_reducible refine okF_t ?_); kernel_rfl) | ((with_reducible refine ks_t ?_); rfl) | ((with_reducible refine pk_t ?_); rfl) | skip
  all_goals (try dsimp only at *)
  all_goals (try simp only [decide_eq_true_eq, decide_eq_false_iff_not, Bool.or_eq_true, Bool.or_eq_false_iff, Bool.and_eq_true, Bool.and_eq_false_iff, Bool.not_eq_true', Bool.not_eq_false', bne_iff_ne, ne_eq, beq_iff_eq, bne_eq_false_iff_eq, beq_eq_false_iff_ne, Int.not_lt, Int.not_le, gt_iff_lt, ge_iff_le] at *)
  all_goals (try simp only [mulN1, Nat.add_zero, Nat.zero_add, Nat.mul_one, Int.toNat_natCast, avInt_int] at *)
  all_goals first | with_reducible rfl | with_reducible exact nums_N | omega | ((with_reducible refine by_le 1 rfl ?_); omega) | ((with_reducible refine by_le 8 rfl ?_); omega) | (rw [wrapI (by omega) (by omega)] <;> omega) | skip
  all_goals (rw [wrapI (x := a) (by omega) (by omega), wrapI (x := b) (by omega) (by omega), wrapI (by omega) (by omega)]; unfold addV; split <;> rw [wrapU8 (by omega) (by omega)])
def sum8_k : Con Try.prog := ⟨56, fun args => match args with | [.int .u8 a, .int .u8 b] => .ok (some ((0 ≤ a ∧ a < 256) ∧ (0 ≤ b ∧ b < 256))) (.int .u8 (addV a b)) | _ => .no, by
  intro args p r h hp
  split at h
  · cases h; exact sum8_a _ _ hp
  · cases h⟩
theorem pin_f : FnOk Try.prog 49 Try.f49 := ⟨Try.func49, by kernel_rfl⟩
theorem pin_a (a0 a1 a2 a3 o : Int) (hpre : ((0 ≤ a0 ∧ a0 < 256) ∧ (0 ≤ a1 ∧ a1 < 256) ∧ (0 ≤ a2 ∧ a2 < 256) ∧ (0 ≤ a3 ∧ a3 < 256)) ∧ (0 ≤ o ∧ o < 256)) : ACalls Try.prog 49 [.agg [.int .u8 a0, .int .u8 a1, .int .u8 a2, .int .u8 a3], .int .u8 o] (.agg [.int .u8 (partV a0 o), .int .u8 (partV a1 o), .int .u8 (partV a2 o), .int .u8 (partV a3 o)]) := by
  refine acalls_of (inl := hasI (P := Try.prog) [] []) (base [part_k] [] []) 0 pin_f (And.intro (by kernel_rfl) ?_)
  repeat' (first | refine And.intro ?_ ?_ | refine num_lit 0 (by decide) ?_ | refine num_lit 1 (by decide) ?_ | refine num_lit 2 (by decide) ?_ | refine num_lit 3 (by decide) ?_ | refine num_lit 4 (by decide) ?_ | refine num_lit 5 (by decide) ?_ | refine num_lit 6 (by decide) ?_ | refine num_lit 7 (by decide) ?_ | refine num_lit 8 (by decide) ?_ | refine num_elim ?_ | (with_reducible exact ff_elim) | (with_reducible exact tf_elim) | (intro h; exact absurd h (by decide)) | intro _ | (with_reducible rfl) | refine Or.inl ⟨5, ?_⟩ | refine tell ?_ | exact True.intro | (refine IsT.of ?_; kernel_rfl))
  all_goals (try refine Tell.mk ?_)
  all_goals first | with_reducible rfl | with_reducible exact isI_mk | with_reducible assumption | (with_reducible refine gb_t ?_; with_reducible assumption) | (with_reducible refine gb_f ?_; with_reducible assumption) | ((with_reducible refine lk_t ?_); rfl) | ((with_reducible refine okF_t ?_); kernel_rfl) | ((with_reducible refine ks_t ?_); rfl) | ((with_reducible refine pk_t ?_); rfl) | skip
  all_goals (try dsimp only at *)
  all_goals (try simp only [decide_eq_true_eq, decide_eq_false_iff_not, Bool.or_eq_true, Bool.or_eq_false_iff, Bool.and_eq_true, Bool.and_eq_false_iff, Bool.not_eq_true', Bool.not_eq_false', bne_iff_ne, ne_eq, beq_iff_eq, bne_eq_false_iff_eq, beq_eq_false_iff_ne, Int.not_lt, Int.not_le, gt_iff_lt, ge_iff_le] at *)
  all_goals (try simp only [mulN1, Nat.add_zero, Nat.zero_add, Nat.mul_one, Int.toNat_natCast, avInt_int] at *)
  all_goals first | with_reducible rfl | with_reducible exact nums_N | omega | ((with_reducible refine by_le 1 rfl ?_); omega) | ((with_reducible refine by_le 8 rfl ?_); omega) | (rw [wrapI (by omega) (by omega)] <;> omega) | skip
def pin_k : Con Try.prog := ⟨49, fun args => match args with | [.agg [.int .u8 a0, .int .u8 a1, .int .u8 a2, .int .u8 a3], .int .u8 o] => .ok (some (((0 ≤ a0 ∧ a0 < 256) ∧ (0 ≤ a1 ∧ a1 < 256) ∧ (0 ≤ a2 ∧ a2 < 256) ∧ (0 ≤ a3 ∧ a3 < 256)) ∧ (0 ≤ o ∧ o < 256))) (.agg [.int .u8 (partV a0 o), .int .u8 (partV a1 o), .int .u8 (partV a2 o), .int .u8 (partV a3 o)]) | _ => .no, by
  intro args p r h hp
  split at h
  · cases h; exact pin_a _ _ _ _ _ hp
  · cases h⟩
theorem pout_f : FnOk Try.prog 46 Try.f46 := ⟨Try.func46, by kernel_rfl⟩
theorem pout_a (a0 a1 a2 a3 o : Int) (hpre : ((0 ≤ a0 ∧ a0 < 256) ∧ (0 ≤ a1 ∧ a1 < 256) ∧ (0 ≤ a2 ∧ a2 < 256) ∧ (0 ≤ a3 ∧ a3 < 256)) ∧ (0 ≤ o ∧ o < 256)) : ACalls Try.prog 46 [.agg [.int .u8 a0, .int .u8 a1, .int .u8 a2, .int .u8 a3], .int .u8 o] (.agg [.int .u8 (a0 - partV a0 o), .int .u8 (a1 - partV a1 o), .int .u8 (a2 - partV a2 o), .int .u8 (a3 - partV a3 o)]) := by
  refine acalls_of (inl := hasI (P := Try.prog) [] []) (base [rest_k] [] []) 0 pout_f (And.intro (by kernel_rfl) ?_)
  repeat' (first | refine And.intro ?_ ?_ | refine num_lit 0 (by decide) ?_ | refine num_lit 1 (by decide) ?_ | refine num_lit 2 (by decide) ?_ | refine num_lit 3 (by decide) ?_ | refine num_lit 4 (by decide) ?_ | refine num_lit 5 (by decide) ?_ | refine num_lit 6 (by decide) ?_ | refine num_lit 7 (by decide) ?_ | refine num_lit 8 (by decide) ?_ | refine num_elim ?_ | (with_reducible exact ff_elim) | (with_reducible exact tf_elim) | (intro h; exact absurd h (by decide)) | intro _ | (with_reducible rfl) | refine Or.inl ⟨5, ?_⟩ | refine tell ?_ | exact True.intro | (refine IsT.of ?_; kernel_rfl))
  all_goals (try refine Tell.mk ?_)
  all_goals first | with_reducible rfl | with_reducible exact isI_mk | with_reducible assumption | (with_reducible refine gb_t ?_; with_reducible assumption) | (with_reducible refine gb_f ?_; with_reducible assumption) | ((with_reducible refine lk_t ?_); rfl) | ((with_reducible refine okF_t ?_); kernel_rfl) | ((with_reducible refine ks_t ?_); rfl) | ((with_reducible refine pk_t ?_); rfl) | skip
  all_goals (try dsimp only at *)
  all_goals (try simp only [decide_eq_true_eq, decide_eq_false_iff_not, Bool.or_eq_true, Bool.or_eq_false_iff, Bool.and_eq_true, Bool.and_eq_false_iff, Bool.not_eq_true', Bool.not_eq_false', bne_iff_ne, ne_eq, beq_iff_eq, bne_eq_false_iff_eq, beq_eq_false_iff_ne, Int.not_lt, Int.not_le, gt_iff_lt, ge_iff_le] at *)
  all_goals (try simp only [mulN1, Nat.add_zero, Nat.zero_add, Nat.mul_one, Int.toNat_natCast, avInt_int] at *)
  all_goals first | with_reducible rfl | with_reducible exact nums_N | omega | ((with_reducible refine by_le 1 rfl ?_); omega) | ((with_reducible refine by_le 8 rfl ?_); omega) | (rw [wrapI (by omega) (by omega)] <;> omega) | skip
def pout_k : Con Try.prog := ⟨46, fun args => match args with | [.agg [.int .u8 a0, .int .u8 a1, .int .u8 a2, .int .u8 a3], .int .u8 o] => .ok (some (((0 ≤ a0 ∧ a0 < 256) ∧ (0 ≤ a1 ∧ a1 < 256) ∧ (0 ≤ a2 ∧ a2 < 256) ∧ (0 ≤ a3 ∧ a3 < 256)) ∧ (0 ≤ o ∧ o < 256))) (.agg [.int .u8 (a0 - partV a0 o), .int .u8 (a1 - partV a1 o), .int .u8 (a2 - partV a2 o), .int .u8 (a3 - partV a3 o)]) | _ => .no, by
  intro args p r h hp
  split at h
  · cases h; exact pout_a _ _ _ _ _ hp
  · cases h⟩
theorem pplus_f : FnOk Try.prog 45 Try.f45 := ⟨Try.func45, by kernel_rfl⟩
theorem pplus_a (a0 a1 a2 a3 b0 b1 b2 b3 : Int) (hpre : ((0 ≤ a0 ∧ a0 < 256) ∧ (0 ≤ a1 ∧ a1 < 256) ∧ (0 ≤ a2 ∧ a2 < 256) ∧ (0 ≤ a3 ∧ a3 < 256)) ∧ ((0 ≤ b0 ∧ b0 < 256) ∧ (0 ≤ b1 ∧ b1 < 256) ∧ (0 ≤ b2 ∧ b2 < 256) ∧ (0 ≤ b3 ∧ b3 < 256))) : ACalls Try.prog 45 [.agg [.int .u8 a0, .int .u8 a1, .int .u8 a2, .int .u8 a3], .agg [.int .u8 b0, .int .u8 b1, .int .u8 b2, .int .u8 b3]] (.agg [.int .u8 (addV a0 b0), .int .u8 (addV a1 b1), .int .u8 (addV a2 b2), .int .u8 (addV a3 b3)]) := by
  refine acalls_of (inl := hasI (P := Try.prog) [] []) (base [sum8_k] [] []) 0 pplus_f (And.intro (by kernel_rfl) ?_)
  repeat' (first | refine And.intro ?_ ?_ | refine num_lit 0 (by decide) ?_ | refine num_lit 1 (by decide) ?_ | refine num_lit 2 (by decide) ?_ | refine num_lit 3 (by decide) ?_ | refine num_lit 4 (by decide) ?_ | refine num_lit 5 (by decide) ?_ | refine num_lit 6 (by decide) ?_ | refine num_lit 7 (by decide) ?_ | refine num_lit 8 (by decide) ?_ | refine num_elim ?_ | (with_reducible exact ff_elim) | (with_reducible exact tf_elim) | (intro h; exact absurd h (by decide)) | intro _ | (with_reducible rfl) | refine Or.inl ⟨5, ?_⟩ | refine tell ?_ | exact True.intro | (refine IsT.of ?_; kernel_rfl))
  all_goals (try refine Tell.mk ?_)
  all_goals first | with_reducible rfl | with_reducible exact isI_mk | with_reducible assumption | (with_reducible refine gb_t ?_; with_reducible assumption) | (with_reducible refine gb_f ?_; with_reducible assumption) | ((with_reducible refine lk_t ?_); rfl) | ((with_reducible refine okF_t ?_); kernel_rfl) | ((with_reducible refine ks_t ?_); rfl) | ((with_reducible refine pk_t ?_); rfl) | skip
  all_goals (try dsimp only at *)
  all_goals (try simp only [decide_eq_true_eq, decide_eq_false_iff_not, Bool.or_eq_true, Bool.or_eq_false_iff, Bool.and_eq_true, Bool.and_eq_false_iff, Bool.not_eq_true', Bool.not_eq_false', bne_iff_ne, ne_eq, beq_iff_eq, bne_eq_false_iff_eq, beq_eq_false_iff_ne, Int.not_lt, Int.not_le, gt_iff_lt, ge_iff_le] at *)
  all_goals (try simp only [mulN1, Nat.add_zero, Nat.zero_add, Nat.mul_one, Int.toNat_natCast, avInt_int] at *)
  all_goals first | with_reducible rfl | with_reducible exact nums_N | omega | ((with_reducible refine by_le 1 rfl ?_); omega) | ((with_reducible refine by_le 8 rfl ?_); omega) | (rw [wrapI (by omega) (by omega)] <;> omega) | skip
def pplus_k : Con Try.prog := ⟨45, fun args => match args with | [.agg [.int .u8 a0, .int .u8 a1, .int .u8 a2, .int .u8 a3], .agg [.int .u8 b0, .int .u8 b1, .int .u8 b2, .int .u8 b3]] => .ok (some (((0 ≤ a0 ∧ a0 < 256) ∧ (0 ≤ a1 ∧ a1 < 256) ∧ (0 ≤ a2 ∧ a2 < 256) ∧ (0 ≤ a3 ∧ a3 < 256)) ∧ ((0 ≤ b0 ∧ b0 < 256) ∧ (0 ≤ b1 ∧ b1 < 256) ∧ (0 ≤ b2 ∧ b2 < 256) ∧ (0 ≤ b3 ∧ b3 < 256)))) (.agg [.int .u8 (addV a0 b0), .int .u8 (addV a1 b1), .int .u8 (addV a2 b2), .int .u8 (addV a3 b3)]) | _ => .no, by
  intro args p r h hp
  split at h
  · cases h; exact pplus_a _ _ _ _ _ _ _ _ hp
  · cases h⟩
end Go.Proofs.Ytlcdaoljfclliaa
