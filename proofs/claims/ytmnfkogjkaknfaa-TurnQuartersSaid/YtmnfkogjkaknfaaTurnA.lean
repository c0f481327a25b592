/- Quarters. -/
import Derived.Test.YtmnfkogjkaknfaaTurn
namespace Go.Proofs.Ytmnfkogjkaknfaa
open Go.RowKit Ev
set_option linter.unusedVariables false
set_option linter.unusedSimpArgs false
set_option maxRecDepth 20000
set_option maxHeartbeats 4000000

def cV (q : Int) : Nat := if q = 0 then 4607182418800017408 else if q = 2 then 13830554455654793216 else 0
def sV (q : Int) : Nat := if q = 1 then 4607182418800017408 else if q = 3 then 13830554455654793216 else 0
def nV (q : Int) : Nat := if q = 3 then 4607182418800017408 else if q = 1 then 13830554455654793216 else 0
theorem and3 {u : Int} (h : -9223372036854775808 ≤ u ∧ u < 9223372036854775808) : bitsA .and .i64 u 3 = u % 4 := by
  have e : (BitVec.ofInt IntKind.i64.bits u &&& BitVec.ofInt IntKind.i64.bits 3).toNat = (u % 4).toNat := by
    rw [BitVec.toNat_and, BitVec.toNat_ofInt]
    have e2 : (BitVec.ofInt IntKind.i64.bits 3).toNat = 2 ^ 2 - 1 := by decide
    rw [e2, Nat.and_two_pow_sub_one_eq_mod]
    show ((u % ((2 ^ 64 : Nat) : Int)).toNat % 2 ^ 2) = _
    omega
  show IntKind.i64.wrap ((BitVec.ofInt IntKind.i64.bits u &&& BitVec.ofInt IntKind.i64.bits 3).toNat : Nat) = _
  rw [e, wrapI (by omega) (by omega)]
  omega
theorem quarter00_f : FnOk Try.prog 5 Try.f5 := ⟨Try.func5, by kernel_rfl⟩
theorem quarter00_a (m : Int) (hpre : In64 m ∧ bitsA .and .i64 m 3 = 0) : ACalls Try.prog 5 [.int .i64 0, .int .i64 m] (.tup [.agg [.flt 4607182418800017408, .flt 0, .flt 0, .flt 0, .flt 4607182418800017408, .flt 0, .flt 0, .flt 0, .flt 4607182418800017408, .flt 0, .flt 0, .flt 0], .int .i64 0]) := by
  refine acalls_of (inl := hasI (P := Try.prog) [] []) (base [] [] []) 0 quarter00_f (And.intro (by kernel_rfl) ?_)
  repeat' (first | refine And.intro ?_ ?_ | (with_reducible exact ff_elim) | (with_reducible exact tf_elim) | refine num_lit 0 (by decide) ?_ | refine num_lit 1 (by decide) ?_ | refine num_lit 2 (by decide) ?_ | refine num_lit 3 (by decide) ?_ | refine num_lit 4 (by decide) ?_ | refine num_lit 5 (by decide) ?_ | refine num_lit 6 (by decide) ?_ | refine num_lit 7 (by decide) ?_ | refine num_lit 8 (by decide) ?_ | refine num_lit 0 hpre.2 ?_ | (intro h; exact absurd h (by decide)) | refine Or.inl ⟨4, ?_⟩ | refine num_elim ?_ | intro _ | (with_reducible rfl) | ((with_reducible refine lk_t ?_); exact rfl) | refine tell ?_ | exact True.intro | (refine IsT.of ?_; kernel_rfl))
  all_goals (try refine Tell.mk ?_)
  all_goals first | with_reducible rfl | kernel_rfl | (have := hpre.1; omega) | (exfalso; omega) | (trace_state; fail)
def quarter00_k : Con Try.prog := ⟨5, fun args => match args with | [.int .i64 0, .int .i64 m] => .ok (some (In64 m ∧ bitsA .and .i64 m 3 = 0)) (.tup [.agg [.flt 4607182418800017408, .flt 0, .flt 0, .flt 0, .flt 4607182418800017408, .flt 0, .flt 0, .flt 0, .flt 4607182418800017408, .flt 0, .flt 0, .flt 0], .int .i64 0]) | _ => .no, by
  intro args p r h hp
  split at h
  · cases h; exact quarter00_a _ hp
  · cases h⟩
theorem quarter01_f : FnOk Try.prog 5 Try.f5 := ⟨Try.func5, by kernel_rfl⟩
theorem quarter01_a (m : Int) (hpre : In64 m ∧ bitsA .and .i64 m 3 = 1) : ACalls Try.prog 5 [.int .i64 0, .int .i64 m] (.tup [.agg [.flt 4607182418800017408, .flt 0, .flt 0, .flt 0, .flt 0, .flt 13830554455654793216, .flt 0, .flt 4607182418800017408, .flt 0, .flt 0, .flt 0, .flt 0], .int .i64 0]) := by
  refine acalls_of (inl := hasI (P := Try.prog) [] []) (base [] [] []) 0 quarter01_f (And.intro (by kernel_rfl) ?_)
  repeat' (first | refine And.intro ?_ ?_ | (with_reducible exact ff_elim) | (with_reducible exact tf_elim) | refine num_lit 0 (by decide) ?_ | refine num_lit 1 (by decide) ?_ | refine num_lit 2 (by decide) ?_ | refine num_lit 3 (by decide) ?_ | refine num_lit 4 (by decide) ?_ | refine num_lit 5 (by decide) ?_ | refine num_lit 6 (by decide) ?_ | refine num_lit 7 (by decide) ?_ | refine num_lit 8 (by decide) ?_ | refine num_lit 1 hpre.2 ?_ | (intro h; exact absurd h (by decide)) | refine Or.inl ⟨4, ?_⟩ | refine num_elim ?_ | intro _ | (with_reducible rfl) | ((with_reducible refine lk_t ?_); exact rfl) | refine tell ?_ | exact True.intro | (refine IsT.of ?_; kernel_rfl))
  all_goals (try refine Tell.mk ?_)
  all_goals first | with_reducible rfl | kernel_rfl | (have := hpre.1; omega) | (exfalso; omega) | (trace_state; fail)
def quarter01_k : Con Try.prog := ⟨5, fun args => match args with | [.int .i64 0, .int .i64 m] => .ok (some (In64 m ∧ bitsA .and .i64 m 3 = 1)) (.tup [.agg [.flt 4607182418800017408, .flt 0, .flt 0, .flt 0, .flt 0, .flt 13830554455654793216, .flt 0, .flt 4607182418800017408, .flt 0, .flt 0, .flt 0, .flt 0], .int .i64 0]) | _ => .no, by
  intro args p r h hp
  split at h
  · cases h; exact quarter01_a _ hp
  · cases h⟩
theorem quarter02_f : FnOk Try.prog 5 Try.f5 := ⟨Try.func5, by kernel_rfl⟩
theorem quarter02_a (m : Int) (hpre : In64 m ∧ bitsA .and .i64 m 3 = 2) : ACalls Try.prog 5 [.int .i64 0, .int .i64 m] (.tup [.agg [.flt 4607182418800017408, .flt 0, .flt 0, .flt 0, .flt 13830554455654793216, .flt 0, .flt 0, .flt 0, .flt 13830554455654793216, .flt 0, .flt 0, .flt 0], .int .i64 0]) := by
  refine acalls_of (inl := hasI (P := Try.prog) [] []) (base [] [] []) 0 quarter02_f (And.intro (by kernel_rfl) ?_)
  repeat' (first | refine And.intro ?_ ?_ | (with_reducible exact ff_elim) | (with_reducible exact tf_elim) | refine num_lit 0 (by decide) ?_ | refine num_lit 1 (by decide) ?_ | refine num_lit 2 (by decide) ?_ | refine num_lit 3 (by decide) ?_ | refine num_lit 4 (by decide) ?_ | refine num_lit 5 (by decide) ?_ | refine num_lit 6 (by decide) ?_ | refine num_lit 7 (by decide) ?_ | refine num_lit 8 (by decide) ?_ | refine num_lit 2 hpre.2 ?_ | (intro h; exact absurd h (by decide)) | refine Or.inl ⟨4, ?_⟩ | refine num_elim ?_ | intro _ | (with_reducible rfl) | ((with_reducible refine lk_t ?_); exact rfl) | refine tell ?_ | exact True.intro | (refine IsT.of ?_; kernel_rfl))
  all_goals (try refine Tell.mk ?_)
  all_goals first | with_reducible rfl | kernel_rfl | (have := hpre.1; omega) | (exfalso; omega) | (trace_state; fail)
def quarter02_k : Con Try.prog := ⟨5, fun args => match args with | [.int .i64 0, .int .i64 m] => .ok (some (In64 m ∧ bitsA .and .i64 m 3 = 2)) (.tup [.agg [.flt 4607182418800017408, .flt 0, .flt 0, .flt 0, .flt 13830554455654793216, .flt 0, .flt 0, .flt 0, .flt 13830554455654793216, .flt 0, .flt 0, .flt 0], .int .i64 0]) | _ => .no, by
  intro args p r h hp
  split at h
  · cases h; exact quarter02_a _ hp
  · cases h⟩
theorem quarter03_f : FnOk Try.prog 5 Try.f5 := ⟨Try.func5, by kernel_rfl⟩
theorem quarter03_a (m : Int) (hpre : In64 m ∧ bitsA .and .i64 m 3 = 3) : ACalls Try.prog 5 [.int .i64 0, .int .i64 m] (.tup [.agg [.flt 4607182418800017408, .flt 0, .flt 0, .flt 0, .flt 0, .flt 4607182418800017408, .flt 0, .flt 13830554455654793216, .flt 0, .flt 0, .flt 0, .flt 0], .int .i64 0]) := by
  refine acalls_of (inl := hasI (P := Try.prog) [] []) (base [] [] []) 0 quarter03_f (And.intro (by kernel_rfl) ?_)
  repeat' (first | refine And.intro ?_ ?_ | (with_reducible exact ff_elim) | (with_reducible exact tf_elim) | refine num_lit 0 (by decide) ?_ | refine num_lit 1 (by decide) ?_ | refine num_lit 2 (by decide) ?_ | refine num_lit 3 (by decide) ?_ | refine num_lit 4 (by decide) ?_ | refine num_lit 5 (by decide) ?_ | refine num_lit 6 (by decide) ?_ | refine num_lit 7 (by decide) ?_ | refine num_lit 8 (by decide) ?_ | refine num_lit 3 hpre.2 ?_ | (intro h; exact absurd h (by decide)) | refine Or.inl ⟨4, ?_⟩ | refine num_elim ?_ | intro _ | (with_reducible rfl) | ((with_reducible refine lk_t ?_); exact rfl) | refine tell ?_ | exact True.intro | (refine IsT.of ?_; kernel_rfl))
  all_goals (try refine Tell.mk ?_)
  all_goals first | with_reducible rfl | kernel_rfl | (have := hpre.1; omega) | (exfalso; omega) | (trace_state; fail)
def quarter03_k : Con Try.prog := ⟨5, fun args => match args with | [.int .i64 0, .int .i64 m] => .ok (some (In64 m ∧ bitsA .and .i64 m 3 = 3)) (.tup [.agg [.flt 4607182418800017408, .flt 0, .flt 0, .flt 0, .flt 0, .flt 4607182418800017408, .flt 0, .flt 13830554455654793216, .flt 0, .flt 0, .flt 0, .flt 0], .int .i64 0]) | _ => .no, by
  intro args p r h hp
  split at h
  · cases h; exact quarter03_a _ hp
  · cases h⟩
theorem quarter0_f : FnOk Try.prog 5 Try.f5 := ⟨Try.func5, by kernel_rfl⟩
theorem quarter0_a (m : Int) (hpre : In64 m) : ACalls Try.prog 5 [.int .i64 0, .int .i64 m] (.tup [.agg [.flt 4607182418800017408, .flt 0, .flt 0, .flt 0, .flt (cV (m % 4)), .flt (nV (m % 4)), .flt 0, .flt (sV (m % 4)), .flt (cV (m % 4)), .flt 0, .flt 0, .flt 0], .int .i64 0]) := by
  have e := and3 (u := m) ⟨hpre.1, by have := hpre.2; omega⟩
  have h : m % 4 = 0 ∨ m % 4 = 1 ∨ m % 4 = 2 ∨ m % 4 = 3 := by omega
  rcases h with h | h | h | h
  · have := quarter00_a m ⟨hpre, e.trans h⟩
    rw [h]; exact this
  · have := quarter01_a m ⟨hpre, e.trans h⟩
    rw [h]; exact this
  · have := quarter02_a m ⟨hpre, e.trans h⟩
    rw [h]; exact this
  · have := quarter03_a m ⟨hpre, e.trans h⟩
    rw [h]; exact this
def quarter0_k : Con Try.prog := ⟨5, fun args => match args with | [.int .i64 0, .int .i64 m] => .ok (some (In64 m)) (.tup [.agg [.flt 4607182418800017408, .flt 0, .flt 0, .flt 0, .flt (cV (m % 4)), .flt (nV (m % 4)), .flt 0, .flt (sV (m % 4)), .flt (cV (m % 4)), .flt 0, .flt 0, .flt 0], .int .i64 0]) | _ => .no, by
  intro args p r h hp
  split at h
  · cases h; exact quarter0_a _ hp
  · cases h⟩
theorem quarterR0n3_f : FnOk Try.prog 6 Try.f6 := ⟨Try.func6, by kernel_rfl⟩
theorem quarterR0n3_a (m : Int) (hpre : In64 m ∧ m.tmod 4 = (-3)) : ACalls Try.prog 6 [.int .i64 0, .int .i64 m] (.tup [.agg [.flt 4607182418800017408, .flt 0, .flt 0, .flt 0, .flt 0, .flt 13830554455654793216, .flt 0, .flt 4607182418800017408, .flt 0, .flt 0, .flt 0, .flt 0], .int .i64 0]) := by
  refine acalls_of (inl := hasI (P := Try.prog) [⟨28, Try.f28, Try.func28, by kernel_rfl⟩] []) (base [] [⟨28, Try.f28, Try.func28, by kernel_rfl⟩] []) 4 quarterR0n3_f (And.intro (by kernel_rfl) ?_)
  repeat' (first | refine And.intro ?_ ?_ | (with_reducible exact ff_elim) | (with_reducible exact tf_elim) | refine num_lit 0 (by decide) ?_ | refine num_lit 1 (by decide) ?_ | refine num_lit 2 (by decide) ?_ | refine num_lit 3 (by decide) ?_ | refine num_lit 4 (by decide) ?_ | refine num_lit 5 (by decide) ?_ | refine num_lit 6 (by decide) ?_ | refine num_lit 7 (by decide) ?_ | refine num_lit 8 (by decide) ?_ | refine num_lit (-3) hpre.2 ?_ | (intro h; exact absurd h (by decide)) | refine Or.inl ⟨4, ?_⟩ | refine num_elim ?_ | intro _ | (with_reducible rfl) | ((with_reducible refine lk_t ?_); exact rfl) | refine tell ?_ | exact True.intro | (refine IsT.of ?_; kernel_rfl))
  all_goals (try refine Tell.mk ?_)
  all_goals first | with_reducible rfl | kernel_rfl | (have := hpre.1; omega) | (exfalso; omega) | (trace_state; fail)
def quarterR0n3_k : Con Try.prog := ⟨6, fun args => match args with | [.int .i64 0, .int .i64 m] => .ok (some (In64 m ∧ m.tmod 4 = (-3))) (.tup [.agg [.flt 4607182418800017408, .flt 0, .flt 0, .flt 0, .flt 0, .flt 13830554455654793216, .flt 0, .flt 4607182418800017408, .flt 0, .flt 0, .flt 0, .flt 0], .int .i64 0]) | _ => .no, by
  intro args p r h hp
  split at h
  · cases h; exact quarterR0n3_a _ hp
  · cases h⟩
theorem quarterR0n2_f : FnOk Try.prog 6 Try.f6 := ⟨Try.func6, by kernel_rfl⟩
theorem quarterR0n2_a (m : Int) (hpre : In64 m ∧ m.tmod 4 = (-2)) : ACalls Try.prog 6 [.int .i64 0, .int .i64 m] (.tup [.agg [.flt 4607182418800017408, .flt 0, .flt 0, .flt 0, .flt 13830554455654793216, .flt 0, .flt 0, .flt 0, .flt 13830554455654793216, .flt 0, .flt 0, .flt 0], .int .i64 0]) := by
  refine acalls_of (inl := hasI (P := Try.prog) [⟨28, Try.f28, Try.func28, by kernel_rfl⟩] []) (base [] [⟨28, Try.f28, Try.func28, by kernel_rfl⟩] []) 4 quarterR0n2_f (And.intro (by kernel_rfl) ?_)
  repeat' (first | refine And.intro ?_ ?_ | (with_reducible exact ff_elim) | (with_reducible exact tf_elim) | refine num_lit 0 (by decide) ?_ | refine num_lit 1 (by decide) ?_ | refine num_lit 2 (by decide) ?_ | refine num_lit 3 (by decide) ?_ | refine num_lit 4 (by decide) ?_ | refine num_lit 5 (by decide) ?_ | refine num_lit 6 (by decide) ?_ | refine num_lit 7 (by decide) ?_ | refine num_lit 8 (by decide) ?_ | refine num_lit (-2) hpre.2 ?_ | (intro h; exact absurd h (by decide)) | refine Or.inl ⟨4, ?_⟩ | refine num_elim ?_ | intro _ | (with_reducible rfl) | ((with_reducible refine lk_t ?_); exact rfl) | refine tell ?_ | exact True.intro | (refine IsT.of ?_; kernel_rfl))
  all_goals (try refine Tell.mk ?_)
  all_goals first | with_reducible rfl | kernel_rfl | (have := hpre.1; omega) | (exfalso; omega) | (trace_state; fail)
def quarterR0n2_k : Con Try.prog := ⟨6, fun args => match args with | [.int .i64 0, .int .i64 m] => .ok (some (In64 m ∧ m.tmod 4 = (-2))) (.tup [.agg [.flt 4607182418800017408, .flt 0, .flt 0, .flt 0, .flt 13830554455654793216, .flt 0, .flt 0, .flt 0, .flt 13830554455654793216, .flt 0, .flt 0, .flt 0], .int .i64 0]) | _ => .no, by
  intro args p r h hp
  split at h
  · cases h; exact quarterR0n2_a _ hp
  · cases h⟩
theorem quarterR0n1_f : FnOk Try.prog 6 Try.f6 := ⟨Try.func6, by kernel_rfl⟩
theorem quarterR0n1_a (m : Int) (hpre : In64 m ∧ m.tmod 4 = (-1)) : ACalls Try.prog 6 [.int .i64 0, .int .i64 m] (.tup [.agg [.flt 4607182418800017408, .flt 0, .flt 0, .flt 0, .flt 0, .flt 4607182418800017408, .flt 0, .flt 13830554455654793216, .flt 0, .flt 0, .flt 0, .flt 0], .int .i64 0]) := by
  refine acalls_of (inl := hasI (P := Try.prog) [⟨28, Try.f28, Try.func28, by kernel_rfl⟩] []) (base [] [⟨28, Try.f28, Try.func28, by kernel_rfl⟩] []) 4 quarterR0n1_f (And.intro (by kernel_rfl) ?_)
  repeat' (first | refine And.intro ?_ ?_ | (with_reducible exact ff_elim) | (with_reducible exact tf_elim) | refine num_lit 0 (by decide) ?_ | refine num_lit 1 (by decide) ?_ | refine num_lit 2 (by decide) ?_ | refine num_lit 3 (by decide) ?_ | refine num_lit 4 (by decide) ?_ | refine num_lit 5 (by decide) ?_ | refine num_lit 6 (by decide) ?_ | refine num_lit 7 (by decide) ?_ | refine num_lit 8 (by decide) ?_ | refine num_lit (-1) hpre.2 ?_ | (intro h; exact absurd h (by decide)) | refine Or.inl ⟨4, ?_⟩ | refine num_elim ?_ | intro _ | (with_reducible rfl) | ((with_reducible refine lk_t ?_); exact rfl) | refine tell ?_ | exact True.intro | (refine IsT.of ?_; kernel_rfl))
  all_goals (try refine Tell.mk ?_)
  all_goals first | with_reducible rfl | kernel_rfl | (have := hpre.1; omega) | (exfalso; omega) | (trace_state; fail)
def quarterR0n1_k : Con Try.prog := ⟨6, fun args => match args with | [.int .i64 0, .int .i64 m] => .ok (some (In64 m ∧ m.tmod 4 = (-1))) (.tup [.agg [.flt 4607182418800017408, .flt 0, .flt 0, .flt 0, .flt 0, .flt 4607182418800017408, .flt 0, .flt 13830554455654793216, .flt 0, .flt 0, .flt 0, .flt 0], .int .i64 0]) | _ => .no, by
  intro args p r h hp
  split at h
  · cases h; exact quarterR0n1_a _ hp
  · cases h⟩
theorem quarterR0p0_f : FnOk Try.prog 6 Try.f6 := ⟨Try.func6, by kernel_rfl⟩
theorem quarterR0p0_a (m : Int) (hpre : In64 m ∧ m.tmod 4 = 0) : ACalls Try.prog 6 [.int .i64 0, .int .i64 m] (.tup [.agg [.flt 4607182418800017408, .flt 0, .flt 0, .flt 0, .flt 4607182418800017408, .flt 0, .flt 0, .flt 0, .flt 4607182418800017408, .flt 0, .flt 0, .flt 0], .int .i64 0]) := by
  refine acalls_of (inl := hasI (P := Try.prog) [⟨28, Try.f28, Try.func28, by kernel_rfl⟩] []) (base [] [⟨28, Try.f28, Try.func28, by kernel_rfl⟩] []) 4 quarterR0p0_f (And.intro (by kernel_rfl) ?_)
  repeat' (first | refine And.intro ?_ ?_ | (with_reducible exact ff_elim) | (with_reducible exact tf_elim) | refine num_lit 0 (by decide) ?_ | refine num_lit 1 (by decide) ?_ | refine num_lit 2 (by decide) ?_ | refine num_lit 3 (by decide) ?_ | refine num_lit 4 (by decide) ?_ | refine num_lit 5 (by decide) ?_ | refine num_lit 6 (by decide) ?_ | refine num_lit 7 (by decide) ?_ | refine num_lit 8 (by decide) ?_ | refine num_lit 0 hpre.2 ?_ | (intro h; exact absurd h (by decide)) | refine Or.inl ⟨4, ?_⟩ | refine num_elim ?_ | intro _ | (with_reducible rfl) | ((with_reducible refine lk_t ?_); exact rfl) | refine tell ?_ | exact True.intro | (refine IsT.of ?_; kernel_rfl))
  all_goals (try refine Tell.mk ?_)
  all_goals first | with_reducible rfl | kernel_rfl | (have := hpre.1; omega) | (exfalso; omega) | (trace_state; fail)
def quarterR0p0_k : Con Try.prog := ⟨6, fun args => match args with | [.int .i64 0, .int .i64 m] => .ok (some (In64 m ∧ m.tmod 4 = 0)) (.tup [.agg [.flt 4607182418800017408, .flt 0, .flt 0, .flt 0, .flt 4607182418800017408, .flt 0, .flt 0, .flt 0, .flt 4607182418800017408, .flt 0, .flt 0, .flt 0], .int .i64 0]) | _ => .no, by
  intro args p r h hp
  split at h
  · cases h; exact quarterR0p0_a _ hp
  · cases h⟩
theorem quarterR0p1_f : FnOk Try.prog 6 Try.f6 := ⟨Try.func6, by kernel_rfl⟩
theorem quarterR0p1_a (m : Int) (hpre : In64 m ∧ m.tmod 4 = 1) : ACalls Try.prog 6 [.int .i64 0, .int .i64 m] (.tup [.agg [.flt 4607182418800017408, .flt 0, .flt 0, .flt 0, .flt 0, .flt 13830554455654793216, .flt 0, .flt 4607182418800017408, .flt 0, .flt 0, .flt 0, .flt 0], .int .i64 0]) := by
  refine acalls_of (inl := hasI (P := Try.prog) [⟨28, Try.f28, Try.func28, by kernel_rfl⟩] []) (base [] [⟨28, Try.f28, Try.func28, by kernel_rfl⟩] []) 4 quarterR0p1_f (And.intro (by kernel_rfl) ?_)
  repeat' (first | refine And.intro ?_ ?_ | (with_reducible exact ff_elim) | (with_reducible exact tf_elim) | refine num_lit 0 (by decide) ?_ | refine num_lit 1 (by decide) ?_ | refine num_lit 2 (by decide) ?_ | refine num_lit 3 (by decide) ?_ | refine num_lit 4 (by decide) ?_ | refine num_lit 5 (by decide) ?_ | refine num_lit 6 (by decide) ?_ | refine num_lit 7 (by decide) ?_ | refine num_lit 8 (by decide) ?_ | refine num_lit 1 hpre.2 ?_ | (intro h; exact absurd h (by decide)) | refine Or.inl ⟨4, ?_⟩ | refine num_elim ?_ | intro _ | (with_reducible rfl) | ((with_reducible refine lk_t ?_); exact rfl) | refine tell ?_ | exact True.intro | (refine IsT.of ?_; kernel_rfl))
  all_goals (try refine Tell.mk ?_)
  all_goals first | with_reducible rfl | kernel_rfl | (have := hpre.1; omega) | (exfalso; omega) | (trace_state; fail)
def quarterR0p1_k : Con Try.prog := ⟨6, fun args => match args with | [.int .i64 0, .int .i64 m] => .ok (some (In64 m ∧ m.tmod 4 = 1)) (.tup [.agg [.flt 4607182418800017408, .flt 0, .flt 0, .flt 0, .flt 0, .flt 13830554455654793216, .flt 0, .flt 4607182418800017408, .flt 0, .flt 0, .flt 0, .flt 0], .int .i64 0]) | _ => .no, by
  intro args p r h hp
  split at h
  · cases h; exact quarterR0p1_a _ hp
  · cases h⟩
theorem quarterR0p2_f : FnOk Try.prog 6 Try.f6 := ⟨Try.func6, by kernel_rfl⟩
theorem quarterR0p2_a (m : Int) (hpre : In64 m ∧ m.tmod 4 = 2) : ACalls Try.prog 6 [.int .i64 0, .int .i64 m] (.tup [.agg [.flt 4607182418800017408, .flt 0, .flt 0, .flt 0, .flt 13830554455654793216, .flt 0, .flt 0, .flt 0, .flt 13830554455654793216, .flt 0, .flt 0, .flt 0], .int .i64 0]) := by
  refine acalls_of (inl := hasI (P := Try.prog) [⟨28, Try.f28, Try.func28, by kernel_rfl⟩] []) (base [] [⟨28, Try.f28, Try.func28, by kernel_rfl⟩] []) 4 quarterR0p2_f (And.intro (by kernel_rfl) ?_)
  repeat' (first | refine And.intro ?_ ?_ | (with_reducible exact ff_elim) | (with_reducible exact tf_elim) | refine num_lit 0 (by decide) ?_ | refine num_lit 1 (by decide) ?_ | refine num_lit 2 (by decide) ?_ | refine num_lit 3 (by decide) ?_ | refine num_lit 4 (by decide) ?_ | refine num_lit 5 (by decide) ?_ | refine num_lit 6 (by decide) ?_ | refine num_lit 7 (by decide) ?_ | refine num_lit 8 (by decide) ?_ | refine num_lit 2 hpre.2 ?_ | (intro h; exact absurd h (by decide)) | refine Or.inl ⟨4, ?_⟩ | refine num_elim ?_ | intro _ | (with_reducible rfl) | ((with_reducible refine lk_t ?_); exact rfl) | refine tell ?_ | exact True.intro | (refine IsT.of ?_; kernel_rfl))
  all_goals (try refine Tell.mk ?_)
  all_goals first | with_reducible rfl | kernel_rfl | (have := hpre.1; omega) | (exfalso; omega) | (trace_state; fail)
def quarterR0p2_k : Con Try.prog := ⟨6, fun args => match args with | [.int .i64 0, .int .i64 m] => .ok (some (In64 m ∧ m.tmod 4 = 2)) (.tup [.agg [.flt 4607182418800017408, .flt 0, .flt 0, .flt 0, .flt 13830554455654793216, .flt 0, .flt 0, .flt 0, .flt 13830554455654793216, .flt 0, .flt 0, .flt 0], .int .i64 0]) | _ => .no, by
  intro args p r h hp
  split at h
  · cases h; exact quarterR0p2_a _ hp
  · cases h⟩
theorem quarterR0p3_f : FnOk Try.prog 6 Try.f6 := ⟨Try.func6, by kernel_rfl⟩
theorem quarterR0p3_a (m : Int) (hpre : In64 m ∧ m.tmod 4 = 3) : ACalls Try.prog 6 [.int .i64 0, .int .i64 m] (.tup [.agg [.flt 4607182418800017408, .flt 0, .flt 0, .flt 0, .flt 0, .flt 4607182418800017408, .flt 0, .flt 13830554455654793216, .flt 0, .flt 0, .flt 0, .flt 0], .int .i64 0]) := by
  refine acalls_of (inl := hasI (P := Try.prog) [⟨28, Try.f28, Try.func28, by kernel_rfl⟩] []) (base [] [⟨28, Try.f28, Try.func28, by kernel_rfl⟩] []) 4 quarterR0p3_f (And.intro (by kernel_rfl) ?_)
  repeat' (first | refine And.intro ?_ ?_ | (with_reducible exact ff_elim) | (with_reducible exact tf_elim) | refine num_lit 0 (by decide) ?_ | refine num_lit 1 (by decide) ?_ | refine num_lit 2 (by decide) ?_ | refine num_lit 3 (by decide) ?_ | refine num_lit 4 (by decide) ?_ | refine num_lit 5 (by decide) ?_ | refine num_lit 6 (by decide) ?_ | refine num_lit 7 (by decide) ?_ | refine num_lit 8 (by decide) ?_ | refine num_lit 3 hpre.2 ?_ | (intro h; exact absurd h (by decide)) | refine Or.inl ⟨4, ?_⟩ | refine num_elim ?_ | intro _ | (with_reducible rfl) | ((with_reducible refine lk_t ?_); exact rfl) | refine tell ?_ | exact True.intro | (refine IsT.of ?_; kernel_rfl))
  all_goals (try refine Tell.mk ?_)
  all_goals first | with_reducible rfl | kernel_rfl | (have := hpre.1; omega) | (exfalso; omega) | (trace_state; fail)
def quarterR0p3_k : Con Try.prog := ⟨6, fun args => match args with | [.int .i64 0, .int .i64 m] => .ok (some (In64 m ∧ m.tmod 4 = 3)) (.tup [.agg [.flt 4607182418800017408, .flt 0, .flt 0, .flt 0, .flt 0, .flt 4607182418800017408, .flt 0, .flt 13830554455654793216, .flt 0, .flt 0, .flt 0, .flt 0], .int .i64 0]) | _ => .no, by
  intro args p r h hp
  split at h
  · cases h; exact quarterR0p3_a _ hp
  · cases h⟩
theorem quarterR0_f : FnOk Try.prog 6 Try.f6 := ⟨Try.func6, by kernel_rfl⟩
theorem quarterR0_a (m : Int) (hpre : In64 m) : ACalls Try.prog 6 [.int .i64 0, .int .i64 m] (.tup [.agg [.flt 4607182418800017408, .flt 0, .flt 0, .flt 0, .flt (cV (m % 4)), .flt (nV (m % 4)), .flt 0, .flt (sV (m % 4)), .flt (cV (m % 4)), .flt 0, .flt 0, .flt 0], .int .i64 0]) := by
  have h1 := Int.tmod_add_mul_tdiv m 4
  have h2 := Int.tmod_lt_of_pos m (show (0 : Int) < 4 by decide)
  have h3 := Int.lt_tmod_of_pos m (show (0 : Int) < 4 by decide)
  have h : m.tmod 4 = -3 ∧ m % 4 = 1 ∨ m.tmod 4 = -2 ∧ m % 4 = 2 ∨ m.tmod 4 = -1 ∧ m % 4 = 3 ∨ m.tmod 4 = 0 ∧ m % 4 = 0 ∨ m.tmod 4 = 1 ∧ m % 4 = 1 ∨ m.tmod 4 = 2 ∧ m % 4 = 2 ∨ m.tmod 4 = 3 ∧ m % 4 = 3 := by omega
  rcases h with ⟨h, h'⟩ | ⟨h, h'⟩ | ⟨h, h'⟩ | ⟨h, h'⟩ | ⟨h, h'⟩ | ⟨h, h'⟩ | ⟨h, h'⟩
  · have := quarterR0n3_a m ⟨hpre, h⟩
    rw [h']; exact this
  · have := quarterR0n2_a m ⟨hpre, h⟩
    rw [h']; exact this
  · have := quarterR0n1_a m ⟨hpre, h⟩
    rw [h']; exact this
  · have := quarterR0p0_a m ⟨hpre, h⟩
    rw [h']; exact this
  · have := quarterR0p1_a m ⟨hpre, h⟩
    rw [h']; exact this
  · have := quarterR0p2_a m ⟨hpre, h⟩
    rw [h']; exact this
  · have := quarterR0p3_a m ⟨hpre, h⟩
    rw [h']; exact this
def quarterR0_k : Con Try.prog := ⟨6, fun args => match args with | [.int .i64 0, .int .i64 m] => .ok (some (In64 m)) (.tup [.agg [.flt 4607182418800017408, .flt 0, .flt 0, .flt 0, .flt (cV (m % 4)), .flt (nV (m % 4)), .flt 0, .flt (sV (m % 4)), .flt (cV (m % 4)), .flt 0, .flt 0, .flt 0], .int .i64 0]) | _ => .no, by
  intro args p r h hp
  split at h
  · cases h; exact quarterR0_a _ hp
  · cases h⟩
theorem quarter10_f : FnOk Try.prog 5 Try.f5 := ⟨Try.func5, by kernel_rfl⟩
theorem quarter10_a (m : Int) (hpre : In64 m ∧ bitsA .and .i64 m 3 = 0) : ACalls Try.prog 5 [.int .i64 1, .int .i64 m] (.tup [.agg [.flt 4607182418800017408, .flt 0, .flt 0, .flt 0, .flt 4607182418800017408, .flt 0, .flt 0, .flt 0, .flt 4607182418800017408, .flt 0, .flt 0, .flt 0], .int .i64 0]) := by
  refine acalls_of (inl := hasI (P := Try.prog) [] []) (base [] [] []) 0 quarter10_f (And.intro (by kernel_rfl) ?_)
  repeat' (first | refine And.intro ?_ ?_ | (with_reducible exact ff_elim) | (with_reducible exact tf_elim) | refine num_lit 0 (by decide) ?_ | refine num_lit 1 (by decide) ?_ | refine num_lit 2 (by decide) ?_ | refine num_lit 3 (by decide) ?_ | refine num_lit 4 (by decide) ?_ | refine num_lit 5 (by decide) ?_ | refine num_lit 6 (by decide) ?_ | refine num_lit 7 (by decide) ?_ | refine num_lit 8 (by decide) ?_ | refine num_lit 0 hpre.2 ?_ | (intro h; exact absurd h (by decide)) | refine Or.inl ⟨4, ?_⟩ | refine num_elim ?_ | intro _ | (with_reducible rfl) | ((with_reducible refine lk_t ?_); exact rfl) | refine tell ?_ | exact True.intro | (refine IsT.of ?_; kernel_rfl))
  all_goals (try refine Tell.mk ?_)
  all_goals first | with_reducible rfl | kernel_rfl | (have := hpre.1; omega) | (exfalso; omega) | (trace_state; fail)
def quarter10_k : Con Try.prog := ⟨5, fun args => match args with | [.int .i64 1, .int .i64 m] => .ok (some (In64 m ∧ bitsA .and .i64 m 3 = 0)) (.tup [.agg [.flt 4607182418800017408, .flt 0, .flt 0, .flt 0, .flt 4607182418800017408, .flt 0, .flt 0, .flt 0, .flt 4607182418800017408, .flt 0, .flt 0, .flt 0], .int .i64 0]) | _ => .no, by
  intro args p r h hp
  split at h
  · cases h; exact quarter10_a _ hp
  · cases h⟩
theorem quarter11_f : FnOk Try.prog 5 Try.f5 := ⟨Try.func5, by kernel_rfl⟩
theorem quarter11_a (m : Int) (hpre : In64 m ∧ bitsA .and .i64 m 3 = 1) : ACalls Try.prog 5 [.int .i64 1, .int .i64 m] (.tup [.agg [.flt 0, .flt 0, .flt 4607182418800017408, .flt 0, .flt 4607182418800017408, .flt 0, .flt 13830554455654793216, .flt 0, .flt 0, .flt 0, .flt 0, .flt 0], .int .i64 0]) := by
  refine acalls_of (inl := hasI (P := Try.prog) [] []) (base [] [] []) 0 quarter11_f (And.intro (by kernel_rfl) ?_)
  repeat' (first | refine And.intro ?_ ?_ | (with_reducible exact ff_elim) | (with_reducible exact tf_elim) | refine num_lit 0 (by decide) ?_ | refine num_lit 1 (by decide) ?_ | refine num_lit 2 (by decide) ?_ | refine num_lit 3 (by decide) ?_ | refine num_lit 4 (by decide) ?_ | refine num_lit 5 (by decide) ?_ | refine num_lit 6 (by decide) ?_ | refine num_lit 7 (by decide) ?_ | refine num_lit 8 (by decide) ?_ | refine num_lit 1 hpre.2 ?_ | (intro h; exact absurd h (by decide)) | refine Or.inl ⟨4, ?_⟩ | refine num_elim ?_ | intro _ | (with_reducible rfl) | ((with_reducible refine lk_t ?_); exact rfl) | refine tell ?_ | exact True.intro | (refine IsT.of ?_; kernel_rfl))
  all_goals (try refine Tell.mk ?_)
  all_goals first | with_reducible rfl | kernel_rfl | (have := hpre.1; omega) | (exfalso; omega) | (trace_state; fail)
def quarter11_k : Con Try.prog := ⟨5, fun args => match args with | [.int .i64 1, .int .i64 m] => .ok (some (In64 m ∧ bitsA .and .i64 m 3 = 1)) (.tup [.agg [.flt 0, .flt 0, .flt 4607182418800017408, .flt 0, .flt 4607182418800017408, .flt 0, .flt 13830554455654793216, .flt 0, .flt 0, .flt 0, .flt 0, .flt 0], .int .i64 0]) | _ => .no, by
  intro args p r h hp
  split at h
  · cases h; exact quarter11_a _ hp
  · cases h⟩
theorem quarter12_f : FnOk Try.prog 5 Try.f5 := ⟨Try.func5, by kernel_rfl⟩
theorem quarter12_a (m : Int) (hpre : In64 m ∧ bitsA .and .i64 m 3 = 2) : ACalls Try.prog 5 [.int .i64 1, .int .i64 m] (.tup [.agg [.flt 13830554455654793216, .flt 0, .flt 0, .flt 0, .flt 4607182418800017408, .flt 0, .flt 0, .flt 0, .flt 13830554455654793216, .flt 0, .flt 0, .flt 0], .int .i64 0]) := by
  refine acalls_of (inl := hasI (P := Try.prog) [] []) (base [] [] []) 0 quarter12_f (And.intro (by kernel_rfl) ?_)
  repeat' (first | refine And.intro ?_ ?_ | (with_reducible exact ff_elim) | (with_reducible exact tf_elim) | refine num_lit 0 (by decide) ?_ | refine num_lit 1 (by decide) ?_ | refine num_lit 2 (by decide) ?_ | refine num_lit 3 (by decide) ?_ | refine num_lit 4 (by decide) ?_ | refine num_lit 5 (by decide) ?_ | refine num_lit 6 (by decide) ?_ | refine num_lit 7 (by decide) ?_ | refine num_lit 8 (by decide) ?_ | refine num_lit 2 hpre.2 ?_ | (intro h; exact absurd h (by decide)) | refine Or.inl ⟨4, ?_⟩ | refine num_elim ?_ | intro _ | (with_reducible rfl) | ((with_reducible refine lk_t ?_); exact rfl) | refine tell ?_ | exact True.intro | (refine IsT.of ?_; kernel_rfl))
  all_goals (try refine Tell.mk ?_)
  all_goals first | with_reducible rfl | kernel_rfl | (have := hpre.1; omega) | (exfalso; omega) | (trace_state; fail)
def quarter12_k : Con Try.prog := ⟨5, fun args => match args with | [.int .i64 1, .int .i64 m] => .ok (some (In64 m ∧ bitsA .and .i64 m 3 = 2)) (.tup [.agg [.flt 13830554455654793216, .flt 0, .flt 0, .flt 0, .flt 4607182418800017408, .flt 0, .flt 0, .flt 0, .flt 13830554455654793216, .flt 0, .flt 0, .flt 0], .int .i64 0]) | _ => .no, by
  intro args p r h hp
  split at h
  · cases h; exact quarter12_a _ hp
  · cases h⟩
theorem quarter13_f : FnOk Try.prog 5 Try.f5 := ⟨Try.func5, by kernel_rfl⟩
theorem quarter13_a (m : Int) (hpre : In64 m ∧ bitsA .and .i64 m 3 = 3) : ACalls Try.prog 5 [.int .i64 1, .int .i64 m] (.tup [.agg [.flt 0, .flt 0, .flt 13830554455654793216, .flt 0, .flt 4607182418800017408, .flt 0, .flt 4607182418800017408, .flt 0, .flt 0, .flt 0, .flt 0, .flt 0], .int .i64 0]) := by
  refine acalls_of (inl := hasI (P := Try.prog) [] []) (base [] [] []) 0 quarter13_f (And.intro (by kernel_rfl) ?_)
  repeat' (first | refine And.intro ?_ ?_ | (with_reducible exact ff_elim) | (with_reducible exact tf_elim) | refine num_lit 0 (by decide) ?_ | refine num_lit 1 (by decide) ?_ | refine num_lit 2 (by decide) ?_ | refine num_lit 3 (by decide) ?_ | refine num_lit 4 (by decide) ?_ | refine num_lit 5 (by decide) ?_ | refine num_lit 6 (by decide) ?_ | refine num_lit 7 (by decide) ?_ | refine num_lit 8 (by decide) ?_ | refine num_lit 3 hpre.2 ?_ | (intro h; exact absurd h (by decide)) | refine Or.inl ⟨4, ?_⟩ | refine num_elim ?_ | intro _ | (with_reducible rfl) | ((with_reducible refine lk_t ?_); exact rfl) | refine tell ?_ | exact True.intro | (refine IsT.of ?_; kernel_rfl))
  all_goals (try refine Tell.mk ?_)
  all_goals first | with_reducible rfl | kernel_rfl | (have := hpre.1; omega) | (exfalso; omega) | (trace_state; fail)
def quarter13_k : Con Try.prog := ⟨5, fun args => match args with | [.int .i64 1, .int .i64 m] => .ok (some (In64 m ∧ bitsA .and .i64 m 3 = 3)) (.tup [.agg [.flt 0, .flt 0, .flt 13830554455654793216, .flt 0, .flt 4607182418800017408, .flt 0, .flt 4607182418800017408, .flt 0, .flt 0, .flt 0, .flt 0, .flt 0], .int .i64 0]) | _ => .no, by
  intro args p r h hp
  split at h
  · cases h; exact quarter13_a _ hp
  · cases h⟩
theorem quarter1_f : FnOk Try.prog 5 Try.f5 := ⟨Try.func5, by kernel_rfl⟩
theorem quarter1_a (m : Int) (hpre : In64 m) : ACalls Try.prog 5 [.int .i64 1, .int .i64 m] (.tup [.agg [.flt (cV (m % 4)), .flt 0, .flt (sV (m % 4)), .flt 0, .flt 4607182418800017408, .flt 0, .flt (nV (m % 4)), .flt 0, .flt (cV (m % 4)), .flt 0, .flt 0, .flt 0], .int .i64 0]) := by
  have e := and3 (u := m) ⟨hpre.1, by have := hpre.2; omega⟩
  have h : m % 4 = 0 ∨ m % 4 = 1 ∨ m % 4 = 2 ∨ m % 4 = 3 := by omega
  rcases h with h | h | h | h
  · have := quarter10_a m ⟨hpre, e.trans h⟩
    rw [h]; exact this
  · have := quarter11_a m ⟨hpre, e.trans h⟩
    rw [h]; exact this
  · have := quarter12_a m ⟨hpre, e.trans h⟩
    rw [h]; exact this
  · have := quarter13_a m ⟨hpre, e.trans h⟩
    rw [h]; exact this
def quarter1_k : Con Try.prog := ⟨5, fun args => match args with | [.int .i64 1, .int .i64 m] => .ok (some (In64 m)) (.tup [.agg [.flt (cV (m % 4)), .flt 0, .flt (sV (m % 4)), .flt 0, .flt 4607182418800017408, .flt 0, .flt (nV (m % 4)), .flt 0, .flt (cV (m % 4)), .flt 0, .flt 0, .flt 0], .int .i64 0]) | _ => .no, by
  intro args p r h hp
  split at h
  · cases h; exact quarter1_a _ hp
  · cases h⟩
theorem quarterR1n3_f : FnOk Try.prog 6 Try.f6 := ⟨Try.func6, by kernel_rfl⟩
theorem quarterR1n3_a (m : Int) (hpre : In64 m ∧ m.tmod 4 = (-3)) : ACalls Try.prog 6 [.int .i64 1, .int .i64 m] (.tup [.agg [.flt 0, .flt 0, .flt 4607182418800017408, .flt 0, .flt 4607182418800017408, .flt 0, .flt 13830554455654793216, .flt 0, .flt 0, .flt 0, .flt 0, .flt 0], .int .i64 0]) := by
  refine acalls_of (inl := hasI (P := Try.prog) [⟨28, Try.f28, Try.func28, by kernel_rfl⟩] []) (base [] [⟨28, Try.f28, Try.func28, by kernel_rfl⟩] []) 4 quarterR1n3_f (And.intro (by kernel_rfl) ?_)
  repeat' (first | refine And.intro ?_ ?_ | (with_reducible exact ff_elim) | (with_reducible exact tf_elim) | refine num_lit 0 (by decide) ?_ | refine num_lit 1 (by decide) ?_ | refine num_lit 2 (by decide) ?_ | refine num_lit 3 (by decide) ?_ | refine num_lit 4 (by decide) ?_ | refine num_lit 5 (by decide) ?_ | refine num_lit 6 (by decide) ?_ | refine num_lit 7 (by decide) ?_ | refine num_lit 8 (by decide) ?_ | refine num_lit (-3) hpre.2 ?_ | (intro h; exact absurd h (by decide)) | refine Or.inl ⟨4, ?_⟩ | refine num_elim ?_ | intro _ | (with_reducible rfl) | ((with_reducible refine lk_t ?_); exact rfl) | refine tell ?_ | exact True.intro | (refine IsT.of ?_; kernel_rfl))
  all_goals (try refine Tell.mk ?_)
  all_goals first | with_reducible rfl | kernel_rfl | (have := hpre.1; omega) | (exfalso; omega) | (trace_state; fail)
def quarterR1n3_k : Con Try.prog := ⟨6, fun args => match args with | [.int .i64 1, .int .i64 m] => .ok (some (In64 m ∧ m.tmod 4 = (-3))) (.tup [.agg [.flt 0, .flt 0, .flt 4607182418800017408, .flt 0, .flt 4607182418800017408, .flt 0, .flt 13830554455654793216, .flt 0, .flt 0, .flt 0, .flt 0, .flt 0], .int .i64 0]) | _ => .no, by
  intro args p r h hp
  split at h
  · cases h; exact quarterR1n3_a _ hp
  · cases h⟩
theorem quarterR1n2_f : FnOk Try.prog 6 Try.f6 := ⟨Try.func6, by kernel_rfl⟩
theorem quarterR1n2_a (m : Int) (hpre : In64 m ∧ m.tmod 4 = (-2)) : ACalls Try.prog 6 [.int .i64 1, .int .i64 m] (.tup [.agg [.flt 13830554455654793216, .flt 0, .flt 0, .flt 0, .flt 4607182418800017408, .flt 0, .flt 0, .flt 0, .flt 13830554455654793216, .flt 0, .flt 0, .flt 0], .int .i64 0]) := by
  refine acalls_of (inl := hasI (P := Try.prog) [⟨28, Try.f28, Try.func28, by kernel_rfl⟩] []) (base [] [⟨28, Try.f28, Try.func28, by kernel_rfl⟩] []) 4 quarterR1n2_f (And.intro (by kernel_rfl) ?_)
  repeat' (first | refine And.intro ?_ ?_ | (with_reducible exact ff_elim) | (with_reducible exact tf_elim) | refine num_lit 0 (by decide) ?_ | refine num_lit 1 (by decide) ?_ | refine num_lit 2 (by decide) ?_ | refine num_lit 3 (by decide) ?_ | refine num_lit 4 (by decide) ?_ | refine num_lit 5 (by decide) ?_ | refine num_lit 6 (by decide) ?_ | refine num_lit 7 (by decide) ?_ | refine num_lit 8 (by decide) ?_ | refine num_lit (-2) hpre.2 ?_ | (intro h; exact absurd h (by decide)) | refine Or.inl ⟨4, ?_⟩ | refine num_elim ?_ | intro _ | (with_reducible rfl) | ((with_reducible refine lk_t ?_); exact rfl) | refine tell ?_ | exact True.intro | (refine IsT.of ?_; kernel_rfl))
  all_goals (try refine Tell.mk ?_)
  all_goals first | with_reducible rfl | kernel_rfl | (have := hpre.1; omega) | (exfalso; omega) | (trace_state; fail)
def quarterR1n2_k : Con Try.prog := ⟨6, fun args => match args with | [.int .i64 1, .int .i64 m] => .ok (some (In64 m ∧ m.tmod 4 = (-2))) (.tup [.agg [.flt 13830554455654793216, .flt 0, .flt 0, .flt 0, .flt 4607182418800017408, .flt 0, .flt 0, .flt 0, .flt 13830554455654793216, .flt 0, .flt 0, .flt 0], .int .i64 0]) | _ => .no, by
  intro args p r h hp
  split at h
  · cases h; exact quarterR1n2_a _ hp
  · cases h⟩
theorem quarterR1n1_f : FnOk Try.prog 6 Try.f6 := ⟨Try.func6, by kernel_rfl⟩
theorem quarterR1n1_a (m : Int) (hpre : In64 m ∧ m.tmod 4 = (-1)) : ACalls Try.prog 6 [.int .i64 1, .int .i64 m] (.tup [.agg [.flt 0, .flt 0, .flt 13830554455654793216, .flt 0, .flt 4607182418800017408, .flt 0, .flt 4607182418800017408, .flt 0, .flt 0, .flt 0, .flt 0, .flt 0], .int .i64 0]) := by
  refine acalls_of (inl := hasI (P := Try.prog) [⟨28, Try.f28, Try.func28, by kernel_rfl⟩] []) (base [] [⟨28, Try.f28, Try.func28, by kernel_rfl⟩] []) 4 quarterR1n1_f (And.intro (by kernel_rfl) ?_)
  repeat' (first | refine And.intro ?_ ?_ | (with_reducible exact ff_elim) | (with_reducible exact tf_elim) | refine num_lit 0 (by decide) ?_ | refine num_lit 1 (by decide) ?_ | refine num_lit 2 (by decide) ?_ | refine num_lit 3 (by decide) ?_ | refine num_lit 4 (by decide) ?_ | refine num_lit 5 (by decide) ?_ | refine num_lit 6 (by decide) ?_ | refine num_lit 7 (by decide) ?_ | refine num_lit 8 (by decide) ?_ | refine num_lit (-1) hpre.2 ?_ | (intro h; exact absurd h (by decide)) | refine Or.inl ⟨4, ?_⟩ | refine num_elim ?_ | intro _ | (with_reducible rfl) | ((with_reducible refine lk_t ?_); exact rfl) | refine tell ?_ | exact True.intro | (refine IsT.of ?_; kernel_rfl))
  all_goals (try refine Tell.mk ?_)
  all_goals first | with_reducible rfl | kernel_rfl | (have := hpre.1; omega) | (exfalso; omega) | (trace_state; fail)
def quarterR1n1_k : Con Try.prog := ⟨6, fun args => match args with | [.int .i64 1, .int .i64 m] => .ok (some (In64 m ∧ m.tmod 4 = (-1))) (.tup [.agg [.flt 0, .flt 0, .flt 13830554455654793216, .flt 0, .flt 4607182418800017408, .flt 0, .flt 4607182418800017408, .flt 0, .flt 0, .flt 0, .flt 0, .flt 0], .int .i64 0]) | _ => .no, by
  intro args p r h hp
  split at h
  · cases h; exact quarterR1n1_a _ hp
  · cases h⟩
theorem quarterR1p0_f : FnOk Try.prog 6 Try.f6 := ⟨Try.func6, by kernel_rfl⟩
theorem quarterR1p0_a (m : Int) (hpre : In64 m ∧ m.tmod 4 = 0) : ACalls Try.prog 6 [.int .i64 1, .int .i64 m] (.tup [.agg [.flt 4607182418800017408, .flt 0, .flt 0, .flt 0, .flt 4607182418800017408, .flt 0, .flt 0, .flt 0, .flt 4607182418800017408, .flt 0, .flt 0, .flt 0], .int .i64 0]) := by
  refine acalls_of (inl := hasI (P := Try.prog) [⟨28, Try.f28, Try.func28, by kernel_rfl⟩] []) (base [] [⟨28, Try.f28, Try.func28, by kernel_rfl⟩] []) 4 quarterR1p0_f (And.intro (by kernel_rfl) ?_)
  repeat' (first | refine And.intro ?_ ?_ | (with_reducible exact ff_elim) | (with_reducible exact tf_elim) | refine num_lit 0 (by decide) ?_ | refine num_lit 1 (by decide) ?_ | refine num_lit 2 (by decide) ?_ | refine num_lit 3 (by decide) ?_ | refine num_lit 4 (by decide) ?_ | refine num_lit 5 (by decide) ?_ | refine num_lit 6 (by decide) ?_ | refine num_lit 7 (by decide) ?_ | refine num_lit 8 (by decide) ?_ | refine num_lit 0 hpre.2 ?_ | (intro h; exact absurd h (by decide)) | refine Or.inl ⟨4, ?_⟩ | refine num_elim ?_ | intro _ | (with_reducible rfl) | ((with_reducible refine lk_t ?_); exact rfl) | refine tell ?_ | exact True.intro | (refine IsT.of ?_; kernel_rfl))
  all_goals (try refine Tell.mk ?_)
  all_goals first | with_reducible rfl | kernel_rfl | (have := hpre.1; omega) | (exfalso; omega) | (trace_state; fail)
def quarterR1p0_k : Con Try.prog := ⟨6, fun args => match args with | [.int .i64 1, .int .i64 m] => .ok (some (In64 m ∧ m.tmod 4 = 0)) (.tup [.agg [.flt 4607182418800017408, .flt 0, .flt 0, .flt 0, .flt 4607182418800017408, .flt 0, .flt 0, .flt 0, .flt 4607182418800017408, .flt 0, .flt 0, .flt 0], .int .i64 0]) | _ => .no, by
  intro args p r h hp
  split at h
  · cases h; exact quarterR1p0_a _ hp
  · cases h⟩
theorem quarterR1p1_f : FnOk Try.prog 6 Try.f6 := ⟨Try.func6, by kernel_rfl⟩
theorem quarterR1p1_a (m : Int) (hpre : In64 m ∧ m.tmod 4 = 1) : ACalls Try.prog 6 [.int .i64 1, .int .i64 m] (.tup [.agg [.flt 0, .flt 0, .flt 4607182418800017408, .flt 0, .flt 4607182418800017408, .flt 0, .flt 13830554455654793216, .flt 0, .flt 0, .flt 0, .flt 0, .flt 0], .int .i64 0]) := by
  refine acalls_of (inl := hasI (P := Try.prog) [⟨28, Try.f28, Try.func28, by kernel_rfl⟩] []) (base [] [⟨28, Try.f28, Try.func28, by kernel_rfl⟩] []) 4 quarterR1p1_f (And.intro (by kernel_rfl) ?_)
  repeat' (first | refine And.intro ?_ ?_ | (with_reducible exact ff_elim) | (with_reducible exact tf_elim) | refine num_lit 0 (by decide) ?_ | refine num_lit 1 (by decide) ?_ | refine num_lit 2 (by decide) ?_ | refine num_lit 3 (by decide) ?_ | refine num_lit 4 (by decide) ?_ | refine num_lit 5 (by decide) ?_ | refine num_lit 6 (by decide) ?_ | refine num_lit 7 (by decide) ?_ | refine num_lit 8 (by decide) ?_ | refine num_lit 1 hpre.2 ?_ | (intro h; exact absurd h (by decide)) | refine Or.inl ⟨4, ?_⟩ | refine num_elim ?_ | intro _ | (with_reducible rfl) | ((with_reducible refine lk_t ?_); exact rfl) | refine tell ?_ | exact True.intro | (refine IsT.of ?_; kernel_rfl))
  all_goals (try refine Tell.mk ?_)
  all_goals first | with_reducible rfl | kernel_rfl | (have := hpre.1; omega) | (exfalso; omega) | (trace_state; fail)
def quarterR1p1_k : Con Try.prog := ⟨6, fun args => match args with | [.int .i64 1, .int .i64 m] => .ok (some (In64 m ∧ m.tmod 4 = 1)) (.tup [.agg [.flt 0, .flt 0, .flt 4607182418800017408, .flt 0, .flt 4607182418800017408, .flt 0, .flt 13830554455654793216, .flt 0, .flt 0, .flt 0, .flt 0, .flt 0], .int .i64 0]) | _ => .no, by
  intro args p r h hp
  split at h
  · cases h; exact quarterR1p1_a _ hp
  · cases h⟩
theorem quarterR1p2_f : FnOk Try.prog 6 Try.f6 := ⟨Try.func6, by kernel_rfl⟩
theorem quarterR1p2_a (m : Int) (hpre : In64 m ∧ m.tmod 4 = 2) : ACalls Try.prog 6 [.int .i64 1, .int .i64 m] (.tup [.agg [.flt 13830554455654793216, .flt 0, .flt 0, .flt 0, .flt 4607182418800017408, .flt 0, .flt 0, .flt 0, .flt 13830554455654793216, .flt 0, .flt 0, .flt 0], .int .i64 0]) := by
  refine acalls_of (inl := hasI (P := Try.prog) [⟨28, Try.f28, Try.func28, by kernel_rfl⟩] []) (base [] [⟨28, Try.f28, Try.func28, by kernel_rfl⟩] []) 4 quarterR1p2_f (And.intro (by kernel_rfl) ?_)
  repeat' (first | refine And.intro ?_ ?_ | (with_reducible exact ff_elim) | (with_reducible exact tf_elim) | refine num_lit 0 (by decide) ?_ | refine num_lit 1 (by decide) ?_ | refine num_lit 2 (by decide) ?_ | refine num_lit 3 (by decide) ?_ | refine num_lit 4 (by decide) ?_ | refine num_lit 5 (by decide) ?_ | refine num_lit 6 (by decide) ?_ | refine num_lit 7 (by decide) ?_ | refine num_lit 8 (by decide) ?_ | refine num_lit 2 hpre.2 ?_ | (intro h; exact absurd h (by decide)) | refine Or.inl ⟨4, ?_⟩ | refine num_elim ?_ | intro _ | (with_reducible rfl) | ((with_reducible refine lk_t ?_); exact rfl) | refine tell ?_ | exact True.intro | (refine IsT.of ?_; kernel_rfl))
  all_goals (try refine Tell.mk ?_)
  all_goals first | with_reducible rfl | kernel_rfl | (have := hpre.1; omega) | (exfalso; omega) | (trace_state; fail)
def quarterR1p2_k : Con Try.prog := ⟨6, fun args => match args with | [.int .i64 1, .int .i64 m] => .ok (some (In64 m ∧ m.tmod 4 = 2)) (.tup [.agg [.flt 13830554455654793216, .flt 0, .flt 0, .flt 0, .flt 4607182418800017408, .flt 0, .flt 0, .flt 0, .flt 13830554455654793216, .flt 0, .flt 0, .flt 0], .int .i64 0]) | _ => .no, by
  intro args p r h hp
  split at h
  · cases h; exact quarterR1p2_a _ hp
  · cases h⟩
theorem quarterR1p3_f : FnOk Try.prog 6 Try.f6 := ⟨Try.func6, by kernel_rfl⟩
theorem quarterR1p3_a (m : Int) (hpre : In64 m ∧ m.tmod 4 = 3) : ACalls Try.prog 6 [.int .i64 1, .int .i64 m] (.tup [.agg [.flt 0, .flt 0, .flt 13830554455654793216, .flt 0, .flt 4607182418800017408, .flt 0, .flt 4607182418800017408, .flt 0, .flt 0, .flt 0, .flt 0, .flt 0], .int .i64 0]) := by
  refine acalls_of (inl := hasI (P := Try.prog) [⟨28, Try.f28, Try.func28, by kernel_rfl⟩] []) (base [] [⟨28, Try.f28, Try.func28, by kernel_rfl⟩] []) 4 quarterR1p3_f (And.intro (by kernel_rfl) ?_)
  repeat' (first | refine And.intro ?_ ?_ | (with_reducible exact ff_elim) | (with_reducible exact tf_elim) | refine num_lit 0 (by decide) ?_ | refine num_lit 1 (by decide) ?_ | refine num_lit 2 (by decide) ?_ | refine num_lit 3 (by decide) ?_ | refine num_lit 4 (by decide) ?_ | refine num_lit 5 (by decide) ?_ | refine num_lit 6 (by decide) ?_ | refine num_lit 7 (by decide) ?_ | refine num_lit 8 (by decide) ?_ | refine num_lit 3 hpre.2 ?_ | (intro h; exact absurd h (by decide)) | refine Or.inl ⟨4, ?_⟩ | refine num_elim ?_ | intro _ | (with_reducible rfl) | ((with_reducible refine lk_t ?_); exact rfl) | refine tell ?_ | exact True.intro | (refine IsT.of ?_; kernel_rfl))
  all_goals (try refine Tell.mk ?_)
  all_goals first | with_reducible rfl | kernel_rfl | (have := hpre.1; omega) | (exfalso; omega) | (trace_state; fail)
def quarterR1p3_k : Con Try.prog := ⟨6, fun args => match args with | [.int .i64 1, .int .i64 m] => .ok (some (In64 m ∧ m.tmod 4 = 3)) (.tup [.agg [.flt 0, .flt 0, .flt 13830554455654793216, .flt 0, .flt 4607182418800017408, .flt 0, .flt 4607182418800017408, .flt 0, .flt 0, .flt 0, .flt 0, .flt 0], .int .i64 0]) | _ => .no, by
  intro args p r h hp
  split at h
  · cases h; exact quarterR1p3_a _ hp
  · cases h⟩
theorem quarterR1_f : FnOk Try.prog 6 Try.f6 := ⟨Try.func6, by kernel_rfl⟩
theorem quarterR1_a (m : Int) (hpre : In64 m) : ACalls Try.prog 6 [.int .i64 1, .int .i64 m] (.tup [.agg [.flt (cV (m % 4)), .flt 0, .flt (sV (m % 4)), .flt 0, .flt 4607182418800017408, .flt 0, .flt (nV (m % 4)), .flt 0, .flt (cV (m % 4)), .flt 0, .flt 0, .flt 0], .int .i64 0]) := by
  have h1 := Int.tmod_add_mul_tdiv m 4
  have h2 := Int.tmod_lt_of_pos m (show (0 : Int) < 4 by decide)
  have h3 := Int.lt_tmod_of_pos m (show (0 : Int) < 4 by decide)
  have h : m.tmod 4 = -3 ∧ m % 4 = 1 ∨ m.tmod 4 = -2 ∧ m % 4 = 2 ∨ m.tmod 4 = -1 ∧ m % 4 = 3 ∨ m.tmod 4 = 0 ∧ m % 4 = 0 ∨ m.tmod 4 = 1 ∧ m % 4 = 1 ∨ m.tmod 4 = 2 ∧ m % 4 = 2 ∨ m.tmod 4 = 3 ∧ m % 4 = 3 := by omega
  rcases h with ⟨h, h'⟩ | ⟨h, h'⟩ | ⟨h, h'⟩ | ⟨h, h'⟩ | ⟨h, h'⟩ | ⟨h, h'⟩ | ⟨h, h'⟩
  · have := quarterR1n3_a m ⟨hpre, h⟩
    rw [h']; exact this
  · have := quarterR1n2_a m ⟨hpre, h⟩
    rw [h']; exact this
  · have := quarterR1n1_a m ⟨hpre, h⟩
    rw [h']; exact this
  · have := quarterR1p0_a m ⟨hpre, h⟩
    rw [h']; exact this
  · have := quarterR1p1_a m ⟨hpre, h⟩
    rw [h']; exact this
  · have := quarterR1p2_a m ⟨hpre, h⟩
    rw [h']; exact this
  · have := quarterR1p3_a m ⟨hpre, h⟩
    rw [h']; exact this
def quarterR1_k : Con Try.prog := ⟨6, fun args => match args with | [.int .i64 1, .int .i64 m] => .ok (some (In64 m)) (.tup [.agg [.flt (cV (m % 4)), .flt 0, .flt (sV (m % 4)), .flt 0, .flt 4607182418800017408, .flt 0, .flt (nV (m % 4)), .flt 0, .flt (cV (m % 4)), .flt 0, .flt 0, .flt 0], .int .i64 0]) | _ => .no, by
  intro args p r h hp
  split at h
  · cases h; exact quarterR1_a _ hp
  · cases h⟩
theorem quarter20_f : FnOk Try.prog 5 Try.f5 := ⟨Try.func5, by kernel_rfl⟩
theorem quarter20_a (m : Int) (hpre : In64 m ∧ bitsA .and .i64 m 3 = 0) : ACalls Try.prog 5 [.int .i64 2, .int .i64 m] (.tup [.agg [.flt 4607182418800017408, .flt 0, .flt 0, .flt 0, .flt 4607182418800017408, .flt 0, .flt 0, .flt 0, .flt 4607182418800017408, .flt 0, .flt 0, .flt 0], .int .i64 0]) := by
  refine acalls_of (inl := hasI (P := Try.prog) [] []) (base [] [] []) 0 quarter20_f (And.intro (by kernel_rfl) ?_)
  repeat' (first | refine And.intro ?_ ?_ | (with_reducible exact ff_elim) | (with_reducible exact tf_elim) | refine num_lit 0 (by decide) ?_ | refine num_lit 1 (by decide) ?_ | refine num_lit 2 (by decide) ?_ | refine num_lit 3 (by decide) ?_ | refine num_lit 4 (by decide) ?_ | refine num_lit 5 (by decide) ?_ | refine num_lit 6 (by decide) ?_ | refine num_lit 7 (by decide) ?_ | refine num_lit 8 (by decide) ?_ | refine num_lit 0 hpre.2 ?_ | (intro h; exact absurd h (by decide)) | refine Or.inl ⟨4, ?_⟩ | refine num_elim ?_ | intro _ | (with_reducible rfl) | ((with_reducible refine lk_t ?_); exact rfl) | refine tell ?_ | exact True.intro | (refine IsT.of ?_; kernel_rfl))
  all_goals (try refine Tell.mk ?_)
  all_goals first | with_reducible rfl | kernel_rfl | (have := hpre.1; omega) | (exfalso; omega) | (trace_state; fail)
def quarter20_k : Con Try.prog := ⟨5, fun args => match args with | [.int .i64 2, .int .i64 m] => .ok (some (In64 m ∧ bitsA .and .i64 m 3 = 0)) (.tup [.agg [.flt 4607182418800017408, .flt 0, .flt 0, .flt 0, .flt 4607182418800017408, .flt 0, .flt 0, .flt 0, .flt 4607182418800017408, .flt 0, .flt 0, .flt 0], .int .i64 0]) | _ => .no, by
  intro args p r h hp
  split at h
  · cases h; exact quarter20_a _ hp
  · cases h⟩
theorem quarter21_f : FnOk Try.prog 5 Try.f5 := ⟨Try.func5, by kernel_rfl⟩
theorem quarter21_a (m : Int) (hpre : In64 m ∧ bitsA .and .i64 m 3 = 1) : ACalls Try.prog 5 [.int .i64 2, .int .i64 m] (.tup [.agg [.flt 0, .flt 13830554455654793216, .flt 0, .flt 4607182418800017408, .flt 0, .flt 0, .flt 0, .flt 0, .flt 4607182418800017408, .flt 0, .flt 0, .flt 0], .int .i64 0]) := by
  refine acalls_of (inl := hasI (P := Try.prog) [] []) (base [] [] []) 0 quarter21_f (And.intro (by kernel_rfl) ?_)
  repeat' (first | refine And.intro ?_ ?_ | (with_reducible exact ff_elim) | (with_reducible exact tf_elim) | refine num_lit 0 (by decide) ?_ | refine num_lit 1 (by decide) ?_ | refine num_lit 2 (by decide) ?_ | refine num_lit 3 (by decide) ?_ | refine num_lit 4 (by decide) ?_ | refine num_lit 5 (by decide) ?_ | refine num_lit 6 (by decide) ?_ | refine num_lit 7 (by decide) ?_ | refine num_lit 8 (by decide) ?_ | refine num_lit 1 hpre.2 ?_ | (intro h; exact absurd h (by decide)) | refine Or.inl ⟨4, ?_⟩ | refine num_elim ?_ | intro _ | (with_reducible rfl) | ((with_reducible refine lk_t ?_); exact rfl) | refine tell ?_ | exact True.intro | (refine IsT.of ?_; kernel_rfl))
  all_goals (try refine Tell.mk ?_)
  all_goals first | with_reducible rfl | kernel_rfl | (have := hpre.1; omega) | (exfalso; omega) | (trace_state; fail)
def quarter21_k : Con Try.prog := ⟨5, fun args => match args with | [.int .i64 2, .int .i64 m] => .ok (some (In64 m ∧ bitsA .and .i64 m 3 = 1)) (.tup [.agg [.flt 0, .flt 13830554455654793216, .flt 0, .flt 4607182418800017408, .flt 0, .flt 0, .flt 0, .flt 0, .flt 4607182418800017408, .flt 0, .flt 0, .flt 0], .int .i64 0]) | _ => .no, by
  intro args p r h hp
  split at h
  · cases h; exact quarter21_a _ hp
  · cases h⟩
theorem quarter22_f : FnOk Try.prog 5 Try.f5 := ⟨Try.func5, by kernel_rfl⟩
theorem quarter22_a (m : Int) (hpre : In64 m ∧ bitsA .and .i64 m 3 = 2) : ACalls Try.prog 5 [.int .i64 2, .int .i64 m] (.tup [.agg [.flt 13830554455654793216, .flt 0, .flt 0, .flt 0, .flt 13830554455654793216, .flt 0, .flt 0, .flt 0, .flt 4607182418800017408, .flt 0, .flt 0, .flt 0], .int .i64 0]) := by
  refine acalls_of (inl := hasI (P := Try.prog) [] []) (base [] [] []) 0 quarter22_f (And.intro (by kernel_rfl) ?_)
  repeat' (first | refine And.intro ?_ ?_ | (with_reducible exact ff_elim) | (with_reducible exact tf_elim) | refine num_lit 0 (by decide) ?_ | refine num_lit 1 (by decide) ?_ | refine num_lit 2 (by decide) ?_ | refine num_lit 3 (by decide) ?_ | refine num_lit 4 (by decide) ?_ | refine num_lit 5 (by decide) ?_ | refine num_lit 6 (by decide) ?_ | refine num_lit 7 (by decide) ?_ | refine num_lit 8 (by decide) ?_ | refine num_lit 2 hpre.2 ?_ | (intro h; exact absurd h (by decide)) | refine Or.inl ⟨4, ?_⟩ | refine num_elim ?_ | intro _ | (with_reducible rfl) | ((with_reducible refine lk_t ?_); exact rfl) | refine tell ?_ | exact True.intro | (refine IsT.of ?_; kernel_rfl))
  all_goals (try refine Tell.mk ?_)
  all_goals first | with_reducible rfl | kernel_rfl | (have := hpre.1; omega) | (exfalso; omega) | (trace_state; fail)
def quarter22_k : Con Try.prog := ⟨5, fun args => match args with | [.int .i64 2, .int .i64 m] => .ok (some (In64 m ∧ bitsA .and .i64 m 3 = 2)) (.tup [.agg [.flt 13830554455654793216, .flt 0, .flt 0, .flt 0, .flt 13830554455654793216, .flt 0, .flt 0, .flt 0, .flt 4607182418800017408, .flt 0, .flt 0, .flt 0], .int .i64 0]) | _ => .no, by
  intro args p r h hp
  split at h
  · cases h; exact quarter22_a _ hp
  · cases h⟩
theorem quarter23_f : FnOk Try.prog 5 Try.f5 := ⟨Try.func5, by kernel_rfl⟩
theorem quarter23_a (m : Int) (hpre : In64 m ∧ bitsA .and .i64 m 3 = 3) : ACalls Try.prog 5 [.int .i64 2, .int .i64 m] (.tup [.agg [.flt 0, .flt 4607182418800017408, .flt 0, .flt 13830554455654793216, .flt 0, .flt 0, .flt 0, .flt 0, .flt 4607182418800017408, .flt 0, .flt 0, .flt 0], .int .i64 0]) := by
  refine acalls_of (inl := hasI (P := Try.prog) [] []) (base [] [] []) 0 quarter23_f (And.intro (by kernel_rfl) ?_)
  repeat' (first | refine And.intro ?_ ?_ | (with_reducible exact ff_elim) | (with_reducible exact tf_elim) | refine num_lit 0 (by decide) ?_ | refine num_lit 1 (by decide) ?_ | refine num_lit 2 (by decide) ?_ | refine num_lit 3 (by decide) ?_ | refine num_lit 4 (by decide) ?_ | refine num_lit 5 (by decide) ?_ | refine num_lit 6 (by decide) ?_ | refine num_lit 7 (by decide) ?_ | refine num_lit 8 (by decide) ?_ | refine num_lit 3 hpre.2 ?_ | (intro h; exact absurd h (by decide)) | refine Or.inl ⟨4, ?_⟩ | refine num_elim ?_ | intro _ | (with_reducible rfl) | ((with_reducible refine lk_t ?_); exact rfl) | refine tell ?_ | exact True.intro | (refine IsT.of ?_; kernel_rfl))
  all_goals (try refine Tell.mk ?_)
  all_goals first | with_reducible rfl | kernel_rfl | (have := hpre.1; omega) | (exfalso; omega) | (trace_state; fail)
def quarter23_k : Con Try.prog := ⟨5, fun args => match args with | [.int .i64 2, .int .i64 m] => .ok (some (In64 m ∧ bitsA .and .i64 m 3 = 3)) (.tup [.agg [.flt 0, .flt 4607182418800017408, .flt 0, .flt 13830554455654793216, .flt 0, .flt 0, .flt 0, .flt 0, .flt 4607182418800017408, .flt 0, .flt 0, .flt 0], .int .i64 0]) | _ => .no, by
  intro args p r h hp
  split at h
  · cases h; exact quarter23_a _ hp
  · cases h⟩
theorem quarter2_f : FnOk Try.prog 5 Try.f5 := ⟨Try.func5, by kernel_rfl⟩
theorem quarter2_a (m : Int) (hpre : In64 m) : ACalls Try.prog 5 [.int .i64 2, .int .i64 m] (.tup [.agg [.flt (cV (m % 4)), .flt (nV (m % 4)), .flt 0, .flt (sV (m % 4)), .flt (cV (m % 4)), .flt 0, .flt 0, .flt 0, .flt 4607182418800017408, .flt 0, .flt 0, .flt 0], .int .i64 0]) := by
  have e := and3 (u := m) ⟨hpre.1, by have := hpre.2; omega⟩
  have h : m % 4 = 0 ∨ m % 4 = 1 ∨ m % 4 = 2 ∨ m % 4 = 3 := by omega
  rcases h with h | h | h | h
  · have := quarter20_a m ⟨hpre, e.trans h⟩
    rw [h]; exact this
  · have := quarter21_a m ⟨hpre, e.trans h⟩
    rw [h]; exact this
  · have := quarter22_a m ⟨hpre, e.trans h⟩
    rw [h]; exact this
  · have := quarter23_a m ⟨hpre, e.trans h⟩
    rw [h]; exact this
def quarter2_k : Con Try.prog := ⟨5, fun args => match args with | [.int .i64 2, .int .i64 m] => .ok (some (In64 m)) (.tup [.agg [.flt (cV (m % 4)), .flt (nV (m % 4)), .flt 0, .flt (sV (m % 4)), .flt (cV (m % 4)), .flt 0, .flt 0, .flt 0, .flt 4607182418800017408, .flt 0, .flt 0, .flt 0], .int .i64 0]) | _ => .no, by
  intro args p r h hp
  split at h
  · cases h; exact quarter2_a _ hp
  · cases h⟩
theorem quarterR2n3_f : FnOk Try.prog 6 Try.f6 := ⟨Try.func6, by kernel_rfl⟩
theorem quarterR2n3_a (m : Int) (hpre : In64 m ∧ m.tmod 4 = (-3)) : ACalls Try.prog 6 [.int .i64 2, .int .i64 m] (.tup [.agg [.flt 0, .flt 13830554455654793216, .flt 0, .flt 4607182418800017408, .flt 0, .flt 0, .flt 0, .flt 0, .flt 4607182418800017408, .flt 0, .flt 0, .flt 0], .int .i64 0]) := by
  refine acalls_of (inl := hasI (P := Try.prog) [⟨28, Try.f28, Try.func28, by kernel_rfl⟩] []) (base [] [⟨28, Try.f28, Try.func28, by kernel_rfl⟩] []) 4 quarterR2n3_f (And.intro (by kernel_rfl) ?_)
  repeat' (first | refine And.intro ?_ ?_ | (with_reducible exact ff_elim) | (with_reducible exact tf_elim) | refine num_lit 0 (by decide) ?_ | refine num_lit 1 (by decide) ?_ | refine num_lit 2 (by decide) ?_ | refine num_lit 3 (by decide) ?_ | refine num_lit 4 (by decide) ?_ | refine num_lit 5 (by decide) ?_ | refine num_lit 6 (by decide) ?_ | refine num_lit 7 (by decide) ?_ | refine num_lit 8 (by decide) ?_ | refine num_lit (-3) hpre.2 ?_ | (intro h; exact absurd h (by decide)) | refine Or.inl ⟨4, ?_⟩ | refine num_elim ?_ | intro _ | (with_reducible rfl) | ((with_reducible refine lk_t ?_); exact rfl) | refine tell ?_ | exact True.intro | (refine IsT.of ?_; kernel_rfl))
  all_goals (try refine Tell.mk ?_)
  all_goals first | with_reducible rfl | kernel_rfl | (have := hpre.1; omega) | (exfalso; omega) | (trace_state; fail)
def quarterR2n3_k : Con Try.prog := ⟨6, fun args => match args with | [.int .i64 2, .int .i64 m] => .ok (some (In64 m ∧ m.tmod 4 = (-3))) (.tup [.agg [.flt 0, .flt 13830554455654793216, .flt 0, .flt 4607182418800017408, .flt 0, .flt 0, .flt 0, .flt 0, .flt 4607182418800017408, .flt 0, .flt 0, .flt 0], .int .i64 0]) | _ => .no, by
  intro args p r h hp
  split at h
  · cases h; exact quarterR2n3_a _ hp
  · cases h⟩
theorem quarterR2n2_f : FnOk Try.prog 6 Try.f6 := ⟨Try.func6, by kernel_rfl⟩
theorem quarterR2n2_a (m : Int) (hpre : In64 m ∧ m.tmod 4 = (-2)) : ACalls Try.prog 6 [.int .i64 2, .int .i64 m] (.tup [.agg [.flt 13830554455654793216, .flt 0, .flt 0, .flt 0, .flt 13830554455654793216, .flt 0, .flt 0, .flt 0, .flt 4607182418800017408, .flt 0, .flt 0, .flt 0], .int .i64 0]) := by
  refine acalls_of (inl := hasI (P := Try.prog) [⟨28, Try.f28, Try.func28, by kernel_rfl⟩] []) (base [] [⟨28, Try.f28, Try.func28, by kernel_rfl⟩] []) 4 quarterR2n2_f (And.intro (by kernel_rfl) ?_)
  repeat' (first | refine And.intro ?_ ?_ | (with_reducible exact ff_elim) | (with_reducible exact tf_elim) | refine num_lit 0 (by decide) ?_ | refine num_lit 1 (by decide) ?_ | refine num_lit 2 (by decide) ?_ | refine num_lit 3 (by decide) ?_ | refine num_lit 4 (by decide) ?_ | refine num_lit 5 (by decide) ?_ | refine num_lit 6 (by decide) ?_ | refine num_lit 7 (by decide) ?_ | refine num_lit 8 (by decide) ?_ | refine num_lit (-2) hpre.2 ?_ | (intro h; exact absurd h (by decide)) | refine Or.inl ⟨4, ?_⟩ | refine num_elim ?_ | intro _ | (with_reducible rfl) | ((with_reducible refine lk_t ?_); exact rfl) | refine tell ?_ | exact True.intro | (refine IsT.of ?_; kernel_rfl))
  all_goals (try refine Tell.mk ?_)
  all_goals first | with_reducible rfl | kernel_rfl | (have := hpre.1; omega) | (exfalso; omega) | (trace_state; fail)
def quarterR2n2_k : Con Try.prog := ⟨6, fun args => match args with | [.int .i64 2, .int .i64 m] => .ok (some (In64 m ∧ m.tmod 4 = (-2))) (.tup [.agg [.flt 13830554455654793216, .flt 0, .flt 0, .flt 0, .flt 13830554455654793216, .flt 0, .flt 0, .flt 0, .flt 4607182418800017408, .flt 0, .flt 0, .flt 0], .int .i64 0]) | _ => .no, by
  intro args p r h hp
  split at h
  · cases h; exact quarterR2n2_a _ hp
  · cases h⟩
theorem quarterR2n1_f : FnOk Try.prog 6 Try.f6 := ⟨Try.func6, by kernel_rfl⟩
theorem quarterR2n1_a (m : Int) (hpre : In64 m ∧ m.tmod 4 = (-1)) : ACalls Try.prog 6 [.int .i64 2, .int .i64 m] (.tup [.agg [.flt 0, .flt 4607182418800017408, .flt 0, .flt 13830554455654793216, .flt 0, .flt 0, .flt 0, .flt 0, .flt 4607182418800017408, .flt 0, .flt 0, .flt 0], .int .i64 0]) := by
  refine acalls_of (inl := hasI (P := Try.prog) [⟨28, Try.f28, Try.func28, by kernel_rfl⟩] []) (base [] [⟨28, Try.f28, Try.func28, by kernel_rfl⟩] []) 4 quarterR2n1_f (And.intro (by kernel_rfl) ?_)
  repeat' (first | refine And.intro ?_ ?_ | (with_reducible exact ff_elim) | (with_reducible exact tf_elim) | refine num_lit 0 (by decide) ?_ | refine num_lit 1 (by decide) ?_ | refine num_lit 2 (by decide) ?_ | refine num_lit 3 (by decide) ?_ | refine num_lit 4 (by decide) ?_ | refine num_lit 5 (by decide) ?_ | refine num_lit 6 (by decide) ?_ | refine num_lit 7 (by decide) ?_ | refine num_lit 8 (by decide) ?_ | refine num_lit (-1) hpre.2 ?_ | (intro h; exact absurd h (by decide)) | refine Or.inl ⟨4, ?_⟩ | refine num_elim ?_ | intro _ | (with_reducible rfl) | ((with_reducible refine lk_t ?_); exact rfl) | refine tell ?_ | exact True.intro | (refine IsT.of ?_; kernel_rfl))
  all_goals (try refine Tell.mk ?_)
  all_goals first | with_reducible rfl | kernel_rfl | (have := hpre.1; omega) | (exfalso; omega) | (trace_state; fail)
def quarterR2n1_k : Con Try.prog := ⟨6, fun args => match args with | [.int .i64 2, .int .i64 m] => .ok (some (In64 m ∧ m.tmod 4 = (-1))) (.tup [.agg [.flt 0, .flt 4607182418800017408, .flt 0, .flt 13830554455654793216, .flt 0, .flt 0, .flt 0, .flt 0, .flt 4607182418800017408, .flt 0, .flt 0, .flt 0], .int .i64 0]) | _ => .no, by
  intro args p r h hp
  split at h
  · cases h; exact quarterR2n1_a _ hp
  · cases h⟩
theorem quarterR2p0_f : FnOk Try.prog 6 Try.f6 := ⟨Try.func6, by kernel_rfl⟩
theorem quarterR2p0_a (m : Int) (hpre : In64 m ∧ m.tmod 4 = 0) : ACalls Try.prog 6 [.int .i64 2, .int .i64 m] (.tup [.agg [.flt 4607182418800017408, .flt 0, .flt 0, .flt 0, .flt 4607182418800017408, .flt 0, .flt 0, .flt 0, .flt 4607182418800017408, .flt 0, .flt 0, .flt 0], .int .i64 0]) := by
  refine acalls_of (inl := hasI (P := Try.prog) [⟨28, Try.f28, Try.func28, by kernel_rfl⟩] []) (base [] [⟨28, Try.f28, Try.func28, by kernel_rfl⟩] []) 4 quarterR2p0_f (And.intro (by kernel_rfl) ?_)
  repeat' (first | refine And.intro ?_ ?_ | (with_reducible exact ff_elim) | (with_reducible exact tf_elim) | refine num_lit 0 (by decide) ?_ | refine num_lit 1 (by decide) ?_ | refine num_lit 2 (by decide) ?_ | refine num_lit 3 (by decide) ?_ | refine num_lit 4 (by decide) ?_ | refine num_lit 5 (by decide) ?_ | refine num_lit 6 (by decide) ?_ | refine num_lit 7 (by decide) ?_ | refine num_lit 8 (by decide) ?_ | refine num_lit 0 hpre.2 ?_ | (intro h; exact absurd h (by decide)) | refine Or.inl ⟨4, ?_⟩ | refine num_elim ?_ | intro _ | (with_reducible rfl) | ((with_reducible refine lk_t ?_); exact rfl) | refine tell ?_ | exact True.intro | (refine IsT.of ?_; kernel_rfl))
  all_goals (try refine Tell.mk ?_)
  all_goals first | with_reducible rfl | kernel_rfl | (have := hpre.1; omega) | (exfalso; omega) | (trace_state; fail)
def quarterR2p0_k : Con Try.prog := ⟨6, fun args => match args with | [.int .i64 2, .int .i64 m] => .ok (some (In64 m ∧ m.tmod 4 = 0)) (.tup [.agg [.flt 4607182418800017408, .flt 0, .flt 0, .flt 0, .flt 4607182418800017408, .flt 0, .flt 0, .flt 0, .flt 4607182418800017408, .flt 0, .flt 0, .flt 0], .int .i64 0]) | _ => .no, by
  intro args p r h hp
  split at h
  · cases h; exact quarterR2p0_a _ hp
  · cases h⟩
theorem quarterR2p1_f : FnOk Try.prog 6 Try.f6 := ⟨Try.func6, by kernel_rfl⟩
theorem quarterR2p1_a (m : Int) (hpre : In64 m ∧ m.tmod 4 = 1) : ACalls Try.prog 6 [.int .i64 2, .int .i64 m] (.tup [.agg [.flt 0, .flt 13830554455654793216, .flt 0, .flt 4607182418800017408, .flt 0, .flt 0, .flt 0, .flt 0, .flt 4607182418800017408, .flt 0, .flt 0, .flt 0], .int .i64 0]) := by
  refine acalls_of (inl := hasI (P := Try.prog) [⟨28, Try.f28, Try.func28, by kernel_rfl⟩] []) (base [] [⟨28, Try.f28, Try.func28, by kernel_rfl⟩] []) 4 quarterR2p1_f (And.intro (by kernel_rfl) ?_)
  repeat' (first | refine And.intro ?_ ?_ | (with_reducible exact ff_elim) | (with_reducible exact tf_elim) | refine num_lit 0 (by decide) ?_ | refine num_lit 1 (by decide) ?_ | refine num_lit 2 (by decide) ?_ | refine num_lit 3 (by decide) ?_ | refine num_lit 4 (by decide) ?_ | refine num_lit 5 (by decide) ?_ | refine num_lit 6 (by decide) ?_ | refine num_lit 7 (by decide) ?_ | refine num_lit 8 (by decide) ?_ | refine num_lit 1 hpre.2 ?_ | (intro h; exact absurd h (by decide)) | refine Or.inl ⟨4, ?_⟩ | refine num_elim ?_ | intro _ | (with_reducible rfl) | ((with_reducible refine lk_t ?_); exact rfl) | refine tell ?_ | exact True.intro | (refine IsT.of ?_; kernel_rfl))
  all_goals (try refine Tell.mk ?_)
  all_goals first | with_reducible rfl | kernel_rfl | (have := hpre.1; omega) | (exfalso; omega) | (trace_state; fail)
def quarterR2p1_k : Con Try.prog := ⟨6, fun args => match args with | [.int .i64 2, .int .i64 m] => .ok (some (In64 m ∧ m.tmod 4 = 1)) (.tup [.agg [.flt 0, .flt 13830554455654793216, .flt 0, .flt 4607182418800017408, .flt 0, .flt 0, .flt 0, .flt 0, .flt 4607182418800017408, .flt 0, .flt 0, .flt 0], .int .i64 0]) | _ => .no, by
  intro args p r h hp
  split at h
  · cases h; exact quarterR2p1_a _ hp
  · cases h⟩
theorem quarterR2p2_f : FnOk Try.prog 6 Try.f6 := ⟨Try.func6, by kernel_rfl⟩
theorem quarterR2p2_a (m : Int) (hpre : In64 m ∧ m.tmod 4 = 2) : ACalls Try.prog 6 [.int .i64 2, .int .i64 m] (.tup [.agg [.flt 13830554455654793216, .flt 0, .flt 0, .flt 0, .flt 13830554455654793216, .flt 0, .flt 0, .flt 0, .flt 4607182418800017408, .flt 0, .flt 0, .flt 0], .int .i64 0]) := by
  refine acalls_of (inl := hasI (P := Try.prog) [⟨28, Try.f28, Try.func28, by kernel_rfl⟩] []) (base [] [⟨28, Try.f28, Try.func28, by kernel_rfl⟩] []) 4 quarterR2p2_f (And.intro (by kernel_rfl) ?_)
  repeat' (first | refine And.intro ?_ ?_ | (with_reducible exact ff_elim) | (with_reducible exact tf_elim) | refine num_lit 0 (by decide) ?_ | refine num_lit 1 (by decide) ?_ | refine num_lit 2 (by decide) ?_ | refine num_lit 3 (by decide) ?_ | refine num_lit 4 (by decide) ?_ | refine num_lit 5 (by decide) ?_ | refine num_lit 6 (by decide) ?_ | refine num_lit 7 (by decide) ?_ | refine num_lit 8 (by decide) ?_ | refine num_lit 2 hpre.2 ?_ | (intro h; exact absurd h (by decide)) | refine Or.inl ⟨4, ?_⟩ | refine num_elim ?_ | intro _ | (with_reducible rfl) | ((with_reducible refine lk_t ?_); exact rfl) | refine tell ?_ | exact True.intro | (refine IsT.of ?_; kernel_rfl))
  all_goals (try refine Tell.mk ?_)
  all_goals first | with_reducible rfl | kernel_rfl | (have := hpre.1; omega) | (exfalso; omega) | (trace_state; fail)
def quarterR2p2_k : Con Try.prog := ⟨6, fun args => match args with | [.int .i64 2, .int .i64 m] => .ok (some (In64 m ∧ m.tmod 4 = 2)) (.tup [.agg [.flt 13830554455654793216, .flt 0, .flt 0, .flt 0, .flt 13830554455654793216, .flt 0, .flt 0, .flt 0, .flt 4607182418800017408, .flt 0, .flt 0, .flt 0], .int .i64 0]) | _ => .no, by
  intro args p r h hp
  split at h
  · cases h; exact quarterR2p2_a _ hp
  · cases h⟩
theorem quarterR2p3_f : FnOk Try.prog 6 Try.f6 := ⟨Try.func6, by kernel_rfl⟩
theorem quarterR2p3_a (m : Int) (hpre : In64 m ∧ m.tmod 4 = 3) : ACalls Try.prog 6 [.int .i64 2, .int .i64 m] (.tup [.agg [.flt 0, .flt 4607182418800017408, .flt 0, .flt 13830554455654793216, .flt 0, .flt 0, .flt 0, .flt 0, .flt 4607182418800017408, .flt 0, .flt 0, .flt 0], .int .i64 0]) := by
  refine acalls_of (inl := hasI (P := Try.prog) [⟨28, Try.f28, Try.func28, by kernel_rfl⟩] []) (base [] [⟨28, Try.f28, Try.func28, by kernel_rfl⟩] []) 4 quarterR2p3_f (And.intro (by kernel_rfl) ?_)
  repeat' (first | refine And.intro ?_ ?_ | (with_reducible exact ff_elim) | (with_reducible exact tf_elim) | refine num_lit 0 (by decide) ?_ | refine num_lit 1 (by decide) ?_ | refine num_lit 2 (by decide) ?_ | refine num_lit 3 (by decide) ?_ | refine num_lit 4 (by decide) ?_ | refine num_lit 5 (by decide) ?_ | refine num_lit 6 (by decide) ?_ | refine num_lit 7 (by decide) ?_ | refine num_lit 8 (by decide) ?_ | refine num_lit 3 hpre.2 ?_ | (intro h; exact absurd h (by decide)) | refine Or.inl ⟨4, ?_⟩ | refine num_elim ?_ | intro _ | (with_reducible rfl) | ((with_reducible refine lk_t ?_); exact rfl) | refine tell ?_ | exact True.intro | (refine IsT.of ?_; kernel_rfl))
  all_goals (try refine Tell.mk ?_)
  all_goals first | with_reducible rfl | kernel_rfl | (have := hpre.1; omega) | (exfalso; omega) | (trace_state; fail)
def quarterR2p3_k : Con Try.prog := ⟨6, fun args => match args with | [.int .i64 2, .int .i64 m] => .ok (some (In64 m ∧ m.tmod 4 = 3)) (.tup [.agg [.flt 0, .flt 4607182418800017408, .flt 0, .flt 13830554455654793216, .flt 0, .flt 0, .flt 0, .flt 0, .flt 4607182418800017408, .flt 0, .flt 0, .flt 0], .int .i64 0]) | _ => .no, by
  intro args p r h hp
  split at h
  · cases h; exact quarterR2p3_a _ hp
  · cases h⟩
theorem quarterR2_f : FnOk Try.prog 6 Try.f6 := ⟨Try.func6, by kernel_rfl⟩
theorem quarterR2_a (m : Int) (hpre : In64 m) : ACalls Try.prog 6 [.int .i64 2, .int .i64 m] (.tup [.agg [.flt (cV (m % 4)), .flt (nV (m % 4)), .flt 0, .flt (sV (m % 4)), .flt (cV (m % 4)), .flt 0, .flt 0, .flt 0, .flt 4607182418800017408, .flt 0, .flt 0, .flt 0], .int .i64 0]) := by
  have h1 := Int.tmod_add_mul_tdiv m 4
  have h2 := Int.tmod_lt_of_pos m (show (0 : Int) < 4 by decide)
  have h3 := Int.lt_tmod_of_pos m (show (0 : Int) < 4 by decide)
  have h : m.tmod 4 = -3 ∧ m % 4 = 1 ∨ m.tmod 4 = -2 ∧ m % 4 = 2 ∨ m.tmod 4 = -1 ∧ m % 4 = 3 ∨ m.tmod 4 = 0 ∧ m % 4 = 0 ∨ m.tmod 4 = 1 ∧ m % 4 = 1 ∨ m.tmod 4 = 2 ∧ m % 4 = 2 ∨ m.tmod 4 = 3 ∧ m % 4 = 3 := by omega
  rcases h with ⟨h, h'⟩ | ⟨h, h'⟩ | ⟨h, h'⟩ | ⟨h, h'⟩ | ⟨h, h'⟩ | ⟨h, h'⟩ | ⟨h, h'⟩
  · have := quarterR2n3_a m ⟨hpre, h⟩
    rw [h']; exact this
  · have := quarterR2n2_a m ⟨hpre, h⟩
    rw [h']; exact this
  · have := quarterR2n1_a m ⟨hpre, h⟩
    rw [h']; exact this
  · have := quarterR2p0_a m ⟨hpre, h⟩
    rw [h']; exact this
  · have := quarterR2p1_a m ⟨hpre, h⟩
    rw [h']; exact this
  · have := quarterR2p2_a m ⟨hpre, h⟩
    rw [h']; exact this
  · have := quarterR2p3_a m ⟨hpre, h⟩
    rw [h']; exact this
def quarterR2_k : Con Try.prog := ⟨6, fun args => match args with | [.int .i64 2, .int .i64 m] => .ok (some (In64 m)) (.tup [.agg [.flt (cV (m % 4)), .flt (nV (m % 4)), .flt 0, .flt (sV (m % 4)), .flt (cV (m % 4)), .flt 0, .flt 0, .flt 0, .flt 4607182418800017408, .flt 0, .flt 0, .flt 0], .int .i64 0]) | _ => .no, by
  intro args p r h hp
  split at h
  · cases h; exact quarterR2_a _ hp
  · cases h⟩
theorem quarterX_f : FnOk Try.prog 5 Try.f5 := ⟨Try.func5, by kernel_rfl⟩
theorem quarterX_a (a m : Int) (hpre : a < 0 ∨ 2 < a) : ACalls Try.prog 5 [.int .i64 a, .int .i64 m] (.tup [.agg [.flt 0, .flt 0, .flt 0, .flt 0, .flt 0, .flt 0, .flt 0, .flt 0, .flt 0, .flt 0, .flt 0, .flt 0], .int .i64 3]) := by
  refine acalls_of (inl := hasI (P := Try.prog) [] []) (base [] [] []) 0 quarterX_f (And.intro (by kernel_rfl) ?_)
  repeat' (first | refine And.intro ?_ ?_ | (with_reducible exact ff_elim) | (with_reducible exact tf_elim) | refine num_elim ?_ | intro _ | (with_reducible rfl) | ((with_reducible refine lk_t ?_); exact rfl) | refine tell ?_ | exact True.intro | (refine IsT.of ?_; kernel_rfl))
  all_goals (try refine Tell.mk ?_)
  all_goals first | with_reducible rfl | with_reducible exact isI_mk | with_reducible assumption | (with_reducible refine gb_t ?_; with_reducible assumption) | (with_reducible refine gb_f ?_; with_reducible assumption) | ((with_reducible refine lk_t ?_); rfl) | ((with_reducible refine okF_t ?_); kernel_rfl) | ((with_reducible refine ks_t ?_); rfl) | ((with_reducible refine pk_t ?_); rfl) | skip
  all_goals (try dsimp only at *)
  all_goals (try simp only [decide_eq_true_eq, decide_eq_false_iff_not, Bool.or_eq_true, Bool.or_eq_false_iff, Bool.and_eq_true, Bool.and_eq_false_iff, Bool.not_eq_true', Bool.not_eq_false', bne_iff_ne, ne_eq, beq_iff_eq, bne_eq_false_iff_eq, beq_eq_false_iff_ne, Int.not_lt, Int.not_le, gt_iff_lt, ge_iff_le] at *)
  all_goals (try simp only [mulN1, Nat.add_zero, Nat.zero_add, Nat.mul_one, Int.toNat_natCast, avInt_int] at *)
  all_goals first | with_reducible rfl | with_reducible exact nums_N | omega | ((with_reducible refine by_le 1 rfl ?_); omega) | ((with_reducible refine by_le 8 rfl ?_); omega) | (rw [wrapI (by omega) (by omega)] <;> omega) | skip
def quarterX_k : Con Try.prog := ⟨5, fun args => match args with | [.int .i64 a, .int .i64 m] => .ok (some (a < 0 ∨ 2 < a)) (.tup [.agg [.flt 0, .flt 0, .flt 0, .flt 0, .flt 0, .flt 0, .flt 0, .flt 0, .flt 0, .flt 0, .flt 0, .flt 0], .int .i64 3]) | _ => .no, by
  intro args p r h hp
  split at h
  · cases h; exact quarterX_a _ _ hp
  · cases h⟩
theorem quarterRX_f : FnOk Try.prog 6 Try.f6 := ⟨Try.func6, by kernel_rfl⟩
theorem quarterRX_a (a m : Int) (hpre : a < 0 ∨ 2 < a) : ACalls Try.prog 6 [.int .i64 a, .int .i64 m] (.tup [.agg [.flt 0, .flt 0, .flt 0, .flt 0, .flt 0, .flt 0, .flt 0, .flt 0, .flt 0, .flt 0, .flt 0, .flt 0], .int .i64 3]) := by
  refine acalls_of (inl := hasI (P := Try.prog) [] []) (base [] [] []) 0 quarterRX_f (And.intro (by kernel_rfl) ?_)
  repeat' (first | refine And.intro ?_ ?_ | (with_reducible exact ff_elim) | (with_reducible exact tf_elim) | refine num_elim ?_ | intro _ | (with_reducible rfl) | ((with_reducible refine lk_t ?_); exact rfl) | refine tell ?_ | exact True.intro | (refine IsT.of ?_; kernel_rfl))
  all_goals (try refine Tell.mk ?_)
  all_goals first | with_reducible rfl | with_reducible exact isI_mk | with_reducible assumption | (with_reducible refine gb_t ?_; with_reducible assumption) | (with_reducible refine gb_f ?_; with_reducible assumption) | ((with_reducible refine lk_t ?_); rfl) | ((with_reducible refine okF_t ?_); kernel_rfl) | ((with_reducible refine ks_t ?_); rfl) | ((with_reducible refine pk_t ?_); rfl) | skip
  all_goals (try dsimp only at *)
  all_goals (try simp only [decide_eq_true_eq, decide_eq_false_iff_not, Bool.or_eq_true, Bool.or_eq_false_iff, Bool.and_eq_true, Bool.and_eq_false_iff, Bool.not_eq_true', Bool.not_eq_false', bne_iff_ne, ne_eq, beq_iff_eq, bne_eq_false_iff_eq, beq_eq_false_iff_ne, Int.not_lt, Int.not_le, gt_iff_lt, ge_iff_le] at *)
  all_goals (try simp only [mulN1, Nat.add_zero, Nat.zero_add, Nat.mul_one, Int.toNat_natCast, avInt_int] at *)
  all_goals first | with_reducible rfl | with_reducible exact nums_N | omega | ((with_reducible refine by_le 1 rfl ?_); omega) | ((with_reducible refine by_le 8 rfl ?_); omega) | (rw [wrapI (by omega) (by omega)] <;> omega) | skip
def quarterRX_k : Con Try.prog := ⟨6, fun args => match args with | [.int .i64 a, .int .i64 m] => .ok (some (a < 0 ∨ 2 < a)) (.tup [.agg [.flt 0, .flt 0, .flt 0, .flt 0, .flt 0, .flt 0, .flt 0, .flt 0, .flt 0, .flt 0, .flt 0, .flt 0], .int .i64 3]) | _ => .no, by
  intro args p r h hp
  split at h
  · cases h; exact quarterRX_a _ _ hp
  · cases h⟩
end Go.Proofs.Ytmnfkogjkaknfaa
