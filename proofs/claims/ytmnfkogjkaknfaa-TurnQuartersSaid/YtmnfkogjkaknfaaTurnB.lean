/- The law of quarters. -/
import Derived.Test.YtmnfkogjkaknfaaTurnP
namespace Go.Proofs.Ytmnfkogjkaknfaa
open Go.RowKit Ev
set_option linter.unusedVariables false
set_option linter.unusedSimpArgs false
set_option maxRecDepth 20000
set_option maxHeartbeats 4000000

theorem wrap_add {m n : Int} (h1 : -1000 ≤ m ∧ m ≤ 1000) (h2 : -1000 ≤ n ∧ n ≤ 1000) : IntKind.i64.wrap (m + n) = m + n := wrapI (by omega) (by omega)
theorem wrap_neg {m : Int} (h1 : -1000 ≤ m ∧ m ≤ 1000) : IntKind.i64.wrap (0 - m) = 0 - m := wrapI (by omega) (by omega)
theorem rng_of {m n : Int} (h : (0 != (0 : Int) || decide (m > 1000) || decide (m < -1000) || decide (n > 1000) || decide (n < -1000)) = false) : (-1000 ≤ m ∧ m ≤ 1000) ∧ (-1000 ≤ n ∧ n ≤ 1000) := by
  simp only [bne_self_eq_false, Bool.false_or, Bool.or_eq_false_iff, decide_eq_false_iff_not] at h
  omega
theorem mod_add {m n a b : Int} (h1 : m % 4 = a) (h2 : n % 4 = b) : (m + n) % 4 = (a + b) % 4 := by omega
theorem mod_neg {m a : Int} (h1 : m % 4 = a) : (0 - m) % 4 = (0 - a) % 4 := by omega
theorem no_same {c : Bool} (h : (0 != (0 : Int) || !c) = true) (hc : c = true) : true = false := by
  subst hc; exact absurd h (by decide)
theorem turnQ0_f : FnOk Try.prog 3 Try.f3 := ⟨Try.func3, by kernel_rfl⟩
theorem turnQ0_a (m n : Int) (p q r : Nat) (hpre : In64 m ∧ In64 n) : ACalls Try.prog 3 [.int .i64 0, .int .i64 m, .int .i64 n, .agg [.flt p, .flt q, .flt r]] (.bool true) := by
  refine acalls_of (inl := hasI (P := Try.prog) [] []) (base [quarter0_k, quarterR0_k, sameTurn_k, then_k, back_k, fine_k, point_k, add_k] [] []) 0 turnQ0_f (And.intro (by kernel_rfl) ?_)
  repeat' (first | refine And.intro ?_ ?_ | (with_reducible exact ff_elim) | (with_reducible exact tf_elim) | refine num_elim ?_ | intro _ | (with_reducible rfl) | ((with_reducible refine lk_t ?_); exact rfl) | refine tell ?_ | exact True.intro | (refine IsT.of ?_; kernel_rfl))
  all_goals (try refine Tell.mk ?_)
  all_goals first | with_reducible rfl | with_reducible assumption | (with_reducible refine gb_t ?_; with_reducible assumption) | (with_reducible refine gb_f ?_; with_reducible assumption) | exact hpre.1 | exact hpre.2 | exact wrap_in _ | (refine no_same (by assumption) ?_; simp only [sameV_refl, Bool.and_self]; done) | skip
  all_goals (have hr := rng_of (by assumption))
  all_goals (have w1 := wrap_add hr.1 hr.2)
  all_goals (have w2 := wrap_neg hr.1)
  all_goals (have e1 : IntKind.i64.wrap (m + n) % 4 = (m % 4 + n % 4) % 4 := by rw [w1]; omega)
  all_goals (have e2 : IntKind.i64.wrap (0 - m) % 4 = (0 - m % 4) % 4 := by rw [w2]; omega)
  all_goals (have hm : m % 4 = 0 ∨ m % 4 = 1 ∨ m % 4 = 2 ∨ m % 4 = 3 := by omega)
  all_goals (have hn : n % 4 = 0 ∨ n % 4 = 1 ∨ n % 4 = 2 ∨ n % 4 = 3 := by omega)
  all_goals rename_i h
  · rw [e1, e2] at h
    revert h
    rcases hm with hm | hm | hm | hm <;> rcases hn with hn | hn | hn | hn <;> rw [hm, hn] <;> decide +kernel
  · rcases hm with hm | hm | hm | hm <;> rw [hm] <;> exact (Flt.unturn (by decide +kernel) h).symm
def turnQ0_k : Con Try.prog := ⟨3, fun args => match args with | [.int .i64 0, .int .i64 m, .int .i64 n, .agg [.flt p, .flt q, .flt r]] => .ok (some (In64 m ∧ In64 n)) (.bool true) | _ => .no, by
  intro args p r h hp
  split at h
  · cases h; exact turnQ0_a _ _ _ _ _ hp
  · cases h⟩
theorem turnQ1_f : FnOk Try.prog 3 Try.f3 := ⟨Try.func3, by kernel_rfl⟩
theorem turnQ1_a (m n : Int) (p q r : Nat) (hpre : In64 m ∧ In64 n) : ACalls Try.prog 3 [.int .i64 1, .int .i64 m, .int .i64 n, .agg [.flt p, .flt q, .flt r]] (.bool true) := by
  refine acalls_of (inl := hasI (P := Try.prog) [] []) (base [quarter1_k, quarterR1_k, sameTurn_k, then_k, back_k, fine_k, point_k, add_k] [] []) 0 turnQ1_f (And.intro (by kernel_rfl) ?_)
  repeat' (first | refine And.intro ?_ ?_ | (with_reducible exact ff_elim) | (with_reducible exact tf_elim) | refine num_elim ?_ | intro _ | (with_reducible rfl) | ((with_reducible refine lk_t ?_); exact rfl) | refine tell ?_ | exact True.intro | (refine IsT.of ?_; kernel_rfl))
  all_goals (try refine Tell.mk ?_)
  all_goals first | with_reducible rfl | with_reducible assumption | (with_reducible refine gb_t ?_; with_reducible assumption) | (with_reducible refine gb_f ?_; with_reducible assumption) | exact hpre.1 | exact hpre.2 | exact wrap_in _ | (refine no_same (by assumption) ?_; simp only [sameV_refl, Bool.and_self]; done) | skip
  all_goals (have hr := rng_of (by assumption))
  all_goals (have w1 := wrap_add hr.1 hr.2)
  all_goals (have w2 := wrap_neg hr.1)
  all_goals (have e1 : IntKind.i64.wrap (m + n) % 4 = (m % 4 + n % 4) % 4 := by rw [w1]; omega)
  all_goals (have e2 : IntKind.i64.wrap (0 - m) % 4 = (0 - m % 4) % 4 := by rw [w2]; omega)
  all_goals (have hm : m % 4 = 0 ∨ m % 4 = 1 ∨ m % 4 = 2 ∨ m % 4 = 3 := by omega)
  all_goals (have hn : n % 4 = 0 ∨ n % 4 = 1 ∨ n % 4 = 2 ∨ n % 4 = 3 := by omega)
  all_goals rename_i h
  · rw [e1, e2] at h
    revert h
    rcases hm with hm | hm | hm | hm <;> rcases hn with hn | hn | hn | hn <;> rw [hm, hn] <;> decide +kernel
  · rcases hm with hm | hm | hm | hm <;> rw [hm] <;> exact (Flt.unturn (by decide +kernel) h).symm
def turnQ1_k : Con Try.prog := ⟨3, fun args => match args with | [.int .i64 1, .int .i64 m, .int .i64 n, .agg [.flt p, .flt q, .flt r]] => .ok (some (In64 m ∧ In64 n)) (.bool true) | _ => .no, by
  intro args p r h hp
  split at h
  · cases h; exact turnQ1_a _ _ _ _ _ hp
  · cases h⟩
theorem turnQ2_f : FnOk Try.prog 3 Try.f3 := ⟨Try.func3, by kernel_rfl⟩
theorem turnQ2_a (m n : Int) (p q r : Nat) (hpre : In64 m ∧ In64 n) : ACalls Try.prog 3 [.int .i64 2, .int .i64 m, .int .i64 n, .agg [.flt p, .flt q, .flt r]] (.bool true) := by
  refine acalls_of (inl := hasI (P := Try.prog) [] []) (base [quarter2_k, quarterR2_k, sameTurn_k, then_k, back_k, fine_k, point_k, add_k] [] []) 0 turnQ2_f (And.intro (by kernel_rfl) ?_)
  repeat' (first | refine And.intro ?_ ?_ | (with_reducible exact ff_elim) | (with_reducible exact tf_elim) | refine num_elim ?_ | intro _ | (with_reducible rfl) | ((with_reducible refine lk_t ?_); exact rfl) | refine tell ?_ | exact True.intro | (refine IsT.of ?_; kernel_rfl))
  all_goals (try refine Tell.mk ?_)
  all_goals first | with_reducible rfl | with_reducible assumption | (with_reducible refine gb_t ?_; with_reducible assumption) | (with_reducible refine gb_f ?_; with_reducible assumption) | exact hpre.1 | exact hpre.2 | exact wrap_in _ | (refine no_same (by assumption) ?_; simp only [sameV_refl, Bool.and_self]; done) | skip
  all_goals (have hr := rng_of (by assumption))
  all_goals (have w1 := wrap_add hr.1 hr.2)
  all_goals (have w2 := wrap_neg hr.1)
  all_goals (have e1 : IntKind.i64.wrap (m + n) % 4 = (m % 4 + n % 4) % 4 := by rw [w1]; omega)
  all_goals (have e2 : IntKind.i64.wrap (0 - m) % 4 = (0 - m % 4) % 4 := by rw [w2]; omega)
  all_goals (have hm : m % 4 = 0 ∨ m % 4 = 1 ∨ m % 4 = 2 ∨ m % 4 = 3 := by omega)
  all_goals (have hn : n % 4 = 0 ∨ n % 4 = 1 ∨ n % 4 = 2 ∨ n % 4 = 3 := by omega)
  all_goals rename_i h
  · rw [e1, e2] at h
    revert h
    rcases hm with hm | hm | hm | hm <;> rcases hn with hn | hn | hn | hn <;> rw [hm, hn] <;> decide +kernel
  · rcases hm with hm | hm | hm | hm <;> rw [hm] <;> exact (Flt.unturn (by decide +kernel) h).symm
def turnQ2_k : Con Try.prog := ⟨3, fun args => match args with | [.int .i64 2, .int .i64 m, .int .i64 n, .agg [.flt p, .flt q, .flt r]] => .ok (some (In64 m ∧ In64 n)) (.bool true) | _ => .no, by
  intro args p r h hp
  split at h
  · cases h; exact turnQ2_a _ _ _ _ _ hp
  · cases h⟩
theorem no3 {x y z w : Bool} (h : ((3 : Int) != 0 || x || y || z || w) = false) : False := by
  have e : ((3 : Int) != 0) = true := by decide
  rw [e] at h; simp at h
theorem turnQX_f : FnOk Try.prog 3 Try.f3 := ⟨Try.func3, by kernel_rfl⟩
theorem turnQX_a (a m n : Int) (p q r : Nat) (hpre : a < 0 ∨ 2 < a) : ACalls Try.prog 3 [.int .i64 a, .int .i64 m, .int .i64 n, .agg [.flt p, .flt q, .flt r]] (.bool true) := by
  refine acalls_of (inl := hasI (P := Try.prog) [] []) (base [quarterX_k, quarterRX_k, sameTurn_k] [] []) 0 turnQX_f (And.intro (by kernel_rfl) ?_)
  repeat' (first | refine And.intro ?_ ?_ | (with_reducible exact ff_elim) | (with_reducible exact tf_elim) | (intro h; exact (no3 h).elim) | refine num_elim ?_ | intro _ | (with_reducible rfl) | ((with_reducible refine lk_t ?_); exact rfl) | refine tell ?_ | exact True.intro | (refine IsT.of ?_; kernel_rfl))
  all_goals (try refine Tell.mk ?_)
  all_goals first | with_reducible rfl | with_reducible assumption | (with_reducible refine gb_t ?_; with_reducible assumption) | (with_reducible refine gb_f ?_; with_reducible assumption) | (rename_i h; revert h; decide +kernel)
def turnQX_k : Con Try.prog := ⟨3, fun args => match args with | [.int .i64 a, .int .i64 m, .int .i64 n, .agg [.flt p, .flt q, .flt r]] => .ok (some (a < 0 ∨ 2 < a)) (.bool true) | _ => .no, by
  intro args p r h hp
  split at h
  · cases h; exact turnQX_a _ _ _ _ _ _ hp
  · cases h⟩
theorem turnQ_f : FnOk Try.prog 3 Try.f3 := ⟨Try.func3, by kernel_rfl⟩
theorem turnQ_a (a m n : Int) (p q r : Nat) (hpre : In64 m ∧ In64 n) : ACalls Try.prog 3 [.int .i64 a, .int .i64 m, .int .i64 n, .agg [.flt p, .flt q, .flt r]] (.bool true) := by
  by_cases h : a < 0 ∨ 2 < a
  · exact turnQX_a a m n p q r h
  · have h : a = 0 ∨ a = 1 ∨ a = 2 := by omega
    rcases h with rfl | rfl | rfl
    · exact turnQ0_a m n p q r hpre
    · exact turnQ1_a m n p q r hpre
    · exact turnQ2_a m n p q r hpre
def turnQ_k : Con Try.prog := ⟨3, fun args => match args with | [.int .i64 a, .int .i64 m, .int .i64 n, .agg [.flt p, .flt q, .flt r]] => .ok (some (In64 m ∧ In64 n)) (.bool true) | _ => .no, by
  intro args p r h hp
  split at h
  · cases h; exact turnQ_a _ _ _ _ _ _ hp
  · cases h⟩
end Go.Proofs.Ytmnfkogjkaknfaa
