/- Places in a picture. -/
import Derived.Test.YtlcdaoljfclliaaPixA
namespace Go.Proofs.Ytlcdaoljfclliaa
open Go.RowKit Ev
set_option linter.unusedVariables false
set_option linter.unusedSimpArgs false
set_option maxRecDepth 20000
set_option maxHeartbeats 4000000

/-- Go's rest, and the one that is never below nought. -/
theorem tmod_cases (a : Int) {n : Int} (hn : 0 < n) : 0 ≤ a % n ∧ a % n < n ∧ ((a.tmod n = a % n ∧ a.tdiv n = a / n) ∨ (a.tmod n = a % n - n ∧ a.tdiv n = a / n + 1 ∧ 0 < a % n)) := by
  have h0 := Int.emod_nonneg a (show n ≠ 0 by omega)
  have h1 := Int.emod_lt_of_pos a hn
  refine ⟨h0, h1, ?_⟩
  rw [Int.tmod_eq_emod, Int.tdiv_eq_ediv]
  by_cases h : 0 ≤ a ∨ n ∣ a
  · rw [if_pos h, if_pos h]; exact .inl ⟨by omega, by omega⟩
  · rw [if_neg h, if_neg h, Int.sign_eq_one_of_pos hn]
    refine .inr ⟨by omega, rfl, ?_⟩
    rcases Nat.lt_or_ge 0 (a % n).toNat with h2 | h2
    · omega
    · exact absurd (.inr (Int.dvd_of_emod_eq_zero (by omega))) h
theorem tmod_twice (a : Int) {n : Int} (hn : 0 < n) : (a.tmod n + n).tmod n = a % n := by
  obtain ⟨h0, h1, h | h⟩ := tmod_cases a hn
  · rw [h.1, Int.tmod_eq_emod_of_nonneg (by omega), Int.add_emod_right, Int.emod_eq_of_lt h0 h1]
  · rw [h.1, Int.tmod_eq_emod_of_nonneg (by omega), show a % n - n + n = a % n by omega, Int.emod_eq_of_lt h0 h1]
@[irreducible] def wrapV (t k n : Int) : Int := if t = 0 then k % n else if t = 1 then (if n ≤ k % (2 * n) then 2 * n - 1 - k % (2 * n) else k % (2 * n)) else if k < 0 then 0 else if n ≤ k then n - 1 else k
theorem wrapV_bd (t k : Int) {n : Int} (hn : 1 ≤ n) : 0 ≤ wrapV t k n ∧ wrapV t k n < n := by
  have h0 := Int.emod_nonneg k (show n ≠ 0 by omega)
  have h1 := Int.emod_lt_of_pos k (show 0 < n by omega)
  have h2 := Int.emod_nonneg k (show 2 * n ≠ 0 by omega)
  have h3 := Int.emod_lt_of_pos k (show 0 < 2 * n by omega)
  unfold wrapV
  repeat' split
  all_goals omega
theorem wrapV0 (k n : Int) : wrapV 0 k n = k % n := by unfold wrapV; rw [if_pos rfl]
theorem wrapV1 {t k n : Int} (h : t = 1) : wrapV t k n = if n ≤ k % (2 * n) then 2 * n - 1 - k % (2 * n) else k % (2 * n) := by subst h; unfold wrapV; rw [if_neg (by decide), if_pos rfl]
theorem wrapV2 {t k n : Int} (h : ¬ t = 0) (h' : ¬ t = 1) : wrapV t k n = if k < 0 then 0 else if n ≤ k then n - 1 else k := by unfold wrapV; rw [if_neg h, if_neg h']
theorem floorR_f : FnOk Try.prog 35 Try.f35 := ⟨Try.func35, by kernel_rfl⟩
theorem floorR_a (a n : Int) (hpre : (-1099511627776 ≤ a ∧ a ≤ 1099511627776) ∧ 1 ≤ n ∧ n ≤ 65536) : ACalls Try.prog 35 [.int .i64 a, .int .i64 n] (.tup [.int .i64 (a / n), .int .i64 (a % n)]) := by
  refine acalls_of (inl := hasI (P := Try.prog) [] []) (base [] [] []) 0 floorR_f (And.intro (by kernel_rfl) ?_)
  have hc := tmod_cases a (show 0 < n by omega)
  have d0 : -1099511627776 ≤ a / n ∧ a / n ≤ 1099511627776 := ⟨Int.le_ediv_of_mul_le (by omega) (by rw [Int.mul_comm]; have := Int.mul_le_mul_of_nonneg_right (show 1 ≤ n by omega) (show (0 : Int) ≤ 1099511627776 by decide); omega), by
    rcases Int.le_total 0 a with h | h
    · exact Int.le_trans (Int.ediv_le_self _ h) hpre.1.2
    · have := Int.ediv_nonpos_of_nonpos_of_neg h (show 0 < n by omega); omega⟩
  repeat' (first | refine And.intro ?_ ?_ | (with_reducible exact ff_elim) | (with_reducible exact tf_elim) | refine num_elim ?_ | intro _ | (with_reducible rfl) | ((with_reducible refine lk_t ?_); exact rfl) | refine tell ?_ | exact True.intro | (refine IsT.of ?_; kernel_rfl))
  all_goals (try refine Tell.mk ?_)
  all_goals first | with_reducible rfl | with_reducible exact isI_mk | with_reducible assumption | (with_reducible refine gb_t ?_; with_reducible assumption) | (with_reducible refine gb_f ?_; with_reducible assumption) | ((with_reducible refine lk_t ?_); rfl) | ((with_reducible refine okF_t ?_); kernel_rfl) | ((with_reducible refine ks_t ?_); rfl) | ((with_reducible refine pk_t ?_); rfl) | skip
  all_goals (try dsimp only at *)
  all_goals (try simp only [decide_eq_true_eq, decide_eq_false_iff_not, Bool.or_eq_true, Bool.or_eq_false_iff, Bool.and_eq_true, Bool.and_eq_false_iff, Bool.not_eq_true', Bool.not_eq_false', bne_iff_ne, ne_eq, beq_iff_eq, bne_eq_false_iff_eq, beq_eq_false_iff_ne, Int.not_lt, Int.not_le, gt_iff_lt, ge_iff_le] at *)
  all_goals (try simp only [mulN1, Nat.add_zero, Nat.zero_add, Nat.mul_one, Int.toNat_natCast, avInt_int] at *)
  all_goals first | with_reducible rfl | with_reducible exact nums_N | omega | ((with_reducible refine by_le 1 rfl ?_); omega) | ((with_reducible refine by_le 8 rfl ?_); omega) | (rw [wrapI (by omega) (by omega)] <;> omega) | skip
  all_goals (obtain ⟨h0, h1, h | h⟩ := hc <;> (try simp only [h] at *) <;> (try simp (disch := omega) only [wrapI] at *) <;> first | omega | (rw [wrapI (by omega) (by omega)]; omega))
def floorR_k : Con Try.prog := ⟨35, fun args => match args with | [.int .i64 a, .int .i64 n] => .ok (some ((-1099511627776 ≤ a ∧ a ≤ 1099511627776) ∧ 1 ≤ n ∧ n ≤ 65536)) (.tup [.int .i64 (a / n), .int .i64 (a % n)]) | _ => .no, by
  intro args p r h hp
  split at h
  · cases h; exact floorR_a _ _ hp
  · cases h⟩
theorem wrap_f : FnOk Try.prog 33 Try.f33 := ⟨Try.func33, by kernel_rfl⟩
theorem wrap_a (t k n : Int) (hpre : (-1099511627776 ≤ k ∧ k ≤ 1099511627776) ∧ 1 ≤ n ∧ n ≤ 64) : ACalls Try.prog 33 [.int .i64 t, .int .i64 k, .int .i64 n] (.int .i64 (wrapV t k n)) := by
  refine acalls_of (inl := hasI (P := Try.prog) [] []) (base [] [] []) 0 wrap_f (And.intro (by kernel_rfl) ?_)
  have hc := tmod_cases k (show 0 < n by omega)
  have hd := tmod_cases k (show 0 < 2 * n by omega)
  have e1 := tmod_twice k (show 0 < n by omega)
  have e2 := tmod_twice k (show 0 < 2 * n by omega)
  have w1 : IntKind.i64.wrap (k.tmod n) = k.tmod n := wrapI (by omega) (by omega)
  have w2 : IntKind.i64.wrap (2 * n) = 2 * n := wrapI (by omega) (by omega)
  have w3 : IntKind.i64.wrap (k.tmod (2 * n)) = k.tmod (2 * n) := wrapI (by omega) (by omega)
  have w4 : IntKind.i64.wrap (k.tmod n + n) = k.tmod n + n := wrapI (by omega) (by omega)
  have w5 : IntKind.i64.wrap (k.tmod (2 * n) + 2 * n) = k.tmod (2 * n) + 2 * n := wrapI (by omega) (by omega)
  repeat' (first | refine And.intro ?_ ?_ | (with_reducible exact ff_elim) | (with_reducible exact tf_elim) | refine num_elim ?_ | intro _ | (with_reducible rfl) | ((with_reducible refine lk_t ?_); exact rfl) | refine tell ?_ | exact True.intro | (refine IsT.of ?_; kernel_rfl))
  all_goals (try refine Tell.mk ?_)
  all_goals first | with_reducible rfl | with_reducible exact isI_mk | with_reducible assumption | (with_reducible refine gb_t ?_; with_reducible assumption) | (with_reducible refine gb_f ?_; with_reducible assumption) | ((with_reducible refine lk_t ?_); rfl) | ((with_reducible refine okF_t ?_); kernel_rfl) | ((with_reducible refine ks_t ?_); rfl) | ((with_reducible refine pk_t ?_); rfl) | skip
  all_goals (try dsimp only at *)
  all_goals (try simp only [decide_eq_true_eq, decide_eq_false_iff_not, Bool.or_eq_true, Bool.or_eq_false_iff, Bool.and_eq_true, Bool.and_eq_false_iff, Bool.not_eq_true', Bool.not_eq_false', bne_iff_ne, ne_eq, beq_iff_eq, bne_eq_false_iff_eq, beq_eq_false_iff_ne, Int.not_lt, Int.not_le, gt_iff_lt, ge_iff_le] at *)
  all_goals (try simp only [mulN1, Nat.add_zero, Nat.zero_add, Nat.mul_one, Int.toNat_natCast, avInt_int, w1, w2, w3, w4, w5, e1, e2] at *)
  all_goals first | with_reducible rfl | with_reducible exact nums_N | omega | ((with_reducible refine by_le 1 rfl ?_); omega) | ((with_reducible refine by_le 8 rfl ?_); omega) | (rw [wrapI (by omega) (by omega)] <;> omega) | skip
  all_goals (have n1 : IntKind.i64.wrap (n - 1) = n - 1 := wrapI (by omega) (by omega); have n2 : IntKind.i64.wrap (2 * n - 1) = 2 * n - 1 := wrapI (by omega) (by omega))
  all_goals (try simp only [n1, n2] at *)
  all_goals first | (rw [show t = 0 by with_reducible assumption]; exact wrapV0 _ _) | (rw [wrapV1 (by with_reducible assumption)]; first | (rw [if_pos (by with_reducible assumption), wrapI (by omega) (by omega)]; done) | (rw [if_neg (by omega)]; done)) | (rw [wrapV2 (by with_reducible assumption) (by with_reducible assumption)]; (repeat' split) <;> omega)
def wrap_k : Con Try.prog := ⟨33, fun args => match args with | [.int .i64 t, .int .i64 k, .int .i64 n] => .ok (some ((-1099511627776 ≤ k ∧ k ≤ 1099511627776) ∧ 1 ≤ n ∧ n ≤ 64)) (.int .i64 (wrapV t k n)) | _ => .no, by
  intro args p r h hp
  split at h
  · cases h; exact wrap_a _ _ _ hp
  · cases h⟩
theorem wrapR_f : FnOk Try.prog 36 Try.f36 := ⟨Try.func36, by kernel_rfl⟩
theorem wrapR_a (t k n : Int) (hpre : (-1099511627776 ≤ k ∧ k ≤ 1099511627776) ∧ 1 ≤ n ∧ n ≤ 64) : ACalls Try.prog 36 [.int .i64 t, .int .i64 k, .int .i64 n] (.int .i64 (wrapV t k n)) := by
  refine acalls_of (inl := hasI (P := Try.prog) [] []) (base [floorR_k] [] []) 0 wrapR_f (And.intro (by kernel_rfl) ?_)
  have hd := tmod_cases k (show 0 < 2 * n by omega)
  have w2 : IntKind.i64.wrap (2 * n) = 2 * n := wrapI (by omega) (by omega)
  repeat' (first | refine And.intro ?_ ?_ | (with_reducible exact ff_elim) | (with_reducible exact tf_elim) | refine num_elim ?_ | intro _ | (with_reducible rfl) | ((with_reducible refine lk_t ?_); exact rfl) | refine tell ?_ | exact True.intro | (refine IsT.of ?_; kernel_rfl))
  all_goals (try refine Tell.mk ?_)
  all_goals first | with_reducible rfl | with_reducible exact isI_mk | with_reducible assumption | (with_reducible refine gb_t ?_; with_reducible assumption) | (with_reducible refine gb_f ?_; with_reducible assumption) | ((with_reducible refine lk_t ?_); rfl) | ((with_reducible refine okF_t ?_); kernel_rfl) | ((with_reducible refine ks_t ?_); rfl) | ((with_reducible refine pk_t ?_); rfl) | skip
  all_goals (try dsimp only at *)
  all_goals (try simp only [decide_eq_true_eq, decide_eq_false_iff_not, Bool.or_eq_true, Bool.or_eq_false_iff, Bool.and_eq_true, Bool.and_eq_false_iff, Bool.not_eq_true', Bool.not_eq_false', bne_iff_ne, ne_eq, beq_iff_eq, bne_eq_false_iff_eq, beq_eq_false_iff_ne, Int.not_lt, Int.not_le, gt_iff_lt, ge_iff_le] at *)
  all_goals (try simp only [mulN1, Nat.add_zero, Nat.zero_add, Nat.mul_one, Int.toNat_natCast, avInt_int, w2] at *)
  all_goals first | with_reducible rfl | with_reducible exact nums_N | omega | ((with_reducible refine by_le 1 rfl ?_); omega) | ((with_reducible refine by_le 8 rfl ?_); omega) | (rw [wrapI (by omega) (by omega)] <;> omega) | skip
  all_goals (have n1 : IntKind.i64.wrap (n - 1) = n - 1 := wrapI (by omega) (by omega); have n2 : IntKind.i64.wrap (2 * n - 1) = 2 * n - 1 := wrapI (by omega) (by omega))
  all_goals (try simp only [n1, n2] at *)
  all_goals first | (rw [show t = 0 by with_reducible assumption]; exact wrapV0 _ _) | (rw [wrapV1 (by with_reducible assumption)]; first | (rw [if_pos (by with_reducible assumption), wrapI (by omega) (by omega)]; done) | (rw [if_neg (by omega)]; done)) | (rw [wrapV2 (by with_reducible assumption) (by with_reducible assumption)]; (repeat' split) <;> omega)
def wrapR_k : Con Try.prog := ⟨36, fun args => match args with | [.int .i64 t, .int .i64 k, .int .i64 n] => .ok (some ((-1099511627776 ≤ k ∧ k ≤ 1099511627776) ∧ 1 ≤ n ∧ n ≤ 64)) (.int .i64 (wrapV t k n)) | _ => .no, by
  intro args p r h hp
  split at h
  · cases h; exact wrapR_a _ _ _ hp
  · cases h⟩
end Go.Proofs.Ytlcdaoljfclliaa
