/- Sameness of rows; the law of rows going round. -/
import Derived.Test.YtnhgicdmlcnpkaaWaveH
namespace Go.Proofs.Ytnhgicdmlcnpkaa
open Go.RowKit Ev
set_option linter.unusedVariables false
set_option linter.unusedSimpArgs false
set_option maxRecDepth 20000
set_option maxHeartbeats 4000000

def eqIn (A B : Nat → Int) : Nat → Bool
  | 0 => true
  | n + 1 => eqIn A B n && decide (A n = B n)
theorem eqIn_iff {A B : Nat → Int} : ∀ {n : Nat}, eqIn A B n = true ↔ ∀ i, i < n → A i = B i
  | 0 => ⟨fun _ i h => by omega, fun _ => rfl⟩
  | n + 1 => by
    unfold eqIn
    rw [Bool.and_eq_true, decide_eq_true_eq, eqIn_iff (n := n)]
    refine ⟨fun h i hi => ?_, fun h => ⟨fun i hi => h i (by omega), h n (by omega)⟩⟩
    rcases Nat.lt_or_eq_of_le (Nat.le_of_lt_succ hi) with h' | h'
    · exact h.1 i h'
    · subst h'; exact h.2
theorem eqIn_step {A B : Nat → Int} {i : Nat} (h : eqIn A B i = true) (hb : A i = B i) : eqIn A B (i + 1) = true := by
  unfold eqIn; rw [h, decide_eq_true hb]; rfl
theorem eqIn_false {A B : Nat → Int} {i n : Nat} (h : i < n) (hb : ¬ A i = B i) : eqIn A B n = false := by
  cases h' : eqIn A B n
  · rfl
  · exact absurd (eqIn_iff.1 h' i h) hb
@[irreducible] def sameI (n : Nat) (A : Nat → Int) (m : Nat) (B : Nat → Int) : Bool := decide (n = m) && eqIn A B n
theorem sameI_refl (n : Nat) (A : Nat → Int) : sameI n A n A = true := by
  unfold sameI; rw [decide_eq_true rfl, eqIn_iff.2 fun _ _ => rfl]; rfl
theorem sameI_no {n m : Nat} {A B : Nat → Int} (h : ¬ n = m) : sameI n A m B = false := by unfold sameI; rw [decide_eq_false h]; rfl
theorem sameI_at {n m : Nat} {A B : Nat → Int} (h : n = m) {i : Nat} (hi : i < n) (hb : ¬ A i = B i) : sameI n A m B = false := by unfold sameI; rw [eqIn_false hi hb, Bool.and_false]
theorem sameI_yes {n m : Nat} {A B : Nat → Int} (h : n = m) (h' : eqIn A B n = true) : sameI n A m B = true := by unfold sameI; rw [decide_eq_true h, h']; rfl
theorem sameInts_f : FnOk Try.prog 8 Try.f8 := ⟨Try.func8, by kernel_rfl⟩
theorem sameInts_a (n : Nat) (A : Nat → Int) (m : Nat) (B : Nat → Int) : ACalls Try.prog 8 [ints .i64 n A, ints .i64 m B] (.bool (sameI n A m B)) := by
  refine acalls_len fun hlen => ?_
  simp only [lenV, len1, lenV0, len0, and_true, true_and] at hlen
  refine acalls_of (inl := hasI (P := Try.prog) [] []) (base [] [] []) 0 sameInts_f (And.intro (by kernel_rfl) ?_)
  repeat' (first | refine And.intro ?_ ?_ | (with_reducible exact ff_elim) | (with_reducible exact tf_elim) | refine num_elim ?_ | intro _ | (with_reducible rfl) | ((with_reducible refine lk_t ?_); exact rfl) | ((with_reducible refine pf_t ?_); exact rfl) | refine tell ?_ | exact True.intro | (refine IsT.of ?_; kernel_rfl))
  all_goals (try (refine loop_keep [0, 1] [] ?_; refine LoopI.mk ({i : Nat // i ≤ n ∧ eqIn A B i = true}) (fun i => [(5, .int .i64 i.1)]) (fun _ => []) (fun i => n - i.1) (⟨0, Nat.zero_le _, rfl⟩) (wk_mk [] ?_) (fun ⟨i, hi, hb⟩ => ?_)))
  repeat' (first | refine And.intro ?_ ?_ | (with_reducible exact ff_elim) | (with_reducible exact tf_elim) | refine stp_mk [] (⟨i + 1, ?_, ?_⟩) ?_ ?_ | refine num_elim ?_ | intro _ | (with_reducible rfl) | ((with_reducible refine lk_t ?_); exact rfl) | ((with_reducible refine pf_t ?_); exact rfl) | refine tell ?_ | exact True.intro | (refine IsT.of ?_; kernel_rfl))
  all_goals (try refine Tell.mk ?_)
  all_goals first | with_reducible rfl | with_reducible exact isI_mk | with_reducible assumption | (with_reducible refine gb_t ?_; with_reducible assumption) | (with_reducible refine gb_f ?_; with_reducible assumption) | ((with_reducible refine lk_t ?_); rfl) | ((with_reducible refine okF_t ?_); kernel_rfl) | ((with_reducible refine ks_t ?_); rfl) | ((with_reducible refine pk_t ?_); rfl) | ((with_reducible refine pf_t ?_); rfl) | skip
  all_goals (try dsimp only at *)
  all_goals (try simp only [decide_eq_true_eq, decide_eq_false_iff_not, Bool.or_eq_true, Bool.or_eq_false_iff, Bool.and_eq_true, Bool.and_eq_false_iff, Bool.not_eq_true', Bool.not_eq_false', bne_iff_ne, ne_eq, beq_iff_eq, bne_eq_false_iff_eq, beq_eq_false_iff_ne, Int.not_lt, Int.not_le, gt_iff_lt, ge_iff_le] at *)
  all_goals (try simp only [mulN1, Nat.add_zero, Nat.zero_add, Nat.mul_one, Int.toNat_natCast, avInt_int] at *)
  all_goals first | with_reducible rfl | with_reducible exact nums_N | omega | ((with_reducible refine by_le 1 rfl ?_); omega) | ((with_reducible refine by_le 8 rfl ?_); omega) | (rw [wrapI (by omega) (by omega)] <;> omega) | skip
  all_goals first | exact sameI_no (by omega) | exact sameI_at (by omega) (i := i) (by omega) (by assumption) | exact eqIn_step hb (by assumption) | skip
  all_goals (obtain rfl : i = n := by omega)
  all_goals exact sameI_yes (by omega) hb
def sameInts_r (n : Nat) (A : Nat → Int) (m : Nat) (B : Nat → Int) : AV := .bool (sameI n A m B)
def sameInts_k : Con Try.prog := ⟨8, fun args => match args with | [.sl n 1 g_A, .sl m 1 g_B] => .ok (some (IsI .i64 g_A ∧ IsI .i64 g_B)) (sameInts_r n (intF g_A) m (intF g_B)) | _ => .no, by
  intro args p r h hp
  split at h
  · cases h; obtain ⟨h_A, h_B⟩ := hp; have e_A := h_A.eq; have e_B := h_B.eq; rw [e_A, e_B]; exact sameInts_a _ _ _ _
  · cases h⟩
theorem waveRounds_f : FnOk Try.prog 3 Try.f3 := ⟨Try.func3, by kernel_rfl⟩
theorem waveRounds_a (n : Nat) (A : Nat → Int) (m : Nat) (B : Nat → Int) : ACalls Try.prog 3 [ints .i64 n A, ints .i64 m B] (.bool true) := by
  refine acalls_len fun hlen => ?_
  simp only [lenV, len1, lenV0, len0, and_true, true_and] at hlen
  refine acalls_of (inl := hasI (P := Try.prog) [] []) (base [round_k, roundR_k, sameInts_k] [] []) 0 waveRounds_f (And.intro (by kernel_rfl) ?_)
  repeat' (first | refine And.intro ?_ ?_ | (with_reducible exact ff_elim) | (with_reducible exact tf_elim) | refine num_elim ?_ | intro _ | (with_reducible rfl) | ((with_reducible refine lk_t ?_); exact rfl) | ((with_reducible refine pf_t ?_); exact rfl) | refine tell ?_ | exact True.intro | (refine IsT.of ?_; kernel_rfl))
  all_goals (try refine Tell.mk ?_)
  all_goals first | with_reducible rfl | with_reducible exact isI_mk | with_reducible assumption | (with_reducible refine gb_t ?_; with_reducible assumption) | (with_reducible refine gb_f ?_; with_reducible assumption) | ((with_reducible refine lk_t ?_); rfl) | ((with_reducible refine okF_t ?_); kernel_rfl) | ((with_reducible refine ks_t ?_); rfl) | ((with_reducible refine pk_t ?_); rfl) | ((with_reducible refine pf_t ?_); rfl) | skip
  all_goals (try dsimp only at *)
  all_goals (try simp only [decide_eq_true_eq, decide_eq_false_iff_not, Bool.or_eq_true, Bool.or_eq_false_iff, Bool.and_eq_true, Bool.and_eq_false_iff, Bool.not_eq_true', Bool.not_eq_false', bne_iff_ne, ne_eq, beq_iff_eq, bne_eq_false_iff_eq, beq_eq_false_iff_ne, Int.not_lt, Int.not_le, gt_iff_lt, ge_iff_le] at *)
  all_goals (try simp only [mulN1, Nat.add_zero, Nat.zero_add, Nat.mul_one, Int.toNat_natCast, avInt_int, intF_mk, sameI_refl, beq_self_eq_true] at *)
  all_goals first | with_reducible rfl | with_reducible exact nums_N | omega | ((with_reducible refine by_le 1 rfl ?_); omega) | ((with_reducible refine by_le 8 rfl ?_); omega) | (rw [wrapI (by omega) (by omega)] <;> omega) | skip
  all_goals first | exact hlen.1 | exact hlen.2 | exact round_ok (by assumption) | rfl
def waveRounds_r (n : Nat) (A : Nat → Int) (m : Nat) (B : Nat → Int) : AV := .bool true
def waveRounds_k : Con Try.prog := ⟨3, fun args => match args with | [.sl n 1 g_A, .sl m 1 g_B] => .ok (some (IsI .i64 g_A ∧ IsI .i64 g_B)) (waveRounds_r n (intF g_A) m (intF g_B)) | _ => .no, by
  intro args p r h hp
  split at h
  · cases h; obtain ⟨h_A, h_B⟩ := hp; have e_A := h_A.eq; have e_B := h_B.eq; rw [e_A, e_B]; exact waveRounds_a _ _ _ _
  · cases h⟩
end Go.Proofs.Ytnhgicdmlcnpkaa
