/- Films: what may be. -/
import Derived.Test.YtehjhfifldefiaaEvLoop
import Derived.Test.YtehjhfifldefiaaTab
namespace Go.Proofs.Ytehjhfifldefiaa
open Go.RowKit Ev
set_option linter.unusedVariables false
set_option linter.unusedSimpArgs false
set_option maxRecDepth 20000
set_option maxHeartbeats 4000000

theorem base (l : List (Con Try.prog)) (m : List (Inl Try.prog)) (k : List (MCon Try.prog)) : Base Try.prog Tab.cx (conW l k) (inlL m) (mcL k) := ⟨Tab.cx_ok, conW_ok l k, by kernel_rfl, inlL_ok m, mcL_ok k⟩
/-- All of the first numbers are within 0 and a top. -/
def okIn (L : Nat → Int) (top : Int) : Nat → Bool
  | 0 => true
  | n + 1 => okIn L top n && decide (0 ≤ L n ∧ L n ≤ top)
theorem okIn_iff {L : Nat → Int} {top : Int} : ∀ {n : Nat}, okIn L top n = true ↔ ∀ i, i < n → 0 ≤ L i ∧ L i ≤ top
  | 0 => ⟨fun _ i h => by omega, fun _ => rfl⟩
  | n + 1 => by
    unfold okIn
    rw [Bool.and_eq_true, decide_eq_true_eq, okIn_iff (n := n)]
    refine ⟨fun h i hi => ?_, fun h => ⟨fun i hi => h i (by omega), h n (by omega)⟩⟩
    rcases Nat.lt_or_eq_of_le (Nat.le_of_lt_succ hi) with h' | h'
    · exact h.1 i h'
    · subst h'; exact h.2
theorem okIn_step {L : Nat → Int} {top : Int} {i : Nat} (h : okIn L top i = true) (hb : 0 ≤ L i ∧ L i ≤ top) : okIn L top (i + 1) = true := by
  unfold okIn; rw [h, decide_eq_true hb]; rfl
theorem okIn_false {L : Nat → Int} {top : Int} {i n : Nat} (h : i < n) (hb : ¬ (0 ≤ L i ∧ L i ≤ top)) : okIn L top n = false := by
  cases h' : okIn L top n
  · rfl
  · exact absurd (okIn_iff.1 h' i h) hb
/-- Sides of a film. -/
def Side (w h : Int) : Prop := 1 ≤ w ∧ w ≤ 64 ∧ 1 ≤ h ∧ h ≤ 64
instance (w h : Int) : Decidable (Side w h) := inferInstanceAs (Decidable (1 ≤ w ∧ w ≤ 64 ∧ 1 ≤ h ∧ h ≤ 64))
theorem Side.wh {w h : Int} (e : Side w h) : 1 ≤ w * h ∧ w * h ≤ 4096 ∧ 3 * w * h = 3 * (w * h) := by
  obtain ⟨a, b, c, d⟩ := e
  have h0 : 1 * 1 ≤ w * h := Int.mul_le_mul a c (by omega) (by omega)
  have h1 : w * h ≤ 64 * 64 := Int.mul_le_mul b d (by omega) (by omega)
  exact ⟨by omega, by omega, Int.mul_assoc _ _ _⟩
theorem Side.wraps {w h : Int} (e : Side w h) : IntKind.i64.wrap (w * h) = w * h ∧ IntKind.i64.wrap (3 * (w * h)) = 3 * (w * h) ∧ IntKind.i64.wrap (3 * w) = 3 * w := by
  have := e.wh
  obtain ⟨a, b, c, d⟩ := e
  exact ⟨wrapI (by omega) (by omega), wrapI (by omega) (by omega), wrapI (by omega) (by omega)⟩
@[irreducible] def filmE (w h : Int) (n : Nat) (L : Nat → Int) (m : Nat) (S : Nat → Int) : Int :=
  if Side w h then (if (n : Int) = 3 * (w * h) ∧ (m : Int) = w * h then (if okIn L 1099511627776 n = true ∧ okIn S 1048576 m = true then 0 else 6) else 5) else 4
theorem filmE4 {w h : Int} {n : Nat} {L : Nat → Int} {m : Nat} {S : Nat → Int} (h1 : ¬ Side w h) : filmE w h n L m S = 4 := by unfold filmE; exact if_neg h1
theorem filmE5 {w h : Int} {n : Nat} {L : Nat → Int} {m : Nat} {S : Nat → Int} (h1 : Side w h) (h2 : ¬ ((n : Int) = 3 * (w * h) ∧ (m : Int) = w * h)) : filmE w h n L m S = 5 := by
  unfold filmE; rw [if_pos h1, if_neg h2]
theorem filmE6a {w h : Int} {n : Nat} {L : Nat → Int} {m : Nat} {S : Nat → Int} (h1 : Side w h) (h2 : (n : Int) = 3 * (w * h) ∧ (m : Int) = w * h) (i : Nat) (hi : i < n) (hb : ¬ (0 ≤ L i ∧ L i ≤ 1099511627776)) : filmE w h n L m S = 6 := by
  unfold filmE; rw [if_pos h1, if_pos h2, okIn_false hi hb, if_neg (by simp)]
theorem filmE6b {w h : Int} {n : Nat} {L : Nat → Int} {m : Nat} {S : Nat → Int} (h1 : Side w h) (h2 : (n : Int) = 3 * (w * h) ∧ (m : Int) = w * h) (i : Nat) (hi : i < m) (hb : ¬ (0 ≤ S i ∧ S i ≤ 1048576)) : filmE w h n L m S = 6 := by
  unfold filmE; rw [if_pos h1, if_pos h2, okIn_false hi hb, if_neg (by simp)]
theorem filmE0 {w h : Int} {n : Nat} {L : Nat → Int} {m : Nat} {S : Nat → Int} (h1 : Side w h) (h2 : (n : Int) = 3 * (w * h) ∧ (m : Int) = w * h) (h3 : okIn L 1099511627776 n = true) (h4 : okIn S 1048576 m = true) : filmE w h n L m S = 0 := by
  unfold filmE; rw [if_pos h1, if_pos h2, if_pos ⟨h3, h4⟩]
theorem mayF_f : FnOk Try.prog 22 Try.f22 := ⟨Try.func22, by kernel_rfl⟩
theorem mayF_a (w h : Int) (n : Nat) (L : Nat → Int) (m : Nat) (S : Nat → Int) : ACalls Try.prog 22 [.agg [.int .i64 w, .int .i64 h, ints .i64 n L, ints .i64 m S]] (.int .i64 (filmE w h n L m S)) := by
  refine acalls_len fun hlen => ?_
  simp only [lenV, len1, lenV0, len0, and_true, true_and] at hlen
  refine acalls_of (inl := hasI (P := Try.prog) [] []) (base [] [] []) 0 mayF_f (And.intro (by kernel_rfl) ?_)
  repeat' (first | refine And.intro ?_ ?_ | (with_reducible exact ff_elim) | (with_reducible exact tf_elim) | refine num_elim ?_ | intro _ | (with_reducible rfl) | ((with_reducible refine lk_t ?_); exact rfl) | ((with_reducible refine pf_t ?_); exact rfl) | refine tell ?_ | exact True.intro | (refine IsT.of ?_; kernel_rfl))
  all_goals (try (refine loop_keep [1, 47, 48] [0] ?_; refine LoopI.mk ({i : Nat // i ≤ n ∧ okIn L 1099511627776 i = true}) (fun i => [(49, .int .i64 i.1)]) (fun _ => []) (fun i => n - i.1) (⟨0, Nat.zero_le _, rfl⟩) (wk_mk [some 0] ?_) (fun ⟨i, hi, hb⟩ => ?_)))
  repeat' (first | refine And.intro ?_ ?_ | (with_reducible exact ff_elim) | (with_reducible exact tf_elim) | refine stp_mk [some 0] (⟨i + 1, ?_, ?_⟩) ?_ ?_ | refine num_elim ?_ | intro _ | (with_reducible rfl) | ((with_reducible refine lk_t ?_); exact rfl) | ((with_reducible refine pf_t ?_); exact rfl) | refine tell ?_ | exact True.intro | (refine IsT.of ?_; kernel_rfl))
  all_goals (try (refine loop_keep [61, 62] [] ?_; refine LoopI.mk ({i : Nat // i ≤ m ∧ okIn S 1048576 i = true}) (fun i => [(63, .int .i64 i.1)]) (fun _ => []) (fun i => m - i.1) (⟨0, Nat.zero_le _, rfl⟩) (wk_mk [] ?_) (fun ⟨k, hk, hc⟩ => ?_)))
  repeat' (first | refine And.intro ?_ ?_ | (with_reducible exact ff_elim) | (with_reducible exact tf_elim) | refine stp_mk [] (⟨k + 1, ?_, ?_⟩) ?_ ?_ | refine num_elim ?_ | intro _ | (with_reducible rfl) | ((with_reducible refine lk_t ?_); exact rfl) | ((with_reducible refine pf_t ?_); exact rfl) | refine tell ?_ | exact True.intro | (refine IsT.of ?_; kernel_rfl))
  all_goals (try refine Tell.mk ?_)
  all_goals first | with_reducible rfl | with_reducible exact isI_mk | with_reducible assumption | (with_reducible refine gb_t ?_; with_reducible assumption) | (with_reducible refine gb_f ?_; with_reducible assumption) | ((with_reducible refine lk_t ?_); rfl) | ((with_reducible refine okF_t ?_); kernel_rfl) | ((with_reducible refine ks_t ?_); rfl) | ((with_reducible refine pk_t ?_); rfl) | ((with_reducible refine pf_t ?_); rfl) | skip
  all_goals (try dsimp only at *)
  all_goals (try simp only [decide_eq_true_eq, decide_eq_false_iff_not, Bool.or_eq_true, Bool.or_eq_false_iff, Bool.and_eq_true, Bool.and_eq_false_iff, Bool.not_eq_true', Bool.not_eq_false', bne_iff_ne, ne_eq, beq_iff_eq, bne_eq_false_iff_eq, beq_eq_false_iff_ne, Int.not_lt, Int.not_le, gt_iff_lt, ge_iff_le] at *)
  all_goals (try simp only [mulN1, Nat.add_zero, Nat.zero_add, Nat.mul_one, Int.toNat_natCast, avInt_int] at *)
  all_goals first | with_reducible rfl | with_reducible exact nums_N | omega | ((with_reducible refine by_le 1 rfl ?_); omega) | ((with_reducible refine by_le 8 rfl ?_); omega) | (rw [wrapI (by omega) (by omega)] <;> omega) | skip
  all_goals first | (with_reducible refine filmE4 ?_; unfold Side; omega) | skip
  all_goals have hs : Side w h := by unfold Side; omega
  all_goals (have hz := hs.wraps; have hy := hs.wh; obtain ⟨z1, z2, z3⟩ := hz; simp only [z1, z2, z3, hs.wh.2.2] at *)
  all_goals first | (with_reducible refine filmE5 hs ?_; omega) | (with_reducible refine okIn_step (by assumption) ?_; omega) | (with_reducible refine filmE6a hs ?_ i ?_ ?_ <;> omega) | (rw [wrapI (by omega) (by omega)]; omega) | skip
  all_goals (obtain rfl : i = n := by omega)
  all_goals first | (with_reducible refine filmE6b hs ?_ k ?_ ?_ <;> omega) | skip
  all_goals (obtain rfl : k = m := by omega)
  all_goals (refine filmE0 hs ?_ hb hc; omega)
def mayF_r (w h : Int) (n : Nat) (L : Nat → Int) (m : Nat) (S : Nat → Int) : AV := .int .i64 (filmE w h n L m S)
def mayF_k : Con Try.prog := ⟨22, fun args => match args with | [.agg [.int .i64 w, .int .i64 h, .sl n 1 g_L, .sl m 1 g_S]] => .ok (some (IsI .i64 g_L ∧ IsI .i64 g_S)) (mayF_r w h n (intF g_L) m (intF g_S)) | _ => .no, by
  intro args p r h hp
  split at h
  · cases h; obtain ⟨h_L, h_S⟩ := hp; have e_L := h_L.eq; have e_S := h_S.eq; rw [e_L, e_S]; exact mayF_a _ _ _ _ _ _
  · cases h⟩
theorem mayFR_f : FnOk Try.prog 25 Try.f25 := ⟨Try.func25, by kernel_rfl⟩
theorem mayFR_a (w h : Int) (n : Nat) (L : Nat → Int) (m : Nat) (S : Nat → Int) : ACalls Try.prog 25 [.agg [.int .i64 w, .int .i64 h, ints .i64 n L, ints .i64 m S]] (.int .i64 (filmE w h n L m S)) := by
  refine acalls_len fun hlen => ?_
  simp only [lenV, len1, lenV0, len0, and_true, true_and] at hlen
  refine acalls_of (inl := hasI (P := Try.prog) [] []) (base [] [] []) 0 mayFR_f (And.intro (by kernel_rfl) ?_)
  repeat' (first | refine And.intro ?_ ?_ | (with_reducible exact ff_elim) | (with_reducible exact tf_elim) | refine num_elim ?_ | intro _ | (with_reducible rfl) | ((with_reducible refine lk_t ?_); exact rfl) | ((with_reducible refine pf_t ?_); exact rfl) | refine tell ?_ | exact True.intro | (refine IsT.of ?_; kernel_rfl))
  all_goals (try (refine loop_keep [1] [0] ?_; refine LoopI.mk ({i : Nat // i ≤ n ∧ okIn L 1099511627776 i = true}) (fun i => [(3, .int .i64 i.1)]) (fun _ => []) (fun i => n - i.1) (⟨0, Nat.zero_le _, rfl⟩) (wk_mk [some 0] ?_) (fun ⟨i, hi, hb⟩ => ?_)))
  repeat' (first | refine And.intro ?_ ?_ | (with_reducible exact ff_elim) | (with_reducible exact tf_elim) | refine stp_mk [some 0] (⟨i + 1, ?_, ?_⟩) ?_ ?_ | refine num_elim ?_ | intro _ | (with_reducible rfl) | ((with_reducible refine lk_t ?_); exact rfl) | ((with_reducible refine pf_t ?_); exact rfl) | refine tell ?_ | exact True.intro | (refine IsT.of ?_; kernel_rfl))
  all_goals (try (refine loop_keep [1] [0] ?_; refine LoopI.mk ({i : Nat // i ≤ m ∧ okIn S 1048576 i = true}) (fun i => [(4, .int .i64 i.1)]) (fun _ => []) (fun i => m - i.1) (⟨0, Nat.zero_le _, rfl⟩) (wk_mk [some 0] ?_) (fun ⟨k, hk, hc⟩ => ?_)))
  repeat' (first | refine And.intro ?_ ?_ | (with_reducible exact ff_elim) | (with_reducible exact tf_elim) | refine stp_mk [some 0] (⟨k + 1, ?_, ?_⟩) ?_ ?_ | refine num_elim ?_ | intro _ | (with_reducible rfl) | ((with_reducible refine lk_t ?_); exact rfl) | ((with_reducible refine pf_t ?_); exact rfl) | refine tell ?_ | exact True.intro | (refine IsT.of ?_; kernel_rfl))
  all_goals (try refine Tell.mk ?_)
  all_goals first | with_reducible rfl | with_reducible exact isI_mk | with_reducible assumption | (with_reducible refine gb_t ?_; with_reducible assumption) | (with_reducible refine gb_f ?_; with_reducible assumption) | ((with_reducible refine lk_t ?_); rfl) | ((with_reducible refine okF_t ?_); kernel_rfl) | ((with_reducible refine ks_t ?_); rfl) | ((with_reducible refine pk_t ?_); rfl) | ((with_reducible refine pf_t ?_); rfl) | skip
  all_goals (try dsimp only at *)
  all_goals (try simp only [decide_eq_true_eq, decide_eq_false_iff_not, Bool.or_eq_true, Bool.or_eq_false_iff, Bool.and_eq_true, Bool.and_eq_false_iff, Bool.not_eq_true', Bool.not_eq_false', bne_iff_ne, ne_eq, beq_iff_eq, bne_eq_false_iff_eq, beq_eq_false_iff_ne, Int.not_lt, Int.not_le, gt_iff_lt, ge_iff_le] at *)
  all_goals (try simp only [mulN1, Nat.add_zero, Nat.zero_add, Nat.mul_one, Int.toNat_natCast, avInt_int] at *)
  all_goals first | with_reducible rfl | with_reducible exact nums_N | omega | ((with_reducible refine by_le 1 rfl ?_); omega) | ((with_reducible refine by_le 8 rfl ?_); omega) | (rw [wrapI (by omega) (by omega)] <;> omega) | skip
  all_goals first | (with_reducible refine filmE4 ?_; unfold Side; omega) | skip
  all_goals have hs : Side w h := by unfold Side; omega
  all_goals (have hz := hs.wraps; have hy := hs.wh; obtain ⟨z1, z2, z3⟩ := hz; simp only [z1, z2, z3, hs.wh.2.2] at *)
  all_goals first | (with_reducible refine filmE5 hs ?_; omega) | (with_reducible refine okIn_step (by assumption) ?_; omega) | (with_reducible refine filmE6a hs ?_ i ?_ ?_ <;> omega) | (rw [wrapI (by omega) (by omega)]; omega) | skip
  all_goals (obtain rfl : i = n := by omega)
  all_goals first | (with_reducible refine filmE6b hs ?_ k ?_ ?_ <;> omega) | skip
  all_goals (obtain rfl : k = m := by omega)
  all_goals (refine filmE0 hs ?_ hb hc; omega)
def mayFR_r (w h : Int) (n : Nat) (L : Nat → Int) (m : Nat) (S : Nat → Int) : AV := .int .i64 (filmE w h n L m S)
def mayFR_k : Con Try.prog := ⟨25, fun args => match args with | [.agg [.int .i64 w, .int .i64 h, .sl n 1 g_L, .sl m 1 g_S]] => .ok (some (IsI .i64 g_L ∧ IsI .i64 g_S)) (mayFR_r w h n (intF g_L) m (intF g_S)) | _ => .no, by
  intro args p r h hp
  split at h
  · cases h; obtain ⟨h_L, h_S⟩ := hp; have e_L := h_L.eq; have e_S := h_S.eq; rw [e_L, e_S]; exact mayFR_a _ _ _ _ _ _
  · cases h⟩
end Go.Proofs.Ytehjhfifldefiaa
