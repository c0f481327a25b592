/- Fields: what is said of them. -/
import Derived.Test.YtpmmabaecldmkaaGreatFieldA
namespace Go.Proofs.YtpmmabaecldmkaaGreat
open Go.RowKit Ev
set_option linter.unusedVariables false
set_option linter.unusedSimpArgs false
set_option maxRecDepth 20000
set_option maxHeartbeats 4000000

def hiE (H : Nat → Int) (i : Nat) : Int := if H i < -1000000 ∨ 1000000 < H i then 6 else 0
@[irreducible] def fbE (w x y z d : Nat) (H : Nat → Int) (n : Nat) : Int := mayV (bX lessV w x d n) (bY lessV y H n) (bZ lessV w z d n) (bX moreV w x d n) (bY moreV y H n) (bZ moreV w z d n)
@[irreducible] def fieldE (w h : Int) (x y z d n : Nat) (H : Nat → Int) (s : Int) : Int :=
  if w < 2 ∨ h < 2 ∨ 8 < w ∨ 8 < h then 4 else if ¬ (n : Int) = w * h then 5 else if s < 0 ∨ 16 ≤ s then 4 else if fineB x y z = false ∨ nearB d = false then 1 else if fgt d 0 = false then 6 else
  if ¬ firstE (hiE H) n = 0 then firstE (hiE H) n else if fbE w.toNat x y z d H n = 0 then 0 else 1
theorem fieldE_4 {w h : Int} {x y z d n : Nat} {H : Nat → Int} {s : Int} (h1 : w < 2 ∨ h < 2 ∨ 8 < w ∨ 8 < h) : fieldE w h x y z d n H s = 4 := by unfold fieldE; rw [if_pos h1]
theorem fieldE_5 {w h : Int} {x y z d n : Nat} {H : Nat → Int} {s : Int} (h1 : ¬ (w < 2 ∨ h < 2 ∨ 8 < w ∨ 8 < h)) (h2 : ¬ (n : Int) = w * h) : fieldE w h x y z d n H s = 5 := by unfold fieldE; rw [if_neg h1, if_pos h2]
theorem fieldE_s {w h : Int} {x y z d n : Nat} {H : Nat → Int} {s : Int} (h1 : ¬ (w < 2 ∨ h < 2 ∨ 8 < w ∨ 8 < h)) (h2 : (n : Int) = w * h) (h3 : s < 0 ∨ 16 ≤ s) : fieldE w h x y z d n H s = 4 := by
  unfold fieldE; rw [if_neg h1, if_neg (fun c => c h2), if_pos h3]
theorem fieldE_1 {w h : Int} {x y z d n : Nat} {H : Nat → Int} {s : Int} (h1 : ¬ (w < 2 ∨ h < 2 ∨ 8 < w ∨ 8 < h)) (h2 : (n : Int) = w * h) (h3 : ¬ (s < 0 ∨ 16 ≤ s)) (h4 : fineB x y z = false ∨ nearB d = false) : fieldE w h x y z d n H s = 1 := by
  unfold fieldE; rw [if_neg h1, if_neg (fun c => c h2), if_neg h3, if_pos h4]
theorem fieldE_6 {w h : Int} {x y z d n : Nat} {H : Nat → Int} {s : Int} (h1 : ¬ (w < 2 ∨ h < 2 ∨ 8 < w ∨ 8 < h)) (h2 : (n : Int) = w * h) (h3 : ¬ (s < 0 ∨ 16 ≤ s)) (h4 : ¬ (fineB x y z = false ∨ nearB d = false)) (h5 : fgt d 0 = false) : fieldE w h x y z d n H s = 6 := by
  unfold fieldE; rw [if_neg h1, if_neg (fun c => c h2), if_neg h3, if_neg h4, if_pos h5]
theorem fieldE_h {w h : Int} {x y z d n i : Nat} {H : Nat → Int} {s : Int} (h1 : ¬ (w < 2 ∨ h < 2 ∨ 8 < w ∨ 8 < h)) (h2 : (n : Int) = w * h) (h3 : ¬ (s < 0 ∨ 16 ≤ s)) (h4 : ¬ (fineB x y z = false ∨ nearB d = false)) (h5 : fgt d 0 = true)
    (he : firstE (hiE H) i = 0) (hi : (i : Int) < n) (hh : H i < -1000000 ∨ 1000000 < H i) : fieldE w h x y z d n H s = 6 := by
  have e : hiE H i = 6 := by unfold hiE; rw [if_pos hh]
  have f := firstE_hit he (by rw [e]; decide) (n := n) (by omega)
  rw [e] at f
  unfold fieldE; rw [if_neg h1, if_neg (fun c => c h2), if_neg h3, if_neg h4, if_neg (by rw [h5]; decide), f, if_pos (by decide)]
theorem fieldE_b {w h : Int} {x y z d n : Nat} {H : Nat → Int} {s : Int} (h1 : ¬ (w < 2 ∨ h < 2 ∨ 8 < w ∨ 8 < h)) (h2 : (n : Int) = w * h) (h3 : ¬ (s < 0 ∨ 16 ≤ s)) (h4 : ¬ (fineB x y z = false ∨ nearB d = false)) (h5 : fgt d 0 = true)
    (he : firstE (hiE H) n = 0) : fieldE w h x y z d n H s = if fbE w.toNat x y z d H n = 0 then 0 else 1 := by
  unfold fieldE; rw [if_neg h1, if_neg (fun c => c h2), if_neg h3, if_neg h4, if_neg (by rw [h5]; decide), if_neg (fun c => c he)]
theorem grid_of {w h : Int} {n : Nat} (h1 : ¬ (w < 2 ∨ h < 2 ∨ 8 < w ∨ 8 < h)) (h2 : (n : Int) = w * h) : Grid w h n := ⟨by omega, by omega, by omega, by omega, h2⟩
theorem wh_le {w h : Int} (h1 : ¬ (w < 2 ∨ h < 2 ∨ 8 < w ∨ 8 < h)) : w * h ≤ 64 ∧ 0 ≤ w * h := by
  have h4 : w * h ≤ 8 * 8 := Int.mul_le_mul (by omega) (by omega) (by omega) (by omega)
  have h5 : 0 ≤ w * h := Int.mul_nonneg (by omega) (by omega)
  omega
theorem wh_wrap {w h : Int} (h1 : ¬ (w < 2 ∨ h < 2 ∨ 8 < w ∨ 8 < h)) : IntKind.i64.wrap (w * h) = w * h := by
  have h4 : w * h ≤ 8 * 8 := Int.mul_le_mul (by omega) (by omega) (by omega) (by omega)
  have h5 : 0 ≤ w * h := Int.mul_nonneg (by omega) (by omega)
  exact wrapI (by omega) (by omega)
theorem le_pos {d : Nat} (h : nearB d = true) (c : flt d 0 = true ∨ feq d 0 = true) : fgt d 0 = false := by
  have e := pos_le h
  cases g : fgt d 0
  · rfl
  · rw [g] at e; rcases c with c | c <;> rw [c] at e <;> simp at e
theorem gt_pos {d : Nat} (h : nearB d = true) (c : flt d 0 = false ∧ feq d 0 = false) : fgt d 0 = true := by
  have e := pos_le h
  rw [c.1, c.2] at e
  cases g : fgt d 0
  · rw [g] at e; cases e
  · rfl
theorem fieldMay_f : FnOk Tryz.prog 39 Tryz.f39 := ⟨Tryz.func39, by kernel_rfl⟩
theorem fieldMay_a (w h : Int) (x y z d n : Nat) (H : Nat → Int) (s : Int) : ACalls Tryz.prog 39 [.agg [.int .i64 w, .int .i64 h, .flt x, .flt y, .flt z, .flt d, ints .i64 n H, .int .i64 s]] (.int .i64 (fieldE w h x y z d n H s)) := by
  refine acalls_of (inl := hasI (P := Tryz.prog) [] []) (base [fine_k, near_k, fieldBx_k, may_k] [] []) 0 fieldMay_f (And.intro (by kernel_rfl) ?_)
  repeat' (first | refine And.intro ?_ ?_ | (with_reducible exact ff_elim) | (with_reducible exact tf_elim) | refine num_elim ?_ | intro _ | (with_reducible rfl) | ((with_reducible refine lk_t ?_); exact rfl) | ((with_reducible refine pf_t ?_); exact rfl) | refine tell ?_ | exact True.intro | (refine IsT.of ?_; kernel_rfl))
  all_goals (try (refine loop_keep [1, 60, 61] [0] ?_; refine LoopI.mk ({i : Nat // i ≤ n ∧ firstE (hiE H) i = 0}) (fun i => [(62, .int .i64 i.1)]) (fun i => []) (fun i => n - i.1) (⟨0, Nat.zero_le _, firstE_0 _⟩) (wk_mk [some 0] ?_) (fun ⟨i, hi, he⟩ => ?_)))
  repeat' (first | refine And.intro ?_ ?_ | (with_reducible exact ff_elim) | (with_reducible exact tf_elim) | refine stp_mk [some 0] (⟨i + 1, ?_, ?_⟩) ?_ ?_ | refine num_elim ?_ | intro _ | (with_reducible rfl) | ((with_reducible refine lk_t ?_); exact rfl) | ((with_reducible refine pf_t ?_); exact rfl) | refine tell ?_ | exact True.intro | (refine IsT.of ?_; kernel_rfl))
  all_goals (try refine Tell.mk ?_)
  all_goals first | with_reducible rfl | with_reducible exact isI_mk | with_reducible assumption | (with_reducible refine gb_t ?_; with_reducible assumption) | (with_reducible refine gb_f ?_; with_reducible assumption) | ((with_reducible refine lk_t ?_); rfl) | ((with_reducible refine okF_t ?_); kernel_rfl) | ((with_reducible refine ks_t ?_); rfl) | ((with_reducible refine pk_t ?_); rfl) | ((with_reducible refine pf_t ?_); rfl) | skip
  all_goals (try dsimp only at *)
  all_goals (try simp only [decide_eq_true_eq, decide_eq_false_iff_not, Bool.or_eq_true, Bool.or_eq_false_iff, Bool.and_eq_true, Bool.and_eq_false_iff, Bool.not_eq_true', Bool.not_eq_false', bne_iff_ne, ne_eq, beq_iff_eq, bne_eq_false_iff_eq, beq_eq_false_iff_ne, Int.not_lt, Int.not_le, gt_iff_lt, ge_iff_le] at *)
  all_goals (try simp only [mulN1, Nat.add_zero, Nat.zero_add, Nat.mul_one, Int.toNat_natCast, avInt_int, intF_mk] at *)
  all_goals first | with_reducible rfl | with_reducible exact nums_N | omega | ((with_reducible refine by_le 1 rfl ?_); omega) | ((with_reducible refine by_le 8 rfl ?_); omega) | (rw [wrapI (by omega) (by omega)] <;> omega) | skip
  all_goals first | (with_reducible exact fieldE_4 (by omega)) | exact Nat.le_refl 16 | skip
  all_goals (have h1 : ¬ (w < 2 ∨ h < 2 ∨ 8 < w ∨ 8 < h) := (by omega); have hw := wh_wrap h1; have hv := wh_le h1; simp only [hw] at *)
  all_goals first | (with_reducible exact fieldE_5 h1 (by assumption)) | skip
  all_goals (have h2 : (n : Int) = w * h := by assumption)
  all_goals first | (with_reducible exact fieldE_s h1 h2 (by omega)) | skip
  all_goals (have h3 : ¬ (s < 0 ∨ 16 ≤ s) := (by omega))
  all_goals first | (with_reducible exact fieldE_1 h1 h2 h3 (by assumption)) | skip
  all_goals (have h4 : fineB x y z = true ∧ nearB d = true := (by assumption); have h5 : ¬ (fineB x y z = false ∨ nearB d = false) := (by rw [h4.1, h4.2]; exact fun c => c.elim (fun e => by cases e) (fun e => by cases e)))
  all_goals first | (with_reducible exact fieldE_6 h1 h2 h3 h5 (by assumption)) | (with_reducible exact fieldE_6 h1 h2 h3 h5 (le_pos h4.2 (by assumption))) | skip
  all_goals (have h6 : fgt d 0 = true := by first | assumption | exact gt_pos h4.2 (by assumption))
  all_goals first | (with_reducible exact fieldE_h h1 h2 h3 h5 h6 he (by assumption) (by assumption)) | (refine firstE_s he ?_; unfold hiE; rw [if_neg (by omega)]; done) | (rw [wrapI (by omega) (by omega)]; omega) | exact grid_of h1 h2 | skip
  all_goals (obtain rfl : i = n := (by omega))
  all_goals (rw [fieldE_b h1 h2 h3 h5 h6 he]; unfold fbE; first | exact (if_neg (by assumption)).symm | exact if_neg (by assumption) | exact if_pos (by assumption))
def fieldMay_r (w h : Int) (x y z d n : Nat) (H : Nat → Int) (s : Int) : AV := .int .i64 (fieldE w h x y z d n H s)
def fieldMay_k : Con Tryz.prog := ⟨39, fun args => match args with | [.agg [.int .i64 w, .int .i64 h, .flt x, .flt y, .flt z, .flt d, .sl n 1 g_H, .int .i64 s]] => .ok (some (IsI .i64 g_H)) (fieldMay_r w h x y z d n (intF g_H) s) | _ => .no, by
  intro args p r h hp
  split at h
  · cases h; have h_H := hp; have e_H := h_H.eq; rw [e_H]; exact fieldMay_a _ _ _ _ _ _ _ _ _
  · cases h⟩
theorem fieldMayR_f : FnOk Tryz.prog 53 Tryz.f53 := ⟨Tryz.func53, by kernel_rfl⟩
theorem fieldMayR_a (w h : Int) (x y z d n : Nat) (H : Nat → Int) (s : Int) : ACalls Tryz.prog 53 [.agg [.int .i64 w, .int .i64 h, .flt x, .flt y, .flt z, .flt d, ints .i64 n H, .int .i64 s]] (.int .i64 (fieldE w h x y z d n H s)) := by
  refine acalls_of (inl := hasI (P := Tryz.prog) [] []) (base [fineR_k, nearR_k, fieldBxR_k, mayR_k] [] []) 0 fieldMayR_f (And.intro (by kernel_rfl) ?_)
  repeat' (first | refine And.intro ?_ ?_ | (with_reducible exact ff_elim) | (with_reducible exact tf_elim) | refine num_elim ?_ | intro _ | (with_reducible rfl) | ((with_reducible refine lk_t ?_); exact rfl) | ((with_reducible refine pf_t ?_); exact rfl) | refine tell ?_ | exact True.intro | (refine IsT.of ?_; kernel_rfl))
  all_goals (try (refine loop_keep [1] [0] ?_; refine LoopI.mk ({i : Nat // i ≤ n ∧ firstE (hiE H) i = 0}) (fun i => [(5, .int .i64 i.1)]) (fun i => []) (fun i => n - i.1) (⟨0, Nat.zero_le _, firstE_0 _⟩) (wk_mk [some 0] ?_) (fun ⟨i, hi, he⟩ => ?_)))
  repeat' (first | refine And.intro ?_ ?_ | (with_reducible exact ff_elim) | (with_reducible exact tf_elim) | refine stp_mk [some 0] (⟨i + 1, ?_, ?_⟩) ?_ ?_ | refine num_elim ?_ | intro _ | (with_reducible rfl) | ((with_reducible refine lk_t ?_); exact rfl) | ((with_reducible refine pf_t ?_); exact rfl) | refine tell ?_ | exact True.intro | (refine IsT.of ?_; kernel_rfl))
  all_goals (try refine Tell.mk ?_)
  all_goals first | with_reducible rfl | with_reducible exact isI_mk | with_reducible assumption | (with_reducible refine gb_t ?_; with_reducible assumption) | (with_reducible refine gb_f ?_; with_reducible assumption) | ((with_reducible refine lk_t ?_); rfl) | ((with_reducible refine okF_t ?_); kernel_rfl) | ((with_reducible refine ks_t ?_); rfl) | ((with_reducible refine pk_t ?_); rfl) | ((with_reducible refine pf_t ?_); rfl) | skip
  all_goals (try dsimp only at *)
  all_goals (try simp only [decide_eq_true_eq, decide_eq_false_iff_not, Bool.or_eq_true, Bool.or_eq_false_iff, Bool.and_eq_true, Bool.and_eq_false_iff, Bool.not_eq_true', Bool.not_eq_false', bne_iff_ne, ne_eq, beq_iff_eq, bne_eq_false_iff_eq, beq_eq_false_iff_ne, Int.not_lt, Int.not_le, gt_iff_lt, ge_iff_le] at *)
  all_goals (try simp only [mulN1, Nat.add_zero, Nat.zero_add, Nat.mul_one, Int.toNat_natCast, avInt_int, intF_mk] at *)
  all_goals first | with_reducible rfl | with_reducible exact nums_N | omega | ((with_reducible refine by_le 1 rfl ?_); omega) | ((with_reducible refine by_le 8 rfl ?_); omega) | (rw [wrapI (by omega) (by omega)] <;> omega) | skip
  all_goals first | (with_reducible exact fieldE_4 (by omega)) | exact Nat.le_refl 16 | skip
  all_goals (have h1 : ¬ (w < 2 ∨ h < 2 ∨ 8 < w ∨ 8 < h) := (by omega); have hw := wh_wrap h1; have hv := wh_le h1; simp only [hw] at *)
  all_goals first | (with_reducible exact fieldE_5 h1 (by assumption)) | skip
  all_goals (have h2 : (n : Int) = w * h := by assumption)
  all_goals first | (with_reducible exact fieldE_s h1 h2 (by omega)) | skip
  all_goals (have h3 : ¬ (s < 0 ∨ 16 ≤ s) := (by omega))
  all_goals first | (with_reducible exact fieldE_1 h1 h2 h3 (by assumption)) | skip
  all_goals (have h4 : fineB x y z = true ∧ nearB d = true := (by assumption); have h5 : ¬ (fineB x y z = false ∨ nearB d = false) := (by rw [h4.1, h4.2]; exact fun c => c.elim (fun e => by cases e) (fun e => by cases e)))
  all_goals first | (with_reducible exact fieldE_6 h1 h2 h3 h5 (by assumption)) | (with_reducible exact fieldE_6 h1 h2 h3 h5 (le_pos h4.2 (by assumption))) | skip
  all_goals (have h6 : fgt d 0 = true := by first | assumption | exact gt_pos h4.2 (by assumption))
  all_goals first | (with_reducible exact fieldE_h h1 h2 h3 h5 h6 he (by assumption) (by assumption)) | (refine firstE_s he ?_; unfold hiE; rw [if_neg (by omega)]; done) | (rw [wrapI (by omega) (by omega)]; omega) | exact grid_of h1 h2 | skip
  all_goals (obtain rfl : i = n := (by omega))
  all_goals (rw [fieldE_b h1 h2 h3 h5 h6 he]; unfold fbE; first | exact (if_neg (by assumption)).symm | exact if_neg (by assumption) | exact if_pos (by assumption))
def fieldMayR_r (w h : Int) (x y z d n : Nat) (H : Nat → Int) (s : Int) : AV := .int .i64 (fieldE w h x y z d n H s)
def fieldMayR_k : Con Tryz.prog := ⟨53, fun args => match args with | [.agg [.int .i64 w, .int .i64 h, .flt x, .flt y, .flt z, .flt d, .sl n 1 g_H, .int .i64 s]] => .ok (some (IsI .i64 g_H)) (fieldMayR_r w h x y z d n (intF g_H) s) | _ => .no, by
  intro args p r h hp
  split at h
  · cases h; have h_H := hp; have e_H := h_H.eq; rw [e_H]; exact fieldMayR_a _ _ _ _ _ _ _ _ _
  · cases h⟩
end Go.Proofs.YtpmmabaecldmkaaGreat
