/- The law of blending. -/
import Derived.Test.YtlcdaoljfclliaaPixE
namespace Go.Proofs.Ytlcdaoljfclliaa
open Go.RowKit Ev
set_option linter.unusedVariables false
set_option linter.unusedSimpArgs false
set_option maxRecDepth 20000
set_option maxHeartbeats 4000000

theorem heavyP_f : FnOk Try.prog 10 Try.f10 := ⟨Try.func10, by kernel_rfl⟩
theorem heavyP_a (w h : Int) (n : Nat) (A : Nat → Int) : ACalls Try.prog 10 [.agg [.int .i64 w, .int .i64 h, ints .u8 n A]] (.bool (decide ((n : Int) > 1600))) := by
  refine acalls_of (inl := hasI (P := Try.prog) [] []) (base [] [] []) 0 heavyP_f (And.intro (by kernel_rfl) ?_)
  repeat' (first | refine And.intro ?_ ?_ | (with_reducible exact ff_elim) | (with_reducible exact tf_elim) | refine num_elim ?_ | intro _ | (with_reducible rfl) | ((with_reducible refine lk_t ?_); exact rfl) | refine tell ?_ | exact True.intro | (refine IsT.of ?_; kernel_rfl))
  all_goals (try refine Tell.mk ?_)
  all_goals first | with_reducible rfl | with_reducible exact isI_mk | with_reducible assumption | (with_reducible refine gb_t ?_; with_reducible assumption) | (with_reducible refine gb_f ?_; with_reducible assumption) | ((with_reducible refine lk_t ?_); rfl) | ((with_reducible refine okF_t ?_); kernel_rfl) | ((with_reducible refine ks_t ?_); rfl) | ((with_reducible refine pk_t ?_); rfl) | skip
  all_goals (try dsimp only at *)
  all_goals (try simp only [decide_eq_true_eq, decide_eq_false_iff_not] at *)
  all_goals (try simp only [mulN1, Nat.add_zero, Nat.zero_add, Nat.mul_one, Int.toNat_natCast, avInt_int, intF_mk] at *)
  all_goals first | with_reducible rfl | with_reducible exact nums_N | omega | ((with_reducible refine by_le 1 rfl ?_); omega) | ((with_reducible refine by_le 8 rfl ?_); omega) | (rw [wrapI (by omega) (by omega)] <;> omega) | skip
def heavyP_r (w h : Int) (n : Nat) (A : Nat → Int) : AV := .bool (decide ((n : Int) > 1600))
def heavyP_k : Con Try.prog := ⟨10, fun args => match args with | [.agg [.int .i64 w, .int .i64 h, .sl n 1 g_A]] => .ok (some (IsI .u8 g_A)) (heavyP_r w h n (intF g_A)) | _ => .no, by
  intro args p r h hp
  split at h
  · cases h; have h_A := hp; have e_A := h_A.eq; rw [e_A]; exact heavyP_a _ _ _ _
  · cases h⟩
def samePV (w h : Int) (n : Nat) (A : Nat → Int) (w' h' : Int) (m : Nat) (B : Nat → Int) : Bool := w == w' && h == h' && ((strI n A).toList == (strI m B).toList)
theorem samePV_refl (w h : Int) (n : Nat) (A : Nat → Int) : samePV w h n A w h n A = true := by unfold samePV; simp
theorem samePic_f : FnOk Try.prog 19 Try.f19 := ⟨Try.func19, by kernel_rfl⟩
theorem samePic_a (w h : Int) (n : Nat) (A : Nat → Int) (w' h' : Int) (m : Nat) (B : Nat → Int) : ACalls Try.prog 19 [.agg [.int .i64 w, .int .i64 h, ints .u8 n A], .agg [.int .i64 w', .int .i64 h', ints .u8 m B]] (.bool (samePV w h n A w' h' m B)) := by
  refine acalls_of (inl := hasI (P := Try.prog) [] []) (base [] [] []) 0 samePic_f (And.intro (by kernel_rfl) ?_)
  repeat' (first | refine And.intro ?_ ?_ | (with_reducible exact ff_elim) | (with_reducible exact tf_elim) | refine num_elim ?_ | intro _ | (with_reducible rfl) | ((with_reducible refine lk_t ?_); exact rfl) | refine tell ?_ | exact True.intro | (refine IsT.of ?_; kernel_rfl))
  all_goals (try refine Tell.mk ?_)
  all_goals first | with_reducible rfl | with_reducible exact isI_mk | with_reducible assumption | (with_reducible refine gb_t ?_; with_reducible assumption) | (with_reducible refine gb_f ?_; with_reducible assumption) | ((with_reducible refine lk_t ?_); rfl) | ((with_reducible refine okF_t ?_); kernel_rfl) | ((with_reducible refine ks_t ?_); rfl) | ((with_reducible refine pk_t ?_); rfl) | skip
  all_goals (try dsimp only at *)
  all_goals (try simp only [decide_eq_true_eq, decide_eq_false_iff_not] at *)
  all_goals (try simp only [mulN1, Nat.add_zero, Nat.zero_add, Nat.mul_one, Int.toNat_natCast, avInt_int, intF_mk] at *)
  all_goals first | with_reducible rfl | with_reducible exact nums_N | omega | ((with_reducible refine by_le 1 rfl ?_); omega) | ((with_reducible refine by_le 8 rfl ?_); omega) | (rw [wrapI (by omega) (by omega)] <;> omega) | skip
  all_goals rfl
def samePic_r (w h : Int) (n : Nat) (A : Nat → Int) (w' h' : Int) (m : Nat) (B : Nat → Int) : AV := .bool (samePV w h n A w' h' m B)
def samePic_k : Con Try.prog := ⟨19, fun args => match args with | [.agg [.int .i64 w, .int .i64 h, .sl n 1 g_A], .agg [.int .i64 w', .int .i64 h', .sl m 1 g_B]] => .ok (some (IsI .u8 g_A ∧ IsI .u8 g_B)) (samePic_r w h n (intF g_A) w' h' m (intF g_B)) | _ => .no, by
  intro args p r h hp
  split at h
  · cases h; obtain ⟨h_A, h_B⟩ := hp; have e_A := h_A.eq; have e_B := h_B.eq; rw [e_A, e_B]; exact samePic_a _ _ _ _ _ _ _ _
  · cases h⟩
theorem blendSays_f : FnOk Try.prog 7 Try.f7 := ⟨Try.func7, by kernel_rfl⟩
theorem blendSays_a (k w h : Int) (n : Nat) (A : Nat → Int) (w' h' : Int) (n' : Nat) (B : Nat → Int) (x y : Int) (hpre : (U8s A ∧ U8s B) ∧ (0 ≤ x ∧ x < 256) ∧ (0 ≤ y ∧ y < 256)) : ACalls Try.prog 7 [.int .i64 k, .agg [.int .i64 w, .int .i64 h, ints .u8 n A], .agg [.int .i64 w', .int .i64 h', ints .u8 n' B], .int .u8 x, .int .u8 y] (.bool true) := by
  refine acalls_of (inl := hasI (P := Try.prog) [] []) (base [heavyP_k, blend_k, blendR_k, part_k, partR_k, mayB_k, mayBR_k, samePic_k] [] []) 0 blendSays_f (And.intro (by kernel_rfl) ?_)
  repeat' (first | refine And.intro ?_ ?_ | (with_reducible exact ff_elim) | (with_reducible exact tf_elim) | refine num_elim ?_ | intro _ | (with_reducible rfl) | ((with_reducible refine lk_t ?_); exact rfl) | refine tell ?_ | exact True.intro | (refine IsT.of ?_; kernel_rfl))
  all_goals (try refine Tell.mk ?_)
  all_goals first | with_reducible rfl | with_reducible exact isI_mk | with_reducible assumption | (with_reducible refine gb_t ?_; with_reducible assumption) | (with_reducible refine gb_f ?_; with_reducible assumption) | ((with_reducible refine lk_t ?_); rfl) | ((with_reducible refine okF_t ?_); kernel_rfl) | ((with_reducible refine ks_t ?_); rfl) | ((with_reducible refine pk_t ?_); rfl) | skip
  all_goals (try dsimp only at *)
  all_goals (try simp only [decide_eq_true_eq, decide_eq_false_iff_not] at *)
  all_goals (try simp only [mulN1, Nat.add_zero, Nat.zero_add, Nat.mul_one, Int.toNat_natCast, avInt_int, intF_mk] at *)
  all_goals first | with_reducible rfl | with_reducible exact nums_N | omega | ((with_reducible refine by_le 1 rfl ?_); omega) | ((with_reducible refine by_le 8 rfl ?_); omega) | (rw [wrapI (by omega) (by omega)] <;> omega) | skip
  all_goals first | exact (hpre.1.1 _).1 | exact (hpre.1.1 _).2 | exact (hpre.1.2 _).1 | exact (hpre.1.2 _).2 | (simp only [samePV_refl, beq_self_eq_true, Bool.and_self]; done)
def blendSays_r (k w h : Int) (n : Nat) (A : Nat → Int) (w' h' : Int) (n' : Nat) (B : Nat → Int) (x y : Int) : AV := .bool true
def blendSays_p (k w h : Int) (n : Nat) (A : Nat → Int) (w' h' : Int) (n' : Nat) (B : Nat → Int) (x y : Int) : Prop := (U8s A ∧ U8s B) ∧ (0 ≤ x ∧ x < 256) ∧ (0 ≤ y ∧ y < 256)
def blendSays_k : Con Try.prog := ⟨7, fun args => match args with | [.int .i64 k, .agg [.int .i64 w, .int .i64 h, .sl n 1 g_A], .agg [.int .i64 w', .int .i64 h', .sl n' 1 g_B], .int .u8 x, .int .u8 y] => .ok (some (IsI .u8 g_A ∧ IsI .u8 g_B ∧ blendSays_p k w h n (intF g_A) w' h' n' (intF g_B) x y)) (blendSays_r k w h n (intF g_A) w' h' n' (intF g_B) x y) | _ => .no, by
  intro args p r h hp
  split at h
  · cases h; obtain ⟨h_A, h_B, hp⟩ := hp; have e_A := h_A.eq; have e_B := h_B.eq; rw [e_A, e_B]; exact blendSays_a _ _ _ _ _ _ _ _ _ _ _ hp
  · cases h⟩
theorem u8_of_wf {x : Int} (h : (Lit.int .u8 x).wf = true) : 0 ≤ x ∧ x < 256 := by
  simp [Lit.wf, IntKind.min, IntKind.max, IntKind.signed, IntKind.bits] at h
  omega
end Go.Proofs.Ytlcdaoljfclliaa
