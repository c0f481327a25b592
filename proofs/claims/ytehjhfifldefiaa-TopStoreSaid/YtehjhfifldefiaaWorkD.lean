/- The law of films of bytes. -/
import Derived.Test.YtehjhfifldefiaaWorkC
namespace Go.Proofs.Ytehjhfifldefiaa
open Go.RowKit Ev
set_option linter.unusedVariables false
set_option linter.unusedSimpArgs false
set_option maxRecDepth 20000
set_option maxHeartbeats 4000000

def eqIn (A B : Nat → Int) : Nat → Bool
  | 0 => true
  | n + 1 => eqIn A B n && decide (A n = B n)
theorem eqIn_iff {A B : Nat → Int} : ∀ {n : Nat}, eqIn A B n = true ↔ ∀ i, i < n → A i = B i
  | 0 => ⟨fun _ i h => by omega, fun _ => rfl⟩
  | n + 1 => by
    unfold eqIn
    rw [Bool.and_eq_true, decide_eq_true_eq, eqIn_iff (n := n)]
    refine ⟨fun h i hi => ?_, fun h => ⟨fun i hi => h i (by omega), h n (by omega)⟩⟩
    rcases Nat.lt_or_eq_of_le (Nat.le_of_lt_succ hi) with h' | h'
    · exact h.1 i h'
    · subst h'; exact h.2
theorem eqIn_step {A B : Nat → Int} {i : Nat} (h : eqIn A B i = true) (hb : A i = B i) : eqIn A B (i + 1) = true := by
  unfold eqIn; rw [h, decide_eq_true hb]; rfl
theorem eqIn_false {A B : Nat → Int} {i n : Nat} (h : i < n) (hb : ¬ A i = B i) : eqIn A B n = false := by
  cases h' : eqIn A B n
  · rfl
  · exact absurd (eqIn_iff.1 h' i h) hb
@[irreducible] def sameI (n : Nat) (A : Nat → Int) (m : Nat) (B : Nat → Int) : Bool := decide (n = m) && eqIn A B n
theorem sameI_refl (n : Nat) (A : Nat → Int) : sameI n A n A = true := by
  unfold sameI; rw [decide_eq_true rfl, eqIn_iff.2 fun _ _ => rfl]; rfl
theorem sameI_no {n m : Nat} {A B : Nat → Int} (h : ¬ n = m) : sameI n A m B = false := by unfold sameI; rw [decide_eq_false h]; rfl
theorem sameI_at {n m : Nat} {A B : Nat → Int} (h : n = m) {i : Nat} (hi : i < n) (hb : ¬ A i = B i) : sameI n A m B = false := by unfold sameI; rw [eqIn_false hi hb, Bool.and_false]
theorem sameI_yes {n m : Nat} {A B : Nat → Int} (h : n = m) (h' : eqIn A B n = true) : sameI n A m B = true := by unfold sameI; rw [decide_eq_true h, h']; rfl
theorem sameInts_f : FnOk Try.prog 26 Try.f26 := ⟨Try.func26, by kernel_rfl⟩
theorem sameInts_a (n : Nat) (A : Nat → Int) (m : Nat) (B : Nat → Int) : ACalls Try.prog 26 [ints .i64 n A, ints .i64 m B] (.bool (sameI n A m B)) := by
  refine acalls_len fun hlen => ?_
  simp only [lenV, len1, lenV0, len0, and_true, true_and] at hlen
  refine acalls_of (inl := hasI (P := Try.prog) [] []) (base [] [] []) 0 sameInts_f (And.intro (by kernel_rfl) ?_)
  repeat' (first | refine And.intro ?_ ?_ | (with_reducible exact ff_elim) | (with_reducible exact tf_elim) | refine num_elim ?_ | intro _ | (with_reducible rfl) | ((with_reducible refine lk_t ?_); exact rfl) | ((with_reducible refine pf_t ?_); exact rfl) | refine tell ?_ | exact True.intro | (refine IsT.of ?_; kernel_rfl))
  all_goals (try (refine loop_keep [0, 1] [] ?_; refine LoopI.mk ({i : Nat // i ≤ n ∧ eqIn A B i = true}) (fun i => [(5, .int .i64 i.1)]) (fun _ => []) (fun i => n - i.1) (⟨0, Nat.zero_le _, rfl⟩) (wk_mk [] ?_) (fun ⟨i, hi, hb⟩ => ?_)))
  repeat' (first | refine And.intro ?_ ?_ | (with_reducible exact ff_elim) | (with_reducible exact tf_elim) | refine stp_mk [] (⟨i + 1, ?_, ?_⟩) ?_ ?_ | refine num_elim ?_ | intro _ | (with_reducible rfl) | ((with_reducible refine lk_t ?_); exact rfl) | ((with_reducible refine pf_t ?_); exact rfl) | refine tell ?_ | exact True.intro | (refine IsT.of ?_; kernel_rfl))
  all_goals (try refine Tell.mk ?_)
  all_goals first | with_reducible rfl | with_reducible exact isI_mk | with_reducible assumption | (with_reducible refine gb_t ?_; with_reducible assumption) | (with_reducible refine gb_f ?_; with_reducible assumption) | ((with_reducible refine lk_t ?_); rfl) | ((with_reducible refine okF_t ?_); kernel_rfl) | ((with_reducible refine ks_t ?_); rfl) | ((with_reducible refine pk_t ?_); rfl) | ((with_reducible refine pf_t ?_); rfl) | skip
  all_goals (try dsimp only at *)
  all_goals (try simp only [decide_eq_true_eq, decide_eq_false_iff_not, Bool.or_eq_true, Bool.or_eq_false_iff, Bool.and_eq_true, Bool.and_eq_false_iff, Bool.not_eq_true', Bool.not_eq_false', bne_iff_ne, ne_eq, beq_iff_eq, bne_eq_false_iff_eq, beq_eq_false_iff_ne, Int.not_lt, Int.not_le, gt_iff_lt, ge_iff_le] at *)
  all_goals (try simp only [mulN1, Nat.add_zero, Nat.zero_add, Nat.mul_one, Int.toNat_natCast, avInt_int] at *)
  all_goals first | with_reducible rfl | with_reducible exact nums_N | omega | ((with_reducible refine by_le 1 rfl ?_); omega) | ((with_reducible refine by_le 8 rfl ?_); omega) | (rw [wrapI (by omega) (by omega)] <;> omega) | skip
  all_goals first | exact sameI_no (by omega) | exact sameI_at (by omega) (i := i) (by omega) (by assumption) | exact eqIn_step hb (by assumption) | skip
  all_goals (obtain rfl : i = n := by omega)
  all_goals exact sameI_yes (by omega) hb
def sameInts_r (n : Nat) (A : Nat → Int) (m : Nat) (B : Nat → Int) : AV := .bool (sameI n A m B)
def sameInts_k : Con Try.prog := ⟨26, fun args => match args with | [.sl n 1 g_A, .sl m 1 g_B] => .ok (some (IsI .i64 g_A ∧ IsI .i64 g_B)) (sameInts_r n (intF g_A) m (intF g_B)) | _ => .no, by
  intro args p r h hp
  split at h
  · cases h; obtain ⟨h_A, h_B⟩ := hp; have e_A := h_A.eq; have e_B := h_B.eq; rw [e_A, e_B]; exact sameInts_a _ _ _ _
  · cases h⟩
theorem sameIntsZ_f : FnOk Try.prog 26 Try.f26 := ⟨Try.func26, by kernel_rfl⟩
theorem sameIntsZ_a (n : Nat) (A : Nat → Int) : ACalls Try.prog 26 [ints .i64 n A, .nils] (.bool (decide (n = 0))) := by
  refine acalls_len fun hlen => ?_
  simp only [lenV, len1, lenV0, len0, and_true, true_and] at hlen
  refine acalls_of (inl := hasI (P := Try.prog) [] []) (base [] [] []) 0 sameIntsZ_f (And.intro (by kernel_rfl) ?_)
  repeat' (first | refine And.intro ?_ ?_ | (with_reducible exact ff_elim) | (with_reducible exact tf_elim) | refine num_elim ?_ | intro _ | (with_reducible rfl) | ((with_reducible refine lk_t ?_); exact rfl) | ((with_reducible refine pf_t ?_); exact rfl) | refine tell ?_ | exact True.intro | (refine IsT.of ?_; kernel_rfl))
  all_goals (try (refine loop_keep [0, 1] [] ?_; refine LoopI.mk ({i : Nat // i ≤ n}) (fun i => [(5, .int .i64 i.1)]) (fun _ => []) (fun i => n - i.1) (⟨0, Nat.zero_le _⟩) (wk_mk [] ?_) (fun ⟨i, hi⟩ => ?_)))
  repeat' (first | refine And.intro ?_ ?_ | (with_reducible exact ff_elim) | (with_reducible exact tf_elim) | refine stp_mk [] (⟨i + 1, ?_⟩) ?_ ?_ | refine num_elim ?_ | intro _ | (with_reducible rfl) | ((with_reducible refine lk_t ?_); exact rfl) | ((with_reducible refine pf_t ?_); exact rfl) | refine tell ?_ | exact True.intro | (refine IsT.of ?_; kernel_rfl))
  all_goals (try refine Tell.mk ?_)
  all_goals first | with_reducible rfl | with_reducible exact isI_mk | with_reducible assumption | (with_reducible refine gb_t ?_; with_reducible assumption) | (with_reducible refine gb_f ?_; with_reducible assumption) | ((with_reducible refine lk_t ?_); rfl) | ((with_reducible refine okF_t ?_); kernel_rfl) | ((with_reducible refine ks_t ?_); rfl) | ((with_reducible refine pk_t ?_); rfl) | ((with_reducible refine pf_t ?_); rfl) | skip
  all_goals (try dsimp only at *)
  all_goals (try simp only [decide_eq_true_eq, decide_eq_false_iff_not, Bool.or_eq_true, Bool.or_eq_false_iff, Bool.and_eq_true, Bool.and_eq_false_iff, Bool.not_eq_true', Bool.not_eq_false', bne_iff_ne, ne_eq, beq_iff_eq, bne_eq_false_iff_eq, beq_eq_false_iff_ne, Int.not_lt, Int.not_le, gt_iff_lt, ge_iff_le] at *)
  all_goals (try simp only [mulN1, Nat.add_zero, Nat.zero_add, Nat.mul_one, Int.toNat_natCast, avInt_int] at *)
  all_goals first | with_reducible rfl | with_reducible exact nums_N | omega | ((with_reducible refine by_le 1 rfl ?_); omega) | ((with_reducible refine by_le 8 rfl ?_); omega) | (rw [wrapI (by omega) (by omega)] <;> omega) | skip
def sameIntsZ_r (n : Nat) (A : Nat → Int) : AV := .bool (decide (n = 0))
def sameIntsZ_k : Con Try.prog := ⟨26, fun args => match args with | [.sl n 1 g_A, .nils] => .ok (some (IsI .i64 g_A)) (sameIntsZ_r n (intF g_A)) | _ => .no, by
  intro args p r h hp
  split at h
  · cases h; have h_A := hp; have e_A := h_A.eq; rw [e_A]; exact sameIntsZ_a _ _
  · cases h⟩
def sameFV (w h : Int) (n : Nat) (L : Nat → Int) (m : Nat) (S : Nat → Int) (w' h' : Int) (n' : Nat) (L' : Nat → Int) (m' : Nat) (S' : Nat → Int) : Bool := w == w' && h == h' && sameI n L n' L' && sameI m S m' S'
theorem sameFilm_f : FnOk Try.prog 9 Try.f9 := ⟨Try.func9, by kernel_rfl⟩
theorem sameFilm_a (w h : Int) (n : Nat) (L : Nat → Int) (m : Nat) (S : Nat → Int) (w' h' : Int) (n' : Nat) (L' : Nat → Int) (m' : Nat) (S' : Nat → Int) : ACalls Try.prog 9 [.agg [.int .i64 w, .int .i64 h, ints .i64 n L, ints .i64 m S], .agg [.int .i64 w', .int .i64 h', ints .i64 n' L', ints .i64 m' S']] (.bool (sameFV w h n L m S w' h' n' L' m' S')) := by
  refine acalls_of (inl := hasI (P := Try.prog) [] []) (base [sameInts_k] [] []) 0 sameFilm_f (And.intro (by kernel_rfl) ?_)
  repeat' (first | refine And.intro ?_ ?_ | (with_reducible exact ff_elim) | (with_reducible exact tf_elim) | refine num_elim ?_ | intro _ | (with_reducible rfl) | ((with_reducible refine lk_t ?_); exact rfl) | ((with_reducible refine pf_t ?_); exact rfl) | refine tell ?_ | exact True.intro | (refine IsT.of ?_; kernel_rfl))
  all_goals (try refine Tell.mk ?_)
  all_goals first | with_reducible rfl | with_reducible exact isI_mk | with_reducible assumption | (with_reducible refine gb_t ?_; with_reducible assumption) | (with_reducible refine gb_f ?_; with_reducible assumption) | ((with_reducible refine lk_t ?_); rfl) | ((with_reducible refine okF_t ?_); kernel_rfl) | ((with_reducible refine ks_t ?_); rfl) | ((with_reducible refine pk_t ?_); rfl) | ((with_reducible refine pf_t ?_); rfl) | skip
  all_goals (try dsimp only at *)
  all_goals (try simp only [decide_eq_true_eq, decide_eq_false_iff_not] at *)
  all_goals (try simp only [mulN1, Nat.add_zero, Nat.zero_add, Nat.mul_one, Int.toNat_natCast, avInt_int, intF_mk] at *)
  all_goals first | with_reducible rfl | with_reducible exact nums_N | omega | ((with_reducible refine by_le 1 rfl ?_); omega) | ((with_reducible refine by_le 8 rfl ?_); omega) | (rw [wrapI (by omega) (by omega)] <;> omega) | skip
  all_goals rfl
def sameFilm_r (w h : Int) (n : Nat) (L : Nat → Int) (m : Nat) (S : Nat → Int) (w' h' : Int) (n' : Nat) (L' : Nat → Int) (m' : Nat) (S' : Nat → Int) : AV := .bool (sameFV w h n L m S w' h' n' L' m' S')
def sameFilm_k : Con Try.prog := ⟨9, fun args => match args with | [.agg [.int .i64 w, .int .i64 h, .sl n 1 g_L, .sl m 1 g_S], .agg [.int .i64 w', .int .i64 h', .sl n' 1 g_L', .sl m' 1 g_S']] => .ok (some (IsI .i64 g_L ∧ IsI .i64 g_S ∧ IsI .i64 g_L' ∧ IsI .i64 g_S')) (sameFilm_r w h n (intF g_L) m (intF g_S) w' h' n' (intF g_L') m' (intF g_S')) | _ => .no, by
  intro args p r h hp
  split at h
  · cases h; obtain ⟨h_L, h_S, h_L', h_S'⟩ := hp; have e_L := h_L.eq; have e_S := h_S.eq; have e_L' := h_L'.eq; have e_S' := h_S'.eq; rw [e_L, e_S, e_L', e_S']; exact sameFilm_a _ _ _ _ _ _ _ _ _ _ _ _
  · cases h⟩
theorem sameFilmZ_f : FnOk Try.prog 9 Try.f9 := ⟨Try.func9, by kernel_rfl⟩
theorem sameFilmZ_a (w h : Int) (n : Nat) (L : Nat → Int) (m : Nat) (S : Nat → Int) : ACalls Try.prog 9 [.agg [.int .i64 w, .int .i64 h, ints .i64 n L, ints .i64 m S], .agg [.int .i64 0, .int .i64 0, .nils, .nils]] (.bool (w == 0 && h == 0 && decide (n = 0) && decide (m = 0))) := by
  refine acalls_of (inl := hasI (P := Try.prog) [] []) (base [sameIntsZ_k] [] []) 0 sameFilmZ_f (And.intro (by kernel_rfl) ?_)
  repeat' (first | refine And.intro ?_ ?_ | (with_reducible exact ff_elim) | (with_reducible exact tf_elim) | refine num_elim ?_ | intro _ | (with_reducible rfl) | ((with_reducible refine lk_t ?_); exact rfl) | ((with_reducible refine pf_t ?_); exact rfl) | refine tell ?_ | exact True.intro | (refine IsT.of ?_; kernel_rfl))
  all_goals (try refine Tell.mk ?_)
  all_goals first | with_reducible rfl | with_reducible exact isI_mk | with_reducible assumption | (with_reducible refine gb_t ?_; with_reducible assumption) | (with_reducible refine gb_f ?_; with_reducible assumption) | ((with_reducible refine lk_t ?_); rfl) | ((with_reducible refine okF_t ?_); kernel_rfl) | ((with_reducible refine ks_t ?_); rfl) | ((with_reducible refine pk_t ?_); rfl) | ((with_reducible refine pf_t ?_); rfl) | skip
  all_goals (try dsimp only at *)
  all_goals (try simp only [decide_eq_true_eq, decide_eq_false_iff_not] at *)
  all_goals (try simp only [mulN1, Nat.add_zero, Nat.zero_add, Nat.mul_one, Int.toNat_natCast, avInt_int, intF_mk] at *)
  all_goals first | with_reducible rfl | with_reducible exact nums_N | omega | ((with_reducible refine by_le 1 rfl ?_); omega) | ((with_reducible refine by_le 8 rfl ?_); omega) | (rw [wrapI (by omega) (by omega)] <;> omega) | skip
def sameFilmZ_r (w h : Int) (n : Nat) (L : Nat → Int) (m : Nat) (S : Nat → Int) : AV := .bool (w == 0 && h == 0 && decide (n = 0) && decide (m = 0))
def sameFilmZ_k : Con Try.prog := ⟨9, fun args => match args with | [.agg [.int .i64 w, .int .i64 h, .sl n 1 g_L, .sl m 1 g_S], .agg [.int .i64 0, .int .i64 0, .nils, .nils]] => .ok (some (IsI .i64 g_L ∧ IsI .i64 g_S)) (sameFilmZ_r w h n (intF g_L) m (intF g_S)) | _ => .no, by
  intro args p r h hp
  split at h
  · cases h; obtain ⟨h_L, h_S⟩ := hp; have e_L := h_L.eq; have e_S := h_S.eq; rw [e_L, e_S]; exact sameFilmZ_a _ _ _ _ _ _
  · cases h⟩
theorem sameFV_refl (w h : Int) (n : Nat) (L : Nat → Int) (m : Nat) (S : Nat → Int) : sameFV w h n L m S w h n L m S = true := by unfold sameFV; simp [sameI_refl]
theorem U8s.of_wf {F : Nat → Int} (h : ∀ j, (Lit.int .u8 (F j)).wf = true) : U8s F := fun j => by
  have a := h j
  simp [Lit.wf, IntKind.min, IntKind.max, IntKind.signed, IntKind.bits] at a
  omega
theorem workLoads_f : FnOk Try.prog 3 Try.f3 := ⟨Try.func3, by kernel_rfl⟩
theorem workLoads_a (n : Nat) (B : Nat → Int) (hpre : U8s B) : ACalls Try.prog 3 [ints .u8 n B] (.bool true) := by
  refine acalls_of (inl := hasI (P := Try.prog) [] []) (base [load_k, loadR_k, sameFilm_k] [] []) 0 workLoads_f (And.intro (by kernel_rfl) ?_)
  repeat' (first | refine And.intro ?_ ?_ | (with_reducible exact ff_elim) | (with_reducible exact tf_elim) | refine num_elim ?_ | intro _ | (with_reducible rfl) | ((with_reducible refine lk_t ?_); exact rfl) | ((with_reducible refine pf_t ?_); exact rfl) | refine tell ?_ | exact True.intro | (refine IsT.of ?_; kernel_rfl))
  all_goals (try refine Tell.mk ?_)
  all_goals first | with_reducible rfl | with_reducible exact isI_mk | with_reducible assumption | (with_reducible refine gb_t ?_; with_reducible assumption) | (with_reducible refine gb_f ?_; with_reducible assumption) | ((with_reducible refine lk_t ?_); rfl) | ((with_reducible refine okF_t ?_); kernel_rfl) | ((with_reducible refine ks_t ?_); rfl) | ((with_reducible refine pk_t ?_); rfl) | ((with_reducible refine pf_t ?_); rfl) | skip
  all_goals (try dsimp only at *)
  all_goals (try simp only [decide_eq_true_eq, decide_eq_false_iff_not] at *)
  all_goals (try simp only [mulN1, Nat.add_zero, Nat.zero_add, Nat.mul_one, Int.toNat_natCast, avInt_int, intF_mk] at *)
  all_goals first | with_reducible rfl | with_reducible exact nums_N | omega | ((with_reducible refine by_le 1 rfl ?_); omega) | ((with_reducible refine by_le 8 rfl ?_); omega) | (rw [wrapI (by omega) (by omega)] <;> omega) | skip
  all_goals first | exact (hpre _).1 | exact (hpre _).2 | (simp only [sameFV_refl, beq_self_eq_true, Bool.and_self]; done)
def workLoads_r (n : Nat) (B : Nat → Int) : AV := .bool true
def workLoads_p (n : Nat) (B : Nat → Int) : Prop := U8s B
def workLoads_k : Con Try.prog := ⟨3, fun args => match args with | [.sl n 1 g_B] => .ok (some (IsI .u8 g_B ∧ workLoads_p n (intF g_B))) (workLoads_r n (intF g_B)) | _ => .no, by
  intro args p r h hp
  split at h
  · cases h; obtain ⟨h_B, hp⟩ := hp; have e_B := h_B.eq; rw [e_B]; exact workLoads_a _ _ hp
  · cases h⟩
end Go.Proofs.Ytehjhfifldefiaa
