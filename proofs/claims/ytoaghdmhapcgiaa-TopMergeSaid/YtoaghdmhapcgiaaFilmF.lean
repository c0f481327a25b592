/- Sameness; the law of films. -/
import Derived.Test.YtoaghdmhapcgiaaFilmE
namespace Go.Proofs.Ytoaghdmhapcgiaa
open Go.RowKit Ev
set_option linter.unusedVariables false
set_option linter.unusedSimpArgs false
set_option maxRecDepth 20000
set_option maxHeartbeats 4000000

def eqIn (A B : Nat → Int) : Nat → Bool
  | 0 => true
  | n + 1 => eqIn A B n && decide (A n = B n)
theorem eqIn_iff {A B : Nat → Int} : ∀ {n : Nat}, eqIn A B n = true ↔ ∀ i, i < n → A i = B i
  | 0 => ⟨fun _ i h => by omega, fun _ => rfl⟩
  | n + 1 => by
    unfold eqIn
    rw [Bool.and_eq_true, decide_eq_true_eq, eqIn_iff (n := n)]
    refine ⟨fun h i hi => ?_, fun h => ⟨fun i hi => h i (by omega), h n (by omega)⟩⟩
    rcases Nat.lt_or_eq_of_le (Nat.le_of_lt_succ hi) with h' | h'
    · exact h.1 i h'
    · subst h'; exact h.2
theorem eqIn_step {A B : Nat → Int} {i : Nat} (h : eqIn A B i = true) (hb : A i = B i) : eqIn A B (i + 1) = true := by
  unfold eqIn; rw [h, decide_eq_true hb]; rfl
theorem eqIn_false {A B : Nat → Int} {i n : Nat} (h : i < n) (hb : ¬ A i = B i) : eqIn A B n = false := by
  cases h' : eqIn A B n
  · rfl
  · exact absurd (eqIn_iff.1 h' i h) hb
@[irreducible] def sameI (n : Nat) (A : Nat → Int) (m : Nat) (B : Nat → Int) : Bool := decide (n = m) && eqIn A B n
theorem sameI_refl (n : Nat) (A : Nat → Int) : sameI n A n A = true := by
  unfold sameI; rw [decide_eq_true rfl, eqIn_iff.2 fun _ _ => rfl]; rfl
theorem sameI_no {n m : Nat} {A B : Nat → Int} (h : ¬ n = m) : sameI n A m B = false := by unfold sameI; rw [decide_eq_false h]; rfl
theorem sameI_at {n m : Nat} {A B : Nat → Int} (h : n = m) {i : Nat} (hi : i < n) (hb : ¬ A i = B i) : sameI n A m B = false := by unfold sameI; rw [eqIn_false hi hb, Bool.and_false]
theorem sameI_yes {n m : Nat} {A B : Nat → Int} (h : n = m) (h' : eqIn A B n = true) : sameI n A m B = true := by unfold sameI; rw [decide_eq_true h, h']; rfl
theorem sameInts_f : FnOk Try.prog 24 Try.f24 := ⟨Try.func24, by kernel_rfl⟩
theorem sameInts_a (n : Nat) (A : Nat → Int) (m : Nat) (B : Nat → Int) : ACalls Try.prog 24 [ints .i64 n A, ints .i64 m B] (.bool (sameI n A m B)) := by
  refine acalls_len fun hlen => ?_
  simp only [lenV, len1, lenV0, len0, and_true, true_and] at hlen
  refine acalls_of (inl := hasI (P := Try.prog) [] []) (base [] [] []) 0 sameInts_f (And.intro (by kernel_rfl) ?_)
  repeat' (first | refine And.intro ?_ ?_ | (with_reducible exact ff_elim) | (with_reducible exact tf_elim) | refine num_elim ?_ | intro _ | (with_reducible rfl) | ((with_reducible refine lk_t ?_); exact rfl) | refine tell ?_ | exact True.intro | (refine IsT.of ?_; kernel_rfl))
  all_goals (try (refine loop_keep [0, 1] [] ?_; refine LoopI.mk ({i : Nat // i ≤ n ∧ eqIn A B i = true}) (fun i => [(5, .int .i64 i.1)]) (fun _ => []) (fun i => n - i.1) (⟨0, Nat.zero_le _, rfl⟩) (wk_mk [] ?_) (fun ⟨i, hi, hb⟩ => ?_)))
  repeat' (first | refine And.intro ?_ ?_ | (with_reducible exact ff_elim) | (with_reducible exact tf_elim) | refine stp_mk [] (⟨i + 1, ?_, ?_⟩) ?_ ?_ | refine num_elim ?_ | intro _ | (with_reducible rfl) | ((with_reducible refine lk_t ?_); exact rfl) | refine tell ?_ | exact True.intro | (refine IsT.of ?_; kernel_rfl))
  all_goals (try refine Tell.mk ?_)
  all_goals first | with_reducible rfl | with_reducible exact isI_mk | with_reducible assumption | (with_reducible refine gb_t ?_; with_reducible assumption) | (with_reducible refine gb_f ?_; with_reducible assumption) | ((with_reducible refine lk_t ?_); rfl) | ((with_reducible refine okF_t ?_); kernel_rfl) | ((with_reducible refine ks_t ?_); rfl) | ((with_reducible refine pk_t ?_); rfl) | skip
  all_goals (try dsimp only at *)
  all_goals (try simp only [decide_eq_true_eq, decide_eq_false_iff_not, Bool.or_eq_true, Bool.or_eq_false_iff, Bool.and_eq_true, Bool.and_eq_false_iff, Bool.not_eq_true', Bool.not_eq_false', bne_iff_ne, ne_eq, beq_iff_eq, bne_eq_false_iff_eq, beq_eq_false_iff_ne, Int.not_lt, Int.not_le, gt_iff_lt, ge_iff_le] at *)
  all_goals (try simp only [mulN1, Nat.add_zero, Nat.zero_add, Nat.mul_one, Int.toNat_natCast, avInt_int] at *)
  all_goals first | with_reducible rfl | with_reducible exact nums_N | omega | ((with_reducible refine by_le 1 rfl ?_); omega) | ((with_reducible refine by_le 8 rfl ?_); omega) | (rw [wrapI (by omega) (by omega)] <;> omega) | skip
  all_goals first | exact sameI_no (by omega) | exact sameI_at (by omega) (i := i) (by omega) (by assumption) | exact eqIn_step hb (by assumption) | skip
  all_goals (obtain rfl : i = n := by omega)
  all_goals exact sameI_yes (by omega) hb
def sameInts_r (n : Nat) (A : Nat → Int) (m : Nat) (B : Nat → Int) : AV := .bool (sameI n A m B)
def sameInts_k : Con Try.prog := ⟨24, fun args => match args with | [.sl n 1 g_A, .sl m 1 g_B] => .ok (some (IsI .i64 g_A ∧ IsI .i64 g_B)) (sameInts_r n (intF g_A) m (intF g_B)) | _ => .no, by
  intro args p r h hp
  split at h
  · cases h; obtain ⟨h_A, h_B⟩ := hp; have e_A := h_A.eq; have e_B := h_B.eq; rw [e_A, e_B]; exact sameInts_a _ _ _ _
  · cases h⟩
theorem sameIntsZ_f : FnOk Try.prog 24 Try.f24 := ⟨Try.func24, by kernel_rfl⟩
theorem sameIntsZ_a (n : Nat) (A : Nat → Int) : ACalls Try.prog 24 [ints .i64 n A, .nils] (.bool (decide (n = 0))) := by
  refine acalls_len fun hlen => ?_
  simp only [lenV, len1, lenV0, len0, and_true, true_and] at hlen
  refine acalls_of (inl := hasI (P := Try.prog) [] []) (base [] [] []) 0 sameIntsZ_f (And.intro (by kernel_rfl) ?_)
  repeat' (first | refine And.intro ?_ ?_ | (with_reducible exact ff_elim) | (with_reducible exact tf_elim) | refine num_elim ?_ | intro _ | (with_reducible rfl) | ((with_reducible refine lk_t ?_); exact rfl) | refine tell ?_ | exact True.intro | (refine IsT.of ?_; kernel_rfl))
  all_goals (try (refine loop_keep [0, 1] [] ?_; refine LoopI.mk ({i : Nat // i ≤ n}) (fun i => [(5, .int .i64 i.1)]) (fun _ => []) (fun i => n - i.1) (⟨0, Nat.zero_le _⟩) (wk_mk [] ?_) (fun ⟨i, hi⟩ => ?_)))
  repeat' (first | refine And.intro ?_ ?_ | (with_reducible exact ff_elim) | (with_reducible exact tf_elim) | refine stp_mk [] (⟨i + 1, ?_⟩) ?_ ?_ | refine num_elim ?_ | intro _ | (with_reducible rfl) | ((with_reducible refine lk_t ?_); exact rfl) | refine tell ?_ | exact True.intro | (refine IsT.of ?_; kernel_rfl))
  all_goals (try refine Tell.mk ?_)
  all_goals first | with_reducible rfl | with_reducible exact isI_mk | with_reducible assumption | (with_reducible refine gb_t ?_; with_reducible assumption) | (with_reducible refine gb_f ?_; with_reducible assumption) | ((with_reducible refine lk_t ?_); rfl) | ((with_reducible refine okF_t ?_); kernel_rfl) | ((with_reducible refine ks_t ?_); rfl) | ((with_reducible refine pk_t ?_); rfl) | skip
  all_goals (try dsimp only at *)
  all_goals (try simp only [decide_eq_true_eq, decide_eq_false_iff_not, Bool.or_eq_true, Bool.or_eq_false_iff, Bool.and_eq_true, Bool.and_eq_false_iff, Bool.not_eq_true', Bool.not_eq_false', bne_iff_ne, ne_eq, beq_iff_eq, bne_eq_false_iff_eq, beq_eq_false_iff_ne, Int.not_lt, Int.not_le, gt_iff_lt, ge_iff_le] at *)
  all_goals (try simp only [mulN1, Nat.add_zero, Nat.zero_add, Nat.mul_one, Int.toNat_natCast, avInt_int] at *)
  all_goals first | with_reducible rfl | with_reducible exact nums_N | omega | ((with_reducible refine by_le 1 rfl ?_); omega) | ((with_reducible refine by_le 8 rfl ?_); omega) | (rw [wrapI (by omega) (by omega)] <;> omega) | skip
def sameIntsZ_r (n : Nat) (A : Nat → Int) : AV := .bool (decide (n = 0))
def sameIntsZ_k : Con Try.prog := ⟨24, fun args => match args with | [.sl n 1 g_A, .nils] => .ok (some (IsI .i64 g_A)) (sameIntsZ_r n (intF g_A)) | _ => .no, by
  intro args p r h hp
  split at h
  · cases h; have h_A := hp; have e_A := h_A.eq; rw [e_A]; exact sameIntsZ_a _ _
  · cases h⟩
def sameFV (w h : Int) (n : Nat) (L : Nat → Int) (m : Nat) (S : Nat → Int) (w' h' : Int) (n' : Nat) (L' : Nat → Int) (m' : Nat) (S' : Nat → Int) : Bool := w == w' && h == h' && sameI n L n' L' && sameI m S m' S'
theorem sameFilm_f : FnOk Try.prog 12 Try.f12 := ⟨Try.func12, by kernel_rfl⟩
theorem sameFilm_a (w h : Int) (n : Nat) (L : Nat → Int) (m : Nat) (S : Nat → Int) (w' h' : Int) (n' : Nat) (L' : Nat → Int) (m' : Nat) (S' : Nat → Int) : ACalls Try.prog 12 [.agg [.int .i64 w, .int .i64 h, ints .i64 n L, ints .i64 m S], .agg [.int .i64 w', .int .i64 h', ints .i64 n' L', ints .i64 m' S']] (.bool (sameFV w h n L m S w' h' n' L' m' S')) := by
  refine acalls_of (inl := hasI (P := Try.prog) [] []) (base [sameInts_k] [] []) 0 sameFilm_f (And.intro (by kernel_rfl) ?_)
  repeat' (first | refine And.intro ?_ ?_ | (with_reducible exact ff_elim) | (with_reducible exact tf_elim) | refine num_elim ?_ | intro _ | (with_reducible rfl) | ((with_reducible refine lk_t ?_); exact rfl) | refine tell ?_ | exact True.intro | (refine IsT.of ?_; kernel_rfl))
  all_goals (try refine Tell.mk ?_)
  all_goals first | with_reducible rfl | with_reducible exact isI_mk | with_reducible assumption | (with_reducible refine gb_t ?_; with_reducible assumption) | (with_reducible refine gb_f ?_; with_reducible assumption) | ((with_reducible refine lk_t ?_); rfl) | ((with_reducible refine okF_t ?_); kernel_rfl) | ((with_reducible refine ks_t ?_); rfl) | ((with_reducible refine pk_t ?_); rfl) | skip
  all_goals (try dsimp only at *)
  all_goals (try simp only [decide_eq_true_eq, decide_eq_false_iff_not] at *)
  all_goals (try simp only [mulN1, Nat.add_zero, Nat.zero_add, Nat.mul_one, Int.toNat_natCast, avInt_int, intF_mk] at *)
  all_goals first | with_reducible rfl | with_reducible exact nums_N | omega | ((with_reducible refine by_le 1 rfl ?_); omega) | ((with_reducible refine by_le 8 rfl ?_); omega) | (rw [wrapI (by omega) (by omega)] <;> omega) | skip
  all_goals rfl
def sameFilm_r (w h : Int) (n : Nat) (L : Nat → Int) (m : Nat) (S : Nat → Int) (w' h' : Int) (n' : Nat) (L' : Nat → Int) (m' : Nat) (S' : Nat → Int) : AV := .bool (sameFV w h n L m S w' h' n' L' m' S')
def sameFilm_k : Con Try.prog := ⟨12, fun args => match args with | [.agg [.int .i64 w, .int .i64 h, .sl n 1 g_L, .sl m 1 g_S], .agg [.int .i64 w', .int .i64 h', .sl n' 1 g_L', .sl m' 1 g_S']] => .ok (some (IsI .i64 g_L ∧ IsI .i64 g_S ∧ IsI .i64 g_L' ∧ IsI .i64 g_S')) (sameFilm_r w h n (intF g_L) m (intF g_S) w' h' n' (intF g_L') m' (intF g_S')) | _ => .no, by
  intro args p r h hp
  split at h
  · cases h; obtain ⟨h_L, h_S, h_L', h_S'⟩ := hp; have e_L := h_L.eq; have e_S := h_S.eq; have e_L' := h_L'.eq; have e_S' := h_S'.eq; rw [e_L, e_S, e_L', e_S']; exact sameFilm_a _ _ _ _ _ _ _ _ _ _ _ _
  · cases h⟩
theorem sameFilmZ_f : FnOk Try.prog 12 Try.f12 := ⟨Try.func12, by kernel_rfl⟩
theorem sameFilmZ_a (w h : Int) (n : Nat) (L : Nat → Int) (m : Nat) (S : Nat → Int) : ACalls Try.prog 12 [.agg [.int .i64 w, .int .i64 h, ints .i64 n L, ints .i64 m S], .agg [.int .i64 0, .int .i64 0, .nils, .nils]] (.bool (w == 0 && h == 0 && decide (n = 0) && decide (m = 0))) := by
  refine acalls_of (inl := hasI (P := Try.prog) [] []) (base [sameIntsZ_k] [] []) 0 sameFilmZ_f (And.intro (by kernel_rfl) ?_)
  repeat' (first | refine And.intro ?_ ?_ | (with_reducible exact ff_elim) | (with_reducible exact tf_elim) | refine num_elim ?_ | intro _ | (with_reducible rfl) | ((with_reducible refine lk_t ?_); exact rfl) | refine tell ?_ | exact True.intro | (refine IsT.of ?_; kernel_rfl))
  all_goals (try refine Tell.mk ?_)
  all_goals first | with_reducible rfl | with_reducible exact isI_mk | with_reducible assumption | (with_reducible refine gb_t ?_; with_reducible assumption) | (with_reducible refine gb_f ?_; with_reducible assumption) | ((with_reducible refine lk_t ?_); rfl) | ((with_reducible refine okF_t ?_); kernel_rfl) | ((with_reducible refine ks_t ?_); rfl) | ((with_reducible refine pk_t ?_); rfl) | skip
  all_goals (try dsimp only at *)
  all_goals (try simp only [decide_eq_true_eq, decide_eq_false_iff_not] at *)
  all_goals (try simp only [mulN1, Nat.add_zero, Nat.zero_add, Nat.mul_one, Int.toNat_natCast, avInt_int, intF_mk] at *)
  all_goals first | with_reducible rfl | with_reducible exact nums_N | omega | ((with_reducible refine by_le 1 rfl ?_); omega) | ((with_reducible refine by_le 8 rfl ?_); omega) | (rw [wrapI (by omega) (by omega)] <;> omega) | skip
def sameFilmZ_r (w h : Int) (n : Nat) (L : Nat → Int) (m : Nat) (S : Nat → Int) : AV := .bool (w == 0 && h == 0 && decide (n = 0) && decide (m = 0))
def sameFilmZ_k : Con Try.prog := ⟨12, fun args => match args with | [.agg [.int .i64 w, .int .i64 h, .sl n 1 g_L, .sl m 1 g_S], .agg [.int .i64 0, .int .i64 0, .nils, .nils]] => .ok (some (IsI .i64 g_L ∧ IsI .i64 g_S)) (sameFilmZ_r w h n (intF g_L) m (intF g_S)) | _ => .no, by
  intro args p r h hp
  split at h
  · cases h; obtain ⟨h_L, h_S⟩ := hp; have e_L := h_L.eq; have e_S := h_S.eq; rw [e_L, e_S]; exact sameFilmZ_a _ _ _ _ _ _
  · cases h⟩
theorem heavy_f : FnOk Try.prog 7 Try.f7 := ⟨Try.func7, by kernel_rfl⟩
theorem heavy_a (w h : Int) (n : Nat) (L : Nat → Int) (m : Nat) (S : Nat → Int) : ACalls Try.prog 7 [.agg [.int .i64 w, .int .i64 h, ints .i64 n L, ints .i64 m S]] (.bool (decide (IntKind.i64.wrap ((n : Int) + m) > 1200))) := by
  refine acalls_of (inl := hasI (P := Try.prog) [] []) (base [] [] []) 0 heavy_f (And.intro (by kernel_rfl) ?_)
  repeat' (first | refine And.intro ?_ ?_ | (with_reducible exact ff_elim) | (with_reducible exact tf_elim) | refine num_elim ?_ | intro _ | (with_reducible rfl) | ((with_reducible refine lk_t ?_); exact rfl) | refine tell ?_ | exact True.intro | (refine IsT.of ?_; kernel_rfl))
  all_goals (try refine Tell.mk ?_)
  all_goals first | with_reducible rfl | with_reducible exact isI_mk | with_reducible assumption | (with_reducible refine gb_t ?_; with_reducible assumption) | (with_reducible refine gb_f ?_; with_reducible assumption) | ((with_reducible refine lk_t ?_); rfl) | ((with_reducible refine okF_t ?_); kernel_rfl) | ((with_reducible refine ks_t ?_); rfl) | ((with_reducible refine pk_t ?_); rfl) | skip
  all_goals (try dsimp only at *)
  all_goals (try simp only [decide_eq_true_eq, decide_eq_false_iff_not] at *)
  all_goals (try simp only [mulN1, Nat.add_zero, Nat.zero_add, Nat.mul_one, Int.toNat_natCast, avInt_int, intF_mk] at *)
  all_goals first | with_reducible rfl | with_reducible exact nums_N | omega | ((with_reducible refine by_le 1 rfl ?_); omega) | ((with_reducible refine by_le 8 rfl ?_); omega) | (rw [wrapI (by omega) (by omega)] <;> omega) | skip
def heavy_r (w h : Int) (n : Nat) (L : Nat → Int) (m : Nat) (S : Nat → Int) : AV := .bool (decide (IntKind.i64.wrap ((n : Int) + m) > 1200))
def heavy_k : Con Try.prog := ⟨7, fun args => match args with | [.agg [.int .i64 w, .int .i64 h, .sl n 1 g_L, .sl m 1 g_S]] => .ok (some (IsI .i64 g_L ∧ IsI .i64 g_S)) (heavy_r w h n (intF g_L) m (intF g_S)) | _ => .no, by
  intro args p r h hp
  split at h
  · cases h; obtain ⟨h_L, h_S⟩ := hp; have e_L := h_L.eq; have e_S := h_S.eq; rw [e_L, e_S]; exact heavy_a _ _ _ _ _ _
  · cases h⟩
def samePV (w h : Int) (n : Nat) (A : Nat → Int) (w' h' : Int) (m : Nat) (B : Nat → Int) : Bool := w == w' && h == h' && ((strI n A).toList == (strI m B).toList)
theorem side_of {w h : Int} (e : (decide (w < 1) || decide (h < 1) || decide (w > 64) || decide (h > 64)) = false) : Side w h := by unfold Side; simp at e; omega
theorem nside_of {w h : Int} (e : (decide (w < 1) || decide (h < 1) || decide (w > 64) || decide (h > 64)) = true) : ¬ Side w h := by unfold Side; simp at e; omega
theorem sameFV_refl (w h : Int) (n : Nat) (L : Nat → Int) (m : Nat) (S : Nat → Int) : sameFV w h n L m S w h n L m S = true := by unfold sameFV; simp [sameI_refl]
theorem samePV_refl (w h : Int) (n : Nat) (A : Nat → Int) : samePV w h n A w h n A = true := by unfold samePV; simp
theorem samePic_f : FnOk Try.prog 19 Try.f19 := ⟨Try.func19, by kernel_rfl⟩
theorem samePic_a (w h : Int) (n : Nat) (A : Nat → Int) (w' h' : Int) (m : Nat) (B : Nat → Int) : ACalls Try.prog 19 [.agg [.int .i64 w, .int .i64 h, ints .u8 n A], .agg [.int .i64 w', .int .i64 h', ints .u8 m B]] (.bool (samePV w h n A w' h' m B)) := by
  refine acalls_of (inl := hasI (P := Try.prog) [] []) (base [] [] []) 0 samePic_f (And.intro (by kernel_rfl) ?_)
  repeat' (first | refine And.intro ?_ ?_ | (with_reducible exact ff_elim) | (with_reducible exact tf_elim) | refine num_elim ?_ | intro _ | (with_reducible rfl) | ((with_reducible refine lk_t ?_); exact rfl) | refine tell ?_ | exact True.intro | (refine IsT.of ?_; kernel_rfl))
  all_goals (try refine Tell.mk ?_)
  all_goals first | with_reducible rfl | with_reducible exact isI_mk | with_reducible assumption | (with_reducible refine gb_t ?_; with_reducible assumption) | (with_reducible refine gb_f ?_; with_reducible assumption) | ((with_reducible refine lk_t ?_); rfl) | ((with_reducible refine okF_t ?_); kernel_rfl) | ((with_reducible refine ks_t ?_); rfl) | ((with_reducible refine pk_t ?_); rfl) | skip
  all_goals (try dsimp only at *)
  all_goals (try simp only [decide_eq_true_eq, decide_eq_false_iff_not] at *)
  all_goals (try simp only [mulN1, Nat.add_zero, Nat.zero_add, Nat.mul_one, Int.toNat_natCast, avInt_int, intF_mk] at *)
  all_goals first | with_reducible rfl | with_reducible exact nums_N | omega | ((with_reducible refine by_le 1 rfl ?_); omega) | ((with_reducible refine by_le 8 rfl ?_); omega) | (rw [wrapI (by omega) (by omega)] <;> omega) | skip
  all_goals rfl
def samePic_r (w h : Int) (n : Nat) (A : Nat → Int) (w' h' : Int) (m : Nat) (B : Nat → Int) : AV := .bool (samePV w h n A w' h' m B)
def samePic_k : Con Try.prog := ⟨19, fun args => match args with | [.agg [.int .i64 w, .int .i64 h, .sl n 1 g_A], .agg [.int .i64 w', .int .i64 h', .sl m 1 g_B]] => .ok (some (IsI .u8 g_A ∧ IsI .u8 g_B)) (samePic_r w h n (intF g_A) w' h' m (intF g_B)) | _ => .no, by
  intro args p r h hp
  split at h
  · cases h; obtain ⟨h_A, h_B⟩ := hp; have e_A := h_A.eq; have e_B := h_B.eq; rw [e_A, e_B]; exact samePic_a _ _ _ _ _ _ _ _
  · cases h⟩
theorem filmSays_f : FnOk Try.prog 3 Try.f3 := ⟨Try.func3, by kernel_rfl⟩
theorem filmSays_a (w h : Int) (n : Nat) (L : Nat → Int) (m : Nat) (S : Nat → Int) (w' h' : Int) (n' : Nat) (L' : Nat → Int) (m' : Nat) (S' : Nat → Int) (x y l0 l1 l2 br a b : Int) (hpre : In64 br) : ACalls Try.prog 3 [.agg [.int .i64 w, .int .i64 h, ints .i64 n L, ints .i64 m S], .agg [.int .i64 w', .int .i64 h', ints .i64 n' L', ints .i64 m' S'], .int .i64 x, .int .i64 y, .agg [.int .i64 l0, .int .i64 l1, .int .i64 l2], .int .i64 br, .int .i64 a, .int .i64 b] (.bool true) := by
  refine acalls_of (inl := hasI (P := Try.prog) [] []) (base [heavy_k, put_k, putR_k, mayF_k, mayFR_k, sameFilm_k, sameFilmZ_k, merge_k, mergeR_k, shade_k, shadeR_k, tone_k, toneR_k, samePic_k, newF_k] [] []) 0 filmSays_f (And.intro (by kernel_rfl) ?_)
  repeat' (first | refine And.intro ?_ ?_ | (with_reducible exact ff_elim) | (with_reducible exact tf_elim) | refine num_elim ?_ | intro _ | (with_reducible rfl) | ((with_reducible refine lk_t ?_); exact rfl) | refine tell ?_ | exact True.intro | (refine IsT.of ?_; kernel_rfl))
  all_goals (try refine Tell.mk ?_)
  all_goals first | with_reducible rfl | with_reducible exact isI_mk | with_reducible assumption | (with_reducible refine gb_t ?_; with_reducible assumption) | (with_reducible refine gb_f ?_; with_reducible assumption) | ((with_reducible refine lk_t ?_); rfl) | ((with_reducible refine okF_t ?_); kernel_rfl) | ((with_reducible refine ks_t ?_); rfl) | ((with_reducible refine pk_t ?_); rfl) | skip
  all_goals (try dsimp only at *)
  all_goals (try simp only [decide_eq_true_eq, decide_eq_false_iff_not] at *)
  all_goals (try simp only [mulN1, Nat.add_zero, Nat.zero_add, Nat.mul_one, Int.toNat_natCast, avInt_int, intF_mk] at *)
  all_goals first | with_reducible rfl | with_reducible exact nums_N | omega | ((with_reducible refine by_le 1 rfl ?_); omega) | ((with_reducible refine by_le 8 rfl ?_); omega) | (rw [wrapI (by omega) (by omega)] <;> omega) | skip
  all_goals first | (exfalso; simp only [gb, sameFV_refl, samePV_refl, bne_self_eq_false, Bool.not_true, Bool.or_self, Bool.or_false, Bool.false_eq_true] at *; done) | skip
  all_goals first | (have hs : Side a b := side_of (by with_reducible assumption); have hn := newE0 hs; simp only [gb, hn, beq_self_eq_true, Bool.false_eq_true, Bool.true_eq_false] at *; done) | skip
  all_goals first | (rw [Bool.and_eq_true]; refine ⟨by with_reducible assumption, ?_⟩; exact decide_eq_true (by assumption)) | skip
  all_goals first | (have hs : ¬ Side a b := nside_of (by with_reducible assumption); simp [newE4 hs, ifz, ifn]; done) | skip
  all_goals have hs : Side a b := side_of (by with_reducible assumption)
  all_goals (have hy := hs.wh; obtain ⟨z1, z2, z3⟩ := hs.wraps; simp only [z1, z2, z3, hs.wh.2.2, Tab.s3, Tab.b3, mulN1])
  all_goals first | omega | (rw [newE0 hs, ifz0 rfl, ifz0 rfl, ifn0 rfl, ifn0 rfl, sameFV_refl]; rfl)
def filmSays_r (w h : Int) (n : Nat) (L : Nat → Int) (m : Nat) (S : Nat → Int) (w' h' : Int) (n' : Nat) (L' : Nat → Int) (m' : Nat) (S' : Nat → Int) (x y l0 l1 l2 br a b : Int) : AV := .bool true
def filmSays_p (w h : Int) (n : Nat) (L : Nat → Int) (m : Nat) (S : Nat → Int) (w' h' : Int) (n' : Nat) (L' : Nat → Int) (m' : Nat) (S' : Nat → Int) (x y l0 l1 l2 br a b : Int) : Prop := In64 br
def filmSays_k : Con Try.prog := ⟨3, fun args => match args with | [.agg [.int .i64 w, .int .i64 h, .sl n 1 g_L, .sl m 1 g_S], .agg [.int .i64 w', .int .i64 h', .sl n' 1 g_L', .sl m' 1 g_S'], .int .i64 x, .int .i64 y, .agg [.int .i64 l0, .int .i64 l1, .int .i64 l2], .int .i64 br, .int .i64 a, .int .i64 b] => .ok (some (IsI .i64 g_L ∧ IsI .i64 g_S ∧ IsI .i64 g_L' ∧ IsI .i64 g_S' ∧ filmSays_p w h n (intF g_L) m (intF g_S) w' h' n' (intF g_L') m' (intF g_S') x y l0 l1 l2 br a b)) (filmSays_r w h n (intF g_L) m (intF g_S) w' h' n' (intF g_L') m' (intF g_S') x y l0 l1 l2 br a b) | _ => .no, by
  intro args p r h hp
  split at h
  · cases h; obtain ⟨h_L, h_S, h_L', h_S', hp⟩ := hp; have e_L := h_L.eq; have e_S := h_S.eq; have e_L' := h_L'.eq; have e_S' := h_S'.eq; rw [e_L, e_S, e_L', e_S']; exact filmSays_a _ _ _ _ _ _ _ _ _ _ _ _ _ _ _ _ _ _ _ _ hp
  · cases h⟩
end Go.Proofs.Ytoaghdmhapcgiaa
