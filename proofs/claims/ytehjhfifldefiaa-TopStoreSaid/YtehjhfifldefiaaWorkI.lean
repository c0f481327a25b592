/- Films that are made of raw numbers, in the seat of work. -/
import Derived.Test.YtehjhfifldefiaaWorkH
namespace Go.Proofs.Ytehjhfifldefiaa
open Go.RowKit Ev
set_option linter.unusedVariables false
set_option linter.unusedSimpArgs false
set_option maxRecDepth 20000
set_option maxHeartbeats 4000000

theorem pick_f : FnOk Try.prog 14 Try.f14 := ⟨Try.func14, by kernel_rfl⟩
theorem pick_a (c n : Int) (hpre : In64 c ∧ 1 ≤ n ∧ n ≤ 4294967296) : ACalls Try.prog 14 [.int .i64 c, .int .i64 n] (.int .i64 (pickF c n)) := by
  refine acalls_of (inl := hasI (P := Try.prog) [] []) (base [] [] []) 0 pick_f (And.intro (by kernel_rfl) ?_)
  repeat' (first | refine And.intro ?_ ?_ | (with_reducible exact ff_elim) | (with_reducible exact tf_elim) | intro _ | (with_reducible rfl) | ((with_reducible refine lk_t ?_); exact rfl) | ((with_reducible refine pf_t ?_); exact rfl) | refine tell ?_ | exact True.intro | (refine IsT.of ?_; kernel_rfl))
  all_goals obtain ⟨⟨c0, c1⟩, n0, n1⟩ := hpre
  all_goals (try refine Tell.mk ?_)
  all_goals first | with_reducible rfl | (simp only [decide_eq_true_eq, decide_eq_false_iff_not] at *; (iterate 3 (try simp (disch := omega) only [wrapI] at *)); subst_vars; first | omega | (unfold pickF; split <;> first | omega | (rw [Int.tmod_eq_emod_of_nonneg (by omega)]; done) | (rw [Int.tmod_eq_emod_of_nonneg (by omega)]; congr 1; omega)))
def pick_k : Con Try.prog := ⟨14, fun args => match args with | [.int .i64 c, .int .i64 n] => .ok (some (In64 c ∧ 1 ≤ n ∧ n ≤ 4294967296)) (.int .i64 (pickF c n)) | _ => .no, by
  intro args p r h hp
  split at h
  · cases h; exact pick_a _ _ hp
  · cases h⟩
theorem raw_f : FnOk Try.prog 16 Try.f16 := ⟨Try.func16, by kernel_rfl⟩
theorem raw_a (n : Nat) (F : Nat → Int) (k : Int) (hpre : 0 ≤ k) : ACalls Try.prog 16 [ints .i64 n F, .int .i64 k] (.int .i64 (rawF n F k)) := by
  refine acalls_of (inl := hasI (P := Try.prog) [] []) (base [] [] []) 0 raw_f (And.intro (by kernel_rfl) ?_)
  repeat' (first | refine And.intro ?_ ?_ | (with_reducible exact ff_elim) | (with_reducible exact tf_elim) | intro _ | (with_reducible rfl) | ((with_reducible refine lk_t ?_); exact rfl) | ((with_reducible refine pf_t ?_); exact rfl) | refine tell ?_ | exact True.intro | (refine IsT.of ?_; kernel_rfl))
  all_goals (try refine Tell.mk ?_)
  all_goals first | with_reducible rfl | (simp only [beq_iff_eq, beq_eq_false_iff_ne] at *; subst_vars; first | omega | exact Int.tmod_nonneg _ hpre | exact Int.tmod_lt_of_pos _ (by omega) | (unfold rawF; rw [if_pos (by omega)]; done) | (unfold rawF; rw [if_neg (by omega), Int.tmod_eq_emod_of_nonneg hpre, mulN1, Nat.add_zero, Int.toNat_emod hpre (by omega)]; rfl))
def raw_r (n : Nat) (F : Nat → Int) (k : Int) : AV := .int .i64 (rawF n F k)
def raw_p (n : Nat) (F : Nat → Int) (k : Int) : Prop := 0 ≤ k
def raw_k : Con Try.prog := ⟨16, fun args => match args with | [.sl n 1 g_F, .int .i64 k] => .ok (some (IsI .i64 g_F ∧ raw_p n (intF g_F) k)) (raw_r n (intF g_F) k) | _ => .no, by
  intro args p r h hp
  split at h
  · cases h; obtain ⟨h_F, hp⟩ := hp; have e_F := h_F.eq; rw [e_F]; exact raw_a _ _ _ hp
  · cases h⟩
def lightF (n : Nat) (F : Nat → Int) (j : Nat) : Int := pickF (IntKind.i64.wrap (rawF n F (4 * ((j / 3 : Nat) : Int) + ((j % 3 : Nat) : Int)) * 4099)) 300000
def shotF (n : Nat) (F : Nat → Int) (j : Nat) : Int := pickF (rawF n F (4 * (j : Int) + 3)) 6
theorem light_step {n : Nat} {F : Nat → Int} {i j : Nat} (hj : j < 3 * (i + 1)) : lightF n F j = if j < 3 * i + 1 + 1 then (if j < 3 * i + 1 then (if j < 3 * i then lightF n F j else pickF (IntKind.i64.wrap (rawF n F (4 * (i : Int)) * 4099)) 300000) else pickF (IntKind.i64.wrap (rawF n F (4 * (i : Int) + 1) * 4099)) 300000) else pickF (IntKind.i64.wrap (rawF n F (4 * (i : Int) + 2) * 4099)) 300000 := by
  by_cases h : j < 3 * i
  · rw [if_pos (by omega), if_pos (by omega), if_pos h]
  · have hi : j / 3 = i := by omega
    have : j = 3 * i ∨ j = 3 * i + 1 ∨ j = 3 * i + 2 := by omega
    rcases this with rfl | rfl | rfl
    · rw [if_pos (show 3 * i < 3 * i + 1 + 1 by omega), if_pos (show 3 * i < 3 * i + 1 by omega), if_neg h]
      unfold lightF; rw [hi, show 3 * i % 3 = 0 by omega]; rfl
    · rw [if_pos (show 3 * i + 1 < 3 * i + 1 + 1 by omega), if_neg (show ¬ 3 * i + 1 < 3 * i + 1 by omega)]
      unfold lightF; rw [hi, show (3 * i + 1) % 3 = 1 by omega]; rfl
    · rw [if_neg (show ¬ 3 * i + 2 < 3 * i + 1 + 1 by omega)]
      unfold lightF; rw [hi, show (3 * i + 2) % 3 = 2 by omega]; rfl
theorem shot_step {n : Nat} {F : Nat → Int} {i j : Nat} (hj : j < i + 1) : shotF n F j = if j < i then shotF n F j else pickF (rawF n F (4 * (i : Int) + 3)) 6 := by
  by_cases h : j < i
  · rw [if_pos h]
  · obtain rfl : j = i := by omega
    rw [if_neg h]; rfl
theorem filmOf_f : FnOk Try.prog 13 Try.f13 := ⟨Try.func13, by kernel_rfl⟩
theorem filmOf_a (n : Nat) (F : Nat → Int) (w h : Int) (hpre : Side w h ∧ ∀ j, In64 (F j)) : ACalls Try.prog 13 [ints .i64 n F, .int .i64 w, .int .i64 h] (.agg [.int .i64 w, .int .i64 h, ints .i64 (3 * (w * h)).toNat (lightF n F), ints .i64 (w * h).toNat (shotF n F)]) := by
  refine acalls_len fun hlen => ?_
  simp only [lenV, len1, lenV0, len0, and_true, true_and] at hlen
  refine acalls_of (inl := hasI (P := Try.prog) [] []) (base [pick_k, raw_k] [] []) 0 filmOf_f (And.intro (by kernel_rfl) ?_)
  repeat' (first | refine And.intro ?_ ?_ | (with_reducible exact ff_elim) | (with_reducible exact tf_elim) | refine num_elim ?_ | intro _ | (with_reducible rfl) | ((with_reducible refine lk_t ?_); exact rfl) | ((with_reducible refine pf_t ?_); exact rfl) | refine tell ?_ | exact True.intro | (refine IsT.of ?_; kernel_rfl))
  all_goals (try (refine loop_keep [0, 1, 2, 6, 7] [0] ?_; refine LoopI.mk ({i : Nat // (i : Int) ≤ w * h}) (fun i => [(8, .int .i64 i.1)]) (fun i => [(4, .row [.int .i64 w, .int .i64 h, .os 1 1 0 (3 * i.1), .os 2 1 0 i.1]), (1, .nums .i64 (3 * i.1) (lightF n F)), (2, .nums .i64 i.1 (shotF n F))]) (fun i => (w * h).toNat - i.1) (⟨0, by have := hpre.1.wh; omega⟩) (wk_mk [some 4, none, none, some 0] ?_) (fun ⟨i, hi⟩ => ?_)))
  repeat' (first | refine And.intro ?_ ?_ | (with_reducible exact ff_elim) | (with_reducible exact tf_elim) | refine' stp_mk [some 4, some _, some _, some 0] (⟨i + 1, ?_⟩) ?_ ?_ | refine Or.inl ⟨4, ?_⟩ | refine num_lit 0 (by decide) ?_ | refine num_lit 1 (by decide) ?_ | refine num_lit 2 (by decide) ?_ | refine num_lit 3 (by decide) ?_ | refine num_lit 4 (by decide) ?_ | refine num_lit 5 (by decide) ?_ | refine num_lit 6 (by decide) ?_ | refine num_lit 7 (by decide) ?_ | refine num_lit 8 (by decide) ?_ | (intro h; exact absurd h (by decide)) | refine num_elim ?_ | intro _ | (with_reducible rfl) | ((with_reducible refine lk_t ?_); exact rfl) | ((with_reducible refine pf_t ?_); exact rfl) | refine tell ?_ | exact True.intro | (refine IsT.of ?_; kernel_rfl))
  all_goals obtain ⟨hs, hF⟩ := hpre
  all_goals (have hy := hs.wh; have z0 := hs.wraps.1)
  all_goals (try refine Tell.mk ?_)
  all_goals first | with_reducible rfl | with_reducible exact isI_mk | with_reducible assumption | (with_reducible refine gb_t ?_; with_reducible assumption) | (with_reducible refine gb_f ?_; with_reducible assumption) | ((with_reducible refine lk_t ?_); rfl) | ((with_reducible refine okF_t ?_); kernel_rfl) | ((with_reducible refine ks_t ?_); rfl) | ((with_reducible refine pk_t ?_); rfl) | ((with_reducible refine pf_t ?_); rfl) | skip
  all_goals (try dsimp only at *)
  all_goals (try simp only [decide_eq_true_eq, decide_eq_false_iff_not, Bool.or_eq_true, Bool.or_eq_false_iff, Bool.and_eq_true, Bool.and_eq_false_iff, Bool.not_eq_true', Bool.not_eq_false', bne_iff_ne, ne_eq, beq_iff_eq, bne_eq_false_iff_eq, beq_eq_false_iff_ne, Int.not_lt, Int.not_le, gt_iff_lt, ge_iff_le] at *)
  all_goals (try simp only [mulN1, Nat.add_zero, Nat.zero_add, Nat.mul_one, Int.toNat_natCast, avInt_int, intF_mk, raw_p, z0, Tab.b3] at *)
  all_goals (try simp only [catI_some] at *)
  all_goals first | with_reducible rfl | with_reducible exact nums_N | omega | ((with_reducible refine by_le 1 rfl ?_); omega) | ((with_reducible refine by_le 8 rfl ?_); omega) | (rw [wrapI (by omega) (by omega)] <;> omega) | skip
  all_goals (have y0 : IntKind.i64.wrap (4 * (i : Int)) = 4 * (i : Int) := wrapI (by omega) (by omega); have y1 : IntKind.i64.wrap (4 * (i : Int) + 1) = 4 * (i : Int) + 1 := wrapI (by omega) (by omega); have y2 : IntKind.i64.wrap (4 * (i : Int) + 2) = 4 * (i : Int) + 2 := wrapI (by omega) (by omega); have y3 : IntKind.i64.wrap (4 * (i : Int) + 3) = 4 * (i : Int) + 3 := wrapI (by omega) (by omega))
  all_goals simp only [Int.add_zero, y0, y1, y2, y3] at *
  all_goals first | omega | (with_reducible exact wrap_in _) | (with_reducible exact rawF_in hF) | exact light_step (by assumption) | exact shot_step (by assumption)
def filmOf_r (n : Nat) (F : Nat → Int) (w h : Int) : AV := .agg [.int .i64 w, .int .i64 h, ints .i64 (3 * (w * h)).toNat (lightF n F), ints .i64 (w * h).toNat (shotF n F)]
def filmOf_p (n : Nat) (F : Nat → Int) (w h : Int) : Prop := Side w h ∧ ∀ j, In64 (F j)
def filmOf_k : Con Try.prog := ⟨13, fun args => match args with | [.sl n 1 g_F, .int .i64 w, .int .i64 h] => .ok (some (IsI .i64 g_F ∧ filmOf_p n (intF g_F) w h)) (filmOf_r n (intF g_F) w h) | _ => .no, by
  intro args p r h hp
  split at h
  · cases h; obtain ⟨h_F, hp⟩ := hp; have e_F := h_F.eq; rw [e_F]; exact filmOf_a _ _ _ _ hp
  · cases h⟩
theorem tsameInts_f : FnOk Try.prog 29 Try.f29 := ⟨Try.func29, by kernel_rfl⟩
theorem tsameInts_a (n : Nat) (A : Nat → Int) (m : Nat) (B : Nat → Int) : ACalls Try.prog 29 [ints .i64 n A, ints .i64 m B] (.bool (sameI n A m B)) := by
  refine acalls_len fun hlen => ?_
  simp only [lenV, len1, lenV0, len0, and_true, true_and] at hlen
  refine acalls_of (inl := hasI (P := Try.prog) [] []) (base [] [] []) 0 tsameInts_f (And.intro (by kernel_rfl) ?_)
  repeat' (first | refine And.intro ?_ ?_ | (with_reducible exact ff_elim) | (with_reducible exact tf_elim) | refine num_elim ?_ | intro _ | (with_reducible rfl) | ((with_reducible refine lk_t ?_); exact rfl) | ((with_reducible refine pf_t ?_); exact rfl) | refine tell ?_ | exact True.intro | (refine IsT.of ?_; kernel_rfl))
  all_goals (try (refine loop_keep [0, 1] [] ?_; refine LoopI.mk ({i : Nat // i ≤ n ∧ eqIn A B i = true}) (fun i => [(5, .int .i64 i.1)]) (fun _ => []) (fun i => n - i.1) (⟨0, Nat.zero_le _, rfl⟩) (wk_mk [] ?_) (fun ⟨i, hi, hb⟩ => ?_)))
  repeat' (first | refine And.intro ?_ ?_ | (with_reducible exact ff_elim) | (with_reducible exact tf_elim) | refine stp_mk [] (⟨i + 1, ?_, ?_⟩) ?_ ?_ | refine num_elim ?_ | intro _ | (with_reducible rfl) | ((with_reducible refine lk_t ?_); exact rfl) | ((with_reducible refine pf_t ?_); exact rfl) | refine tell ?_ | exact True.intro | (refine IsT.of ?_; kernel_rfl))
  all_goals (try refine Tell.mk ?_)
  all_goals first | with_reducible rfl | with_reducible exact isI_mk | with_reducible assumption | (with_reducible refine gb_t ?_; with_reducible assumption) | (with_reducible refine gb_f ?_; with_reducible assumption) | ((with_reducible refine lk_t ?_); rfl) | ((with_reducible refine okF_t ?_); kernel_rfl) | ((with_reducible refine ks_t ?_); rfl) | ((with_reducible refine pk_t ?_); rfl) | ((with_reducible refine pf_t ?_); rfl) | skip
  all_goals (try dsimp only at *)
  all_goals (try simp only [decide_eq_true_eq, decide_eq_false_iff_not, Bool.or_eq_true, Bool.or_eq_false_iff, Bool.and_eq_true, Bool.and_eq_false_iff, Bool.not_eq_true', Bool.not_eq_false', bne_iff_ne, ne_eq, beq_iff_eq, bne_eq_false_iff_eq, beq_eq_false_iff_ne, Int.not_lt, Int.not_le, gt_iff_lt, ge_iff_le] at *)
  all_goals (try simp only [mulN1, Nat.add_zero, Nat.zero_add, Nat.mul_one, Int.toNat_natCast, avInt_int] at *)
  all_goals first | with_reducible rfl | with_reducible exact nums_N | omega | ((with_reducible refine by_le 1 rfl ?_); omega) | ((with_reducible refine by_le 8 rfl ?_); omega) | (rw [wrapI (by omega) (by omega)] <;> omega) | skip
  all_goals first | exact sameI_no (by omega) | exact sameI_at (by omega) (i := i) (by omega) (by assumption) | exact eqIn_step hb (by assumption) | skip
  all_goals (obtain rfl : i = n := by omega)
  all_goals exact sameI_yes (by omega) hb
def tsameInts_r (n : Nat) (A : Nat → Int) (m : Nat) (B : Nat → Int) : AV := .bool (sameI n A m B)
def tsameInts_k : Con Try.prog := ⟨29, fun args => match args with | [.sl n 1 g_A, .sl m 1 g_B] => .ok (some (IsI .i64 g_A ∧ IsI .i64 g_B)) (tsameInts_r n (intF g_A) m (intF g_B)) | _ => .no, by
  intro args p r h hp
  split at h
  · cases h; obtain ⟨h_A, h_B⟩ := hp; have e_A := h_A.eq; have e_B := h_B.eq; rw [e_A, e_B]; exact tsameInts_a _ _ _ _
  · cases h⟩
theorem tsameIntsZ_f : FnOk Try.prog 29 Try.f29 := ⟨Try.func29, by kernel_rfl⟩
theorem tsameIntsZ_a (n : Nat) (A : Nat → Int) : ACalls Try.prog 29 [ints .i64 n A, .nils] (.bool (decide (n = 0))) := by
  refine acalls_len fun hlen => ?_
  simp only [lenV, len1, lenV0, len0, and_true, true_and] at hlen
  refine acalls_of (inl := hasI (P := Try.prog) [] []) (base [] [] []) 0 tsameIntsZ_f (And.intro (by kernel_rfl) ?_)
  repeat' (first | refine And.intro ?_ ?_ | (with_reducible exact ff_elim) | (with_reducible exact tf_elim) | refine num_elim ?_ | intro _ | (with_reducible rfl) | ((with_reducible refine lk_t ?_); exact rfl) | ((with_reducible refine pf_t ?_); exact rfl) | refine tell ?_ | exact True.intro | (refine IsT.of ?_; kernel_rfl))
  all_goals (try (refine loop_keep [0, 1] [] ?_; refine LoopI.mk ({i : Nat // i ≤ n}) (fun i => [(5, .int .i64 i.1)]) (fun _ => []) (fun i => n - i.1) (⟨0, Nat.zero_le _⟩) (wk_mk [] ?_) (fun ⟨i, hi⟩ => ?_)))
  repeat' (first | refine And.intro ?_ ?_ | (with_reducible exact ff_elim) | (with_reducible exact tf_elim) | refine stp_mk [] (⟨i + 1, ?_⟩) ?_ ?_ | refine num_elim ?_ | intro _ | (with_reducible rfl) | ((with_reducible refine lk_t ?_); exact rfl) | ((with_reducible refine pf_t ?_); exact rfl) | refine tell ?_ | exact True.intro | (refine IsT.of ?_; kernel_rfl))
  all_goals (try refine Tell.mk ?_)
  all_goals first | with_reducible rfl | with_reducible exact isI_mk | with_reducible assumption | (with_reducible refine gb_t ?_; with_reducible assumption) | (with_reducible refine gb_f ?_; with_reducible assumption) | ((with_reducible refine lk_t ?_); rfl) | ((with_reducible refine okF_t ?_); kernel_rfl) | ((with_reducible refine ks_t ?_); rfl) | ((with_reducible refine pk_t ?_); rfl) | ((with_reducible refine pf_t ?_); rfl) | skip
  all_goals (try dsimp only at *)
  all_goals (try simp only [decide_eq_true_eq, decide_eq_false_iff_not, Bool.or_eq_true, Bool.or_eq_false_iff, Bool.and_eq_true, Bool.and_eq_false_iff, Bool.not_eq_true', Bool.not_eq_false', bne_iff_ne, ne_eq, beq_iff_eq, bne_eq_false_iff_eq, beq_eq_false_iff_ne, Int.not_lt, Int.not_le, gt_iff_lt, ge_iff_le] at *)
  all_goals (try simp only [mulN1, Nat.add_zero, Nat.zero_add, Nat.mul_one, Int.toNat_natCast, avInt_int] at *)
  all_goals first | with_reducible rfl | with_reducible exact nums_N | omega | ((with_reducible refine by_le 1 rfl ?_); omega) | ((with_reducible refine by_le 8 rfl ?_); omega) | (rw [wrapI (by omega) (by omega)] <;> omega) | skip
def tsameIntsZ_r (n : Nat) (A : Nat → Int) : AV := .bool (decide (n = 0))
def tsameIntsZ_k : Con Try.prog := ⟨29, fun args => match args with | [.sl n 1 g_A, .nils] => .ok (some (IsI .i64 g_A)) (tsameIntsZ_r n (intF g_A)) | _ => .no, by
  intro args p r h hp
  split at h
  · cases h; have h_A := hp; have e_A := h_A.eq; rw [e_A]; exact tsameIntsZ_a _ _
  · cases h⟩
theorem tsameFilm_f : FnOk Try.prog 15 Try.f15 := ⟨Try.func15, by kernel_rfl⟩
theorem tsameFilm_a (w h : Int) (n : Nat) (L : Nat → Int) (m : Nat) (S : Nat → Int) (w' h' : Int) (n' : Nat) (L' : Nat → Int) (m' : Nat) (S' : Nat → Int) : ACalls Try.prog 15 [.agg [.int .i64 w, .int .i64 h, ints .i64 n L, ints .i64 m S], .agg [.int .i64 w', .int .i64 h', ints .i64 n' L', ints .i64 m' S']] (.bool (sameFV w h n L m S w' h' n' L' m' S')) := by
  refine acalls_of (inl := hasI (P := Try.prog) [] []) (base [tsameInts_k] [] []) 0 tsameFilm_f (And.intro (by kernel_rfl) ?_)
  repeat' (first | refine And.intro ?_ ?_ | (with_reducible exact ff_elim) | (with_reducible exact tf_elim) | refine num_elim ?_ | intro _ | (with_reducible rfl) | ((with_reducible refine lk_t ?_); exact rfl) | ((with_reducible refine pf_t ?_); exact rfl) | refine tell ?_ | exact True.intro | (refine IsT.of ?_; kernel_rfl))
  all_goals (try refine Tell.mk ?_)
  all_goals first | with_reducible rfl | with_reducible exact isI_mk | with_reducible assumption | (with_reducible refine gb_t ?_; with_reducible assumption) | (with_reducible refine gb_f ?_; with_reducible assumption) | ((with_reducible refine lk_t ?_); rfl) | ((with_reducible refine okF_t ?_); kernel_rfl) | ((with_reducible refine ks_t ?_); rfl) | ((with_reducible refine pk_t ?_); rfl) | ((with_reducible refine pf_t ?_); rfl) | skip
  all_goals (try dsimp only at *)
  all_goals (try simp only [decide_eq_true_eq, decide_eq_false_iff_not] at *)
  all_goals (try simp only [mulN1, Nat.add_zero, Nat.zero_add, Nat.mul_one, Int.toNat_natCast, avInt_int, intF_mk] at *)
  all_goals first | with_reducible rfl | with_reducible exact nums_N | omega | ((with_reducible refine by_le 1 rfl ?_); omega) | ((with_reducible refine by_le 8 rfl ?_); omega) | (rw [wrapI (by omega) (by omega)] <;> omega) | skip
  all_goals rfl
def tsameFilm_r (w h : Int) (n : Nat) (L : Nat → Int) (m : Nat) (S : Nat → Int) (w' h' : Int) (n' : Nat) (L' : Nat → Int) (m' : Nat) (S' : Nat → Int) : AV := .bool (sameFV w h n L m S w' h' n' L' m' S')
def tsameFilm_k : Con Try.prog := ⟨15, fun args => match args with | [.agg [.int .i64 w, .int .i64 h, .sl n 1 g_L, .sl m 1 g_S], .agg [.int .i64 w', .int .i64 h', .sl n' 1 g_L', .sl m' 1 g_S']] => .ok (some (IsI .i64 g_L ∧ IsI .i64 g_S ∧ IsI .i64 g_L' ∧ IsI .i64 g_S')) (tsameFilm_r w h n (intF g_L) m (intF g_S) w' h' n' (intF g_L') m' (intF g_S')) | _ => .no, by
  intro args p r h hp
  split at h
  · cases h; obtain ⟨h_L, h_S, h_L', h_S'⟩ := hp; have e_L := h_L.eq; have e_S := h_S.eq; have e_L' := h_L'.eq; have e_S' := h_S'.eq; rw [e_L, e_S, e_L', e_S']; exact tsameFilm_a _ _ _ _ _ _ _ _ _ _ _ _
  · cases h⟩
theorem tsameFilmZ_f : FnOk Try.prog 15 Try.f15 := ⟨Try.func15, by kernel_rfl⟩
theorem tsameFilmZ_a (w h : Int) (n : Nat) (L : Nat → Int) (m : Nat) (S : Nat → Int) : ACalls Try.prog 15 [.agg [.int .i64 w, .int .i64 h, ints .i64 n L, ints .i64 m S], .agg [.int .i64 0, .int .i64 0, .nils, .nils]] (.bool (w == 0 && h == 0 && decide (n = 0) && decide (m = 0))) := by
  refine acalls_of (inl := hasI (P := Try.prog) [] []) (base [tsameIntsZ_k] [] []) 0 tsameFilmZ_f (And.intro (by kernel_rfl) ?_)
  repeat' (first | refine And.intro ?_ ?_ | (with_reducible exact ff_elim) | (with_reducible exact tf_elim) | refine num_elim ?_ | intro _ | (with_reducible rfl) | ((with_reducible refine lk_t ?_); exact rfl) | ((with_reducible refine pf_t ?_); exact rfl) | refine tell ?_ | exact True.intro | (refine IsT.of ?_; kernel_rfl))
  all_goals (try refine Tell.mk ?_)
  all_goals first | with_reducible rfl | with_reducible exact isI_mk | with_reducible assumption | (with_reducible refine gb_t ?_; with_reducible assumption) | (with_reducible refine gb_f ?_; with_reducible assumption) | ((with_reducible refine lk_t ?_); rfl) | ((with_reducible refine okF_t ?_); kernel_rfl) | ((with_reducible refine ks_t ?_); rfl) | ((with_reducible refine pk_t ?_); rfl) | ((with_reducible refine pf_t ?_); rfl) | skip
  all_goals (try dsimp only at *)
  all_goals (try simp only [decide_eq_true_eq, decide_eq_false_iff_not] at *)
  all_goals (try simp only [mulN1, Nat.add_zero, Nat.zero_add, Nat.mul_one, Int.toNat_natCast, avInt_int, intF_mk] at *)
  all_goals first | with_reducible rfl | with_reducible exact nums_N | omega | ((with_reducible refine by_le 1 rfl ?_); omega) | ((with_reducible refine by_le 8 rfl ?_); omega) | (rw [wrapI (by omega) (by omega)] <;> omega) | skip
def tsameFilmZ_r (w h : Int) (n : Nat) (L : Nat → Int) (m : Nat) (S : Nat → Int) : AV := .bool (w == 0 && h == 0 && decide (n = 0) && decide (m = 0))
def tsameFilmZ_k : Con Try.prog := ⟨15, fun args => match args with | [.agg [.int .i64 w, .int .i64 h, .sl n 1 g_L, .sl m 1 g_S], .agg [.int .i64 0, .int .i64 0, .nils, .nils]] => .ok (some (IsI .i64 g_L ∧ IsI .i64 g_S)) (tsameFilmZ_r w h n (intF g_L) m (intF g_S)) | _ => .no, by
  intro args p r h hp
  split at h
  · cases h; obtain ⟨h_L, h_S⟩ := hp; have e_L := h_L.eq; have e_S := h_S.eq; rw [e_L, e_S]; exact tsameFilmZ_a _ _ _ _ _ _
  · cases h⟩
end Go.Proofs.Ytehjhfifldefiaa
