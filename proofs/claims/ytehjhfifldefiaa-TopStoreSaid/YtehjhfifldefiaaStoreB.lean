/- Stores of films: films with blocks of their own, their bytes, and waking. -/
import Derived.Test.YtehjhfifldefiaaWorkJ
import Derived.Test.YtehjhfifldefiaaStoreA
namespace Go.Proofs.Ytehjhfifldefiaa
open Go.RowKit Ev
set_option linter.unusedVariables false
set_option linter.unusedSimpArgs false
set_option maxRecDepth 20000
set_option maxHeartbeats 4000000

theorem filmN_f : FnOk Try.prog 13 Try.f13 := ⟨Try.func13, by kernel_rfl⟩
theorem filmN_a (n : Nat) (F : Nat → Int) (w h : Int) (hpre : Side w h ∧ ∀ j, In64 (F j)) : MCalls Try.prog 13 ([ints .i64 n F, .int .i64 w, .int .i64 h]) [] (.agg [.int .i64 w, .int .i64 h, .os 0 1 0 (3 * (w * h)).toNat, .os 1 1 0 (w * h).toNat]) [.nums .i64 (3 * (w * h)).toNat (lightF n F), .nums .i64 (w * h).toNat (shotF n F)] := by
  refine mcallsF_of (inl := hasI (P := Try.prog) [] []) (base [pick_k, raw_k] [] []) 0 filmN_f (And.intro (by kernel_rfl) ?_)
  repeat' (first | refine And.intro ?_ ?_ | (with_reducible exact ff_elim) | (with_reducible exact tf_elim) | refine' rho_mk [_, _] ?_ | refine num_elim ?_ | intro _ | (with_reducible rfl) | ((with_reducible refine lk_t ?_); exact rfl) | ((with_reducible refine pf_t ?_); exact rfl) | refine tell ?_ | exact True.intro | (refine IsT.of ?_; kernel_rfl))
  all_goals (try (refine loop_keep [0, 1, 2, 6, 7] [0] ?_; refine LoopI.mk ({i : Nat // (i : Int) ≤ w * h}) (fun i => [(8, .int .i64 i.1)]) (fun i => [(4, .row [.int .i64 w, .int .i64 h, .os 1 1 0 (3 * i.1), .os 2 1 0 i.1]), (1, .nums .i64 (3 * i.1) (lightF n F)), (2, .nums .i64 i.1 (shotF n F))]) (fun i => (w * h).toNat - i.1) (⟨0, by have := hpre.1.wh; omega⟩) (wk_mk [some 4, none, none, some 0] ?_) (fun ⟨i, hi⟩ => ?_)))
  repeat' (first | refine And.intro ?_ ?_ | (with_reducible exact ff_elim) | (with_reducible exact tf_elim) | refine' stp_mk [some 4, some _, some _, some 0] (⟨i + 1, ?_⟩) ?_ ?_ | refine Or.inl ⟨4, ?_⟩ | refine num_lit 0 (by decide) ?_ | refine num_lit 1 (by decide) ?_ | refine num_lit 2 (by decide) ?_ | refine num_lit 3 (by decide) ?_ | refine num_lit 4 (by decide) ?_ | refine num_lit 5 (by decide) ?_ | refine num_lit 6 (by decide) ?_ | refine num_lit 7 (by decide) ?_ | refine num_lit 8 (by decide) ?_ | (intro h; exact absurd h (by decide)) | refine' rho_mk [_, _] ?_ | refine num_elim ?_ | intro _ | (with_reducible rfl) | ((with_reducible refine lk_t ?_); exact rfl) | ((with_reducible refine pf_t ?_); exact rfl) | refine tell ?_ | exact True.intro | (refine IsT.of ?_; kernel_rfl))
  all_goals obtain ⟨hs, hF⟩ := hpre
  all_goals (have hy := hs.wh; have z0 := hs.wraps.1)
  all_goals (try refine Tell.mk ?_)
  all_goals first | with_reducible rfl | with_reducible exact isI_mk | with_reducible assumption | (with_reducible refine gb_t ?_; with_reducible assumption) | (with_reducible refine gb_f ?_; with_reducible assumption) | ((with_reducible refine lk_t ?_); rfl) | ((with_reducible refine okF_t ?_); kernel_rfl) | ((with_reducible refine ks_t ?_); rfl) | ((with_reducible refine pk_t ?_); rfl) | ((with_reducible refine pf_t ?_); rfl) | skip
  all_goals (try dsimp only at *)
  all_goals (try simp only [decide_eq_true_eq, decide_eq_false_iff_not, Bool.or_eq_true, Bool.or_eq_false_iff, Bool.and_eq_true, Bool.and_eq_false_iff, Bool.not_eq_true', Bool.not_eq_false', bne_iff_ne, ne_eq, beq_iff_eq, bne_eq_false_iff_eq, beq_eq_false_iff_ne, Int.not_lt, Int.not_le, gt_iff_lt, ge_iff_le] at *)
  all_goals (try simp only [mulN1, Nat.add_zero, Nat.zero_add, Nat.mul_one, Int.toNat_natCast, avInt_int, intF_mk, raw_p, z0, Tab.b3] at *)
  all_goals (try simp only [catI_some] at *)
  all_goals first | with_reducible rfl | with_reducible exact nums_N | omega | ((with_reducible refine by_le 1 rfl ?_); omega) | ((with_reducible refine by_le 8 rfl ?_); omega) | (rw [wrapI (by omega) (by omega)] <;> omega) | skip
  all_goals (have y0 : IntKind.i64.wrap (4 * (i : Int)) = 4 * (i : Int) := wrapI (by omega) (by omega); have y1 : IntKind.i64.wrap (4 * (i : Int) + 1) = 4 * (i : Int) + 1 := wrapI (by omega) (by omega); have y2 : IntKind.i64.wrap (4 * (i : Int) + 2) = 4 * (i : Int) + 2 := wrapI (by omega) (by omega); have y3 : IntKind.i64.wrap (4 * (i : Int) + 3) = 4 * (i : Int) + 3 := wrapI (by omega) (by omega))
  all_goals simp only [Int.add_zero, y0, y1, y2, y3] at *
  all_goals first | omega | (with_reducible exact wrap_in _) | (with_reducible exact rawF_in hF) | exact light_step (by assumption) | exact shot_step (by assumption)
def filmN_p (n : Nat) (F : Nat → Int) (w h : Int) : Prop := Side w h ∧ ∀ j, In64 (F j)
def filmN_r (n : Nat) (F : Nat → Int) (w h : Int) : AV := .agg [.int .i64 w, .int .i64 h, .os 0 1 0 (3 * (w * h)).toNat, .os 1 1 0 (w * h).toNat]
def filmN_rows (n : Nat) (F : Nat → Int) (w h : Int) : List OB := []
def filmN_rows2 (n : Nat) (F : Nat → Int) (w h : Int) : List OB := [.nums .i64 (3 * (w * h)).toNat (lightF n F), .nums .i64 (w * h).toNat (shotF n F)]
def filmN_m : MCon Try.prog := ⟨13, fun args own => match args with | [.sl n 1 g_F, .int .i64 w, .int .i64 h] => .ok [] ([.sl n 1 g_F, .int .i64 w, .int .i64 h]) (filmN_rows n (intF g_F) w h) (some (IsI .i64 g_F ∧ filmN_p n (intF g_F) w h)) (filmN_r n (intF g_F) w h) (filmN_rows2 n (intF g_F) w h) | _ => .no, by
  intro args own ks cargs rows p r rows2 h hp
  split at h
  · cases h; obtain ⟨h_F, hq⟩ := hp; have e_F := h_F.eq; rw [e_F]; exact filmN_a _ _ _ _ hq
  · cases h⟩
theorem saveN_f : FnOk Try.prog 11 Try.f11 := ⟨Try.func11, by kernel_rfl⟩
theorem saveN_a (w h : Int) (n : Nat) (L : Nat → Int) (m : Nat) (S : Nat → Int) (hpre : filmE w h n L m S = 0) : MCalls Try.prog 11 ([.agg [.int .i64 w, .int .i64 h, .os 0 1 0 n, .os 1 1 0 m]]) [.nums .i64 n L, .nums .i64 m S] (.tup [.os 2 1 0 (10 + 6 * n + 3 * m), .int .i64 0]) [.nums .i64 n L, .nums .i64 m S, .nums .u8 (10 + 6 * n + 3 * m) (saveC w h n L m S)] := by
  refine mcallsF_of (inl := hasI (P := Try.prog) [⟨27, Try.f27, Try.func27, by kernel_rfl⟩] []) (base [mayG_k, sumB_k] [⟨27, Try.f27, Try.func27, by kernel_rfl⟩] []) 4 saveN_f (And.intro (by kernel_rfl) ?_)
  repeat' (first | refine And.intro ?_ ?_ | (with_reducible exact ff_elim) | (with_reducible exact tf_elim) | refine' rho_mk [_] ?_ | (intro h; exact absurd h (by decide)) | refine num_lit 0 (by decide) ?_ | refine num_lit 1 (by decide) ?_ | refine num_lit 2 (by decide) ?_ | refine num_lit 3 (by decide) ?_ | refine num_lit 4 (by decide) ?_ | refine num_lit 5 (by decide) ?_ | refine num_lit 6 (by decide) ?_ | refine num_lit 7 (by decide) ?_ | refine num_lit 8 (by decide) ?_ | (intro h; exact absurd h (by decide)) | refine num_elim ?_ | intro _ | (with_reducible rfl) | ((with_reducible refine lk_t ?_); exact rfl) | ((with_reducible refine pf_t ?_); exact rfl) | refine tell ?_ | exact True.intro | (refine IsT.of ?_; kernel_rfl))
  all_goals (try (refine loop_keep [1, 26, 27] [2, 1, 0] ?_; refine LoopI.mk ({i : Nat // i ≤ n}) (fun i => [(28, .int .i64 i.1), (5, .os 3 1 0 (6 + 6 * i.1))]) (fun i => [(3, .nums .u8 (6 + 6 * i.1) (saveA w h L))]) (fun i => n - i.1) (⟨0, Nat.zero_le _⟩) (wk_mk [some 19, some 2, none, none] ?_) (fun ⟨i, hi⟩ => ?_)))
  repeat' (first | refine And.intro ?_ ?_ | (with_reducible exact ff_elim) | (with_reducible exact tf_elim) | refine' stp_mk [some _, some 2, none, none] (⟨i + 1, ?_⟩) ?_ ?_ | refine unr_at 10 7 ?_ | refine num_lit 0 (by decide) ?_ | refine num_lit 1 (by decide) ?_ | refine num_lit 2 (by decide) ?_ | refine num_lit 3 (by decide) ?_ | refine num_lit 4 (by decide) ?_ | refine num_lit 5 (by decide) ?_ | refine num_lit 6 (by decide) ?_ | refine num_lit 7 (by decide) ?_ | refine num_lit 8 (by decide) ?_ | (intro h; exact absurd h (by decide)) | (intro h; exact absurd h (by decide)) | refine' rho_mk [_] ?_ | refine num_elim ?_ | intro _ | (with_reducible rfl) | ((with_reducible refine lk_t ?_); exact rfl) | ((with_reducible refine pf_t ?_); exact rfl) | refine tell ?_ | exact True.intro | (refine IsT.of ?_; kernel_rfl))
  all_goals (try (refine loop_keep [37, 38] [1, 0] ?_; refine LoopI.mk ({k : Nat // k ≤ m}) (fun k => [(39, .int .i64 k.1), (5, .os 3 1 0 (6 + 6 * i + 3 * k.1))]) (fun k => [(3, .nums .u8 (6 + 6 * i + 3 * k.1) (saveB w h i L S))]) (fun k => m - k.1) (⟨0, Nat.zero_le _⟩) (wk_mk [some 3, none, none] ?_) (fun ⟨k, hk⟩ => ?_)))
  repeat' (first | refine And.intro ?_ ?_ | (with_reducible exact ff_elim) | (with_reducible exact tf_elim) | refine' stp_mk [some _, none, none] (⟨k + 1, ?_⟩) ?_ ?_ | refine unr_at 10 7 ?_ | refine num_lit 0 (by decide) ?_ | refine num_lit 1 (by decide) ?_ | refine num_lit 2 (by decide) ?_ | refine num_lit 3 (by decide) ?_ | refine num_lit 4 (by decide) ?_ | refine num_lit 5 (by decide) ?_ | refine num_lit 6 (by decide) ?_ | refine num_lit 7 (by decide) ?_ | refine num_lit 8 (by decide) ?_ | (intro h; exact absurd h (by decide)) | (intro h; exact absurd h (by decide)) | refine' rho_mk [_] ?_ | refine num_elim ?_ | intro _ | (with_reducible rfl) | ((with_reducible refine lk_t ?_); exact rfl) | ((with_reducible refine pf_t ?_); exact rfl) | refine tell ?_ | exact True.intro | (refine IsT.of ?_; kernel_rfl))
  all_goals (try exact (0 : Nat))
  all_goals first | exact absurd True.intro (by with_reducible assumption) | skip
  all_goals (try simp only [byteP_eq] at *)
  all_goals (try refine Tell.mk ?_)
  all_goals first | with_reducible rfl | with_reducible exact isI_mk | with_reducible assumption | (with_reducible refine gb_t ?_; with_reducible assumption) | (with_reducible refine gb_f ?_; with_reducible assumption) | ((with_reducible refine lk_t ?_); rfl) | ((with_reducible refine okF_t ?_); kernel_rfl) | ((with_reducible refine ks_t ?_); rfl) | ((with_reducible refine pk_t ?_); rfl) | ((with_reducible refine pf_t ?_); rfl) | skip
  all_goals (try dsimp only at *)
  all_goals (try simp only [decide_eq_true_eq, decide_eq_false_iff_not, Bool.or_eq_true, Bool.or_eq_false_iff, Bool.and_eq_true, Bool.and_eq_false_iff, Bool.not_eq_true', Bool.not_eq_false', bne_iff_ne, ne_eq, beq_iff_eq, bne_eq_false_iff_eq, beq_eq_false_iff_ne, Int.not_lt, Int.not_le, gt_iff_lt, ge_iff_le] at *)
  all_goals (try simp only [mulN1, Nat.add_zero, Nat.zero_add, Nat.mul_one, Int.toNat_natCast, avInt_int, intF_mk] at *)
  all_goals first | with_reducible rfl | with_reducible exact nums_N | omega | ((with_reducible refine by_le 1 rfl ?_); omega) | ((with_reducible refine by_le 8 rfl ?_); omega) | (rw [wrapI (by omega) (by omega)] <;> omega) | skip
  all_goals first | with_reducible exact isI_mk | skip
  all_goals have h0 : filmE w h n L m S = 0 := hpre
  all_goals obtain ⟨b1, b2, b3, b4⟩ := filmE_len h0
  all_goals (try simp only [sh5, sh4, sh3, sh2, sh1, sh0])
  all_goals first | omega | exact saveA_head (by omega) | exact putA_step (by with_reducible assumption) | exact saveB_0 (by omega) | exact putB_step (by with_reducible assumption) | (with_reducible refine by_le 1 rfl ?_; omega) | (rw [wrapI (by omega) (by omega)]; omega) | (simp only [List.length_cons, List.length_nil]; omega) | skip
  all_goals (obtain rfl : i = n := (by omega); obtain rfl : k = m := (by omega))
  all_goals first | omega | exact congrArg (AV.int .u8) (putC_step (by with_reducible assumption)) | exact putC_step (by with_reducible assumption) | trace_state
def saveN_p (w h : Int) (n : Nat) (L : Nat → Int) (m : Nat) (S : Nat → Int) : Prop := filmE w h n L m S = 0
def saveN_r (w h : Int) (n : Nat) (L : Nat → Int) (m : Nat) (S : Nat → Int) : AV := .tup [.os 2 1 0 (10 + 6 * n + 3 * m), .int .i64 0]
def saveN_rows (w h : Int) (n : Nat) (L : Nat → Int) (m : Nat) (S : Nat → Int) : List OB := [.nums .i64 n L, .nums .i64 m S]
def saveN_rows2 (w h : Int) (n : Nat) (L : Nat → Int) (m : Nat) (S : Nat → Int) : List OB := [.nums .i64 n L, .nums .i64 m S, .nums .u8 (10 + 6 * n + 3 * m) (saveC w h n L m S)]
def saveN_m : MCon Try.prog := ⟨11, fun args own => match args with | [.agg [.int .i64 w, .int .i64 h, .os k0_ 1 0 n, .os k1_ 1 0 m]] => (match own k0_ with | .nums .i64 n_ L => (match own k1_ with | .nums .i64 m_ S => .ok [k0_, k1_] ([.agg [.int .i64 w, .int .i64 h, .os 0 1 0 n, .os 1 1 0 m]]) (saveN_rows w h n L m S) (some (n_ = n ∧ m_ = m ∧ saveN_p w h n L m S)) (saveN_r w h n L m S) (saveN_rows2 w h n L m S) | _ => .no) | _ => .no) | _ => .no, by
  intro args own ks cargs rows p r rows2 h hp
  split at h
  · split at h
    · split at h
      · cases h; obtain ⟨rfl, rfl, hq⟩ := hp; exact saveN_a _ _ _ _ _ _ hq
      · cases h
    · cases h
  · cases h⟩
end Go.Proofs.Ytehjhfifldefiaa
