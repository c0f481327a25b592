/- Pictures as bytes: packing of a picture of one's own. -/
import Derived.Test.YtjnpngbgapigeaaDoorPctD
namespace Go.Proofs.YtjnpngbgapigeaaDoor
open Go.RowKit Ev
set_option linter.unusedVariables false
set_option linter.unusedSimpArgs false
set_option maxRecDepth 20000
set_option maxHeartbeats 8000000

theorem hd_at2 {w h : Int} {A : Nat → Int} {N k j : Nat} (hj : j < (pk A N w h 0).N) : (pk A N w h 0).B j = catI 4 (some k) (fun j => avInt ([AV.int .u8 82, AV.int .u8 72, AV.int .u8 80, AV.int .u8 49].getD j AV.any)) (fun j => avInt ([AV.int .u8 (IntKind.u8.wrap w), AV.int .u8 (IntKind.u8.wrap h)].getD j AV.any)) j := by
  have := hd_at (k := k) hj
  simpa only [Nat.zero_add] using this
theorem packM_f : FnOk Tryd.prog 12 Tryd.f12 := ⟨Tryd.func12, by kernel_rfl⟩
theorem packM_a (w h : Int) (n : Nat) (A : Nat → Int) (hpre : U8s A ∧ picE w h n = 0) : MCalls Tryd.prog 12 ([.agg [.int .i64 w, .int .i64 h, .os 0 1 0 n]]) [.nums .u8 n A] (.tup [.os 1 1 0 (pkN A w h), .int .i64 0]) [.nums .u8 n A, .nums .u8 (pkN A w h) (pkB A w h)] := by
  refine mcallsF_of (inl := hasI (P := Tryd.prog) [] [checkM_m]) (base [mayP_k, runP_k] [] [checkM_m]) 0 packM_f (And.intro (by kernel_rfl) ?_)
  obtain ⟨hA, h0⟩ := hpre
  obtain ⟨hs, hn⟩ := picE_ok h0
  have hy := hs.wh
  have z0 := hs.wraps.1
  obtain ⟨M, hM⟩ : ∃ M : Nat, w * h = M := ⟨(w * h).toNat, by omega⟩
  rw [hM] at hy hn
  have zW : IntKind.i64.wrap (w * h) = (M : Int) := by rw [z0, hM]
  repeat' (first | refine And.intro ?_ ?_ | (with_reducible exact ff_elim) | (with_reducible exact tf_elim) | refine' rho_mk [_] ?_ | refine num_elim ?_ | intro _ | (with_reducible rfl) | ((with_reducible refine lk_t ?_); exact rfl) | ((with_reducible refine pf_t ?_); exact rfl) | refine tell ?_ | exact True.intro | (refine IsT.of ?_; kernel_rfl))
  all_goals (try (refine loop_keep [1, 6] [0, 1] ?_; refine LoopI.mk (PkI A M w h) (fun j => [(7, .int .i64 (pk A M w h j.i).p), (5, .os 2 1 0 (pk A M w h j.i).N)]) (fun j => [(2, .nums .u8 (pk A M w h j.i).N (pk A M w h j.i).B)]) (fun j => M - (pk A M w h j.i).p) (⟨0, Nat.zero_le _⟩) (wk_mk [some 18, none, some 1] ?_) (fun ⟨i, hi⟩ => ?_)))
  repeat' (first | refine And.intro ?_ ?_ | (with_reducible exact ff_elim) | (with_reducible exact tf_elim) | refine' stp_mk [some _, none, some 1] ((⟨i + 1, ?_⟩ : PkI A M w h)) ?_ ?_ | refine' rho_mk [_] ?_ | refine num_elim ?_ | intro _ | (with_reducible rfl) | ((with_reducible refine lk_t ?_); exact rfl) | ((with_reducible refine pf_t ?_); exact rfl) | refine tell ?_ | exact True.intro | (refine IsT.of ?_; kernel_rfl))
  all_goals (try (refine loop_keep [1, 5, 6, 7] [0, 1, 2] ?_; refine LoopI.mk (UlI A M (pk A M w h i).p) (fun j => [(8, .int .i64 j.k)]) (fun j => []) (fun j => 128 - j.k) (⟨1, Nat.le_refl _, by decide, lt_W zW (by assumption), ul_0 _ _ _⟩) (wk_mk [none, some 1, some 2] ?_) (fun ⟨k, h1, h2, h3, he⟩ => ?_)))
  repeat' (first | refine And.intro ?_ ?_ | (with_reducible exact ff_elim) | (with_reducible exact tf_elim) | refine stp_mk [none, some 1, some 2] ((⟨k + 1, ?_, ?_, ?_, ?_⟩ : UlI A M (pk A M w h i).p)) ?_ ?_ | refine' stp_mk [some _, none, some 1] (⟨i + 1, ?_⟩ : PkI A M w h) ?_ ?_ | refine' rho_mk [_] ?_ | refine num_elim ?_ | intro _ | (with_reducible rfl) | ((with_reducible refine lk_t ?_); exact rfl) | ((with_reducible refine pf_t ?_); exact rfl) | refine tell ?_ | exact True.intro | (refine IsT.of ?_; kernel_rfl))
  all_goals (try exact (1 : Nat))
  all_goals (try refine Tell.mk ?_)
  all_goals (try dsimp only at *)
  all_goals first | with_reducible rfl | with_reducible exact isI_mk | with_reducible assumption | (with_reducible refine gb_t ?_; with_reducible assumption) | (with_reducible refine gb_f ?_; with_reducible assumption) | ((with_reducible refine ks_t ?_); rfl) | ((show (_ : Nat) ≤ _); decide) | skip
  all_goals (try simp only [intF_mk, zW, Int.toNat_natCast, Nat.zero_add] at *)
  all_goals first | (exfalso; have q : (picE w h n != 0) = true := (by with_reducible assumption); rw [h0] at q; cases q) | exact (hA _).1 | exact (hA _).2 | omega | (rw [pk_0]; first | done | rfl | (show 6 ≤ 4 + 2; decide)) | exact Nat.le_refl 2 | exact hd_at2 (by assumption) | skip
  all_goals (try (have sss := pk_ok hA M w h i; obtain ⟨s1, s2, s3, s4, s5⟩ := sss))
  all_goals (try (have hp : (pk A M w h i).p < M := (by have := of_decide_eq_true (by with_reducible assumption : decide (((pk A M w h i).p : Int) < (M : Int)) = true); omega); have r := rn_bd A M _ hp; have u := ul_bd A M _ hp; have W1 : IntKind.i64.wrap (4 * ((pk A M w h i).p : Int)) = ((4 * (pk A M w h i).p : Nat) : Int) := (by rw [wrapI (by omega) (by omega)]; omega); have W2 : IntKind.i64.wrap (((4 * (pk A M w h i).p : Nat) : Int) + 4) = ((4 * (pk A M w h i).p + 4 : Nat) : Int) := (by rw [wrapI (by omega) (by omega)]; omega); have W4 : IntKind.i64.wrap (((pk A M w h i).p : Int) + (rn A M (pk A M w h i).p : Int)) = (((pk A M w h i).p + rn A M (pk A M w h i).p : Nat) : Int) := (by rw [wrapI (by omega) (by omega)]; omega); have W3 : IntKind.i64.wrap (127 + (rn A M (pk A M w h i).p : Int)) = 127 + (rn A M (pk A M w h i).p : Int) := wrapI (by omega) (by omega)))
  all_goals (try (have W5 : IntKind.i64.wrap (((pk A M w h i).p : Int) + (k : Int)) = (((pk A M w h i).p + k : Nat) : Int) := (by rw [wrapI (by omega) (by omega)]; omega); have W6 : IntKind.i64.wrap (4 * (((pk A M w h i).p + k : Nat) : Int)) = ((4 * ((pk A M w h i).p + k) : Nat) : Int) := (by rw [wrapI (by omega) (by omega)]; omega); have W7 : IntKind.i64.wrap ((k : Int) - 1) = (k : Int) - 1 := wrapI (by omega) (by omega)))
  all_goals (try simp only [offA_some, offA_none, Nat.zero_add, shiftA_some, shiftA_none, lenN_some, lenN_none, avInt_int, W1, W2, W3, W4, mulN1, Int.toNat_natCast, show (Tab.cx.ti 5).bytes = 1 from rfl, show (Tab.cx.ti 5).size = 1 from rfl] at *)
  all_goals (try simp only [W5, W6, W7, Int.toNat_natCast] at *)
  all_goals (try simp only [Bool.and_eq_true, Bool.and_eq_false_iff, decide_eq_true_eq, decide_eq_false_iff_not, beq_iff_eq, beq_eq_false_iff_ne, gb] at *)
  all_goals first | with_reducible assumption | omega | rfl | exact (s5 _).1 | exact (s5 _).2 | (show 0 < _; omega) | (rw [wrapI (by omega) (by omega)]; omega) | exact ul_t (by omega) (by omega) (by omega) he | skip
  all_goals first | (have e := pk_rn (w := w) (h := h) hp (by omega); rw [e]; try dsimp only) | (have e0 := ul_f h2 (by omega) he; have e := pk_ul (w := w) (h := h) hp (by omega); rw [e, e0]; try dsimp only) | skip
  all_goals (try (have f := pk_fin hM hi s1 (by assumption); rw [f.1]))
  all_goals (try (have f := pk_fin hM hi s1 (by assumption); rw [f.2]))
  all_goals first | omega | rfl | exact apB_two _ _ _ _ _ _ _ | (rw [apB_cat]; done) | (show _ * 1 ≤ 140737488355328; omega) | trace_state
def packM_p (w h : Int) (n : Nat) (A : Nat → Int) : Prop := U8s A ∧ picE w h n = 0
def packM_r (w h : Int) (n : Nat) (A : Nat → Int) : AV := .tup [.os 1 1 0 (pkN A w h), .int .i64 0]
def packM_rows (w h : Int) (n : Nat) (A : Nat → Int) : List OB := [.nums .u8 n A]
def packM_rows2 (w h : Int) (n : Nat) (A : Nat → Int) : List OB := [.nums .u8 n A, .nums .u8 (pkN A w h) (pkB A w h)]
def packM_m : MCon Tryd.prog := ⟨12, fun args own => match args with | [.agg [.int .i64 w, .int .i64 h, .os k0_ 1 0 n]] => (match own k0_ with | .nums .u8 n A => .ok [k0_] ([.agg [.int .i64 w, .int .i64 h, .os 0 1 0 n]]) (packM_rows w h n A) (some (packM_p w h n A)) (packM_r w h n A) (packM_rows2 w h n A) | _ => .no) | _ => .no, by
  intro args own ks cargs rows p r rows2 h hp
  split at h
  · split at h
    · cases h; have hq := hp; exact packM_a _ _ _ _ hq
    · cases h
  · cases h⟩
theorem packRM_f : FnOk Tryd.prog 13 Tryd.f13 := ⟨Tryd.func13, by kernel_rfl⟩
theorem packRM_a (w h : Int) (n : Nat) (A : Nat → Int) (hpre : U8s A ∧ picE w h n = 0) : MCalls Tryd.prog 13 ([.agg [.int .i64 w, .int .i64 h, .os 0 1 0 n]]) [.nums .u8 n A] (.tup [.os 1 1 0 (pkN A w h), .int .i64 0]) [.nums .u8 n A, .nums .u8 (pkN A w h) (pkB A w h)] := by
  refine mcallsF_of (inl := hasI (P := Tryd.prog) [] [twoSumsM_m]) (base [mayPR_k, runR_k] [] [twoSumsM_m]) 0 packRM_f (And.intro (by kernel_rfl) ?_)
  obtain ⟨hA, h0⟩ := hpre
  obtain ⟨hs, hn⟩ := picE_ok h0
  have hy := hs.wh
  have z0 := hs.wraps.1
  obtain ⟨M, hM⟩ : ∃ M : Nat, w * h = M := ⟨(w * h).toNat, by omega⟩
  rw [hM] at hy hn
  have zW : IntKind.i64.wrap (w * h) = (M : Int) := by rw [z0, hM]
  repeat' (first | refine And.intro ?_ ?_ | (with_reducible exact ff_elim) | (with_reducible exact tf_elim) | refine' rho_mk [_] ?_ | refine num_elim ?_ | intro _ | (with_reducible rfl) | ((with_reducible refine lk_t ?_); exact rfl) | ((with_reducible refine pf_t ?_); exact rfl) | refine tell ?_ | exact True.intro | (refine IsT.of ?_; kernel_rfl))
  all_goals (try (refine loop_keep [1] [0, 1] ?_; refine LoopI.mk (RpI A M w h) (fun j => [(7, .int .i64 ((pk A M w h j.i).p + j.g : Nat)), (5, .os 2 1 0 (pk A M w h j.i).N), (6, .os 3 1 0 (4 * j.g))]) (fun j => [(2, .nums .u8 (pk A M w h j.i).N (pk A M w h j.i).B), (3, .nums .u8 (4 * j.g) (fun t => A (4 * (pk A M w h j.i).p + t)))]) (fun j => M - ((pk A M w h j.i).p + j.g)) (⟨0, 0, Nat.zero_le _, .inl rfl⟩) (wk_mk [some 15, none, none, some 1] ?_) (fun ⟨i, g, hi, hg⟩ => ?_)))
  repeat' (first | refine And.intro ?_ ?_ | (with_reducible exact ff_elim) | (with_reducible exact tf_elim) | (have q1 := ‹((_ : Int) == 1) = false›; have q2 := ‹(decide (_ > (0 : Int)) && _) = true›; refine' stp_mk [some _, none, none, some 1] (⟨i + 2, 0, ?_, .inl rfl⟩ : RpI A M w h) ?_ ?_) | (have q1 := ‹((_ : Int) == 1) = false›; have q2 := ‹(decide (_ > (0 : Int)) && _) = false›; refine' stp_mk [some _, some _, none, some 1] (⟨i + 1, 0, ?_, .inl rfl⟩ : RpI A M w h) ?_ ?_) | (have q1 := ‹((_ : Int) == 1) = true›; have q2 := ‹(decide (_ > (0 : Int)) && _) = true›; refine' stp_mk [some _, none, none, some 1] (⟨i + 1, 0, ?_, .inl rfl⟩ : RpI A M w h) ?_ ?_) | refine' stp_mk [some _, some _, none, some 1] (⟨i, g + 1, hi, .inr ?_⟩ : RpI A M w h) ?_ ?_ | refine' rho_mk [_] ?_ | refine num_elim ?_ | intro _ | (with_reducible rfl) | ((with_reducible refine lk_t ?_); exact rfl) | ((with_reducible refine pf_t ?_); exact rfl) | refine tell ?_ | exact True.intro | (refine IsT.of ?_; kernel_rfl))
  all_goals (try exact (1 : Nat))
  all_goals (try refine Tell.mk ?_)
  all_goals (try dsimp only at *)
  all_goals first | with_reducible rfl | with_reducible exact isI_mk | with_reducible assumption | (with_reducible refine gb_t ?_; with_reducible assumption) | (with_reducible refine gb_f ?_; with_reducible assumption) | ((show (_ : Nat) ≤ _); decide) | skip
  all_goals (have hM4 : n / 4 = M := (by omega))
  all_goals (try simp only [intF_mk, zW, hM4, Int.toNat_natCast, Nat.zero_add] at *)
  all_goals first | (exfalso; have q : (picE w h n != 0) = true := (by with_reducible assumption); rw [h0] at q; cases q) | exact (hA _).1 | exact (hA _).2 | omega | (rw [pk_0]; first | done | rfl | (show 6 ≤ 4 + 2; decide)) | skip
  all_goals (try (have sss := pk_ok hA M w h i; obtain ⟨s1, s2, s3, s4, s5⟩ := sss))
  all_goals (try (have W1 : IntKind.i64.wrap (4 * (((pk A M w h i).p + g : Nat) : Int)) = ((4 * ((pk A M w h i).p + g) : Nat) : Int) := (by rw [wrapI (by omega) (by omega)]; omega); have W2 : IntKind.i64.wrap (((4 * ((pk A M w h i).p + g) : Nat) : Int) + 4) = ((4 * ((pk A M w h i).p + g) + 4 : Nat) : Int) := (by rw [wrapI (by omega) (by omega)]; omega); have W3 : IntKind.i64.wrap ((((pk A M w h i).p + g : Nat) : Int) + 1) = (((pk A M w h i).p + g + 1 : Nat) : Int) := (by rw [wrapI (by omega) (by omega)]; omega); have hp : (pk A M w h i).p + g < M := (by have := of_decide_eq_true (by with_reducible assumption : decide ((((pk A M w h i).p + g : Nat) : Int) < (M : Int)) = true); omega); have r := rn_bd A M _ hp; have W4 : IntKind.i64.wrap ((((pk A M w h i).p + g : Nat) : Int) + (rn A M ((pk A M w h i).p + g) : Int)) = (((pk A M w h i).p + g + rn A M ((pk A M w h i).p + g) : Nat) : Int) := (by rw [wrapI (by omega) (by omega)]; omega); have W5 : IntKind.i64.wrap (127 + (rn A M ((pk A M w h i).p + g) : Int)) = 127 + (rn A M ((pk A M w h i).p + g) : Int) := wrapI (by omega) (by omega)))
  all_goals (try simp only [offA_some, offA_none, Nat.zero_add, shiftA_some, shiftA_none, lenN_some, lenN_none, avInt_int, W1, W2, W3, W4, W5, mulN1, Nat.zero_add, Nat.add_zero, Nat.mul_zero, Int.toNat_natCast, show (Tab.cx.ti 5).bytes = 1 from rfl, show (Tab.cx.ti 5).size = 1 from rfl] at *)
  all_goals (try simp only [Bool.and_eq_true, Bool.or_eq_true, Bool.and_eq_false_iff, Bool.or_eq_false_iff, Bool.not_eq_true', decide_eq_true_eq, decide_eq_false_iff_not, beq_iff_eq, beq_eq_false_iff_ne, gb] at *)
  all_goals first | with_reducible assumption | omega | rfl | exact (s5 _).1 | exact (s5 _).2 | skip
  all_goals (try (have D4 : (((4 * ((pk A M w h i).p + g) + 4 : Nat) : Int) - ((4 * ((pk A M w h i).p + g) : Nat) : Int)).toNat = 4 := (by omega); have G1 : 4 * g + 4 = 4 * (g + 1) := (by omega); have T1 : IntKind.i64.wrap ((g + 1 : Nat) : Int) = ((g + 1 : Nat) : Int) := wrapI (by omega) (by omega); have T2 : IntKind.i64.wrap (((g + 1 : Nat) : Int) - 1) = (g : Int) := (by rw [wrapI (by omega) (by omega)]; omega); have T3 : IntKind.i64.wrap (g : Int) = (g : Int) := wrapI (by omega) (by omega); have T4 : IntKind.i64.wrap ((g : Int) - 1) = (g : Int) - 1 := (by rw [wrapI (by omega) (by omega)])))
  all_goals (try simp only [D4, G1, td4, T1, T2, T3, T4, catI_fun, apB_g, Nat.zero_add, gb] at *)
  all_goals first | with_reducible assumption | omega | (show 0 < _; omega) | (show _ * 1 ≤ 140737488355328; omega) | exact (rp_g hg hp (by omega)).2.1 | exact (rp_g hg hp (by omega)).2.2 | (rw [show A (4 * ((pk A M w h i).p + g) + _) = _ from rfl]; done) | skip
  all_goals first | (have e := rp_b (w := w) (h := h) hg (by omega) hp (by omega); rw [e]) | (have e := rp_f (w := w) (h := h) hg hp (by omega) (by omega); rw [e]) | (have e := rp_r (w := w) (h := h) (g := g) (by omega) hp (by omega); rw [e]) | skip
  all_goals (try dsimp only)
  all_goals (try (have f := pk_fin hM hi s1 (by omega); rw [f.1]))
  all_goals (try (have f := pk_fin hM hi s1 (by omega); rw [f.2]))
  all_goals first | omega | rfl | (with_reducible rfl) | exact (hd0_at (by assumption)).symm | skip
  all_goals trace_state
def packRM_p (w h : Int) (n : Nat) (A : Nat → Int) : Prop := U8s A ∧ picE w h n = 0
def packRM_r (w h : Int) (n : Nat) (A : Nat → Int) : AV := .tup [.os 1 1 0 (pkN A w h), .int .i64 0]
def packRM_rows (w h : Int) (n : Nat) (A : Nat → Int) : List OB := [.nums .u8 n A]
def packRM_rows2 (w h : Int) (n : Nat) (A : Nat → Int) : List OB := [.nums .u8 n A, .nums .u8 (pkN A w h) (pkB A w h)]
def packRM_m : MCon Tryd.prog := ⟨13, fun args own => match args with | [.agg [.int .i64 w, .int .i64 h, .os k0_ 1 0 n]] => (match own k0_ with | .nums .u8 n A => .ok [k0_] ([.agg [.int .i64 w, .int .i64 h, .os 0 1 0 n]]) (packRM_rows w h n A) (some (packRM_p w h n A)) (packRM_r w h n A) (packRM_rows2 w h n A) | _ => .no) | _ => .no, by
  intro args own ks cargs rows p r rows2 h hp
  split at h
  · split at h
    · cases h; have hq := hp; exact packRM_a _ _ _ _ hq
    · cases h
  · cases h⟩
end Go.Proofs.YtjnpngbgapigeaaDoor
