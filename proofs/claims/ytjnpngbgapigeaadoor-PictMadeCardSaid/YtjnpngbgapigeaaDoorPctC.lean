/- Pictures as bytes: the program's packing, walked. -/
import Derived.Test.YtjnpngbgapigeaaDoorPctB
namespace Go.Proofs.YtjnpngbgapigeaaDoor
open Go.RowKit Ev
set_option linter.unusedVariables false
set_option linter.unusedSimpArgs false
set_option maxRecDepth 20000
set_option maxHeartbeats 8000000

structure PkI (A : Nat → Int) (N : Nat) (w h : Int) where
  i : Nat
  hi : i ≤ (pk A N w h i).p
structure UlI (P : Nat → Int) (n p : Nat) where
  k : Nat
  h1 : 1 ≤ k
  h2 : k ≤ 128
  h3 : p + k ≤ n
  he : ulF P n p (128 - k) k = ul P n p
theorem pk_i0 (A : Nat → Int) (N : Nat) (w h : Int) : 0 ≤ (pk A N w h 0).p := Nat.zero_le _
theorem hd_at {w h : Int} {A : Nat → Int} {N k j : Nat} (hj : j < (pk A N w h 0).N) : (pk A N w h 0).B j = catI 4 (some k) (fun j => avInt ([AV.int .u8 82, AV.int .u8 72, AV.int .u8 80, AV.int .u8 49].getD j AV.any)) (fun j => avInt ([AV.int .u8 (IntKind.u8.wrap w), AV.int .u8 (IntKind.u8.wrap h)].getD (0 + j) AV.any)) j := by
  rw [pk_0] at *
  have hj : j < 6 := hj
  show hdB w h j = _
  unfold hdB
  match j, hj with
  | 0, _ => rfl
  | 1, _ => rfl
  | 2, _ => rfl
  | 3, _ => rfl
  | 4, _ => rfl
  | 5, _ => rfl
  | j + 6, h => exact absurd h (by omega)
theorem apB_two (N k0 k1 : Nat) (B C D : Nat → Int) (j : Nat) : apB (N + 1) (apB N B C) D j = catI (N + 1) (some k1) (catI N (some k0) B C) D j := by
  rw [apB_cat, show catI N (some k0) B C = apB N B C from funext fun j => apB_cat N k0 B C j]
theorem lt_W {p M : Nat} {z : Int} (z0 : IntKind.i64.wrap z = M) (h : decide ((p : Int) < IntKind.i64.wrap z) = true) : p + 1 ≤ M := by have := of_decide_eq_true h; rw [z0] at this; omega
theorem pk_fin {A : Nat → Int} {w h : Int} {M i : Nat} (hM : w * h = M) (hi : i ≤ (pk A M w h i).p) (h1 : (pk A M w h i).p ≤ M) (hp : ¬ ((pk A M w h i).p : Int) < M) : pkN A w h = (pk A M w h i).N + 2 ∧ pkB A w h = apB (pk A M w h i).N (pk A M w h i).B (ckF (pk A M w h i).B (pk A M w h i).N) := by
  have e : M = (w * h).toNat := by omega
  subst e
  have q := pk_end (P := A) (w := w) (h := h) (i := i) (by omega) (by omega)
  unfold pkN pkB
  rw [q]
  exact ⟨rfl, rfl⟩
theorem packP0_f : FnOk Tryd.prog 12 Tryd.f12 := ⟨Tryd.func12, by kernel_rfl⟩
theorem packP0_a (w h : Int) (n : Nat) (A : Nat → Int) (hpre : U8s A ∧ picE w h n = 0) : ACalls Tryd.prog 12 [.agg [.int .i64 w, .int .i64 h, ints .u8 n A]] (.tup [ints .u8 (pkN A w h) (pkB A w h), .int .i64 0]) := by
  refine acalls_of (inl := hasI (P := Tryd.prog) [] [checkM_m]) (base [mayP_k, runP_k] [] [checkM_m]) 0 packP0_f (And.intro (by kernel_rfl) ?_)
  obtain ⟨hA, h0⟩ := hpre
  obtain ⟨hs, hn⟩ := picE_ok h0
  have hy := hs.wh
  have z0 := hs.wraps.1
  obtain ⟨M, hM⟩ : ∃ M : Nat, w * h = M := ⟨(w * h).toNat, by omega⟩
  rw [hM] at hy hn
  have zW : IntKind.i64.wrap (w * h) = (M : Int) := by rw [z0, hM]
  repeat' (first | refine And.intro ?_ ?_ | (with_reducible exact ff_elim) | (with_reducible exact tf_elim) | refine num_elim ?_ | intro _ | (with_reducible rfl) | ((with_reducible refine lk_t ?_); exact rfl) | ((with_reducible refine pf_t ?_); exact rfl) | refine tell ?_ | exact True.intro | (refine IsT.of ?_; kernel_rfl))
  all_goals (try (refine loop_keep [1, 6] [0] ?_; refine LoopI.mk (PkI A M w h) (fun j => [(7, .int .i64 (pk A M w h j.i).p), (5, .os 1 1 0 (pk A M w h j.i).N)]) (fun j => [(1, .nums .u8 (pk A M w h j.i).N (pk A M w h j.i).B)]) (fun j => M - (pk A M w h j.i).p) (⟨0, Nat.zero_le _⟩) (wk_mk [some 17, some 0] ?_) (fun ⟨i, hi⟩ => ?_)))
  repeat' (first | refine And.intro ?_ ?_ | (with_reducible exact ff_elim) | (with_reducible exact tf_elim) | refine' stp_mk [some _, some 0] ((⟨i + 1, ?_⟩ : PkI A M w h)) ?_ ?_ | refine num_elim ?_ | intro _ | (with_reducible rfl) | ((with_reducible refine lk_t ?_); exact rfl) | ((with_reducible refine pf_t ?_); exact rfl) | refine tell ?_ | exact True.intro | (refine IsT.of ?_; kernel_rfl))
  all_goals (try (refine loop_keep [1, 5, 6, 7] [0, 1] ?_; refine LoopI.mk (UlI A M (pk A M w h i).p) (fun j => [(8, .int .i64 j.k)]) (fun j => []) (fun j => 128 - j.k) (⟨1, Nat.le_refl _, by decide, lt_W zW (by assumption), ul_0 _ _ _⟩) (wk_mk [some 0, some 1] ?_) (fun ⟨k, h1, h2, h3, he⟩ => ?_)))
  repeat' (first | refine And.intro ?_ ?_ | (with_reducible exact ff_elim) | (with_reducible exact tf_elim) | refine stp_mk [some 0, some 1] ((⟨k + 1, ?_, ?_, ?_, ?_⟩ : UlI A M (pk A M w h i).p)) ?_ ?_ | refine' stp_mk [some _, some 0] (⟨i + 1, ?_⟩ : PkI A M w h) ?_ ?_ | refine num_elim ?_ | intro _ | (with_reducible rfl) | ((with_reducible refine lk_t ?_); exact rfl) | ((with_reducible refine pf_t ?_); exact rfl) | refine tell ?_ | exact True.intro | (refine IsT.of ?_; kernel_rfl))
  all_goals (try refine Tell.mk ?_)
  all_goals (try dsimp only at *)
  all_goals first | with_reducible rfl | with_reducible exact isI_mk | with_reducible assumption | (with_reducible refine gb_t ?_; with_reducible assumption) | (with_reducible refine gb_f ?_; with_reducible assumption) | ((with_reducible refine ks_t ?_); rfl) | ((show (_ : Nat) ≤ _); decide) | skip
  all_goals (try simp only [intF_mk, zW, Int.toNat_natCast] at *)
  all_goals first | (exfalso; have q : (picE w h n != 0) = true := (by with_reducible assumption); rw [h0] at q; cases q) | exact (hA _).1 | exact (hA _).2 | omega | (rw [pk_0]; first | done | rfl | (show 6 ≤ 4 + 2; decide)) | exact Nat.le_refl 2 | exact hd_at (by assumption) | skip
  all_goals (try (obtain ⟨s1, s2, s3, s4, s5⟩ := pk_ok hA M w h i))
  all_goals (try (have hp : (pk A M w h i).p < M := (by have := of_decide_eq_true (by with_reducible assumption : decide (((pk A M w h i).p : Int) < (M : Int)) = true); omega); have r := rn_bd A M _ hp; have u := ul_bd A M _ hp; have W1 : IntKind.i64.wrap (4 * ((pk A M w h i).p : Int)) = ((4 * (pk A M w h i).p : Nat) : Int) := (by rw [wrapI (by omega) (by omega)]; omega); have W2 : IntKind.i64.wrap (((4 * (pk A M w h i).p : Nat) : Int) + 4) = ((4 * (pk A M w h i).p + 4 : Nat) : Int) := (by rw [wrapI (by omega) (by omega)]; omega); have W4 : IntKind.i64.wrap (((pk A M w h i).p : Int) + (rn A M (pk A M w h i).p : Int)) = (((pk A M w h i).p + rn A M (pk A M w h i).p : Nat) : Int) := (by rw [wrapI (by omega) (by omega)]; omega); have W3 : IntKind.i64.wrap (127 + (rn A M (pk A M w h i).p : Int)) = 127 + (rn A M (pk A M w h i).p : Int) := wrapI (by omega) (by omega)))
  all_goals (try (have W5 : IntKind.i64.wrap (((pk A M w h i).p : Int) + (k : Int)) = (((pk A M w h i).p + k : Nat) : Int) := (by rw [wrapI (by omega) (by omega)]; omega); have W6 : IntKind.i64.wrap (4 * (((pk A M w h i).p + k : Nat) : Int)) = ((4 * ((pk A M w h i).p + k) : Nat) : Int) := (by rw [wrapI (by omega) (by omega)]; omega); have W7 : IntKind.i64.wrap ((k : Int) - 1) = (k : Int) - 1 := wrapI (by omega) (by omega)))
  all_goals (try simp only [shiftA_some, shiftA_none, lenN_some, lenN_none, avInt_int, W1, W2, W3, W4, mulN1, Int.toNat_natCast, show (Tab.cx.ti 5).bytes = 1 from rfl, show (Tab.cx.ti 5).size = 1 from rfl] at *)
  all_goals (try simp only [W5, W6, W7, Int.toNat_natCast] at *)
  all_goals (try simp only [Bool.and_eq_true, Bool.and_eq_false_iff, decide_eq_true_eq, decide_eq_false_iff_not, beq_iff_eq, beq_eq_false_iff_ne, gb] at *)
  all_goals first | with_reducible assumption | omega | rfl | exact (s5 _).1 | exact (s5 _).2 | (show 0 < _; omega) | (rw [wrapI (by omega) (by omega)]; omega) | exact ul_t (by omega) (by omega) (by omega) he | skip
  all_goals first | (have e := pk_rn (w := w) (h := h) hp (by omega); rw [e]; try dsimp only) | (have e0 := ul_f h2 (by omega) he; have e := pk_ul (w := w) (h := h) hp (by omega); rw [e, e0]; try dsimp only) | skip
  all_goals (try (have f := pk_fin hM hi s1 (by assumption); rw [f.1]))
  all_goals (try (have f := pk_fin hM hi s1 (by assumption); rw [f.2]))
  all_goals first | omega | rfl | exact apB_two _ _ _ _ _ _ _ | (simp only [Nat.zero_add]; rw [apB_cat]; done) | (show _ * 1 ≤ 140737488355328; omega) | trace_state
theorem packX_f : FnOk Tryd.prog 12 Tryd.f12 := ⟨Tryd.func12, by kernel_rfl⟩
theorem packX_a (w h : Int) (n : Nat) (A : Nat → Int) (hpre : ¬ picE w h n = 0) : ACalls Tryd.prog 12 [.agg [.int .i64 w, .int .i64 h, ints .u8 n A]] (.tup [.nils, .int .i64 (picE w h n)]) := by
  refine acalls_of (inl := hasI (P := Tryd.prog) [] []) (base [mayP_k] [] []) 0 packX_f (And.intro (by kernel_rfl) ?_)
  repeat' (first | refine And.intro ?_ ?_ | (with_reducible exact ff_elim) | (with_reducible exact tf_elim) | refine num_elim ?_ | intro _ | (with_reducible rfl) | ((with_reducible refine lk_t ?_); exact rfl) | ((with_reducible refine pf_t ?_); exact rfl) | refine tell ?_ | exact True.intro | (refine IsT.of ?_; kernel_rfl))
  all_goals (try refine Tell.mk ?_)
  all_goals first | with_reducible rfl | with_reducible exact isI_mk | with_reducible assumption | (exfalso; simp_all; done) | trace_state
end Go.Proofs.YtjnpngbgapigeaaDoor
