/- Pictures as bytes: the document's packing, walked. -/
import Derived.Test.YtjnpngbgapigeaaDoorPctC
namespace Go.Proofs.YtjnpngbgapigeaaDoor
open Go.RowKit Ev
set_option linter.unusedVariables false
set_option linter.unusedSimpArgs false
set_option maxRecDepth 20000
set_option maxHeartbeats 8000000

/-- Where the document's packing is: so many blocks, and so many pixels gathered. -/
structure RpI (A : Nat → Int) (M : Nat) (w h : Int) where
  i : Nat
  g : Nat
  hi : i ≤ (pk A M w h i).p
  hg : g = 0 ∨ (g < 128 ∧ (pk A M w h i).p + g < M ∧ rn A M (pk A M w h i).p = 1 ∧ ulF A M (pk A M w h i).p (128 - g) g = ul A M (pk A M w h i).p)
theorem td4 (x : Nat) : ((4 * x : Nat) : Int).tdiv 4 = (x : Int) := by
  rw [Int.tdiv_eq_ediv_of_nonneg (by omega)]; omega
theorem catI_fun (N k : Nat) (B C : Nat → Int) : catI N (some k) B C = apB N B C := funext fun j => apB_cat N k B C j
theorem apB_g (A : Nat → Int) (p g : Nat) : apB (4 * g) (fun t => A (4 * p + t)) (fun t => A (4 * (p + g) + t)) = fun t => A (4 * p + t) := by
  funext t
  unfold apB
  split
  · rfl
  · show A _ = A _
    congr 1; omega
/-- One more unlike pixel is gathered. -/
theorem rp_g {A : Nat → Int} {M p g : Nat} (hg : g = 0 ∨ (g < 128 ∧ p + g < M ∧ rn A M p = 1 ∧ ulF A M p (128 - g) g = ul A M p)) (hp : p + g < M) (h1 : rn A M (p + g) = 1) : g + 1 ≤ 128 ∧ rn A M p = 1 ∧ ulF A M p (128 - (g + 1)) (g + 1) = ul A M p := by
  rcases hg with rfl | ⟨a, b, c, d⟩
  · exact ⟨by decide, h1, ul_0 A M p⟩
  · exact ⟨a, c, ul_t a b h1 d⟩
/-- What was gathered is written. -/
theorem rp_f {A : Nat → Int} {M : Nat} {w h : Int} {i g : Nat} (hg : g = 0 ∨ (g < 128 ∧ (pk A M w h i).p + g < M ∧ rn A M (pk A M w h i).p = 1 ∧ ulF A M (pk A M w h i).p (128 - g) g = ul A M (pk A M w h i).p)) (hp : (pk A M w h i).p + g < M) (h1 : rn A M ((pk A M w h i).p + g) = 1) (h2 : g + 1 = 128 ∨ (pk A M w h i).p + g + 1 = M) : pk A M w h (i + 1) = ⟨(pk A M w h i).p + (g + 1), (pk A M w h i).N + 1 + 4 * (g + 1), apB ((pk A M w h i).N + 1) (apB (pk A M w h i).N (pk A M w h i).B fun _ => IntKind.u8.wrap (g : Int)) fun j => A (4 * (pk A M w h i).p + j)⟩ := by
  obtain ⟨a, b, c⟩ := rp_g hg hp h1
  have e0 := ul_f a (by omega) c
  have e := pk_ul (P := A) (n := M) (w := w) (h := h) (i := i) (by omega) (by omega)
  rw [e, e0, show ((g + 1 : Nat) : Int) - 1 = (g : Int) by omega]
/-- A run, with nothing gathered. -/
theorem rp_r {A : Nat → Int} {M : Nat} {w h : Int} {i g : Nat} (hg : g = 0) (hp : (pk A M w h i).p + g < M) (h1 : 1 < rn A M ((pk A M w h i).p + g)) : pk A M w h (i + 1) = ⟨(pk A M w h i).p + g + rn A M ((pk A M w h i).p + g), (pk A M w h i).N + 1 + 4, apB ((pk A M w h i).N + 1) (apB (pk A M w h i).N (pk A M w h i).B fun _ => IntKind.u8.wrap (127 + (rn A M ((pk A M w h i).p + g) : Int))) fun j => A (4 * ((pk A M w h i).p + g) + j)⟩ := by
  subst hg
  exact pk_rn hp h1
/-- What was gathered, and a run. -/
theorem rp_b {A : Nat → Int} {M : Nat} {w h : Int} {i g : Nat} (hg : g = 0 ∨ (g < 128 ∧ (pk A M w h i).p + g < M ∧ rn A M (pk A M w h i).p = 1 ∧ ulF A M (pk A M w h i).p (128 - g) g = ul A M (pk A M w h i).p)) (h0 : 0 < g) (hp : (pk A M w h i).p + g < M) (h1 : 1 < rn A M ((pk A M w h i).p + g)) : pk A M w h (i + 2) = ⟨(pk A M w h i).p + g + rn A M ((pk A M w h i).p + g), (pk A M w h i).N + 1 + 4 * g + 1 + 4, apB ((pk A M w h i).N + 1 + 4 * g + 1) (apB ((pk A M w h i).N + 1 + 4 * g) (apB ((pk A M w h i).N + 1) (apB (pk A M w h i).N (pk A M w h i).B fun _ => IntKind.u8.wrap ((g : Int) - 1)) fun j => A (4 * (pk A M w h i).p + j)) fun _ => IntKind.u8.wrap (127 + (rn A M ((pk A M w h i).p + g) : Int))) fun j => A (4 * ((pk A M w h i).p + g) + j)⟩ := by
  rcases hg with rfl | ⟨a, b, c, d⟩
  · omega
  have e0 := ul_f (Nat.le_of_lt a) (by omega) d
  have e := pk_ul (P := A) (n := M) (w := w) (h := h) (i := i) (by omega) (by omega)
  rw [e0] at e
  have e2 := pk_rn (P := A) (n := M) (w := w) (h := h) (i := i + 1) (by rw [e]; exact hp) (by rw [e]; exact h1)
  rw [show i + 2 = i + 1 + 1 from rfl, e2, e]
theorem hd0_at {w h : Int} {A : Nat → Int} {N j : Nat} (hj : j < (pk A N w h 0).N) : AV.int .u8 ((pk A N w h 0).B j) = [AV.int .u8 82, AV.int .u8 72, AV.int .u8 80, AV.int .u8 49, AV.int .u8 (IntKind.u8.wrap w), AV.int .u8 (IntKind.u8.wrap h)].getD j .any := by
  rw [pk_0] at *
  have hj : j < 6 := hj
  show AV.int .u8 (hdB w h j) = _
  unfold hdB
  match j, hj with
  | 0, _ => rfl
  | 1, _ => rfl
  | 2, _ => rfl
  | 3, _ => rfl
  | 4, _ => rfl
  | 5, _ => rfl
  | j + 6, h => exact absurd h (by omega)
theorem packR0_f : FnOk Tryd.prog 13 Tryd.f13 := ⟨Tryd.func13, by kernel_rfl⟩
theorem packR0_a (w h : Int) (n : Nat) (A : Nat → Int) (hpre : U8s A ∧ picE w h n = 0) : ACalls Tryd.prog 13 [.agg [.int .i64 w, .int .i64 h, ints .u8 n A]] (.tup [ints .u8 (pkN A w h) (pkB A w h), .int .i64 0]) := by
  refine acalls_of (inl := hasI (P := Tryd.prog) [] [twoSumsM_m]) (base [mayPR_k, runR_k] [] [twoSumsM_m]) 0 packR0_f (And.intro (by kernel_rfl) ?_)
  obtain ⟨hA, h0⟩ := hpre
  obtain ⟨hs, hn⟩ := picE_ok h0
  have hy := hs.wh
  have z0 := hs.wraps.1
  obtain ⟨M, hM⟩ : ∃ M : Nat, w * h = M := ⟨(w * h).toNat, by omega⟩
  rw [hM] at hy hn
  have zW : IntKind.i64.wrap (w * h) = (M : Int) := by rw [z0, hM]
  repeat' (first | refine And.intro ?_ ?_ | (with_reducible exact ff_elim) | (with_reducible exact tf_elim) | refine num_elim ?_ | intro _ | (with_reducible rfl) | ((with_reducible refine lk_t ?_); exact rfl) | ((with_reducible refine pf_t ?_); exact rfl) | refine tell ?_ | exact True.intro | (refine IsT.of ?_; kernel_rfl))
  all_goals (try (refine loop_keep [1] [0] ?_; refine LoopI.mk (RpI A M w h) (fun j => [(7, .int .i64 ((pk A M w h j.i).p + j.g : Nat)), (5, .os 1 1 0 (pk A M w h j.i).N), (6, .os 2 1 0 (4 * j.g))]) (fun j => [(1, .nums .u8 (pk A M w h j.i).N (pk A M w h j.i).B), (2, .nums .u8 (4 * j.g) (fun t => A (4 * (pk A M w h j.i).p + t)))]) (fun j => M - ((pk A M w h j.i).p + j.g)) (⟨0, 0, Nat.zero_le _, .inl rfl⟩) (wk_mk [some 14, none, some 0] ?_) (fun ⟨i, g, hi, hg⟩ => ?_)))
  repeat' (first | refine And.intro ?_ ?_ | (with_reducible exact ff_elim) | (with_reducible exact tf_elim) | (have q1 := ‹((_ : Int) == 1) = false›; have q2 := ‹(decide (_ > (0 : Int)) && _) = true›; refine' stp_mk [some _, none, some 0] (⟨i + 2, 0, ?_, .inl rfl⟩ : RpI A M w h) ?_ ?_) | (have q1 := ‹((_ : Int) == 1) = false›; have q2 := ‹(decide (_ > (0 : Int)) && _) = false›; refine' stp_mk [some _, some _, some 0] (⟨i + 1, 0, ?_, .inl rfl⟩ : RpI A M w h) ?_ ?_) | (have q1 := ‹((_ : Int) == 1) = true›; have q2 := ‹(decide (_ > (0 : Int)) && _) = true›; refine' stp_mk [some _, none, some 0] (⟨i + 1, 0, ?_, .inl rfl⟩ : RpI A M w h) ?_ ?_) | refine' stp_mk [some _, some _, some 0] (⟨i, g + 1, hi, .inr ?_⟩ : RpI A M w h) ?_ ?_ | refine num_elim ?_ | intro _ | (with_reducible rfl) | ((with_reducible refine lk_t ?_); exact rfl) | ((with_reducible refine pf_t ?_); exact rfl) | refine tell ?_ | exact True.intro | (refine IsT.of ?_; kernel_rfl))
  all_goals (try exact (0 : Nat))
  all_goals (try refine Tell.mk ?_)
  all_goals (try dsimp only at *)
  all_goals first | with_reducible rfl | with_reducible exact isI_mk | with_reducible assumption | (with_reducible refine gb_t ?_; with_reducible assumption) | (with_reducible refine gb_f ?_; with_reducible assumption) | ((show (_ : Nat) ≤ _); decide) | skip
  all_goals (have hM4 : n / 4 = M := (by omega))
  all_goals (try simp only [intF_mk, zW, hM4, Int.toNat_natCast] at *)
  all_goals first | (exfalso; have q : (picE w h n != 0) = true := (by with_reducible assumption); rw [h0] at q; cases q) | exact (hA _).1 | exact (hA _).2 | omega | (rw [pk_0]; first | done | rfl | (show 6 ≤ 4 + 2; decide)) | skip
  all_goals (try (have sss := pk_ok hA M w h i; obtain ⟨s1, s2, s3, s4, s5⟩ := sss))
  all_goals (try (have W1 : IntKind.i64.wrap (4 * (((pk A M w h i).p + g : Nat) : Int)) = ((4 * ((pk A M w h i).p + g) : Nat) : Int) := (by rw [wrapI (by omega) (by omega)]; omega); have W2 : IntKind.i64.wrap (((4 * ((pk A M w h i).p + g) : Nat) : Int) + 4) = ((4 * ((pk A M w h i).p + g) + 4 : Nat) : Int) := (by rw [wrapI (by omega) (by omega)]; omega); have W3 : IntKind.i64.wrap ((((pk A M w h i).p + g : Nat) : Int) + 1) = (((pk A M w h i).p + g + 1 : Nat) : Int) := (by rw [wrapI (by omega) (by omega)]; omega); have hp : (pk A M w h i).p + g < M := (by have := of_decide_eq_true (by with_reducible assumption : decide ((((pk A M w h i).p + g : Nat) : Int) < (M : Int)) = true); omega); have r := rn_bd A M _ hp; have W4 : IntKind.i64.wrap ((((pk A M w h i).p + g : Nat) : Int) + (rn A M ((pk A M w h i).p + g) : Int)) = (((pk A M w h i).p + g + rn A M ((pk A M w h i).p + g) : Nat) : Int) := (by rw [wrapI (by omega) (by omega)]; omega); have W5 : IntKind.i64.wrap (127 + (rn A M ((pk A M w h i).p + g) : Int)) = 127 + (rn A M ((pk A M w h i).p + g) : Int) := wrapI (by omega) (by omega)))
  all_goals (try simp only [shiftA_some, shiftA_none, lenN_some, lenN_none, avInt_int, W1, W2, W3, W4, W5, mulN1, Nat.zero_add, Nat.add_zero, Nat.mul_zero, Int.toNat_natCast, show (Tab.cx.ti 5).bytes = 1 from rfl, show (Tab.cx.ti 5).size = 1 from rfl] at *)
  all_goals (try simp only [Bool.and_eq_true, Bool.or_eq_true, Bool.and_eq_false_iff, Bool.or_eq_false_iff, Bool.not_eq_true', decide_eq_true_eq, decide_eq_false_iff_not, beq_iff_eq, beq_eq_false_iff_ne, gb] at *)
  all_goals first | with_reducible assumption | omega | rfl | exact (s5 _).1 | exact (s5 _).2 | skip
  all_goals (try (have D4 : (((4 * ((pk A M w h i).p + g) + 4 : Nat) : Int) - ((4 * ((pk A M w h i).p + g) : Nat) : Int)).toNat = 4 := (by omega); have G1 : 4 * g + 4 = 4 * (g + 1) := (by omega); have T1 : IntKind.i64.wrap ((g + 1 : Nat) : Int) = ((g + 1 : Nat) : Int) := wrapI (by omega) (by omega); have T2 : IntKind.i64.wrap (((g + 1 : Nat) : Int) - 1) = (g : Int) := (by rw [wrapI (by omega) (by omega)]; omega); have T3 : IntKind.i64.wrap (g : Int) = (g : Int) := wrapI (by omega) (by omega); have T4 : IntKind.i64.wrap ((g : Int) - 1) = (g : Int) - 1 := (by rw [wrapI (by omega) (by omega)])))
  all_goals (try simp only [D4, G1, td4, T1, T2, T3, T4, catI_fun, apB_g, Nat.zero_add, gb] at *)
  all_goals first | with_reducible assumption | omega | (show 0 < _; omega) | (show _ * 1 ≤ 140737488355328; omega) | exact (rp_g hg hp (by omega)).2.1 | exact (rp_g hg hp (by omega)).2.2 | (rw [show A (4 * ((pk A M w h i).p + g) + _) = _ from rfl]; done) | skip
  all_goals first | (have e := rp_b (w := w) (h := h) hg (by omega) hp (by omega); rw [e]) | (have e := rp_f (w := w) (h := h) hg hp (by omega) (by omega); rw [e]) | (have e := rp_r (w := w) (h := h) (g := g) (by omega) hp (by omega); rw [e]) | skip
  all_goals (try dsimp only)
  all_goals (try (have f := pk_fin hM hi s1 (by omega); rw [f.1]))
  all_goals (try (have f := pk_fin hM hi s1 (by omega); rw [f.2]))
  all_goals first | omega | rfl | (with_reducible rfl) | exact (hd0_at (by assumption)).symm | skip
  all_goals trace_state
theorem packRX_f : FnOk Tryd.prog 13 Tryd.f13 := ⟨Tryd.func13, by kernel_rfl⟩
theorem packRX_a (w h : Int) (n : Nat) (A : Nat → Int) (hpre : ¬ picE w h n = 0) : ACalls Tryd.prog 13 [.agg [.int .i64 w, .int .i64 h, ints .u8 n A]] (.tup [.nils, .int .i64 (picE w h n)]) := by
  refine acalls_of (inl := hasI (P := Tryd.prog) [] []) (base [mayPR_k] [] []) 0 packRX_f (And.intro (by kernel_rfl) ?_)
  repeat' (first | refine And.intro ?_ ?_ | (with_reducible exact ff_elim) | (with_reducible exact tf_elim) | refine num_elim ?_ | intro _ | (with_reducible rfl) | ((with_reducible refine lk_t ?_); exact rfl) | ((with_reducible refine pf_t ?_); exact rfl) | refine tell ?_ | exact True.intro | (refine IsT.of ?_; kernel_rfl))
  all_goals (try refine Tell.mk ?_)
  all_goals first | with_reducible rfl | with_reducible exact isI_mk | with_reducible assumption | (exfalso; simp_all; done) | trace_state
end Go.Proofs.YtjnpngbgapigeaaDoor
