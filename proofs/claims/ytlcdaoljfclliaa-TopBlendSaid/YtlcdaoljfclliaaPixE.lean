/- Two pictures in one, as the document has it. -/
import Derived.Test.YtlcdaoljfclliaaPixD
namespace Go.Proofs.Ytlcdaoljfclliaa
open Go.RowKit Ev
set_option linter.unusedVariables false
set_option linter.unusedSimpArgs false
set_option maxRecDepth 20000
set_option maxHeartbeats 4000000

theorem mix_one {k : Int} {A B : Nat → Int} {i j r : Nat} (hA : U8s A) (hB : U8s B) (hj : j < i + 1) {v : Int} (hv : v = mixV k A B i) : mixV k A B j = catI i (some r) (mixV k A B) (fun _ => v) j := by
  rw [catI_some]
  split
  · rfl
  · obtain rfl : j = i := by omega
    exact hv.symm
theorem q44 (i : Nat) : (IntKind.i64.wrap (IntKind.i64.wrap (IntKind.i64.wrap ((i : Int).tdiv 4) * 4) + 3)) = ((i / 4 * 4 + 3 : Nat) : Int) ∨ 1000000 < i := by
  by_cases h : 1000000 < i
  · exact .inr h
  refine .inl ?_
  rw [Int.tdiv_eq_ediv_of_nonneg (by omega), wrapI (x := (i : Int) / 4) (by omega) (by omega), wrapI (x := (i : Int) / 4 * 4) (by omega) (by omega), wrapI (by omega) (by omega)]
  omega
theorem mix_at {k : Int} {A B : Nat → Int} {i : Nat} (hA : U8s A) (hB : U8s B) : (255 < termV (tX k) (A i) (B (i / 4 * 4 + 3)) + termV (tY k) (B i) (A (i / 4 * 4 + 3)) → IntKind.u8.wrap 255 = mixV k A B i) ∧
    (termV (tX k) (A i) (B (i / 4 * 4 + 3)) + termV (tY k) (B i) (A (i / 4 * 4 + 3)) ≤ 255 → IntKind.u8.wrap (termV (tX k) (A i) (B (i / 4 * 4 + 3)) + termV (tY k) (B i) (A (i / 4 * 4 + 3))) = mixV k A B i) := by
  have a := termV_bd (tX k) (hA i) (hB (i / 4 * 4 + 3))
  have b := termV_bd (tY k) (hB i) (hA (i / 4 * 4 + 3))
  unfold mixV mx addV
  generalize termV (tX k) (A i) (B (i / 4 * 4 + 3)) = s at *
  generalize termV (tY k) (B i) (A (i / 4 * 4 + 3)) = t at *
  constructor
  · intro h; rw [if_neg (by omega)]; decide
  · intro h; rw [wrapU8 (by omega) (by omega)]; split <;> omega
theorem term_w {k : Int} {A B : Nat → Int} (hA : U8s A) (hB : U8s B) (i : Nat) : IntKind.i64.wrap (termV (tX k) (A i) (B (i / 4 * 4 + 3)) + termV (tY k) (B i) (A (i / 4 * 4 + 3))) = termV (tX k) (A i) (B (i / 4 * 4 + 3)) + termV (tY k) (B i) (A (i / 4 * 4 + 3)) := by
  have a := termV_bd (tX k) (hA i) (hB (i / 4 * 4 + 3))
  have b := termV_bd (tY k) (hB i) (hA (i / 4 * 4 + 3))
  exact wrapI (by omega) (by omega)
theorem blendR_f : FnOk Try.prog 24 Try.f24 := ⟨Try.func24, by kernel_rfl⟩
theorem blendR_a (k w h : Int) (n : Nat) (A : Nat → Int) (w' h' : Int) (n' : Nat) (B : Nat → Int) (hpre : U8s A ∧ U8s B) : ACalls Try.prog 24 [.int .i64 k, .agg [.int .i64 w, .int .i64 h, ints .u8 n A], .agg [.int .i64 w', .int .i64 h', ints .u8 n' B]] (.tup [.agg [.int .i64 (ifz (blendE k w h n A w' h' n' B) w), .int .i64 (ifz (blendE k w h n A w' h' n' B) h), ints .u8 (ifn (blendE k w h n A w' h' n' B) n) (mixV k A B)], .int .i64 (blendE k w h n A w' h' n' B)]) := by
  refine acalls_len fun hlen => ?_
  simp only [lenV, len1, lenV0, len0, and_true, true_and] at hlen
  refine acalls_of (inl := hasI (P := Try.prog) [] []) (base [mayBR_k, terms_k, term_k] [] []) 0 blendR_f (And.intro (by kernel_rfl) ?_)
  repeat' (first | refine And.intro ?_ ?_ | (with_reducible exact ff_elim) | (with_reducible exact tf_elim) | refine num_elim ?_ | intro _ | (with_reducible rfl) | ((with_reducible refine lk_t ?_); exact rfl) | refine tell ?_ | exact True.intro | (refine IsT.of ?_; kernel_rfl))
  all_goals (try (refine loop_keep [4, 5, 6, 9, 10, 11] [0, 1, 2] ?_; refine LoopI.mk ({i : Nat // i ≤ n}) (fun i => [(12, .int .i64 i.1)]) (fun i => [(44, .row [.int .i64 w, .int .i64 h, .os 3 1 0 i.1]), (3, .nums .u8 i.1 (mixV k A B))]) (fun i => n - i.1) (⟨0, Nat.zero_le _⟩) (wk_mk [some 44, none, some 0, some 1, some 2] ?_) (fun ⟨i, hi⟩ => ?_)))
  repeat' (first | refine And.intro ?_ ?_ | (with_reducible exact ff_elim) | (with_reducible exact tf_elim) | refine' stp_mk [some 44, some _, some 0, some 1, some 2] (⟨i + 1, ?_⟩) ?_ ?_ | refine num_elim ?_ | intro _ | (with_reducible rfl) | ((with_reducible refine lk_t ?_); exact rfl) | refine tell ?_ | exact True.intro | (refine IsT.of ?_; kernel_rfl))
  all_goals (try refine Tell.mk ?_)
  all_goals first | with_reducible rfl | with_reducible exact isI_mk | with_reducible assumption | (with_reducible refine gb_t ?_; with_reducible assumption) | (with_reducible refine gb_f ?_; with_reducible assumption) | ((with_reducible refine lk_t ?_); rfl) | ((with_reducible refine okF_t ?_); kernel_rfl) | ((with_reducible refine ks_t ?_); rfl) | ((with_reducible refine pk_t ?_); rfl) | skip
  all_goals (try dsimp only at *)
  all_goals (try simp only [decide_eq_true_eq, decide_eq_false_iff_not, Bool.or_eq_true, Bool.or_eq_false_iff, Bool.and_eq_true, Bool.and_eq_false_iff, Bool.not_eq_true', Bool.not_eq_false', bne_iff_ne, ne_eq, beq_iff_eq, bne_eq_false_iff_eq, beq_eq_false_iff_ne, Int.not_lt, Int.not_le, gt_iff_lt, ge_iff_le] at *)
  all_goals (try simp only [mulN1, Nat.add_zero, Nat.zero_add, Nat.mul_one, Int.toNat_natCast, avInt_int, intF_mk] at *)
  all_goals first | with_reducible rfl | with_reducible exact nums_N | omega | ((with_reducible refine by_le 1 rfl ?_); omega) | ((with_reducible refine by_le 8 rfl ?_); omega) | (rw [wrapI (by omega) (by omega)] <;> omega) | skip
  all_goals obtain ⟨hA, hB⟩ := hpre
  all_goals first | with_reducible exact isI_mk | exact (hA _).1 | exact (hA _).2 | exact (hB _).1 | exact (hB _).2 | skip
  all_goals first | (rw [bE_a (by with_reducible assumption)] <;> first | with_reducible rfl | exact ifz1 (by with_reducible assumption) | exact ifn1 (by with_reducible assumption)) | (rw [bE_b (by with_reducible assumption) (by with_reducible assumption)] <;> first | with_reducible rfl | exact ifz1 (by with_reducible assumption) | exact ifn1 (by with_reducible assumption)) | (rw [bE_5 (by with_reducible assumption) (by with_reducible assumption) (by omega)] <;> first | exact ifz1 (by decide) | exact ifn1 (by decide)) | (rw [bE_3 (by with_reducible assumption) (by with_reducible assumption) (by omega) (by omega)] <;> first | exact ifz1 (by decide) | exact ifn1 (by decide)) | skip
  all_goals (have h0 : _ ∧ ∃ m, n = 4 * m ∧ m ≤ 4096 := bm_len (by with_reducible assumption) (by with_reducible assumption) (by with_reducible assumption))
  all_goals obtain ⟨hn, m, hm, hm2⟩ := h0
  all_goals (have hq := (q44 i).resolve_right (by omega); try simp only [hq, Int.toNat_natCast] at *)
  all_goals (have hw := term_w (k := k) hA hB i)
  all_goals (try simp only [hw] at *)
  all_goals first | omega | (with_reducible refine by_le 1 rfl ?_; omega) | exact mix_one hA hB (by with_reducible assumption) ((mix_at hA hB).1 (by with_reducible assumption)) | exact mix_one hA hB (by with_reducible assumption) ((mix_at hA hB).2 (by with_reducible assumption)) | skip
  all_goals (rw [bE_0 (by with_reducible assumption) (by with_reducible assumption) (by with_reducible assumption) (by omega)])
  all_goals first | exact ifz0 rfl | (rw [ifn0 rfl]; omega)
def blendR_r (k w h : Int) (n : Nat) (A : Nat → Int) (w' h' : Int) (n' : Nat) (B : Nat → Int) : AV := .tup [.agg [.int .i64 (ifz (blendE k w h n A w' h' n' B) w), .int .i64 (ifz (blendE k w h n A w' h' n' B) h), ints .u8 (ifn (blendE k w h n A w' h' n' B) n) (mixV k A B)], .int .i64 (blendE k w h n A w' h' n' B)]
def blendR_p (k w h : Int) (n : Nat) (A : Nat → Int) (w' h' : Int) (n' : Nat) (B : Nat → Int) : Prop := U8s A ∧ U8s B
def blendR_k : Con Try.prog := ⟨24, fun args => match args with | [.int .i64 k, .agg [.int .i64 w, .int .i64 h, .sl n 1 g_A], .agg [.int .i64 w', .int .i64 h', .sl n' 1 g_B]] => .ok (some (IsI .u8 g_A ∧ IsI .u8 g_B ∧ blendR_p k w h n (intF g_A) w' h' n' (intF g_B))) (blendR_r k w h n (intF g_A) w' h' n' (intF g_B)) | _ => .no, by
  intro args p r h hp
  split at h
  · cases h; obtain ⟨h_A, h_B, hp⟩ := hp; have e_A := h_A.eq; have e_B := h_B.eq; rw [e_A, e_B]; exact blendR_a _ _ _ _ _ _ _ _ _ hp
  · cases h⟩
end Go.Proofs.Ytlcdaoljfclliaa
