/- Two pictures in one. -/
import Derived.Test.YtlcdaoljfclliaaPixC
namespace Go.Proofs.Ytlcdaoljfclliaa
open Go.RowKit Ev
set_option linter.unusedVariables false
set_option linter.unusedSimpArgs false
set_option maxRecDepth 20000
set_option maxHeartbeats 4000000

@[irreducible] def ifz (e x : Int) : Int := if e = 0 then x else 0
@[irreducible] def ifn (e : Int) (x : Nat) : Nat := if e = 0 then x else 0
theorem ifz0 {e x : Int} (h : e = 0) : ifz e x = x := by unfold ifz; exact if_pos h
theorem ifz1 {e x : Int} (h : ¬ e = 0) : ifz e x = 0 := by unfold ifz; exact if_neg h
theorem ifn0 {e : Int} {x : Nat} (h : e = 0) : ifn e x = x := by unfold ifn; exact if_pos h
theorem ifn1 {e : Int} {x : Nat} (h : ¬ e = 0) : ifn e x = 0 := by unfold ifn; exact if_neg h
@[irreducible] def mixV (k : Int) (A B : Nat → Int) (j : Nat) : Int := mx k (A j) (B j) (A (j / 4 * 4 + 3)) (B (j / 4 * 4 + 3))
@[irreducible] def blendE (k w h : Int) (n : Nat) (A : Nat → Int) (w' h' : Int) (n' : Nat) (B : Nat → Int) : Int :=
  if bmE w h n A = 0 then (if bmE w' h' n' B = 0 then (if w = w' ∧ h = h' then (if 0 ≤ k ∧ k ≤ 12 then 0 else 3) else 5) else bmE w' h' n' B) else bmE w h n A
section
variable {k w h : Int} {n : Nat} {A : Nat → Int} {w' h' : Int} {n' : Nat} {B : Nat → Int}
theorem bE_a (h1 : ¬ bmE w h n A = 0) : blendE k w h n A w' h' n' B = bmE w h n A := by unfold blendE; rw [if_neg h1]
theorem bE_b (h1 : bmE w h n A = 0) (h2 : ¬ bmE w' h' n' B = 0) : blendE k w h n A w' h' n' B = bmE w' h' n' B := by unfold blendE; rw [if_pos h1, if_neg h2]
theorem bE_5 (h1 : bmE w h n A = 0) (h2 : bmE w' h' n' B = 0) (h3 : ¬ (w = w' ∧ h = h')) : blendE k w h n A w' h' n' B = 5 := by unfold blendE; rw [if_pos h1, if_pos h2, if_neg h3]
theorem bE_3 (h1 : bmE w h n A = 0) (h2 : bmE w' h' n' B = 0) (h3 : w = w' ∧ h = h') (h4 : ¬ (0 ≤ k ∧ k ≤ 12)) : blendE k w h n A w' h' n' B = 3 := by unfold blendE; rw [if_pos h1, if_pos h2, if_pos h3, if_neg h4]
theorem bE_0 (h1 : bmE w h n A = 0) (h2 : bmE w' h' n' B = 0) (h3 : w = w' ∧ h = h') (h4 : 0 ≤ k ∧ k ≤ 12) : blendE k w h n A w' h' n' B = 0 := by unfold blendE; rw [if_pos h1, if_pos h2, if_pos h3, if_pos h4]
theorem bm_len (h1 : bmE w h n A = 0) (h2 : bmE w' h' n' B = 0) (h3 : w = w' ∧ h = h') : n' = n ∧ ∃ m, n = 4 * m ∧ m ≤ 4096 := by
  obtain ⟨a, b⟩ := picE_ok (bmE_ok h1).1
  obtain ⟨a', b'⟩ := picE_ok (bmE_ok h2).1
  obtain ⟨rfl, rfl⟩ := h3
  have := a.wh
  exact ⟨by omega, (w * h).toNat, by omega, by omega⟩
end
theorem mix_step {k : Int} {A B : Nat → Int} {q j r : Nat} (hj : j < 4 * (q + 1)) : mixV k A B j = catI (4 * q) (some r) (mixV k A B) (fun j => avInt ([AV.int .u8 (mx k (A (4 * q)) (B (4 * q)) (A (4 * q + 3)) (B (4 * q + 3))), AV.int .u8 (mx k (A (4 * q + 1)) (B (4 * q + 1)) (A (4 * q + 3)) (B (4 * q + 3))), AV.int .u8 (mx k (A (4 * q + 2)) (B (4 * q + 2)) (A (4 * q + 3)) (B (4 * q + 3))), AV.int .u8 (mx k (A (4 * q + 3)) (B (4 * q + 3)) (A (4 * q + 3)) (B (4 * q + 3)))].getD (offA none 0 (Tab.cx.ti 5).size 0 + j) AV.any)) j := by
  rw [catI_some]
  split
  · rfl
  have : ∃ c, c < 4 ∧ j = 4 * q + c := ⟨j - 4 * q, by omega, by omega⟩
  obtain ⟨c, hc, rfl⟩ := this
  unfold mixV
  rw [show (4 * q + c) / 4 * 4 + 3 = 4 * q + 3 by omega, show 4 * q + c - 4 * q = c by omega]
  have : c = 0 ∨ c = 1 ∨ c = 2 ∨ c = 3 := by omega
  rcases this with rfl | rfl | rfl | rfl <;> rfl
theorem wayZ_f : FnOk Try.prog 38 Try.f38 := ⟨Try.func38, by kernel_rfl⟩
theorem wayZ_a (k : Int) (hpre : k < 0 ∨ 12 < k) : ACalls Try.prog 38 [.int .i64 k] (.nilf) := by
  refine acalls_of (inl := hasI (P := Try.prog) [] []) (base [] [] []) 0 wayZ_f (And.intro (by kernel_rfl) ?_)
  repeat' (first | refine And.intro ?_ ?_ | (with_reducible exact ff_elim) | (with_reducible exact tf_elim) | refine num_elim ?_ | intro _ | (with_reducible rfl) | ((with_reducible refine lk_t ?_); exact rfl) | refine tell ?_ | exact True.intro | (refine IsT.of ?_; kernel_rfl))
  all_goals (try refine Tell.mk ?_)
  all_goals first | with_reducible rfl | with_reducible exact isI_mk | with_reducible assumption | (with_reducible refine gb_t ?_; with_reducible assumption) | (with_reducible refine gb_f ?_; with_reducible assumption) | ((with_reducible refine lk_t ?_); rfl) | ((with_reducible refine okF_t ?_); kernel_rfl) | ((with_reducible refine ks_t ?_); rfl) | ((with_reducible refine pk_t ?_); rfl) | skip
  all_goals (try dsimp only at *)
  all_goals (try simp only [decide_eq_true_eq, decide_eq_false_iff_not, Bool.or_eq_true, Bool.or_eq_false_iff, Bool.and_eq_true, Bool.and_eq_false_iff, Bool.not_eq_true', Bool.not_eq_false', bne_iff_ne, ne_eq, beq_iff_eq, bne_eq_false_iff_eq, beq_eq_false_iff_ne, Int.not_lt, Int.not_le, gt_iff_lt, ge_iff_le] at *)
  all_goals (try simp only [mulN1, Nat.add_zero, Nat.zero_add, Nat.mul_one, Int.toNat_natCast, avInt_int] at *)
  all_goals first | with_reducible rfl | with_reducible exact nums_N | omega | ((with_reducible refine by_le 1 rfl ?_); omega) | ((with_reducible refine by_le 8 rfl ?_); omega) | (rw [wrapI (by omega) (by omega)] <;> omega) | skip
def wayZ_k : Con Try.prog := ⟨38, fun args => match args with | [.int .i64 k] => .ok (some (k < 0 ∨ 12 < k)) (.nilf) | _ => .no, by
  intro args p r h hp
  split at h
  · cases h; exact wayZ_a _ hp
  · cases h⟩
theorem way0_f : FnOk Try.prog 38 Try.f38 := ⟨Try.func38, by kernel_rfl⟩
theorem way0_a  : ACalls Try.prog 38 [.int .i64 0] (.fn 41 []) := by
  refine acalls_of (inl := hasI (P := Try.prog) [] []) (base [] [] []) 0 way0_f (And.intro (by kernel_rfl) ?_)
  repeat' (first | refine And.intro ?_ ?_ | refine num_lit 0 (by decide) ?_ | refine num_lit 1 (by decide) ?_ | refine num_lit 2 (by decide) ?_ | refine num_lit 3 (by decide) ?_ | refine num_lit 4 (by decide) ?_ | refine num_lit 5 (by decide) ?_ | refine num_lit 6 (by decide) ?_ | refine num_lit 7 (by decide) ?_ | refine num_lit 8 (by decide) ?_ | refine num_elim ?_ | (with_reducible exact ff_elim) | (with_reducible exact tf_elim) | (intro h; exact absurd h (by decide)) | intro _ | (with_reducible rfl) | refine Or.inl ⟨2, ?_⟩ | refine tell ?_ | exact True.intro | (refine IsT.of ?_; kernel_rfl))
  all_goals (try refine Tell.mk ?_)
  all_goals first | with_reducible rfl | with_reducible exact isI_mk | with_reducible assumption | (with_reducible refine gb_t ?_; with_reducible assumption) | (with_reducible refine gb_f ?_; with_reducible assumption) | ((with_reducible refine lk_t ?_); rfl) | ((with_reducible refine okF_t ?_); kernel_rfl) | ((with_reducible refine ks_t ?_); rfl) | ((with_reducible refine pk_t ?_); rfl) | skip
  all_goals (try dsimp only at *)
  all_goals (try simp only [decide_eq_true_eq, decide_eq_false_iff_not, Bool.or_eq_true, Bool.or_eq_false_iff, Bool.and_eq_true, Bool.and_eq_false_iff, Bool.not_eq_true', Bool.not_eq_false', bne_iff_ne, ne_eq, beq_iff_eq, bne_eq_false_iff_eq, beq_eq_false_iff_ne, Int.not_lt, Int.not_le, gt_iff_lt, ge_iff_le] at *)
  all_goals (try simp only [mulN1, Nat.add_zero, Nat.zero_add, Nat.mul_one, Int.toNat_natCast, avInt_int] at *)
  all_goals first | with_reducible rfl | with_reducible exact nums_N | omega | ((with_reducible refine by_le 1 rfl ?_); omega) | ((with_reducible refine by_le 8 rfl ?_); omega) | (rw [wrapI (by omega) (by omega)] <;> omega) | skip
def way0_k : Con Try.prog := ⟨38, fun args => match args with | [.int .i64 0] => .ok (none) (.fn 41 []) | _ => .no, by
  intro args p r h hp
  split at h
  · cases h; exact way0_a 
  · cases h⟩
theorem blend0_f : FnOk Try.prog 23 Try.f23 := ⟨Try.func23, by kernel_rfl⟩
theorem blend0_a (w h : Int) (n : Nat) (A : Nat → Int) (w' h' : Int) (n' : Nat) (B : Nat → Int) (hpre : U8s A ∧ U8s B) : ACalls Try.prog 23 [.int .i64 0, .agg [.int .i64 w, .int .i64 h, ints .u8 n A], .agg [.int .i64 w', .int .i64 h', ints .u8 n' B]] (.tup [.agg [.int .i64 (ifz (blendE 0 w h n A w' h' n' B) w), .int .i64 (ifz (blendE 0 w h n A w' h' n' B) h), ints .u8 (ifn (blendE 0 w h n A w' h' n' B) n) (mixV 0 A B)], .int .i64 (blendE 0 w h n A w' h' n' B)]) := by
  refine acalls_len fun hlen => ?_
  simp only [lenV, len1, lenV0, len0, and_true, true_and] at hlen
  refine acalls_of (inl := hasI (P := Try.prog) [] []) (base [mayB_k, way0_k, w0_k] [] []) 0 blend0_f (And.intro (by kernel_rfl) ?_)
  repeat' (first | refine And.intro ?_ ?_ | (with_reducible exact ff_elim) | (with_reducible exact tf_elim) | refine num_elim ?_ | intro _ | (with_reducible rfl) | ((with_reducible refine lk_t ?_); exact rfl) | refine tell ?_ | exact True.intro | (refine IsT.of ?_; kernel_rfl))
  all_goals (try (refine loop_keep [4, 5, 6, 10, 11] [0, 1, 2] ?_; refine LoopI.mk ({q : Nat // 4 * q ≤ n}) (fun q => [(12, .int .i64 (4 * q.1 : Nat))]) (fun q => [(38, .row [.int .i64 w, .int .i64 h, .os 3 1 0 (4 * q.1)]), (3, .nums .u8 (4 * q.1) (mixV 0 A B))]) (fun q => n - 4 * q.1) (⟨0, Nat.zero_le _⟩) (wk_mk [some 38, none, some 0, some 1, some 2] ?_) (fun ⟨q, hq⟩ => ?_)))
  repeat' (first | refine And.intro ?_ ?_ | (with_reducible exact ff_elim) | (with_reducible exact tf_elim) | refine' stp_mk [some 38, some _, some 0, some 1, some 2] (⟨q + 1, ?_⟩) ?_ ?_ | refine num_elim ?_ | intro _ | (with_reducible rfl) | ((with_reducible refine lk_t ?_); exact rfl) | refine tell ?_ | exact True.intro | (refine IsT.of ?_; kernel_rfl))
  all_goals (try refine Tell.mk ?_)
  all_goals first | with_reducible rfl | with_reducible exact isI_mk | with_reducible assumption | (with_reducible refine gb_t ?_; with_reducible assumption) | (with_reducible refine gb_f ?_; with_reducible assumption) | ((with_reducible refine lk_t ?_); rfl) | ((with_reducible refine okF_t ?_); kernel_rfl) | ((with_reducible refine ks_t ?_); rfl) | ((with_reducible refine pk_t ?_); rfl) | skip
  all_goals (try dsimp only at *)
  all_goals (try simp only [decide_eq_true_eq, decide_eq_false_iff_not, Bool.or_eq_true, Bool.or_eq_false_iff, Bool.and_eq_true, Bool.and_eq_false_iff, Bool.not_eq_true', Bool.not_eq_false', bne_iff_ne, ne_eq, beq_iff_eq, bne_eq_false_iff_eq, beq_eq_false_iff_ne, Int.not_lt, Int.not_le, gt_iff_lt, ge_iff_le] at *)
  all_goals (try simp only [mulN1, Nat.add_zero, Nat.zero_add, Nat.mul_one, Int.toNat_natCast, avInt_int, intF_mk, shiftA_none, shiftA_some, lenN_none, lenN_some] at *)
  all_goals first | with_reducible rfl | with_reducible exact nums_N | omega | ((with_reducible refine by_le 1 rfl ?_); omega) | ((with_reducible refine by_le 8 rfl ?_); omega) | (rw [wrapI (by omega) (by omega)] <;> omega) | skip
  all_goals obtain ⟨hA, hB⟩ := hpre
  all_goals first | with_reducible exact isI_mk | skip
  all_goals first | (rw [bE_a (by with_reducible assumption)] <;> first | with_reducible rfl | exact ifz1 (by with_reducible assumption) | exact ifn1 (by with_reducible assumption)) | (rw [bE_b (by with_reducible assumption) (by with_reducible assumption)] <;> first | with_reducible rfl | exact ifz1 (by with_reducible assumption) | exact ifn1 (by with_reducible assumption)) | (rw [bE_5 (by with_reducible assumption) (by with_reducible assumption) (by omega)] <;> first | exact ifz1 (by decide) | exact ifn1 (by decide)) | (rw [bE_3 (by with_reducible assumption) (by with_reducible assumption) (by omega) (by omega)] <;> first | exact ifz1 (by decide) | exact ifn1 (by decide)) | skip
  all_goals first | exact (hA _).1 | exact (hA _).2 | exact (hB _).1 | exact (hB _).2 | exact mix_step (by with_reducible assumption) | exact Nat.le_refl 4 | skip
  all_goals (have h0 : _ ∧ ∃ m, n = 4 * m ∧ m ≤ 4096 := bm_len (by with_reducible assumption) (by with_reducible assumption) (by with_reducible assumption))
  all_goals obtain ⟨hn, m, hm, hm2⟩ := h0
  all_goals (try simp (disch := omega) only [wrapI, c4] at *)
  all_goals first | omega | (with_reducible refine by_le 1 rfl ?_; omega) | (rw [wrapI (by omega) (by omega)]; omega) | (have hsz : (Tab.cx.ti 64).size = 4 := rfl; omega) | skip
  all_goals (rw [bE_0 (by with_reducible assumption) (by with_reducible assumption) (by with_reducible assumption) (by omega)])
  all_goals first | exact ifz0 rfl | (rw [ifn0 rfl]; omega)
def blend0_r (w h : Int) (n : Nat) (A : Nat → Int) (w' h' : Int) (n' : Nat) (B : Nat → Int) : AV := .tup [.agg [.int .i64 (ifz (blendE 0 w h n A w' h' n' B) w), .int .i64 (ifz (blendE 0 w h n A w' h' n' B) h), ints .u8 (ifn (blendE 0 w h n A w' h' n' B) n) (mixV 0 A B)], .int .i64 (blendE 0 w h n A w' h' n' B)]
def blend0_p (w h : Int) (n : Nat) (A : Nat → Int) (w' h' : Int) (n' : Nat) (B : Nat → Int) : Prop := U8s A ∧ U8s B
def blend0_k : Con Try.prog := ⟨23, fun args => match args with | [.int .i64 0, .agg [.int .i64 w, .int .i64 h, .sl n 1 g_A], .agg [.int .i64 w', .int .i64 h', .sl n' 1 g_B]] => .ok (some (IsI .u8 g_A ∧ IsI .u8 g_B ∧ blend0_p w h n (intF g_A) w' h' n' (intF g_B))) (blend0_r w h n (intF g_A) w' h' n' (intF g_B)) | _ => .no, by
  intro args p r h hp
  split at h
  · cases h; obtain ⟨h_A, h_B, hp⟩ := hp; have e_A := h_A.eq; have e_B := h_B.eq; rw [e_A, e_B]; exact blend0_a _ _ _ _ _ _ _ _ hp
  · cases h⟩
theorem way1_f : FnOk Try.prog 38 Try.f38 := ⟨Try.func38, by kernel_rfl⟩
theorem way1_a  : ACalls Try.prog 38 [.int .i64 1] (.fn 42 []) := by
  refine acalls_of (inl := hasI (P := Try.prog) [] []) (base [] [] []) 0 way1_f (And.intro (by kernel_rfl) ?_)
  repeat' (first | refine And.intro ?_ ?_ | refine num_lit 0 (by decide) ?_ | refine num_lit 1 (by decide) ?_ | refine num_lit 2 (by decide) ?_ | refine num_lit 3 (by decide) ?_ | refine num_lit 4 (by decide) ?_ | refine num_lit 5 (by decide) ?_ | refine num_lit 6 (by decide) ?_ | refine num_lit 7 (by decide) ?_ | refine num_lit 8 (by decide) ?_ | refine num_elim ?_ | (with_reducible exact ff_elim) | (with_reducible exact tf_elim) | (intro h; exact absurd h (by decide)) | intro _ | (with_reducible rfl) | refine Or.inl ⟨2, ?_⟩ | refine tell ?_ | exact True.intro | (refine IsT.of ?_; kernel_rfl))
  all_goals (try refine Tell.mk ?_)
  all_goals first | with_reducible rfl | with_reducible exact isI_mk | with_reducible assumption | (with_reducible refine gb_t ?_; with_reducible assumption) | (with_reducible refine gb_f ?_; with_reducible assumption) | ((with_reducible refine lk_t ?_); rfl) | ((with_reducible refine okF_t ?_); kernel_rfl) | ((with_reducible refine ks_t ?_); rfl) | ((with_reducible refine pk_t ?_); rfl) | skip
  all_goals (try dsimp only at *)
  all_goals (try simp only [decide_eq_true_eq, decide_eq_false_iff_not, Bool.or_eq_true, Bool.or_eq_false_iff, Bool.and_eq_true, Bool.and_eq_false_iff, Bool.not_eq_true', Bool.not_eq_false', bne_iff_ne, ne_eq, beq_iff_eq, bne_eq_false_iff_eq, beq_eq_false_iff_ne, Int.not_lt, Int.not_le, gt_iff_lt, ge_iff_le] at *)
  all_goals (try simp only [mulN1, Nat.add_zero, Nat.zero_add, Nat.mul_one, Int.toNat_natCast, avInt_int] at *)
  all_goals first | with_reducible rfl | with_reducible exact nums_N | omega | ((with_reducible refine by_le 1 rfl ?_); omega) | ((with_reducible refine by_le 8 rfl ?_); omega) | (rw [wrapI (by omega) (by omega)] <;> omega) | skip
def way1_k : Con Try.prog := ⟨38, fun args => match args with | [.int .i64 1] => .ok (none) (.fn 42 []) | _ => .no, by
  intro args p r h hp
  split at h
  · cases h; exact way1_a 
  · cases h⟩
theorem blend1_f : FnOk Try.prog 23 Try.f23 := ⟨Try.func23, by kernel_rfl⟩
theorem blend1_a (w h : Int) (n : Nat) (A : Nat → Int) (w' h' : Int) (n' : Nat) (B : Nat → Int) (hpre : U8s A ∧ U8s B) : ACalls Try.prog 23 [.int .i64 1, .agg [.int .i64 w, .int .i64 h, ints .u8 n A], .agg [.int .i64 w', .int .i64 h', ints .u8 n' B]] (.tup [.agg [.int .i64 (ifz (blendE 1 w h n A w' h' n' B) w), .int .i64 (ifz (blendE 1 w h n A w' h' n' B) h), ints .u8 (ifn (blendE 1 w h n A w' h' n' B) n) (mixV 1 A B)], .int .i64 (blendE 1 w h n A w' h' n' B)]) := by
  refine acalls_len fun hlen => ?_
  simp only [lenV, len1, lenV0, len0, and_true, true_and] at hlen
  refine acalls_of (inl := hasI (P := Try.prog) [] []) (base [mayB_k, way1_k, w1_k] [] []) 0 blend1_f (And.intro (by kernel_rfl) ?_)
  repeat' (first | refine And.intro ?_ ?_ | (with_reducible exact ff_elim) | (with_reducible exact tf_elim) | refine num_elim ?_ | intro _ | (with_reducible rfl) | ((with_reducible refine lk_t ?_); exact rfl) | refine tell ?_ | exact True.intro | (refine IsT.of ?_; kernel_rfl))
  all_goals (try (refine loop_keep [4, 5, 6, 10, 11] [0, 1, 2] ?_; refine LoopI.mk ({q : Nat // 4 * q ≤ n}) (fun q => [(12, .int .i64 (4 * q.1 : Nat))]) (fun q => [(38, .row [.int .i64 w, .int .i64 h, .os 3 1 0 (4 * q.1)]), (3, .nums .u8 (4 * q.1) (mixV 1 A B))]) (fun q => n - 4 * q.1) (⟨0, Nat.zero_le _⟩) (wk_mk [some 38, none, some 0, some 1, some 2] ?_) (fun ⟨q, hq⟩ => ?_)))
  repeat' (first | refine And.intro ?_ ?_ | (with_reducible exact ff_elim) | (with_reducible exact tf_elim) | refine' stp_mk [some 38, some _, some 0, some 1, some 2] (⟨q + 1, ?_⟩) ?_ ?_ | refine num_elim ?_ | intro _ | (with_reducible rfl) | ((with_reducible refine lk_t ?_); exact rfl) | refine tell ?_ | exact True.intro | (refine IsT.of ?_; kernel_rfl))
  all_goals (try refine Tell.mk ?_)
  all_goals first | with_reducible rfl | with_reducible exact isI_mk | with_reducible assumption | (with_reducible refine gb_t ?_; with_reducible assumption) | (with_reducible refine gb_f ?_; with_reducible assumption) | ((with_reducible refine lk_t ?_); rfl) | ((with_reducible refine okF_t ?_); kernel_rfl) | ((with_reducible refine ks_t ?_); rfl) | ((with_reducible refine pk_t ?_); rfl) | skip
  all_goals (try dsimp only at *)
  all_goals (try simp only [decide_eq_true_eq, decide_eq_false_iff_not, Bool.or_eq_true, Bool.or_eq_false_iff, Bool.and_eq_true, Bool.and_eq_false_iff, Bool.not_eq_true', Bool.not_eq_false', bne_iff_ne, ne_eq, beq_iff_eq, bne_eq_false_iff_eq, beq_eq_false_iff_ne, Int.not_lt, Int.not_le, gt_iff_lt, ge_iff_le] at *)
  all_goals (try simp only [mulN1, Nat.add_zero, Nat.zero_add, Nat.mul_one, Int.toNat_natCast, avInt_int, intF_mk, shiftA_none, shiftA_some, lenN_none, lenN_some] at *)
  all_goals first | with_reducible rfl | with_reducible exact nums_N | omega | ((with_reducible refine by_le 1 rfl ?_); omega) | ((with_reducible refine by_le 8 rfl ?_); omega) | (rw [wrapI (by omega) (by omega)] <;> omega) | skip
  all_goals obtain ⟨hA, hB⟩ := hpre
  all_goals first | with_reducible exact isI_mk | skip
  all_goals first | (rw [bE_a (by with_reducible assumption)] <;> first | with_reducible rfl | exact ifz1 (by with_reducible assumption) | exact ifn1 (by with_reducible assumption)) | (rw [bE_b (by with_reducible assumption) (by with_reducible assumption)] <;> first | with_reducible rfl | exact ifz1 (by with_reducible assumption) | exact ifn1 (by with_reducible assumption)) | (rw [bE_5 (by with_reducible assumption) (by with_reducible assumption) (by omega)] <;> first | exact ifz1 (by decide) | exact ifn1 (by decide)) | (rw [bE_3 (by with_reducible assumption) (by with_reducible assumption) (by omega) (by omega)] <;> first | exact ifz1 (by decide) | exact ifn1 (by decide)) | skip
  all_goals first | exact (hA _).1 | exact (hA _).2 | exact (hB _).1 | exact (hB _).2 | exact mix_step (by with_reducible assumption) | exact Nat.le_refl 4 | skip
  all_goals (have h0 : _ ∧ ∃ m, n = 4 * m ∧ m ≤ 4096 := bm_len (by with_reducible assumption) (by with_reducible assumption) (by with_reducible assumption))
  all_goals obtain ⟨hn, m, hm, hm2⟩ := h0
  all_goals (try simp (disch := omega) only [wrapI, c4] at *)
  all_goals first | omega | (with_reducible refine by_le 1 rfl ?_; omega) | (rw [wrapI (by omega) (by omega)]; omega) | (have hsz : (Tab.cx.ti 64).size = 4 := rfl; omega) | skip
  all_goals (rw [bE_0 (by with_reducible assumption) (by with_reducible assumption) (by with_reducible assumption) (by omega)])
  all_goals first | exact ifz0 rfl | (rw [ifn0 rfl]; omega)
def blend1_r (w h : Int) (n : Nat) (A : Nat → Int) (w' h' : Int) (n' : Nat) (B : Nat → Int) : AV := .tup [.agg [.int .i64 (ifz (blendE 1 w h n A w' h' n' B) w), .int .i64 (ifz (blendE 1 w h n A w' h' n' B) h), ints .u8 (ifn (blendE 1 w h n A w' h' n' B) n) (mixV 1 A B)], .int .i64 (blendE 1 w h n A w' h' n' B)]
def blend1_p (w h : Int) (n : Nat) (A : Nat → Int) (w' h' : Int) (n' : Nat) (B : Nat → Int) : Prop := U8s A ∧ U8s B
def blend1_k : Con Try.prog := ⟨23, fun args => match args with | [.int .i64 1, .agg [.int .i64 w, .int .i64 h, .sl n 1 g_A], .agg [.int .i64 w', .int .i64 h', .sl n' 1 g_B]] => .ok (some (IsI .u8 g_A ∧ IsI .u8 g_B ∧ blend1_p w h n (intF g_A) w' h' n' (intF g_B))) (blend1_r w h n (intF g_A) w' h' n' (intF g_B)) | _ => .no, by
  intro args p r h hp
  split at h
  · cases h; obtain ⟨h_A, h_B, hp⟩ := hp; have e_A := h_A.eq; have e_B := h_B.eq; rw [e_A, e_B]; exact blend1_a _ _ _ _ _ _ _ _ hp
  · cases h⟩
theorem way2_f : FnOk Try.prog 38 Try.f38 := ⟨Try.func38, by kernel_rfl⟩
theorem way2_a  : ACalls Try.prog 38 [.int .i64 2] (.fn 43 []) := by
  refine acalls_of (inl := hasI (P := Try.prog) [] []) (base [] [] []) 0 way2_f (And.intro (by kernel_rfl) ?_)
  repeat' (first | refine And.intro ?_ ?_ | refine num_lit 0 (by decide) ?_ | refine num_lit 1 (by decide) ?_ | refine num_lit 2 (by decide) ?_ | refine num_lit 3 (by decide) ?_ | refine num_lit 4 (by decide) ?_ | refine num_lit 5 (by decide) ?_ | refine num_lit 6 (by decide) ?_ | refine num_lit 7 (by decide) ?_ | refine num_lit 8 (by decide) ?_ | refine num_elim ?_ | (with_reducible exact ff_elim) | (with_reducible exact tf_elim) | (intro h; exact absurd h (by decide)) | intro _ | (with_reducible rfl) | refine Or.inl ⟨2, ?_⟩ | refine tell ?_ | exact True.intro | (refine IsT.of ?_; kernel_rfl))
  all_goals (try refine Tell.mk ?_)
  all_goals first | with_reducible rfl | with_reducible exact isI_mk | with_reducible assumption | (with_reducible refine gb_t ?_; with_reducible assumption) | (with_reducible refine gb_f ?_; with_reducible assumption) | ((with_reducible refine lk_t ?_); rfl) | ((with_reducible refine okF_t ?_); kernel_rfl) | ((with_reducible refine ks_t ?_); rfl) | ((with_reducible refine pk_t ?_); rfl) | skip
  all_goals (try dsimp only at *)
  all_goals (try simp only [decide_eq_true_eq, decide_eq_false_iff_not, Bool.or_eq_true, Bool.or_eq_false_iff, Bool.and_eq_true, Bool.and_eq_false_iff, Bool.not_eq_true', Bool.not_eq_false', bne_iff_ne, ne_eq, beq_iff_eq, bne_eq_false_iff_eq, beq_eq_false_iff_ne, Int.not_lt, Int.not_le, gt_iff_lt, ge_iff_le] at *)
  all_goals (try simp only [mulN1, Nat.add_zero, Nat.zero_add, Nat.mul_one, Int.toNat_natCast, avInt_int] at *)
  all_goals first | with_reducible rfl | with_reducible exact nums_N | omega | ((with_reducible refine by_le 1 rfl ?_); omega) | ((with_reducible refine by_le 8 rfl ?_); omega) | (rw [wrapI (by omega) (by omega)] <;> omega) | skip
def way2_k : Con Try.prog := ⟨38, fun args => match args with | [.int .i64 2] => .ok (none) (.fn 43 []) | _ => .no, by
  intro args p r h hp
  split at h
  · cases h; exact way2_a 
  · cases h⟩
theorem blend2_f : FnOk Try.prog 23 Try.f23 := ⟨Try.func23, by kernel_rfl⟩
theorem blend2_a (w h : Int) (n : Nat) (A : Nat → Int) (w' h' : Int) (n' : Nat) (B : Nat → Int) (hpre : U8s A ∧ U8s B) : ACalls Try.prog 23 [.int .i64 2, .agg [.int .i64 w, .int .i64 h, ints .u8 n A], .agg [.int .i64 w', .int .i64 h', ints .u8 n' B]] (.tup [.agg [.int .i64 (ifz (blendE 2 w h n A w' h' n' B) w), .int .i64 (ifz (blendE 2 w h n A w' h' n' B) h), ints .u8 (ifn (blendE 2 w h n A w' h' n' B) n) (mixV 2 A B)], .int .i64 (blendE 2 w h n A w' h' n' B)]) := by
  refine acalls_len fun hlen => ?_
  simp only [lenV, len1, lenV0, len0, and_true, true_and] at hlen
  refine acalls_of (inl := hasI (P := Try.prog) [] []) (base [mayB_k, way2_k, w2_k] [] []) 0 blend2_f (And.intro (by kernel_rfl) ?_)
  repeat' (first | refine And.intro ?_ ?_ | (with_reducible exact ff_elim) | (with_reducible exact tf_elim) | refine num_elim ?_ | intro _ | (with_reducible rfl) | ((with_reducible refine lk_t ?_); exact rfl) | refine tell ?_ | exact True.intro | (refine IsT.of ?_; kernel_rfl))
  all_goals (try (refine loop_keep [4, 5, 6, 10, 11] [0, 1, 2] ?_; refine LoopI.mk ({q : Nat // 4 * q ≤ n}) (fun q => [(12, .int .i64 (4 * q.1 : Nat))]) (fun q => [(38, .row [.int .i64 w, .int .i64 h, .os 3 1 0 (4 * q.1)]), (3, .nums .u8 (4 * q.1) (mixV 2 A B))]) (fun q => n - 4 * q.1) (⟨0, Nat.zero_le _⟩) (wk_mk [some 38, none, some 0, some 1, some 2] ?_) (fun ⟨q, hq⟩ => ?_)))
  repeat' (first | refine And.intro ?_ ?_ | (with_reducible exact ff_elim) | (with_reducible exact tf_elim) | refine' stp_mk [some 38, some _, some 0, some 1, some 2] (⟨q + 1, ?_⟩) ?_ ?_ | refine num_elim ?_ | intro _ | (with_reducible rfl) | ((with_reducible refine lk_t ?_); exact rfl) | refine tell ?_ | exact True.intro | (refine IsT.of ?_; kernel_rfl))
  all_goals (try refine Tell.mk ?_)
  all_goals first | with_reducible rfl | with_reducible exact isI_mk | with_reducible assumption | (with_reducible refine gb_t ?_; with_reducible assumption) | (with_reducible refine gb_f ?_; with_reducible assumption) | ((with_reducible refine lk_t ?_); rfl) | ((with_reducible refine okF_t ?_); kernel_rfl) | ((with_reducible refine ks_t ?_); rfl) | ((with_reducible refine pk_t ?_); rfl) | skip
  all_goals (try dsimp only at *)
  all_goals (try simp only [decide_eq_true_eq, decide_eq_false_iff_not, Bool.or_eq_true, Bool.or_eq_false_iff, Bool.and_eq_true, Bool.and_eq_false_iff, Bool.not_eq_true', Bool.not_eq_false', bne_iff_ne, ne_eq, beq_iff_eq, bne_eq_false_iff_eq, beq_eq_false_iff_ne, Int.not_lt, Int.not_le, gt_iff_lt, ge_iff_le] at *)
  all_goals (try simp only [mulN1, Nat.add_zero, Nat.zero_add, Nat.mul_one, Int.toNat_natCast, avInt_int, intF_mk, shiftA_none, shiftA_some, lenN_none, lenN_some] at *)
  all_goals first | with_reducible rfl | with_reducible exact nums_N | omega | ((with_reducible refine by_le 1 rfl ?_); omega) | ((with_reducible refine by_le 8 rfl ?_); omega) | (rw [wrapI (by omega) (by omega)] <;> omega) | skip
  all_goals obtain ⟨hA, hB⟩ := hpre
  all_goals first | with_reducible exact isI_mk | skip
  all_goals first | (rw [bE_a (by with_reducible assumption)] <;> first | with_reducible rfl | exact ifz1 (by with_reducible assumption) | exact ifn1 (by with_reducible assumption)) | (rw [bE_b (by with_reducible assumption) (by with_reducible assumption)] <;> first | with_reducible rfl | exact ifz1 (by with_reducible assumption) | exact ifn1 (by with_reducible assumption)) | (rw [bE_5 (by with_reducible assumption) (by with_reducible assumption) (by omega)] <;> first | exact ifz1 (by decide) | exact ifn1 (by decide)) | (rw [bE_3 (by with_reducible assumption) (by with_reducible assumption) (by omega) (by omega)] <;> first | exact ifz1 (by decide) | exact ifn1 (by decide)) | skip
  all_goals first | exact (hA _).1 | exact (hA _).2 | exact (hB _).1 | exact (hB _).2 | exact mix_step (by with_reducible assumption) | exact Nat.le_refl 4 | skip
  all_goals (have h0 : _ ∧ ∃ m, n = 4 * m ∧ m ≤ 4096 := bm_len (by with_reducible assumption) (by with_reducible assumption) (by with_reducible assumption))
  all_goals obtain ⟨hn, m, hm, hm2⟩ := h0
  all_goals (try simp (disch := omega) only [wrapI, c4] at *)
  all_goals first | omega | (with_reducible refine by_le 1 rfl ?_; omega) | (rw [wrapI (by omega) (by omega)]; omega) | (have hsz : (Tab.cx.ti 64).size = 4 := rfl; omega) | skip
  all_goals (rw [bE_0 (by with_reducible assumption) (by with_reducible assumption) (by with_reducible assumption) (by omega)])
  all_goals first | exact ifz0 rfl | (rw [ifn0 rfl]; omega)
def blend2_r (w h : Int) (n : Nat) (A : Nat → Int) (w' h' : Int) (n' : Nat) (B : Nat → Int) : AV := .tup [.agg [.int .i64 (ifz (blendE 2 w h n A w' h' n' B) w), .int .i64 (ifz (blendE 2 w h n A w' h' n' B) h), ints .u8 (ifn (blendE 2 w h n A w' h' n' B) n) (mixV 2 A B)], .int .i64 (blendE 2 w h n A w' h' n' B)]
def blend2_p (w h : Int) (n : Nat) (A : Nat → Int) (w' h' : Int) (n' : Nat) (B : Nat → Int) : Prop := U8s A ∧ U8s B
def blend2_k : Con Try.prog := ⟨23, fun args => match args with | [.int .i64 2, .agg [.int .i64 w, .int .i64 h, .sl n 1 g_A], .agg [.int .i64 w', .int .i64 h', .sl n' 1 g_B]] => .ok (some (IsI .u8 g_A ∧ IsI .u8 g_B ∧ blend2_p w h n (intF g_A) w' h' n' (intF g_B))) (blend2_r w h n (intF g_A) w' h' n' (intF g_B)) | _ => .no, by
  intro args p r h hp
  split at h
  · cases h; obtain ⟨h_A, h_B, hp⟩ := hp; have e_A := h_A.eq; have e_B := h_B.eq; rw [e_A, e_B]; exact blend2_a _ _ _ _ _ _ _ _ hp
  · cases h⟩
theorem way3_f : FnOk Try.prog 38 Try.f38 := ⟨Try.func38, by kernel_rfl⟩
theorem way3_a  : ACalls Try.prog 38 [.int .i64 3] (.fn 44 []) := by
  refine acalls_of (inl := hasI (P := Try.prog) [] []) (base [] [] []) 0 way3_f (And.intro (by kernel_rfl) ?_)
  repeat' (first | refine And.intro ?_ ?_ | refine num_lit 0 (by decide) ?_ | refine num_lit 1 (by decide) ?_ | refine num_lit 2 (by decide) ?_ | refine num_lit 3 (by decide) ?_ | refine num_lit 4 (by decide) ?_ | refine num_lit 5 (by decide) ?_ | refine num_lit 6 (by decide) ?_ | refine num_lit 7 (by decide) ?_ | refine num_lit 8 (by decide) ?_ | refine num_elim ?_ | (with_reducible exact ff_elim) | (with_reducible exact tf_elim) | (intro h; exact absurd h (by decide)) | intro _ | (with_reducible rfl) | refine Or.inl ⟨2, ?_⟩ | refine tell ?_ | exact True.intro | (refine IsT.of ?_; kernel_rfl))
  all_goals (try refine Tell.mk ?_)
  all_goals first | with_reducible rfl | with_reducible exact isI_mk | with_reducible assumption | (with_reducible refine gb_t ?_; with_reducible assumption) | (with_reducible refine gb_f ?_; with_reducible assumption) | ((with_reducible refine lk_t ?_); rfl) | ((with_reducible refine okF_t ?_); kernel_rfl) | ((with_reducible refine ks_t ?_); rfl) | ((with_reducible refine pk_t ?_); rfl) | skip
  all_goals (try dsimp only at *)
  all_goals (try simp only [decide_eq_true_eq, decide_eq_false_iff_not, Bool.or_eq_true, Bool.or_eq_false_iff, Bool.and_eq_true, Bool.and_eq_false_iff, Bool.not_eq_true', Bool.not_eq_false', bne_iff_ne, ne_eq, beq_iff_eq, bne_eq_false_iff_eq, beq_eq_false_iff_ne, Int.not_lt, Int.not_le, gt_iff_lt, ge_iff_le] at *)
  all_goals (try simp only [mulN1, Nat.add_zero, Nat.zero_add, Nat.mul_one, Int.toNat_natCast, avInt_int] at *)
  all_goals first | with_reducible rfl | with_reducible exact nums_N | omega | ((with_reducible refine by_le 1 rfl ?_); omega) | ((with_reducible refine by_le 8 rfl ?_); omega) | (rw [wrapI (by omega) (by omega)] <;> omega) | skip
def way3_k : Con Try.prog := ⟨38, fun args => match args with | [.int .i64 3] => .ok (none) (.fn 44 []) | _ => .no, by
  intro args p r h hp
  split at h
  · cases h; exact way3_a 
  · cases h⟩
theorem blend3_f : FnOk Try.prog 23 Try.f23 := ⟨Try.func23, by kernel_rfl⟩
theorem blend3_a (w h : Int) (n : Nat) (A : Nat → Int) (w' h' : Int) (n' : Nat) (B : Nat → Int) (hpre : U8s A ∧ U8s B) : ACalls Try.prog 23 [.int .i64 3, .agg [.int .i64 w, .int .i64 h, ints .u8 n A], .agg [.int .i64 w', .int .i64 h', ints .u8 n' B]] (.tup [.agg [.int .i64 (ifz (blendE 3 w h n A w' h' n' B) w), .int .i64 (ifz (blendE 3 w h n A w' h' n' B) h), ints .u8 (ifn (blendE 3 w h n A w' h' n' B) n) (mixV 3 A B)], .int .i64 (blendE 3 w h n A w' h' n' B)]) := by
  refine acalls_len fun hlen => ?_
  simp only [lenV, len1, lenV0, len0, and_true, true_and] at hlen
  refine acalls_of (inl := hasI (P := Try.prog) [] []) (base [mayB_k, way3_k, w3_k] [] []) 0 blend3_f (And.intro (by kernel_rfl) ?_)
  repeat' (first | refine And.intro ?_ ?_ | (with_reducible exact ff_elim) | (with_reducible exact tf_elim) | refine num_elim ?_ | intro _ | (with_reducible rfl) | ((with_reducible refine lk_t ?_); exact rfl) | refine tell ?_ | exact True.intro | (refine IsT.of ?_; kernel_rfl))
  all_goals (try (refine loop_keep [4, 5, 6, 10, 11] [0, 1, 2] ?_; refine LoopI.mk ({q : Nat // 4 * q ≤ n}) (fun q => [(12, .int .i64 (4 * q.1 : Nat))]) (fun q => [(38, .row [.int .i64 w, .int .i64 h, .os 3 1 0 (4 * q.1)]), (3, .nums .u8 (4 * q.1) (mixV 3 A B))]) (fun q => n - 4 * q.1) (⟨0, Nat.zero_le _⟩) (wk_mk [some 38, none, some 0, some 1, some 2] ?_) (fun ⟨q, hq⟩ => ?_)))
  repeat' (first | refine And.intro ?_ ?_ | (with_reducible exact ff_elim) | (with_reducible exact tf_elim) | refine' stp_mk [some 38, some _, some 0, some 1, some 2] (⟨q + 1, ?_⟩) ?_ ?_ | refine num_elim ?_ | intro _ | (with_reducible rfl) | ((with_reducible refine lk_t ?_); exact rfl) | refine tell ?_ | exact True.intro | (refine IsT.of ?_; kernel_rfl))
  all_goals (try refine Tell.mk ?_)
  all_goals first | with_reducible rfl | with_reducible exact isI_mk | with_reducible assumption | (with_reducible refine gb_t ?_; with_reducible assumption) | (with_reducible refine gb_f ?_; with_reducible assumption) | ((with_reducible refine lk_t ?_); rfl) | ((with_reducible refine okF_t ?_); kernel_rfl) | ((with_reducible refine ks_t ?_); rfl) | ((with_reducible refine pk_t ?_); rfl) | skip
  all_goals (try dsimp only at *)
  all_goals (try simp only [decide_eq_true_eq, decide_eq_false_iff_not, Bool.or_eq_true, Bool.or_eq_false_iff, Bool.and_eq_true, Bool.and_eq_false_iff, Bool.not_eq_true', Bool.not_eq_false', bne_iff_ne, ne_eq, beq_iff_eq, bne_eq_false_iff_eq, beq_eq_false_iff_ne, Int.not_lt, Int.not_le, gt_iff_lt, ge_iff_le] at *)
  all_goals (try simp only [mulN1, Nat.add_zero, Nat.zero_add, Nat.mul_one, Int.toNat_natCast, avInt_int, intF_mk, shiftA_none, shiftA_some, lenN_none, lenN_some] at *)
  all_goals first | with_reducible rfl | with_reducible exact nums_N | omega | ((with_reducible refine by_le 1 rfl ?_); omega) | ((with_reducible refine by_le 8 rfl ?_); omega) | (rw [wrapI (by omega) (by omega)] <;> omega) | skip
  all_goals obtain ⟨hA, hB⟩ := hpre
  all_goals first | with_reducible exact isI_mk | skip
  all_goals first | (rw [bE_a (by with_reducible assumption)] <;> first | with_reducible rfl | exact ifz1 (by with_reducible assumption) | exact ifn1 (by with_reducible assumption)) | (rw [bE_b (by with_reducible assumption) (by with_reducible assumption)] <;> first | with_reducible rfl | exact ifz1 (by with_reducible assumption) | exact ifn1 (by with_reducible assumption)) | (rw [bE_5 (by with_reducible assumption) (by with_reducible assumption) (by omega)] <;> first | exact ifz1 (by decide) | exact ifn1 (by decide)) | (rw [bE_3 (by with_reducible assumption) (by with_reducible assumption) (by omega) (by omega)] <;> first | exact ifz1 (by decide) | exact ifn1 (by decide)) | skip
  all_goals first | exact (hA _).1 | exact (hA _).2 | exact (hB _).1 | exact (hB _).2 | exact mix_step (by with_reducible assumption) | exact Nat.le_refl 4 | skip
  all_goals (have h0 : _ ∧ ∃ m, n = 4 * m ∧ m ≤ 4096 := bm_len (by with_reducible assumption) (by with_reducible assumption) (by with_reducible assumption))
  all_goals obtain ⟨hn, m, hm, hm2⟩ := h0
  all_goals (try simp (disch := omega) only [wrapI, c4] at *)
  all_goals first | omega | (with_reducible refine by_le 1 rfl ?_; omega) | (rw [wrapI (by omega) (by omega)]; omega) | (have hsz : (Tab.cx.ti 64).size = 4 := rfl; omega) | skip
  all_goals (rw [bE_0 (by with_reducible assumption) (by with_reducible assumption) (by with_reducible assumption) (by omega)])
  all_goals first | exact ifz0 rfl | (rw [ifn0 rfl]; omega)
def blend3_r (w h : Int) (n : Nat) (A : Nat → Int) (w' h' : Int) (n' : Nat) (B : Nat → Int) : AV := .tup [.agg [.int .i64 (ifz (blendE 3 w h n A w' h' n' B) w), .int .i64 (ifz (blendE 3 w h n A w' h' n' B) h), ints .u8 (ifn (blendE 3 w h n A w' h' n' B) n) (mixV 3 A B)], .int .i64 (blendE 3 w h n A w' h' n' B)]
def blend3_p (w h : Int) (n : Nat) (A : Nat → Int) (w' h' : Int) (n' : Nat) (B : Nat → Int) : Prop := U8s A ∧ U8s B
def blend3_k : Con Try.prog := ⟨23, fun args => match args with | [.int .i64 3, .agg [.int .i64 w, .int .i64 h, .sl n 1 g_A], .agg [.int .i64 w', .int .i64 h', .sl n' 1 g_B]] => .ok (some (IsI .u8 g_A ∧ IsI .u8 g_B ∧ blend3_p w h n (intF g_A) w' h' n' (intF g_B))) (blend3_r w h n (intF g_A) w' h' n' (intF g_B)) | _ => .no, by
  intro args p r h hp
  split at h
  · cases h; obtain ⟨h_A, h_B, hp⟩ := hp; have e_A := h_A.eq; have e_B := h_B.eq; rw [e_A, e_B]; exact blend3_a _ _ _ _ _ _ _ _ hp
  · cases h⟩
theorem way4_f : FnOk Try.prog 38 Try.f38 := ⟨Try.func38, by kernel_rfl⟩
theorem way4_a  : ACalls Try.prog 38 [.int .i64 4] (.fn 47 []) := by
  refine acalls_of (inl := hasI (P := Try.prog) [] []) (base [] [] []) 0 way4_f (And.intro (by kernel_rfl) ?_)
  repeat' (first | refine And.intro ?_ ?_ | refine num_lit 0 (by decide) ?_ | refine num_lit 1 (by decide) ?_ | refine num_lit 2 (by decide) ?_ | refine num_lit 3 (by decide) ?_ | refine num_lit 4 (by decide) ?_ | refine num_lit 5 (by decide) ?_ | refine num_lit 6 (by decide) ?_ | refine num_lit 7 (by decide) ?_ | refine num_lit 8 (by decide) ?_ | refine num_elim ?_ | (with_reducible exact ff_elim) | (with_reducible exact tf_elim) | (intro h; exact absurd h (by decide)) | intro _ | (with_reducible rfl) | refine Or.inl ⟨2, ?_⟩ | refine tell ?_ | exact True.intro | (refine IsT.of ?_; kernel_rfl))
  all_goals (try refine Tell.mk ?_)
  all_goals first | with_reducible rfl | with_reducible exact isI_mk | with_reducible assumption | (with_reducible refine gb_t ?_; with_reducible assumption) | (with_reducible refine gb_f ?_; with_reducible assumption) | ((with_reducible refine lk_t ?_); rfl) | ((with_reducible refine okF_t ?_); kernel_rfl) | ((with_reducible refine ks_t ?_); rfl) | ((with_reducible refine pk_t ?_); rfl) | skip
  all_goals (try dsimp only at *)
  all_goals (try simp only [decide_eq_true_eq, decide_eq_false_iff_not, Bool.or_eq_true, Bool.or_eq_false_iff, Bool.and_eq_true, Bool.and_eq_false_iff, Bool.not_eq_true', Bool.not_eq_false', bne_iff_ne, ne_eq, beq_iff_eq, bne_eq_false_iff_eq, beq_eq_false_iff_ne, Int.not_lt, Int.not_le, gt_iff_lt, ge_iff_le] at *)
  all_goals (try simp only [mulN1, Nat.add_zero, Nat.zero_add, Nat.mul_one, Int.toNat_natCast, avInt_int] at *)
  all_goals first | with_reducible rfl | with_reducible exact nums_N | omega | ((with_reducible refine by_le 1 rfl ?_); omega) | ((with_reducible refine by_le 8 rfl ?_); omega) | (rw [wrapI (by omega) (by omega)] <;> omega) | skip
def way4_k : Con Try.prog := ⟨38, fun args => match args with | [.int .i64 4] => .ok (none) (.fn 47 []) | _ => .no, by
  intro args p r h hp
  split at h
  · cases h; exact way4_a 
  · cases h⟩
theorem blend4_f : FnOk Try.prog 23 Try.f23 := ⟨Try.func23, by kernel_rfl⟩
theorem blend4_a (w h : Int) (n : Nat) (A : Nat → Int) (w' h' : Int) (n' : Nat) (B : Nat → Int) (hpre : U8s A ∧ U8s B) : ACalls Try.prog 23 [.int .i64 4, .agg [.int .i64 w, .int .i64 h, ints .u8 n A], .agg [.int .i64 w', .int .i64 h', ints .u8 n' B]] (.tup [.agg [.int .i64 (ifz (blendE 4 w h n A w' h' n' B) w), .int .i64 (ifz (blendE 4 w h n A w' h' n' B) h), ints .u8 (ifn (blendE 4 w h n A w' h' n' B) n) (mixV 4 A B)], .int .i64 (blendE 4 w h n A w' h' n' B)]) := by
  refine acalls_len fun hlen => ?_
  simp only [lenV, len1, lenV0, len0, and_true, true_and] at hlen
  refine acalls_of (inl := hasI (P := Try.prog) [] []) (base [mayB_k, way4_k, w4_k] [] []) 0 blend4_f (And.intro (by kernel_rfl) ?_)
  repeat' (first | refine And.intro ?_ ?_ | (with_reducible exact ff_elim) | (with_reducible exact tf_elim) | refine num_elim ?_ | intro _ | (with_reducible rfl) | ((with_reducible refine lk_t ?_); exact rfl) | refine tell ?_ | exact True.intro | (refine IsT.of ?_; kernel_rfl))
  all_goals (try (refine loop_keep [4, 5, 6, 10, 11] [0, 1, 2] ?_; refine LoopI.mk ({q : Nat // 4 * q ≤ n}) (fun q => [(12, .int .i64 (4 * q.1 : Nat))]) (fun q => [(38, .row [.int .i64 w, .int .i64 h, .os 3 1 0 (4 * q.1)]), (3, .nums .u8 (4 * q.1) (mixV 4 A B))]) (fun q => n - 4 * q.1) (⟨0, Nat.zero_le _⟩) (wk_mk [some 38, none, some 0, some 1, some 2] ?_) (fun ⟨q, hq⟩ => ?_)))
  repeat' (first | refine And.intro ?_ ?_ | (with_reducible exact ff_elim) | (with_reducible exact tf_elim) | refine' stp_mk [some 38, some _, some 0, some 1, some 2] (⟨q + 1, ?_⟩) ?_ ?_ | refine num_elim ?_ | intro _ | (with_reducible rfl) | ((with_reducible refine lk_t ?_); exact rfl) | refine tell ?_ | exact True.intro | (refine IsT.of ?_; kernel_rfl))
  all_goals (try refine Tell.mk ?_)
  all_goals first | with_reducible rfl | with_reducible exact isI_mk | with_reducible assumption | (with_reducible refine gb_t ?_; with_reducible assumption) | (with_reducible refine gb_f ?_; with_reducible assumption) | ((with_reducible refine lk_t ?_); rfl) | ((with_reducible refine okF_t ?_); kernel_rfl) | ((with_reducible refine ks_t ?_); rfl) | ((with_reducible refine pk_t ?_); rfl) | skip
  all_goals (try dsimp only at *)
  all_goals (try simp only [decide_eq_true_eq, decide_eq_false_iff_not, Bool.or_eq_true, Bool.or_eq_false_iff, Bool.and_eq_true, Bool.and_eq_false_iff, Bool.not_eq_true', Bool.not_eq_false', bne_iff_ne, ne_eq, beq_iff_eq, bne_eq_false_iff_eq, beq_eq_false_iff_ne, Int.not_lt, Int.not_le, gt_iff_lt, ge_iff_le] at *)
  all_goals (try simp only [mulN1, Nat.add_zero, Nat.zero_add, Nat.mul_one, Int.toNat_natCast, avInt_int, intF_mk, shiftA_none, shiftA_some, lenN_none, lenN_some] at *)
  all_goals first | with_reducible rfl | with_reducible exact nums_N | omega | ((with_reducible refine by_le 1 rfl ?_); omega) | ((with_reducible refine by_le 8 rfl ?_); omega) | (rw [wrapI (by omega) (by omega)] <;> omega) | skip
  all_goals obtain ⟨hA, hB⟩ := hpre
  all_goals first | with_reducible exact isI_mk | skip
  all_goals first | (rw [bE_a (by with_reducible assumption)] <;> first | with_reducible rfl | exact ifz1 (by with_reducible assumption) | exact ifn1 (by with_reducible assumption)) | (rw [bE_b (by with_reducible assumption) (by with_reducible assumption)] <;> first | with_reducible rfl | exact ifz1 (by with_reducible assumption) | exact ifn1 (by with_reducible assumption)) | (rw [bE_5 (by with_reducible assumption) (by with_reducible assumption) (by omega)] <;> first | exact ifz1 (by decide) | exact ifn1 (by decide)) | (rw [bE_3 (by with_reducible assumption) (by with_reducible assumption) (by omega) (by omega)] <;> first | exact ifz1 (by decide) | exact ifn1 (by decide)) | skip
  all_goals first | exact (hA _).1 | exact (hA _).2 | exact (hB _).1 | exact (hB _).2 | exact mix_step (by with_reducible assumption) | exact Nat.le_refl 4 | skip
  all_goals (have h0 : _ ∧ ∃ m, n = 4 * m ∧ m ≤ 4096 := bm_len (by with_reducible assumption) (by with_reducible assumption) (by with_reducible assumption))
  all_goals obtain ⟨hn, m, hm, hm2⟩ := h0
  all_goals (try simp (disch := omega) only [wrapI, c4] at *)
  all_goals first | omega | (with_reducible refine by_le 1 rfl ?_; omega) | (rw [wrapI (by omega) (by omega)]; omega) | (have hsz : (Tab.cx.ti 64).size = 4 := rfl; omega) | skip
  all_goals (rw [bE_0 (by with_reducible assumption) (by with_reducible assumption) (by with_reducible assumption) (by omega)])
  all_goals first | exact ifz0 rfl | (rw [ifn0 rfl]; omega)
def blend4_r (w h : Int) (n : Nat) (A : Nat → Int) (w' h' : Int) (n' : Nat) (B : Nat → Int) : AV := .tup [.agg [.int .i64 (ifz (blendE 4 w h n A w' h' n' B) w), .int .i64 (ifz (blendE 4 w h n A w' h' n' B) h), ints .u8 (ifn (blendE 4 w h n A w' h' n' B) n) (mixV 4 A B)], .int .i64 (blendE 4 w h n A w' h' n' B)]
def blend4_p (w h : Int) (n : Nat) (A : Nat → Int) (w' h' : Int) (n' : Nat) (B : Nat → Int) : Prop := U8s A ∧ U8s B
def blend4_k : Con Try.prog := ⟨23, fun args => match args with | [.int .i64 4, .agg [.int .i64 w, .int .i64 h, .sl n 1 g_A], .agg [.int .i64 w', .int .i64 h', .sl n' 1 g_B]] => .ok (some (IsI .u8 g_A ∧ IsI .u8 g_B ∧ blend4_p w h n (intF g_A) w' h' n' (intF g_B))) (blend4_r w h n (intF g_A) w' h' n' (intF g_B)) | _ => .no, by
  intro args p r h hp
  split at h
  · cases h; obtain ⟨h_A, h_B, hp⟩ := hp; have e_A := h_A.eq; have e_B := h_B.eq; rw [e_A, e_B]; exact blend4_a _ _ _ _ _ _ _ _ hp
  · cases h⟩
theorem way5_f : FnOk Try.prog 38 Try.f38 := ⟨Try.func38, by kernel_rfl⟩
theorem way5_a  : ACalls Try.prog 38 [.int .i64 5] (.fn 48 []) := by
  refine acalls_of (inl := hasI (P := Try.prog) [] []) (base [] [] []) 0 way5_f (And.intro (by kernel_rfl) ?_)
  repeat' (first | refine And.intro ?_ ?_ | refine num_lit 0 (by decide) ?_ | refine num_lit 1 (by decide) ?_ | refine num_lit 2 (by decide) ?_ | refine num_lit 3 (by decide) ?_ | refine num_lit 4 (by decide) ?_ | refine num_lit 5 (by decide) ?_ | refine num_lit 6 (by decide) ?_ | refine num_lit 7 (by decide) ?_ | refine num_lit 8 (by decide) ?_ | refine num_elim ?_ | (with_reducible exact ff_elim) | (with_reducible exact tf_elim) | (intro h; exact absurd h (by decide)) | intro _ | (with_reducible rfl) | refine Or.inl ⟨2, ?_⟩ | refine tell ?_ | exact True.intro | (refine IsT.of ?_; kernel_rfl))
  all_goals (try refine Tell.mk ?_)
  all_goals first | with_reducible rfl | with_reducible exact isI_mk | with_reducible assumption | (with_reducible refine gb_t ?_; with_reducible assumption) | (with_reducible refine gb_f ?_; with_reducible assumption) | ((with_reducible refine lk_t ?_); rfl) | ((with_reducible refine okF_t ?_); kernel_rfl) | ((with_reducible refine ks_t ?_); rfl) | ((with_reducible refine pk_t ?_); rfl) | skip
  all_goals (try dsimp only at *)
  all_goals (try simp only [decide_eq_true_eq, decide_eq_false_iff_not, Bool.or_eq_true, Bool.or_eq_false_iff, Bool.and_eq_true, Bool.and_eq_false_iff, Bool.not_eq_true', Bool.not_eq_false', bne_iff_ne, ne_eq, beq_iff_eq, bne_eq_false_iff_eq, beq_eq_false_iff_ne, Int.not_lt, Int.not_le, gt_iff_lt, ge_iff_le] at *)
  all_goals (try simp only [mulN1, Nat.add_zero, Nat.zero_add, Nat.mul_one, Int.toNat_natCast, avInt_int] at *)
  all_goals first | with_reducible rfl | with_reducible exact nums_N | omega | ((with_reducible refine by_le 1 rfl ?_); omega) | ((with_reducible refine by_le 8 rfl ?_); omega) | (rw [wrapI (by omega) (by omega)] <;> omega) | skip
def way5_k : Con Try.prog := ⟨38, fun args => match args with | [.int .i64 5] => .ok (none) (.fn 48 []) | _ => .no, by
  intro args p r h hp
  split at h
  · cases h; exact way5_a 
  · cases h⟩
theorem blend5_f : FnOk Try.prog 23 Try.f23 := ⟨Try.func23, by kernel_rfl⟩
theorem blend5_a (w h : Int) (n : Nat) (A : Nat → Int) (w' h' : Int) (n' : Nat) (B : Nat → Int) (hpre : U8s A ∧ U8s B) : ACalls Try.prog 23 [.int .i64 5, .agg [.int .i64 w, .int .i64 h, ints .u8 n A], .agg [.int .i64 w', .int .i64 h', ints .u8 n' B]] (.tup [.agg [.int .i64 (ifz (blendE 5 w h n A w' h' n' B) w), .int .i64 (ifz (blendE 5 w h n A w' h' n' B) h), ints .u8 (ifn (blendE 5 w h n A w' h' n' B) n) (mixV 5 A B)], .int .i64 (blendE 5 w h n A w' h' n' B)]) := by
  refine acalls_len fun hlen => ?_
  simp only [lenV, len1, lenV0, len0, and_true, true_and] at hlen
  refine acalls_of (inl := hasI (P := Try.prog) [] []) (base [mayB_k, way5_k, w5_k] [] []) 0 blend5_f (And.intro (by kernel_rfl) ?_)
  repeat' (first | refine And.intro ?_ ?_ | (with_reducible exact ff_elim) | (with_reducible exact tf_elim) | refine num_elim ?_ | intro _ | (with_reducible rfl) | ((with_reducible refine lk_t ?_); exact rfl) | refine tell ?_ | exact True.intro | (refine IsT.of ?_; kernel_rfl))
  all_goals (try (refine loop_keep [4, 5, 6, 10, 11] [0, 1, 2] ?_; refine LoopI.mk ({q : Nat // 4 * q ≤ n}) (fun q => [(12, .int .i64 (4 * q.1 : Nat))]) (fun q => [(38, .row [.int .i64 w, .int .i64 h, .os 3 1 0 (4 * q.1)]), (3, .nums .u8 (4 * q.1) (mixV 5 A B))]) (fun q => n - 4 * q.1) (⟨0, Nat.zero_le _⟩) (wk_mk [some 38, none, some 0, some 1, some 2] ?_) (fun ⟨q, hq⟩ => ?_)))
  repeat' (first | refine And.intro ?_ ?_ | (with_reducible exact ff_elim) | (with_reducible exact tf_elim) | refine' stp_mk [some 38, some _, some 0, some 1, some 2] (⟨q + 1, ?_⟩) ?_ ?_ | refine num_elim ?_ | intro _ | (with_reducible rfl) | ((with_reducible refine lk_t ?_); exact rfl) | refine tell ?_ | exact True.intro | (refine IsT.of ?_; kernel_rfl))
  all_goals (try refine Tell.mk ?_)
  all_goals first | with_reducible rfl | with_reducible exact isI_mk | with_reducible assumption | (with_reducible refine gb_t ?_; with_reducible assumption) | (with_reducible refine gb_f ?_; with_reducible assumption) | ((with_reducible refine lk_t ?_); rfl) | ((with_reducible refine okF_t ?_); kernel_rfl) | ((with_reducible refine ks_t ?_); rfl) | ((with_reducible refine pk_t ?_); rfl) | skip
  all_goals (try dsimp only at *)
  all_goals (try simp only [decide_eq_true_eq, decide_eq_false_iff_not, Bool.or_eq_true, Bool.or_eq_false_iff, Bool.and_eq_true, Bool.and_eq_false_iff, Bool.not_eq_true', Bool.not_eq_false', bne_iff_ne, ne_eq, beq_iff_eq, bne_eq_false_iff_eq, beq_eq_false_iff_ne, Int.not_lt, Int.not_le, gt_iff_lt, ge_iff_le] at *)
  all_goals (try simp only [mulN1, Nat.add_zero, Nat.zero_add, Nat.mul_one, Int.toNat_natCast, avInt_int, intF_mk, shiftA_none, shiftA_some, lenN_none, lenN_some] at *)
  all_goals first | with_reducible rfl | with_reducible exact nums_N | omega | ((with_reducible refine by_le 1 rfl ?_); omega) | ((with_reducible refine by_le 8 rfl ?_); omega) | (rw [wrapI (by omega) (by omega)] <;> omega) | skip
  all_goals obtain ⟨hA, hB⟩ := hpre
  all_goals first | with_reducible exact isI_mk | skip
  all_goals first | (rw [bE_a (by with_reducible assumption)] <;> first | with_reducible rfl | exact ifz1 (by with_reducible assumption) | exact ifn1 (by with_reducible assumption)) | (rw [bE_b (by with_reducible assumption) (by with_reducible assumption)] <;> first | with_reducible rfl | exact ifz1 (by with_reducible assumption) | exact ifn1 (by with_reducible assumption)) | (rw [bE_5 (by with_reducible assumption) (by with_reducible assumption) (by omega)] <;> first | exact ifz1 (by decide) | exact ifn1 (by decide)) | (rw [bE_3 (by with_reducible assumption) (by with_reducible assumption) (by omega) (by omega)] <;> first | exact ifz1 (by decide) | exact ifn1 (by decide)) | skip
  all_goals first | exact (hA _).1 | exact (hA _).2 | exact (hB _).1 | exact (hB _).2 | exact mix_step (by with_reducible assumption) | exact Nat.le_refl 4 | skip
  all_goals (have h0 : _ ∧ ∃ m, n = 4 * m ∧ m ≤ 4096 := bm_len (by with_reducible assumption) (by with_reducible assumption) (by with_reducible assumption))
  all_goals obtain ⟨hn, m, hm, hm2⟩ := h0
  all_goals (try simp (disch := omega) only [wrapI, c4] at *)
  all_goals first | omega | (with_reducible refine by_le 1 rfl ?_; omega) | (rw [wrapI (by omega) (by omega)]; omega) | (have hsz : (Tab.cx.ti 64).size = 4 := rfl; omega) | skip
  all_goals (rw [bE_0 (by with_reducible assumption) (by with_reducible assumption) (by with_reducible assumption) (by omega)])
  all_goals first | exact ifz0 rfl | (rw [ifn0 rfl]; omega)
def blend5_r (w h : Int) (n : Nat) (A : Nat → Int) (w' h' : Int) (n' : Nat) (B : Nat → Int) : AV := .tup [.agg [.int .i64 (ifz (blendE 5 w h n A w' h' n' B) w), .int .i64 (ifz (blendE 5 w h n A w' h' n' B) h), ints .u8 (ifn (blendE 5 w h n A w' h' n' B) n) (mixV 5 A B)], .int .i64 (blendE 5 w h n A w' h' n' B)]
def blend5_p (w h : Int) (n : Nat) (A : Nat → Int) (w' h' : Int) (n' : Nat) (B : Nat → Int) : Prop := U8s A ∧ U8s B
def blend5_k : Con Try.prog := ⟨23, fun args => match args with | [.int .i64 5, .agg [.int .i64 w, .int .i64 h, .sl n 1 g_A], .agg [.int .i64 w', .int .i64 h', .sl n' 1 g_B]] => .ok (some (IsI .u8 g_A ∧ IsI .u8 g_B ∧ blend5_p w h n (intF g_A) w' h' n' (intF g_B))) (blend5_r w h n (intF g_A) w' h' n' (intF g_B)) | _ => .no, by
  intro args p r h hp
  split at h
  · cases h; obtain ⟨h_A, h_B, hp⟩ := hp; have e_A := h_A.eq; have e_B := h_B.eq; rw [e_A, e_B]; exact blend5_a _ _ _ _ _ _ _ _ hp
  · cases h⟩
theorem way6_f : FnOk Try.prog 38 Try.f38 := ⟨Try.func38, by kernel_rfl⟩
theorem way6_a  : ACalls Try.prog 38 [.int .i64 6] (.fn 50 []) := by
  refine acalls_of (inl := hasI (P := Try.prog) [] []) (base [] [] []) 0 way6_f (And.intro (by kernel_rfl) ?_)
  repeat' (first | refine And.intro ?_ ?_ | refine num_lit 0 (by decide) ?_ | refine num_lit 1 (by decide) ?_ | refine num_lit 2 (by decide) ?_ | refine num_lit 3 (by decide) ?_ | refine num_lit 4 (by decide) ?_ | refine num_lit 5 (by decide) ?_ | refine num_lit 6 (by decide) ?_ | refine num_lit 7 (by decide) ?_ | refine num_lit 8 (by decide) ?_ | refine num_elim ?_ | (with_reducible exact ff_elim) | (with_reducible exact tf_elim) | (intro h; exact absurd h (by decide)) | intro _ | (with_reducible rfl) | refine Or.inl ⟨2, ?_⟩ | refine tell ?_ | exact True.intro | (refine IsT.of ?_; kernel_rfl))
  all_goals (try refine Tell.mk ?_)
  all_goals first | with_reducible rfl | with_reducible exact isI_mk | with_reducible assumption | (with_reducible refine gb_t ?_; with_reducible assumption) | (with_reducible refine gb_f ?_; with_reducible assumption) | ((with_reducible refine lk_t ?_); rfl) | ((with_reducible refine okF_t ?_); kernel_rfl) | ((with_reducible refine ks_t ?_); rfl) | ((with_reducible refine pk_t ?_); rfl) | skip
  all_goals (try dsimp only at *)
  all_goals (try simp only [decide_eq_true_eq, decide_eq_false_iff_not, Bool.or_eq_true, Bool.or_eq_false_iff, Bool.and_eq_true, Bool.and_eq_false_iff, Bool.not_eq_true', Bool.not_eq_false', bne_iff_ne, ne_eq, beq_iff_eq, bne_eq_false_iff_eq, beq_eq_false_iff_ne, Int.not_lt, Int.not_le, gt_iff_lt, ge_iff_le] at *)
  all_goals (try simp only [mulN1, Nat.add_zero, Nat.zero_add, Nat.mul_one, Int.toNat_natCast, avInt_int] at *)
  all_goals first | with_reducible rfl | with_reducible exact nums_N | omega | ((with_reducible refine by_le 1 rfl ?_); omega) | ((with_reducible refine by_le 8 rfl ?_); omega) | (rw [wrapI (by omega) (by omega)] <;> omega) | skip
def way6_k : Con Try.prog := ⟨38, fun args => match args with | [.int .i64 6] => .ok (none) (.fn 50 []) | _ => .no, by
  intro args p r h hp
  split at h
  · cases h; exact way6_a 
  · cases h⟩
theorem blend6_f : FnOk Try.prog 23 Try.f23 := ⟨Try.func23, by kernel_rfl⟩
theorem blend6_a (w h : Int) (n : Nat) (A : Nat → Int) (w' h' : Int) (n' : Nat) (B : Nat → Int) (hpre : U8s A ∧ U8s B) : ACalls Try.prog 23 [.int .i64 6, .agg [.int .i64 w, .int .i64 h, ints .u8 n A], .agg [.int .i64 w', .int .i64 h', ints .u8 n' B]] (.tup [.agg [.int .i64 (ifz (blendE 6 w h n A w' h' n' B) w), .int .i64 (ifz (blendE 6 w h n A w' h' n' B) h), ints .u8 (ifn (blendE 6 w h n A w' h' n' B) n) (mixV 6 A B)], .int .i64 (blendE 6 w h n A w' h' n' B)]) := by
  refine acalls_len fun hlen => ?_
  simp only [lenV, len1, lenV0, len0, and_true, true_and] at hlen
  refine acalls_of (inl := hasI (P := Try.prog) [] []) (base [mayB_k, way6_k, w6_k] [] []) 0 blend6_f (And.intro (by kernel_rfl) ?_)
  repeat' (first | refine And.intro ?_ ?_ | (with_reducible exact ff_elim) | (with_reducible exact tf_elim) | refine num_elim ?_ | intro _ | (with_reducible rfl) | ((with_reducible refine lk_t ?_); exact rfl) | refine tell ?_ | exact True.intro | (refine IsT.of ?_; kernel_rfl))
  all_goals (try (refine loop_keep [4, 5, 6, 10, 11] [0, 1, 2] ?_; refine LoopI.mk ({q : Nat // 4 * q ≤ n}) (fun q => [(12, .int .i64 (4 * q.1 : Nat))]) (fun q => [(38, .row [.int .i64 w, .int .i64 h, .os 3 1 0 (4 * q.1)]), (3, .nums .u8 (4 * q.1) (mixV 6 A B))]) (fun q => n - 4 * q.1) (⟨0, Nat.zero_le _⟩) (wk_mk [some 38, none, some 0, some 1, some 2] ?_) (fun ⟨q, hq⟩ => ?_)))
  repeat' (first | refine And.intro ?_ ?_ | (with_reducible exact ff_elim) | (with_reducible exact tf_elim) | refine' stp_mk [some 38, some _, some 0, some 1, some 2] (⟨q + 1, ?_⟩) ?_ ?_ | refine num_elim ?_ | intro _ | (with_reducible rfl) | ((with_reducible refine lk_t ?_); exact rfl) | refine tell ?_ | exact True.intro | (refine IsT.of ?_; kernel_rfl))
  all_goals (try refine Tell.mk ?_)
  all_goals first | with_reducible rfl | with_reducible exact isI_mk | with_reducible assumption | (with_reducible refine gb_t ?_; with_reducible assumption) | (with_reducible refine gb_f ?_; with_reducible assumption) | ((with_reducible refine lk_t ?_); rfl) | ((with_reducible refine okF_t ?_); kernel_rfl) | ((with_reducible refine ks_t ?_); rfl) | ((with_reducible refine pk_t ?_); rfl) | skip
  all_goals (try dsimp only at *)
  all_goals (try simp only [decide_eq_true_eq, decide_eq_false_iff_not, Bool.or_eq_true, Bool.or_eq_false_iff, Bool.and_eq_true, Bool.and_eq_false_iff, Bool.not_eq_true', Bool.not_eq_false', bne_iff_ne, ne_eq, beq_iff_eq, bne_eq_false_iff_eq, beq_eq_false_iff_ne, Int.not_lt, Int.not_le, gt_iff_lt, ge_iff_le] at *)
  all_goals (try simp only [mulN1, Nat.add_zero, Nat.zero_add, Nat.mul_one, Int.toNat_natCast, avInt_int, intF_mk, shiftA_none, shiftA_some, lenN_none, lenN_some] at *)
  all_goals first | with_reducible rfl | with_reducible exact nums_N | omega | ((with_reducible refine by_le 1 rfl ?_); omega) | ((with_reducible refine by_le 8 rfl ?_); omega) | (rw [wrapI (by omega) (by omega)] <;> omega) | skip
  all_goals obtain ⟨hA, hB⟩ := hpre
  all_goals first | with_reducible exact isI_mk | skip
  all_goals first | (rw [bE_a (by with_reducible assumption)] <;> first | with_reducible rfl | exact ifz1 (by with_reducible assumption) | exact ifn1 (by with_reducible assumption)) | (rw [bE_b (by with_reducible assumption) (by with_reducible assumption)] <;> first | with_reducible rfl | exact ifz1 (by with_reducible assumption) | exact ifn1 (by with_reducible assumption)) | (rw [bE_5 (by with_reducible assumption) (by with_reducible assumption) (by omega)] <;> first | exact ifz1 (by decide) | exact ifn1 (by decide)) | (rw [bE_3 (by with_reducible assumption) (by with_reducible assumption) (by omega) (by omega)] <;> first | exact ifz1 (by decide) | exact ifn1 (by decide)) | skip
  all_goals first | exact (hA _).1 | exact (hA _).2 | exact (hB _).1 | exact (hB _).2 | exact mix_step (by with_reducible assumption) | exact Nat.le_refl 4 | skip
  all_goals (have h0 : _ ∧ ∃ m, n = 4 * m ∧ m ≤ 4096 := bm_len (by with_reducible assumption) (by with_reducible assumption) (by with_reducible assumption))
  all_goals obtain ⟨hn, m, hm, hm2⟩ := h0
  all_goals (try simp (disch := omega) only [wrapI, c4] at *)
  all_goals first | omega | (with_reducible refine by_le 1 rfl ?_; omega) | (rw [wrapI (by omega) (by omega)]; omega) | (have hsz : (Tab.cx.ti 64).size = 4 := rfl; omega) | skip
  all_goals (rw [bE_0 (by with_reducible assumption) (by with_reducible assumption) (by with_reducible assumption) (by omega)])
  all_goals first | exact ifz0 rfl | (rw [ifn0 rfl]; omega)
def blend6_r (w h : Int) (n : Nat) (A : Nat → Int) (w' h' : Int) (n' : Nat) (B : Nat → Int) : AV := .tup [.agg [.int .i64 (ifz (blendE 6 w h n A w' h' n' B) w), .int .i64 (ifz (blendE 6 w h n A w' h' n' B) h), ints .u8 (ifn (blendE 6 w h n A w' h' n' B) n) (mixV 6 A B)], .int .i64 (blendE 6 w h n A w' h' n' B)]
def blend6_p (w h : Int) (n : Nat) (A : Nat → Int) (w' h' : Int) (n' : Nat) (B : Nat → Int) : Prop := U8s A ∧ U8s B
def blend6_k : Con Try.prog := ⟨23, fun args => match args with | [.int .i64 6, .agg [.int .i64 w, .int .i64 h, .sl n 1 g_A], .agg [.int .i64 w', .int .i64 h', .sl n' 1 g_B]] => .ok (some (IsI .u8 g_A ∧ IsI .u8 g_B ∧ blend6_p w h n (intF g_A) w' h' n' (intF g_B))) (blend6_r w h n (intF g_A) w' h' n' (intF g_B)) | _ => .no, by
  intro args p r h hp
  split at h
  · cases h; obtain ⟨h_A, h_B, hp⟩ := hp; have e_A := h_A.eq; have e_B := h_B.eq; rw [e_A, e_B]; exact blend6_a _ _ _ _ _ _ _ _ hp
  · cases h⟩
theorem way7_f : FnOk Try.prog 38 Try.f38 := ⟨Try.func38, by kernel_rfl⟩
theorem way7_a  : ACalls Try.prog 38 [.int .i64 7] (.fn 51 []) := by
  refine acalls_of (inl := hasI (P := Try.prog) [] []) (base [] [] []) 0 way7_f (And.intro (by kernel_rfl) ?_)
  repeat' (first | refine And.intro ?_ ?_ | refine num_lit 0 (by decide) ?_ | refine num_lit 1 (by decide) ?_ | refine num_lit 2 (by decide) ?_ | refine num_lit 3 (by decide) ?_ | refine num_lit 4 (by decide) ?_ | refine num_lit 5 (by decide) ?_ | refine num_lit 6 (by decide) ?_ | refine num_lit 7 (by decide) ?_ | refine num_lit 8 (by decide) ?_ | refine num_elim ?_ | (with_reducible exact ff_elim) | (with_reducible exact tf_elim) | (intro h; exact absurd h (by decide)) | intro _ | (with_reducible rfl) | refine Or.inl ⟨2, ?_⟩ | refine tell ?_ | exact True.intro | (refine IsT.of ?_; kernel_rfl))
  all_goals (try refine Tell.mk ?_)
  all_goals first | with_reducible rfl | with_reducible exact isI_mk | with_reducible assumption | (with_reducible refine gb_t ?_; with_reducible assumption) | (with_reducible refine gb_f ?_; with_reducible assumption) | ((with_reducible refine lk_t ?_); rfl) | ((with_reducible refine okF_t ?_); kernel_rfl) | ((with_reducible refine ks_t ?_); rfl) | ((with_reducible refine pk_t ?_); rfl) | skip
  all_goals (try dsimp only at *)
  all_goals (try simp only [decide_eq_true_eq, decide_eq_false_iff_not, Bool.or_eq_true, Bool.or_eq_false_iff, Bool.and_eq_true, Bool.and_eq_false_iff, Bool.not_eq_true', Bool.not_eq_false', bne_iff_ne, ne_eq, beq_iff_eq, bne_eq_false_iff_eq, beq_eq_false_iff_ne, Int.not_lt, Int.not_le, gt_iff_lt, ge_iff_le] at *)
  all_goals (try simp only [mulN1, Nat.add_zero, Nat.zero_add, Nat.mul_one, Int.toNat_natCast, avInt_int] at *)
  all_goals first | with_reducible rfl | with_reducible exact nums_N | omega | ((with_reducible refine by_le 1 rfl ?_); omega) | ((with_reducible refine by_le 8 rfl ?_); omega) | (rw [wrapI (by omega) (by omega)] <;> omega) | skip
def way7_k : Con Try.prog := ⟨38, fun args => match args with | [.int .i64 7] => .ok (none) (.fn 51 []) | _ => .no, by
  intro args p r h hp
  split at h
  · cases h; exact way7_a 
  · cases h⟩
theorem blend7_f : FnOk Try.prog 23 Try.f23 := ⟨Try.func23, by kernel_rfl⟩
theorem blend7_a (w h : Int) (n : Nat) (A : Nat → Int) (w' h' : Int) (n' : Nat) (B : Nat → Int) (hpre : U8s A ∧ U8s B) : ACalls Try.prog 23 [.int .i64 7, .agg [.int .i64 w, .int .i64 h, ints .u8 n A], .agg [.int .i64 w', .int .i64 h', ints .u8 n' B]] (.tup [.agg [.int .i64 (ifz (blendE 7 w h n A w' h' n' B) w), .int .i64 (ifz (blendE 7 w h n A w' h' n' B) h), ints .u8 (ifn (blendE 7 w h n A w' h' n' B) n) (mixV 7 A B)], .int .i64 (blendE 7 w h n A w' h' n' B)]) := by
  refine acalls_len fun hlen => ?_
  simp only [lenV, len1, lenV0, len0, and_true, true_and] at hlen
  refine acalls_of (inl := hasI (P := Try.prog) [] []) (base [mayB_k, way7_k, w7_k] [] []) 0 blend7_f (And.intro (by kernel_rfl) ?_)
  repeat' (first | refine And.intro ?_ ?_ | (with_reducible exact ff_elim) | (with_reducible exact tf_elim) | refine num_elim ?_ | intro _ | (with_reducible rfl) | ((with_reducible refine lk_t ?_); exact rfl) | refine tell ?_ | exact True.intro | (refine IsT.of ?_; kernel_rfl))
  all_goals (try (refine loop_keep [4, 5, 6, 10, 11] [0, 1, 2] ?_; refine LoopI.mk ({q : Nat // 4 * q ≤ n}) (fun q => [(12, .int .i64 (4 * q.1 : Nat))]) (fun q => [(38, .row [.int .i64 w, .int .i64 h, .os 3 1 0 (4 * q.1)]), (3, .nums .u8 (4 * q.1) (mixV 7 A B))]) (fun q => n - 4 * q.1) (⟨0, Nat.zero_le _⟩) (wk_mk [some 38, none, some 0, some 1, some 2] ?_) (fun ⟨q, hq⟩ => ?_)))
  repeat' (first | refine And.intro ?_ ?_ | (with_reducible exact ff_elim) | (with_reducible exact tf_elim) | refine' stp_mk [some 38, some _, some 0, some 1, some 2] (⟨q + 1, ?_⟩) ?_ ?_ | refine num_elim ?_ | intro _ | (with_reducible rfl) | ((with_reducible refine lk_t ?_); exact rfl) | refine tell ?_ | exact True.intro | (refine IsT.of ?_; kernel_rfl))
  all_goals (try refine Tell.mk ?_)
  all_goals first | with_reducible rfl | with_reducible exact isI_mk | with_reducible assumption | (with_reducible refine gb_t ?_; with_reducible assumption) | (with_reducible refine gb_f ?_; with_reducible assumption) | ((with_reducible refine lk_t ?_); rfl) | ((with_reducible refine okF_t ?_); kernel_rfl) | ((with_reducible refine ks_t ?_); rfl) | ((with_reducible refine pk_t ?_); rfl) | skip
  all_goals (try dsimp only at *)
  all_goals (try simp only [decide_eq_true_eq, decide_eq_false_iff_not, Bool.or_eq_true, Bool.or_eq_false_iff, Bool.and_eq_true, Bool.and_eq_false_iff, Bool.not_eq_true', Bool.not_eq_false', bne_iff_ne, ne_eq, beq_iff_eq, bne_eq_false_iff_eq, beq_eq_false_iff_ne, Int.not_lt, Int.not_le, gt_iff_lt, ge_iff_le] at *)
  all_goals (try simp only [mulN1, Nat.add_zero, Nat.zero_add, Nat.mul_one, Int.toNat_natCast, avInt_int, intF_mk, shiftA_none, shiftA_some, lenN_none, lenN_some] at *)
  all_goals first | with_reducible rfl | with_reducible exact nums_N | omega | ((with_reducible refine by_le 1 rfl ?_); omega) | ((with_reducible refine by_le 8 rfl ?_); omega) | (rw [wrapI (by omega) (by omega)] <;> omega) | skip
  all_goals obtain ⟨hA, hB⟩ := hpre
  all_goals first | with_reducible exact isI_mk | skip
  all_goals first | (rw [bE_a (by with_reducible assumption)] <;> first | with_reducible rfl | exact ifz1 (by with_reducible assumption) | exact ifn1 (by with_reducible assumption)) | (rw [bE_b (by with_reducible assumption) (by with_reducible assumption)] <;> first | with_reducible rfl | exact ifz1 (by with_reducible assumption) | exact ifn1 (by with_reducible assumption)) | (rw [bE_5 (by with_reducible assumption) (by with_reducible assumption) (by omega)] <;> first | exact ifz1 (by decide) | exact ifn1 (by decide)) | (rw [bE_3 (by with_reducible assumption) (by with_reducible assumption) (by omega) (by omega)] <;> first | exact ifz1 (by decide) | exact ifn1 (by decide)) | skip
  all_goals first | exact (hA _).1 | exact (hA _).2 | exact (hB _).1 | exact (hB _).2 | exact mix_step (by with_reducible assumption) | exact Nat.le_refl 4 | skip
  all_goals (have h0 : _ ∧ ∃ m, n = 4 * m ∧ m ≤ 4096 := bm_len (by with_reducible assumption) (by with_reducible assumption) (by with_reducible assumption))
  all_goals obtain ⟨hn, m, hm, hm2⟩ := h0
  all_goals (try simp (disch := omega) only [wrapI, c4] at *)
  all_goals first | omega | (with_reducible refine by_le 1 rfl ?_; omega) | (rw [wrapI (by omega) (by omega)]; omega) | (have hsz : (Tab.cx.ti 64).size = 4 := rfl; omega) | skip
  all_goals (rw [bE_0 (by with_reducible assumption) (by with_reducible assumption) (by with_reducible assumption) (by omega)])
  all_goals first | exact ifz0 rfl | (rw [ifn0 rfl]; omega)
def blend7_r (w h : Int) (n : Nat) (A : Nat → Int) (w' h' : Int) (n' : Nat) (B : Nat → Int) : AV := .tup [.agg [.int .i64 (ifz (blendE 7 w h n A w' h' n' B) w), .int .i64 (ifz (blendE 7 w h n A w' h' n' B) h), ints .u8 (ifn (blendE 7 w h n A w' h' n' B) n) (mixV 7 A B)], .int .i64 (blendE 7 w h n A w' h' n' B)]
def blend7_p (w h : Int) (n : Nat) (A : Nat → Int) (w' h' : Int) (n' : Nat) (B : Nat → Int) : Prop := U8s A ∧ U8s B
def blend7_k : Con Try.prog := ⟨23, fun args => match args with | [.int .i64 7, .agg [.int .i64 w, .int .i64 h, .sl n 1 g_A], .agg [.int .i64 w', .int .i64 h', .sl n' 1 g_B]] => .ok (some (IsI .u8 g_A ∧ IsI .u8 g_B ∧ blend7_p w h n (intF g_A) w' h' n' (intF g_B))) (blend7_r w h n (intF g_A) w' h' n' (intF g_B)) | _ => .no, by
  intro args p r h hp
  split at h
  · cases h; obtain ⟨h_A, h_B, hp⟩ := hp; have e_A := h_A.eq; have e_B := h_B.eq; rw [e_A, e_B]; exact blend7_a _ _ _ _ _ _ _ _ hp
  · cases h⟩
theorem way8_f : FnOk Try.prog 38 Try.f38 := ⟨Try.func38, by kernel_rfl⟩
theorem way8_a  : ACalls Try.prog 38 [.int .i64 8] (.fn 52 []) := by
  refine acalls_of (inl := hasI (P := Try.prog) [] []) (base [] [] []) 0 way8_f (And.intro (by kernel_rfl) ?_)
  repeat' (first | refine And.intro ?_ ?_ | refine num_lit 0 (by decide) ?_ | refine num_lit 1 (by decide) ?_ | refine num_lit 2 (by decide) ?_ | refine num_lit 3 (by decide) ?_ | refine num_lit 4 (by decide) ?_ | refine num_lit 5 (by decide) ?_ | refine num_lit 6 (by decide) ?_ | refine num_lit 7 (by decide) ?_ | refine num_lit 8 (by decide) ?_ | refine num_elim ?_ | (with_reducible exact ff_elim) | (with_reducible exact tf_elim) | (intro h; exact absurd h (by decide)) | intro _ | (with_reducible rfl) | refine Or.inl ⟨2, ?_⟩ | refine tell ?_ | exact True.intro | (refine IsT.of ?_; kernel_rfl))
  all_goals (try refine Tell.mk ?_)
  all_goals first | with_reducible rfl | with_reducible exact isI_mk | with_reducible assumption | (with_reducible refine gb_t ?_; with_reducible assumption) | (with_reducible refine gb_f ?_; with_reducible assumption) | ((with_reducible refine lk_t ?_); rfl) | ((with_reducible refine okF_t ?_); kernel_rfl) | ((with_reducible refine ks_t ?_); rfl) | ((with_reducible refine pk_t ?_); rfl) | skip
  all_goals (try dsimp only at *)
  all_goals (try simp only [decide_eq_true_eq, decide_eq_false_iff_not, Bool.or_eq_true, Bool.or_eq_false_iff, Bool.and_eq_true, Bool.and_eq_false_iff, Bool.not_eq_true', Bool.not_eq_false', bne_iff_ne, ne_eq, beq_iff_eq, bne_eq_false_iff_eq, beq_eq_false_iff_ne, Int.not_lt, Int.not_le, gt_iff_lt, ge_iff_le] at *)
  all_goals (try simp only [mulN1, Nat.add_zero, Nat.zero_add, Nat.mul_one, Int.toNat_natCast, avInt_int] at *)
  all_goals first | with_reducible rfl | with_reducible exact nums_N | omega | ((with_reducible refine by_le 1 rfl ?_); omega) | ((with_reducible refine by_le 8 rfl ?_); omega) | (rw [wrapI (by omega) (by omega)] <;> omega) | skip
def way8_k : Con Try.prog := ⟨38, fun args => match args with | [.int .i64 8] => .ok (none) (.fn 52 []) | _ => .no, by
  intro args p r h hp
  split at h
  · cases h; exact way8_a 
  · cases h⟩
theorem blend8_f : FnOk Try.prog 23 Try.f23 := ⟨Try.func23, by kernel_rfl⟩
theorem blend8_a (w h : Int) (n : Nat) (A : Nat → Int) (w' h' : Int) (n' : Nat) (B : Nat → Int) (hpre : U8s A ∧ U8s B) : ACalls Try.prog 23 [.int .i64 8, .agg [.int .i64 w, .int .i64 h, ints .u8 n A], .agg [.int .i64 w', .int .i64 h', ints .u8 n' B]] (.tup [.agg [.int .i64 (ifz (blendE 8 w h n A w' h' n' B) w), .int .i64 (ifz (blendE 8 w h n A w' h' n' B) h), ints .u8 (ifn (blendE 8 w h n A w' h' n' B) n) (mixV 8 A B)], .int .i64 (blendE 8 w h n A w' h' n' B)]) := by
  refine acalls_len fun hlen => ?_
  simp only [lenV, len1, lenV0, len0, and_true, true_and] at hlen
  refine acalls_of (inl := hasI (P := Try.prog) [] []) (base [mayB_k, way8_k, w8_k] [] []) 0 blend8_f (And.intro (by kernel_rfl) ?_)
  repeat' (first | refine And.intro ?_ ?_ | (with_reducible exact ff_elim) | (with_reducible exact tf_elim) | refine num_elim ?_ | intro _ | (with_reducible rfl) | ((with_reducible refine lk_t ?_); exact rfl) | refine tell ?_ | exact True.intro | (refine IsT.of ?_; kernel_rfl))
  all_goals (try (refine loop_keep [4, 5, 6, 10, 11] [0, 1, 2] ?_; refine LoopI.mk ({q : Nat // 4 * q ≤ n}) (fun q => [(12, .int .i64 (4 * q.1 : Nat))]) (fun q => [(38, .row [.int .i64 w, .int .i64 h, .os 3 1 0 (4 * q.1)]), (3, .nums .u8 (4 * q.1) (mixV 8 A B))]) (fun q => n - 4 * q.1) (⟨0, Nat.zero_le _⟩) (wk_mk [some 38, none, some 0, some 1, some 2] ?_) (fun ⟨q, hq⟩ => ?_)))
  repeat' (first | refine And.intro ?_ ?_ | (with_reducible exact ff_elim) | (with_reducible exact tf_elim) | refine' stp_mk [some 38, some _, some 0, some 1, some 2] (⟨q + 1, ?_⟩) ?_ ?_ | refine num_elim ?_ | intro _ | (with_reducible rfl) | ((with_reducible refine lk_t ?_); exact rfl) | refine tell ?_ | exact True.intro | (refine IsT.of ?_; kernel_rfl))
  all_goals (try refine Tell.mk ?_)
  all_goals first | with_reducible rfl | with_reducible exact isI_mk | with_reducible assumption | (with_reducible refine gb_t ?_; with_reducible assumption) | (with_reducible refine gb_f ?_; with_reducible assumption) | ((with_reducible refine lk_t ?_); rfl) | ((with_reducible refine okF_t ?_); kernel_rfl) | ((with_reducible refine ks_t ?_); rfl) | ((with_reducible refine pk_t ?_); rfl) | skip
  all_goals (try dsimp only at *)
  all_goals (try simp only [decide_eq_true_eq, decide_eq_false_iff_not, Bool.or_eq_true, Bool.or_eq_false_iff, Bool.and_eq_true, Bool.and_eq_false_iff, Bool.not_eq_true', Bool.not_eq_false', bne_iff_ne, ne_eq, beq_iff_eq, bne_eq_false_iff_eq, beq_eq_false_iff_ne, Int.not_lt, Int.not_le, gt_iff_lt, ge_iff_le] at *)
  all_goals (try simp only [mulN1, Nat.add_zero, Nat.zero_add, Nat.mul_one, Int.toNat_natCast, avInt_int, intF_mk, shiftA_none, shiftA_some, lenN_none, lenN_some] at *)
  all_goals first | with_reducible rfl | with_reducible exact nums_N | omega | ((with_reducible refine by_le 1 rfl ?_); omega) | ((with_reducible refine by_le 8 rfl ?_); omega) | (rw [wrapI (by omega) (by omega)] <;> omega) | skip
  all_goals obtain ⟨hA, hB⟩ := hpre
  all_goals first | with_reducible exact isI_mk | skip
  all_goals first | (rw [bE_a (by with_reducible assumption)] <;> first | with_reducible rfl | exact ifz1 (by with_reducible assumption) | exact ifn1 (by with_reducible assumption)) | (rw [bE_b (by with_reducible assumption) (by with_reducible assumption)] <;> first | with_reducible rfl | exact ifz1 (by with_reducible assumption) | exact ifn1 (by with_reducible assumption)) | (rw [bE_5 (by with_reducible assumption) (by with_reducible assumption) (by omega)] <;> first | exact ifz1 (by decide) | exact ifn1 (by decide)) | (rw [bE_3 (by with_reducible assumption) (by with_reducible assumption) (by omega) (by omega)] <;> first | exact ifz1 (by decide) | exact ifn1 (by decide)) | skip
  all_goals first | exact (hA _).1 | exact (hA _).2 | exact (hB _).1 | exact (hB _).2 | exact mix_step (by with_reducible assumption) | exact Nat.le_refl 4 | skip
  all_goals (have h0 : _ ∧ ∃ m, n = 4 * m ∧ m ≤ 4096 := bm_len (by with_reducible assumption) (by with_reducible assumption) (by with_reducible assumption))
  all_goals obtain ⟨hn, m, hm, hm2⟩ := h0
  all_goals (try simp (disch := omega) only [wrapI, c4] at *)
  all_goals first | omega | (with_reducible refine by_le 1 rfl ?_; omega) | (rw [wrapI (by omega) (by omega)]; omega) | (have hsz : (Tab.cx.ti 64).size = 4 := rfl; omega) | skip
  all_goals (rw [bE_0 (by with_reducible assumption) (by with_reducible assumption) (by with_reducible assumption) (by omega)])
  all_goals first | exact ifz0 rfl | (rw [ifn0 rfl]; omega)
def blend8_r (w h : Int) (n : Nat) (A : Nat → Int) (w' h' : Int) (n' : Nat) (B : Nat → Int) : AV := .tup [.agg [.int .i64 (ifz (blendE 8 w h n A w' h' n' B) w), .int .i64 (ifz (blendE 8 w h n A w' h' n' B) h), ints .u8 (ifn (blendE 8 w h n A w' h' n' B) n) (mixV 8 A B)], .int .i64 (blendE 8 w h n A w' h' n' B)]
def blend8_p (w h : Int) (n : Nat) (A : Nat → Int) (w' h' : Int) (n' : Nat) (B : Nat → Int) : Prop := U8s A ∧ U8s B
def blend8_k : Con Try.prog := ⟨23, fun args => match args with | [.int .i64 8, .agg [.int .i64 w, .int .i64 h, .sl n 1 g_A], .agg [.int .i64 w', .int .i64 h', .sl n' 1 g_B]] => .ok (some (IsI .u8 g_A ∧ IsI .u8 g_B ∧ blend8_p w h n (intF g_A) w' h' n' (intF g_B))) (blend8_r w h n (intF g_A) w' h' n' (intF g_B)) | _ => .no, by
  intro args p r h hp
  split at h
  · cases h; obtain ⟨h_A, h_B, hp⟩ := hp; have e_A := h_A.eq; have e_B := h_B.eq; rw [e_A, e_B]; exact blend8_a _ _ _ _ _ _ _ _ hp
  · cases h⟩
theorem way9_f : FnOk Try.prog 38 Try.f38 := ⟨Try.func38, by kernel_rfl⟩
theorem way9_a  : ACalls Try.prog 38 [.int .i64 9] (.fn 53 []) := by
  refine acalls_of (inl := hasI (P := Try.prog) [] []) (base [] [] []) 0 way9_f (And.intro (by kernel_rfl) ?_)
  repeat' (first | refine And.intro ?_ ?_ | refine num_lit 0 (by decide) ?_ | refine num_lit 1 (by decide) ?_ | refine num_lit 2 (by decide) ?_ | refine num_lit 3 (by decide) ?_ | refine num_lit 4 (by decide) ?_ | refine num_lit 5 (by decide) ?_ | refine num_lit 6 (by decide) ?_ | refine num_lit 7 (by decide) ?_ | refine num_lit 8 (by decide) ?_ | refine num_elim ?_ | (with_reducible exact ff_elim) | (with_reducible exact tf_elim) | (intro h; exact absurd h (by decide)) | intro _ | (with_reducible rfl) | refine Or.inl ⟨2, ?_⟩ | refine tell ?_ | exact True.intro | (refine IsT.of ?_; kernel_rfl))
  all_goals (try refine Tell.mk ?_)
  all_goals first | with_reducible rfl | with_reducible exact isI_mk | with_reducible assumption | (with_reducible refine gb_t ?_; with_reducible assumption) | (with_reducible refine gb_f ?_; with_reducible assumption) | ((with_reducible refine lk_t ?_); rfl) | ((with_reducible refine okF_t ?_); kernel_rfl) | ((with_reducible refine ks_t ?_); rfl) | ((with_reducible refine pk_t ?_); rfl) | skip
  all_goals (try dsimp only at *)
  all_goals (try simp only [decide_eq_true_eq, decide_eq_false_iff_not, Bool.or_eq_true, Bool.or_eq_false_iff, Bool.and_eq_true, Bool.and_eq_false_iff, Bool.not_eq_true', Bool.not_eq_false', bne_iff_ne, ne_eq, beq_iff_eq, bne_eq_false_iff_eq, beq_eq_false_iff_ne, Int.not_lt, Int.not_le, gt_iff_lt, ge_iff_le] at *)
  all_goals (try simp only [mulN1, Nat.add_zero, Nat.zero_add, Nat.mul_one, Int.toNat_natCast, avInt_int] at *)
  all_goals first | with_reducible rfl | with_reducible exact nums_N | omega | ((with_reducible refine by_le 1 rfl ?_); omega) | ((with_reducible refine by_le 8 rfl ?_); omega) | (rw [wrapI (by omega) (by omega)] <;> omega) | skip
def way9_k : Con Try.prog := ⟨38, fun args => match args with | [.int .i64 9] => .ok (none) (.fn 53 []) | _ => .no, by
  intro args p r h hp
  split at h
  · cases h; exact way9_a 
  · cases h⟩
theorem blend9_f : FnOk Try.prog 23 Try.f23 := ⟨Try.func23, by kernel_rfl⟩
theorem blend9_a (w h : Int) (n : Nat) (A : Nat → Int) (w' h' : Int) (n' : Nat) (B : Nat → Int) (hpre : U8s A ∧ U8s B) : ACalls Try.prog 23 [.int .i64 9, .agg [.int .i64 w, .int .i64 h, ints .u8 n A], .agg [.int .i64 w', .int .i64 h', ints .u8 n' B]] (.tup [.agg [.int .i64 (ifz (blendE 9 w h n A w' h' n' B) w), .int .i64 (ifz (blendE 9 w h n A w' h' n' B) h), ints .u8 (ifn (blendE 9 w h n A w' h' n' B) n) (mixV 9 A B)], .int .i64 (blendE 9 w h n A w' h' n' B)]) := by
  refine acalls_len fun hlen => ?_
  simp only [lenV, len1, lenV0, len0, and_true, true_and] at hlen
  refine acalls_of (inl := hasI (P := Try.prog) [] []) (base [mayB_k, way9_k, w9_k] [] []) 0 blend9_f (And.intro (by kernel_rfl) ?_)
  repeat' (first | refine And.intro ?_ ?_ | (with_reducible exact ff_elim) | (with_reducible exact tf_elim) | refine num_elim ?_ | intro _ | (with_reducible rfl) | ((with_reducible refine lk_t ?_); exact rfl) | refine tell ?_ | exact True.intro | (refine IsT.of ?_; kernel_rfl))
  all_goals (try (refine loop_keep [4, 5, 6, 10, 11] [0, 1, 2] ?_; refine LoopI.mk ({q : Nat // 4 * q ≤ n}) (fun q => [(12, .int .i64 (4 * q.1 : Nat))]) (fun q => [(38, .row [.int .i64 w, .int .i64 h, .os 3 1 0 (4 * q.1)]), (3, .nums .u8 (4 * q.1) (mixV 9 A B))]) (fun q => n - 4 * q.1) (⟨0, Nat.zero_le _⟩) (wk_mk [some 38, none, some 0, some 1, some 2] ?_) (fun ⟨q, hq⟩ => ?_)))
  repeat' (first | refine And.intro ?_ ?_ | (with_reducible exact ff_elim) | (with_reducible exact tf_elim) | refine' stp_mk [some 38, some _, some 0, some 1, some 2] (⟨q + 1, ?_⟩) ?_ ?_ | refine num_elim ?_ | intro _ | (with_reducible rfl) | ((with_reducible refine lk_t ?_); exact rfl) | refine tell ?_ | exact True.intro | (refine IsT.of ?_; kernel_rfl))
  all_goals (try refine Tell.mk ?_)
  all_goals first | with_reducible rfl | with_reducible exact isI_mk | with_reducible assumption | (with_reducible refine gb_t ?_; with_reducible assumption) | (with_reducible refine gb_f ?_; with_reducible assumption) | ((with_reducible refine lk_t ?_); rfl) | ((with_reducible refine okF_t ?_); kernel_rfl) | ((with_reducible refine ks_t ?_); rfl) | ((with_reducible refine pk_t ?_); rfl) | skip
  all_goals (try dsimp only at *)
  all_goals (try simp only [decide_eq_true_eq, decide_eq_false_iff_not, Bool.or_eq_true, Bool.or_eq_false_iff, Bool.and_eq_true, Bool.and_eq_false_iff, Bool.not_eq_true', Bool.not_eq_false', bne_iff_ne, ne_eq, beq_iff_eq, bne_eq_false_iff_eq, beq_eq_false_iff_ne, Int.not_lt, Int.not_le, gt_iff_lt, ge_iff_le] at *)
  all_goals (try simp only [mulN1, Nat.add_zero, Nat.zero_add, Nat.mul_one, Int.toNat_natCast, avInt_int, intF_mk, shiftA_none, shiftA_some, lenN_none, lenN_some] at *)
  all_goals first | with_reducible rfl | with_reducible exact nums_N | omega | ((with_reducible refine by_le 1 rfl ?_); omega) | ((with_reducible refine by_le 8 rfl ?_); omega) | (rw [wrapI (by omega) (by omega)] <;> omega) | skip
  all_goals obtain ⟨hA, hB⟩ := hpre
  all_goals first | with_reducible exact isI_mk | skip
  all_goals first | (rw [bE_a (by with_reducible assumption)] <;> first | with_reducible rfl | exact ifz1 (by with_reducible assumption) | exact ifn1 (by with_reducible assumption)) | (rw [bE_b (by with_reducible assumption) (by with_reducible assumption)] <;> first | with_reducible rfl | exact ifz1 (by with_reducible assumption) | exact ifn1 (by with_reducible assumption)) | (rw [bE_5 (by with_reducible assumption) (by with_reducible assumption) (by omega)] <;> first | exact ifz1 (by decide) | exact ifn1 (by decide)) | (rw [bE_3 (by with_reducible assumption) (by with_reducible assumption) (by omega) (by omega)] <;> first | exact ifz1 (by decide) | exact ifn1 (by decide)) | skip
  all_goals first | exact (hA _).1 | exact (hA _).2 | exact (hB _).1 | exact (hB _).2 | exact mix_step (by with_reducible assumption) | exact Nat.le_refl 4 | skip
  all_goals (have h0 : _ ∧ ∃ m, n = 4 * m ∧ m ≤ 4096 := bm_len (by with_reducible assumption) (by with_reducible assumption) (by with_reducible assumption))
  all_goals obtain ⟨hn, m, hm, hm2⟩ := h0
  all_goals (try simp (disch := omega) only [wrapI, c4] at *)
  all_goals first | omega | (with_reducible refine by_le 1 rfl ?_; omega) | (rw [wrapI (by omega) (by omega)]; omega) | (have hsz : (Tab.cx.ti 64).size = 4 := rfl; omega) | skip
  all_goals (rw [bE_0 (by with_reducible assumption) (by with_reducible assumption) (by with_reducible assumption) (by omega)])
  all_goals first | exact ifz0 rfl | (rw [ifn0 rfl]; omega)
def blend9_r (w h : Int) (n : Nat) (A : Nat → Int) (w' h' : Int) (n' : Nat) (B : Nat → Int) : AV := .tup [.agg [.int .i64 (ifz (blendE 9 w h n A w' h' n' B) w), .int .i64 (ifz (blendE 9 w h n A w' h' n' B) h), ints .u8 (ifn (blendE 9 w h n A w' h' n' B) n) (mixV 9 A B)], .int .i64 (blendE 9 w h n A w' h' n' B)]
def blend9_p (w h : Int) (n : Nat) (A : Nat → Int) (w' h' : Int) (n' : Nat) (B : Nat → Int) : Prop := U8s A ∧ U8s B
def blend9_k : Con Try.prog := ⟨23, fun args => match args with | [.int .i64 9, .agg [.int .i64 w, .int .i64 h, .sl n 1 g_A], .agg [.int .i64 w', .int .i64 h', .sl n' 1 g_B]] => .ok (some (IsI .u8 g_A ∧ IsI .u8 g_B ∧ blend9_p w h n (intF g_A) w' h' n' (intF g_B))) (blend9_r w h n (intF g_A) w' h' n' (intF g_B)) | _ => .no, by
  intro args p r h hp
  split at h
  · cases h; obtain ⟨h_A, h_B, hp⟩ := hp; have e_A := h_A.eq; have e_B := h_B.eq; rw [e_A, e_B]; exact blend9_a _ _ _ _ _ _ _ _ hp
  · cases h⟩
theorem way10_f : FnOk Try.prog 38 Try.f38 := ⟨Try.func38, by kernel_rfl⟩
theorem way10_a  : ACalls Try.prog 38 [.int .i64 10] (.fn 54 []) := by
  refine acalls_of (inl := hasI (P := Try.prog) [] []) (base [] [] []) 0 way10_f (And.intro (by kernel_rfl) ?_)
  repeat' (first | refine And.intro ?_ ?_ | refine num_lit 0 (by decide) ?_ | refine num_lit 1 (by decide) ?_ | refine num_lit 2 (by decide) ?_ | refine num_lit 3 (by decide) ?_ | refine num_lit 4 (by decide) ?_ | refine num_lit 5 (by decide) ?_ | refine num_lit 6 (by decide) ?_ | refine num_lit 7 (by decide) ?_ | refine num_lit 8 (by decide) ?_ | refine num_elim ?_ | (with_reducible exact ff_elim) | (with_reducible exact tf_elim) | (intro h; exact absurd h (by decide)) | intro _ | (with_reducible rfl) | refine Or.inl ⟨2, ?_⟩ | refine tell ?_ | exact True.intro | (refine IsT.of ?_; kernel_rfl))
  all_goals (try refine Tell.mk ?_)
  all_goals first | with_reducible rfl | with_reducible exact isI_mk | with_reducible assumption | (with_reducible refine gb_t ?_; with_reducible assumption) | (with_reducible refine gb_f ?_; with_reducible assumption) | ((with_reducible refine lk_t ?_); rfl) | ((with_reducible refine okF_t ?_); kernel_rfl) | ((with_reducible refine ks_t ?_); rfl) | ((with_reducible refine pk_t ?_); rfl) | skip
  all_goals (try dsimp only at *)
  all_goals (try simp only [decide_eq_true_eq, decide_eq_false_iff_not, Bool.or_eq_true, Bool.or_eq_false_iff, Bool.and_eq_true, Bool.and_eq_false_iff, Bool.not_eq_true', Bool.not_eq_false', bne_iff_ne, ne_eq, beq_iff_eq, bne_eq_false_iff_eq, beq_eq_false_iff_ne, Int.not_lt, Int.not_le, gt_iff_lt, ge_iff_le] at *)
  all_goals (try simp only [mulN1, Nat.add_zero, Nat.zero_add, Nat.mul_one, Int.toNat_natCast, avInt_int] at *)
  all_goals first | with_reducible rfl | with_reducible exact nums_N | omega | ((with_reducible refine by_le 1 rfl ?_); omega) | ((with_reducible refine by_le 8 rfl ?_); omega) | (rw [wrapI (by omega) (by omega)] <;> omega) | skip
def way10_k : Con Try.prog := ⟨38, fun args => match args with | [.int .i64 10] => .ok (none) (.fn 54 []) | _ => .no, by
  intro args p r h hp
  split at h
  · cases h; exact way10_a 
  · cases h⟩
theorem blend10_f : FnOk Try.prog 23 Try.f23 := ⟨Try.func23, by kernel_rfl⟩
theorem blend10_a (w h : Int) (n : Nat) (A : Nat → Int) (w' h' : Int) (n' : Nat) (B : Nat → Int) (hpre : U8s A ∧ U8s B) : ACalls Try.prog 23 [.int .i64 10, .agg [.int .i64 w, .int .i64 h, ints .u8 n A], .agg [.int .i64 w', .int .i64 h', ints .u8 n' B]] (.tup [.agg [.int .i64 (ifz (blendE 10 w h n A w' h' n' B) w), .int .i64 (ifz (blendE 10 w h n A w' h' n' B) h), ints .u8 (ifn (blendE 10 w h n A w' h' n' B) n) (mixV 10 A B)], .int .i64 (blendE 10 w h n A w' h' n' B)]) := by
  refine acalls_len fun hlen => ?_
  simp only [lenV, len1, lenV0, len0, and_true, true_and] at hlen
  refine acalls_of (inl := hasI (P := Try.prog) [] []) (base [mayB_k, way10_k, w10_k] [] []) 0 blend10_f (And.intro (by kernel_rfl) ?_)
  repeat' (first | refine And.intro ?_ ?_ | (with_reducible exact ff_elim) | (with_reducible exact tf_elim) | refine num_elim ?_ | intro _ | (with_reducible rfl) | ((with_reducible refine lk_t ?_); exact rfl) | refine tell ?_ | exact True.intro | (refine IsT.of ?_; kernel_rfl))
  all_goals (try (refine loop_keep [4, 5, 6, 10, 11] [0, 1, 2] ?_; refine LoopI.mk ({q : Nat // 4 * q ≤ n}) (fun q => [(12, .int .i64 (4 * q.1 : Nat))]) (fun q => [(38, .row [.int .i64 w, .int .i64 h, .os 3 1 0 (4 * q.1)]), (3, .nums .u8 (4 * q.1) (mixV 10 A B))]) (fun q => n - 4 * q.1) (⟨0, Nat.zero_le _⟩) (wk_mk [some 38, none, some 0, some 1, some 2] ?_) (fun ⟨q, hq⟩ => ?_)))
  repeat' (first | refine And.intro ?_ ?_ | (with_reducible exact ff_elim) | (with_reducible exact tf_elim) | refine' stp_mk [some 38, some _, some 0, some 1, some 2] (⟨q + 1, ?_⟩) ?_ ?_ | refine num_elim ?_ | intro _ | (with_reducible rfl) | ((with_reducible refine lk_t ?_); exact rfl) | refine tell ?_ | exact True.intro | (refine IsT.of ?_; kernel_rfl))
  all_goals (try refine Tell.mk ?_)
  all_goals first | with_reducible rfl | with_reducible exact isI_mk | with_reducible assumption | (with_reducible refine gb_t ?_; with_reducible assumption) | (with_reducible refine gb_f ?_; with_reducible assumption) | ((with_reducible refine lk_t ?_); rfl) | ((with_reducible refine okF_t ?_); kernel_rfl) | ((with_reducible refine ks_t ?_); rfl) | ((with_reducible refine pk_t ?_); rfl) | skip
  all_goals (try dsimp only at *)
  all_goals (try simp only [decide_eq_true_eq, decide_eq_false_iff_not, Bool.or_eq_true, Bool.or_eq_false_iff, Bool.and_eq_true, Bool.and_eq_false_iff, Bool.not_eq_true', Bool.not_eq_false', bne_iff_ne, ne_eq, beq_iff_eq, bne_eq_false_iff_eq, beq_eq_false_iff_ne, Int.not_lt, Int.not_le, gt_iff_lt, ge_iff_le] at *)
  all_goals (try simp only [mulN1, Nat.add_zero, Nat.zero_add, Nat.mul_one, Int.toNat_natCast, avInt_int, intF_mk, shiftA_none, shiftA_some, lenN_none, lenN_some] at *)
  all_goals first | with_reducible rfl | with_reducible exact nums_N | omega | ((with_reducible refine by_le 1 rfl ?_); omega) | ((with_reducible refine by_le 8 rfl ?_); omega) | (rw [wrapI (by omega) (by omega)] <;> omega) | skip
  all_goals obtain ⟨hA, hB⟩ := hpre
  all_goals first | with_reducible exact isI_mk | skip
  all_goals first | (rw [bE_a (by with_reducible assumption)] <;> first | with_reducible rfl | exact ifz1 (by with_reducible assumption) | exact ifn1 (by with_reducible assumption)) | (rw [bE_b (by with_reducible assumption) (by with_reducible assumption)] <;> first | with_reducible rfl | exact ifz1 (by with_reducible assumption) | exact ifn1 (by with_reducible assumption)) | (rw [bE_5 (by with_reducible assumption) (by with_reducible assumption) (by omega)] <;> first | exact ifz1 (by decide) | exact ifn1 (by decide)) | (rw [bE_3 (by with_reducible assumption) (by with_reducible assumption) (by omega) (by omega)] <;> first | exact ifz1 (by decide) | exact ifn1 (by decide)) | skip
  all_goals first | exact (hA _).1 | exact (hA _).2 | exact (hB _).1 | exact (hB _).2 | exact mix_step (by with_reducible assumption) | exact Nat.le_refl 4 | skip
  all_goals (have h0 : _ ∧ ∃ m, n = 4 * m ∧ m ≤ 4096 := bm_len (by with_reducible assumption) (by with_reducible assumption) (by with_reducible assumption))
  all_goals obtain ⟨hn, m, hm, hm2⟩ := h0
  all_goals (try simp (disch := omega) only [wrapI, c4] at *)
  all_goals first | omega | (with_reducible refine by_le 1 rfl ?_; omega) | (rw [wrapI (by omega) (by omega)]; omega) | (have hsz : (Tab.cx.ti 64).size = 4 := rfl; omega) | skip
  all_goals (rw [bE_0 (by with_reducible assumption) (by with_reducible assumption) (by with_reducible assumption) (by omega)])
  all_goals first | exact ifz0 rfl | (rw [ifn0 rfl]; omega)
def blend10_r (w h : Int) (n : Nat) (A : Nat → Int) (w' h' : Int) (n' : Nat) (B : Nat → Int) : AV := .tup [.agg [.int .i64 (ifz (blendE 10 w h n A w' h' n' B) w), .int .i64 (ifz (blendE 10 w h n A w' h' n' B) h), ints .u8 (ifn (blendE 10 w h n A w' h' n' B) n) (mixV 10 A B)], .int .i64 (blendE 10 w h n A w' h' n' B)]
def blend10_p (w h : Int) (n : Nat) (A : Nat → Int) (w' h' : Int) (n' : Nat) (B : Nat → Int) : Prop := U8s A ∧ U8s B
def blend10_k : Con Try.prog := ⟨23, fun args => match args with | [.int .i64 10, .agg [.int .i64 w, .int .i64 h, .sl n 1 g_A], .agg [.int .i64 w', .int .i64 h', .sl n' 1 g_B]] => .ok (some (IsI .u8 g_A ∧ IsI .u8 g_B ∧ blend10_p w h n (intF g_A) w' h' n' (intF g_B))) (blend10_r w h n (intF g_A) w' h' n' (intF g_B)) | _ => .no, by
  intro args p r h hp
  split at h
  · cases h; obtain ⟨h_A, h_B, hp⟩ := hp; have e_A := h_A.eq; have e_B := h_B.eq; rw [e_A, e_B]; exact blend10_a _ _ _ _ _ _ _ _ hp
  · cases h⟩
theorem way11_f : FnOk Try.prog 38 Try.f38 := ⟨Try.func38, by kernel_rfl⟩
theorem way11_a  : ACalls Try.prog 38 [.int .i64 11] (.fn 55 []) := by
  refine acalls_of (inl := hasI (P := Try.prog) [] []) (base [] [] []) 0 way11_f (And.intro (by kernel_rfl) ?_)
  repeat' (first | refine And.intro ?_ ?_ | refine num_lit 0 (by decide) ?_ | refine num_lit 1 (by decide) ?_ | refine num_lit 2 (by decide) ?_ | refine num_lit 3 (by decide) ?_ | refine num_lit 4 (by decide) ?_ | refine num_lit 5 (by decide) ?_ | refine num_lit 6 (by decide) ?_ | refine num_lit 7 (by decide) ?_ | refine num_lit 8 (by decide) ?_ | refine num_elim ?_ | (with_reducible exact ff_elim) | (with_reducible exact tf_elim) | (intro h; exact absurd h (by decide)) | intro _ | (with_reducible rfl) | refine Or.inl ⟨2, ?_⟩ | refine tell ?_ | exact True.intro | (refine IsT.of ?_; kernel_rfl))
  all_goals (try refine Tell.mk ?_)
  all_goals first | with_reducible rfl | with_reducible exact isI_mk | with_reducible assumption | (with_reducible refine gb_t ?_; with_reducible assumption) | (with_reducible refine gb_f ?_; with_reducible assumption) | ((with_reducible refine lk_t ?_); rfl) | ((with_reducible refine okF_t ?_); kernel_rfl) | ((with_reducible refine ks_t ?_); rfl) | ((with_reducible refine pk_t ?_); rfl) | skip
  all_goals (try dsimp only at *)
  all_goals (try simp only [decide_eq_true_eq, decide_eq_false_iff_not, Bool.or_eq_true, Bool.or_eq_false_iff, Bool.and_eq_true, Bool.and_eq_false_iff, Bool.not_eq_true', Bool.not_eq_false', bne_iff_ne, ne_eq, beq_iff_eq, bne_eq_false_iff_eq, beq_eq_false_iff_ne, Int.not_lt, Int.not_le, gt_iff_lt, ge_iff_le] at *)
  all_goals (try simp only [mulN1, Nat.add_zero, Nat.zero_add, Nat.mul_one, Int.toNat_natCast, avInt_int] at *)
  all_goals first | with_reducible rfl | with_reducible exact nums_N | omega | ((with_reducible refine by_le 1 rfl ?_); omega) | ((with_reducible refine by_le 8 rfl ?_); omega) | (rw [wrapI (by omega) (by omega)] <;> omega) | skip
def way11_k : Con Try.prog := ⟨38, fun args => match args with | [.int .i64 11] => .ok (none) (.fn 55 []) | _ => .no, by
  intro args p r h hp
  split at h
  · cases h; exact way11_a 
  · cases h⟩
theorem blend11_f : FnOk Try.prog 23 Try.f23 := ⟨Try.func23, by kernel_rfl⟩
theorem blend11_a (w h : Int) (n : Nat) (A : Nat → Int) (w' h' : Int) (n' : Nat) (B : Nat → Int) (hpre : U8s A ∧ U8s B) : ACalls Try.prog 23 [.int .i64 11, .agg [.int .i64 w, .int .i64 h, ints .u8 n A], .agg [.int .i64 w', .int .i64 h', ints .u8 n' B]] (.tup [.agg [.int .i64 (ifz (blendE 11 w h n A w' h' n' B) w), .int .i64 (ifz (blendE 11 w h n A w' h' n' B) h), ints .u8 (ifn (blendE 11 w h n A w' h' n' B) n) (mixV 11 A B)], .int .i64 (blendE 11 w h n A w' h' n' B)]) := by
  refine acalls_len fun hlen => ?_
  simp only [lenV, len1, lenV0, len0, and_true, true_and] at hlen
  refine acalls_of (inl := hasI (P := Try.prog) [] []) (base [mayB_k, way11_k, w11_k] [] []) 0 blend11_f (And.intro (by kernel_rfl) ?_)
  repeat' (first | refine And.intro ?_ ?_ | (with_reducible exact ff_elim) | (with_reducible exact tf_elim) | refine num_elim ?_ | intro _ | (with_reducible rfl) | ((with_reducible refine lk_t ?_); exact rfl) | refine tell ?_ | exact True.intro | (refine IsT.of ?_; kernel_rfl))
  all_goals (try (refine loop_keep [4, 5, 6, 10, 11] [0, 1, 2] ?_; refine LoopI.mk ({q : Nat // 4 * q ≤ n}) (fun q => [(12, .int .i64 (4 * q.1 : Nat))]) (fun q => [(38, .row [.int .i64 w, .int .i64 h, .os 3 1 0 (4 * q.1)]), (3, .nums .u8 (4 * q.1) (mixV 11 A B))]) (fun q => n - 4 * q.1) (⟨0, Nat.zero_le _⟩) (wk_mk [some 38, none, some 0, some 1, some 2] ?_) (fun ⟨q, hq⟩ => ?_)))
  repeat' (first | refine And.intro ?_ ?_ | (with_reducible exact ff_elim) | (with_reducible exact tf_elim) | refine' stp_mk [some 38, some _, some 0, some 1, some 2] (⟨q + 1, ?_⟩) ?_ ?_ | refine num_elim ?_ | intro _ | (with_reducible rfl) | ((with_reducible refine lk_t ?_); exact rfl) | refine tell ?_ | exact True.intro | (refine IsT.of ?_; kernel_rfl))
  all_goals (try refine Tell.mk ?_)
  all_goals first | with_reducible rfl | with_reducible exact isI_mk | with_reducible assumption | (with_reducible refine gb_t ?_; with_reducible assumption) | (with_reducible refine gb_f ?_; with_reducible assumption) | ((with_reducible refine lk_t ?_); rfl) | ((with_reducible refine okF_t ?_); kernel_rfl) | ((with_reducible refine ks_t ?_); rfl) | ((with_reducible refine pk_t ?_); rfl) | skip
  all_goals (try dsimp only at *)
  all_goals (try simp only [decide_eq_true_eq, decide_eq_false_iff_not, Bool.or_eq_true, Bool.or_eq_false_iff, Bool.and_eq_true, Bool.and_eq_false_iff, Bool.not_eq_true', Bool.not_eq_false', bne_iff_ne, ne_eq, beq_iff_eq, bne_eq_false_iff_eq, beq_eq_false_iff_ne, Int.not_lt, Int.not_le, gt_iff_lt, ge_iff_le] at *)
  all_goals (try simp only [mulN1, Nat.add_zero, Nat.zero_add, Nat.mul_one, Int.toNat_natCast, avInt_int, intF_mk, shiftA_none, shiftA_some, lenN_none, lenN_some] at *)
  all_goals first | with_reducible rfl | with_reducible exact nums_N | omega | ((with_reducible refine by_le 1 rfl ?_); omega) | ((with_reducible refine by_le 8 rfl ?_); omega) | (rw [wrapI (by omega) (by omega)] <;> omega) | skip
  all_goals obtain ⟨hA, hB⟩ := hpre
  all_goals first | with_reducible exact isI_mk | skip
  all_goals first | (rw [bE_a (by with_reducible assumption)] <;> first | with_reducible rfl | exact ifz1 (by with_reducible assumption) | exact ifn1 (by with_reducible assumption)) | (rw [bE_b (by with_reducible assumption) (by with_reducible assumption)] <;> first | with_reducible rfl | exact ifz1 (by with_reducible assumption) | exact ifn1 (by with_reducible assumption)) | (rw [bE_5 (by with_reducible assumption) (by with_reducible assumption) (by omega)] <;> first | exact ifz1 (by decide) | exact ifn1 (by decide)) | (rw [bE_3 (by with_reducible assumption) (by with_reducible assumption) (by omega) (by omega)] <;> first | exact ifz1 (by decide) | exact ifn1 (by decide)) | skip
  all_goals first | exact (hA _).1 | exact (hA _).2 | exact (hB _).1 | exact (hB _).2 | exact mix_step (by with_reducible assumption) | exact Nat.le_refl 4 | skip
  all_goals (have h0 : _ ∧ ∃ m, n = 4 * m ∧ m ≤ 4096 := bm_len (by with_reducible assumption) (by with_reducible assumption) (by with_reducible assumption))
  all_goals obtain ⟨hn, m, hm, hm2⟩ := h0
  all_goals (try simp (disch := omega) only [wrapI, c4] at *)
  all_goals first | omega | (with_reducible refine by_le 1 rfl ?_; omega) | (rw [wrapI (by omega) (by omega)]; omega) | (have hsz : (Tab.cx.ti 64).size = 4 := rfl; omega) | skip
  all_goals (rw [bE_0 (by with_reducible assumption) (by with_reducible assumption) (by with_reducible assumption) (by omega)])
  all_goals first | exact ifz0 rfl | (rw [ifn0 rfl]; omega)
def blend11_r (w h : Int) (n : Nat) (A : Nat → Int) (w' h' : Int) (n' : Nat) (B : Nat → Int) : AV := .tup [.agg [.int .i64 (ifz (blendE 11 w h n A w' h' n' B) w), .int .i64 (ifz (blendE 11 w h n A w' h' n' B) h), ints .u8 (ifn (blendE 11 w h n A w' h' n' B) n) (mixV 11 A B)], .int .i64 (blendE 11 w h n A w' h' n' B)]
def blend11_p (w h : Int) (n : Nat) (A : Nat → Int) (w' h' : Int) (n' : Nat) (B : Nat → Int) : Prop := U8s A ∧ U8s B
def blend11_k : Con Try.prog := ⟨23, fun args => match args with | [.int .i64 11, .agg [.int .i64 w, .int .i64 h, .sl n 1 g_A], .agg [.int .i64 w', .int .i64 h', .sl n' 1 g_B]] => .ok (some (IsI .u8 g_A ∧ IsI .u8 g_B ∧ blend11_p w h n (intF g_A) w' h' n' (intF g_B))) (blend11_r w h n (intF g_A) w' h' n' (intF g_B)) | _ => .no, by
  intro args p r h hp
  split at h
  · cases h; obtain ⟨h_A, h_B, hp⟩ := hp; have e_A := h_A.eq; have e_B := h_B.eq; rw [e_A, e_B]; exact blend11_a _ _ _ _ _ _ _ _ hp
  · cases h⟩
theorem way12_f : FnOk Try.prog 38 Try.f38 := ⟨Try.func38, by kernel_rfl⟩
theorem way12_a  : ACalls Try.prog 38 [.int .i64 12] (.fn 45 []) := by
  refine acalls_of (inl := hasI (P := Try.prog) [] []) (base [] [] []) 0 way12_f (And.intro (by kernel_rfl) ?_)
  repeat' (first | refine And.intro ?_ ?_ | refine num_lit 0 (by decide) ?_ | refine num_lit 1 (by decide) ?_ | refine num_lit 2 (by decide) ?_ | refine num_lit 3 (by decide) ?_ | refine num_lit 4 (by decide) ?_ | refine num_lit 5 (by decide) ?_ | refine num_lit 6 (by decide) ?_ | refine num_lit 7 (by decide) ?_ | refine num_lit 8 (by decide) ?_ | refine num_elim ?_ | (with_reducible exact ff_elim) | (with_reducible exact tf_elim) | (intro h; exact absurd h (by decide)) | intro _ | (with_reducible rfl) | refine Or.inl ⟨2, ?_⟩ | refine tell ?_ | exact True.intro | (refine IsT.of ?_; kernel_rfl))
  all_goals (try refine Tell.mk ?_)
  all_goals first | with_reducible rfl | with_reducible exact isI_mk | with_reducible assumption | (with_reducible refine gb_t ?_; with_reducible assumption) | (with_reducible refine gb_f ?_; with_reducible assumption) | ((with_reducible refine lk_t ?_); rfl) | ((with_reducible refine okF_t ?_); kernel_rfl) | ((with_reducible refine ks_t ?_); rfl) | ((with_reducible refine pk_t ?_); rfl) | skip
  all_goals (try dsimp only at *)
  all_goals (try simp only [decide_eq_true_eq, decide_eq_false_iff_not, Bool.or_eq_true, Bool.or_eq_false_iff, Bool.and_eq_true, Bool.and_eq_false_iff, Bool.not_eq_true', Bool.not_eq_false', bne_iff_ne, ne_eq, beq_iff_eq, bne_eq_false_iff_eq, beq_eq_false_iff_ne, Int.not_lt, Int.not_le, gt_iff_lt, ge_iff_le] at *)
  all_goals (try simp only [mulN1, Nat.add_zero, Nat.zero_add, Nat.mul_one, Int.toNat_natCast, avInt_int] at *)
  all_goals first | with_reducible rfl | with_reducible exact nums_N | omega | ((with_reducible refine by_le 1 rfl ?_); omega) | ((with_reducible refine by_le 8 rfl ?_); omega) | (rw [wrapI (by omega) (by omega)] <;> omega) | skip
def way12_k : Con Try.prog := ⟨38, fun args => match args with | [.int .i64 12] => .ok (none) (.fn 45 []) | _ => .no, by
  intro args p r h hp
  split at h
  · cases h; exact way12_a 
  · cases h⟩
theorem blend12_f : FnOk Try.prog 23 Try.f23 := ⟨Try.func23, by kernel_rfl⟩
theorem blend12_a (w h : Int) (n : Nat) (A : Nat → Int) (w' h' : Int) (n' : Nat) (B : Nat → Int) (hpre : U8s A ∧ U8s B) : ACalls Try.prog 23 [.int .i64 12, .agg [.int .i64 w, .int .i64 h, ints .u8 n A], .agg [.int .i64 w', .int .i64 h', ints .u8 n' B]] (.tup [.agg [.int .i64 (ifz (blendE 12 w h n A w' h' n' B) w), .int .i64 (ifz (blendE 12 w h n A w' h' n' B) h), ints .u8 (ifn (blendE 12 w h n A w' h' n' B) n) (mixV 12 A B)], .int .i64 (blendE 12 w h n A w' h' n' B)]) := by
  refine acalls_len fun hlen => ?_
  simp only [lenV, len1, lenV0, len0, and_true, true_and] at hlen
  refine acalls_of (inl := hasI (P := Try.prog) [] []) (base [mayB_k, way12_k, w12_k] [] []) 0 blend12_f (And.intro (by kernel_rfl) ?_)
  repeat' (first | refine And.intro ?_ ?_ | (with_reducible exact ff_elim) | (with_reducible exact tf_elim) | refine num_elim ?_ | intro _ | (with_reducible rfl) | ((with_reducible refine lk_t ?_); exact rfl) | refine tell ?_ | exact True.intro | (refine IsT.of ?_; kernel_rfl))
  all_goals (try (refine loop_keep [4, 5, 6, 10, 11] [0, 1, 2] ?_; refine LoopI.mk ({q : Nat // 4 * q ≤ n}) (fun q => [(12, .int .i64 (4 * q.1 : Nat))]) (fun q => [(38, .row [.int .i64 w, .int .i64 h, .os 3 1 0 (4 * q.1)]), (3, .nums .u8 (4 * q.1) (mixV 12 A B))]) (fun q => n - 4 * q.1) (⟨0, Nat.zero_le _⟩) (wk_mk [some 38, none, some 0, some 1, some 2] ?_) (fun ⟨q, hq⟩ => ?_)))
  repeat' (first | refine And.intro ?_ ?_ | (with_reducible exact ff_elim) | (with_reducible exact tf_elim) | refine' stp_mk [some 38, some _, some 0, some 1, some 2] (⟨q + 1, ?_⟩) ?_ ?_ | refine num_elim ?_ | intro _ | (with_reducible rfl) | ((with_reducible refine lk_t ?_); exact rfl) | refine tell ?_ | exact True.intro | (refine IsT.of ?_; kernel_rfl))
  all_goals (try refine Tell.mk ?_)
  all_goals first | with_reducible rfl | with_reducible exact isI_mk | with_reducible assumption | (with_reducible refine gb_t ?_; with_reducible assumption) | (with_reducible refine gb_f ?_; with_reducible assumption) | ((with_reducible refine lk_t ?_); rfl) | ((with_reducible refine okF_t ?_); kernel_rfl) | ((with_reducible refine ks_t ?_); rfl) | ((with_reducible refine pk_t ?_); rfl) | skip
  all_goals (try dsimp only at *)
  all_goals (try simp only [decide_eq_true_eq, decide_eq_false_iff_not, Bool.or_eq_true, Bool.or_eq_false_iff, Bool.and_eq_true, Bool.and_eq_false_iff, Bool.not_eq_true', Bool.not_eq_false', bne_iff_ne, ne_eq, beq_iff_eq, bne_eq_false_iff_eq, beq_eq_false_iff_ne, Int.not_lt, Int.not_le, gt_iff_lt, ge_iff_le] at *)
  all_goals (try simp only [mulN1, Nat.add_zero, Nat.zero_add, Nat.mul_one, Int.toNat_natCast, avInt_int, intF_mk, shiftA_none, shiftA_some, lenN_none, lenN_some] at *)
  all_goals first | with_reducible rfl | with_reducible exact nums_N | omega | ((with_reducible refine by_le 1 rfl ?_); omega) | ((with_reducible refine by_le 8 rfl ?_); omega) | (rw [wrapI (by omega) (by omega)] <;> omega) | skip
  all_goals obtain ⟨hA, hB⟩ := hpre
  all_goals first | with_reducible exact isI_mk | skip
  all_goals first | (rw [bE_a (by with_reducible assumption)] <;> first | with_reducible rfl | exact ifz1 (by with_reducible assumption) | exact ifn1 (by with_reducible assumption)) | (rw [bE_b (by with_reducible assumption) (by with_reducible assumption)] <;> first | with_reducible rfl | exact ifz1 (by with_reducible assumption) | exact ifn1 (by with_reducible assumption)) | (rw [bE_5 (by with_reducible assumption) (by with_reducible assumption) (by omega)] <;> first | exact ifz1 (by decide) | exact ifn1 (by decide)) | (rw [bE_3 (by with_reducible assumption) (by with_reducible assumption) (by omega) (by omega)] <;> first | exact ifz1 (by decide) | exact ifn1 (by decide)) | skip
  all_goals first | exact (hA _).1 | exact (hA _).2 | exact (hB _).1 | exact (hB _).2 | exact mix_step (by with_reducible assumption) | exact Nat.le_refl 4 | skip
  all_goals (have h0 : _ ∧ ∃ m, n = 4 * m ∧ m ≤ 4096 := bm_len (by with_reducible assumption) (by with_reducible assumption) (by with_reducible assumption))
  all_goals obtain ⟨hn, m, hm, hm2⟩ := h0
  all_goals (try simp (disch := omega) only [wrapI, c4] at *)
  all_goals first | omega | (with_reducible refine by_le 1 rfl ?_; omega) | (rw [wrapI (by omega) (by omega)]; omega) | (have hsz : (Tab.cx.ti 64).size = 4 := rfl; omega) | skip
  all_goals (rw [bE_0 (by with_reducible assumption) (by with_reducible assumption) (by with_reducible assumption) (by omega)])
  all_goals first | exact ifz0 rfl | (rw [ifn0 rfl]; omega)
def blend12_r (w h : Int) (n : Nat) (A : Nat → Int) (w' h' : Int) (n' : Nat) (B : Nat → Int) : AV := .tup [.agg [.int .i64 (ifz (blendE 12 w h n A w' h' n' B) w), .int .i64 (ifz (blendE 12 w h n A w' h' n' B) h), ints .u8 (ifn (blendE 12 w h n A w' h' n' B) n) (mixV 12 A B)], .int .i64 (blendE 12 w h n A w' h' n' B)]
def blend12_p (w h : Int) (n : Nat) (A : Nat → Int) (w' h' : Int) (n' : Nat) (B : Nat → Int) : Prop := U8s A ∧ U8s B
def blend12_k : Con Try.prog := ⟨23, fun args => match args with | [.int .i64 12, .agg [.int .i64 w, .int .i64 h, .sl n 1 g_A], .agg [.int .i64 w', .int .i64 h', .sl n' 1 g_B]] => .ok (some (IsI .u8 g_A ∧ IsI .u8 g_B ∧ blend12_p w h n (intF g_A) w' h' n' (intF g_B))) (blend12_r w h n (intF g_A) w' h' n' (intF g_B)) | _ => .no, by
  intro args p r h hp
  split at h
  · cases h; obtain ⟨h_A, h_B, hp⟩ := hp; have e_A := h_A.eq; have e_B := h_B.eq; rw [e_A, e_B]; exact blend12_a _ _ _ _ _ _ _ _ hp
  · cases h⟩
theorem blendZ_f : FnOk Try.prog 23 Try.f23 := ⟨Try.func23, by kernel_rfl⟩
theorem blendZ_a (k : Int) (w h : Int) (n : Nat) (A : Nat → Int) (w' h' : Int) (n' : Nat) (B : Nat → Int) (hpre : (k < 0 ∨ 12 < k) ∧ U8s A ∧ U8s B) : ACalls Try.prog 23 [.int .i64 k, .agg [.int .i64 w, .int .i64 h, ints .u8 n A], .agg [.int .i64 w', .int .i64 h', ints .u8 n' B]] (.tup [.agg [.int .i64 (ifz (blendE k w h n A w' h' n' B) w), .int .i64 (ifz (blendE k w h n A w' h' n' B) h), ints .u8 (ifn (blendE k w h n A w' h' n' B) n) (mixV k A B)], .int .i64 (blendE k w h n A w' h' n' B)]) := by
  refine acalls_len fun hlen => ?_
  simp only [lenV, len1, lenV0, len0, and_true, true_and] at hlen
  refine acalls_of (inl := hasI (P := Try.prog) [] []) (base [mayB_k, wayZ_k] [] []) 0 blendZ_f (And.intro (by kernel_rfl) ?_)
  obtain ⟨hk, hpre⟩ := hpre
  repeat' (first | refine And.intro ?_ ?_ | (with_reducible exact ff_elim) | (with_reducible exact tf_elim) | refine num_elim ?_ | intro _ | (with_reducible rfl) | ((with_reducible refine lk_t ?_); exact rfl) | refine tell ?_ | exact True.intro | (refine IsT.of ?_; kernel_rfl))
  all_goals (try refine Tell.mk ?_)
  all_goals first | with_reducible rfl | with_reducible exact isI_mk | with_reducible assumption | (with_reducible refine gb_t ?_; with_reducible assumption) | (with_reducible refine gb_f ?_; with_reducible assumption) | ((with_reducible refine lk_t ?_); rfl) | ((with_reducible refine okF_t ?_); kernel_rfl) | ((with_reducible refine ks_t ?_); rfl) | ((with_reducible refine pk_t ?_); rfl) | skip
  all_goals (try dsimp only at *)
  all_goals (try simp only [decide_eq_true_eq, decide_eq_false_iff_not, Bool.or_eq_true, Bool.or_eq_false_iff, Bool.and_eq_true, Bool.and_eq_false_iff, Bool.not_eq_true', Bool.not_eq_false', bne_iff_ne, ne_eq, beq_iff_eq, bne_eq_false_iff_eq, beq_eq_false_iff_ne, Int.not_lt, Int.not_le, gt_iff_lt, ge_iff_le] at *)
  all_goals (try simp only [mulN1, Nat.add_zero, Nat.zero_add, Nat.mul_one, Int.toNat_natCast, avInt_int, intF_mk, shiftA_none, shiftA_some, lenN_none, lenN_some] at *)
  all_goals first | with_reducible rfl | with_reducible exact nums_N | omega | ((with_reducible refine by_le 1 rfl ?_); omega) | ((with_reducible refine by_le 8 rfl ?_); omega) | (rw [wrapI (by omega) (by omega)] <;> omega) | skip
  all_goals obtain ⟨hA, hB⟩ := hpre
  all_goals first | with_reducible exact isI_mk | skip
  all_goals first | (rw [bE_a (by with_reducible assumption)] <;> first | with_reducible rfl | exact ifz1 (by with_reducible assumption) | exact ifn1 (by with_reducible assumption)) | (rw [bE_b (by with_reducible assumption) (by with_reducible assumption)] <;> first | with_reducible rfl | exact ifz1 (by with_reducible assumption) | exact ifn1 (by with_reducible assumption)) | (rw [bE_5 (by with_reducible assumption) (by with_reducible assumption) (by omega)] <;> first | exact ifz1 (by decide) | exact ifn1 (by decide)) | (rw [bE_3 (by with_reducible assumption) (by with_reducible assumption) (by omega) (by omega)] <;> first | exact ifz1 (by decide) | exact ifn1 (by decide)) | skip
  all_goals first | exact (hA _).1 | exact (hA _).2 | exact (hB _).1 | exact (hB _).2 | exact mix_step (by with_reducible assumption) | exact Nat.le_refl 4 | skip
  all_goals (have h0 : _ ∧ ∃ m, n = 4 * m ∧ m ≤ 4096 := bm_len (by with_reducible assumption) (by with_reducible assumption) (by with_reducible assumption))
  all_goals obtain ⟨hn, m, hm, hm2⟩ := h0
  all_goals (try simp (disch := omega) only [wrapI, c4] at *)
  all_goals first | omega | (with_reducible refine by_le 1 rfl ?_; omega) | (rw [wrapI (by omega) (by omega)]; omega) | (have hsz : (Tab.cx.ti 64).size = 4 := rfl; omega) | skip
  all_goals (rw [bE_0 (by with_reducible assumption) (by with_reducible assumption) (by with_reducible assumption) (by omega)])
  all_goals first | exact ifz0 rfl | (rw [ifn0 rfl]; omega)
def blendZ_r (k : Int) (w h : Int) (n : Nat) (A : Nat → Int) (w' h' : Int) (n' : Nat) (B : Nat → Int) : AV := .tup [.agg [.int .i64 (ifz (blendE k w h n A w' h' n' B) w), .int .i64 (ifz (blendE k w h n A w' h' n' B) h), ints .u8 (ifn (blendE k w h n A w' h' n' B) n) (mixV k A B)], .int .i64 (blendE k w h n A w' h' n' B)]
def blendZ_p (k : Int) (w h : Int) (n : Nat) (A : Nat → Int) (w' h' : Int) (n' : Nat) (B : Nat → Int) : Prop := (k < 0 ∨ 12 < k) ∧ U8s A ∧ U8s B
def blendZ_k : Con Try.prog := ⟨23, fun args => match args with | [.int .i64 k, .agg [.int .i64 w, .int .i64 h, .sl n 1 g_A], .agg [.int .i64 w', .int .i64 h', .sl n' 1 g_B]] => .ok (some (IsI .u8 g_A ∧ IsI .u8 g_B ∧ blendZ_p k w h n (intF g_A) w' h' n' (intF g_B))) (blendZ_r k w h n (intF g_A) w' h' n' (intF g_B)) | _ => .no, by
  intro args p r h hp
  split at h
  · cases h; obtain ⟨h_A, h_B, hp⟩ := hp; have e_A := h_A.eq; have e_B := h_B.eq; rw [e_A, e_B]; exact blendZ_a _ _ _ _ _ _ _ _ _ hp
  · cases h⟩
theorem blend_f : FnOk Try.prog 23 Try.f23 := ⟨Try.func23, by kernel_rfl⟩
theorem blend_a (k : Int) (w h : Int) (n : Nat) (A : Nat → Int) (w' h' : Int) (n' : Nat) (B : Nat → Int) (hpre : U8s A ∧ U8s B) : ACalls Try.prog 23 [.int .i64 k, .agg [.int .i64 w, .int .i64 h, ints .u8 n A], .agg [.int .i64 w', .int .i64 h', ints .u8 n' B]] (.tup [.agg [.int .i64 (ifz (blendE k w h n A w' h' n' B) w), .int .i64 (ifz (blendE k w h n A w' h' n' B) h), ints .u8 (ifn (blendE k w h n A w' h' n' B) n) (mixV k A B)], .int .i64 (blendE k w h n A w' h' n' B)]) := by
  by_cases hk : k < 0 ∨ 12 < k
  · exact blendZ_a k w h n A w' h' n' B ⟨hk, hpre⟩
  have : k = 0 ∨ k = 1 ∨ k = 2 ∨ k = 3 ∨ k = 4 ∨ k = 5 ∨ k = 6 ∨ k = 7 ∨ k = 8 ∨ k = 9 ∨ k = 10 ∨ k = 11 ∨ k = 12 := by omega
  rcases this with rfl | rfl | rfl | rfl | rfl | rfl | rfl | rfl | rfl | rfl | rfl | rfl | rfl
  · exact blend0_a w h n A w' h' n' B hpre
  · exact blend1_a w h n A w' h' n' B hpre
  · exact blend2_a w h n A w' h' n' B hpre
  · exact blend3_a w h n A w' h' n' B hpre
  · exact blend4_a w h n A w' h' n' B hpre
  · exact blend5_a w h n A w' h' n' B hpre
  · exact blend6_a w h n A w' h' n' B hpre
  · exact blend7_a w h n A w' h' n' B hpre
  · exact blend8_a w h n A w' h' n' B hpre
  · exact blend9_a w h n A w' h' n' B hpre
  · exact blend10_a w h n A w' h' n' B hpre
  · exact blend11_a w h n A w' h' n' B hpre
  · exact blend12_a w h n A w' h' n' B hpre
def blend_r (k : Int) (w h : Int) (n : Nat) (A : Nat → Int) (w' h' : Int) (n' : Nat) (B : Nat → Int) : AV := .tup [.agg [.int .i64 (ifz (blendE k w h n A w' h' n' B) w), .int .i64 (ifz (blendE k w h n A w' h' n' B) h), ints .u8 (ifn (blendE k w h n A w' h' n' B) n) (mixV k A B)], .int .i64 (blendE k w h n A w' h' n' B)]
def blend_p (k : Int) (w h : Int) (n : Nat) (A : Nat → Int) (w' h' : Int) (n' : Nat) (B : Nat → Int) : Prop := U8s A ∧ U8s B
def blend_k : Con Try.prog := ⟨23, fun args => match args with | [.int .i64 k, .agg [.int .i64 w, .int .i64 h, .sl n 1 g_A], .agg [.int .i64 w', .int .i64 h', .sl n' 1 g_B]] => .ok (some (IsI .u8 g_A ∧ IsI .u8 g_B ∧ blend_p k w h n (intF g_A) w' h' n' (intF g_B))) (blend_r k w h n (intF g_A) w' h' n' (intF g_B)) | _ => .no, by
  intro args p r h hp
  split at h
  · cases h; obtain ⟨h_A, h_B, hp⟩ := hp; have e_A := h_A.eq; have e_B := h_B.eq; rw [e_A, e_B]; exact blend_a _ _ _ _ _ _ _ _ _ hp
  · cases h⟩
end Go.Proofs.Ytlcdaoljfclliaa
