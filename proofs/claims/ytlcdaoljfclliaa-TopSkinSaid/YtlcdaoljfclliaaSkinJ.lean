/- A picture and its halves, of a block of the caller's own. -/
import Derived.Test.YtlcdaoljfclliaaSkinH
import Derived.Test.YtlcdaoljfclliaaEvPub
namespace Go.Proofs.Ytlcdaoljfclliaa
open Go.RowKit Ev
set_option linter.unusedVariables false
set_option linter.unusedSimpArgs false
set_option maxRecDepth 20000
set_option maxHeartbeats 4000000

theorem cloneM_f : FnOk Try.prog 37 Try.f37 := ⟨Try.func37, by kernel_rfl⟩
theorem cloneM_a (n : Nat) (A : Nat → Int) (hpre : 0 < n ∧ n ≤ 1000000) : MCalls Try.prog 37 ([.os 0 1 0 n]) [.nums .u8 n A] (ints .u8 n A) [.nums .u8 n A] := by
  refine mcallsP_of (inl := hasI (P := Try.prog) [] []) (base [] [] []) 0 cloneM_f (And.intro (by kernel_rfl) ?_)
  repeat' (first | refine And.intro ?_ ?_ | (with_reducible exact ff_elim) | (with_reducible exact tf_elim) | refine num_elim ?_ | intro _ | (with_reducible rfl) | ((with_reducible refine lk_t ?_); exact rfl) | refine tell ?_ | exact True.intro | (refine IsT.of ?_; kernel_rfl))
  all_goals (try refine Tell.mk ?_)
  all_goals first | with_reducible rfl | with_reducible exact isI_mk | with_reducible assumption | (with_reducible refine gb_t ?_; with_reducible assumption) | (with_reducible refine gb_f ?_; with_reducible assumption) | ((with_reducible refine lk_t ?_); rfl) | ((with_reducible refine okF_t ?_); kernel_rfl) | ((with_reducible refine ks_t ?_); rfl) | ((with_reducible refine pk_t ?_); rfl) | skip
  all_goals (try dsimp only at *)
  all_goals (try simp only [decide_eq_true_eq, decide_eq_false_iff_not, Bool.or_eq_true, Bool.or_eq_false_iff, Bool.and_eq_true, Bool.and_eq_false_iff, Bool.not_eq_true', Bool.not_eq_false', bne_iff_ne, ne_eq, beq_iff_eq, bne_eq_false_iff_eq, beq_eq_false_iff_ne, Int.not_lt, Int.not_le, gt_iff_lt, ge_iff_le] at *)
  all_goals (try simp only [mulN1, Nat.add_zero, Nat.zero_add, Nat.mul_one, Int.toNat_natCast, avInt_int, intF_mk] at *)
  all_goals (try simp only [catI_zero] at *)
  all_goals first | with_reducible rfl | with_reducible exact nums_N | omega | ((with_reducible refine by_le 1 rfl ?_); omega) | ((with_reducible refine by_le 8 rfl ?_); omega) | (rw [wrapI (by omega) (by omega)] <;> omega) | skip
def cloneM_p (n : Nat) (A : Nat → Int) : Prop := 0 < n ∧ n ≤ 1000000
def cloneM_r (n : Nat) (A : Nat → Int) : AV := ints .u8 n A
def cloneM_m : MCon Try.prog := ⟨37, fun args own => match args with | [.os k_ 1 0 n] => (match own k_ with | .nums .u8 n_ A => .ok [k_] ([.os 0 1 0 n]) [.nums .u8 n A] (some (n_ = n ∧ cloneM_p n A)) (cloneM_r n A) [.nums .u8 n A] | _ => .no) | _ => .no, by
  intro args own ks cargs rows p r rows2 h hp
  split at h
  · split at h
    · cases h; exact cloneM_a _ _ hp.2
    · cases h
  · cases h⟩
theorem halvesM_f : FnOk Try.prog 20 Try.f20 := ⟨Try.func20, by kernel_rfl⟩
theorem halvesM_a (w h : Int) (n : Nat) (A : Nat → Int) (hpre : n ≤ 1000000 ∧ U8s A) : MCalls Try.prog 20 ([.agg [.int .i64 w, .int .i64 h, .os 0 1 0 n]]) [.nums .u8 n A] (.tup [.sl (ifn (picE w h n) (lv w h + 1)) 3 (pyr w h A), .int .i64 (picE w h n)]) [.nums .u8 n A] := by
  refine mcallsP_of (inl := hasI (P := Try.prog) [] [cloneM_m]) (base [mayP_k, half_k] [] [cloneM_m]) 0 halvesM_f (And.intro (by kernel_rfl) ?_)
  repeat' (first | refine And.intro ?_ ?_ | (with_reducible exact ff_elim) | (with_reducible exact tf_elim) | refine num_elim ?_ | intro _ | (with_reducible rfl) | ((with_reducible refine lk_t ?_); exact rfl) | refine tell ?_ | exact True.intro | (refine IsT.of ?_; kernel_rfl))
  all_goals (try (refine loop_keep [1] [0] ?_; refine LoopI.mk ({i : Nat // i ≤ 6 ∧ und w h i}) (fun i => [(5, .os 3 3 0 (i.1 + 1))]) (fun i => [(1, .row [.int .i64 (dimN w i.1), .int .i64 (dimN h i.1), ints .u8 (pyN w h i.1) (pyA w h A i.1)]), (3, .arr (3 * (i.1 + 1)) (pyr w h A))]) (fun i => 6 - i.1) (⟨0, Nat.zero_le _, und_0 w h⟩) (wk_mk [some 1, some 14, none] ?_) (fun ⟨i, hi, hu⟩ => ?_)))
  repeat' (first | refine And.intro ?_ ?_ | (with_reducible exact ff_elim) | (with_reducible exact tf_elim) | refine' stp_mk [some 1, some _, none] (⟨i + 1, ?_, ?_⟩) ?_ ?_ | refine num_elim ?_ | intro _ | (with_reducible rfl) | ((with_reducible refine lk_t ?_); exact rfl) | refine tell ?_ | exact True.intro | (refine IsT.of ?_; kernel_rfl))
  all_goals (try refine Tell.mk ?_)
  all_goals first | with_reducible rfl | with_reducible exact isI_mk | with_reducible assumption | (with_reducible refine gb_t ?_; with_reducible assumption) | (with_reducible refine gb_f ?_; with_reducible assumption) | ((with_reducible refine lk_t ?_); rfl) | ((with_reducible refine okF_t ?_); kernel_rfl) | ((with_reducible refine ks_t ?_); rfl) | ((with_reducible refine pk_t ?_); rfl) | skip
  all_goals (try dsimp only at *)
  all_goals (try simp only [decide_eq_true_eq, decide_eq_false_iff_not, Bool.or_eq_true, Bool.or_eq_false_iff, Bool.and_eq_true, Bool.and_eq_false_iff, Bool.not_eq_true', Bool.not_eq_false', bne_iff_ne, ne_eq, beq_iff_eq, bne_eq_false_iff_eq, beq_eq_false_iff_ne, Int.not_lt, Int.not_le, gt_iff_lt, ge_iff_le] at *)
  all_goals (try simp only [mulN1, Nat.add_zero, Nat.zero_add, Nat.mul_one, Int.toNat_natCast, avInt_int, intF_mk] at *)
  all_goals first | with_reducible rfl | with_reducible exact nums_N | omega | ((with_reducible refine by_le 1 rfl ?_); omega) | ((with_reducible refine by_le 8 rfl ?_); omega) | (rw [wrapI (by omega) (by omega)] <;> omega) | skip
  all_goals obtain ⟨hn0, hpre⟩ := hpre
  all_goals first | omega | (unfold posR; show 0 < _; have hw := (picE_ok (by with_reducible assumption)).1.wh; have hn := (picE_ok (by with_reducible assumption)).2; omega) | exact ifn1 (by with_reducible assumption) | skip
  all_goals (have h0 : picE w h n = 0 := by with_reducible assumption)
  all_goals (obtain ⟨hs, hn⟩ := picE_ok h0; have hw := hs.wh; have hp := py_n h0)
  all_goals first | omega | exact (pyA_u8 w h hpre _ _).1 | exact (pyA_u8 w h hpre _ _).2 | (rw [sizeP]; omega) | (with_reducible refine by_le 40 rfl ?_; omega) | exact pyr_0 hp (by omega) | exact Nat.le_refl 3 | (rw [ifn0 h0, lv_done hs hi hu (by with_reducible assumption)]; done) | skip
  all_goals first | exact rfl | skip
  all_goals (try simp only [pic_lv hs, ifz0 rfl, ifn0 rfl, sizeP])
  all_goals first | exact rfl | exact pyr_step (by with_reducible assumption) | exact und_s hu (by omega) | skip
  all_goals (have hi6 : i ≠ 6 := by (rintro rfl; have d1 := dim_6 ⟨hs.1, hs.2.1⟩; have d2 := dim_6 ⟨hs.2.2.1, hs.2.2.2⟩; omega))
  all_goals first | omega
def halvesM_p (w h : Int) (n : Nat) (A : Nat → Int) : Prop := n ≤ 1000000 ∧ U8s A
def halvesM_r (w h : Int) (n : Nat) (A : Nat → Int) : AV := .tup [.sl (ifn (picE w h n) (lv w h + 1)) 3 (pyr w h A), .int .i64 (picE w h n)]
def halvesM_m : MCon Try.prog := ⟨20, fun args own => match args with | [.agg [.int .i64 w, .int .i64 h, .os k_ 1 0 n]] => (match own k_ with | .nums .u8 n_ A => .ok [k_] ([.agg [.int .i64 w, .int .i64 h, .os 0 1 0 n]]) [.nums .u8 n A] (some (n_ = n ∧ halvesM_p w h n A)) (halvesM_r w h n A) [.nums .u8 n A] | _ => .no) | _ => .no, by
  intro args own ks cargs rows p r rows2 h hp
  split at h
  · split at h
    · cases h; exact halvesM_a _ _ _ _ hp.2
    · cases h
  · cases h⟩
theorem halves0_f : FnOk Try.prog 20 Try.f20 := ⟨Try.func20, by kernel_rfl⟩
theorem halves0_a (w h : Int) (n : Nat) (A : Nat → Int) (hpre : (n ≤ 1000000 ∧ U8s A) ∧ picE w h n = 0 ∧ lv w h = 0) : MCalls Try.prog 20 ([.agg [.int .i64 w, .int .i64 h, .os 0 1 0 n]]) [.nums .u8 n A] (.tup [.sl 1 3 (pyr w h A), .int .i64 0]) [.nums .u8 n A] := by
  have := halvesM_a w h n A hpre.1
  rw [hpre.2.1, ifn0 rfl, hpre.2.2] at this
  exact this
def halves0_p (w h : Int) (n : Nat) (A : Nat → Int) : Prop := (n ≤ 1000000 ∧ U8s A) ∧ picE w h n = 0 ∧ lv w h = 0
def halves0_r (w h : Int) (n : Nat) (A : Nat → Int) : AV := .tup [.sl 1 3 (pyr w h A), .int .i64 0]
def halves0_m : MCon Try.prog := ⟨20, fun args own => match args with | [.agg [.int .i64 w, .int .i64 h, .os k_ 1 0 n]] => (match own k_ with | .nums .u8 n_ A => .ok [k_] ([.agg [.int .i64 w, .int .i64 h, .os 0 1 0 n]]) [.nums .u8 n A] (some (n_ = n ∧ halves0_p w h n A)) (halves0_r w h n A) [.nums .u8 n A] | _ => .no) | _ => .no, by
  intro args own ks cargs rows p r rows2 h hp
  split at h
  · split at h
    · cases h; exact halves0_a _ _ _ _ hp.2
    · cases h
  · cases h⟩
theorem halves1_f : FnOk Try.prog 20 Try.f20 := ⟨Try.func20, by kernel_rfl⟩
theorem halves1_a (w h : Int) (n : Nat) (A : Nat → Int) (hpre : (n ≤ 1000000 ∧ U8s A) ∧ picE w h n = 0 ∧ lv w h = 1) : MCalls Try.prog 20 ([.agg [.int .i64 w, .int .i64 h, .os 0 1 0 n]]) [.nums .u8 n A] (.tup [.sl 2 3 (pyr w h A), .int .i64 0]) [.nums .u8 n A] := by
  have := halvesM_a w h n A hpre.1
  rw [hpre.2.1, ifn0 rfl, hpre.2.2] at this
  exact this
def halves1_p (w h : Int) (n : Nat) (A : Nat → Int) : Prop := (n ≤ 1000000 ∧ U8s A) ∧ picE w h n = 0 ∧ lv w h = 1
def halves1_r (w h : Int) (n : Nat) (A : Nat → Int) : AV := .tup [.sl 2 3 (pyr w h A), .int .i64 0]
def halves1_m : MCon Try.prog := ⟨20, fun args own => match args with | [.agg [.int .i64 w, .int .i64 h, .os k_ 1 0 n]] => (match own k_ with | .nums .u8 n_ A => .ok [k_] ([.agg [.int .i64 w, .int .i64 h, .os 0 1 0 n]]) [.nums .u8 n A] (some (n_ = n ∧ halves1_p w h n A)) (halves1_r w h n A) [.nums .u8 n A] | _ => .no) | _ => .no, by
  intro args own ks cargs rows p r rows2 h hp
  split at h
  · split at h
    · cases h; exact halves1_a _ _ _ _ hp.2
    · cases h
  · cases h⟩
theorem halves2_f : FnOk Try.prog 20 Try.f20 := ⟨Try.func20, by kernel_rfl⟩
theorem halves2_a (w h : Int) (n : Nat) (A : Nat → Int) (hpre : (n ≤ 1000000 ∧ U8s A) ∧ picE w h n = 0 ∧ lv w h = 2) : MCalls Try.prog 20 ([.agg [.int .i64 w, .int .i64 h, .os 0 1 0 n]]) [.nums .u8 n A] (.tup [.sl 3 3 (pyr w h A), .int .i64 0]) [.nums .u8 n A] := by
  have := halvesM_a w h n A hpre.1
  rw [hpre.2.1, ifn0 rfl, hpre.2.2] at this
  exact this
def halves2_p (w h : Int) (n : Nat) (A : Nat → Int) : Prop := (n ≤ 1000000 ∧ U8s A) ∧ picE w h n = 0 ∧ lv w h = 2
def halves2_r (w h : Int) (n : Nat) (A : Nat → Int) : AV := .tup [.sl 3 3 (pyr w h A), .int .i64 0]
def halves2_m : MCon Try.prog := ⟨20, fun args own => match args with | [.agg [.int .i64 w, .int .i64 h, .os k_ 1 0 n]] => (match own k_ with | .nums .u8 n_ A => .ok [k_] ([.agg [.int .i64 w, .int .i64 h, .os 0 1 0 n]]) [.nums .u8 n A] (some (n_ = n ∧ halves2_p w h n A)) (halves2_r w h n A) [.nums .u8 n A] | _ => .no) | _ => .no, by
  intro args own ks cargs rows p r rows2 h hp
  split at h
  · split at h
    · cases h; exact halves2_a _ _ _ _ hp.2
    · cases h
  · cases h⟩
theorem halves3_f : FnOk Try.prog 20 Try.f20 := ⟨Try.func20, by kernel_rfl⟩
theorem halves3_a (w h : Int) (n : Nat) (A : Nat → Int) (hpre : (n ≤ 1000000 ∧ U8s A) ∧ picE w h n = 0 ∧ lv w h = 3) : MCalls Try.prog 20 ([.agg [.int .i64 w, .int .i64 h, .os 0 1 0 n]]) [.nums .u8 n A] (.tup [.sl 4 3 (pyr w h A), .int .i64 0]) [.nums .u8 n A] := by
  have := halvesM_a w h n A hpre.1
  rw [hpre.2.1, ifn0 rfl, hpre.2.2] at this
  exact this
def halves3_p (w h : Int) (n : Nat) (A : Nat → Int) : Prop := (n ≤ 1000000 ∧ U8s A) ∧ picE w h n = 0 ∧ lv w h = 3
def halves3_r (w h : Int) (n : Nat) (A : Nat → Int) : AV := .tup [.sl 4 3 (pyr w h A), .int .i64 0]
def halves3_m : MCon Try.prog := ⟨20, fun args own => match args with | [.agg [.int .i64 w, .int .i64 h, .os k_ 1 0 n]] => (match own k_ with | .nums .u8 n_ A => .ok [k_] ([.agg [.int .i64 w, .int .i64 h, .os 0 1 0 n]]) [.nums .u8 n A] (some (n_ = n ∧ halves3_p w h n A)) (halves3_r w h n A) [.nums .u8 n A] | _ => .no) | _ => .no, by
  intro args own ks cargs rows p r rows2 h hp
  split at h
  · split at h
    · cases h; exact halves3_a _ _ _ _ hp.2
    · cases h
  · cases h⟩
end Go.Proofs.Ytlcdaoljfclliaa
