/- The law of skins. -/
import Derived.Test.YtlcdaoljfclliaaSkinF
namespace Go.Proofs.Ytlcdaoljfclliaa
open Go.RowKit Ev
set_option linter.unusedVariables false
set_option linter.unusedSimpArgs false
set_option maxRecDepth 20000
set_option maxHeartbeats 4000000

theorem heavyP_f : FnOk Try.prog 10 Try.f10 := ⟨Try.func10, by kernel_rfl⟩
theorem heavyP_a (w h : Int) (n : Nat) (A : Nat → Int) : ACalls Try.prog 10 [.agg [.int .i64 w, .int .i64 h, ints .u8 n A]] (.bool (decide ((n : Int) > 1600))) := by
  refine acalls_of (inl := hasI (P := Try.prog) [] []) (base [] [] []) 0 heavyP_f (And.intro (by kernel_rfl) ?_)
  repeat' (first | refine And.intro ?_ ?_ | (with_reducible exact ff_elim) | (with_reducible exact tf_elim) | refine num_elim ?_ | intro _ | (with_reducible rfl) | ((with_reducible refine lk_t ?_); exact rfl) | refine tell ?_ | exact True.intro | (refine IsT.of ?_; kernel_rfl))
  all_goals (try refine Tell.mk ?_)
  all_goals first | with_reducible rfl | with_reducible exact isI_mk | with_reducible assumption | (with_reducible refine gb_t ?_; with_reducible assumption) | (with_reducible refine gb_f ?_; with_reducible assumption) | ((with_reducible refine lk_t ?_); rfl) | ((with_reducible refine okF_t ?_); kernel_rfl) | ((with_reducible refine ks_t ?_); rfl) | ((with_reducible refine pk_t ?_); rfl) | skip
  all_goals (try dsimp only at *)
  all_goals (try simp only [decide_eq_true_eq, decide_eq_false_iff_not] at *)
  all_goals (try simp only [mulN1, Nat.add_zero, Nat.zero_add, Nat.mul_one, Int.toNat_natCast, avInt_int, intF_mk] at *)
  all_goals first | with_reducible rfl | with_reducible exact nums_N | omega | ((with_reducible refine by_le 1 rfl ?_); omega) | ((with_reducible refine by_le 8 rfl ?_); omega) | (rw [wrapI (by omega) (by omega)] <;> omega) | skip
def heavyP_r (w h : Int) (n : Nat) (A : Nat → Int) : AV := .bool (decide ((n : Int) > 1600))
def heavyP_k : Con Try.prog := ⟨10, fun args => match args with | [.agg [.int .i64 w, .int .i64 h, .sl n 1 g_A]] => .ok (some (IsI .u8 g_A)) (heavyP_r w h n (intF g_A)) | _ => .no, by
  intro args p r h hp
  split at h
  · cases h; have h_A := hp; have e_A := h_A.eq; rw [e_A]; exact heavyP_a _ _ _ _
  · cases h⟩
def samePV (w h : Int) (n : Nat) (A : Nat → Int) (w' h' : Int) (m : Nat) (B : Nat → Int) : Bool := w == w' && h == h' && ((strI n A).toList == (strI m B).toList)
theorem samePV_refl (w h : Int) (n : Nat) (A : Nat → Int) : samePV w h n A w h n A = true := by unfold samePV; simp
theorem samePic_f : FnOk Try.prog 19 Try.f19 := ⟨Try.func19, by kernel_rfl⟩
theorem samePic_a (w h : Int) (n : Nat) (A : Nat → Int) (w' h' : Int) (m : Nat) (B : Nat → Int) : ACalls Try.prog 19 [.agg [.int .i64 w, .int .i64 h, ints .u8 n A], .agg [.int .i64 w', .int .i64 h', ints .u8 m B]] (.bool (samePV w h n A w' h' m B)) := by
  refine acalls_of (inl := hasI (P := Try.prog) [] []) (base [] [] []) 0 samePic_f (And.intro (by kernel_rfl) ?_)
  repeat' (first | refine And.intro ?_ ?_ | (with_reducible exact ff_elim) | (with_reducible exact tf_elim) | refine num_elim ?_ | intro _ | (with_reducible rfl) | ((with_reducible refine lk_t ?_); exact rfl) | refine tell ?_ | exact True.intro | (refine IsT.of ?_; kernel_rfl))
  all_goals (try refine Tell.mk ?_)
  all_goals first | with_reducible rfl | with_reducible exact isI_mk | with_reducible assumption | (with_reducible refine gb_t ?_; with_reducible assumption) | (with_reducible refine gb_f ?_; with_reducible assumption) | ((with_reducible refine lk_t ?_); rfl) | ((with_reducible refine okF_t ?_); kernel_rfl) | ((with_reducible refine ks_t ?_); rfl) | ((with_reducible refine pk_t ?_); rfl) | skip
  all_goals (try dsimp only at *)
  all_goals (try simp only [decide_eq_true_eq, decide_eq_false_iff_not] at *)
  all_goals (try simp only [mulN1, Nat.add_zero, Nat.zero_add, Nat.mul_one, Int.toNat_natCast, avInt_int, intF_mk] at *)
  all_goals first | with_reducible rfl | with_reducible exact nums_N | omega | ((with_reducible refine by_le 1 rfl ?_); omega) | ((with_reducible refine by_le 8 rfl ?_); omega) | (rw [wrapI (by omega) (by omega)] <;> omega) | skip
  all_goals rfl
def samePic_r (w h : Int) (n : Nat) (A : Nat → Int) (w' h' : Int) (m : Nat) (B : Nat → Int) : AV := .bool (samePV w h n A w' h' m B)
def samePic_k : Con Try.prog := ⟨19, fun args => match args with | [.agg [.int .i64 w, .int .i64 h, .sl n 1 g_A], .agg [.int .i64 w', .int .i64 h', .sl m 1 g_B]] => .ok (some (IsI .u8 g_A ∧ IsI .u8 g_B)) (samePic_r w h n (intF g_A) w' h' m (intF g_B)) | _ => .no, by
  intro args p r h hp
  split at h
  · cases h; obtain ⟨h_A, h_B⟩ := hp; have e_A := h_A.eq; have e_B := h_B.eq; rw [e_A, e_B]; exact samePic_a _ _ _ _ _ _ _ _
  · cases h⟩
theorem halfG_f : FnOk Try.prog 17 Try.f17 := ⟨Try.func17, by kernel_rfl⟩
theorem halfG_a (w h : Int) (n : Nat) (A : Nat → Int) (hpre : picE w h n = 0 ∧ U8s A) : ACalls Try.prog 17 [.agg [.int .i64 w, .int .i64 h, ints .u8 n A]] (.tup [.agg [.int .i64 ((w + 1) / 2), .int .i64 ((h + 1) / 2), ints .u8 (4 * (((w + 1) / 2).toNat * ((h + 1) / 2).toNat)) (halfV w h A)], .int .i64 0]) := by
  have := half_a w h n A hpre.2
  rw [hpre.1, ifz0 rfl, ifz0 rfl, ifn0 rfl] at this
  exact this
def halfG_r (w h : Int) (n : Nat) (A : Nat → Int) : AV := .tup [.agg [.int .i64 ((w + 1) / 2), .int .i64 ((h + 1) / 2), ints .u8 (4 * (((w + 1) / 2).toNat * ((h + 1) / 2).toNat)) (halfV w h A)], .int .i64 0]
def halfG_p (w h : Int) (n : Nat) (A : Nat → Int) : Prop := picE w h n = 0 ∧ U8s A
def halfG_k : Con Try.prog := ⟨17, fun args => match args with | [.agg [.int .i64 w, .int .i64 h, .sl n 1 g_A]] => .ok (some (IsI .u8 g_A ∧ halfG_p w h n (intF g_A))) (halfG_r w h n (intF g_A)) | _ => .no, by
  intro args p r h hp
  split at h
  · cases h; obtain ⟨h_A, hp⟩ := hp; have e_A := h_A.eq; rw [e_A]; exact halfG_a _ _ _ _ hp
  · cases h⟩
theorem halfRG_f : FnOk Try.prog 18 Try.f18 := ⟨Try.func18, by kernel_rfl⟩
theorem halfRG_a (w h : Int) (n : Nat) (A : Nat → Int) (hpre : picE w h n = 0 ∧ U8s A) : ACalls Try.prog 18 [.agg [.int .i64 w, .int .i64 h, ints .u8 n A]] (.tup [.agg [.int .i64 ((w + 1) / 2), .int .i64 ((h + 1) / 2), ints .u8 (4 * (((w + 1) / 2).toNat * ((h + 1) / 2).toNat)) (halfV w h A)], .int .i64 0]) := by
  have := halfR_a w h n A hpre.2
  rw [hpre.1, ifz0 rfl, ifz0 rfl, ifn0 rfl] at this
  exact this
def halfRG_r (w h : Int) (n : Nat) (A : Nat → Int) : AV := .tup [.agg [.int .i64 ((w + 1) / 2), .int .i64 ((h + 1) / 2), ints .u8 (4 * (((w + 1) / 2).toNat * ((h + 1) / 2).toNat)) (halfV w h A)], .int .i64 0]
def halfRG_p (w h : Int) (n : Nat) (A : Nat → Int) : Prop := picE w h n = 0 ∧ U8s A
def halfRG_k : Con Try.prog := ⟨18, fun args => match args with | [.agg [.int .i64 w, .int .i64 h, .sl n 1 g_A]] => .ok (some (IsI .u8 g_A ∧ halfRG_p w h n (intF g_A))) (halfRG_r w h n (intF g_A)) | _ => .no, by
  intro args p r h hp
  split at h
  · cases h; obtain ⟨h_A, hp⟩ := hp; have e_A := h_A.eq; rw [e_A]; exact halfRG_a _ _ _ _ hp
  · cases h⟩
theorem str_at {E : Int} (hE : E = 0) (P : Nat → Int) : strI (lenN none 0 ((4 : Nat) : Int)) (fun j => avInt ([AV.int .u8 (ifz E (P 0)), AV.int .u8 (ifz E (P 1)), AV.int .u8 (ifz E (P 2)), AV.int .u8 (ifz E (P 3))].getD (offA none 0 (Tab.cx.ti 5).size 0 + j) AV.any)) = strI (ifn E 4) (fun j => P j) := by
  rw [ifz0 hE, ifz0 hE, ifz0 hE, ifz0 hE, ifn0 hE]
  rfl
theorem lv_cases (w h : Int) : ∃ b0 b1 b2 b3 b4 b5 : Nat, lv w h = b0 + b1 + b2 + b3 + b4 + b5 ∧ ((dimN w 0 ≤ 1 ∧ dimN h 0 ≤ 1 ∧ b0 = 0) ∨ ((1 < dimN w 0 ∨ 1 < dimN h 0) ∧ b0 = 1)) ∧ ((dimN w 1 ≤ 1 ∧ dimN h 1 ≤ 1 ∧ b1 = 0) ∨ ((1 < dimN w 1 ∨ 1 < dimN h 1) ∧ b1 = 1)) ∧ ((dimN w 2 ≤ 1 ∧ dimN h 2 ≤ 1 ∧ b2 = 0) ∨ ((1 < dimN w 2 ∨ 1 < dimN h 2) ∧ b2 = 1)) ∧
    ((dimN w 3 ≤ 1 ∧ dimN h 3 ≤ 1 ∧ b3 = 0) ∨ ((1 < dimN w 3 ∨ 1 < dimN h 3) ∧ b3 = 1)) ∧ ((dimN w 4 ≤ 1 ∧ dimN h 4 ≤ 1 ∧ b4 = 0) ∨ ((1 < dimN w 4 ∨ 1 < dimN h 4) ∧ b4 = 1)) ∧ ((dimN w 5 ≤ 1 ∧ dimN h 5 ≤ 1 ∧ b5 = 0) ∨ ((1 < dimN w 5 ∨ 1 < dimN h 5) ∧ b5 = 1)) := by
  have key : ∀ m, (dimN w m ≤ 1 ∧ dimN h m ≤ 1 ∧ (if dimN w m ≤ 1 ∧ dimN h m ≤ 1 then 0 else 1 : Nat) = 0) ∨ ((1 < dimN w m ∨ 1 < dimN h m) ∧ (if dimN w m ≤ 1 ∧ dimN h m ≤ 1 then 0 else 1 : Nat) = 1) := fun m => by
    by_cases hh : dimN w m ≤ 1 ∧ dimN h m ≤ 1
    · rw [if_pos hh]; exact .inl ⟨hh.1, hh.2, rfl⟩
    · rw [if_neg hh]; exact .inr ⟨by omega, rfl⟩
  refine ⟨_, _, _, _, _, _, ?_, key 0, key 1, key 2, key 3, key 4, key 5⟩
  unfold lv
  simp only [lvF, Nat.zero_add]
theorem pv_no {w h : Int} {n : Nat} {A : Nat → Int} {w' h' : Int} {m : Nat} {B : Nat → Int} (e : samePV w h n A w' h' m B = false) (e' : samePV w h n A w' h' m B = true) : False := by
  rw [e'] at e; cases e
theorem jx0 : mulN (Int.toNat 0) 3 / 3 = 0 := rfl
theorem jy0 : (mulN (Int.toNat 0) 3 + 1) / 3 = 0 := rfl
theorem jz0 : (mulN (Int.toNat 0) 3 + 2) / 3 = 0 := rfl
theorem jx1 : mulN (Int.toNat 1) 3 / 3 = 1 := rfl
theorem jy1 : (mulN (Int.toNat 1) 3 + 1) / 3 = 1 := rfl
theorem jz1 : (mulN (Int.toNat 1) 3 + 2) / 3 = 1 := rfl
theorem jx2 : mulN (Int.toNat 2) 3 / 3 = 2 := rfl
theorem jy2 : (mulN (Int.toNat 2) 3 + 1) / 3 = 2 := rfl
theorem jz2 : (mulN (Int.toNat 2) 3 + 2) / 3 = 2 := rfl
theorem jx3 : mulN (Int.toNat 3) 3 / 3 = 3 := rfl
theorem jy3 : (mulN (Int.toNat 3) 3 + 1) / 3 = 3 := rfl
theorem jz3 : (mulN (Int.toNat 3) 3 + 2) / 3 = 3 := rfl
theorem jx4 : mulN (Int.toNat 4) 3 / 3 = 4 := rfl
theorem jy4 : (mulN (Int.toNat 4) 3 + 1) / 3 = 4 := rfl
theorem jz4 : (mulN (Int.toNat 4) 3 + 2) / 3 = 4 := rfl
theorem jx5 : mulN (Int.toNat 5) 3 / 3 = 5 := rfl
theorem jy5 : (mulN (Int.toNat 5) 3 + 1) / 3 = 5 := rfl
theorem jz5 : (mulN (Int.toNat 5) 3 + 2) / 3 = 5 := rfl
theorem jx6 : mulN (Int.toNat 6) 3 / 3 = 6 := rfl
theorem jy6 : (mulN (Int.toNat 6) 3 + 1) / 3 = 6 := rfl
theorem jz6 : (mulN (Int.toNat 6) 3 + 2) / 3 = 6 := rfl
theorem jx7 : mulN (Int.toNat 7) 3 / 3 = 7 := rfl
theorem jy7 : (mulN (Int.toNat 7) 3 + 1) / 3 = 7 := rfl
theorem jz7 : (mulN (Int.toNat 7) 3 + 2) / 3 = 7 := rfl
theorem skinSays1_f : FnOk Try.prog 4 Try.f4 := ⟨Try.func4, by kernel_rfl⟩
theorem skinSays1_a (w h : Int) (n : Nat) (A : Nat → Int) (t u v : Int) (hpre : (¬ picE w h n = 0) ∧ U8s A ∧ In64 u ∧ In64 v) : ACalls Try.prog 4 [.agg [.int .i64 w, .int .i64 h, ints .u8 n A], .int .i64 t, .int .i64 u, .int .i64 v] (.bool true) := by
  refine acalls_of (inl := hasI (P := Try.prog) [] []) (base [heavyP_k, atP_k, atR_k, mayP_k, mayPR_k, half_k, halfR_k, halves_k, samePic_k] [] []) 0 skinSays1_f (And.intro (by kernel_rfl) ?_)
  obtain ⟨he, hA, hu, hv⟩ := hpre
  repeat' (first | refine And.intro ?_ ?_ | (with_reducible exact ff_elim) | (with_reducible exact tf_elim) | refine num_elim ?_ | intro _ | (with_reducible rfl) | ((with_reducible refine lk_t ?_); exact rfl) | refine tell ?_ | exact True.intro | (refine IsT.of ?_; kernel_rfl))
  all_goals (try refine Tell.mk ?_)
  all_goals first | with_reducible rfl | with_reducible exact isI_mk | with_reducible assumption | (with_reducible refine gb_t ?_; with_reducible assumption) | (with_reducible refine gb_f ?_; with_reducible assumption) | ((with_reducible refine lk_t ?_); rfl) | ((with_reducible refine okF_t ?_); kernel_rfl) | ((with_reducible refine ks_t ?_); rfl) | ((with_reducible refine pk_t ?_); rfl) | skip
  all_goals (try dsimp only at *)
  all_goals (try simp only [decide_eq_true_eq, decide_eq_false_iff_not, Bool.or_eq_true, Bool.or_eq_false_iff, Bool.and_eq_true, Bool.and_eq_false_iff, Bool.not_eq_true', Bool.not_eq_false', bne_iff_ne, ne_eq, beq_iff_eq, bne_eq_false_iff_eq, beq_eq_false_iff_ne, Int.not_lt, Int.not_le, gt_iff_lt, ge_iff_le] at *)
  all_goals (try simp only [mulN1, Nat.add_zero, Nat.zero_add, Nat.mul_one, Int.toNat_natCast, avInt_int, intF_mk] at *)
  all_goals first | with_reducible rfl | with_reducible exact nums_N | omega | ((with_reducible refine by_le 1 rfl ?_); omega) | ((with_reducible refine by_le 8 rfl ?_); omega) | (rw [wrapI (by omega) (by omega)] <;> omega) | skip
  all_goals first | exact (hA _).1 | exact (hA _).2 | exact (halfV_u8 _ _ _ _).1 | exact (halfV_u8 _ _ _ _).2 | exact Nat.le_refl 4 | exact Nat.le_refl 3 | skip
  all_goals first | (refine ⟨?_, ?_⟩ <;> first | with_reducible assumption | (simp only [bne_self_eq_false, Bool.or_self, gb, Bool.not_false]; done) | (simp only [gb, beq_iff_eq, bne_iff_ne, ne_eq]; with_reducible assumption)) | skip
  all_goals by_cases hE : atE w h n t u v = 0
  all_goals first | (simp only [str_at hE] at *) | (simp only [ifz1 hE] at *) | skip
  all_goals (try simp only [hE, samePV_refl, not_true_eq_false, or_self, or_false, false_or, and_self, true_and, and_true, not_false_eq_true, and_false, false_and, or_true, true_or, Bool.true_eq_false] at *)
  all_goals first | (rw [ifn1 he]; simp; done)
def skinSays1_r (w h : Int) (n : Nat) (A : Nat → Int) (t u v : Int) : AV := .bool true
def skinSays1_p (w h : Int) (n : Nat) (A : Nat → Int) (t u v : Int) : Prop := (¬ picE w h n = 0) ∧ U8s A ∧ In64 u ∧ In64 v
def skinSays1_k : Con Try.prog := ⟨4, fun args => match args with | [.agg [.int .i64 w, .int .i64 h, .sl n 1 g_A], .int .i64 t, .int .i64 u, .int .i64 v] => .ok (some (IsI .u8 g_A ∧ skinSays1_p w h n (intF g_A) t u v)) (skinSays1_r w h n (intF g_A) t u v) | _ => .no, by
  intro args p r h hp
  split at h
  · cases h; obtain ⟨h_A, hp⟩ := hp; have e_A := h_A.eq; rw [e_A]; exact skinSays1_a _ _ _ _ _ _ _ hp
  · cases h⟩
theorem skinSays0_f : FnOk Try.prog 4 Try.f4 := ⟨Try.func4, by kernel_rfl⟩
theorem skinSays0_a (w h : Int) (n : Nat) (A : Nat → Int) (t u v : Int) (hpre : picE w h n = 0 ∧ U8s A ∧ In64 u ∧ In64 v) : ACalls Try.prog 4 [.agg [.int .i64 w, .int .i64 h, ints .u8 n A], .int .i64 t, .int .i64 u, .int .i64 v] (.bool true) := by
  refine acalls_of (inl := hasI (P := Try.prog) [] []) (base [heavyP_k, atP_k, atR_k, mayP_k, mayPR_k, halfG_k, halfRG_k, halves_k, samePic_k] [] []) 0 skinSays0_f (And.intro (by kernel_rfl) ?_)
  obtain ⟨he, hA, hu, hv⟩ := hpre
  repeat' (first | refine And.intro ?_ ?_ | refine num_lit 0 (by decide) ?_ | refine num_lit 1 (by decide) ?_ | refine num_lit 2 (by decide) ?_ | refine num_lit 3 (by decide) ?_ | refine num_lit 4 (by decide) ?_ | refine num_lit 5 (by decide) ?_ | refine num_lit 6 (by decide) ?_ | refine num_lit 7 (by decide) ?_ | refine num_lit 8 (by decide) ?_ | refine num_elim ?_ | (with_reducible exact ff_elim) | (with_reducible exact tf_elim) | (intro h; exact absurd h (by decide)) | intro _ | (with_reducible rfl) | refine Or.inl ⟨8, ?_⟩ | refine tell ?_ | exact True.intro | (refine IsT.of ?_; kernel_rfl))
  all_goals (try refine Tell.mk ?_)
  all_goals first | with_reducible rfl | with_reducible exact isI_mk | with_reducible assumption | (with_reducible refine gb_t ?_; with_reducible assumption) | (with_reducible refine gb_f ?_; with_reducible assumption) | ((with_reducible refine lk_t ?_); rfl) | ((with_reducible refine okF_t ?_); kernel_rfl) | ((with_reducible refine ks_t ?_); rfl) | ((with_reducible refine pk_t ?_); rfl) | skip
  all_goals (try dsimp only at *)
  all_goals (try simp only [decide_eq_true_eq, decide_eq_false_iff_not, Bool.or_eq_true, Bool.or_eq_false_iff, Bool.and_eq_true, Bool.and_eq_false_iff, Bool.not_eq_true', Bool.not_eq_false', bne_iff_ne, ne_eq, beq_iff_eq, bne_eq_false_iff_eq, beq_eq_false_iff_ne, Int.not_lt, Int.not_le, gt_iff_lt, ge_iff_le] at *)
  all_goals (try simp only [mulN1, Nat.add_zero, Nat.zero_add, Nat.mul_one, Int.toNat_natCast, avInt_int, intF_mk] at *)
  all_goals first | with_reducible rfl | with_reducible exact nums_N | omega | ((with_reducible refine by_le 1 rfl ?_); omega) | ((with_reducible refine by_le 8 rfl ?_); omega) | (rw [wrapI (by omega) (by omega)] <;> omega) | skip
  all_goals (have hs := (picE_ok he).1; obtain ⟨s1, s2, s3, s4⟩ := hs)
  all_goals first | exact pic_lv (picE_ok he).1 1 | exact pic_lv (picE_ok he).1 2 | exact pic_lv (picE_ok he).1 3 | exact pic_lv (picE_ok he).1 4 | exact pic_lv (picE_ok he).1 5 | exact pic_lv (picE_ok he).1 6 | exact pic_lv (picE_ok he).1 7 | skip
  all_goals first | exact (hA _).1 | exact (hA _).2 | exact (halfV_u8 _ _ _ _).1 | exact (halfV_u8 _ _ _ _).2 | exact Nat.le_refl 4 | exact Nat.le_refl 3 | skip
  all_goals first | (refine ⟨?_, ?_⟩ <;> first | with_reducible assumption | (simp only [bne_self_eq_false, Bool.or_self, gb, Bool.not_false]; done) | (simp only [gb, beq_iff_eq, bne_iff_ne, ne_eq]; with_reducible assumption)) | skip
  all_goals by_cases hE : atE w h n t u v = 0
  all_goals first | (simp only [str_at hE] at *) | (simp only [ifz1 hE] at *) | skip
  all_goals (try simp only [hE, samePV_refl, not_true_eq_false, or_self, or_false, false_or, and_self, true_and, and_true, not_false_eq_true, and_false, false_and, or_true, true_or, Bool.true_eq_false] at *)
  all_goals (obtain ⟨b0, b1, b2, b3, b4, b5, hl, c0, c1, c2, c3, c4, c5⟩ := lv_cases w h)
  all_goals (simp only [dimN] at c0 c1 c2 c3 c4 c5)
  all_goals (try simp only [ifn0 he] at *)
  all_goals first | (refine pv_no (by with_reducible assumption) ?_; simp only [jx0, jy0, jz0, py_n he]; exact samePV_refl w h n A) | (refine pv_no (by with_reducible assumption) ?_; simp only [jx0, jy0, jz0, jx1, jy1, jz1, jx2, jy2, jz2, jx3, jy3, jz3, jx4, jy4, jz4, jx5, jy5, jz5, jx6, jy6, jz6, jx7, jy7, jz7]; simp only [dimN, pyN, pyA]; exact samePV_refl _ _ _ _) | skip
  all_goals first | (exfalso; omega) | (rw [he, show lv w h = 0 by omega]; rfl) | (rw [he, show lv w h = 1 by omega]; rfl) | (rw [he, show lv w h = 2 by omega]; rfl) | (rw [he, show lv w h = 3 by omega]; rfl) | (rw [he, show lv w h = 4 by omega]; rfl) | (rw [he, show lv w h = 5 by omega]; rfl) | (rw [he, show lv w h = 6 by omega]; rfl)
def skinSays0_r (w h : Int) (n : Nat) (A : Nat → Int) (t u v : Int) : AV := .bool true
def skinSays0_p (w h : Int) (n : Nat) (A : Nat → Int) (t u v : Int) : Prop := picE w h n = 0 ∧ U8s A ∧ In64 u ∧ In64 v
def skinSays0_k : Con Try.prog := ⟨4, fun args => match args with | [.agg [.int .i64 w, .int .i64 h, .sl n 1 g_A], .int .i64 t, .int .i64 u, .int .i64 v] => .ok (some (IsI .u8 g_A ∧ skinSays0_p w h n (intF g_A) t u v)) (skinSays0_r w h n (intF g_A) t u v) | _ => .no, by
  intro args p r h hp
  split at h
  · cases h; obtain ⟨h_A, hp⟩ := hp; have e_A := h_A.eq; rw [e_A]; exact skinSays0_a _ _ _ _ _ _ _ hp
  · cases h⟩
theorem skinSays_f : FnOk Try.prog 4 Try.f4 := ⟨Try.func4, by kernel_rfl⟩
theorem skinSays_a (w h : Int) (n : Nat) (A : Nat → Int) (t u v : Int) (hpre : U8s A ∧ In64 u ∧ In64 v) : ACalls Try.prog 4 [.agg [.int .i64 w, .int .i64 h, ints .u8 n A], .int .i64 t, .int .i64 u, .int .i64 v] (.bool true) := by
  by_cases he : picE w h n = 0
  · exact skinSays0_a w h n A t u v ⟨he, hpre⟩
  · exact skinSays1_a w h n A t u v ⟨he, hpre⟩
def skinSays_r (w h : Int) (n : Nat) (A : Nat → Int) (t u v : Int) : AV := .bool true
def skinSays_p (w h : Int) (n : Nat) (A : Nat → Int) (t u v : Int) : Prop := U8s A ∧ In64 u ∧ In64 v
def skinSays_k : Con Try.prog := ⟨4, fun args => match args with | [.agg [.int .i64 w, .int .i64 h, .sl n 1 g_A], .int .i64 t, .int .i64 u, .int .i64 v] => .ok (some (IsI .u8 g_A ∧ skinSays_p w h n (intF g_A) t u v)) (skinSays_r w h n (intF g_A) t u v) | _ => .no, by
  intro args p r h hp
  split at h
  · cases h; obtain ⟨h_A, hp⟩ := hp; have e_A := h_A.eq; rw [e_A]; exact skinSays_a _ _ _ _ _ _ _ hp
  · cases h⟩
end Go.Proofs.Ytlcdaoljfclliaa
