/- A picture, half of it, half of that; the law of skins. -/
import Derived.Test.YtlcdaoljfclliaaSkinE
namespace Go.Proofs.Ytlcdaoljfclliaa
open Go.RowKit Ev
set_option linter.unusedVariables false
set_option linter.unusedSimpArgs false
set_option maxRecDepth 20000
set_option maxHeartbeats 4000000

def dimN (w : Int) : Nat → Int
  | 0 => w
  | i + 1 => (dimN w i + 1) / 2
def pyA (w h : Int) (A : Nat → Int) : Nat → Nat → Int
  | 0 => A
  | i + 1 => halfV (dimN w i) (dimN h i) (pyA w h A i)
def pyN (w h : Int) (i : Nat) : Nat := 4 * ((dimN w i).toNat * (dimN h i).toNat)
def pyr (w h : Int) (A : Nat → Int) (j : Nat) : AV := match j % 3 with | 0 => .int .i64 (dimN w (j / 3)) | 1 => .int .i64 (dimN h (j / 3)) | _ => ints .u8 (pyN w h (j / 3)) (pyA w h A (j / 3))
def lvF (w h : Int) : Nat → Nat
  | 0 => 0
  | m + 1 => lvF w h m + if dimN w m ≤ 1 ∧ dimN h m ≤ 1 then 0 else 1
@[irreducible] def lv (w h : Int) : Nat := lvF w h 6
/-- None of the first is done. -/
@[irreducible] def und (w h : Int) (i : Nat) : Prop := ∀ j, j < i → ¬ (dimN w j ≤ 1 ∧ dimN h j ≤ 1)
theorem und_0 (w h : Int) : und w h 0 := by unfold und; intro j hj; omega
theorem und_s {w h : Int} {i : Nat} (hu : und w h i) (hb : ¬ (dimN w i ≤ 1 ∧ dimN h i ≤ 1)) : und w h (i + 1) := by
  unfold und at *
  intro j hj
  rcases Nat.lt_or_eq_of_le (Nat.le_of_lt_succ hj) with h' | h'
  · exact hu j h'
  · subst h'; exact hb
theorem dim_bd {w : Int} (hw : 1 ≤ w ∧ w ≤ 64) : ∀ i, 1 ≤ dimN w i ∧ dimN w i ≤ 64
  | 0 => hw
  | i + 1 => by have := dim_bd hw i; show 1 ≤ (dimN w i + 1) / 2 ∧ (dimN w i + 1) / 2 ≤ 64; omega
theorem dim_6 {w : Int} (hw : 1 ≤ w ∧ w ≤ 64) : dimN w 6 ≤ 1 := by
  simp only [dimN]
  omega
theorem dim_one {w : Int} {i : Nat} (h : dimN w i = 1) : ∀ k, dimN w (i + k) = 1
  | 0 => h
  | k + 1 => by show (dimN w (i + k) + 1) / 2 = 1; rw [dim_one h k]; rfl
theorem lvF_und {w h : Int} {i : Nat} (hu : und w h i) : ∀ m, m ≤ i → lvF w h m = m
  | 0, _ => rfl
  | m + 1, hm => by
    unfold und at hu
    show lvF w h m + _ = _
    rw [lvF_und (by unfold und; exact hu) m (by omega), if_neg (hu m (by omega))]
theorem lvF_done {w h : Int} (hs : Side w h) {i : Nat} (hu : und w h i) (hd : dimN w i ≤ 1 ∧ dimN h i ≤ 1) : ∀ k, lvF w h (i + k) = i
  | 0 => lvF_und hu i (Nat.le_refl _)
  | k + 1 => by
    have bw := dim_bd ⟨hs.1, hs.2.1⟩ i
    have bh := dim_bd ⟨hs.2.2.1, hs.2.2.2⟩ i
    have e : lvF w h (i + (k + 1)) = lvF w h (i + k) + if dimN w (i + k) ≤ 1 ∧ dimN h (i + k) ≤ 1 then 0 else 1 := rfl
    rw [e, lvF_done hs hu hd k, dim_one (show dimN w i = 1 by omega) k, dim_one (show dimN h i = 1 by omega) k]
    rfl
theorem lv_done {w h : Int} (hs : Side w h) {i : Nat} (hi : i ≤ 6) (hu : und w h i) (hd : dimN w i ≤ 1 ∧ dimN h i ≤ 1) : lv w h = i := by
  unfold lv
  have := lvF_done hs hu hd (6 - i)
  rwa [show i + (6 - i) = 6 by omega] at this
theorem pic_lv {w h : Int} (hs : Side w h) (i : Nat) : picE (dimN w i) (dimN h i) (pyN w h i) = 0 := by
  have bw := dim_bd ⟨hs.1, hs.2.1⟩ i
  have bh := dim_bd ⟨hs.2.2.1, hs.2.2.2⟩ i
  refine picE0 ⟨bw.1, bw.2, bh.1, bh.2⟩ ?_
  unfold pyN
  rw [Int.natCast_mul, Int.natCast_mul, Int.toNat_of_nonneg (by omega), Int.toNat_of_nonneg (by omega)]
  rfl
theorem py_n {w h : Int} {n : Nat} (h0 : picE w h n = 0) : pyN w h 0 = n := by
  obtain ⟨hs, hn⟩ := picE_ok h0
  have a := (picE_ok (pic_lv hs 0)).2
  have b : ((pyN w h 0 : Nat) : Int) = 4 * (w * h) := a
  omega
theorem halfV_u8 (w h : Int) (A : Nat → Int) : U8s (halfV w h A) := fun j => by
  unfold halfV halfB
  rw [u8w]
  omega
theorem pyA_u8 (w h : Int) {A : Nat → Int} (hA : U8s A) : ∀ i, U8s (pyA w h A i)
  | 0 => hA
  | i + 1 => halfV_u8 _ _ _
theorem pyr_step {w h : Int} {A : Nat → Int} {k j : Nat} (hj : j < 3 * (k + 1)) : pyr w h A j = catA (k * 3) (pyr w h A) (fun j => [AV.int .i64 (dimN w k), AV.int .i64 (dimN h k), ints .u8 (pyN w h k) (pyA w h A k)].getD j .any) j := by
  unfold catA
  split
  · rfl
  · have : ∃ c, c < 3 ∧ j = 3 * k + c := ⟨j - 3 * k, by omega, by omega⟩
    obtain ⟨c, hc, rfl⟩ := this
    have : c = 0 ∨ c = 1 ∨ c = 2 := by omega
    unfold pyr
    show _ = [AV.int .i64 (dimN w k), AV.int .i64 (dimN h k), ints .u8 (pyN w h k) (pyA w h A k)].getD (3 * k + c - k * 3) .any
    rw [show (3 * k + c) / 3 = k by omega, show (3 * k + c) % 3 = c by omega, show 3 * k + c - k * 3 = c by omega]
    rcases this with rfl | rfl | rfl <;> rfl
theorem pyr_0 {w h : Int} {A : Nat → Int} {n j : Nat} (hn : pyN w h 0 = n) (hj : j < 3) : pyr w h A j = [AV.int .i64 w, AV.int .i64 h, ints .u8 n A].getD j .any := by
  subst hn
  have : j = 0 ∨ j = 1 ∨ j = 2 := by omega
  rcases this with rfl | rfl | rfl <;> rfl
theorem cloneP_f : FnOk Try.prog 37 Try.f37 := ⟨Try.func37, by kernel_rfl⟩
theorem cloneP_a (n : Nat) (A : Nat → Int) (hpre : 0 < n ∧ n ≤ 1000000) : ACalls Try.prog 37 [ints .u8 n A] (ints .u8 n A) := by
  refine acalls_of (inl := hasI (P := Try.prog) [] []) (base [] [] []) 0 cloneP_f (And.intro (by kernel_rfl) ?_)
  repeat' (first | refine And.intro ?_ ?_ | (with_reducible exact ff_elim) | (with_reducible exact tf_elim) | refine num_elim ?_ | intro _ | (with_reducible rfl) | ((with_reducible refine lk_t ?_); exact rfl) | refine tell ?_ | exact True.intro | (refine IsT.of ?_; kernel_rfl))
  all_goals (try refine Tell.mk ?_)
  all_goals first | with_reducible rfl | with_reducible exact isI_mk | with_reducible assumption | (with_reducible refine gb_t ?_; with_reducible assumption) | (with_reducible refine gb_f ?_; with_reducible assumption) | ((with_reducible refine lk_t ?_); rfl) | ((with_reducible refine okF_t ?_); kernel_rfl) | ((with_reducible refine ks_t ?_); rfl) | ((with_reducible refine pk_t ?_); rfl) | skip
  all_goals (try dsimp only at *)
  all_goals (try simp only [decide_eq_true_eq, decide_eq_false_iff_not, Bool.or_eq_true, Bool.or_eq_false_iff, Bool.and_eq_true, Bool.and_eq_false_iff, Bool.not_eq_true', Bool.not_eq_false', bne_iff_ne, ne_eq, beq_iff_eq, bne_eq_false_iff_eq, beq_eq_false_iff_ne, Int.not_lt, Int.not_le, gt_iff_lt, ge_iff_le] at *)
  all_goals (try simp only [mulN1, Nat.add_zero, Nat.zero_add, Nat.mul_one, Int.toNat_natCast, avInt_int, intF_mk] at *)
  all_goals (try simp only [catI_zero] at *)
  all_goals first | with_reducible rfl | with_reducible exact nums_N | omega | ((with_reducible refine by_le 1 rfl ?_); omega) | ((with_reducible refine by_le 8 rfl ?_); omega) | (rw [wrapI (by omega) (by omega)] <;> omega) | skip
def cloneP_r (n : Nat) (A : Nat → Int) : AV := ints .u8 n A
def cloneP_p (n : Nat) (A : Nat → Int) : Prop := 0 < n ∧ n ≤ 1000000
def cloneP_k : Con Try.prog := ⟨37, fun args => match args with | [.sl n 1 g_A] => .ok (some (IsI .u8 g_A ∧ cloneP_p n (intF g_A))) (cloneP_r n (intF g_A)) | _ => .no, by
  intro args p r h hp
  split at h
  · cases h; obtain ⟨h_A, hp⟩ := hp; have e_A := h_A.eq; rw [e_A]; exact cloneP_a _ _ hp
  · cases h⟩
theorem sizeP : (Tab.cx.ti 24).size = 3 := rfl
theorem halves_f : FnOk Try.prog 20 Try.f20 := ⟨Try.func20, by kernel_rfl⟩
theorem halves_a (w h : Int) (n : Nat) (A : Nat → Int) (hpre : U8s A) : ACalls Try.prog 20 [.agg [.int .i64 w, .int .i64 h, ints .u8 n A]] (.tup [.sl (ifn (picE w h n) (lv w h + 1)) 3 (pyr w h A), .int .i64 (picE w h n)]) := by
  refine acalls_len fun hlen => ?_
  simp only [lenV, len1, lenV0, len0, and_true, true_and] at hlen
  refine acalls_of (inl := hasI (P := Try.prog) [] []) (base [mayP_k, cloneP_k, half_k] [] []) 0 halves_f (And.intro (by kernel_rfl) ?_)
  repeat' (first | refine And.intro ?_ ?_ | (with_reducible exact ff_elim) | (with_reducible exact tf_elim) | refine num_elim ?_ | intro _ | (with_reducible rfl) | ((with_reducible refine lk_t ?_); exact rfl) | refine tell ?_ | exact True.intro | (refine IsT.of ?_; kernel_rfl))
  all_goals (try (refine loop_keep [1] [] ?_; refine LoopI.mk ({i : Nat // i ≤ 6 ∧ und w h i}) (fun i => [(5, .os 3 3 0 (i.1 + 1))]) (fun i => [(0, .row [.int .i64 (dimN w i.1), .int .i64 (dimN h i.1), ints .u8 (pyN w h i.1) (pyA w h A i.1)]), (3, .arr (3 * (i.1 + 1)) (pyr w h A))]) (fun i => 6 - i.1) (⟨0, Nat.zero_le _, und_0 w h⟩) (wk_mk [some 0, some 14] ?_) (fun ⟨i, hi, hu⟩ => ?_)))
  repeat' (first | refine And.intro ?_ ?_ | (with_reducible exact ff_elim) | (with_reducible exact tf_elim) | refine' stp_mk [some 0, some _] (⟨i + 1, ?_, ?_⟩) ?_ ?_ | refine num_elim ?_ | intro _ | (with_reducible rfl) | ((with_reducible refine lk_t ?_); exact rfl) | refine tell ?_ | exact True.intro | (refine IsT.of ?_; kernel_rfl))
  all_goals (try refine Tell.mk ?_)
  all_goals first | with_reducible rfl | with_reducible exact isI_mk | with_reducible assumption | (with_reducible refine gb_t ?_; with_reducible assumption) | (with_reducible refine gb_f ?_; with_reducible assumption) | ((with_reducible refine lk_t ?_); rfl) | ((with_reducible refine okF_t ?_); kernel_rfl) | ((with_reducible refine ks_t ?_); rfl) | ((with_reducible refine pk_t ?_); rfl) | skip
  all_goals (try dsimp only at *)
  all_goals (try simp only [decide_eq_true_eq, decide_eq_false_iff_not, Bool.or_eq_true, Bool.or_eq_false_iff, Bool.and_eq_true, Bool.and_eq_false_iff, Bool.not_eq_true', Bool.not_eq_false', bne_iff_ne, ne_eq, beq_iff_eq, bne_eq_false_iff_eq, beq_eq_false_iff_ne, Int.not_lt, Int.not_le, gt_iff_lt, ge_iff_le] at *)
  all_goals (try simp only [mulN1, Nat.add_zero, Nat.zero_add, Nat.mul_one, Int.toNat_natCast, avInt_int, intF_mk] at *)
  all_goals first | with_reducible rfl | with_reducible exact nums_N | omega | ((with_reducible refine by_le 1 rfl ?_); omega) | ((with_reducible refine by_le 8 rfl ?_); omega) | (rw [wrapI (by omega) (by omega)] <;> omega) | skip
  all_goals first | exact ifn1 (by with_reducible assumption) | skip
  all_goals (have h0 : picE w h n = 0 := by with_reducible assumption)
  all_goals (obtain ⟨hs, hn⟩ := picE_ok h0; have hw := hs.wh; have hp := py_n h0)
  all_goals first | omega | exact (pyA_u8 w h hpre _ _).1 | exact (pyA_u8 w h hpre _ _).2 | (rw [sizeP]; omega) | (with_reducible refine by_le 40 rfl ?_; omega) | exact pyr_0 hp (by omega) | exact Nat.le_refl 3 | (rw [ifn0 h0, lv_done hs hi hu (by with_reducible assumption)]; done) | skip
  all_goals first | exact rfl | skip
  all_goals (try simp only [pic_lv hs i, ifz0 rfl, ifn0 rfl, sizeP])
  all_goals first | exact rfl | exact pyr_step (by with_reducible assumption) | exact und_s hu (by omega) | skip
  all_goals (have hi6 : i ≠ 6 := by (rintro rfl; have d1 := dim_6 ⟨hs.1, hs.2.1⟩; have d2 := dim_6 ⟨hs.2.2.1, hs.2.2.2⟩; omega))
  all_goals first | omega
def halves_r (w h : Int) (n : Nat) (A : Nat → Int) : AV := .tup [.sl (ifn (picE w h n) (lv w h + 1)) 3 (pyr w h A), .int .i64 (picE w h n)]
def halves_p (w h : Int) (n : Nat) (A : Nat → Int) : Prop := U8s A
def halves_k : Con Try.prog := ⟨20, fun args => match args with | [.agg [.int .i64 w, .int .i64 h, .sl n 1 g_A]] => .ok (some (IsI .u8 g_A ∧ halves_p w h n (intF g_A))) (halves_r w h n (intF g_A)) | _ => .no, by
  intro args p r h hp
  split at h
  · cases h; obtain ⟨h_A, hp⟩ := hp; have e_A := h_A.eq; rw [e_A]; exact halves_a _ _ _ _ hp
  · cases h⟩
end Go.Proofs.Ytlcdaoljfclliaa
