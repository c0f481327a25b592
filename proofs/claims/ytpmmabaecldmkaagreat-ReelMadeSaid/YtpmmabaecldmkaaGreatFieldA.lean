/- Fields: which ones may be. -/
import Derived.Test.YtpmmabaecldmkaaGreatSolidA
import Derived.Test.YtpmmabaecldmkaaGreatEvNum
namespace Go.Proofs.YtpmmabaecldmkaaGreat
open Go.RowKit Ev
set_option linter.unusedVariables false
set_option linter.unusedSimpArgs false
set_option maxRecDepth 20000
set_option maxHeartbeats 4000000

def fX (x d : Nat) (i : Int) : Nat := F .add x (F .mul (cn (FloatKind.f64.nearest i)) d)
def fY (y : Nat) (h : Int) : Nat := F .add y (F .quo (cn (FloatKind.f64.nearest h)) 4652007308841189376)
/-- A grid that may be. -/
structure Grid (w h : Int) (n : Nat) : Prop where
  w2 : 2 ≤ w
  w8 : w ≤ 8
  h2 : 2 ≤ h
  h8 : h ≤ 8
  n : (n : Int) = w * h
theorem grid_at {w h : Int} {n : Nat} (g : Grid w h n) {i k : Int} (hi : 0 ≤ i ∧ i < w) (hk : 0 ≤ k ∧ k < h) : IntKind.i64.wrap (k * w) = k * w ∧ IntKind.i64.wrap (k * w + i) = k * w + i ∧ 0 ≤ k * w + i ∧ k * w + i < n := by
  obtain ⟨a, b, c, d, e⟩ := g
  have h1 : 0 ≤ k * w := Int.mul_nonneg hk.1 (by omega)
  have h2 : k * w ≤ (h - 1) * w := Int.mul_le_mul_of_nonneg_right (by omega) (by omega)
  have h3 : (h - 1) * w = w * h - w := by rw [Int.sub_mul, Int.one_mul, Int.mul_comm h w]
  have h4 : w * h ≤ 8 * 8 := Int.mul_le_mul b d (by omega) (by omega)
  exact ⟨wrapI (by omega) (by omega), wrapI (by omega) (by omega), by omega, by omega⟩
theorem point_f : FnOk Tryz.prog 83 Tryz.f83 := ⟨Tryz.func83, by kernel_rfl⟩
theorem point_a (w h : Int) (x y z d n : Nat) (H : Nat → Int) (s i k : Int) (hpre : Grid w h n ∧ (0 ≤ i ∧ i < w) ∧ (0 ≤ k ∧ k < h)) : ACalls Tryz.prog 83 [.agg [.int .i64 w, .int .i64 h, .flt x, .flt y, .flt z, .flt d, ints .i64 n H, .int .i64 s], .int .i64 i, .int .i64 k] (.agg [.flt (fX x d i), .flt (fY y (H (k * w + i).toNat)), .flt (fX z d k)]) := by
  refine acalls_of (inl := hasI (P := Tryz.prog) [] []) (base [] [] []) 0 point_f (And.intro (by kernel_rfl) ?_)
  repeat' (first | refine And.intro ?_ ?_ | (with_reducible exact ff_elim) | (with_reducible exact tf_elim) | refine num_elim ?_ | intro _ | (with_reducible rfl) | ((with_reducible refine lk_t ?_); exact rfl) | ((with_reducible refine pf_t ?_); exact rfl) | refine tell ?_ | exact True.intro | (refine IsT.of ?_; kernel_rfl))
  all_goals (have hq := grid_at hpre.1 hpre.2.1 hpre.2.2; have q1 := hq.1; have q2 := hq.2.1; have q3 := hq.2.2.1; have q4 := hq.2.2.2)
  all_goals (try refine Tell.mk ?_)
  all_goals first | with_reducible rfl | with_reducible exact isI_mk | with_reducible assumption | (with_reducible refine gb_t ?_; with_reducible assumption) | (with_reducible refine gb_f ?_; with_reducible assumption) | ((with_reducible refine lk_t ?_); rfl) | ((with_reducible refine okF_t ?_); kernel_rfl) | ((with_reducible refine ks_t ?_); rfl) | ((with_reducible refine pk_t ?_); rfl) | ((with_reducible refine pf_t ?_); rfl) | skip
  all_goals (try dsimp only at *)
  all_goals (try simp only [decide_eq_true_eq, decide_eq_false_iff_not, Bool.or_eq_true, Bool.or_eq_false_iff, Bool.and_eq_true, Bool.and_eq_false_iff, Bool.not_eq_true', Bool.not_eq_false', bne_iff_ne, ne_eq, beq_iff_eq, bne_eq_false_iff_eq, beq_eq_false_iff_ne, Int.not_lt, Int.not_le, gt_iff_lt, ge_iff_le] at *)
  all_goals (try simp only [mulN1, Nat.add_zero, Nat.zero_add, Nat.mul_one, Int.toNat_natCast, avInt_int, intF_mk] at *)
  all_goals (try simp only [q1, q2] at *)
  all_goals first | with_reducible rfl | with_reducible exact nums_N | omega | ((with_reducible refine by_le 1 rfl ?_); omega) | ((with_reducible refine by_le 8 rfl ?_); omega) | (rw [wrapI (by omega) (by omega)] <;> omega) | skip
  all_goals first | omega | rfl
def point_r (w h : Int) (x y z d n : Nat) (H : Nat → Int) (s i k : Int) : AV := .agg [.flt (fX x d i), .flt (fY y (H (k * w + i).toNat)), .flt (fX z d k)]
def point_p (w h : Int) (x y z d n : Nat) (H : Nat → Int) (s i k : Int) : Prop := Grid w h n ∧ (0 ≤ i ∧ i < w) ∧ (0 ≤ k ∧ k < h)
def point_k : Con Tryz.prog := ⟨83, fun args => match args with | [.agg [.int .i64 w, .int .i64 h, .flt x, .flt y, .flt z, .flt d, .sl n 1 g_H, .int .i64 s], .int .i64 i, .int .i64 k] => .ok (some (IsI .i64 g_H ∧ point_p w h x y z d n (intF g_H) s i k)) (point_r w h x y z d n (intF g_H) s i k) | _ => .no, by
  intro args p r h hp
  split at h
  · cases h; obtain ⟨h_H, hp⟩ := hp; have e_H := h_H.eq; rw [e_H]; exact point_a _ _ _ _ _ _ _ _ _ _ _ hp
  · cases h⟩
theorem gridP_f : FnOk Tryz.prog 92 Tryz.f92 := ⟨Tryz.func92, by kernel_rfl⟩
theorem gridP_a (w h : Int) (x y z d n : Nat) (H : Nat → Int) (s i k : Int) (hpre : Grid w h n ∧ (0 ≤ i ∧ i < w) ∧ (0 ≤ k ∧ k < h)) : ACalls Tryz.prog 92 [.agg [.int .i64 w, .int .i64 h, .flt x, .flt y, .flt z, .flt d, ints .i64 n H, .int .i64 s], .int .i64 i, .int .i64 k] (.agg [.flt (fX x d i), .flt (fY y (H (k * w + i).toNat)), .flt (fX z d k)]) := by
  refine acalls_of (inl := hasI (P := Tryz.prog) [] []) (base [times_k] [] []) 0 gridP_f (And.intro (by kernel_rfl) ?_)
  repeat' (first | refine And.intro ?_ ?_ | (with_reducible exact ff_elim) | (with_reducible exact tf_elim) | refine num_elim ?_ | intro _ | (with_reducible rfl) | ((with_reducible refine lk_t ?_); exact rfl) | ((with_reducible refine pf_t ?_); exact rfl) | refine tell ?_ | exact True.intro | (refine IsT.of ?_; kernel_rfl))
  all_goals (have hq := grid_at hpre.1 hpre.2.1 hpre.2.2; have q1 := hq.1; have q2 := hq.2.1; have q3 := hq.2.2.1; have q4 := hq.2.2.2)
  all_goals (try refine Tell.mk ?_)
  all_goals first | with_reducible rfl | with_reducible exact isI_mk | with_reducible assumption | (with_reducible refine gb_t ?_; with_reducible assumption) | (with_reducible refine gb_f ?_; with_reducible assumption) | ((with_reducible refine lk_t ?_); rfl) | ((with_reducible refine okF_t ?_); kernel_rfl) | ((with_reducible refine ks_t ?_); rfl) | ((with_reducible refine pk_t ?_); rfl) | ((with_reducible refine pf_t ?_); rfl) | skip
  all_goals (try dsimp only at *)
  all_goals (try simp only [decide_eq_true_eq, decide_eq_false_iff_not, Bool.or_eq_true, Bool.or_eq_false_iff, Bool.and_eq_true, Bool.and_eq_false_iff, Bool.not_eq_true', Bool.not_eq_false', bne_iff_ne, ne_eq, beq_iff_eq, bne_eq_false_iff_eq, beq_eq_false_iff_ne, Int.not_lt, Int.not_le, gt_iff_lt, ge_iff_le] at *)
  all_goals (try simp only [mulN1, Nat.add_zero, Nat.zero_add, Nat.mul_one, Int.toNat_natCast, avInt_int, intF_mk] at *)
  all_goals (try simp only [q1, q2] at *)
  all_goals first | with_reducible rfl | with_reducible exact nums_N | omega | ((with_reducible refine by_le 1 rfl ?_); omega) | ((with_reducible refine by_le 8 rfl ?_); omega) | (rw [wrapI (by omega) (by omega)] <;> omega) | skip
  all_goals first | omega | rfl
def gridP_r (w h : Int) (x y z d n : Nat) (H : Nat → Int) (s i k : Int) : AV := .agg [.flt (fX x d i), .flt (fY y (H (k * w + i).toNat)), .flt (fX z d k)]
def gridP_p (w h : Int) (x y z d n : Nat) (H : Nat → Int) (s i k : Int) : Prop := Grid w h n ∧ (0 ≤ i ∧ i < w) ∧ (0 ≤ k ∧ k < h)
def gridP_k : Con Tryz.prog := ⟨92, fun args => match args with | [.agg [.int .i64 w, .int .i64 h, .flt x, .flt y, .flt z, .flt d, .sl n 1 g_H, .int .i64 s], .int .i64 i, .int .i64 k] => .ok (some (IsI .i64 g_H ∧ gridP_p w h x y z d n (intF g_H) s i k)) (gridP_r w h x y z d n (intF g_H) s i k) | _ => .no, by
  intro args p r h hp
  split at h
  · cases h; obtain ⟨h_H, hp⟩ := hp; have e_H := h_H.eq; rw [e_H]; exact gridP_a _ _ _ _ _ _ _ _ _ _ _ hp
  · cases h⟩
/-- What is gathered point by point. -/
def accF (op : Nat → Nat → Nat) (f0 : Nat) (f : Nat → Nat) : Nat → Nat
  | 0 => f0
  | t + 1 => op (accF op f0 f t) (f t)
theorem accF_0 {op : Nat → Nat → Nat} {f0 : Nat} {f : Nat → Nat} : accF op f0 f 0 = f0 := rfl
theorem accF_s {op : Nat → Nat → Nat} {f0 : Nat} {f : Nat → Nat} {t t' v : Nat} (ht : t' = t + 1) (hv : v = f t) : accF op f0 f t' = op (accF op f0 f t) v := by subst ht hv; rfl
attribute [irreducible] accF
def bX (op : Nat → Nat → Nat) (w x d t : Nat) : Nat := accF op (fX x d 0) (fun t => fX x d (t % w : Nat)) t
def bY (op : Nat → Nat → Nat) (y : Nat) (H : Nat → Int) (t : Nat) : Nat := accF op (fY y (H 0)) (fun t => fY y (H t)) t
def bZ (op : Nat → Nat → Nat) (w z d t : Nat) : Nat := accF op (fX z d 0) (fun t => fX z d (t / w : Nat)) t
def bRow (w x y z d : Nat) (H : Nat → Int) (t : Nat) : List AV := [.flt (bX lessV w x d t), .flt (bY lessV y H t), .flt (bZ lessV w z d t), .flt (bX moreV w x d t), .flt (bY moreV y H t), .flt (bZ moreV w z d t)]
structure UpH (h : Int) where
  v : Nat
  le : (v : Int) ≤ h
structure UpW (w : Int) where
  v : Nat
  le : (v : Int) ≤ w
theorem bX_0 {op : Nat → Nat → Nat} {w x d t : Nat} (h : t = 0) : bX op w x d t = fX x d 0 := by subst h; exact accF_0
theorem bY_0 {op : Nat → Nat → Nat} {y t : Nat} {H : Nat → Int} {j : Nat} (h : t = 0) (hj : j = 0) : bY op y H t = fY y (H j) := by subst h hj; exact accF_0
theorem bZ_0 {op : Nat → Nat → Nat} {w z d t : Nat} (h : t = 0) : bZ op w z d t = fX z d 0 := by subst h; exact accF_0
theorem bX_s {op : Nat → Nat → Nat} {w x d k i : Nat} (hi : i < w) : bX op w x d (k * w + (i + 1)) = op (bX op w x d (k * w + i)) (fX x d (i : Int)) :=
  accF_s rfl (by rw [show (k * w + i) % w = i by rw [Nat.mul_comm, Nat.mul_add_mod]; exact Nat.mod_eq_of_lt hi])
theorem bY_s {op : Nat → Nat → Nat} {w y k i j : Nat} {H : Nat → Int} (hj : j = k * w + i) : bY op y H (k * w + (i + 1)) = op (bY op y H (k * w + i)) (fY y (H j)) :=
  accF_s rfl (by rw [hj])
theorem bZ_s {op : Nat → Nat → Nat} {w z d k i : Nat} (hi : i < w) : bZ op w z d (k * w + (i + 1)) = op (bZ op w z d (k * w + i)) (fX z d (k : Int)) :=
  accF_s rfl (by rw [show (k * w + i) / w = k by rw [Nat.mul_comm, Nat.mul_add_div (by omega), Nat.div_eq_of_lt hi, Nat.add_zero]])
theorem b_end {w k i : Nat} (hi : i = w) : (k + 1) * w = k * w + i := by rw [Nat.add_mul, Nat.one_mul, hi]
theorem b_all {n k W V : Nat} (h : (n : Int) = W * V) (e : k = V) : n = k * W := by
  subst e
  rw [← Int.natCast_mul] at h
  rw [Nat.mul_comm]; omega
theorem fieldBx_f : FnOk Tryz.prog 64 Tryz.f64 := ⟨Tryz.func64, by kernel_rfl⟩
theorem fieldBx_a (w h : Int) (x y z d n : Nat) (H : Nat → Int) (s : Int) (hpre : Grid w h n) : ACalls Tryz.prog 64 [.agg [.int .i64 w, .int .i64 h, .flt x, .flt y, .flt z, .flt d, ints .i64 n H, .int .i64 s]] (.agg (bRow w.toNat x y z d H n)) := by
  refine acalls_of (inl := hasI (P := Tryz.prog) [] []) (base [point_k, join_k] [] []) 0 fieldBx_f (And.intro (by kernel_rfl) ?_)
  repeat' (first | refine And.intro ?_ ?_ | (with_reducible exact ff_elim) | (with_reducible exact tf_elim) | refine num_elim ?_ | intro _ | (with_reducible rfl) | ((with_reducible refine lk_t ?_); exact rfl) | ((with_reducible refine pf_t ?_); exact rfl) | refine tell ?_ | exact True.intro | (refine IsT.of ?_; kernel_rfl))
  all_goals (try (refine loop_keep [1, 2, 3, 13] [0, 1] ?_; refine LoopI.mk (UpH h) (fun k => [(14, .int .i64 k.1)]) (fun k => [(7, .row (bRow w.toNat x y z d H (k.1 * w.toNat)))]) (fun k => h.toNat - k.1) (⟨0, (by have := hpre.h2; omega)⟩) (wk_mk [some 7, some 0, some 1] ?_) (fun ⟨k, hk⟩ => ?_)))
  repeat' (first | refine And.intro ?_ ?_ | (with_reducible exact ff_elim) | (with_reducible exact tf_elim) | refine stp_mk [some 7, some 0, some 1] ((⟨k + 1, ?_⟩ : UpH h)) ?_ ?_ | refine num_elim ?_ | intro _ | (with_reducible rfl) | ((with_reducible refine lk_t ?_); exact rfl) | ((with_reducible refine pf_t ?_); exact rfl) | refine tell ?_ | exact True.intro | (refine IsT.of ?_; kernel_rfl))
  all_goals (try (refine loop_keep [1, 2, 3, 4, 13, 14, 18] [0, 1] ?_; refine LoopI.mk (UpW w) (fun i => [(19, .int .i64 i.1)]) (fun i => [(7, .row (bRow w.toNat x y z d H (k * w.toNat + i.1)))]) (fun i => w.toNat - i.1) (⟨0, (by have := hpre.w2; omega)⟩) (wk_mk [some 7, some 0, some 1] ?_) (fun ⟨i, hi⟩ => ?_)))
  repeat' (first | refine And.intro ?_ ?_ | (with_reducible exact ff_elim) | (with_reducible exact tf_elim) | refine stp_mk [some 7, some 0, some 1] ((⟨i + 1, ?_⟩ : UpW w)) ?_ ?_ | refine stp_mk [some 7, some 0, some 1] (⟨k + 1, ?_⟩ : UpH h) ?_ ?_ | refine num_elim ?_ | intro _ | (with_reducible rfl) | ((with_reducible refine lk_t ?_); exact rfl) | ((with_reducible refine pf_t ?_); exact rfl) | refine tell ?_ | exact True.intro | (refine IsT.of ?_; kernel_rfl))
  all_goals (try refine Tell.mk ?_)
  all_goals first | with_reducible rfl | with_reducible exact isI_mk | with_reducible assumption | (with_reducible refine gb_t ?_; with_reducible assumption) | (with_reducible refine gb_f ?_; with_reducible assumption) | ((with_reducible refine lk_t ?_); rfl) | ((with_reducible refine okF_t ?_); kernel_rfl) | ((with_reducible refine ks_t ?_); rfl) | ((with_reducible refine pk_t ?_); rfl) | ((with_reducible refine pf_t ?_); rfl) | skip
  all_goals (try dsimp only at *)
  all_goals (try simp only [decide_eq_true_eq, decide_eq_false_iff_not, Bool.or_eq_true, Bool.or_eq_false_iff, Bool.and_eq_true, Bool.and_eq_false_iff, Bool.not_eq_true', Bool.not_eq_false', bne_iff_ne, ne_eq, beq_iff_eq, bne_eq_false_iff_eq, beq_eq_false_iff_ne, Int.not_lt, Int.not_le, gt_iff_lt, ge_iff_le] at *)
  all_goals (try simp only [mulN1, Nat.add_zero, Nat.zero_add, Nat.mul_one, Int.toNat_natCast, avInt_int, intF_mk] at *)
  all_goals first | with_reducible rfl | with_reducible exact nums_N | omega | ((with_reducible refine by_le 1 rfl ?_); omega) | ((with_reducible refine by_le 8 rfl ?_); omega) | (rw [wrapI (by omega) (by omega)] <;> omega) | skip
  all_goals (have g := hpre; obtain ⟨W, rfl⟩ : ∃ W : Nat, w = W := ⟨w.toNat, (by have := g.w2; omega)⟩; obtain ⟨V, rfl⟩ : ∃ V : Nat, h = V := ⟨h.toNat, (by have := g.h2; omega)⟩)
  all_goals obtain ⟨g1, g2, g3, g4, g5⟩ := hpre
  all_goals (try simp only [Int.toNat_natCast] at *)
  all_goals first | omega | with_reducible exact bX_0 (Nat.zero_mul _) | with_reducible exact bY_0 (Nat.zero_mul _) (by omega) | with_reducible exact bZ_0 (Nat.zero_mul _) | (rw [wrapI (by omega) (by omega)]; omega) | skip
  all_goals first | with_reducible exact bX_s (by omega) | with_reducible exact bY_s (w := W) (by rw [← Int.natCast_mul, ← Int.natCast_add, Int.toNat_natCast]) | with_reducible exact bZ_s (by omega) | (rw [b_end (show i = W by omega)]; done) | skip
  all_goals (rw [b_all g5 (show k = V by omega)])
def fieldBx_r (w h : Int) (x y z d n : Nat) (H : Nat → Int) (s : Int) : AV := .agg (bRow w.toNat x y z d H n)
def fieldBx_p (w h : Int) (x y z d n : Nat) (H : Nat → Int) (s : Int) : Prop := Grid w h n
def fieldBx_k : Con Tryz.prog := ⟨64, fun args => match args with | [.agg [.int .i64 w, .int .i64 h, .flt x, .flt y, .flt z, .flt d, .sl n 1 g_H, .int .i64 s]] => .ok (some (IsI .i64 g_H ∧ fieldBx_p w h x y z d n (intF g_H) s)) (fieldBx_r w h x y z d n (intF g_H) s) | _ => .no, by
  intro args p r h hp
  split at h
  · cases h; obtain ⟨h_H, hp⟩ := hp; have e_H := h_H.eq; rw [e_H]; exact fieldBx_a _ _ _ _ _ _ _ _ _ hp
  · cases h⟩
structure UpHp (h : Int) where
  v : Nat
  le : (v : Int) ≤ h
  a : Nat
  b : Nat
  c : Nat
structure UpWp (w : Int) where
  v : Nat
  le : (v : Int) ≤ w
  a : Nat
  b : Nat
  c : Nat
theorem fieldBxR_f : FnOk Tryz.prog 74 Tryz.f74 := ⟨Tryz.func74, by kernel_rfl⟩
theorem fieldBxR_a (w h : Int) (x y z d n : Nat) (H : Nat → Int) (s : Int) (hpre : Grid w h n) : ACalls Tryz.prog 74 [.agg [.int .i64 w, .int .i64 h, .flt x, .flt y, .flt z, .flt d, ints .i64 n H, .int .i64 s]] (.agg (bRow w.toNat x y z d H n)) := by
  refine acalls_of (inl := hasI (P := Tryz.prog) [] []) (base [gridP_k, lowR_k, highR_k] [] []) 0 fieldBxR_f (And.intro (by kernel_rfl) ?_)
  repeat' (first | refine And.intro ?_ ?_ | (with_reducible exact ff_elim) | (with_reducible exact tf_elim) | refine num_elim ?_ | intro _ | (with_reducible rfl) | ((with_reducible refine lk_t ?_); exact rfl) | ((with_reducible refine pf_t ?_); exact rfl) | refine tell ?_ | exact True.intro | (refine IsT.of ?_; kernel_rfl))
  all_goals (try (refine loop_keep [1, 2, 3, 4] [0, 1] ?_; refine LoopI.mk (UpHp h) (fun k => [(5, .int .i64 k.1)]) (fun k => [(9, .row (bRow w.toNat x y z d H (k.1 * w.toNat))), (4, .row [.flt k.3, .flt k.4, .flt k.5])]) (fun k => h.toNat - k.1) (⟨0, (by have := hpre.h2; omega), fX x d 0, fY y (H (0 * w + 0).toNat), fX z d 0⟩) (wk_mk [some 9, some 4, some 0, some 1] ?_) (fun ⟨k, hk, p1, p2, p3⟩ => ?_)))
  repeat' (first | refine And.intro ?_ ?_ | (with_reducible exact ff_elim) | (with_reducible exact tf_elim) | refine stp_mk [some 9, some 4, some 0, some 1] ((⟨k + 1, ?_, p1, p2, p3⟩ : UpHp h)) ?_ ?_ | refine num_elim ?_ | intro _ | (with_reducible rfl) | ((with_reducible refine lk_t ?_); exact rfl) | ((with_reducible refine pf_t ?_); exact rfl) | refine tell ?_ | exact True.intro | (refine IsT.of ?_; kernel_rfl))
  all_goals (try (refine loop_keep [1, 2, 3, 4, 5] [0, 1] ?_; refine LoopI.mk (UpWp w) (fun i => [(6, .int .i64 i.1)]) (fun i => [(9, .row (bRow w.toNat x y z d H (k * w.toNat + i.1))), (4, .row [.flt i.3, .flt i.4, .flt i.5])]) (fun i => w.toNat - i.1) (⟨0, (by have := hpre.w2; omega), p1, p2, p3⟩) (wk_mk [some 9, some 4, some 0, some 1] ?_) (fun ⟨i, hi, q1, q2, q3⟩ => ?_)))
  repeat' (first | refine And.intro ?_ ?_ | (with_reducible exact ff_elim) | (with_reducible exact tf_elim) | refine stp_mk [some 9, some 4, some 0, some 1] ((⟨i + 1, ?_, fX x d i, fY y (H ((k : Int) * w + (i : Int)).toNat), fX z d k⟩ : UpWp w)) ?_ ?_ | refine stp_mk [some 9, some 4, some 0, some 1] (⟨k + 1, ?_, q1, q2, q3⟩ : UpHp h) ?_ ?_ | refine num_elim ?_ | intro _ | (with_reducible rfl) | ((with_reducible refine lk_t ?_); exact rfl) | ((with_reducible refine pf_t ?_); exact rfl) | refine tell ?_ | exact True.intro | (refine IsT.of ?_; kernel_rfl))
  all_goals (try refine Tell.mk ?_)
  all_goals first | with_reducible rfl | with_reducible exact isI_mk | with_reducible assumption | (with_reducible refine gb_t ?_; with_reducible assumption) | (with_reducible refine gb_f ?_; with_reducible assumption) | ((with_reducible refine lk_t ?_); rfl) | ((with_reducible refine okF_t ?_); kernel_rfl) | ((with_reducible refine ks_t ?_); rfl) | ((with_reducible refine pk_t ?_); rfl) | ((with_reducible refine pf_t ?_); rfl) | skip
  all_goals (try dsimp only at *)
  all_goals (try simp only [decide_eq_true_eq, decide_eq_false_iff_not, Bool.or_eq_true, Bool.or_eq_false_iff, Bool.and_eq_true, Bool.and_eq_false_iff, Bool.not_eq_true', Bool.not_eq_false', bne_iff_ne, ne_eq, beq_iff_eq, bne_eq_false_iff_eq, beq_eq_false_iff_ne, Int.not_lt, Int.not_le, gt_iff_lt, ge_iff_le] at *)
  all_goals (try simp only [mulN1, Nat.add_zero, Nat.zero_add, Nat.mul_one, Int.toNat_natCast, avInt_int, intF_mk] at *)
  all_goals first | with_reducible rfl | with_reducible exact nums_N | omega | ((with_reducible refine by_le 1 rfl ?_); omega) | ((with_reducible refine by_le 8 rfl ?_); omega) | (rw [wrapI (by omega) (by omega)] <;> omega) | skip
  all_goals (have g := hpre; obtain ⟨W, rfl⟩ : ∃ W : Nat, w = W := ⟨w.toNat, (by have := g.w2; omega)⟩; obtain ⟨V, rfl⟩ : ∃ V : Nat, h = V := ⟨h.toNat, (by have := g.h2; omega)⟩)
  all_goals obtain ⟨g1, g2, g3, g4, g5⟩ := hpre
  all_goals (try simp only [Int.toNat_natCast] at *)
  all_goals first | omega | with_reducible exact bX_0 (Nat.zero_mul _) | with_reducible exact bY_0 (Nat.zero_mul _) (by omega) | with_reducible exact bZ_0 (Nat.zero_mul _) | (rw [wrapI (by omega) (by omega)]; omega) | skip
  all_goals first | with_reducible exact bX_s (by omega) | with_reducible exact bY_s (w := W) (by rw [← Int.natCast_mul, ← Int.natCast_add, Int.toNat_natCast]) | with_reducible exact bZ_s (by omega) | (rw [b_end (show i = W by omega)]; done) | skip
  all_goals (rw [b_all g5 (show k = V by omega)])
def fieldBxR_r (w h : Int) (x y z d n : Nat) (H : Nat → Int) (s : Int) : AV := .agg (bRow w.toNat x y z d H n)
def fieldBxR_p (w h : Int) (x y z d n : Nat) (H : Nat → Int) (s : Int) : Prop := Grid w h n
def fieldBxR_k : Con Tryz.prog := ⟨74, fun args => match args with | [.agg [.int .i64 w, .int .i64 h, .flt x, .flt y, .flt z, .flt d, .sl n 1 g_H, .int .i64 s]] => .ok (some (IsI .i64 g_H ∧ fieldBxR_p w h x y z d n (intF g_H) s)) (fieldBxR_r w h x y z d n (intF g_H) s) | _ => .no, by
  intro args p r h hp
  split at h
  · cases h; obtain ⟨h_H, hp⟩ := hp; have e_H := h_H.eq; rw [e_H]; exact fieldBxR_a _ _ _ _ _ _ _ _ _ hp
  · cases h⟩
end Go.Proofs.YtpmmabaecldmkaaGreat
