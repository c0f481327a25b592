/- A picture of half the sides. -/
import Derived.Test.YtlcdaoljfclliaaSkinC
namespace Go.Proofs.Ytlcdaoljfclliaa
open Go.RowKit Ev
set_option linter.unusedVariables false
set_option linter.unusedSimpArgs false
set_option maxRecDepth 20000
set_option maxHeartbeats 4000000

/-- Numbers up to one. -/
structure UpTo (n : Nat) where
  val : Nat
  le : val ≤ n
structure UpC where
  val : Nat
  le : val ≤ 4
theorem and1 (c : Nat) (hc : c ≤ 4) : bitsA .and .i64 (c : Int) 1 = (c : Int) % 2 := by
  have : c = 0 ∨ c = 1 ∨ c = 2 ∨ c = 3 ∨ c = 4 := by omega
  rcases this with rfl | rfl | rfl | rfl | rfl <;> decide
theorem shr1 (c : Nat) : (c : Int).fdiv (2 ^ min (Int.toNat 1) IntKind.i64.bits) = (c : Int) / 2 := by
  rw [show (2 : Int) ^ min (Int.toNat 1) IntKind.i64.bits = 2 by decide]
  exact Int.fdiv_eq_ediv_of_nonneg _ (by decide)
/-- What lies within, of four pixels: their sum, and how many they are. -/
def sumG (w h : Int) (A : Nat → Int) (x y k : Nat) : Nat → Int
  | 0 => 0
  | c + 1 => sumG w h A x y k c + if 2 * (x : Int) + (c : Int) % 2 < w ∧ 2 * (y : Int) + (c : Int) / 2 < h then A ((atI w (2 * (x : Int) + (c : Int) % 2) (2 * (y : Int) + (c : Int) / 2)).toNat + k) else 0
def cntG (w h : Int) (x y : Nat) : Nat → Int
  | 0 => 0
  | c + 1 => cntG w h x y c + if 2 * (x : Int) + (c : Int) % 2 < w ∧ 2 * (y : Int) + (c : Int) / 2 < h then 1 else 0
@[irreducible] def sumH (w h : Int) (A : Nat → Int) (x y k c : Nat) : Int := sumG w h A x y k c
@[irreducible] def cntH (w h : Int) (x y c : Nat) : Int := cntG w h x y c
section
variable {w h : Int} {A : Nat → Int} {x y k c : Nat}
theorem sumH_0 : sumH w h A x y k 0 = 0 := by unfold sumH; rfl
theorem cntH_0 : cntH w h x y 0 = 0 := by unfold cntH; rfl
theorem sumH_y (hh : 2 * (x : Int) + (c : Int) % 2 < w ∧ 2 * (y : Int) + (c : Int) / 2 < h) : sumH w h A x y k (c + 1) = sumH w h A x y k c + A ((atI w (2 * (x : Int) + (c : Int) % 2) (2 * (y : Int) + (c : Int) / 2)).toNat + k) := by unfold sumH; rw [sumG, if_pos hh]
theorem sumH_n (hh : ¬ (2 * (x : Int) + (c : Int) % 2 < w ∧ 2 * (y : Int) + (c : Int) / 2 < h)) : sumH w h A x y k (c + 1) = sumH w h A x y k c := by unfold sumH; rw [sumG, if_neg hh, Int.add_zero]
theorem cntH_y (hh : 2 * (x : Int) + (c : Int) % 2 < w ∧ 2 * (y : Int) + (c : Int) / 2 < h) : cntH w h x y (c + 1) = cntH w h x y c + 1 := by unfold cntH; rw [cntG, if_pos hh]
theorem cntH_n (hh : ¬ (2 * (x : Int) + (c : Int) % 2 < w ∧ 2 * (y : Int) + (c : Int) / 2 < h)) : cntH w h x y (c + 1) = cntH w h x y c := by unfold cntH; rw [cntG, if_neg hh, Int.add_zero]
end
theorem sumH_bd {w h : Int} {A : Nat → Int} (hA : U8s A) (x y k : Nat) : ∀ c, 0 ≤ sumH w h A x y k c ∧ sumH w h A x y k c ≤ 256 * c
  | 0 => by rw [sumH_0]; exact ⟨by omega, by omega⟩
  | c + 1 => by
    have := sumH_bd (w := w) (h := h) hA x y k c
    by_cases hh : 2 * (x : Int) + (c : Int) % 2 < w ∧ 2 * (y : Int) + (c : Int) / 2 < h
    · rw [sumH_y hh]; have := hA ((atI w (2 * (x : Int) + (c : Int) % 2) (2 * (y : Int) + (c : Int) / 2)).toNat + k); omega
    · rw [sumH_n hh]; omega
theorem cntH_bd (w h : Int) (x y : Nat) : ∀ c, 0 ≤ cntH w h x y c ∧ cntH w h x y c ≤ c
  | 0 => by rw [cntH_0]; exact ⟨by omega, by omega⟩
  | c + 1 => by
    have := cntH_bd w h x y c
    by_cases hh : 2 * (x : Int) + (c : Int) % 2 < w ∧ 2 * (y : Int) + (c : Int) / 2 < h
    · rw [cntH_y hh]; omega
    · rw [cntH_n hh]; omega
theorem cntH_mono (w h : Int) (x y : Nat) : ∀ c, cntH w h x y 1 ≤ cntH w h x y (c + 1)
  | 0 => Int.le_refl _
  | c + 1 => by
    have := cntH_mono w h x y c
    by_cases hh : 2 * (x : Int) + ((c + 1 : Nat) : Int) % 2 < w ∧ 2 * (y : Int) + ((c + 1 : Nat) : Int) / 2 < h
    · rw [cntH_y hh]; omega
    · rw [cntH_n hh]; omega
theorem cntH_pos {w h : Int} {x y : Nat} (hx : 2 * (x : Int) < w) (hy : 2 * (y : Int) < h) : 1 ≤ cntH w h x y 4 := by
  have : cntH w h x y 1 ≤ cntH w h x y 4 := cntH_mono w h x y 3
  have e : cntH w h x y 1 = cntH w h x y 0 + 1 := cntH_y (c := 0) ⟨by omega, by omega⟩
  rw [cntH_0] at e
  omega
@[irreducible] def halfB (w h : Int) (A : Nat → Int) (x y k : Nat) : Int := IntKind.u8.wrap ((2 * sumH w h A x y k 4 + cntH w h x y 4) / (2 * cntH w h x y 4))
@[irreducible] def halfV (w h : Int) (A : Nat → Int) (j : Nat) : Int := halfB w h A (j / 4 % ((w + 1) / 2).toNat) (j / 4 / ((w + 1) / 2).toNat) (j % 4)
theorem halfV_at {w h : Int} {A : Nat → Int} {W x y k : Nat} (hW : ((w + 1) / 2).toNat = W) (hx : x < W) (hk : k < 4) : halfV w h A (4 * (W * y + x) + k) = halfB w h A x y k := by
  unfold halfV
  rw [hW, show (4 * (W * y + x) + k) / 4 = W * y + x by omega, show (4 * (W * y + x) + k) % 4 = k by omega, Nat.mul_add_mod, Nat.mod_eq_of_lt hx, Nat.mul_add_div (by omega), Nat.div_eq_of_lt hx, Nat.add_zero]
theorem half_go {w h : Int} {A : Nat → Int} (hA : U8s A) {x y : Nat} (k : Nat) (hx : 2 * (x : Int) < w) (hy : 2 * (y : Int) < h) : ¬ IntKind.i64.wrap (2 * cntH w h x y 4) = 0 ∧
    IntKind.u8.wrap (IntKind.i64.wrap ((IntKind.i64.wrap (IntKind.i64.wrap (2 * sumH w h A x y k 4) + cntH w h x y 4)).tdiv (IntKind.i64.wrap (2 * cntH w h x y 4)))) = halfB w h A x y k := by
  have a := sumH_bd (w := w) (h := h) hA x y k 4
  have b := cntH_bd w h x y 4
  have d := cntH_pos hx hy
  unfold halfB
  generalize sumH w h A x y k 4 = s at *
  generalize cntH w h x y 4 = m at *
  have e1 : 0 ≤ (2 * s + m) / (2 * m) := Int.ediv_nonneg (by omega) (by omega)
  have e2 : (2 * s + m) / (2 * m) ≤ 2 * s + m := Int.ediv_le_self _ (by omega)
  rw [wrapI (x := 2 * m) (by omega) (by omega), wrapI (x := 2 * s) (by omega) (by omega), wrapI (x := 2 * s + m) (by omega) (by omega), Int.tdiv_eq_ediv_of_nonneg (by omega), wrapI (by omega) (by omega)]
  exact ⟨by omega, rfl⟩
theorem sumH_go {w h : Int} {A : Nat → Int} (hA : U8s A) {x y k c : Nat} (hc : c ≤ 4) (hh : 2 * (x : Int) + (c : Int) % 2 < w ∧ 2 * (y : Int) + (c : Int) / 2 < h) : sumH w h A x y k (c + 1) = IntKind.i64.wrap (sumH w h A x y k c + IntKind.i64.wrap (A ((atI w (2 * (x : Int) + (c : Int) % 2) (2 * (y : Int) + (c : Int) / 2)).toNat + k))) := by
  have a := sumH_bd (w := w) (h := h) hA x y k c
  have b := hA ((atI w (2 * (x : Int) + (c : Int) % 2) (2 * (y : Int) + (c : Int) / 2)).toNat + k)
  rw [sumH_y hh, wrapI (x := A _) (by omega) (by omega), wrapI (by omega) (by omega)]
theorem cntH_go {w h : Int} {x y c : Nat} (hc : c ≤ 4) (hh : 2 * (x : Int) + (c : Int) % 2 < w ∧ 2 * (y : Int) + (c : Int) / 2 < h) : cntH w h x y (c + 1) = IntKind.i64.wrap (cntH w h x y c + 1) := by
  have a := cntH_bd w h x y c
  rw [cntH_y hh, wrapI (by omega) (by omega)]
theorem half_step {w h : Int} {A : Nat → Int} {x y k j r : Nat} {v : Int} (hx : x < ((w + 1) / 2).toNat) (hk : k < 4) (hj : j < 4 * (((w + 1) / 2).toNat * y + x) + (k + 1)) (hv : v = halfB w h A x y k) :
    halfV w h A j = catI (4 * (((w + 1) / 2).toNat * y + x) + k) (some r) (halfV w h A) (fun _ => v) j :=
  one_step (by omega) (by rw [hv, halfV_at rfl hx hk])
theorem nums_N0 {kd : IntKind} {n : Nat} {P : Nat → Int} (h : n = 0) : (OB.nums kd n P).N = 0 := h
theorem half_f : FnOk Try.prog 17 Try.f17 := ⟨Try.func17, by kernel_rfl⟩
theorem half_a (w h : Int) (n : Nat) (A : Nat → Int) (hpre : U8s A) : ACalls Try.prog 17 [.agg [.int .i64 w, .int .i64 h, ints .u8 n A]] (.tup [.agg [.int .i64 (ifz (picE w h n) ((w + 1) / 2)), .int .i64 (ifz (picE w h n) ((h + 1) / 2)), ints .u8 (ifn (picE w h n) (4 * (((w + 1) / 2).toNat * ((h + 1) / 2).toNat))) (halfV w h A)], .int .i64 (picE w h n)]) := by
  refine acalls_len fun hlen => ?_
  simp only [lenV, len1, lenV0, len0, and_true, true_and] at hlen
  refine acalls_of (inl := hasI (P := Try.prog) [] []) (base [mayP_k, pixelP_k] [] []) 0 half_f (And.intro (by kernel_rfl) ?_)
  have e0 : picE w h n = 0 → IntKind.i64.wrap ((IntKind.i64.wrap (w + 1)).tdiv 2) = (w + 1) / 2 := fun h0 => by
    have hs := (picE_ok h0).1
    obtain ⟨a, b, c, d⟩ := hs
    rw [wrapI (x := w + 1) (by omega) (by omega), Int.tdiv_eq_ediv_of_nonneg (by omega), wrapI (by omega) (by omega)]
  have e1 : picE w h n = 0 → IntKind.i64.wrap ((IntKind.i64.wrap (h + 1)).tdiv 2) = (h + 1) / 2 := fun h0 => by
    have hs := (picE_ok h0).1
    obtain ⟨a, b, c, d⟩ := hs
    rw [wrapI (x := h + 1) (by omega) (by omega), Int.tdiv_eq_ediv_of_nonneg (by omega), wrapI (by omega) (by omega)]
  repeat' (first | refine And.intro ?_ ?_ | (with_reducible exact ff_elim) | (with_reducible exact tf_elim) | refine num_elim ?_ | intro _ | (with_reducible rfl) | ((with_reducible refine lk_t ?_); exact rfl) | refine tell ?_ | exact True.intro | (refine IsT.of ?_; kernel_rfl))
  all_goals (try (refine loop_keep [1, 2, 5, 30] [0, 1] ?_; refine LoopI.mk (UpTo ((h + 1) / 2).toNat) (fun y => [(31, .int .i64 y.1)]) (fun y => [(17, .row [.int .i64 ((w + 1) / 2), .int .i64 ((h + 1) / 2), .os 3 1 0 (4 * (((w + 1) / 2).toNat * y.1))]), (3, .nums .u8 (4 * (((w + 1) / 2).toNat * y.1)) (halfV w h A))]) (fun y => ((h + 1) / 2).toNat - y.1) (⟨0, Nat.zero_le _⟩) (wk_mk [some 17, none, some 0, some 1] ?_) (fun ⟨y, hy⟩ => ?_)))
  repeat' (first | refine And.intro ?_ ?_ | (with_reducible exact ff_elim) | (with_reducible exact tf_elim) | refine stp_mk [some 17, some 3, some 0, some 1] ((⟨y + 1, ?_⟩ : UpTo ((h + 1) / 2).toNat)) ?_ ?_ | refine num_elim ?_ | intro _ | (with_reducible rfl) | ((with_reducible refine lk_t ?_); exact rfl) | refine tell ?_ | exact True.intro | (refine IsT.of ?_; kernel_rfl))
  all_goals (try (refine loop_keep [1, 2, 5, 6, 30, 31, 35] [0, 1] ?_; refine LoopI.mk (UpTo ((w + 1) / 2).toNat) (fun x => [(36, .int .i64 x.1)]) (fun x => [(17, .row [.int .i64 ((w + 1) / 2), .int .i64 ((h + 1) / 2), .os 3 1 0 (4 * (((w + 1) / 2).toNat * y + x.1))]), (3, .nums .u8 (4 * (((w + 1) / 2).toNat * y + x.1)) (halfV w h A))]) (fun x => ((w + 1) / 2).toNat - x.1) (⟨0, Nat.zero_le _⟩) (wk_mk [some 17, some 3, some 0, some 1] ?_) (fun ⟨x, hx⟩ => ?_)))
  repeat' (first | refine And.intro ?_ ?_ | (with_reducible exact ff_elim) | (with_reducible exact tf_elim) | refine stp_mk [some 17, some 3, some 0, some 1] ((⟨x + 1, ?_⟩ : UpTo ((w + 1) / 2).toNat)) ?_ ?_ | refine stp_mk [some 17, some 3, some 0, some 1] (⟨y + 1, ?_⟩ : UpTo ((h + 1) / 2).toNat) ?_ ?_ | refine num_elim ?_ | intro _ | (with_reducible rfl) | ((with_reducible refine lk_t ?_); exact rfl) | refine tell ?_ | exact True.intro | (refine IsT.of ?_; kernel_rfl))
  all_goals (try (refine loop_keep [1, 2, 5, 6, 7, 30, 31, 35, 36] [0, 1] ?_; refine LoopI.mk (UpTo 4) (fun k => [(39, .int .i64 k.1)]) (fun k => [(17, .row [.int .i64 ((w + 1) / 2), .int .i64 ((h + 1) / 2), .os 3 1 0 (4 * (((w + 1) / 2).toNat * y + x) + k.1)]), (3, .nums .u8 (4 * (((w + 1) / 2).toNat * y + x) + k.1) (halfV w h A))]) (fun k => 4 - k.1) (⟨0, Nat.zero_le _⟩) (wk_mk [some 17, some 3, some 0, some 1] ?_) (fun ⟨k, hk⟩ => ?_)))
  repeat' (first | refine And.intro ?_ ?_ | (with_reducible exact ff_elim) | (with_reducible exact tf_elim) | refine' stp_mk [some 17, some _, some 0, some 1] ((⟨k + 1, ?_⟩ : UpTo 4)) ?_ ?_ | refine stp_mk [some 17, some 3, some 0, some 1] (⟨x + 1, ?_⟩ : UpTo ((w + 1) / 2).toNat) ?_ ?_ | refine stp_mk [some 17, some 3, some 0, some 1] (⟨y + 1, ?_⟩ : UpTo ((h + 1) / 2).toNat) ?_ ?_ | refine num_elim ?_ | intro _ | (with_reducible rfl) | ((with_reducible refine lk_t ?_); exact rfl) | refine tell ?_ | exact True.intro | (refine IsT.of ?_; kernel_rfl))
  all_goals (try (refine loop_keep [1, 2, 5, 6, 7, 8, 30, 31, 35, 36, 39] [0, 1, 17, 3] ?_; refine LoopI.mk (UpC) (fun c => [(42, .int .i64 c.1), (9, .int .i64 (sumH w h A x y k c.1)), (10, .int .i64 (cntH w h x y c.1))]) (fun c => []) (fun c => 4 - c.1) (⟨0, Nat.zero_le _⟩) (wk_mk [some 0, some 1, some 17, some 3] ?_) (fun ⟨c, hc⟩ => ?_)))
  repeat' (first | refine And.intro ?_ ?_ | (with_reducible exact ff_elim) | (with_reducible exact tf_elim) | refine stp_mk [some 0, some 1, some 17, some 3] ((⟨c + 1, ?_⟩ : UpC)) ?_ ?_ | refine' stp_mk [some 17, some _, some 0, some 1] (⟨k + 1, ?_⟩ : UpTo 4) ?_ ?_ | refine stp_mk [some 17, some 3, some 0, some 1] (⟨x + 1, ?_⟩ : UpTo ((w + 1) / 2).toNat) ?_ ?_ | refine stp_mk [some 17, some 3, some 0, some 1] (⟨y + 1, ?_⟩ : UpTo ((h + 1) / 2).toNat) ?_ ?_ | refine num_elim ?_ | intro _ | (with_reducible rfl) | ((with_reducible refine lk_t ?_); exact rfl) | refine tell ?_ | exact True.intro | (refine IsT.of ?_; kernel_rfl))
  all_goals (try refine Tell.mk ?_)
  all_goals first | with_reducible rfl | with_reducible exact isI_mk | with_reducible assumption | (with_reducible refine gb_t ?_; with_reducible assumption) | (with_reducible refine gb_f ?_; with_reducible assumption) | ((with_reducible refine lk_t ?_); rfl) | ((with_reducible refine okF_t ?_); kernel_rfl) | ((with_reducible refine ks_t ?_); rfl) | ((with_reducible refine pk_t ?_); rfl) | skip
  all_goals (try dsimp only at *)
  all_goals (try simp only [decide_eq_true_eq, decide_eq_false_iff_not, Bool.or_eq_true, Bool.or_eq_false_iff, Bool.and_eq_true, Bool.and_eq_false_iff, Bool.not_eq_true', Bool.not_eq_false', bne_iff_ne, ne_eq, beq_iff_eq, bne_eq_false_iff_eq, beq_eq_false_iff_ne, Int.not_lt, Int.not_le, gt_iff_lt, ge_iff_le] at *)
  all_goals (try simp only [mulN1, Nat.add_zero, Nat.zero_add, Nat.mul_one, Int.toNat_natCast, avInt_int, intF_mk] at *)
  all_goals first | with_reducible rfl | with_reducible exact nums_N | omega | ((with_reducible refine by_le 1 rfl ?_); omega) | ((with_reducible refine by_le 8 rfl ?_); omega) | (rw [wrapI (by omega) (by omega)] <;> omega) | skip
  all_goals first | exact ifz1 (by with_reducible assumption) | exact ifn1 (by with_reducible assumption) | exact sumH_0 | exact cntH_0 | (refine nums_N0 ?_; omega) | skip
  all_goals (have h0 : picE w h n = 0 := by with_reducible assumption)
  all_goals (have f0 := e0 h0; have f1 := e1 h0; clear e0 e1; simp only [f0, f1] at *)
  all_goals (obtain ⟨hs, hn⟩ := picE_ok h0; obtain ⟨s1, s2, s3, s4⟩ := hs)
  all_goals (try simp only [and1 c hc, shr1] at *)
  all_goals (try simp (disch := omega) only [wrapI] at *)
  all_goals first | omega | exact sumH_go hpre hc (by omega) | exact cntH_go hc (by omega) | exact sumH_n (by omega) | exact cntH_n (by omega) | skip
  all_goals first | (rw [Nat.mul_succ]; omega) | (rw [wrapI (by omega) (by omega)]; omega) | (rw [h0, ifz0 rfl]; done) | skip
  all_goals first | (rw [ifn0 h0]; rw [show y = ((h + 1) / 2).toNat by omega]; done) | skip
  all_goals (have wb : ((w + 1) / 2).toNat * y ≤ 33 * 33 := Nat.mul_le_mul (by omega) (by omega))
  all_goals first | omega | (with_reducible refine by_le 1 rfl ?_; omega) | skip
  all_goals (obtain rfl : c = 4 := by omega)
  all_goals first | exact half_step (by omega) (by omega) (by with_reducible assumption) (half_go hpre k (by omega) (by omega)).2 | exact absurd (by with_reducible assumption) (half_go (A := A) hpre k (show 2 * (x : Int) < w by omega) (show 2 * (y : Int) < h by omega)).1 | skip

def half_r (w h : Int) (n : Nat) (A : Nat → Int) : AV := .tup [.agg [.int .i64 (ifz (picE w h n) ((w + 1) / 2)), .int .i64 (ifz (picE w h n) ((h + 1) / 2)), ints .u8 (ifn (picE w h n) (4 * (((w + 1) / 2).toNat * ((h + 1) / 2).toNat))) (halfV w h A)], .int .i64 (picE w h n)]
def half_p (w h : Int) (n : Nat) (A : Nat → Int) : Prop := U8s A
def half_k : Con Try.prog := ⟨17, fun args => match args with | [.agg [.int .i64 w, .int .i64 h, .sl n 1 g_A]] => .ok (some (IsI .u8 g_A ∧ half_p w h n (intF g_A))) (half_r w h n (intF g_A)) | _ => .no, by
  intro args p r h hp
  split at h
  · cases h; obtain ⟨h_A, hp⟩ := hp; have e_A := h_A.eq; rw [e_A]; exact half_a _ _ _ _ hp
  · cases h⟩
end Go.Proofs.Ytlcdaoljfclliaa
