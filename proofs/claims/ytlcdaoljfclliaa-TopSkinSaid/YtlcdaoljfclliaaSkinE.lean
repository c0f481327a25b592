/- A picture of half the sides, as the document has it. -/
import Derived.Test.YtlcdaoljfclliaaSkinD
namespace Go.Proofs.Ytlcdaoljfclliaa
open Go.RowKit Ev
set_option linter.unusedVariables false
set_option linter.unusedSimpArgs false
set_option maxRecDepth 20000
set_option maxHeartbeats 4000000

structure UpJ (y : Nat) (h : Int) where
  val : Nat
  le : val ≤ 2 ∧ 2 * (y : Int) + (val : Int) ≤ h
structure UpI (x : Nat) (w : Int) where
  val : Nat
  le : val ≤ 2 ∧ 2 * (x : Int) + (val : Int) ≤ w
theorem sumR_go {w h : Int} {A : Nat → Int} (hs : Side w h) (hA : U8s A) {x y k e d : Nat} (hk : k < 4) (he : e < 2) (hd : d < 2) (hy : 2 * (y : Int) + (e : Int) < h) (hx : 2 * (x : Int) + (d : Int) < w) :
    sumH w h A x y k (2 * e + (d + 1)) = IntKind.i64.wrap (sumH w h A x y k (2 * e + d) + IntKind.i64.wrap (A (IntKind.i64.wrap (IntKind.i64.wrap (4 * IntKind.i64.wrap (IntKind.i64.wrap ((2 * (y : Int) + (e : Int)) * w) + (2 * (x : Int) + (d : Int)))) + (k : Int))).toNat)) := by
  obtain ⟨p1, p2, p3, p4⟩ := at_pix hs (show 0 ≤ 2 * (x : Int) + (d : Int) ∧ 2 * (x : Int) + (d : Int) < w by omega) (show 0 ≤ 2 * (y : Int) + (e : Int) ∧ 2 * (y : Int) + (e : Int) < h by omega) k hk
  have m1 : ((2 * e + d : Nat) : Int) % 2 = (d : Int) := by omega
  have m2 : ((2 * e + d : Nat) : Int) / 2 = (e : Int) := by omega
  have g := sumH_go (w := w) (h := h) hA (x := x) (y := y) (k := k) (c := 2 * e + d) (by omega) (by rw [m1, m2]; exact ⟨hx, hy⟩)
  rw [m1, m2] at g
  rw [p1, p4, ← Nat.add_assoc, g]
theorem pixR_in {w h : Int} {n : Nat} (hs : Side w h) (hn : (n : Int) = 4 * (w * h)) {x y k e d : Nat} (hk : k < 4) (hy : 2 * (y : Int) + (e : Int) < h) (hx : 2 * (x : Int) + (d : Int) < w) :
    0 ≤ IntKind.i64.wrap (IntKind.i64.wrap (4 * IntKind.i64.wrap (IntKind.i64.wrap ((2 * (y : Int) + (e : Int)) * w) + (2 * (x : Int) + (d : Int)))) + (k : Int)) ∧ IntKind.i64.wrap (IntKind.i64.wrap (4 * IntKind.i64.wrap (IntKind.i64.wrap ((2 * (y : Int) + (e : Int)) * w) + (2 * (x : Int) + (d : Int)))) + (k : Int)) < n := by
  obtain ⟨p1, p2, p3, p4⟩ := at_pix hs (show 0 ≤ 2 * (x : Int) + (d : Int) ∧ 2 * (x : Int) + (d : Int) < w by omega) (show 0 ≤ 2 * (y : Int) + (e : Int) ∧ 2 * (y : Int) + (e : Int) < h by omega) k hk
  rw [p1, hn]
  exact ⟨p2, p3⟩
theorem cntR_go {w h : Int} {x y e d : Nat} (he : e < 2) (hd : d < 2) (hy : 2 * (y : Int) + (e : Int) < h) (hx : 2 * (x : Int) + (d : Int) < w) : cntH w h x y (2 * e + (d + 1)) = IntKind.i64.wrap (cntH w h x y (2 * e + d) + 1) := by
  have m1 : ((2 * e + d : Nat) : Int) % 2 = (d : Int) := by omega
  have m2 : ((2 * e + d : Nat) : Int) / 2 = (e : Int) := by omega
  rw [← Nat.add_assoc]
  exact cntH_go (by omega) (by rw [m1, m2]; exact ⟨hx, hy⟩)
theorem row_end {w h : Int} (A : Nat → Int) {x y e d : Nat} (k : Nat) (hd : d ≤ 2) (hx : 2 * (x : Int) < w) (hh : 2 ≤ d ∨ w ≤ 2 * (x : Int) + (d : Int)) : sumH w h A x y k (2 * (e + 1)) = sumH w h A x y k (2 * e + d) ∧ cntH w h x y (2 * (e + 1)) = cntH w h x y (2 * e + d) := by
  have : d = 2 ∨ d = 1 := by omega
  rcases this with rfl | rfl
  · exact ⟨rfl, rfl⟩
  · exact ⟨sumH_n (c := 2 * e + 1) (by omega), cntH_n (c := 2 * e + 1) (by omega)⟩
theorem col_end {w h : Int} (A : Nat → Int) {x y e : Nat} (k : Nat) (he : e ≤ 2) (hy : 2 * (y : Int) < h) (hh : 2 ≤ e ∨ h ≤ 2 * (y : Int) + (e : Int)) : sumH w h A x y k (2 * e) = sumH w h A x y k 4 ∧ cntH w h x y (2 * e) = cntH w h x y 4 := by
  have : e = 2 ∨ e = 1 := by omega
  rcases this with rfl | rfl
  · exact ⟨rfl, rfl⟩
  · have a1 : sumH w h A x y k (3 + 1) = sumH w h A x y k 3 := sumH_n (c := 3) (by omega)
    have a2 : sumH w h A x y k (2 + 1) = sumH w h A x y k 2 := sumH_n (c := 2) (by omega)
    have b1 : cntH w h x y (3 + 1) = cntH w h x y 3 := cntH_n (c := 3) (by omega)
    have b2 : cntH w h x y (2 + 1) = cntH w h x y 2 := cntH_n (c := 2) (by omega)
    exact ⟨(a1.trans a2).symm, (b1.trans b2).symm⟩
theorem halfR_f : FnOk Try.prog 18 Try.f18 := ⟨Try.func18, by kernel_rfl⟩
theorem halfR_a (w h : Int) (n : Nat) (A : Nat → Int) (hpre : U8s A) : ACalls Try.prog 18 [.agg [.int .i64 w, .int .i64 h, ints .u8 n A]] (.tup [.agg [.int .i64 (ifz (picE w h n) ((w + 1) / 2)), .int .i64 (ifz (picE w h n) ((h + 1) / 2)), ints .u8 (ifn (picE w h n) (4 * (((w + 1) / 2).toNat * ((h + 1) / 2).toNat))) (halfV w h A)], .int .i64 (picE w h n)]) := by
  refine acalls_len fun hlen => ?_
  simp only [lenV, len1, lenV0, len0, and_true, true_and] at hlen
  refine acalls_of (inl := hasI (P := Try.prog) [] []) (base [mayPR_k] [] []) 0 halfR_f (And.intro (by kernel_rfl) ?_)
  have e0 : picE w h n = 0 → IntKind.i64.wrap ((IntKind.i64.wrap (w + 1)).tdiv 2) = (w + 1) / 2 := fun h0 => by
    have hs := (picE_ok h0).1
    obtain ⟨a, b, c, d⟩ := hs
    rw [wrapI (x := w + 1) (by omega) (by omega), Int.tdiv_eq_ediv_of_nonneg (by omega), wrapI (by omega) (by omega)]
  have e1 : picE w h n = 0 → IntKind.i64.wrap ((IntKind.i64.wrap (h + 1)).tdiv 2) = (h + 1) / 2 := fun h0 => by
    have hs := (picE_ok h0).1
    obtain ⟨a, b, c, d⟩ := hs
    rw [wrapI (x := h + 1) (by omega) (by omega), Int.tdiv_eq_ediv_of_nonneg (by omega), wrapI (by omega) (by omega)]
  repeat' (first | refine And.intro ?_ ?_ | (with_reducible exact ff_elim) | (with_reducible exact tf_elim) | refine num_elim ?_ | intro _ | (with_reducible rfl) | ((with_reducible refine lk_t ?_); exact rfl) | refine tell ?_ | exact True.intro | (refine IsT.of ?_; kernel_rfl))
  all_goals (try (refine loop_keep [1, 2, 5] [0, 1] ?_; refine LoopI.mk (UpTo ((h + 1) / 2).toNat) (fun y => [(6, .int .i64 y.1)]) (fun y => [(17, .row [.int .i64 ((w + 1) / 2), .int .i64 ((h + 1) / 2), .os 3 1 0 (4 * (((w + 1) / 2).toNat * y.1))]), (3, .nums .u8 (4 * (((w + 1) / 2).toNat * y.1)) (halfV w h A))]) (fun y => ((h + 1) / 2).toNat - y.1) (⟨0, Nat.zero_le _⟩) (wk_mk [some 17, none, some 0, some 1] ?_) (fun ⟨y, hy⟩ => ?_)))
  repeat' (first | refine And.intro ?_ ?_ | (with_reducible exact ff_elim) | (with_reducible exact tf_elim) | refine stp_mk [some 17, some 3, some 0, some 1] ((⟨y + 1, ?_⟩ : UpTo ((h + 1) / 2).toNat)) ?_ ?_ | refine num_elim ?_ | intro _ | (with_reducible rfl) | ((with_reducible refine lk_t ?_); exact rfl) | refine tell ?_ | exact True.intro | (refine IsT.of ?_; kernel_rfl))
  all_goals (try (refine loop_keep [1, 2, 5, 6] [0, 1] ?_; refine LoopI.mk (UpTo ((w + 1) / 2).toNat) (fun x => [(7, .int .i64 x.1)]) (fun x => [(17, .row [.int .i64 ((w + 1) / 2), .int .i64 ((h + 1) / 2), .os 3 1 0 (4 * (((w + 1) / 2).toNat * y + x.1))]), (3, .nums .u8 (4 * (((w + 1) / 2).toNat * y + x.1)) (halfV w h A))]) (fun x => ((w + 1) / 2).toNat - x.1) (⟨0, Nat.zero_le _⟩) (wk_mk [some 17, some 3, some 0, some 1] ?_) (fun ⟨x, hx⟩ => ?_)))
  repeat' (first | refine And.intro ?_ ?_ | (with_reducible exact ff_elim) | (with_reducible exact tf_elim) | refine stp_mk [some 17, some 3, some 0, some 1] ((⟨x + 1, ?_⟩ : UpTo ((w + 1) / 2).toNat)) ?_ ?_ | refine stp_mk [some 17, some 3, some 0, some 1] (⟨y + 1, ?_⟩ : UpTo ((h + 1) / 2).toNat) ?_ ?_ | refine num_elim ?_ | intro _ | (with_reducible rfl) | ((with_reducible refine lk_t ?_); exact rfl) | refine tell ?_ | exact True.intro | (refine IsT.of ?_; kernel_rfl))
  all_goals (try (refine loop_keep [1, 2, 5, 6, 7] [0, 1] ?_; refine LoopI.mk (UpTo 4) (fun k => [(8, .int .i64 k.1)]) (fun k => [(17, .row [.int .i64 ((w + 1) / 2), .int .i64 ((h + 1) / 2), .os 3 1 0 (4 * (((w + 1) / 2).toNat * y + x) + k.1)]), (3, .nums .u8 (4 * (((w + 1) / 2).toNat * y + x) + k.1) (halfV w h A))]) (fun k => 4 - k.1) (⟨0, Nat.zero_le _⟩) (wk_mk [some 17, some 3, some 0, some 1] ?_) (fun ⟨k, hk⟩ => ?_)))
  repeat' (first | refine And.intro ?_ ?_ | (with_reducible exact ff_elim) | (with_reducible exact tf_elim) | refine' stp_mk [some 17, some _, some 0, some 1] ((⟨k + 1, ?_⟩ : UpTo 4)) ?_ ?_ | refine stp_mk [some 17, some 3, some 0, some 1] (⟨x + 1, ?_⟩ : UpTo ((w + 1) / 2).toNat) ?_ ?_ | refine stp_mk [some 17, some 3, some 0, some 1] (⟨y + 1, ?_⟩ : UpTo ((h + 1) / 2).toNat) ?_ ?_ | refine num_elim ?_ | intro _ | (with_reducible rfl) | ((with_reducible refine lk_t ?_); exact rfl) | refine tell ?_ | exact True.intro | (refine IsT.of ?_; kernel_rfl))
  all_goals (try (refine loop_keep [1, 2, 5, 6, 7, 8] [0, 1, 17, 3] ?_; refine LoopI.mk (UpJ y h) (fun e => [(11, .int .i64 (2 * (y : Int) + (e.1 : Int))), (9, .int .i64 (sumH w h A x y k (2 * e.1))), (10, .int .i64 (cntH w h x y (2 * e.1)))]) (fun _ => []) (fun e => 2 - e.1) (⟨0, ?_⟩) (wk_mk [some 0, some 1, some 17, some 3] ?_) (fun ⟨e, he⟩ => ?_)))
  repeat' (first | refine And.intro ?_ ?_ | (with_reducible exact ff_elim) | (with_reducible exact tf_elim) | refine stp_mk [some 0, some 1, some 17, some 3] ((⟨e + 1, ?_⟩ : UpJ y h)) ?_ ?_ | refine' stp_mk [some 17, some _, some 0, some 1] (⟨k + 1, ?_⟩ : UpTo 4) ?_ ?_ | refine stp_mk [some 17, some 3, some 0, some 1] (⟨x + 1, ?_⟩ : UpTo ((w + 1) / 2).toNat) ?_ ?_ | refine stp_mk [some 17, some 3, some 0, some 1] (⟨y + 1, ?_⟩ : UpTo ((h + 1) / 2).toNat) ?_ ?_ | refine num_elim ?_ | intro _ | (with_reducible rfl) | ((with_reducible refine lk_t ?_); exact rfl) | refine tell ?_ | exact True.intro | (refine IsT.of ?_; kernel_rfl))
  all_goals (try (refine loop_keep [1, 2, 5, 6, 7, 8, 11] [0, 1, 17, 3] ?_; refine LoopI.mk (UpI x w) (fun d => [(12, .int .i64 (2 * (x : Int) + (d.1 : Int))), (9, .int .i64 (sumH w h A x y k (2 * e + d.1))), (10, .int .i64 (cntH w h x y (2 * e + d.1)))]) (fun _ => []) (fun d => 2 - d.1) (⟨0, ?_⟩) (wk_mk [some 0, some 1, some 17, some 3] ?_) (fun ⟨d, hd⟩ => ?_)))
  repeat' (first | refine And.intro ?_ ?_ | (with_reducible exact ff_elim) | (with_reducible exact tf_elim) | refine stp_mk [some 0, some 1, some 17, some 3] ((⟨d + 1, ?_⟩ : UpI x w)) ?_ ?_ | refine stp_mk [some 0, some 1, some 17, some 3] (⟨e + 1, ?_⟩ : UpJ y h) ?_ ?_ | refine' stp_mk [some 17, some _, some 0, some 1] (⟨k + 1, ?_⟩ : UpTo 4) ?_ ?_ | refine stp_mk [some 17, some 3, some 0, some 1] (⟨x + 1, ?_⟩ : UpTo ((w + 1) / 2).toNat) ?_ ?_ | refine stp_mk [some 17, some 3, some 0, some 1] (⟨y + 1, ?_⟩ : UpTo ((h + 1) / 2).toNat) ?_ ?_ | refine num_elim ?_ | intro _ | (with_reducible rfl) | ((with_reducible refine lk_t ?_); exact rfl) | refine tell ?_ | exact True.intro | (refine IsT.of ?_; kernel_rfl))
  all_goals (try refine Tell.mk ?_)
  all_goals first | with_reducible rfl | with_reducible exact isI_mk | with_reducible assumption | (with_reducible refine gb_t ?_; with_reducible assumption) | (with_reducible refine gb_f ?_; with_reducible assumption) | ((with_reducible refine lk_t ?_); rfl) | ((with_reducible refine okF_t ?_); kernel_rfl) | ((with_reducible refine ks_t ?_); rfl) | ((with_reducible refine pk_t ?_); rfl) | skip
  all_goals (try dsimp only at *)
  all_goals (try simp only [decide_eq_true_eq, decide_eq_false_iff_not, Bool.or_eq_true, Bool.or_eq_false_iff, Bool.and_eq_true, Bool.and_eq_false_iff, Bool.not_eq_true', Bool.not_eq_false', bne_iff_ne, ne_eq, beq_iff_eq, bne_eq_false_iff_eq, beq_eq_false_iff_ne, Int.not_lt, Int.not_le, gt_iff_lt, ge_iff_le] at *)
  all_goals (try simp only [mulN1, Nat.add_zero, Nat.zero_add, Nat.mul_one, Int.toNat_natCast, avInt_int, intF_mk] at *)
  all_goals first | with_reducible rfl | with_reducible exact nums_N | omega | ((with_reducible refine by_le 1 rfl ?_); omega) | ((with_reducible refine by_le 8 rfl ?_); omega) | (rw [wrapI (by omega) (by omega)] <;> omega) | skip
  all_goals first | exact ifz1 (by with_reducible assumption) | exact ifn1 (by with_reducible assumption) | (refine nums_N0 ?_; omega) | skip
  all_goals (have h0 : picE w h n = 0 := by with_reducible assumption)
  all_goals (have f0 := e0 h0; have f1 := e1 h0; clear e0 e1; simp only [f0, f1] at *)
  all_goals (obtain ⟨hs, hn⟩ := picE_ok h0; have hs1 := hs; obtain ⟨s1, s2, s3, s4⟩ := hs1)
  all_goals first | exact sumH_0 | exact cntH_0 | (rw [h0, ifz0 rfl]; done) | skip
  all_goals (try simp only [show IntKind.i64.wrap (2 * (x : Int)) = 2 * (x : Int) from wrapI (by omega) (by omega), show IntKind.i64.wrap (2 * (x : Int) + 2) = 2 * (x : Int) + 2 from wrapI (by omega) (by omega)] at *)
  all_goals (try simp only [show IntKind.i64.wrap (2 * (y : Int)) = 2 * (y : Int) from wrapI (by omega) (by omega), show IntKind.i64.wrap (2 * (y : Int) + 2) = 2 * (y : Int) + 2 from wrapI (by omega) (by omega)] at *)
  all_goals first | omega | (rw [Nat.mul_succ]; omega) | (rw [wrapI (by omega) (by omega)]; omega) | (rw [ifn0 h0]; rw [show y = ((h + 1) / 2).toNat by omega]; done) | exact sumR_go hs hpre (by omega) (by omega) (by omega) (by omega) (by omega) | exact cntR_go (by omega) (by omega) (by omega) (by omega) | exact (pixR_in hs hn (by omega) (by omega) (by omega)).1 | exact (pixR_in hs hn (by omega) (by omega) (by omega)).2 | exact (row_end A k (by omega) (by omega) (by omega)).1 | exact (row_end A 0 (by omega) (by omega) (by omega)).2 | skip
  all_goals (have wb : ((w + 1) / 2).toNat * y ≤ 33 * 33 := Nat.mul_le_mul (by omega) (by omega))
  all_goals first | omega | (with_reducible refine by_le 1 rfl ?_; omega) | skip
  all_goals (obtain ⟨g1, g2⟩ := col_end (w := w) A (x := x) k (e := e) (y := y) (by omega) (show 2 * (y : Int) < h by omega) (by omega))
  all_goals (try simp only [g1, g2] at *)
  all_goals first | exact half_step (by omega) (by omega) (by with_reducible assumption) (half_go hpre k (by omega) (by omega)).2 | exact absurd (by with_reducible assumption) (half_go (A := A) hpre k (show 2 * (x : Int) < w by omega) (show 2 * (y : Int) < h by omega)).1 | skip

def halfR_r (w h : Int) (n : Nat) (A : Nat → Int) : AV := .tup [.agg [.int .i64 (ifz (picE w h n) ((w + 1) / 2)), .int .i64 (ifz (picE w h n) ((h + 1) / 2)), ints .u8 (ifn (picE w h n) (4 * (((w + 1) / 2).toNat * ((h + 1) / 2).toNat))) (halfV w h A)], .int .i64 (picE w h n)]
def halfR_p (w h : Int) (n : Nat) (A : Nat → Int) : Prop := U8s A
def halfR_k : Con Try.prog := ⟨18, fun args => match args with | [.agg [.int .i64 w, .int .i64 h, .sl n 1 g_A]] => .ok (some (IsI .u8 g_A ∧ halfR_p w h n (intF g_A))) (halfR_r w h n (intF g_A)) | _ => .no, by
  intro args p r h hp
  split at h
  · cases h; obtain ⟨h_A, hp⟩ := hp; have e_A := h_A.eq; rw [e_A]; exact halfR_a _ _ _ _ hp
  · cases h⟩
end Go.Proofs.Ytlcdaoljfclliaa
