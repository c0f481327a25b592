/- Pictures as bytes: the document's unpacking, walked. -/
import Derived.Test.YtjnpngbgapigeaaDoorPctH
namespace Go.Proofs.YtjnpngbgapigeaaDoor
open Go.RowKit Ev
set_option linter.unusedVariables false
set_option linter.unusedSimpArgs false
set_option maxRecDepth 20000
set_option maxHeartbeats 8000000

theorem pkN_bd {D : Nat → Int} (hD : U8s D) {w x : Int} (h : Side w x) : 0 < pkN D w x ∧ pkN D w x ≤ 1000000 := by
  have q := pk_ok hD (w * x).toNat w x (w * x).toNat
  have y := h.wh
  unfold pkN pkD
  omega
theorem unpR0_f : FnOk Tryd.prog 7 Tryd.f7 := ⟨Tryd.func7, by kernel_rfl⟩
theorem unpR0_a (n : Nat) (B : Nat → Int) (hpre : U8s B ∧ n ≤ 1000000 ∧ unE B n = 0) : ACalls Tryd.prog 7 [ints .u8 n B] (.tup [.agg [.int .i64 (B 4), .int .i64 (B 5), ints .u8 (unD B n (wh4 B)).L (unD B n (wh4 B)).D], .int .i64 0]) := by
  refine acalls_of (inl := hasI (P := Tryd.prog) [] [packRM_m, sameM_m]) (base [twoSumsR_k, sameR_k] [] [packRM_m, sameM_m]) 0 unpR0_f (And.intro (by kernel_rfl) ?_)
  obtain ⟨hB, hn, hE⟩ := hpre
  have hok := unE_ok hE
  obtain ⟨h6, hM, hS, hL, hA, hC, hP⟩ := hok
  obtain ⟨W, hW⟩ : ∃ W : Nat, wh4 B = W := ⟨_, rfl⟩
  rw [hW] at hL hA hC hP ⊢
  have w0 : ∀ k, IntKind.i64.wrap (B k) = B k := fun k => by have := hB k; exact wrapI (by omega) (by omega)
  have hz := hS.wraps
  have hy := hS.wh
  have hSS := hS
  have hWe : (W : Int) = 4 * (B 4 * B 5) := by rw [← hW]; unfold wh4; omega
  have wS : IntKind.i64.wrap (IntKind.i64.wrap (4 * B 4) * B 5) = (W : Int) := by rw [hz.2.2, Int.mul_assoc, hz.2.1, hWe]
  have hpe : ∀ m : Nat, m = W → picE (B 4) (B 5) m = 0 := fun m hm => picE0 hSS (by omega)
  obtain ⟨c1, c2, c3, c4⟩ := hS
  repeat' (first | refine And.intro ?_ ?_ | (with_reducible exact ff_elim) | (with_reducible exact tf_elim) | refine num_elim ?_ | intro _ | (with_reducible rfl) | ((with_reducible refine lk_t ?_); exact rfl) | ((with_reducible refine pf_t ?_); exact rfl) | refine tell ?_ | exact True.intro | (refine IsT.of ?_; kernel_rfl))
  all_goals (try (refine loop_keep [0, 2] [0] ?_; refine LoopI.mk (UnI B n W) (fun j => [(4, .own 1 0), (5, .int .i64 (un B n W j.i).at_)]) (fun j => [(1, .row [.int .i64 (B 4), .int .i64 (B 5), .os 2 1 0 (un B n W j.i).L]), (2, .nums .u8 (un B n W j.i).L (un B n W j.i).D)]) (fun j => W - (un B n W j.i).L) (⟨0, Nat.zero_le _, Nat.zero_le _⟩) (wk_mk [some 36, none, some 0] ?_) (fun ⟨i, hi, hiW⟩ => ?_)))
  repeat' (first | refine And.intro ?_ ?_ | (with_reducible exact ff_elim) | (with_reducible exact tf_elim) | refine' stp_mk [some 1, some _, some 0] ((⟨i + 1, ?_, ?_⟩ : UnI B n W)) ?_ ?_ | refine num_elim ?_ | intro _ | (with_reducible rfl) | ((with_reducible refine lk_t ?_); exact rfl) | ((with_reducible refine pf_t ?_); exact rfl) | refine tell ?_ | exact True.intro | (refine IsT.of ?_; kernel_rfl))
  all_goals (try (refine loop_keep [0, 2, 5, 7, 8] [0] ?_; refine LoopI.mk (TmI (tms (B (un B n W i).at_))) (fun j => [(4, .own 1 0), (9, .int .i64 j.t)]) (fun j => [(1, .row [.int .i64 (B 4), .int .i64 (B 5), .os 2 1 0 ((un B n W i).L + 4 * mny (B (un B n W i).at_) * j.t)]), (2, .nums .u8 ((un B n W i).L + 4 * mny (B (un B n W i).at_) * j.t) (repB (un B n W i).L (un B n W i).D (4 * mny (B (un B n W i).at_)) (fun j => B ((un B n W i).at_ + 1 + j)) j.t))]) (fun j => tms (B (un B n W i).at_) - j.t) (⟨0, Nat.zero_le _⟩) (wk_mk [some 1, some 2, some 0] ?_) (fun ⟨t, ht⟩ => ?_)))
  repeat' (first | refine And.intro ?_ ?_ | (with_reducible exact ff_elim) | (with_reducible exact tf_elim) | refine' stp_mk [some 1, some _, some 0] ((⟨t + 1, ?_⟩ : TmI (tms (B (un B n W i).at_)))) ?_ ?_ | refine' stp_mk [some 1, some _, some 0] (⟨i + 1, ?_, ?_⟩ : UnI B n W) ?_ ?_ | refine num_elim ?_ | intro _ | (with_reducible rfl) | ((with_reducible refine lk_t ?_); exact rfl) | ((with_reducible refine pf_t ?_); exact rfl) | refine tell ?_ | exact True.intro | (refine IsT.of ?_; kernel_rfl))
  all_goals (try exact (1 : Nat))
  all_goals (try refine Tell.mk ?_)
  all_goals (try dsimp only at *)
  all_goals first | with_reducible rfl | with_reducible exact isI_mk | with_reducible assumption | (with_reducible refine gb_t ?_; with_reducible assumption) | (with_reducible refine gb_f ?_; with_reducible assumption) | ((with_reducible refine ks_t ?_); rfl) | ((show (_ : Nat) ≤ _); decide) | ((show (_ : Int) ≤ _); decide) | skip
  all_goals (try simp only [intF_mk, mulN1, Nat.add_zero, Nat.zero_add, Int.toNat_natCast, show mulN (Int.toNat 4) 1 = 4 from rfl, show mulN (Int.toNat 5) 1 = 5 from rfl, w0, wS, shiftA_none, shiftA_some, lenN_some, lenN_none, avInt_int] at *)
  all_goals first | with_reducible rfl | omega | (rw [un_0]; done) | (rw [un_0]; rfl) | skip
  all_goals (try (have sss := un_ok hB h6 (W := W) i; obtain ⟨s1, s2, s3, s4⟩ := sss; have hk0 := hB (un B n W i).at_; obtain ⟨k, hk⟩ : ∃ k : Nat, B (un B n W i).at_ = (k : Int) := ⟨(B (un B n W i).at_).toNat, by omega⟩; have hk1 : k < 256 := (by omega); have hq : ∀ x, x = (un B n W i).at_ → B x = (k : Int) := (fun x hx => by rw [hx]; exact hk); have a1 : IntKind.i64.wrap (((un B n W i).at_ : Int) + 1) = (((un B n W i).at_ + 1 : Nat) : Int) := (by rw [wrapI (by omega) (by omega)]; omega); have a2 : IntKind.i64.wrap ((k : Int) + 1) = ((k + 1 : Nat) : Int) := (by rw [wrapI (by omega) (by omega)]; omega); have a3 : IntKind.i64.wrap (4 * ((k + 1 : Nat) : Int)) = ((4 * (k + 1) : Nat) : Int) := (by rw [wrapI (by omega) (by omega)]; omega); have a4 : IntKind.i64.wrap ((((un B n W i).at_ + 1 : Nat) : Int) + ((4 * (k + 1) : Nat) : Int)) = (((un B n W i).at_ + 1 + 4 * (k + 1) : Nat) : Int) := (by rw [wrapI (by omega) (by omega)]; omega); have a5 : IntKind.i64.wrap ((((un B n W i).at_ + 1 : Nat) : Int) + 4) = (((un B n W i).at_ + 1 + 4 : Nat) : Int) := (by rw [wrapI (by omega) (by omega)]; omega); have a6 : IntKind.i64.wrap (1 + ((4 * (k + 1) : Nat) : Int)) = ((1 + 4 * (k + 1) : Nat) : Int) := (by rw [wrapI (by omega) (by omega)]; omega); have a7 : IntKind.i64.wrap (1 + 4) = 5 := rfl; have a8 : IntKind.i64.wrap (((un B n W i).at_ : Int) + ((1 + 4 * (k + 1) : Nat) : Int)) = (((un B n W i).at_ + 1 + 4 * (k + 1) : Nat) : Int) := (by rw [wrapI (by omega) (by omega)]; omega); have a9 : IntKind.i64.wrap (((un B n W i).at_ : Int) + 5) = (((un B n W i).at_ + 1 + 4 : Nat) : Int) := (by rw [wrapI (by omega) (by omega)]; omega); have b1 : IntKind.i64.wrap ((k : Int) - 127) = (k : Int) - 127 := wrapI (by omega) (by omega); have b2 : ((((un B n W i).at_ + 1 + 4 * (k + 1) : Nat) : Int) - (((un B n W i).at_ + 1 : Nat) : Int)).toNat = 4 * (k + 1) := (by omega); have b3 : ((((un B n W i).at_ + 1 + 4 : Nat) : Int) - (((un B n W i).at_ + 1 : Nat) : Int)).toNat = 4 := (by omega); have b4 : IntKind.i64.wrap (((un B n W i).at_ : Int) + 2) = (((un B n W i).at_ + 2 : Nat) : Int) := (by rw [wrapI (by omega) (by omega)]; omega)))
  all_goals (try simp only [show IntKind.i64.wrap (4 * 1) = 4 from rfl, hk, a1, a2, a3, a4, a5, a6, a7, a8, a9, b1, b2, b3, b4, mulN1, Int.toNat_natCast, show (Tab.cx.ti 5).bytes = 1 from rfl, show (Tab.cx.ti 5).size = 1 from rfl] at *)
  all_goals (try simp only [b2, b3, Bool.and_eq_true, Bool.and_eq_false_iff, decide_eq_true_eq, decide_eq_false_iff_not, Bool.not_eq_true', Bool.not_eq_false', gb] at *)
  all_goals first | with_reducible rfl | omega | (show _ * 1 ≤ 140737488355328; omega) | skip
  all_goals (try simp only [Bool.or_eq_true, Bool.or_eq_false_iff, decide_eq_true_eq, decide_eq_false_iff_not] at *)
  all_goals first | omega | skip
  all_goals first | (have hk := hq _ rfl; have hlo : k < 128 := (by omega); have m1 : mny (k : Int) = k + 1 := (by rw [mny_lo (by omega)]; omega); have m2 : tms (k : Int) = 1 := tms_lo (by omega); skip) | (have hk := hq _ rfl; have hlo : ¬ k < 128 := (by omega); have m1 : mny (k : Int) = 1 := mny_hi (by omega); have m2 : tms (k : Int) = k - 127 := (by rw [tms_hi (by omega)]; omega); skip) | (have hk := hq _ rfl) | skip
  all_goals (try (have ht2 := ht; rw [hk, m2] at ht2))
  all_goals (try simp only [m1])
  all_goals first | omega | (have htt : t = 0 ∨ t = 1 := (by omega); rcases htt with rfl | rfl) | skip
  all_goals first | omega | (have hg : (un B n W i).go B n W := (by refine ⟨by omega, ?_⟩; rw [hk, m1]; omega); have e := un_at hg; simp only [hk, m1, m2] at e; rw [e]; try dsimp only) | skip
  all_goals first | omega | rfl | (rw [repB_0]; done) | (rw [wrapI (by omega) (by omega)]; omega) | (rw [repB_s, apB_cat]; done) | (rw [repB_1, apB_cat]; done) | (rw [show (0 : Nat) + 1 = 1 from rfl, repB_1, repB_0]; rw [Nat.mul_zero, Nat.add_zero, apB_cat]; done) | (rw [repB_1, repB_0]; rw [Nat.mul_zero, Nat.add_zero, apB_cat]; done) | (obtain rfl : t = k - 127 := (by omega); rfl) | skip
  all_goals (try simp only [Bool.not_eq_true', Bool.not_eq_false', Bool.or_eq_true, Bool.or_eq_false_iff, decide_eq_true_eq, decide_eq_false_iff_not] at *)
  all_goals (try simp only [bne_iff_ne, ne_eq, bne_eq_false_iff_eq, show Int.toNat 0 = 0 from rfl, show Int.toNat 1 = 1 from rfl, show Int.toNat 2 = 2 from rfl, show Int.toNat 3 = 3 from rfl] at *)
  all_goals first | (exfalso; obtain ⟨q1, q2, q3, q4⟩ := hM; omega) | exact (ck_u8 hB _ _).1 | exact (ck_u8 hB _ _).2 | exact (pk_u8 s4 _ _ _).1 | exact (pk_u8 s4 _ _ _).2 | exact (pkN_bd s4 hSS).1 | exact (pkN_bd s4 hSS).2 | skip
  all_goals first | exact isI_mk | (exfalso; cases (((strI_lit B hB).2 hM).symm.trans (by assumption)); done) | (exfalso; omega) | (exfalso; have hg : ¬ (un B n W i).go B n W := (fun c => by have d1 := c.1; have d2 := c.2; rw [hk] at d2; (try rw [m1] at d2); omega); have e := un_end hiW hg; have e1 : (un B n W i).L = (unD B n W).L := congrArg UnS.L e; have e2 : (un B n W i).at_ = (unD B n W).at_ := congrArg UnS.at_ e; omega) | skip
  all_goals (try (have e := un_end hiW (fun c : (un B n W i).go B n W => by have d1 := c.1; omega); rw [← e] at hL hA hC hP; try rw [← e]))
  all_goals first | exact hpe _ hL | (show 0 < _; omega) | exact (hB _).1 | exact (hB _).2 | exact (s4 _).1 | exact (s4 _).2 | rfl | (exfalso; have q := chk_str2 hB (a := (un B n W i).at_) (m := ((n : Int) - ((un B n W i).at_ : Int)).toNat) (by omega) hC; simp only [q, Bool.true_eq_false] at *; done) | (exfalso; have q := pkd_str2 hB s4 hP; simp only [q, Bool.true_eq_false] at *; done) | skip
  all_goals trace_state
end Go.Proofs.YtjnpngbgapigeaaDoor
