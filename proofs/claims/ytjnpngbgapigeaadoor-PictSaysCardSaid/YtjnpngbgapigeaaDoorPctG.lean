/- Pictures as bytes: the program's unpacking, walked. -/
import Derived.Test.YtjnpngbgapigeaaDoorPctF
namespace Go.Proofs.YtjnpngbgapigeaaDoor
open Go.RowKit Ev
set_option linter.unusedVariables false
set_option linter.unusedSimpArgs false
set_option maxRecDepth 20000
set_option maxHeartbeats 8000000

theorem repB_1 (N : Nat) (D : Nat → Int) (m : Nat) (C : Nat → Int) : repB N D m C 1 = apB N D C := by rw [repB_s N D m C 0, repB_0]; rfl
theorem chk_str2 {B : Nat → Int} (hB : U8s B) {a m : Nat} (hm : m = 2) (h : Chk B a) : ((strI 2 fun j => ckF B a j).toList == (strI m fun j => B (a + j)).toList) = true := (chk_str hB hm).2 h
theorem pkd_str {B D : Nat → Int} (hB : U8s B) (hD : U8s D) {n : Nat} : ((strI (pkN D (B 4) (B 5)) fun j => pkB D (B 4) (B 5) j).toList == (strI n fun j => B j).toList) = true ↔ Pkd B n D := by
  refine (strI_same (pk_u8 hD _ _) hB).trans ⟨fun h => ⟨h.1, fun j hj => h.2 j (by rw [h.1]; exact hj)⟩, fun h => ⟨h.1, fun j hj => h.2 j (by rw [← h.1]; exact hj)⟩⟩
theorem pkd_str2 {B D : Nat → Int} (hB : U8s B) (hD : U8s D) {n : Nat} (h : Pkd B n D) : ((strI (pkN D (B 4) (B 5)) fun j => pkB D (B 4) (B 5) j).toList == (strI n fun j => B j).toList) = true := (pkd_str hB hD).2 h
theorem chk_str3 {B : Nat → Int} (hB : U8s B) {a m : Nat} (hm : m = 2) (h : ((strI 2 fun j => ckF B a j).toList == (strI m fun j => B (a + j)).toList) = true) : Chk B a := (chk_str hB hm).1 h
theorem pkd_str3 {B D : Nat → Int} (hB : U8s B) (hD : U8s D) {n : Nat} (h : ((strI (pkN D (B 4) (B 5)) fun j => pkB D (B 4) (B 5) j).toList == (strI n fun j => B j).toList) = true) : Pkd B n D := (pkd_str hB hD).1 h
theorem strI_lit2 {B : Nat → Int} (hB : U8s B) (h : Mgc B) : ((strI (Int.toNat 4) fun j => B j).toList == (ByteArray.mk #[82, 72, 80, 49]).toList) = true := (strI_lit B hB).2 h
theorem mgc_str {B : Nat → Int} (hB : U8s B) (h : ((strI (Int.toNat 4) fun j => B j).toList == (ByteArray.mk #[82, 72, 80, 49]).toList) = true) : Mgc B := (strI_lit B hB).1 h
structure TmI (T : Nat) where
  t : Nat
  ht : t ≤ T
theorem unE_ok {B : Nat → Int} {n : Nat} (h : unE B n = 0) : 6 ≤ n ∧ Mgc B ∧ Side (B 4) (B 5) ∧ (unD B n (wh4 B)).L = wh4 B ∧ (unD B n (wh4 B)).at_ + 2 = n ∧ Chk B (unD B n (wh4 B)).at_ ∧ Pkd B n (unD B n (wh4 B)).D := by
  by_cases a : n < 6
  · rw [unE_six a] at h; omega
  by_cases b : Mgc B
  · by_cases c : Side (B 4) (B 5)
    · have e : unE B n = unE1 B n (wh4 B) (unD B n (wh4 B)) := by unfold unE; rw [if_neg a, if_pos b, if_pos c]
      rw [e] at h
      refine ⟨by omega, b, c, ?_⟩
      rcases Nat.lt_trichotomy (unD B n (wh4 B)).L (wh4 B) with d | d | d
      · rw [unE1_s d] at h; omega
      · rcases Nat.lt_trichotomy ((unD B n (wh4 B)).at_ + 2) n with f | f | f
        · rw [unE1_c2 d f] at h; omega
        · by_cases g : Chk B (unD B n (wh4 B)).at_
          · by_cases k : Pkd B n (unD B n (wh4 B)).D
            · exact ⟨d, f, g, k⟩
            · rw [unE1_f d f g k] at h; omega
          · rw [unE1_k d f g] at h; omega
        · rw [unE1_s2 d f] at h; omega
      · rw [unE1_c d] at h; omega
    · rw [unE_lim a b c] at h; omega
  · rw [unE_mgc a b] at h; omega
theorem unpP0_f : FnOk Tryd.prog 6 Tryd.f6 := ⟨Tryd.func6, by kernel_rfl⟩
theorem unpP0_a (n : Nat) (B : Nat → Int) (hpre : U8s B ∧ n ≤ 1000000 ∧ unE B n = 0) : ACalls Tryd.prog 6 [ints .u8 n B] (.tup [.agg [.int .i64 (B 4), .int .i64 (B 5), ints .u8 (unD B n (wh4 B)).L (unD B n (wh4 B)).D], .int .i64 0]) := by
  refine acalls_of (inl := hasI (P := Tryd.prog) [] [packM_m]) (base [checkP_k] [] [packM_m]) 0 unpP0_f (And.intro (by kernel_rfl) ?_)
  obtain ⟨hB, hn, hE⟩ := hpre
  have hok := unE_ok hE
  obtain ⟨h6, hM, hS, hL, hA, hC, hP⟩ := hok
  obtain ⟨W, hW⟩ : ∃ W : Nat, wh4 B = W := ⟨_, rfl⟩
  rw [hW] at hL hA hC hP ⊢
  have w0 : ∀ k, IntKind.i64.wrap (B k) = B k := fun k => by have := hB k; exact wrapI (by omega) (by omega)
  have hz := hS.wraps
  have hy := hS.wh
  have hSS := hS
  have hWe : (W : Int) = 4 * (B 4 * B 5) := by rw [← hW]; unfold wh4; omega
  have wS : IntKind.i64.wrap (IntKind.i64.wrap (4 * B 4) * B 5) = (W : Int) := by rw [hz.2.2, Int.mul_assoc, hz.2.1, hWe]
  have hpe : ∀ m : Nat, m = W → picE (B 4) (B 5) m = 0 := fun m hm => picE0 hSS (by omega)
  obtain ⟨c1, c2, c3, c4⟩ := hS
  repeat' (first | refine And.intro ?_ ?_ | (with_reducible exact ff_elim) | (with_reducible exact tf_elim) | refine num_elim ?_ | intro _ | (with_reducible rfl) | ((with_reducible refine lk_t ?_); exact rfl) | ((with_reducible refine pf_t ?_); exact rfl) | refine tell ?_ | exact True.intro | (refine IsT.of ?_; kernel_rfl))
  all_goals (try (refine loop_keep [0, 2, 6] [0] ?_; refine LoopI.mk (UnI B n W) (fun j => [(4, .own 1 0), (5, .int .i64 (un B n W j.i).at_)]) (fun j => [(1, .row [.int .i64 (B 4), .int .i64 (B 5), .os 2 1 0 (un B n W j.i).L]), (2, .nums .u8 (un B n W j.i).L (un B n W j.i).D)]) (fun j => W - (un B n W j.i).L) (⟨0, Nat.zero_le _, Nat.zero_le _⟩) (wk_mk [some 20, none, some 0] ?_) (fun ⟨i, hi, hiW⟩ => ?_)))
  repeat' (first | refine And.intro ?_ ?_ | (with_reducible exact ff_elim) | (with_reducible exact tf_elim) | refine' stp_mk [some 1, some _, some 0] ((⟨i + 1, ?_, ?_⟩ : UnI B n W)) ?_ ?_ | refine num_elim ?_ | intro _ | (with_reducible rfl) | ((with_reducible refine lk_t ?_); exact rfl) | ((with_reducible refine pf_t ?_); exact rfl) | refine tell ?_ | exact True.intro | (refine IsT.of ?_; kernel_rfl))
  all_goals (try (refine loop_keep [0, 2, 5, 6, 9, 105] [0] ?_; refine LoopI.mk (TmI (tms (B (un B n W i).at_))) (fun j => [(4, .own 1 0), (106, .int .i64 j.t)]) (fun j => [(1, .row [.int .i64 (B 4), .int .i64 (B 5), .os 2 1 0 ((un B n W i).L + 4 * j.t)]), (2, .nums .u8 ((un B n W i).L + 4 * j.t) (repB (un B n W i).L (un B n W i).D 4 (fun j => B ((un B n W i).at_ + 1 + j)) j.t))]) (fun j => tms (B (un B n W i).at_) - j.t) (⟨0, Nat.zero_le _⟩) (wk_mk [some 1, some 2, some 0] ?_) (fun ⟨t, ht⟩ => ?_)))
  repeat' (first | refine And.intro ?_ ?_ | (with_reducible exact ff_elim) | (with_reducible exact tf_elim) | refine' stp_mk [some 1, some _, some 0] ((⟨t + 1, ?_⟩ : TmI (tms (B (un B n W i).at_)))) ?_ ?_ | refine' stp_mk [some 1, some _, some 0] (⟨i + 1, ?_, ?_⟩ : UnI B n W) ?_ ?_ | refine num_elim ?_ | intro _ | (with_reducible rfl) | ((with_reducible refine lk_t ?_); exact rfl) | ((with_reducible refine pf_t ?_); exact rfl) | refine tell ?_ | exact True.intro | (refine IsT.of ?_; kernel_rfl))
  all_goals (try exact (1 : Nat))
  all_goals (try refine Tell.mk ?_)
  all_goals (try dsimp only at *)
  all_goals first | with_reducible rfl | with_reducible exact isI_mk | with_reducible assumption | (with_reducible refine gb_t ?_; with_reducible assumption) | (with_reducible refine gb_f ?_; with_reducible assumption) | ((with_reducible refine ks_t ?_); rfl) | ((show (_ : Nat) ≤ _); decide) | ((show (_ : Int) ≤ _); decide) | skip
  all_goals (try simp only [intF_mk, mulN1, Nat.add_zero, Nat.zero_add, Int.toNat_natCast, show mulN (Int.toNat 4) 1 = 4 from rfl, show mulN (Int.toNat 5) 1 = 5 from rfl, w0, wS, shiftA_none, shiftA_some, lenN_some, lenN_none, avInt_int] at *)
  all_goals first | with_reducible rfl | omega | (rw [un_0]; done) | (rw [un_0]; rfl) | skip
  all_goals (try (have sss := un_ok hB h6 (W := W) i; obtain ⟨s1, s2, s3, s4⟩ := sss; have hk0 := hB (un B n W i).at_; obtain ⟨k, hk⟩ : ∃ k : Nat, B (un B n W i).at_ = (k : Int) := ⟨(B (un B n W i).at_).toNat, by omega⟩; have hk1 : k < 256 := (by omega); have hq : ∀ x, x = (un B n W i).at_ → B x = (k : Int) := (fun x hx => by rw [hx]; exact hk); have a1 : IntKind.i64.wrap (((un B n W i).at_ : Int) + 1) = (((un B n W i).at_ + 1 : Nat) : Int) := (by rw [wrapI (by omega) (by omega)]; omega); have a2 : IntKind.i64.wrap ((k : Int) + 1) = ((k + 1 : Nat) : Int) := (by rw [wrapI (by omega) (by omega)]; omega); have a3 : IntKind.i64.wrap (4 * ((k + 1 : Nat) : Int)) = ((4 * (k + 1) : Nat) : Int) := (by rw [wrapI (by omega) (by omega)]; omega); have a4 : IntKind.i64.wrap ((((un B n W i).at_ + 1 : Nat) : Int) + ((4 * (k + 1) : Nat) : Int)) = (((un B n W i).at_ + 1 + 4 * (k + 1) : Nat) : Int) := (by rw [wrapI (by omega) (by omega)]; omega); have a5 : IntKind.i64.wrap ((((un B n W i).at_ + 1 : Nat) : Int) + 4) = (((un B n W i).at_ + 1 + 4 : Nat) : Int) := (by rw [wrapI (by omega) (by omega)]; omega); have a6 : IntKind.i64.wrap (1 + ((4 * (k + 1) : Nat) : Int)) = ((1 + 4 * (k + 1) : Nat) : Int) := (by rw [wrapI (by omega) (by omega)]; omega); have a7 : IntKind.i64.wrap (1 + 4) = 5 := rfl; have a8 : IntKind.i64.wrap (((un B n W i).at_ : Int) + ((1 + 4 * (k + 1) : Nat) : Int)) = (((un B n W i).at_ + 1 + 4 * (k + 1) : Nat) : Int) := (by rw [wrapI (by omega) (by omega)]; omega); have a9 : IntKind.i64.wrap (((un B n W i).at_ : Int) + 5) = (((un B n W i).at_ + 1 + 4 : Nat) : Int) := (by rw [wrapI (by omega) (by omega)]; omega); have b1 : IntKind.i64.wrap ((k : Int) - 127) = (k : Int) - 127 := wrapI (by omega) (by omega); have b2 : ((((un B n W i).at_ + 1 + 4 * (k + 1) : Nat) : Int) - (((un B n W i).at_ + 1 : Nat) : Int)).toNat = 4 * (k + 1) := (by omega); have b3 : ((((un B n W i).at_ + 1 + 4 : Nat) : Int) - (((un B n W i).at_ + 1 : Nat) : Int)).toNat = 4 := (by omega); have b4 : IntKind.i64.wrap (((un B n W i).at_ : Int) + 2) = (((un B n W i).at_ + 2 : Nat) : Int) := (by rw [wrapI (by omega) (by omega)]; omega)))
  all_goals (try simp only [hk, a1, a2, a3, a4, a5, a6, a7, a8, a9, b1, b2, b3, b4, mulN1, Int.toNat_natCast, show (Tab.cx.ti 5).bytes = 1 from rfl, show (Tab.cx.ti 5).size = 1 from rfl] at *)
  all_goals (try simp only [b2, b3, Bool.and_eq_true, Bool.and_eq_false_iff, decide_eq_true_eq, decide_eq_false_iff_not, Bool.not_eq_true', Bool.not_eq_false', gb] at *)
  all_goals first | with_reducible rfl | omega | (show _ * 1 ≤ 140737488355328; omega) | skip
  all_goals (try simp only [Bool.or_eq_true, Bool.or_eq_false_iff, decide_eq_true_eq, decide_eq_false_iff_not] at *)
  all_goals first | omega | skip
  all_goals first | (have hk := hq _ rfl; have hlo : k < 128 := (by omega); have m1 : mny (k : Int) = k + 1 := (by rw [mny_lo (by omega)]; omega); have m2 : tms (k : Int) = 1 := tms_lo (by omega); skip) | (have hk := hq _ rfl; have hlo : ¬ k < 128 := (by omega); have m1 : mny (k : Int) = 1 := mny_hi (by omega); have m2 : tms (k : Int) = k - 127 := (by rw [tms_hi (by omega)]; omega); skip) | (have hk := hq _ rfl) | skip
  all_goals first | omega | (rw [m2] at ht; omega) | (have hg : (un B n W i).go B n W := (by refine ⟨by omega, ?_⟩; rw [hk, m1]; omega); have e := un_at hg; simp only [hk, m1, m2] at e; rw [e]; try dsimp only) | skip
  all_goals first | omega | rfl | (rw [repB_0]; done) | (rw [wrapI (by omega) (by omega)]; omega) | (rw [repB_s, apB_cat]; done) | (rw [repB_1, apB_cat]; done) | (obtain rfl : t = k - 127 := (by omega); rfl) | skip
  all_goals (try simp only [Bool.not_eq_true', Bool.not_eq_false', Bool.or_eq_true, Bool.or_eq_false_iff, decide_eq_true_eq, decide_eq_false_iff_not] at *)
  all_goals first | exact isI_mk | (exfalso; cases (((strI_lit B hB).2 hM).symm.trans (by assumption)); done) | (exfalso; omega) | (exfalso; have hg : ¬ (un B n W i).go B n W := (fun c => by have d1 := c.1; have d2 := c.2; rw [hk] at d2; (try rw [m1] at d2); omega); have e := un_end hiW hg; have e1 : (un B n W i).L = (unD B n W).L := congrArg UnS.L e; have e2 : (un B n W i).at_ = (unD B n W).at_ := congrArg UnS.at_ e; omega) | skip
  all_goals (try (have e := un_end hiW (fun c : (un B n W i).go B n W => by have d1 := c.1; omega); rw [← e] at hL hA hC hP; try rw [← e]))
  all_goals first | exact hpe _ hL | (show 0 < _; omega) | exact (hB _).1 | exact (hB _).2 | exact (s4 _).1 | exact (s4 _).2 | rfl | (exfalso; have q := chk_str2 hB (a := (un B n W i).at_) (m := ((n : Int) - ((un B n W i).at_ : Int)).toNat) (by omega) hC; simp only [q, Bool.true_eq_false] at *; done) | (exfalso; have q := pkd_str2 hB s4 hP; simp only [q, Bool.true_eq_false] at *; done) | skip
  all_goals trace_state
theorem unpPa_f : FnOk Tryd.prog 6 Tryd.f6 := ⟨Tryd.func6, by kernel_rfl⟩
theorem unpPa_a (n : Nat) (B : Nat → Int) (hpre : U8s B ∧ n ≤ 1000000 ∧ (n < 6 ∨ ¬ Mgc B ∨ ¬ Side (B 4) (B 5))) : ACalls Tryd.prog 6 [ints .u8 n B] (.tup [.agg [.int .i64 0, .int .i64 0, .nils], .int .i64 (unE B n)]) := by
  refine acalls_of (inl := hasI (P := Tryd.prog) [] [packM_m]) (base [checkP_k] [] [packM_m]) 0 unpPa_f (And.intro (by kernel_rfl) ?_)
  obtain ⟨hB, hn, hE⟩ := hpre
  have w0 : ∀ k, IntKind.i64.wrap (B k) = B k := fun k => by have := hB k; exact wrapI (by omega) (by omega)
  repeat' (first | refine And.intro ?_ ?_ | (with_reducible exact ff_elim) | (with_reducible exact tf_elim) | refine num_elim ?_ | intro _ | (with_reducible rfl) | ((with_reducible refine lk_t ?_); exact rfl) | ((with_reducible refine pf_t ?_); exact rfl) | refine tell ?_ | exact True.intro | (refine IsT.of ?_; kernel_rfl))
  all_goals (try refine Tell.mk ?_)
  all_goals (try dsimp only at *)
  all_goals first | with_reducible rfl | with_reducible exact isI_mk | with_reducible assumption | (with_reducible refine gb_t ?_; with_reducible assumption) | (with_reducible refine gb_f ?_; with_reducible assumption) | ((with_reducible refine ks_t ?_); rfl) | ((show (_ : Nat) ≤ _); decide) | ((show (_ : Int) ≤ _); decide) | skip
  all_goals (try simp only [intF_mk, mulN1, Nat.add_zero, Nat.zero_add, Int.toNat_natCast, show mulN (Int.toNat 4) 1 = 4 from rfl, show mulN (Int.toNat 5) 1 = 5 from rfl, w0, shiftA_none, shiftA_some, lenN_some, lenN_none, avInt_int] at *)
  all_goals first | omega | exact isI_mk | (show 0 < _; omega) | exact unE_six (by omega) | exact (unE_six (by omega)).symm | skip
  all_goals (try simp only [Bool.not_eq_true', Bool.not_eq_false', Bool.or_eq_true, Bool.or_eq_false_iff, decide_eq_true_eq, decide_eq_false_iff_not, gb] at *)
  all_goals first | rfl | omega | exact unE_six (by omega) | exact (unE_six (by omega)).symm | exact (hB _).1 | exact (hB _).2 | (rw [unE_mgc (by omega) (fun c => by have q := strI_lit2 hB c; simp only [q, Bool.true_eq_false] at *)]; done) | (have hM : Mgc B := mgc_str hB (by assumption); first | (rw [unE_lim (by omega) hM (fun c => by obtain ⟨c1, c2, c3, c4⟩ := c; omega)]; done) | (exfalso; have hS : Side (B 4) (B 5) := (by refine ⟨?_, ?_, ?_, ?_⟩ <;> omega); rcases hE with q | q | q; exact absurd q (by omega); exact q hM; exact q hS)) | skip
  all_goals trace_state
theorem unpPb_f : FnOk Tryd.prog 6 Tryd.f6 := ⟨Tryd.func6, by kernel_rfl⟩
theorem unpPb_a (n : Nat) (B : Nat → Int) (hpre : U8s B ∧ n ≤ 1000000 ∧ (6 ≤ n ∧ Mgc B ∧ Side (B 4) (B 5)) ∧ ¬ unE B n = 0) : ACalls Tryd.prog 6 [ints .u8 n B] (.tup [.agg [.int .i64 0, .int .i64 0, .nils], .int .i64 (unE B n)]) := by
  refine acalls_of (inl := hasI (P := Tryd.prog) [] [packM_m]) (base [checkP_k] [] [packM_m]) 0 unpPb_f (And.intro (by kernel_rfl) ?_)
  obtain ⟨hB, hn, ⟨h6, hM, hS⟩, hE⟩ := hpre
  have h6' : ¬ n < 6 := by omega
  obtain ⟨W, hW⟩ : ∃ W : Nat, wh4 B = W := ⟨_, rfl⟩
  have w0 : ∀ k, IntKind.i64.wrap (B k) = B k := fun k => by have := hB k; exact wrapI (by omega) (by omega)
  have hz := hS.wraps
  have hy := hS.wh
  have hSS := hS
  have hWe : (W : Int) = 4 * (B 4 * B 5) := by rw [← hW]; unfold wh4; omega
  have wS : IntKind.i64.wrap (IntKind.i64.wrap (4 * B 4) * B 5) = (W : Int) := by rw [hz.2.2, Int.mul_assoc, hz.2.1, hWe]
  have hpe : ∀ m : Nat, m = W → picE (B 4) (B 5) m = 0 := fun m hm => picE0 hSS (by omega)
  obtain ⟨c1, c2, c3, c4⟩ := hS
  repeat' (first | refine And.intro ?_ ?_ | (with_reducible exact ff_elim) | (with_reducible exact tf_elim) | refine num_elim ?_ | intro _ | (with_reducible rfl) | ((with_reducible refine lk_t ?_); exact rfl) | ((with_reducible refine pf_t ?_); exact rfl) | refine tell ?_ | exact True.intro | (refine IsT.of ?_; kernel_rfl))
  all_goals (try (refine loop_keep [0, 2, 6] [0] ?_; refine LoopI.mk (UnI B n W) (fun j => [(4, .own 1 0), (5, .int .i64 (un B n W j.i).at_)]) (fun j => [(1, .row [.int .i64 (B 4), .int .i64 (B 5), .os 2 1 0 (un B n W j.i).L]), (2, .nums .u8 (un B n W j.i).L (un B n W j.i).D)]) (fun j => W - (un B n W j.i).L) (⟨0, Nat.zero_le _, Nat.zero_le _⟩) (wk_mk [some 20, none, some 0] ?_) (fun ⟨i, hi, hiW⟩ => ?_)))
  repeat' (first | refine And.intro ?_ ?_ | (with_reducible exact ff_elim) | (with_reducible exact tf_elim) | refine' stp_mk [some 1, some _, some 0] ((⟨i + 1, ?_, ?_⟩ : UnI B n W)) ?_ ?_ | refine num_elim ?_ | intro _ | (with_reducible rfl) | ((with_reducible refine lk_t ?_); exact rfl) | ((with_reducible refine pf_t ?_); exact rfl) | refine tell ?_ | exact True.intro | (refine IsT.of ?_; kernel_rfl))
  all_goals (try (refine loop_keep [0, 2, 5, 6, 9, 105] [0] ?_; refine LoopI.mk (TmI (tms (B (un B n W i).at_))) (fun j => [(4, .own 1 0), (106, .int .i64 j.t)]) (fun j => [(1, .row [.int .i64 (B 4), .int .i64 (B 5), .os 2 1 0 ((un B n W i).L + 4 * j.t)]), (2, .nums .u8 ((un B n W i).L + 4 * j.t) (repB (un B n W i).L (un B n W i).D 4 (fun j => B ((un B n W i).at_ + 1 + j)) j.t))]) (fun j => tms (B (un B n W i).at_) - j.t) (⟨0, Nat.zero_le _⟩) (wk_mk [some 1, some 2, some 0] ?_) (fun ⟨t, ht⟩ => ?_)))
  repeat' (first | refine And.intro ?_ ?_ | (with_reducible exact ff_elim) | (with_reducible exact tf_elim) | refine' stp_mk [some 1, some _, some 0] ((⟨t + 1, ?_⟩ : TmI (tms (B (un B n W i).at_)))) ?_ ?_ | refine' stp_mk [some 1, some _, some 0] (⟨i + 1, ?_, ?_⟩ : UnI B n W) ?_ ?_ | refine num_elim ?_ | intro _ | (with_reducible rfl) | ((with_reducible refine lk_t ?_); exact rfl) | ((with_reducible refine pf_t ?_); exact rfl) | refine tell ?_ | exact True.intro | (refine IsT.of ?_; kernel_rfl))
  all_goals (try exact (1 : Nat))
  all_goals (try refine Tell.mk ?_)
  all_goals (try dsimp only at *)
  all_goals first | with_reducible rfl | with_reducible exact isI_mk | with_reducible assumption | (with_reducible refine gb_t ?_; with_reducible assumption) | (with_reducible refine gb_f ?_; with_reducible assumption) | ((with_reducible refine ks_t ?_); rfl) | ((show (_ : Nat) ≤ _); decide) | ((show (_ : Int) ≤ _); decide) | skip
  all_goals (try simp only [intF_mk, mulN1, Nat.add_zero, Nat.zero_add, Int.toNat_natCast, show mulN (Int.toNat 4) 1 = 4 from rfl, show mulN (Int.toNat 5) 1 = 5 from rfl, w0, wS, shiftA_none, shiftA_some, lenN_some, lenN_none, avInt_int] at *)
  all_goals first | with_reducible rfl | omega | (rw [un_0]; done) | (rw [un_0]; rfl) | skip
  all_goals (try (have sss := un_ok hB h6 (W := W) i; obtain ⟨s1, s2, s3, s4⟩ := sss; have hk0 := hB (un B n W i).at_; obtain ⟨k, hk⟩ : ∃ k : Nat, B (un B n W i).at_ = (k : Int) := ⟨(B (un B n W i).at_).toNat, by omega⟩; have hk1 : k < 256 := (by omega); have hq : ∀ x, x = (un B n W i).at_ → B x = (k : Int) := (fun x hx => by rw [hx]; exact hk); have a1 : IntKind.i64.wrap (((un B n W i).at_ : Int) + 1) = (((un B n W i).at_ + 1 : Nat) : Int) := (by rw [wrapI (by omega) (by omega)]; omega); have a2 : IntKind.i64.wrap ((k : Int) + 1) = ((k + 1 : Nat) : Int) := (by rw [wrapI (by omega) (by omega)]; omega); have a3 : IntKind.i64.wrap (4 * ((k + 1 : Nat) : Int)) = ((4 * (k + 1) : Nat) : Int) := (by rw [wrapI (by omega) (by omega)]; omega); have a4 : IntKind.i64.wrap ((((un B n W i).at_ + 1 : Nat) : Int) + ((4 * (k + 1) : Nat) : Int)) = (((un B n W i).at_ + 1 + 4 * (k + 1) : Nat) : Int) := (by rw [wrapI (by omega) (by omega)]; omega); have a5 : IntKind.i64.wrap ((((un B n W i).at_ + 1 : Nat) : Int) + 4) = (((un B n W i).at_ + 1 + 4 : Nat) : Int) := (by rw [wrapI (by omega) (by omega)]; omega); have a6 : IntKind.i64.wrap (1 + ((4 * (k + 1) : Nat) : Int)) = ((1 + 4 * (k + 1) : Nat) : Int) := (by rw [wrapI (by omega) (by omega)]; omega); have a7 : IntKind.i64.wrap (1 + 4) = 5 := rfl; have a8 : IntKind.i64.wrap (((un B n W i).at_ : Int) + ((1 + 4 * (k + 1) : Nat) : Int)) = (((un B n W i).at_ + 1 + 4 * (k + 1) : Nat) : Int) := (by rw [wrapI (by omega) (by omega)]; omega); have a9 : IntKind.i64.wrap (((un B n W i).at_ : Int) + 5) = (((un B n W i).at_ + 1 + 4 : Nat) : Int) := (by rw [wrapI (by omega) (by omega)]; omega); have b1 : IntKind.i64.wrap ((k : Int) - 127) = (k : Int) - 127 := wrapI (by omega) (by omega); have b2 : ((((un B n W i).at_ + 1 + 4 * (k + 1) : Nat) : Int) - (((un B n W i).at_ + 1 : Nat) : Int)).toNat = 4 * (k + 1) := (by omega); have b3 : ((((un B n W i).at_ + 1 + 4 : Nat) : Int) - (((un B n W i).at_ + 1 : Nat) : Int)).toNat = 4 := (by omega); have b4 : IntKind.i64.wrap (((un B n W i).at_ : Int) + 2) = (((un B n W i).at_ + 2 : Nat) : Int) := (by rw [wrapI (by omega) (by omega)]; omega)))
  all_goals (try simp only [hk, a1, a2, a3, a4, a5, a6, a7, a8, a9, b1, b2, b3, b4, mulN1, Int.toNat_natCast, show (Tab.cx.ti 5).bytes = 1 from rfl, show (Tab.cx.ti 5).size = 1 from rfl] at *)
  all_goals (try simp only [b2, b3, Bool.and_eq_true, Bool.and_eq_false_iff, decide_eq_true_eq, decide_eq_false_iff_not, Bool.not_eq_true', Bool.not_eq_false', gb] at *)
  all_goals first | with_reducible rfl | omega | (show _ * 1 ≤ 140737488355328; omega) | skip
  all_goals (try simp only [Bool.or_eq_true, Bool.or_eq_false_iff, decide_eq_true_eq, decide_eq_false_iff_not] at *)
  all_goals first | omega | skip
  all_goals first | (have hk := hq _ rfl; have hlo : k < 128 := (by omega); have m1 : mny (k : Int) = k + 1 := (by rw [mny_lo (by omega)]; omega); have m2 : tms (k : Int) = 1 := tms_lo (by omega); skip) | (have hk := hq _ rfl; have hlo : ¬ k < 128 := (by omega); have m1 : mny (k : Int) = 1 := mny_hi (by omega); have m2 : tms (k : Int) = k - 127 := (by rw [tms_hi (by omega)]; omega); skip) | (have hk := hq _ rfl) | skip
  all_goals first | omega | (rw [m2] at ht; omega) | (have hg : (un B n W i).go B n W := (by refine ⟨by omega, ?_⟩; rw [hk, m1]; omega); have e := un_at hg; simp only [hk, m1, m2] at e; rw [e]; try dsimp only) | skip
  all_goals first | omega | rfl | (rw [repB_0]; done) | (rw [wrapI (by omega) (by omega)]; omega) | (rw [repB_s, apB_cat]; done) | (rw [repB_1, apB_cat]; done) | (obtain rfl : t = k - 127 := (by omega); rfl) | skip
  all_goals (try simp only [Bool.not_eq_true', Bool.not_eq_false', Bool.or_eq_true, Bool.or_eq_false_iff, decide_eq_true_eq, decide_eq_false_iff_not] at *)
  all_goals first | exact isI_mk | (show 0 < _; omega) | exact (hB _).1 | exact (hB _).2 | exact (s4 _).1 | exact (s4 _).2 | (exfalso; have q := strI_lit2 hB hM; simp only [q, Bool.true_eq_false] at *; done) | exact hpe _ (by omega) | skip
  all_goals (try (have hg : ¬ (un B n W i).go B n W := (fun c => by have d1 := c.1; have d2 := c.2; rw [hk] at d2; (try rw [m1] at d2); omega); have hu := unE_in h6' hM hSS hW.symm hiW hg))
  all_goals first | (rw [hu, unE1_s (by omega)]; done) | (rw [hu, unE1_c (by omega)]; done) | (rw [hu, unE1_s2 (by omega) (by omega)]; done) | (rw [hu, unE1_c2 (by omega) (by omega)]; done) | (rw [hu, unE1_k (by omega) (by omega) (fun c => by have q := chk_str2 hB (a := (un B n W i).at_) (m := ((n : Int) - ((un B n W i).at_ : Int)).toNat) (by omega) c; simp only [q, Bool.true_eq_false] at *)]; done) | skip
  all_goals (try (have hC : Chk B (un B n W i).at_ := chk_str3 hB (m := ((n : Int) - ((un B n W i).at_ : Int)).toNat) (by omega) (by assumption)))
  all_goals first | (rw [hu, unE1_f (by omega) (by omega) hC (fun c => by have q := pkd_str2 hB s4 c; simp only [q, Bool.true_eq_false] at *)]; done) | (exfalso; rw [hu] at hE; exact hE (unE1_0 (by omega) (by omega) hC (pkd_str3 hB s4 (by assumption)))) | skip
  all_goals trace_state
end Go.Proofs.YtjnpngbgapigeaaDoor
