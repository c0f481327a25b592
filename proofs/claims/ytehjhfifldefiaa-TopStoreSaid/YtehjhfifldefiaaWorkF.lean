/- Films saved as bytes, as the document has it. -/
import Derived.Test.YtehjhfifldefiaaWorkE
namespace Go.Proofs.Ytehjhfifldefiaa
open Go.RowKit Ev
set_option linter.unusedVariables false
set_option linter.unusedSimpArgs false
set_option maxRecDepth 20000
set_option maxHeartbeats 4000000

theorem u8_mod (y : Int) : IntKind.u8.wrap (y % 256) = IntKind.u8.wrap y := by
  simp only [IntKind.wrap, IntKind.signed, IntKind.bits]
  simp
theorem byte_at {x p : Int} (e : Nat) (hx : 0 ≤ x ∧ x < 9223372036854775808) (hp : p = 2 ^ e) : byteP x e = IntKind.u8.wrap ((IntKind.i64.wrap (x.tdiv p)).tmod 256) := by
  have h1 : (0 : Int) < 2 ^ e := Int.pow_pos (by decide)
  subst hp
  have h2 : x.tdiv (2 ^ e) = x / 2 ^ e := Int.tdiv_eq_ediv_of_nonneg hx.1
  have h3 : 0 ≤ x / 2 ^ e := Int.ediv_nonneg hx.1 (by omega)
  have h4 : x / 2 ^ e ≤ x := Int.ediv_le_self _ hx.1
  rw [h2, wrapI (by omega) (by omega), Int.tmod_eq_emod_of_nonneg h3, u8_mod]
  unfold byteP
  rw [Int.fdiv_eq_ediv_of_nonneg _ (by omega)]
theorem sp5 : IntKind.i64.wrap (1 * 2 ^ min (IntKind.i64.wrap (8 * 5)).toNat IntKind.i64.bits) = 2 ^ 40 := by decide
theorem sp4 : IntKind.i64.wrap (1 * 2 ^ min (IntKind.i64.wrap (8 * 4)).toNat IntKind.i64.bits) = 2 ^ 32 := by decide
theorem sp3 : IntKind.i64.wrap (1 * 2 ^ min (IntKind.i64.wrap (8 * 3)).toNat IntKind.i64.bits) = 2 ^ 24 := by decide
theorem sp2 : IntKind.i64.wrap (1 * 2 ^ min (IntKind.i64.wrap (8 * 2)).toNat IntKind.i64.bits) = 2 ^ 16 := by decide
theorem sp1 : IntKind.i64.wrap (1 * 2 ^ min (Int.toNat 8) IntKind.i64.bits) = 2 ^ 8 := by decide
theorem sp0 : (1 : Int) = 2 ^ 0 := by decide
theorem bytes3_f : FnOk Try.prog 28 Try.f28 := ⟨Try.func28, by kernel_rfl⟩
theorem bytes3_a (x : Int) (hpre : 0 ≤ x ∧ x < 9223372036854775808) : ACalls Try.prog 28 [.int .i64 x, .int .i64 3] (ints .u8 3 (putV x 3)) := by
  refine acalls_of (inl := hasI (P := Try.prog) [] []) (base [] [] []) 0 bytes3_f (And.intro (by kernel_rfl) ?_)
  repeat' (first | refine And.intro ?_ ?_ | refine num_lit 0 (by decide) ?_ | refine num_lit 1 (by decide) ?_ | refine num_lit 2 (by decide) ?_ | refine num_lit 3 (by decide) ?_ | refine num_lit 4 (by decide) ?_ | refine num_lit 5 (by decide) ?_ | refine num_lit 6 (by decide) ?_ | refine num_lit 7 (by decide) ?_ | refine num_lit 8 (by decide) ?_ | refine num_elim ?_ | (with_reducible exact ff_elim) | (with_reducible exact tf_elim) | (intro h; exact absurd h (by decide)) | intro _ | (with_reducible rfl) | refine Or.inl ⟨4, ?_⟩ | refine tell ?_ | exact True.intro | (refine IsT.of ?_; kernel_rfl))
  all_goals (try refine Tell.mk ?_)
  all_goals first | with_reducible rfl | with_reducible exact isI_mk | with_reducible assumption | (with_reducible refine gb_t ?_; with_reducible assumption) | (with_reducible refine gb_f ?_; with_reducible assumption) | ((with_reducible refine lk_t ?_); rfl) | ((with_reducible refine okF_t ?_); kernel_rfl) | ((with_reducible refine ks_t ?_); rfl) | ((with_reducible refine pk_t ?_); rfl) | ((with_reducible refine pf_t ?_); rfl) | skip
  all_goals (try dsimp only at *)
  all_goals (try simp only [decide_eq_true_eq, decide_eq_false_iff_not, Bool.or_eq_true, Bool.or_eq_false_iff, Bool.and_eq_true, Bool.and_eq_false_iff, Bool.not_eq_true', Bool.not_eq_false', bne_iff_ne, ne_eq, beq_iff_eq, bne_eq_false_iff_eq, beq_eq_false_iff_ne, Int.not_lt, Int.not_le, gt_iff_lt, ge_iff_le] at *)
  all_goals (try simp only [mulN1, Nat.add_zero, Nat.zero_add, Nat.mul_one, Int.toNat_natCast, avInt_int] at *)
  all_goals first | with_reducible rfl | with_reducible exact nums_N | omega | ((with_reducible refine by_le 1 rfl ?_); omega) | ((with_reducible refine by_le 8 rfl ?_); omega) | (rw [wrapI (by omega) (by omega)] <;> omega) | skip
  all_goals (refine congrArg (AV.int .u8) ?_; simp only [catI_some, catI_zero]; unfold putV)
  all_goals (repeat' split)
  all_goals first | exact (congrArg (byteP x) (by omega)).trans (byte_at 0 hpre sp0) | exact (congrArg (byteP x) (by omega)).trans (byte_at 8 hpre sp1) | exact (congrArg (byteP x) (by omega)).trans (byte_at 16 hpre sp2)
def bytes3_k : Con Try.prog := ⟨28, fun args => match args with | [.int .i64 x, .int .i64 3] => .ok (some (0 ≤ x ∧ x < 9223372036854775808)) (ints .u8 3 (putV x 3)) | _ => .no, by
  intro args p r h hp
  split at h
  · cases h; exact bytes3_a _ hp
  · cases h⟩
theorem bytes4_f : FnOk Try.prog 28 Try.f28 := ⟨Try.func28, by kernel_rfl⟩
theorem bytes4_a (x : Int) (hpre : 0 ≤ x ∧ x < 9223372036854775808) : ACalls Try.prog 28 [.int .i64 x, .int .i64 4] (ints .u8 4 (putV x 4)) := by
  refine acalls_of (inl := hasI (P := Try.prog) [] []) (base [] [] []) 0 bytes4_f (And.intro (by kernel_rfl) ?_)
  repeat' (first | refine And.intro ?_ ?_ | refine num_lit 0 (by decide) ?_ | refine num_lit 1 (by decide) ?_ | refine num_lit 2 (by decide) ?_ | refine num_lit 3 (by decide) ?_ | refine num_lit 4 (by decide) ?_ | refine num_lit 5 (by decide) ?_ | refine num_lit 6 (by decide) ?_ | refine num_lit 7 (by decide) ?_ | refine num_lit 8 (by decide) ?_ | refine num_elim ?_ | (with_reducible exact ff_elim) | (with_reducible exact tf_elim) | (intro h; exact absurd h (by decide)) | intro _ | (with_reducible rfl) | refine Or.inl ⟨5, ?_⟩ | refine tell ?_ | exact True.intro | (refine IsT.of ?_; kernel_rfl))
  all_goals (try refine Tell.mk ?_)
  all_goals first | with_reducible rfl | with_reducible exact isI_mk | with_reducible assumption | (with_reducible refine gb_t ?_; with_reducible assumption) | (with_reducible refine gb_f ?_; with_reducible assumption) | ((with_reducible refine lk_t ?_); rfl) | ((with_reducible refine okF_t ?_); kernel_rfl) | ((with_reducible refine ks_t ?_); rfl) | ((with_reducible refine pk_t ?_); rfl) | ((with_reducible refine pf_t ?_); rfl) | skip
  all_goals (try dsimp only at *)
  all_goals (try simp only [decide_eq_true_eq, decide_eq_false_iff_not, Bool.or_eq_true, Bool.or_eq_false_iff, Bool.and_eq_true, Bool.and_eq_false_iff, Bool.not_eq_true', Bool.not_eq_false', bne_iff_ne, ne_eq, beq_iff_eq, bne_eq_false_iff_eq, beq_eq_false_iff_ne, Int.not_lt, Int.not_le, gt_iff_lt, ge_iff_le] at *)
  all_goals (try simp only [mulN1, Nat.add_zero, Nat.zero_add, Nat.mul_one, Int.toNat_natCast, avInt_int] at *)
  all_goals first | with_reducible rfl | with_reducible exact nums_N | omega | ((with_reducible refine by_le 1 rfl ?_); omega) | ((with_reducible refine by_le 8 rfl ?_); omega) | (rw [wrapI (by omega) (by omega)] <;> omega) | skip
  all_goals (refine congrArg (AV.int .u8) ?_; simp only [catI_some, catI_zero]; unfold putV)
  all_goals (repeat' split)
  all_goals first | exact (congrArg (byteP x) (by omega)).trans (byte_at 0 hpre sp0) | exact (congrArg (byteP x) (by omega)).trans (byte_at 8 hpre sp1) | exact (congrArg (byteP x) (by omega)).trans (byte_at 16 hpre sp2) | exact (congrArg (byteP x) (by omega)).trans (byte_at 24 hpre sp3)
def bytes4_k : Con Try.prog := ⟨28, fun args => match args with | [.int .i64 x, .int .i64 4] => .ok (some (0 ≤ x ∧ x < 9223372036854775808)) (ints .u8 4 (putV x 4)) | _ => .no, by
  intro args p r h hp
  split at h
  · cases h; exact bytes4_a _ hp
  · cases h⟩
theorem bytes6_f : FnOk Try.prog 28 Try.f28 := ⟨Try.func28, by kernel_rfl⟩
theorem bytes6_a (x : Int) (hpre : 0 ≤ x ∧ x < 9223372036854775808) : ACalls Try.prog 28 [.int .i64 x, .int .i64 6] (ints .u8 6 (putV x 6)) := by
  refine acalls_of (inl := hasI (P := Try.prog) [] []) (base [] [] []) 0 bytes6_f (And.intro (by kernel_rfl) ?_)
  repeat' (first | refine And.intro ?_ ?_ | refine num_lit 0 (by decide) ?_ | refine num_lit 1 (by decide) ?_ | refine num_lit 2 (by decide) ?_ | refine num_lit 3 (by decide) ?_ | refine num_lit 4 (by decide) ?_ | refine num_lit 5 (by decide) ?_ | refine num_lit 6 (by decide) ?_ | refine num_lit 7 (by decide) ?_ | refine num_lit 8 (by decide) ?_ | refine num_elim ?_ | (with_reducible exact ff_elim) | (with_reducible exact tf_elim) | (intro h; exact absurd h (by decide)) | intro _ | (with_reducible rfl) | refine Or.inl ⟨7, ?_⟩ | refine tell ?_ | exact True.intro | (refine IsT.of ?_; kernel_rfl))
  all_goals (try refine Tell.mk ?_)
  all_goals first | with_reducible rfl | with_reducible exact isI_mk | with_reducible assumption | (with_reducible refine gb_t ?_; with_reducible assumption) | (with_reducible refine gb_f ?_; with_reducible assumption) | ((with_reducible refine lk_t ?_); rfl) | ((with_reducible refine okF_t ?_); kernel_rfl) | ((with_reducible refine ks_t ?_); rfl) | ((with_reducible refine pk_t ?_); rfl) | ((with_reducible refine pf_t ?_); rfl) | skip
  all_goals (try dsimp only at *)
  all_goals (try simp only [decide_eq_true_eq, decide_eq_false_iff_not, Bool.or_eq_true, Bool.or_eq_false_iff, Bool.and_eq_true, Bool.and_eq_false_iff, Bool.not_eq_true', Bool.not_eq_false', bne_iff_ne, ne_eq, beq_iff_eq, bne_eq_false_iff_eq, beq_eq_false_iff_ne, Int.not_lt, Int.not_le, gt_iff_lt, ge_iff_le] at *)
  all_goals (try simp only [mulN1, Nat.add_zero, Nat.zero_add, Nat.mul_one, Int.toNat_natCast, avInt_int] at *)
  all_goals first | with_reducible rfl | with_reducible exact nums_N | omega | ((with_reducible refine by_le 1 rfl ?_); omega) | ((with_reducible refine by_le 8 rfl ?_); omega) | (rw [wrapI (by omega) (by omega)] <;> omega) | skip
  all_goals (refine congrArg (AV.int .u8) ?_; simp only [catI_some, catI_zero]; unfold putV)
  all_goals (repeat' split)
  all_goals first | exact (congrArg (byteP x) (by omega)).trans (byte_at 0 hpre sp0) | exact (congrArg (byteP x) (by omega)).trans (byte_at 8 hpre sp1) | exact (congrArg (byteP x) (by omega)).trans (byte_at 16 hpre sp2) | exact (congrArg (byteP x) (by omega)).trans (byte_at 24 hpre sp3) | exact (congrArg (byteP x) (by omega)).trans (byte_at 32 hpre sp4) | exact (congrArg (byteP x) (by omega)).trans (byte_at 40 hpre sp5)
def bytes6_k : Con Try.prog := ⟨28, fun args => match args with | [.int .i64 x, .int .i64 6] => .ok (some (0 ≤ x ∧ x < 9223372036854775808)) (ints .u8 6 (putV x 6)) | _ => .no, by
  intro args p r h hp
  split at h
  · cases h; exact bytes6_a _ hp
  · cases h⟩
theorem sumV_bd (B : Nat → Int) : ∀ n, 0 ≤ sumV B n ∧ sumV B n < 4294967296
  | 0 => by rw [sumV_0]; decide
  | n + 1 => by
    rw [sumV_s]
    simp only [IntKind.wrap, IntKind.signed, IntKind.bits]
    simp
    omega
theorem filmE_inL {w h : Int} {n : Nat} {L : Nat → Int} {m : Nat} {S : Nat → Int} (h0 : filmE w h n L m S = 0) {i : Nat} (hi : i < n) : 0 ≤ L i ∧ L i ≤ 1099511627776 := okIn_iff.1 (filmE_ok h0).2.2.2.1 i hi
theorem filmE_inS {w h : Int} {n : Nat} {L : Nat → Int} {m : Nat} {S : Nat → Int} (h0 : filmE w h n L m S = 0) {i : Nat} (hi : i < m) : 0 ≤ S i ∧ S i ≤ 1048576 := okIn_iff.1 (filmE_ok h0).2.2.2.2 i hi
theorem size5 : 1 = (Tab.cx.ti 5).size := rfl
theorem saveA_rowA {w h : Int} {L : Nat → Int} {j : Nat} (hj : j < 6) : [AV.int .u8 82, AV.int .u8 72, AV.int .u8 70, AV.int .u8 49, AV.int .u8 (IntKind.u8.wrap w), AV.int .u8 (IntKind.u8.wrap h)].getD j AV.any = AV.int .u8 (saveA w h L j) := by
  rw [saveA_0 hj]
  unfold headF
  have : j = 0 ∨ j = 1 ∨ j = 2 ∨ j = 3 ∨ j = 4 ∨ j = 5 := by omega
  rcases this with rfl | rfl | rfl | rfl | rfl | rfl <;> rfl
theorem saveR_f : FnOk Try.prog 12 Try.f12 := ⟨Try.func12, by kernel_rfl⟩
theorem saveR_a (w h : Int) (n : Nat) (L : Nat → Int) (m : Nat) (S : Nat → Int) : ACalls Try.prog 12 [.agg [.int .i64 w, .int .i64 h, ints .i64 n L, ints .i64 m S]] (.tup [ints .u8 (ifn (filmE w h n L m S) (10 + 6 * n + 3 * m)) (saveC w h n L m S), .int .i64 (filmE w h n L m S)]) := by
  refine acalls_len fun hlen => ?_
  simp only [lenV, len1, lenV0, len0, and_true, true_and] at hlen
  refine acalls_of (inl := hasI (P := Try.prog) [] []) (base [mayFR_k, sumOf_k, bytes3_k, bytes4_k, bytes6_k] [] []) 0 saveR_f (And.intro (by kernel_rfl) ?_)
  repeat' (first | refine And.intro ?_ ?_ | (with_reducible exact ff_elim) | (with_reducible exact tf_elim) | refine num_elim ?_ | intro _ | (with_reducible rfl) | ((with_reducible refine lk_t ?_); exact rfl) | ((with_reducible refine pf_t ?_); exact rfl) | refine tell ?_ | exact True.intro | (refine IsT.of ?_; kernel_rfl))
  all_goals (try (refine loop_keep [1] [0] ?_; refine LoopI.mk ({i : Nat // i ≤ n}) (fun i => [(6, .int .i64 i.1), (5, .os 1 1 0 (6 + 6 * i.1))]) (fun i => [(1, .nums .u8 (6 + 6 * i.1) (saveA w h L))]) (fun i => n - i.1) (⟨0, Nat.zero_le _⟩) (wk_mk [some 14, some 0] ?_) (fun ⟨i, hi⟩ => ?_)))
  repeat' (first | refine And.intro ?_ ?_ | (with_reducible exact ff_elim) | (with_reducible exact tf_elim) | refine' stp_mk [some _, some 0] (⟨i + 1, ?_⟩) ?_ ?_ | refine num_elim ?_ | intro _ | (with_reducible rfl) | ((with_reducible refine lk_t ?_); exact rfl) | ((with_reducible refine pf_t ?_); exact rfl) | refine tell ?_ | exact True.intro | (refine IsT.of ?_; kernel_rfl))
  all_goals (try (refine loop_keep [1] [0] ?_; refine LoopI.mk ({k : Nat // k ≤ m}) (fun k => [(7, .int .i64 k.1), (5, .os 1 1 0 (6 + 6 * i + 3 * k.1))]) (fun k => [(1, .nums .u8 (6 + 6 * i + 3 * k.1) (saveB w h i L S))]) (fun k => m - k.1) (⟨0, Nat.zero_le _⟩) (wk_mk [some 1, some 0] ?_) (fun ⟨k, hk⟩ => ?_)))
  repeat' (first | refine And.intro ?_ ?_ | (with_reducible exact ff_elim) | (with_reducible exact tf_elim) | refine' stp_mk [some _, some 0] (⟨k + 1, ?_⟩) ?_ ?_ | refine num_elim ?_ | intro _ | (with_reducible rfl) | ((with_reducible refine lk_t ?_); exact rfl) | ((with_reducible refine pf_t ?_); exact rfl) | refine tell ?_ | exact True.intro | (refine IsT.of ?_; kernel_rfl))
  all_goals (try refine Tell.mk ?_)
  all_goals first | with_reducible rfl | with_reducible exact isI_mk | with_reducible assumption | (with_reducible refine gb_t ?_; with_reducible assumption) | (with_reducible refine gb_f ?_; with_reducible assumption) | ((with_reducible refine lk_t ?_); rfl) | ((with_reducible refine okF_t ?_); kernel_rfl) | ((with_reducible refine ks_t ?_); rfl) | ((with_reducible refine pk_t ?_); rfl) | ((with_reducible refine pf_t ?_); rfl) | skip
  all_goals (try dsimp only at *)
  all_goals (try simp only [decide_eq_true_eq, decide_eq_false_iff_not, Bool.or_eq_true, Bool.or_eq_false_iff, Bool.and_eq_true, Bool.and_eq_false_iff, Bool.not_eq_true', Bool.not_eq_false', bne_iff_ne, ne_eq, beq_iff_eq, bne_eq_false_iff_eq, beq_eq_false_iff_ne, Int.not_lt, Int.not_le, gt_iff_lt, ge_iff_le] at *)
  all_goals (try simp only [mulN1, Nat.add_zero, Nat.zero_add, Nat.mul_one, Int.toNat_natCast, avInt_int, intF_mk] at *)
  all_goals first | with_reducible rfl | with_reducible exact nums_N | omega | ((with_reducible refine by_le 1 rfl ?_); omega) | ((with_reducible refine by_le 8 rfl ?_); omega) | (rw [wrapI (by omega) (by omega)] <;> omega) | skip
  all_goals first | with_reducible exact isI_mk | exact ifn1 (by with_reducible assumption) | skip
  all_goals (have h0 : filmE w h n L m S = 0 := by with_reducible assumption)
  all_goals obtain ⟨b1, b2, b3, b4⟩ := filmE_len h0
  all_goals first | omega | exact saveA_rowA (by omega) | exact size5 | (with_reducible refine by_le 1 rfl ?_; omega) | (rw [wrapI (by omega) (by omega)]; omega) | (simp only [List.length_cons, List.length_nil]; omega) | skip
  all_goals first | exact (filmE_inL h0 (by omega)).1 | exact Int.lt_of_le_of_lt (filmE_inL h0 (by omega)).2 (by decide) | exact (filmE_inS h0 (by omega)).1 | exact Int.lt_of_le_of_lt (filmE_inS h0 (by omega)).2 (by decide) | (have hb := sumV_bd (saveB w h i L S) (6 + 6 * i + 3 * k); rw [wrapI (by omega) (by omega)]; omega) | exact saveB_0 (by omega) | skip
  all_goals first | (rw [catI_some]; split <;> first | rfl | exact saveA_1 _ (by omega) (by omega) | exact saveB_1 _ (by omega) (by omega)) | skip
  all_goals (obtain rfl : i = n := (by omega); obtain rfl : k = m := (by omega); rw [ifn0 h0] at *)
  all_goals first | omega | (refine congrArg (AV.int .u8) ?_; rw [catI_some]; split)
  all_goals first | exact saveC_0 (by omega) | skip
  all_goals refine saveC_1 _ ?_
  all_goals omega
def saveR_r (w h : Int) (n : Nat) (L : Nat → Int) (m : Nat) (S : Nat → Int) : AV := .tup [ints .u8 (ifn (filmE w h n L m S) (10 + 6 * n + 3 * m)) (saveC w h n L m S), .int .i64 (filmE w h n L m S)]
def saveR_k : Con Try.prog := ⟨12, fun args => match args with | [.agg [.int .i64 w, .int .i64 h, .sl n 1 g_L, .sl m 1 g_S]] => .ok (some (IsI .i64 g_L ∧ IsI .i64 g_S)) (saveR_r w h n (intF g_L) m (intF g_S)) | _ => .no, by
  intro args p r h hp
  split at h
  · cases h; obtain ⟨h_L, h_S⟩ := hp; have e_L := h_L.eq; have e_S := h_S.eq; rw [e_L, e_S]; exact saveR_a _ _ _ _ _ _
  · cases h⟩
end Go.Proofs.Ytehjhfifldefiaa
