/- What is made of raw numbers. -/
import Derived.Test.YtgbcnfcgljbbgaaEvNum
import Derived.Test.YtgbcnfcgljbbgaaSlabA
import Derived.Test.YtgbcnfcgljbbgaaSolidA
import Derived.Test.YtgbcnfcgljbbgaaSpnAllB
import Derived.Test.YtgbcnfcgljbbgaaLin
namespace Go.Proofs.Ytgbcnfcgljbbgaa
open Go.RowKit Ev
set_option linter.unusedVariables false
set_option linter.unusedSimpArgs false
set_option maxRecDepth 20000
set_option maxHeartbeats 4000000

theorem pick_f : FnOk Try.prog 6 Try.f6 := ⟨Try.func6, by kernel_rfl⟩
theorem pick_a (c n : Int) (hpre : In64 c ∧ 1 ≤ n ∧ n ≤ 4294967296) : ACalls Try.prog 6 [.int .i64 c, .int .i64 n] (.int .i64 (pickF c n)) := by
  refine acalls_of (inl := hasI (P := Try.prog) [] []) (base [] [] []) 0 pick_f (And.intro (by kernel_rfl) ?_)
  repeat' (first | refine And.intro ?_ ?_ | (with_reducible exact ff_elim) | (with_reducible exact tf_elim) | intro _ | (with_reducible rfl) | ((with_reducible refine lk_t ?_); exact rfl) | ((with_reducible refine pf_t ?_); exact rfl) | refine tell ?_ | exact True.intro | (refine IsT.of ?_; kernel_rfl))
  all_goals obtain ⟨⟨c0, c1⟩, n0, n1⟩ := hpre
  all_goals (try refine Tell.mk ?_)
  all_goals first | with_reducible rfl | (simp only [decide_eq_true_eq, decide_eq_false_iff_not] at *; (iterate 3 (try simp (disch := omega) only [wrapI] at *)); subst_vars; first | omega | (unfold pickF; split <;> first | omega | (rw [Int.tmod_eq_emod_of_nonneg (by omega)]; done) | (rw [Int.tmod_eq_emod_of_nonneg (by omega)]; congr 1; omega)))
def pick_k : Con Try.prog := ⟨6, fun args => match args with | [.int .i64 c, .int .i64 n] => .ok (some (In64 c ∧ 1 ≤ n ∧ n ≤ 4294967296)) (.int .i64 (pickF c n)) | _ => .no, by
  intro args p r h hp
  split at h
  · cases h; exact pick_a _ _ hp
  · cases h⟩
theorem raw_f : FnOk Try.prog 12 Try.f12 := ⟨Try.func12, by kernel_rfl⟩
theorem raw_a (n : Nat) (F : Nat → Int) (k : Int) (hpre : 0 ≤ k) : ACalls Try.prog 12 [ints .i64 n F, .int .i64 k] (.int .i64 (rawF n F k)) := by
  refine acalls_of (inl := hasI (P := Try.prog) [] []) (base [] [] []) 0 raw_f (And.intro (by kernel_rfl) ?_)
  repeat' (first | refine And.intro ?_ ?_ | (with_reducible exact ff_elim) | (with_reducible exact tf_elim) | intro _ | (with_reducible rfl) | ((with_reducible refine lk_t ?_); exact rfl) | ((with_reducible refine pf_t ?_); exact rfl) | refine tell ?_ | exact True.intro | (refine IsT.of ?_; kernel_rfl))
  all_goals (try refine Tell.mk ?_)
  all_goals first | with_reducible rfl | (simp only [beq_iff_eq, beq_eq_false_iff_ne] at *; subst_vars; first | omega | exact Int.tmod_nonneg _ hpre | exact Int.tmod_lt_of_pos _ (by omega) | (unfold rawF; rw [if_pos (by omega)]; done) | (unfold rawF; rw [if_neg (by omega), Int.tmod_eq_emod_of_nonneg hpre, mulN1, Nat.add_zero, Int.toNat_emod hpre (by omega)]; rfl))
def raw_r (n : Nat) (F : Nat → Int) (k : Int) : AV := .int .i64 (rawF n F k)
def raw_p (n : Nat) (F : Nat → Int) (k : Int) : Prop := 0 ≤ k
def raw_k : Con Try.prog := ⟨12, fun args => match args with | [.sl n 1 g_F, .int .i64 k] => .ok (some (IsI .i64 g_F ∧ raw_p n (intF g_F) k)) (raw_r n (intF g_F) k) | _ => .no, by
  intro args p r h hp
  split at h
  · cases h; obtain ⟨h_F, hp⟩ := hp; have e_F := h_F.eq; rw [e_F]; exact raw_a _ _ _ hp
  · cases h⟩
def thoF (n : Int) : Nat := F .quo (cn (FloatKind.f64.nearest n)) 4652007308841189376
theorem thousandth_f : FnOk Try.prog 15 Try.f15 := ⟨Try.func15, by kernel_rfl⟩
theorem thousandth_a (n : Int) : ACalls Try.prog 15 [.int .i64 n] (.flt (thoF n)) := by
  refine acalls_of (inl := hasI (P := Try.prog) [] []) (base [] [] []) 0 thousandth_f (And.intro (by kernel_rfl) ?_)
  repeat' (first | refine And.intro ?_ ?_ | (with_reducible exact ff_elim) | (with_reducible exact tf_elim) | intro _ | (with_reducible rfl) | ((with_reducible refine lk_t ?_); exact rfl) | ((with_reducible refine pf_t ?_); exact rfl) | refine tell ?_ | exact True.intro | (refine IsT.of ?_; kernel_rfl))
  all_goals (try refine Tell.mk ?_)
  all_goals first | with_reducible rfl | with_reducible exact isI_mk | with_reducible assumption | (with_reducible refine gb_t ?_; with_reducible assumption) | (with_reducible refine gb_f ?_; with_reducible assumption) | ((with_reducible refine ks_t ?_); rfl) | ((with_reducible refine pk_t ?_); rfl) | ((with_reducible refine pf_t ?_); rfl) | ((with_reducible refine lk_t ?_); rfl) | ((with_reducible refine okF_t ?_); kernel_rfl) | ((with_reducible refine rawF_in ?_); assumption) | ((try simp only [in64_iff, decide_eq_true_eq, decide_eq_false_iff_not, beq_iff_eq, beq_eq_false_iff_ne, ne_eq, bne_iff_ne, intF_mk, thoF] at *) <;> (iterate 4 (try simp (disch := omega) only [wrapI, wrapU8, wrapU32] at *)) <;> subst_vars <;> (try simp (disch := omega) only [wrapI, wrapU8, wrapU32] at *) <;> (first | with_reducible rfl | omega | (simp only [thoF]; done) | (simp only [thoF]; omega) | (simp [thoF, *]; done) | grind [thoF]))
def thousandth_k : Con Try.prog := ⟨15, fun args => match args with | [.int .i64 n] => .ok (none) (.flt (thoF n)) | _ => .no, by
  intro args p r h hp
  split at h
  · cases h; exact thousandth_a _
  · cases h⟩
def milF (c most : Int) : Nat := thoF (pickF c (2 * most + 1) - most)
theorem milli_f : FnOk Try.prog 29 Try.f29 := ⟨Try.func29, by kernel_rfl⟩
theorem milli_a (c most : Int) (hpre : In64 c ∧ 0 ≤ most ∧ most ≤ 1000000) : ACalls Try.prog 29 [.int .i64 c, .int .i64 most] (.flt (milF c most)) := by
  refine acalls_of (inl := hasI (P := Try.prog) [] []) (base [pick_k, thousandth_k] [] []) 0 milli_f (And.intro (by kernel_rfl) ?_)
  repeat' (first | refine And.intro ?_ ?_ | (with_reducible exact ff_elim) | (with_reducible exact tf_elim) | intro _ | (with_reducible rfl) | ((with_reducible refine lk_t ?_); exact rfl) | ((with_reducible refine pf_t ?_); exact rfl) | refine tell ?_ | exact True.intro | (refine IsT.of ?_; kernel_rfl))
  all_goals have hb := pickF_bd c (2 * most + 1) (by omega)
  all_goals (try refine Tell.mk ?_)
  all_goals first | with_reducible rfl | with_reducible exact isI_mk | with_reducible assumption | (with_reducible refine gb_t ?_; with_reducible assumption) | (with_reducible refine gb_f ?_; with_reducible assumption) | ((with_reducible refine ks_t ?_); rfl) | ((with_reducible refine pk_t ?_); rfl) | ((with_reducible refine pf_t ?_); rfl) | ((with_reducible refine lk_t ?_); rfl) | ((with_reducible refine okF_t ?_); kernel_rfl) | ((with_reducible refine rawF_in ?_); assumption) | ((try simp only [in64_iff, decide_eq_true_eq, decide_eq_false_iff_not, beq_iff_eq, beq_eq_false_iff_ne, ne_eq, bne_iff_ne, intF_mk, milF] at *) <;> (iterate 4 (try simp (disch := omega) only [wrapI, wrapU8, wrapU32] at *)) <;> subst_vars <;> (try simp (disch := omega) only [wrapI, wrapU8, wrapU32] at *) <;> (first | with_reducible rfl | omega | (simp only [milF]; done) | (simp only [milF]; omega) | (simp [milF, *]; done) | grind [milF]))
def milli_k : Con Try.prog := ⟨29, fun args => match args with | [.int .i64 c, .int .i64 most] => .ok (some (In64 c ∧ 0 ≤ most ∧ most ≤ 1000000)) (.flt (milF c most)) | _ => .no, by
  intro args p r h hp
  split at h
  · cases h; exact milli_a _ _ hp
  · cases h⟩
theorem vecOf_f : FnOk Try.prog 14 Try.f14 := ⟨Try.func14, by kernel_rfl⟩
theorem vecOf_a (n : Nat) (F : Nat → Int) (k most : Int) (hpre : (∀ j, In64 (F j)) ∧ 0 ≤ most ∧ most ≤ 1000000 ∧ 0 ≤ k ∧ k ≤ 1000000) : ACalls Try.prog 14 [ints .i64 n F, .int .i64 k, .int .i64 most] (.agg [.flt (milF (rawF n F k) most), .flt (milF (rawF n F (k + 1)) most), .flt (milF (rawF n F (k + 2)) most)]) := by
  refine acalls_of (inl := hasI (P := Try.prog) [] []) (base [raw_k, milli_k] [] []) 0 vecOf_f (And.intro (by kernel_rfl) ?_)
  repeat' (first | refine And.intro ?_ ?_ | (with_reducible exact ff_elim) | (with_reducible exact tf_elim) | intro _ | (with_reducible rfl) | ((with_reducible refine lk_t ?_); exact rfl) | ((with_reducible refine pf_t ?_); exact rfl) | refine tell ?_ | exact True.intro | (refine IsT.of ?_; kernel_rfl))
  all_goals obtain ⟨hF, hpre⟩ := hpre
  all_goals (try refine Tell.mk ?_)
  all_goals first | with_reducible rfl | with_reducible exact isI_mk | with_reducible assumption | (with_reducible refine gb_t ?_; with_reducible assumption) | (with_reducible refine gb_f ?_; with_reducible assumption) | ((with_reducible refine ks_t ?_); rfl) | ((with_reducible refine pk_t ?_); rfl) | ((with_reducible refine pf_t ?_); rfl) | ((with_reducible refine lk_t ?_); rfl) | ((with_reducible refine okF_t ?_); kernel_rfl) | ((with_reducible refine rawF_in ?_); assumption) | ((try simp only [in64_iff, decide_eq_true_eq, decide_eq_false_iff_not, beq_iff_eq, beq_eq_false_iff_ne, ne_eq, bne_iff_ne, intF_mk, raw_p] at *) <;> (iterate 4 (try simp (disch := omega) only [wrapI, wrapU8, wrapU32] at *)) <;> subst_vars <;> (try simp (disch := omega) only [wrapI, wrapU8, wrapU32] at *) <;> (first | with_reducible rfl | omega | (simp only [raw_p]; done) | (simp only [raw_p]; omega) | (simp [raw_p, *]; done) | grind [raw_p]))
def vecOf_r (n : Nat) (F : Nat → Int) (k most : Int) : AV := .agg [.flt (milF (rawF n F k) most), .flt (milF (rawF n F (k + 1)) most), .flt (milF (rawF n F (k + 2)) most)]
def vecOf_p (n : Nat) (F : Nat → Int) (k most : Int) : Prop := (∀ j, In64 (F j)) ∧ 0 ≤ most ∧ most ≤ 1000000 ∧ 0 ≤ k ∧ k ≤ 1000000
def vecOf_k : Con Try.prog := ⟨14, fun args => match args with | [.sl n 1 g_F, .int .i64 k, .int .i64 most] => .ok (some (IsI .i64 g_F ∧ vecOf_p n (intF g_F) k most)) (vecOf_r n (intF g_F) k most) | _ => .no, by
  intro args p r h hp
  split at h
  · cases h; obtain ⟨h_F, hp⟩ := hp; have e_F := h_F.eq; rw [e_F]; exact vecOf_a _ _ _ _ hp
  · cases h⟩
theorem noughtM_f : FnOk Try.prog 16 Try.f16 := ⟨Try.func16, by kernel_rfl⟩
theorem noughtM_a (a b c : Nat) : ACalls Try.prog 16 [.agg [.flt a, .flt b, .flt c]] (.bool (feq a 0 && (feq b 0 && feq c 0))) := by
  refine acalls_of (inl := hasI (P := Try.prog) [] []) (base [] [] []) 0 noughtM_f (And.intro (by kernel_rfl) ?_)
  repeat' (first | refine And.intro ?_ ?_ | (with_reducible exact ff_elim) | (with_reducible exact tf_elim) | intro _ | (with_reducible rfl) | ((with_reducible refine lk_t ?_); exact rfl) | ((with_reducible refine pf_t ?_); exact rfl) | refine tell ?_ | exact True.intro | (refine IsT.of ?_; kernel_rfl))
  all_goals ((try refine Tell.mk ?_); first | with_reducible rfl | ((show (_ : Int) ≤ _); decide) | ((show (_ : Int) < _); decide) | (with_reducible refine gb_t ?_; with_reducible assumption) | with_reducible assumption | (with_reducible refine gb_f ?_; with_reducible assumption) | (simp only [gb, *, cond_true, cond_false]; done) | ((with_reducible refine ks_t ?_); rfl) | ((with_reducible refine pk_t ?_); rfl) | ((with_reducible refine pf_t ?_); rfl) | ((with_reducible refine lk_t ?_); rfl) | ((with_reducible refine okF_t ?_); kernel_rfl) | grind [gb])
def noughtM_k : Con Try.prog := ⟨16, fun args => match args with | [.agg [.flt a, .flt b, .flt c]] => .ok (none) (.bool (feq a 0 && (feq b 0 && feq c 0))) | _ => .no, by
  intro args p r h hp
  split at h
  · cases h; exact noughtM_a _ _ _
  · cases h⟩
def ryX (n : Nat) (F : Nat → Int) (k : Int) : Nat := bif pickF (rawF n F (k + 7)) 3 == 0 then 0 else milF (rawF n F (k + 3)) 1500
def ryY (n : Nat) (F : Nat → Int) (k : Int) : Nat := bif pickF (rawF n F (k + 8)) 4 == 0 then 0 else milF (rawF n F (k + 4)) 1500
def ryZ (n : Nat) (F : Nat → Int) (k : Int) : Nat := bif feq (ryX n F k) 0 && (feq (ryY n F k) 0 && feq (milF (rawF n F (k + 5)) 1500) 0) then 4607182418800017408 else milF (rawF n F (k + 5)) 1500
theorem rayOf_f : FnOk Try.prog 7 Try.f7 := ⟨Try.func7, by kernel_rfl⟩
theorem rayOf_a (n : Nat) (F : Nat → Int) (k : Int) (hpre : (∀ j, In64 (F j)) ∧ 0 ≤ k ∧ k ≤ 900000) : ACalls Try.prog 7 [ints .i64 n F, .int .i64 k] (.agg [.flt (milF (rawF n F k) 6000), .flt (milF (rawF n F (k + 1)) 6000), .flt (milF (rawF n F (k + 2)) 6000), .flt (ryX n F k), .flt (ryY n F k), .flt (ryZ n F k), .flt (thoF (pickF (rawF n F (k + 6)) 3))]) := by
  refine acalls_of (inl := hasI (P := Try.prog) [] []) (base [raw_k, vecOf_k, thousandth_k, pick_k, noughtM_k] [] []) 0 rayOf_f (And.intro (by kernel_rfl) ?_)
  have w1 : IntKind.i64.wrap (k + 1) = k + 1 := wrapI (by omega) (by omega)
  have w2 : IntKind.i64.wrap (k + 2) = k + 2 := wrapI (by omega) (by omega)
  have w3 : IntKind.i64.wrap (k + 3) = k + 3 := wrapI (by omega) (by omega)
  have w4 : IntKind.i64.wrap (k + 6) = k + 6 := wrapI (by omega) (by omega)
  have w5 : IntKind.i64.wrap (k + 7) = k + 7 := wrapI (by omega) (by omega)
  have w6 : IntKind.i64.wrap (k + 8) = k + 8 := wrapI (by omega) (by omega)
  repeat' (first | refine And.intro ?_ ?_ | (with_reducible exact ff_elim) | (with_reducible exact tf_elim) | refine num_elim ?_ | intro _ | (with_reducible rfl) | ((with_reducible refine lk_t ?_); exact rfl) | ((with_reducible refine pf_t ?_); exact rfl) | refine tell ?_ | exact True.intro | (refine IsT.of ?_; kernel_rfl))
  all_goals obtain ⟨hF, hpre⟩ := hpre
  all_goals (try refine Tell.mk ?_)
  all_goals first | with_reducible rfl | with_reducible exact isI_mk | with_reducible assumption | (with_reducible refine gb_t ?_; with_reducible assumption) | (with_reducible refine gb_f ?_; with_reducible assumption) | ((with_reducible refine ks_t ?_); rfl) | ((with_reducible refine pk_t ?_); rfl) | ((with_reducible refine pf_t ?_); rfl) | ((with_reducible refine lk_t ?_); rfl) | ((with_reducible refine okF_t ?_); kernel_rfl) | ((try simp only [w1, w2, w3, w4, w5, w6, intF_mk, Int.add_assoc, Int.reduceAdd] at *) <;> first | with_reducible rfl | (simp only [ryX, ryY, ryZ, raw_p, *, cond_true, cond_false]; done) | exact rawF_in hF | exact hF _ | omega | (simp only [ryX, ryY, ryZ, raw_p]; omega) | (simp only [ryX, ryY, ryZ, raw_p] at *; omega))
def rayOf_r (n : Nat) (F : Nat → Int) (k : Int) : AV := .agg [.flt (milF (rawF n F k) 6000), .flt (milF (rawF n F (k + 1)) 6000), .flt (milF (rawF n F (k + 2)) 6000), .flt (ryX n F k), .flt (ryY n F k), .flt (ryZ n F k), .flt (thoF (pickF (rawF n F (k + 6)) 3))]
def rayOf_p (n : Nat) (F : Nat → Int) (k : Int) : Prop := (∀ j, In64 (F j)) ∧ 0 ≤ k ∧ k ≤ 900000
def rayOf_k : Con Try.prog := ⟨7, fun args => match args with | [.sl n 1 g_F, .int .i64 k] => .ok (some (IsI .i64 g_F ∧ rayOf_p n (intF g_F) k)) (rayOf_r n (intF g_F) k) | _ => .no, by
  intro args p r h hp
  split at h
  · cases h; obtain ⟨h_F, hp⟩ := hp; have e_F := h_F.eq; rw [e_F]; exact rayOf_a _ _ _ hp
  · cases h⟩
end Go.Proofs.Ytgbcnfcgljbbgaa
/- Shapes that are made of raw numbers, at any place. -/
namespace Go.Proofs.Ytgbcnfcgljbbgaa
open Go.RowKit Ev
set_option linter.unusedVariables false
set_option linter.unusedSimpArgs false
set_option maxRecDepth 20000
set_option maxHeartbeats 4000000

def Shp.lso (p : Shp) : List AV := [.int .i64 p.k, .flt p.a, .flt p.b, .flt p.c, .flt p.d, .flt p.e, .flt p.f, .flt p.g, .flt p.h, .flt p.i, .flt p.r, .flt p.q, .int .i64 p.s]
theorem tdiv_bo {a b : Int} (h : 0 ≤ a ∧ a < 2500) (hb : 0 ≤ b ∧ b < 3) : 0 ≤ a.tdiv (1 + b) ∧ a.tdiv (1 + b) < 2500 := by
  rw [Int.tdiv_eq_ediv_of_nonneg h.1]
  have h1 := Int.ediv_nonneg h.1 (show 0 ≤ 1 + b by omega)
  have h2 := Int.ediv_le_self (1 + b) h.1
  omega
theorem putW_f : FnOk Try.prog 36 Try.f36 := ⟨Try.func36, by kernel_rfl⟩
theorem putW_a (a b c x : Nat) (k : Int) (hpre : 0 ≤ k ∧ k ≤ 2) : ACalls Try.prog 36 [.agg [.flt a, .flt b, .flt c], .int .i64 k, .flt x] (.agg [.flt (bif k == 0 then x else a), .flt (bif k == 1 then x else b), .flt (bif k == 0 || k == 1 then c else x)]) := by
  exact put_a a b c x k hpre
def putW_k : Con Try.prog := ⟨36, fun args => match args with | [.agg [.flt a, .flt b, .flt c], .int .i64 k, .flt x] => .ok (some (0 ≤ k ∧ k ≤ 2)) (.agg [.flt (bif k == 0 then x else a), .flt (bif k == 1 then x else b), .flt (bif k == 0 || k == 1 then c else x)]) | _ => .no, by
  intro args p r h hp
  split at h
  · cases h; exact putW_a _ _ _ _ _ hp
  · cases h⟩
theorem siy1_f : FnOk Try.prog 6 Try.f6 := ⟨Try.func6, by kernel_rfl⟩
theorem siy1_a (c : Int) (hpre : In64 c ∧ pickF c 6 = 0) : ACalls Try.prog 6 [.int .i64 c, .int .i64 6] (.int .i64 0) := by
  have h := pick_a c 6 ⟨hpre.1, by omega, by omega⟩
  rw [hpre.2] at h
  exact h
def siy1_k : Con Try.prog := ⟨6, fun args => match args with | [.int .i64 c, .int .i64 6] => .ok (some (In64 c ∧ pickF c 6 = 0)) (.int .i64 0) | _ => .no, by
  intro args p r h hp
  split at h
  · cases h; exact siy1_a _ hp
  · cases h⟩
def shq1oS (n : Nat) (G : Nat → Int) (m : Int) : Shp := ⟨1, milF (rawF n G (m + 1)) 4000, milF (rawF n G (m + 1 + 1)) 4000, milF (rawF n G (m + 1 + 2)) 4000, 0, 0, 0, 0, 0, 0, thoF (1 + pickF (rawF n G (m + 8)) 2500), 0, pickF (rawF n G (m + 7)) 1⟩
theorem shq1o_f : FnOk Try.prog 25 Try.f25 := ⟨Try.func25, by kernel_rfl⟩
theorem shq1o_a (n : Nat) (G : Nat → Int) (m : Int) (hpre : (∀ j, In64 (G j)) ∧ (0 ≤ m ∧ m ≤ 900000) ∧ pickF (rawF n G m) 6 = 0) : ACalls Try.prog 25 [ints .i64 n G, .int .i64 m, .int .i64 1] (.agg (shq1oS n G m).lso) := by
  refine acalls_of (inl := hasI (P := Try.prog) [] []) (base [siy1_k, raw_k, vecOf_k, thousandth_k, pick_k, addR_k, putW_k, noughtM_k] [] []) 0 shq1o_f (And.intro (by kernel_rfl) ?_)
  obtain ⟨hF, hm, hk⟩ := hpre
  have h5 := pickF_bd (rawF n G (m + 5)) 3000 (by omega)
  have h5' := pickF_bd (rawF n G (m + 5)) 2000 (by omega)
  have h6 := pickF_bd (rawF n G (m + 6)) 2000 (by omega)
  have h6' := pickF_bd (rawF n G (m + 6)) 3 (by omega)
  have h8 := pickF_bd (rawF n G (m + 8)) 2500 (by omega)
  have h4 := pickF_bd (rawF n G (m + 4)) 3 (by omega)
  have hd := tdiv_bo h8 h4
  have w1 : IntKind.i64.wrap (1 + pickF (rawF n G (m + 8)) 2500) = 1 + pickF (rawF n G (m + 8)) 2500 := wrapI (by omega) (by omega)
  have w2 : IntKind.i64.wrap (1 + pickF (rawF n G (m + 5)) 3000) = 1 + pickF (rawF n G (m + 5)) 3000 := wrapI (by omega) (by omega)
  have w3 : IntKind.i64.wrap (1 + pickF (rawF n G (m + 4)) 3) = 1 + pickF (rawF n G (m + 4)) 3 := wrapI (by omega) (by omega)
  have w4 : IntKind.i64.wrap ((pickF (rawF n G (m + 8)) 2500).tdiv (1 + pickF (rawF n G (m + 4)) 3)) = (pickF (rawF n G (m + 8)) 2500).tdiv (1 + pickF (rawF n G (m + 4)) 3) := wrapI (by omega) (by omega)
  have w5 : IntKind.i64.wrap (1 + (pickF (rawF n G (m + 8)) 2500).tdiv (1 + pickF (rawF n G (m + 4)) 3)) = 1 + (pickF (rawF n G (m + 8)) 2500).tdiv (1 + pickF (rawF n G (m + 4)) 3) := wrapI (by omega) (by omega)
  have c01 : IntKind.i64.wrap (m + 1) = m + 1 := wrapI (by omega) (by omega)
  have c04 : IntKind.i64.wrap (m + 4) = m + 4 := wrapI (by omega) (by omega)
  have c05 : IntKind.i64.wrap (m + 5) = m + 5 := wrapI (by omega) (by omega)
  have c06 : IntKind.i64.wrap (m + 6) = m + 6 := wrapI (by omega) (by omega)
  have c07 : IntKind.i64.wrap (m + 7) = m + 7 := wrapI (by omega) (by omega)
  have c08 : IntKind.i64.wrap (m + 8) = m + 8 := wrapI (by omega) (by omega)
  have c09 : IntKind.i64.wrap (m + 9) = m + 9 := wrapI (by omega) (by omega)
  have c10 : IntKind.i64.wrap (1 + 0) = 1 := by decide
  have c11 : IntKind.i64.wrap (1 + 1) = 2 := by decide
  have c12 : IntKind.i64.wrap (1 + 2) = 3 := by decide
  have c13 : IntKind.i64.wrap (1 + 3) = 4 := by decide
  have c14 : IntKind.i64.wrap (1 + 4) = 5 := by decide
  have c15 : IntKind.i64.wrap (1 + 5) = 6 := by decide
  repeat' (first | refine And.intro ?_ ?_ | (with_reducible exact ff_elim) | (with_reducible exact tf_elim) | (intro hq; exact absurd hq (by decide)) | refine num_elim ?_ | intro _ | (with_reducible rfl) | ((with_reducible refine lk_t ?_); exact rfl) | ((with_reducible refine pf_t ?_); exact rfl) | refine tell ?_ | exact True.intro | (refine IsT.of ?_; kernel_rfl))
  all_goals (try refine Tell.mk ?_)
  all_goals first | with_reducible rfl | with_reducible exact isI_mk | with_reducible assumption | (with_reducible refine gb_t ?_; with_reducible assumption) | (with_reducible refine gb_f ?_; with_reducible assumption) | ((with_reducible refine ks_t ?_); rfl) | ((with_reducible refine pk_t ?_); rfl) | ((with_reducible refine pf_t ?_); rfl) | ((with_reducible refine lk_t ?_); rfl) | ((with_reducible refine okF_t ?_); kernel_rfl) | ((with_reducible refine rawF_in ?_); assumption) | skip
  all_goals (try simp only [decide_eq_true_eq, decide_eq_false_iff_not, beq_iff_eq, beq_eq_false_iff_ne, ne_eq, bne_iff_ne, intF_mk])
  all_goals (try unfold shq1oS)
  all_goals (try dsimp only)
  all_goals (try simp only [w1, w2, w3, w4, w5, c01, c04, c05, c06, c07, c08, c09, c10, c11, c12, c13, c14, c15])
  all_goals first | with_reducible rfl | omega | (simp only [raw_p]; omega) | exact hF _ | with_reducible exact rawF_in hF | (simp only [intF_mk, c04] at *; simp only [*, cond_true, cond_false]; done) | (simp only [intF_mk, c04, w3] at *; omega) | trace_state
theorem siy2_f : FnOk Try.prog 6 Try.f6 := ⟨Try.func6, by kernel_rfl⟩
theorem siy2_a (c : Int) (hpre : In64 c ∧ pickF c 6 = 1) : ACalls Try.prog 6 [.int .i64 c, .int .i64 6] (.int .i64 1) := by
  have h := pick_a c 6 ⟨hpre.1, by omega, by omega⟩
  rw [hpre.2] at h
  exact h
def siy2_k : Con Try.prog := ⟨6, fun args => match args with | [.int .i64 c, .int .i64 6] => .ok (some (In64 c ∧ pickF c 6 = 1)) (.int .i64 1) | _ => .no, by
  intro args p r h hp
  split at h
  · cases h; exact siy2_a _ hp
  · cases h⟩
def shq2oS (n : Nat) (G : Nat → Int) (m : Int) : Shp := ⟨2, milF (rawF n G (m + 1)) 4000, milF (rawF n G (m + 1 + 1)) 4000, milF (rawF n G (m + 1 + 2)) 4000, F .add (milF (rawF n G (m + 1)) 4000) (thoF (1 + pickF (rawF n G (m + 8)) 2500)), F .add (milF (rawF n G (m + 1 + 1)) 4000) (thoF (pickF (rawF n G (m + 5)) 2000)), F .add (milF (rawF n G (m + 1 + 2)) 4000) (thoF (pickF (rawF n G (m + 6)) 2000)), 0, 0, 0, 0, 0, pickF (rawF n G (m + 7)) 1⟩
theorem shq2o_f : FnOk Try.prog 25 Try.f25 := ⟨Try.func25, by kernel_rfl⟩
theorem shq2o_a (n : Nat) (G : Nat → Int) (m : Int) (hpre : (∀ j, In64 (G j)) ∧ (0 ≤ m ∧ m ≤ 900000) ∧ pickF (rawF n G m) 6 = 1) : ACalls Try.prog 25 [ints .i64 n G, .int .i64 m, .int .i64 1] (.agg (shq2oS n G m).lso) := by
  refine acalls_of (inl := hasI (P := Try.prog) [] []) (base [siy2_k, raw_k, vecOf_k, thousandth_k, pick_k, addR_k, putW_k, noughtM_k] [] []) 0 shq2o_f (And.intro (by kernel_rfl) ?_)
  obtain ⟨hF, hm, hk⟩ := hpre
  have h5 := pickF_bd (rawF n G (m + 5)) 3000 (by omega)
  have h5' := pickF_bd (rawF n G (m + 5)) 2000 (by omega)
  have h6 := pickF_bd (rawF n G (m + 6)) 2000 (by omega)
  have h6' := pickF_bd (rawF n G (m + 6)) 3 (by omega)
  have h8 := pickF_bd (rawF n G (m + 8)) 2500 (by omega)
  have h4 := pickF_bd (rawF n G (m + 4)) 3 (by omega)
  have hd := tdiv_bo h8 h4
  have w1 : IntKind.i64.wrap (1 + pickF (rawF n G (m + 8)) 2500) = 1 + pickF (rawF n G (m + 8)) 2500 := wrapI (by omega) (by omega)
  have w2 : IntKind.i64.wrap (1 + pickF (rawF n G (m + 5)) 3000) = 1 + pickF (rawF n G (m + 5)) 3000 := wrapI (by omega) (by omega)
  have w3 : IntKind.i64.wrap (1 + pickF (rawF n G (m + 4)) 3) = 1 + pickF (rawF n G (m + 4)) 3 := wrapI (by omega) (by omega)
  have w4 : IntKind.i64.wrap ((pickF (rawF n G (m + 8)) 2500).tdiv (1 + pickF (rawF n G (m + 4)) 3)) = (pickF (rawF n G (m + 8)) 2500).tdiv (1 + pickF (rawF n G (m + 4)) 3) := wrapI (by omega) (by omega)
  have w5 : IntKind.i64.wrap (1 + (pickF (rawF n G (m + 8)) 2500).tdiv (1 + pickF (rawF n G (m + 4)) 3)) = 1 + (pickF (rawF n G (m + 8)) 2500).tdiv (1 + pickF (rawF n G (m + 4)) 3) := wrapI (by omega) (by omega)
  have c01 : IntKind.i64.wrap (m + 1) = m + 1 := wrapI (by omega) (by omega)
  have c04 : IntKind.i64.wrap (m + 4) = m + 4 := wrapI (by omega) (by omega)
  have c05 : IntKind.i64.wrap (m + 5) = m + 5 := wrapI (by omega) (by omega)
  have c06 : IntKind.i64.wrap (m + 6) = m + 6 := wrapI (by omega) (by omega)
  have c07 : IntKind.i64.wrap (m + 7) = m + 7 := wrapI (by omega) (by omega)
  have c08 : IntKind.i64.wrap (m + 8) = m + 8 := wrapI (by omega) (by omega)
  have c09 : IntKind.i64.wrap (m + 9) = m + 9 := wrapI (by omega) (by omega)
  have c10 : IntKind.i64.wrap (1 + 0) = 1 := by decide
  have c11 : IntKind.i64.wrap (1 + 1) = 2 := by decide
  have c12 : IntKind.i64.wrap (1 + 2) = 3 := by decide
  have c13 : IntKind.i64.wrap (1 + 3) = 4 := by decide
  have c14 : IntKind.i64.wrap (1 + 4) = 5 := by decide
  have c15 : IntKind.i64.wrap (1 + 5) = 6 := by decide
  repeat' (first | refine And.intro ?_ ?_ | (with_reducible exact ff_elim) | (with_reducible exact tf_elim) | (intro hq; exact absurd hq (by decide)) | refine num_elim ?_ | intro _ | (with_reducible rfl) | ((with_reducible refine lk_t ?_); exact rfl) | ((with_reducible refine pf_t ?_); exact rfl) | refine tell ?_ | exact True.intro | (refine IsT.of ?_; kernel_rfl))
  all_goals (try refine Tell.mk ?_)
  all_goals first | with_reducible rfl | with_reducible exact isI_mk | with_reducible assumption | (with_reducible refine gb_t ?_; with_reducible assumption) | (with_reducible refine gb_f ?_; with_reducible assumption) | ((with_reducible refine ks_t ?_); rfl) | ((with_reducible refine pk_t ?_); rfl) | ((with_reducible refine pf_t ?_); rfl) | ((with_reducible refine lk_t ?_); rfl) | ((with_reducible refine okF_t ?_); kernel_rfl) | ((with_reducible refine rawF_in ?_); assumption) | skip
  all_goals (try simp only [decide_eq_true_eq, decide_eq_false_iff_not, beq_iff_eq, beq_eq_false_iff_ne, ne_eq, bne_iff_ne, intF_mk])
  all_goals (try unfold shq2oS)
  all_goals (try dsimp only)
  all_goals (try simp only [w1, w2, w3, w4, w5, c01, c04, c05, c06, c07, c08, c09, c10, c11, c12, c13, c14, c15])
  all_goals first | with_reducible rfl | omega | (simp only [raw_p]; omega) | exact hF _ | with_reducible exact rawF_in hF | (simp only [intF_mk, c04] at *; simp only [*, cond_true, cond_false]; done) | (simp only [intF_mk, c04, w3] at *; omega) | trace_state
theorem siy5_f : FnOk Try.prog 6 Try.f6 := ⟨Try.func6, by kernel_rfl⟩
theorem siy5_a (c : Int) (hpre : In64 c ∧ pickF c 6 = 4) : ACalls Try.prog 6 [.int .i64 c, .int .i64 6] (.int .i64 4) := by
  have h := pick_a c 6 ⟨hpre.1, by omega, by omega⟩
  rw [hpre.2] at h
  exact h
def siy5_k : Con Try.prog := ⟨6, fun args => match args with | [.int .i64 c, .int .i64 6] => .ok (some (In64 c ∧ pickF c 6 = 4)) (.int .i64 4) | _ => .no, by
  intro args p r h hp
  split at h
  · cases h; exact siy5_a _ hp
  · cases h⟩
def shq5oS (n : Nat) (G : Nat → Int) (m : Int) : Shp := ⟨5, milF (rawF n G (m + 1)) 4000, milF (rawF n G (m + 1 + 1)) 4000, milF (rawF n G (m + 1 + 2)) 4000, bif pickF (rawF n G (m + 6)) 3 == 0 then thoF (1 + pickF (rawF n G (m + 5)) 3000) else 0, bif pickF (rawF n G (m + 6)) 3 == 1 then thoF (1 + pickF (rawF n G (m + 5)) 3000) else 0, bif pickF (rawF n G (m + 6)) 3 == 0 || pickF (rawF n G (m + 6)) 3 == 1 then 0 else thoF (1 + pickF (rawF n G (m + 5)) 3000), 0, 0, 0, thoF (1 + pickF (rawF n G (m + 8)) 2500), 0, pickF (rawF n G (m + 7)) 1⟩
theorem shq5o_f : FnOk Try.prog 25 Try.f25 := ⟨Try.func25, by kernel_rfl⟩
theorem shq5o_a (n : Nat) (G : Nat → Int) (m : Int) (hpre : (∀ j, In64 (G j)) ∧ (0 ≤ m ∧ m ≤ 900000) ∧ pickF (rawF n G m) 6 = 4) : ACalls Try.prog 25 [ints .i64 n G, .int .i64 m, .int .i64 1] (.agg (shq5oS n G m).lso) := by
  refine acalls_of (inl := hasI (P := Try.prog) [] []) (base [siy5_k, raw_k, vecOf_k, thousandth_k, pick_k, addR_k, putW_k, noughtM_k] [] []) 0 shq5o_f (And.intro (by kernel_rfl) ?_)
  obtain ⟨hF, hm, hk⟩ := hpre
  have h5 := pickF_bd (rawF n G (m + 5)) 3000 (by omega)
  have h5' := pickF_bd (rawF n G (m + 5)) 2000 (by omega)
  have h6 := pickF_bd (rawF n G (m + 6)) 2000 (by omega)
  have h6' := pickF_bd (rawF n G (m + 6)) 3 (by omega)
  have h8 := pickF_bd (rawF n G (m + 8)) 2500 (by omega)
  have h4 := pickF_bd (rawF n G (m + 4)) 3 (by omega)
  have hd := tdiv_bo h8 h4
  have w1 : IntKind.i64.wrap (1 + pickF (rawF n G (m + 8)) 2500) = 1 + pickF (rawF n G (m + 8)) 2500 := wrapI (by omega) (by omega)
  have w2 : IntKind.i64.wrap (1 + pickF (rawF n G (m + 5)) 3000) = 1 + pickF (rawF n G (m + 5)) 3000 := wrapI (by omega) (by omega)
  have w3 : IntKind.i64.wrap (1 + pickF (rawF n G (m + 4)) 3) = 1 + pickF (rawF n G (m + 4)) 3 := wrapI (by omega) (by omega)
  have w4 : IntKind.i64.wrap ((pickF (rawF n G (m + 8)) 2500).tdiv (1 + pickF (rawF n G (m + 4)) 3)) = (pickF (rawF n G (m + 8)) 2500).tdiv (1 + pickF (rawF n G (m + 4)) 3) := wrapI (by omega) (by omega)
  have w5 : IntKind.i64.wrap (1 + (pickF (rawF n G (m + 8)) 2500).tdiv (1 + pickF (rawF n G (m + 4)) 3)) = 1 + (pickF (rawF n G (m + 8)) 2500).tdiv (1 + pickF (rawF n G (m + 4)) 3) := wrapI (by omega) (by omega)
  have c01 : IntKind.i64.wrap (m + 1) = m + 1 := wrapI (by omega) (by omega)
  have c04 : IntKind.i64.wrap (m + 4) = m + 4 := wrapI (by omega) (by omega)
  have c05 : IntKind.i64.wrap (m + 5) = m + 5 := wrapI (by omega) (by omega)
  have c06 : IntKind.i64.wrap (m + 6) = m + 6 := wrapI (by omega) (by omega)
  have c07 : IntKind.i64.wrap (m + 7) = m + 7 := wrapI (by omega) (by omega)
  have c08 : IntKind.i64.wrap (m + 8) = m + 8 := wrapI (by omega) (by omega)
  have c09 : IntKind.i64.wrap (m + 9) = m + 9 := wrapI (by omega) (by omega)
  have c10 : IntKind.i64.wrap (1 + 0) = 1 := by decide
  have c11 : IntKind.i64.wrap (1 + 1) = 2 := by decide
  have c12 : IntKind.i64.wrap (1 + 2) = 3 := by decide
  have c13 : IntKind.i64.wrap (1 + 3) = 4 := by decide
  have c14 : IntKind.i64.wrap (1 + 4) = 5 := by decide
  have c15 : IntKind.i64.wrap (1 + 5) = 6 := by decide
  repeat' (first | refine And.intro ?_ ?_ | (with_reducible exact ff_elim) | (with_reducible exact tf_elim) | (intro hq; exact absurd hq (by decide)) | refine num_elim ?_ | intro _ | (with_reducible rfl) | ((with_reducible refine lk_t ?_); exact rfl) | ((with_reducible refine pf_t ?_); exact rfl) | refine tell ?_ | exact True.intro | (refine IsT.of ?_; kernel_rfl))
  all_goals (try refine Tell.mk ?_)
  all_goals first | with_reducible rfl | with_reducible exact isI_mk | with_reducible assumption | (with_reducible refine gb_t ?_; with_reducible assumption) | (with_reducible refine gb_f ?_; with_reducible assumption) | ((with_reducible refine ks_t ?_); rfl) | ((with_reducible refine pk_t ?_); rfl) | ((with_reducible refine pf_t ?_); rfl) | ((with_reducible refine lk_t ?_); rfl) | ((with_reducible refine okF_t ?_); kernel_rfl) | ((with_reducible refine rawF_in ?_); assumption) | skip
  all_goals (try simp only [decide_eq_true_eq, decide_eq_false_iff_not, beq_iff_eq, beq_eq_false_iff_ne, ne_eq, bne_iff_ne, intF_mk])
  all_goals (try unfold shq5oS)
  all_goals (try dsimp only)
  all_goals (try simp only [w1, w2, w3, w4, w5, c01, c04, c05, c06, c07, c08, c09, c10, c11, c12, c13, c14, c15])
  all_goals first | with_reducible rfl | omega | (simp only [raw_p]; omega) | exact hF _ | with_reducible exact rawF_in hF | (simp only [intF_mk, c04] at *; simp only [*, cond_true, cond_false]; done) | (simp only [intF_mk, c04, w3] at *; omega) | trace_state
end Go.Proofs.Ytgbcnfcgljbbgaa
/- Leaves that are made of raw numbers. -/
namespace Go.Proofs.Ytgbcnfcgljbbgaa
open Go.RowKit Ev Flt
set_option linter.unusedVariables false
set_option linter.unusedSimpArgs false
set_option maxRecDepth 20000
set_option maxHeartbeats 4000000

theorem Q_Fneg {x : Nat} {M : Rat} (h : Q x M) : Q (Fneg x) M := by
  obtain ⟨s, m, i, e⟩ := h.fin
  have e1 := read_fneg e
  have ev : V (fneg x) = -V x := by rw [V_of e, V_of e1, signed_not]
  rw [Fneg_eq h.fin]
  refine ⟨⟨_, _, _, e1⟩, ?_⟩
  have b := h.bd
  unfold Bd at *
  have : val (fneg x) = -val x := by
    unfold val
    rw [ev, Rat.intCast_neg, Rat.div_def, Rat.div_def, Rat.neg_mul]
  rw [this]
  grind
theorem iv_1 : Iv 4607182418800017408 1 := by
  have := iv_near (z := 1) (by omega)
  rwa [show cn (FloatKind.f64.nearest 1) = 4607182418800017408 by decide +kernel] at this
theorem half_Q : Q 4602678819172646912 1 := by
  have f : Flt.Fin 4602678819172646912 := ⟨false, 4503599627370496, -53, by decide +kernel⟩
  have h1 : flt 4602678819172646912 4607182418800017408 = true := by decide +kernel
  have h2 : flt 0 4602678819172646912 = true := by decide +kernel
  rw [flt_V f iv_1.fin, decide_eq_true_eq] at h1
  rw [flt_V Fin_0 f, V_0, decide_eq_true_eq] at h2
  have e1 : val 4607182418800017408 = 1 := by rw [iv_1.eq]; rfl
  have l := val_le (Int.le_of_lt h1)
  have p := val_pos_U (Int.le_of_lt h2)
  rw [e1] at l
  refine ⟨f, ?_⟩
  unfold Bd
  constructor <;> grind
@[irreducible] def tiF (y : Nat) : Int := ((FloatKind.f64.decode y).toInt .zero).getD 0
theorem ti_some {y : Nat} {M : Int} (h : Q y (M : Rat)) (hM : 0 ≤ M) : (FloatKind.f64.decode y).toInt .zero = some (tiF y) ∧ -M ≤ tiF y ∧ tiF y ≤ M := by
  obtain ⟨z, h1, h2, h3⟩ := trunc_some h hM
  unfold tiF
  rw [h1]
  exact ⟨rfl, h2, h3⟩
def mk1 (x : Nat) : Nat := F .add (F .mul x 4652007308841189376) 4602678819172646912
theorem mk1_Q {x : Nat} (h : Q x 1000) : Q (mk1 x) ((2000000 : Int) : Rat) := by
  have q : Q 4652007308841189376 1000 := ⟨iv_1000.fin, by rw [iv_1000.eq]; unfold Bd; rw [show (((1000 : Int)) : Rat) = 1000 from rfl]; constructor <;> grind⟩
  have h1 := h.mul q (by grind)
  have h2 := h1.add half_Q (by grind)
  exact h2.le (by rw [show (((2000000 : Int)) : Rat) = 2000000 from rfl]; grind)
@[irreducible] def rndV (x : Nat) : Nat := bif flt x 0 then thoF (-(tiF (mk1 (Fneg x)))) else thoF (tiF (mk1 x))
theorem rounded_f : FnOk Try.prog 27 Try.f27 := ⟨Try.func27, by kernel_rfl⟩
theorem rounded_a (x : Nat) (hpre : Q x 1000) : ACalls Try.prog 27 [.flt x] (.flt (rndV x)) := by
  refine acalls_of (inl := hasI (P := Try.prog) [] []) (base [thousandth_k] [] []) 0 rounded_f (And.intro (by kernel_rfl) ?_)
  have h1 := ti_some (mk1_Q hpre) (by decide)
  have h2 := ti_some (mk1_Q (Q_Fneg hpre)) (by decide)
  unfold mk1 at h1 h2
  have m1 : IntKind.i64.min = -9223372036854775808 := rfl
  have m2 : IntKind.i64.max = 9223372036854775807 := rfl
  repeat' (first | refine And.intro ?_ ?_ | (with_reducible exact ff_elim) | (with_reducible exact tf_elim) | refine num_elim ?_ | intro _ | (with_reducible rfl) | ((with_reducible refine lk_t ?_); exact rfl) | ((with_reducible refine pf_t ?_); exact rfl) | refine tell ?_ | exact True.intro | (refine IsT.of ?_; kernel_rfl))
  all_goals (try refine Tell.mk ?_)
  all_goals first | with_reducible rfl | exact ⟨_, h1.1, by rw [m1]; omega, by rw [m2]; omega⟩ | exact ⟨_, h2.1, by rw [m1]; omega, by rw [m2]; omega⟩ | skip
  all_goals (unfold rndV mk1; rw [‹flt x 0 = _›])
  all_goals first | (rw [h1.1]; rfl) | (rw [h2.1]; simp only [cond_true, Option.getD_some]; rw [wrapI (by omega) (by omega)]; congr 1; omega)
def rounded_k : Con Try.prog := ⟨27, fun args => match args with | [.flt x] => .ok (some (Q x 1000)) (.flt (rndV x)) | _ => .no, by
  intro args p r h hp
  split at h
  · cases h; exact rounded_a _ hp
  · cases h⟩
@[irreducible] def leafL (n : Nat) (F : Nat → Int) (j : Nat) : Int := if j < n then F j else rawF n F j
theorem leafL_in {n : Nat} {F : Nat → Int} (h : ∀ j, In64 (F j)) (j : Nat) : In64 (leafL n F j) := by
  unfold leafL; split
  · exact h j
  · exact rawF_in h
def leafN (n : Nat) (m : Int) : Nat := max n (m.toNat + 9)
@[irreducible] def leafG (n : Nat) (F : Nat → Int) (m v : Int) (j : Nat) : Int := if j = m.toNat then v else leafL n F j
theorem leafG_in {n : Nat} {F : Nat → Int} {m v : Int} (h : ∀ j, In64 (F j)) (hv : 0 ≤ v ∧ v ≤ 4) (j : Nat) : In64 (leafG n F m v j) := by
  unfold leafG; split
  · exact ⟨by omega, by omega⟩
  · exact leafL_in h j
theorem leafG_raw {n : Nat} {F : Nat → Int} {m v : Int} (hm : 0 ≤ m) : rawF (leafN n m) (leafG n F m v) m = v := by
  unfold rawF leafN
  rw [if_neg (by omega), Nat.mod_eq_of_lt (by omega)]
  unfold leafG; rw [if_pos rfl]
theorem pick_v {v : Int} (h : 0 ≤ v ∧ v ≤ 4) : pickF v 6 = v := by
  unfold pickF; rw [if_neg (by omega)]; exact Int.emod_eq_of_lt h.1 (by omega)
theorem quo_tho {x : Nat} {M : Rat} (h : Q x M) (hM : M ≤ 1152921504606846976) : Q (F .quo x 4652007308841189376) (M / 1000 + 129) := by
  have v : val 4652007308841189376 = 1000 := by rw [iv_1000.eq]; rfl
  have v0 : V 4652007308841189376 ≠ 0 := fun e => by
    have : val 4652007308841189376 = 0 := by unfold val; rw [e, Rat.intCast_zero, Rat.div_def, Rat.zero_mul]
    rw [v] at this; exact absurd this (by decide)
  have he : (val x / 1000) * val 4652007308841189376 = val x := by rw [v]; grind
  have hn := h.nn
  have hb : Bd (val x / 1000) (M / 1000) := by
    have := h.bd
    unfold Bd at *
    grind
  exact .of (quo_err h.fin iv_1000.fin v0 he hb (by grind)) hb (by grind)
theorem tho_Q {i M : Int} (h : -M ≤ i ∧ i ≤ M) (hM : M ≤ 9007199254740991) : Q (thoF i) ((M : Rat) / 1000 + 129) := by
  unfold thoF
  refine quo_tho (nI_Q h hM) ?_
  have := Rat.intCast_le_intCast.2 hM
  rw [show (((9007199254740991 : Int)) : Rat) = 9007199254740991 from rfl] at this
  grind
theorem mil_Q {c : Int} : Q (milF c 4000) 133 := by
  have hb := pickF_bd c (2 * 4000 + 1) (by omega)
  have h := tho_Q (i := pickF c (2 * 4000 + 1) - 4000) (M := 4000) (by omega) (by omega)
  unfold milF
  exact h.le (by rw [show (((4000 : Int)) : Rat) = 4000 from rfl]; grind)
theorem quart_Q : Q 4598175219545276416 1 := by
  have f : Flt.Fin 4598175219545276416 := ⟨false, 4503599627370496, -54, by decide +kernel⟩
  have h1 : flt 4598175219545276416 4607182418800017408 = true := by decide +kernel
  have h2 : flt 0 4598175219545276416 = true := by decide +kernel
  rw [flt_V f iv_1.fin, decide_eq_true_eq] at h1
  rw [flt_V Fin_0 f, V_0, decide_eq_true_eq] at h2
  have e1 : val 4607182418800017408 = 1 := by rw [iv_1.eq]; rfl
  have l := val_le (Int.le_of_lt h1)
  have p := val_pos_U (Int.le_of_lt h2)
  rw [e1] at l
  refine ⟨f, ?_⟩
  unfold Bd
  constructor <;> grind
theorem one_Q : Q 4607182418800017408 1 := by
  refine ⟨iv_1.fin, ?_⟩
  rw [iv_1.eq]
  unfold Bd
  rw [show (((1 : Int)) : Rat) = 1 from rfl]; constructor <;> grind
def qa (c : Int) : Nat := F .mul (milF c 4000) 4598175219545276416
theorem qa_Q {c : Int} : Q (qa c) 1000 := (mil_Q.mul quart_Q (by grind)).le (by grind)
theorem rnd_Q {x : Nat} (h : Q x 262) : Q (rndV x) 400 := by
  have q : Q 4652007308841189376 1000 := ⟨iv_1000.fin, by rw [iv_1000.eq]; unfold Bd; rw [show (((1000 : Int)) : Rat) = 1000 from rfl]; constructor <;> grind⟩
  have mk : ∀ {y}, Q y 262 → Q (mk1 y) ((270000 : Int) : Rat) := fun hy =>
    ((hy.mul q (by grind)).add half_Q (by grind)).le (by rw [show (((270000 : Int)) : Rat) = 270000 from rfl]; grind)
  have h1 := ti_some (mk h) (by decide)
  have h2 := ti_some (mk (Q_Fneg h)) (by decide)
  unfold rndV
  cases flt x 0
  · exact (tho_Q ⟨h1.2.1, h1.2.2⟩ (by decide)).le (by rw [show (((270000 : Int)) : Rat) = 270000 from rfl]; grind)
  · exact (tho_Q (i := -tiF (mk1 (Fneg x))) (M := 270000) ⟨by omega, by omega⟩ (by decide)).le (by rw [show (((270000 : Int)) : Rat) = 270000 from rfl]; grind)
theorem qa_Q' {c : Int} : Q (qa c) 262 := (mil_Q.mul quart_Q (by grind)).le (by grind)
/-- The other end of a block. -/
def lfE (a x : Nat) : Nat := F .add a x
theorem lfE_Q {a x : Nat} (ha : Q a 400) (hx : Q x 130) : Q (lfE a x) 1000 := (ha.add hx (by grind)).le (by grind)
theorem leaf_0 {n : Nat} {F : Nat → Int} {j k : Nat} {P : Nat → Int} (h : j < n) : leafL n F j = catI 0 (some k) P (fun j => F j) j := by
  rw [catI_some, if_neg (Nat.not_lt_zero _), Nat.sub_zero]
  unfold leafL; rw [if_pos h]
theorem leaf_s {n i j k : Nat} {F : Nat → Int} (h : j < n + (i + 1)) : leafL n F j = catI (n + i) (some k) (leafL n F) (fun _ => rawF n F ((n + i : Nat) : Int)) j := by
  rw [catI_some]
  split
  · rfl
  · obtain rfl : j = n + i := by omega
    unfold leafL; rw [if_neg (by omega)]
theorem leaf_e {n i : Nat} {m : Int} (h1 : n + i ≤ leafN n m) (h2 : m + 9 ≤ ((n + i : Nat) : Int)) (hm : 0 ≤ m) : n + i = leafN n m := by
  unfold leafN at *; omega
theorem leaf_g (n : Nat) (F : Nat → Int) (m v : Int) : (fun j => if 0 + j = 0 + mulN m.toNat 1 then v else leafL n F (0 + j)) = leafG n F m v := by
  funext j
  unfold leafG
  rw [mulN1, Nat.zero_add, Nat.zero_add]
def leafA (p : Shp) : Shp := { p with a := rndV (F .mul p.a 4598175219545276416), b := rndV (F .mul p.b 4598175219545276416), c := rndV (F .mul p.c 4598175219545276416) }
def leafB (p : Shp) : Shp := { leafA p with d := rndV (F .add (leafA p).a (F .add p.r 4607182418800017408)), e := rndV (F .add (leafA p).b 4607182418800017408), f := rndV (F .add (leafA p).c 4602678819172646912) }
theorem zero_Q : Q 0 1 := by
  refine ⟨Fin_0, ?_⟩
  rw [val_0]
  unfold Bd
  constructor <;> grind
def shq1oC : Con Try.prog := ⟨25, fun args => match args with | [.sl n 1 g, .int .i64 m, .int .i64 1] => .ok (some (IsI .i64 g ∧ (∀ j, In64 (intF g j)) ∧ (0 ≤ m ∧ m ≤ 900000) ∧ pickF (rawF n (intF g) m) 6 = 0)) (.agg (shq1oS n (intF g) m).lso) | _ => .no, by
  intro args p r h hp
  split at h
  · cases h; obtain ⟨h_g, hq⟩ := hp; have e_g := h_g.eq; rw [e_g]; exact shq1o_a _ _ _ hq
  · cases h⟩
theorem trip0_f : FnOk Try.prog 6 Try.f6 := ⟨Try.func6, by kernel_rfl⟩
theorem trip0_a (c : Int) (hpre : In64 c ∧ pickF c 3 = 0) : ACalls Try.prog 6 [.int .i64 c, .int .i64 3] (.int .i64 0) := by
  have h := pick_a c 3 ⟨hpre.1, by omega, by omega⟩
  rw [hpre.2] at h
  exact h
def trip0_k : Con Try.prog := ⟨6, fun args => match args with | [.int .i64 c, .int .i64 3] => .ok (some (In64 c ∧ pickF c 3 = 0)) (.int .i64 0) | _ => .no, by
  intro args p r h hp
  split at h
  · cases h; exact trip0_a _ hp
  · cases h⟩
theorem leaf1_f : FnOk Try.prog 13 Try.f13 := ⟨Try.func13, by kernel_rfl⟩
theorem leaf1_a (n : Nat) (F : Nat → Int) (m : Int) (hpre : (∀ j, In64 (F j)) ∧ (0 ≤ m ∧ m ≤ 900000) ∧ n ≤ 1000000 ∧ pickF (leafL n F m.toNat) 3 = 0) : ACalls Try.prog 13 [ints .i64 n F, .int .i64 m] (.agg (leafA (shq1oS (leafN n m) (leafG n F m 0) m)).lso) := by
  refine acalls_of (inl := hasI (P := Try.prog) [] []) (base [raw_k, trip0_k, shq1oC, scaleR_k, rounded_k, addR_k] [] []) 0 leaf1_f (And.intro (by kernel_rfl) ?_)
  obtain ⟨hF, hm, hn, hp⟩ := hpre
  have w9 : IntKind.i64.wrap (m + 9) = m + 9 := wrapI (by omega) (by omega)
  repeat' (first | refine And.intro ?_ ?_ | (with_reducible exact ff_elim) | (with_reducible exact tf_elim) | refine num_elim ?_ | intro _ | (with_reducible rfl) | ((with_reducible refine lk_t ?_); exact rfl) | ((with_reducible refine pf_t ?_); exact rfl) | refine tell ?_ | exact True.intro | (refine IsT.of ?_; kernel_rfl))
  all_goals (try (refine loop_keep [0, 1, 4] [0] ?_; refine LoopI.mk ({i : Nat // n + i ≤ leafN n m}) (fun i => [(5, .os 1 1 0 (n + i.1))]) (fun i => [(1, .nums .i64 (n + i.1) (leafL n F))]) (fun i => leafN n m - i.1) (⟨0, by unfold leafN; omega⟩) (wk_mk [some 3, some 0] ?_) (fun ⟨i, hi⟩ => ?_)))
  repeat' (first | refine And.intro ?_ ?_ | (with_reducible exact ff_elim) | (with_reducible exact tf_elim) | refine' stp_mk [some _, some 0] (⟨i + 1, ?_⟩) ?_ ?_ | refine num_elim ?_ | intro _ | (with_reducible rfl) | ((with_reducible refine lk_t ?_); exact rfl) | ((with_reducible refine pf_t ?_); exact rfl) | refine tell ?_ | exact True.intro | (refine IsT.of ?_; kernel_rfl))
  all_goals (try refine Tell.mk ?_)
  all_goals first | with_reducible rfl | with_reducible exact isI_mk | with_reducible assumption | rfl | skip
  all_goals (try dsimp only at *)
  all_goals (try simp only [intF_mk, w9, raw_p, avInt_int, leaf_g, show (Tab.cx.ti 3).bytes = 8 from rfl] at *)
  all_goals (try simp only [decide_eq_true_eq, decide_eq_false_iff_not, Int.not_lt] at *)
  all_goals (try have hN : leafN n m ≤ 1900018 := (by unfold leafN; omega))
  all_goals first | with_reducible assumption | with_reducible exact isI_mk | rfl | omega | exact leafL_in hF _ | exact leafG_in hF (by omega) _ | exact leaf_0 (by omega) | exact leaf_s (by omega) | ((show (_ : Int) ≤ _); decide) | ((show (_ : Int) < _); decide) | (simp only [mulN1, Nat.zero_add]; first | assumption | omega) | (split <;> first | exact ⟨by omega, by omega⟩ | exact leafL_in hF _) | (unfold leafN at *; omega) | skip
  all_goals (have he := leaf_e hi (by omega) hm.1; simp only [he] at *)
  all_goals first | (rw [leafG_raw hm.1]; exact pick_v (by omega)) | exact ff_elim (show false = true from ‹((shq1oS (leafN n m) (leafG n F m 0) m).k == 2) = true›) | rfl | exact (mil_Q.mul quart_Q (by grind)).le (by grind) | exact ((rnd_Q ((mil_Q.mul quart_Q (by grind)).le (by grind))).add ((zero_Q.add one_Q (by grind)).le (N := 131) (by grind)) (by grind)).le (by grind) | exact ((rnd_Q ((mil_Q.mul quart_Q (by grind)).le (by grind))).add one_Q (by grind)).le (by grind) | exact ((rnd_Q ((mil_Q.mul quart_Q (by grind)).le (by grind))).add half_Q (by grind)).le (by grind) | trace_state
def shq2oC : Con Try.prog := ⟨25, fun args => match args with | [.sl n 1 g, .int .i64 m, .int .i64 1] => .ok (some (IsI .i64 g ∧ (∀ j, In64 (intF g j)) ∧ (0 ≤ m ∧ m ≤ 900000) ∧ pickF (rawF n (intF g) m) 6 = 1)) (.agg (shq2oS n (intF g) m).lso) | _ => .no, by
  intro args p r h hp
  split at h
  · cases h; obtain ⟨h_g, hq⟩ := hp; have e_g := h_g.eq; rw [e_g]; exact shq2o_a _ _ _ hq
  · cases h⟩
theorem trip1_f : FnOk Try.prog 6 Try.f6 := ⟨Try.func6, by kernel_rfl⟩
theorem trip1_a (c : Int) (hpre : In64 c ∧ pickF c 3 = 1) : ACalls Try.prog 6 [.int .i64 c, .int .i64 3] (.int .i64 1) := by
  have h := pick_a c 3 ⟨hpre.1, by omega, by omega⟩
  rw [hpre.2] at h
  exact h
def trip1_k : Con Try.prog := ⟨6, fun args => match args with | [.int .i64 c, .int .i64 3] => .ok (some (In64 c ∧ pickF c 3 = 1)) (.int .i64 1) | _ => .no, by
  intro args p r h hp
  split at h
  · cases h; exact trip1_a _ hp
  · cases h⟩
theorem leaf2_f : FnOk Try.prog 13 Try.f13 := ⟨Try.func13, by kernel_rfl⟩
theorem leaf2_a (n : Nat) (F : Nat → Int) (m : Int) (hpre : (∀ j, In64 (F j)) ∧ (0 ≤ m ∧ m ≤ 900000) ∧ n ≤ 1000000 ∧ pickF (leafL n F m.toNat) 3 = 1) : ACalls Try.prog 13 [ints .i64 n F, .int .i64 m] (.agg (leafB (shq2oS (leafN n m) (leafG n F m 1) m)).lso) := by
  refine acalls_of (inl := hasI (P := Try.prog) [] []) (base [raw_k, trip1_k, shq2oC, scaleR_k, rounded_k, addR_k] [] []) 0 leaf2_f (And.intro (by kernel_rfl) ?_)
  obtain ⟨hF, hm, hn, hp⟩ := hpre
  have w9 : IntKind.i64.wrap (m + 9) = m + 9 := wrapI (by omega) (by omega)
  repeat' (first | refine And.intro ?_ ?_ | (with_reducible exact ff_elim) | (with_reducible exact tf_elim) | refine num_elim ?_ | intro _ | (with_reducible rfl) | ((with_reducible refine lk_t ?_); exact rfl) | ((with_reducible refine pf_t ?_); exact rfl) | refine tell ?_ | exact True.intro | (refine IsT.of ?_; kernel_rfl))
  all_goals (try (refine loop_keep [0, 1, 4] [0] ?_; refine LoopI.mk ({i : Nat // n + i ≤ leafN n m}) (fun i => [(5, .os 1 1 0 (n + i.1))]) (fun i => [(1, .nums .i64 (n + i.1) (leafL n F))]) (fun i => leafN n m - i.1) (⟨0, by unfold leafN; omega⟩) (wk_mk [some 3, some 0] ?_) (fun ⟨i, hi⟩ => ?_)))
  repeat' (first | refine And.intro ?_ ?_ | (with_reducible exact ff_elim) | (with_reducible exact tf_elim) | refine' stp_mk [some _, some 0] (⟨i + 1, ?_⟩) ?_ ?_ | refine num_elim ?_ | intro _ | (with_reducible rfl) | ((with_reducible refine lk_t ?_); exact rfl) | ((with_reducible refine pf_t ?_); exact rfl) | refine tell ?_ | exact True.intro | (refine IsT.of ?_; kernel_rfl))
  all_goals (try refine Tell.mk ?_)
  all_goals first | with_reducible rfl | with_reducible exact isI_mk | with_reducible assumption | rfl | skip
  all_goals (try dsimp only at *)
  all_goals (try simp only [intF_mk, w9, raw_p, avInt_int, leaf_g, show (Tab.cx.ti 3).bytes = 8 from rfl] at *)
  all_goals (try simp only [decide_eq_true_eq, decide_eq_false_iff_not, Int.not_lt] at *)
  all_goals (try have hN : leafN n m ≤ 1900018 := (by unfold leafN; omega))
  all_goals first | with_reducible assumption | with_reducible exact isI_mk | rfl | omega | exact leafL_in hF _ | exact leafG_in hF (by omega) _ | exact leaf_0 (by omega) | exact leaf_s (by omega) | ((show (_ : Int) ≤ _); decide) | ((show (_ : Int) < _); decide) | (simp only [mulN1, Nat.zero_add]; first | assumption | omega) | (split <;> first | exact ⟨by omega, by omega⟩ | exact leafL_in hF _) | (unfold leafN at *; omega) | skip
  all_goals (have he := leaf_e hi (by omega) hm.1; simp only [he] at *)
  all_goals first | (rw [leafG_raw hm.1]; exact pick_v (by omega)) | exact tf_elim (show true = false from ‹((shq2oS (leafN n m) (leafG n F m 1) m).k == 2) = false›) | rfl | exact (mil_Q.mul quart_Q (by grind)).le (by grind) | exact ((rnd_Q ((mil_Q.mul quart_Q (by grind)).le (by grind))).add ((zero_Q.add one_Q (by grind)).le (N := 131) (by grind)) (by grind)).le (by grind) | exact ((rnd_Q ((mil_Q.mul quart_Q (by grind)).le (by grind))).add one_Q (by grind)).le (by grind) | exact ((rnd_Q ((mil_Q.mul quart_Q (by grind)).le (by grind))).add half_Q (by grind)).le (by grind) | trace_state
def shq5oC : Con Try.prog := ⟨25, fun args => match args with | [.sl n 1 g, .int .i64 m, .int .i64 1] => .ok (some (IsI .i64 g ∧ (∀ j, In64 (intF g j)) ∧ (0 ≤ m ∧ m ≤ 900000) ∧ pickF (rawF n (intF g) m) 6 = 4)) (.agg (shq5oS n (intF g) m).lso) | _ => .no, by
  intro args p r h hp
  split at h
  · cases h; obtain ⟨h_g, hq⟩ := hp; have e_g := h_g.eq; rw [e_g]; exact shq5o_a _ _ _ hq
  · cases h⟩
theorem trip2_f : FnOk Try.prog 6 Try.f6 := ⟨Try.func6, by kernel_rfl⟩
theorem trip2_a (c : Int) (hpre : In64 c ∧ pickF c 3 = 2) : ACalls Try.prog 6 [.int .i64 c, .int .i64 3] (.int .i64 2) := by
  have h := pick_a c 3 ⟨hpre.1, by omega, by omega⟩
  rw [hpre.2] at h
  exact h
def trip2_k : Con Try.prog := ⟨6, fun args => match args with | [.int .i64 c, .int .i64 3] => .ok (some (In64 c ∧ pickF c 3 = 2)) (.int .i64 2) | _ => .no, by
  intro args p r h hp
  split at h
  · cases h; exact trip2_a _ hp
  · cases h⟩
theorem leaf5_f : FnOk Try.prog 13 Try.f13 := ⟨Try.func13, by kernel_rfl⟩
theorem leaf5_a (n : Nat) (F : Nat → Int) (m : Int) (hpre : (∀ j, In64 (F j)) ∧ (0 ≤ m ∧ m ≤ 900000) ∧ n ≤ 1000000 ∧ pickF (leafL n F m.toNat) 3 = 2) : ACalls Try.prog 13 [ints .i64 n F, .int .i64 m] (.agg (leafA (shq5oS (leafN n m) (leafG n F m 4) m)).lso) := by
  refine acalls_of (inl := hasI (P := Try.prog) [] []) (base [raw_k, trip2_k, shq5oC, scaleR_k, rounded_k, addR_k] [] []) 0 leaf5_f (And.intro (by kernel_rfl) ?_)
  obtain ⟨hF, hm, hn, hp⟩ := hpre
  have w9 : IntKind.i64.wrap (m + 9) = m + 9 := wrapI (by omega) (by omega)
  repeat' (first | refine And.intro ?_ ?_ | (with_reducible exact ff_elim) | (with_reducible exact tf_elim) | refine num_elim ?_ | intro _ | (with_reducible rfl) | ((with_reducible refine lk_t ?_); exact rfl) | ((with_reducible refine pf_t ?_); exact rfl) | refine tell ?_ | exact True.intro | (refine IsT.of ?_; kernel_rfl))
  all_goals (try (refine loop_keep [0, 1, 4] [0] ?_; refine LoopI.mk ({i : Nat // n + i ≤ leafN n m}) (fun i => [(5, .os 1 1 0 (n + i.1))]) (fun i => [(1, .nums .i64 (n + i.1) (leafL n F))]) (fun i => leafN n m - i.1) (⟨0, by unfold leafN; omega⟩) (wk_mk [some 3, some 0] ?_) (fun ⟨i, hi⟩ => ?_)))
  repeat' (first | refine And.intro ?_ ?_ | (with_reducible exact ff_elim) | (with_reducible exact tf_elim) | refine' stp_mk [some _, some 0] (⟨i + 1, ?_⟩) ?_ ?_ | refine num_elim ?_ | intro _ | (with_reducible rfl) | ((with_reducible refine lk_t ?_); exact rfl) | ((with_reducible refine pf_t ?_); exact rfl) | refine tell ?_ | exact True.intro | (refine IsT.of ?_; kernel_rfl))
  all_goals (try refine Tell.mk ?_)
  all_goals first | with_reducible rfl | with_reducible exact isI_mk | with_reducible assumption | rfl | skip
  all_goals (try dsimp only at *)
  all_goals (try simp only [intF_mk, w9, raw_p, avInt_int, leaf_g, show (Tab.cx.ti 3).bytes = 8 from rfl] at *)
  all_goals (try simp only [decide_eq_true_eq, decide_eq_false_iff_not, Int.not_lt] at *)
  all_goals (try have hN : leafN n m ≤ 1900018 := (by unfold leafN; omega))
  all_goals first | with_reducible assumption | with_reducible exact isI_mk | rfl | omega | exact leafL_in hF _ | exact leafG_in hF (by omega) _ | exact leaf_0 (by omega) | exact leaf_s (by omega) | ((show (_ : Int) ≤ _); decide) | ((show (_ : Int) < _); decide) | (simp only [mulN1, Nat.zero_add]; first | assumption | omega) | (split <;> first | exact ⟨by omega, by omega⟩ | exact leafL_in hF _) | (unfold leafN at *; omega) | skip
  all_goals (have he := leaf_e hi (by omega) hm.1; simp only [he] at *)
  all_goals first | (rw [leafG_raw hm.1]; exact pick_v (by omega)) | exact ff_elim (show false = true from ‹((shq5oS (leafN n m) (leafG n F m 4) m).k == 2) = true›) | rfl | exact (mil_Q.mul quart_Q (by grind)).le (by grind) | exact ((rnd_Q ((mil_Q.mul quart_Q (by grind)).le (by grind))).add ((zero_Q.add one_Q (by grind)).le (N := 131) (by grind)) (by grind)).le (by grind) | exact ((rnd_Q ((mil_Q.mul quart_Q (by grind)).le (by grind))).add one_Q (by grind)).le (by grind) | exact ((rnd_Q ((mil_Q.mul quart_Q (by grind)).le (by grind))).add half_Q (by grind)).le (by grind) | trace_state
def leafO (n : Nat) (F : Nat → Int) (m : Int) : Shp := if pickF (leafL n F m.toNat) 3 = 0 then leafA (shq1oS (leafN n m) (leafG n F m 0) m) else if pickF (leafL n F m.toNat) 3 = 1 then leafB (shq2oS (leafN n m) (leafG n F m 1) m) else leafA (shq5oS (leafN n m) (leafG n F m 4) m)
theorem leafOf_f : FnOk Try.prog 13 Try.f13 := ⟨Try.func13, by kernel_rfl⟩
theorem leafOf_a (n : Nat) (F : Nat → Int) (m : Int) (hpre : (∀ j, In64 (F j)) ∧ (0 ≤ m ∧ m ≤ 900000) ∧ n ≤ 1000000) : ACalls Try.prog 13 [ints .i64 n F, .int .i64 m] (.agg (leafO n F m).lso) := by
  obtain ⟨h1, h2, h3⟩ := hpre
  have hb := pickF_bd (leafL n F m.toNat) 3 (by omega)
  have hc : pickF (leafL n F m.toNat) 3 = 0 ∨ pickF (leafL n F m.toNat) 3 = 1 ∨ pickF (leafL n F m.toNat) 3 = 2 := by omega
  unfold leafO
  rcases hc with h | h | h
  · rw [if_pos h]; exact leaf1_a n F m ⟨h1, h2, h3, h⟩
  · rw [if_neg (by omega), if_pos h]; exact leaf2_a n F m ⟨h1, h2, h3, h⟩
  · rw [if_neg (by omega), if_neg (by omega)]; exact leaf5_a n F m ⟨h1, h2, h3, h⟩
def leafOf_r (n : Nat) (F : Nat → Int) (m : Int) : AV := .agg (leafO n F m).lso
def leafOf_p (n : Nat) (F : Nat → Int) (m : Int) : Prop := (∀ j, In64 (F j)) ∧ (0 ≤ m ∧ m ≤ 900000) ∧ n ≤ 1000000
def leafOf_k : Con Try.prog := ⟨13, fun args => match args with | [.sl n 1 g_F, .int .i64 m] => .ok (some (IsI .i64 g_F ∧ leafOf_p n (intF g_F) m)) (leafOf_r n (intF g_F) m) | _ => .no, by
  intro args p r h hp
  split at h
  · cases h; obtain ⟨h_F, hp⟩ := hp; have e_F := h_F.eq; rw [e_F]; exact leafOf_a _ _ _ hp
  · cases h⟩
end Go.Proofs.Ytgbcnfcgljbbgaa
/- Solids that are made of raw numbers. -/
namespace Go.Proofs.Ytgbcnfcgljbbgaa
open Go.RowKit Ev
set_option linter.unusedVariables false
set_option linter.unusedSimpArgs false
set_option maxRecDepth 20000
set_option maxHeartbeats 4000000

/-- Parts so far, and what is left over so far. -/
structure St where
  np : Nat
  P : Nat → Prt
  m : Nat
  G : Nat → Int
def zShp : Shp := ⟨0, 0, 0, 0, 0, 0, 0, 0, 0, 0, 0, 0, 0⟩
def St.push (s : St) (x : Shp) : St := ⟨s.np + 1, fun j => if j = s.np then ⟨0, 0, 0, x⟩ else s.P j, s.m + 1, fun j => if j = s.m then (s.np : Int) else s.G j⟩
def St.red (op : Int) (s : St) : St := ⟨s.np + 1, fun j => if j = s.np then ⟨op, s.G (s.m - 2), s.G (s.m - 1), zShp⟩ else s.P j, s.m - 1, fun j => if j = s.m - 2 then (s.np : Int) else s.G j⟩
def redK (op : Int) : Nat → St → St
  | 0, s => s
  | k + 1, s => (redK op k s).red op
theorem redK_s (op : Int) (k : Nat) (s : St) : redK op (k + 1) s = (redK op k s).red op := rfl
theorem redK_0 (op : Int) (s : St) : redK op 0 s = s := rfl
theorem redK_m (op : Int) : ∀ (k : Nat) (s : St), (redK op k s).m = s.m - k ∧ (redK op k s).np = s.np + k
  | 0, s => ⟨rfl, rfl⟩
  | k + 1, s => by
    obtain ⟨h1, h2⟩ := redK_m op k s
    constructor
    · show (redK op k s).m - 1 = _; rw [h1]; omega
    · show (redK op k s).np + 1 = _; rw [h2]; omega
/-- How many parts are combined behind leaf i. -/
def soN (n : Nat) (F : Nat → Int) (m : Int) : Int := 1 + pickF (rawF n F (m + 1)) 4
def soC (n : Nat) (F : Nat → Int) (m : Int) (i : Nat) : Bool := (i : Int) == soN n F m - 1 || pickF (rawF n F (m + i)) 2 == 0
def soO (n : Nat) (F : Nat → Int) (m : Int) (i : Nat) : Int := 1 + pickF (rawF n F (m + 3 + i)) 3
def soL (n : Nat) (F : Nat → Int) (m : Int) (i : Nat) (s : St) : St := s.push (leafO n F (m + 2 + 9 * i))
def soK (n : Nat) (F : Nat → Int) (m : Int) (i : Nat) (s : St) : Nat := bif soC n F m i then s.m - 1 else 0
def so (n : Nat) (F : Nat → Int) (m : Int) : Nat → St
  | 0 => ⟨0, fun _ => ⟨0, 0, 0, zShp⟩, 0, fun _ => 0⟩
  | i + 1 => redK (soO n F m i) (soK n F m i (soL n F m i (so n F m i))) (soL n F m i (so n F m i))
theorem so_0 (n : Nat) (F : Nat → Int) (m : Int) : (so n F m 0).m = 0 ∧ (so n F m 0).np = 0 := ⟨rfl, rfl⟩
theorem so_s (n : Nat) (F : Nat → Int) (m : Int) (i : Nat) : so n F m (i + 1) = redK (soO n F m i) (soK n F m i (soL n F m i (so n F m i))) (soL n F m i (so n F m i)) := rfl
theorem so_bd (n : Nat) (F : Nat → Int) (m : Int) : ∀ i, (so n F m i).m ≤ i ∧ (so n F m i).np + (so n F m i).m ≤ 2 * i
  | 0 => ⟨Nat.le_refl _, Nat.le_refl _⟩
  | i + 1 => by
    obtain ⟨h1, h2⟩ := so_bd n F m i
    rw [so_s]
    obtain ⟨g1, g2⟩ := redK_m (soO n F m i) (soK n F m i (soL n F m i (so n F m i))) (soL n F m i (so n F m i))
    have e1 : (soL n F m i (so n F m i)).m = (so n F m i).m + 1 := rfl
    have e2 : (soL n F m i (so n F m i)).np = (so n F m i).np + 1 := rfl
    have e3 : soK n F m i (soL n F m i (so n F m i)) ≤ (so n F m i).m := by
      unfold soK; cases soC n F m i <;> simp [e1]
    rw [g1, g2, e1, e2]
    omega
attribute [irreducible] redK so soC
structure UpS (n : Nat) where
  v : Nat
  le : v ≤ n
structure UpR (n : Nat) where
  v : Nat
  le : v ≤ n
theorem red_m (op : Int) (s : St) : (s.red op).m = s.m - 1 := rfl
theorem red_np (op : Int) (s : St) : (s.red op).np = s.np + 1 := rfl
theorem soL_m (n : Nat) (F : Nat → Int) (m : Int) (i : Nat) (s : St) : (soL n F m i s).m = s.m + 1 := rfl
theorem soL_np (n : Nat) (F : Nat → Int) (m : Int) (i : Nat) (s : St) : (soL n F m i s).np = s.np + 1 := rfl
theorem part_app {P : Nat → Prt} {np j : Nat} {x : Prt} (hj : j < (np + 1) * 16) : partF (fun j => if j = np then x else P j) j = catA (np * 16) (partF P) (fun j => x.row.getD (0 + j) .any) j := by
  unfold catA
  split
  · rename_i h
    unfold partF
    dsimp only
    rw [if_neg (by omega)]
  · rename_i h
    unfold partF
    dsimp only
    have e1 : j / 16 = np := by omega
    have e2 : j % 16 = 0 + (j - np * 16) := by omega
    rw [e1, if_pos rfl, e2]
    have hc : 0 + (j - np * 16) < 16 := by omega
    generalize 0 + (j - np * 16) = c at hc
    match c, hc with
    | 0, _ => rfl
    | 1, _ => rfl
    | 2, _ => rfl
    | 3, _ => rfl
    | 4, _ => rfl
    | 5, _ => rfl
    | 6, _ => rfl
    | 7, _ => rfl
    | 8, _ => rfl
    | 9, _ => rfl
    | 10, _ => rfl
    | 11, _ => rfl
    | 12, _ => rfl
    | 13, _ => rfl
    | 14, _ => rfl
    | 15, _ => rfl
    | c + 16, h => omega
theorem part_app1 {P : Nat → Prt} {np j : Nat} {x : Prt} (hj : j < (np + 1) * 16) : partF (fun j => if j = np then x else P j) j = catA (np * 16) (partF P) (fun j => x.row.getD j .any) j := by
  have := part_app (P := P) (x := x) hj
  simp only [Nat.zero_add] at this
  exact this
theorem num_app {G : Nat → Int} {m j k : Nat} {v : Int} (hj : j < m + 1) : (fun j => if j = m then v else G j) j = catI m (some k) G (fun _ => v) j := by
  rw [catI_some]
  dsimp only
  by_cases h : j < m
  · rw [if_pos h, if_neg (by omega)]
  · rw [if_neg h, if_pos (by omega)]
theorem so_end {n : Nat} {F : Nat → Int} {m : Int} {i t : Nat} (ht : t ≤ soK n F m i (soL n F m i (so n F m i))) (h : soC n F m i = true → (redK (soO n F m i) t (soL n F m i (so n F m i))).m ≤ 1) : redK (soO n F m i) t (soL n F m i (so n F m i)) = so n F m (i + 1) := by
  rw [so_s]
  congr 1
  unfold soK at *
  cases hc : soC n F m i
  · rw [hc] at ht; simpa using ht
  · rw [hc] at ht
    have h1 := h hc
    rw [(redK_m _ _ _).1] at h1
    simp only [cond_true] at *
    rw [soL_m] at *
    omega
theorem so_more {n : Nat} {F : Nat → Int} {m : Int} {i t : Nat} (hc : soC n F m i = true) (h : 1 < (redK (soO n F m i) t (soL n F m i (so n F m i))).m) : t + 1 ≤ soK n F m i (soL n F m i (so n F m i)) := by
  unfold soK
  rw [hc, (redK_m _ _ _).1] at *
  simp only [cond_true]
  omega
theorem soK_le {n : Nat} {F : Nat → Int} {m : Int} {i : Nat} {s : St} : soK n F m i s ≤ s.m - 1 := by
  unfold soK; cases soC n F m i <;> simp
theorem solidOf0_f : FnOk Try.prog 5 Try.f5 := ⟨Try.func5, by kernel_rfl⟩
theorem solidOf0_a (n : Nat) (F : Nat → Int) (m sk : Int) (hpre : (∀ j, In64 (F j)) ∧ (0 ≤ m ∧ m ≤ 800000) ∧ n ≤ 1000000 ∧ 1 ≤ sk ∧ sk ≤ 16) : ACalls Try.prog 5 [ints .i64 n F, .int .i64 m, .int .i64 sk] (.agg [.sl (so n F m (soN n F m).toNat).np 16 (partF (so n F m (soN n F m).toNat).P), .int .i64 (pickF (rawF n F m) sk)]) := by
  refine acalls_of (inl := hasI (P := Try.prog) [] []) (base [raw_k, pick_k, leafOf_k] [] []) 0 solidOf0_f (And.intro (by kernel_rfl) ?_)
  obtain ⟨hF, hm, hn, hs⟩ := hpre
  have hN := pickF_bd (rawF n F (m + 1)) 4 (by omega)
  have w1 : IntKind.i64.wrap (m + 1) = m + 1 := wrapI (by omega) (by omega)
  repeat' (first | refine And.intro ?_ ?_ | (with_reducible exact ff_elim) | (with_reducible exact tf_elim) | refine num_elim ?_ | intro _ | (with_reducible rfl) | ((with_reducible refine lk_t ?_); exact rfl) | ((with_reducible refine pf_t ?_); exact rfl) | refine tell ?_ | exact True.intro | (refine IsT.of ?_; kernel_rfl))
  all_goals (try (refine loop_keep [0, 1, 6, 7, 8] [0] ?_; refine LoopI.mk (UpS (soN n F m).toNat) (fun i => [(10, .int .i64 i.v), (9, .os 2 1 0 (so n F m i.v).m)]) (fun i => [(7, .row [.os 1 16 0 (so n F m i.v).np, .int .i64 (pickF (rawF n F m) sk)]), (1, .arr ((so n F m i.v).np * 16) (partF (so n F m i.v).P)), (2, .nums .i64 (so n F m i.v).m (so n F m i.v).G)]) (fun i => (soN n F m).toNat - i.v) (⟨0, Nat.zero_le _⟩) (wk_mk [some 7, none, none, some 0] ?_) (fun ⟨i, hi⟩ => ?_)))
  repeat' (first | refine And.intro ?_ ?_ | (with_reducible exact ff_elim) | (with_reducible exact tf_elim) | refine' stp_mk [some 7, some _, some _, some 0] ((⟨i + 1, ?_⟩ : UpS (soN n F m).toNat)) ?_ ?_ | refine num_elim ?_ | intro _ | (with_reducible rfl) | ((with_reducible refine lk_t ?_); exact rfl) | ((with_reducible refine pf_t ?_); exact rfl) | refine tell ?_ | exact True.intro | (refine IsT.of ?_; kernel_rfl))
  all_goals (try (refine loop_keep [0, 1, 6, 7, 8, 10] [0] ?_; refine LoopI.mk (UpR (soK n F m i (soL n F m i (so n F m i)))) (fun t => [(9, .os 2 1 0 (redK (soO n F m i) t.v (soL n F m i (so n F m i))).m)]) (fun t => [(7, .row [.os 1 16 0 (redK (soO n F m i) t.v (soL n F m i (so n F m i))).np, .int .i64 (pickF (rawF n F m) sk)]), (1, .arr ((redK (soO n F m i) t.v (soL n F m i (so n F m i))).np * 16) (partF (redK (soO n F m i) t.v (soL n F m i (so n F m i))).P)), (2, .nums .i64 (redK (soO n F m i) t.v (soL n F m i (so n F m i))).m (redK (soO n F m i) t.v (soL n F m i (so n F m i))).G)]) (fun t => (soL n F m i (so n F m i)).m - t.v) (⟨0, Nat.zero_le _⟩) (wk_mk [some 7, some 32, some 41, some 0] ?_) (fun ⟨t, ht⟩ => ?_)))
  repeat' (first | refine And.intro ?_ ?_ | (with_reducible exact ff_elim) | (with_reducible exact tf_elim) | refine' stp_mk [some 7, some _, some _, some 0] ((⟨t + 1, ?_⟩ : UpR (soK n F m i (soL n F m i (so n F m i))))) ?_ ?_ | refine' stp_mk [some 7, some _, some _, some 0] (⟨i + 1, ?_⟩ : UpS (soN n F m).toNat) ?_ ?_ | refine num_elim ?_ | intro _ | (with_reducible rfl) | ((with_reducible refine lk_t ?_); exact rfl) | ((with_reducible refine pf_t ?_); exact rfl) | refine tell ?_ | exact True.intro | (refine IsT.of ?_; kernel_rfl))
  all_goals (try refine Tell.mk ?_)
  all_goals first | with_reducible rfl | with_reducible exact isI_mk | with_reducible assumption | rfl | skip
  all_goals (have hso : 1 ≤ soN n F m ∧ soN n F m ≤ 4 := (by unfold soN; omega))
  all_goals (try dsimp only at *)
  all_goals (try simp only [intF_mk, raw_p, avInt_int, lenN_none, redK_s, redK_0, show (Tab.cx.ti 3).bytes = 8 from rfl, show (Tab.cx.ti 29).size = 16 from rfl, show (Tab.cx.ti 29).bytes = 128 from rfl] at *)
  all_goals first | omega | exact hF _ | exact rawF_in hF | ((show (_ : Int) ≤ _); decide) | ((show (_ : Nat) ≤ _); decide) | skip
  all_goals first | exact (so_0 n F m).1 | exact (so_0 n F m).2 | (show (so n F m 0).np * 16 = 0; rw [(so_0 n F m).2]; done) | (show (so n F m 0).m = 0; exact (so_0 n F m).1) | skip
  all_goals (have sb := so_bd n F m i)
  all_goals (have w2 : IntKind.i64.wrap (m + 2) = m + 2 := wrapI (by omega) (by omega); have w3 : IntKind.i64.wrap (m + 3) = m + 3 := wrapI (by omega) (by omega); have w4 : IntKind.i64.wrap (1 + pickF (rawF n F (m + 1)) 4) = soN n F m := (by unfold soN; exact wrapI (by omega) (by omega)); have w5 : IntKind.i64.wrap (9 * (i : Int)) = 9 * i := wrapI (by omega) (by omega); have w6 : IntKind.i64.wrap (m + 2 + 9 * (i : Int)) = m + 2 + 9 * i := wrapI (by omega) (by omega); have w7 : IntKind.i64.wrap (m + (i : Int)) = m + i := wrapI (by omega) (by omega); have w8 : IntKind.i64.wrap (m + 3 + (i : Int)) = m + 3 + i := wrapI (by omega) (by omega); have w9 : IntKind.i64.wrap (soN n F m - 1) = soN n F m - 1 := wrapI (by omega) (by omega))
  all_goals (have wa : IntKind.i64.wrap (1 + pickF (rawF n F (m + 3 + (i : Int))) 3) = soO n F m i := (by have := pickF_bd (rawF n F (m + 3 + (i : Int))) 3 (by omega); unfold soO; exact wrapI (by omega) (by omega)))
  all_goals (have hsc : ((i : Int) == soN n F m - 1 || pickF (rawF n F (m + (i : Int))) 2 == 0) = soC n F m i := (by unfold soC; rfl))
  all_goals (try simp only [w1, w2, w3, w4, w5, w6, w7, w8, w9, wa, hsc] at *)
  all_goals (have l1 := soL_m n F m i (so n F m i); have l2 := soL_np n F m i (so n F m i); have wb : IntKind.i64.wrap ((((so n F m i).np + 1 : Nat) : Int) - 1) = ((so n F m i).np : Int) := (by rw [wrapI (by omega) (by omega)]; omega); have wc : IntKind.i64.wrap ((i : Int) + 1) = ((i + 1 : Nat) : Int) := (by rw [wrapI (by omega) (by omega)]; omega))
  all_goals (try simp only [wb, wc] at *)
  all_goals first | omega | with_reducible assumption | (show 0 + 1 * 16 ≤ 16; decide) | exact part_app (by omega) | exact num_app (by omega) | skip
  all_goals (first | (have r1 := (redK_m (soO n F m i) t (soL n F m i (so n F m i))).1; have r2 := (redK_m (soO n F m i) t (soL n F m i (so n F m i))).2; have r3 := soK_le (n := n) (F := F) (m := m) (i := i) (s := soL n F m i (so n F m i))) | skip)
  all_goals first | (have re := so_end (n := n) (F := F) (m := m) (i := i) ht (fun hc => by simp only [hc, Bool.and_true, decide_eq_false_iff_not] at *; omega); rw [← re]; first | done | rfl | exact Nat.le_refl _) | skip
  all_goals first | (with_reducible refine gb_t ?_; with_reducible assumption) | with_reducible assumption | (unfold gb at *; with_reducible assumption) | skip
  all_goals (try simp only [Bool.and_eq_true, decide_eq_true_eq, decide_eq_false_iff_not, gt_iff_lt] at *)
  all_goals first | omega | (have ei : i = (soN n F m).toNat := (by omega); subst ei; first | rfl | (rw [Nat.zero_add]; done)) | skip
  all_goals first | exact ⟨by assumption, gb_f (by assumption)⟩ | skip
  all_goals (have hc : soC n F m i = true := (by first | exact (‹_ ∧ soC n F m i = true›).2 | assumption); have h1 : 1 < (redK (soO n F m i) t (soL n F m i (so n F m i))).m := (by first | (have := (‹_ ∧ soC n F m i = true›).1; omega) | omega))
  all_goals (have sm := so_more hc h1; have wd : IntKind.i64.wrap (((redK (soO n F m i) t (soL n F m i (so n F m i))).m : Int) - 2) = ((redK (soO n F m i) t (soL n F m i (so n F m i))).m : Int) - 2 := wrapI (by omega) (by omega); have we : IntKind.i64.wrap (((redK (soO n F m i) t (soL n F m i (so n F m i))).m : Int) - 1) = ((redK (soO n F m i) t (soL n F m i (so n F m i))).m : Int) - 1 := wrapI (by omega) (by omega))
  all_goals (have wf : (((redK (soO n F m i) t (soL n F m i (so n F m i))).m : Int) - 2).toNat = (redK (soO n F m i) t (soL n F m i (so n F m i))).m - 2 := (by omega); have wg : (((redK (soO n F m i) t (soL n F m i (so n F m i))).m : Int) - 1).toNat = (redK (soO n F m i) t (soL n F m i (so n F m i))).m - 1 := (by omega); have wh : IntKind.i64.wrap ((((redK (soO n F m i) t (soL n F m i (so n F m i))).np + 1 : Nat) : Int) - 1) = ((redK (soO n F m i) t (soL n F m i (so n F m i))).np : Int) := (by rw [wrapI (by omega) (by omega)]; omega))
  all_goals (try simp only [wd, we, wf, wg, wh, mulN1, Nat.zero_add, red_m, red_np])
  all_goals first | omega | exact part_app1 (by assumption) | exact num_app (by rw [red_m] at *; omega) | skip
def solO (n : Nat) (F : Nat → Int) (m : Int) : St := so n F m (soN n F m).toNat
def solidOf_k : Con Try.prog := ⟨5, fun args => match args with | [.sl n 1 g, .int .i64 m, .int .i64 sk] => .ok (some (IsI .i64 g ∧ (∀ j, In64 (intF g j)) ∧ (0 ≤ m ∧ m ≤ 800000) ∧ n ≤ 1000000 ∧ 1 ≤ sk ∧ sk ≤ 16)) (.agg [.sl (solO n (intF g) m).np 16 (partF (solO n (intF g) m).P), .int .i64 (pickF (rawF n (intF g) m) sk)]) | _ => .no, by
  intro args p r h hp
  split at h
  · cases h; obtain ⟨h_g, hq⟩ := hp; have e_g := h_g.eq; rw [e_g]; exact solidOf0_a _ _ _ _ hq
  · cases h⟩
end Go.Proofs.Ytgbcnfcgljbbgaa
/- Solids and rays that are made of raw numbers are in order (plain). -/
namespace Go.Proofs.Ytgbcnfcgljbbgaa
open Go.RowKit Ev Ieee Flt
set_option linter.unusedVariables false
set_option linter.unusedSimpArgs false
set_option maxRecDepth 20000

theorem tho_ord {i j : Int} (hi : -1000000 ≤ i) (hij : i ≤ j) (hj : j ≤ 1000000) : isN (thoF i) = false ∧ isN (thoF j) = false ∧ key (thoF i) ≤ key (thoF j) := by
  have a : Iv (cn (FloatKind.f64.nearest i)) i := iv_near (by omega)
  have b : Iv (cn (FloatKind.f64.nearest j)) j := iv_near (by omega)
  have c := (iv_cmp b a).1
  rw [flt_key b.fin.notN a.fin.notN, decide_eq_decide] at c
  have hv : 0 < V 4652007308841189376 := (V_pos iv_1000.fin).2 (by decide +kernel)
  have q := quo_mono a.fin b.fin iv_1000.fin (show key (cn (FloatKind.f64.nearest i)) ≤ key (cn (FloatKind.f64.nearest j)) by omega) (by omega)
  exact ⟨q.1, q.2.1, q.2.2.1 hv⟩
theorem tho_near {i : Int} (h : -1000000 ≤ i ∧ i ≤ 1000000) : nearB (thoF i) = true := by
  refine ((tho_Q h (by omega)).le ?_).near
  rw [show (((1000000 : Int)) : Rat) = 1000000 from rfl]; grind
theorem tho_clean {i : Int} (h : -1000000 ≤ i ∧ i ≤ 1000000) : feq (thoF i) (cleanV (thoF i)) = true := by
  rcases Int.lt_trichotomy i 0 with g | g | g
  · have o := tho_ord (i := i) (j := -1) (by omega) (by omega) (by omega)
    have e : fgt (thoF i) 13740701229962882445 = false := by
      rw [fgt_key o.1 (by decide +kernel)]
      have : key (thoF (-1)) ≤ key 13740701229962882445 := by decide +kernel
      exact decide_eq_false (by omega)
    unfold cleanV
    rw [e, Bool.false_and]
    exact feq_refl o.1
  · subst g; decide +kernel
  · have o := tho_ord (i := 1) (j := i) (by omega) (by omega) (by omega)
    have e : flt (thoF i) 4517329193108106637 = false := by
      rw [flt_key o.2.1 (by decide +kernel)]
      have : key 4517329193108106637 ≤ key (thoF 1) := by decide +kernel
      exact decide_eq_false (by omega)
    unfold cleanV
    rw [e, Bool.and_false]
    exact feq_refl o.2.1
theorem tho_pos {i : Int} (h : 1 ≤ i ∧ i ≤ 1000000) : fgt (thoF i) 0 = true ∧ feq (thoF i) 0 = false ∧ flt (thoF i) 0 = false ∧ 0 < V (thoF i) := by
  have o := tho_ord (i := 1) (j := i) (by omega) (by omega) (by omega)
  have k : 0 < key (thoF 1) := by decide +kernel
  have n0 : isN 0 = false := by decide +kernel
  have f : Flt.Fin (thoF i) := (tho_Q (M := 1000000) (by omega) (by omega)).fin
  rw [fgt_key o.2.1 n0, feq_key o.2.1 n0, flt_key o.2.1 n0, V_pos f, key_0]
  exact ⟨decide_eq_true (by omega), decide_eq_false (by omega), decide_eq_false (by omega), by omega⟩
theorem near_z : nearB 0 = true := by decide +kernel
theorem clean_z : feq 0 (cleanV 0) = true := by decide +kernel
theorem near_i : nearB 4607182418800017408 = true := by decide +kernel
theorem clean_i : feq 4607182418800017408 (cleanV 4607182418800017408) = true := by decide +kernel
theorem one_ne : feq 4607182418800017408 0 = false := by decide +kernel
theorem fine_of {x y z : Nat} (h1 : nearB x = true) (h2 : nearB y = true) (h3 : nearB z = true) : fineB x y z = true := by unfold fineB; rw [h1, h2, h3]; rfl
theorem mil_near (c : Int) {most : Int} (h : 0 ≤ most ∧ most ≤ 8000) : nearB (milF c most) = true ∧ feq (milF c most) (cleanV (milF c most)) = true := by
  have hb := pickF_bd c (2 * most + 1) (by omega)
  unfold milF
  exact ⟨tho_near (by omega), tho_clean (by omega)⟩
/-- The ray of raw numbers. -/
def rayR (n : Nat) (F : Nat → Int) (k : Int) : Ray := ⟨milF (rawF n F k) 6000, milF (rawF n F (k + 1)) 6000, milF (rawF n F (k + 2)) 6000, ryX n F k, ryY n F k, ryZ n F k, thoF (pickF (rawF n F (k + 6)) 3)⟩
theorem rayR_ok (n : Nat) (F : Nat → Int) (k : Int) : (rayR n F k).e = 0 := by
  have m6 := fun c => mil_near c (most := 6000) (by omega)
  have m1 := fun c => mil_near c (most := 1500) (by omega)
  have hp := pickF_bd (rawF n F (k + 6)) 3 (by omega)
  have X : nearB (ryX n F k) = true ∧ feq (ryX n F k) (cleanV (ryX n F k)) = true := by
    unfold ryX; cases pickF (rawF n F (k + 7)) 3 == 0
    · exact m1 _
    · exact ⟨near_z, clean_z⟩
  have Y : nearB (ryY n F k) = true ∧ feq (ryY n F k) (cleanV (ryY n F k)) = true := by
    unfold ryY; cases pickF (rawF n F (k + 8)) 4 == 0
    · exact m1 _
    · exact ⟨near_z, clean_z⟩
  have Z : nearB (ryZ n F k) = true ∧ feq (ryZ n F k) (cleanV (ryZ n F k)) = true := by
    unfold ryZ; cases (feq (ryX n F k) 0 && (feq (ryY n F k) 0 && feq (milF (rawF n F (k + 5)) 1500) 0))
    · exact m1 _
    · exact ⟨near_i, clean_i⟩
  have N : (feq (ryX n F k) 0 && (feq (ryY n F k) 0 && feq (ryZ n F k) 0)) = false := by
    unfold ryZ
    cases h1 : feq (ryX n F k) 0
    · rfl
    · cases h2 : feq (ryY n F k) 0
      · rfl
      · cases h3 : feq (milF (rawF n F (k + 5)) 1500) 0
        · exact h3
        · exact one_ne
  have L : flt (thoF (pickF (rawF n F (k + 6)) 3)) 0 = false := by
    by_cases e : pickF (rawF n F (k + 6)) 3 = 0
    · rw [e]; decide +kernel
    · exact (tho_pos (by omega)).2.2.1
  unfold Ray.e rayV rayR
  dsimp only
  rw [fine_of (m6 _).1 (m6 _).1 (m6 _).1, fine_of X.1 Y.1 Z.1, tho_near (by omega), N, X.2, Y.2, Z.2, L]
  rfl
theorem sub_add_le {x y z w : Nat} (hx : Flt.Fin x) (hy : Flt.Fin y) (hz : Flt.Fin z) (hw : Flt.Fin w) (h : V x - V y ≤ V z + V w) : fgt (F .sub x y) (F .add z w) = false := by
  obtain ⟨t, r1, n1, k1⟩ := sub_form hx hy
  obtain ⟨t', r2, n2, k2⟩ := add_form hz hw
  rw [fgt_key n1 n2, k1, k2, show decide (V x < V y) = decide (V x - V y < 0) from decide_eq_decide.2 (by omega)]
  have := sg_mono h (fun g => rung_mono (I := II) (by decide) (by decide) (by omega) r1 r2) (fun g => rung_mono (I := II) (by decide) (by decide) (by omega) r2 r1)
  exact decide_eq_false (by omega)
theorem less_f {x y : Nat} {M : Rat} (hx : Q x M) (hy : Q y M) : Q (lessV x y) M ∧ V (lessV x y) = min (V x) (V y) := by
  unfold lessV
  rw [flt_V hy.fin hx.fin]
  by_cases h : V y < V x
  · rw [decide_eq_true h]; exact ⟨hy, by simp only [cond_true]; omega⟩
  · rw [decide_eq_false h]; exact ⟨hx, by simp only [cond_false]; omega⟩
theorem more_f {x y : Nat} {M : Rat} (hx : Q x M) (hy : Q y M) : Q (moreV x y) M ∧ V (moreV x y) = max (V x) (V y) := by
  unfold moreV
  rw [fgt_flt, flt_V hx.fin hy.fin]
  by_cases h : V x < V y
  · rw [decide_eq_true h]; exact ⟨hy, by simp only [cond_true]; omega⟩
  · rw [decide_eq_false h]; exact ⟨hx, by simp only [cond_false]; omega⟩
theorem may_of {a b c d e f : Nat} (h1 : nearB a = true) (h2 : nearB b = true) (h3 : nearB c = true) (h4 : nearB d = true) (h5 : nearB e = true) (h6 : nearB f = true) (g1 : fgt a d = false) (g2 : fgt b e = false) (g3 : fgt c f = false) : mayV a b c d e f = 0 := by
  unfold mayV; rw [fine_of h1 h2 h3, fine_of h4 h5 h6, g1, g2, g3]; rfl
/-- The box about a row of numbers. -/
theorem pair_may {a1 a2 a3 b1 b2 b3 w1 w2 w3 : Nat} (h1 : Q a1 400) (h2 : Q a2 400) (h3 : Q a3 400) (g1 : Q b1 900) (g2 : Q b2 900) (g3 : Q b3 900) (k1 : Q w1 200) (k2 : Q w2 200) (k3 : Q w3 200) (p1 : 0 ≤ V w1) (p2 : 0 ≤ V w2) (p3 : 0 ≤ V w3) :
    boxE (F .sub (lessV a1 b1) w1) (F .sub (lessV a2 b2) w2) (F .sub (lessV a3 b3) w3) (F .add (moreV a1 b1) w1) (F .add (moreV a2 b2) w2) (F .add (moreV a3 b3) w3) = 0 := by
  have key : ∀ {a b w : Nat}, Q a 400 → Q b 900 → Q w 200 → 0 ≤ V w → nearB (F .sub (lessV a b) w) = true ∧ nearB (F .add (moreV a b) w) = true ∧ fgt (F .sub (lessV a b) w) (F .add (moreV a b) w) = false := fun {a b w} h g k p => by
    have l := less_f (h.le (N := 900) (by grind)) g
    have m := more_f (h.le (N := 900) (by grind)) g
    refine ⟨((l.1.sub k (by grind)).le (by grind)).near, ((m.1.add k (by grind)).le (by grind)).near, ?_⟩
    exact sub_add_le l.1.fin k.fin m.1.fin k.fin (by rw [l.2, m.2]; omega)
  have e1 := key h1 g1 k1 p1
  have e2 := key h2 g2 k2 p2
  have e3 := key h3 g3 k3 p3
  unfold boxE
  rw [may_of e1.1 e2.1 e3.1 e1.2.1 e2.2.1 e3.2.1 e1.2.2 e2.2.2 e3.2.2]; rfl
theorem ball_may {a b c r : Nat} (ha : Q a 400) (hb : Q b 400) (hc : Q c 400) (hr : Q r 200) (h0 : fgt r 0 = true) (hp : 0 < V r) : ballE a b c r = 0 := by
  have key : ∀ {a : Nat}, Q a 400 → nearB (F .sub a r) = true ∧ nearB (F .add a r) = true ∧ fgt (F .sub a r) (F .add a r) = false := fun {a} h =>
    ⟨((h.sub hr (by grind)).le (by grind)).near, ((h.add hr (by grind)).le (by grind)).near, sub_add_le h.fin hr.fin h.fin hr.fin (by omega)⟩
  unfold ballE boxE
  rw [h0, may_of (key ha).1 (key hb).1 (key hc).1 (key ha).2.1 (key hb).2.1 (key hc).2.1 (key ha).2.2 (key hb).2.2 (key hc).2.2]; rfl
def kindE (k : Int) (a b c d e f g h i r q : Nat) : Int := bif k == 1 then ballE a b c r else bif k == 2 then blockE a b c d e f else bif k == 3 then triE a b c d e f g h i else
  bif k == 4 then plateE a b c d e f r else bif k == 5 then tubeE a b c d e f r else bif k == 6 then ringE a b c d e f r q else 3
theorem shape_may {k s : Int} {a b c d e f r : Nat} (ha : nearB a = true) (hb : nearB b = true) (hc : nearB c = true) (hd : nearB d = true) (he : nearB e = true) (hf : nearB f = true) (hr : nearB r = true) (hs : 0 ≤ s ∧ s < 16) : shapeE k a b c d e f 0 0 0 r 0 s = kindE k a b c d e f 0 0 0 r 0 := by
  unfold shapeE
  rw [fine_of ha hb hc, fine_of hd he hf, fine_of near_z near_z near_z, hr, near_z, decide_eq_false (show ¬ s < 0 by omega), decide_eq_false (show ¬ 16 ≤ s by omega)]
  rfl
theorem th_Q {i : Int} (h : 0 ≤ i ∧ i ≤ 4000) : Q (thoF i) 200 := (tho_Q (M := 4000) (by omega) (by omega)).le (by rw [show (((4000 : Int)) : Rat) = 4000 from rfl]; grind)
theorem z_Q {M : Rat} (h : 0 ≤ M) : Q 0 M := by
  refine ⟨Fin_0, ?_⟩
  rw [val_0]
  unfold Bd
  constructor <;> grind
end Go.Proofs.Ytgbcnfcgljbbgaa
/- Blocks that are made of raw numbers: what is rounded to thousandths stays in order (plain). -/
namespace Go.Proofs.Ytgbcnfcgljbbgaa
open Go.RowKit Ev Ieee Flt
set_option linter.unusedVariables false
set_option linter.unusedSimpArgs false
set_option maxRecDepth 20000

theorem trunc_floor {x : Nat} (h : Flt.Fin x) (N : Nat) : ∃ z, (FloatKind.f64.decode x).toInt .zero = some z ∧ (((N : Int) : Rat) ≤ val x → (N : Int) ≤ z) ∧ (val x < ((N : Int) : Rat) + 1 → z ≤ N) := by
  obtain ⟨s, m, i, ex⟩ := h
  obtain ⟨_, i0, _⟩ := read_form ex
  obtain ⟨κ, hκ, hU⟩ := U_nat
  have v := V_sg ex
  have e : m * 2 ^ (i + 1074).toNat * 2 ^ (-i).toNat = m * 2 ^ i.toNat * 2 ^ κ := by
    rw [Nat.mul_assoc, Nat.mul_assoc, ← Nat.pow_add, ← Nat.pow_add, show (i + 1074).toNat + (-i).toNat = i.toNat + κ by omega]
  have hp := Nat.two_pow_pos (-i).toNat
  have hc : ((m <<< i.toNat) / 2 ^ (-i).toNat : Nat) * 2 ^ κ ≤ m * 2 ^ (i + 1074).toNat := by
    refine Nat.le_of_mul_le_mul_right ?_ hp
    rw [e, Nat.shiftLeft_eq, Nat.mul_right_comm]
    exact Nat.mul_le_mul_right _ (Nat.div_mul_le_self _ _)
  have hk : (0 : Int) < ((2 ^ κ : Nat) : Int) := by have := Nat.two_pow_pos κ; omega
  have hd : N * 2 ^ κ ≤ m * 2 ^ (i + 1074).toNat → N ≤ (m <<< i.toNat) / 2 ^ (-i).toNat := fun g => by
    rw [Nat.le_div_iff_mul_le hp, Nat.shiftLeft_eq]
    refine Nat.le_of_mul_le_mul_right ?_ (Nat.two_pow_pos κ)
    rw [← e, Nat.mul_right_comm]
    exact Nat.mul_le_mul_right _ g
  generalize hC : ((m <<< i.toNat) / 2 ^ (-i).toNat : Nat) = c at hc hd
  have hc' : (c : Int) * ((2 ^ κ : Nat) : Int) ≤ ((m * 2 ^ (i + 1074).toNat : Nat) : Int) := by
    have := Int.ofNat_le.2 hc
    rwa [Int.natCast_mul c] at this
  refine ⟨signed s c 0, ?_, fun g => ?_, fun g => ?_⟩
  · show Datum.toInt .zero (double.read x) = _
    rw [ex]
    show some (signed s (Toward.zero.cut s (m <<< i.toNat) (-i).toNat) 0) = _
    rw [cut_zeroT, hC]
  · have b := of_le_val hU g
    rw [v] at b
    rw [signedT]
    unfold sg at b
    cases s
    · rw [if_neg (by decide)] at b ⊢
      have : N * 2 ^ κ ≤ m * 2 ^ (i + 1074).toNat := by
        rw [← Int.natCast_mul] at b
        exact Int.ofNat_le.1 b
      exact Int.ofNat_le.2 (hd this)
    · rw [if_pos rfl] at b ⊢
      have n0 : (0 : Int) ≤ (N : Int) * ((2 ^ κ : Nat) : Int) := Int.mul_nonneg (by omega) (by omega)
      have z0 : (N : Int) * ((2 ^ κ : Nat) : Int) = 0 := by omega
      have : (c : Int) * ((2 ^ κ : Nat) : Int) ≤ 0 := by omega
      have c1 : (c : Int) * ((2 ^ κ : Nat) : Int) ≤ 0 * ((2 ^ κ : Nat) : Int) := by rw [Int.zero_mul]; exact this
      have N1 : (N : Int) * ((2 ^ κ : Nat) : Int) ≤ 0 * ((2 ^ κ : Nat) : Int) := by rw [Int.zero_mul, z0]; exact Int.le_refl _
      have c0 := Int.le_of_mul_le_mul_right c1 hk
      have N0 := Int.le_of_mul_le_mul_right N1 hk
      omega
  · rw [signedT]
    cases s
    · rw [if_neg (by decide)]
      by_cases e1 : N < c
      · exfalso
        have l : ((N + 1 : Nat) : Int) * ((2 ^ κ : Nat) : Int) ≤ V x := by
          rw [v]
          show _ ≤ (if false = true then _ else ((m * 2 ^ (i + 1074).toNat : Nat) : Int))
          rw [if_neg (by decide)]
          refine Int.le_trans (Int.mul_le_mul_of_nonneg_right ?_ (by omega)) hc'
          omega
        have := le_val_of hU l
        rw [show ((N + 1 : Nat) : Int) = (N : Int) + 1 by omega, Rat.intCast_add, show (((1 : Int)) : Rat) = 1 from rfl] at this
        grind
      · omega
    · rw [if_pos rfl]; omega
theorem U_60 : (1152921504606846976 : Rat) ≤ U := by
  obtain ⟨κ, hκ, hU⟩ := U_nat
  rw [← two_60, hU]
  exact Rat.natCast_le_natCast.2 (Nat.pow_le_pow_right (by decide) (by omega))
theorem err_eps {M : Rat} (hM : M ≤ 1000000) : M * u + h0 ≤ 1 / 1000000 := by
  have h1 := h0_U
  have h2 := h0_nn
  have h3 := U_60
  have h4 : h0 * 1152921504606846976 ≤ h0 * U := Rat.mul_le_mul_of_nonneg_left h3 h2
  have hu : u = 1 / 9007199254740992 := rfl
  have h5 : h0 * 1152921504606846976 ≤ 1 / 2 := by rw [← h1]; exact h4
  rw [hu]
  clear h1 h3 h4 hu
  generalize h0 = y at *
  have a1 : M * (1 / 9007199254740992) ≤ 1 / 4000000 := by grind
  have a2 : y ≤ 1 / 4000000 := by grind
  grind
/-- A number of thousandths is near what it stands for. -/
theorem tho_val {i : Int} (h : -900000 ≤ i ∧ i ≤ 900000) : Flt.Fin (thoF i) ∧ Nr (val (thoF i)) ((i : Rat) / 1000) (1 / 1000000) := by
  have a : Iv (cn (FloatKind.f64.nearest i)) i := iv_near (by omega)
  have v : val 4652007308841189376 = 1000 := by rw [iv_1000.eq]; rfl
  have v0 : V 4652007308841189376 ≠ 0 := by have := (V_pos iv_1000.fin).2 (by decide +kernel); omega
  have b1 := Rat.intCast_le_intCast.2 h.1
  have b2 := Rat.intCast_le_intCast.2 h.2
  rw [show (((-900000 : Int)) : Rat) = -900000 from rfl] at b1
  rw [show (((900000 : Int)) : Rat) = 900000 from rfl] at b2
  have q := quo_err a.fin iv_1000.fin v0 (e := (i : Rat) / 1000) (M := 900) (by rw [a.eq, v]; grind) (by unfold Bd; constructor <;> grind) (by grind)
  unfold thoF
  exact ⟨q.1, q.2.le (err_eps (by grind))⟩
theorem add_val {x y : Nat} (hx : Flt.Fin x) (hy : Flt.Fin y) (h : Bd (val x + val y) 1000000) : Flt.Fin (F .add x y) ∧ Nr (val (F .add x y)) (val x + val y) (1 / 1000000) := by
  have q := add_err hx hy h (by grind)
  exact ⟨q.1, q.2.le (err_eps (by grind))⟩
theorem mul_val {x y : Nat} (hx : Flt.Fin x) (hy : Flt.Fin y) (h : Bd (val x * val y) 1000000) : Flt.Fin (F .mul x y) ∧ Nr (val (F .mul x y)) (val x * val y) (1 / 1000000) := by
  have q := mul_err hx hy h (by grind)
  exact ⟨q.1, q.2.le (err_eps (by grind))⟩
theorem val_half : val 4602678819172646912 = 1 / 2 := by
  obtain ⟨κ, hκ, hU⟩ := U_nat
  have v := V_sg (show double.read 4602678819172646912 = .number false 4503599627370496 (-53) by decide +kernel)
  obtain ⟨j, hj⟩ : ∃ j : Nat, j = ((-53 : Int) + 1074).toNat := ⟨_, rfl⟩
  rw [← hj] at v
  have hj2 : κ = 1 + (52 + j) := by omega
  have p : (2 : Nat) ^ κ = 2 * (4503599627370496 * 2 ^ j) := by rw [hj2, Nat.pow_add, Nat.pow_add, p52, Nat.pow_one]
  have w := val_U 4602678819172646912
  rw [v] at w
  have e : ((sg false (4503599627370496 * 2 ^ j) : Int) : Rat) = ((4503599627370496 * 2 ^ j : Nat) : Rat) := rfl
  rw [e] at w
  have q : U = 2 * ((4503599627370496 * 2 ^ j : Nat) : Rat) := by
    rw [hU, p, Rat.natCast_mul]; rfl
  have pos := U_pos
  generalize ((4503599627370496 * 2 ^ j : Nat) : Rat) = T at *
  generalize val 4602678819172646912 = y at *
  have h1 : (2 * y - 1) * U = 0 := by grind
  have h2 : 2 * y - 1 = 0 := by
    rcases Rat.mul_eq_zero.1 h1 with h | h
    · exact h
    · grind
  grind
theorem val_thou : Flt.Fin 4652007308841189376 ∧ val 4652007308841189376 = 1000 := ⟨iv_1000.fin, by rw [iv_1000.eq]; rfl⟩
theorem val_one : Flt.Fin 4607182418800017408 ∧ val 4607182418800017408 = 1 := ⟨iv_1.fin, by rw [iv_1.eq]; rfl⟩
theorem Nr.b {a e E B : Rat} (h : Nr a e E) : a - e ≤ E ∧ e - a ≤ E := h
/-- Times a thousand, and a half: where it lies. -/
theorem mk1_val {x : Nat} {e : Rat} (hf : Flt.Fin x) (hx : Nr (val x) e (1 / 100000)) (h : Bd e 900) : Flt.Fin (mk1 x) ∧ Nr (val (mk1 x)) (1000 * e + 1 / 2) (1 / 10) := by
  have b := h
  unfold Bd Nr at *
  have m := mul_val hf val_thou.1 (by rw [val_thou.2]; unfold Bd; constructor <;> grind)
  rw [val_thou.2] at m
  have m2 := m.2
  unfold Nr at m2
  have a := add_val m.1 half_Q.fin (by rw [val_half]; unfold Bd; constructor <;> grind)
  rw [val_half] at a
  have a2 := a.2
  unfold Nr at a2
  unfold mk1
  refine ⟨a.1, ?_⟩
  constructor <;> grind
theorem flt_val {x : Nat} (hx : Flt.Fin x) : (flt x 0 = true → val x ≤ 0) ∧ (flt x 0 = false → 0 ≤ val x) := by
  rw [flt_V hx Fin_0, V_0, decide_eq_true_eq, decide_eq_false_iff_not]
  refine ⟨fun h => ?_, fun h => val_pos_U (by omega)⟩
  have := val_le (x := x) (y := 0) (by rw [V_0]; omega)
  rw [val_0] at this
  exact this
theorem rnd_th {x : Nat} (h : Q x 700) : ∃ j, rndV x = thoF j ∧ -900000 ≤ j ∧ j ≤ 900000 ∧ ((flt x 0 = true ∧ j = -(tiF (mk1 (Fneg x)))) ∨ (flt x 0 = false ∧ j = tiF (mk1 x))) := by
  have q : Q 4652007308841189376 1000 := ⟨iv_1000.fin, by rw [iv_1000.eq]; unfold Bd; rw [show (((1000 : Int)) : Rat) = 1000 from rfl]; constructor <;> grind⟩
  have mk : ∀ {y}, Q y 700 → Q (mk1 y) ((900000 : Int) : Rat) := fun hy =>
    ((hy.mul q (by grind)).add half_Q (by grind)).le (by rw [show (((900000 : Int)) : Rat) = 900000 from rfl]; grind)
  have h1 := ti_some (mk h) (by decide)
  have h2 := ti_some (mk (Q_Fneg h)) (by decide)
  unfold rndV
  cases flt x 0
  · exact ⟨tiF (mk1 x), rfl, h1.2.1, h1.2.2, .inr ⟨rfl, rfl⟩⟩
  · exact ⟨-tiF (mk1 (Fneg x)), rfl, by omega, by omega, .inl ⟨rfl, rfl⟩⟩
theorem ti_floor {y : Nat} (h : Flt.Fin y) (N : Nat) : (((N : Int) : Rat) ≤ val y → (N : Int) ≤ tiF y) ∧ (val y < ((N : Int) : Rat) + 1 → tiF y ≤ N) := by
  obtain ⟨z, h1, h2, h3⟩ := trunc_floor h N
  unfold tiF
  rw [h1]
  exact ⟨h2, h3⟩
theorem Fneg_val {x : Nat} (h : Flt.Fin x) : Flt.Fin (Fneg x) ∧ val (Fneg x) = -val x := by
  obtain ⟨s, m, i, e⟩ := h
  have e1 := read_fneg e
  have ev : V (fneg x) = -V x := by rw [V_of e, V_of e1, signed_not]
  rw [Fneg_eq ⟨s, m, i, e⟩]
  refine ⟨⟨_, _, _, e1⟩, ?_⟩
  unfold val
  rw [ev, Rat.intCast_neg, Rat.div_def, Rat.div_def, Rat.neg_mul]
/-- What is rounded, and a half or more added and rounded again: no smaller. -/
theorem rnd_up {x c : Nat} {C : Rat} (hx : Q x 262) (hc : Flt.Fin c) (hv : val c = C) (h1 : 1 / 2 ≤ C) (h2 : C ≤ 1) : fgt (rndV x) (rndV (F .add (rndV x) c)) = false ∧ nearB (rndV (F .add (rndV x) c)) = true := by
  have hq := rnd_Q hx
  obtain ⟨i, ei, i1, i2, _⟩ := rnd_th (hx.le (N := 700) (by grind))
  rw [ei] at hq ⊢
  have hb := hq.bd
  have vi := tho_val ⟨i1, i2⟩
  have ai := add_val vi.1 hc (by rw [hv]; unfold Bd at *; constructor <;> grind)
  rw [hv] at ai
  have cq : Q c 1 := ⟨hc, by rw [hv]; unfold Bd; constructor <;> grind⟩
  have yq : Q (F .add (thoF i) c) 700 := (hq.add cq (by grind)).le (by grind)
  obtain ⟨j, ej, j1, j2, hj⟩ := rnd_th yq
  have near : nearB (rndV (F .add (thoF i) c)) = true := by rw [ej]; exact tho_near (by omega)
  refine ⟨?_, near⟩
  have v1 := vi.2
  have v2 := ai.2
  have ny : Nr (val (F .add (thoF i) c)) ((i : Rat) / 1000 + C) (1 / 100000) := by unfold Nr at *; constructor <;> grind
  have bi : Bd ((i : Rat) / 1000 + C) 900 := by unfold Nr Bd at *; constructor <;> grind
  have le : i ≤ j := by
    rcases hj with ⟨hs, rfl⟩ | ⟨hs, rfl⟩
    · have f := Fneg_val ai.1
      have s := (flt_val ai.1).1 hs
      have m := mk1_val (e := -((i : Rat) / 1000 + C)) f.1 (by rw [f.2]; unfold Nr at *; constructor <;> grind) (by unfold Bd at *; constructor <;> grind)
      have i0 : i ≤ 0 := by
        refine Int.not_lt.1 fun g => ?_
        have g1 : (1 : Int) ≤ i := g
        have := Rat.intCast_le_intCast.2 g1
        rw [show (((1 : Int)) : Rat) = 1 from rfl] at this
        unfold Nr at ny
        grind
      have t := (ti_floor m.1 (-i).toNat).2
      rw [show ((-i).toNat : Int) = -i by omega, Rat.intCast_neg] at t
      have := t (by have := m.2; unfold Nr at this; grind)
      omega
    · have s := (flt_val ai.1).2 hs
      have m := mk1_val (e := (i : Rat) / 1000 + C) ai.1 ny bi
      by_cases i0 : i < 0
      · have t := (ti_floor m.1 0).1
        rw [show (((0 : Nat) : Int) : Rat) = 0 from rfl] at t
        have := t (by have := m.2; unfold Nr at this ny; grind)
        omega
      · have t := (ti_floor m.1 i.toNat).1
        rw [show (i.toNat : Int) = i by omega] at t
        exact t (by have := m.2; unfold Nr at this; grind)
  have o := tho_ord (i := i) (j := j) (by omega) le (by omega)
  rw [ej, fgt_key o.1 o.2.1]
  exact decide_eq_false (by omega)
end Go.Proofs.Ytgbcnfcgljbbgaa
/- Solids that are made of raw numbers are in order (plain). -/
namespace Go.Proofs.Ytgbcnfcgljbbgaa
open Go.RowKit Ev Ieee Flt
set_option linter.unusedVariables false
set_option linter.unusedSimpArgs false
set_option maxRecDepth 20000

theorem rnd_near {x : Nat} (h : Q x 262) : Q (rndV x) 400 ∧ nearB (rndV x) = true := ⟨rnd_Q h, ((rnd_Q h).le (by grind)).near⟩
theorem z_eq : feq 0 0 = true := by decide +kernel
theorem leaf1_ok (n : Nat) (G : Nat → Int) (m : Int) : (leafA (shq1oS n G m)).err = 0 := by
  have h8 := pickF_bd (rawF n G (m + 8)) 2500 (by omega)
  have hs := pickF_bd (rawF n G (m + 7)) 1 (by omega)
  have A := rnd_near (qa_Q' (c := rawF n G (m + 1)))
  have B := rnd_near (qa_Q' (c := rawF n G (m + 1 + 1)))
  have C := rnd_near (qa_Q' (c := rawF n G (m + 1 + 2)))
  have R := tho_pos (i := 1 + pickF (rawF n G (m + 8)) 2500) (by omega)
  show shapeE 1 (rndV (qa (rawF n G (m + 1)))) (rndV (qa (rawF n G (m + 1 + 1)))) (rndV (qa (rawF n G (m + 1 + 2)))) 0 0 0 0 0 0 (thoF (1 + pickF (rawF n G (m + 8)) 2500)) 0 (pickF (rawF n G (m + 7)) 1) = 0
  rw [shape_may A.2 B.2 C.2 near_z near_z near_z (tho_near (by omega)) (by omega)]
  show ballE _ _ _ _ = 0
  exact ball_may A.1 B.1 C.1 (th_Q (by omega)) R.1 R.2.2.2
theorem leaf2_ok (n : Nat) (G : Nat → Int) (m : Int) : (leafB (shq2oS n G m)).err = 0 := by
  have hs := pickF_bd (rawF n G (m + 7)) 1 (by omega)
  have A := rnd_near (qa_Q' (c := rawF n G (m + 1)))
  have B := rnd_near (qa_Q' (c := rawF n G (m + 1 + 1)))
  have C := rnd_near (qa_Q' (c := rawF n G (m + 1 + 2)))
  have o : F .add 0 4607182418800017408 = 4607182418800017408 := by decide +kernel
  have D := rnd_up (qa_Q' (c := rawF n G (m + 1))) val_one.1 val_one.2 (by grind) (by grind)
  have E := rnd_up (qa_Q' (c := rawF n G (m + 1 + 1))) val_one.1 val_one.2 (by grind) (by grind)
  have K := rnd_up (qa_Q' (c := rawF n G (m + 1 + 2))) half_Q.fin val_half (by grind) (by grind)
  show shapeE 2 (rndV (qa (rawF n G (m + 1)))) (rndV (qa (rawF n G (m + 1 + 1)))) (rndV (qa (rawF n G (m + 1 + 2)))) (rndV (F .add (rndV (qa (rawF n G (m + 1)))) (F .add 0 4607182418800017408))) (rndV (F .add (rndV (qa (rawF n G (m + 1 + 1)))) 4607182418800017408)) (rndV (F .add (rndV (qa (rawF n G (m + 1 + 2)))) 4602678819172646912)) 0 0 0 0 0 (pickF (rawF n G (m + 7)) 1) = 0
  rw [o, shape_may A.2 B.2 C.2 D.2 E.2 K.2 near_z (by omega)]
  show blockE _ _ _ _ _ _ = 0
  unfold blockE
  rw [may_of A.2 B.2 C.2 D.2 E.2 K.2 D.1 E.1 K.1]; rfl
theorem wo_Q (k j : Int) {x : Nat} (h : Q x 200) (p : 0 ≤ V x) : Q (wo k j x) 200 ∧ 0 ≤ V (wo k j x) := by
  unfold wo; cases k == j
  · exact ⟨h, p⟩
  · exact ⟨z_Q (by grind), by rw [cond_true, V_0]; omega⟩
theorem wz_Q (k : Int) {x : Nat} (h : Q x 200) (p : 0 ≤ V x) : Q (wz k x) 200 ∧ 0 ≤ V (wz k x) := by
  unfold wz; cases k == 0 || k == 1
  · exact ⟨z_Q (by grind), by rw [cond_false, V_0]; omega⟩
  · exact ⟨h, p⟩
theorem bif_Q {x y : Nat} (c : Bool) (hx : Q x 200) (hy : Q y 200) : Q (bif c then x else y) 200 := by cases c <;> assumption
theorem leaf5_ok (n : Nat) (G : Nat → Int) (m : Int) : (leafA (shq5oS n G m)).err = 0 := by
  have h8 := pickF_bd (rawF n G (m + 8)) 2500 (by omega)
  have h5 := pickF_bd (rawF n G (m + 5)) 3000 (by omega)
  have h6 := pickF_bd (rawF n G (m + 6)) 3 (by omega)
  have hs := pickF_bd (rawF n G (m + 7)) 1 (by omega)
  have A := rnd_near (qa_Q' (c := rawF n G (m + 1)))
  have B := rnd_near (qa_Q' (c := rawF n G (m + 1 + 1)))
  have C := rnd_near (qa_Q' (c := rawF n G (m + 1 + 2)))
  have R := tho_pos (i := 1 + pickF (rawF n G (m + 8)) 2500) (by omega)
  have n5 := (tho_pos (i := 1 + pickF (rawF n G (m + 5)) 3000) (by omega)).2.1
  have x5 : Q (thoF (1 + pickF (rawF n G (m + 5)) 3000)) 200 := th_Q (by omega)
  have r5 : Q (thoF (1 + pickF (rawF n G (m + 8)) 2500)) 200 := th_Q (by omega)
  have z5 : Q 0 200 := z_Q (by grind)
  show shapeE 5 (rndV (qa (rawF n G (m + 1)))) (rndV (qa (rawF n G (m + 1 + 1)))) (rndV (qa (rawF n G (m + 1 + 2)))) (bif pickF (rawF n G (m + 6)) 3 == 0 then thoF (1 + pickF (rawF n G (m + 5)) 3000) else 0) (bif pickF (rawF n G (m + 6)) 3 == 1 then thoF (1 + pickF (rawF n G (m + 5)) 3000) else 0) (bif pickF (rawF n G (m + 6)) 3 == 0 || pickF (rawF n G (m + 6)) 3 == 1 then 0 else thoF (1 + pickF (rawF n G (m + 5)) 3000)) 0 0 0 (thoF (1 + pickF (rawF n G (m + 8)) 2500)) 0 (pickF (rawF n G (m + 7)) 1) = 0
  have al : 0 ≤ aloneV (bif pickF (rawF n G (m + 6)) 3 == 0 then thoF (1 + pickF (rawF n G (m + 5)) 3000) else 0) (bif pickF (rawF n G (m + 6)) 3 == 1 then thoF (1 + pickF (rawF n G (m + 5)) 3000) else 0) (bif pickF (rawF n G (m + 6)) 3 == 0 || pickF (rawF n G (m + 6)) 3 == 1 then 0 else thoF (1 + pickF (rawF n G (m + 5)) 3000)) := by
    have h : pickF (rawF n G (m + 6)) 3 = 0 ∨ pickF (rawF n G (m + 6)) 3 = 1 ∨ pickF (rawF n G (m + 6)) 3 = 2 := by omega
    generalize thoF (1 + pickF (rawF n G (m + 5)) 3000) = t at *
    unfold aloneV
    rcases h with h | h | h <;> rw [h]
    · show 0 ≤ (bif !(feq t 0) && (feq 0 0 && feq 0 0) then (0 : Int) else _)
      rw [n5, z_eq]; exact (by decide : (0 : Int) ≤ 0)
    · show 0 ≤ (bif !(feq 0 0) && (feq t 0 && feq 0 0) then (0 : Int) else bif feq 0 0 && (!(feq t 0) && feq 0 0) then 1 else _)
      rw [n5, z_eq]; exact (by decide : (0 : Int) ≤ 1)
    · show 0 ≤ (bif !(feq 0 0) && (feq 0 0 && feq t 0) then (0 : Int) else bif feq 0 0 && (!(feq 0 0) && feq t 0) then 1 else bif feq 0 0 && (feq 0 0 && !(feq t 0)) then 2 else -1)
      rw [n5, z_eq]; exact (by decide : (0 : Int) ≤ 2)
  have D := bif_Q (pickF (rawF n G (m + 6)) 3 == 0) x5 z5
  have E := bif_Q (pickF (rawF n G (m + 6)) 3 == 1) x5 z5
  have K := bif_Q (pickF (rawF n G (m + 6)) 3 == 0 || pickF (rawF n G (m + 6)) 3 == 1) z5 x5
  have nr : ∀ {x : Nat}, Q x 200 → nearB x = true := fun h => (h.le (by grind)).near
  generalize (bif pickF (rawF n G (m + 6)) 3 == 0 then thoF (1 + pickF (rawF n G (m + 5)) 3000) else 0) = d at *
  generalize (bif pickF (rawF n G (m + 6)) 3 == 1 then thoF (1 + pickF (rawF n G (m + 5)) 3000) else 0) = e at *
  generalize (bif pickF (rawF n G (m + 6)) 3 == 0 || pickF (rawF n G (m + 6)) 3 == 1 then 0 else thoF (1 + pickF (rawF n G (m + 5)) 3000)) = f at *
  rw [shape_may A.2 B.2 C.2 (nr D) (nr E) (nr K) (nr r5) (by omega)]
  show tubeE _ _ _ _ _ _ _ = 0
  unfold tubeE
  rw [R.1, decide_eq_true al]
  have rv : 0 ≤ V (thoF (1 + pickF (rawF n G (m + 8)) 2500)) := by have := R.2.2.2; omega
  have w0 := wo_Q (aloneV d e f) 0 r5 rv
  have w1 := wo_Q (aloneV d e f) 1 r5 rv
  have w2 := wz_Q (aloneV d e f) r5 rv
  have sum : ∀ {a x : Nat}, Q a 400 → Q x 200 → Q (F .add a x) 900 := fun h g => (h.add g (by grind)).le (by grind)
  exact pair_may A.1 B.1 C.1 (sum A.1 D) (sum B.1 E) (sum C.1 K) w0.1 w1.1 w2.1 w0.2 w1.2 w2.2
theorem leafO_ok (n : Nat) (F : Nat → Int) (m : Int) : (leafO n F m).err = 0 ∧ ((leafO n F m).k = 1 ∨ (leafO n F m).k = 2 ∨ (leafO n F m).k = 5) := by
  unfold leafO
  split
  · exact ⟨leaf1_ok _ _ _, .inl rfl⟩
  · split
    · exact ⟨leaf2_ok _ _ _, .inr (.inl rfl)⟩
    · exact ⟨leaf5_ok _ _ _, .inr (.inr rfl)⟩
/-- Parts so far, in order. -/
structure StOk (s : St) : Prop where
  p : ∀ j, j < s.np → partE s.P j = 0
  g : ∀ j, j < s.m → 0 ≤ s.G j ∧ s.G j < s.np
theorem st_push {s : St} {x : Shp} (h : StOk s) (hx : x.err = 0 ∧ (x.k = 1 ∨ x.k = 2 ∨ x.k = 5)) : StOk (s.push x) := by
  refine ⟨fun j hj => ?_, fun j hj => ?_⟩
  · have hj : j < s.np + 1 := hj
    by_cases e : j = s.np
    · subst e
      have hP : (s.push x).P s.np = ⟨0, 0, 0, x⟩ := if_pos rfl
      unfold partE
      rw [hP, if_pos rfl, if_pos hx.1, if_pos hx.2]
    · have := h.p j (by omega)
      have hP : (s.push x).P j = s.P j := if_neg e
      unfold partE at *
      rw [hP]; exact this
  · have hj : j < s.m + 1 := hj
    show 0 ≤ (if j = s.m then (s.np : Int) else s.G j) ∧ (if j = s.m then (s.np : Int) else s.G j) < ((s.np + 1 : Nat) : Int)
    split
    · omega
    · have := h.g j (by omega); omega
theorem st_red {s : St} {op : Int} (h : StOk s) (ho : op = 1 ∨ op = 2 ∨ op = 3) (hm : 2 ≤ s.m) : StOk (s.red op) := by
  refine ⟨fun j hj => ?_, fun j hj => ?_⟩
  · have hj : j < s.np + 1 := hj
    by_cases e : j = s.np
    · subst e
      have a := h.g (s.m - 2) (by omega)
      have b := h.g (s.m - 1) (by omega)
      have hP : (s.red op).P s.np = ⟨op, s.G (s.m - 2), s.G (s.m - 1), zShp⟩ := if_pos rfl
      unfold partE
      rw [hP, if_neg (show ¬ op = 0 by omega), if_pos ho]
      exact if_neg (show ¬ (s.G (s.m - 2) < 0 ∨ (s.np : Int) ≤ s.G (s.m - 2) ∨ s.G (s.m - 1) < 0 ∨ (s.np : Int) ≤ s.G (s.m - 1)) by omega)
    · have := h.p j (by omega)
      have hP : (s.red op).P j = s.P j := if_neg e
      unfold partE at *
      rw [hP]; exact this
  · have hj : j < s.m - 1 := hj
    show 0 ≤ (if j = s.m - 2 then (s.np : Int) else s.G j) ∧ (if j = s.m - 2 then (s.np : Int) else s.G j) < ((s.np + 1 : Nat) : Int)
    split
    · omega
    · have := h.g j (by omega); omega
theorem st_redK {op : Int} (ho : op = 1 ∨ op = 2 ∨ op = 3) {s : St} (h : StOk s) : ∀ k, k < s.m → StOk (redK op k s)
  | 0, _ => by rw [redK_0]; exact h
  | k + 1, hk => by
    rw [redK_s]
    exact st_red (st_redK ho h k (by omega)) ho (by rw [(redK_m op k s).1]; omega)
theorem so_ok (n : Nat) (F : Nat → Int) (m : Int) : ∀ i, StOk (so n F m i) ∧ (0 < i → 1 ≤ (so n F m i).m)
  | 0 => ⟨⟨fun j hj => (by rw [(so_0 n F m).2] at hj; omega), fun j hj => (by rw [(so_0 n F m).1] at hj; omega)⟩, fun h => absurd h (by omega)⟩
  | i + 1 => by
    have ih := so_ok n F m i
    have ho := pickF_bd (rawF n F (m + 3 + i)) 3 (by omega)
    have l := st_push ih.1 (leafO_ok n F (m + 2 + 9 * i))
    have hk : soK n F m i (soL n F m i (so n F m i)) < (soL n F m i (so n F m i)).m := by
      have := soK_le (n := n) (F := F) (m := m) (i := i) (s := soL n F m i (so n F m i))
      rw [soL_m] at *; omega
    rw [so_s]
    refine ⟨st_redK (by unfold soO; omega) l _ hk, fun _ => ?_⟩
    rw [(redK_m _ _ _).1]; omega
theorem solO_len (n : Nat) (F : Nat → Int) (m : Int) : 1 ≤ (solO n F m).np ∧ (solO n F m).np ≤ 7 := by
  have h4 := pickF_bd (rawF n F (m + 1)) 4 (by omega)
  have hN : 1 ≤ (soN n F m).toNat ∧ (soN n F m).toNat ≤ 4 := by unfold soN; omega
  have hb := so_bd n F m (soN n F m).toNat
  have h1 := (so_ok n F m (soN n F m).toNat).2 (by omega)
  unfold solO
  refine ⟨?_, by omega⟩
  obtain ⟨i, hi⟩ : ∃ i, (soN n F m).toNat = i + 1 := ⟨(soN n F m).toNat - 1, by omega⟩
  rw [hi, so_s, (redK_m _ _ _).2, soL_np]
  omega
theorem solO_parts (n : Nat) (F : Nat → Int) (m : Int) : ∀ j, j < (solO n F m).np → partE (solO n F m).P j = 0 := (so_ok n F m (soN n F m).toNat).1.p
theorem firstE_none {f : Nat → Int} : ∀ {n : Nat}, (∀ i, i < n → f i = 0) → firstE f n = 0
  | 0, _ => firstE_0 f
  | n + 1, h => firstE_s (firstE_none fun i hi => h i (by omega)) (h n (by omega))
theorem solid_of {n : Nat} {P : Nat → Prt} {s : Int} (hn : 1 ≤ n ∧ n ≤ 16) (hs : 0 ≤ s ∧ s < 16) (h : ∀ i, i < n → partE P i = 0) : solidE n P s = 0 := by
  rw [solidE_n (by omega) hs]; exact firstE_none h
end Go.Proofs.Ytgbcnfcgljbbgaa
/- Two solids, put together into one: its spans (plain). -/
namespace Go.Proofs.Ytgbcnfcgljbbgaa
open Go.RowKit Ev Flt
set_option linter.unusedVariables false
set_option linter.unusedSimpArgs false
set_option maxRecDepth 20000

/-- A span whose parts are counted from elsewhere. -/
def shS (n : Int) (x : Spn) : Spn := ⟨x.a, x.b + n, x.c, x.d, x.e + n, x.f⟩
theorem sh_inter (n : Int) (x y : Spn) : interS (shS n x) (shS n y) = shS n (interS x y) := by
  unfold interS shS; dsimp only; cases fgt y.a x.a <;> cases flt y.d x.d <;> rfl
theorem sh_interL (n : Int) (x y : Spn) : interL (shS n x) (shS n y) = (interL x y).map (shS n) := by
  unfold interL; rw [sh_inter]
  show (bif flt (interS x y).a (interS x y).d then _ else _) = _
  cases flt (interS x y).a (interS x y).d <;> rfl
theorem sh_both (n : Int) : ∀ (k : Nat) (A B : List Spn), A.length + B.length = k → bothL (A.map (shS n)) (B.map (shS n)) = (bothL A B).map (shS n)
  | _, [], B, _ => by rw [List.map_nil, bothL_nil1, bothL_nil1]; rfl
  | _, x :: a, [], _ => by rw [List.map_nil, bothL_nil2, bothL_nil2]; rfl
  | 0, x :: a, y :: b, h => by simp at h
  | k + 1, x :: a, y :: b, h => by
    have i1 := sh_both n k (x :: a) b (by simp only [List.length_cons] at h ⊢; omega)
    have i2 := sh_both n k a (y :: b) (by simp only [List.length_cons] at h ⊢; omega)
    rw [List.map_cons] at i1 i2
    rw [List.map_cons, List.map_cons, bothL_cons, bothL_cons, sh_interL, List.map_append, i1, i2]
    show _ ++ (bif flt y.d x.d then _ else _) = _
    cases flt y.d x.d <;> rfl
theorem sh_first (n : Int) (A B : List Spn) : firstS (A.map (shS n)) (B.map (shS n)) = firstS A B := by
  unfold firstS
  rw [List.length_map, List.length_map]
  cases A <;> cases B <;> rfl
theorem sh_merge (n : Int) : ∀ (k : Nat) (A B : List Spn), k ≤ A.length + B.length → mergeN k (A.map (shS n)) (B.map (shS n)) = (mergeN k A B).map (shS n)
  | 0, _, _, _ => rfl
  | k + 1, A, B, h => by
    show (bif firstS (A.map (shS n)) (B.map (shS n)) then _ else _) = List.map (shS n) (bif firstS A B then _ else _)
    rw [sh_first]
    cases hf : firstS A B with
    | true =>
      have hp := first_pos (by omega) hf
      match A, hp with
      | x :: a, _ =>
        have ih := sh_merge n k a B (by simp only [List.length_cons] at h; omega)
        show shS n x :: mergeN k (a.map (shS n)) (B.map (shS n)) = shS n x :: (mergeN k a B).map (shS n)
        rw [ih]
    | false =>
      have hp := first_neg hf
      match B, hp with
      | y :: b, _ =>
        have ih := sh_merge n k A b (by simp only [List.length_cons] at h; omega)
        show shS n y :: mergeN k (A.map (shS n)) (b.map (shS n)) = shS n y :: (mergeN k A b).map (shS n)
        rw [ih]
theorem sh_getD (n : Int) (o : List Spn) (i : Nat) : ((o.map (shS n)).getD i spnZ).d = (o.getD i spnZ).d := by
  simp only [List.getD, List.getElem?_map]
  cases o[i]? <;> rfl
theorem sh_touch (n : Int) (o : List Spn) (x : Spn) : touchS (o.map (shS n)) (shS n x) = touchS o x := by
  unfold touchS
  rw [List.length_map, sh_getD]; rfl
theorem sh_later (n : Int) (l x : Spn) : laterS (shS n l) (shS n x) = shS n (laterS l x) := by
  unfold laterS shS; dsimp only; cases fgt x.d l.d <;> rfl
theorem sh_last (n : Int) (o : List Spn) (h : 0 < o.length) : lastS (o.map (shS n)) = shS n (lastS o) := by
  unfold lastS
  rw [List.length_map]
  have h2 : o.length - 1 < o.length := by omega
  simp [List.getD, h2]
theorem sh_push (n : Int) (o : List Spn) (x : Spn) : pushS (o.map (shS n)) (shS n x) = (pushS o x).map (shS n) := by
  unfold pushS
  rw [sh_touch]
  cases ht : touchS o x with
  | true =>
    have hp : 0 < o.length := by
      rcases Nat.eq_zero_or_pos o.length with e | e
      · rw [touch_nil e] at ht; cases ht
      · exact e
    show (o.map (shS n)).dropLast ++ [laterS (lastS (o.map (shS n))) (shS n x)] = List.map (shS n) (o.dropLast ++ [laterS (lastS o) x])
    rw [sh_last n o hp, sh_later, List.map_append, List.map_dropLast]; rfl
  | false =>
    show o.map (shS n) ++ [shS n x] = List.map (shS n) (o ++ [x])
    rw [List.map_append]; rfl
theorem sh_fold (n : Int) : ∀ (M o : List Spn), (M.map (shS n)).foldl pushS (o.map (shS n)) = (M.foldl pushS o).map (shS n)
  | [], o => rfl
  | x :: M, o => by
    show (M.map (shS n)).foldl pushS (pushS (o.map (shS n)) (shS n x)) = _
    rw [sh_push, sh_fold n M]; rfl
theorem sh_either (n : Int) (A B : List Spn) : eitherL (A.map (shS n)) (B.map (shS n)) = (eitherL A B).map (shS n) := by
  unfold eitherL mergeL
  rw [List.length_map, List.length_map, sh_merge n _ A B (Nat.le_refl _)]
  exact sh_fold n _ []
theorem sh_fin (n : Int) (x : Spn) : finS (shS n x) = (finS x).map (shS n) := by
  unfold finS
  show (bif flt x.a x.d then _ else _) = _
  cases flt x.a x.d <;> rfl
theorem sh_cut (n : Int) (x y : Spn) : cutS (shS n x) (shS n y) = (cutS x y).map (shS n) := by
  unfold cutS
  show (bif flt x.a y.a then _ else _) = _
  cases flt x.a y.a <;> rfl
theorem sh_lessX (n : Int) : ∀ (B : List Spn) (x : Spn), lessX (shS n x) (B.map (shS n)) = (lessX x B).map (shS n)
  | [], x => sh_fin n x
  | y :: b, x => by
    show (bif skipS x y then lessX (shS n x) (b.map (shS n)) else bif stopS x y then finS (shS n x) else cutS (shS n x) (shS n y) ++ lessX (shS n (behindS x y)) (b.map (shS n))) = List.map (shS n) (bif skipS x y then lessX x b else bif stopS x y then finS x else cutS x y ++ lessX (behindS x y) b)
    rw [sh_lessX n b x, sh_lessX n b (behindS x y), sh_fin, sh_cut]
    cases skipS x y
    · cases stopS x y
      · show _ = List.map (shS n) (_ ++ _)
        rw [List.map_append]; rfl
      · rfl
    · rfl
theorem sh_less (n : Int) : ∀ (A B : List Spn), lessL (A.map (shS n)) (B.map (shS n)) = (lessL A B).map (shS n)
  | [], B => rfl
  | x :: a, B => by
    have ih := sh_less n a B
    unfold lessL at *
    rw [List.map_cons, List.flatMap_cons, List.flatMap_cons, List.map_append, ih, sh_lessX]
theorem sh_comb (n : Int) (op : Int) (A B L : List Spn) : combS op (A.map (shS n)) (B.map (shS n)) (L.map (shS n)) = (combS op A B L).map (shS n) := by
  unfold combS
  split
  · exact sh_both n _ A B rfl
  · split
    · exact sh_either n A B
    · split
      · exact sh_less n A B
      · rfl
theorem sh_in {n : Int} {L : List Spn} {k : Int} : InL (L.map (shS n)) k ↔ InL L k := by
  constructor
  · rintro ⟨x, hx, h⟩
    obtain ⟨y, hy, rfl⟩ := List.mem_map.1 hx
    exact ⟨y, hy, h⟩
  · rintro ⟨x, hx, h⟩
    exact ⟨_, List.mem_map.2 ⟨x, hx, rfl⟩, h⟩
theorem sh_end {n : Int} {L : List Spn} {k : Int} : EndL (L.map (shS n)) k ↔ EndL L k := by
  constructor
  · rintro ⟨x, hx, h⟩
    obtain ⟨y, hy, rfl⟩ := List.mem_map.1 hx
    exact ⟨y, hy, h⟩
  · rintro ⟨x, hx, h⟩
    exact ⟨_, List.mem_map.2 ⟨x, hx, rfl⟩, h⟩
theorem sh_ok {n : Int} {x : Spn} (h : OkS x) : OkS (shS n x) := ⟨h.na, h.nd, h.lt⟩
theorem sh_good {n : Int} : ∀ {L : List Spn}, Good L → Good (L.map (shS n))
  | [], _ => trivial
  | x :: L, h => ⟨sh_ok h.1, fun y hy => (by
      obtain ⟨z, hz, rfl⟩ := List.mem_map.1 hy
      exact h.2.1 z hz), sh_good h.2.2⟩
/-- A part that is counted from elsewhere. -/
def shP (n : Nat) (p : Prt) : Prt := if 0 < p.op then ⟨p.op, p.l + n, p.m + n, p.p⟩ else p
def joinP (na : Nat) (A B : Nat → Prt) (j : Nat) : Prt := if j < na then A j else shP na (B (j - na))
def wholeP (na nb : Nat) (A B : Nat → Prt) (op : Int) (j : Nat) : Prt := if j = na + nb then ⟨op, (na : Int) - 1, ((na + nb : Nat) : Int) - 1, zShp⟩ else joinP na A B j
theorem shP_p (n : Nat) (p : Prt) : (shP n p).p = p.p := by unfold shP; split <;> rfl
theorem tab_none (P : Nat → Prt) (r : Ray) : ∀ (k j : Nat), k ≤ j → tabS P r k j = []
  | 0, j, _ => by unfold tabS; rfl
  | k + 1, j, h => by rw [tab_ne P r (by omega)]; exact tab_none P r k j (by omega)
theorem leaf_congr {P P' : Nat → Prt} {r : Ray} {k : Nat} (h : P k = P' k) : leafS P r k = leafS P' r k := by unfold leafS; rw [h]
theorem tab_congr {P P' : Nat → Prt} (r : Ray) : ∀ (k : Nat), (∀ i, i < k → P i = P' i) → ∀ j, tabS P r k j = tabS P' r k j
  | 0, _, j => by rw [tab_none P r 0 j (by omega), tab_none P' r 0 j (by omega)]
  | k + 1, h, j => by
    have ih := tab_congr r k fun i hi => h i (by omega)
    by_cases e : j = k
    · subst e
      rw [tab_at, tab_at, h j (by omega), ih, ih, leaf_congr (h j (by omega))]
    · rw [tab_ne P r e, tab_ne P' r e, ih]
theorem tab_shift {W B : Nat → Prt} (na : Nat) (r : Ray) : ∀ (k : Nat), (∀ i, i < k → W (na + i) = shP na (B i)) → (∀ i, i < k → partE B i = 0) → ∀ j, tabS W r (na + k) (na + j) = (tabS B r k j).map (shS na)
  | 0, _, _, j => by rw [tab_none W r _ _ (by omega), tab_none B r 0 j (by omega)]; rfl
  | k + 1, h, hB, j => by
    have ih := tab_shift na r k (fun i hi => h i (by omega)) fun i hi => hB i (by omega)
    by_cases e : j = k
    · subst e
      have w := h j (by omega)
      have lf : leafS W r (na + j) = (leafS B r j).map (shS na) := by
        unfold leafS
        rw [w, shP_p]
        cases pwO (B j).p r
        · rfl
        · show [_] = [_]
          unfold shS
          rw [show ((na + j : Nat) : Int) = (j : Int) + (na : Int) by omega]
      rw [show na + (j + 1) = (na + j) + 1 by omega, tab_at, tab_at, w, lf]
      rcases part_op (hB j (by omega)) with ⟨p0, _⟩ | ⟨p1, p2, p3, p4, p5⟩
      · unfold shP
        rw [if_neg (by omega), p0]; rfl
      · unfold shP
        rw [if_pos (by omega)]
        show combS (B j).op (tabS W r (na + j) ((B j).l + (na : Int)).toNat) (tabS W r (na + j) ((B j).m + (na : Int)).toNat) _ = _
        rw [show ((B j).l + (na : Int)).toNat = na + (B j).l.toNat by omega, show ((B j).m + (na : Int)).toNat = na + (B j).m.toNat by omega, ih, ih, sh_comb]
    · rw [show na + (k + 1) = (na + k) + 1 by omega, tab_ne W r (by omega), tab_ne B r e, ih]
theorem tab_low {W : Nat → Prt} {r : Ray} {na j : Nat} (hj : j < na) : ∀ k, tabS W r (na + k) j = tabS W r na j
  | 0 => rfl
  | k + 1 => by rw [show na + (k + 1) = (na + k) + 1 by omega, tab_ne W r (by omega)]; exact tab_low hj k
theorem whole_tab {na nb : Nat} {A B : Nat → Prt} {op : Int} {r : Ray} (hna : 1 ≤ na) (hnb : 1 ≤ nb) (ho : op = 1 ∨ op = 2 ∨ op = 3) (hB : ∀ i, i < nb → partE B i = 0) :
    ∃ L, tabS (wholeP na nb A B op) r (na + nb + 1) (na + nb) = combS op (tabS A r na (na - 1)) ((tabS B r nb (nb - 1)).map (shS na)) L := by
  have w : wholeP na nb A B op (na + nb) = ⟨op, (na : Int) - 1, ((na + nb : Nat) : Int) - 1, zShp⟩ := if_pos rfl
  have lo : ∀ i, i < na → wholeP na nb A B op i = A i := fun i hi => by
    unfold wholeP joinP; rw [if_neg (by omega), if_pos hi]
  have hi : ∀ i, i < nb → wholeP na nb A B op (na + i) = shP na (B i) := fun i h => by
    unfold wholeP joinP; rw [if_neg (by omega), if_neg (by omega), Nat.add_sub_cancel_left]
  refine ⟨leafS (wholeP na nb A B op) r (na + nb), ?_⟩
  rw [tab_at, w]
  show combS op (tabS _ r (na + nb) ((na : Int) - 1).toNat) (tabS _ r (na + nb) (((na + nb : Nat) : Int) - 1).toNat) _ = _
  rw [show ((na : Int) - 1).toNat = na - 1 by omega, show (((na + nb : Nat) : Int) - 1).toNat = na + (nb - 1) by omega, tab_low (by omega), tab_congr r na lo, tab_shift na r nb hi hB]
theorem whole_part {na nb : Nat} {A B : Nat → Prt} {op : Int} (hna : 1 ≤ na) (hnb : 1 ≤ nb) (ho : op = 1 ∨ op = 2 ∨ op = 3) (hA : ∀ i, i < na → partE A i = 0) (hB : ∀ i, i < nb → partE B i = 0) : ∀ i, i < na + nb + 1 → partE (wholeP na nb A B op) i = 0 := by
  intro i hi
  by_cases e : i = na + nb
  · subst e
    unfold partE
    rw [show wholeP na nb A B op (na + nb) = ⟨op, (na : Int) - 1, ((na + nb : Nat) : Int) - 1, zShp⟩ from if_pos rfl]
    dsimp only
    rw [if_neg (by omega), if_pos ho, if_neg (by omega)]
  · by_cases g : i < na
    · have := hA i g
      unfold partE at *
      rw [show wholeP na nb A B op i = A i by unfold wholeP joinP; rw [if_neg e, if_pos g]]
      exact this
    · have hb := hB (i - na) (by omega)
      have w : wholeP na nb A B op i = shP na (B (i - na)) := by unfold wholeP joinP; rw [if_neg e, if_neg g]
      unfold partE
      rw [w]
      rcases part_op hb with ⟨p0, p1, p2⟩ | ⟨p1, p2, p3, p4, p5⟩
      · rw [show shP na (B (i - na)) = B (i - na) from if_neg (by omega), if_pos p0, if_pos p1, if_pos p2]
      · rw [show shP na (B (i - na)) = ⟨(B (i - na)).op, (B (i - na)).l + na, (B (i - na)).m + na, (B (i - na)).p⟩ from if_pos (by omega)]
        rw [if_neg (show ¬ (B (i - na)).op = 0 by omega), if_pos p1]
        exact if_neg (show ¬ ((B (i - na)).l + (na : Int) < 0 ∨ (i : Int) ≤ (B (i - na)).l + na ∨ (B (i - na)).m + (na : Int) < 0 ∨ (i : Int) ≤ (B (i - na)).m + na) by omega)
end Go.Proofs.Ytgbcnfcgljbbgaa
/- Places of a ray within spans. -/
namespace Go.Proofs.Ytgbcnfcgljbbgaa
open Go.RowKit Ev Flt
set_option linter.unusedVariables false
set_option linter.unusedSimpArgs false
set_option maxRecDepth 20000
set_option maxHeartbeats 4000000

/-- Within one of the first spans? And at an end of one? -/
def inB (L : List Spn) (t : Nat) : Nat → Bool
  | 0 => false
  | i + 1 => inB L t i || (flt (L.getD i spnZ).a t && flt t (L.getD i spnZ).d)
def atB (L : List Spn) (t : Nat) : Nat → Bool
  | 0 => false
  | i + 1 => (atB L t i || feq (L.getD i spnZ).a t) || feq (L.getD i spnZ).d t
theorem inB_0 (L : List Spn) (t : Nat) : inB L t 0 = false := rfl
theorem inB_s (L : List Spn) (t i : Nat) : inB L t (i + 1) = (inB L t i || (flt (L.getD i spnZ).a t && flt t (L.getD i spnZ).d)) := rfl
theorem atB_0 (L : List Spn) (t : Nat) : atB L t 0 = false := rfl
theorem atB_s (L : List Spn) (t i : Nat) : atB L t (i + 1) = ((atB L t i || feq (L.getD i spnZ).a t) || feq (L.getD i spnZ).d t) := rfl
attribute [irreducible] inB atB
structure VI (n : Nat) where
  i : Nat
  hi : i ≤ n
theorem inW_f : FnOk Try.prog 8 Try.f8 := ⟨Try.func8, by kernel_rfl⟩
theorem inW_a (L : List Spn) (t : Nat) (hpre : L.length ≤ 100000) : ACalls Try.prog 8 [.sl L.length 6 (flatF 6 (rowsS L)), .flt t] (.tup [.bool (inB L t L.length), .bool (atB L t L.length)]) := by
  refine acalls_of (inl := hasI (P := Try.prog) [] []) (base [] [] []) 0 inW_f (And.intro (by kernel_rfl) ?_)
  repeat' (first | refine And.intro ?_ ?_ | (with_reducible exact ff_elim) | (with_reducible exact tf_elim) | refine num_elim ?_ | intro _ | (with_reducible rfl) | ((with_reducible refine lk_t ?_); exact rfl) | ((with_reducible refine pf_t ?_); exact rfl) | refine tell ?_ | exact True.intro | (refine IsT.of ?_; kernel_rfl))
  all_goals (try (refine loop_keep [0, 1] [0] ?_; refine LoopI.mk (VI L.length) (fun j => [(6, .bool (inB L t j.i)), (7, .bool (atB L t j.i)), (8, .int .i64 j.i)]) (fun j => []) (fun j => L.length - j.i) (⟨0, Nat.zero_le _⟩) (wk_mk [some 0] ?_) (fun ⟨i, hi⟩ => ?_)))
  repeat' (first | refine And.intro ?_ ?_ | (with_reducible exact ff_elim) | (with_reducible exact tf_elim) | refine stp_mk [some 0] ((⟨i + 1, ?_⟩ : VI L.length)) ?_ ?_ | refine view_flat rfl rfl ?_ | refine view_take (by rfl) rfl ?_ | refine view_drop (by rfl) rfl ?_ | refine view_cell (by rfl) ?_ | refine view_rd (by rfl) rfl ?_ | refine view_rc (by rfl) ?_ | refine view1_c (by rfl) ?_ | refine view1_0 (by rfl) ?_ | refine view_f0 rfl rfl ?_ | refine num_elim ?_ | intro _ | (with_reducible rfl) | ((with_reducible refine lk_t ?_); exact rfl) | ((with_reducible refine pf_t ?_); exact rfl) | refine tell ?_ | exact True.intro | (refine IsT.of ?_; kernel_rfl))
  all_goals (try refine Tell.mk ?_)
  all_goals (try dsimp only at *)
  all_goals first | with_reducible rfl | with_reducible assumption | (with_reducible refine gb_t ?_; with_reducible assumption) | (with_reducible refine gb_f ?_; with_reducible assumption) | skip
  all_goals (try (have hlt : i < L.length := lt_of (by assumption)))
  all_goals (try simp only [inB_s, inB_0, atB_0, atB_s])
  all_goals first | rfl | omega | (rw [wrapI (by omega) (by omega)]; omega) | (refine Bool.and_eq_true_iff.2 ⟨by with_reducible assumption, ?_⟩; with_reducible refine gb_t ?_; with_reducible assumption) | skip
  all_goals (try (obtain rfl : i = L.length := (by have := ge_of (by assumption : decide ((i : Int) < (L.length : Int)) = false); omega)))
  all_goals first | rfl | (simp [*]; done) | trace_state
/-- What they mean. -/
theorem mem_getD {L : List Spn} {i : Nat} (h : i < L.length) : L.getD i spnZ ∈ L := by
  have : L.getD i spnZ = L[i] := by simp [List.getD, h]
  rw [this]; exact List.getElem_mem h
theorem inB_in {L : List Spn} {t : Nat} (hL : ∀ x, x ∈ L → OkS x) (ht : isN t = false) : ∀ n, n ≤ L.length → (inB L t n = true ↔ InL (L.take n) (key t))
  | 0, _ => by rw [inB_0]; exact ⟨fun h => (by cases h), fun h => absurd h in_nil⟩
  | n + 1, h => by
    have o := hL _ (mem_getD (L := L) (i := n) (by omega))
    have e : L.take (n + 1) = L.take n ++ [L.getD n spnZ] := by
      rw [List.take_add_one]; simp [List.getD, show n < L.length by omega]
    rw [inB_s, e, in_app, Bool.or_eq_true, inB_in hL ht n (by omega), Bool.and_eq_true, flt_key o.na ht, flt_key ht o.nd, decide_eq_true_eq, decide_eq_true_eq, in_cons]
    exact ⟨fun h => h.imp id fun h => .inl h, fun h => h.imp id fun h => h.elim id fun h => absurd h in_nil⟩
theorem atB_at {L : List Spn} {t : Nat} (hL : ∀ x, x ∈ L → OkS x) (ht : isN t = false) : ∀ n, n ≤ L.length → (atB L t n = true ↔ EndL (L.take n) (key t))
  | 0, _ => by
    rw [atB_0]
    exact ⟨fun h => (by cases h), fun ⟨x, hx, _⟩ => by cases hx⟩
  | n + 1, h => by
    have o := hL _ (mem_getD (L := L) (i := n) (by omega))
    have e : L.take (n + 1) = L.take n ++ [L.getD n spnZ] := by
      rw [List.take_add_one]; simp [List.getD, show n < L.length by omega]
    rw [atB_s, e, Bool.or_eq_true, Bool.or_eq_true, atB_at hL ht n (by omega), feq_key o.na ht, feq_key o.nd ht, decide_eq_true_eq, decide_eq_true_eq]
    constructor
    · rintro ((⟨x, hx, hk⟩ | h) | h)
      · exact ⟨x, List.mem_append_left _ hx, hk⟩
      · exact ⟨_, List.mem_append_right _ List.mem_cons_self, .inl h⟩
      · exact ⟨_, List.mem_append_right _ List.mem_cons_self, .inr h⟩
    · rintro ⟨x, hx, hk⟩
      rcases List.mem_append.1 hx with hx | hx
      · exact .inl (.inl ⟨x, hx, hk⟩)
      · have : x = L.getD n spnZ := by simpa using hx
        subst this
        rcases hk with hk | hk
        · exact .inl (.inr hk)
        · exact .inr hk
theorem in_iff {L : List Spn} {t : Nat} (hL : Good L) (ht : isN t = false) : inB L t L.length = true ↔ InL L (key t) := by
  have := inB_in (fun x hx => hL.ok x hx) ht L.length (Nat.le_refl _)
  rwa [List.take_length] at this
theorem at_iff {L : List Spn} {t : Nat} (hL : Good L) (ht : isN t = false) : atB L t L.length = true ↔ EndL L (key t) := by
  have := atB_at (fun x hx => hL.ok x hx) ht L.length (Nat.le_refl _)
  rwa [List.take_length] at this
def inK (args : List AV) : CR := match args with
  | [.sl n sz g, .flt t] => .ok (some ((sz = 6 ∧ n ≤ 100000) ∧ (∀ j, j < n * 6 → flatF 6 (rowsS (unS n g)) j = g j))) (.tup [.bool (inB (unS n g) t n), .bool (atB (unS n g) t n)])
  | _ => .no
def in_k : Con Try.prog := ⟨8, inK, by
  intro args q r e hq
  unfold inK at e
  split at e
  · cases e
    obtain ⟨⟨rfl, h1⟩, h2⟩ := hq
    rename_i n g t
    have hl := unS_len n g
    have a := inW_a (unS n g) t (by omega)
    rw [hl] at a
    refine acalls_agr a ⟨⟨rfl, rfl, fun j hj => h2 j hj⟩, rfl, True.intro⟩
  · cases e⟩
end Go.Proofs.Ytgbcnfcgljbbgaa
/- Solids' spans as a contract for any cells; what two joined solids hold; the first check of TopSpans. -/
namespace Go.Proofs.Ytgbcnfcgljbbgaa
open Go.RowKit Ev Flt
set_option linter.unusedVariables false
set_option linter.unusedSimpArgs false
set_option maxRecDepth 20000
set_option maxHeartbeats 4000000

/-- A part out of its cells. -/
def prtG (g : Nat → AV) (i : Nat) : Prt := ⟨intOf (g (i * 16 + 0)), intOf (g (i * 16 + 1)), intOf (g (i * 16 + 2)), ⟨intOf (g (i * 16 + 3)), natOf (g (i * 16 + 4)), natOf (g (i * 16 + 5)), natOf (g (i * 16 + 6)), natOf (g (i * 16 + 7)), natOf (g (i * 16 + 8)), natOf (g (i * 16 + 9)), natOf (g (i * 16 + 10)), natOf (g (i * 16 + 11)), natOf (g (i * 16 + 12)), natOf (g (i * 16 + 13)), natOf (g (i * 16 + 14)), intOf (g (i * 16 + 15))⟩⟩
theorem prtG_of {P : Nat → Prt} {g : Nat → AV} {i : Nat} (h : ∀ c, c < 16 → g (i * 16 + c) = (P i).cell c) : prtG g i = P i := by
  unfold prtG
  rw [h 0 (by decide), h 1 (by decide), h 2 (by decide), h 3 (by decide), h 4 (by decide), h 5 (by decide), h 6 (by decide), h 7 (by decide), h 8 (by decide), h 9 (by decide), h 10 (by decide), h 11 (by decide), h 12 (by decide), h 13 (by decide), h 14 (by decide), h 15 (by decide)]
  rfl
theorem prtG_part (P : Nat → Prt) : prtG (partF P) = P := funext fun i => prtG_of fun c hc => part_at P i c hc
theorem prtG_cells {P : Nat → Prt} {g : Nat → AV} {N : Nat} (h : ∀ j, j < N * 16 → partF P j = g j) : (∀ i, i < N → prtG g i = P i) ∧ ∀ j, j < N * 16 → partF (prtG g) j = g j := by
  have a : ∀ i, i < N → prtG g i = P i := fun i hi => prtG_of fun c hc => by rw [← h (i * 16 + c) (by omega), part_at P i c hc]
  refine ⟨a, fun j hj => ?_⟩
  rw [← h j hj]
  unfold partF
  rw [a (j / 16) (by omega)]
theorem firstE_congr {f f' : Nat → Int} : ∀ {n : Nat}, (∀ i, i < n → f i = f' i) → firstE f n = firstE f' n
  | 0, _ => by rw [firstE_0, firstE_0]
  | n + 1, h => by rw [firstE_n, firstE_n, firstE_congr fun i hi => h i (by omega), h n (by omega)]
theorem spV_congr {n : Nat} {P P' : Nat → Prt} {s : Int} {r : Ray} (h : ∀ i, i < n → P i = P' i) : spV n P s r = spV n P' s r ∧ spE n P s r = spE n P' s r := by
  have e : solidE n P s = solidE n P' s := by
    unfold solidE
    rw [firstE_congr fun i hi => show partE P i = partE P' i by unfold partE; rw [h i hi]]
  have e2 : spE n P s r = spE n P' s r := by unfold spE; rw [e]
  refine ⟨?_, e2⟩
  unfold spV
  rw [e2, tab_congr r n h]
/-- The spans and the error of a solid that is told by its cells. -/
@[irreducible] def gV (n : Nat) (g : Nat → AV) (s : Int) (l : List AV) : List Spn := spV n (prtG g) s (rayOfL l)
@[irreducible] def gE (n : Nat) (g : Nat → AV) (s : Int) (l : List AV) : Int := spE n (prtG g) s (rayOfL l)
def spansK (args : List AV) : CR := match args with
  | [.agg [.sl n sz g, .int .i64 s], .agg l] => .ok (some ((sz = 16 ∧ rayA (rayOfL l) = .agg l) ∧ ∀ j, j < n * 16 → partF (prtG g) j = g j)) (.tup [.sl (gV n g s l).length 6 (flatF 6 (rowsS (gV n g s l))), .int .i64 (gE n g s l)])
  | _ => .no
def spans_k : Con Try.prog := ⟨4, spansK, by
  intro args q r e hq
  unfold spansK at e
  split at e
  · cases e
    obtain ⟨⟨rfl, h1⟩, h2⟩ := hq
    rename_i n g s l
    rw [← h1]
    have a := spansP_a n (prtG g) s (rayOfL l)
    unfold gV gE
    refine acalls_agr a ⟨⟨⟨rfl, rfl, fun j hj => h2 j hj⟩, ⟨rfl, rfl⟩, True.intro⟩, ?_, True.intro⟩
    exact ⟨rfl, rfl, rfl, rfl, rfl, rfl, rfl, True.intro⟩
  · cases e⟩
/-- The ball about the origin, and a ray at it. -/
def prtC (_ : Nat) : Prt := ⟨0, 0, 0, ⟨1, 0, 0, 0, 0, 0, 0, 0, 0, 0, 4607182418800017408, 0, 0⟩⟩
def rayC : Ray := ⟨0, 0, 13840687554816376832, 0, 0, 4607182418800017408, 0⟩
theorem ball_e : spE 1 prtC 0 rayC = 0 := by
  have h1 : partE prtC 0 = 0 := by decide +kernel
  have h2 : rayC.e = 0 := by decide +kernel
  have h : solidE 1 prtC 0 = 0 := solid_of (by omega) (by omega) fun i hi => by
    obtain rfl : i = 0 := by omega
    exact h1
  unfold spE
  rw [if_pos h, h2]
theorem ball_v : spV 1 prtC 0 rayC = [⟨4616189618054758400, 0, false, 4618441417868443648, 0, false⟩] := by
  have h1 : pwO (prtC 0).p rayC = true := by decide +kernel
  have h2 : pwI (prtC 0).p rayC = 4616189618054758400 := by decide +kernel
  have h3 : pwU (prtC 0).p rayC = 4618441417868443648 := by decide +kernel
  unfold spV
  rw [if_pos ball_e]
  show tabS prtC rayC (0 + 1) 0 = _
  rw [tab_at]
  show leafS prtC rayC 0 = _
  unfold leafS
  rw [h1, h2, h3]
  rfl
/-- What a joined solid holds. -/
theorem comb_law {A B L : List Spn} {op : Int} {n : Int} {t : Nat} (hA : Good A) (hB : Good B) (ht : isN t = false) (eA : atB A t A.length = false) (eB : atB B t B.length = false) (ho : op = 1 ∨ op = 2 ∨ op = 3) :
    inB (combS op A (B.map (shS n)) L) t (combS op A (B.map (shS n)) L).length = (if op = 1 then inB A t A.length && inB B t B.length else if op = 2 then inB A t A.length || inB B t B.length else inB A t A.length && !(inB B t B.length)) := by
  have hB' := sh_good (n := n) hB
  have fA : ¬ EndL A (key t) := fun h => by rw [(at_iff hA ht).2 h] at eA; cases eA
  have fB : ¬ EndL B (key t) := fun h => by rw [(at_iff hB ht).2 h] at eB; cases eB
  have fB' : ¬ EndL (B.map (shS n)) (key t) := fun h => fB (sh_end.1 h)
  have iA := in_iff hA ht
  have iB := in_iff hB ht
  have key : ∀ {C : List Spn} {b : Bool}, Good C → (InL C (Flt.key t) ↔ b = true) → inB C t C.length = b := fun {C b} hC h => by
    have := (in_iff hC ht).trans h
    cases e : inB C t C.length <;> cases b <;> simp_all
  rcases ho with rfl | rfl | rfl
  · rw [if_pos rfl]
    refine key (both_good hA hB') ?_
    show InL (bothL A (B.map (shS n))) _ ↔ _
    rw [both_in hA hB', sh_in, ← iA, ← iB, Bool.and_eq_true]
  · rw [if_neg (by decide), if_pos rfl]
    refine key (either_same hA hB').2 ?_
    show InL (eitherL A (B.map (shS n))) _ ↔ _
    rw [either_in hA hB' fA fB', sh_in, ← iA, ← iB, Bool.or_eq_true]
  · rw [if_neg (by decide), if_neg (by decide)]
    refine key (less_good hA hB') ?_
    show InL (lessL A (B.map (shS n))) _ ↔ _
    rw [less_in hA hB' fB', sh_in, ← iA, ← iB, Bool.and_eq_true, Bool.not_eq_true', Bool.not_eq_true]
theorem comb_good {A B L : List Spn} {op : Int} {n : Int} (hA : Good A) (hB : Good B) (ho : op = 1 ∨ op = 2 ∨ op = 3) : Good (combS op A (B.map (shS n)) L) := by
  have hB' := sh_good (n := n) hB
  rcases ho with rfl | rfl | rfl
  · exact both_good hA hB'
  · exact (either_same hA hB').2
  · exact less_good hA hB'
end Go.Proofs.Ytgbcnfcgljbbgaa
/- TopSpans: the walk. -/
namespace Go.Proofs.Ytgbcnfcgljbbgaa
open Go.RowKit Ev Flt
set_option linter.unusedVariables false
set_option linter.unusedSimpArgs false
set_option maxRecDepth 20000
set_option maxHeartbeats 4000000

/-- Rounds of a loop. -/
structure PJI (n : Nat) where
  k : Nat
  hk : k ≤ n
structure PVJ where
  i : Nat
  hi : i ≤ 32
theorem part_at1 {Q : Nat → Prt} {N j : Nat} {x : Prt} (h : Q N = x) (hj : j < (N + 1) * 16) : partF Q j = catA (N * 16) (partF Q) (fun j => x.row.getD j .any) j := by
  have e : (fun j => if j = N then x else Q j) = Q := by
    funext j
    by_cases g : j = N
    · subst g; rw [if_pos rfl]; exact h.symm
    · rw [if_neg g]
  have := part_app1 (P := Q) (x := x) hj
  rw [e] at this
  exact this
theorem first_P (i : Nat) (h : i < 1) : prtG (fun j => [AV.int .i64 0, .int .i64 0, .int .i64 0, .int .i64 1, .flt 0, .flt 0, .flt 0, .flt 0, .flt 0, .flt 0, .flt 0, .flt 0, .flt 0, .flt 4607182418800017408, .flt 0, .int .i64 0].getD (0 + j) .any) i = prtC i := by
  obtain rfl : i = 0 := by omega
  rfl
theorem first_v : gV 1 (fun j => [AV.int .i64 0, .int .i64 0, .int .i64 0, .int .i64 1, .flt 0, .flt 0, .flt 0, .flt 0, .flt 0, .flt 0, .flt 0, .flt 0, .flt 0, .flt 4607182418800017408, .flt 0, .int .i64 0].getD (0 + j) .any) 0 [.flt 0, .flt 0, .flt 13840687554816376832, .flt 0, .flt 0, .flt 4607182418800017408, .flt 0] = [⟨4616189618054758400, 0, false, 4618441417868443648, 0, false⟩] := by
  unfold gV
  rw [(spV_congr (s := 0) (r := rayOfL [.flt 0, .flt 0, .flt 13840687554816376832, .flt 0, .flt 0, .flt 4607182418800017408, .flt 0]) first_P).1]
  exact ball_v
theorem first_e : gE 1 (fun j => [AV.int .i64 0, .int .i64 0, .int .i64 0, .int .i64 1, .flt 0, .flt 0, .flt 0, .flt 0, .flt 0, .flt 0, .flt 0, .flt 0, .flt 0, .flt 4607182418800017408, .flt 0, .int .i64 0].getD (0 + j) .any) 0 [.flt 0, .flt 0, .flt 13840687554816376832, .flt 0, .flt 0, .flt 4607182418800017408, .flt 0] = 0 := by
  unfold gE
  rw [(spV_congr (s := 0) (r := rayOfL [.flt 0, .flt 0, .flt 13840687554816376832, .flt 0, .flt 0, .flt 4607182418800017408, .flt 0]) first_P).2]
  exact ball_e
theorem first_c (j : Nat) (h : j < 1 * 16) : partF (prtG (fun j => [AV.int .i64 0, .int .i64 0, .int .i64 0, .int .i64 1, .flt 0, .flt 0, .flt 0, .flt 0, .flt 0, .flt 0, .flt 0, .flt 0, .flt 0, .flt 4607182418800017408, .flt 0, .int .i64 0].getD (0 + j) .any)) j = [AV.int .i64 0, .int .i64 0, .int .i64 0, .int .i64 1, .flt 0, .flt 0, .flt 0, .flt 0, .flt 0, .flt 0, .flt 0, .flt 0, .flt 0, .flt 4607182418800017408, .flt 0, .int .i64 0].getD (0 + j) .any := by
  refine (prtG_cells (P := prtC) (N := 1) (fun j hj => ?_)).2 j h
  match j, hj with
  | 0, _ => (unfold partF; rfl)
  | 1, _ => (unfold partF; rfl)
  | 2, _ => (unfold partF; rfl)
  | 3, _ => (unfold partF; rfl)
  | 4, _ => (unfold partF; rfl)
  | 5, _ => (unfold partF; rfl)
  | 6, _ => (unfold partF; rfl)
  | 7, _ => (unfold partF; rfl)
  | 8, _ => (unfold partF; rfl)
  | 9, _ => (unfold partF; rfl)
  | 10, _ => (unfold partF; rfl)
  | 11, _ => (unfold partF; rfl)
  | 12, _ => (unfold partF; rfl)
  | 13, _ => (unfold partF; rfl)
  | 14, _ => (unfold partF; rfl)
  | 15, _ => (unfold partF; rfl)
  | j + 16, h => omega
/-- The ray of raw numbers, as a row of cells. -/
abbrev rayL (n : Nat) (F : Nat → Int) (k : Int) : List AV := [.flt (milF (rawF n F k) 6000), .flt (milF (rawF n F (k + 1)) 6000), .flt (milF (rawF n F (k + 2)) 6000), .flt (ryX n F k), .flt (ryY n F k), .flt (ryZ n F k), .flt (thoF (pickF (rawF n F (k + 6)) 3))]
theorem gE_0 {N n : Nat} {g : Nat → AV} {P : Nat → Prt} {s K : Int} {F : Nat → Int} (h : ∀ j, j < N * 16 → partF P j = g j) (hN : 1 ≤ N ∧ N ≤ 16) (hs : 0 ≤ s ∧ s < 16) (hp : ∀ i, i < N → partE P i = 0) : gE N g s (rayL n F K) = 0 ∧ gV N g s (rayL n F K) = tabS P (rayR n F K) N (N - 1) := by
  have c := spV_congr (s := s) (r := rayR n F K) (prtG_cells h).1
  have e : spE N P s (rayR n F K) = 0 := by
    unfold spE
    rw [if_pos (solid_of hN hs hp)]; exact rayR_ok n F K
  unfold gE gV
  show spE N (prtG g) s (rayR n F K) = 0 ∧ spV N (prtG g) s (rayR n F K) = _
  rw [c.1, c.2, e]
  refine ⟨rfl, ?_⟩
  unfold spV
  rw [if_pos e]
theorem whole_cells {na nb : Nat} {A B : Nat → Prt} {op : Int} {j : Nat} (hj : j < (na + nb + 1) * 16) : partF (wholeP na nb A B op) j = catA ((na + nb) * 16) (partF (joinP na A B)) (fun j => [AV.int .i64 op, .int .i64 ((na : Int) - 1), .int .i64 (((na + nb : Nat) : Int) - 1), .int .i64 0, .flt 0, .flt 0, .flt 0, .flt 0, .flt 0, .flt 0, .flt 0, .flt 0, .flt 0, .flt 0, .flt 0, .int .i64 0].getD j .any) j :=
  part_app1 (P := joinP na A B) (x := ⟨op, (na : Int) - 1, ((na + nb : Nat) : Int) - 1, zShp⟩) hj
theorem t_num (i : Int) (h : 0 ≤ i ∧ i ≤ 20000) : isN (F .quo (cn (FloatKind.f64.nearest i)) 4652218415073722368) = false := by
  have a : Iv (cn (FloatKind.f64.nearest i)) i := iv_near (by omega)
  have f : Flt.Fin 4652218415073722368 := ⟨false, 4503599627370496, -42, by decide +kernel⟩
  have v := (V_pos f).2 (by decide +kernel)
  exact (quo_mono a.fin a.fin f (Int.le_refl _) (by omega)).1
theorem join_0 {na : Nat} {A B : Nat → Prt} {j c : Nat} {X : Nat → AV} (hc : c = 0) (hj : j < (na + 0) * 16) : partF (joinP na A B) j = catA c X (partF A) j := by
  subst hc
  unfold catA
  rw [if_neg (Nat.not_lt_zero _), Nat.sub_zero]
  unfold partF
  rw [show joinP na A B (j / 16) = A (j / 16) from if_pos (by omega)]
theorem join_s {na i j : Nat} {A B : Nat → Prt} {x : Prt} (h : shP na (B i) = x) (hj : j < (na + (i + 1)) * 16) : partF (joinP na A B) j = catA ((na + i) * 16) (partF (joinP na A B)) (fun j => x.row.getD j .any) j := by
  refine part_at1 ?_ hj
  unfold joinP
  rw [if_neg (by omega), Nat.add_sub_cancel_left, h]
theorem shP_t {na i nb : Nat} {B : Nat → Prt} (hB : ∀ i, i < nb → partE B i = 0) (hn : nb ≤ 7) (ha : na ≤ 7) (hi : i < nb) (h : decide (0 < (B i).op) = true) : shP na (B i) = ⟨(B i).op, IntKind.i64.wrap ((B i).l + na), IntKind.i64.wrap ((B i).m + na), (B i).p⟩ := by
  have h := of_decide_eq_true h
  unfold shP
  rw [if_pos h]
  rcases part_op (hB i hi) with ⟨p0, _⟩ | ⟨p1, p2, p3, p4, p5⟩
  · omega
  · rw [wrapI (by omega) (by omega), wrapI (by omega) (by omega)]
theorem shP_f {na i : Nat} {B : Nat → Prt} (h : decide (0 < (B i).op) = false) : shP na (B i) = B i := if_neg (of_decide_eq_false h)
theorem good_at : ∀ {L : List Spn}, Good L → ∀ {q : Nat}, q < L.length → OkS (L.getD q spnZ) ∧ (0 < q → key (L.getD (q - 1) spnZ).d ≤ key (L.getD q spnZ).a)
  | [], _, q, h => absurd h (Nat.not_lt_zero q)
  | x :: L, g, 0, _ => ⟨g.1, fun h => absurd h (Nat.lt_irrefl 0)⟩
  | x :: L, g, q + 1, h => by
    have hq : q < L.length := by simp only [List.length_cons] at h; omega
    have ih := good_at g.2.2 hq
    refine ⟨ih.1, fun _ => ?_⟩
    match q, hq, ih with
    | 0, hq, _ => exact g.2.1 _ (mem_getD hq)
    | q + 1, _, ih => exact ih.2 (Nat.succ_pos q)
theorem step_false {L : List Spn} (g : Good L) {q : Nat} (hl : L.length ≤ 32) (h : q < L.length) (e : (fgt (L.getD q spnZ).a (L.getD q spnZ).d || feq (L.getD q spnZ).a (L.getD q spnZ).d || decide (0 < (q : Int)) && fgt (L.getD (IntKind.i64.wrap ((q : Int) - 1)).toNat spnZ).d (L.getD q spnZ).a) = true) : False := by
  obtain ⟨o, c⟩ := good_at g h
  rw [last_ix (by omega), fgt_key o.na o.nd, feq_key o.na o.nd, decide_eq_false (show ¬ key (L.getD q spnZ).d < key (L.getD q spnZ).a by have := o.lt; omega), decide_eq_false (show ¬ key (L.getD q spnZ).a = key (L.getD q spnZ).d by have := o.lt; omega)] at e
  by_cases hq : 0 < q
  · have o' := (good_at g (q := q - 1) (by omega)).1
    rw [fgt_key o'.nd o.na, decide_eq_false (show ¬ key (L.getD q spnZ).a < key (L.getD (q - 1) spnZ).d by have := c hq; omega), Bool.and_false] at e
    cases e
  · rw [decide_eq_false (show ¬ 0 < (q : Int) by omega)] at e
    cases e
theorem topSpans_f : FnOk Try.prog 3 Try.f3 := ⟨Try.func3, by kernel_rfl⟩
theorem topSpans_a (n : Nat) (F : Nat → Int) (m : Nat) (G : Nat → Int) (k op z : Int) (hpre : (∀ j, In64 (F j)) ∧ (∀ j, In64 (G j)) ∧ In64 k ∧ In64 op ∧ In64 z ∧ n ≤ 4000000000000000000 ∧ m ≤ 4000000000000000000) : ACalls Try.prog 3 [ints .i64 n F, ints .i64 m G, .int .i64 k, .int .i64 op, .int .i64 z] (.bool true) := by
  refine acalls_of (inl := hasI (P := Try.prog) [] []) (base [solidOf_k, rayOf_k, pick_k, spans_k, in_k] [] []) 0 topSpans_f (And.intro (by kernel_rfl) ?_)
  obtain ⟨hF, hG, hk, ho, hz, hn, hm⟩ := hpre
  have la := solO_len n F 0
  have lb := solO_len m G 0
  have pa := solO_parts n F 0
  have pb := solO_parts m G 0
  have bk := pickF_bd k 64 (by omega)
  have bo := pickF_bd op 3 (by omega)
  have ba := pickF_bd (rawF n F 0) 3 (by omega)
  have bb := pickF_bd (rawF m G 0) 3 (by omega)
  have w1 : IntKind.i64.wrap (1 + pickF op 3) = 1 + pickF op 3 := wrapI (by omega) (by omega)
  have w2 : IntKind.i64.wrap (((solO n F 0).np : Int) - 1) = ((solO n F 0).np : Int) - 1 := wrapI (by omega) (by omega)
  have w3 : IntKind.i64.wrap ((n : Int) + (m : Int)) = (n : Int) + (m : Int) := wrapI (by omega) (by omega)
  have w4 : IntKind.i64.wrap ((((solO n F 0).np + (solO m G 0).np : Nat) : Int) - 1) = (((solO n F 0).np + (solO m G 0).np : Nat) : Int) - 1 := wrapI (by omega) (by omega)
  have hA := gE_0 (N := (solO n F 0).np) (n := n) (g := partF (solO n F 0).P) (s := pickF (rawF n F 0) 3) (K := pickF k 64) (F := F) (fun _ _ => rfl) (by omega) (by omega) pa
  have hB := gE_0 (N := (solO m G 0).np) (n := n) (g := partF (solO m G 0).P) (s := pickF (rawF m G 0) 3) (K := pickF k 64) (F := F) (fun _ _ => rfl) (by omega) (by omega) pb
  have hC := gE_0 (N := (solO n F 0).np + (solO m G 0).np + 1) (n := n) (s := 0) (K := pickF k 64) (F := F) (fun j hj => whole_cells (na := (solO n F 0).np) (nb := (solO m G 0).np) (A := (solO n F 0).P) (B := (solO m G 0).P) (op := 1 + pickF op 3) hj) (by omega) (by omega) (whole_part la.1 lb.1 (by omega) pa pb)
  dsimp only [rayL] at hA hB hC
  obtain ⟨L, hL⟩ := whole_tab (r := rayR n F (pickF k 64)) (A := (solO n F 0).P) (op := 1 + pickF op 3) la.1 lb.1 (by omega) pb
  have lC := tab_len (wholeP (solO n F 0).np (solO m G 0).np (solO n F 0).P (solO m G 0).P (1 + pickF op 3)) (rayR n F (pickF k 64)) (n := (solO n F 0).np + (solO m G 0).np + 1) (Nat.le_refl _) (by omega) ((solO n F 0).np + (solO m G 0).np)
  have gA := (tab_ok (solO n F 0).P (rayR n F (pickF k 64)) (solO n F 0).np (solO n F 0).np (Nat.le_refl _) ((solO n F 0).np - 1)).1
  have gB := (tab_ok (solO m G 0).P (rayR n F (pickF k 64)) (solO m G 0).np (solO m G 0).np (Nat.le_refl _) ((solO m G 0).np - 1)).1
  have lA := tab_len (solO n F 0).P (rayR n F (pickF k 64)) (n := (solO n F 0).np) (Nat.le_refl _) (by omega) ((solO n F 0).np - 1)
  have lB := tab_len (solO m G 0).P (rayR n F (pickF k 64)) (n := (solO m G 0).np) (Nat.le_refl _) (by omega) ((solO m G 0).np - 1)
  rw [hL] at lC
  rw [Nat.add_sub_cancel, hL] at hC
  clear hL
  generalize tabS (solO n F 0).P (rayR n F (pickF k 64)) (solO n F 0).np ((solO n F 0).np - 1) = LA at *
  generalize tabS (solO m G 0).P (rayR n F (pickF k 64)) (solO m G 0).np ((solO m G 0).np - 1) = LB at *
  have gC := comb_good (L := L) (n := ((solO n F 0).np : Int)) gA gB (op := 1 + pickF op 3) (by omega)
  have cl := fun (t : Nat) (ht : isN t = false) eA eB => comb_law (L := L) (n := ((solO n F 0).np : Int)) (t := t) gA gB ht eA eB (op := 1 + pickF op 3) (by omega)
  generalize combS (1 + pickF op 3) LA (LB.map (shS ((solO n F 0).np : Int))) L = LC at *
  have bz := pickF_bd z 20000 (by omega)
  have tn := t_num (pickF z 20000) (by omega)
  repeat' (first | refine And.intro ?_ ?_ | (with_reducible exact ff_elim) | (with_reducible exact tf_elim) | refine view_flat rfl rfl ?_ | refine view_take (by rfl) rfl ?_ | refine view_drop (by rfl) rfl ?_ | refine view_cell (by rfl) ?_ | refine view_rd (by rfl) rfl ?_ | refine view_rc (by rfl) ?_ | refine view1_c (by rfl) ?_ | refine view1_0 (by rfl) ?_ | refine view_f0 rfl rfl ?_ | refine num_elim ?_ | intro _ | (with_reducible rfl) | ((with_reducible refine lk_t ?_); exact rfl) | ((with_reducible refine pf_t ?_); exact rfl) | refine tell ?_ | exact True.intro | (refine IsT.of ?_; kernel_rfl))
  all_goals (try (refine loop_keep [0, 2, 3, 4, 14, 15, 16, 17] [48, 52] ?_; refine LoopI.mk (PJI (solO m G 0).np) (fun j => [(18, .int .i64 j.k)]) (fun j => [(63, .row [.os 1 16 0 ((solO n F 0).np + j.k), .int .i64 0]), (1, .arr (((solO n F 0).np + j.k) * 16) (partF (joinP (solO n F 0).np (solO n F 0).P (solO m G 0).P)))]) (fun j => (solO m G 0).np - j.k) (⟨0, Nat.zero_le _⟩) (wk_mk [some 63, some 61, some 48, some 52] ?_) (fun ⟨i, hi⟩ => ?_)))
  repeat' (first | refine And.intro ?_ ?_ | (with_reducible exact ff_elim) | (with_reducible exact tf_elim) | refine' stp_mk [some 63, some _, some 48, some 52] ((⟨i + 1, ?_⟩ : PJI (solO m G 0).np)) ?_ ?_ | refine view_flat rfl rfl ?_ | refine view_take (by rfl) rfl ?_ | refine view_drop (by rfl) rfl ?_ | refine view_cell (by rfl) ?_ | refine view_rd (by rfl) rfl ?_ | refine view_rc (by rfl) ?_ | refine view1_c (by rfl) ?_ | refine view1_0 (by rfl) ?_ | refine view_f0 rfl rfl ?_ | refine view_part ?_ | refine num_elim ?_ | intro _ | (with_reducible rfl) | ((with_reducible refine lk_t ?_); exact rfl) | ((with_reducible refine pf_t ?_); exact rfl) | refine tell ?_ | exact True.intro | (refine IsT.of ?_; kernel_rfl))
  all_goals (try (refine loop_keep [3, 4, 21, 23, 25] [] ?_; refine LoopI.mk (PVJ) (fun j => [(27, .int .i64 j.i)]) (fun j => []) (fun j => 32 - j.i) (⟨0, Nat.zero_le _⟩) (wk_mk [] ?_) (fun ⟨q, hq⟩ => ?_)))
  repeat' (first | refine And.intro ?_ ?_ | (with_reducible exact ff_elim) | (with_reducible exact tf_elim) | refine stp_mk [] ((⟨q + 1, ?_⟩ : PVJ)) ?_ ?_ | refine view_flat rfl rfl ?_ | refine view_take (by rfl) rfl ?_ | refine view_drop (by rfl) rfl ?_ | refine view_cell (by rfl) ?_ | refine view_rd (by rfl) rfl ?_ | refine view_rc (by rfl) ?_ | refine view1_c (by rfl) ?_ | refine view1_0 (by rfl) ?_ | refine view_f0 rfl rfl ?_ | refine view1_e (q - 1) (last_ix (n := q) (by omega)) (by rfl) ?_ | refine view_e (q - 1) (last_ix (n := q) (by omega)) (by rfl) rfl ?_ | refine num_elim ?_ | intro _ | (with_reducible rfl) | ((with_reducible refine lk_t ?_); exact rfl) | ((with_reducible refine pf_t ?_); exact rfl) | refine tell ?_ | exact True.intro | (refine IsT.of ?_; kernel_rfl))
  all_goals (try refine Tell.mk ?_)
  all_goals (try dsimp only at *)
  all_goals first | with_reducible rfl | with_reducible exact isI_mk | with_reducible assumption | (with_reducible refine gb_t ?_; with_reducible assumption) | (with_reducible refine gb_f ?_; with_reducible assumption) | skip
  all_goals (try simp only [intF_mk, prtG_part, first_v, first_e, show (Tab.cx.ti 29).size = 16 from rfl, show (Tab.cx.ti 29).bytes = 128 from rfl] at *)
  all_goals (try simp only [Nat.zero_add, w1, w2, w3, gt_iff_lt] at *)
  all_goals (try (have hlt : i < (solO m G 0).np := lt_of (by assumption)))
  all_goals (try (have hge : (solO m G 0).np ≤ i := ge_of (by assumption); obtain rfl : i = (solO m G 0).np := Nat.le_antisymm hi hge))
  all_goals (try simp only [w4, hA.1, hA.2, hB.1, hB.2, hC.1, hC.2, unS_rows] at *)
  all_goals (try (have hql : q < LC.length := lt_of (by assumption)))
  all_goals first | with_reducible rfl | with_reducible assumption | omega | exact first_c _ (by assumption) | exact hF _ | exact hG _ | exact absurd (by assumption) (by decide +kernel : ¬ (_ = true)) | (have q := of_decide_eq_false (by assumption : decide (512 < (n : Int) + (m : Int)) = false); omega) | exact Nat.le_refl 16 | exact join_0 rfl (by assumption) | exact join_s (shP_t pb (by omega) (by omega) hlt (by assumption)) (by assumption) | exact join_s (shP_f (by assumption)) (by assumption) | (rw [wrapI (by omega) (by omega)]; omega) | skip
  all_goals first | rfl | (have q := first_c _ (by assumption); simp only [Nat.zero_add] at q; exact q) | exact (prtG_cells (fun j hj => whole_cells (op := 1 + pickF op 3) hj)).2 _ (by assumption) | exact (show (0 : Int) < ((1 : Nat) : Int) by decide) | (exact (step_false gC lC hql (by assumption)).elim) | (refine Bool.and_eq_true_iff.2 ⟨by with_reducible assumption, ?_⟩; with_reducible refine gb_t ?_; with_reducible assumption) | skip
  all_goals (try (obtain ⟨eA, eB⟩ := Bool.or_eq_false_iff.1 ‹(atB LA _ _ || atB LB _ _) = false›; rw [cl _ tn eA eB]))
  all_goals first | (rw [if_pos (beq_iff_eq.1 ‹(1 + pickF op 3 == 1) = true›)]; exact (beq_self_eq_true _).symm) | (rw [if_neg (beq_eq_false_iff_ne.1 ‹(1 + pickF op 3 == 1) = false›), if_pos (beq_iff_eq.1 ‹(1 + pickF op 3 == 2) = true›)]; exact (beq_self_eq_true _).symm) | (rw [if_neg (beq_eq_false_iff_ne.1 ‹(1 + pickF op 3 == 1) = false›), if_neg (beq_eq_false_iff_ne.1 ‹(1 + pickF op 3 == 2) = false›)]; exact (beq_self_eq_true _).symm) | skip
  all_goals first | (have h := (Bool.and_eq_true_iff.1 ‹(_ && gb (decide (0 < (q : Int))) true) = true›).2; unfold gb at h; simp only [cond_true, beq_iff_eq, decide_eq_true_eq] at h; rw [wrapI (by omega) (by omega)]; omega) | trace_state
end Go.Proofs.Ytgbcnfcgljbbgaa
