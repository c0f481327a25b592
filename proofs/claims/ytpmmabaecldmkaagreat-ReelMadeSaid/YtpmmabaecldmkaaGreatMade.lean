/- What is made of raw numbers. -/
import Derived.Test.YtpmmabaecldmkaaGreatEvNum
import Derived.Test.YtpmmabaecldmkaaGreatSlabA
namespace Go.Proofs.YtpmmabaecldmkaaGreat
open Go.RowKit Ev
set_option linter.unusedVariables false
set_option linter.unusedSimpArgs false
set_option maxRecDepth 20000
set_option maxHeartbeats 4000000

theorem pick_f : FnOk Tryz.prog 13 Tryz.f13 := ⟨Tryz.func13, by kernel_rfl⟩
theorem pick_a (c n : Int) (hpre : In64 c ∧ 1 ≤ n ∧ n ≤ 4294967296) : ACalls Tryz.prog 13 [.int .i64 c, .int .i64 n] (.int .i64 (pickF c n)) := by
  refine acalls_of (inl := hasI (P := Tryz.prog) [] []) (base [] [] []) 0 pick_f (And.intro (by kernel_rfl) ?_)
  repeat' (first | refine And.intro ?_ ?_ | (with_reducible exact ff_elim) | (with_reducible exact tf_elim) | intro _ | (with_reducible rfl) | ((with_reducible refine lk_t ?_); exact rfl) | ((with_reducible refine pf_t ?_); exact rfl) | refine tell ?_ | exact True.intro | (refine IsT.of ?_; kernel_rfl))
  all_goals obtain ⟨⟨c0, c1⟩, n0, n1⟩ := hpre
  all_goals (try refine Tell.mk ?_)
  all_goals first | with_reducible rfl | (simp only [decide_eq_true_eq, decide_eq_false_iff_not] at *; (iterate 3 (try simp (disch := omega) only [wrapI] at *)); subst_vars; first | omega | (unfold pickF; split <;> first | omega | (rw [Int.tmod_eq_emod_of_nonneg (by omega)]; done) | (rw [Int.tmod_eq_emod_of_nonneg (by omega)]; congr 1; omega)))
def pick_k : Con Tryz.prog := ⟨13, fun args => match args with | [.int .i64 c, .int .i64 n] => .ok (some (In64 c ∧ 1 ≤ n ∧ n ≤ 4294967296)) (.int .i64 (pickF c n)) | _ => .no, by
  intro args p r h hp
  split at h
  · cases h; exact pick_a _ _ hp
  · cases h⟩
theorem raw_f : FnOk Tryz.prog 28 Tryz.f28 := ⟨Tryz.func28, by kernel_rfl⟩
theorem raw_a (n : Nat) (F : Nat → Int) (k : Int) (hpre : 0 ≤ k) : ACalls Tryz.prog 28 [ints .i64 n F, .int .i64 k] (.int .i64 (rawF n F k)) := by
  refine acalls_of (inl := hasI (P := Tryz.prog) [] []) (base [] [] []) 0 raw_f (And.intro (by kernel_rfl) ?_)
  repeat' (first | refine And.intro ?_ ?_ | (with_reducible exact ff_elim) | (with_reducible exact tf_elim) | intro _ | (with_reducible rfl) | ((with_reducible refine lk_t ?_); exact rfl) | ((with_reducible refine pf_t ?_); exact rfl) | refine tell ?_ | exact True.intro | (refine IsT.of ?_; kernel_rfl))
  all_goals (try refine Tell.mk ?_)
  all_goals first | with_reducible rfl | (simp only [beq_iff_eq, beq_eq_false_iff_ne] at *; subst_vars; first | omega | exact Int.tmod_nonneg _ hpre | exact Int.tmod_lt_of_pos _ (by omega) | (unfold rawF; rw [if_pos (by omega)]; done) | (unfold rawF; rw [if_neg (by omega), Int.tmod_eq_emod_of_nonneg hpre, mulN1, Nat.add_zero, Int.toNat_emod hpre (by omega)]; rfl))
def raw_r (n : Nat) (F : Nat → Int) (k : Int) : AV := .int .i64 (rawF n F k)
def raw_p (n : Nat) (F : Nat → Int) (k : Int) : Prop := 0 ≤ k
def raw_k : Con Tryz.prog := ⟨28, fun args => match args with | [.sl n 1 g_F, .int .i64 k] => .ok (some (IsI .i64 g_F ∧ raw_p n (intF g_F) k)) (raw_r n (intF g_F) k) | _ => .no, by
  intro args p r h hp
  split at h
  · cases h; obtain ⟨h_F, hp⟩ := hp; have e_F := h_F.eq; rw [e_F]; exact raw_a _ _ _ hp
  · cases h⟩
def thoF (n : Int) : Nat := F .quo (cn (FloatKind.f64.nearest n)) 4652007308841189376
theorem thousandth_f : FnOk Tryz.prog 29 Tryz.f29 := ⟨Tryz.func29, by kernel_rfl⟩
theorem thousandth_a (n : Int) : ACalls Tryz.prog 29 [.int .i64 n] (.flt (thoF n)) := by
  refine acalls_of (inl := hasI (P := Tryz.prog) [] []) (base [] [] []) 0 thousandth_f (And.intro (by kernel_rfl) ?_)
  repeat' (first | refine And.intro ?_ ?_ | (with_reducible exact ff_elim) | (with_reducible exact tf_elim) | intro _ | (with_reducible rfl) | ((with_reducible refine lk_t ?_); exact rfl) | ((with_reducible refine pf_t ?_); exact rfl) | refine tell ?_ | exact True.intro | (refine IsT.of ?_; kernel_rfl))
  all_goals (try refine Tell.mk ?_)
  all_goals first | with_reducible rfl | with_reducible exact isI_mk | with_reducible assumption | (with_reducible refine gb_t ?_; with_reducible assumption) | (with_reducible refine gb_f ?_; with_reducible assumption) | ((with_reducible refine ks_t ?_); rfl) | ((with_reducible refine pk_t ?_); rfl) | ((with_reducible refine pf_t ?_); rfl) | ((with_reducible refine lk_t ?_); rfl) | ((with_reducible refine okF_t ?_); kernel_rfl) | ((with_reducible refine rawF_in ?_); assumption) | ((try simp only [in64_iff, decide_eq_true_eq, decide_eq_false_iff_not, beq_iff_eq, beq_eq_false_iff_ne, ne_eq, bne_iff_ne, intF_mk, thoF] at *) <;> (iterate 4 (try simp (disch := omega) only [wrapI, wrapU8, wrapU32] at *)) <;> subst_vars <;> (try simp (disch := omega) only [wrapI, wrapU8, wrapU32] at *) <;> (first | with_reducible rfl | omega | (simp only [thoF]; done) | (simp only [thoF]; omega) | (simp [thoF, *]; done) | grind [thoF]))
def thousandth_k : Con Tryz.prog := ⟨29, fun args => match args with | [.int .i64 n] => .ok (none) (.flt (thoF n)) | _ => .no, by
  intro args p r h hp
  split at h
  · cases h; exact thousandth_a _
  · cases h⟩
def milF (c most : Int) : Nat := thoF (pickF c (2 * most + 1) - most)
theorem milli_f : FnOk Tryz.prog 27 Tryz.f27 := ⟨Tryz.func27, by kernel_rfl⟩
theorem milli_a (c most : Int) (hpre : In64 c ∧ 0 ≤ most ∧ most ≤ 1000000) : ACalls Tryz.prog 27 [.int .i64 c, .int .i64 most] (.flt (milF c most)) := by
  refine acalls_of (inl := hasI (P := Tryz.prog) [] []) (base [pick_k, thousandth_k] [] []) 0 milli_f (And.intro (by kernel_rfl) ?_)
  repeat' (first | refine And.intro ?_ ?_ | (with_reducible exact ff_elim) | (with_reducible exact tf_elim) | intro _ | (with_reducible rfl) | ((with_reducible refine lk_t ?_); exact rfl) | ((with_reducible refine pf_t ?_); exact rfl) | refine tell ?_ | exact True.intro | (refine IsT.of ?_; kernel_rfl))
  all_goals have hb := pickF_bd c (2 * most + 1) (by omega)
  all_goals (try refine Tell.mk ?_)
  all_goals first | with_reducible rfl | with_reducible exact isI_mk | with_reducible assumption | (with_reducible refine gb_t ?_; with_reducible assumption) | (with_reducible refine gb_f ?_; with_reducible assumption) | ((with_reducible refine ks_t ?_); rfl) | ((with_reducible refine pk_t ?_); rfl) | ((with_reducible refine pf_t ?_); rfl) | ((with_reducible refine lk_t ?_); rfl) | ((with_reducible refine okF_t ?_); kernel_rfl) | ((with_reducible refine rawF_in ?_); assumption) | ((try simp only [in64_iff, decide_eq_true_eq, decide_eq_false_iff_not, beq_iff_eq, beq_eq_false_iff_ne, ne_eq, bne_iff_ne, intF_mk, milF] at *) <;> (iterate 4 (try simp (disch := omega) only [wrapI, wrapU8, wrapU32] at *)) <;> subst_vars <;> (try simp (disch := omega) only [wrapI, wrapU8, wrapU32] at *) <;> (first | with_reducible rfl | omega | (simp only [milF]; done) | (simp only [milF]; omega) | (simp [milF, *]; done) | grind [milF]))
def milli_k : Con Tryz.prog := ⟨27, fun args => match args with | [.int .i64 c, .int .i64 most] => .ok (some (In64 c ∧ 0 ≤ most ∧ most ≤ 1000000)) (.flt (milF c most)) | _ => .no, by
  intro args p r h hp
  split at h
  · cases h; exact milli_a _ _ hp
  · cases h⟩
theorem vecOf_f : FnOk Tryz.prog 30 Tryz.f30 := ⟨Tryz.func30, by kernel_rfl⟩
theorem vecOf_a (n : Nat) (F : Nat → Int) (k most : Int) (hpre : (∀ j, In64 (F j)) ∧ 0 ≤ most ∧ most ≤ 1000000 ∧ 0 ≤ k ∧ k ≤ 1000000) : ACalls Tryz.prog 30 [ints .i64 n F, .int .i64 k, .int .i64 most] (.agg [.flt (milF (rawF n F k) most), .flt (milF (rawF n F (k + 1)) most), .flt (milF (rawF n F (k + 2)) most)]) := by
  refine acalls_of (inl := hasI (P := Tryz.prog) [] []) (base [raw_k, milli_k] [] []) 0 vecOf_f (And.intro (by kernel_rfl) ?_)
  repeat' (first | refine And.intro ?_ ?_ | (with_reducible exact ff_elim) | (with_reducible exact tf_elim) | intro _ | (with_reducible rfl) | ((with_reducible refine lk_t ?_); exact rfl) | ((with_reducible refine pf_t ?_); exact rfl) | refine tell ?_ | exact True.intro | (refine IsT.of ?_; kernel_rfl))
  all_goals obtain ⟨hF, hpre⟩ := hpre
  all_goals (try refine Tell.mk ?_)
  all_goals first | with_reducible rfl | with_reducible exact isI_mk | with_reducible assumption | (with_reducible refine gb_t ?_; with_reducible assumption) | (with_reducible refine gb_f ?_; with_reducible assumption) | ((with_reducible refine ks_t ?_); rfl) | ((with_reducible refine pk_t ?_); rfl) | ((with_reducible refine pf_t ?_); rfl) | ((with_reducible refine lk_t ?_); rfl) | ((with_reducible refine okF_t ?_); kernel_rfl) | ((with_reducible refine rawF_in ?_); assumption) | ((try simp only [in64_iff, decide_eq_true_eq, decide_eq_false_iff_not, beq_iff_eq, beq_eq_false_iff_ne, ne_eq, bne_iff_ne, intF_mk, raw_p] at *) <;> (iterate 4 (try simp (disch := omega) only [wrapI, wrapU8, wrapU32] at *)) <;> subst_vars <;> (try simp (disch := omega) only [wrapI, wrapU8, wrapU32] at *) <;> (first | with_reducible rfl | omega | (simp only [raw_p]; done) | (simp only [raw_p]; omega) | (simp [raw_p, *]; done) | grind [raw_p]))
def vecOf_r (n : Nat) (F : Nat → Int) (k most : Int) : AV := .agg [.flt (milF (rawF n F k) most), .flt (milF (rawF n F (k + 1)) most), .flt (milF (rawF n F (k + 2)) most)]
def vecOf_p (n : Nat) (F : Nat → Int) (k most : Int) : Prop := (∀ j, In64 (F j)) ∧ 0 ≤ most ∧ most ≤ 1000000 ∧ 0 ≤ k ∧ k ≤ 1000000
def vecOf_k : Con Tryz.prog := ⟨30, fun args => match args with | [.sl n 1 g_F, .int .i64 k, .int .i64 most] => .ok (some (IsI .i64 g_F ∧ vecOf_p n (intF g_F) k most)) (vecOf_r n (intF g_F) k most) | _ => .no, by
  intro args p r h hp
  split at h
  · cases h; obtain ⟨h_F, hp⟩ := hp; have e_F := h_F.eq; rw [e_F]; exact vecOf_a _ _ _ _ hp
  · cases h⟩
theorem nought_f : FnOk Tryz.prog 79 Tryz.f79 := ⟨Tryz.func79, by kernel_rfl⟩
theorem nought_a (a b c : Nat) : ACalls Tryz.prog 79 [.agg [.flt a, .flt b, .flt c]] (.bool (feq a 0 && (feq b 0 && feq c 0))) := by
  refine acalls_of (inl := hasI (P := Tryz.prog) [] []) (base [] [] []) 0 nought_f (And.intro (by kernel_rfl) ?_)
  repeat' (first | refine And.intro ?_ ?_ | (with_reducible exact ff_elim) | (with_reducible exact tf_elim) | intro _ | (with_reducible rfl) | ((with_reducible refine lk_t ?_); exact rfl) | ((with_reducible refine pf_t ?_); exact rfl) | refine tell ?_ | exact True.intro | (refine IsT.of ?_; kernel_rfl))
  all_goals ((try refine Tell.mk ?_); first | with_reducible rfl | ((show (_ : Int) ≤ _); decide) | ((show (_ : Int) < _); decide) | (with_reducible refine gb_t ?_; with_reducible assumption) | with_reducible assumption | (with_reducible refine gb_f ?_; with_reducible assumption) | (simp only [gb, *, cond_true, cond_false]; done) | ((with_reducible refine ks_t ?_); rfl) | ((with_reducible refine pk_t ?_); rfl) | ((with_reducible refine pf_t ?_); rfl) | ((with_reducible refine lk_t ?_); rfl) | ((with_reducible refine okF_t ?_); kernel_rfl) | grind [gb])
def nought_k : Con Tryz.prog := ⟨79, fun args => match args with | [.agg [.flt a, .flt b, .flt c]] => .ok (none) (.bool (feq a 0 && (feq b 0 && feq c 0))) | _ => .no, by
  intro args p r h hp
  split at h
  · cases h; exact nought_a _ _ _
  · cases h⟩
def ryX (n : Nat) (F : Nat → Int) (k : Int) : Nat := bif pickF (rawF n F (k + 7)) 3 == 0 then 0 else milF (rawF n F (k + 3)) 1500
def ryY (n : Nat) (F : Nat → Int) (k : Int) : Nat := bif pickF (rawF n F (k + 8)) 4 == 0 then 0 else milF (rawF n F (k + 4)) 1500
def ryZ (n : Nat) (F : Nat → Int) (k : Int) : Nat := bif feq (ryX n F k) 0 && (feq (ryY n F k) 0 && feq (milF (rawF n F (k + 5)) 1500) 0) then 4607182418800017408 else milF (rawF n F (k + 5)) 1500
end Go.Proofs.YtpmmabaecldmkaaGreat
