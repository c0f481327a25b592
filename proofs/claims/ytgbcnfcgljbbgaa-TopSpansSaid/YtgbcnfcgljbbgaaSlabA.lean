/- Small functions, by the abstract machine. -/
import Derived.Test.YtgbcnfcgljbbgaaEvLoop
import Derived.Test.YtgbcnfcgljbbgaaTab
namespace Go.Proofs.Ytgbcnfcgljbbgaa
open Go.RowKit Ev
set_option linter.unusedVariables false
set_option linter.unusedSimpArgs false
set_option maxRecDepth 20000

theorem base (l : List (Con Try.prog)) (m : List (Inl Try.prog)) (k : List (MCon Try.prog)) : Base Try.prog Tab.cx (conW l k) (inlL m) (mcL k) := ⟨Tab.cx_ok, conW_ok l k, by kernel_rfl, inlL_ok m, mcL_ok k⟩
/-- Near: V1. -/
def nearB (x : Nat) : Bool := (fgt x 13920209183539462144 || feq x 13920209183539462144) && (flt x 4696837146684686336 || feq x 4696837146684686336)
def cleanV (x : Nat) : Nat := bif fgt x 13740701229962882445 && flt x 4517329193108106637 then 0 else x
def fineB (a b c : Nat) : Bool := nearB a && nearB b && nearB c
def lessV (a b : Nat) : Nat := bif flt b a then b else a
def moreV (a b : Nat) : Nat := bif fgt b a then b else a
def axV (a b c : Nat) (k : Int) : Nat := bif k == 0 then a else bif k == 1 then b else c
theorem near_f : FnOk Try.prog 19 Try.f19 := ⟨Try.func19, by kernel_rfl⟩
theorem near_a (x : Nat) : ACalls Try.prog 19 [.flt x] (.bool (nearB x)) := by
  refine acalls_of (inl := hasI (P := Try.prog) [] []) (base [] [] []) 0 near_f (And.intro (by kernel_rfl) ?_)
  repeat' (first | refine And.intro ?_ ?_ | (with_reducible exact ff_elim) | (with_reducible exact tf_elim) | intro _ | (with_reducible rfl) | ((with_reducible refine lk_t ?_); exact rfl) | ((with_reducible refine pf_t ?_); exact rfl) | refine tell ?_ | exact True.intro | (refine IsT.of ?_; kernel_rfl))
  all_goals ((try refine Tell.mk ?_); first | with_reducible rfl | ((show (_ : Int) ≤ _); decide) | ((show (_ : Int) < _); decide) | (with_reducible refine gb_t ?_; with_reducible assumption) | with_reducible assumption | (with_reducible refine gb_f ?_; with_reducible assumption) | (simp only [nearB, *, cond_true, cond_false]; done) | ((with_reducible refine ks_t ?_); rfl) | ((with_reducible refine pk_t ?_); rfl) | ((with_reducible refine pf_t ?_); rfl) | ((with_reducible refine lk_t ?_); rfl) | ((with_reducible refine okF_t ?_); kernel_rfl) | grind [gb, nearB])
def near_k : Con Try.prog := ⟨19, fun args => match args with | [.flt x] => .ok (none) (.bool (nearB x)) | _ => .no, by
  intro args p r h hp
  split at h
  · cases h; exact near_a _
  · cases h⟩
theorem fine_f : FnOk Try.prog 18 Try.f18 := ⟨Try.func18, by kernel_rfl⟩
theorem fine_a (a b c : Nat) : ACalls Try.prog 18 [.agg [.flt a, .flt b, .flt c]] (.bool (fineB a b c)) := by
  refine acalls_of (inl := hasI (P := Try.prog) [] []) (base [near_k] [] []) 0 fine_f (And.intro (by kernel_rfl) ?_)
  repeat' (first | refine And.intro ?_ ?_ | (with_reducible exact ff_elim) | (with_reducible exact tf_elim) | intro _ | (with_reducible rfl) | ((with_reducible refine lk_t ?_); exact rfl) | ((with_reducible refine pf_t ?_); exact rfl) | refine tell ?_ | exact True.intro | (refine IsT.of ?_; kernel_rfl))
  all_goals ((try refine Tell.mk ?_); first | with_reducible rfl | ((show (_ : Int) ≤ _); decide) | ((show (_ : Int) < _); decide) | (with_reducible refine gb_t ?_; with_reducible assumption) | with_reducible assumption | (with_reducible refine gb_f ?_; with_reducible assumption) | (simp only [fineB, *, cond_true, cond_false]; done) | ((with_reducible refine ks_t ?_); rfl) | ((with_reducible refine pk_t ?_); rfl) | ((with_reducible refine pf_t ?_); rfl) | ((with_reducible refine lk_t ?_); rfl) | ((with_reducible refine okF_t ?_); kernel_rfl) | grind [gb, fineB])
def fine_k : Con Try.prog := ⟨18, fun args => match args with | [.agg [.flt a, .flt b, .flt c]] => .ok (none) (.bool (fineB a b c)) | _ => .no, by
  intro args p r h hp
  split at h
  · cases h; exact fine_a _ _ _
  · cases h⟩
theorem clean_f : FnOk Try.prog 31 Try.f31 := ⟨Try.func31, by kernel_rfl⟩
theorem clean_a (x : Nat) : ACalls Try.prog 31 [.flt x] (.flt (cleanV x)) := by
  refine acalls_of (inl := hasI (P := Try.prog) [] []) (base [] [] []) 0 clean_f (And.intro (by kernel_rfl) ?_)
  repeat' (first | refine And.intro ?_ ?_ | (with_reducible exact ff_elim) | (with_reducible exact tf_elim) | intro _ | (with_reducible rfl) | ((with_reducible refine lk_t ?_); exact rfl) | ((with_reducible refine pf_t ?_); exact rfl) | refine tell ?_ | exact True.intro | (refine IsT.of ?_; kernel_rfl))
  all_goals ((try refine Tell.mk ?_); first | with_reducible rfl | ((show (_ : Int) ≤ _); decide) | ((show (_ : Int) < _); decide) | (with_reducible refine gb_t ?_; with_reducible assumption) | with_reducible assumption | (with_reducible refine gb_f ?_; with_reducible assumption) | (simp only [cleanV, *, cond_true, cond_false]; done) | ((with_reducible refine ks_t ?_); rfl) | ((with_reducible refine pk_t ?_); rfl) | ((with_reducible refine pf_t ?_); rfl) | ((with_reducible refine lk_t ?_); rfl) | ((with_reducible refine okF_t ?_); kernel_rfl) | grind [gb, cleanV])
def clean_k : Con Try.prog := ⟨31, fun args => match args with | [.flt x] => .ok (none) (.flt (cleanV x)) | _ => .no, by
  intro args p r h hp
  split at h
  · cases h; exact clean_a _
  · cases h⟩
theorem lesser_f : FnOk Try.prog 39 Try.f39 := ⟨Try.func39, by kernel_rfl⟩
theorem lesser_a (a b : Nat) : ACalls Try.prog 39 [.flt a, .flt b] (.flt (lessV a b)) := by
  refine acalls_of (inl := hasI (P := Try.prog) [] []) (base [] [] []) 0 lesser_f (And.intro (by kernel_rfl) ?_)
  repeat' (first | refine And.intro ?_ ?_ | (with_reducible exact ff_elim) | (with_reducible exact tf_elim) | intro _ | (with_reducible rfl) | ((with_reducible refine lk_t ?_); exact rfl) | ((with_reducible refine pf_t ?_); exact rfl) | refine tell ?_ | exact True.intro | (refine IsT.of ?_; kernel_rfl))
  all_goals ((try refine Tell.mk ?_); first | with_reducible rfl | ((show (_ : Int) ≤ _); decide) | ((show (_ : Int) < _); decide) | (with_reducible refine gb_t ?_; with_reducible assumption) | with_reducible assumption | (with_reducible refine gb_f ?_; with_reducible assumption) | (simp only [lessV, *, cond_true, cond_false]; done) | ((with_reducible refine ks_t ?_); rfl) | ((with_reducible refine pk_t ?_); rfl) | ((with_reducible refine pf_t ?_); rfl) | ((with_reducible refine lk_t ?_); rfl) | ((with_reducible refine okF_t ?_); kernel_rfl) | grind [gb, lessV])
def lesser_k : Con Try.prog := ⟨39, fun args => match args with | [.flt a, .flt b] => .ok (none) (.flt (lessV a b)) | _ => .no, by
  intro args p r h hp
  split at h
  · cases h; exact lesser_a _ _
  · cases h⟩
theorem greater_f : FnOk Try.prog 40 Try.f40 := ⟨Try.func40, by kernel_rfl⟩
theorem greater_a (a b : Nat) : ACalls Try.prog 40 [.flt a, .flt b] (.flt (moreV a b)) := by
  refine acalls_of (inl := hasI (P := Try.prog) [] []) (base [] [] []) 0 greater_f (And.intro (by kernel_rfl) ?_)
  repeat' (first | refine And.intro ?_ ?_ | (with_reducible exact ff_elim) | (with_reducible exact tf_elim) | intro _ | (with_reducible rfl) | ((with_reducible refine lk_t ?_); exact rfl) | ((with_reducible refine pf_t ?_); exact rfl) | refine tell ?_ | exact True.intro | (refine IsT.of ?_; kernel_rfl))
  all_goals ((try refine Tell.mk ?_); first | with_reducible rfl | ((show (_ : Int) ≤ _); decide) | ((show (_ : Int) < _); decide) | (with_reducible refine gb_t ?_; with_reducible assumption) | with_reducible assumption | (with_reducible refine gb_f ?_; with_reducible assumption) | (simp only [moreV, *, cond_true, cond_false]; done) | ((with_reducible refine ks_t ?_); rfl) | ((with_reducible refine pk_t ?_); rfl) | ((with_reducible refine pf_t ?_); rfl) | ((with_reducible refine lk_t ?_); rfl) | ((with_reducible refine okF_t ?_); kernel_rfl) | grind [gb, moreV])
def greater_k : Con Try.prog := ⟨40, fun args => match args with | [.flt a, .flt b] => .ok (none) (.flt (moreV a b)) | _ => .no, by
  intro args p r h hp
  split at h
  · cases h; exact greater_a _ _
  · cases h⟩
theorem cleanv_f : FnOk Try.prog 20 Try.f20 := ⟨Try.func20, by kernel_rfl⟩
theorem cleanv_a (a b c : Nat) : ACalls Try.prog 20 [.agg [.flt a, .flt b, .flt c]] (.agg [.flt (cleanV a), .flt (cleanV b), .flt (cleanV c)]) := by
  refine acalls_of (inl := hasI (P := Try.prog) [] []) (base [clean_k] [] []) 0 cleanv_f (And.intro (by kernel_rfl) ?_)
  repeat' (first | refine And.intro ?_ ?_ | (with_reducible exact ff_elim) | (with_reducible exact tf_elim) | intro _ | (with_reducible rfl) | ((with_reducible refine lk_t ?_); exact rfl) | ((with_reducible refine pf_t ?_); exact rfl) | refine tell ?_ | exact True.intro | (refine IsT.of ?_; kernel_rfl))
  all_goals ((try refine Tell.mk ?_); first | with_reducible rfl | ((show (_ : Int) ≤ _); decide) | ((show (_ : Int) < _); decide) | (with_reducible refine gb_t ?_; with_reducible assumption) | with_reducible assumption | (with_reducible refine gb_f ?_; with_reducible assumption) | (simp only [gb, *, cond_true, cond_false]; done) | ((with_reducible refine ks_t ?_); rfl) | ((with_reducible refine pk_t ?_); rfl) | ((with_reducible refine pf_t ?_); rfl) | ((with_reducible refine lk_t ?_); rfl) | ((with_reducible refine okF_t ?_); kernel_rfl) | grind [gb])
def cleanv_k : Con Try.prog := ⟨20, fun args => match args with | [.agg [.flt a, .flt b, .flt c]] => .ok (none) (.agg [.flt (cleanV a), .flt (cleanV b), .flt (cleanV c)]) | _ => .no, by
  intro args p r h hp
  split at h
  · cases h; exact cleanv_a _ _ _
  · cases h⟩
theorem low_f : FnOk Try.prog 81 Try.f81 := ⟨Try.func81, by kernel_rfl⟩
theorem low_a (a b c d e f : Nat) : ACalls Try.prog 81 [.agg [.flt a, .flt b, .flt c], .agg [.flt d, .flt e, .flt f]] (.agg [.flt (lessV a d), .flt (lessV b e), .flt (lessV c f)]) := by
  refine acalls_of (inl := hasI (P := Try.prog) [] []) (base [lesser_k] [] []) 0 low_f (And.intro (by kernel_rfl) ?_)
  repeat' (first | refine And.intro ?_ ?_ | (with_reducible exact ff_elim) | (with_reducible exact tf_elim) | intro _ | (with_reducible rfl) | ((with_reducible refine lk_t ?_); exact rfl) | ((with_reducible refine pf_t ?_); exact rfl) | refine tell ?_ | exact True.intro | (refine IsT.of ?_; kernel_rfl))
  all_goals ((try refine Tell.mk ?_); first | with_reducible rfl | ((show (_ : Int) ≤ _); decide) | ((show (_ : Int) < _); decide) | (with_reducible refine gb_t ?_; with_reducible assumption) | with_reducible assumption | (with_reducible refine gb_f ?_; with_reducible assumption) | (simp only [gb, *, cond_true, cond_false]; done) | ((with_reducible refine ks_t ?_); rfl) | ((with_reducible refine pk_t ?_); rfl) | ((with_reducible refine pf_t ?_); rfl) | ((with_reducible refine lk_t ?_); rfl) | ((with_reducible refine okF_t ?_); kernel_rfl) | grind [gb])
def low_k : Con Try.prog := ⟨81, fun args => match args with | [.agg [.flt a, .flt b, .flt c], .agg [.flt d, .flt e, .flt f]] => .ok (none) (.agg [.flt (lessV a d), .flt (lessV b e), .flt (lessV c f)]) | _ => .no, by
  intro args p r h hp
  split at h
  · cases h; exact low_a _ _ _ _ _ _
  · cases h⟩
theorem high_f : FnOk Try.prog 82 Try.f82 := ⟨Try.func82, by kernel_rfl⟩
theorem high_a (a b c d e f : Nat) : ACalls Try.prog 82 [.agg [.flt a, .flt b, .flt c], .agg [.flt d, .flt e, .flt f]] (.agg [.flt (moreV a d), .flt (moreV b e), .flt (moreV c f)]) := by
  refine acalls_of (inl := hasI (P := Try.prog) [] []) (base [greater_k] [] []) 0 high_f (And.intro (by kernel_rfl) ?_)
  repeat' (first | refine And.intro ?_ ?_ | (with_reducible exact ff_elim) | (with_reducible exact tf_elim) | intro _ | (with_reducible rfl) | ((with_reducible refine lk_t ?_); exact rfl) | ((with_reducible refine pf_t ?_); exact rfl) | refine tell ?_ | exact True.intro | (refine IsT.of ?_; kernel_rfl))
  all_goals ((try refine Tell.mk ?_); first | with_reducible rfl | ((show (_ : Int) ≤ _); decide) | ((show (_ : Int) < _); decide) | (with_reducible refine gb_t ?_; with_reducible assumption) | with_reducible assumption | (with_reducible refine gb_f ?_; with_reducible assumption) | (simp only [gb, *, cond_true, cond_false]; done) | ((with_reducible refine ks_t ?_); rfl) | ((with_reducible refine pk_t ?_); rfl) | ((with_reducible refine pf_t ?_); rfl) | ((with_reducible refine lk_t ?_); rfl) | ((with_reducible refine okF_t ?_); kernel_rfl) | grind [gb])
def high_k : Con Try.prog := ⟨82, fun args => match args with | [.agg [.flt a, .flt b, .flt c], .agg [.flt d, .flt e, .flt f]] => .ok (none) (.agg [.flt (moreV a d), .flt (moreV b e), .flt (moreV c f)]) | _ => .no, by
  intro args p r h hp
  split at h
  · cases h; exact high_a _ _ _ _ _ _
  · cases h⟩
end Go.Proofs.Ytgbcnfcgljbbgaa
