/- Small functions, by the abstract machine. -/
import Derived.Test.YtgbcnfcgljbbgaaGreatEvLoop
import Derived.Test.YtgbcnfcgljbbgaaGreatTab
namespace Go.Proofs.YtgbcnfcgljbbgaaGreat
open Go.RowKit Ev
set_option linter.unusedVariables false
set_option linter.unusedSimpArgs false
set_option maxRecDepth 20000

theorem base (l : List (Con Tryz.prog)) (m : List (Inl Tryz.prog)) (k : List (MCon Tryz.prog)) : Base Tryz.prog Tab.cx (conW l k) (inlL m) (mcL k) := ⟨Tab.cx_ok, conW_ok l k, by kernel_rfl, inlL_ok m, mcL_ok k⟩
/-- Near: V1. -/
def nearB (x : Nat) : Bool := (fgt x 13920209183539462144 || feq x 13920209183539462144) && (flt x 4696837146684686336 || feq x 4696837146684686336)
def cleanV (x : Nat) : Nat := bif fgt x 13740701229962882445 && flt x 4517329193108106637 then 0 else x
def fineB (a b c : Nat) : Bool := nearB a && nearB b && nearB c
def lessV (a b : Nat) : Nat := bif flt b a then b else a
def moreV (a b : Nat) : Nat := bif fgt b a then b else a
def axV (a b c : Nat) (k : Int) : Nat := bif k == 0 then a else bif k == 1 then b else c
theorem near_f : FnOk Tryz.prog 56 Tryz.f56 := ⟨Tryz.func56, by kernel_rfl⟩
theorem near_a (x : Nat) : ACalls Tryz.prog 56 [.flt x] (.bool (nearB x)) := by
  refine acalls_of (inl := hasI (P := Tryz.prog) [] []) (base [] [] []) 0 near_f (And.intro (by kernel_rfl) ?_)
  repeat' (first | refine And.intro ?_ ?_ | (with_reducible exact ff_elim) | (with_reducible exact tf_elim) | intro _ | (with_reducible rfl) | ((with_reducible refine lk_t ?_); exact rfl) | ((with_reducible refine pf_t ?_); exact rfl) | refine tell ?_ | exact True.intro | (refine IsT.of ?_; kernel_rfl))
  all_goals ((try refine Tell.mk ?_); first | with_reducible rfl | ((show (_ : Int) ≤ _); decide) | ((show (_ : Int) < _); decide) | (with_reducible refine gb_t ?_; with_reducible assumption) | with_reducible assumption | (with_reducible refine gb_f ?_; with_reducible assumption) | (simp only [nearB, *, cond_true, cond_false]; done) | ((with_reducible refine ks_t ?_); rfl) | ((with_reducible refine pk_t ?_); rfl) | ((with_reducible refine pf_t ?_); rfl) | ((with_reducible refine lk_t ?_); rfl) | ((with_reducible refine okF_t ?_); kernel_rfl) | grind [gb, nearB])
def near_k : Con Tryz.prog := ⟨56, fun args => match args with | [.flt x] => .ok (none) (.bool (nearB x)) | _ => .no, by
  intro args p r h hp
  split at h
  · cases h; exact near_a _
  · cases h⟩
theorem nearR_f : FnOk Tryz.prog 51 Tryz.f51 := ⟨Tryz.func51, by kernel_rfl⟩
theorem nearR_a (x : Nat) : ACalls Tryz.prog 51 [.flt x] (.bool (nearB x)) := by
  refine acalls_of (inl := hasI (P := Tryz.prog) [] []) (base [] [] []) 0 nearR_f (And.intro (by kernel_rfl) ?_)
  repeat' (first | refine And.intro ?_ ?_ | (with_reducible exact ff_elim) | (with_reducible exact tf_elim) | intro _ | (with_reducible rfl) | ((with_reducible refine lk_t ?_); exact rfl) | ((with_reducible refine pf_t ?_); exact rfl) | refine tell ?_ | exact True.intro | (refine IsT.of ?_; kernel_rfl))
  all_goals ((try refine Tell.mk ?_); first | with_reducible rfl | ((show (_ : Int) ≤ _); decide) | ((show (_ : Int) < _); decide) | (with_reducible refine gb_t ?_; with_reducible assumption) | with_reducible assumption | (with_reducible refine gb_f ?_; with_reducible assumption) | (simp only [nearB, *, cond_true, cond_false]; done) | ((with_reducible refine ks_t ?_); rfl) | ((with_reducible refine pk_t ?_); rfl) | ((with_reducible refine pf_t ?_); rfl) | ((with_reducible refine lk_t ?_); rfl) | ((with_reducible refine okF_t ?_); kernel_rfl) | grind [gb, nearB])
def nearR_k : Con Tryz.prog := ⟨51, fun args => match args with | [.flt x] => .ok (none) (.bool (nearB x)) | _ => .no, by
  intro args p r h hp
  split at h
  · cases h; exact nearR_a _
  · cases h⟩
theorem fine_f : FnOk Tryz.prog 55 Tryz.f55 := ⟨Tryz.func55, by kernel_rfl⟩
theorem fine_a (a b c : Nat) : ACalls Tryz.prog 55 [.agg [.flt a, .flt b, .flt c]] (.bool (fineB a b c)) := by
  refine acalls_of (inl := hasI (P := Tryz.prog) [] []) (base [near_k] [] []) 0 fine_f (And.intro (by kernel_rfl) ?_)
  repeat' (first | refine And.intro ?_ ?_ | (with_reducible exact ff_elim) | (with_reducible exact tf_elim) | intro _ | (with_reducible rfl) | ((with_reducible refine lk_t ?_); exact rfl) | ((with_reducible refine pf_t ?_); exact rfl) | refine tell ?_ | exact True.intro | (refine IsT.of ?_; kernel_rfl))
  all_goals ((try refine Tell.mk ?_); first | with_reducible rfl | ((show (_ : Int) ≤ _); decide) | ((show (_ : Int) < _); decide) | (with_reducible refine gb_t ?_; with_reducible assumption) | with_reducible assumption | (with_reducible refine gb_f ?_; with_reducible assumption) | (simp only [fineB, *, cond_true, cond_false]; done) | ((with_reducible refine ks_t ?_); rfl) | ((with_reducible refine pk_t ?_); rfl) | ((with_reducible refine pf_t ?_); rfl) | ((with_reducible refine lk_t ?_); rfl) | ((with_reducible refine okF_t ?_); kernel_rfl) | grind [gb, fineB])
def fine_k : Con Tryz.prog := ⟨55, fun args => match args with | [.agg [.flt a, .flt b, .flt c]] => .ok (none) (.bool (fineB a b c)) | _ => .no, by
  intro args p r h hp
  split at h
  · cases h; exact fine_a _ _ _
  · cases h⟩
theorem fineR_f : FnOk Tryz.prog 50 Tryz.f50 := ⟨Tryz.func50, by kernel_rfl⟩
theorem fineR_a (a b c : Nat) : ACalls Tryz.prog 50 [.agg [.flt a, .flt b, .flt c]] (.bool (fineB a b c)) := by
  refine acalls_of (inl := hasI (P := Tryz.prog) [] []) (base [nearR_k] [] []) 0 fineR_f (And.intro (by kernel_rfl) ?_)
  repeat' (first | refine And.intro ?_ ?_ | (with_reducible exact ff_elim) | (with_reducible exact tf_elim) | intro _ | (with_reducible rfl) | ((with_reducible refine lk_t ?_); exact rfl) | ((with_reducible refine pf_t ?_); exact rfl) | refine tell ?_ | exact True.intro | (refine IsT.of ?_; kernel_rfl))
  all_goals ((try refine Tell.mk ?_); first | with_reducible rfl | ((show (_ : Int) ≤ _); decide) | ((show (_ : Int) < _); decide) | (with_reducible refine gb_t ?_; with_reducible assumption) | with_reducible assumption | (with_reducible refine gb_f ?_; with_reducible assumption) | (simp only [fineB, *, cond_true, cond_false]; done) | ((with_reducible refine ks_t ?_); rfl) | ((with_reducible refine pk_t ?_); rfl) | ((with_reducible refine pf_t ?_); rfl) | ((with_reducible refine lk_t ?_); rfl) | ((with_reducible refine okF_t ?_); kernel_rfl) | grind [gb, fineB])
def fineR_k : Con Tryz.prog := ⟨50, fun args => match args with | [.agg [.flt a, .flt b, .flt c]] => .ok (none) (.bool (fineB a b c)) | _ => .no, by
  intro args p r h hp
  split at h
  · cases h; exact fineR_a _ _ _
  · cases h⟩
theorem clean_f : FnOk Tryz.prog 88 Tryz.f88 := ⟨Tryz.func88, by kernel_rfl⟩
theorem clean_a (x : Nat) : ACalls Tryz.prog 88 [.flt x] (.flt (cleanV x)) := by
  refine acalls_of (inl := hasI (P := Tryz.prog) [] []) (base [] [] []) 0 clean_f (And.intro (by kernel_rfl) ?_)
  repeat' (first | refine And.intro ?_ ?_ | (with_reducible exact ff_elim) | (with_reducible exact tf_elim) | intro _ | (with_reducible rfl) | ((with_reducible refine lk_t ?_); exact rfl) | ((with_reducible refine pf_t ?_); exact rfl) | refine tell ?_ | exact True.intro | (refine IsT.of ?_; kernel_rfl))
  all_goals ((try refine Tell.mk ?_); first | with_reducible rfl | ((show (_ : Int) ≤ _); decide) | ((show (_ : Int) < _); decide) | (with_reducible refine gb_t ?_; with_reducible assumption) | with_reducible assumption | (with_reducible refine gb_f ?_; with_reducible assumption) | (simp only [cleanV, *, cond_true, cond_false]; done) | ((with_reducible refine ks_t ?_); rfl) | ((with_reducible refine pk_t ?_); rfl) | ((with_reducible refine pf_t ?_); rfl) | ((with_reducible refine lk_t ?_); rfl) | ((with_reducible refine okF_t ?_); kernel_rfl) | grind [gb, cleanV])
def clean_k : Con Tryz.prog := ⟨88, fun args => match args with | [.flt x] => .ok (none) (.flt (cleanV x)) | _ => .no, by
  intro args p r h hp
  split at h
  · cases h; exact clean_a _
  · cases h⟩
theorem cleanR_f : FnOk Tryz.prog 63 Tryz.f63 := ⟨Tryz.func63, by kernel_rfl⟩
theorem cleanR_a (x : Nat) : ACalls Tryz.prog 63 [.flt x] (.flt (cleanV x)) := by
  refine acalls_of (inl := hasI (P := Tryz.prog) [] []) (base [] [] []) 0 cleanR_f (And.intro (by kernel_rfl) ?_)
  repeat' (first | refine And.intro ?_ ?_ | (with_reducible exact ff_elim) | (with_reducible exact tf_elim) | intro _ | (with_reducible rfl) | ((with_reducible refine lk_t ?_); exact rfl) | ((with_reducible refine pf_t ?_); exact rfl) | refine tell ?_ | exact True.intro | (refine IsT.of ?_; kernel_rfl))
  all_goals ((try refine Tell.mk ?_); first | with_reducible rfl | ((show (_ : Int) ≤ _); decide) | ((show (_ : Int) < _); decide) | (with_reducible refine gb_t ?_; with_reducible assumption) | with_reducible assumption | (with_reducible refine gb_f ?_; with_reducible assumption) | (simp only [cleanV, *, cond_true, cond_false]; done) | ((with_reducible refine ks_t ?_); rfl) | ((with_reducible refine pk_t ?_); rfl) | ((with_reducible refine pf_t ?_); rfl) | ((with_reducible refine lk_t ?_); rfl) | ((with_reducible refine okF_t ?_); kernel_rfl) | grind [gb, cleanV])
def cleanR_k : Con Tryz.prog := ⟨63, fun args => match args with | [.flt x] => .ok (none) (.flt (cleanV x)) | _ => .no, by
  intro args p r h hp
  split at h
  · cases h; exact cleanR_a _
  · cases h⟩
theorem lesser_f : FnOk Tryz.prog 32 Tryz.f32 := ⟨Tryz.func32, by kernel_rfl⟩
theorem lesser_a (a b : Nat) : ACalls Tryz.prog 32 [.flt a, .flt b] (.flt (lessV a b)) := by
  refine acalls_of (inl := hasI (P := Tryz.prog) [] []) (base [] [] []) 0 lesser_f (And.intro (by kernel_rfl) ?_)
  repeat' (first | refine And.intro ?_ ?_ | (with_reducible exact ff_elim) | (with_reducible exact tf_elim) | intro _ | (with_reducible rfl) | ((with_reducible refine lk_t ?_); exact rfl) | ((with_reducible refine pf_t ?_); exact rfl) | refine tell ?_ | exact True.intro | (refine IsT.of ?_; kernel_rfl))
  all_goals ((try refine Tell.mk ?_); first | with_reducible rfl | ((show (_ : Int) ≤ _); decide) | ((show (_ : Int) < _); decide) | (with_reducible refine gb_t ?_; with_reducible assumption) | with_reducible assumption | (with_reducible refine gb_f ?_; with_reducible assumption) | (simp only [lessV, *, cond_true, cond_false]; done) | ((with_reducible refine ks_t ?_); rfl) | ((with_reducible refine pk_t ?_); rfl) | ((with_reducible refine pf_t ?_); rfl) | ((with_reducible refine lk_t ?_); rfl) | ((with_reducible refine okF_t ?_); kernel_rfl) | grind [gb, lessV])
def lesser_k : Con Tryz.prog := ⟨32, fun args => match args with | [.flt a, .flt b] => .ok (none) (.flt (lessV a b)) | _ => .no, by
  intro args p r h hp
  split at h
  · cases h; exact lesser_a _ _
  · cases h⟩
theorem less_f : FnOk Tryz.prog 69 Tryz.f69 := ⟨Tryz.func69, by kernel_rfl⟩
theorem less_a (a b : Nat) : ACalls Tryz.prog 69 [.flt a, .flt b] (.flt (lessV a b)) := by
  refine acalls_of (inl := hasI (P := Tryz.prog) [] []) (base [] [] []) 0 less_f (And.intro (by kernel_rfl) ?_)
  repeat' (first | refine And.intro ?_ ?_ | (with_reducible exact ff_elim) | (with_reducible exact tf_elim) | intro _ | (with_reducible rfl) | ((with_reducible refine lk_t ?_); exact rfl) | ((with_reducible refine pf_t ?_); exact rfl) | refine tell ?_ | exact True.intro | (refine IsT.of ?_; kernel_rfl))
  all_goals ((try refine Tell.mk ?_); first | with_reducible rfl | ((show (_ : Int) ≤ _); decide) | ((show (_ : Int) < _); decide) | (with_reducible refine gb_t ?_; with_reducible assumption) | with_reducible assumption | (with_reducible refine gb_f ?_; with_reducible assumption) | (simp only [lessV, *, cond_true, cond_false]; done) | ((with_reducible refine ks_t ?_); rfl) | ((with_reducible refine pk_t ?_); rfl) | ((with_reducible refine pf_t ?_); rfl) | ((with_reducible refine lk_t ?_); rfl) | ((with_reducible refine okF_t ?_); kernel_rfl) | grind [gb, lessV])
def less_k : Con Tryz.prog := ⟨69, fun args => match args with | [.flt a, .flt b] => .ok (none) (.flt (lessV a b)) | _ => .no, by
  intro args p r h hp
  split at h
  · cases h; exact less_a _ _
  · cases h⟩
theorem greater_f : FnOk Tryz.prog 33 Tryz.f33 := ⟨Tryz.func33, by kernel_rfl⟩
theorem greater_a (a b : Nat) : ACalls Tryz.prog 33 [.flt a, .flt b] (.flt (moreV a b)) := by
  refine acalls_of (inl := hasI (P := Tryz.prog) [] []) (base [] [] []) 0 greater_f (And.intro (by kernel_rfl) ?_)
  repeat' (first | refine And.intro ?_ ?_ | (with_reducible exact ff_elim) | (with_reducible exact tf_elim) | intro _ | (with_reducible rfl) | ((with_reducible refine lk_t ?_); exact rfl) | ((with_reducible refine pf_t ?_); exact rfl) | refine tell ?_ | exact True.intro | (refine IsT.of ?_; kernel_rfl))
  all_goals ((try refine Tell.mk ?_); first | with_reducible rfl | ((show (_ : Int) ≤ _); decide) | ((show (_ : Int) < _); decide) | (with_reducible refine gb_t ?_; with_reducible assumption) | with_reducible assumption | (with_reducible refine gb_f ?_; with_reducible assumption) | (simp only [moreV, *, cond_true, cond_false]; done) | ((with_reducible refine ks_t ?_); rfl) | ((with_reducible refine pk_t ?_); rfl) | ((with_reducible refine pf_t ?_); rfl) | ((with_reducible refine lk_t ?_); rfl) | ((with_reducible refine okF_t ?_); kernel_rfl) | grind [gb, moreV])
def greater_k : Con Tryz.prog := ⟨33, fun args => match args with | [.flt a, .flt b] => .ok (none) (.flt (moreV a b)) | _ => .no, by
  intro args p r h hp
  split at h
  · cases h; exact greater_a _ _
  · cases h⟩
theorem more_f : FnOk Tryz.prog 68 Tryz.f68 := ⟨Tryz.func68, by kernel_rfl⟩
theorem more_a (a b : Nat) : ACalls Tryz.prog 68 [.flt a, .flt b] (.flt (moreV a b)) := by
  refine acalls_of (inl := hasI (P := Tryz.prog) [] []) (base [] [] []) 0 more_f (And.intro (by kernel_rfl) ?_)
  repeat' (first | refine And.intro ?_ ?_ | (with_reducible exact ff_elim) | (with_reducible exact tf_elim) | intro _ | (with_reducible rfl) | ((with_reducible refine lk_t ?_); exact rfl) | ((with_reducible refine pf_t ?_); exact rfl) | refine tell ?_ | exact True.intro | (refine IsT.of ?_; kernel_rfl))
  all_goals ((try refine Tell.mk ?_); first | with_reducible rfl | ((show (_ : Int) ≤ _); decide) | ((show (_ : Int) < _); decide) | (with_reducible refine gb_t ?_; with_reducible assumption) | with_reducible assumption | (with_reducible refine gb_f ?_; with_reducible assumption) | (simp only [moreV, *, cond_true, cond_false]; done) | ((with_reducible refine ks_t ?_); rfl) | ((with_reducible refine pk_t ?_); rfl) | ((with_reducible refine pf_t ?_); rfl) | ((with_reducible refine lk_t ?_); rfl) | ((with_reducible refine okF_t ?_); kernel_rfl) | grind [gb, moreV])
def more_k : Con Tryz.prog := ⟨68, fun args => match args with | [.flt a, .flt b] => .ok (none) (.flt (moreV a b)) | _ => .no, by
  intro args p r h hp
  split at h
  · cases h; exact more_a _ _
  · cases h⟩
theorem axis_f : FnOk Tryz.prog 62 Tryz.f62 := ⟨Tryz.func62, by kernel_rfl⟩
theorem axis_a (a b c : Nat) (k : Int) : ACalls Tryz.prog 62 [.agg [.flt a, .flt b, .flt c], .int .i64 k] (.flt (axV a b c k)) := by
  refine acalls_of (inl := hasI (P := Tryz.prog) [] []) (base [] [] []) 0 axis_f (And.intro (by kernel_rfl) ?_)
  repeat' (first | refine And.intro ?_ ?_ | (with_reducible exact ff_elim) | (with_reducible exact tf_elim) | intro _ | (with_reducible rfl) | ((with_reducible refine lk_t ?_); exact rfl) | ((with_reducible refine pf_t ?_); exact rfl) | refine tell ?_ | exact True.intro | (refine IsT.of ?_; kernel_rfl))
  all_goals ((try refine Tell.mk ?_); first | with_reducible rfl | ((show (_ : Int) ≤ _); decide) | ((show (_ : Int) < _); decide) | (with_reducible refine gb_t ?_; with_reducible assumption) | with_reducible assumption | (with_reducible refine gb_f ?_; with_reducible assumption) | (simp only [axV, *, cond_true, cond_false]; done) | ((with_reducible refine ks_t ?_); rfl) | ((with_reducible refine pk_t ?_); rfl) | ((with_reducible refine pf_t ?_); rfl) | ((with_reducible refine lk_t ?_); rfl) | ((with_reducible refine okF_t ?_); kernel_rfl) | grind [gb, axV])
def axis_k : Con Tryz.prog := ⟨62, fun args => match args with | [.agg [.flt a, .flt b, .flt c], .int .i64 k] => .ok (none) (.flt (axV a b c k)) | _ => .no, by
  intro args p r h hp
  split at h
  · cases h; exact axis_a _ _ _ _
  · cases h⟩
theorem cleanv_f : FnOk Tryz.prog 57 Tryz.f57 := ⟨Tryz.func57, by kernel_rfl⟩
theorem cleanv_a (a b c : Nat) : ACalls Tryz.prog 57 [.agg [.flt a, .flt b, .flt c]] (.agg [.flt (cleanV a), .flt (cleanV b), .flt (cleanV c)]) := by
  refine acalls_of (inl := hasI (P := Tryz.prog) [] []) (base [clean_k] [] []) 0 cleanv_f (And.intro (by kernel_rfl) ?_)
  repeat' (first | refine And.intro ?_ ?_ | (with_reducible exact ff_elim) | (with_reducible exact tf_elim) | intro _ | (with_reducible rfl) | ((with_reducible refine lk_t ?_); exact rfl) | ((with_reducible refine pf_t ?_); exact rfl) | refine tell ?_ | exact True.intro | (refine IsT.of ?_; kernel_rfl))
  all_goals ((try refine Tell.mk ?_); first | with_reducible rfl | ((show (_ : Int) ≤ _); decide) | ((show (_ : Int) < _); decide) | (with_reducible refine gb_t ?_; with_reducible assumption) | with_reducible assumption | (with_reducible refine gb_f ?_; with_reducible assumption) | (simp only [gb, *, cond_true, cond_false]; done) | ((with_reducible refine ks_t ?_); rfl) | ((with_reducible refine pk_t ?_); rfl) | ((with_reducible refine pf_t ?_); rfl) | ((with_reducible refine lk_t ?_); rfl) | ((with_reducible refine okF_t ?_); kernel_rfl) | grind [gb])
def cleanv_k : Con Tryz.prog := ⟨57, fun args => match args with | [.agg [.flt a, .flt b, .flt c]] => .ok (none) (.agg [.flt (cleanV a), .flt (cleanV b), .flt (cleanV c)]) | _ => .no, by
  intro args p r h hp
  split at h
  · cases h; exact cleanv_a _ _ _
  · cases h⟩
theorem low_f : FnOk Tryz.prog 82 Tryz.f82 := ⟨Tryz.func82, by kernel_rfl⟩
theorem low_a (a b c d e f : Nat) : ACalls Tryz.prog 82 [.agg [.flt a, .flt b, .flt c], .agg [.flt d, .flt e, .flt f]] (.agg [.flt (lessV a d), .flt (lessV b e), .flt (lessV c f)]) := by
  refine acalls_of (inl := hasI (P := Tryz.prog) [] []) (base [lesser_k] [] []) 0 low_f (And.intro (by kernel_rfl) ?_)
  repeat' (first | refine And.intro ?_ ?_ | (with_reducible exact ff_elim) | (with_reducible exact tf_elim) | intro _ | (with_reducible rfl) | ((with_reducible refine lk_t ?_); exact rfl) | ((with_reducible refine pf_t ?_); exact rfl) | refine tell ?_ | exact True.intro | (refine IsT.of ?_; kernel_rfl))
  all_goals ((try refine Tell.mk ?_); first | with_reducible rfl | ((show (_ : Int) ≤ _); decide) | ((show (_ : Int) < _); decide) | (with_reducible refine gb_t ?_; with_reducible assumption) | with_reducible assumption | (with_reducible refine gb_f ?_; with_reducible assumption) | (simp only [gb, *, cond_true, cond_false]; done) | ((with_reducible refine ks_t ?_); rfl) | ((with_reducible refine pk_t ?_); rfl) | ((with_reducible refine pf_t ?_); rfl) | ((with_reducible refine lk_t ?_); rfl) | ((with_reducible refine okF_t ?_); kernel_rfl) | grind [gb])
def low_k : Con Tryz.prog := ⟨82, fun args => match args with | [.agg [.flt a, .flt b, .flt c], .agg [.flt d, .flt e, .flt f]] => .ok (none) (.agg [.flt (lessV a d), .flt (lessV b e), .flt (lessV c f)]) | _ => .no, by
  intro args p r h hp
  split at h
  · cases h; exact low_a _ _ _ _ _ _
  · cases h⟩
theorem high_f : FnOk Tryz.prog 83 Tryz.f83 := ⟨Tryz.func83, by kernel_rfl⟩
theorem high_a (a b c d e f : Nat) : ACalls Tryz.prog 83 [.agg [.flt a, .flt b, .flt c], .agg [.flt d, .flt e, .flt f]] (.agg [.flt (moreV a d), .flt (moreV b e), .flt (moreV c f)]) := by
  refine acalls_of (inl := hasI (P := Tryz.prog) [] []) (base [greater_k] [] []) 0 high_f (And.intro (by kernel_rfl) ?_)
  repeat' (first | refine And.intro ?_ ?_ | (with_reducible exact ff_elim) | (with_reducible exact tf_elim) | intro _ | (with_reducible rfl) | ((with_reducible refine lk_t ?_); exact rfl) | ((with_reducible refine pf_t ?_); exact rfl) | refine tell ?_ | exact True.intro | (refine IsT.of ?_; kernel_rfl))
  all_goals ((try refine Tell.mk ?_); first | with_reducible rfl | ((show (_ : Int) ≤ _); decide) | ((show (_ : Int) < _); decide) | (with_reducible refine gb_t ?_; with_reducible assumption) | with_reducible assumption | (with_reducible refine gb_f ?_; with_reducible assumption) | (simp only [gb, *, cond_true, cond_false]; done) | ((with_reducible refine ks_t ?_); rfl) | ((with_reducible refine pk_t ?_); rfl) | ((with_reducible refine pf_t ?_); rfl) | ((with_reducible refine lk_t ?_); rfl) | ((with_reducible refine okF_t ?_); kernel_rfl) | grind [gb])
def high_k : Con Tryz.prog := ⟨83, fun args => match args with | [.agg [.flt a, .flt b, .flt c], .agg [.flt d, .flt e, .flt f]] => .ok (none) (.agg [.flt (moreV a d), .flt (moreV b e), .flt (moreV c f)]) | _ => .no, by
  intro args p r h hp
  split at h
  · cases h; exact high_a _ _ _ _ _ _
  · cases h⟩
theorem lowR_f : FnOk Tryz.prog 85 Tryz.f85 := ⟨Tryz.func85, by kernel_rfl⟩
theorem lowR_a (a b c d e f : Nat) : ACalls Tryz.prog 85 [.agg [.flt a, .flt b, .flt c], .agg [.flt d, .flt e, .flt f]] (.agg [.flt (lessV a d), .flt (lessV b e), .flt (lessV c f)]) := by
  refine acalls_of (inl := hasI (P := Tryz.prog) [] []) (base [less_k] [] []) 0 lowR_f (And.intro (by kernel_rfl) ?_)
  repeat' (first | refine And.intro ?_ ?_ | (with_reducible exact ff_elim) | (with_reducible exact tf_elim) | intro _ | (with_reducible rfl) | ((with_reducible refine lk_t ?_); exact rfl) | ((with_reducible refine pf_t ?_); exact rfl) | refine tell ?_ | exact True.intro | (refine IsT.of ?_; kernel_rfl))
  all_goals ((try refine Tell.mk ?_); first | with_reducible rfl | ((show (_ : Int) ≤ _); decide) | ((show (_ : Int) < _); decide) | (with_reducible refine gb_t ?_; with_reducible assumption) | with_reducible assumption | (with_reducible refine gb_f ?_; with_reducible assumption) | (simp only [gb, *, cond_true, cond_false]; done) | ((with_reducible refine ks_t ?_); rfl) | ((with_reducible refine pk_t ?_); rfl) | ((with_reducible refine pf_t ?_); rfl) | ((with_reducible refine lk_t ?_); rfl) | ((with_reducible refine okF_t ?_); kernel_rfl) | grind [gb])
def lowR_k : Con Tryz.prog := ⟨85, fun args => match args with | [.agg [.flt a, .flt b, .flt c], .agg [.flt d, .flt e, .flt f]] => .ok (none) (.agg [.flt (lessV a d), .flt (lessV b e), .flt (lessV c f)]) | _ => .no, by
  intro args p r h hp
  split at h
  · cases h; exact lowR_a _ _ _ _ _ _
  · cases h⟩
theorem highR_f : FnOk Tryz.prog 86 Tryz.f86 := ⟨Tryz.func86, by kernel_rfl⟩
theorem highR_a (a b c d e f : Nat) : ACalls Tryz.prog 86 [.agg [.flt a, .flt b, .flt c], .agg [.flt d, .flt e, .flt f]] (.agg [.flt (moreV a d), .flt (moreV b e), .flt (moreV c f)]) := by
  refine acalls_of (inl := hasI (P := Tryz.prog) [] []) (base [more_k] [] []) 0 highR_f (And.intro (by kernel_rfl) ?_)
  repeat' (first | refine And.intro ?_ ?_ | (with_reducible exact ff_elim) | (with_reducible exact tf_elim) | intro _ | (with_reducible rfl) | ((with_reducible refine lk_t ?_); exact rfl) | ((with_reducible refine pf_t ?_); exact rfl) | refine tell ?_ | exact True.intro | (refine IsT.of ?_; kernel_rfl))
  all_goals ((try refine Tell.mk ?_); first | with_reducible rfl | ((show (_ : Int) ≤ _); decide) | ((show (_ : Int) < _); decide) | (with_reducible refine gb_t ?_; with_reducible assumption) | with_reducible assumption | (with_reducible refine gb_f ?_; with_reducible assumption) | (simp only [gb, *, cond_true, cond_false]; done) | ((with_reducible refine ks_t ?_); rfl) | ((with_reducible refine pk_t ?_); rfl) | ((with_reducible refine pf_t ?_); rfl) | ((with_reducible refine lk_t ?_); rfl) | ((with_reducible refine okF_t ?_); kernel_rfl) | grind [gb])
def highR_k : Con Tryz.prog := ⟨86, fun args => match args with | [.agg [.flt a, .flt b, .flt c], .agg [.flt d, .flt e, .flt f]] => .ok (none) (.agg [.flt (moreV a d), .flt (moreV b e), .flt (moreV c f)]) | _ => .no, by
  intro args p r h hp
  split at h
  · cases h; exact highR_a _ _ _ _ _ _
  · cases h⟩
theorem join_f : FnOk Tryz.prog 46 Tryz.f46 := ⟨Tryz.func46, by kernel_rfl⟩
theorem join_a (a b c d e f a' b' c' d' e' f' : Nat) : ACalls Tryz.prog 46 [.agg [.flt a, .flt b, .flt c, .flt d, .flt e, .flt f], .agg [.flt a', .flt b', .flt c', .flt d', .flt e', .flt f']] (.agg [.flt (lessV a a'), .flt (lessV b b'), .flt (lessV c c'), .flt (moreV d d'), .flt (moreV e e'), .flt (moreV f f')]) := by
  refine acalls_of (inl := hasI (P := Tryz.prog) [] []) (base [low_k, high_k] [] []) 0 join_f (And.intro (by kernel_rfl) ?_)
  repeat' (first | refine And.intro ?_ ?_ | (with_reducible exact ff_elim) | (with_reducible exact tf_elim) | intro _ | (with_reducible rfl) | ((with_reducible refine lk_t ?_); exact rfl) | ((with_reducible refine pf_t ?_); exact rfl) | refine tell ?_ | exact True.intro | (refine IsT.of ?_; kernel_rfl))
  all_goals ((try refine Tell.mk ?_); first | with_reducible rfl | ((show (_ : Int) ≤ _); decide) | ((show (_ : Int) < _); decide) | (with_reducible refine gb_t ?_; with_reducible assumption) | with_reducible assumption | (with_reducible refine gb_f ?_; with_reducible assumption) | (simp only [gb, *, cond_true, cond_false]; done) | ((with_reducible refine ks_t ?_); rfl) | ((with_reducible refine pk_t ?_); rfl) | ((with_reducible refine pf_t ?_); rfl) | ((with_reducible refine lk_t ?_); rfl) | ((with_reducible refine okF_t ?_); kernel_rfl) | grind [gb])
def join_k : Con Tryz.prog := ⟨46, fun args => match args with | [.agg [.flt a, .flt b, .flt c, .flt d, .flt e, .flt f], .agg [.flt a', .flt b', .flt c', .flt d', .flt e', .flt f']] => .ok (none) (.agg [.flt (lessV a a'), .flt (lessV b b'), .flt (lessV c c'), .flt (moreV d d'), .flt (moreV e e'), .flt (moreV f f')]) | _ => .no, by
  intro args p r h hp
  split at h
  · cases h; exact join_a _ _ _ _ _ _ _ _ _ _ _ _
  · cases h⟩
theorem joinR_f : FnOk Tryz.prog 48 Tryz.f48 := ⟨Tryz.func48, by kernel_rfl⟩
theorem joinR_a (a b c d e f a' b' c' d' e' f' : Nat) : ACalls Tryz.prog 48 [.agg [.flt a, .flt b, .flt c, .flt d, .flt e, .flt f], .agg [.flt a', .flt b', .flt c', .flt d', .flt e', .flt f']] (.agg [.flt (lessV a a'), .flt (lessV b b'), .flt (lessV c c'), .flt (moreV d d'), .flt (moreV e e'), .flt (moreV f f')]) := by
  refine acalls_of (inl := hasI (P := Tryz.prog) [] []) (base [lowR_k, highR_k] [] []) 0 joinR_f (And.intro (by kernel_rfl) ?_)
  repeat' (first | refine And.intro ?_ ?_ | (with_reducible exact ff_elim) | (with_reducible exact tf_elim) | intro _ | (with_reducible rfl) | ((with_reducible refine lk_t ?_); exact rfl) | ((with_reducible refine pf_t ?_); exact rfl) | refine tell ?_ | exact True.intro | (refine IsT.of ?_; kernel_rfl))
  all_goals ((try refine Tell.mk ?_); first | with_reducible rfl | ((show (_ : Int) ≤ _); decide) | ((show (_ : Int) < _); decide) | (with_reducible refine gb_t ?_; with_reducible assumption) | with_reducible assumption | (with_reducible refine gb_f ?_; with_reducible assumption) | (simp only [gb, *, cond_true, cond_false]; done) | ((with_reducible refine ks_t ?_); rfl) | ((with_reducible refine pk_t ?_); rfl) | ((with_reducible refine pf_t ?_); rfl) | ((with_reducible refine lk_t ?_); rfl) | ((with_reducible refine okF_t ?_); kernel_rfl) | grind [gb])
def joinR_k : Con Tryz.prog := ⟨48, fun args => match args with | [.agg [.flt a, .flt b, .flt c, .flt d, .flt e, .flt f], .agg [.flt a', .flt b', .flt c', .flt d', .flt e', .flt f']] => .ok (none) (.agg [.flt (lessV a a'), .flt (lessV b b'), .flt (lessV c c'), .flt (moreV d d'), .flt (moreV e e'), .flt (moreV f f')]) | _ => .no, by
  intro args p r h hp
  split at h
  · cases h; exact joinR_a _ _ _ _ _ _ _ _ _ _ _ _
  · cases h⟩
end Go.Proofs.YtgbcnfcgljbbgaaGreat
