/- Small functions, by the abstract machine. -/
import Derived.Test.YtijdbaoncnhpdaaEvLoop
import Derived.Test.YtijdbaoncnhpdaaTab
namespace Go.Proofs.Ytijdbaoncnhpdaa
open Go.RowKit Ev
set_option linter.unusedVariables false
set_option linter.unusedSimpArgs false
set_option maxRecDepth 20000

theorem base (l : List (Con Try.prog)) (m : List (Inl Try.prog)) (k : List (MCon Try.prog)) : Base Try.prog Tab.cx (conL l) (inlL m) (mcL k) := ⟨Tab.cx_ok, conL_ok l, by kernel_rfl, inlL_ok m, mcL_ok k⟩
/-- Near: V1. -/
def nearB (x : Nat) : Bool := (fgt x 13920209183539462144 || feq x 13920209183539462144) && (flt x 4696837146684686336 || feq x 4696837146684686336)
def cleanV (x : Nat) : Nat := bif fgt x 13740701229962882445 && flt x 4517329193108106637 then 0 else x
def fineB (a b c : Nat) : Bool := nearB a && nearB b && nearB c
def lessV (a b : Nat) : Nat := bif flt b a then b else a
def moreV (a b : Nat) : Nat := bif fgt b a then b else a
def axV (a b c : Nat) (k : Int) : Nat := bif k == 0 then a else bif k == 1 then b else c
theorem near_f : FnOk Try.prog 22 Try.f22 := ⟨Try.func22, by kernel_rfl⟩
theorem near_a (x : Nat) : ACalls Try.prog 22 [.flt x] (.bool (nearB x)) := by
  refine acalls_of (inl := hasI (P := Try.prog) [] []) (base [] [] []) 0 near_f (And.intro (by kernel_rfl) ?_)
  repeat' (first | refine And.intro ?_ ?_ | (with_reducible exact ff_elim) | (with_reducible exact tf_elim) | intro _ | (with_reducible rfl) | ((with_reducible refine lk_t ?_); exact rfl) | refine tell ?_ | exact True.intro | (refine IsT.of ?_; kernel_rfl))
  all_goals ((try refine Tell.mk ?_); first | with_reducible rfl | ((show (_ : Int) ≤ _); decide) | ((show (_ : Int) < _); decide) | (with_reducible refine gb_t ?_; with_reducible assumption) | with_reducible assumption | (with_reducible refine gb_f ?_; with_reducible assumption) | (simp only [nearB, *, cond_true, cond_false]; done) | ((with_reducible refine ks_t ?_); rfl) | ((with_reducible refine pk_t ?_); rfl) | ((with_reducible refine lk_t ?_); rfl) | ((with_reducible refine okF_t ?_); kernel_rfl) | grind [gb, nearB])
def near_k : Con Try.prog := ⟨22, fun args => match args with | [.flt x] => .ok (none) (.bool (nearB x)) | _ => .no, by
  intro args p r h hp
  split at h
  · cases h; exact near_a _
  · cases h⟩
theorem nearR_f : FnOk Try.prog 32 Try.f32 := ⟨Try.func32, by kernel_rfl⟩
theorem nearR_a (x : Nat) : ACalls Try.prog 32 [.flt x] (.bool (nearB x)) := by
  refine acalls_of (inl := hasI (P := Try.prog) [] []) (base [] [] []) 0 nearR_f (And.intro (by kernel_rfl) ?_)
  repeat' (first | refine And.intro ?_ ?_ | (with_reducible exact ff_elim) | (with_reducible exact tf_elim) | intro _ | (with_reducible rfl) | ((with_reducible refine lk_t ?_); exact rfl) | refine tell ?_ | exact True.intro | (refine IsT.of ?_; kernel_rfl))
  all_goals ((try refine Tell.mk ?_); first | with_reducible rfl | ((show (_ : Int) ≤ _); decide) | ((show (_ : Int) < _); decide) | (with_reducible refine gb_t ?_; with_reducible assumption) | with_reducible assumption | (with_reducible refine gb_f ?_; with_reducible assumption) | (simp only [nearB, *, cond_true, cond_false]; done) | ((with_reducible refine ks_t ?_); rfl) | ((with_reducible refine pk_t ?_); rfl) | ((with_reducible refine lk_t ?_); rfl) | ((with_reducible refine okF_t ?_); kernel_rfl) | grind [gb, nearB])
def nearR_k : Con Try.prog := ⟨32, fun args => match args with | [.flt x] => .ok (none) (.bool (nearB x)) | _ => .no, by
  intro args p r h hp
  split at h
  · cases h; exact nearR_a _
  · cases h⟩
theorem fine_f : FnOk Try.prog 14 Try.f14 := ⟨Try.func14, by kernel_rfl⟩
theorem fine_a (a b c : Nat) : ACalls Try.prog 14 [.agg [.flt a, .flt b, .flt c]] (.bool (fineB a b c)) := by
  refine acalls_of (inl := hasI (P := Try.prog) [] []) (base [near_k] [] []) 0 fine_f (And.intro (by kernel_rfl) ?_)
  repeat' (first | refine And.intro ?_ ?_ | (with_reducible exact ff_elim) | (with_reducible exact tf_elim) | intro _ | (with_reducible rfl) | ((with_reducible refine lk_t ?_); exact rfl) | refine tell ?_ | exact True.intro | (refine IsT.of ?_; kernel_rfl))
  all_goals ((try refine Tell.mk ?_); first | with_reducible rfl | ((show (_ : Int) ≤ _); decide) | ((show (_ : Int) < _); decide) | (with_reducible refine gb_t ?_; with_reducible assumption) | with_reducible assumption | (with_reducible refine gb_f ?_; with_reducible assumption) | (simp only [fineB, *, cond_true, cond_false]; done) | ((with_reducible refine ks_t ?_); rfl) | ((with_reducible refine pk_t ?_); rfl) | ((with_reducible refine lk_t ?_); rfl) | ((with_reducible refine okF_t ?_); kernel_rfl) | grind [gb, fineB])
def fine_k : Con Try.prog := ⟨14, fun args => match args with | [.agg [.flt a, .flt b, .flt c]] => .ok (none) (.bool (fineB a b c)) | _ => .no, by
  intro args p r h hp
  split at h
  · cases h; exact fine_a _ _ _
  · cases h⟩
theorem fineR_f : FnOk Try.prog 18 Try.f18 := ⟨Try.func18, by kernel_rfl⟩
theorem fineR_a (a b c : Nat) : ACalls Try.prog 18 [.agg [.flt a, .flt b, .flt c]] (.bool (fineB a b c)) := by
  refine acalls_of (inl := hasI (P := Try.prog) [] []) (base [nearR_k] [] []) 0 fineR_f (And.intro (by kernel_rfl) ?_)
  repeat' (first | refine And.intro ?_ ?_ | (with_reducible exact ff_elim) | (with_reducible exact tf_elim) | intro _ | (with_reducible rfl) | ((with_reducible refine lk_t ?_); exact rfl) | refine tell ?_ | exact True.intro | (refine IsT.of ?_; kernel_rfl))
  all_goals ((try refine Tell.mk ?_); first | with_reducible rfl | ((show (_ : Int) ≤ _); decide) | ((show (_ : Int) < _); decide) | (with_reducible refine gb_t ?_; with_reducible assumption) | with_reducible assumption | (with_reducible refine gb_f ?_; with_reducible assumption) | (simp only [fineB, *, cond_true, cond_false]; done) | ((with_reducible refine ks_t ?_); rfl) | ((with_reducible refine pk_t ?_); rfl) | ((with_reducible refine lk_t ?_); rfl) | ((with_reducible refine okF_t ?_); kernel_rfl) | grind [gb, fineB])
def fineR_k : Con Try.prog := ⟨18, fun args => match args with | [.agg [.flt a, .flt b, .flt c]] => .ok (none) (.bool (fineB a b c)) | _ => .no, by
  intro args p r h hp
  split at h
  · cases h; exact fineR_a _ _ _
  · cases h⟩
theorem clean_f : FnOk Try.prog 50 Try.f50 := ⟨Try.func50, by kernel_rfl⟩
theorem clean_a (x : Nat) : ACalls Try.prog 50 [.flt x] (.flt (cleanV x)) := by
  refine acalls_of (inl := hasI (P := Try.prog) [] []) (base [] [] []) 0 clean_f (And.intro (by kernel_rfl) ?_)
  repeat' (first | refine And.intro ?_ ?_ | (with_reducible exact ff_elim) | (with_reducible exact tf_elim) | intro _ | (with_reducible rfl) | ((with_reducible refine lk_t ?_); exact rfl) | refine tell ?_ | exact True.intro | (refine IsT.of ?_; kernel_rfl))
  all_goals ((try refine Tell.mk ?_); first | with_reducible rfl | ((show (_ : Int) ≤ _); decide) | ((show (_ : Int) < _); decide) | (with_reducible refine gb_t ?_; with_reducible assumption) | with_reducible assumption | (with_reducible refine gb_f ?_; with_reducible assumption) | (simp only [cleanV, *, cond_true, cond_false]; done) | ((with_reducible refine ks_t ?_); rfl) | ((with_reducible refine pk_t ?_); rfl) | ((with_reducible refine lk_t ?_); rfl) | ((with_reducible refine okF_t ?_); kernel_rfl) | grind [gb, cleanV])
def clean_k : Con Try.prog := ⟨50, fun args => match args with | [.flt x] => .ok (none) (.flt (cleanV x)) | _ => .no, by
  intro args p r h hp
  split at h
  · cases h; exact clean_a _
  · cases h⟩
theorem cleanR_f : FnOk Try.prog 46 Try.f46 := ⟨Try.func46, by kernel_rfl⟩
theorem cleanR_a (x : Nat) : ACalls Try.prog 46 [.flt x] (.flt (cleanV x)) := by
  refine acalls_of (inl := hasI (P := Try.prog) [] []) (base [] [] []) 0 cleanR_f (And.intro (by kernel_rfl) ?_)
  repeat' (first | refine And.intro ?_ ?_ | (with_reducible exact ff_elim) | (with_reducible exact tf_elim) | intro _ | (with_reducible rfl) | ((with_reducible refine lk_t ?_); exact rfl) | refine tell ?_ | exact True.intro | (refine IsT.of ?_; kernel_rfl))
  all_goals ((try refine Tell.mk ?_); first | with_reducible rfl | ((show (_ : Int) ≤ _); decide) | ((show (_ : Int) < _); decide) | (with_reducible refine gb_t ?_; with_reducible assumption) | with_reducible assumption | (with_reducible refine gb_f ?_; with_reducible assumption) | (simp only [cleanV, *, cond_true, cond_false]; done) | ((with_reducible refine ks_t ?_); rfl) | ((with_reducible refine pk_t ?_); rfl) | ((with_reducible refine lk_t ?_); rfl) | ((with_reducible refine okF_t ?_); kernel_rfl) | grind [gb, cleanV])
def cleanR_k : Con Try.prog := ⟨46, fun args => match args with | [.flt x] => .ok (none) (.flt (cleanV x)) | _ => .no, by
  intro args p r h hp
  split at h
  · cases h; exact cleanR_a _
  · cases h⟩
theorem axis_f : FnOk Try.prog 45 Try.f45 := ⟨Try.func45, by kernel_rfl⟩
theorem axis_a (a b c : Nat) (k : Int) : ACalls Try.prog 45 [.agg [.flt a, .flt b, .flt c], .int .i64 k] (.flt (axV a b c k)) := by
  refine acalls_of (inl := hasI (P := Try.prog) [] []) (base [] [] []) 0 axis_f (And.intro (by kernel_rfl) ?_)
  repeat' (first | refine And.intro ?_ ?_ | (with_reducible exact ff_elim) | (with_reducible exact tf_elim) | intro _ | (with_reducible rfl) | ((with_reducible refine lk_t ?_); exact rfl) | refine tell ?_ | exact True.intro | (refine IsT.of ?_; kernel_rfl))
  all_goals ((try refine Tell.mk ?_); first | with_reducible rfl | ((show (_ : Int) ≤ _); decide) | ((show (_ : Int) < _); decide) | (with_reducible refine gb_t ?_; with_reducible assumption) | with_reducible assumption | (with_reducible refine gb_f ?_; with_reducible assumption) | (simp only [axV, *, cond_true, cond_false]; done) | ((with_reducible refine ks_t ?_); rfl) | ((with_reducible refine pk_t ?_); rfl) | ((with_reducible refine lk_t ?_); rfl) | ((with_reducible refine okF_t ?_); kernel_rfl) | grind [gb, axV])
def axis_k : Con Try.prog := ⟨45, fun args => match args with | [.agg [.flt a, .flt b, .flt c], .int .i64 k] => .ok (none) (.flt (axV a b c k)) | _ => .no, by
  intro args p r h hp
  split at h
  · cases h; exact axis_a _ _ _ _
  · cases h⟩
theorem cleanv_f : FnOk Try.prog 30 Try.f30 := ⟨Try.func30, by kernel_rfl⟩
theorem cleanv_a (a b c : Nat) : ACalls Try.prog 30 [.agg [.flt a, .flt b, .flt c]] (.agg [.flt (cleanV a), .flt (cleanV b), .flt (cleanV c)]) := by
  refine acalls_of (inl := hasI (P := Try.prog) [] []) (base [clean_k] [] []) 0 cleanv_f (And.intro (by kernel_rfl) ?_)
  repeat' (first | refine And.intro ?_ ?_ | (with_reducible exact ff_elim) | (with_reducible exact tf_elim) | intro _ | (with_reducible rfl) | ((with_reducible refine lk_t ?_); exact rfl) | refine tell ?_ | exact True.intro | (refine IsT.of ?_; kernel_rfl))
  all_goals ((try refine Tell.mk ?_); first | with_reducible rfl | ((show (_ : Int) ≤ _); decide) | ((show (_ : Int) < _); decide) | (with_reducible refine gb_t ?_; with_reducible assumption) | with_reducible assumption | (with_reducible refine gb_f ?_; with_reducible assumption) | (simp only [gb, *, cond_true, cond_false]; done) | ((with_reducible refine ks_t ?_); rfl) | ((with_reducible refine pk_t ?_); rfl) | ((with_reducible refine lk_t ?_); rfl) | ((with_reducible refine okF_t ?_); kernel_rfl) | grind [gb])
def cleanv_k : Con Try.prog := ⟨30, fun args => match args with | [.agg [.flt a, .flt b, .flt c]] => .ok (none) (.agg [.flt (cleanV a), .flt (cleanV b), .flt (cleanV c)]) | _ => .no, by
  intro args p r h hp
  split at h
  · cases h; exact cleanv_a _ _ _
  · cases h⟩
theorem cleanvR_f : FnOk Try.prog 41 Try.f41 := ⟨Try.func41, by kernel_rfl⟩
theorem cleanvR_a (a b c : Nat) : ACalls Try.prog 41 [.agg [.flt a, .flt b, .flt c]] (.agg [.flt (cleanV a), .flt (cleanV b), .flt (cleanV c)]) := by
  refine acalls_of (inl := hasI (P := Try.prog) [] []) (base [cleanR_k] [] []) 0 cleanvR_f (And.intro (by kernel_rfl) ?_)
  repeat' (first | refine And.intro ?_ ?_ | (with_reducible exact ff_elim) | (with_reducible exact tf_elim) | intro _ | (with_reducible rfl) | ((with_reducible refine lk_t ?_); exact rfl) | refine tell ?_ | exact True.intro | (refine IsT.of ?_; kernel_rfl))
  all_goals ((try refine Tell.mk ?_); first | with_reducible rfl | ((show (_ : Int) ≤ _); decide) | ((show (_ : Int) < _); decide) | (with_reducible refine gb_t ?_; with_reducible assumption) | with_reducible assumption | (with_reducible refine gb_f ?_; with_reducible assumption) | (simp only [gb, *, cond_true, cond_false]; done) | ((with_reducible refine ks_t ?_); rfl) | ((with_reducible refine pk_t ?_); rfl) | ((with_reducible refine lk_t ?_); rfl) | ((with_reducible refine okF_t ?_); kernel_rfl) | grind [gb])
def cleanvR_k : Con Try.prog := ⟨41, fun args => match args with | [.agg [.flt a, .flt b, .flt c]] => .ok (none) (.agg [.flt (cleanV a), .flt (cleanV b), .flt (cleanV c)]) | _ => .no, by
  intro args p r h hp
  split at h
  · cases h; exact cleanvR_a _ _ _
  · cases h⟩
end Go.Proofs.Ytijdbaoncnhpdaa
