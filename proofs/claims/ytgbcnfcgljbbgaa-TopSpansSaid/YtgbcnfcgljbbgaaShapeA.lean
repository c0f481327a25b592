/- Shapes: which ones may be. -/
import Derived.Test.YtgbcnfcgljbbgaaSlabB
import Derived.Test.YtgbcnfcgljbbgaaSame
import Derived.Test.YtgbcnfcgljbbgaaEvPub
namespace Go.Proofs.Ytgbcnfcgljbbgaa
open Go.RowKit Ev
set_option linter.unusedVariables false
set_option linter.unusedSimpArgs false
set_option maxRecDepth 20000
set_option maxHeartbeats 4000000

/-- The axis of which alone a vector has something. -/
def aloneV (a b c : Nat) : Int := bif !(feq a 0) && (feq b 0 && feq c 0) then 0 else bif feq a 0 && (!(feq b 0) && feq c 0) then 1 else bif feq a 0 && (feq b 0 && !(feq c 0)) then 2 else -1
theorem alone_f : FnOk Try.prog 44 Try.f44 := ⟨Try.func44, by kernel_rfl⟩
theorem alone_a (a b c : Nat) : ACalls Try.prog 44 [.agg [.flt a, .flt b, .flt c]] (.int .i64 (aloneV a b c)) := by
  refine acalls_of (inl := hasI (P := Try.prog) [] []) (base [] [] []) 0 alone_f (And.intro (by kernel_rfl) ?_)
  repeat' (first | refine And.intro ?_ ?_ | (with_reducible exact ff_elim) | (with_reducible exact tf_elim) | intro _ | (with_reducible rfl) | ((with_reducible refine lk_t ?_); exact rfl) | ((with_reducible refine pf_t ?_); exact rfl) | refine tell ?_ | exact True.intro | (refine IsT.of ?_; kernel_rfl))
  all_goals ((try refine Tell.mk ?_); first | with_reducible rfl | ((show (_ : Int) ≤ _); decide) | ((show (_ : Int) < _); decide) | (with_reducible refine gb_t ?_; with_reducible assumption) | with_reducible assumption | (with_reducible refine gb_f ?_; with_reducible assumption) | (simp only [aloneV, *, cond_true, cond_false]; done) | ((with_reducible refine ks_t ?_); rfl) | ((with_reducible refine pk_t ?_); rfl) | ((with_reducible refine pf_t ?_); rfl) | ((with_reducible refine lk_t ?_); rfl) | ((with_reducible refine okF_t ?_); kernel_rfl) | grind [gb, aloneV])
def alone_k : Con Try.prog := ⟨44, fun args => match args with | [.agg [.flt a, .flt b, .flt c]] => .ok (none) (.int .i64 (aloneV a b c)) | _ => .no, by
  intro args p r h hp
  split at h
  · cases h; exact alone_a _ _ _
  · cases h⟩
/-- Nought in one axis. -/
def wo (k j : Int) (x : Nat) : Nat := bif k == j then 0 else x
theorem without_f : FnOk Try.prog 91 Try.f91 := ⟨Try.func91, by kernel_rfl⟩
theorem without_a (a b c : Nat) (k : Int) : ACalls Try.prog 91 [.agg [.flt a, .flt b, .flt c], .int .i64 k] (.agg [.flt (wo k 0 a), .flt (wo k 1 b), .flt (bif k == 0 || k == 1 then c else 0)]) := by
  refine acalls_of (inl := hasI (P := Try.prog) [] []) (base [] [] []) 0 without_f (And.intro (by kernel_rfl) ?_)
  repeat' (first | refine And.intro ?_ ?_ | (with_reducible exact ff_elim) | (with_reducible exact tf_elim) | intro _ | (with_reducible rfl) | ((with_reducible refine lk_t ?_); exact rfl) | ((with_reducible refine pf_t ?_); exact rfl) | refine tell ?_ | exact True.intro | (refine IsT.of ?_; kernel_rfl))
  all_goals ((try refine Tell.mk ?_); first | with_reducible rfl | ((show (_ : Int) ≤ _); decide) | ((show (_ : Int) < _); decide) | (with_reducible refine gb_t ?_; with_reducible assumption) | with_reducible assumption | (with_reducible refine gb_f ?_; with_reducible assumption) | (simp only [wo, *, cond_true, cond_false]; done) | ((with_reducible refine ks_t ?_); rfl) | ((with_reducible refine pk_t ?_); rfl) | ((with_reducible refine pf_t ?_); rfl) | ((with_reducible refine lk_t ?_); rfl) | ((with_reducible refine okF_t ?_); kernel_rfl) | grind [gb, wo])
def without_k : Con Try.prog := ⟨91, fun args => match args with | [.agg [.flt a, .flt b, .flt c], .int .i64 k] => .ok (none) (.agg [.flt (wo k 0 a), .flt (wo k 1 b), .flt (bif k == 0 || k == 1 then c else 0)]) | _ => .no, by
  intro args p r h hp
  split at h
  · cases h; exact without_a _ _ _ _
  · cases h⟩
theorem flat_f : FnOk Try.prog 90 Try.f90 := ⟨Try.func90, by kernel_rfl⟩
theorem flat_a (r : Nat) (k : Int) : ACalls Try.prog 90 [.flt r, .int .i64 k] (.agg [.flt (wo k 0 r), .flt (wo k 1 r), .flt (bif k == 0 || k == 1 then r else 0)]) := by
  refine acalls_of (inl := hasI (P := Try.prog) [] []) (base [without_k] [] []) 0 flat_f (And.intro (by kernel_rfl) ?_)
  repeat' (first | refine And.intro ?_ ?_ | (with_reducible exact ff_elim) | (with_reducible exact tf_elim) | intro _ | (with_reducible rfl) | ((with_reducible refine lk_t ?_); exact rfl) | ((with_reducible refine pf_t ?_); exact rfl) | refine tell ?_ | exact True.intro | (refine IsT.of ?_; kernel_rfl))
  all_goals ((try refine Tell.mk ?_); first | with_reducible rfl | ((show (_ : Int) ≤ _); decide) | ((show (_ : Int) < _); decide) | (with_reducible refine gb_t ?_; with_reducible assumption) | with_reducible assumption | (with_reducible refine gb_f ?_; with_reducible assumption) | (simp only [gb, *, cond_true, cond_false]; done) | ((with_reducible refine ks_t ?_); rfl) | ((with_reducible refine pk_t ?_); rfl) | ((with_reducible refine pf_t ?_); rfl) | ((with_reducible refine lk_t ?_); rfl) | ((with_reducible refine okF_t ?_); kernel_rfl) | grind [gb])
def flat_k : Con Try.prog := ⟨90, fun args => match args with | [.flt r, .int .i64 k] => .ok (none) (.agg [.flt (wo k 0 r), .flt (wo k 1 r), .flt (bif k == 0 || k == 1 then r else 0)]) | _ => .no, by
  intro args p r h hp
  split at h
  · cases h; exact flat_a _ _
  · cases h⟩
theorem about_f : FnOk Try.prog 70 Try.f70 := ⟨Try.func70, by kernel_rfl⟩
theorem about_a (a b c r : Nat) : ACalls Try.prog 70 [.agg [.flt a, .flt b, .flt c], .flt r] (.agg [.flt (F .sub a r), .flt (F .sub b r), .flt (F .sub c r), .flt (F .add a r), .flt (F .add b r), .flt (F .add c r)]) := by
  refine acalls_of (inl := hasI (P := Try.prog) [] []) (base [sub_k, add_k] [] []) 0 about_f (And.intro (by kernel_rfl) ?_)
  repeat' (first | refine And.intro ?_ ?_ | (with_reducible exact ff_elim) | (with_reducible exact tf_elim) | intro _ | (with_reducible rfl) | ((with_reducible refine lk_t ?_); exact rfl) | ((with_reducible refine pf_t ?_); exact rfl) | refine tell ?_ | exact True.intro | (refine IsT.of ?_; kernel_rfl))
  all_goals ((try refine Tell.mk ?_); first | with_reducible rfl | ((show (_ : Int) ≤ _); decide) | ((show (_ : Int) < _); decide) | (with_reducible refine gb_t ?_; with_reducible assumption) | with_reducible assumption | (with_reducible refine gb_f ?_; with_reducible assumption) | (simp only [gb, *, cond_true, cond_false]; done) | ((with_reducible refine ks_t ?_); rfl) | ((with_reducible refine pk_t ?_); rfl) | ((with_reducible refine pf_t ?_); rfl) | ((with_reducible refine lk_t ?_); rfl) | ((with_reducible refine okF_t ?_); kernel_rfl) | grind [gb])
def about_k : Con Try.prog := ⟨70, fun args => match args with | [.agg [.flt a, .flt b, .flt c], .flt r] => .ok (none) (.agg [.flt (F .sub a r), .flt (F .sub b r), .flt (F .sub c r), .flt (F .add a r), .flt (F .add b r), .flt (F .add c r)]) | _ => .no, by
  intro args p r h hp
  split at h
  · cases h; exact about_a _ _ _ _
  · cases h⟩
end Go.Proofs.Ytgbcnfcgljbbgaa
