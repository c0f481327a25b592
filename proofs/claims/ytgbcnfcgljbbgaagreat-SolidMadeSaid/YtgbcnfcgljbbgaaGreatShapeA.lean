/- Shapes: which ones may be. -/
import Derived.Test.YtgbcnfcgljbbgaaGreatSlabB
import Derived.Test.YtgbcnfcgljbbgaaGreatSame
import Derived.Test.YtgbcnfcgljbbgaaGreatEvPub
namespace Go.Proofs.YtgbcnfcgljbbgaaGreat
open Go.RowKit Ev
set_option linter.unusedVariables false
set_option linter.unusedSimpArgs false
set_option maxRecDepth 20000
set_option maxHeartbeats 4000000

/-- The axis of which alone a vector has something. -/
def aloneV (a b c : Nat) : Int := bif !(feq a 0) && (feq b 0 && feq c 0) then 0 else bif feq a 0 && (!(feq b 0) && feq c 0) then 1 else bif feq a 0 && (feq b 0 && !(feq c 0)) then 2 else -1
theorem alone_f : FnOk Tryz.prog 104 Tryz.f104 := ⟨Tryz.func104, by kernel_rfl⟩
theorem alone_a (a b c : Nat) : ACalls Tryz.prog 104 [.agg [.flt a, .flt b, .flt c]] (.int .i64 (aloneV a b c)) := by
  refine acalls_of (inl := hasI (P := Tryz.prog) [] []) (base [] [] []) 0 alone_f (And.intro (by kernel_rfl) ?_)
  repeat' (first | refine And.intro ?_ ?_ | (with_reducible exact ff_elim) | (with_reducible exact tf_elim) | intro _ | (with_reducible rfl) | ((with_reducible refine lk_t ?_); exact rfl) | ((with_reducible refine pf_t ?_); exact rfl) | refine tell ?_ | exact True.intro | (refine IsT.of ?_; kernel_rfl))
  all_goals ((try refine Tell.mk ?_); first | with_reducible rfl | ((show (_ : Int) ≤ _); decide) | ((show (_ : Int) < _); decide) | (with_reducible refine gb_t ?_; with_reducible assumption) | with_reducible assumption | (with_reducible refine gb_f ?_; with_reducible assumption) | (simp only [aloneV, *, cond_true, cond_false]; done) | ((with_reducible refine ks_t ?_); rfl) | ((with_reducible refine pk_t ?_); rfl) | ((with_reducible refine pf_t ?_); rfl) | ((with_reducible refine lk_t ?_); rfl) | ((with_reducible refine okF_t ?_); kernel_rfl) | grind [gb, aloneV])
def alone_k : Con Tryz.prog := ⟨104, fun args => match args with | [.agg [.flt a, .flt b, .flt c]] => .ok (none) (.int .i64 (aloneV a b c)) | _ => .no, by
  intro args p r h hp
  split at h
  · cases h; exact alone_a _ _ _
  · cases h⟩
theorem axisOf_f : FnOk Tryz.prog 53 Tryz.f53 := ⟨Tryz.func53, by kernel_rfl⟩
theorem axisOf_a (a b c : Nat) : ACalls Tryz.prog 53 [.agg [.flt a, .flt b, .flt c]] (.int .i64 (aloneV a b c)) := by
  refine acalls_of (inl := hasI (P := Tryz.prog) [] []) (base [axis_k] [] []) 0 axisOf_f (And.intro (by kernel_rfl) ?_)
  repeat' (first | refine And.intro ?_ ?_ | refine num_lit 0 (by decide) ?_ | refine num_lit 1 (by decide) ?_ | refine num_lit 2 (by decide) ?_ | refine num_lit 3 (by decide) ?_ | refine num_lit 4 (by decide) ?_ | refine num_lit 5 (by decide) ?_ | refine num_lit 6 (by decide) ?_ | refine num_lit 7 (by decide) ?_ | refine num_lit 8 (by decide) ?_ | refine num_elim ?_ | (with_reducible exact ff_elim) | (with_reducible exact tf_elim) | (intro h; exact absurd h (by decide)) | intro _ | (with_reducible rfl) | refine Or.inl ⟨4, ?_⟩ | refine tell ?_ | exact True.intro | (refine IsT.of ?_; kernel_rfl))
  all_goals ((try refine Tell.mk ?_); first | with_reducible rfl | ((show (_ : Int) ≤ _); decide) | ((show (_ : Int) < _); decide) | (with_reducible refine gb_t ?_; with_reducible assumption) | with_reducible assumption | (with_reducible refine gb_f ?_; with_reducible assumption) | (simp only [aloneV, axV, *, cond_true, cond_false]; done) | ((with_reducible refine ks_t ?_); rfl) | ((with_reducible refine pk_t ?_); rfl) | ((with_reducible refine pf_t ?_); rfl) | ((with_reducible refine lk_t ?_); rfl) | ((with_reducible refine okF_t ?_); kernel_rfl) | grind [gb, aloneV, axV])
def axisOf_k : Con Tryz.prog := ⟨53, fun args => match args with | [.agg [.flt a, .flt b, .flt c]] => .ok (none) (.int .i64 (aloneV a b c)) | _ => .no, by
  intro args p r h hp
  split at h
  · cases h; exact axisOf_a _ _ _
  · cases h⟩
/-- Nought in one axis. -/
def wo (k j : Int) (x : Nat) : Nat := bif k == j then 0 else x
theorem without_f : FnOk Tryz.prog 148 Tryz.f148 := ⟨Tryz.func148, by kernel_rfl⟩
theorem without_a (a b c : Nat) (k : Int) : ACalls Tryz.prog 148 [.agg [.flt a, .flt b, .flt c], .int .i64 k] (.agg [.flt (wo k 0 a), .flt (wo k 1 b), .flt (bif k == 0 || k == 1 then c else 0)]) := by
  refine acalls_of (inl := hasI (P := Tryz.prog) [] []) (base [] [] []) 0 without_f (And.intro (by kernel_rfl) ?_)
  repeat' (first | refine And.intro ?_ ?_ | (with_reducible exact ff_elim) | (with_reducible exact tf_elim) | intro _ | (with_reducible rfl) | ((with_reducible refine lk_t ?_); exact rfl) | ((with_reducible refine pf_t ?_); exact rfl) | refine tell ?_ | exact True.intro | (refine IsT.of ?_; kernel_rfl))
  all_goals ((try refine Tell.mk ?_); first | with_reducible rfl | ((show (_ : Int) ≤ _); decide) | ((show (_ : Int) < _); decide) | (with_reducible refine gb_t ?_; with_reducible assumption) | with_reducible assumption | (with_reducible refine gb_f ?_; with_reducible assumption) | (simp only [wo, *, cond_true, cond_false]; done) | ((with_reducible refine ks_t ?_); rfl) | ((with_reducible refine pk_t ?_); rfl) | ((with_reducible refine pf_t ?_); rfl) | ((with_reducible refine lk_t ?_); rfl) | ((with_reducible refine okF_t ?_); kernel_rfl) | grind [gb, wo])
def without_k : Con Tryz.prog := ⟨148, fun args => match args with | [.agg [.flt a, .flt b, .flt c], .int .i64 k] => .ok (none) (.agg [.flt (wo k 0 a), .flt (wo k 1 b), .flt (bif k == 0 || k == 1 then c else 0)]) | _ => .no, by
  intro args p r h hp
  split at h
  · cases h; exact without_a _ _ _ _
  · cases h⟩
theorem flat_f : FnOk Tryz.prog 147 Tryz.f147 := ⟨Tryz.func147, by kernel_rfl⟩
theorem flat_a (r : Nat) (k : Int) : ACalls Tryz.prog 147 [.flt r, .int .i64 k] (.agg [.flt (wo k 0 r), .flt (wo k 1 r), .flt (bif k == 0 || k == 1 then r else 0)]) := by
  refine acalls_of (inl := hasI (P := Tryz.prog) [] []) (base [without_k] [] []) 0 flat_f (And.intro (by kernel_rfl) ?_)
  repeat' (first | refine And.intro ?_ ?_ | (with_reducible exact ff_elim) | (with_reducible exact tf_elim) | intro _ | (with_reducible rfl) | ((with_reducible refine lk_t ?_); exact rfl) | ((with_reducible refine pf_t ?_); exact rfl) | refine tell ?_ | exact True.intro | (refine IsT.of ?_; kernel_rfl))
  all_goals ((try refine Tell.mk ?_); first | with_reducible rfl | ((show (_ : Int) ≤ _); decide) | ((show (_ : Int) < _); decide) | (with_reducible refine gb_t ?_; with_reducible assumption) | with_reducible assumption | (with_reducible refine gb_f ?_; with_reducible assumption) | (simp only [gb, *, cond_true, cond_false]; done) | ((with_reducible refine ks_t ?_); rfl) | ((with_reducible refine pk_t ?_); rfl) | ((with_reducible refine pf_t ?_); rfl) | ((with_reducible refine lk_t ?_); rfl) | ((with_reducible refine okF_t ?_); kernel_rfl) | grind [gb])
def flat_k : Con Tryz.prog := ⟨147, fun args => match args with | [.flt r, .int .i64 k] => .ok (none) (.agg [.flt (wo k 0 r), .flt (wo k 1 r), .flt (bif k == 0 || k == 1 then r else 0)]) | _ => .no, by
  intro args p r h hp
  split at h
  · cases h; exact flat_a _ _
  · cases h⟩
theorem about_f : FnOk Tryz.prog 128 Tryz.f128 := ⟨Tryz.func128, by kernel_rfl⟩
theorem about_a (a b c r : Nat) : ACalls Tryz.prog 128 [.agg [.flt a, .flt b, .flt c], .flt r] (.agg [.flt (F .sub a r), .flt (F .sub b r), .flt (F .sub c r), .flt (F .add a r), .flt (F .add b r), .flt (F .add c r)]) := by
  refine acalls_of (inl := hasI (P := Tryz.prog) [] []) (base [sub_k, add_k] [] []) 0 about_f (And.intro (by kernel_rfl) ?_)
  repeat' (first | refine And.intro ?_ ?_ | (with_reducible exact ff_elim) | (with_reducible exact tf_elim) | intro _ | (with_reducible rfl) | ((with_reducible refine lk_t ?_); exact rfl) | ((with_reducible refine pf_t ?_); exact rfl) | refine tell ?_ | exact True.intro | (refine IsT.of ?_; kernel_rfl))
  all_goals ((try refine Tell.mk ?_); first | with_reducible rfl | ((show (_ : Int) ≤ _); decide) | ((show (_ : Int) < _); decide) | (with_reducible refine gb_t ?_; with_reducible assumption) | with_reducible assumption | (with_reducible refine gb_f ?_; with_reducible assumption) | (simp only [gb, *, cond_true, cond_false]; done) | ((with_reducible refine ks_t ?_); rfl) | ((with_reducible refine pk_t ?_); rfl) | ((with_reducible refine pf_t ?_); rfl) | ((with_reducible refine lk_t ?_); rfl) | ((with_reducible refine okF_t ?_); kernel_rfl) | grind [gb])
def about_k : Con Tryz.prog := ⟨128, fun args => match args with | [.agg [.flt a, .flt b, .flt c], .flt r] => .ok (none) (.agg [.flt (F .sub a r), .flt (F .sub b r), .flt (F .sub c r), .flt (F .add a r), .flt (F .add b r), .flt (F .add c r)]) | _ => .no, by
  intro args p r h hp
  split at h
  · cases h; exact about_a _ _ _ _
  · cases h⟩
end Go.Proofs.YtgbcnfcgljbbgaaGreat
