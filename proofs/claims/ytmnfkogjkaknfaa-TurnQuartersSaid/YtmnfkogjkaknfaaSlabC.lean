/- Rays, sameness. -/
import Derived.Test.YtmnfkogjkaknfaaSlabB
namespace Go.Proofs.Ytmnfkogjkaknfaa
open Go.RowKit Ev
set_option linter.unusedVariables false
set_option linter.unusedSimpArgs false
set_option maxRecDepth 20000
set_option maxHeartbeats 4000000

def rayV (a b c d e f l : Nat) : Int := bif !(fineB a b c) || (!(fineB d e f) || !(nearB l)) then 1 else
  bif feq d 0 && (feq e 0 && feq f 0) then 2 else
  bif !(feq d (cleanV d) && (feq e (cleanV e) && feq f (cleanV f))) then 1 else bif flt l 0 then 6 else 0
def sameV (a b : Nat) : Bool := bif !(feq a a) || !(feq b b) then !(feq a a) && !(feq b b) else feq a b && (!(feq a 0) || feq (F .quo 4607182418800017408 a) (F .quo 4607182418800017408 b))
theorem same_f : FnOk Try.prog 36 Try.f36 := ⟨Try.func36, by kernel_rfl⟩
theorem same_a (a b : Nat) : ACalls Try.prog 36 [.flt a, .flt b] (.bool (sameV a b)) := by
  refine acalls_of (inl := hasI (P := Try.prog) [] []) (base [] [] []) 0 same_f (And.intro (by kernel_rfl) ?_)
  repeat' (first | refine And.intro ?_ ?_ | (with_reducible exact ff_elim) | (with_reducible exact tf_elim) | intro _ | (with_reducible rfl) | ((with_reducible refine lk_t ?_); exact rfl) | refine tell ?_ | exact True.intro | (refine IsT.of ?_; kernel_rfl))
  all_goals ((try refine Tell.mk ?_); first | with_reducible rfl | ((show (_ : Int) ≤ _); decide) | ((show (_ : Int) < _); decide) | (with_reducible refine gb_t ?_; with_reducible assumption) | with_reducible assumption | (with_reducible refine gb_f ?_; with_reducible assumption) | (simp only [sameV, *, cond_true, cond_false]; done) | ((with_reducible refine ks_t ?_); rfl) | ((with_reducible refine pk_t ?_); rfl) | ((with_reducible refine lk_t ?_); rfl) | ((with_reducible refine okF_t ?_); kernel_rfl) | grind [gb, sameV])
def same_k : Con Try.prog := ⟨36, fun args => match args with | [.flt a, .flt b] => .ok (none) (.bool (sameV a b)) | _ => .no, by
  intro args p r h hp
  split at h
  · cases h; exact same_a _ _
  · cases h⟩
theorem samevec_f : FnOk Try.prog 18 Try.f18 := ⟨Try.func18, by kernel_rfl⟩
theorem samevec_a (a b c d e f : Nat) : ACalls Try.prog 18 [.agg [.flt a, .flt b, .flt c], .agg [.flt d, .flt e, .flt f]] (.bool (sameV a d && (sameV b e && sameV c f))) := by
  refine acalls_of (inl := hasI (P := Try.prog) [] []) (base [same_k] [] []) 0 samevec_f (And.intro (by kernel_rfl) ?_)
  repeat' (first | refine And.intro ?_ ?_ | (with_reducible exact ff_elim) | (with_reducible exact tf_elim) | intro _ | (with_reducible rfl) | ((with_reducible refine lk_t ?_); exact rfl) | refine tell ?_ | exact True.intro | (refine IsT.of ?_; kernel_rfl))
  all_goals ((try refine Tell.mk ?_); first | with_reducible rfl | ((show (_ : Int) ≤ _); decide) | ((show (_ : Int) < _); decide) | (with_reducible refine gb_t ?_; with_reducible assumption) | with_reducible assumption | (with_reducible refine gb_f ?_; with_reducible assumption) | (simp only [gb, *, cond_true, cond_false]; done) | ((with_reducible refine ks_t ?_); rfl) | ((with_reducible refine pk_t ?_); rfl) | ((with_reducible refine lk_t ?_); rfl) | ((with_reducible refine okF_t ?_); kernel_rfl) | grind [gb])
def samevec_k : Con Try.prog := ⟨18, fun args => match args with | [.agg [.flt a, .flt b, .flt c], .agg [.flt d, .flt e, .flt f]] => .ok (none) (.bool (sameV a d && (sameV b e && sameV c f))) | _ => .no, by
  intro args p r h hp
  split at h
  · cases h; exact samevec_a _ _ _ _ _ _
  · cases h⟩
theorem samebox_f : FnOk Try.prog 24 Try.f24 := ⟨Try.func24, by kernel_rfl⟩
theorem samebox_a (a b c d e f a' b' c' d' e' f' : Nat) : ACalls Try.prog 24 [.agg [.flt a, .flt b, .flt c, .flt d, .flt e, .flt f], .agg [.flt a', .flt b', .flt c', .flt d', .flt e', .flt f']] (.bool ((sameV a a' && (sameV b b' && sameV c c')) && (sameV d d' && (sameV e e' && sameV f f')))) := by
  refine acalls_of (inl := hasI (P := Try.prog) [] []) (base [samevec_k] [] []) 0 samebox_f (And.intro (by kernel_rfl) ?_)
  repeat' (first | refine And.intro ?_ ?_ | (with_reducible exact ff_elim) | (with_reducible exact tf_elim) | intro _ | (with_reducible rfl) | ((with_reducible refine lk_t ?_); exact rfl) | refine tell ?_ | exact True.intro | (refine IsT.of ?_; kernel_rfl))
  all_goals ((try refine Tell.mk ?_); first | with_reducible rfl | ((show (_ : Int) ≤ _); decide) | ((show (_ : Int) < _); decide) | (with_reducible refine gb_t ?_; with_reducible assumption) | with_reducible assumption | (with_reducible refine gb_f ?_; with_reducible assumption) | (simp only [gb, *, cond_true, cond_false]; done) | ((with_reducible refine ks_t ?_); rfl) | ((with_reducible refine pk_t ?_); rfl) | ((with_reducible refine lk_t ?_); rfl) | ((with_reducible refine okF_t ?_); kernel_rfl) | grind [gb])
def samebox_k : Con Try.prog := ⟨24, fun args => match args with | [.agg [.flt a, .flt b, .flt c, .flt d, .flt e, .flt f], .agg [.flt a', .flt b', .flt c', .flt d', .flt e', .flt f']] => .ok (none) (.bool ((sameV a a' && (sameV b b' && sameV c c')) && (sameV d d' && (sameV e e' && sameV f f')))) | _ => .no, by
  intro args p r h hp
  split at h
  · cases h; exact samebox_a _ _ _ _ _ _ _ _ _ _ _ _
  · cases h⟩
end Go.Proofs.Ytmnfkogjkaknfaa
