/- Functions with small loops, by the abstract machine. -/
import Derived.Test.YtgbcnfcgljbbgaaSlabA
namespace Go.Proofs.Ytgbcnfcgljbbgaa
open Go.RowKit Ev
set_option linter.unusedVariables false
set_option linter.unusedSimpArgs false
set_option maxRecDepth 20000

theorem axV0 (a b c : Nat) : axV a b c 0 = a := rfl
theorem axV1 (a b c : Nat) : axV a b c 1 = b := rfl
theorem axV2 (a b c : Nat) : axV a b c 2 = c := rfl
def mayV (a b c d e f : Nat) : Int := bif fineB a b c && fineB d e f then (bif fgt a d || fgt b e || fgt c f then 6 else 0) else 1
theorem may_f : FnOk Try.prog 42 Try.f42 := ⟨Try.func42, by kernel_rfl⟩
theorem may_a (a b c d e f : Nat) : ACalls Try.prog 42 [.agg [.flt a, .flt b, .flt c, .flt d, .flt e, .flt f]] (.int .i64 (mayV a b c d e f)) := by
  refine acalls_of (inl := hasI (P := Try.prog) [] []) (base [fine_k] [] []) 0 may_f (And.intro (by kernel_rfl) ?_)
  repeat' (first | refine And.intro ?_ ?_ | (with_reducible exact ff_elim) | (with_reducible exact tf_elim) | intro _ | (with_reducible rfl) | ((with_reducible refine lk_t ?_); exact rfl) | ((with_reducible refine pf_t ?_); exact rfl) | refine tell ?_ | exact True.intro | (refine IsT.of ?_; kernel_rfl))
  all_goals ((try refine Tell.mk ?_); first | with_reducible rfl | ((show (_ : Int) ≤ _); decide) | ((show (_ : Int) < _); decide) | (with_reducible refine gb_t ?_; with_reducible assumption) | with_reducible assumption | (with_reducible refine gb_f ?_; with_reducible assumption) | (simp only [mayV, *, cond_true, cond_false]; done) | ((with_reducible refine ks_t ?_); rfl) | ((with_reducible refine pk_t ?_); rfl) | ((with_reducible refine pf_t ?_); rfl) | ((with_reducible refine lk_t ?_); rfl) | ((with_reducible refine okF_t ?_); kernel_rfl) | grind [gb, mayV])
def may_k : Con Try.prog := ⟨42, fun args => match args with | [.agg [.flt a, .flt b, .flt c, .flt d, .flt e, .flt f]] => .ok (none) (.int .i64 (mayV a b c d e f)) | _ => .no, by
  intro args p r h hp
  split at h
  · cases h; exact may_a _ _ _ _ _ _
  · cases h⟩
def inV (a b c d e f a' b' c' d' e' f' : Nat) : Bool := (flt a' a || feq a' a) && (flt b' b || feq b' b) && (flt c' c || feq c' c) && (flt d d' || feq d d') && (flt e e' || feq e e') && (flt f f' || feq f f')
end Go.Proofs.Ytgbcnfcgljbbgaa
