/- Rays, sameness. -/
import Derived.Test.YtgbcnfcgljbbgaaSlabB
namespace Go.Proofs.Ytgbcnfcgljbbgaa
open Go.RowKit Ev
set_option linter.unusedVariables false
set_option linter.unusedSimpArgs false
set_option maxRecDepth 20000
set_option maxHeartbeats 4000000

def rayV (a b c d e f l : Nat) : Int := bif !(fineB a b c) || (!(fineB d e f) || !(nearB l)) then 1 else
  bif feq d 0 && (feq e 0 && feq f 0) then 2 else
  bif !(feq d (cleanV d) && (feq e (cleanV e) && feq f (cleanV f))) then 1 else bif flt l 0 then 6 else 0
theorem rayfine_f : FnOk Try.prog 10 Try.f10 := ⟨Try.func10, by kernel_rfl⟩
theorem rayfine_a (a b c d e f l : Nat) : ACalls Try.prog 10 [.agg [.flt a, .flt b, .flt c, .flt d, .flt e, .flt f, .flt l]] (.int .i64 (rayV a b c d e f l)) := by
  refine acalls_of (inl := hasI (P := Try.prog) [] []) (base [fine_k, near_k, cleanv_k] [] []) 0 rayfine_f (And.intro (by kernel_rfl) ?_)
  repeat' (first | refine And.intro ?_ ?_ | (with_reducible exact ff_elim) | (with_reducible exact tf_elim) | intro _ | (with_reducible rfl) | ((with_reducible refine lk_t ?_); exact rfl) | ((with_reducible refine pf_t ?_); exact rfl) | refine tell ?_ | exact True.intro | (refine IsT.of ?_; kernel_rfl))
  all_goals ((try refine Tell.mk ?_); first | with_reducible rfl | ((show (_ : Int) ≤ _); decide) | ((show (_ : Int) < _); decide) | (with_reducible refine gb_t ?_; with_reducible assumption) | with_reducible assumption | (with_reducible refine gb_f ?_; with_reducible assumption) | (simp only [rayV, *, cond_true, cond_false]; done) | ((with_reducible refine ks_t ?_); rfl) | ((with_reducible refine pk_t ?_); rfl) | ((with_reducible refine pf_t ?_); rfl) | ((with_reducible refine lk_t ?_); rfl) | ((with_reducible refine okF_t ?_); kernel_rfl) | grind [gb, rayV])
def rayfine_k : Con Try.prog := ⟨10, fun args => match args with | [.agg [.flt a, .flt b, .flt c, .flt d, .flt e, .flt f, .flt l]] => .ok (none) (.int .i64 (rayV a b c d e f l)) | _ => .no, by
  intro args p r h hp
  split at h
  · cases h; exact rayfine_a _ _ _ _ _ _ _
  · cases h⟩
def sameV (a b : Nat) : Bool := bif !(feq a a) || !(feq b b) then !(feq a a) && !(feq b b) else feq a b && (!(feq a 0) || feq (F .quo 4607182418800017408 a) (F .quo 4607182418800017408 b))
end Go.Proofs.Ytgbcnfcgljbbgaa
