/- Meets. -/
import Derived.Test.YtgbcnfcgljbbgaaSlabD
namespace Go.Proofs.Ytgbcnfcgljbbgaa
open Go.RowKit Ev
set_option linter.unusedVariables false
set_option linter.unusedSimpArgs false
set_option maxRecDepth 20000
set_option maxHeartbeats 4000000

def meetN (a b c d e f p q r u v w l : Nat) : Nat := cutN (cutN (cutN l a d p u) b e q v) c f r w
def meetF (a b c d e f p q r u v w : Nat) : Nat := cutF (cutF (cutF 4786511204640096256 a d p u) b e q v) c f r w
def meetO (a b c d e f p q r u v w : Nat) : Bool := cutO (cutO (cutO true a d p u) b e q v) c f r w
def meetC (a b c d e f p q r u v w l : Nat) : Bool := (mayV a b c d e f != 0) || (rayV p q r u v w l != 0)
def meetD (a b c d e f p q r u v w l : Nat) : Bool := !(meetO a b c d e f p q r u v w) || fgt (meetN a b c d e f p q r u v w l) (meetF a b c d e f p q r u v w)
def meetB (a b c d e f p q r u v w l : Nat) : Bool := bif meetC a b c d e f p q r u v w l then false else bif meetD a b c d e f p q r u v w l then false else true
def meetX (a b c d e f p q r u v w l : Nat) : Nat := bif meetC a b c d e f p q r u v w l then 0 else bif meetD a b c d e f p q r u v w l then 0 else meetN a b c d e f p q r u v w l
def meetY (a b c d e f p q r u v w l : Nat) : Nat := bif meetC a b c d e f p q r u v w l then 0 else bif meetD a b c d e f p q r u v w l then 0 else meetF a b c d e f p q r u v w
theorem meets_f : FnOk Try.prog 38 Try.f38 := ⟨Try.func38, by kernel_rfl⟩
theorem meets_a (a b c d e f p q r u v w l : Nat) : ACalls Try.prog 38 [.agg [.flt a, .flt b, .flt c, .flt d, .flt e, .flt f], .agg [.flt p, .flt q, .flt r, .flt u, .flt v, .flt w, .flt l]] (.tup [.flt (meetX a b c d e f p q r u v w l), .flt (meetY a b c d e f p q r u v w l), .bool (meetB a b c d e f p q r u v w l)]) := by
  refine acalls_of (inl := hasI (P := Try.prog) [] [cut_m]) (base [may_k, rayfine_k] [] [cut_m]) 0 meets_f (And.intro (by kernel_rfl) ?_)
  repeat' (first | refine And.intro ?_ ?_ | (with_reducible exact ff_elim) | (with_reducible exact tf_elim) | intro _ | (with_reducible rfl) | ((with_reducible refine lk_t ?_); exact rfl) | ((with_reducible refine pf_t ?_); exact rfl) | refine tell ?_ | exact True.intro | (refine IsT.of ?_; kernel_rfl))
  all_goals ((try refine Tell.mk ?_); first | with_reducible rfl | ((show (_ : Int) ≤ _); decide) | ((show (_ : Int) < _); decide) | (with_reducible refine gb_t ?_; with_reducible assumption) | with_reducible assumption | (with_reducible refine gb_f ?_; with_reducible assumption) | (simp only [meetX, meetY, meetB, meetC, meetD, meetN, meetF, meetO, *, cond_true, cond_false]; done) | ((with_reducible refine ks_t ?_); rfl) | ((with_reducible refine pk_t ?_); rfl) | ((with_reducible refine pf_t ?_); rfl) | ((with_reducible refine lk_t ?_); rfl) | ((with_reducible refine okF_t ?_); kernel_rfl) | grind [gb, meetX, meetY, meetB, meetC, meetD, meetN, meetF, meetO])
def meets_k : Con Try.prog := ⟨38, fun args => match args with | [.agg [.flt a, .flt b, .flt c, .flt d, .flt e, .flt f], .agg [.flt p, .flt q, .flt r, .flt u, .flt v, .flt w, .flt l]] => .ok (none) (.tup [.flt (meetX a b c d e f p q r u v w l), .flt (meetY a b c d e f p q r u v w l), .bool (meetB a b c d e f p q r u v w l)]) | _ => .no, by
  intro args p r h hp
  split at h
  · cases h; exact meets_a _ _ _ _ _ _ _ _ _ _ _ _ _
  · cases h⟩
end Go.Proofs.Ytgbcnfcgljbbgaa
