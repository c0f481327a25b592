/- The law TopSlab, by the machine. -/
import Derived.Test.YtlinfehljjfkhaaSlabT
import Derived.Test.YtlinfehljjfkhaaEvArg
namespace Go.Proofs.Ytlinfehljjfkhaa
open Go.RowKit Ev
set_option linter.unusedVariables false
set_option linter.unusedSimpArgs false
set_option maxRecDepth 20000
set_option maxHeartbeats 4000000

theorem slab_out {x y : Nat} (h1 : x = 0) (h2 : y = 0) : (feq x 0 && feq y 0) = true := by
  subst h1; subst h2; decide +kernel
theorem topSlab_f : FnOk Try.prog 5 Try.f5 := ⟨Try.func5, by kernel_rfl⟩
theorem topSlab_a (a b c d e f a' b' c' d' e' f' p q r u v w l : Nat) : ACalls Try.prog 5 [.agg [.flt a, .flt b, .flt c, .flt d, .flt e, .flt f], .agg [.flt a', .flt b', .flt c', .flt d', .flt e', .flt f'], .agg [.flt p, .flt q, .flt r, .flt u, .flt v, .flt w, .flt l]] (.bool true) := by
  refine acalls_of (inl := hasI (P := Try.prog) [] []) (base [meets_k, may_k, join_k, inside_k] [] []) 0 topSlab_f (And.intro (by kernel_rfl) ?_)
  repeat' (first | refine And.intro ?_ ?_ | (with_reducible exact ff_elim) | (with_reducible exact tf_elim) | intro _ | (with_reducible rfl) | ((with_reducible refine lk_t ?_); exact rfl) | refine tell ?_ | exact True.intro | (refine IsT.of ?_; kernel_rfl))
  all_goals (try refine Tell.mk ?_)
  all_goals first | with_reducible rfl | with_reducible assumption | (with_reducible refine gb_t ?_; with_reducible assumption) | (with_reducible refine gb_f ?_; with_reducible assumption) | skip
  all_goals by_cases h1 : mayV a b c d e f = 0
  all_goals first | (simp_all; done) | skip
  all_goals by_cases h2 : mayV a' b' c' d' e' f' = 0
  all_goals first | (simp_all; done) | skip
  all_goals obtain ⟨g1, g2, g3, g4, g5⟩ := slab_top (p := p) (q := q) (r := r) (u := u) (v := v) (w := w) (l := l) h1 h2
  all_goals rcases Bool.eq_false_or_eq_true (meetB a b c d e f p q r u v w l) with hB | hB
  all_goals first | (have e := g5 (by assumption); simp_all; done) | skip
  all_goals have e := g4 (by assumption)
  all_goals first | (exact (slab_out e.1 e.2).symm) | (simp_all; done)
def topSlab_k : Con Try.prog := ⟨5, fun args => match args with | [.agg [.flt a, .flt b, .flt c, .flt d, .flt e, .flt f], .agg [.flt a', .flt b', .flt c', .flt d', .flt e', .flt f'], .agg [.flt p, .flt q, .flt r, .flt u, .flt v, .flt w, .flt l]] => .ok (none) (.bool true) | _ => .no, by
  intro args p r h hp
  split at h
  · cases h; exact topSlab_a _ _ _ _ _ _ _ _ _ _ _ _ _ _ _ _ _ _ _
  · cases h⟩
end Go.Proofs.Ytlinfehljjfkhaa
