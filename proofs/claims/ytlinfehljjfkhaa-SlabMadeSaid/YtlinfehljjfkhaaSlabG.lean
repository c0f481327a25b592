/- The law SlabSays, by the machine. -/
import Derived.Test.YtlinfehljjfkhaaSlabP
import Derived.Test.YtlinfehljjfkhaaEvArg
namespace Go.Proofs.Ytlinfehljjfkhaa
open Go.RowKit Ev
set_option linter.unusedVariables false
set_option linter.unusedSimpArgs false
set_option maxRecDepth 20000
set_option maxHeartbeats 4000000

theorem slabSays_f : FnOk Try.prog 3 Try.f3 := ⟨Try.func3, by kernel_rfl⟩
theorem slabSays_a (p q r u v w l a b c d e f a' b' c' d' e' f' : Nat) : ACalls Try.prog 3 [.agg [.flt p, .flt q, .flt r, .flt u, .flt v, .flt w, .flt l], .agg [.flt a, .flt b, .flt c, .flt d, .flt e, .flt f], .agg [.flt a', .flt b', .flt c', .flt d', .flt e', .flt f']] (.bool true) := by
  refine acalls_of (inl := hasI (P := Try.prog) [] []) (base [meets_k, meetsR_k, rayfine_k, rayfineR_k, may_k, mayR_k, same_k, inside_k, insideR_k, join_k, joinR_k, samebox_k] [] []) 0 slabSays_f (And.intro (by kernel_rfl) ?_)
  repeat' (first | refine And.intro ?_ ?_ | (with_reducible exact ff_elim) | (with_reducible exact tf_elim) | intro _ | (with_reducible rfl) | ((with_reducible refine lk_t ?_); exact rfl) | refine tell ?_ | exact True.intro | (refine IsT.of ?_; kernel_rfl))
  all_goals (refine Tell.mk ?_; first | with_reducible rfl | with_reducible assumption | (with_reducible refine gb_t ?_; with_reducible assumption) | (with_reducible refine gb_f ?_; with_reducible assumption) | (simp_all [ref_b, ref_x, ref_y, sameV_refl]; done))
def slabSays_k : Con Try.prog := ⟨3, fun args => match args with | [.agg [.flt p, .flt q, .flt r, .flt u, .flt v, .flt w, .flt l], .agg [.flt a, .flt b, .flt c, .flt d, .flt e, .flt f], .agg [.flt a', .flt b', .flt c', .flt d', .flt e', .flt f']] => .ok (none) (.bool true) | _ => .no, by
  intro args p r h hp
  split at h
  · cases h; exact slabSays_a _ _ _ _ _ _ _ _ _ _ _ _ _ _ _ _ _ _ _
  · cases h⟩
end Go.Proofs.Ytlinfehljjfkhaa
