/- The reference Meets. -/
import Derived.Test.YtlinfehljjfkhaaSlabE
namespace Go.Proofs.Ytlinfehljjfkhaa
open Go.RowKit Ev
set_option linter.unusedVariables false
set_option linter.unusedSimpArgs false
set_option maxRecDepth 20000
set_option maxHeartbeats 4000000

theorem axis0_f : FnOk Try.prog 23 Try.f23 := ⟨Try.func23, by kernel_rfl⟩
theorem axis0_a (a b c : Nat) : ACalls Try.prog 23 [.agg [.flt a, .flt b, .flt c], .int .i64 0] (.flt a) := by
  refine acalls_of (inl := hasI (P := Try.prog) [] []) (base [] [] []) 0 axis0_f (And.intro (by kernel_rfl) ?_)
  repeat' (first | refine And.intro ?_ ?_ | (with_reducible exact ff_elim) | (with_reducible exact tf_elim) | intro _ | (with_reducible rfl) | ((with_reducible refine lk_t ?_); exact rfl) | refine tell ?_ | exact True.intro | (refine IsT.of ?_; kernel_rfl))
  all_goals ((try refine Tell.mk ?_); first | with_reducible rfl | ((show (_ : Int) ≤ _); decide) | ((show (_ : Int) < _); decide) | (with_reducible refine gb_t ?_; with_reducible assumption) | with_reducible assumption | (with_reducible refine gb_f ?_; with_reducible assumption) | (simp only [gb, *, cond_true, cond_false]; done) | ((with_reducible refine ks_t ?_); rfl) | ((with_reducible refine pk_t ?_); rfl) | ((with_reducible refine lk_t ?_); rfl) | ((with_reducible refine okF_t ?_); kernel_rfl) | grind [gb])
def axis0_k : Con Try.prog := ⟨23, fun args => match args with | [.agg [.flt a, .flt b, .flt c], .int .i64 0] => .ok (none) (.flt a) | _ => .no, by
  intro args p r h hp
  split at h
  · cases h; exact axis0_a _ _ _
  · cases h⟩
theorem axis1_f : FnOk Try.prog 23 Try.f23 := ⟨Try.func23, by kernel_rfl⟩
theorem axis1_a (a b c : Nat) : ACalls Try.prog 23 [.agg [.flt a, .flt b, .flt c], .int .i64 1] (.flt b) := by
  refine acalls_of (inl := hasI (P := Try.prog) [] []) (base [] [] []) 0 axis1_f (And.intro (by kernel_rfl) ?_)
  repeat' (first | refine And.intro ?_ ?_ | (with_reducible exact ff_elim) | (with_reducible exact tf_elim) | intro _ | (with_reducible rfl) | ((with_reducible refine lk_t ?_); exact rfl) | refine tell ?_ | exact True.intro | (refine IsT.of ?_; kernel_rfl))
  all_goals ((try refine Tell.mk ?_); first | with_reducible rfl | ((show (_ : Int) ≤ _); decide) | ((show (_ : Int) < _); decide) | (with_reducible refine gb_t ?_; with_reducible assumption) | with_reducible assumption | (with_reducible refine gb_f ?_; with_reducible assumption) | (simp only [gb, *, cond_true, cond_false]; done) | ((with_reducible refine ks_t ?_); rfl) | ((with_reducible refine pk_t ?_); rfl) | ((with_reducible refine lk_t ?_); rfl) | ((with_reducible refine okF_t ?_); kernel_rfl) | grind [gb])
def axis1_k : Con Try.prog := ⟨23, fun args => match args with | [.agg [.flt a, .flt b, .flt c], .int .i64 1] => .ok (none) (.flt b) | _ => .no, by
  intro args p r h hp
  split at h
  · cases h; exact axis1_a _ _ _
  · cases h⟩
theorem axis2_f : FnOk Try.prog 23 Try.f23 := ⟨Try.func23, by kernel_rfl⟩
theorem axis2_a (a b c : Nat) : ACalls Try.prog 23 [.agg [.flt a, .flt b, .flt c], .int .i64 2] (.flt c) := by
  refine acalls_of (inl := hasI (P := Try.prog) [] []) (base [] [] []) 0 axis2_f (And.intro (by kernel_rfl) ?_)
  repeat' (first | refine And.intro ?_ ?_ | (with_reducible exact ff_elim) | (with_reducible exact tf_elim) | intro _ | (with_reducible rfl) | ((with_reducible refine lk_t ?_); exact rfl) | refine tell ?_ | exact True.intro | (refine IsT.of ?_; kernel_rfl))
  all_goals ((try refine Tell.mk ?_); first | with_reducible rfl | ((show (_ : Int) ≤ _); decide) | ((show (_ : Int) < _); decide) | (with_reducible refine gb_t ?_; with_reducible assumption) | with_reducible assumption | (with_reducible refine gb_f ?_; with_reducible assumption) | (simp only [gb, *, cond_true, cond_false]; done) | ((with_reducible refine ks_t ?_); rfl) | ((with_reducible refine pk_t ?_); rfl) | ((with_reducible refine lk_t ?_); rfl) | ((with_reducible refine okF_t ?_); kernel_rfl) | grind [gb])
def axis2_k : Con Try.prog := ⟨23, fun args => match args with | [.agg [.flt a, .flt b, .flt c], .int .i64 2] => .ok (none) (.flt c) | _ => .no, by
  intro args p r h hp
  split at h
  · cases h; exact axis2_a _ _ _
  · cases h⟩
def badV (lo hi fr d : Nat) : Bool := bif feq d 0 then (flt fr lo || fgt fr hi) else false
def refC (a b c d e f p q r u v w l : Nat) : Bool := bif meetC a b c d e f p q r u v w l then true else bif badV a d p u then true else bif badV b e q v then true else bif badV c f r w then true else fgt (meetN a b c d e f p q r u v w l) (meetF a b c d e f p q r u v w)
def refB (a b c d e f p q r u v w l : Nat) : Bool := bif refC a b c d e f p q r u v w l then false else true
def refX (a b c d e f p q r u v w l : Nat) : Nat := bif refC a b c d e f p q r u v w l then 0 else meetN a b c d e f p q r u v w l
def refY (a b c d e f p q r u v w l : Nat) : Nat := bif refC a b c d e f p q r u v w l then 0 else meetF a b c d e f p q r u v w
theorem meetsR_f : FnOk Try.prog 7 Try.f7 := ⟨Try.func7, by kernel_rfl⟩
theorem meetsR_a (a b c d e f p q r u v w l : Nat) : ACalls Try.prog 7 [.agg [.flt a, .flt b, .flt c, .flt d, .flt e, .flt f], .agg [.flt p, .flt q, .flt r, .flt u, .flt v, .flt w, .flt l]] (.tup [.flt (refX a b c d e f p q r u v w l), .flt (refY a b c d e f p q r u v w l), .bool (refB a b c d e f p q r u v w l)]) := by
  refine acalls_of (inl := hasI (P := Try.prog) [] []) (base [mayR_k, rayfineR_k, axis0_k, axis1_k, axis2_k, less_k, more_k] [] []) 0 meetsR_f (And.intro (by kernel_rfl) ?_)
  repeat' (first | refine And.intro ?_ ?_ | refine num_lit 0 (by decide) ?_ | refine num_lit 1 (by decide) ?_ | refine num_lit 2 (by decide) ?_ | refine num_lit 3 (by decide) ?_ | refine num_lit 4 (by decide) ?_ | refine num_lit 5 (by decide) ?_ | refine num_lit 6 (by decide) ?_ | refine num_lit 7 (by decide) ?_ | refine num_lit 8 (by decide) ?_ | refine num_elim ?_ | (with_reducible exact ff_elim) | (with_reducible exact tf_elim) | (intro h; exact absurd h (by decide)) | intro _ | (with_reducible rfl) | refine Or.inl ⟨4, ?_⟩ | refine tell ?_ | exact True.intro | (refine IsT.of ?_; kernel_rfl))
  all_goals ((try refine Tell.mk ?_); first | with_reducible rfl | ((show (_ : Int) ≤ _); decide) | ((show (_ : Int) < _); decide) | (with_reducible refine gb_t ?_; with_reducible assumption) | with_reducible assumption | (with_reducible refine gb_f ?_; with_reducible assumption) | (simp only [refX, refY, refB, refC, badV, meetC, meetN, meetF, cutN, cutF, cutA, *, cond_true, cond_false]; done) | ((with_reducible refine ks_t ?_); rfl) | ((with_reducible refine pk_t ?_); rfl) | ((with_reducible refine lk_t ?_); rfl) | ((with_reducible refine okF_t ?_); kernel_rfl) | grind [gb, refX, refY, refB, refC, badV, meetC, meetN, meetF, cutN, cutF, cutA])
def meetsR_k : Con Try.prog := ⟨7, fun args => match args with | [.agg [.flt a, .flt b, .flt c, .flt d, .flt e, .flt f], .agg [.flt p, .flt q, .flt r, .flt u, .flt v, .flt w, .flt l]] => .ok (none) (.tup [.flt (refX a b c d e f p q r u v w l), .flt (refY a b c d e f p q r u v w l), .bool (refB a b c d e f p q r u v w l)]) | _ => .no, by
  intro args p r h hp
  split at h
  · cases h; exact meetsR_a _ _ _ _ _ _ _ _ _ _ _ _ _
  · cases h⟩
end Go.Proofs.Ytlinfehljjfkhaa
