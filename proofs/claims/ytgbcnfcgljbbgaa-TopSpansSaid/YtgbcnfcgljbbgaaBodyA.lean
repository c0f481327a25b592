/- Bodies: from where to where a ray is within them. -/
import Derived.Test.YtgbcnfcgljbbgaaShapeC
import Derived.Test.YtgbcnfcgljbbgaaSlabE
import Derived.Test.YtgbcnfcgljbbgaaLin
namespace Go.Proofs.Ytgbcnfcgljbbgaa
open Go.RowKit Ev
set_option linter.unusedVariables false
set_option linter.unusedSimpArgs false
set_option maxRecDepth 20000
set_option maxHeartbeats 4000000

/-- From where to where a ray is no farther than so far from a point. -/
def abE (x y z u v w r : Nat) : Nat := F .sub (F .mul (dotV x y z u v w) (dotV x y z u v w)) (F .mul (dotV u v w u v w) (F .sub (dotV x y z x y z) (F .mul r r)))
def abO (x y z u v w r : Nat) : Bool := fgt (abE x y z u v w r) 0 || feq (abE x y z u v w r) 0
def abI (x y z u v w r : Nat) : Nat := bif abO x y z u v w r then F .quo (F .sub (Fneg (dotV x y z u v w)) (sq (abE x y z u v w r))) (dotV u v w u v w) else 0
def abU (x y z u v w r : Nat) : Nat := bif abO x y z u v w r then F .quo (F .add (Fneg (dotV x y z u v w)) (sq (abE x y z u v w r))) (dotV u v w u v w) else 0
theorem abt_f : FnOk Try.prog 71 Try.f71 := ⟨Try.func71, by kernel_rfl⟩
theorem abt_a (x y z u v w r : Nat) : ACalls Try.prog 71 [.agg [.flt x, .flt y, .flt z], .agg [.flt u, .flt v, .flt w], .flt r] (.tup [.flt (abI x y z u v w r), .flt (abU x y z u v w r), .bool (abO x y z u v w r)]) := by
  refine acalls_of (inl := hasI (P := Try.prog) [] []) (base [dot_k, sqrt_k] [] []) 0 abt_f (And.intro (by kernel_rfl) ?_)
  repeat' (first | refine And.intro ?_ ?_ | (with_reducible exact ff_elim) | (with_reducible exact tf_elim) | intro _ | (with_reducible rfl) | ((with_reducible refine lk_t ?_); exact rfl) | ((with_reducible refine pf_t ?_); exact rfl) | refine tell ?_ | exact True.intro | (refine IsT.of ?_; kernel_rfl))
  all_goals ((try refine Tell.mk ?_); first | with_reducible rfl | ((show (_ : Int) ≤ _); decide) | ((show (_ : Int) < _); decide) | (with_reducible refine gb_t ?_; with_reducible assumption) | with_reducible assumption | (with_reducible refine gb_f ?_; with_reducible assumption) | (simp only [abI, abU, abO, abE, *, cond_true, cond_false]; done) | ((with_reducible refine ks_t ?_); rfl) | ((with_reducible refine pk_t ?_); rfl) | ((with_reducible refine pf_t ?_); rfl) | ((with_reducible refine lk_t ?_); rfl) | ((with_reducible refine okF_t ?_); kernel_rfl) | grind [gb, abI, abU, abO, abE])
def abt_k : Con Try.prog := ⟨71, fun args => match args with | [.agg [.flt x, .flt y, .flt z], .agg [.flt u, .flt v, .flt w], .flt r] => .ok (none) (.tup [.flt (abI x y z u v w r), .flt (abU x y z u v w r), .bool (abO x y z u v w r)]) | _ => .no, by
  intro args p r h hp
  split at h
  · cases h; exact abt_a _ _ _ _ _ _ _
  · cases h⟩
theorem ballW_f : FnOk Try.prog 69 Try.f69 := ⟨Try.func69, by kernel_rfl⟩
theorem ballW_a (a b c r x y z u v w l n m : Nat) : ACalls Try.prog 69 [.agg [.flt a, .flt b, .flt c, .flt r], .agg [.flt x, .flt y, .flt z, .flt u, .flt v, .flt w, .flt l], .flt n, .flt m] (.tup [.flt (abI (F .sub x a) (F .sub y b) (F .sub z c) u v w r), .flt (abU (F .sub x a) (F .sub y b) (F .sub z c) u v w r), .bool (abO (F .sub x a) (F .sub y b) (F .sub z c) u v w r)]) := by
  refine acalls_of (inl := hasI (P := Try.prog) [] []) (base [sub_k, abt_k] [] []) 0 ballW_f (And.intro (by kernel_rfl) ?_)
  repeat' (first | refine And.intro ?_ ?_ | (with_reducible exact ff_elim) | (with_reducible exact tf_elim) | intro _ | (with_reducible rfl) | ((with_reducible refine lk_t ?_); exact rfl) | ((with_reducible refine pf_t ?_); exact rfl) | refine tell ?_ | exact True.intro | (refine IsT.of ?_; kernel_rfl))
  all_goals ((try refine Tell.mk ?_); first | with_reducible rfl | ((show (_ : Int) ≤ _); decide) | ((show (_ : Int) < _); decide) | (with_reducible refine gb_t ?_; with_reducible assumption) | with_reducible assumption | (with_reducible refine gb_f ?_; with_reducible assumption) | (simp only [gb, *, cond_true, cond_false]; done) | ((with_reducible refine ks_t ?_); rfl) | ((with_reducible refine pk_t ?_); rfl) | ((with_reducible refine pf_t ?_); rfl) | ((with_reducible refine lk_t ?_); rfl) | ((with_reducible refine okF_t ?_); kernel_rfl) | grind [gb])
def ballW_k : Con Try.prog := ⟨69, fun args => match args with | [.agg [.flt a, .flt b, .flt c, .flt r], .agg [.flt x, .flt y, .flt z, .flt u, .flt v, .flt w, .flt l], .flt n, .flt m] => .ok (none) (.tup [.flt (abI (F .sub x a) (F .sub y b) (F .sub z c) u v w r), .flt (abU (F .sub x a) (F .sub y b) (F .sub z c) u v w r), .bool (abO (F .sub x a) (F .sub y b) (F .sub z c) u v w r)]) | _ => .no, by
  intro args p r h hp
  split at h
  · cases h; exact ballW_a _ _ _ _ _ _ _ _ _ _ _ _ _
  · cases h⟩
theorem blockW_f : FnOk Try.prog 77 Try.f77 := ⟨Try.func77, by kernel_rfl⟩
theorem blockW_a (a b c d e f x y z u v w l n m : Nat) : ACalls Try.prog 77 [.agg [.flt a, .flt b, .flt c, .flt d, .flt e, .flt f], .agg [.flt x, .flt y, .flt z, .flt u, .flt v, .flt w, .flt l], .flt n, .flt m] (.tup [.flt n, .flt m, .bool true]) := by
  refine acalls_of (inl := hasI (P := Try.prog) [] []) (base [] [] []) 0 blockW_f (And.intro (by kernel_rfl) ?_)
  repeat' (first | refine And.intro ?_ ?_ | (with_reducible exact ff_elim) | (with_reducible exact tf_elim) | intro _ | (with_reducible rfl) | ((with_reducible refine lk_t ?_); exact rfl) | ((with_reducible refine pf_t ?_); exact rfl) | refine tell ?_ | exact True.intro | (refine IsT.of ?_; kernel_rfl))
  all_goals ((try refine Tell.mk ?_); first | with_reducible rfl | ((show (_ : Int) ≤ _); decide) | ((show (_ : Int) < _); decide) | (with_reducible refine gb_t ?_; with_reducible assumption) | with_reducible assumption | (with_reducible refine gb_f ?_; with_reducible assumption) | (simp only [gb, *, cond_true, cond_false]; done) | ((with_reducible refine ks_t ?_); rfl) | ((with_reducible refine pk_t ?_); rfl) | ((with_reducible refine pf_t ?_); rfl) | ((with_reducible refine lk_t ?_); rfl) | ((with_reducible refine okF_t ?_); kernel_rfl) | grind [gb])
def blockW_k : Con Try.prog := ⟨77, fun args => match args with | [.agg [.flt a, .flt b, .flt c, .flt d, .flt e, .flt f], .agg [.flt x, .flt y, .flt z, .flt u, .flt v, .flt w, .flt l], .flt n, .flt m] => .ok (none) (.tup [.flt n, .flt m, .bool true]) | _ => .no, by
  intro args p r h hp
  split at h
  · cases h; exact blockW_a _ _ _ _ _ _ _ _ _ _ _ _ _ _ _
  · cases h⟩
def tuZ (d e f u v w : Nat) : Bool := feq (wo (aloneV d e f) 0 u) 0 && (feq (wo (aloneV d e f) 1 v) 0 && feq (wz (aloneV d e f) w) 0)
def tuI (a b c d e f r x y z u v w n : Nat) : Nat := bif tuZ d e f u v w then n else moreV n (abI (wo (aloneV d e f) 0 (F .sub x a)) (wo (aloneV d e f) 1 (F .sub y b)) (wz (aloneV d e f) (F .sub z c)) (wo (aloneV d e f) 0 u) (wo (aloneV d e f) 1 v) (wz (aloneV d e f) w) r)
def tuU (a b c d e f r x y z u v w m : Nat) : Nat := bif tuZ d e f u v w then m else lessV m (abU (wo (aloneV d e f) 0 (F .sub x a)) (wo (aloneV d e f) 1 (F .sub y b)) (wz (aloneV d e f) (F .sub z c)) (wo (aloneV d e f) 0 u) (wo (aloneV d e f) 1 v) (wz (aloneV d e f) w) r)
def tuO (a b c d e f r x y z u v w n m : Nat) : Bool := bif tuZ d e f u v w then flt (dotV (wo (aloneV d e f) 0 (F .sub x a)) (wo (aloneV d e f) 1 (F .sub y b)) (wz (aloneV d e f) (F .sub z c)) (wo (aloneV d e f) 0 (F .sub x a)) (wo (aloneV d e f) 1 (F .sub y b)) (wz (aloneV d e f) (F .sub z c))) (F .mul r r) || feq (dotV (wo (aloneV d e f) 0 (F .sub x a)) (wo (aloneV d e f) 1 (F .sub y b)) (wz (aloneV d e f) (F .sub z c)) (wo (aloneV d e f) 0 (F .sub x a)) (wo (aloneV d e f) 1 (F .sub y b)) (wz (aloneV d e f) (F .sub z c))) (F .mul r r) else abO (wo (aloneV d e f) 0 (F .sub x a)) (wo (aloneV d e f) 1 (F .sub y b)) (wz (aloneV d e f) (F .sub z c)) (wo (aloneV d e f) 0 u) (wo (aloneV d e f) 1 v) (wz (aloneV d e f) w) r && (flt (tuI a b c d e f r x y z u v w n) (tuU a b c d e f r x y z u v w m) || feq (tuI a b c d e f r x y z u v w n) (tuU a b c d e f r x y z u v w m))
theorem tubeW_f : FnOk Try.prog 89 Try.f89 := ⟨Try.func89, by kernel_rfl⟩
theorem tubeW_a (a b c d e f r x y z u v w l n m : Nat) : ACalls Try.prog 89 [.agg [.flt a, .flt b, .flt c, .flt d, .flt e, .flt f, .flt r], .agg [.flt x, .flt y, .flt z, .flt u, .flt v, .flt w, .flt l], .flt n, .flt m] (.tup [.flt (tuI a b c d e f r x y z u v w n), .flt (tuU a b c d e f r x y z u v w m), .bool (tuO a b c d e f r x y z u v w n m)]) := by
  refine acalls_of (inl := hasI (P := Try.prog) [] []) (base [alone_k, sub_k, without_k, dot_k, abt_k, greater_k, lesser_k] [] []) 0 tubeW_f (And.intro (by kernel_rfl) ?_)
  repeat' (first | refine And.intro ?_ ?_ | (with_reducible exact ff_elim) | (with_reducible exact tf_elim) | intro _ | (with_reducible rfl) | ((with_reducible refine lk_t ?_); exact rfl) | ((with_reducible refine pf_t ?_); exact rfl) | refine tell ?_ | exact True.intro | (refine IsT.of ?_; kernel_rfl))
  all_goals ((try refine Tell.mk ?_); first | with_reducible rfl | ((show (_ : Int) ≤ _); decide) | ((show (_ : Int) < _); decide) | (with_reducible refine gb_t ?_; with_reducible assumption) | with_reducible assumption | (with_reducible refine gb_f ?_; with_reducible assumption) | (simp only [tuI, tuU, tuO, tuZ, wz, *, cond_true, cond_false]; done) | ((with_reducible refine ks_t ?_); rfl) | ((with_reducible refine pk_t ?_); rfl) | ((with_reducible refine pf_t ?_); rfl) | ((with_reducible refine lk_t ?_); rfl) | ((with_reducible refine okF_t ?_); kernel_rfl) | grind [gb, tuI, tuU, tuO, tuZ, wz])
def tubeW_k : Con Try.prog := ⟨89, fun args => match args with | [.agg [.flt a, .flt b, .flt c, .flt d, .flt e, .flt f, .flt r], .agg [.flt x, .flt y, .flt z, .flt u, .flt v, .flt w, .flt l], .flt n, .flt m] => .ok (none) (.tup [.flt (tuI a b c d e f r x y z u v w n), .flt (tuU a b c d e f r x y z u v w m), .bool (tuO a b c d e f r x y z u v w n m)]) | _ => .no, by
  intro args p r h hp
  split at h
  · cases h; exact tubeW_a _ _ _ _ _ _ _ _ _ _ _ _ _ _ _ _
  · cases h⟩
theorem sh_1 {a b c d e f g h i r q : Nat} {s : Int} (hh : shapeE 1 a b c d e f g h i r q s = 0) : 0 = ballE a b c r := by
  unfold shapeE at hh
  cases h1 : (decide (s < 0) || decide (16 ≤ s)) <;> cases h2 : (!(fineB a b c) || (!(fineB d e f) || (!(fineB g h i) || (!(nearB r) || !(nearB q))))) <;> rw [h1, h2] at hh <;> first | exact hh.symm | cases hh
theorem sh_2 {a b c d e f g h i r q : Nat} {s : Int} (hh : shapeE 2 a b c d e f g h i r q s = 0) : 0 = blockE a b c d e f := by
  unfold shapeE at hh
  cases h1 : (decide (s < 0) || decide (16 ≤ s)) <;> cases h2 : (!(fineB a b c) || (!(fineB d e f) || (!(fineB g h i) || (!(nearB r) || !(nearB q))))) <;> rw [h1, h2] at hh <;> first | exact hh.symm | cases hh
theorem sh_5 {a b c d e f g h i r q : Nat} {s : Int} (hh : shapeE 5 a b c d e f g h i r q s = 0) : 0 = tubeE a b c d e f r := by
  unfold shapeE at hh
  cases h1 : (decide (s < 0) || decide (16 ≤ s)) <;> cases h2 : (!(fineB a b c) || (!(fineB d e f) || (!(fineB g h i) || (!(nearB r) || !(nearB q))))) <;> rw [h1, h2] at hh <;> first | exact hh.symm | cases hh
theorem solid1_f : FnOk Try.prog 30 Try.f30 := ⟨Try.func30, by kernel_rfl⟩
theorem solid1_a (a b c d e f g h i r q : Nat) (s : Int) (hpre : shapeE 1 a b c d e f g h i r q s = 0) : ACalls Try.prog 30 [.agg [.int .i64 1, .flt a, .flt b, .flt c, .flt d, .flt e, .flt f, .flt g, .flt h, .flt i, .flt r, .flt q, .int .i64 s]] (.tup [.ifc 78 (.agg [.flt a, .flt b, .flt c, .flt r]), .int .i64 0]) := by
  refine acalls_of (inl := hasI (P := Try.prog) [] []) (base [fine_k, near_k, fitsBall_k] [] []) 0 solid1_f (And.intro (by kernel_rfl) ?_)
  repeat' (first | refine And.intro ?_ ?_ | (with_reducible exact ff_elim) | (with_reducible exact tf_elim) | (intro h; exact absurd h (by decide)) | intro _ | (with_reducible rfl) | ((with_reducible refine lk_t ?_); exact rfl) | ((with_reducible refine pf_t ?_); exact rfl) | refine tell ?_ | exact True.intro | (refine IsT.of ?_; kernel_rfl))
  all_goals (try refine Tell.mk ?_)
  all_goals first | with_reducible rfl | with_reducible assumption | (with_reducible refine gb_t ?_; with_reducible assumption) | (with_reducible refine gb_f ?_; with_reducible assumption) | ((with_reducible refine lk_t ?_); rfl) | ((with_reducible refine ks_t ?_); rfl) | (show (_ : AV) = _; kernel_rfl) | exact sh_1 hpre | (exfalso; simp only [shapeE] at hpre; simp_all; done) | (exfalso; clear hf; grind [shapeE]) | (exfalso; grind [shapeE]) | trace_state
def solid1_k : Con Try.prog := ⟨30, fun args => match args with | [.agg [.int .i64 1, .flt a, .flt b, .flt c, .flt d, .flt e, .flt f, .flt g, .flt h, .flt i, .flt r, .flt q, .int .i64 s]] => .ok (some (shapeE 1 a b c d e f g h i r q s = 0)) (.tup [.ifc 78 (.agg [.flt a, .flt b, .flt c, .flt r]), .int .i64 0]) | _ => .no, by
  intro args p r h hp
  split at h
  · cases h; exact solid1_a _ _ _ _ _ _ _ _ _ _ _ _ hp
  · cases h⟩
theorem solid2_f : FnOk Try.prog 30 Try.f30 := ⟨Try.func30, by kernel_rfl⟩
theorem solid2_a (a b c d e f g h i r q : Nat) (s : Int) (hpre : shapeE 2 a b c d e f g h i r q s = 0) : ACalls Try.prog 30 [.agg [.int .i64 2, .flt a, .flt b, .flt c, .flt d, .flt e, .flt f, .flt g, .flt h, .flt i, .flt r, .flt q, .int .i64 s]] (.tup [.ifc 82 (.agg [.flt a, .flt b, .flt c, .flt d, .flt e, .flt f]), .int .i64 0]) := by
  refine acalls_of (inl := hasI (P := Try.prog) [] []) (base [fine_k, near_k, fitsBlock_k] [] []) 0 solid2_f (And.intro (by kernel_rfl) ?_)
  repeat' (first | refine And.intro ?_ ?_ | (with_reducible exact ff_elim) | (with_reducible exact tf_elim) | (intro h; exact absurd h (by decide)) | intro _ | (with_reducible rfl) | ((with_reducible refine lk_t ?_); exact rfl) | ((with_reducible refine pf_t ?_); exact rfl) | refine tell ?_ | exact True.intro | (refine IsT.of ?_; kernel_rfl))
  all_goals (try refine Tell.mk ?_)
  all_goals first | with_reducible rfl | with_reducible assumption | (with_reducible refine gb_t ?_; with_reducible assumption) | (with_reducible refine gb_f ?_; with_reducible assumption) | ((with_reducible refine lk_t ?_); rfl) | ((with_reducible refine ks_t ?_); rfl) | (show (_ : AV) = _; kernel_rfl) | exact sh_2 hpre | (exfalso; simp only [shapeE] at hpre; simp_all; done) | (exfalso; clear hf; grind [shapeE]) | (exfalso; grind [shapeE]) | trace_state
def solid2_k : Con Try.prog := ⟨30, fun args => match args with | [.agg [.int .i64 2, .flt a, .flt b, .flt c, .flt d, .flt e, .flt f, .flt g, .flt h, .flt i, .flt r, .flt q, .int .i64 s]] => .ok (some (shapeE 2 a b c d e f g h i r q s = 0)) (.tup [.ifc 82 (.agg [.flt a, .flt b, .flt c, .flt d, .flt e, .flt f]), .int .i64 0]) | _ => .no, by
  intro args p r h hp
  split at h
  · cases h; exact solid2_a _ _ _ _ _ _ _ _ _ _ _ _ hp
  · cases h⟩
theorem solid5_f : FnOk Try.prog 30 Try.f30 := ⟨Try.func30, by kernel_rfl⟩
theorem solid5_a (a b c d e f g h i r q : Nat) (s : Int) (hpre : shapeE 5 a b c d e f g h i r q s = 0) : ACalls Try.prog 30 [.agg [.int .i64 5, .flt a, .flt b, .flt c, .flt d, .flt e, .flt f, .flt g, .flt h, .flt i, .flt r, .flt q, .int .i64 s]] (.tup [.ifc 88 (.agg [.flt a, .flt b, .flt c, .flt d, .flt e, .flt f, .flt r]), .int .i64 0]) := by
  refine acalls_of (inl := hasI (P := Try.prog) [] []) (base [fine_k, near_k, fitsTube_k] [] []) 0 solid5_f (And.intro (by kernel_rfl) ?_)
  repeat' (first | refine And.intro ?_ ?_ | (with_reducible exact ff_elim) | (with_reducible exact tf_elim) | (intro h; exact absurd h (by decide)) | intro _ | (with_reducible rfl) | ((with_reducible refine lk_t ?_); exact rfl) | ((with_reducible refine pf_t ?_); exact rfl) | refine tell ?_ | exact True.intro | (refine IsT.of ?_; kernel_rfl))
  all_goals (try refine Tell.mk ?_)
  all_goals first | with_reducible rfl | with_reducible assumption | (with_reducible refine gb_t ?_; with_reducible assumption) | (with_reducible refine gb_f ?_; with_reducible assumption) | ((with_reducible refine lk_t ?_); rfl) | ((with_reducible refine ks_t ?_); rfl) | (show (_ : AV) = _; kernel_rfl) | exact sh_5 hpre | (exfalso; simp only [shapeE] at hpre; simp_all; done) | (exfalso; clear hf; grind [shapeE]) | (exfalso; grind [shapeE]) | trace_state
def solid5_k : Con Try.prog := ⟨30, fun args => match args with | [.agg [.int .i64 5, .flt a, .flt b, .flt c, .flt d, .flt e, .flt f, .flt g, .flt h, .flt i, .flt r, .flt q, .int .i64 s]] => .ok (some (shapeE 5 a b c d e f g h i r q s = 0)) (.tup [.ifc 88 (.agg [.flt a, .flt b, .flt c, .flt d, .flt e, .flt f, .flt r]), .int .i64 0]) | _ => .no, by
  intro args p r h hp
  split at h
  · cases h; exact solid5_a _ _ _ _ _ _ _ _ _ _ _ _ hp
  · cases h⟩
end Go.Proofs.Ytgbcnfcgljbbgaa
