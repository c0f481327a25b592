/- Shapes: which ones may be, kind by kind. -/
import Derived.Test.YtgbcnfcgljbbgaaShapeA
namespace Go.Proofs.Ytgbcnfcgljbbgaa
open Go.RowKit Ev
set_option linter.unusedVariables false
set_option linter.unusedSimpArgs false
set_option maxRecDepth 20000
set_option maxHeartbeats 4000000

/-- The third number of what is nought in one axis. -/
def wz (k : Int) (x : Nat) : Nat := bif k == 0 || k == 1 then x else 0
theorem ballB_f : FnOk Try.prog 66 Try.f66 := ⟨Try.func66, by kernel_rfl⟩
theorem ballB_a (a b c r : Nat) : ACalls Try.prog 66 [.agg [.flt a, .flt b, .flt c, .flt r]] (.agg [.flt (F .sub a r), .flt (F .sub b r), .flt (F .sub c r), .flt (F .add a r), .flt (F .add b r), .flt (F .add c r)]) := by
  refine acalls_of (inl := hasI (P := Try.prog) [] []) (base [about_k] [] []) 0 ballB_f (And.intro (by kernel_rfl) ?_)
  repeat' (first | refine And.intro ?_ ?_ | (with_reducible exact ff_elim) | (with_reducible exact tf_elim) | intro _ | (with_reducible rfl) | ((with_reducible refine lk_t ?_); exact rfl) | ((with_reducible refine pf_t ?_); exact rfl) | refine tell ?_ | exact True.intro | (refine IsT.of ?_; kernel_rfl))
  all_goals ((try refine Tell.mk ?_); first | with_reducible rfl | ((show (_ : Int) ≤ _); decide) | ((show (_ : Int) < _); decide) | (with_reducible refine gb_t ?_; with_reducible assumption) | with_reducible assumption | (with_reducible refine gb_f ?_; with_reducible assumption) | (simp only [gb, *, cond_true, cond_false]; done) | ((with_reducible refine ks_t ?_); rfl) | ((with_reducible refine pk_t ?_); rfl) | ((with_reducible refine pf_t ?_); rfl) | ((with_reducible refine lk_t ?_); rfl) | ((with_reducible refine okF_t ?_); kernel_rfl) | grind [gb])
def ballB_k : Con Try.prog := ⟨66, fun args => match args with | [.agg [.flt a, .flt b, .flt c, .flt r]] => .ok (none) (.agg [.flt (F .sub a r), .flt (F .sub b r), .flt (F .sub c r), .flt (F .add a r), .flt (F .add b r), .flt (F .add c r)]) | _ => .no, by
  intro args p r h hp
  split at h
  · cases h; exact ballB_a _ _ _ _
  · cases h⟩
theorem blockB_f : FnOk Try.prog 74 Try.f74 := ⟨Try.func74, by kernel_rfl⟩
theorem blockB_a (a b c d e f : Nat) : ACalls Try.prog 74 [.agg [.flt a, .flt b, .flt c, .flt d, .flt e, .flt f]] (.agg [.flt a, .flt b, .flt c, .flt d, .flt e, .flt f]) := by
  refine acalls_of (inl := hasI (P := Try.prog) [] []) (base [] [] []) 0 blockB_f (And.intro (by kernel_rfl) ?_)
  repeat' (first | refine And.intro ?_ ?_ | (with_reducible exact ff_elim) | (with_reducible exact tf_elim) | intro _ | (with_reducible rfl) | ((with_reducible refine lk_t ?_); exact rfl) | ((with_reducible refine pf_t ?_); exact rfl) | refine tell ?_ | exact True.intro | (refine IsT.of ?_; kernel_rfl))
  all_goals ((try refine Tell.mk ?_); first | with_reducible rfl | ((show (_ : Int) ≤ _); decide) | ((show (_ : Int) < _); decide) | (with_reducible refine gb_t ?_; with_reducible assumption) | with_reducible assumption | (with_reducible refine gb_f ?_; with_reducible assumption) | (simp only [gb, *, cond_true, cond_false]; done) | ((with_reducible refine ks_t ?_); rfl) | ((with_reducible refine pk_t ?_); rfl) | ((with_reducible refine pf_t ?_); rfl) | ((with_reducible refine lk_t ?_); rfl) | ((with_reducible refine okF_t ?_); kernel_rfl) | grind [gb])
def blockB_k : Con Try.prog := ⟨74, fun args => match args with | [.agg [.flt a, .flt b, .flt c, .flt d, .flt e, .flt f]] => .ok (none) (.agg [.flt a, .flt b, .flt c, .flt d, .flt e, .flt f]) | _ => .no, by
  intro args p r h hp
  split at h
  · cases h; exact blockB_a _ _ _ _ _ _
  · cases h⟩
theorem triB_f : FnOk Try.prog 78 Try.f78 := ⟨Try.func78, by kernel_rfl⟩
theorem triB_a (a b c d e f g h i : Nat) : ACalls Try.prog 78 [.agg [.flt a, .flt b, .flt c, .flt d, .flt e, .flt f, .flt g, .flt h, .flt i]] (.agg [.flt (lessV (lessV a d) g), .flt (lessV (lessV b e) h), .flt (lessV (lessV c f) i), .flt (moreV (moreV a d) g), .flt (moreV (moreV b e) h), .flt (moreV (moreV c f) i)]) := by
  refine acalls_of (inl := hasI (P := Try.prog) [] []) (base [low_k, high_k] [] []) 0 triB_f (And.intro (by kernel_rfl) ?_)
  repeat' (first | refine And.intro ?_ ?_ | (with_reducible exact ff_elim) | (with_reducible exact tf_elim) | intro _ | (with_reducible rfl) | ((with_reducible refine lk_t ?_); exact rfl) | ((with_reducible refine pf_t ?_); exact rfl) | refine tell ?_ | exact True.intro | (refine IsT.of ?_; kernel_rfl))
  all_goals ((try refine Tell.mk ?_); first | with_reducible rfl | ((show (_ : Int) ≤ _); decide) | ((show (_ : Int) < _); decide) | (with_reducible refine gb_t ?_; with_reducible assumption) | with_reducible assumption | (with_reducible refine gb_f ?_; with_reducible assumption) | (simp only [gb, *, cond_true, cond_false]; done) | ((with_reducible refine ks_t ?_); rfl) | ((with_reducible refine pk_t ?_); rfl) | ((with_reducible refine pf_t ?_); rfl) | ((with_reducible refine lk_t ?_); rfl) | ((with_reducible refine okF_t ?_); kernel_rfl) | grind [gb])
def triB_k : Con Try.prog := ⟨78, fun args => match args with | [.agg [.flt a, .flt b, .flt c, .flt d, .flt e, .flt f, .flt g, .flt h, .flt i]] => .ok (none) (.agg [.flt (lessV (lessV a d) g), .flt (lessV (lessV b e) h), .flt (lessV (lessV c f) i), .flt (moreV (moreV a d) g), .flt (moreV (moreV b e) h), .flt (moreV (moreV c f) i)]) | _ => .no, by
  intro args p r h hp
  split at h
  · cases h; exact triB_a _ _ _ _ _ _ _ _ _
  · cases h⟩
theorem plateB_f : FnOk Try.prog 83 Try.f83 := ⟨Try.func83, by kernel_rfl⟩
theorem plateB_a (a b c d e f r : Nat) : ACalls Try.prog 83 [.agg [.flt a, .flt b, .flt c, .flt d, .flt e, .flt f, .flt r]] (.agg [.flt (F .sub a r), .flt (F .sub b r), .flt (F .sub c r), .flt (F .add a r), .flt (F .add b r), .flt (F .add c r)]) := by
  refine acalls_of (inl := hasI (P := Try.prog) [] []) (base [about_k] [] []) 0 plateB_f (And.intro (by kernel_rfl) ?_)
  repeat' (first | refine And.intro ?_ ?_ | (with_reducible exact ff_elim) | (with_reducible exact tf_elim) | intro _ | (with_reducible rfl) | ((with_reducible refine lk_t ?_); exact rfl) | ((with_reducible refine pf_t ?_); exact rfl) | refine tell ?_ | exact True.intro | (refine IsT.of ?_; kernel_rfl))
  all_goals ((try refine Tell.mk ?_); first | with_reducible rfl | ((show (_ : Int) ≤ _); decide) | ((show (_ : Int) < _); decide) | (with_reducible refine gb_t ?_; with_reducible assumption) | with_reducible assumption | (with_reducible refine gb_f ?_; with_reducible assumption) | (simp only [gb, *, cond_true, cond_false]; done) | ((with_reducible refine ks_t ?_); rfl) | ((with_reducible refine pk_t ?_); rfl) | ((with_reducible refine pf_t ?_); rfl) | ((with_reducible refine lk_t ?_); rfl) | ((with_reducible refine okF_t ?_); kernel_rfl) | grind [gb])
def plateB_k : Con Try.prog := ⟨83, fun args => match args with | [.agg [.flt a, .flt b, .flt c, .flt d, .flt e, .flt f, .flt r]] => .ok (none) (.agg [.flt (F .sub a r), .flt (F .sub b r), .flt (F .sub c r), .flt (F .add a r), .flt (F .add b r), .flt (F .add c r)]) | _ => .no, by
  intro args p r h hp
  split at h
  · cases h; exact plateB_a _ _ _ _ _ _ _
  · cases h⟩
theorem tubeB_f : FnOk Try.prog 86 Try.f86 := ⟨Try.func86, by kernel_rfl⟩
theorem tubeB_a (a b c d e f r : Nat) : ACalls Try.prog 86 [.agg [.flt a, .flt b, .flt c, .flt d, .flt e, .flt f, .flt r]] (.agg [.flt (F .sub (lessV a (F .add a d)) (wo (aloneV d e f) 0 r)), .flt (F .sub (lessV b (F .add b e)) (wo (aloneV d e f) 1 r)), .flt (F .sub (lessV c (F .add c f)) (wz (aloneV d e f) r)), .flt (F .add (moreV a (F .add a d)) (wo (aloneV d e f) 0 r)), .flt (F .add (moreV b (F .add b e)) (wo (aloneV d e f) 1 r)), .flt (F .add (moreV c (F .add c f)) (wz (aloneV d e f) r))]) := by
  refine acalls_of (inl := hasI (P := Try.prog) [] []) (base [add_k, alone_k, flat_k, low_k, high_k, sub_k] [] []) 0 tubeB_f (And.intro (by kernel_rfl) ?_)
  repeat' (first | refine And.intro ?_ ?_ | (with_reducible exact ff_elim) | (with_reducible exact tf_elim) | intro _ | (with_reducible rfl) | ((with_reducible refine lk_t ?_); exact rfl) | ((with_reducible refine pf_t ?_); exact rfl) | refine tell ?_ | exact True.intro | (refine IsT.of ?_; kernel_rfl))
  all_goals ((try refine Tell.mk ?_); first | with_reducible rfl | ((show (_ : Int) ≤ _); decide) | ((show (_ : Int) < _); decide) | (with_reducible refine gb_t ?_; with_reducible assumption) | with_reducible assumption | (with_reducible refine gb_f ?_; with_reducible assumption) | (simp only [wz, *, cond_true, cond_false]; done) | ((with_reducible refine ks_t ?_); rfl) | ((with_reducible refine pk_t ?_); rfl) | ((with_reducible refine pf_t ?_); rfl) | ((with_reducible refine lk_t ?_); rfl) | ((with_reducible refine okF_t ?_); kernel_rfl) | grind [gb, wz])
def tubeB_k : Con Try.prog := ⟨86, fun args => match args with | [.agg [.flt a, .flt b, .flt c, .flt d, .flt e, .flt f, .flt r]] => .ok (none) (.agg [.flt (F .sub (lessV a (F .add a d)) (wo (aloneV d e f) 0 r)), .flt (F .sub (lessV b (F .add b e)) (wo (aloneV d e f) 1 r)), .flt (F .sub (lessV c (F .add c f)) (wz (aloneV d e f) r)), .flt (F .add (moreV a (F .add a d)) (wo (aloneV d e f) 0 r)), .flt (F .add (moreV b (F .add b e)) (wo (aloneV d e f) 1 r)), .flt (F .add (moreV c (F .add c f)) (wz (aloneV d e f) r))]) | _ => .no, by
  intro args p r h hp
  split at h
  · cases h; exact tubeB_a _ _ _ _ _ _ _
  · cases h⟩
theorem ringB_f : FnOk Try.prog 92 Try.f92 := ⟨Try.func92, by kernel_rfl⟩
theorem ringB_a (a b c d e f r q : Nat) : ACalls Try.prog 92 [.agg [.flt a, .flt b, .flt c, .flt d, .flt e, .flt f, .flt r, .flt q]] (.agg [.flt (F .sub a (F .add (wo (aloneV d e f) 0 r) q)), .flt (F .sub b (F .add (wo (aloneV d e f) 1 r) q)), .flt (F .sub c (F .add (wz (aloneV d e f) r) q)), .flt (F .add a (F .add (wo (aloneV d e f) 0 r) q)), .flt (F .add b (F .add (wo (aloneV d e f) 1 r) q)), .flt (F .add c (F .add (wz (aloneV d e f) r) q))]) := by
  refine acalls_of (inl := hasI (P := Try.prog) [] []) (base [add_k, alone_k, flat_k, sub_k] [] []) 0 ringB_f (And.intro (by kernel_rfl) ?_)
  repeat' (first | refine And.intro ?_ ?_ | (with_reducible exact ff_elim) | (with_reducible exact tf_elim) | intro _ | (with_reducible rfl) | ((with_reducible refine lk_t ?_); exact rfl) | ((with_reducible refine pf_t ?_); exact rfl) | refine tell ?_ | exact True.intro | (refine IsT.of ?_; kernel_rfl))
  all_goals ((try refine Tell.mk ?_); first | with_reducible rfl | ((show (_ : Int) ≤ _); decide) | ((show (_ : Int) < _); decide) | (with_reducible refine gb_t ?_; with_reducible assumption) | with_reducible assumption | (with_reducible refine gb_f ?_; with_reducible assumption) | (simp only [wz, *, cond_true, cond_false]; done) | ((with_reducible refine ks_t ?_); rfl) | ((with_reducible refine pk_t ?_); rfl) | ((with_reducible refine pf_t ?_); rfl) | ((with_reducible refine lk_t ?_); rfl) | ((with_reducible refine okF_t ?_); kernel_rfl) | grind [gb, wz])
def ringB_k : Con Try.prog := ⟨92, fun args => match args with | [.agg [.flt a, .flt b, .flt c, .flt d, .flt e, .flt f, .flt r, .flt q]] => .ok (none) (.agg [.flt (F .sub a (F .add (wo (aloneV d e f) 0 r) q)), .flt (F .sub b (F .add (wo (aloneV d e f) 1 r) q)), .flt (F .sub c (F .add (wz (aloneV d e f) r) q)), .flt (F .add a (F .add (wo (aloneV d e f) 0 r) q)), .flt (F .add b (F .add (wo (aloneV d e f) 1 r) q)), .flt (F .add c (F .add (wz (aloneV d e f) r) q))]) | _ => .no, by
  intro args p r h hp
  split at h
  · cases h; exact ringB_a _ _ _ _ _ _ _ _
  · cases h⟩
/-- What is said of a box around a shape. -/
def boxE (a b c d e f : Nat) : Int := bif mayV a b c d e f == 0 then 0 else 1
def ballE (a b c r : Nat) : Int := bif fgt r 0 then boxE (F .sub a r) (F .sub b r) (F .sub c r) (F .add a r) (F .add b r) (F .add c r) else 6
def blockE (a b c d e f : Nat) : Int := bif mayV a b c d e f == 0 then 0 else 6
def triE (a b c d e f g h i : Nat) : Int := boxE (lessV (lessV a d) g) (lessV (lessV b e) h) (lessV (lessV c f) i) (moreV (moreV a d) g) (moreV (moreV b e) h) (moreV (moreV c f) i)
def plateE (a b c d e f r : Nat) : Int := bif fgt r 0 then (bif unitE d e f == 0 then boxE (F .sub a r) (F .sub b r) (F .sub c r) (F .add a r) (F .add b r) (F .add c r) else unitE d e f) else 6
def tubeE (a b c d e f r : Nat) : Int := bif fgt r 0 && decide (0 ≤ aloneV d e f) then boxE (F .sub (lessV a (F .add a d)) (wo (aloneV d e f) 0 r)) (F .sub (lessV b (F .add b e)) (wo (aloneV d e f) 1 r)) (F .sub (lessV c (F .add c f)) (wz (aloneV d e f) r)) (F .add (moreV a (F .add a d)) (wo (aloneV d e f) 0 r)) (F .add (moreV b (F .add b e)) (wo (aloneV d e f) 1 r)) (F .add (moreV c (F .add c f)) (wz (aloneV d e f) r)) else 6
def ringE (a b c d e f r q : Nat) : Int := bif fgt q 0 && ((fgt r q || feq r q) && decide (0 ≤ aloneV d e f)) then boxE (F .sub a (F .add (wo (aloneV d e f) 0 r) q)) (F .sub b (F .add (wo (aloneV d e f) 1 r) q)) (F .sub c (F .add (wz (aloneV d e f) r) q)) (F .add a (F .add (wo (aloneV d e f) 0 r) q)) (F .add b (F .add (wo (aloneV d e f) 1 r) q)) (F .add c (F .add (wz (aloneV d e f) r) q)) else 6
theorem fitsBall_f : FnOk Try.prog 37 Try.f37 := ⟨Try.func37, by kernel_rfl⟩
theorem fitsBall_a (a b c r : Nat) : ACalls Try.prog 37 [.ifc 78 (.agg [.flt a, .flt b, .flt c, .flt r])] (.int .i64 (ballE a b c r)) := by
  refine acalls_of (inl := hasI (P := Try.prog) [] []) (base [ballB_k, may_k, alone_k, unit_k] [] []) 0 fitsBall_f (And.intro (by kernel_rfl) ?_)
  repeat' (first | refine And.intro ?_ ?_ | (with_reducible exact ff_elim) | (with_reducible exact tf_elim) | intro _ | (with_reducible rfl) | ((with_reducible refine lk_t ?_); exact rfl) | ((with_reducible refine pf_t ?_); exact rfl) | refine tell ?_ | exact True.intro | (refine IsT.of ?_; kernel_rfl))
  all_goals ((try refine Tell.mk ?_); first | with_reducible rfl | ((show (_ : Int) ≤ _); decide) | ((show (_ : Int) < _); decide) | (with_reducible refine gb_t ?_; with_reducible assumption) | with_reducible assumption | (with_reducible refine gb_f ?_; with_reducible assumption) | (simp only [ballE, boxE, *, cond_true, cond_false]; done) | ((with_reducible refine ks_t ?_); rfl) | ((with_reducible refine pk_t ?_); rfl) | ((with_reducible refine pf_t ?_); rfl) | ((with_reducible refine lk_t ?_); rfl) | ((with_reducible refine okF_t ?_); kernel_rfl) | grind [gb, ballE, boxE])
def fitsBall_k : Con Try.prog := ⟨37, fun args => match args with | [.ifc 78 (.agg [.flt a, .flt b, .flt c, .flt r])] => .ok (none) (.int .i64 (ballE a b c r)) | _ => .no, by
  intro args p r h hp
  split at h
  · cases h; exact fitsBall_a _ _ _ _
  · cases h⟩
theorem fitsBlock_f : FnOk Try.prog 37 Try.f37 := ⟨Try.func37, by kernel_rfl⟩
theorem fitsBlock_a (a b c d e f : Nat) : ACalls Try.prog 37 [.ifc 82 (.agg [.flt a, .flt b, .flt c, .flt d, .flt e, .flt f])] (.int .i64 (blockE a b c d e f)) := by
  refine acalls_of (inl := hasI (P := Try.prog) [] []) (base [blockB_k, may_k, alone_k, unit_k] [] []) 0 fitsBlock_f (And.intro (by kernel_rfl) ?_)
  repeat' (first | refine And.intro ?_ ?_ | (with_reducible exact ff_elim) | (with_reducible exact tf_elim) | intro _ | (with_reducible rfl) | ((with_reducible refine lk_t ?_); exact rfl) | ((with_reducible refine pf_t ?_); exact rfl) | refine tell ?_ | exact True.intro | (refine IsT.of ?_; kernel_rfl))
  all_goals ((try refine Tell.mk ?_); first | with_reducible rfl | ((show (_ : Int) ≤ _); decide) | ((show (_ : Int) < _); decide) | (with_reducible refine gb_t ?_; with_reducible assumption) | with_reducible assumption | (with_reducible refine gb_f ?_; with_reducible assumption) | (simp only [blockE, boxE, *, cond_true, cond_false]; done) | ((with_reducible refine ks_t ?_); rfl) | ((with_reducible refine pk_t ?_); rfl) | ((with_reducible refine pf_t ?_); rfl) | ((with_reducible refine lk_t ?_); rfl) | ((with_reducible refine okF_t ?_); kernel_rfl) | grind [gb, blockE, boxE])
def fitsBlock_k : Con Try.prog := ⟨37, fun args => match args with | [.ifc 82 (.agg [.flt a, .flt b, .flt c, .flt d, .flt e, .flt f])] => .ok (none) (.int .i64 (blockE a b c d e f)) | _ => .no, by
  intro args p r h hp
  split at h
  · cases h; exact fitsBlock_a _ _ _ _ _ _
  · cases h⟩
theorem fitsTri_f : FnOk Try.prog 37 Try.f37 := ⟨Try.func37, by kernel_rfl⟩
theorem fitsTri_a (a b c d e f g h i : Nat) : ACalls Try.prog 37 [.ifc 84 (.agg [.flt a, .flt b, .flt c, .flt d, .flt e, .flt f, .flt g, .flt h, .flt i])] (.int .i64 (triE a b c d e f g h i)) := by
  refine acalls_of (inl := hasI (P := Try.prog) [] []) (base [triB_k, may_k, alone_k, unit_k] [] []) 0 fitsTri_f (And.intro (by kernel_rfl) ?_)
  repeat' (first | refine And.intro ?_ ?_ | (with_reducible exact ff_elim) | (with_reducible exact tf_elim) | intro _ | (with_reducible rfl) | ((with_reducible refine lk_t ?_); exact rfl) | ((with_reducible refine pf_t ?_); exact rfl) | refine tell ?_ | exact True.intro | (refine IsT.of ?_; kernel_rfl))
  all_goals ((try refine Tell.mk ?_); first | with_reducible rfl | ((show (_ : Int) ≤ _); decide) | ((show (_ : Int) < _); decide) | (with_reducible refine gb_t ?_; with_reducible assumption) | with_reducible assumption | (with_reducible refine gb_f ?_; with_reducible assumption) | (simp only [triE, boxE, *, cond_true, cond_false]; done) | ((with_reducible refine ks_t ?_); rfl) | ((with_reducible refine pk_t ?_); rfl) | ((with_reducible refine pf_t ?_); rfl) | ((with_reducible refine lk_t ?_); rfl) | ((with_reducible refine okF_t ?_); kernel_rfl) | grind [gb, triE, boxE])
def fitsTri_k : Con Try.prog := ⟨37, fun args => match args with | [.ifc 84 (.agg [.flt a, .flt b, .flt c, .flt d, .flt e, .flt f, .flt g, .flt h, .flt i])] => .ok (none) (.int .i64 (triE a b c d e f g h i)) | _ => .no, by
  intro args p r h hp
  split at h
  · cases h; exact fitsTri_a _ _ _ _ _ _ _ _ _
  · cases h⟩
theorem fitsPlate_f : FnOk Try.prog 37 Try.f37 := ⟨Try.func37, by kernel_rfl⟩
theorem fitsPlate_a (a b c d e f r : Nat) : ACalls Try.prog 37 [.ifc 86 (.agg [.flt a, .flt b, .flt c, .flt d, .flt e, .flt f, .flt r])] (.int .i64 (plateE a b c d e f r)) := by
  refine acalls_of (inl := hasI (P := Try.prog) [] []) (base [plateB_k, may_k, alone_k, unit_k] [] []) 0 fitsPlate_f (And.intro (by kernel_rfl) ?_)
  repeat' (first | refine And.intro ?_ ?_ | (with_reducible exact ff_elim) | (with_reducible exact tf_elim) | intro _ | (with_reducible rfl) | ((with_reducible refine lk_t ?_); exact rfl) | ((with_reducible refine pf_t ?_); exact rfl) | refine tell ?_ | exact True.intro | (refine IsT.of ?_; kernel_rfl))
  all_goals ((try refine Tell.mk ?_); first | with_reducible rfl | ((show (_ : Int) ≤ _); decide) | ((show (_ : Int) < _); decide) | (with_reducible refine gb_t ?_; with_reducible assumption) | with_reducible assumption | (with_reducible refine gb_f ?_; with_reducible assumption) | (simp only [plateE, boxE, *, cond_true, cond_false]; done) | ((with_reducible refine ks_t ?_); rfl) | ((with_reducible refine pk_t ?_); rfl) | ((with_reducible refine pf_t ?_); rfl) | ((with_reducible refine lk_t ?_); rfl) | ((with_reducible refine okF_t ?_); kernel_rfl) | grind [gb, plateE, boxE])
def fitsPlate_k : Con Try.prog := ⟨37, fun args => match args with | [.ifc 86 (.agg [.flt a, .flt b, .flt c, .flt d, .flt e, .flt f, .flt r])] => .ok (none) (.int .i64 (plateE a b c d e f r)) | _ => .no, by
  intro args p r h hp
  split at h
  · cases h; exact fitsPlate_a _ _ _ _ _ _ _
  · cases h⟩
theorem fitsTube_f : FnOk Try.prog 37 Try.f37 := ⟨Try.func37, by kernel_rfl⟩
theorem fitsTube_a (a b c d e f r : Nat) : ACalls Try.prog 37 [.ifc 88 (.agg [.flt a, .flt b, .flt c, .flt d, .flt e, .flt f, .flt r])] (.int .i64 (tubeE a b c d e f r)) := by
  refine acalls_of (inl := hasI (P := Try.prog) [] []) (base [tubeB_k, may_k, alone_k, unit_k] [] []) 0 fitsTube_f (And.intro (by kernel_rfl) ?_)
  repeat' (first | refine And.intro ?_ ?_ | (with_reducible exact ff_elim) | (with_reducible exact tf_elim) | intro _ | (with_reducible rfl) | ((with_reducible refine lk_t ?_); exact rfl) | ((with_reducible refine pf_t ?_); exact rfl) | refine tell ?_ | exact True.intro | (refine IsT.of ?_; kernel_rfl))
  all_goals ((try refine Tell.mk ?_); first | with_reducible rfl | ((show (_ : Int) ≤ _); decide) | ((show (_ : Int) < _); decide) | (with_reducible refine gb_t ?_; with_reducible assumption) | with_reducible assumption | (with_reducible refine gb_f ?_; with_reducible assumption) | (simp only [tubeE, boxE, *, cond_true, cond_false]; done) | ((with_reducible refine ks_t ?_); rfl) | ((with_reducible refine pk_t ?_); rfl) | ((with_reducible refine pf_t ?_); rfl) | ((with_reducible refine lk_t ?_); rfl) | ((with_reducible refine okF_t ?_); kernel_rfl) | grind [gb, tubeE, boxE])
def fitsTube_k : Con Try.prog := ⟨37, fun args => match args with | [.ifc 88 (.agg [.flt a, .flt b, .flt c, .flt d, .flt e, .flt f, .flt r])] => .ok (none) (.int .i64 (tubeE a b c d e f r)) | _ => .no, by
  intro args p r h hp
  split at h
  · cases h; exact fitsTube_a _ _ _ _ _ _ _
  · cases h⟩
theorem fitsRing_f : FnOk Try.prog 37 Try.f37 := ⟨Try.func37, by kernel_rfl⟩
theorem fitsRing_a (a b c d e f r q : Nat) : ACalls Try.prog 37 [.ifc 90 (.agg [.flt a, .flt b, .flt c, .flt d, .flt e, .flt f, .flt r, .flt q])] (.int .i64 (ringE a b c d e f r q)) := by
  refine acalls_of (inl := hasI (P := Try.prog) [] []) (base [ringB_k, may_k, alone_k, unit_k] [] []) 0 fitsRing_f (And.intro (by kernel_rfl) ?_)
  repeat' (first | refine And.intro ?_ ?_ | (with_reducible exact ff_elim) | (with_reducible exact tf_elim) | intro _ | (with_reducible rfl) | ((with_reducible refine lk_t ?_); exact rfl) | ((with_reducible refine pf_t ?_); exact rfl) | refine tell ?_ | exact True.intro | (refine IsT.of ?_; kernel_rfl))
  all_goals ((try refine Tell.mk ?_); first | with_reducible rfl | ((show (_ : Int) ≤ _); decide) | ((show (_ : Int) < _); decide) | (with_reducible refine gb_t ?_; with_reducible assumption) | with_reducible assumption | (with_reducible refine gb_f ?_; with_reducible assumption) | (simp only [ringE, boxE, *, cond_true, cond_false]; done) | ((with_reducible refine ks_t ?_); rfl) | ((with_reducible refine pk_t ?_); rfl) | ((with_reducible refine pf_t ?_); rfl) | ((with_reducible refine lk_t ?_); rfl) | ((with_reducible refine okF_t ?_); kernel_rfl) | grind [gb, ringE, boxE])
def fitsRing_k : Con Try.prog := ⟨37, fun args => match args with | [.ifc 90 (.agg [.flt a, .flt b, .flt c, .flt d, .flt e, .flt f, .flt r, .flt q])] => .ok (none) (.int .i64 (ringE a b c d e f r q)) | _ => .no, by
  intro args p r h hp
  split at h
  · cases h; exact fitsRing_a _ _ _ _ _ _ _ _
  · cases h⟩
end Go.Proofs.Ytgbcnfcgljbbgaa
