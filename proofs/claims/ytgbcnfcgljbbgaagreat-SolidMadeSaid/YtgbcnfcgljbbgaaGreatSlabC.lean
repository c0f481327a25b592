/- Rays, sameness. -/
import Derived.Test.YtgbcnfcgljbbgaaGreatSlabB
namespace Go.Proofs.YtgbcnfcgljbbgaaGreat
open Go.RowKit Ev
set_option linter.unusedVariables false
set_option linter.unusedSimpArgs false
set_option maxRecDepth 20000
set_option maxHeartbeats 4000000

def rayV (a b c d e f l : Nat) : Int := bif !(fineB a b c) || (!(fineB d e f) || !(nearB l)) then 1 else
  bif feq d 0 && (feq e 0 && feq f 0) then 2 else
  bif !(feq d (cleanV d) && (feq e (cleanV e) && feq f (cleanV f))) then 1 else bif flt l 0 then 6 else 0
theorem rayfine_f : FnOk Tryz.prog 26 Tryz.f26 := ⟨Tryz.func26, by kernel_rfl⟩
theorem rayfine_a (a b c d e f l : Nat) : ACalls Tryz.prog 26 [.agg [.flt a, .flt b, .flt c, .flt d, .flt e, .flt f, .flt l]] (.int .i64 (rayV a b c d e f l)) := by
  refine acalls_of (inl := hasI (P := Tryz.prog) [] []) (base [fine_k, near_k, cleanv_k] [] []) 0 rayfine_f (And.intro (by kernel_rfl) ?_)
  repeat' (first | refine And.intro ?_ ?_ | (with_reducible exact ff_elim) | (with_reducible exact tf_elim) | intro _ | (with_reducible rfl) | ((with_reducible refine lk_t ?_); exact rfl) | ((with_reducible refine pf_t ?_); exact rfl) | refine tell ?_ | exact True.intro | (refine IsT.of ?_; kernel_rfl))
  all_goals ((try refine Tell.mk ?_); first | with_reducible rfl | ((show (_ : Int) ≤ _); decide) | ((show (_ : Int) < _); decide) | (with_reducible refine gb_t ?_; with_reducible assumption) | with_reducible assumption | (with_reducible refine gb_f ?_; with_reducible assumption) | (simp only [rayV, *, cond_true, cond_false]; done) | ((with_reducible refine ks_t ?_); rfl) | ((with_reducible refine pk_t ?_); rfl) | ((with_reducible refine pf_t ?_); rfl) | ((with_reducible refine lk_t ?_); rfl) | ((with_reducible refine okF_t ?_); kernel_rfl) | grind [gb, rayV])
def rayfine_k : Con Tryz.prog := ⟨26, fun args => match args with | [.agg [.flt a, .flt b, .flt c, .flt d, .flt e, .flt f, .flt l]] => .ok (none) (.int .i64 (rayV a b c d e f l)) | _ => .no, by
  intro args p r h hp
  split at h
  · cases h; exact rayfine_a _ _ _ _ _ _ _
  · cases h⟩
theorem rayfineR_f : FnOk Tryz.prog 28 Tryz.f28 := ⟨Tryz.func28, by kernel_rfl⟩
theorem rayfineR_a (a b c d e f l : Nat) : ACalls Tryz.prog 28 [.agg [.flt a, .flt b, .flt c, .flt d, .flt e, .flt f, .flt l]] (.int .i64 (rayV a b c d e f l)) := by
  refine acalls_of (inl := hasI (P := Tryz.prog) [] []) (base [fineR_k, nearR_k, cleanR_k, axis_k] [] []) 0 rayfineR_f (And.intro (by kernel_rfl) ?_)
  repeat' (first | refine And.intro ?_ ?_ | refine num_lit 0 (by decide) ?_ | refine num_lit 1 (by decide) ?_ | refine num_lit 2 (by decide) ?_ | refine num_lit 3 (by decide) ?_ | refine num_lit 4 (by decide) ?_ | refine num_lit 5 (by decide) ?_ | refine num_lit 6 (by decide) ?_ | refine num_lit 7 (by decide) ?_ | refine num_lit 8 (by decide) ?_ | refine num_elim ?_ | (with_reducible exact ff_elim) | (with_reducible exact tf_elim) | (intro h; exact absurd h (by decide)) | intro _ | (with_reducible rfl) | refine Or.inl ⟨4, ?_⟩ | refine tell ?_ | exact True.intro | (refine IsT.of ?_; kernel_rfl))
  all_goals ((try refine Tell.mk ?_); first | with_reducible rfl | ((show (_ : Int) ≤ _); decide) | ((show (_ : Int) < _); decide) | (with_reducible refine gb_t ?_; with_reducible assumption) | with_reducible assumption | (with_reducible refine gb_f ?_; with_reducible assumption) | (simp only [rayV, axV0, axV1, axV2, *, cond_true, cond_false]; done) | ((with_reducible refine ks_t ?_); rfl) | ((with_reducible refine pk_t ?_); rfl) | ((with_reducible refine pf_t ?_); rfl) | ((with_reducible refine lk_t ?_); rfl) | ((with_reducible refine okF_t ?_); kernel_rfl) | grind [gb, rayV, axV0, axV1, axV2])
def rayfineR_k : Con Tryz.prog := ⟨28, fun args => match args with | [.agg [.flt a, .flt b, .flt c, .flt d, .flt e, .flt f, .flt l]] => .ok (none) (.int .i64 (rayV a b c d e f l)) | _ => .no, by
  intro args p r h hp
  split at h
  · cases h; exact rayfineR_a _ _ _ _ _ _ _
  · cases h⟩
def sameV (a b : Nat) : Bool := bif !(feq a a) || !(feq b b) then !(feq a a) && !(feq b b) else feq a b && (!(feq a 0) || feq (F .quo 4607182418800017408 a) (F .quo 4607182418800017408 b))
theorem same_f : FnOk Tryz.prog 30 Tryz.f30 := ⟨Tryz.func30, by kernel_rfl⟩
theorem same_a (a b : Nat) : ACalls Tryz.prog 30 [.flt a, .flt b] (.bool (sameV a b)) := by
  refine acalls_of (inl := hasI (P := Tryz.prog) [] []) (base [] [] []) 0 same_f (And.intro (by kernel_rfl) ?_)
  repeat' (first | refine And.intro ?_ ?_ | (with_reducible exact ff_elim) | (with_reducible exact tf_elim) | intro _ | (with_reducible rfl) | ((with_reducible refine lk_t ?_); exact rfl) | ((with_reducible refine pf_t ?_); exact rfl) | refine tell ?_ | exact True.intro | (refine IsT.of ?_; kernel_rfl))
  all_goals ((try refine Tell.mk ?_); first | with_reducible rfl | ((show (_ : Int) ≤ _); decide) | ((show (_ : Int) < _); decide) | (with_reducible refine gb_t ?_; with_reducible assumption) | with_reducible assumption | (with_reducible refine gb_f ?_; with_reducible assumption) | (simp only [sameV, *, cond_true, cond_false]; done) | ((with_reducible refine ks_t ?_); rfl) | ((with_reducible refine pk_t ?_); rfl) | ((with_reducible refine pf_t ?_); rfl) | ((with_reducible refine lk_t ?_); rfl) | ((with_reducible refine okF_t ?_); kernel_rfl) | grind [gb, sameV])
def same_k : Con Tryz.prog := ⟨30, fun args => match args with | [.flt a, .flt b] => .ok (none) (.bool (sameV a b)) | _ => .no, by
  intro args p r h hp
  split at h
  · cases h; exact same_a _ _
  · cases h⟩
theorem samevec_f : FnOk Tryz.prog 17 Tryz.f17 := ⟨Tryz.func17, by kernel_rfl⟩
theorem samevec_a (a b c d e f : Nat) : ACalls Tryz.prog 17 [.agg [.flt a, .flt b, .flt c], .agg [.flt d, .flt e, .flt f]] (.bool (sameV a d && (sameV b e && sameV c f))) := by
  refine acalls_of (inl := hasI (P := Tryz.prog) [] []) (base [same_k] [] []) 0 samevec_f (And.intro (by kernel_rfl) ?_)
  repeat' (first | refine And.intro ?_ ?_ | (with_reducible exact ff_elim) | (with_reducible exact tf_elim) | intro _ | (with_reducible rfl) | ((with_reducible refine lk_t ?_); exact rfl) | ((with_reducible refine pf_t ?_); exact rfl) | refine tell ?_ | exact True.intro | (refine IsT.of ?_; kernel_rfl))
  all_goals ((try refine Tell.mk ?_); first | with_reducible rfl | ((show (_ : Int) ≤ _); decide) | ((show (_ : Int) < _); decide) | (with_reducible refine gb_t ?_; with_reducible assumption) | with_reducible assumption | (with_reducible refine gb_f ?_; with_reducible assumption) | (simp only [gb, *, cond_true, cond_false]; done) | ((with_reducible refine ks_t ?_); rfl) | ((with_reducible refine pk_t ?_); rfl) | ((with_reducible refine pf_t ?_); rfl) | ((with_reducible refine lk_t ?_); rfl) | ((with_reducible refine okF_t ?_); kernel_rfl) | grind [gb])
def samevec_k : Con Tryz.prog := ⟨17, fun args => match args with | [.agg [.flt a, .flt b, .flt c], .agg [.flt d, .flt e, .flt f]] => .ok (none) (.bool (sameV a d && (sameV b e && sameV c f))) | _ => .no, by
  intro args p r h hp
  split at h
  · cases h; exact samevec_a _ _ _ _ _ _
  · cases h⟩
theorem samebox_f : FnOk Tryz.prog 9 Tryz.f9 := ⟨Tryz.func9, by kernel_rfl⟩
theorem samebox_a (a b c d e f a' b' c' d' e' f' : Nat) : ACalls Tryz.prog 9 [.agg [.flt a, .flt b, .flt c, .flt d, .flt e, .flt f], .agg [.flt a', .flt b', .flt c', .flt d', .flt e', .flt f']] (.bool ((sameV a a' && (sameV b b' && sameV c c')) && (sameV d d' && (sameV e e' && sameV f f')))) := by
  refine acalls_of (inl := hasI (P := Tryz.prog) [] []) (base [samevec_k] [] []) 0 samebox_f (And.intro (by kernel_rfl) ?_)
  repeat' (first | refine And.intro ?_ ?_ | (with_reducible exact ff_elim) | (with_reducible exact tf_elim) | intro _ | (with_reducible rfl) | ((with_reducible refine lk_t ?_); exact rfl) | ((with_reducible refine pf_t ?_); exact rfl) | refine tell ?_ | exact True.intro | (refine IsT.of ?_; kernel_rfl))
  all_goals ((try refine Tell.mk ?_); first | with_reducible rfl | ((show (_ : Int) ≤ _); decide) | ((show (_ : Int) < _); decide) | (with_reducible refine gb_t ?_; with_reducible assumption) | with_reducible assumption | (with_reducible refine gb_f ?_; with_reducible assumption) | (simp only [gb, *, cond_true, cond_false]; done) | ((with_reducible refine ks_t ?_); rfl) | ((with_reducible refine pk_t ?_); rfl) | ((with_reducible refine pf_t ?_); rfl) | ((with_reducible refine lk_t ?_); rfl) | ((with_reducible refine okF_t ?_); kernel_rfl) | grind [gb])
def samebox_k : Con Tryz.prog := ⟨9, fun args => match args with | [.agg [.flt a, .flt b, .flt c, .flt d, .flt e, .flt f], .agg [.flt a', .flt b', .flt c', .flt d', .flt e', .flt f']] => .ok (none) (.bool ((sameV a a' && (sameV b b' && sameV c c')) && (sameV d d' && (sameV e e' && sameV f f')))) | _ => .no, by
  intro args p r h hp
  split at h
  · cases h; exact samebox_a _ _ _ _ _ _ _ _ _ _ _ _
  · cases h⟩
end Go.Proofs.YtgbcnfcgljbbgaaGreat
