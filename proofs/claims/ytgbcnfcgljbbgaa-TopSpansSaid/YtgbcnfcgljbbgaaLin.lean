/- Vectors: sums, products, lengths; by the abstract machine. -/
import Derived.Test.YtgbcnfcgljbbgaaSlabC
namespace Go.Proofs.Ytgbcnfcgljbbgaa
open Go.RowKit Ev
set_option linter.unusedVariables false
set_option linter.unusedSimpArgs false
set_option maxRecDepth 20000
set_option maxHeartbeats 4000000

def dotV (a b c d e f : Nat) : Nat := F .add (F .add (F .mul a d) (F .mul b e)) (F .mul c f)
def crsV (b c e f : Nat) : Nat := F .sub (F .mul b f) (F .mul c e)
def lenV (a b c : Nat) : Nat := sq (dotV a b c a b c)
def unitB (a b c : Nat) : Bool := fineB a b c && !(feq (lenV a b c) 0)
def unitE (a b c : Nat) : Int := bif fineB a b c then (bif feq (lenV a b c) 0 then 2 else 0) else 1
def unitV (a b c x : Nat) : Nat := bif fineB a b c then (bif feq (lenV a b c) 0 then 0 else F .quo x (lenV a b c)) else 0
theorem find_sqrt : Extern.find Try.f50 = some Extern.MathSqrt.sqrt := by kernel_rfl
theorem sqx_a (x : Nat) : ACalls Try.prog 50 [.flt x] (.flt (sq x)) := by
  intro w Im vals hIm ht
  cases ht with
  | cons h t =>
    cases t
    obtain ⟨b, rfl, hb⟩ := h.inv_flt
    have e : (callFunc 50 [Value.float .f64 b].toArray).run Try.prog w = .ok (.value (.float .f64 (sval w b))) (w.drewN (sdr b)) := by
      rw [run_callFunc_extern Try.func50 (by kernel_rfl) (by kernel_rfl) (by kernel_rfl) find_sqrt, run_sqrt]
      rfl
    rw [e]
    exact ⟨below_drewN (Below.refl _ _) _, .flt _ _ (by rw [cn_sval, hb])⟩
def sqx_k : Con Try.prog := ⟨50, fun args => match args with | [.flt x] => .ok none (.flt (sq x)) | _ => .no, by
  intro args p r h hp
  split at h
  · cases h; exact sqx_a _
  · cases h⟩
theorem sqrt_f : FnOk Try.prog 48 Try.f48 := ⟨Try.func48, by kernel_rfl⟩
theorem sqrt_a (x : Nat) : ACalls Try.prog 48 [.flt x] (.flt (sq x)) := by
  refine acalls_of (inl := hasI (P := Try.prog) [] []) (base [sqx_k] [] []) 0 sqrt_f (And.intro (by kernel_rfl) ?_)
  repeat' (first | refine And.intro ?_ ?_ | (with_reducible exact ff_elim) | (with_reducible exact tf_elim) | intro _ | (with_reducible rfl) | ((with_reducible refine lk_t ?_); exact rfl) | ((with_reducible refine pf_t ?_); exact rfl) | refine tell ?_ | exact True.intro | (refine IsT.of ?_; kernel_rfl))
  all_goals ((try refine Tell.mk ?_); first | with_reducible rfl | ((show (_ : Int) ≤ _); decide) | ((show (_ : Int) < _); decide) | (with_reducible refine gb_t ?_; with_reducible assumption) | with_reducible assumption | (with_reducible refine gb_f ?_; with_reducible assumption) | (simp only [gb, *, cond_true, cond_false]; done) | ((with_reducible refine ks_t ?_); rfl) | ((with_reducible refine pk_t ?_); rfl) | ((with_reducible refine pf_t ?_); rfl) | ((with_reducible refine lk_t ?_); rfl) | ((with_reducible refine okF_t ?_); kernel_rfl) | grind [gb])
def sqrt_k : Con Try.prog := ⟨48, fun args => match args with | [.flt x] => .ok (none) (.flt (sq x)) | _ => .no, by
  intro args p r h hp
  split at h
  · cases h; exact sqrt_a _
  · cases h⟩
theorem add_f : FnOk Try.prog 73 Try.f73 := ⟨Try.func73, by kernel_rfl⟩
theorem add_a (a b c d e f : Nat) : ACalls Try.prog 73 [.agg [.flt a, .flt b, .flt c], .agg [.flt d, .flt e, .flt f]] (.agg [.flt (F .add a d), .flt (F .add b e), .flt (F .add c f)]) := by
  refine acalls_of (inl := hasI (P := Try.prog) [] []) (base [] [] []) 0 add_f (And.intro (by kernel_rfl) ?_)
  repeat' (first | refine And.intro ?_ ?_ | (with_reducible exact ff_elim) | (with_reducible exact tf_elim) | intro _ | (with_reducible rfl) | ((with_reducible refine lk_t ?_); exact rfl) | ((with_reducible refine pf_t ?_); exact rfl) | refine tell ?_ | exact True.intro | (refine IsT.of ?_; kernel_rfl))
  all_goals ((try refine Tell.mk ?_); first | with_reducible rfl | ((show (_ : Int) ≤ _); decide) | ((show (_ : Int) < _); decide) | (with_reducible refine gb_t ?_; with_reducible assumption) | with_reducible assumption | (with_reducible refine gb_f ?_; with_reducible assumption) | (simp only [gb, *, cond_true, cond_false]; done) | ((with_reducible refine ks_t ?_); rfl) | ((with_reducible refine pk_t ?_); rfl) | ((with_reducible refine pf_t ?_); rfl) | ((with_reducible refine lk_t ?_); rfl) | ((with_reducible refine okF_t ?_); kernel_rfl) | grind [gb])
def add_k : Con Try.prog := ⟨73, fun args => match args with | [.agg [.flt a, .flt b, .flt c], .agg [.flt d, .flt e, .flt f]] => .ok (none) (.agg [.flt (F .add a d), .flt (F .add b e), .flt (F .add c f)]) | _ => .no, by
  intro args p r h hp
  split at h
  · cases h; exact add_a _ _ _ _ _ _
  · cases h⟩
theorem addR_f : FnOk Try.prog 28 Try.f28 := ⟨Try.func28, by kernel_rfl⟩
theorem addR_a (a b c d e f : Nat) : ACalls Try.prog 28 [.agg [.flt a, .flt b, .flt c], .agg [.flt d, .flt e, .flt f]] (.agg [.flt (F .add a d), .flt (F .add b e), .flt (F .add c f)]) := by
  refine acalls_of (inl := hasI (P := Try.prog) [] []) (base [] [] []) 0 addR_f (And.intro (by kernel_rfl) ?_)
  repeat' (first | refine And.intro ?_ ?_ | (with_reducible exact ff_elim) | (with_reducible exact tf_elim) | intro _ | (with_reducible rfl) | ((with_reducible refine lk_t ?_); exact rfl) | ((with_reducible refine pf_t ?_); exact rfl) | refine tell ?_ | exact True.intro | (refine IsT.of ?_; kernel_rfl))
  all_goals ((try refine Tell.mk ?_); first | with_reducible rfl | ((show (_ : Int) ≤ _); decide) | ((show (_ : Int) < _); decide) | (with_reducible refine gb_t ?_; with_reducible assumption) | with_reducible assumption | (with_reducible refine gb_f ?_; with_reducible assumption) | (simp only [gb, *, cond_true, cond_false]; done) | ((with_reducible refine ks_t ?_); rfl) | ((with_reducible refine pk_t ?_); rfl) | ((with_reducible refine pf_t ?_); rfl) | ((with_reducible refine lk_t ?_); rfl) | ((with_reducible refine okF_t ?_); kernel_rfl) | grind [gb])
def addR_k : Con Try.prog := ⟨28, fun args => match args with | [.agg [.flt a, .flt b, .flt c], .agg [.flt d, .flt e, .flt f]] => .ok (none) (.agg [.flt (F .add a d), .flt (F .add b e), .flt (F .add c f)]) | _ => .no, by
  intro args p r h hp
  split at h
  · cases h; exact addR_a _ _ _ _ _ _
  · cases h⟩
theorem sub_f : FnOk Try.prog 72 Try.f72 := ⟨Try.func72, by kernel_rfl⟩
theorem sub_a (a b c d e f : Nat) : ACalls Try.prog 72 [.agg [.flt a, .flt b, .flt c], .agg [.flt d, .flt e, .flt f]] (.agg [.flt (F .sub a d), .flt (F .sub b e), .flt (F .sub c f)]) := by
  refine acalls_of (inl := hasI (P := Try.prog) [] []) (base [] [] []) 0 sub_f (And.intro (by kernel_rfl) ?_)
  repeat' (first | refine And.intro ?_ ?_ | (with_reducible exact ff_elim) | (with_reducible exact tf_elim) | intro _ | (with_reducible rfl) | ((with_reducible refine lk_t ?_); exact rfl) | ((with_reducible refine pf_t ?_); exact rfl) | refine tell ?_ | exact True.intro | (refine IsT.of ?_; kernel_rfl))
  all_goals ((try refine Tell.mk ?_); first | with_reducible rfl | ((show (_ : Int) ≤ _); decide) | ((show (_ : Int) < _); decide) | (with_reducible refine gb_t ?_; with_reducible assumption) | with_reducible assumption | (with_reducible refine gb_f ?_; with_reducible assumption) | (simp only [gb, *, cond_true, cond_false]; done) | ((with_reducible refine ks_t ?_); rfl) | ((with_reducible refine pk_t ?_); rfl) | ((with_reducible refine pf_t ?_); rfl) | ((with_reducible refine lk_t ?_); rfl) | ((with_reducible refine okF_t ?_); kernel_rfl) | grind [gb])
def sub_k : Con Try.prog := ⟨72, fun args => match args with | [.agg [.flt a, .flt b, .flt c], .agg [.flt d, .flt e, .flt f]] => .ok (none) (.agg [.flt (F .sub a d), .flt (F .sub b e), .flt (F .sub c f)]) | _ => .no, by
  intro args p r h hp
  split at h
  · cases h; exact sub_a _ _ _ _ _ _
  · cases h⟩
theorem scaleR_f : FnOk Try.prog 26 Try.f26 := ⟨Try.func26, by kernel_rfl⟩
theorem scaleR_a (a b c k : Nat) : ACalls Try.prog 26 [.agg [.flt a, .flt b, .flt c], .flt k] (.agg [.flt (F .mul a k), .flt (F .mul b k), .flt (F .mul c k)]) := by
  refine acalls_of (inl := hasI (P := Try.prog) [] []) (base [] [] []) 0 scaleR_f (And.intro (by kernel_rfl) ?_)
  repeat' (first | refine And.intro ?_ ?_ | (with_reducible exact ff_elim) | (with_reducible exact tf_elim) | intro _ | (with_reducible rfl) | ((with_reducible refine lk_t ?_); exact rfl) | ((with_reducible refine pf_t ?_); exact rfl) | refine tell ?_ | exact True.intro | (refine IsT.of ?_; kernel_rfl))
  all_goals ((try refine Tell.mk ?_); first | with_reducible rfl | ((show (_ : Int) ≤ _); decide) | ((show (_ : Int) < _); decide) | (with_reducible refine gb_t ?_; with_reducible assumption) | with_reducible assumption | (with_reducible refine gb_f ?_; with_reducible assumption) | (simp only [gb, *, cond_true, cond_false]; done) | ((with_reducible refine ks_t ?_); rfl) | ((with_reducible refine pk_t ?_); rfl) | ((with_reducible refine pf_t ?_); rfl) | ((with_reducible refine lk_t ?_); rfl) | ((with_reducible refine okF_t ?_); kernel_rfl) | grind [gb])
def scaleR_k : Con Try.prog := ⟨26, fun args => match args with | [.agg [.flt a, .flt b, .flt c], .flt k] => .ok (none) (.agg [.flt (F .mul a k), .flt (F .mul b k), .flt (F .mul c k)]) | _ => .no, by
  intro args p r h hp
  split at h
  · cases h; exact scaleR_a _ _ _ _
  · cases h⟩
theorem over_f : FnOk Try.prog 47 Try.f47 := ⟨Try.func47, by kernel_rfl⟩
theorem over_a (a b c k : Nat) : ACalls Try.prog 47 [.agg [.flt a, .flt b, .flt c], .flt k] (.agg [.flt (F .quo a k), .flt (F .quo b k), .flt (F .quo c k)]) := by
  refine acalls_of (inl := hasI (P := Try.prog) [] []) (base [] [] []) 0 over_f (And.intro (by kernel_rfl) ?_)
  repeat' (first | refine And.intro ?_ ?_ | (with_reducible exact ff_elim) | (with_reducible exact tf_elim) | intro _ | (with_reducible rfl) | ((with_reducible refine lk_t ?_); exact rfl) | ((with_reducible refine pf_t ?_); exact rfl) | refine tell ?_ | exact True.intro | (refine IsT.of ?_; kernel_rfl))
  all_goals ((try refine Tell.mk ?_); first | with_reducible rfl | ((show (_ : Int) ≤ _); decide) | ((show (_ : Int) < _); decide) | (with_reducible refine gb_t ?_; with_reducible assumption) | with_reducible assumption | (with_reducible refine gb_f ?_; with_reducible assumption) | (simp only [gb, *, cond_true, cond_false]; done) | ((with_reducible refine ks_t ?_); rfl) | ((with_reducible refine pk_t ?_); rfl) | ((with_reducible refine pf_t ?_); rfl) | ((with_reducible refine lk_t ?_); rfl) | ((with_reducible refine okF_t ?_); kernel_rfl) | grind [gb])
def over_k : Con Try.prog := ⟨47, fun args => match args with | [.agg [.flt a, .flt b, .flt c], .flt k] => .ok (none) (.agg [.flt (F .quo a k), .flt (F .quo b k), .flt (F .quo c k)]) | _ => .no, by
  intro args p r h hp
  split at h
  · cases h; exact over_a _ _ _ _
  · cases h⟩
theorem dot_f : FnOk Try.prog 49 Try.f49 := ⟨Try.func49, by kernel_rfl⟩
theorem dot_a (a b c d e f : Nat) : ACalls Try.prog 49 [.agg [.flt a, .flt b, .flt c], .agg [.flt d, .flt e, .flt f]] (.flt (dotV a b c d e f)) := by
  refine acalls_of (inl := hasI (P := Try.prog) [] []) (base [] [] []) 0 dot_f (And.intro (by kernel_rfl) ?_)
  repeat' (first | refine And.intro ?_ ?_ | (with_reducible exact ff_elim) | (with_reducible exact tf_elim) | intro _ | (with_reducible rfl) | ((with_reducible refine lk_t ?_); exact rfl) | ((with_reducible refine pf_t ?_); exact rfl) | refine tell ?_ | exact True.intro | (refine IsT.of ?_; kernel_rfl))
  all_goals ((try refine Tell.mk ?_); first | with_reducible rfl | ((show (_ : Int) ≤ _); decide) | ((show (_ : Int) < _); decide) | (with_reducible refine gb_t ?_; with_reducible assumption) | with_reducible assumption | (with_reducible refine gb_f ?_; with_reducible assumption) | (simp only [dotV, *, cond_true, cond_false]; done) | ((with_reducible refine ks_t ?_); rfl) | ((with_reducible refine pk_t ?_); rfl) | ((with_reducible refine pf_t ?_); rfl) | ((with_reducible refine lk_t ?_); rfl) | ((with_reducible refine okF_t ?_); kernel_rfl) | grind [gb, dotV])
def dot_k : Con Try.prog := ⟨49, fun args => match args with | [.agg [.flt a, .flt b, .flt c], .agg [.flt d, .flt e, .flt f]] => .ok (none) (.flt (dotV a b c d e f)) | _ => .no, by
  intro args p r h hp
  split at h
  · cases h; exact dot_a _ _ _ _ _ _
  · cases h⟩
theorem length_f : FnOk Try.prog 46 Try.f46 := ⟨Try.func46, by kernel_rfl⟩
theorem length_a (a b c : Nat) : ACalls Try.prog 46 [.agg [.flt a, .flt b, .flt c]] (.flt (lenV a b c)) := by
  refine acalls_of (inl := hasI (P := Try.prog) [] []) (base [dot_k, sqrt_k] [] []) 0 length_f (And.intro (by kernel_rfl) ?_)
  repeat' (first | refine And.intro ?_ ?_ | (with_reducible exact ff_elim) | (with_reducible exact tf_elim) | intro _ | (with_reducible rfl) | ((with_reducible refine lk_t ?_); exact rfl) | ((with_reducible refine pf_t ?_); exact rfl) | refine tell ?_ | exact True.intro | (refine IsT.of ?_; kernel_rfl))
  all_goals ((try refine Tell.mk ?_); first | with_reducible rfl | ((show (_ : Int) ≤ _); decide) | ((show (_ : Int) < _); decide) | (with_reducible refine gb_t ?_; with_reducible assumption) | with_reducible assumption | (with_reducible refine gb_f ?_; with_reducible assumption) | (simp only [lenV, *, cond_true, cond_false]; done) | ((with_reducible refine ks_t ?_); rfl) | ((with_reducible refine pk_t ?_); rfl) | ((with_reducible refine pf_t ?_); rfl) | ((with_reducible refine lk_t ?_); rfl) | ((with_reducible refine okF_t ?_); kernel_rfl) | grind [gb, lenV])
def length_k : Con Try.prog := ⟨46, fun args => match args with | [.agg [.flt a, .flt b, .flt c]] => .ok (none) (.flt (lenV a b c)) | _ => .no, by
  intro args p r h hp
  split at h
  · cases h; exact length_a _ _ _
  · cases h⟩
theorem unit_f : FnOk Try.prog 43 Try.f43 := ⟨Try.func43, by kernel_rfl⟩
theorem unit_a (a b c : Nat) : ACalls Try.prog 43 [.agg [.flt a, .flt b, .flt c]] (.tup [.agg [.flt (unitV a b c a), .flt (unitV a b c b), .flt (unitV a b c c)], .int .i64 (unitE a b c)]) := by
  refine acalls_of (inl := hasI (P := Try.prog) [] []) (base [fine_k, length_k, over_k] [] []) 0 unit_f (And.intro (by kernel_rfl) ?_)
  repeat' (first | refine And.intro ?_ ?_ | (with_reducible exact ff_elim) | (with_reducible exact tf_elim) | intro _ | (with_reducible rfl) | ((with_reducible refine lk_t ?_); exact rfl) | ((with_reducible refine pf_t ?_); exact rfl) | refine tell ?_ | exact True.intro | (refine IsT.of ?_; kernel_rfl))
  all_goals ((try refine Tell.mk ?_); first | with_reducible rfl | ((show (_ : Int) ≤ _); decide) | ((show (_ : Int) < _); decide) | (with_reducible refine gb_t ?_; with_reducible assumption) | with_reducible assumption | (with_reducible refine gb_f ?_; with_reducible assumption) | (simp only [unitV, unitE, *, cond_true, cond_false]; done) | ((with_reducible refine ks_t ?_); rfl) | ((with_reducible refine pk_t ?_); rfl) | ((with_reducible refine pf_t ?_); rfl) | ((with_reducible refine lk_t ?_); rfl) | ((with_reducible refine okF_t ?_); kernel_rfl) | grind [gb, unitV, unitE])
def unit_k : Con Try.prog := ⟨43, fun args => match args with | [.agg [.flt a, .flt b, .flt c]] => .ok (none) (.tup [.agg [.flt (unitV a b c a), .flt (unitV a b c b), .flt (unitV a b c c)], .int .i64 (unitE a b c)]) | _ => .no, by
  intro args p r h hp
  split at h
  · cases h; exact unit_a _ _ _
  · cases h⟩
end Go.Proofs.Ytgbcnfcgljbbgaa
