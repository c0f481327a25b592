/- Vectors: sums, products, lengths; by the abstract machine. -/
import Derived.Test.YtgbcnfcgljbbgaaGreatSlabC
namespace Go.Proofs.YtgbcnfcgljbbgaaGreat
open Go.RowKit Ev
set_option linter.unusedVariables false
set_option linter.unusedSimpArgs false
set_option maxRecDepth 20000
set_option maxHeartbeats 4000000

def dotV (a b c d e f : Nat) : Nat := F .add (F .add (F .mul a d) (F .mul b e)) (F .mul c f)
def crsV (b c e f : Nat) : Nat := F .sub (F .mul b f) (F .mul c e)
def lenV (a b c : Nat) : Nat := sq (dotV a b c a b c)
def unitB (a b c : Nat) : Bool := fineB a b c && !(feq (lenV a b c) 0)
def unitE (a b c : Nat) : Int := bif fineB a b c then (bif feq (lenV a b c) 0 then 2 else 0) else 1
def unitV (a b c x : Nat) : Nat := bif fineB a b c then (bif feq (lenV a b c) 0 then 0 else F .quo x (lenV a b c)) else 0
theorem find_sqrt : Extern.find Tryz.f106 = some Extern.MathSqrt.sqrt := by kernel_rfl
theorem sqx_a (x : Nat) : ACalls Tryz.prog 106 [.flt x] (.flt (sq x)) := by
  intro w Im vals hIm ht
  cases ht with
  | cons h t =>
    cases t
    obtain ⟨b, rfl, hb⟩ := h.inv_flt
    have e : (callFunc 106 [Value.float .f64 b].toArray).run Tryz.prog w = .ok (.value (.float .f64 (sval w b))) (w.drewN (sdr b)) := by
      rw [run_callFunc_extern Tryz.func106 (by kernel_rfl) (by kernel_rfl) (by kernel_rfl) find_sqrt, run_sqrt]
      rfl
    rw [e]
    exact ⟨below_drewN (Below.refl _ _) _, .flt _ _ (by rw [cn_sval, hb])⟩
def sqx_k : Con Tryz.prog := ⟨106, fun args => match args with | [.flt x] => .ok none (.flt (sq x)) | _ => .no, by
  intro args p r h hp
  split at h
  · cases h; exact sqx_a _
  · cases h⟩
theorem sqrt_f : FnOk Tryz.prog 96 Tryz.f96 := ⟨Tryz.func96, by kernel_rfl⟩
theorem sqrt_a (x : Nat) : ACalls Tryz.prog 96 [.flt x] (.flt (sq x)) := by
  refine acalls_of (inl := hasI (P := Tryz.prog) [] []) (base [sqx_k] [] []) 0 sqrt_f (And.intro (by kernel_rfl) ?_)
  repeat' (first | refine And.intro ?_ ?_ | (with_reducible exact ff_elim) | (with_reducible exact tf_elim) | intro _ | (with_reducible rfl) | ((with_reducible refine lk_t ?_); exact rfl) | ((with_reducible refine pf_t ?_); exact rfl) | refine tell ?_ | exact True.intro | (refine IsT.of ?_; kernel_rfl))
  all_goals ((try refine Tell.mk ?_); first | with_reducible rfl | ((show (_ : Int) ≤ _); decide) | ((show (_ : Int) < _); decide) | (with_reducible refine gb_t ?_; with_reducible assumption) | with_reducible assumption | (with_reducible refine gb_f ?_; with_reducible assumption) | (simp only [gb, *, cond_true, cond_false]; done) | ((with_reducible refine ks_t ?_); rfl) | ((with_reducible refine pk_t ?_); rfl) | ((with_reducible refine pf_t ?_); rfl) | ((with_reducible refine lk_t ?_); rfl) | ((with_reducible refine okF_t ?_); kernel_rfl) | grind [gb])
def sqrt_k : Con Tryz.prog := ⟨96, fun args => match args with | [.flt x] => .ok (none) (.flt (sq x)) | _ => .no, by
  intro args p r h hp
  split at h
  · cases h; exact sqrt_a _
  · cases h⟩
theorem add_f : FnOk Tryz.prog 131 Tryz.f131 := ⟨Tryz.func131, by kernel_rfl⟩
theorem add_a (a b c d e f : Nat) : ACalls Tryz.prog 131 [.agg [.flt a, .flt b, .flt c], .agg [.flt d, .flt e, .flt f]] (.agg [.flt (F .add a d), .flt (F .add b e), .flt (F .add c f)]) := by
  refine acalls_of (inl := hasI (P := Tryz.prog) [] []) (base [] [] []) 0 add_f (And.intro (by kernel_rfl) ?_)
  repeat' (first | refine And.intro ?_ ?_ | (with_reducible exact ff_elim) | (with_reducible exact tf_elim) | intro _ | (with_reducible rfl) | ((with_reducible refine lk_t ?_); exact rfl) | ((with_reducible refine pf_t ?_); exact rfl) | refine tell ?_ | exact True.intro | (refine IsT.of ?_; kernel_rfl))
  all_goals ((try refine Tell.mk ?_); first | with_reducible rfl | ((show (_ : Int) ≤ _); decide) | ((show (_ : Int) < _); decide) | (with_reducible refine gb_t ?_; with_reducible assumption) | with_reducible assumption | (with_reducible refine gb_f ?_; with_reducible assumption) | (simp only [gb, *, cond_true, cond_false]; done) | ((with_reducible refine ks_t ?_); rfl) | ((with_reducible refine pk_t ?_); rfl) | ((with_reducible refine pf_t ?_); rfl) | ((with_reducible refine lk_t ?_); rfl) | ((with_reducible refine okF_t ?_); kernel_rfl) | grind [gb])
def add_k : Con Tryz.prog := ⟨131, fun args => match args with | [.agg [.flt a, .flt b, .flt c], .agg [.flt d, .flt e, .flt f]] => .ok (none) (.agg [.flt (F .add a d), .flt (F .add b e), .flt (F .add c f)]) | _ => .no, by
  intro args p r h hp
  split at h
  · cases h; exact add_a _ _ _ _ _ _
  · cases h⟩
theorem addR_f : FnOk Tryz.prog 81 Tryz.f81 := ⟨Tryz.func81, by kernel_rfl⟩
theorem addR_a (a b c d e f : Nat) : ACalls Tryz.prog 81 [.agg [.flt a, .flt b, .flt c], .agg [.flt d, .flt e, .flt f]] (.agg [.flt (F .add a d), .flt (F .add b e), .flt (F .add c f)]) := by
  refine acalls_of (inl := hasI (P := Tryz.prog) [] []) (base [] [] []) 0 addR_f (And.intro (by kernel_rfl) ?_)
  repeat' (first | refine And.intro ?_ ?_ | (with_reducible exact ff_elim) | (with_reducible exact tf_elim) | intro _ | (with_reducible rfl) | ((with_reducible refine lk_t ?_); exact rfl) | ((with_reducible refine pf_t ?_); exact rfl) | refine tell ?_ | exact True.intro | (refine IsT.of ?_; kernel_rfl))
  all_goals ((try refine Tell.mk ?_); first | with_reducible rfl | ((show (_ : Int) ≤ _); decide) | ((show (_ : Int) < _); decide) | (with_reducible refine gb_t ?_; with_reducible assumption) | with_reducible assumption | (with_reducible refine gb_f ?_; with_reducible assumption) | (simp only [gb, *, cond_true, cond_false]; done) | ((with_reducible refine ks_t ?_); rfl) | ((with_reducible refine pk_t ?_); rfl) | ((with_reducible refine pf_t ?_); rfl) | ((with_reducible refine lk_t ?_); rfl) | ((with_reducible refine okF_t ?_); kernel_rfl) | grind [gb])
def addR_k : Con Tryz.prog := ⟨81, fun args => match args with | [.agg [.flt a, .flt b, .flt c], .agg [.flt d, .flt e, .flt f]] => .ok (none) (.agg [.flt (F .add a d), .flt (F .add b e), .flt (F .add c f)]) | _ => .no, by
  intro args p r h hp
  split at h
  · cases h; exact addR_a _ _ _ _ _ _
  · cases h⟩
theorem sub_f : FnOk Tryz.prog 129 Tryz.f129 := ⟨Tryz.func129, by kernel_rfl⟩
theorem sub_a (a b c d e f : Nat) : ACalls Tryz.prog 129 [.agg [.flt a, .flt b, .flt c], .agg [.flt d, .flt e, .flt f]] (.agg [.flt (F .sub a d), .flt (F .sub b e), .flt (F .sub c f)]) := by
  refine acalls_of (inl := hasI (P := Tryz.prog) [] []) (base [] [] []) 0 sub_f (And.intro (by kernel_rfl) ?_)
  repeat' (first | refine And.intro ?_ ?_ | (with_reducible exact ff_elim) | (with_reducible exact tf_elim) | intro _ | (with_reducible rfl) | ((with_reducible refine lk_t ?_); exact rfl) | ((with_reducible refine pf_t ?_); exact rfl) | refine tell ?_ | exact True.intro | (refine IsT.of ?_; kernel_rfl))
  all_goals ((try refine Tell.mk ?_); first | with_reducible rfl | ((show (_ : Int) ≤ _); decide) | ((show (_ : Int) < _); decide) | (with_reducible refine gb_t ?_; with_reducible assumption) | with_reducible assumption | (with_reducible refine gb_f ?_; with_reducible assumption) | (simp only [gb, *, cond_true, cond_false]; done) | ((with_reducible refine ks_t ?_); rfl) | ((with_reducible refine pk_t ?_); rfl) | ((with_reducible refine pf_t ?_); rfl) | ((with_reducible refine lk_t ?_); rfl) | ((with_reducible refine okF_t ?_); kernel_rfl) | grind [gb])
def sub_k : Con Tryz.prog := ⟨129, fun args => match args with | [.agg [.flt a, .flt b, .flt c], .agg [.flt d, .flt e, .flt f]] => .ok (none) (.agg [.flt (F .sub a d), .flt (F .sub b e), .flt (F .sub c f)]) | _ => .no, by
  intro args p r h hp
  split at h
  · cases h; exact sub_a _ _ _ _ _ _
  · cases h⟩
theorem subR_f : FnOk Tryz.prog 72 Tryz.f72 := ⟨Tryz.func72, by kernel_rfl⟩
theorem subR_a (a b c d e f : Nat) : ACalls Tryz.prog 72 [.agg [.flt a, .flt b, .flt c], .agg [.flt d, .flt e, .flt f]] (.agg [.flt (F .sub a d), .flt (F .sub b e), .flt (F .sub c f)]) := by
  refine acalls_of (inl := hasI (P := Tryz.prog) [] []) (base [] [] []) 0 subR_f (And.intro (by kernel_rfl) ?_)
  repeat' (first | refine And.intro ?_ ?_ | (with_reducible exact ff_elim) | (with_reducible exact tf_elim) | intro _ | (with_reducible rfl) | ((with_reducible refine lk_t ?_); exact rfl) | ((with_reducible refine pf_t ?_); exact rfl) | refine tell ?_ | exact True.intro | (refine IsT.of ?_; kernel_rfl))
  all_goals ((try refine Tell.mk ?_); first | with_reducible rfl | ((show (_ : Int) ≤ _); decide) | ((show (_ : Int) < _); decide) | (with_reducible refine gb_t ?_; with_reducible assumption) | with_reducible assumption | (with_reducible refine gb_f ?_; with_reducible assumption) | (simp only [gb, *, cond_true, cond_false]; done) | ((with_reducible refine ks_t ?_); rfl) | ((with_reducible refine pk_t ?_); rfl) | ((with_reducible refine pf_t ?_); rfl) | ((with_reducible refine lk_t ?_); rfl) | ((with_reducible refine okF_t ?_); kernel_rfl) | grind [gb])
def subR_k : Con Tryz.prog := ⟨72, fun args => match args with | [.agg [.flt a, .flt b, .flt c], .agg [.flt d, .flt e, .flt f]] => .ok (none) (.agg [.flt (F .sub a d), .flt (F .sub b e), .flt (F .sub c f)]) | _ => .no, by
  intro args p r h hp
  split at h
  · cases h; exact subR_a _ _ _ _ _ _
  · cases h⟩
theorem scale_f : FnOk Tryz.prog 37 Tryz.f37 := ⟨Tryz.func37, by kernel_rfl⟩
theorem scale_a (a b c k : Nat) : ACalls Tryz.prog 37 [.agg [.flt a, .flt b, .flt c], .flt k] (.agg [.flt (F .mul a k), .flt (F .mul b k), .flt (F .mul c k)]) := by
  refine acalls_of (inl := hasI (P := Tryz.prog) [] []) (base [] [] []) 0 scale_f (And.intro (by kernel_rfl) ?_)
  repeat' (first | refine And.intro ?_ ?_ | (with_reducible exact ff_elim) | (with_reducible exact tf_elim) | intro _ | (with_reducible rfl) | ((with_reducible refine lk_t ?_); exact rfl) | ((with_reducible refine pf_t ?_); exact rfl) | refine tell ?_ | exact True.intro | (refine IsT.of ?_; kernel_rfl))
  all_goals ((try refine Tell.mk ?_); first | with_reducible rfl | ((show (_ : Int) ≤ _); decide) | ((show (_ : Int) < _); decide) | (with_reducible refine gb_t ?_; with_reducible assumption) | with_reducible assumption | (with_reducible refine gb_f ?_; with_reducible assumption) | (simp only [gb, *, cond_true, cond_false]; done) | ((with_reducible refine ks_t ?_); rfl) | ((with_reducible refine pk_t ?_); rfl) | ((with_reducible refine pf_t ?_); rfl) | ((with_reducible refine lk_t ?_); rfl) | ((with_reducible refine okF_t ?_); kernel_rfl) | grind [gb])
def scale_k : Con Tryz.prog := ⟨37, fun args => match args with | [.agg [.flt a, .flt b, .flt c], .flt k] => .ok (none) (.agg [.flt (F .mul a k), .flt (F .mul b k), .flt (F .mul c k)]) | _ => .no, by
  intro args p r h hp
  split at h
  · cases h; exact scale_a _ _ _ _
  · cases h⟩
theorem scaleR_f : FnOk Tryz.prog 39 Tryz.f39 := ⟨Tryz.func39, by kernel_rfl⟩
theorem scaleR_a (a b c k : Nat) : ACalls Tryz.prog 39 [.agg [.flt a, .flt b, .flt c], .flt k] (.agg [.flt (F .mul a k), .flt (F .mul b k), .flt (F .mul c k)]) := by
  refine acalls_of (inl := hasI (P := Tryz.prog) [] []) (base [] [] []) 0 scaleR_f (And.intro (by kernel_rfl) ?_)
  repeat' (first | refine And.intro ?_ ?_ | (with_reducible exact ff_elim) | (with_reducible exact tf_elim) | intro _ | (with_reducible rfl) | ((with_reducible refine lk_t ?_); exact rfl) | ((with_reducible refine pf_t ?_); exact rfl) | refine tell ?_ | exact True.intro | (refine IsT.of ?_; kernel_rfl))
  all_goals ((try refine Tell.mk ?_); first | with_reducible rfl | ((show (_ : Int) ≤ _); decide) | ((show (_ : Int) < _); decide) | (with_reducible refine gb_t ?_; with_reducible assumption) | with_reducible assumption | (with_reducible refine gb_f ?_; with_reducible assumption) | (simp only [gb, *, cond_true, cond_false]; done) | ((with_reducible refine ks_t ?_); rfl) | ((with_reducible refine pk_t ?_); rfl) | ((with_reducible refine pf_t ?_); rfl) | ((with_reducible refine lk_t ?_); rfl) | ((with_reducible refine okF_t ?_); kernel_rfl) | grind [gb])
def scaleR_k : Con Tryz.prog := ⟨39, fun args => match args with | [.agg [.flt a, .flt b, .flt c], .flt k] => .ok (none) (.agg [.flt (F .mul a k), .flt (F .mul b k), .flt (F .mul c k)]) | _ => .no, by
  intro args p r h hp
  split at h
  · cases h; exact scaleR_a _ _ _ _
  · cases h⟩
theorem over_f : FnOk Tryz.prog 71 Tryz.f71 := ⟨Tryz.func71, by kernel_rfl⟩
theorem over_a (a b c k : Nat) : ACalls Tryz.prog 71 [.agg [.flt a, .flt b, .flt c], .flt k] (.agg [.flt (F .quo a k), .flt (F .quo b k), .flt (F .quo c k)]) := by
  refine acalls_of (inl := hasI (P := Tryz.prog) [] []) (base [] [] []) 0 over_f (And.intro (by kernel_rfl) ?_)
  repeat' (first | refine And.intro ?_ ?_ | (with_reducible exact ff_elim) | (with_reducible exact tf_elim) | intro _ | (with_reducible rfl) | ((with_reducible refine lk_t ?_); exact rfl) | ((with_reducible refine pf_t ?_); exact rfl) | refine tell ?_ | exact True.intro | (refine IsT.of ?_; kernel_rfl))
  all_goals ((try refine Tell.mk ?_); first | with_reducible rfl | ((show (_ : Int) ≤ _); decide) | ((show (_ : Int) < _); decide) | (with_reducible refine gb_t ?_; with_reducible assumption) | with_reducible assumption | (with_reducible refine gb_f ?_; with_reducible assumption) | (simp only [gb, *, cond_true, cond_false]; done) | ((with_reducible refine ks_t ?_); rfl) | ((with_reducible refine pk_t ?_); rfl) | ((with_reducible refine pf_t ?_); rfl) | ((with_reducible refine lk_t ?_); rfl) | ((with_reducible refine okF_t ?_); kernel_rfl) | grind [gb])
def over_k : Con Tryz.prog := ⟨71, fun args => match args with | [.agg [.flt a, .flt b, .flt c], .flt k] => .ok (none) (.agg [.flt (F .quo a k), .flt (F .quo b k), .flt (F .quo c k)]) | _ => .no, by
  intro args p r h hp
  split at h
  · cases h; exact over_a _ _ _ _
  · cases h⟩
theorem overR_f : FnOk Tryz.prog 78 Tryz.f78 := ⟨Tryz.func78, by kernel_rfl⟩
theorem overR_a (a b c k : Nat) : ACalls Tryz.prog 78 [.agg [.flt a, .flt b, .flt c], .flt k] (.agg [.flt (F .quo a k), .flt (F .quo b k), .flt (F .quo c k)]) := by
  refine acalls_of (inl := hasI (P := Tryz.prog) [] []) (base [] [] []) 0 overR_f (And.intro (by kernel_rfl) ?_)
  repeat' (first | refine And.intro ?_ ?_ | (with_reducible exact ff_elim) | (with_reducible exact tf_elim) | intro _ | (with_reducible rfl) | ((with_reducible refine lk_t ?_); exact rfl) | ((with_reducible refine pf_t ?_); exact rfl) | refine tell ?_ | exact True.intro | (refine IsT.of ?_; kernel_rfl))
  all_goals ((try refine Tell.mk ?_); first | with_reducible rfl | ((show (_ : Int) ≤ _); decide) | ((show (_ : Int) < _); decide) | (with_reducible refine gb_t ?_; with_reducible assumption) | with_reducible assumption | (with_reducible refine gb_f ?_; with_reducible assumption) | (simp only [gb, *, cond_true, cond_false]; done) | ((with_reducible refine ks_t ?_); rfl) | ((with_reducible refine pk_t ?_); rfl) | ((with_reducible refine pf_t ?_); rfl) | ((with_reducible refine lk_t ?_); rfl) | ((with_reducible refine okF_t ?_); kernel_rfl) | grind [gb])
def overR_k : Con Tryz.prog := ⟨78, fun args => match args with | [.agg [.flt a, .flt b, .flt c], .flt k] => .ok (none) (.agg [.flt (F .quo a k), .flt (F .quo b k), .flt (F .quo c k)]) | _ => .no, by
  intro args p r h hp
  split at h
  · cases h; exact overR_a _ _ _ _
  · cases h⟩
theorem times_f : FnOk Tryz.prog 100 Tryz.f100 := ⟨Tryz.func100, by kernel_rfl⟩
theorem times_a (a b : Nat) : ACalls Tryz.prog 100 [.flt a, .flt b] (.flt (F .mul a b)) := by
  refine acalls_of (inl := hasI (P := Tryz.prog) [] []) (base [] [] []) 0 times_f (And.intro (by kernel_rfl) ?_)
  repeat' (first | refine And.intro ?_ ?_ | (with_reducible exact ff_elim) | (with_reducible exact tf_elim) | intro _ | (with_reducible rfl) | ((with_reducible refine lk_t ?_); exact rfl) | ((with_reducible refine pf_t ?_); exact rfl) | refine tell ?_ | exact True.intro | (refine IsT.of ?_; kernel_rfl))
  all_goals ((try refine Tell.mk ?_); first | with_reducible rfl | ((show (_ : Int) ≤ _); decide) | ((show (_ : Int) < _); decide) | (with_reducible refine gb_t ?_; with_reducible assumption) | with_reducible assumption | (with_reducible refine gb_f ?_; with_reducible assumption) | (simp only [gb, *, cond_true, cond_false]; done) | ((with_reducible refine ks_t ?_); rfl) | ((with_reducible refine pk_t ?_); rfl) | ((with_reducible refine pf_t ?_); rfl) | ((with_reducible refine lk_t ?_); rfl) | ((with_reducible refine okF_t ?_); kernel_rfl) | grind [gb])
def times_k : Con Tryz.prog := ⟨100, fun args => match args with | [.flt a, .flt b] => .ok (none) (.flt (F .mul a b)) | _ => .no, by
  intro args p r h hp
  split at h
  · cases h; exact times_a _ _
  · cases h⟩
theorem dot_f : FnOk Tryz.prog 97 Tryz.f97 := ⟨Tryz.func97, by kernel_rfl⟩
theorem dot_a (a b c d e f : Nat) : ACalls Tryz.prog 97 [.agg [.flt a, .flt b, .flt c], .agg [.flt d, .flt e, .flt f]] (.flt (dotV a b c d e f)) := by
  refine acalls_of (inl := hasI (P := Tryz.prog) [] []) (base [] [] []) 0 dot_f (And.intro (by kernel_rfl) ?_)
  repeat' (first | refine And.intro ?_ ?_ | (with_reducible exact ff_elim) | (with_reducible exact tf_elim) | intro _ | (with_reducible rfl) | ((with_reducible refine lk_t ?_); exact rfl) | ((with_reducible refine pf_t ?_); exact rfl) | refine tell ?_ | exact True.intro | (refine IsT.of ?_; kernel_rfl))
  all_goals ((try refine Tell.mk ?_); first | with_reducible rfl | ((show (_ : Int) ≤ _); decide) | ((show (_ : Int) < _); decide) | (with_reducible refine gb_t ?_; with_reducible assumption) | with_reducible assumption | (with_reducible refine gb_f ?_; with_reducible assumption) | (simp only [dotV, *, cond_true, cond_false]; done) | ((with_reducible refine ks_t ?_); rfl) | ((with_reducible refine pk_t ?_); rfl) | ((with_reducible refine pf_t ?_); rfl) | ((with_reducible refine lk_t ?_); rfl) | ((with_reducible refine okF_t ?_); kernel_rfl) | grind [gb, dotV])
def dot_k : Con Tryz.prog := ⟨97, fun args => match args with | [.agg [.flt a, .flt b, .flt c], .agg [.flt d, .flt e, .flt f]] => .ok (none) (.flt (dotV a b c d e f)) | _ => .no, by
  intro args p r h hp
  split at h
  · cases h; exact dot_a _ _ _ _ _ _
  · cases h⟩
theorem dotR_f : FnOk Tryz.prog 101 Tryz.f101 := ⟨Tryz.func101, by kernel_rfl⟩
theorem dotR_a (a b c d e f : Nat) : ACalls Tryz.prog 101 [.agg [.flt a, .flt b, .flt c], .agg [.flt d, .flt e, .flt f]] (.flt (dotV a b c d e f)) := by
  refine acalls_of (inl := hasI (P := Tryz.prog) [] []) (base [times_k] [] []) 0 dotR_f (And.intro (by kernel_rfl) ?_)
  repeat' (first | refine And.intro ?_ ?_ | (with_reducible exact ff_elim) | (with_reducible exact tf_elim) | intro _ | (with_reducible rfl) | ((with_reducible refine lk_t ?_); exact rfl) | ((with_reducible refine pf_t ?_); exact rfl) | refine tell ?_ | exact True.intro | (refine IsT.of ?_; kernel_rfl))
  all_goals ((try refine Tell.mk ?_); first | with_reducible rfl | ((show (_ : Int) ≤ _); decide) | ((show (_ : Int) < _); decide) | (with_reducible refine gb_t ?_; with_reducible assumption) | with_reducible assumption | (with_reducible refine gb_f ?_; with_reducible assumption) | (simp only [dotV, *, cond_true, cond_false]; done) | ((with_reducible refine ks_t ?_); rfl) | ((with_reducible refine pk_t ?_); rfl) | ((with_reducible refine pf_t ?_); rfl) | ((with_reducible refine lk_t ?_); rfl) | ((with_reducible refine okF_t ?_); kernel_rfl) | grind [gb, dotV])
def dotR_k : Con Tryz.prog := ⟨101, fun args => match args with | [.agg [.flt a, .flt b, .flt c], .agg [.flt d, .flt e, .flt f]] => .ok (none) (.flt (dotV a b c d e f)) | _ => .no, by
  intro args p r h hp
  split at h
  · cases h; exact dotR_a _ _ _ _ _ _
  · cases h⟩
theorem cross_f : FnOk Tryz.prog 139 Tryz.f139 := ⟨Tryz.func139, by kernel_rfl⟩
theorem cross_a (a b c d e f : Nat) : ACalls Tryz.prog 139 [.agg [.flt a, .flt b, .flt c], .agg [.flt d, .flt e, .flt f]] (.agg [.flt (crsV b c e f), .flt (crsV c a f d), .flt (crsV a b d e)]) := by
  refine acalls_of (inl := hasI (P := Tryz.prog) [] []) (base [] [] []) 0 cross_f (And.intro (by kernel_rfl) ?_)
  repeat' (first | refine And.intro ?_ ?_ | (with_reducible exact ff_elim) | (with_reducible exact tf_elim) | intro _ | (with_reducible rfl) | ((with_reducible refine lk_t ?_); exact rfl) | ((with_reducible refine pf_t ?_); exact rfl) | refine tell ?_ | exact True.intro | (refine IsT.of ?_; kernel_rfl))
  all_goals ((try refine Tell.mk ?_); first | with_reducible rfl | ((show (_ : Int) ≤ _); decide) | ((show (_ : Int) < _); decide) | (with_reducible refine gb_t ?_; with_reducible assumption) | with_reducible assumption | (with_reducible refine gb_f ?_; with_reducible assumption) | (simp only [crsV, *, cond_true, cond_false]; done) | ((with_reducible refine ks_t ?_); rfl) | ((with_reducible refine pk_t ?_); rfl) | ((with_reducible refine pf_t ?_); rfl) | ((with_reducible refine lk_t ?_); rfl) | ((with_reducible refine okF_t ?_); kernel_rfl) | grind [gb, crsV])
def cross_k : Con Tryz.prog := ⟨139, fun args => match args with | [.agg [.flt a, .flt b, .flt c], .agg [.flt d, .flt e, .flt f]] => .ok (none) (.agg [.flt (crsV b c e f), .flt (crsV c a f d), .flt (crsV a b d e)]) | _ => .no, by
  intro args p r h hp
  split at h
  · cases h; exact cross_a _ _ _ _ _ _
  · cases h⟩
theorem crossR_f : FnOk Tryz.prog 74 Tryz.f74 := ⟨Tryz.func74, by kernel_rfl⟩
theorem crossR_a (a b c d e f : Nat) : ACalls Tryz.prog 74 [.agg [.flt a, .flt b, .flt c], .agg [.flt d, .flt e, .flt f]] (.agg [.flt (crsV b c e f), .flt (crsV c a f d), .flt (crsV a b d e)]) := by
  refine acalls_of (inl := hasI (P := Tryz.prog) [] []) (base [times_k] [] []) 0 crossR_f (And.intro (by kernel_rfl) ?_)
  repeat' (first | refine And.intro ?_ ?_ | (with_reducible exact ff_elim) | (with_reducible exact tf_elim) | intro _ | (with_reducible rfl) | ((with_reducible refine lk_t ?_); exact rfl) | ((with_reducible refine pf_t ?_); exact rfl) | refine tell ?_ | exact True.intro | (refine IsT.of ?_; kernel_rfl))
  all_goals ((try refine Tell.mk ?_); first | with_reducible rfl | ((show (_ : Int) ≤ _); decide) | ((show (_ : Int) < _); decide) | (with_reducible refine gb_t ?_; with_reducible assumption) | with_reducible assumption | (with_reducible refine gb_f ?_; with_reducible assumption) | (simp only [crsV, *, cond_true, cond_false]; done) | ((with_reducible refine ks_t ?_); rfl) | ((with_reducible refine pk_t ?_); rfl) | ((with_reducible refine pf_t ?_); rfl) | ((with_reducible refine lk_t ?_); rfl) | ((with_reducible refine okF_t ?_); kernel_rfl) | grind [gb, crsV])
def crossR_k : Con Tryz.prog := ⟨74, fun args => match args with | [.agg [.flt a, .flt b, .flt c], .agg [.flt d, .flt e, .flt f]] => .ok (none) (.agg [.flt (crsV b c e f), .flt (crsV c a f d), .flt (crsV a b d e)]) | _ => .no, by
  intro args p r h hp
  split at h
  · cases h; exact crossR_a _ _ _ _ _ _
  · cases h⟩
theorem length_f : FnOk Tryz.prog 70 Tryz.f70 := ⟨Tryz.func70, by kernel_rfl⟩
theorem length_a (a b c : Nat) : ACalls Tryz.prog 70 [.agg [.flt a, .flt b, .flt c]] (.flt (lenV a b c)) := by
  refine acalls_of (inl := hasI (P := Tryz.prog) [] []) (base [dot_k, sqrt_k] [] []) 0 length_f (And.intro (by kernel_rfl) ?_)
  repeat' (first | refine And.intro ?_ ?_ | (with_reducible exact ff_elim) | (with_reducible exact tf_elim) | intro _ | (with_reducible rfl) | ((with_reducible refine lk_t ?_); exact rfl) | ((with_reducible refine pf_t ?_); exact rfl) | refine tell ?_ | exact True.intro | (refine IsT.of ?_; kernel_rfl))
  all_goals ((try refine Tell.mk ?_); first | with_reducible rfl | ((show (_ : Int) ≤ _); decide) | ((show (_ : Int) < _); decide) | (with_reducible refine gb_t ?_; with_reducible assumption) | with_reducible assumption | (with_reducible refine gb_f ?_; with_reducible assumption) | (simp only [lenV, *, cond_true, cond_false]; done) | ((with_reducible refine ks_t ?_); rfl) | ((with_reducible refine pk_t ?_); rfl) | ((with_reducible refine pf_t ?_); rfl) | ((with_reducible refine lk_t ?_); rfl) | ((with_reducible refine okF_t ?_); kernel_rfl) | grind [gb, lenV])
def length_k : Con Tryz.prog := ⟨70, fun args => match args with | [.agg [.flt a, .flt b, .flt c]] => .ok (none) (.flt (lenV a b c)) | _ => .no, by
  intro args p r h hp
  split at h
  · cases h; exact length_a _ _ _
  · cases h⟩
theorem lengthR_f : FnOk Tryz.prog 77 Tryz.f77 := ⟨Tryz.func77, by kernel_rfl⟩
theorem lengthR_a (a b c : Nat) : ACalls Tryz.prog 77 [.agg [.flt a, .flt b, .flt c]] (.flt (lenV a b c)) := by
  refine acalls_of (inl := hasI (P := Tryz.prog) [] []) (base [dotR_k, sqrt_k] [] []) 0 lengthR_f (And.intro (by kernel_rfl) ?_)
  repeat' (first | refine And.intro ?_ ?_ | (with_reducible exact ff_elim) | (with_reducible exact tf_elim) | intro _ | (with_reducible rfl) | ((with_reducible refine lk_t ?_); exact rfl) | ((with_reducible refine pf_t ?_); exact rfl) | refine tell ?_ | exact True.intro | (refine IsT.of ?_; kernel_rfl))
  all_goals ((try refine Tell.mk ?_); first | with_reducible rfl | ((show (_ : Int) ≤ _); decide) | ((show (_ : Int) < _); decide) | (with_reducible refine gb_t ?_; with_reducible assumption) | with_reducible assumption | (with_reducible refine gb_f ?_; with_reducible assumption) | (simp only [lenV, *, cond_true, cond_false]; done) | ((with_reducible refine ks_t ?_); rfl) | ((with_reducible refine pk_t ?_); rfl) | ((with_reducible refine pf_t ?_); rfl) | ((with_reducible refine lk_t ?_); rfl) | ((with_reducible refine okF_t ?_); kernel_rfl) | grind [gb, lenV])
def lengthR_k : Con Tryz.prog := ⟨77, fun args => match args with | [.agg [.flt a, .flt b, .flt c]] => .ok (none) (.flt (lenV a b c)) | _ => .no, by
  intro args p r h hp
  split at h
  · cases h; exact lengthR_a _ _ _
  · cases h⟩
theorem unit_f : FnOk Tryz.prog 103 Tryz.f103 := ⟨Tryz.func103, by kernel_rfl⟩
theorem unit_a (a b c : Nat) : ACalls Tryz.prog 103 [.agg [.flt a, .flt b, .flt c]] (.tup [.agg [.flt (unitV a b c a), .flt (unitV a b c b), .flt (unitV a b c c)], .int .i64 (unitE a b c)]) := by
  refine acalls_of (inl := hasI (P := Tryz.prog) [] []) (base [fine_k, length_k, over_k] [] []) 0 unit_f (And.intro (by kernel_rfl) ?_)
  repeat' (first | refine And.intro ?_ ?_ | (with_reducible exact ff_elim) | (with_reducible exact tf_elim) | intro _ | (with_reducible rfl) | ((with_reducible refine lk_t ?_); exact rfl) | ((with_reducible refine pf_t ?_); exact rfl) | refine tell ?_ | exact True.intro | (refine IsT.of ?_; kernel_rfl))
  all_goals ((try refine Tell.mk ?_); first | with_reducible rfl | ((show (_ : Int) ≤ _); decide) | ((show (_ : Int) < _); decide) | (with_reducible refine gb_t ?_; with_reducible assumption) | with_reducible assumption | (with_reducible refine gb_f ?_; with_reducible assumption) | (simp only [unitV, unitE, *, cond_true, cond_false]; done) | ((with_reducible refine ks_t ?_); rfl) | ((with_reducible refine pk_t ?_); rfl) | ((with_reducible refine pf_t ?_); rfl) | ((with_reducible refine lk_t ?_); rfl) | ((with_reducible refine okF_t ?_); kernel_rfl) | grind [gb, unitV, unitE])
def unit_k : Con Tryz.prog := ⟨103, fun args => match args with | [.agg [.flt a, .flt b, .flt c]] => .ok (none) (.tup [.agg [.flt (unitV a b c a), .flt (unitV a b c b), .flt (unitV a b c c)], .int .i64 (unitE a b c)]) | _ => .no, by
  intro args p r h hp
  split at h
  · cases h; exact unit_a _ _ _
  · cases h⟩
theorem unitR_f : FnOk Tryz.prog 52 Tryz.f52 := ⟨Tryz.func52, by kernel_rfl⟩
theorem unitR_a (a b c : Nat) : ACalls Tryz.prog 52 [.agg [.flt a, .flt b, .flt c]] (.tup [.agg [.flt (unitV a b c a), .flt (unitV a b c b), .flt (unitV a b c c)], .int .i64 (unitE a b c)]) := by
  refine acalls_of (inl := hasI (P := Tryz.prog) [] []) (base [fineR_k, lengthR_k, overR_k] [] []) 0 unitR_f (And.intro (by kernel_rfl) ?_)
  repeat' (first | refine And.intro ?_ ?_ | (with_reducible exact ff_elim) | (with_reducible exact tf_elim) | intro _ | (with_reducible rfl) | ((with_reducible refine lk_t ?_); exact rfl) | ((with_reducible refine pf_t ?_); exact rfl) | refine tell ?_ | exact True.intro | (refine IsT.of ?_; kernel_rfl))
  all_goals ((try refine Tell.mk ?_); first | with_reducible rfl | ((show (_ : Int) ≤ _); decide) | ((show (_ : Int) < _); decide) | (with_reducible refine gb_t ?_; with_reducible assumption) | with_reducible assumption | (with_reducible refine gb_f ?_; with_reducible assumption) | (simp only [unitV, unitE, *, cond_true, cond_false]; done) | ((with_reducible refine ks_t ?_); rfl) | ((with_reducible refine pk_t ?_); rfl) | ((with_reducible refine pf_t ?_); rfl) | ((with_reducible refine lk_t ?_); rfl) | ((with_reducible refine okF_t ?_); kernel_rfl) | grind [gb, unitV, unitE])
def unitR_k : Con Tryz.prog := ⟨52, fun args => match args with | [.agg [.flt a, .flt b, .flt c]] => .ok (none) (.tup [.agg [.flt (unitV a b c a), .flt (unitV a b c b), .flt (unitV a b c c)], .int .i64 (unitE a b c)]) | _ => .no, by
  intro args p r h hp
  split at h
  · cases h; exact unitR_a _ _ _
  · cases h⟩
end Go.Proofs.YtgbcnfcgljbbgaaGreat
