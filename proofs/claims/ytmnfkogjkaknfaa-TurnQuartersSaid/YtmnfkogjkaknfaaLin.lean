/- Vectors: sums, products, lengths; by the abstract machine. -/
import Derived.Test.YtmnfkogjkaknfaaSlabC
namespace Go.Proofs.Ytmnfkogjkaknfaa
open Go.RowKit Ev
set_option linter.unusedVariables false
set_option linter.unusedSimpArgs false
set_option maxRecDepth 20000
set_option maxHeartbeats 4000000

def dotV (a b c d e f : Nat) : Nat := F .add (F .add (F .mul a d) (F .mul b e)) (F .mul c f)
def crsV (b c e f : Nat) : Nat := F .sub (F .mul b f) (F .mul c e)
def lenV (a b c : Nat) : Nat := sq (dotV a b c a b c)
def unitB (a b c : Nat) : Bool := fineB a b c && !(feq (lenV a b c) 0)
def unitE (a b c : Nat) : Int := bif fineB a b c then (bif feq (lenV a b c) 0 then 2 else 0) else 1
def unitV (a b c x : Nat) : Nat := bif fineB a b c then (bif feq (lenV a b c) 0 then 0 else F .quo x (lenV a b c)) else 0
theorem add_f : FnOk Try.prog 12 Try.f12 := ⟨Try.func12, by kernel_rfl⟩
theorem add_a (a b c d e f : Nat) : ACalls Try.prog 12 [.agg [.flt a, .flt b, .flt c], .agg [.flt d, .flt e, .flt f]] (.agg [.flt (F .add a d), .flt (F .add b e), .flt (F .add c f)]) := by
  refine acalls_of (inl := hasI (P := Try.prog) [] []) (base [] [] []) 0 add_f (And.intro (by kernel_rfl) ?_)
  repeat' (first | refine And.intro ?_ ?_ | (with_reducible exact ff_elim) | (with_reducible exact tf_elim) | intro _ | (with_reducible rfl) | ((with_reducible refine lk_t ?_); exact rfl) | refine tell ?_ | exact True.intro | (refine IsT.of ?_; kernel_rfl))
  all_goals ((try refine Tell.mk ?_); first | with_reducible rfl | ((show (_ : Int) ≤ _); decide) | ((show (_ : Int) < _); decide) | (with_reducible refine gb_t ?_; with_reducible assumption) | with_reducible assumption | (with_reducible refine gb_f ?_; with_reducible assumption) | (simp only [gb, *, cond_true, cond_false]; done) | ((with_reducible refine ks_t ?_); rfl) | ((with_reducible refine pk_t ?_); rfl) | ((with_reducible refine lk_t ?_); rfl) | ((with_reducible refine okF_t ?_); kernel_rfl) | grind [gb])
def add_k : Con Try.prog := ⟨12, fun args => match args with | [.agg [.flt a, .flt b, .flt c], .agg [.flt d, .flt e, .flt f]] => .ok (none) (.agg [.flt (F .add a d), .flt (F .add b e), .flt (F .add c f)]) | _ => .no, by
  intro args p r h hp
  split at h
  · cases h; exact add_a _ _ _ _ _ _
  · cases h⟩
theorem addR_f : FnOk Try.prog 38 Try.f38 := ⟨Try.func38, by kernel_rfl⟩
theorem addR_a (a b c d e f : Nat) : ACalls Try.prog 38 [.agg [.flt a, .flt b, .flt c], .agg [.flt d, .flt e, .flt f]] (.agg [.flt (F .add a d), .flt (F .add b e), .flt (F .add c f)]) := by
  refine acalls_of (inl := hasI (P := Try.prog) [] []) (base [] [] []) 0 addR_f (And.intro (by kernel_rfl) ?_)
  repeat' (first | refine And.intro ?_ ?_ | (with_reducible exact ff_elim) | (with_reducible exact tf_elim) | intro _ | (with_reducible rfl) | ((with_reducible refine lk_t ?_); exact rfl) | refine tell ?_ | exact True.intro | (refine IsT.of ?_; kernel_rfl))
  all_goals ((try refine Tell.mk ?_); first | with_reducible rfl | ((show (_ : Int) ≤ _); decide) | ((show (_ : Int) < _); decide) | (with_reducible refine gb_t ?_; with_reducible assumption) | with_reducible assumption | (with_reducible refine gb_f ?_; with_reducible assumption) | (simp only [gb, *, cond_true, cond_false]; done) | ((with_reducible refine ks_t ?_); rfl) | ((with_reducible refine pk_t ?_); rfl) | ((with_reducible refine lk_t ?_); rfl) | ((with_reducible refine okF_t ?_); kernel_rfl) | grind [gb])
def addR_k : Con Try.prog := ⟨38, fun args => match args with | [.agg [.flt a, .flt b, .flt c], .agg [.flt d, .flt e, .flt f]] => .ok (none) (.agg [.flt (F .add a d), .flt (F .add b e), .flt (F .add c f)]) | _ => .no, by
  intro args p r h hp
  split at h
  · cases h; exact addR_a _ _ _ _ _ _
  · cases h⟩
theorem scale_f : FnOk Try.prog 33 Try.f33 := ⟨Try.func33, by kernel_rfl⟩
theorem scale_a (a b c k : Nat) : ACalls Try.prog 33 [.agg [.flt a, .flt b, .flt c], .flt k] (.agg [.flt (F .mul a k), .flt (F .mul b k), .flt (F .mul c k)]) := by
  refine acalls_of (inl := hasI (P := Try.prog) [] []) (base [] [] []) 0 scale_f (And.intro (by kernel_rfl) ?_)
  repeat' (first | refine And.intro ?_ ?_ | (with_reducible exact ff_elim) | (with_reducible exact tf_elim) | intro _ | (with_reducible rfl) | ((with_reducible refine lk_t ?_); exact rfl) | refine tell ?_ | exact True.intro | (refine IsT.of ?_; kernel_rfl))
  all_goals ((try refine Tell.mk ?_); first | with_reducible rfl | ((show (_ : Int) ≤ _); decide) | ((show (_ : Int) < _); decide) | (with_reducible refine gb_t ?_; with_reducible assumption) | with_reducible assumption | (with_reducible refine gb_f ?_; with_reducible assumption) | (simp only [gb, *, cond_true, cond_false]; done) | ((with_reducible refine ks_t ?_); rfl) | ((with_reducible refine pk_t ?_); rfl) | ((with_reducible refine lk_t ?_); rfl) | ((with_reducible refine okF_t ?_); kernel_rfl) | grind [gb])
def scale_k : Con Try.prog := ⟨33, fun args => match args with | [.agg [.flt a, .flt b, .flt c], .flt k] => .ok (none) (.agg [.flt (F .mul a k), .flt (F .mul b k), .flt (F .mul c k)]) | _ => .no, by
  intro args p r h hp
  split at h
  · cases h; exact scale_a _ _ _ _
  · cases h⟩
theorem scaleR_f : FnOk Try.prog 46 Try.f46 := ⟨Try.func46, by kernel_rfl⟩
theorem scaleR_a (a b c k : Nat) : ACalls Try.prog 46 [.agg [.flt a, .flt b, .flt c], .flt k] (.agg [.flt (F .mul a k), .flt (F .mul b k), .flt (F .mul c k)]) := by
  refine acalls_of (inl := hasI (P := Try.prog) [] []) (base [] [] []) 0 scaleR_f (And.intro (by kernel_rfl) ?_)
  repeat' (first | refine And.intro ?_ ?_ | (with_reducible exact ff_elim) | (with_reducible exact tf_elim) | intro _ | (with_reducible rfl) | ((with_reducible refine lk_t ?_); exact rfl) | refine tell ?_ | exact True.intro | (refine IsT.of ?_; kernel_rfl))
  all_goals ((try refine Tell.mk ?_); first | with_reducible rfl | ((show (_ : Int) ≤ _); decide) | ((show (_ : Int) < _); decide) | (with_reducible refine gb_t ?_; with_reducible assumption) | with_reducible assumption | (with_reducible refine gb_f ?_; with_reducible assumption) | (simp only [gb, *, cond_true, cond_false]; done) | ((with_reducible refine ks_t ?_); rfl) | ((with_reducible refine pk_t ?_); rfl) | ((with_reducible refine lk_t ?_); rfl) | ((with_reducible refine okF_t ?_); kernel_rfl) | grind [gb])
def scaleR_k : Con Try.prog := ⟨46, fun args => match args with | [.agg [.flt a, .flt b, .flt c], .flt k] => .ok (none) (.agg [.flt (F .mul a k), .flt (F .mul b k), .flt (F .mul c k)]) | _ => .no, by
  intro args p r h hp
  split at h
  · cases h; exact scaleR_a _ _ _ _
  · cases h⟩
theorem over_f : FnOk Try.prog 32 Try.f32 := ⟨Try.func32, by kernel_rfl⟩
theorem over_a (a b c k : Nat) : ACalls Try.prog 32 [.agg [.flt a, .flt b, .flt c], .flt k] (.agg [.flt (F .quo a k), .flt (F .quo b k), .flt (F .quo c k)]) := by
  refine acalls_of (inl := hasI (P := Try.prog) [] []) (base [] [] []) 0 over_f (And.intro (by kernel_rfl) ?_)
  repeat' (first | refine And.intro ?_ ?_ | (with_reducible exact ff_elim) | (with_reducible exact tf_elim) | intro _ | (with_reducible rfl) | ((with_reducible refine lk_t ?_); exact rfl) | refine tell ?_ | exact True.intro | (refine IsT.of ?_; kernel_rfl))
  all_goals ((try refine Tell.mk ?_); first | with_reducible rfl | ((show (_ : Int) ≤ _); decide) | ((show (_ : Int) < _); decide) | (with_reducible refine gb_t ?_; with_reducible assumption) | with_reducible assumption | (with_reducible refine gb_f ?_; with_reducible assumption) | (simp only [gb, *, cond_true, cond_false]; done) | ((with_reducible refine ks_t ?_); rfl) | ((with_reducible refine pk_t ?_); rfl) | ((with_reducible refine lk_t ?_); rfl) | ((with_reducible refine okF_t ?_); kernel_rfl) | grind [gb])
def over_k : Con Try.prog := ⟨32, fun args => match args with | [.agg [.flt a, .flt b, .flt c], .flt k] => .ok (none) (.agg [.flt (F .quo a k), .flt (F .quo b k), .flt (F .quo c k)]) | _ => .no, by
  intro args p r h hp
  split at h
  · cases h; exact over_a _ _ _ _
  · cases h⟩
theorem overR_f : FnOk Try.prog 45 Try.f45 := ⟨Try.func45, by kernel_rfl⟩
theorem overR_a (a b c k : Nat) : ACalls Try.prog 45 [.agg [.flt a, .flt b, .flt c], .flt k] (.agg [.flt (F .quo a k), .flt (F .quo b k), .flt (F .quo c k)]) := by
  refine acalls_of (inl := hasI (P := Try.prog) [] []) (base [] [] []) 0 overR_f (And.intro (by kernel_rfl) ?_)
  repeat' (first | refine And.intro ?_ ?_ | (with_reducible exact ff_elim) | (with_reducible exact tf_elim) | intro _ | (with_reducible rfl) | ((with_reducible refine lk_t ?_); exact rfl) | refine tell ?_ | exact True.intro | (refine IsT.of ?_; kernel_rfl))
  all_goals ((try refine Tell.mk ?_); first | with_reducible rfl | ((show (_ : Int) ≤ _); decide) | ((show (_ : Int) < _); decide) | (with_reducible refine gb_t ?_; with_reducible assumption) | with_reducible assumption | (with_reducible refine gb_f ?_; with_reducible assumption) | (simp only [gb, *, cond_true, cond_false]; done) | ((with_reducible refine ks_t ?_); rfl) | ((with_reducible refine pk_t ?_); rfl) | ((with_reducible refine lk_t ?_); rfl) | ((with_reducible refine okF_t ?_); kernel_rfl) | grind [gb])
def overR_k : Con Try.prog := ⟨45, fun args => match args with | [.agg [.flt a, .flt b, .flt c], .flt k] => .ok (none) (.agg [.flt (F .quo a k), .flt (F .quo b k), .flt (F .quo c k)]) | _ => .no, by
  intro args p r h hp
  split at h
  · cases h; exact overR_a _ _ _ _
  · cases h⟩
theorem times_f : FnOk Try.prog 48 Try.f48 := ⟨Try.func48, by kernel_rfl⟩
theorem times_a (a b : Nat) : ACalls Try.prog 48 [.flt a, .flt b] (.flt (F .mul a b)) := by
  refine acalls_of (inl := hasI (P := Try.prog) [] []) (base [] [] []) 0 times_f (And.intro (by kernel_rfl) ?_)
  repeat' (first | refine And.intro ?_ ?_ | (with_reducible exact ff_elim) | (with_reducible exact tf_elim) | intro _ | (with_reducible rfl) | ((with_reducible refine lk_t ?_); exact rfl) | refine tell ?_ | exact True.intro | (refine IsT.of ?_; kernel_rfl))
  all_goals ((try refine Tell.mk ?_); first | with_reducible rfl | ((show (_ : Int) ≤ _); decide) | ((show (_ : Int) < _); decide) | (with_reducible refine gb_t ?_; with_reducible assumption) | with_reducible assumption | (with_reducible refine gb_f ?_; with_reducible assumption) | (simp only [gb, *, cond_true, cond_false]; done) | ((with_reducible refine ks_t ?_); rfl) | ((with_reducible refine pk_t ?_); rfl) | ((with_reducible refine lk_t ?_); rfl) | ((with_reducible refine okF_t ?_); kernel_rfl) | grind [gb])
def times_k : Con Try.prog := ⟨48, fun args => match args with | [.flt a, .flt b] => .ok (none) (.flt (F .mul a b)) | _ => .no, by
  intro args p r h hp
  split at h
  · cases h; exact times_a _ _
  · cases h⟩
theorem dot_f : FnOk Try.prog 30 Try.f30 := ⟨Try.func30, by kernel_rfl⟩
theorem dot_a (a b c d e f : Nat) : ACalls Try.prog 30 [.agg [.flt a, .flt b, .flt c], .agg [.flt d, .flt e, .flt f]] (.flt (dotV a b c d e f)) := by
  refine acalls_of (inl := hasI (P := Try.prog) [] []) (base [] [] []) 0 dot_f (And.intro (by kernel_rfl) ?_)
  repeat' (first | refine And.intro ?_ ?_ | (with_reducible exact ff_elim) | (with_reducible exact tf_elim) | intro _ | (with_reducible rfl) | ((with_reducible refine lk_t ?_); exact rfl) | refine tell ?_ | exact True.intro | (refine IsT.of ?_; kernel_rfl))
  all_goals ((try refine Tell.mk ?_); first | with_reducible rfl | ((show (_ : Int) ≤ _); decide) | ((show (_ : Int) < _); decide) | (with_reducible refine gb_t ?_; with_reducible assumption) | with_reducible assumption | (with_reducible refine gb_f ?_; with_reducible assumption) | (simp only [dotV, *, cond_true, cond_false]; done) | ((with_reducible refine ks_t ?_); rfl) | ((with_reducible refine pk_t ?_); rfl) | ((with_reducible refine lk_t ?_); rfl) | ((with_reducible refine okF_t ?_); kernel_rfl) | grind [gb, dotV])
def dot_k : Con Try.prog := ⟨30, fun args => match args with | [.agg [.flt a, .flt b, .flt c], .agg [.flt d, .flt e, .flt f]] => .ok (none) (.flt (dotV a b c d e f)) | _ => .no, by
  intro args p r h hp
  split at h
  · cases h; exact dot_a _ _ _ _ _ _
  · cases h⟩
theorem dotR_f : FnOk Try.prog 37 Try.f37 := ⟨Try.func37, by kernel_rfl⟩
theorem dotR_a (a b c d e f : Nat) : ACalls Try.prog 37 [.agg [.flt a, .flt b, .flt c], .agg [.flt d, .flt e, .flt f]] (.flt (dotV a b c d e f)) := by
  refine acalls_of (inl := hasI (P := Try.prog) [] []) (base [times_k] [] []) 0 dotR_f (And.intro (by kernel_rfl) ?_)
  repeat' (first | refine And.intro ?_ ?_ | (with_reducible exact ff_elim) | (with_reducible exact tf_elim) | intro _ | (with_reducible rfl) | ((with_reducible refine lk_t ?_); exact rfl) | refine tell ?_ | exact True.intro | (refine IsT.of ?_; kernel_rfl))
  all_goals ((try refine Tell.mk ?_); first | with_reducible rfl | ((show (_ : Int) ≤ _); decide) | ((show (_ : Int) < _); decide) | (with_reducible refine gb_t ?_; with_reducible assumption) | with_reducible assumption | (with_reducible refine gb_f ?_; with_reducible assumption) | (simp only [dotV, *, cond_true, cond_false]; done) | ((with_reducible refine ks_t ?_); rfl) | ((with_reducible refine pk_t ?_); rfl) | ((with_reducible refine lk_t ?_); rfl) | ((with_reducible refine okF_t ?_); kernel_rfl) | grind [gb, dotV])
def dotR_k : Con Try.prog := ⟨37, fun args => match args with | [.agg [.flt a, .flt b, .flt c], .agg [.flt d, .flt e, .flt f]] => .ok (none) (.flt (dotV a b c d e f)) | _ => .no, by
  intro args p r h hp
  split at h
  · cases h; exact dotR_a _ _ _ _ _ _
  · cases h⟩
theorem cross_f : FnOk Try.prog 31 Try.f31 := ⟨Try.func31, by kernel_rfl⟩
theorem cross_a (a b c d e f : Nat) : ACalls Try.prog 31 [.agg [.flt a, .flt b, .flt c], .agg [.flt d, .flt e, .flt f]] (.agg [.flt (crsV b c e f), .flt (crsV c a f d), .flt (crsV a b d e)]) := by
  refine acalls_of (inl := hasI (P := Try.prog) [] []) (base [] [] []) 0 cross_f (And.intro (by kernel_rfl) ?_)
  repeat' (first | refine And.intro ?_ ?_ | (with_reducible exact ff_elim) | (with_reducible exact tf_elim) | intro _ | (with_reducible rfl) | ((with_reducible refine lk_t ?_); exact rfl) | refine tell ?_ | exact True.intro | (refine IsT.of ?_; kernel_rfl))
  all_goals ((try refine Tell.mk ?_); first | with_reducible rfl | ((show (_ : Int) ≤ _); decide) | ((show (_ : Int) < _); decide) | (with_reducible refine gb_t ?_; with_reducible assumption) | with_reducible assumption | (with_reducible refine gb_f ?_; with_reducible assumption) | (simp only [crsV, *, cond_true, cond_false]; done) | ((with_reducible refine ks_t ?_); rfl) | ((with_reducible refine pk_t ?_); rfl) | ((with_reducible refine lk_t ?_); rfl) | ((with_reducible refine okF_t ?_); kernel_rfl) | grind [gb, crsV])
def cross_k : Con Try.prog := ⟨31, fun args => match args with | [.agg [.flt a, .flt b, .flt c], .agg [.flt d, .flt e, .flt f]] => .ok (none) (.agg [.flt (crsV b c e f), .flt (crsV c a f d), .flt (crsV a b d e)]) | _ => .no, by
  intro args p r h hp
  split at h
  · cases h; exact cross_a _ _ _ _ _ _
  · cases h⟩
theorem crossR_f : FnOk Try.prog 44 Try.f44 := ⟨Try.func44, by kernel_rfl⟩
theorem crossR_a (a b c d e f : Nat) : ACalls Try.prog 44 [.agg [.flt a, .flt b, .flt c], .agg [.flt d, .flt e, .flt f]] (.agg [.flt (crsV b c e f), .flt (crsV c a f d), .flt (crsV a b d e)]) := by
  refine acalls_of (inl := hasI (P := Try.prog) [] []) (base [times_k] [] []) 0 crossR_f (And.intro (by kernel_rfl) ?_)
  repeat' (first | refine And.intro ?_ ?_ | (with_reducible exact ff_elim) | (with_reducible exact tf_elim) | intro _ | (with_reducible rfl) | ((with_reducible refine lk_t ?_); exact rfl) | refine tell ?_ | exact True.intro | (refine IsT.of ?_; kernel_rfl))
  all_goals ((try refine Tell.mk ?_); first | with_reducible rfl | ((show (_ : Int) ≤ _); decide) | ((show (_ : Int) < _); decide) | (with_reducible refine gb_t ?_; with_reducible assumption) | with_reducible assumption | (with_reducible refine gb_f ?_; with_reducible assumption) | (simp only [crsV, *, cond_true, cond_false]; done) | ((with_reducible refine ks_t ?_); rfl) | ((with_reducible refine pk_t ?_); rfl) | ((with_reducible refine lk_t ?_); rfl) | ((with_reducible refine okF_t ?_); kernel_rfl) | grind [gb, crsV])
def crossR_k : Con Try.prog := ⟨44, fun args => match args with | [.agg [.flt a, .flt b, .flt c], .agg [.flt d, .flt e, .flt f]] => .ok (none) (.agg [.flt (crsV b c e f), .flt (crsV c a f d), .flt (crsV a b d e)]) | _ => .no, by
  intro args p r h hp
  split at h
  · cases h; exact crossR_a _ _ _ _ _ _
  · cases h⟩
end Go.Proofs.Ytmnfkogjkaknfaa
