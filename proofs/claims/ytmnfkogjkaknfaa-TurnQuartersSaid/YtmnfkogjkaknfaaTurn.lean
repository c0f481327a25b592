/- Turns; the law TurnSays. -/
import Derived.Test.YtmnfkogjkaknfaaSame
namespace Go.Proofs.Ytmnfkogjkaknfaa
open Go.RowKit Ev
set_option linter.unusedVariables false
set_option linter.unusedSimpArgs false
set_option maxRecDepth 20000
set_option maxHeartbeats 4000000

def tfV (a b c d e f g h i u v w : Nat) : Bool := fineB a b c && fineB d e f && fineB g h i && fineB u v w
theorem tfine_f : FnOk Try.prog 13 Try.f13 := ⟨Try.func13, by kernel_rfl⟩
theorem tfine_a (a b c d e f g h i u v w : Nat) : ACalls Try.prog 13 [.agg [.flt a, .flt b, .flt c, .flt d, .flt e, .flt f, .flt g, .flt h, .flt i, .flt u, .flt v, .flt w]] (.bool (tfV a b c d e f g h i u v w)) := by
  refine acalls_of (inl := hasI (P := Try.prog) [] []) (base [fine_k] [] []) 0 tfine_f (And.intro (by kernel_rfl) ?_)
  repeat' (first | refine And.intro ?_ ?_ | (with_reducible exact ff_elim) | (with_reducible exact tf_elim) | intro _ | (with_reducible rfl) | ((with_reducible refine lk_t ?_); exact rfl) | refine tell ?_ | exact True.intro | (refine IsT.of ?_; kernel_rfl))
  all_goals ((try refine Tell.mk ?_); first | with_reducible rfl | ((show (_ : Int) ≤ _); decide) | ((show (_ : Int) < _); decide) | (with_reducible refine gb_t ?_; with_reducible assumption) | with_reducible assumption | (with_reducible refine gb_f ?_; with_reducible assumption) | (simp only [tfV, *, cond_true, cond_false]; done) | ((with_reducible refine ks_t ?_); rfl) | ((with_reducible refine pk_t ?_); rfl) | ((with_reducible refine lk_t ?_); rfl) | ((with_reducible refine okF_t ?_); kernel_rfl) | grind [gb, tfV])
def tfine_k : Con Try.prog := ⟨13, fun args => match args with | [.agg [.flt a, .flt b, .flt c, .flt d, .flt e, .flt f, .flt g, .flt h, .flt i, .flt u, .flt v, .flt w]] => .ok (none) (.bool (tfV a b c d e f g h i u v w)) | _ => .no, by
  intro args p r h hp
  split at h
  · cases h; exact tfine_a _ _ _ _ _ _ _ _ _ _ _ _
  · cases h⟩
theorem tfineR_f : FnOk Try.prog 14 Try.f14 := ⟨Try.func14, by kernel_rfl⟩
theorem tfineR_a (a b c d e f g h i u v w : Nat) : ACalls Try.prog 14 [.agg [.flt a, .flt b, .flt c, .flt d, .flt e, .flt f, .flt g, .flt h, .flt i, .flt u, .flt v, .flt w]] (.bool (tfV a b c d e f g h i u v w)) := by
  refine acalls_of (inl := hasI (P := Try.prog) [] []) (base [fineR_k] [] []) 0 tfineR_f (And.intro (by kernel_rfl) ?_)
  repeat' (first | refine And.intro ?_ ?_ | (with_reducible exact ff_elim) | (with_reducible exact tf_elim) | intro _ | (with_reducible rfl) | ((with_reducible refine lk_t ?_); exact rfl) | refine tell ?_ | exact True.intro | (refine IsT.of ?_; kernel_rfl))
  all_goals ((try refine Tell.mk ?_); first | with_reducible rfl | ((show (_ : Int) ≤ _); decide) | ((show (_ : Int) < _); decide) | (with_reducible refine gb_t ?_; with_reducible assumption) | with_reducible assumption | (with_reducible refine gb_f ?_; with_reducible assumption) | (simp only [tfV, *, cond_true, cond_false]; done) | ((with_reducible refine ks_t ?_); rfl) | ((with_reducible refine pk_t ?_); rfl) | ((with_reducible refine lk_t ?_); rfl) | ((with_reducible refine okF_t ?_); kernel_rfl) | grind [gb, tfV])
def tfineR_k : Con Try.prog := ⟨14, fun args => match args with | [.agg [.flt a, .flt b, .flt c, .flt d, .flt e, .flt f, .flt g, .flt h, .flt i, .flt u, .flt v, .flt w]] => .ok (none) (.bool (tfV a b c d e f g h i u v w)) | _ => .no, by
  intro args p r h hp
  split at h
  · cases h; exact tfineR_a _ _ _ _ _ _ _ _ _ _ _ _
  · cases h⟩
theorem same0_f : FnOk Try.prog 15 Try.f15 := ⟨Try.func15, by kernel_rfl⟩
theorem same0_a  : ACalls Try.prog 15 [] (.agg [.flt 4607182418800017408, .flt 0, .flt 0, .flt 0, .flt 4607182418800017408, .flt 0, .flt 0, .flt 0, .flt 4607182418800017408, .flt 0, .flt 0, .flt 0]) := by
  refine acalls_of (inl := hasI (P := Try.prog) [] []) (base [] [] []) 0 same0_f (And.intro (by kernel_rfl) ?_)
  repeat' (first | refine And.intro ?_ ?_ | (with_reducible exact ff_elim) | (with_reducible exact tf_elim) | intro _ | (with_reducible rfl) | ((with_reducible refine lk_t ?_); exact rfl) | refine tell ?_ | exact True.intro | (refine IsT.of ?_; kernel_rfl))
  all_goals ((try refine Tell.mk ?_); first | with_reducible rfl | ((show (_ : Int) ≤ _); decide) | ((show (_ : Int) < _); decide) | (with_reducible refine gb_t ?_; with_reducible assumption) | with_reducible assumption | (with_reducible refine gb_f ?_; with_reducible assumption) | (simp only [gb, *, cond_true, cond_false]; done) | ((with_reducible refine ks_t ?_); rfl) | ((with_reducible refine pk_t ?_); rfl) | ((with_reducible refine lk_t ?_); rfl) | ((with_reducible refine okF_t ?_); kernel_rfl) | grind [gb])
def same0_k : Con Try.prog := ⟨15, fun args => match args with | [] => .ok (none) (.agg [.flt 4607182418800017408, .flt 0, .flt 0, .flt 0, .flt 4607182418800017408, .flt 0, .flt 0, .flt 0, .flt 4607182418800017408, .flt 0, .flt 0, .flt 0]) | _ => .no, by
  intro args p r h hp
  split at h
  · cases h; exact same0_a 
  · cases h⟩
theorem shift_f : FnOk Try.prog 17 Try.f17 := ⟨Try.func17, by kernel_rfl⟩
theorem shift_a (p q r : Nat) : ACalls Try.prog 17 [.agg [.flt p, .flt q, .flt r]] (.agg [.flt 4607182418800017408, .flt 0, .flt 0, .flt 0, .flt 4607182418800017408, .flt 0, .flt 0, .flt 0, .flt 4607182418800017408, .flt p, .flt q, .flt r]) := by
  refine acalls_of (inl := hasI (P := Try.prog) [] []) (base [same0_k] [] []) 0 shift_f (And.intro (by kernel_rfl) ?_)
  repeat' (first | refine And.intro ?_ ?_ | (with_reducible exact ff_elim) | (with_reducible exact tf_elim) | intro _ | (with_reducible rfl) | ((with_reducible refine lk_t ?_); exact rfl) | refine tell ?_ | exact True.intro | (refine IsT.of ?_; kernel_rfl))
  all_goals ((try refine Tell.mk ?_); first | with_reducible rfl | ((show (_ : Int) ≤ _); decide) | ((show (_ : Int) < _); decide) | (with_reducible refine gb_t ?_; with_reducible assumption) | with_reducible assumption | (with_reducible refine gb_f ?_; with_reducible assumption) | (simp only [gb, *, cond_true, cond_false]; done) | ((with_reducible refine ks_t ?_); rfl) | ((with_reducible refine pk_t ?_); rfl) | ((with_reducible refine lk_t ?_); rfl) | ((with_reducible refine okF_t ?_); kernel_rfl) | grind [gb])
def shift_k : Con Try.prog := ⟨17, fun args => match args with | [.agg [.flt p, .flt q, .flt r]] => .ok (none) (.agg [.flt 4607182418800017408, .flt 0, .flt 0, .flt 0, .flt 4607182418800017408, .flt 0, .flt 0, .flt 0, .flt 4607182418800017408, .flt p, .flt q, .flt r]) | _ => .no, by
  intro args p r h hp
  split at h
  · cases h; exact shift_a _ _ _
  · cases h⟩
theorem shiftR_f : FnOk Try.prog 16 Try.f16 := ⟨Try.func16, by kernel_rfl⟩
theorem shiftR_a (p q r : Nat) : ACalls Try.prog 16 [.agg [.flt p, .flt q, .flt r]] (.agg [.flt 4607182418800017408, .flt 0, .flt 0, .flt 0, .flt 4607182418800017408, .flt 0, .flt 0, .flt 0, .flt 4607182418800017408, .flt p, .flt q, .flt r]) := by
  refine acalls_of (inl := hasI (P := Try.prog) [] []) (base [] [] []) 0 shiftR_f (And.intro (by kernel_rfl) ?_)
  repeat' (first | refine And.intro ?_ ?_ | (with_reducible exact ff_elim) | (with_reducible exact tf_elim) | intro _ | (with_reducible rfl) | ((with_reducible refine lk_t ?_); exact rfl) | refine tell ?_ | exact True.intro | (refine IsT.of ?_; kernel_rfl))
  all_goals ((try refine Tell.mk ?_); first | with_reducible rfl | ((show (_ : Int) ≤ _); decide) | ((show (_ : Int) < _); decide) | (with_reducible refine gb_t ?_; with_reducible assumption) | with_reducible assumption | (with_reducible refine gb_f ?_; with_reducible assumption) | (simp only [gb, *, cond_true, cond_false]; done) | ((with_reducible refine ks_t ?_); rfl) | ((with_reducible refine pk_t ?_); rfl) | ((with_reducible refine lk_t ?_); rfl) | ((with_reducible refine okF_t ?_); kernel_rfl) | grind [gb])
def shiftR_k : Con Try.prog := ⟨16, fun args => match args with | [.agg [.flt p, .flt q, .flt r]] => .ok (none) (.agg [.flt 4607182418800017408, .flt 0, .flt 0, .flt 0, .flt 4607182418800017408, .flt 0, .flt 0, .flt 0, .flt 4607182418800017408, .flt p, .flt q, .flt r]) | _ => .no, by
  intro args p r h hp
  split at h
  · cases h; exact shiftR_a _ _ _
  · cases h⟩
theorem dir_f : FnOk Try.prog 19 Try.f19 := ⟨Try.func19, by kernel_rfl⟩
theorem dir_a (a b c d e f g h i u v w p q r : Nat) : ACalls Try.prog 19 [.agg [.flt a, .flt b, .flt c, .flt d, .flt e, .flt f, .flt g, .flt h, .flt i, .flt u, .flt v, .flt w], .agg [.flt p, .flt q, .flt r]] (.agg [.flt (dotV a b c p q r), .flt (dotV d e f p q r), .flt (dotV g h i p q r)]) := by
  refine acalls_of (inl := hasI (P := Try.prog) [] []) (base [dot_k] [] []) 0 dir_f (And.intro (by kernel_rfl) ?_)
  repeat' (first | refine And.intro ?_ ?_ | (with_reducible exact ff_elim) | (with_reducible exact tf_elim) | intro _ | (with_reducible rfl) | ((with_reducible refine lk_t ?_); exact rfl) | refine tell ?_ | exact True.intro | (refine IsT.of ?_; kernel_rfl))
  all_goals ((try refine Tell.mk ?_); first | with_reducible rfl | ((show (_ : Int) ≤ _); decide) | ((show (_ : Int) < _); decide) | (with_reducible refine gb_t ?_; with_reducible assumption) | with_reducible assumption | (with_reducible refine gb_f ?_; with_reducible assumption) | (simp only [gb, *, cond_true, cond_false]; done) | ((with_reducible refine ks_t ?_); rfl) | ((with_reducible refine pk_t ?_); rfl) | ((with_reducible refine lk_t ?_); rfl) | ((with_reducible refine okF_t ?_); kernel_rfl) | grind [gb])
def dir_k : Con Try.prog := ⟨19, fun args => match args with | [.agg [.flt a, .flt b, .flt c, .flt d, .flt e, .flt f, .flt g, .flt h, .flt i, .flt u, .flt v, .flt w], .agg [.flt p, .flt q, .flt r]] => .ok (none) (.agg [.flt (dotV a b c p q r), .flt (dotV d e f p q r), .flt (dotV g h i p q r)]) | _ => .no, by
  intro args p r h hp
  split at h
  · cases h; exact dir_a _ _ _ _ _ _ _ _ _ _ _ _ _ _ _
  · cases h⟩
theorem dirR_f : FnOk Try.prog 20 Try.f20 := ⟨Try.func20, by kernel_rfl⟩
theorem dirR_a (a b c d e f g h i u v w p q r : Nat) : ACalls Try.prog 20 [.agg [.flt a, .flt b, .flt c, .flt d, .flt e, .flt f, .flt g, .flt h, .flt i, .flt u, .flt v, .flt w], .agg [.flt p, .flt q, .flt r]] (.agg [.flt (dotV a b c p q r), .flt (dotV d e f p q r), .flt (dotV g h i p q r)]) := by
  refine acalls_of (inl := hasI (P := Try.prog) [] []) (base [dotR_k] [] []) 0 dirR_f (And.intro (by kernel_rfl) ?_)
  repeat' (first | refine And.intro ?_ ?_ | (with_reducible exact ff_elim) | (with_reducible exact tf_elim) | intro _ | (with_reducible rfl) | ((with_reducible refine lk_t ?_); exact rfl) | refine tell ?_ | exact True.intro | (refine IsT.of ?_; kernel_rfl))
  all_goals ((try refine Tell.mk ?_); first | with_reducible rfl | ((show (_ : Int) ≤ _); decide) | ((show (_ : Int) < _); decide) | (with_reducible refine gb_t ?_; with_reducible assumption) | with_reducible assumption | (with_reducible refine gb_f ?_; with_reducible assumption) | (simp only [gb, *, cond_true, cond_false]; done) | ((with_reducible refine ks_t ?_); rfl) | ((with_reducible refine pk_t ?_); rfl) | ((with_reducible refine lk_t ?_); rfl) | ((with_reducible refine okF_t ?_); kernel_rfl) | grind [gb])
def dirR_k : Con Try.prog := ⟨20, fun args => match args with | [.agg [.flt a, .flt b, .flt c, .flt d, .flt e, .flt f, .flt g, .flt h, .flt i, .flt u, .flt v, .flt w], .agg [.flt p, .flt q, .flt r]] => .ok (none) (.agg [.flt (dotV a b c p q r), .flt (dotV d e f p q r), .flt (dotV g h i p q r)]) | _ => .no, by
  intro args p r h hp
  split at h
  · cases h; exact dirR_a _ _ _ _ _ _ _ _ _ _ _ _ _ _ _
  · cases h⟩
theorem point_f : FnOk Try.prog 11 Try.f11 := ⟨Try.func11, by kernel_rfl⟩
theorem point_a (a b c d e f g h i u v w p q r : Nat) : ACalls Try.prog 11 [.agg [.flt a, .flt b, .flt c, .flt d, .flt e, .flt f, .flt g, .flt h, .flt i, .flt u, .flt v, .flt w], .agg [.flt p, .flt q, .flt r]] (.agg [.flt (F .add (dotV a b c p q r) (u)), .flt (F .add (dotV d e f p q r) (v)), .flt (F .add (dotV g h i p q r) (w))]) := by
  refine acalls_of (inl := hasI (P := Try.prog) [] []) (base [dir_k, add_k] [] []) 0 point_f (And.intro (by kernel_rfl) ?_)
  repeat' (first | refine And.intro ?_ ?_ | (with_reducible exact ff_elim) | (with_reducible exact tf_elim) | intro _ | (with_reducible rfl) | ((with_reducible refine lk_t ?_); exact rfl) | refine tell ?_ | exact True.intro | (refine IsT.of ?_; kernel_rfl))
  all_goals ((try refine Tell.mk ?_); first | with_reducible rfl | ((show (_ : Int) ≤ _); decide) | ((show (_ : Int) < _); decide) | (with_reducible refine gb_t ?_; with_reducible assumption) | with_reducible assumption | (with_reducible refine gb_f ?_; with_reducible assumption) | (simp only [gb, *, cond_true, cond_false]; done) | ((with_reducible refine ks_t ?_); rfl) | ((with_reducible refine pk_t ?_); rfl) | ((with_reducible refine lk_t ?_); rfl) | ((with_reducible refine okF_t ?_); kernel_rfl) | grind [gb])
def point_k : Con Try.prog := ⟨11, fun args => match args with | [.agg [.flt a, .flt b, .flt c, .flt d, .flt e, .flt f, .flt g, .flt h, .flt i, .flt u, .flt v, .flt w], .agg [.flt p, .flt q, .flt r]] => .ok (none) (.agg [.flt (F .add (dotV a b c p q r) (u)), .flt (F .add (dotV d e f p q r) (v)), .flt (F .add (dotV g h i p q r) (w))]) | _ => .no, by
  intro args p r h hp
  split at h
  · cases h; exact point_a _ _ _ _ _ _ _ _ _ _ _ _ _ _ _
  · cases h⟩
theorem pointR_f : FnOk Try.prog 21 Try.f21 := ⟨Try.func21, by kernel_rfl⟩
theorem pointR_a (a b c d e f g h i u v w p q r : Nat) : ACalls Try.prog 21 [.agg [.flt a, .flt b, .flt c, .flt d, .flt e, .flt f, .flt g, .flt h, .flt i, .flt u, .flt v, .flt w], .agg [.flt p, .flt q, .flt r]] (.agg [.flt (F .add (dotV a b c p q r) (u)), .flt (F .add (dotV d e f p q r) (v)), .flt (F .add (dotV g h i p q r) (w))]) := by
  refine acalls_of (inl := hasI (P := Try.prog) [] []) (base [dirR_k, addR_k] [] []) 0 pointR_f (And.intro (by kernel_rfl) ?_)
  repeat' (first | refine And.intro ?_ ?_ | (with_reducible exact ff_elim) | (with_reducible exact tf_elim) | intro _ | (with_reducible rfl) | ((with_reducible refine lk_t ?_); exact rfl) | refine tell ?_ | exact True.intro | (refine IsT.of ?_; kernel_rfl))
  all_goals ((try refine Tell.mk ?_); first | with_reducible rfl | ((show (_ : Int) ≤ _); decide) | ((show (_ : Int) < _); decide) | (with_reducible refine gb_t ?_; with_reducible assumption) | with_reducible assumption | (with_reducible refine gb_f ?_; with_reducible assumption) | (simp only [gb, *, cond_true, cond_false]; done) | ((with_reducible refine ks_t ?_); rfl) | ((with_reducible refine pk_t ?_); rfl) | ((with_reducible refine lk_t ?_); rfl) | ((with_reducible refine okF_t ?_); kernel_rfl) | grind [gb])
def pointR_k : Con Try.prog := ⟨21, fun args => match args with | [.agg [.flt a, .flt b, .flt c, .flt d, .flt e, .flt f, .flt g, .flt h, .flt i, .flt u, .flt v, .flt w], .agg [.flt p, .flt q, .flt r]] => .ok (none) (.agg [.flt (F .add (dotV a b c p q r) (u)), .flt (F .add (dotV d e f p q r) (v)), .flt (F .add (dotV g h i p q r) (w))]) | _ => .no, by
  intro args p r h hp
  split at h
  · cases h; exact pointR_a _ _ _ _ _ _ _ _ _ _ _ _ _ _ _
  · cases h⟩
theorem columns_f : FnOk Try.prog 29 Try.f29 := ⟨Try.func29, by kernel_rfl⟩
theorem columns_a (a b c d e f g h i u v w : Nat) : ACalls Try.prog 29 [.agg [.flt a, .flt b, .flt c, .flt d, .flt e, .flt f, .flt g, .flt h, .flt i, .flt u, .flt v, .flt w]] (.agg [.flt a, .flt d, .flt g, .flt b, .flt e, .flt h, .flt c, .flt f, .flt i]) := by
  refine acalls_of (inl := hasI (P := Try.prog) [] []) (base [] [] []) 0 columns_f (And.intro (by kernel_rfl) ?_)
  repeat' (first | refine And.intro ?_ ?_ | (with_reducible exact ff_elim) | (with_reducible exact tf_elim) | intro _ | (with_reducible rfl) | ((with_reducible refine lk_t ?_); exact rfl) | refine tell ?_ | exact True.intro | (refine IsT.of ?_; kernel_rfl))
  all_goals ((try refine Tell.mk ?_); first | with_reducible rfl | ((show (_ : Int) ≤ _); decide) | ((show (_ : Int) < _); decide) | (with_reducible refine gb_t ?_; with_reducible assumption) | with_reducible assumption | (with_reducible refine gb_f ?_; with_reducible assumption) | (simp only [gb, *, cond_true, cond_false]; done) | ((with_reducible refine ks_t ?_); rfl) | ((with_reducible refine pk_t ?_); rfl) | ((with_reducible refine lk_t ?_); rfl) | ((with_reducible refine okF_t ?_); kernel_rfl) | grind [gb])
def columns_k : Con Try.prog := ⟨29, fun args => match args with | [.agg [.flt a, .flt b, .flt c, .flt d, .flt e, .flt f, .flt g, .flt h, .flt i, .flt u, .flt v, .flt w]] => .ok (none) (.agg [.flt a, .flt d, .flt g, .flt b, .flt e, .flt h, .flt c, .flt f, .flt i]) | _ => .no, by
  intro args p r h hp
  split at h
  · cases h; exact columns_a _ _ _ _ _ _ _ _ _ _ _ _
  · cases h⟩
theorem axis0_f : FnOk Try.prog 49 Try.f49 := ⟨Try.func49, by kernel_rfl⟩
theorem axis0_a (a b c : Nat) : ACalls Try.prog 49 [.agg [.flt a, .flt b, .flt c], .int .i64 0] (.flt a) := by
  refine acalls_of (inl := hasI (P := Try.prog) [] []) (base [] [] []) 0 axis0_f (And.intro (by kernel_rfl) ?_)
  repeat' (first | refine And.intro ?_ ?_ | (with_reducible exact ff_elim) | (with_reducible exact tf_elim) | intro _ | (with_reducible rfl) | ((with_reducible refine lk_t ?_); exact rfl) | refine tell ?_ | exact True.intro | (refine IsT.of ?_; kernel_rfl))
  all_goals ((try refine Tell.mk ?_); first | with_reducible rfl | ((show (_ : Int) ≤ _); decide) | ((show (_ : Int) < _); decide) | (with_reducible refine gb_t ?_; with_reducible assumption) | with_reducible assumption | (with_reducible refine gb_f ?_; with_reducible assumption) | (simp only [gb, *, cond_true, cond_false]; done) | ((with_reducible refine ks_t ?_); rfl) | ((with_reducible refine pk_t ?_); rfl) | ((with_reducible refine lk_t ?_); rfl) | ((with_reducible refine okF_t ?_); kernel_rfl) | grind [gb])
def axis0_k : Con Try.prog := ⟨49, fun args => match args with | [.agg [.flt a, .flt b, .flt c], .int .i64 0] => .ok (none) (.flt a) | _ => .no, by
  intro args p r h hp
  split at h
  · cases h; exact axis0_a _ _ _
  · cases h⟩
theorem axis1_f : FnOk Try.prog 49 Try.f49 := ⟨Try.func49, by kernel_rfl⟩
theorem axis1_a (a b c : Nat) : ACalls Try.prog 49 [.agg [.flt a, .flt b, .flt c], .int .i64 1] (.flt b) := by
  refine acalls_of (inl := hasI (P := Try.prog) [] []) (base [] [] []) 0 axis1_f (And.intro (by kernel_rfl) ?_)
  repeat' (first | refine And.intro ?_ ?_ | (with_reducible exact ff_elim) | (with_reducible exact tf_elim) | intro _ | (with_reducible rfl) | ((with_reducible refine lk_t ?_); exact rfl) | refine tell ?_ | exact True.intro | (refine IsT.of ?_; kernel_rfl))
  all_goals ((try refine Tell.mk ?_); first | with_reducible rfl | ((show (_ : Int) ≤ _); decide) | ((show (_ : Int) < _); decide) | (with_reducible refine gb_t ?_; with_reducible assumption) | with_reducible assumption | (with_reducible refine gb_f ?_; with_reducible assumption) | (simp only [gb, *, cond_true, cond_false]; done) | ((with_reducible refine ks_t ?_); rfl) | ((with_reducible refine pk_t ?_); rfl) | ((with_reducible refine lk_t ?_); rfl) | ((with_reducible refine okF_t ?_); kernel_rfl) | grind [gb])
def axis1_k : Con Try.prog := ⟨49, fun args => match args with | [.agg [.flt a, .flt b, .flt c], .int .i64 1] => .ok (none) (.flt b) | _ => .no, by
  intro args p r h hp
  split at h
  · cases h; exact axis1_a _ _ _
  · cases h⟩
theorem axis2_f : FnOk Try.prog 49 Try.f49 := ⟨Try.func49, by kernel_rfl⟩
theorem axis2_a (a b c : Nat) : ACalls Try.prog 49 [.agg [.flt a, .flt b, .flt c], .int .i64 2] (.flt c) := by
  refine acalls_of (inl := hasI (P := Try.prog) [] []) (base [] [] []) 0 axis2_f (And.intro (by kernel_rfl) ?_)
  repeat' (first | refine And.intro ?_ ?_ | (with_reducible exact ff_elim) | (with_reducible exact tf_elim) | intro _ | (with_reducible rfl) | ((with_reducible refine lk_t ?_); exact rfl) | refine tell ?_ | exact True.intro | (refine IsT.of ?_; kernel_rfl))
  all_goals ((try refine Tell.mk ?_); first | with_reducible rfl | ((show (_ : Int) ≤ _); decide) | ((show (_ : Int) < _); decide) | (with_reducible refine gb_t ?_; with_reducible assumption) | with_reducible assumption | (with_reducible refine gb_f ?_; with_reducible assumption) | (simp only [gb, *, cond_true, cond_false]; done) | ((with_reducible refine ks_t ?_); rfl) | ((with_reducible refine pk_t ?_); rfl) | ((with_reducible refine lk_t ?_); rfl) | ((with_reducible refine okF_t ?_); kernel_rfl) | grind [gb])
def axis2_k : Con Try.prog := ⟨49, fun args => match args with | [.agg [.flt a, .flt b, .flt c], .int .i64 2] => .ok (none) (.flt c) | _ => .no, by
  intro args p r h hp
  split at h
  · cases h; exact axis2_a _ _ _
  · cases h⟩
theorem column0_f : FnOk Try.prog 39 Try.f39 := ⟨Try.func39, by kernel_rfl⟩
theorem column0_a (a b c d e f g h i u v w : Nat) : ACalls Try.prog 39 [.agg [.flt a, .flt b, .flt c, .flt d, .flt e, .flt f, .flt g, .flt h, .flt i, .flt u, .flt v, .flt w], .int .i64 0] (.agg [.flt a, .flt d, .flt g]) := by
  refine acalls_of (inl := hasI (P := Try.prog) [] []) (base [axis0_k] [] []) 0 column0_f (And.intro (by kernel_rfl) ?_)
  repeat' (first | refine And.intro ?_ ?_ | (with_reducible exact ff_elim) | (with_reducible exact tf_elim) | intro _ | (with_reducible rfl) | ((with_reducible refine lk_t ?_); exact rfl) | refine tell ?_ | exact True.intro | (refine IsT.of ?_; kernel_rfl))
  all_goals ((try refine Tell.mk ?_); first | with_reducible rfl | ((show (_ : Int) ≤ _); decide) | ((show (_ : Int) < _); decide) | (with_reducible refine gb_t ?_; with_reducible assumption) | with_reducible assumption | (with_reducible refine gb_f ?_; with_reducible assumption) | (simp only [gb, *, cond_true, cond_false]; done) | ((with_reducible refine ks_t ?_); rfl) | ((with_reducible refine pk_t ?_); rfl) | ((with_reducible refine lk_t ?_); rfl) | ((with_reducible refine okF_t ?_); kernel_rfl) | grind [gb])
def column0_k : Con Try.prog := ⟨39, fun args => match args with | [.agg [.flt a, .flt b, .flt c, .flt d, .flt e, .flt f, .flt g, .flt h, .flt i, .flt u, .flt v, .flt w], .int .i64 0] => .ok (none) (.agg [.flt a, .flt d, .flt g]) | _ => .no, by
  intro args p r h hp
  split at h
  · cases h; exact column0_a _ _ _ _ _ _ _ _ _ _ _ _
  · cases h⟩
theorem column1_f : FnOk Try.prog 39 Try.f39 := ⟨Try.func39, by kernel_rfl⟩
theorem column1_a (a b c d e f g h i u v w : Nat) : ACalls Try.prog 39 [.agg [.flt a, .flt b, .flt c, .flt d, .flt e, .flt f, .flt g, .flt h, .flt i, .flt u, .flt v, .flt w], .int .i64 1] (.agg [.flt b, .flt e, .flt h]) := by
  refine acalls_of (inl := hasI (P := Try.prog) [] []) (base [axis1_k] [] []) 0 column1_f (And.intro (by kernel_rfl) ?_)
  repeat' (first | refine And.intro ?_ ?_ | (with_reducible exact ff_elim) | (with_reducible exact tf_elim) | intro _ | (with_reducible rfl) | ((with_reducible refine lk_t ?_); exact rfl) | refine tell ?_ | exact True.intro | (refine IsT.of ?_; kernel_rfl))
  all_goals ((try refine Tell.mk ?_); first | with_reducible rfl | ((show (_ : Int) ≤ _); decide) | ((show (_ : Int) < _); decide) | (with_reducible refine gb_t ?_; with_reducible assumption) | with_reducible assumption | (with_reducible refine gb_f ?_; with_reducible assumption) | (simp only [gb, *, cond_true, cond_false]; done) | ((with_reducible refine ks_t ?_); rfl) | ((with_reducible refine pk_t ?_); rfl) | ((with_reducible refine lk_t ?_); rfl) | ((with_reducible refine okF_t ?_); kernel_rfl) | grind [gb])
def column1_k : Con Try.prog := ⟨39, fun args => match args with | [.agg [.flt a, .flt b, .flt c, .flt d, .flt e, .flt f, .flt g, .flt h, .flt i, .flt u, .flt v, .flt w], .int .i64 1] => .ok (none) (.agg [.flt b, .flt e, .flt h]) | _ => .no, by
  intro args p r h hp
  split at h
  · cases h; exact column1_a _ _ _ _ _ _ _ _ _ _ _ _
  · cases h⟩
theorem column2_f : FnOk Try.prog 39 Try.f39 := ⟨Try.func39, by kernel_rfl⟩
theorem column2_a (a b c d e f g h i u v w : Nat) : ACalls Try.prog 39 [.agg [.flt a, .flt b, .flt c, .flt d, .flt e, .flt f, .flt g, .flt h, .flt i, .flt u, .flt v, .flt w], .int .i64 2] (.agg [.flt c, .flt f, .flt i]) := by
  refine acalls_of (inl := hasI (P := Try.prog) [] []) (base [axis2_k] [] []) 0 column2_f (And.intro (by kernel_rfl) ?_)
  repeat' (first | refine And.intro ?_ ?_ | (with_reducible exact ff_elim) | (with_reducible exact tf_elim) | intro _ | (with_reducible rfl) | ((with_reducible refine lk_t ?_); exact rfl) | refine tell ?_ | exact True.intro | (refine IsT.of ?_; kernel_rfl))
  all_goals ((try refine Tell.mk ?_); first | with_reducible rfl | ((show (_ : Int) ≤ _); decide) | ((show (_ : Int) < _); decide) | (with_reducible refine gb_t ?_; with_reducible assumption) | with_reducible assumption | (with_reducible refine gb_f ?_; with_reducible assumption) | (simp only [gb, *, cond_true, cond_false]; done) | ((with_reducible refine ks_t ?_); rfl) | ((with_reducible refine pk_t ?_); rfl) | ((with_reducible refine lk_t ?_); rfl) | ((with_reducible refine okF_t ?_); kernel_rfl) | grind [gb])
def column2_k : Con Try.prog := ⟨39, fun args => match args with | [.agg [.flt a, .flt b, .flt c, .flt d, .flt e, .flt f, .flt g, .flt h, .flt i, .flt u, .flt v, .flt w], .int .i64 2] => .ok (none) (.agg [.flt c, .flt f, .flt i]) | _ => .no, by
  intro args p r h hp
  split at h
  · cases h; exact column2_a _ _ _ _ _ _ _ _ _ _ _ _
  · cases h⟩
/- first the one, then the other -/
theorem then_f : FnOk Try.prog 8 Try.f8 := ⟨Try.func8, by kernel_rfl⟩
theorem then_a (a b c d e f g h i u v w a' b' c' d' e' f' g' h' i' u' v' w' : Nat) : ACalls Try.prog 8 [.agg [.flt a, .flt b, .flt c, .flt d, .flt e, .flt f, .flt g, .flt h, .flt i, .flt u, .flt v, .flt w], .agg [.flt a', .flt b', .flt c', .flt d', .flt e', .flt f', .flt g', .flt h', .flt i', .flt u', .flt v', .flt w']] (.agg [.flt (dotV a' b' c' a d g), .flt (dotV a' b' c' b e h), .flt (dotV a' b' c' c f i), .flt (dotV d' e' f' a d g), .flt (dotV d' e' f' b e h), .flt (dotV d' e' f' c f i), .flt (dotV g' h' i' a d g), .flt (dotV g' h' i' b e h), .flt (dotV g' h' i' c f i), .flt (F .add (dotV a' b' c' u v w) (u')), .flt (F .add (dotV d' e' f' u v w) (v')), .flt (F .add (dotV g' h' i' u v w) (w'))]) := by
  refine acalls_of (inl := hasI (P := Try.prog) [] []) (base [columns_k, dot_k, point_k] [] []) 0 then_f (And.intro (by kernel_rfl) ?_)
  repeat' (first | refine And.intro ?_ ?_ | refine num_lit 0 (by decide) ?_ | refine num_lit 1 (by decide) ?_ | refine num_lit 2 (by decide) ?_ | refine num_lit 3 (by decide) ?_ | refine num_lit 4 (by decide) ?_ | refine num_lit 5 (by decide) ?_ | refine num_lit 6 (by decide) ?_ | refine num_lit 7 (by decide) ?_ | refine num_lit 8 (by decide) ?_ | refine num_elim ?_ | (with_reducible exact ff_elim) | (with_reducible exact tf_elim) | (intro h; exact absurd h (by decide)) | intro _ | (with_reducible rfl) | refine Or.inl ⟨4, ?_⟩ | refine tell ?_ | exact True.intro | (refine IsT.of ?_; kernel_rfl))
  all_goals ((try refine Tell.mk ?_); first | with_reducible rfl | ((show (_ : Int) ≤ _); decide) | ((show (_ : Int) < _); decide) | (with_reducible refine gb_t ?_; with_reducible assumption) | with_reducible assumption | (with_reducible refine gb_f ?_; with_reducible assumption) | (simp only [gb, *, cond_true, cond_false]; done) | ((with_reducible refine ks_t ?_); rfl) | ((with_reducible refine pk_t ?_); rfl) | ((with_reducible refine lk_t ?_); rfl) | ((with_reducible refine okF_t ?_); kernel_rfl) | grind [gb])
def then_k : Con Try.prog := ⟨8, fun args => match args with | [.agg [.flt a, .flt b, .flt c, .flt d, .flt e, .flt f, .flt g, .flt h, .flt i, .flt u, .flt v, .flt w], .agg [.flt a', .flt b', .flt c', .flt d', .flt e', .flt f', .flt g', .flt h', .flt i', .flt u', .flt v', .flt w']] => .ok (none) (.agg [.flt (dotV a' b' c' a d g), .flt (dotV a' b' c' b e h), .flt (dotV a' b' c' c f i), .flt (dotV d' e' f' a d g), .flt (dotV d' e' f' b e h), .flt (dotV d' e' f' c f i), .flt (dotV g' h' i' a d g), .flt (dotV g' h' i' b e h), .flt (dotV g' h' i' c f i), .flt (F .add (dotV a' b' c' u v w) (u')), .flt (F .add (dotV d' e' f' u v w) (v')), .flt (F .add (dotV g' h' i' u v w) (w'))]) | _ => .no, by
  intro args p r h hp
  split at h
  · cases h; exact then_a _ _ _ _ _ _ _ _ _ _ _ _ _ _ _ _ _ _ _ _ _ _ _ _
  · cases h⟩
theorem thenR_f : FnOk Try.prog 22 Try.f22 := ⟨Try.func22, by kernel_rfl⟩
theorem thenR_a (a b c d e f g h i u v w a' b' c' d' e' f' g' h' i' u' v' w' : Nat) : ACalls Try.prog 22 [.agg [.flt a, .flt b, .flt c, .flt d, .flt e, .flt f, .flt g, .flt h, .flt i, .flt u, .flt v, .flt w], .agg [.flt a', .flt b', .flt c', .flt d', .flt e', .flt f', .flt g', .flt h', .flt i', .flt u', .flt v', .flt w']] (.agg [.flt (dotV a' b' c' a d g), .flt (dotV a' b' c' b e h), .flt (dotV a' b' c' c f i), .flt (dotV d' e' f' a d g), .flt (dotV d' e' f' b e h), .flt (dotV d' e' f' c f i), .flt (dotV g' h' i' a d g), .flt (dotV g' h' i' b e h), .flt (dotV g' h' i' c f i), .flt (F .add (dotV a' b' c' u v w) (u')), .flt (F .add (dotV d' e' f' u v w) (v')), .flt (F .add (dotV g' h' i' u v w) (w'))]) := by
  refine acalls_of (inl := hasI (P := Try.prog) [] []) (base [column0_k, column1_k, column2_k, dotR_k, pointR_k] [] []) 0 thenR_f (And.intro (by kernel_rfl) ?_)
  repeat' (first | refine And.intro ?_ ?_ | refine num_lit 0 (by decide) ?_ | refine num_lit 1 (by decide) ?_ | refine num_lit 2 (by decide) ?_ | refine num_lit 3 (by decide) ?_ | refine num_lit 4 (by decide) ?_ | refine num_lit 5 (by decide) ?_ | refine num_lit 6 (by decide) ?_ | refine num_lit 7 (by decide) ?_ | refine num_lit 8 (by decide) ?_ | refine num_elim ?_ | (with_reducible exact ff_elim) | (with_reducible exact tf_elim) | (intro h; exact absurd h (by decide)) | intro _ | (with_reducible rfl) | refine Or.inl ⟨4, ?_⟩ | refine tell ?_ | exact True.intro | (refine IsT.of ?_; kernel_rfl))
  all_goals ((try refine Tell.mk ?_); first | with_reducible rfl | ((show (_ : Int) ≤ _); decide) | ((show (_ : Int) < _); decide) | (with_reducible refine gb_t ?_; with_reducible assumption) | with_reducible assumption | (with_reducible refine gb_f ?_; with_reducible assumption) | (simp only [gb, *, cond_true, cond_false]; done) | ((with_reducible refine ks_t ?_); rfl) | ((with_reducible refine pk_t ?_); rfl) | ((with_reducible refine lk_t ?_); rfl) | ((with_reducible refine okF_t ?_); kernel_rfl) | grind [gb])
def thenR_k : Con Try.prog := ⟨22, fun args => match args with | [.agg [.flt a, .flt b, .flt c, .flt d, .flt e, .flt f, .flt g, .flt h, .flt i, .flt u, .flt v, .flt w], .agg [.flt a', .flt b', .flt c', .flt d', .flt e', .flt f', .flt g', .flt h', .flt i', .flt u', .flt v', .flt w']] => .ok (none) (.agg [.flt (dotV a' b' c' a d g), .flt (dotV a' b' c' b e h), .flt (dotV a' b' c' c f i), .flt (dotV d' e' f' a d g), .flt (dotV d' e' f' b e h), .flt (dotV d' e' f' c f i), .flt (dotV g' h' i' a d g), .flt (dotV g' h' i' b e h), .flt (dotV g' h' i' c f i), .flt (F .add (dotV a' b' c' u v w) (u')), .flt (F .add (dotV d' e' f' u v w) (v')), .flt (F .add (dotV g' h' i' u v w) (w'))]) | _ => .no, by
  intro args p r h hp
  split at h
  · cases h; exact thenR_a _ _ _ _ _ _ _ _ _ _ _ _ _ _ _ _ _ _ _ _ _ _ _ _
  · cases h⟩
def detV (a b c d e f g h i : Nat) : Nat := dotV a b c (crsV e f h i) (crsV f d i g) (crsV d e g h)
def bkE (a b c d e f g h i u v w : Nat) : Int := bif tfV a b c d e f g h i u v w then (bif feq (detV a b c d e f g h i) 0 then 2 else 0) else 1
def bk0 (a b c d e f g h i u v w : Nat) : Nat := F .quo (crsV e f h i) (detV a b c d e f g h i)
def bk1 (a b c d e f g h i u v w : Nat) : Nat := F .quo (crsV h i b c) (detV a b c d e f g h i)
def bk2 (a b c d e f g h i u v w : Nat) : Nat := F .quo (crsV b c e f) (detV a b c d e f g h i)
def bk3 (a b c d e f g h i u v w : Nat) : Nat := F .quo (crsV f d i g) (detV a b c d e f g h i)
def bk4 (a b c d e f g h i u v w : Nat) : Nat := F .quo (crsV i g c a) (detV a b c d e f g h i)
def bk5 (a b c d e f g h i u v w : Nat) : Nat := F .quo (crsV c a f d) (detV a b c d e f g h i)
def bk6 (a b c d e f g h i u v w : Nat) : Nat := F .quo (crsV d e g h) (detV a b c d e f g h i)
def bk7 (a b c d e f g h i u v w : Nat) : Nat := F .quo (crsV g h a b) (detV a b c d e f g h i)
def bk8 (a b c d e f g h i u v w : Nat) : Nat := F .quo (crsV a b d e) (detV a b c d e f g h i)
def bk9 (a b c d e f g h i u v w : Nat) : Nat := F .mul (dotV (F .quo (crsV e f h i) (detV a b c d e f g h i)) (F .quo (crsV h i b c) (detV a b c d e f g h i)) (F .quo (crsV b c e f) (detV a b c d e f g h i)) u v w) 13830554455654793216
def bk10 (a b c d e f g h i u v w : Nat) : Nat := F .mul (dotV (F .quo (crsV f d i g) (detV a b c d e f g h i)) (F .quo (crsV i g c a) (detV a b c d e f g h i)) (F .quo (crsV c a f d) (detV a b c d e f g h i)) u v w) 13830554455654793216
def bk11 (a b c d e f g h i u v w : Nat) : Nat := F .mul (dotV (F .quo (crsV d e g h) (detV a b c d e f g h i)) (F .quo (crsV g h a b) (detV a b c d e f g h i)) (F .quo (crsV a b d e) (detV a b c d e f g h i)) u v w) 13830554455654793216
theorem back_f : FnOk Try.prog 9 Try.f9 := ⟨Try.func9, by kernel_rfl⟩
theorem back_a (a b c d e f g h i u v w : Nat) : ACalls Try.prog 9 [.agg [.flt a, .flt b, .flt c, .flt d, .flt e, .flt f, .flt g, .flt h, .flt i, .flt u, .flt v, .flt w]] (.tup [.agg [.flt (bif bkE a b c d e f g h i u v w == 0 then bk0 a b c d e f g h i u v w else 0), .flt (bif bkE a b c d e f g h i u v w == 0 then bk1 a b c d e f g h i u v w else 0), .flt (bif bkE a b c d e f g h i u v w == 0 then bk2 a b c d e f g h i u v w else 0), .flt (bif bkE a b c d e f g h i u v w == 0 then bk3 a b c d e f g h i u v w else 0), .flt (bif bkE a b c d e f g h i u v w == 0 then bk4 a b c d e f g h i u v w else 0), .flt (bif bkE a b c d e f g h i u v w == 0 then bk5 a b c d e f g h i u v w else 0), .flt (bif bkE a b c d e f g h i u v w == 0 then bk6 a b c d e f g h i u v w else 0), .flt (bif bkE a b c d e f g h i u v w == 0 then bk7 a b c d e f g h i u v w else 0), .flt (bif bkE a b c d e f g h i u v w == 0 then bk8 a b c d e f g h i u v w else 0), .flt (bif bkE a b c d e f g h i u v w == 0 then bk9 a b c d e f g h i u v w else 0), .flt (bif bkE a b c d e f g h i u v w == 0 then bk10 a b c d e f g h i u v w else 0), .flt (bif bkE a b c d e f g h i u v w == 0 then bk11 a b c d e f g h i u v w else 0)], .int .i64 (bkE a b c d e f g h i u v w)]) := by
  refine acalls_of (inl := hasI (P := Try.prog) [] []) (base [tfine_k, cross_k, dot_k, over_k, columns_k, dir_k, scale_k] [] []) 0 back_f (And.intro (by kernel_rfl) ?_)
  repeat' (first | refine And.intro ?_ ?_ | (with_reducible exact ff_elim) | (with_reducible exact tf_elim) | intro _ | (with_reducible rfl) | ((with_reducible refine lk_t ?_); exact rfl) | refine tell ?_ | exact True.intro | (refine IsT.of ?_; kernel_rfl))
  all_goals ((try refine Tell.mk ?_); first | with_reducible rfl | ((show (_ : Int) ≤ _); decide) | ((show (_ : Int) < _); decide) | (with_reducible refine gb_t ?_; with_reducible assumption) | with_reducible assumption | (with_reducible refine gb_f ?_; with_reducible assumption) | (simp only [bkE, detV, bk0, bk1, bk2, bk3, bk4, bk5, bk6, bk7, bk8, bk9, bk10, bk11, *, cond_true, cond_false]; done) | ((with_reducible refine ks_t ?_); rfl) | ((with_reducible refine pk_t ?_); rfl) | ((with_reducible refine lk_t ?_); rfl) | ((with_reducible refine okF_t ?_); kernel_rfl) | grind [gb, bkE, detV, bk0, bk1, bk2, bk3, bk4, bk5, bk6, bk7, bk8, bk9, bk10, bk11])
def back_k : Con Try.prog := ⟨9, fun args => match args with | [.agg [.flt a, .flt b, .flt c, .flt d, .flt e, .flt f, .flt g, .flt h, .flt i, .flt u, .flt v, .flt w]] => .ok (none) (.tup [.agg [.flt (bif bkE a b c d e f g h i u v w == 0 then bk0 a b c d e f g h i u v w else 0), .flt (bif bkE a b c d e f g h i u v w == 0 then bk1 a b c d e f g h i u v w else 0), .flt (bif bkE a b c d e f g h i u v w == 0 then bk2 a b c d e f g h i u v w else 0), .flt (bif bkE a b c d e f g h i u v w == 0 then bk3 a b c d e f g h i u v w else 0), .flt (bif bkE a b c d e f g h i u v w == 0 then bk4 a b c d e f g h i u v w else 0), .flt (bif bkE a b c d e f g h i u v w == 0 then bk5 a b c d e f g h i u v w else 0), .flt (bif bkE a b c d e f g h i u v w == 0 then bk6 a b c d e f g h i u v w else 0), .flt (bif bkE a b c d e f g h i u v w == 0 then bk7 a b c d e f g h i u v w else 0), .flt (bif bkE a b c d e f g h i u v w == 0 then bk8 a b c d e f g h i u v w else 0), .flt (bif bkE a b c d e f g h i u v w == 0 then bk9 a b c d e f g h i u v w else 0), .flt (bif bkE a b c d e f g h i u v w == 0 then bk10 a b c d e f g h i u v w else 0), .flt (bif bkE a b c d e f g h i u v w == 0 then bk11 a b c d e f g h i u v w else 0)], .int .i64 (bkE a b c d e f g h i u v w)]) | _ => .no, by
  intro args p r h hp
  split at h
  · cases h; exact back_a _ _ _ _ _ _ _ _ _ _ _ _
  · cases h⟩
theorem backR_f : FnOk Try.prog 27 Try.f27 := ⟨Try.func27, by kernel_rfl⟩
theorem backR_a (a b c d e f g h i u v w : Nat) : ACalls Try.prog 27 [.agg [.flt a, .flt b, .flt c, .flt d, .flt e, .flt f, .flt g, .flt h, .flt i, .flt u, .flt v, .flt w]] (.tup [.agg [.flt (bif bkE a b c d e f g h i u v w == 0 then bk0 a b c d e f g h i u v w else 0), .flt (bif bkE a b c d e f g h i u v w == 0 then bk1 a b c d e f g h i u v w else 0), .flt (bif bkE a b c d e f g h i u v w == 0 then bk2 a b c d e f g h i u v w else 0), .flt (bif bkE a b c d e f g h i u v w == 0 then bk3 a b c d e f g h i u v w else 0), .flt (bif bkE a b c d e f g h i u v w == 0 then bk4 a b c d e f g h i u v w else 0), .flt (bif bkE a b c d e f g h i u v w == 0 then bk5 a b c d e f g h i u v w else 0), .flt (bif bkE a b c d e f g h i u v w == 0 then bk6 a b c d e f g h i u v w else 0), .flt (bif bkE a b c d e f g h i u v w == 0 then bk7 a b c d e f g h i u v w else 0), .flt (bif bkE a b c d e f g h i u v w == 0 then bk8 a b c d e f g h i u v w else 0), .flt (bif bkE a b c d e f g h i u v w == 0 then bk9 a b c d e f g h i u v w else 0), .flt (bif bkE a b c d e f g h i u v w == 0 then bk10 a b c d e f g h i u v w else 0), .flt (bif bkE a b c d e f g h i u v w == 0 then bk11 a b c d e f g h i u v w else 0)], .int .i64 (bkE a b c d e f g h i u v w)]) := by
  refine acalls_of (inl := hasI (P := Try.prog) [] []) (base [tfineR_k, crossR_k, dotR_k, overR_k, dirR_k, scaleR_k] [] []) 0 backR_f (And.intro (by kernel_rfl) ?_)
  repeat' (first | refine And.intro ?_ ?_ | (with_reducible exact ff_elim) | (with_reducible exact tf_elim) | intro _ | (with_reducible rfl) | ((with_reducible refine lk_t ?_); exact rfl) | refine tell ?_ | exact True.intro | (refine IsT.of ?_; kernel_rfl))
  all_goals ((try refine Tell.mk ?_); first | with_reducible rfl | ((show (_ : Int) ≤ _); decide) | ((show (_ : Int) < _); decide) | (with_reducible refine gb_t ?_; with_reducible assumption) | with_reducible assumption | (with_reducible refine gb_f ?_; with_reducible assumption) | (simp only [bkE, detV, bk0, bk1, bk2, bk3, bk4, bk5, bk6, bk7, bk8, bk9, bk10, bk11, *, cond_true, cond_false]; done) | ((with_reducible refine ks_t ?_); rfl) | ((with_reducible refine pk_t ?_); rfl) | ((with_reducible refine lk_t ?_); rfl) | ((with_reducible refine okF_t ?_); kernel_rfl) | grind [gb, bkE, detV, bk0, bk1, bk2, bk3, bk4, bk5, bk6, bk7, bk8, bk9, bk10, bk11])
def backR_k : Con Try.prog := ⟨27, fun args => match args with | [.agg [.flt a, .flt b, .flt c, .flt d, .flt e, .flt f, .flt g, .flt h, .flt i, .flt u, .flt v, .flt w]] => .ok (none) (.tup [.agg [.flt (bif bkE a b c d e f g h i u v w == 0 then bk0 a b c d e f g h i u v w else 0), .flt (bif bkE a b c d e f g h i u v w == 0 then bk1 a b c d e f g h i u v w else 0), .flt (bif bkE a b c d e f g h i u v w == 0 then bk2 a b c d e f g h i u v w else 0), .flt (bif bkE a b c d e f g h i u v w == 0 then bk3 a b c d e f g h i u v w else 0), .flt (bif bkE a b c d e f g h i u v w == 0 then bk4 a b c d e f g h i u v w else 0), .flt (bif bkE a b c d e f g h i u v w == 0 then bk5 a b c d e f g h i u v w else 0), .flt (bif bkE a b c d e f g h i u v w == 0 then bk6 a b c d e f g h i u v w else 0), .flt (bif bkE a b c d e f g h i u v w == 0 then bk7 a b c d e f g h i u v w else 0), .flt (bif bkE a b c d e f g h i u v w == 0 then bk8 a b c d e f g h i u v w else 0), .flt (bif bkE a b c d e f g h i u v w == 0 then bk9 a b c d e f g h i u v w else 0), .flt (bif bkE a b c d e f g h i u v w == 0 then bk10 a b c d e f g h i u v w else 0), .flt (bif bkE a b c d e f g h i u v w == 0 then bk11 a b c d e f g h i u v w else 0)], .int .i64 (bkE a b c d e f g h i u v w)]) | _ => .no, by
  intro args p r h hp
  split at h
  · cases h; exact backR_a _ _ _ _ _ _ _ _ _ _ _ _
  · cases h⟩
def bxL0 (a b c d e f g h i u v w l0 l1 l2 h0 h1 h2 : Nat) : Nat := lessV (lessV (lessV (lessV (lessV (lessV (lessV (F .add (dotV a b c l0 l1 l2) (u)) (F .add (dotV a b c h0 l1 l2) (u))) (F .add (dotV a b c l0 h1 l2) (u))) (F .add (dotV a b c h0 h1 l2) (u))) (F .add (dotV a b c l0 l1 h2) (u))) (F .add (dotV a b c h0 l1 h2) (u))) (F .add (dotV a b c l0 h1 h2) (u))) (F .add (dotV a b c h0 h1 h2) (u))
def bxL1 (a b c d e f g h i u v w l0 l1 l2 h0 h1 h2 : Nat) : Nat := lessV (lessV (lessV (lessV (lessV (lessV (lessV (F .add (dotV d e f l0 l1 l2) (v)) (F .add (dotV d e f h0 l1 l2) (v))) (F .add (dotV d e f l0 h1 l2) (v))) (F .add (dotV d e f h0 h1 l2) (v))) (F .add (dotV d e f l0 l1 h2) (v))) (F .add (dotV d e f h0 l1 h2) (v))) (F .add (dotV d e f l0 h1 h2) (v))) (F .add (dotV d e f h0 h1 h2) (v))
def bxL2 (a b c d e f g h i u v w l0 l1 l2 h0 h1 h2 : Nat) : Nat := lessV (lessV (lessV (lessV (lessV (lessV (lessV (F .add (dotV g h i l0 l1 l2) (w)) (F .add (dotV g h i h0 l1 l2) (w))) (F .add (dotV g h i l0 h1 l2) (w))) (F .add (dotV g h i h0 h1 l2) (w))) (F .add (dotV g h i l0 l1 h2) (w))) (F .add (dotV g h i h0 l1 h2) (w))) (F .add (dotV g h i l0 h1 h2) (w))) (F .add (dotV g h i h0 h1 h2) (w))
def bxH0 (a b c d e f g h i u v w l0 l1 l2 h0 h1 h2 : Nat) : Nat := moreV (moreV (moreV (moreV (moreV (moreV (moreV (F .add (dotV a b c l0 l1 l2) (u)) (F .add (dotV a b c h0 l1 l2) (u))) (F .add (dotV a b c l0 h1 l2) (u))) (F .add (dotV a b c h0 h1 l2) (u))) (F .add (dotV a b c l0 l1 h2) (u))) (F .add (dotV a b c h0 l1 h2) (u))) (F .add (dotV a b c l0 h1 h2) (u))) (F .add (dotV a b c h0 h1 h2) (u))
def bxH1 (a b c d e f g h i u v w l0 l1 l2 h0 h1 h2 : Nat) : Nat := moreV (moreV (moreV (moreV (moreV (moreV (moreV (F .add (dotV d e f l0 l1 l2) (v)) (F .add (dotV d e f h0 l1 l2) (v))) (F .add (dotV d e f l0 h1 l2) (v))) (F .add (dotV d e f h0 h1 l2) (v))) (F .add (dotV d e f l0 l1 h2) (v))) (F .add (dotV d e f h0 l1 h2) (v))) (F .add (dotV d e f l0 h1 h2) (v))) (F .add (dotV d e f h0 h1 h2) (v))
def bxH2 (a b c d e f g h i u v w l0 l1 l2 h0 h1 h2 : Nat) : Nat := moreV (moreV (moreV (moreV (moreV (moreV (moreV (F .add (dotV g h i l0 l1 l2) (w)) (F .add (dotV g h i h0 l1 l2) (w))) (F .add (dotV g h i l0 h1 l2) (w))) (F .add (dotV g h i h0 h1 l2) (w))) (F .add (dotV g h i l0 l1 h2) (w))) (F .add (dotV g h i h0 l1 h2) (w))) (F .add (dotV g h i l0 h1 h2) (w))) (F .add (dotV g h i h0 h1 h2) (w))
theorem lessV_self (x : Nat) : lessV x x = x := by unfold lessV; cases flt x x <;> rfl
theorem moreV_self (x : Nat) : moreV x x = x := by unfold moreV; cases fgt x x <;> rfl
theorem box_f : FnOk Try.prog 25 Try.f25 := ⟨Try.func25, by kernel_rfl⟩
theorem box_a (a b c d e f g h i u v w l0 l1 l2 h0 h1 h2 : Nat) : ACalls Try.prog 25 [.agg [.flt a, .flt b, .flt c, .flt d, .flt e, .flt f, .flt g, .flt h, .flt i, .flt u, .flt v, .flt w], .agg [.flt l0, .flt l1, .flt l2, .flt h0, .flt h1, .flt h2]] (.agg [.flt (bxL0 a b c d e f g h i u v w l0 l1 l2 h0 h1 h2), .flt (bxL1 a b c d e f g h i u v w l0 l1 l2 h0 h1 h2), .flt (bxL2 a b c d e f g h i u v w l0 l1 l2 h0 h1 h2), .flt (bxH0 a b c d e f g h i u v w l0 l1 l2 h0 h1 h2), .flt (bxH1 a b c d e f g h i u v w l0 l1 l2 h0 h1 h2), .flt (bxH2 a b c d e f g h i u v w l0 l1 l2 h0 h1 h2)]) := by
  refine acalls_of (inl := hasI (P := Try.prog) [] []) (base [point_k, low_k, high_k] [] []) 0 box_f (And.intro (by kernel_rfl) ?_)
  repeat' (first | refine And.intro ?_ ?_ | refine num_lit 0 (by decide) ?_ | refine num_lit 1 (by decide) ?_ | refine num_lit 2 (by decide) ?_ | refine num_lit 3 (by decide) ?_ | refine num_lit 4 (by decide) ?_ | refine num_lit 5 (by decide) ?_ | refine num_lit 6 (by decide) ?_ | refine num_lit 7 (by decide) ?_ | refine num_lit 8 (by decide) ?_ | refine num_elim ?_ | (with_reducible exact ff_elim) | (with_reducible exact tf_elim) | (intro h; exact absurd h (by decide)) | intro _ | (with_reducible rfl) | refine Or.inl ⟨9, ?_⟩ | refine tell ?_ | exact True.intro | (refine IsT.of ?_; kernel_rfl))
  all_goals ((try refine Tell.mk ?_); first | with_reducible rfl | ((show (_ : Int) ≤ _); decide) | ((show (_ : Int) < _); decide) | (with_reducible refine gb_t ?_; with_reducible assumption) | with_reducible assumption | (with_reducible refine gb_f ?_; with_reducible assumption) | (simp only [bxL0, bxL1, bxL2, bxH0, bxH1, bxH2, lessV_self, moreV_self, *, cond_true, cond_false]; done) | ((with_reducible refine ks_t ?_); rfl) | ((with_reducible refine pk_t ?_); rfl) | ((with_reducible refine lk_t ?_); rfl) | ((with_reducible refine okF_t ?_); kernel_rfl) | grind [gb, bxL0, bxL1, bxL2, bxH0, bxH1, bxH2, lessV_self, moreV_self])
def box_k : Con Try.prog := ⟨25, fun args => match args with | [.agg [.flt a, .flt b, .flt c, .flt d, .flt e, .flt f, .flt g, .flt h, .flt i, .flt u, .flt v, .flt w], .agg [.flt l0, .flt l1, .flt l2, .flt h0, .flt h1, .flt h2]] => .ok (none) (.agg [.flt (bxL0 a b c d e f g h i u v w l0 l1 l2 h0 h1 h2), .flt (bxL1 a b c d e f g h i u v w l0 l1 l2 h0 h1 h2), .flt (bxL2 a b c d e f g h i u v w l0 l1 l2 h0 h1 h2), .flt (bxH0 a b c d e f g h i u v w l0 l1 l2 h0 h1 h2), .flt (bxH1 a b c d e f g h i u v w l0 l1 l2 h0 h1 h2), .flt (bxH2 a b c d e f g h i u v w l0 l1 l2 h0 h1 h2)]) | _ => .no, by
  intro args p r h hp
  split at h
  · cases h; exact box_a _ _ _ _ _ _ _ _ _ _ _ _ _ _ _ _ _ _
  · cases h⟩
theorem boxR_f : FnOk Try.prog 26 Try.f26 := ⟨Try.func26, by kernel_rfl⟩
theorem boxR_a (a b c d e f g h i u v w l0 l1 l2 h0 h1 h2 : Nat) : ACalls Try.prog 26 [.agg [.flt a, .flt b, .flt c, .flt d, .flt e, .flt f, .flt g, .flt h, .flt i, .flt u, .flt v, .flt w], .agg [.flt l0, .flt l1, .flt l2, .flt h0, .flt h1, .flt h2]] (.agg [.flt (bxL0 a b c d e f g h i u v w l0 l1 l2 h0 h1 h2), .flt (bxL1 a b c d e f g h i u v w l0 l1 l2 h0 h1 h2), .flt (bxL2 a b c d e f g h i u v w l0 l1 l2 h0 h1 h2), .flt (bxH0 a b c d e f g h i u v w l0 l1 l2 h0 h1 h2), .flt (bxH1 a b c d e f g h i u v w l0 l1 l2 h0 h1 h2), .flt (bxH2 a b c d e f g h i u v w l0 l1 l2 h0 h1 h2)]) := by
  refine acalls_of (inl := hasI (P := Try.prog) [] []) (base [pointR_k, lowR_k, highR_k] [] []) 0 boxR_f (And.intro (by kernel_rfl) ?_)
  repeat' (first | refine And.intro ?_ ?_ | refine num_lit 0 (by decide) ?_ | refine num_lit 1 (by decide) ?_ | refine num_lit 2 (by decide) ?_ | refine num_lit 3 (by decide) ?_ | refine num_lit 4 (by decide) ?_ | refine num_lit 5 (by decide) ?_ | refine num_lit 6 (by decide) ?_ | refine num_lit 7 (by decide) ?_ | refine num_lit 8 (by decide) ?_ | refine num_elim ?_ | (with_reducible exact ff_elim) | (with_reducible exact tf_elim) | (intro h; exact absurd h (by decide)) | intro _ | (with_reducible rfl) | refine Or.inl ⟨9, ?_⟩ | refine tell ?_ | exact True.intro | (refine IsT.of ?_; kernel_rfl))
  all_goals ((try refine Tell.mk ?_); first | with_reducible rfl | ((show (_ : Int) ≤ _); decide) | ((show (_ : Int) < _); decide) | (with_reducible refine gb_t ?_; with_reducible assumption) | with_reducible assumption | (with_reducible refine gb_f ?_; with_reducible assumption) | (simp only [bxL0, bxL1, bxL2, bxH0, bxH1, bxH2, lessV_self, moreV_self, *, cond_true, cond_false]; done) | ((with_reducible refine ks_t ?_); rfl) | ((with_reducible refine pk_t ?_); rfl) | ((with_reducible refine lk_t ?_); rfl) | ((with_reducible refine okF_t ?_); kernel_rfl) | grind [gb, bxL0, bxL1, bxL2, bxH0, bxH1, bxH2, lessV_self, moreV_self])
def boxR_k : Con Try.prog := ⟨26, fun args => match args with | [.agg [.flt a, .flt b, .flt c, .flt d, .flt e, .flt f, .flt g, .flt h, .flt i, .flt u, .flt v, .flt w], .agg [.flt l0, .flt l1, .flt l2, .flt h0, .flt h1, .flt h2]] => .ok (none) (.agg [.flt (bxL0 a b c d e f g h i u v w l0 l1 l2 h0 h1 h2), .flt (bxL1 a b c d e f g h i u v w l0 l1 l2 h0 h1 h2), .flt (bxL2 a b c d e f g h i u v w l0 l1 l2 h0 h1 h2), .flt (bxH0 a b c d e f g h i u v w l0 l1 l2 h0 h1 h2), .flt (bxH1 a b c d e f g h i u v w l0 l1 l2 h0 h1 h2), .flt (bxH2 a b c d e f g h i u v w l0 l1 l2 h0 h1 h2)]) | _ => .no, by
  intro args p r h hp
  split at h
  · cases h; exact boxR_a _ _ _ _ _ _ _ _ _ _ _ _ _ _ _ _ _ _
  · cases h⟩
theorem sameTurn_f : FnOk Try.prog 7 Try.f7 := ⟨Try.func7, by kernel_rfl⟩
theorem sameTurn_a (a b c d e f g h i u v w a' b' c' d' e' f' g' h' i' u' v' w' : Nat) : ACalls Try.prog 7 [.agg [.flt a, .flt b, .flt c, .flt d, .flt e, .flt f, .flt g, .flt h, .flt i, .flt u, .flt v, .flt w], .agg [.flt a', .flt b', .flt c', .flt d', .flt e', .flt f', .flt g', .flt h', .flt i', .flt u', .flt v', .flt w']] (.bool ((((sameV a a' && (sameV b b' && sameV c c')) && (sameV d d' && (sameV e e' && sameV f f'))) && (sameV g g' && (sameV h h' && sameV i i'))) && (sameV u u' && (sameV v v' && sameV w w')))) := by
  refine acalls_of (inl := hasI (P := Try.prog) [] []) (base [samevec_k] [] []) 0 sameTurn_f (And.intro (by kernel_rfl) ?_)
  repeat' (first | refine And.intro ?_ ?_ | (with_reducible exact ff_elim) | (with_reducible exact tf_elim) | intro _ | (with_reducible rfl) | ((with_reducible refine lk_t ?_); exact rfl) | refine tell ?_ | exact True.intro | (refine IsT.of ?_; kernel_rfl))
  all_goals ((try refine Tell.mk ?_); first | with_reducible rfl | ((show (_ : Int) ≤ _); decide) | ((show (_ : Int) < _); decide) | (with_reducible refine gb_t ?_; with_reducible assumption) | with_reducible assumption | (with_reducible refine gb_f ?_; with_reducible assumption) | (simp only [gb, *, cond_true, cond_false]; done) | ((with_reducible refine ks_t ?_); rfl) | ((with_reducible refine pk_t ?_); rfl) | ((with_reducible refine lk_t ?_); rfl) | ((with_reducible refine okF_t ?_); kernel_rfl) | grind [gb])
def sameTurn_k : Con Try.prog := ⟨7, fun args => match args with | [.agg [.flt a, .flt b, .flt c, .flt d, .flt e, .flt f, .flt g, .flt h, .flt i, .flt u, .flt v, .flt w], .agg [.flt a', .flt b', .flt c', .flt d', .flt e', .flt f', .flt g', .flt h', .flt i', .flt u', .flt v', .flt w']] => .ok (none) (.bool ((((sameV a a' && (sameV b b' && sameV c c')) && (sameV d d' && (sameV e e' && sameV f f'))) && (sameV g g' && (sameV h h' && sameV i i'))) && (sameV u u' && (sameV v v' && sameV w w')))) | _ => .no, by
  intro args p r h hp
  split at h
  · cases h; exact sameTurn_a _ _ _ _ _ _ _ _ _ _ _ _ _ _ _ _ _ _ _ _ _ _ _ _
  · cases h⟩
theorem turnSays_f : FnOk Try.prog 4 Try.f4 := ⟨Try.func4, by kernel_rfl⟩
theorem turnSays_a (a b c d e f g h i u v w a' b' c' d' e' f' g' h' i' u' v' w' p q r l0 l1 l2 h0 h1 h2 : Nat) : ACalls Try.prog 4 [.agg [.flt a, .flt b, .flt c, .flt d, .flt e, .flt f, .flt g, .flt h, .flt i, .flt u, .flt v, .flt w], .agg [.flt a', .flt b', .flt c', .flt d', .flt e', .flt f', .flt g', .flt h', .flt i', .flt u', .flt v', .flt w'], .agg [.flt p, .flt q, .flt r], .agg [.flt l0, .flt l1, .flt l2, .flt h0, .flt h1, .flt h2]] (.bool true) := by
  refine acalls_of (inl := hasI (P := Try.prog) [] []) (base [tfine_k, tfineR_k, same0_k, shift_k, shiftR_k, dir_k, dirR_k, point_k, pointR_k, then_k, thenR_k, may_k, box_k, boxR_k, back_k, backR_k, sameTurn_k, samevec_k, samebox_k] [] []) 0 turnSays_f (And.intro (by kernel_rfl) ?_)
  repeat' (first | refine And.intro ?_ ?_ | (with_reducible exact ff_elim) | (with_reducible exact tf_elim) | intro _ | (with_reducible rfl) | ((with_reducible refine lk_t ?_); exact rfl) | refine tell ?_ | exact True.intro | (refine IsT.of ?_; kernel_rfl))
  all_goals (refine Tell.mk ?_; first | with_reducible rfl | with_reducible assumption | (with_reducible refine gb_t ?_; with_reducible assumption) | (with_reducible refine gb_f ?_; with_reducible assumption) | (simp_all [sameV_refl]; done))
def turnSays_k : Con Try.prog := ⟨4, fun args => match args with | [.agg [.flt a, .flt b, .flt c, .flt d, .flt e, .flt f, .flt g, .flt h, .flt i, .flt u, .flt v, .flt w], .agg [.flt a', .flt b', .flt c', .flt d', .flt e', .flt f', .flt g', .flt h', .flt i', .flt u', .flt v', .flt w'], .agg [.flt p, .flt q, .flt r], .agg [.flt l0, .flt l1, .flt l2, .flt h0, .flt h1, .flt h2]] => .ok (none) (.bool true) | _ => .no, by
  intro args p r h hp
  split at h
  · cases h; exact turnSays_a _ _ _ _ _ _ _ _ _ _ _ _ _ _ _ _ _ _ _ _ _ _ _ _ _ _ _ _ _ _ _ _ _
  · cases h⟩
end Go.Proofs.Ytmnfkogjkaknfaa
