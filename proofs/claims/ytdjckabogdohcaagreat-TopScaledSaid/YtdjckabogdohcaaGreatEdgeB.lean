/- Rays: frames, places, sides; one set of contracts for each greatest axis. -/
import Derived.Test.YtdjckabogdohcaaGreatEdgeA
namespace Go.Proofs.YtdjckabogdohcaaGreat
open Go.RowKit Ev
set_option linter.unusedVariables false
set_option linter.unusedSimpArgs false
set_option maxRecDepth 20000
set_option maxHeartbeats 4000000

def plX0 (a b c d e f p q r : Nat) : Nat := F .sub (F .sub q b) (F .mul (F .quo e d) (F .sub p a))
def plY0 (a b c d e f p q r : Nat) : Nat := F .sub (F .sub r c) (F .mul (F .quo f d) (F .sub p a))
def plZ0 (a b c d e f p q r : Nat) : Nat := F .mul (F .quo 4607182418800017408 d) (F .sub p a)
def sdV0 (a b c d e f p q r u v w : Nat) : Nat := F .sub (F .mul (plX0 a b c d e f p q r) (plY0 a b c d e f u v w)) (F .mul (plY0 a b c d e f p q r) (plX0 a b c d e f u v w))
theorem frame0_f : FnOk Tryz.prog 37 Tryz.f37 := ⟨Tryz.func37, by kernel_rfl⟩
theorem frame0_a (a b c d e f l : Nat) (hpre : deepV d e f = 0) : ACalls Tryz.prog 37 [.agg [.flt a, .flt b, .flt c, .flt d, .flt e, .flt f, .flt l]] (.agg [.flt a, .flt b, .flt c, .int .i64 1, .int .i64 2, .int .i64 0, .flt (F .quo e d), .flt (F .quo f d), .flt (F .quo 4607182418800017408 d)]) := by
  refine acalls_of (inl := hasI (P := Tryz.prog) [] []) (base [axisS0_k, axisS1_k, axisS2_k, abs_k] [] []) 0 frame0_f (And.intro (by kernel_rfl) ?_)
  repeat' (first | refine And.intro ?_ ?_ | refine num_lit 0 (by decide) ?_ | refine num_lit 1 (by decide) ?_ | refine num_lit 2 (by decide) ?_ | refine num_lit 3 (by decide) ?_ | refine num_lit 4 (by decide) ?_ | refine num_lit 5 (by decide) ?_ | refine num_lit 6 (by decide) ?_ | refine num_lit 7 (by decide) ?_ | refine num_lit 8 (by decide) ?_ | refine num_elim ?_ | (with_reducible exact ff_elim) | (with_reducible exact tf_elim) | (intro h; exact absurd h (by decide)) | intro _ | (with_reducible rfl) | refine Or.inl ⟨3, ?_⟩ | refine tell ?_ | exact True.intro | (refine IsT.of ?_; kernel_rfl))
  all_goals (try refine Tell.mk ?_)
  all_goals first | with_reducible rfl | with_reducible assumption | (with_reducible refine gb_t ?_; with_reducible assumption) | (with_reducible refine gb_f ?_; with_reducible assumption) | ((with_reducible refine lk_t ?_); rfl) | ((with_reducible refine ks_t ?_); rfl) | ((with_reducible refine pk_t ?_); rfl) | ((with_reducible refine pf_t ?_); rfl) | (exfalso; simp_all [deepV]; done)
def frame0_k : Con Tryz.prog := ⟨37, fun args => match args with | [.agg [.flt a, .flt b, .flt c, .flt d, .flt e, .flt f, .flt l]] => .ok (some (deepV d e f = 0)) (.agg [.flt a, .flt b, .flt c, .int .i64 1, .int .i64 2, .int .i64 0, .flt (F .quo e d), .flt (F .quo f d), .flt (F .quo 4607182418800017408 d)]) | _ => .no, by
  intro args p r h hp
  split at h
  · cases h; exact frame0_a _ _ _ _ _ _ _ hp
  · cases h⟩
theorem place0_f : FnOk Tryz.prog 72 Tryz.f72 := ⟨Tryz.func72, by kernel_rfl⟩
theorem place0_a (a b c sx sy sz p q r : Nat) : ACalls Tryz.prog 72 [.agg [.flt a, .flt b, .flt c, .int .i64 1, .int .i64 2, .int .i64 0, .flt sx, .flt sy, .flt sz], .agg [.flt p, .flt q, .flt r]] (.tup [.flt (F .sub (F .sub q b) (F .mul sx (F .sub p a))), .flt (F .sub (F .sub r c) (F .mul sy (F .sub p a))), .flt (F .mul sz (F .sub p a))]) := by
  refine acalls_of (inl := hasI (P := Tryz.prog) [] []) (base [sub_k, axisS0_k, axisS1_k, axisS2_k] [] []) 0 place0_f (And.intro (by kernel_rfl) ?_)
  repeat' (first | refine And.intro ?_ ?_ | (with_reducible exact ff_elim) | (with_reducible exact tf_elim) | intro _ | (with_reducible rfl) | ((with_reducible refine lk_t ?_); exact rfl) | ((with_reducible refine pf_t ?_); exact rfl) | refine tell ?_ | exact True.intro | (refine IsT.of ?_; kernel_rfl))
  all_goals ((try refine Tell.mk ?_); first | with_reducible rfl | ((show (_ : Int) ≤ _); decide) | ((show (_ : Int) < _); decide) | (with_reducible refine gb_t ?_; with_reducible assumption) | with_reducible assumption | (with_reducible refine gb_f ?_; with_reducible assumption) | (simp only [gb, *, cond_true, cond_false]; done) | ((with_reducible refine ks_t ?_); rfl) | ((with_reducible refine pk_t ?_); rfl) | ((with_reducible refine pf_t ?_); rfl) | ((with_reducible refine lk_t ?_); rfl) | ((with_reducible refine okF_t ?_); kernel_rfl) | grind [gb])
def place0_k : Con Tryz.prog := ⟨72, fun args => match args with | [.agg [.flt a, .flt b, .flt c, .int .i64 1, .int .i64 2, .int .i64 0, .flt sx, .flt sy, .flt sz], .agg [.flt p, .flt q, .flt r]] => .ok (none) (.tup [.flt (F .sub (F .sub q b) (F .mul sx (F .sub p a))), .flt (F .sub (F .sub r c) (F .mul sy (F .sub p a))), .flt (F .mul sz (F .sub p a))]) | _ => .no, by
  intro args p r h hp
  split at h
  · cases h; exact place0_a _ _ _ _ _ _ _ _ _
  · cases h⟩
theorem edge0_f : FnOk Tryz.prog 38 Tryz.f38 := ⟨Tryz.func38, by kernel_rfl⟩
theorem edge0_a (a b c sx sy sz p q r u v w : Nat) : ACalls Tryz.prog 38 [.agg [.flt a, .flt b, .flt c, .int .i64 1, .int .i64 2, .int .i64 0, .flt sx, .flt sy, .flt sz], .agg [.flt p, .flt q, .flt r], .agg [.flt u, .flt v, .flt w]] (.flt (F .sub (F .mul (F .sub (F .sub q b) (F .mul sx (F .sub p a))) (F .sub (F .sub w c) (F .mul sy (F .sub u a)))) (F .mul (F .sub (F .sub r c) (F .mul sy (F .sub p a))) (F .sub (F .sub v b) (F .mul sx (F .sub u a)))))) := by
  refine acalls_of (inl := hasI (P := Tryz.prog) [] []) (base [place0_k] [] []) 0 edge0_f (And.intro (by kernel_rfl) ?_)
  repeat' (first | refine And.intro ?_ ?_ | (with_reducible exact ff_elim) | (with_reducible exact tf_elim) | intro _ | (with_reducible rfl) | ((with_reducible refine lk_t ?_); exact rfl) | ((with_reducible refine pf_t ?_); exact rfl) | refine tell ?_ | exact True.intro | (refine IsT.of ?_; kernel_rfl))
  all_goals ((try refine Tell.mk ?_); first | with_reducible rfl | ((show (_ : Int) ≤ _); decide) | ((show (_ : Int) < _); decide) | (with_reducible refine gb_t ?_; with_reducible assumption) | with_reducible assumption | (with_reducible refine gb_f ?_; with_reducible assumption) | (simp only [gb, *, cond_true, cond_false]; done) | ((with_reducible refine ks_t ?_); rfl) | ((with_reducible refine pk_t ?_); rfl) | ((with_reducible refine pf_t ?_); rfl) | ((with_reducible refine lk_t ?_); rfl) | ((with_reducible refine okF_t ?_); kernel_rfl) | grind [gb])
def edge0_k : Con Tryz.prog := ⟨38, fun args => match args with | [.agg [.flt a, .flt b, .flt c, .int .i64 1, .int .i64 2, .int .i64 0, .flt sx, .flt sy, .flt sz], .agg [.flt p, .flt q, .flt r], .agg [.flt u, .flt v, .flt w]] => .ok (none) (.flt (F .sub (F .mul (F .sub (F .sub q b) (F .mul sx (F .sub p a))) (F .sub (F .sub w c) (F .mul sy (F .sub u a)))) (F .mul (F .sub (F .sub r c) (F .mul sy (F .sub p a))) (F .sub (F .sub v b) (F .mul sx (F .sub u a)))))) | _ => .no, by
  intro args p r h hp
  split at h
  · cases h; exact edge0_a _ _ _ _ _ _ _ _ _ _ _ _
  · cases h⟩
theorem placeR0_f : FnOk Tryz.prog 97 Tryz.f97 := ⟨Tryz.func97, by kernel_rfl⟩
theorem placeR0_a (a b c d e f l p q r : Nat) (hpre : deepV d e f = 0) : ACalls Tryz.prog 97 [.agg [.flt a, .flt b, .flt c, .flt d, .flt e, .flt f, .flt l], .agg [.flt p, .flt q, .flt r]] (.agg [.flt (plX0 a b c d e f p q r), .flt (plY0 a b c d e f p q r), .flt (plZ0 a b c d e f p q r)]) := by
  refine acalls_of (inl := hasI (P := Tryz.prog) [] []) (base [deep0_k, subR_k, axis0_k, axis1_k, axis2_k, times_k] [] []) 0 placeR0_f (And.intro (by kernel_rfl) ?_)
  repeat' (first | refine And.intro ?_ ?_ | refine num_lit 0 (by decide) ?_ | refine num_lit 1 (by decide) ?_ | refine num_lit 2 (by decide) ?_ | refine num_lit 3 (by decide) ?_ | refine num_lit 4 (by decide) ?_ | refine num_lit 5 (by decide) ?_ | refine num_lit 6 (by decide) ?_ | refine num_lit 7 (by decide) ?_ | refine num_lit 8 (by decide) ?_ | refine num_elim ?_ | (with_reducible exact ff_elim) | (with_reducible exact tf_elim) | (intro h; exact absurd h (by decide)) | intro _ | (with_reducible rfl) | refine Or.inl ⟨1, ?_⟩ | refine tell ?_ | exact True.intro | (refine IsT.of ?_; kernel_rfl))
  all_goals (refine Tell.mk ?_; first | with_reducible assumption | rfl)
def placeR0_k : Con Tryz.prog := ⟨97, fun args => match args with | [.agg [.flt a, .flt b, .flt c, .flt d, .flt e, .flt f, .flt l], .agg [.flt p, .flt q, .flt r]] => .ok (some (deepV d e f = 0)) (.agg [.flt (plX0 a b c d e f p q r), .flt (plY0 a b c d e f p q r), .flt (plZ0 a b c d e f p q r)]) | _ => .no, by
  intro args p r h hp
  split at h
  · cases h; exact placeR0_a _ _ _ _ _ _ _ _ _ _ hp
  · cases h⟩
theorem side0_f : FnOk Tryz.prog 96 Tryz.f96 := ⟨Tryz.func96, by kernel_rfl⟩
theorem side0_a (a b c d e f l p q r u v w : Nat) (hpre : deepV d e f = 0) : ACalls Tryz.prog 96 [.agg [.flt a, .flt b, .flt c, .flt d, .flt e, .flt f, .flt l], .agg [.flt p, .flt q, .flt r], .agg [.flt u, .flt v, .flt w]] (.flt (sdV0 a b c d e f p q r u v w)) := by
  refine acalls_of (inl := hasI (P := Tryz.prog) [] []) (base [placeR0_k, times_k] [] []) 0 side0_f (And.intro (by kernel_rfl) ?_)
  repeat' (first | refine And.intro ?_ ?_ | (with_reducible exact ff_elim) | (with_reducible exact tf_elim) | intro _ | (with_reducible rfl) | ((with_reducible refine lk_t ?_); exact rfl) | ((with_reducible refine pf_t ?_); exact rfl) | refine tell ?_ | exact True.intro | (refine IsT.of ?_; kernel_rfl))
  all_goals (refine Tell.mk ?_; first | with_reducible assumption | rfl)
def side0_k : Con Tryz.prog := ⟨96, fun args => match args with | [.agg [.flt a, .flt b, .flt c, .flt d, .flt e, .flt f, .flt l], .agg [.flt p, .flt q, .flt r], .agg [.flt u, .flt v, .flt w]] => .ok (some (deepV d e f = 0)) (.flt (sdV0 a b c d e f p q r u v w)) | _ => .no, by
  intro args p r h hp
  split at h
  · cases h; exact side0_a _ _ _ _ _ _ _ _ _ _ _ _ _ hp
  · cases h⟩
def plX1 (a b c d e f p q r : Nat) : Nat := F .sub (F .sub r c) (F .mul (F .quo f e) (F .sub q b))
def plY1 (a b c d e f p q r : Nat) : Nat := F .sub (F .sub p a) (F .mul (F .quo d e) (F .sub q b))
def plZ1 (a b c d e f p q r : Nat) : Nat := F .mul (F .quo 4607182418800017408 e) (F .sub q b)
def sdV1 (a b c d e f p q r u v w : Nat) : Nat := F .sub (F .mul (plX1 a b c d e f p q r) (plY1 a b c d e f u v w)) (F .mul (plY1 a b c d e f p q r) (plX1 a b c d e f u v w))
theorem frame1_f : FnOk Tryz.prog 37 Tryz.f37 := ⟨Tryz.func37, by kernel_rfl⟩
theorem frame1_a (a b c d e f l : Nat) (hpre : deepV d e f = 1) : ACalls Tryz.prog 37 [.agg [.flt a, .flt b, .flt c, .flt d, .flt e, .flt f, .flt l]] (.agg [.flt a, .flt b, .flt c, .int .i64 2, .int .i64 0, .int .i64 1, .flt (F .quo f e), .flt (F .quo d e), .flt (F .quo 4607182418800017408 e)]) := by
  refine acalls_of (inl := hasI (P := Tryz.prog) [] []) (base [axisS0_k, axisS1_k, axisS2_k, abs_k] [] []) 0 frame1_f (And.intro (by kernel_rfl) ?_)
  repeat' (first | refine And.intro ?_ ?_ | refine num_lit 0 (by decide) ?_ | refine num_lit 1 (by decide) ?_ | refine num_lit 2 (by decide) ?_ | refine num_lit 3 (by decide) ?_ | refine num_lit 4 (by decide) ?_ | refine num_lit 5 (by decide) ?_ | refine num_lit 6 (by decide) ?_ | refine num_lit 7 (by decide) ?_ | refine num_lit 8 (by decide) ?_ | refine num_elim ?_ | (with_reducible exact ff_elim) | (with_reducible exact tf_elim) | (intro h; exact absurd h (by decide)) | intro _ | (with_reducible rfl) | refine Or.inl ⟨3, ?_⟩ | refine tell ?_ | exact True.intro | (refine IsT.of ?_; kernel_rfl))
  all_goals (try refine Tell.mk ?_)
  all_goals first | with_reducible rfl | with_reducible assumption | (with_reducible refine gb_t ?_; with_reducible assumption) | (with_reducible refine gb_f ?_; with_reducible assumption) | ((with_reducible refine lk_t ?_); rfl) | ((with_reducible refine ks_t ?_); rfl) | ((with_reducible refine pk_t ?_); rfl) | ((with_reducible refine pf_t ?_); rfl) | (exfalso; simp_all [deepV]; done)
def frame1_k : Con Tryz.prog := ⟨37, fun args => match args with | [.agg [.flt a, .flt b, .flt c, .flt d, .flt e, .flt f, .flt l]] => .ok (some (deepV d e f = 1)) (.agg [.flt a, .flt b, .flt c, .int .i64 2, .int .i64 0, .int .i64 1, .flt (F .quo f e), .flt (F .quo d e), .flt (F .quo 4607182418800017408 e)]) | _ => .no, by
  intro args p r h hp
  split at h
  · cases h; exact frame1_a _ _ _ _ _ _ _ hp
  · cases h⟩
theorem place1_f : FnOk Tryz.prog 72 Tryz.f72 := ⟨Tryz.func72, by kernel_rfl⟩
theorem place1_a (a b c sx sy sz p q r : Nat) : ACalls Tryz.prog 72 [.agg [.flt a, .flt b, .flt c, .int .i64 2, .int .i64 0, .int .i64 1, .flt sx, .flt sy, .flt sz], .agg [.flt p, .flt q, .flt r]] (.tup [.flt (F .sub (F .sub r c) (F .mul sx (F .sub q b))), .flt (F .sub (F .sub p a) (F .mul sy (F .sub q b))), .flt (F .mul sz (F .sub q b))]) := by
  refine acalls_of (inl := hasI (P := Tryz.prog) [] []) (base [sub_k, axisS0_k, axisS1_k, axisS2_k] [] []) 0 place1_f (And.intro (by kernel_rfl) ?_)
  repeat' (first | refine And.intro ?_ ?_ | (with_reducible exact ff_elim) | (with_reducible exact tf_elim) | intro _ | (with_reducible rfl) | ((with_reducible refine lk_t ?_); exact rfl) | ((with_reducible refine pf_t ?_); exact rfl) | refine tell ?_ | exact True.intro | (refine IsT.of ?_; kernel_rfl))
  all_goals ((try refine Tell.mk ?_); first | with_reducible rfl | ((show (_ : Int) ≤ _); decide) | ((show (_ : Int) < _); decide) | (with_reducible refine gb_t ?_; with_reducible assumption) | with_reducible assumption | (with_reducible refine gb_f ?_; with_reducible assumption) | (simp only [gb, *, cond_true, cond_false]; done) | ((with_reducible refine ks_t ?_); rfl) | ((with_reducible refine pk_t ?_); rfl) | ((with_reducible refine pf_t ?_); rfl) | ((with_reducible refine lk_t ?_); rfl) | ((with_reducible refine okF_t ?_); kernel_rfl) | grind [gb])
def place1_k : Con Tryz.prog := ⟨72, fun args => match args with | [.agg [.flt a, .flt b, .flt c, .int .i64 2, .int .i64 0, .int .i64 1, .flt sx, .flt sy, .flt sz], .agg [.flt p, .flt q, .flt r]] => .ok (none) (.tup [.flt (F .sub (F .sub r c) (F .mul sx (F .sub q b))), .flt (F .sub (F .sub p a) (F .mul sy (F .sub q b))), .flt (F .mul sz (F .sub q b))]) | _ => .no, by
  intro args p r h hp
  split at h
  · cases h; exact place1_a _ _ _ _ _ _ _ _ _
  · cases h⟩
theorem edge1_f : FnOk Tryz.prog 38 Tryz.f38 := ⟨Tryz.func38, by kernel_rfl⟩
theorem edge1_a (a b c sx sy sz p q r u v w : Nat) : ACalls Tryz.prog 38 [.agg [.flt a, .flt b, .flt c, .int .i64 2, .int .i64 0, .int .i64 1, .flt sx, .flt sy, .flt sz], .agg [.flt p, .flt q, .flt r], .agg [.flt u, .flt v, .flt w]] (.flt (F .sub (F .mul (F .sub (F .sub r c) (F .mul sx (F .sub q b))) (F .sub (F .sub u a) (F .mul sy (F .sub v b)))) (F .mul (F .sub (F .sub p a) (F .mul sy (F .sub q b))) (F .sub (F .sub w c) (F .mul sx (F .sub v b)))))) := by
  refine acalls_of (inl := hasI (P := Tryz.prog) [] []) (base [place1_k] [] []) 0 edge1_f (And.intro (by kernel_rfl) ?_)
  repeat' (first | refine And.intro ?_ ?_ | (with_reducible exact ff_elim) | (with_reducible exact tf_elim) | intro _ | (with_reducible rfl) | ((with_reducible refine lk_t ?_); exact rfl) | ((with_reducible refine pf_t ?_); exact rfl) | refine tell ?_ | exact True.intro | (refine IsT.of ?_; kernel_rfl))
  all_goals ((try refine Tell.mk ?_); first | with_reducible rfl | ((show (_ : Int) ≤ _); decide) | ((show (_ : Int) < _); decide) | (with_reducible refine gb_t ?_; with_reducible assumption) | with_reducible assumption | (with_reducible refine gb_f ?_; with_reducible assumption) | (simp only [gb, *, cond_true, cond_false]; done) | ((with_reducible refine ks_t ?_); rfl) | ((with_reducible refine pk_t ?_); rfl) | ((with_reducible refine pf_t ?_); rfl) | ((with_reducible refine lk_t ?_); rfl) | ((with_reducible refine okF_t ?_); kernel_rfl) | grind [gb])
def edge1_k : Con Tryz.prog := ⟨38, fun args => match args with | [.agg [.flt a, .flt b, .flt c, .int .i64 2, .int .i64 0, .int .i64 1, .flt sx, .flt sy, .flt sz], .agg [.flt p, .flt q, .flt r], .agg [.flt u, .flt v, .flt w]] => .ok (none) (.flt (F .sub (F .mul (F .sub (F .sub r c) (F .mul sx (F .sub q b))) (F .sub (F .sub u a) (F .mul sy (F .sub v b)))) (F .mul (F .sub (F .sub p a) (F .mul sy (F .sub q b))) (F .sub (F .sub w c) (F .mul sx (F .sub v b)))))) | _ => .no, by
  intro args p r h hp
  split at h
  · cases h; exact edge1_a _ _ _ _ _ _ _ _ _ _ _ _
  · cases h⟩
theorem placeR1_f : FnOk Tryz.prog 97 Tryz.f97 := ⟨Tryz.func97, by kernel_rfl⟩
theorem placeR1_a (a b c d e f l p q r : Nat) (hpre : deepV d e f = 1) : ACalls Tryz.prog 97 [.agg [.flt a, .flt b, .flt c, .flt d, .flt e, .flt f, .flt l], .agg [.flt p, .flt q, .flt r]] (.agg [.flt (plX1 a b c d e f p q r), .flt (plY1 a b c d e f p q r), .flt (plZ1 a b c d e f p q r)]) := by
  refine acalls_of (inl := hasI (P := Tryz.prog) [] []) (base [deep1_k, subR_k, axis0_k, axis1_k, axis2_k, times_k] [] []) 0 placeR1_f (And.intro (by kernel_rfl) ?_)
  repeat' (first | refine And.intro ?_ ?_ | refine num_lit 0 (by decide) ?_ | refine num_lit 1 (by decide) ?_ | refine num_lit 2 (by decide) ?_ | refine num_lit 3 (by decide) ?_ | refine num_lit 4 (by decide) ?_ | refine num_lit 5 (by decide) ?_ | refine num_lit 6 (by decide) ?_ | refine num_lit 7 (by decide) ?_ | refine num_lit 8 (by decide) ?_ | refine num_elim ?_ | (with_reducible exact ff_elim) | (with_reducible exact tf_elim) | (intro h; exact absurd h (by decide)) | intro _ | (with_reducible rfl) | refine Or.inl ⟨1, ?_⟩ | refine tell ?_ | exact True.intro | (refine IsT.of ?_; kernel_rfl))
  all_goals (refine Tell.mk ?_; first | with_reducible assumption | rfl)
def placeR1_k : Con Tryz.prog := ⟨97, fun args => match args with | [.agg [.flt a, .flt b, .flt c, .flt d, .flt e, .flt f, .flt l], .agg [.flt p, .flt q, .flt r]] => .ok (some (deepV d e f = 1)) (.agg [.flt (plX1 a b c d e f p q r), .flt (plY1 a b c d e f p q r), .flt (plZ1 a b c d e f p q r)]) | _ => .no, by
  intro args p r h hp
  split at h
  · cases h; exact placeR1_a _ _ _ _ _ _ _ _ _ _ hp
  · cases h⟩
theorem side1_f : FnOk Tryz.prog 96 Tryz.f96 := ⟨Tryz.func96, by kernel_rfl⟩
theorem side1_a (a b c d e f l p q r u v w : Nat) (hpre : deepV d e f = 1) : ACalls Tryz.prog 96 [.agg [.flt a, .flt b, .flt c, .flt d, .flt e, .flt f, .flt l], .agg [.flt p, .flt q, .flt r], .agg [.flt u, .flt v, .flt w]] (.flt (sdV1 a b c d e f p q r u v w)) := by
  refine acalls_of (inl := hasI (P := Tryz.prog) [] []) (base [placeR1_k, times_k] [] []) 0 side1_f (And.intro (by kernel_rfl) ?_)
  repeat' (first | refine And.intro ?_ ?_ | (with_reducible exact ff_elim) | (with_reducible exact tf_elim) | intro _ | (with_reducible rfl) | ((with_reducible refine lk_t ?_); exact rfl) | ((with_reducible refine pf_t ?_); exact rfl) | refine tell ?_ | exact True.intro | (refine IsT.of ?_; kernel_rfl))
  all_goals (refine Tell.mk ?_; first | with_reducible assumption | rfl)
def side1_k : Con Tryz.prog := ⟨96, fun args => match args with | [.agg [.flt a, .flt b, .flt c, .flt d, .flt e, .flt f, .flt l], .agg [.flt p, .flt q, .flt r], .agg [.flt u, .flt v, .flt w]] => .ok (some (deepV d e f = 1)) (.flt (sdV1 a b c d e f p q r u v w)) | _ => .no, by
  intro args p r h hp
  split at h
  · cases h; exact side1_a _ _ _ _ _ _ _ _ _ _ _ _ _ hp
  · cases h⟩
def plX2 (a b c d e f p q r : Nat) : Nat := F .sub (F .sub p a) (F .mul (F .quo d f) (F .sub r c))
def plY2 (a b c d e f p q r : Nat) : Nat := F .sub (F .sub q b) (F .mul (F .quo e f) (F .sub r c))
def plZ2 (a b c d e f p q r : Nat) : Nat := F .mul (F .quo 4607182418800017408 f) (F .sub r c)
def sdV2 (a b c d e f p q r u v w : Nat) : Nat := F .sub (F .mul (plX2 a b c d e f p q r) (plY2 a b c d e f u v w)) (F .mul (plY2 a b c d e f p q r) (plX2 a b c d e f u v w))
theorem frame2_f : FnOk Tryz.prog 37 Tryz.f37 := ⟨Tryz.func37, by kernel_rfl⟩
theorem frame2_a (a b c d e f l : Nat) (hpre : deepV d e f = 2) : ACalls Tryz.prog 37 [.agg [.flt a, .flt b, .flt c, .flt d, .flt e, .flt f, .flt l]] (.agg [.flt a, .flt b, .flt c, .int .i64 0, .int .i64 1, .int .i64 2, .flt (F .quo d f), .flt (F .quo e f), .flt (F .quo 4607182418800017408 f)]) := by
  refine acalls_of (inl := hasI (P := Tryz.prog) [] []) (base [axisS0_k, axisS1_k, axisS2_k, abs_k] [] []) 0 frame2_f (And.intro (by kernel_rfl) ?_)
  repeat' (first | refine And.intro ?_ ?_ | refine num_lit 0 (by decide) ?_ | refine num_lit 1 (by decide) ?_ | refine num_lit 2 (by decide) ?_ | refine num_lit 3 (by decide) ?_ | refine num_lit 4 (by decide) ?_ | refine num_lit 5 (by decide) ?_ | refine num_lit 6 (by decide) ?_ | refine num_lit 7 (by decide) ?_ | refine num_lit 8 (by decide) ?_ | refine num_elim ?_ | (with_reducible exact ff_elim) | (with_reducible exact tf_elim) | (intro h; exact absurd h (by decide)) | intro _ | (with_reducible rfl) | refine Or.inl ⟨3, ?_⟩ | refine tell ?_ | exact True.intro | (refine IsT.of ?_; kernel_rfl))
  all_goals (try refine Tell.mk ?_)
  all_goals first | with_reducible rfl | with_reducible assumption | (with_reducible refine gb_t ?_; with_reducible assumption) | (with_reducible refine gb_f ?_; with_reducible assumption) | ((with_reducible refine lk_t ?_); rfl) | ((with_reducible refine ks_t ?_); rfl) | ((with_reducible refine pk_t ?_); rfl) | ((with_reducible refine pf_t ?_); rfl) | (exfalso; simp_all [deepV]; done)
def frame2_k : Con Tryz.prog := ⟨37, fun args => match args with | [.agg [.flt a, .flt b, .flt c, .flt d, .flt e, .flt f, .flt l]] => .ok (some (deepV d e f = 2)) (.agg [.flt a, .flt b, .flt c, .int .i64 0, .int .i64 1, .int .i64 2, .flt (F .quo d f), .flt (F .quo e f), .flt (F .quo 4607182418800017408 f)]) | _ => .no, by
  intro args p r h hp
  split at h
  · cases h; exact frame2_a _ _ _ _ _ _ _ hp
  · cases h⟩
theorem place2_f : FnOk Tryz.prog 72 Tryz.f72 := ⟨Tryz.func72, by kernel_rfl⟩
theorem place2_a (a b c sx sy sz p q r : Nat) : ACalls Tryz.prog 72 [.agg [.flt a, .flt b, .flt c, .int .i64 0, .int .i64 1, .int .i64 2, .flt sx, .flt sy, .flt sz], .agg [.flt p, .flt q, .flt r]] (.tup [.flt (F .sub (F .sub p a) (F .mul sx (F .sub r c))), .flt (F .sub (F .sub q b) (F .mul sy (F .sub r c))), .flt (F .mul sz (F .sub r c))]) := by
  refine acalls_of (inl := hasI (P := Tryz.prog) [] []) (base [sub_k, axisS0_k, axisS1_k, axisS2_k] [] []) 0 place2_f (And.intro (by kernel_rfl) ?_)
  repeat' (first | refine And.intro ?_ ?_ | (with_reducible exact ff_elim) | (with_reducible exact tf_elim) | intro _ | (with_reducible rfl) | ((with_reducible refine lk_t ?_); exact rfl) | ((with_reducible refine pf_t ?_); exact rfl) | refine tell ?_ | exact True.intro | (refine IsT.of ?_; kernel_rfl))
  all_goals ((try refine Tell.mk ?_); first | with_reducible rfl | ((show (_ : Int) ≤ _); decide) | ((show (_ : Int) < _); decide) | (with_reducible refine gb_t ?_; with_reducible assumption) | with_reducible assumption | (with_reducible refine gb_f ?_; with_reducible assumption) | (simp only [gb, *, cond_true, cond_false]; done) | ((with_reducible refine ks_t ?_); rfl) | ((with_reducible refine pk_t ?_); rfl) | ((with_reducible refine pf_t ?_); rfl) | ((with_reducible refine lk_t ?_); rfl) | ((with_reducible refine okF_t ?_); kernel_rfl) | grind [gb])
def place2_k : Con Tryz.prog := ⟨72, fun args => match args with | [.agg [.flt a, .flt b, .flt c, .int .i64 0, .int .i64 1, .int .i64 2, .flt sx, .flt sy, .flt sz], .agg [.flt p, .flt q, .flt r]] => .ok (none) (.tup [.flt (F .sub (F .sub p a) (F .mul sx (F .sub r c))), .flt (F .sub (F .sub q b) (F .mul sy (F .sub r c))), .flt (F .mul sz (F .sub r c))]) | _ => .no, by
  intro args p r h hp
  split at h
  · cases h; exact place2_a _ _ _ _ _ _ _ _ _
  · cases h⟩
theorem edge2_f : FnOk Tryz.prog 38 Tryz.f38 := ⟨Tryz.func38, by kernel_rfl⟩
theorem edge2_a (a b c sx sy sz p q r u v w : Nat) : ACalls Tryz.prog 38 [.agg [.flt a, .flt b, .flt c, .int .i64 0, .int .i64 1, .int .i64 2, .flt sx, .flt sy, .flt sz], .agg [.flt p, .flt q, .flt r], .agg [.flt u, .flt v, .flt w]] (.flt (F .sub (F .mul (F .sub (F .sub p a) (F .mul sx (F .sub r c))) (F .sub (F .sub v b) (F .mul sy (F .sub w c)))) (F .mul (F .sub (F .sub q b) (F .mul sy (F .sub r c))) (F .sub (F .sub u a) (F .mul sx (F .sub w c)))))) := by
  refine acalls_of (inl := hasI (P := Tryz.prog) [] []) (base [place2_k] [] []) 0 edge2_f (And.intro (by kernel_rfl) ?_)
  repeat' (first | refine And.intro ?_ ?_ | (with_reducible exact ff_elim) | (with_reducible exact tf_elim) | intro _ | (with_reducible rfl) | ((with_reducible refine lk_t ?_); exact rfl) | ((with_reducible refine pf_t ?_); exact rfl) | refine tell ?_ | exact True.intro | (refine IsT.of ?_; kernel_rfl))
  all_goals ((try refine Tell.mk ?_); first | with_reducible rfl | ((show (_ : Int) ≤ _); decide) | ((show (_ : Int) < _); decide) | (with_reducible refine gb_t ?_; with_reducible assumption) | with_reducible assumption | (with_reducible refine gb_f ?_; with_reducible assumption) | (simp only [gb, *, cond_true, cond_false]; done) | ((with_reducible refine ks_t ?_); rfl) | ((with_reducible refine pk_t ?_); rfl) | ((with_reducible refine pf_t ?_); rfl) | ((with_reducible refine lk_t ?_); rfl) | ((with_reducible refine okF_t ?_); kernel_rfl) | grind [gb])
def edge2_k : Con Tryz.prog := ⟨38, fun args => match args with | [.agg [.flt a, .flt b, .flt c, .int .i64 0, .int .i64 1, .int .i64 2, .flt sx, .flt sy, .flt sz], .agg [.flt p, .flt q, .flt r], .agg [.flt u, .flt v, .flt w]] => .ok (none) (.flt (F .sub (F .mul (F .sub (F .sub p a) (F .mul sx (F .sub r c))) (F .sub (F .sub v b) (F .mul sy (F .sub w c)))) (F .mul (F .sub (F .sub q b) (F .mul sy (F .sub r c))) (F .sub (F .sub u a) (F .mul sx (F .sub w c)))))) | _ => .no, by
  intro args p r h hp
  split at h
  · cases h; exact edge2_a _ _ _ _ _ _ _ _ _ _ _ _
  · cases h⟩
theorem placeR2_f : FnOk Tryz.prog 97 Tryz.f97 := ⟨Tryz.func97, by kernel_rfl⟩
theorem placeR2_a (a b c d e f l p q r : Nat) (hpre : deepV d e f = 2) : ACalls Tryz.prog 97 [.agg [.flt a, .flt b, .flt c, .flt d, .flt e, .flt f, .flt l], .agg [.flt p, .flt q, .flt r]] (.agg [.flt (plX2 a b c d e f p q r), .flt (plY2 a b c d e f p q r), .flt (plZ2 a b c d e f p q r)]) := by
  refine acalls_of (inl := hasI (P := Tryz.prog) [] []) (base [deep2_k, subR_k, axis0_k, axis1_k, axis2_k, times_k] [] []) 0 placeR2_f (And.intro (by kernel_rfl) ?_)
  repeat' (first | refine And.intro ?_ ?_ | refine num_lit 0 (by decide) ?_ | refine num_lit 1 (by decide) ?_ | refine num_lit 2 (by decide) ?_ | refine num_lit 3 (by decide) ?_ | refine num_lit 4 (by decide) ?_ | refine num_lit 5 (by decide) ?_ | refine num_lit 6 (by decide) ?_ | refine num_lit 7 (by decide) ?_ | refine num_lit 8 (by decide) ?_ | refine num_elim ?_ | (with_reducible exact ff_elim) | (with_reducible exact tf_elim) | (intro h; exact absurd h (by decide)) | intro _ | (with_reducible rfl) | refine Or.inl ⟨1, ?_⟩ | refine tell ?_ | exact True.intro | (refine IsT.of ?_; kernel_rfl))
  all_goals (refine Tell.mk ?_; first | with_reducible assumption | rfl)
def placeR2_k : Con Tryz.prog := ⟨97, fun args => match args with | [.agg [.flt a, .flt b, .flt c, .flt d, .flt e, .flt f, .flt l], .agg [.flt p, .flt q, .flt r]] => .ok (some (deepV d e f = 2)) (.agg [.flt (plX2 a b c d e f p q r), .flt (plY2 a b c d e f p q r), .flt (plZ2 a b c d e f p q r)]) | _ => .no, by
  intro args p r h hp
  split at h
  · cases h; exact placeR2_a _ _ _ _ _ _ _ _ _ _ hp
  · cases h⟩
theorem side2_f : FnOk Tryz.prog 96 Tryz.f96 := ⟨Tryz.func96, by kernel_rfl⟩
theorem side2_a (a b c d e f l p q r u v w : Nat) (hpre : deepV d e f = 2) : ACalls Tryz.prog 96 [.agg [.flt a, .flt b, .flt c, .flt d, .flt e, .flt f, .flt l], .agg [.flt p, .flt q, .flt r], .agg [.flt u, .flt v, .flt w]] (.flt (sdV2 a b c d e f p q r u v w)) := by
  refine acalls_of (inl := hasI (P := Tryz.prog) [] []) (base [placeR2_k, times_k] [] []) 0 side2_f (And.intro (by kernel_rfl) ?_)
  repeat' (first | refine And.intro ?_ ?_ | (with_reducible exact ff_elim) | (with_reducible exact tf_elim) | intro _ | (with_reducible rfl) | ((with_reducible refine lk_t ?_); exact rfl) | ((with_reducible refine pf_t ?_); exact rfl) | refine tell ?_ | exact True.intro | (refine IsT.of ?_; kernel_rfl))
  all_goals (refine Tell.mk ?_; first | with_reducible assumption | rfl)
def side2_k : Con Tryz.prog := ⟨96, fun args => match args with | [.agg [.flt a, .flt b, .flt c, .flt d, .flt e, .flt f, .flt l], .agg [.flt p, .flt q, .flt r], .agg [.flt u, .flt v, .flt w]] => .ok (some (deepV d e f = 2)) (.flt (sdV2 a b c d e f p q r u v w)) | _ => .no, by
  intro args p r h hp
  split at h
  · cases h; exact side2_a _ _ _ _ _ _ _ _ _ _ _ _ _ hp
  · cases h⟩
end Go.Proofs.YtdjckabogdohcaaGreat
