/- Edges, triangles: program and document. -/
import Derived.Test.YtdjckabogdohcaaGreatEdgeB
namespace Go.Proofs.YtdjckabogdohcaaGreat
open Go.RowKit Ev
set_option linter.unusedVariables false
set_option linter.unusedSimpArgs false
set_option maxRecDepth 20000
set_option maxHeartbeats 4000000

def thrB (x y z : Nat) : Bool := bif (flt x 0 || flt y 0 || flt z 0) && (fgt x 0 || fgt y 0 || fgt z 0) then false else !(feq (F .add (F .add x y) z) 0)
def thrS (x y z : Nat) : Nat := bif (flt x 0 || flt y 0 || flt z 0) && (fgt x 0 || fgt y 0 || fgt z 0) then 0 else F .add (F .add x y) z
theorem through_f : FnOk Tryz.prog 39 Tryz.f39 := ⟨Tryz.func39, by kernel_rfl⟩
theorem through_a (x y z : Nat) : ACalls Tryz.prog 39 [.flt x, .flt y, .flt z] (.tup [.flt (thrS x y z), .bool (thrB x y z)]) := by
  refine acalls_of (inl := hasI (P := Tryz.prog) [] []) (base [] [] []) 0 through_f (And.intro (by kernel_rfl) ?_)
  repeat' (first | refine And.intro ?_ ?_ | (with_reducible exact ff_elim) | (with_reducible exact tf_elim) | intro _ | (with_reducible rfl) | ((with_reducible refine lk_t ?_); exact rfl) | ((with_reducible refine pf_t ?_); exact rfl) | refine tell ?_ | exact True.intro | (refine IsT.of ?_; kernel_rfl))
  all_goals ((try refine Tell.mk ?_); first | with_reducible rfl | ((show (_ : Int) ≤ _); decide) | ((show (_ : Int) < _); decide) | (with_reducible refine gb_t ?_; with_reducible assumption) | with_reducible assumption | (with_reducible refine gb_f ?_; with_reducible assumption) | (simp only [thrS, thrB, *, cond_true, cond_false]; done) | ((with_reducible refine ks_t ?_); rfl) | ((with_reducible refine pk_t ?_); rfl) | ((with_reducible refine pf_t ?_); rfl) | ((with_reducible refine lk_t ?_); rfl) | ((with_reducible refine okF_t ?_); kernel_rfl) | grind [gb, thrS, thrB])
def through_k : Con Tryz.prog := ⟨39, fun args => match args with | [.flt x, .flt y, .flt z] => .ok (none) (.tup [.flt (thrS x y z), .bool (thrB x y z)]) | _ => .no, by
  intro args p r h hp
  split at h
  · cases h; exact through_a _ _ _
  · cases h⟩
def edgE (a b c d e f l p q r u v w : Nat) : Int := bif !(rayV a b c d e f l == 0) then rayV a b c d e f l else bif !(fineB p q r) || !(fineB u v w) then 1 else 0

theorem Edge0_f : FnOk Tryz.prog 9 Tryz.f9 := ⟨Tryz.func9, by kernel_rfl⟩
theorem Edge0_a (a b c d e f l p q r u v w : Nat) (hpre : deepV d e f = 0) : ACalls Tryz.prog 9 [.agg [.flt a, .flt b, .flt c, .flt d, .flt e, .flt f, .flt l], .agg [.flt p, .flt q, .flt r], .agg [.flt u, .flt v, .flt w]] (.tup [.flt (bif edgE a b c d e f l p q r u v w == 0 then sdV0 a b c d e f p q r u v w else 0), .int .i64 (edgE a b c d e f l p q r u v w)]) := by
  refine acalls_of (inl := hasI (P := Tryz.prog) [] []) (base [rayfine_k, fine_k, frame0_k, edge0_k] [] []) 0 Edge0_f (And.intro (by kernel_rfl) ?_)
  repeat' (first | refine And.intro ?_ ?_ | (with_reducible exact ff_elim) | (with_reducible exact tf_elim) | intro _ | (with_reducible rfl) | ((with_reducible refine lk_t ?_); exact rfl) | ((with_reducible refine pf_t ?_); exact rfl) | refine tell ?_ | exact True.intro | (refine IsT.of ?_; kernel_rfl))
  all_goals ((try refine Tell.mk ?_); first | with_reducible rfl | ((show (_ : Int) ≤ _); decide) | ((show (_ : Int) < _); decide) | (with_reducible refine gb_t ?_; with_reducible assumption) | with_reducible assumption | (with_reducible refine gb_f ?_; with_reducible assumption) | (simp only [edgE, bne, sdV0, plX0, plY0, *, cond_true, cond_false]; done) | ((with_reducible refine ks_t ?_); rfl) | ((with_reducible refine pk_t ?_); rfl) | ((with_reducible refine pf_t ?_); rfl) | ((with_reducible refine lk_t ?_); rfl) | ((with_reducible refine okF_t ?_); kernel_rfl) | grind [gb, edgE, bne, sdV0, plX0, plY0])
def Edge0_k : Con Tryz.prog := ⟨9, fun args => match args with | [.agg [.flt a, .flt b, .flt c, .flt d, .flt e, .flt f, .flt l], .agg [.flt p, .flt q, .flt r], .agg [.flt u, .flt v, .flt w]] => .ok (some (deepV d e f = 0)) (.tup [.flt (bif edgE a b c d e f l p q r u v w == 0 then sdV0 a b c d e f p q r u v w else 0), .int .i64 (edgE a b c d e f l p q r u v w)]) | _ => .no, by
  intro args p r h hp
  split at h
  · cases h; exact Edge0_a _ _ _ _ _ _ _ _ _ _ _ _ _ hp
  · cases h⟩
theorem EdgeR0_f : FnOk Tryz.prog 108 Tryz.f108 := ⟨Tryz.func108, by kernel_rfl⟩
theorem EdgeR0_a (a b c d e f l p q r u v w : Nat) (hpre : deepV d e f = 0) : ACalls Tryz.prog 108 [.agg [.flt a, .flt b, .flt c, .flt d, .flt e, .flt f, .flt l], .agg [.flt p, .flt q, .flt r], .agg [.flt u, .flt v, .flt w]] (.tup [.flt (bif edgE a b c d e f l p q r u v w == 0 then sdV0 a b c d e f p q r u v w else 0), .int .i64 (edgE a b c d e f l p q r u v w)]) := by
  refine acalls_of (inl := hasI (P := Tryz.prog) [] []) (base [rayfineR_k, fineR_k, side0_k] [] []) 0 EdgeR0_f (And.intro (by kernel_rfl) ?_)
  repeat' (first | refine And.intro ?_ ?_ | (with_reducible exact ff_elim) | (with_reducible exact tf_elim) | intro _ | (with_reducible rfl) | ((with_reducible refine lk_t ?_); exact rfl) | ((with_reducible refine pf_t ?_); exact rfl) | refine tell ?_ | exact True.intro | (refine IsT.of ?_; kernel_rfl))
  all_goals ((try refine Tell.mk ?_); first | with_reducible rfl | ((show (_ : Int) ≤ _); decide) | ((show (_ : Int) < _); decide) | (with_reducible refine gb_t ?_; with_reducible assumption) | with_reducible assumption | (with_reducible refine gb_f ?_; with_reducible assumption) | (simp only [edgE, bne, *, cond_true, cond_false]; done) | ((with_reducible refine ks_t ?_); rfl) | ((with_reducible refine pk_t ?_); rfl) | ((with_reducible refine pf_t ?_); rfl) | ((with_reducible refine lk_t ?_); rfl) | ((with_reducible refine okF_t ?_); kernel_rfl) | grind [gb, edgE, bne])
def EdgeR0_k : Con Tryz.prog := ⟨108, fun args => match args with | [.agg [.flt a, .flt b, .flt c, .flt d, .flt e, .flt f, .flt l], .agg [.flt p, .flt q, .flt r], .agg [.flt u, .flt v, .flt w]] => .ok (some (deepV d e f = 0)) (.tup [.flt (bif edgE a b c d e f l p q r u v w == 0 then sdV0 a b c d e f p q r u v w else 0), .int .i64 (edgE a b c d e f l p q r u v w)]) | _ => .no, by
  intro args p r h hp
  split at h
  · cases h; exact EdgeR0_a _ _ _ _ _ _ _ _ _ _ _ _ _ hp
  · cases h⟩
def thE0 (a b c d e f l p q r u v w x y t : Nat) : Int := bif !(edgE a b c d e f l p q r u v w == 0) then edgE a b c d e f l p q r u v w else bif fineB x y t then 0 else 1
theorem Thr0_f : FnOk Tryz.prog 10 Tryz.f10 := ⟨Tryz.func10, by kernel_rfl⟩
theorem Thr0_a (a b c d e f l p q r u v w x y t : Nat) (hpre : deepV d e f = 0) : ACalls Tryz.prog 10 [.agg [.flt a, .flt b, .flt c, .flt d, .flt e, .flt f, .flt l], .agg [.flt p, .flt q, .flt r], .agg [.flt u, .flt v, .flt w], .agg [.flt x, .flt y, .flt t]] (.tup [.bool (bif thE0 a b c d e f l p q r u v w x y t == 0 then thrB (sdV0 a b c d e f u v w x y t) (sdV0 a b c d e f x y t p q r) (sdV0 a b c d e f p q r u v w) else false), .int .i64 (thE0 a b c d e f l p q r u v w x y t)]) := by
  refine acalls_of (inl := hasI (P := Tryz.prog) [] []) (base [Edge0_k, fine_k, frame0_k, edge0_k, through_k] [] []) 0 Thr0_f (And.intro (by kernel_rfl) ?_)
  repeat' (first | refine And.intro ?_ ?_ | (with_reducible exact ff_elim) | (with_reducible exact tf_elim) | intro _ | (with_reducible rfl) | ((with_reducible refine lk_t ?_); exact rfl) | ((with_reducible refine pf_t ?_); exact rfl) | refine tell ?_ | exact True.intro | (refine IsT.of ?_; kernel_rfl))
  all_goals ((try refine Tell.mk ?_); first | with_reducible rfl | ((show (_ : Int) ≤ _); decide) | ((show (_ : Int) < _); decide) | (with_reducible refine gb_t ?_; with_reducible assumption) | with_reducible assumption | (with_reducible refine gb_f ?_; with_reducible assumption) | (simp only [thE0, bne, sdV0, plX0, plY0, *, cond_true, cond_false]; done) | ((with_reducible refine ks_t ?_); rfl) | ((with_reducible refine pk_t ?_); rfl) | ((with_reducible refine pf_t ?_); rfl) | ((with_reducible refine lk_t ?_); rfl) | ((with_reducible refine okF_t ?_); kernel_rfl) | grind [gb, thE0, bne, sdV0, plX0, plY0])
def Thr0_k : Con Tryz.prog := ⟨10, fun args => match args with | [.agg [.flt a, .flt b, .flt c, .flt d, .flt e, .flt f, .flt l], .agg [.flt p, .flt q, .flt r], .agg [.flt u, .flt v, .flt w], .agg [.flt x, .flt y, .flt t]] => .ok (some (deepV d e f = 0)) (.tup [.bool (bif thE0 a b c d e f l p q r u v w x y t == 0 then thrB (sdV0 a b c d e f u v w x y t) (sdV0 a b c d e f x y t p q r) (sdV0 a b c d e f p q r u v w) else false), .int .i64 (thE0 a b c d e f l p q r u v w x y t)]) | _ => .no, by
  intro args p r h hp
  split at h
  · cases h; exact Thr0_a _ _ _ _ _ _ _ _ _ _ _ _ _ _ _ _ hp
  · cases h⟩
theorem ThrR0_f : FnOk Tryz.prog 95 Tryz.f95 := ⟨Tryz.func95, by kernel_rfl⟩
theorem ThrR0_a (a b c d e f l p q r u v w x y t : Nat) (hpre : deepV d e f = 0) : ACalls Tryz.prog 95 [.agg [.flt a, .flt b, .flt c, .flt d, .flt e, .flt f, .flt l], .agg [.flt p, .flt q, .flt r], .agg [.flt u, .flt v, .flt w], .agg [.flt x, .flt y, .flt t]] (.tup [.bool (bif thE0 a b c d e f l p q r u v w x y t == 0 then thrB (sdV0 a b c d e f u v w x y t) (sdV0 a b c d e f x y t p q r) (sdV0 a b c d e f p q r u v w) else false), .int .i64 (thE0 a b c d e f l p q r u v w x y t)]) := by
  refine acalls_of (inl := hasI (P := Tryz.prog) [] []) (base [EdgeR0_k, fineR_k, side0_k] [] []) 0 ThrR0_f (And.intro (by kernel_rfl) ?_)
  repeat' (first | refine And.intro ?_ ?_ | (with_reducible exact ff_elim) | (with_reducible exact tf_elim) | intro _ | (with_reducible rfl) | ((with_reducible refine lk_t ?_); exact rfl) | ((with_reducible refine pf_t ?_); exact rfl) | refine tell ?_ | exact True.intro | (refine IsT.of ?_; kernel_rfl))
  all_goals ((try refine Tell.mk ?_); first | with_reducible rfl | ((show (_ : Int) ≤ _); decide) | ((show (_ : Int) < _); decide) | (with_reducible refine gb_t ?_; with_reducible assumption) | with_reducible assumption | (with_reducible refine gb_f ?_; with_reducible assumption) | (simp only [thE0, thrB, bne, *, cond_true, cond_false]; done) | ((with_reducible refine ks_t ?_); rfl) | ((with_reducible refine pk_t ?_); rfl) | ((with_reducible refine pf_t ?_); rfl) | ((with_reducible refine lk_t ?_); rfl) | ((with_reducible refine okF_t ?_); kernel_rfl) | grind [gb, thE0, thrB, bne])
def ThrR0_k : Con Tryz.prog := ⟨95, fun args => match args with | [.agg [.flt a, .flt b, .flt c, .flt d, .flt e, .flt f, .flt l], .agg [.flt p, .flt q, .flt r], .agg [.flt u, .flt v, .flt w], .agg [.flt x, .flt y, .flt t]] => .ok (some (deepV d e f = 0)) (.tup [.bool (bif thE0 a b c d e f l p q r u v w x y t == 0 then thrB (sdV0 a b c d e f u v w x y t) (sdV0 a b c d e f x y t p q r) (sdV0 a b c d e f p q r u v w) else false), .int .i64 (thE0 a b c d e f l p q r u v w x y t)]) | _ => .no, by
  intro args p r h hp
  split at h
  · cases h; exact ThrR0_a _ _ _ _ _ _ _ _ _ _ _ _ _ _ _ _ hp
  · cases h⟩
theorem Edge1_f : FnOk Tryz.prog 9 Tryz.f9 := ⟨Tryz.func9, by kernel_rfl⟩
theorem Edge1_a (a b c d e f l p q r u v w : Nat) (hpre : deepV d e f = 1) : ACalls Tryz.prog 9 [.agg [.flt a, .flt b, .flt c, .flt d, .flt e, .flt f, .flt l], .agg [.flt p, .flt q, .flt r], .agg [.flt u, .flt v, .flt w]] (.tup [.flt (bif edgE a b c d e f l p q r u v w == 0 then sdV1 a b c d e f p q r u v w else 0), .int .i64 (edgE a b c d e f l p q r u v w)]) := by
  refine acalls_of (inl := hasI (P := Tryz.prog) [] []) (base [rayfine_k, fine_k, frame1_k, edge1_k] [] []) 0 Edge1_f (And.intro (by kernel_rfl) ?_)
  repeat' (first | refine And.intro ?_ ?_ | (with_reducible exact ff_elim) | (with_reducible exact tf_elim) | intro _ | (with_reducible rfl) | ((with_reducible refine lk_t ?_); exact rfl) | ((with_reducible refine pf_t ?_); exact rfl) | refine tell ?_ | exact True.intro | (refine IsT.of ?_; kernel_rfl))
  all_goals ((try refine Tell.mk ?_); first | with_reducible rfl | ((show (_ : Int) ≤ _); decide) | ((show (_ : Int) < _); decide) | (with_reducible refine gb_t ?_; with_reducible assumption) | with_reducible assumption | (with_reducible refine gb_f ?_; with_reducible assumption) | (simp only [edgE, bne, sdV1, plX1, plY1, *, cond_true, cond_false]; done) | ((with_reducible refine ks_t ?_); rfl) | ((with_reducible refine pk_t ?_); rfl) | ((with_reducible refine pf_t ?_); rfl) | ((with_reducible refine lk_t ?_); rfl) | ((with_reducible refine okF_t ?_); kernel_rfl) | grind [gb, edgE, bne, sdV1, plX1, plY1])
def Edge1_k : Con Tryz.prog := ⟨9, fun args => match args with | [.agg [.flt a, .flt b, .flt c, .flt d, .flt e, .flt f, .flt l], .agg [.flt p, .flt q, .flt r], .agg [.flt u, .flt v, .flt w]] => .ok (some (deepV d e f = 1)) (.tup [.flt (bif edgE a b c d e f l p q r u v w == 0 then sdV1 a b c d e f p q r u v w else 0), .int .i64 (edgE a b c d e f l p q r u v w)]) | _ => .no, by
  intro args p r h hp
  split at h
  · cases h; exact Edge1_a _ _ _ _ _ _ _ _ _ _ _ _ _ hp
  · cases h⟩
theorem EdgeR1_f : FnOk Tryz.prog 108 Tryz.f108 := ⟨Tryz.func108, by kernel_rfl⟩
theorem EdgeR1_a (a b c d e f l p q r u v w : Nat) (hpre : deepV d e f = 1) : ACalls Tryz.prog 108 [.agg [.flt a, .flt b, .flt c, .flt d, .flt e, .flt f, .flt l], .agg [.flt p, .flt q, .flt r], .agg [.flt u, .flt v, .flt w]] (.tup [.flt (bif edgE a b c d e f l p q r u v w == 0 then sdV1 a b c d e f p q r u v w else 0), .int .i64 (edgE a b c d e f l p q r u v w)]) := by
  refine acalls_of (inl := hasI (P := Tryz.prog) [] []) (base [rayfineR_k, fineR_k, side1_k] [] []) 0 EdgeR1_f (And.intro (by kernel_rfl) ?_)
  repeat' (first | refine And.intro ?_ ?_ | (with_reducible exact ff_elim) | (with_reducible exact tf_elim) | intro _ | (with_reducible rfl) | ((with_reducible refine lk_t ?_); exact rfl) | ((with_reducible refine pf_t ?_); exact rfl) | refine tell ?_ | exact True.intro | (refine IsT.of ?_; kernel_rfl))
  all_goals ((try refine Tell.mk ?_); first | with_reducible rfl | ((show (_ : Int) ≤ _); decide) | ((show (_ : Int) < _); decide) | (with_reducible refine gb_t ?_; with_reducible assumption) | with_reducible assumption | (with_reducible refine gb_f ?_; with_reducible assumption) | (simp only [edgE, bne, *, cond_true, cond_false]; done) | ((with_reducible refine ks_t ?_); rfl) | ((with_reducible refine pk_t ?_); rfl) | ((with_reducible refine pf_t ?_); rfl) | ((with_reducible refine lk_t ?_); rfl) | ((with_reducible refine okF_t ?_); kernel_rfl) | grind [gb, edgE, bne])
def EdgeR1_k : Con Tryz.prog := ⟨108, fun args => match args with | [.agg [.flt a, .flt b, .flt c, .flt d, .flt e, .flt f, .flt l], .agg [.flt p, .flt q, .flt r], .agg [.flt u, .flt v, .flt w]] => .ok (some (deepV d e f = 1)) (.tup [.flt (bif edgE a b c d e f l p q r u v w == 0 then sdV1 a b c d e f p q r u v w else 0), .int .i64 (edgE a b c d e f l p q r u v w)]) | _ => .no, by
  intro args p r h hp
  split at h
  · cases h; exact EdgeR1_a _ _ _ _ _ _ _ _ _ _ _ _ _ hp
  · cases h⟩
def thE1 (a b c d e f l p q r u v w x y t : Nat) : Int := bif !(edgE a b c d e f l p q r u v w == 0) then edgE a b c d e f l p q r u v w else bif fineB x y t then 0 else 1
theorem Thr1_f : FnOk Tryz.prog 10 Tryz.f10 := ⟨Tryz.func10, by kernel_rfl⟩
theorem Thr1_a (a b c d e f l p q r u v w x y t : Nat) (hpre : deepV d e f = 1) : ACalls Tryz.prog 10 [.agg [.flt a, .flt b, .flt c, .flt d, .flt e, .flt f, .flt l], .agg [.flt p, .flt q, .flt r], .agg [.flt u, .flt v, .flt w], .agg [.flt x, .flt y, .flt t]] (.tup [.bool (bif thE1 a b c d e f l p q r u v w x y t == 0 then thrB (sdV1 a b c d e f u v w x y t) (sdV1 a b c d e f x y t p q r) (sdV1 a b c d e f p q r u v w) else false), .int .i64 (thE1 a b c d e f l p q r u v w x y t)]) := by
  refine acalls_of (inl := hasI (P := Tryz.prog) [] []) (base [Edge1_k, fine_k, frame1_k, edge1_k, through_k] [] []) 0 Thr1_f (And.intro (by kernel_rfl) ?_)
  repeat' (first | refine And.intro ?_ ?_ | (with_reducible exact ff_elim) | (with_reducible exact tf_elim) | intro _ | (with_reducible rfl) | ((with_reducible refine lk_t ?_); exact rfl) | ((with_reducible refine pf_t ?_); exact rfl) | refine tell ?_ | exact True.intro | (refine IsT.of ?_; kernel_rfl))
  all_goals ((try refine Tell.mk ?_); first | with_reducible rfl | ((show (_ : Int) ≤ _); decide) | ((show (_ : Int) < _); decide) | (with_reducible refine gb_t ?_; with_reducible assumption) | with_reducible assumption | (with_reducible refine gb_f ?_; with_reducible assumption) | (simp only [thE1, bne, sdV1, plX1, plY1, *, cond_true, cond_false]; done) | ((with_reducible refine ks_t ?_); rfl) | ((with_reducible refine pk_t ?_); rfl) | ((with_reducible refine pf_t ?_); rfl) | ((with_reducible refine lk_t ?_); rfl) | ((with_reducible refine okF_t ?_); kernel_rfl) | grind [gb, thE1, bne, sdV1, plX1, plY1])
def Thr1_k : Con Tryz.prog := ⟨10, fun args => match args with | [.agg [.flt a, .flt b, .flt c, .flt d, .flt e, .flt f, .flt l], .agg [.flt p, .flt q, .flt r], .agg [.flt u, .flt v, .flt w], .agg [.flt x, .flt y, .flt t]] => .ok (some (deepV d e f = 1)) (.tup [.bool (bif thE1 a b c d e f l p q r u v w x y t == 0 then thrB (sdV1 a b c d e f u v w x y t) (sdV1 a b c d e f x y t p q r) (sdV1 a b c d e f p q r u v w) else false), .int .i64 (thE1 a b c d e f l p q r u v w x y t)]) | _ => .no, by
  intro args p r h hp
  split at h
  · cases h; exact Thr1_a _ _ _ _ _ _ _ _ _ _ _ _ _ _ _ _ hp
  · cases h⟩
theorem ThrR1_f : FnOk Tryz.prog 95 Tryz.f95 := ⟨Tryz.func95, by kernel_rfl⟩
theorem ThrR1_a (a b c d e f l p q r u v w x y t : Nat) (hpre : deepV d e f = 1) : ACalls Tryz.prog 95 [.agg [.flt a, .flt b, .flt c, .flt d, .flt e, .flt f, .flt l], .agg [.flt p, .flt q, .flt r], .agg [.flt u, .flt v, .flt w], .agg [.flt x, .flt y, .flt t]] (.tup [.bool (bif thE1 a b c d e f l p q r u v w x y t == 0 then thrB (sdV1 a b c d e f u v w x y t) (sdV1 a b c d e f x y t p q r) (sdV1 a b c d e f p q r u v w) else false), .int .i64 (thE1 a b c d e f l p q r u v w x y t)]) := by
  refine acalls_of (inl := hasI (P := Tryz.prog) [] []) (base [EdgeR1_k, fineR_k, side1_k] [] []) 0 ThrR1_f (And.intro (by kernel_rfl) ?_)
  repeat' (first | refine And.intro ?_ ?_ | (with_reducible exact ff_elim) | (with_reducible exact tf_elim) | intro _ | (with_reducible rfl) | ((with_reducible refine lk_t ?_); exact rfl) | ((with_reducible refine pf_t ?_); exact rfl) | refine tell ?_ | exact True.intro | (refine IsT.of ?_; kernel_rfl))
  all_goals ((try refine Tell.mk ?_); first | with_reducible rfl | ((show (_ : Int) ≤ _); decide) | ((show (_ : Int) < _); decide) | (with_reducible refine gb_t ?_; with_reducible assumption) | with_reducible assumption | (with_reducible refine gb_f ?_; with_reducible assumption) | (simp only [thE1, thrB, bne, *, cond_true, cond_false]; done) | ((with_reducible refine ks_t ?_); rfl) | ((with_reducible refine pk_t ?_); rfl) | ((with_reducible refine pf_t ?_); rfl) | ((with_reducible refine lk_t ?_); rfl) | ((with_reducible refine okF_t ?_); kernel_rfl) | grind [gb, thE1, thrB, bne])
def ThrR1_k : Con Tryz.prog := ⟨95, fun args => match args with | [.agg [.flt a, .flt b, .flt c, .flt d, .flt e, .flt f, .flt l], .agg [.flt p, .flt q, .flt r], .agg [.flt u, .flt v, .flt w], .agg [.flt x, .flt y, .flt t]] => .ok (some (deepV d e f = 1)) (.tup [.bool (bif thE1 a b c d e f l p q r u v w x y t == 0 then thrB (sdV1 a b c d e f u v w x y t) (sdV1 a b c d e f x y t p q r) (sdV1 a b c d e f p q r u v w) else false), .int .i64 (thE1 a b c d e f l p q r u v w x y t)]) | _ => .no, by
  intro args p r h hp
  split at h
  · cases h; exact ThrR1_a _ _ _ _ _ _ _ _ _ _ _ _ _ _ _ _ hp
  · cases h⟩
theorem Edge2_f : FnOk Tryz.prog 9 Tryz.f9 := ⟨Tryz.func9, by kernel_rfl⟩
theorem Edge2_a (a b c d e f l p q r u v w : Nat) (hpre : deepV d e f = 2) : ACalls Tryz.prog 9 [.agg [.flt a, .flt b, .flt c, .flt d, .flt e, .flt f, .flt l], .agg [.flt p, .flt q, .flt r], .agg [.flt u, .flt v, .flt w]] (.tup [.flt (bif edgE a b c d e f l p q r u v w == 0 then sdV2 a b c d e f p q r u v w else 0), .int .i64 (edgE a b c d e f l p q r u v w)]) := by
  refine acalls_of (inl := hasI (P := Tryz.prog) [] []) (base [rayfine_k, fine_k, frame2_k, edge2_k] [] []) 0 Edge2_f (And.intro (by kernel_rfl) ?_)
  repeat' (first | refine And.intro ?_ ?_ | (with_reducible exact ff_elim) | (with_reducible exact tf_elim) | intro _ | (with_reducible rfl) | ((with_reducible refine lk_t ?_); exact rfl) | ((with_reducible refine pf_t ?_); exact rfl) | refine tell ?_ | exact True.intro | (refine IsT.of ?_; kernel_rfl))
  all_goals ((try refine Tell.mk ?_); first | with_reducible rfl | ((show (_ : Int) ≤ _); decide) | ((show (_ : Int) < _); decide) | (with_reducible refine gb_t ?_; with_reducible assumption) | with_reducible assumption | (with_reducible refine gb_f ?_; with_reducible assumption) | (simp only [edgE, bne, sdV2, plX2, plY2, *, cond_true, cond_false]; done) | ((with_reducible refine ks_t ?_); rfl) | ((with_reducible refine pk_t ?_); rfl) | ((with_reducible refine pf_t ?_); rfl) | ((with_reducible refine lk_t ?_); rfl) | ((with_reducible refine okF_t ?_); kernel_rfl) | grind [gb, edgE, bne, sdV2, plX2, plY2])
def Edge2_k : Con Tryz.prog := ⟨9, fun args => match args with | [.agg [.flt a, .flt b, .flt c, .flt d, .flt e, .flt f, .flt l], .agg [.flt p, .flt q, .flt r], .agg [.flt u, .flt v, .flt w]] => .ok (some (deepV d e f = 2)) (.tup [.flt (bif edgE a b c d e f l p q r u v w == 0 then sdV2 a b c d e f p q r u v w else 0), .int .i64 (edgE a b c d e f l p q r u v w)]) | _ => .no, by
  intro args p r h hp
  split at h
  · cases h; exact Edge2_a _ _ _ _ _ _ _ _ _ _ _ _ _ hp
  · cases h⟩
theorem EdgeR2_f : FnOk Tryz.prog 108 Tryz.f108 := ⟨Tryz.func108, by kernel_rfl⟩
theorem EdgeR2_a (a b c d e f l p q r u v w : Nat) (hpre : deepV d e f = 2) : ACalls Tryz.prog 108 [.agg [.flt a, .flt b, .flt c, .flt d, .flt e, .flt f, .flt l], .agg [.flt p, .flt q, .flt r], .agg [.flt u, .flt v, .flt w]] (.tup [.flt (bif edgE a b c d e f l p q r u v w == 0 then sdV2 a b c d e f p q r u v w else 0), .int .i64 (edgE a b c d e f l p q r u v w)]) := by
  refine acalls_of (inl := hasI (P := Tryz.prog) [] []) (base [rayfineR_k, fineR_k, side2_k] [] []) 0 EdgeR2_f (And.intro (by kernel_rfl) ?_)
  repeat' (first | refine And.intro ?_ ?_ | (with_reducible exact ff_elim) | (with_reducible exact tf_elim) | intro _ | (with_reducible rfl) | ((with_reducible refine lk_t ?_); exact rfl) | ((with_reducible refine pf_t ?_); exact rfl) | refine tell ?_ | exact True.intro | (refine IsT.of ?_; kernel_rfl))
  all_goals ((try refine Tell.mk ?_); first | with_reducible rfl | ((show (_ : Int) ≤ _); decide) | ((show (_ : Int) < _); decide) | (with_reducible refine gb_t ?_; with_reducible assumption) | with_reducible assumption | (with_reducible refine gb_f ?_; with_reducible assumption) | (simp only [edgE, bne, *, cond_true, cond_false]; done) | ((with_reducible refine ks_t ?_); rfl) | ((with_reducible refine pk_t ?_); rfl) | ((with_reducible refine pf_t ?_); rfl) | ((with_reducible refine lk_t ?_); rfl) | ((with_reducible refine okF_t ?_); kernel_rfl) | grind [gb, edgE, bne])
def EdgeR2_k : Con Tryz.prog := ⟨108, fun args => match args with | [.agg [.flt a, .flt b, .flt c, .flt d, .flt e, .flt f, .flt l], .agg [.flt p, .flt q, .flt r], .agg [.flt u, .flt v, .flt w]] => .ok (some (deepV d e f = 2)) (.tup [.flt (bif edgE a b c d e f l p q r u v w == 0 then sdV2 a b c d e f p q r u v w else 0), .int .i64 (edgE a b c d e f l p q r u v w)]) | _ => .no, by
  intro args p r h hp
  split at h
  · cases h; exact EdgeR2_a _ _ _ _ _ _ _ _ _ _ _ _ _ hp
  · cases h⟩
def thE2 (a b c d e f l p q r u v w x y t : Nat) : Int := bif !(edgE a b c d e f l p q r u v w == 0) then edgE a b c d e f l p q r u v w else bif fineB x y t then 0 else 1
theorem Thr2_f : FnOk Tryz.prog 10 Tryz.f10 := ⟨Tryz.func10, by kernel_rfl⟩
theorem Thr2_a (a b c d e f l p q r u v w x y t : Nat) (hpre : deepV d e f = 2) : ACalls Tryz.prog 10 [.agg [.flt a, .flt b, .flt c, .flt d, .flt e, .flt f, .flt l], .agg [.flt p, .flt q, .flt r], .agg [.flt u, .flt v, .flt w], .agg [.flt x, .flt y, .flt t]] (.tup [.bool (bif thE2 a b c d e f l p q r u v w x y t == 0 then thrB (sdV2 a b c d e f u v w x y t) (sdV2 a b c d e f x y t p q r) (sdV2 a b c d e f p q r u v w) else false), .int .i64 (thE2 a b c d e f l p q r u v w x y t)]) := by
  refine acalls_of (inl := hasI (P := Tryz.prog) [] []) (base [Edge2_k, fine_k, frame2_k, edge2_k, through_k] [] []) 0 Thr2_f (And.intro (by kernel_rfl) ?_)
  repeat' (first | refine And.intro ?_ ?_ | (with_reducible exact ff_elim) | (with_reducible exact tf_elim) | intro _ | (with_reducible rfl) | ((with_reducible refine lk_t ?_); exact rfl) | ((with_reducible refine pf_t ?_); exact rfl) | refine tell ?_ | exact True.intro | (refine IsT.of ?_; kernel_rfl))
  all_goals ((try refine Tell.mk ?_); first | with_reducible rfl | ((show (_ : Int) ≤ _); decide) | ((show (_ : Int) < _); decide) | (with_reducible refine gb_t ?_; with_reducible assumption) | with_reducible assumption | (with_reducible refine gb_f ?_; with_reducible assumption) | (simp only [thE2, bne, sdV2, plX2, plY2, *, cond_true, cond_false]; done) | ((with_reducible refine ks_t ?_); rfl) | ((with_reducible refine pk_t ?_); rfl) | ((with_reducible refine pf_t ?_); rfl) | ((with_reducible refine lk_t ?_); rfl) | ((with_reducible refine okF_t ?_); kernel_rfl) | grind [gb, thE2, bne, sdV2, plX2, plY2])
def Thr2_k : Con Tryz.prog := ⟨10, fun args => match args with | [.agg [.flt a, .flt b, .flt c, .flt d, .flt e, .flt f, .flt l], .agg [.flt p, .flt q, .flt r], .agg [.flt u, .flt v, .flt w], .agg [.flt x, .flt y, .flt t]] => .ok (some (deepV d e f = 2)) (.tup [.bool (bif thE2 a b c d e f l p q r u v w x y t == 0 then thrB (sdV2 a b c d e f u v w x y t) (sdV2 a b c d e f x y t p q r) (sdV2 a b c d e f p q r u v w) else false), .int .i64 (thE2 a b c d e f l p q r u v w x y t)]) | _ => .no, by
  intro args p r h hp
  split at h
  · cases h; exact Thr2_a _ _ _ _ _ _ _ _ _ _ _ _ _ _ _ _ hp
  · cases h⟩
theorem ThrR2_f : FnOk Tryz.prog 95 Tryz.f95 := ⟨Tryz.func95, by kernel_rfl⟩
theorem ThrR2_a (a b c d e f l p q r u v w x y t : Nat) (hpre : deepV d e f = 2) : ACalls Tryz.prog 95 [.agg [.flt a, .flt b, .flt c, .flt d, .flt e, .flt f, .flt l], .agg [.flt p, .flt q, .flt r], .agg [.flt u, .flt v, .flt w], .agg [.flt x, .flt y, .flt t]] (.tup [.bool (bif thE2 a b c d e f l p q r u v w x y t == 0 then thrB (sdV2 a b c d e f u v w x y t) (sdV2 a b c d e f x y t p q r) (sdV2 a b c d e f p q r u v w) else false), .int .i64 (thE2 a b c d e f l p q r u v w x y t)]) := by
  refine acalls_of (inl := hasI (P := Tryz.prog) [] []) (base [EdgeR2_k, fineR_k, side2_k] [] []) 0 ThrR2_f (And.intro (by kernel_rfl) ?_)
  repeat' (first | refine And.intro ?_ ?_ | (with_reducible exact ff_elim) | (with_reducible exact tf_elim) | intro _ | (with_reducible rfl) | ((with_reducible refine lk_t ?_); exact rfl) | ((with_reducible refine pf_t ?_); exact rfl) | refine tell ?_ | exact True.intro | (refine IsT.of ?_; kernel_rfl))
  all_goals ((try refine Tell.mk ?_); first | with_reducible rfl | ((show (_ : Int) ≤ _); decide) | ((show (_ : Int) < _); decide) | (with_reducible refine gb_t ?_; with_reducible assumption) | with_reducible assumption | (with_reducible refine gb_f ?_; with_reducible assumption) | (simp only [thE2, thrB, bne, *, cond_true, cond_false]; done) | ((with_reducible refine ks_t ?_); rfl) | ((with_reducible refine pk_t ?_); rfl) | ((with_reducible refine pf_t ?_); rfl) | ((with_reducible refine lk_t ?_); rfl) | ((with_reducible refine okF_t ?_); kernel_rfl) | grind [gb, thE2, thrB, bne])
def ThrR2_k : Con Tryz.prog := ⟨95, fun args => match args with | [.agg [.flt a, .flt b, .flt c, .flt d, .flt e, .flt f, .flt l], .agg [.flt p, .flt q, .flt r], .agg [.flt u, .flt v, .flt w], .agg [.flt x, .flt y, .flt t]] => .ok (some (deepV d e f = 2)) (.tup [.bool (bif thE2 a b c d e f l p q r u v w x y t == 0 then thrB (sdV2 a b c d e f u v w x y t) (sdV2 a b c d e f x y t p q r) (sdV2 a b c d e f p q r u v w) else false), .int .i64 (thE2 a b c d e f l p q r u v w x y t)]) | _ => .no, by
  intro args p r h hp
  split at h
  · cases h; exact ThrR2_a _ _ _ _ _ _ _ _ _ _ _ _ _ _ _ _ hp
  · cases h⟩
end Go.Proofs.YtdjckabogdohcaaGreat
