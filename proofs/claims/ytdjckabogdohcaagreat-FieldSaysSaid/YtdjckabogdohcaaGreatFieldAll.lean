/- Meets. -/
import Derived.Test.YtdjckabogdohcaaGreatSlabC
import Derived.Test.YtdjckabogdohcaaGreatShapeC
import Derived.Test.YtdjckabogdohcaaGreatEdgeC
import Derived.Test.YtdjckabogdohcaaGreatEvPub
import Derived.Test.YtdjckabogdohcaaGreatEvNum
import Derived.Test.YtdjckabogdohcaaGreatEdgeA
import Derived.Test.YtdjckabogdohcaaGreatFltOrd
import Derived.Test.YtdjckabogdohcaaGreatFltErr
import Derived.Test.YtdjckabogdohcaaGreatMade
namespace Go.Proofs.YtdjckabogdohcaaGreat
open Go.RowKit Ev
set_option linter.unusedVariables false
set_option linter.unusedSimpArgs false
set_option maxRecDepth 20000
set_option maxHeartbeats 4000000

def cutA (lo fr d : Nat) : Nat := F .quo (F .sub lo fr) d
def cutN (n lo hi fr d : Nat) : Nat := bif feq d 0 then n else bif flt d 0 then moreV n (cutA hi fr d) else moreV n (cutA lo fr d)
def cutF (f lo hi fr d : Nat) : Nat := bif feq d 0 then f else bif flt d 0 then lessV f (cutA lo fr d) else lessV f (cutA hi fr d)
def cutO (o : Bool) (lo hi fr d : Nat) : Bool := bif feq d 0 then o && ((flt lo fr || feq lo fr) && (flt fr hi || feq fr hi)) else o
theorem cut_f : FnOk Tryz.prog 52 Tryz.f52 := ⟨Tryz.func52, by kernel_rfl⟩
theorem cut_a (n f : Nat) (o : Bool) (lo hi fr d : Nat) : MCalls Tryz.prog 52 ([.own 0 0, .flt lo, .flt hi, .flt fr, .flt d]) [.row [.flt n, .flt f, .bool o]] (.tup []) [.row [.flt (cutN n lo hi fr d), .flt (cutF f lo hi fr d), .bool (cutO o lo hi fr d)]] := by
  refine mcalls_of (inl := hasI (P := Tryz.prog) [] []) (base [] [] []) 0 cut_f (And.intro (by kernel_rfl) ?_)
  repeat' (first | refine And.intro ?_ ?_ | (with_reducible exact ff_elim) | (with_reducible exact tf_elim) | intro _ | (with_reducible rfl) | ((with_reducible refine lk_t ?_); exact rfl) | ((with_reducible refine pf_t ?_); exact rfl) | refine tell ?_ | exact True.intro | (refine IsT.of ?_; kernel_rfl))
  all_goals ((try refine Tell.mk ?_); first | with_reducible rfl | ((show (_ : Int) ≤ _); decide) | ((show (_ : Int) < _); decide) | (with_reducible refine gb_t ?_; with_reducible assumption) | with_reducible assumption | (with_reducible refine gb_f ?_; with_reducible assumption) | (simp only [cutN, cutF, cutO, cutA, moreV, lessV, *, cond_true, cond_false]; done) | ((with_reducible refine ks_t ?_); rfl) | ((with_reducible refine pk_t ?_); rfl) | ((with_reducible refine pf_t ?_); rfl) | ((with_reducible refine lk_t ?_); rfl) | ((with_reducible refine okF_t ?_); kernel_rfl) | grind [gb, cutN, cutF, cutO, cutA, moreV, lessV])
def cut_m : MCon Tryz.prog := ⟨52, fun args own => match args with | [.own k_ 0, .flt lo, .flt hi, .flt fr, .flt d] => (match own k_ with | .row [.flt n, .flt f, .bool o] => .ok [k_] ([.own 0 0, .flt lo, .flt hi, .flt fr, .flt d]) [.row [.flt n, .flt f, .bool o]] none (.tup []) [.row [.flt (cutN n lo hi fr d), .flt (cutF f lo hi fr d), .bool (cutO o lo hi fr d)]] | _ => .no) | _ => .no, by
  intro args own ks cargs rows p r rows2 h hp
  split at h
  · split at h
    · cases h; exact cut_a _ _ _ _ _ _ _
    · cases h
  · cases h⟩
end Go.Proofs.YtdjckabogdohcaaGreat
/- Meets. -/
namespace Go.Proofs.YtdjckabogdohcaaGreat
open Go.RowKit Ev
set_option linter.unusedVariables false
set_option linter.unusedSimpArgs false
set_option maxRecDepth 20000
set_option maxHeartbeats 4000000

def meetN (a b c d e f p q r u v w l : Nat) : Nat := cutN (cutN (cutN l a d p u) b e q v) c f r w
def meetF (a b c d e f p q r u v w : Nat) : Nat := cutF (cutF (cutF 4786511204640096256 a d p u) b e q v) c f r w
def meetO (a b c d e f p q r u v w : Nat) : Bool := cutO (cutO (cutO true a d p u) b e q v) c f r w
def meetC (a b c d e f p q r u v w l : Nat) : Bool := (mayV a b c d e f != 0) || (rayV p q r u v w l != 0)
def meetD (a b c d e f p q r u v w l : Nat) : Bool := !(meetO a b c d e f p q r u v w) || fgt (meetN a b c d e f p q r u v w l) (meetF a b c d e f p q r u v w)
def meetB (a b c d e f p q r u v w l : Nat) : Bool := bif meetC a b c d e f p q r u v w l then false else bif meetD a b c d e f p q r u v w l then false else true
def meetX (a b c d e f p q r u v w l : Nat) : Nat := bif meetC a b c d e f p q r u v w l then 0 else bif meetD a b c d e f p q r u v w l then 0 else meetN a b c d e f p q r u v w l
def meetY (a b c d e f p q r u v w l : Nat) : Nat := bif meetC a b c d e f p q r u v w l then 0 else bif meetD a b c d e f p q r u v w l then 0 else meetF a b c d e f p q r u v w
theorem meets_f : FnOk Tryz.prog 21 Tryz.f21 := ⟨Tryz.func21, by kernel_rfl⟩
theorem meets_a (a b c d e f p q r u v w l : Nat) : ACalls Tryz.prog 21 [.agg [.flt a, .flt b, .flt c, .flt d, .flt e, .flt f], .agg [.flt p, .flt q, .flt r, .flt u, .flt v, .flt w, .flt l]] (.tup [.flt (meetX a b c d e f p q r u v w l), .flt (meetY a b c d e f p q r u v w l), .bool (meetB a b c d e f p q r u v w l)]) := by
  refine acalls_of (inl := hasI (P := Tryz.prog) [] [cut_m]) (base [may_k, rayfine_k] [] [cut_m]) 0 meets_f (And.intro (by kernel_rfl) ?_)
  repeat' (first | refine And.intro ?_ ?_ | (with_reducible exact ff_elim) | (with_reducible exact tf_elim) | intro _ | (with_reducible rfl) | ((with_reducible refine lk_t ?_); exact rfl) | ((with_reducible refine pf_t ?_); exact rfl) | refine tell ?_ | exact True.intro | (refine IsT.of ?_; kernel_rfl))
  all_goals ((try refine Tell.mk ?_); first | with_reducible rfl | ((show (_ : Int) ≤ _); decide) | ((show (_ : Int) < _); decide) | (with_reducible refine gb_t ?_; with_reducible assumption) | with_reducible assumption | (with_reducible refine gb_f ?_; with_reducible assumption) | (simp only [meetX, meetY, meetB, meetC, meetD, meetN, meetF, meetO, *, cond_true, cond_false]; done) | ((with_reducible refine ks_t ?_); rfl) | ((with_reducible refine pk_t ?_); rfl) | ((with_reducible refine pf_t ?_); rfl) | ((with_reducible refine lk_t ?_); rfl) | ((with_reducible refine okF_t ?_); kernel_rfl) | grind [gb, meetX, meetY, meetB, meetC, meetD, meetN, meetF, meetO])
def meets_k : Con Tryz.prog := ⟨21, fun args => match args with | [.agg [.flt a, .flt b, .flt c, .flt d, .flt e, .flt f], .agg [.flt p, .flt q, .flt r, .flt u, .flt v, .flt w, .flt l]] => .ok (none) (.tup [.flt (meetX a b c d e f p q r u v w l), .flt (meetY a b c d e f p q r u v w l), .bool (meetB a b c d e f p q r u v w l)]) | _ => .no, by
  intro args p r h hp
  split at h
  · cases h; exact meets_a _ _ _ _ _ _ _ _ _ _ _ _ _
  · cases h⟩
end Go.Proofs.YtdjckabogdohcaaGreat
/- What rays strike, kind by kind. -/
namespace Go.Proofs.YtdjckabogdohcaaGreat
open Go.RowKit Ev
set_option linter.unusedVariables false
set_option linter.unusedSimpArgs false
set_option maxRecDepth 20000
set_option maxHeartbeats 4000000

/-- From where to where a ray is no farther than so far from a point. -/
def abE (x y z u v w r : Nat) : Nat := F .sub (F .mul (dotV x y z u v w) (dotV x y z u v w)) (F .mul (dotV u v w u v w) (F .sub (dotV x y z x y z) (F .mul r r)))
def abO (x y z u v w r : Nat) : Bool := fgt (abE x y z u v w r) 0 || feq (abE x y z u v w r) 0
def abI (x y z u v w r : Nat) : Nat := bif abO x y z u v w r then F .quo (F .sub (Fneg (dotV x y z u v w)) (sq (abE x y z u v w r))) (dotV u v w u v w) else 0
def abU (x y z u v w r : Nat) : Nat := bif abO x y z u v w r then F .quo (F .add (Fneg (dotV x y z u v w)) (sq (abE x y z u v w r))) (dotV u v w u v w) else 0
theorem abt_f : FnOk Tryz.prog 166 Tryz.f166 := ⟨Tryz.func166, by kernel_rfl⟩
theorem abt_a (x y z u v w r : Nat) : ACalls Tryz.prog 166 [.agg [.flt x, .flt y, .flt z], .agg [.flt u, .flt v, .flt w], .flt r] (.tup [.flt (abI x y z u v w r), .flt (abU x y z u v w r), .bool (abO x y z u v w r)]) := by
  refine acalls_of (inl := hasI (P := Tryz.prog) [] []) (base [dot_k, sqrt_k] [] []) 0 abt_f (And.intro (by kernel_rfl) ?_)
  repeat' (first | refine And.intro ?_ ?_ | (with_reducible exact ff_elim) | (with_reducible exact tf_elim) | intro _ | (with_reducible rfl) | ((with_reducible refine lk_t ?_); exact rfl) | ((with_reducible refine pf_t ?_); exact rfl) | refine tell ?_ | exact True.intro | (refine IsT.of ?_; kernel_rfl))
  all_goals ((try refine Tell.mk ?_); first | with_reducible rfl | ((show (_ : Int) ≤ _); decide) | ((show (_ : Int) < _); decide) | (with_reducible refine gb_t ?_; with_reducible assumption) | with_reducible assumption | (with_reducible refine gb_f ?_; with_reducible assumption) | (simp only [abI, abU, abO, abE, *, cond_true, cond_false]; done) | ((with_reducible refine ks_t ?_); rfl) | ((with_reducible refine pk_t ?_); rfl) | ((with_reducible refine pf_t ?_); rfl) | ((with_reducible refine lk_t ?_); rfl) | ((with_reducible refine okF_t ?_); kernel_rfl) | grind [gb, abI, abU, abO, abE])
def abt_k : Con Tryz.prog := ⟨166, fun args => match args with | [.agg [.flt x, .flt y, .flt z], .agg [.flt u, .flt v, .flt w], .flt r] => .ok (none) (.tup [.flt (abI x y z u v w r), .flt (abU x y z u v w r), .bool (abO x y z u v w r)]) | _ => .no, by
  intro args p r h hp
  split at h
  · cases h; exact abt_a _ _ _ _ _ _ _
  · cases h⟩
theorem ballW_f : FnOk Tryz.prog 165 Tryz.f165 := ⟨Tryz.func165, by kernel_rfl⟩
theorem ballW_a (a b c r x y z u v w l n m : Nat) : ACalls Tryz.prog 165 [.agg [.flt a, .flt b, .flt c, .flt r], .agg [.flt x, .flt y, .flt z, .flt u, .flt v, .flt w, .flt l], .flt n, .flt m] (.tup [.flt (abI (F .sub x a) (F .sub y b) (F .sub z c) u v w r), .flt (abU (F .sub x a) (F .sub y b) (F .sub z c) u v w r), .bool (abO (F .sub x a) (F .sub y b) (F .sub z c) u v w r)]) := by
  refine acalls_of (inl := hasI (P := Tryz.prog) [] []) (base [sub_k, abt_k] [] []) 0 ballW_f (And.intro (by kernel_rfl) ?_)
  repeat' (first | refine And.intro ?_ ?_ | (with_reducible exact ff_elim) | (with_reducible exact tf_elim) | intro _ | (with_reducible rfl) | ((with_reducible refine lk_t ?_); exact rfl) | ((with_reducible refine pf_t ?_); exact rfl) | refine tell ?_ | exact True.intro | (refine IsT.of ?_; kernel_rfl))
  all_goals ((try refine Tell.mk ?_); first | with_reducible rfl | ((show (_ : Int) ≤ _); decide) | ((show (_ : Int) < _); decide) | (with_reducible refine gb_t ?_; with_reducible assumption) | with_reducible assumption | (with_reducible refine gb_f ?_; with_reducible assumption) | (simp only [gb, *, cond_true, cond_false]; done) | ((with_reducible refine ks_t ?_); rfl) | ((with_reducible refine pk_t ?_); rfl) | ((with_reducible refine pf_t ?_); rfl) | ((with_reducible refine lk_t ?_); rfl) | ((with_reducible refine okF_t ?_); kernel_rfl) | grind [gb])
def ballW_k : Con Tryz.prog := ⟨165, fun args => match args with | [.agg [.flt a, .flt b, .flt c, .flt r], .agg [.flt x, .flt y, .flt z, .flt u, .flt v, .flt w, .flt l], .flt n, .flt m] => .ok (none) (.tup [.flt (abI (F .sub x a) (F .sub y b) (F .sub z c) u v w r), .flt (abU (F .sub x a) (F .sub y b) (F .sub z c) u v w r), .bool (abO (F .sub x a) (F .sub y b) (F .sub z c) u v w r)]) | _ => .no, by
  intro args p r h hp
  split at h
  · cases h; exact ballW_a _ _ _ _ _ _ _ _ _ _ _ _ _
  · cases h⟩
def orI (x y z u v w r l : Nat) : Nat := bif fgt (abI x y z u v w r) l || feq (abI x y z u v w r) l then abI x y z u v w r else abU x y z u v w r
theorem ballS_f : FnOk Tryz.prog 163 Tryz.f163 := ⟨Tryz.func163, by kernel_rfl⟩
theorem ballS_a (a b c r x y z u v w l n m : Nat) : ACalls Tryz.prog 163 [.agg [.flt a, .flt b, .flt c, .flt r], .agg [.flt x, .flt y, .flt z, .flt u, .flt v, .flt w, .flt l], .flt n, .flt m] (.tup [.flt (orI (F .sub x a) (F .sub y b) (F .sub z c) u v w r l), .bool (abO (F .sub x a) (F .sub y b) (F .sub z c) u v w r)]) := by
  refine acalls_of (inl := hasI (P := Tryz.prog) [] []) (base [ballW_k] [] []) 0 ballS_f (And.intro (by kernel_rfl) ?_)
  repeat' (first | refine And.intro ?_ ?_ | (with_reducible exact ff_elim) | (with_reducible exact tf_elim) | intro _ | (with_reducible rfl) | ((with_reducible refine lk_t ?_); exact rfl) | ((with_reducible refine pf_t ?_); exact rfl) | refine tell ?_ | exact True.intro | (refine IsT.of ?_; kernel_rfl))
  all_goals ((try refine Tell.mk ?_); first | with_reducible rfl | ((show (_ : Int) ≤ _); decide) | ((show (_ : Int) < _); decide) | (with_reducible refine gb_t ?_; with_reducible assumption) | with_reducible assumption | (with_reducible refine gb_f ?_; with_reducible assumption) | (simp only [orI, *, cond_true, cond_false]; done) | ((with_reducible refine ks_t ?_); rfl) | ((with_reducible refine pk_t ?_); rfl) | ((with_reducible refine pf_t ?_); rfl) | ((with_reducible refine lk_t ?_); rfl) | ((with_reducible refine okF_t ?_); kernel_rfl) | grind [gb, orI])
def ballS_k : Con Tryz.prog := ⟨163, fun args => match args with | [.agg [.flt a, .flt b, .flt c, .flt r], .agg [.flt x, .flt y, .flt z, .flt u, .flt v, .flt w, .flt l], .flt n, .flt m] => .ok (none) (.tup [.flt (orI (F .sub x a) (F .sub y b) (F .sub z c) u v w r l), .bool (abO (F .sub x a) (F .sub y b) (F .sub z c) u v w r)]) | _ => .no, by
  intro args p r h hp
  split at h
  · cases h; exact ballS_a _ _ _ _ _ _ _ _ _ _ _ _ _
  · cases h⟩
def blT (l n m : Nat) : Nat := bif fgt n l then n else m
theorem blockS_f : FnOk Tryz.prog 169 Tryz.f169 := ⟨Tryz.func169, by kernel_rfl⟩
theorem blockS_a (a b c d e f x y z u v w l n m : Nat) : ACalls Tryz.prog 169 [.agg [.flt a, .flt b, .flt c, .flt d, .flt e, .flt f], .agg [.flt x, .flt y, .flt z, .flt u, .flt v, .flt w, .flt l], .flt n, .flt m] (.tup [.flt (blT l n m), .bool true]) := by
  refine acalls_of (inl := hasI (P := Tryz.prog) [] []) (base [] [] []) 0 blockS_f (And.intro (by kernel_rfl) ?_)
  repeat' (first | refine And.intro ?_ ?_ | (with_reducible exact ff_elim) | (with_reducible exact tf_elim) | intro _ | (with_reducible rfl) | ((with_reducible refine lk_t ?_); exact rfl) | ((with_reducible refine pf_t ?_); exact rfl) | refine tell ?_ | exact True.intro | (refine IsT.of ?_; kernel_rfl))
  all_goals ((try refine Tell.mk ?_); first | with_reducible rfl | ((show (_ : Int) ≤ _); decide) | ((show (_ : Int) < _); decide) | (with_reducible refine gb_t ?_; with_reducible assumption) | with_reducible assumption | (with_reducible refine gb_f ?_; with_reducible assumption) | (simp only [blT, *, cond_true, cond_false]; done) | ((with_reducible refine ks_t ?_); rfl) | ((with_reducible refine pk_t ?_); rfl) | ((with_reducible refine pf_t ?_); rfl) | ((with_reducible refine lk_t ?_); rfl) | ((with_reducible refine okF_t ?_); kernel_rfl) | grind [gb, blT])
def blockS_k : Con Tryz.prog := ⟨169, fun args => match args with | [.agg [.flt a, .flt b, .flt c, .flt d, .flt e, .flt f], .agg [.flt x, .flt y, .flt z, .flt u, .flt v, .flt w, .flt l], .flt n, .flt m] => .ok (none) (.tup [.flt (blT l n m), .bool true]) | _ => .no, by
  intro args p r h hp
  split at h
  · cases h; exact blockS_a _ _ _ _ _ _ _ _ _ _ _ _ _ _ _
  · cases h⟩
def tuZ (d e f u v w : Nat) : Bool := feq (wo (aloneV d e f) 0 u) 0 && (feq (wo (aloneV d e f) 1 v) 0 && feq (wz (aloneV d e f) w) 0)
def tuI (a b c d e f r x y z u v w n : Nat) : Nat := bif tuZ d e f u v w then n else moreV n (abI (wo (aloneV d e f) 0 (F .sub x a)) (wo (aloneV d e f) 1 (F .sub y b)) (wz (aloneV d e f) (F .sub z c)) (wo (aloneV d e f) 0 u) (wo (aloneV d e f) 1 v) (wz (aloneV d e f) w) r)
def tuU (a b c d e f r x y z u v w m : Nat) : Nat := bif tuZ d e f u v w then m else lessV m (abU (wo (aloneV d e f) 0 (F .sub x a)) (wo (aloneV d e f) 1 (F .sub y b)) (wz (aloneV d e f) (F .sub z c)) (wo (aloneV d e f) 0 u) (wo (aloneV d e f) 1 v) (wz (aloneV d e f) w) r)
def tuO (a b c d e f r x y z u v w n m : Nat) : Bool := bif tuZ d e f u v w then flt (dotV (wo (aloneV d e f) 0 (F .sub x a)) (wo (aloneV d e f) 1 (F .sub y b)) (wz (aloneV d e f) (F .sub z c)) (wo (aloneV d e f) 0 (F .sub x a)) (wo (aloneV d e f) 1 (F .sub y b)) (wz (aloneV d e f) (F .sub z c))) (F .mul r r) || feq (dotV (wo (aloneV d e f) 0 (F .sub x a)) (wo (aloneV d e f) 1 (F .sub y b)) (wz (aloneV d e f) (F .sub z c)) (wo (aloneV d e f) 0 (F .sub x a)) (wo (aloneV d e f) 1 (F .sub y b)) (wz (aloneV d e f) (F .sub z c))) (F .mul r r) else abO (wo (aloneV d e f) 0 (F .sub x a)) (wo (aloneV d e f) 1 (F .sub y b)) (wz (aloneV d e f) (F .sub z c)) (wo (aloneV d e f) 0 u) (wo (aloneV d e f) 1 v) (wz (aloneV d e f) w) r && (flt (tuI a b c d e f r x y z u v w n) (tuU a b c d e f r x y z u v w m) || feq (tuI a b c d e f r x y z u v w n) (tuU a b c d e f r x y z u v w m))
theorem tubeW_f : FnOk Tryz.prog 180 Tryz.f180 := ⟨Tryz.func180, by kernel_rfl⟩
theorem tubeW_a (a b c d e f r x y z u v w l n m : Nat) : ACalls Tryz.prog 180 [.agg [.flt a, .flt b, .flt c, .flt d, .flt e, .flt f, .flt r], .agg [.flt x, .flt y, .flt z, .flt u, .flt v, .flt w, .flt l], .flt n, .flt m] (.tup [.flt (tuI a b c d e f r x y z u v w n), .flt (tuU a b c d e f r x y z u v w m), .bool (tuO a b c d e f r x y z u v w n m)]) := by
  refine acalls_of (inl := hasI (P := Tryz.prog) [] []) (base [alone_k, sub_k, without_k, dot_k, abt_k, greater_k, lesser_k] [] []) 0 tubeW_f (And.intro (by kernel_rfl) ?_)
  repeat' (first | refine And.intro ?_ ?_ | (with_reducible exact ff_elim) | (with_reducible exact tf_elim) | intro _ | (with_reducible rfl) | ((with_reducible refine lk_t ?_); exact rfl) | ((with_reducible refine pf_t ?_); exact rfl) | refine tell ?_ | exact True.intro | (refine IsT.of ?_; kernel_rfl))
  all_goals ((try refine Tell.mk ?_); first | with_reducible rfl | ((show (_ : Int) ≤ _); decide) | ((show (_ : Int) < _); decide) | (with_reducible refine gb_t ?_; with_reducible assumption) | with_reducible assumption | (with_reducible refine gb_f ?_; with_reducible assumption) | (simp only [tuI, tuU, tuO, tuZ, wz, *, cond_true, cond_false]; done) | ((with_reducible refine ks_t ?_); rfl) | ((with_reducible refine pk_t ?_); rfl) | ((with_reducible refine pf_t ?_); rfl) | ((with_reducible refine lk_t ?_); rfl) | ((with_reducible refine okF_t ?_); kernel_rfl) | grind [gb, tuI, tuU, tuO, tuZ, wz])
def tubeW_k : Con Tryz.prog := ⟨180, fun args => match args with | [.agg [.flt a, .flt b, .flt c, .flt d, .flt e, .flt f, .flt r], .agg [.flt x, .flt y, .flt z, .flt u, .flt v, .flt w, .flt l], .flt n, .flt m] => .ok (none) (.tup [.flt (tuI a b c d e f r x y z u v w n), .flt (tuU a b c d e f r x y z u v w m), .bool (tuO a b c d e f r x y z u v w n m)]) | _ => .no, by
  intro args p r h hp
  split at h
  · cases h; exact tubeW_a _ _ _ _ _ _ _ _ _ _ _ _ _ _ _ _
  · cases h⟩
def tuT (a b c d e f r x y z u v w l n m : Nat) : Nat := bif fgt (tuI a b c d e f r x y z u v w n) l then tuI a b c d e f r x y z u v w n else tuU a b c d e f r x y z u v w m
theorem tubeS_f : FnOk Tryz.prog 178 Tryz.f178 := ⟨Tryz.func178, by kernel_rfl⟩
theorem tubeS_a (a b c d e f r x y z u v w l n m : Nat) : ACalls Tryz.prog 178 [.agg [.flt a, .flt b, .flt c, .flt d, .flt e, .flt f, .flt r], .agg [.flt x, .flt y, .flt z, .flt u, .flt v, .flt w, .flt l], .flt n, .flt m] (.tup [.flt (tuT a b c d e f r x y z u v w l n m), .bool (tuO a b c d e f r x y z u v w n m)]) := by
  refine acalls_of (inl := hasI (P := Tryz.prog) [] []) (base [tubeW_k] [] []) 0 tubeS_f (And.intro (by kernel_rfl) ?_)
  repeat' (first | refine And.intro ?_ ?_ | (with_reducible exact ff_elim) | (with_reducible exact tf_elim) | intro _ | (with_reducible rfl) | ((with_reducible refine lk_t ?_); exact rfl) | ((with_reducible refine pf_t ?_); exact rfl) | refine tell ?_ | exact True.intro | (refine IsT.of ?_; kernel_rfl))
  all_goals ((try refine Tell.mk ?_); first | with_reducible rfl | ((show (_ : Int) ≤ _); decide) | ((show (_ : Int) < _); decide) | (with_reducible refine gb_t ?_; with_reducible assumption) | with_reducible assumption | (with_reducible refine gb_f ?_; with_reducible assumption) | (simp only [tuT, *, cond_true, cond_false]; done) | ((with_reducible refine ks_t ?_); rfl) | ((with_reducible refine pk_t ?_); rfl) | ((with_reducible refine pf_t ?_); rfl) | ((with_reducible refine lk_t ?_); rfl) | ((with_reducible refine okF_t ?_); kernel_rfl) | grind [gb, tuT])
def tubeS_k : Con Tryz.prog := ⟨178, fun args => match args with | [.agg [.flt a, .flt b, .flt c, .flt d, .flt e, .flt f, .flt r], .agg [.flt x, .flt y, .flt z, .flt u, .flt v, .flt w, .flt l], .flt n, .flt m] => .ok (none) (.tup [.flt (tuT a b c d e f r x y z u v w l n m), .bool (tuO a b c d e f r x y z u v w n m)]) | _ => .no, by
  intro args p r h hp
  split at h
  · cases h; exact tubeS_a _ _ _ _ _ _ _ _ _ _ _ _ _ _ _ _
  · cases h⟩
def plaD (d e f u v w : Nat) : Nat := dotV (unitV d e f d) (unitV d e f e) (unitV d e f f) u v w
def plaQ (a b c d e f x y z u v w : Nat) : Nat := F .quo (dotV (unitV d e f d) (unitV d e f e) (unitV d e f f) (F .sub a x) (F .sub b y) (F .sub c z)) (plaD d e f u v w)
def plaT (a b c d e f x y z u v w : Nat) : Nat := bif feq (plaD d e f u v w) 0 then 0 else plaQ a b c d e f x y z u v w
def plaS (a b c d e f x y z u v w : Nat) : Nat := dotV (F .sub (F .add x (F .mul u (plaQ a b c d e f x y z u v w))) a) (F .sub (F .add y (F .mul v (plaQ a b c d e f x y z u v w))) b) (F .sub (F .add z (F .mul w (plaQ a b c d e f x y z u v w))) c) (F .sub (F .add x (F .mul u (plaQ a b c d e f x y z u v w))) a) (F .sub (F .add y (F .mul v (plaQ a b c d e f x y z u v w))) b) (F .sub (F .add z (F .mul w (plaQ a b c d e f x y z u v w))) c)
def plaO (a b c d e f r x y z u v w : Nat) : Bool := bif feq (plaD d e f u v w) 0 then false else flt (plaS a b c d e f x y z u v w) (F .mul r r) || feq (plaS a b c d e f x y z u v w) (F .mul r r)
theorem plateS_f : FnOk Tryz.prog 175 Tryz.f175 := ⟨Tryz.func175, by kernel_rfl⟩
theorem plateS_a (a b c d e f r x y z u v w l n m : Nat) : ACalls Tryz.prog 175 [.agg [.flt a, .flt b, .flt c, .flt d, .flt e, .flt f, .flt r], .agg [.flt x, .flt y, .flt z, .flt u, .flt v, .flt w, .flt l], .flt n, .flt m] (.tup [.flt (plaT a b c d e f x y z u v w), .bool (plaO a b c d e f r x y z u v w)]) := by
  refine acalls_of (inl := hasI (P := Tryz.prog) [] []) (base [unit_k, dot_k, sub_k, add_k, scale_k] [] []) 0 plateS_f (And.intro (by kernel_rfl) ?_)
  repeat' (first | refine And.intro ?_ ?_ | (with_reducible exact ff_elim) | (with_reducible exact tf_elim) | intro _ | (with_reducible rfl) | ((with_reducible refine lk_t ?_); exact rfl) | ((with_reducible refine pf_t ?_); exact rfl) | refine tell ?_ | exact True.intro | (refine IsT.of ?_; kernel_rfl))
  all_goals ((try refine Tell.mk ?_); first | with_reducible rfl | ((show (_ : Int) ≤ _); decide) | ((show (_ : Int) < _); decide) | (with_reducible refine gb_t ?_; with_reducible assumption) | with_reducible assumption | (with_reducible refine gb_f ?_; with_reducible assumption) | (simp only [plaT, plaO, plaS, plaQ, plaD, *, cond_true, cond_false]; done) | ((with_reducible refine ks_t ?_); rfl) | ((with_reducible refine pk_t ?_); rfl) | ((with_reducible refine pf_t ?_); rfl) | ((with_reducible refine lk_t ?_); rfl) | ((with_reducible refine okF_t ?_); kernel_rfl) | grind [gb, plaT, plaO, plaS, plaQ, plaD])
def plateS_k : Con Tryz.prog := ⟨175, fun args => match args with | [.agg [.flt a, .flt b, .flt c, .flt d, .flt e, .flt f, .flt r], .agg [.flt x, .flt y, .flt z, .flt u, .flt v, .flt w, .flt l], .flt n, .flt m] => .ok (none) (.tup [.flt (plaT a b c d e f x y z u v w), .bool (plaO a b c d e f r x y z u v w)]) | _ => .no, by
  intro args p r h hp
  split at h
  · cases h; exact plateS_a _ _ _ _ _ _ _ _ _ _ _ _ _ _ _ _
  · cases h⟩
def trO0 (a b c d e f g h i x y z u v w : Nat) : Bool := thrB (sdV0 x y z u v w d e f g h i) (sdV0 x y z u v w g h i a b c) (sdV0 x y z u v w a b c d e f)
def trT0 (a b c d e f g h i x y z u v w : Nat) : Nat := bif trO0 a b c d e f g h i x y z u v w then F .quo (F .add (F .add (F .mul (sdV0 x y z u v w d e f g h i) (plZ0 x y z u v w a b c)) (F .mul (sdV0 x y z u v w g h i a b c) (plZ0 x y z u v w d e f))) (F .mul (sdV0 x y z u v w a b c d e f) (plZ0 x y z u v w g h i))) (F .add (F .add (sdV0 x y z u v w d e f g h i) (sdV0 x y z u v w g h i a b c)) (sdV0 x y z u v w a b c d e f)) else 0
theorem triS0_f : FnOk Tryz.prog 172 Tryz.f172 := ⟨Tryz.func172, by kernel_rfl⟩
theorem triS0_a (a b c d e f g h i x y z u v w l n m : Nat) (hpre : deepV u v w = 0) : ACalls Tryz.prog 172 [.agg [.flt a, .flt b, .flt c, .flt d, .flt e, .flt f, .flt g, .flt h, .flt i], .agg [.flt x, .flt y, .flt z, .flt u, .flt v, .flt w, .flt l], .flt n, .flt m] (.tup [.flt (trT0 a b c d e f g h i x y z u v w), .bool (trO0 a b c d e f g h i x y z u v w)]) := by
  refine acalls_of (inl := hasI (P := Tryz.prog) [] []) (base [frame0_k, edge0_k, place0_k, through_k] [] []) 0 triS0_f (And.intro (by kernel_rfl) ?_)
  repeat' (first | refine And.intro ?_ ?_ | (with_reducible exact ff_elim) | (with_reducible exact tf_elim) | intro _ | (with_reducible rfl) | ((with_reducible refine lk_t ?_); exact rfl) | ((with_reducible refine pf_t ?_); exact rfl) | refine tell ?_ | exact True.intro | (refine IsT.of ?_; kernel_rfl))
  all_goals ((try refine Tell.mk ?_); first | with_reducible rfl | ((show (_ : Int) ≤ _); decide) | ((show (_ : Int) < _); decide) | (with_reducible refine gb_t ?_; with_reducible assumption) | with_reducible assumption | (with_reducible refine gb_f ?_; with_reducible assumption) | (simp only [trT0, trO0, thrS, thrB, sdV0, plX0, plY0, plZ0, *, cond_true, cond_false]; done) | ((with_reducible refine ks_t ?_); rfl) | ((with_reducible refine pk_t ?_); rfl) | ((with_reducible refine pf_t ?_); rfl) | ((with_reducible refine lk_t ?_); rfl) | ((with_reducible refine okF_t ?_); kernel_rfl) | grind [gb, trT0, trO0, thrS, thrB, sdV0, plX0, plY0, plZ0])
def triS0_k : Con Tryz.prog := ⟨172, fun args => match args with | [.agg [.flt a, .flt b, .flt c, .flt d, .flt e, .flt f, .flt g, .flt h, .flt i], .agg [.flt x, .flt y, .flt z, .flt u, .flt v, .flt w, .flt l], .flt n, .flt m] => .ok (some (deepV u v w = 0)) (.tup [.flt (trT0 a b c d e f g h i x y z u v w), .bool (trO0 a b c d e f g h i x y z u v w)]) | _ => .no, by
  intro args p r h hp
  split at h
  · cases h; exact triS0_a _ _ _ _ _ _ _ _ _ _ _ _ _ _ _ _ _ _ hp
  · cases h⟩
def trO1 (a b c d e f g h i x y z u v w : Nat) : Bool := thrB (sdV1 x y z u v w d e f g h i) (sdV1 x y z u v w g h i a b c) (sdV1 x y z u v w a b c d e f)
def trT1 (a b c d e f g h i x y z u v w : Nat) : Nat := bif trO1 a b c d e f g h i x y z u v w then F .quo (F .add (F .add (F .mul (sdV1 x y z u v w d e f g h i) (plZ1 x y z u v w a b c)) (F .mul (sdV1 x y z u v w g h i a b c) (plZ1 x y z u v w d e f))) (F .mul (sdV1 x y z u v w a b c d e f) (plZ1 x y z u v w g h i))) (F .add (F .add (sdV1 x y z u v w d e f g h i) (sdV1 x y z u v w g h i a b c)) (sdV1 x y z u v w a b c d e f)) else 0
theorem triS1_f : FnOk Tryz.prog 172 Tryz.f172 := ⟨Tryz.func172, by kernel_rfl⟩
theorem triS1_a (a b c d e f g h i x y z u v w l n m : Nat) (hpre : deepV u v w = 1) : ACalls Tryz.prog 172 [.agg [.flt a, .flt b, .flt c, .flt d, .flt e, .flt f, .flt g, .flt h, .flt i], .agg [.flt x, .flt y, .flt z, .flt u, .flt v, .flt w, .flt l], .flt n, .flt m] (.tup [.flt (trT1 a b c d e f g h i x y z u v w), .bool (trO1 a b c d e f g h i x y z u v w)]) := by
  refine acalls_of (inl := hasI (P := Tryz.prog) [] []) (base [frame1_k, edge1_k, place1_k, through_k] [] []) 0 triS1_f (And.intro (by kernel_rfl) ?_)
  repeat' (first | refine And.intro ?_ ?_ | (with_reducible exact ff_elim) | (with_reducible exact tf_elim) | intro _ | (with_reducible rfl) | ((with_reducible refine lk_t ?_); exact rfl) | ((with_reducible refine pf_t ?_); exact rfl) | refine tell ?_ | exact True.intro | (refine IsT.of ?_; kernel_rfl))
  all_goals ((try refine Tell.mk ?_); first | with_reducible rfl | ((show (_ : Int) ≤ _); decide) | ((show (_ : Int) < _); decide) | (with_reducible refine gb_t ?_; with_reducible assumption) | with_reducible assumption | (with_reducible refine gb_f ?_; with_reducible assumption) | (simp only [trT1, trO1, thrS, thrB, sdV1, plX1, plY1, plZ1, *, cond_true, cond_false]; done) | ((with_reducible refine ks_t ?_); rfl) | ((with_reducible refine pk_t ?_); rfl) | ((with_reducible refine pf_t ?_); rfl) | ((with_reducible refine lk_t ?_); rfl) | ((with_reducible refine okF_t ?_); kernel_rfl) | grind [gb, trT1, trO1, thrS, thrB, sdV1, plX1, plY1, plZ1])
def triS1_k : Con Tryz.prog := ⟨172, fun args => match args with | [.agg [.flt a, .flt b, .flt c, .flt d, .flt e, .flt f, .flt g, .flt h, .flt i], .agg [.flt x, .flt y, .flt z, .flt u, .flt v, .flt w, .flt l], .flt n, .flt m] => .ok (some (deepV u v w = 1)) (.tup [.flt (trT1 a b c d e f g h i x y z u v w), .bool (trO1 a b c d e f g h i x y z u v w)]) | _ => .no, by
  intro args p r h hp
  split at h
  · cases h; exact triS1_a _ _ _ _ _ _ _ _ _ _ _ _ _ _ _ _ _ _ hp
  · cases h⟩
def trO2 (a b c d e f g h i x y z u v w : Nat) : Bool := thrB (sdV2 x y z u v w d e f g h i) (sdV2 x y z u v w g h i a b c) (sdV2 x y z u v w a b c d e f)
def trT2 (a b c d e f g h i x y z u v w : Nat) : Nat := bif trO2 a b c d e f g h i x y z u v w then F .quo (F .add (F .add (F .mul (sdV2 x y z u v w d e f g h i) (plZ2 x y z u v w a b c)) (F .mul (sdV2 x y z u v w g h i a b c) (plZ2 x y z u v w d e f))) (F .mul (sdV2 x y z u v w a b c d e f) (plZ2 x y z u v w g h i))) (F .add (F .add (sdV2 x y z u v w d e f g h i) (sdV2 x y z u v w g h i a b c)) (sdV2 x y z u v w a b c d e f)) else 0
theorem triS2_f : FnOk Tryz.prog 172 Tryz.f172 := ⟨Tryz.func172, by kernel_rfl⟩
theorem triS2_a (a b c d e f g h i x y z u v w l n m : Nat) (hpre : deepV u v w = 2) : ACalls Tryz.prog 172 [.agg [.flt a, .flt b, .flt c, .flt d, .flt e, .flt f, .flt g, .flt h, .flt i], .agg [.flt x, .flt y, .flt z, .flt u, .flt v, .flt w, .flt l], .flt n, .flt m] (.tup [.flt (trT2 a b c d e f g h i x y z u v w), .bool (trO2 a b c d e f g h i x y z u v w)]) := by
  refine acalls_of (inl := hasI (P := Tryz.prog) [] []) (base [frame2_k, edge2_k, place2_k, through_k] [] []) 0 triS2_f (And.intro (by kernel_rfl) ?_)
  repeat' (first | refine And.intro ?_ ?_ | (with_reducible exact ff_elim) | (with_reducible exact tf_elim) | intro _ | (with_reducible rfl) | ((with_reducible refine lk_t ?_); exact rfl) | ((with_reducible refine pf_t ?_); exact rfl) | refine tell ?_ | exact True.intro | (refine IsT.of ?_; kernel_rfl))
  all_goals ((try refine Tell.mk ?_); first | with_reducible rfl | ((show (_ : Int) ≤ _); decide) | ((show (_ : Int) < _); decide) | (with_reducible refine gb_t ?_; with_reducible assumption) | with_reducible assumption | (with_reducible refine gb_f ?_; with_reducible assumption) | (simp only [trT2, trO2, thrS, thrB, sdV2, plX2, plY2, plZ2, *, cond_true, cond_false]; done) | ((with_reducible refine ks_t ?_); rfl) | ((with_reducible refine pk_t ?_); rfl) | ((with_reducible refine pf_t ?_); rfl) | ((with_reducible refine lk_t ?_); rfl) | ((with_reducible refine okF_t ?_); kernel_rfl) | grind [gb, trT2, trO2, thrS, thrB, sdV2, plX2, plY2, plZ2])
def triS2_k : Con Tryz.prog := ⟨172, fun args => match args with | [.agg [.flt a, .flt b, .flt c, .flt d, .flt e, .flt f, .flt g, .flt h, .flt i], .agg [.flt x, .flt y, .flt z, .flt u, .flt v, .flt w, .flt l], .flt n, .flt m] => .ok (some (deepV u v w = 2)) (.tup [.flt (trT2 a b c d e f g h i x y z u v w), .bool (trO2 a b c d e f g h i x y z u v w)]) | _ => .no, by
  intro args p r h hp
  split at h
  · cases h; exact triS2_a _ _ _ _ _ _ _ _ _ _ _ _ _ _ _ _ _ _ hp
  · cases h⟩
def trT (a b c d e f g h i x y z u v w : Nat) : Nat := bif deepV u v w == 0 then trT0 a b c d e f g h i x y z u v w else bif deepV u v w == 1 then trT1 a b c d e f g h i x y z u v w else trT2 a b c d e f g h i x y z u v w
def trO (a b c d e f g h i x y z u v w : Nat) : Bool := bif deepV u v w == 0 then trO0 a b c d e f g h i x y z u v w else bif deepV u v w == 1 then trO1 a b c d e f g h i x y z u v w else trO2 a b c d e f g h i x y z u v w
theorem triS_f : FnOk Tryz.prog 172 Tryz.f172 := ⟨Tryz.func172, by kernel_rfl⟩
theorem triS_a (a b c d e f g h i x y z u v w l n m : Nat) : ACalls Tryz.prog 172 [.agg [.flt a, .flt b, .flt c, .flt d, .flt e, .flt f, .flt g, .flt h, .flt i], .agg [.flt x, .flt y, .flt z, .flt u, .flt v, .flt w, .flt l], .flt n, .flt m] (.tup [.flt (trT a b c d e f g h i x y z u v w), .bool (trO a b c d e f g h i x y z u v w)]) := by
  unfold trT trO
  rcases deepV_or u v w with hk | hk | hk
  · rw [hk]; exact triS0_a a b c d e f g h i x y z u v w l n m hk
  · rw [hk]; exact triS1_a a b c d e f g h i x y z u v w l n m hk
  · rw [hk]; exact triS2_a a b c d e f g h i x y z u v w l n m hk
def triS_k : Con Tryz.prog := ⟨172, fun args => match args with | [.agg [.flt a, .flt b, .flt c, .flt d, .flt e, .flt f, .flt g, .flt h, .flt i], .agg [.flt x, .flt y, .flt z, .flt u, .flt v, .flt w, .flt l], .flt n, .flt m] => .ok (none) (.tup [.flt (trT a b c d e f g h i x y z u v w), .bool (trO a b c d e f g h i x y z u v w)]) | _ => .no, by
  intro args p r h hp
  split at h
  · cases h; exact triS_a _ _ _ _ _ _ _ _ _ _ _ _ _ _ _ _ _ _
  · cases h⟩
end Go.Proofs.YtdjckabogdohcaaGreat
/- Where rays strike shapes. -/
namespace Go.Proofs.YtdjckabogdohcaaGreat
open Go.RowKit Ev
set_option linter.unusedVariables false
set_option linter.unusedSimpArgs false
set_option maxRecDepth 20000
set_option maxHeartbeats 4000000

/-- Within the box around it, by its own reckoning. -/
def stB (k : Bool) (t : Nat) (ok : Bool) (l : Nat) : Bool := bif k then (bif ok then fgt t l || feq t l else false) else false
def stT (k : Bool) (t : Nat) (ok : Bool) (l n m : Nat) : Nat := bif stB k t ok l then (bif flt t n then n else bif fgt t m then m else t) else 0
theorem sh_1 {a b c d e f g h i r q : Nat} {s : Int} (hh : shapeE 1 a b c d e f g h i r q s = 0) : 0 = ballE a b c r := by
  unfold shapeE at hh
  cases h1 : (decide (s < 0) || decide (16 ≤ s)) <;> cases h2 : (!(fineB a b c) || (!(fineB d e f) || (!(fineB g h i) || (!(nearB r) || !(nearB q))))) <;> rw [h1, h2] at hh <;> first | exact hh.symm | cases hh
theorem sh_2 {a b c d e f g h i r q : Nat} {s : Int} (hh : shapeE 2 a b c d e f g h i r q s = 0) : 0 = blockE a b c d e f := by
  unfold shapeE at hh
  cases h1 : (decide (s < 0) || decide (16 ≤ s)) <;> cases h2 : (!(fineB a b c) || (!(fineB d e f) || (!(fineB g h i) || (!(nearB r) || !(nearB q))))) <;> rw [h1, h2] at hh <;> first | exact hh.symm | cases hh
theorem sh_3 {a b c d e f g h i r q : Nat} {s : Int} (hh : shapeE 3 a b c d e f g h i r q s = 0) : 0 = triE a b c d e f g h i := by
  unfold shapeE at hh
  cases h1 : (decide (s < 0) || decide (16 ≤ s)) <;> cases h2 : (!(fineB a b c) || (!(fineB d e f) || (!(fineB g h i) || (!(nearB r) || !(nearB q))))) <;> rw [h1, h2] at hh <;> first | exact hh.symm | cases hh
theorem sh_4 {a b c d e f g h i r q : Nat} {s : Int} (hh : shapeE 4 a b c d e f g h i r q s = 0) : 0 = plateE a b c d e f r := by
  unfold shapeE at hh
  cases h1 : (decide (s < 0) || decide (16 ≤ s)) <;> cases h2 : (!(fineB a b c) || (!(fineB d e f) || (!(fineB g h i) || (!(nearB r) || !(nearB q))))) <;> rw [h1, h2] at hh <;> first | exact hh.symm | cases hh
theorem sh_5 {a b c d e f g h i r q : Nat} {s : Int} (hh : shapeE 5 a b c d e f g h i r q s = 0) : 0 = tubeE a b c d e f r := by
  unfold shapeE at hh
  cases h1 : (decide (s < 0) || decide (16 ≤ s)) <;> cases h2 : (!(fineB a b c) || (!(fineB d e f) || (!(fineB g h i) || (!(nearB r) || !(nearB q))))) <;> rw [h1, h2] at hh <;> first | exact hh.symm | cases hh
def sO1 (a b c r x y z u v w l : Nat) : Bool := stB (meetB (F .sub a r) (F .sub b r) (F .sub c r) (F .add a r) (F .add b r) (F .add c r) x y z u v w l) (orI (F .sub x a) (F .sub y b) (F .sub z c) u v w r l) (abO (F .sub x a) (F .sub y b) (F .sub z c) u v w r) l
def sT1 (a b c r x y z u v w l : Nat) : Nat := stT (meetB (F .sub a r) (F .sub b r) (F .sub c r) (F .add a r) (F .add b r) (F .add c r) x y z u v w l) (orI (F .sub x a) (F .sub y b) (F .sub z c) u v w r l) (abO (F .sub x a) (F .sub y b) (F .sub z c) u v w r) l (meetX (F .sub a r) (F .sub b r) (F .sub c r) (F .add a r) (F .add b r) (F .add c r) x y z u v w l) (meetY (F .sub a r) (F .sub b r) (F .sub c r) (F .add a r) (F .add b r) (F .add c r) x y z u v w l)
theorem struck1_f : FnOk Tryz.prog 47 Tryz.f47 := ⟨Tryz.func47, by kernel_rfl⟩
theorem struck1_a (a b c r x y z u v w l : Nat) : ACalls Tryz.prog 47 [.ifc 110 (.agg [.flt a, .flt b, .flt c, .flt r]), .agg [.flt x, .flt y, .flt z, .flt u, .flt v, .flt w, .flt l]] (.tup [.flt (sT1 a b c r x y z u v w l), .bool (sO1 a b c r x y z u v w l)]) := by
  refine acalls_of (inl := hasI (P := Tryz.prog) [] []) (base [ballB_k, meets_k, ballS_k] [] []) 0 struck1_f (And.intro (by kernel_rfl) ?_)
  repeat' (first | refine And.intro ?_ ?_ | (with_reducible exact ff_elim) | (with_reducible exact tf_elim) | intro _ | (with_reducible rfl) | ((with_reducible refine lk_t ?_); exact rfl) | ((with_reducible refine pf_t ?_); exact rfl) | refine tell ?_ | exact True.intro | (refine IsT.of ?_; kernel_rfl))
  all_goals ((try refine Tell.mk ?_); first | with_reducible rfl | ((show (_ : Int) ≤ _); decide) | ((show (_ : Int) < _); decide) | (with_reducible refine gb_t ?_; with_reducible assumption) | with_reducible assumption | (with_reducible refine gb_f ?_; with_reducible assumption) | (simp only [sT1, sO1, stT, stB, *, cond_true, cond_false]; done) | ((with_reducible refine ks_t ?_); rfl) | ((with_reducible refine pk_t ?_); rfl) | ((with_reducible refine pf_t ?_); rfl) | ((with_reducible refine lk_t ?_); rfl) | ((with_reducible refine okF_t ?_); kernel_rfl) | grind [gb, sT1, sO1, stT, stB])
def struck1_k : Con Tryz.prog := ⟨47, fun args => match args with | [.ifc 110 (.agg [.flt a, .flt b, .flt c, .flt r]), .agg [.flt x, .flt y, .flt z, .flt u, .flt v, .flt w, .flt l]] => .ok (none) (.tup [.flt (sT1 a b c r x y z u v w l), .bool (sO1 a b c r x y z u v w l)]) | _ => .no, by
  intro args p r h hp
  split at h
  · cases h; exact struck1_a _ _ _ _ _ _ _ _ _ _ _
  · cases h⟩
theorem solid1_f : FnOk Tryz.prog 46 Tryz.f46 := ⟨Tryz.func46, by kernel_rfl⟩
theorem solid1_a (a b c d e f g h i r q : Nat) (s : Int) (hpre : shapeE 1 a b c d e f g h i r q s = 0) : ACalls Tryz.prog 46 [.agg [.int .i64 1, .flt a, .flt b, .flt c, .flt d, .flt e, .flt f, .flt g, .flt h, .flt i, .flt r, .flt q, .int .i64 s]] (.tup [.ifc 110 (.agg [.flt a, .flt b, .flt c, .flt r]), .int .i64 0]) := by
  refine acalls_of (inl := hasI (P := Tryz.prog) [] []) (base [fine_k, near_k, fitsBall_k] [] []) 0 solid1_f (And.intro (by kernel_rfl) ?_)
  repeat' (first | refine And.intro ?_ ?_ | (with_reducible exact ff_elim) | (with_reducible exact tf_elim) | (intro h; exact absurd h (by decide)) | intro _ | (with_reducible rfl) | ((with_reducible refine lk_t ?_); exact rfl) | ((with_reducible refine pf_t ?_); exact rfl) | refine tell ?_ | exact True.intro | (refine IsT.of ?_; kernel_rfl))
  all_goals (try refine Tell.mk ?_)
  all_goals first | with_reducible rfl | with_reducible assumption | (with_reducible refine gb_t ?_; with_reducible assumption) | (with_reducible refine gb_f ?_; with_reducible assumption) | ((with_reducible refine lk_t ?_); rfl) | ((with_reducible refine ks_t ?_); rfl) | (show (_ : AV) = _; kernel_rfl) | exact sh_1 hpre | (exfalso; simp only [shapeE] at hpre; simp_all; done) | (exfalso; clear hf; grind [shapeE]) | (exfalso; grind [shapeE]) | trace_state
def solid1_k : Con Tryz.prog := ⟨46, fun args => match args with | [.agg [.int .i64 1, .flt a, .flt b, .flt c, .flt d, .flt e, .flt f, .flt g, .flt h, .flt i, .flt r, .flt q, .int .i64 s]] => .ok (some (shapeE 1 a b c d e f g h i r q s = 0)) (.tup [.ifc 110 (.agg [.flt a, .flt b, .flt c, .flt r]), .int .i64 0]) | _ => .no, by
  intro args p r h hp
  split at h
  · cases h; exact solid1_a _ _ _ _ _ _ _ _ _ _ _ _ hp
  · cases h⟩
def sE1 (a b c d e f g h i r q : Nat) (s : Int) (x y z u v w l : Nat) : Int := bif !(shapeE 1 a b c d e f g h i r q s == 0) then shapeE 1 a b c d e f g h i r q s else rayV x y z u v w l
theorem Strike1_f : FnOk Tryz.prog 15 Tryz.f15 := ⟨Tryz.func15, by kernel_rfl⟩
theorem Strike1_a (a b c d e f g h i r q : Nat) (s : Int) (x y z u v w l : Nat) : ACalls Tryz.prog 15 [.agg [.int .i64 1, .flt a, .flt b, .flt c, .flt d, .flt e, .flt f, .flt g, .flt h, .flt i, .flt r, .flt q, .int .i64 s], .agg [.flt x, .flt y, .flt z, .flt u, .flt v, .flt w, .flt l]] (.tup [.flt (bif sE1 a b c d e f g h i r q s x y z u v w l == 0 then sT1 a b c r x y z u v w l else 0), .bool (bif sE1 a b c d e f g h i r q s x y z u v w l == 0 then sO1 a b c r x y z u v w l else false), .int .i64 (sE1 a b c d e f g h i r q s x y z u v w l)]) := by
  refine acalls_of (inl := hasI (P := Tryz.prog) [] []) (base [shapeMay_k, rayfine_k, solid1_k, struck1_k] [] []) 0 Strike1_f (And.intro (by kernel_rfl) ?_)
  repeat' (first | refine And.intro ?_ ?_ | (with_reducible exact ff_elim) | (with_reducible exact tf_elim) | intro _ | (with_reducible rfl) | ((with_reducible refine lk_t ?_); exact rfl) | ((with_reducible refine pf_t ?_); exact rfl) | refine tell ?_ | exact True.intro | (refine IsT.of ?_; kernel_rfl))
  all_goals ((try refine Tell.mk ?_); first | with_reducible rfl | ((show (_ : Int) ≤ _); decide) | ((show (_ : Int) < _); decide) | (with_reducible refine gb_t ?_; with_reducible assumption) | with_reducible assumption | (with_reducible refine gb_f ?_; with_reducible assumption) | (simp only [sE1, bne, *, cond_true, cond_false]; done) | ((with_reducible refine ks_t ?_); rfl) | ((with_reducible refine pk_t ?_); rfl) | ((with_reducible refine pf_t ?_); rfl) | ((with_reducible refine lk_t ?_); rfl) | ((with_reducible refine okF_t ?_); kernel_rfl) | grind [gb, sE1, bne])
def Strike1_k : Con Tryz.prog := ⟨15, fun args => match args with | [.agg [.int .i64 1, .flt a, .flt b, .flt c, .flt d, .flt e, .flt f, .flt g, .flt h, .flt i, .flt r, .flt q, .int .i64 s], .agg [.flt x, .flt y, .flt z, .flt u, .flt v, .flt w, .flt l]] => .ok (none) (.tup [.flt (bif sE1 a b c d e f g h i r q s x y z u v w l == 0 then sT1 a b c r x y z u v w l else 0), .bool (bif sE1 a b c d e f g h i r q s x y z u v w l == 0 then sO1 a b c r x y z u v w l else false), .int .i64 (sE1 a b c d e f g h i r q s x y z u v w l)]) | _ => .no, by
  intro args p r h hp
  split at h
  · cases h; exact Strike1_a _ _ _ _ _ _ _ _ _ _ _ _ _ _ _ _ _ _ _
  · cases h⟩
def sO2 (a b c d e f x y z u v w l : Nat) : Bool := stB (meetB a b c d e f x y z u v w l) (blT l (meetX a b c d e f x y z u v w l) (meetY a b c d e f x y z u v w l)) true l
def sT2 (a b c d e f x y z u v w l : Nat) : Nat := stT (meetB a b c d e f x y z u v w l) (blT l (meetX a b c d e f x y z u v w l) (meetY a b c d e f x y z u v w l)) true l (meetX a b c d e f x y z u v w l) (meetY a b c d e f x y z u v w l)
theorem struck2_f : FnOk Tryz.prog 47 Tryz.f47 := ⟨Tryz.func47, by kernel_rfl⟩
theorem struck2_a (a b c d e f x y z u v w l : Nat) : ACalls Tryz.prog 47 [.ifc 112 (.agg [.flt a, .flt b, .flt c, .flt d, .flt e, .flt f]), .agg [.flt x, .flt y, .flt z, .flt u, .flt v, .flt w, .flt l]] (.tup [.flt (sT2 a b c d e f x y z u v w l), .bool (sO2 a b c d e f x y z u v w l)]) := by
  refine acalls_of (inl := hasI (P := Tryz.prog) [] []) (base [blockB_k, meets_k, blockS_k] [] []) 0 struck2_f (And.intro (by kernel_rfl) ?_)
  repeat' (first | refine And.intro ?_ ?_ | (with_reducible exact ff_elim) | (with_reducible exact tf_elim) | intro _ | (with_reducible rfl) | ((with_reducible refine lk_t ?_); exact rfl) | ((with_reducible refine pf_t ?_); exact rfl) | refine tell ?_ | exact True.intro | (refine IsT.of ?_; kernel_rfl))
  all_goals ((try refine Tell.mk ?_); first | with_reducible rfl | ((show (_ : Int) ≤ _); decide) | ((show (_ : Int) < _); decide) | (with_reducible refine gb_t ?_; with_reducible assumption) | with_reducible assumption | (with_reducible refine gb_f ?_; with_reducible assumption) | (simp only [sT2, sO2, stT, stB, *, cond_true, cond_false]; done) | ((with_reducible refine ks_t ?_); rfl) | ((with_reducible refine pk_t ?_); rfl) | ((with_reducible refine pf_t ?_); rfl) | ((with_reducible refine lk_t ?_); rfl) | ((with_reducible refine okF_t ?_); kernel_rfl) | grind [gb, sT2, sO2, stT, stB])
def struck2_k : Con Tryz.prog := ⟨47, fun args => match args with | [.ifc 112 (.agg [.flt a, .flt b, .flt c, .flt d, .flt e, .flt f]), .agg [.flt x, .flt y, .flt z, .flt u, .flt v, .flt w, .flt l]] => .ok (none) (.tup [.flt (sT2 a b c d e f x y z u v w l), .bool (sO2 a b c d e f x y z u v w l)]) | _ => .no, by
  intro args p r h hp
  split at h
  · cases h; exact struck2_a _ _ _ _ _ _ _ _ _ _ _ _ _
  · cases h⟩
theorem solid2_f : FnOk Tryz.prog 46 Tryz.f46 := ⟨Tryz.func46, by kernel_rfl⟩
theorem solid2_a (a b c d e f g h i r q : Nat) (s : Int) (hpre : shapeE 2 a b c d e f g h i r q s = 0) : ACalls Tryz.prog 46 [.agg [.int .i64 2, .flt a, .flt b, .flt c, .flt d, .flt e, .flt f, .flt g, .flt h, .flt i, .flt r, .flt q, .int .i64 s]] (.tup [.ifc 112 (.agg [.flt a, .flt b, .flt c, .flt d, .flt e, .flt f]), .int .i64 0]) := by
  refine acalls_of (inl := hasI (P := Tryz.prog) [] []) (base [fine_k, near_k, fitsBlock_k] [] []) 0 solid2_f (And.intro (by kernel_rfl) ?_)
  repeat' (first | refine And.intro ?_ ?_ | (with_reducible exact ff_elim) | (with_reducible exact tf_elim) | (intro h; exact absurd h (by decide)) | intro _ | (with_reducible rfl) | ((with_reducible refine lk_t ?_); exact rfl) | ((with_reducible refine pf_t ?_); exact rfl) | refine tell ?_ | exact True.intro | (refine IsT.of ?_; kernel_rfl))
  all_goals (try refine Tell.mk ?_)
  all_goals first | with_reducible rfl | with_reducible assumption | (with_reducible refine gb_t ?_; with_reducible assumption) | (with_reducible refine gb_f ?_; with_reducible assumption) | ((with_reducible refine lk_t ?_); rfl) | ((with_reducible refine ks_t ?_); rfl) | (show (_ : AV) = _; kernel_rfl) | exact sh_2 hpre | (exfalso; simp only [shapeE] at hpre; simp_all; done) | (exfalso; clear hf; grind [shapeE]) | (exfalso; grind [shapeE]) | trace_state
def solid2_k : Con Tryz.prog := ⟨46, fun args => match args with | [.agg [.int .i64 2, .flt a, .flt b, .flt c, .flt d, .flt e, .flt f, .flt g, .flt h, .flt i, .flt r, .flt q, .int .i64 s]] => .ok (some (shapeE 2 a b c d e f g h i r q s = 0)) (.tup [.ifc 112 (.agg [.flt a, .flt b, .flt c, .flt d, .flt e, .flt f]), .int .i64 0]) | _ => .no, by
  intro args p r h hp
  split at h
  · cases h; exact solid2_a _ _ _ _ _ _ _ _ _ _ _ _ hp
  · cases h⟩
def sE2 (a b c d e f g h i r q : Nat) (s : Int) (x y z u v w l : Nat) : Int := bif !(shapeE 2 a b c d e f g h i r q s == 0) then shapeE 2 a b c d e f g h i r q s else rayV x y z u v w l
theorem Strike2_f : FnOk Tryz.prog 15 Tryz.f15 := ⟨Tryz.func15, by kernel_rfl⟩
theorem Strike2_a (a b c d e f g h i r q : Nat) (s : Int) (x y z u v w l : Nat) : ACalls Tryz.prog 15 [.agg [.int .i64 2, .flt a, .flt b, .flt c, .flt d, .flt e, .flt f, .flt g, .flt h, .flt i, .flt r, .flt q, .int .i64 s], .agg [.flt x, .flt y, .flt z, .flt u, .flt v, .flt w, .flt l]] (.tup [.flt (bif sE2 a b c d e f g h i r q s x y z u v w l == 0 then sT2 a b c d e f x y z u v w l else 0), .bool (bif sE2 a b c d e f g h i r q s x y z u v w l == 0 then sO2 a b c d e f x y z u v w l else false), .int .i64 (sE2 a b c d e f g h i r q s x y z u v w l)]) := by
  refine acalls_of (inl := hasI (P := Tryz.prog) [] []) (base [shapeMay_k, rayfine_k, solid2_k, struck2_k] [] []) 0 Strike2_f (And.intro (by kernel_rfl) ?_)
  repeat' (first | refine And.intro ?_ ?_ | (with_reducible exact ff_elim) | (with_reducible exact tf_elim) | intro _ | (with_reducible rfl) | ((with_reducible refine lk_t ?_); exact rfl) | ((with_reducible refine pf_t ?_); exact rfl) | refine tell ?_ | exact True.intro | (refine IsT.of ?_; kernel_rfl))
  all_goals ((try refine Tell.mk ?_); first | with_reducible rfl | ((show (_ : Int) ≤ _); decide) | ((show (_ : Int) < _); decide) | (with_reducible refine gb_t ?_; with_reducible assumption) | with_reducible assumption | (with_reducible refine gb_f ?_; with_reducible assumption) | (simp only [sE2, bne, *, cond_true, cond_false]; done) | ((with_reducible refine ks_t ?_); rfl) | ((with_reducible refine pk_t ?_); rfl) | ((with_reducible refine pf_t ?_); rfl) | ((with_reducible refine lk_t ?_); rfl) | ((with_reducible refine okF_t ?_); kernel_rfl) | grind [gb, sE2, bne])
def Strike2_k : Con Tryz.prog := ⟨15, fun args => match args with | [.agg [.int .i64 2, .flt a, .flt b, .flt c, .flt d, .flt e, .flt f, .flt g, .flt h, .flt i, .flt r, .flt q, .int .i64 s], .agg [.flt x, .flt y, .flt z, .flt u, .flt v, .flt w, .flt l]] => .ok (none) (.tup [.flt (bif sE2 a b c d e f g h i r q s x y z u v w l == 0 then sT2 a b c d e f x y z u v w l else 0), .bool (bif sE2 a b c d e f g h i r q s x y z u v w l == 0 then sO2 a b c d e f x y z u v w l else false), .int .i64 (sE2 a b c d e f g h i r q s x y z u v w l)]) | _ => .no, by
  intro args p r h hp
  split at h
  · cases h; exact Strike2_a _ _ _ _ _ _ _ _ _ _ _ _ _ _ _ _ _ _ _
  · cases h⟩
def sO3 (a b c d e f g h i x y z u v w l : Nat) : Bool := stB (meetB (lessV (lessV a d) g) (lessV (lessV b e) h) (lessV (lessV c f) i) (moreV (moreV a d) g) (moreV (moreV b e) h) (moreV (moreV c f) i) x y z u v w l) (trT a b c d e f g h i x y z u v w) (trO a b c d e f g h i x y z u v w) l
def sT3 (a b c d e f g h i x y z u v w l : Nat) : Nat := stT (meetB (lessV (lessV a d) g) (lessV (lessV b e) h) (lessV (lessV c f) i) (moreV (moreV a d) g) (moreV (moreV b e) h) (moreV (moreV c f) i) x y z u v w l) (trT a b c d e f g h i x y z u v w) (trO a b c d e f g h i x y z u v w) l (meetX (lessV (lessV a d) g) (lessV (lessV b e) h) (lessV (lessV c f) i) (moreV (moreV a d) g) (moreV (moreV b e) h) (moreV (moreV c f) i) x y z u v w l) (meetY (lessV (lessV a d) g) (lessV (lessV b e) h) (lessV (lessV c f) i) (moreV (moreV a d) g) (moreV (moreV b e) h) (moreV (moreV c f) i) x y z u v w l)
theorem struck3_f : FnOk Tryz.prog 47 Tryz.f47 := ⟨Tryz.func47, by kernel_rfl⟩
theorem struck3_a (a b c d e f g h i x y z u v w l : Nat) : ACalls Tryz.prog 47 [.ifc 114 (.agg [.flt a, .flt b, .flt c, .flt d, .flt e, .flt f, .flt g, .flt h, .flt i]), .agg [.flt x, .flt y, .flt z, .flt u, .flt v, .flt w, .flt l]] (.tup [.flt (sT3 a b c d e f g h i x y z u v w l), .bool (sO3 a b c d e f g h i x y z u v w l)]) := by
  refine acalls_of (inl := hasI (P := Tryz.prog) [] []) (base [triB_k, meets_k, triS_k] [] []) 0 struck3_f (And.intro (by kernel_rfl) ?_)
  repeat' (first | refine And.intro ?_ ?_ | (with_reducible exact ff_elim) | (with_reducible exact tf_elim) | intro _ | (with_reducible rfl) | ((with_reducible refine lk_t ?_); exact rfl) | ((with_reducible refine pf_t ?_); exact rfl) | refine tell ?_ | exact True.intro | (refine IsT.of ?_; kernel_rfl))
  all_goals ((try refine Tell.mk ?_); first | with_reducible rfl | ((show (_ : Int) ≤ _); decide) | ((show (_ : Int) < _); decide) | (with_reducible refine gb_t ?_; with_reducible assumption) | with_reducible assumption | (with_reducible refine gb_f ?_; with_reducible assumption) | (simp only [sT3, sO3, stT, stB, *, cond_true, cond_false]; done) | ((with_reducible refine ks_t ?_); rfl) | ((with_reducible refine pk_t ?_); rfl) | ((with_reducible refine pf_t ?_); rfl) | ((with_reducible refine lk_t ?_); rfl) | ((with_reducible refine okF_t ?_); kernel_rfl) | grind [gb, sT3, sO3, stT, stB])
def struck3_k : Con Tryz.prog := ⟨47, fun args => match args with | [.ifc 114 (.agg [.flt a, .flt b, .flt c, .flt d, .flt e, .flt f, .flt g, .flt h, .flt i]), .agg [.flt x, .flt y, .flt z, .flt u, .flt v, .flt w, .flt l]] => .ok (none) (.tup [.flt (sT3 a b c d e f g h i x y z u v w l), .bool (sO3 a b c d e f g h i x y z u v w l)]) | _ => .no, by
  intro args p r h hp
  split at h
  · cases h; exact struck3_a _ _ _ _ _ _ _ _ _ _ _ _ _ _ _ _
  · cases h⟩
theorem solid3_f : FnOk Tryz.prog 46 Tryz.f46 := ⟨Tryz.func46, by kernel_rfl⟩
theorem solid3_a (a b c d e f g h i r q : Nat) (s : Int) (hpre : shapeE 3 a b c d e f g h i r q s = 0) : ACalls Tryz.prog 46 [.agg [.int .i64 3, .flt a, .flt b, .flt c, .flt d, .flt e, .flt f, .flt g, .flt h, .flt i, .flt r, .flt q, .int .i64 s]] (.tup [.ifc 114 (.agg [.flt a, .flt b, .flt c, .flt d, .flt e, .flt f, .flt g, .flt h, .flt i]), .int .i64 0]) := by
  refine acalls_of (inl := hasI (P := Tryz.prog) [] []) (base [fine_k, near_k, fitsTri_k] [] []) 0 solid3_f (And.intro (by kernel_rfl) ?_)
  repeat' (first | refine And.intro ?_ ?_ | (with_reducible exact ff_elim) | (with_reducible exact tf_elim) | (intro h; exact absurd h (by decide)) | intro _ | (with_reducible rfl) | ((with_reducible refine lk_t ?_); exact rfl) | ((with_reducible refine pf_t ?_); exact rfl) | refine tell ?_ | exact True.intro | (refine IsT.of ?_; kernel_rfl))
  all_goals (try refine Tell.mk ?_)
  all_goals first | with_reducible rfl | with_reducible assumption | (with_reducible refine gb_t ?_; with_reducible assumption) | (with_reducible refine gb_f ?_; with_reducible assumption) | ((with_reducible refine lk_t ?_); rfl) | ((with_reducible refine ks_t ?_); rfl) | (show (_ : AV) = _; kernel_rfl) | exact sh_3 hpre | (exfalso; simp only [shapeE] at hpre; simp_all; done) | (exfalso; clear hf; grind [shapeE]) | (exfalso; grind [shapeE]) | trace_state
def solid3_k : Con Tryz.prog := ⟨46, fun args => match args with | [.agg [.int .i64 3, .flt a, .flt b, .flt c, .flt d, .flt e, .flt f, .flt g, .flt h, .flt i, .flt r, .flt q, .int .i64 s]] => .ok (some (shapeE 3 a b c d e f g h i r q s = 0)) (.tup [.ifc 114 (.agg [.flt a, .flt b, .flt c, .flt d, .flt e, .flt f, .flt g, .flt h, .flt i]), .int .i64 0]) | _ => .no, by
  intro args p r h hp
  split at h
  · cases h; exact solid3_a _ _ _ _ _ _ _ _ _ _ _ _ hp
  · cases h⟩
def sE3 (a b c d e f g h i r q : Nat) (s : Int) (x y z u v w l : Nat) : Int := bif !(shapeE 3 a b c d e f g h i r q s == 0) then shapeE 3 a b c d e f g h i r q s else rayV x y z u v w l
theorem Strike3_f : FnOk Tryz.prog 15 Tryz.f15 := ⟨Tryz.func15, by kernel_rfl⟩
theorem Strike3_a (a b c d e f g h i r q : Nat) (s : Int) (x y z u v w l : Nat) : ACalls Tryz.prog 15 [.agg [.int .i64 3, .flt a, .flt b, .flt c, .flt d, .flt e, .flt f, .flt g, .flt h, .flt i, .flt r, .flt q, .int .i64 s], .agg [.flt x, .flt y, .flt z, .flt u, .flt v, .flt w, .flt l]] (.tup [.flt (bif sE3 a b c d e f g h i r q s x y z u v w l == 0 then sT3 a b c d e f g h i x y z u v w l else 0), .bool (bif sE3 a b c d e f g h i r q s x y z u v w l == 0 then sO3 a b c d e f g h i x y z u v w l else false), .int .i64 (sE3 a b c d e f g h i r q s x y z u v w l)]) := by
  refine acalls_of (inl := hasI (P := Tryz.prog) [] []) (base [shapeMay_k, rayfine_k, solid3_k, struck3_k] [] []) 0 Strike3_f (And.intro (by kernel_rfl) ?_)
  repeat' (first | refine And.intro ?_ ?_ | (with_reducible exact ff_elim) | (with_reducible exact tf_elim) | intro _ | (with_reducible rfl) | ((with_reducible refine lk_t ?_); exact rfl) | ((with_reducible refine pf_t ?_); exact rfl) | refine tell ?_ | exact True.intro | (refine IsT.of ?_; kernel_rfl))
  all_goals ((try refine Tell.mk ?_); first | with_reducible rfl | ((show (_ : Int) ≤ _); decide) | ((show (_ : Int) < _); decide) | (with_reducible refine gb_t ?_; with_reducible assumption) | with_reducible assumption | (with_reducible refine gb_f ?_; with_reducible assumption) | (simp only [sE3, bne, *, cond_true, cond_false]; done) | ((with_reducible refine ks_t ?_); rfl) | ((with_reducible refine pk_t ?_); rfl) | ((with_reducible refine pf_t ?_); rfl) | ((with_reducible refine lk_t ?_); rfl) | ((with_reducible refine okF_t ?_); kernel_rfl) | grind [gb, sE3, bne])
def Strike3_k : Con Tryz.prog := ⟨15, fun args => match args with | [.agg [.int .i64 3, .flt a, .flt b, .flt c, .flt d, .flt e, .flt f, .flt g, .flt h, .flt i, .flt r, .flt q, .int .i64 s], .agg [.flt x, .flt y, .flt z, .flt u, .flt v, .flt w, .flt l]] => .ok (none) (.tup [.flt (bif sE3 a b c d e f g h i r q s x y z u v w l == 0 then sT3 a b c d e f g h i x y z u v w l else 0), .bool (bif sE3 a b c d e f g h i r q s x y z u v w l == 0 then sO3 a b c d e f g h i x y z u v w l else false), .int .i64 (sE3 a b c d e f g h i r q s x y z u v w l)]) | _ => .no, by
  intro args p r h hp
  split at h
  · cases h; exact Strike3_a _ _ _ _ _ _ _ _ _ _ _ _ _ _ _ _ _ _ _
  · cases h⟩
def sO4 (a b c d e f r x y z u v w l : Nat) : Bool := stB (meetB (F .sub a r) (F .sub b r) (F .sub c r) (F .add a r) (F .add b r) (F .add c r) x y z u v w l) (plaT a b c d e f x y z u v w) (plaO a b c d e f r x y z u v w) l
def sT4 (a b c d e f r x y z u v w l : Nat) : Nat := stT (meetB (F .sub a r) (F .sub b r) (F .sub c r) (F .add a r) (F .add b r) (F .add c r) x y z u v w l) (plaT a b c d e f x y z u v w) (plaO a b c d e f r x y z u v w) l (meetX (F .sub a r) (F .sub b r) (F .sub c r) (F .add a r) (F .add b r) (F .add c r) x y z u v w l) (meetY (F .sub a r) (F .sub b r) (F .sub c r) (F .add a r) (F .add b r) (F .add c r) x y z u v w l)
theorem struck4_f : FnOk Tryz.prog 47 Tryz.f47 := ⟨Tryz.func47, by kernel_rfl⟩
theorem struck4_a (a b c d e f r x y z u v w l : Nat) : ACalls Tryz.prog 47 [.ifc 116 (.agg [.flt a, .flt b, .flt c, .flt d, .flt e, .flt f, .flt r]), .agg [.flt x, .flt y, .flt z, .flt u, .flt v, .flt w, .flt l]] (.tup [.flt (sT4 a b c d e f r x y z u v w l), .bool (sO4 a b c d e f r x y z u v w l)]) := by
  refine acalls_of (inl := hasI (P := Tryz.prog) [] []) (base [plateB_k, meets_k, plateS_k] [] []) 0 struck4_f (And.intro (by kernel_rfl) ?_)
  repeat' (first | refine And.intro ?_ ?_ | (with_reducible exact ff_elim) | (with_reducible exact tf_elim) | intro _ | (with_reducible rfl) | ((with_reducible refine lk_t ?_); exact rfl) | ((with_reducible refine pf_t ?_); exact rfl) | refine tell ?_ | exact True.intro | (refine IsT.of ?_; kernel_rfl))
  all_goals ((try refine Tell.mk ?_); first | with_reducible rfl | ((show (_ : Int) ≤ _); decide) | ((show (_ : Int) < _); decide) | (with_reducible refine gb_t ?_; with_reducible assumption) | with_reducible assumption | (with_reducible refine gb_f ?_; with_reducible assumption) | (simp only [sT4, sO4, stT, stB, *, cond_true, cond_false]; done) | ((with_reducible refine ks_t ?_); rfl) | ((with_reducible refine pk_t ?_); rfl) | ((with_reducible refine pf_t ?_); rfl) | ((with_reducible refine lk_t ?_); rfl) | ((with_reducible refine okF_t ?_); kernel_rfl) | grind [gb, sT4, sO4, stT, stB])
def struck4_k : Con Tryz.prog := ⟨47, fun args => match args with | [.ifc 116 (.agg [.flt a, .flt b, .flt c, .flt d, .flt e, .flt f, .flt r]), .agg [.flt x, .flt y, .flt z, .flt u, .flt v, .flt w, .flt l]] => .ok (none) (.tup [.flt (sT4 a b c d e f r x y z u v w l), .bool (sO4 a b c d e f r x y z u v w l)]) | _ => .no, by
  intro args p r h hp
  split at h
  · cases h; exact struck4_a _ _ _ _ _ _ _ _ _ _ _ _ _ _
  · cases h⟩
theorem solid4_f : FnOk Tryz.prog 46 Tryz.f46 := ⟨Tryz.func46, by kernel_rfl⟩
theorem solid4_a (a b c d e f g h i r q : Nat) (s : Int) (hpre : shapeE 4 a b c d e f g h i r q s = 0) : ACalls Tryz.prog 46 [.agg [.int .i64 4, .flt a, .flt b, .flt c, .flt d, .flt e, .flt f, .flt g, .flt h, .flt i, .flt r, .flt q, .int .i64 s]] (.tup [.ifc 116 (.agg [.flt a, .flt b, .flt c, .flt d, .flt e, .flt f, .flt r]), .int .i64 0]) := by
  refine acalls_of (inl := hasI (P := Tryz.prog) [] []) (base [fine_k, near_k, fitsPlate_k] [] []) 0 solid4_f (And.intro (by kernel_rfl) ?_)
  repeat' (first | refine And.intro ?_ ?_ | (with_reducible exact ff_elim) | (with_reducible exact tf_elim) | (intro h; exact absurd h (by decide)) | intro _ | (with_reducible rfl) | ((with_reducible refine lk_t ?_); exact rfl) | ((with_reducible refine pf_t ?_); exact rfl) | refine tell ?_ | exact True.intro | (refine IsT.of ?_; kernel_rfl))
  all_goals (try refine Tell.mk ?_)
  all_goals first | with_reducible rfl | with_reducible assumption | (with_reducible refine gb_t ?_; with_reducible assumption) | (with_reducible refine gb_f ?_; with_reducible assumption) | ((with_reducible refine lk_t ?_); rfl) | ((with_reducible refine ks_t ?_); rfl) | (show (_ : AV) = _; kernel_rfl) | exact sh_4 hpre | (exfalso; simp only [shapeE] at hpre; simp_all; done) | (exfalso; clear hf; grind [shapeE]) | (exfalso; grind [shapeE]) | trace_state
def solid4_k : Con Tryz.prog := ⟨46, fun args => match args with | [.agg [.int .i64 4, .flt a, .flt b, .flt c, .flt d, .flt e, .flt f, .flt g, .flt h, .flt i, .flt r, .flt q, .int .i64 s]] => .ok (some (shapeE 4 a b c d e f g h i r q s = 0)) (.tup [.ifc 116 (.agg [.flt a, .flt b, .flt c, .flt d, .flt e, .flt f, .flt r]), .int .i64 0]) | _ => .no, by
  intro args p r h hp
  split at h
  · cases h; exact solid4_a _ _ _ _ _ _ _ _ _ _ _ _ hp
  · cases h⟩
def sE4 (a b c d e f g h i r q : Nat) (s : Int) (x y z u v w l : Nat) : Int := bif !(shapeE 4 a b c d e f g h i r q s == 0) then shapeE 4 a b c d e f g h i r q s else rayV x y z u v w l
theorem Strike4_f : FnOk Tryz.prog 15 Tryz.f15 := ⟨Tryz.func15, by kernel_rfl⟩
theorem Strike4_a (a b c d e f g h i r q : Nat) (s : Int) (x y z u v w l : Nat) : ACalls Tryz.prog 15 [.agg [.int .i64 4, .flt a, .flt b, .flt c, .flt d, .flt e, .flt f, .flt g, .flt h, .flt i, .flt r, .flt q, .int .i64 s], .agg [.flt x, .flt y, .flt z, .flt u, .flt v, .flt w, .flt l]] (.tup [.flt (bif sE4 a b c d e f g h i r q s x y z u v w l == 0 then sT4 a b c d e f r x y z u v w l else 0), .bool (bif sE4 a b c d e f g h i r q s x y z u v w l == 0 then sO4 a b c d e f r x y z u v w l else false), .int .i64 (sE4 a b c d e f g h i r q s x y z u v w l)]) := by
  refine acalls_of (inl := hasI (P := Tryz.prog) [] []) (base [shapeMay_k, rayfine_k, solid4_k, struck4_k] [] []) 0 Strike4_f (And.intro (by kernel_rfl) ?_)
  repeat' (first | refine And.intro ?_ ?_ | (with_reducible exact ff_elim) | (with_reducible exact tf_elim) | intro _ | (with_reducible rfl) | ((with_reducible refine lk_t ?_); exact rfl) | ((with_reducible refine pf_t ?_); exact rfl) | refine tell ?_ | exact True.intro | (refine IsT.of ?_; kernel_rfl))
  all_goals ((try refine Tell.mk ?_); first | with_reducible rfl | ((show (_ : Int) ≤ _); decide) | ((show (_ : Int) < _); decide) | (with_reducible refine gb_t ?_; with_reducible assumption) | with_reducible assumption | (with_reducible refine gb_f ?_; with_reducible assumption) | (simp only [sE4, bne, *, cond_true, cond_false]; done) | ((with_reducible refine ks_t ?_); rfl) | ((with_reducible refine pk_t ?_); rfl) | ((with_reducible refine pf_t ?_); rfl) | ((with_reducible refine lk_t ?_); rfl) | ((with_reducible refine okF_t ?_); kernel_rfl) | grind [gb, sE4, bne])
def Strike4_k : Con Tryz.prog := ⟨15, fun args => match args with | [.agg [.int .i64 4, .flt a, .flt b, .flt c, .flt d, .flt e, .flt f, .flt g, .flt h, .flt i, .flt r, .flt q, .int .i64 s], .agg [.flt x, .flt y, .flt z, .flt u, .flt v, .flt w, .flt l]] => .ok (none) (.tup [.flt (bif sE4 a b c d e f g h i r q s x y z u v w l == 0 then sT4 a b c d e f r x y z u v w l else 0), .bool (bif sE4 a b c d e f g h i r q s x y z u v w l == 0 then sO4 a b c d e f r x y z u v w l else false), .int .i64 (sE4 a b c d e f g h i r q s x y z u v w l)]) | _ => .no, by
  intro args p r h hp
  split at h
  · cases h; exact Strike4_a _ _ _ _ _ _ _ _ _ _ _ _ _ _ _ _ _ _ _
  · cases h⟩
def sO5 (a b c d e f r x y z u v w l : Nat) : Bool := stB (meetB (F .sub (lessV a (F .add a d)) (wo (aloneV d e f) 0 r)) (F .sub (lessV b (F .add b e)) (wo (aloneV d e f) 1 r)) (F .sub (lessV c (F .add c f)) (wz (aloneV d e f) r)) (F .add (moreV a (F .add a d)) (wo (aloneV d e f) 0 r)) (F .add (moreV b (F .add b e)) (wo (aloneV d e f) 1 r)) (F .add (moreV c (F .add c f)) (wz (aloneV d e f) r)) x y z u v w l) (tuT a b c d e f r x y z u v w l (meetX (F .sub (lessV a (F .add a d)) (wo (aloneV d e f) 0 r)) (F .sub (lessV b (F .add b e)) (wo (aloneV d e f) 1 r)) (F .sub (lessV c (F .add c f)) (wz (aloneV d e f) r)) (F .add (moreV a (F .add a d)) (wo (aloneV d e f) 0 r)) (F .add (moreV b (F .add b e)) (wo (aloneV d e f) 1 r)) (F .add (moreV c (F .add c f)) (wz (aloneV d e f) r)) x y z u v w l) (meetY (F .sub (lessV a (F .add a d)) (wo (aloneV d e f) 0 r)) (F .sub (lessV b (F .add b e)) (wo (aloneV d e f) 1 r)) (F .sub (lessV c (F .add c f)) (wz (aloneV d e f) r)) (F .add (moreV a (F .add a d)) (wo (aloneV d e f) 0 r)) (F .add (moreV b (F .add b e)) (wo (aloneV d e f) 1 r)) (F .add (moreV c (F .add c f)) (wz (aloneV d e f) r)) x y z u v w l)) (tuO a b c d e f r x y z u v w (meetX (F .sub (lessV a (F .add a d)) (wo (aloneV d e f) 0 r)) (F .sub (lessV b (F .add b e)) (wo (aloneV d e f) 1 r)) (F .sub (lessV c (F .add c f)) (wz (aloneV d e f) r)) (F .add (moreV a (F .add a d)) (wo (aloneV d e f) 0 r)) (F .add (moreV b (F .add b e)) (wo (aloneV d e f) 1 r)) (F .add (moreV c (F .add c f)) (wz (aloneV d e f) r)) x y z u v w l) (meetY (F .sub (lessV a (F .add a d)) (wo (aloneV d e f) 0 r)) (F .sub (lessV b (F .add b e)) (wo (aloneV d e f) 1 r)) (F .sub (lessV c (F .add c f)) (wz (aloneV d e f) r)) (F .add (moreV a (F .add a d)) (wo (aloneV d e f) 0 r)) (F .add (moreV b (F .add b e)) (wo (aloneV d e f) 1 r)) (F .add (moreV c (F .add c f)) (wz (aloneV d e f) r)) x y z u v w l)) l
def sT5 (a b c d e f r x y z u v w l : Nat) : Nat := stT (meetB (F .sub (lessV a (F .add a d)) (wo (aloneV d e f) 0 r)) (F .sub (lessV b (F .add b e)) (wo (aloneV d e f) 1 r)) (F .sub (lessV c (F .add c f)) (wz (aloneV d e f) r)) (F .add (moreV a (F .add a d)) (wo (aloneV d e f) 0 r)) (F .add (moreV b (F .add b e)) (wo (aloneV d e f) 1 r)) (F .add (moreV c (F .add c f)) (wz (aloneV d e f) r)) x y z u v w l) (tuT a b c d e f r x y z u v w l (meetX (F .sub (lessV a (F .add a d)) (wo (aloneV d e f) 0 r)) (F .sub (lessV b (F .add b e)) (wo (aloneV d e f) 1 r)) (F .sub (lessV c (F .add c f)) (wz (aloneV d e f) r)) (F .add (moreV a (F .add a d)) (wo (aloneV d e f) 0 r)) (F .add (moreV b (F .add b e)) (wo (aloneV d e f) 1 r)) (F .add (moreV c (F .add c f)) (wz (aloneV d e f) r)) x y z u v w l) (meetY (F .sub (lessV a (F .add a d)) (wo (aloneV d e f) 0 r)) (F .sub (lessV b (F .add b e)) (wo (aloneV d e f) 1 r)) (F .sub (lessV c (F .add c f)) (wz (aloneV d e f) r)) (F .add (moreV a (F .add a d)) (wo (aloneV d e f) 0 r)) (F .add (moreV b (F .add b e)) (wo (aloneV d e f) 1 r)) (F .add (moreV c (F .add c f)) (wz (aloneV d e f) r)) x y z u v w l)) (tuO a b c d e f r x y z u v w (meetX (F .sub (lessV a (F .add a d)) (wo (aloneV d e f) 0 r)) (F .sub (lessV b (F .add b e)) (wo (aloneV d e f) 1 r)) (F .sub (lessV c (F .add c f)) (wz (aloneV d e f) r)) (F .add (moreV a (F .add a d)) (wo (aloneV d e f) 0 r)) (F .add (moreV b (F .add b e)) (wo (aloneV d e f) 1 r)) (F .add (moreV c (F .add c f)) (wz (aloneV d e f) r)) x y z u v w l) (meetY (F .sub (lessV a (F .add a d)) (wo (aloneV d e f) 0 r)) (F .sub (lessV b (F .add b e)) (wo (aloneV d e f) 1 r)) (F .sub (lessV c (F .add c f)) (wz (aloneV d e f) r)) (F .add (moreV a (F .add a d)) (wo (aloneV d e f) 0 r)) (F .add (moreV b (F .add b e)) (wo (aloneV d e f) 1 r)) (F .add (moreV c (F .add c f)) (wz (aloneV d e f) r)) x y z u v w l)) l (meetX (F .sub (lessV a (F .add a d)) (wo (aloneV d e f) 0 r)) (F .sub (lessV b (F .add b e)) (wo (aloneV d e f) 1 r)) (F .sub (lessV c (F .add c f)) (wz (aloneV d e f) r)) (F .add (moreV a (F .add a d)) (wo (aloneV d e f) 0 r)) (F .add (moreV b (F .add b e)) (wo (aloneV d e f) 1 r)) (F .add (moreV c (F .add c f)) (wz (aloneV d e f) r)) x y z u v w l) (meetY (F .sub (lessV a (F .add a d)) (wo (aloneV d e f) 0 r)) (F .sub (lessV b (F .add b e)) (wo (aloneV d e f) 1 r)) (F .sub (lessV c (F .add c f)) (wz (aloneV d e f) r)) (F .add (moreV a (F .add a d)) (wo (aloneV d e f) 0 r)) (F .add (moreV b (F .add b e)) (wo (aloneV d e f) 1 r)) (F .add (moreV c (F .add c f)) (wz (aloneV d e f) r)) x y z u v w l)
theorem struck5_f : FnOk Tryz.prog 47 Tryz.f47 := ⟨Tryz.func47, by kernel_rfl⟩
theorem struck5_a (a b c d e f r x y z u v w l : Nat) : ACalls Tryz.prog 47 [.ifc 118 (.agg [.flt a, .flt b, .flt c, .flt d, .flt e, .flt f, .flt r]), .agg [.flt x, .flt y, .flt z, .flt u, .flt v, .flt w, .flt l]] (.tup [.flt (sT5 a b c d e f r x y z u v w l), .bool (sO5 a b c d e f r x y z u v w l)]) := by
  refine acalls_of (inl := hasI (P := Tryz.prog) [] []) (base [tubeB_k, meets_k, tubeS_k] [] []) 0 struck5_f (And.intro (by kernel_rfl) ?_)
  repeat' (first | refine And.intro ?_ ?_ | (with_reducible exact ff_elim) | (with_reducible exact tf_elim) | intro _ | (with_reducible rfl) | ((with_reducible refine lk_t ?_); exact rfl) | ((with_reducible refine pf_t ?_); exact rfl) | refine tell ?_ | exact True.intro | (refine IsT.of ?_; kernel_rfl))
  all_goals ((try refine Tell.mk ?_); first | with_reducible rfl | ((show (_ : Int) ≤ _); decide) | ((show (_ : Int) < _); decide) | (with_reducible refine gb_t ?_; with_reducible assumption) | with_reducible assumption | (with_reducible refine gb_f ?_; with_reducible assumption) | (simp only [sT5, sO5, stT, stB, *, cond_true, cond_false]; done) | ((with_reducible refine ks_t ?_); rfl) | ((with_reducible refine pk_t ?_); rfl) | ((with_reducible refine pf_t ?_); rfl) | ((with_reducible refine lk_t ?_); rfl) | ((with_reducible refine okF_t ?_); kernel_rfl) | grind [gb, sT5, sO5, stT, stB])
def struck5_k : Con Tryz.prog := ⟨47, fun args => match args with | [.ifc 118 (.agg [.flt a, .flt b, .flt c, .flt d, .flt e, .flt f, .flt r]), .agg [.flt x, .flt y, .flt z, .flt u, .flt v, .flt w, .flt l]] => .ok (none) (.tup [.flt (sT5 a b c d e f r x y z u v w l), .bool (sO5 a b c d e f r x y z u v w l)]) | _ => .no, by
  intro args p r h hp
  split at h
  · cases h; exact struck5_a _ _ _ _ _ _ _ _ _ _ _ _ _ _
  · cases h⟩
theorem solid5_f : FnOk Tryz.prog 46 Tryz.f46 := ⟨Tryz.func46, by kernel_rfl⟩
theorem solid5_a (a b c d e f g h i r q : Nat) (s : Int) (hpre : shapeE 5 a b c d e f g h i r q s = 0) : ACalls Tryz.prog 46 [.agg [.int .i64 5, .flt a, .flt b, .flt c, .flt d, .flt e, .flt f, .flt g, .flt h, .flt i, .flt r, .flt q, .int .i64 s]] (.tup [.ifc 118 (.agg [.flt a, .flt b, .flt c, .flt d, .flt e, .flt f, .flt r]), .int .i64 0]) := by
  refine acalls_of (inl := hasI (P := Tryz.prog) [] []) (base [fine_k, near_k, fitsTube_k] [] []) 0 solid5_f (And.intro (by kernel_rfl) ?_)
  repeat' (first | refine And.intro ?_ ?_ | (with_reducible exact ff_elim) | (with_reducible exact tf_elim) | (intro h; exact absurd h (by decide)) | intro _ | (with_reducible rfl) | ((with_reducible refine lk_t ?_); exact rfl) | ((with_reducible refine pf_t ?_); exact rfl) | refine tell ?_ | exact True.intro | (refine IsT.of ?_; kernel_rfl))
  all_goals (try refine Tell.mk ?_)
  all_goals first | with_reducible rfl | with_reducible assumption | (with_reducible refine gb_t ?_; with_reducible assumption) | (with_reducible refine gb_f ?_; with_reducible assumption) | ((with_reducible refine lk_t ?_); rfl) | ((with_reducible refine ks_t ?_); rfl) | (show (_ : AV) = _; kernel_rfl) | exact sh_5 hpre | (exfalso; simp only [shapeE] at hpre; simp_all; done) | (exfalso; clear hf; grind [shapeE]) | (exfalso; grind [shapeE]) | trace_state
def solid5_k : Con Tryz.prog := ⟨46, fun args => match args with | [.agg [.int .i64 5, .flt a, .flt b, .flt c, .flt d, .flt e, .flt f, .flt g, .flt h, .flt i, .flt r, .flt q, .int .i64 s]] => .ok (some (shapeE 5 a b c d e f g h i r q s = 0)) (.tup [.ifc 118 (.agg [.flt a, .flt b, .flt c, .flt d, .flt e, .flt f, .flt r]), .int .i64 0]) | _ => .no, by
  intro args p r h hp
  split at h
  · cases h; exact solid5_a _ _ _ _ _ _ _ _ _ _ _ _ hp
  · cases h⟩
def sE5 (a b c d e f g h i r q : Nat) (s : Int) (x y z u v w l : Nat) : Int := bif !(shapeE 5 a b c d e f g h i r q s == 0) then shapeE 5 a b c d e f g h i r q s else rayV x y z u v w l
theorem Strike5_f : FnOk Tryz.prog 15 Tryz.f15 := ⟨Tryz.func15, by kernel_rfl⟩
theorem Strike5_a (a b c d e f g h i r q : Nat) (s : Int) (x y z u v w l : Nat) : ACalls Tryz.prog 15 [.agg [.int .i64 5, .flt a, .flt b, .flt c, .flt d, .flt e, .flt f, .flt g, .flt h, .flt i, .flt r, .flt q, .int .i64 s], .agg [.flt x, .flt y, .flt z, .flt u, .flt v, .flt w, .flt l]] (.tup [.flt (bif sE5 a b c d e f g h i r q s x y z u v w l == 0 then sT5 a b c d e f r x y z u v w l else 0), .bool (bif sE5 a b c d e f g h i r q s x y z u v w l == 0 then sO5 a b c d e f r x y z u v w l else false), .int .i64 (sE5 a b c d e f g h i r q s x y z u v w l)]) := by
  refine acalls_of (inl := hasI (P := Tryz.prog) [] []) (base [shapeMay_k, rayfine_k, solid5_k, struck5_k] [] []) 0 Strike5_f (And.intro (by kernel_rfl) ?_)
  repeat' (first | refine And.intro ?_ ?_ | (with_reducible exact ff_elim) | (with_reducible exact tf_elim) | intro _ | (with_reducible rfl) | ((with_reducible refine lk_t ?_); exact rfl) | ((with_reducible refine pf_t ?_); exact rfl) | refine tell ?_ | exact True.intro | (refine IsT.of ?_; kernel_rfl))
  all_goals ((try refine Tell.mk ?_); first | with_reducible rfl | ((show (_ : Int) ≤ _); decide) | ((show (_ : Int) < _); decide) | (with_reducible refine gb_t ?_; with_reducible assumption) | with_reducible assumption | (with_reducible refine gb_f ?_; with_reducible assumption) | (simp only [sE5, bne, *, cond_true, cond_false]; done) | ((with_reducible refine ks_t ?_); rfl) | ((with_reducible refine pk_t ?_); rfl) | ((with_reducible refine pf_t ?_); rfl) | ((with_reducible refine lk_t ?_); rfl) | ((with_reducible refine okF_t ?_); kernel_rfl) | grind [gb, sE5, bne])
def Strike5_k : Con Tryz.prog := ⟨15, fun args => match args with | [.agg [.int .i64 5, .flt a, .flt b, .flt c, .flt d, .flt e, .flt f, .flt g, .flt h, .flt i, .flt r, .flt q, .int .i64 s], .agg [.flt x, .flt y, .flt z, .flt u, .flt v, .flt w, .flt l]] => .ok (none) (.tup [.flt (bif sE5 a b c d e f g h i r q s x y z u v w l == 0 then sT5 a b c d e f r x y z u v w l else 0), .bool (bif sE5 a b c d e f g h i r q s x y z u v w l == 0 then sO5 a b c d e f r x y z u v w l else false), .int .i64 (sE5 a b c d e f g h i r q s x y z u v w l)]) | _ => .no, by
  intro args p r h hp
  split at h
  · cases h; exact Strike5_a _ _ _ _ _ _ _ _ _ _ _ _ _ _ _ _ _ _ _
  · cases h⟩
end Go.Proofs.YtdjckabogdohcaaGreat
/- Rows of cells, one behind the other, and what is taken of them. -/
namespace Go.Proofs.YtdjckabogdohcaaGreat
open Go.RowKit Ev
set_option linter.unusedVariables false
set_option linter.unusedSimpArgs false
set_option maxRecDepth 20000
set_option maxHeartbeats 4000000

theorem view_agg {nm : Bool} {l l' : List AV} {K : AV → Prop} (e : l = l') (h : nameE nm (.agg l') K) : nameE nm (.agg l) K := e ▸ h
theorem view_one {nm : Bool} {v v' : AV} {K : AV → Prop} (e : v = v') (h : nameE nm v' K) : nameE nm v K := e ▸ h
/-- Rows of so many cells each, one behind the other. -/
@[irreducible] def flatF (sz : Nat) (row : Nat → List AV) (j : Nat) : AV := (row (j / sz)).getD (j % sz) .any
theorem flat_at {sz : Nat} {row : Nat → List AV} {i c : Nat} (hc : c < sz) : flatF sz row (i * sz + c) = (row i).getD c .any := by
  unfold flatF
  rw [show (i * sz + c) / sz = i by rw [Nat.mul_comm, Nat.mul_add_div (by omega), Nat.div_eq_of_lt hc, Nat.add_zero], show (i * sz + c) % sz = c by rw [Nat.mul_comm, Nat.mul_add_mod, Nat.mod_eq_of_lt hc]]
theorem view_flat {nm : Bool} {sz sz' : Nat} {row : Nat → List AV} {i : Nat} {K : AV → Prop} (hs : sz' = sz) (hl : (row i).length = sz) (h : nameE nm (.agg (row i)) K) :
    nameE nm (.agg (List.map (fun j => flatF sz row (mulN (i : Int).toNat sz + j)) (List.range sz'))) K := by
  refine view_agg ?_ h
  subst hs
  rw [mulN_eq, Int.toNat_natCast]
  apply List.ext_getElem
  · simp [hl]
  · intro c h1 h2
    simp only [List.getElem_map, List.getElem_range]
    rw [flat_at (by simpa using h1), List.getD_eq_getElem?_getD, List.getElem?_eq_getElem h2]; rfl
theorem view_cell {nm : Bool} {sz : Nat} {row : Nat → List AV} {i c : Nat} {K : AV → Prop} (hc : Nat.blt c sz = true) (h : nameE nm ((row i).getD c .any) K) :
    nameE nm (flatF sz row (mulN (i : Int).toNat sz + c)) K := by
  refine view_one ?_ h
  rw [mulN_eq, Int.toNat_natCast, flat_at (Nat.le_of_ble_eq_true hc)]
theorem view_take {nm : Bool} {sz sz' : Nat} {row : Nat → List AV} {i : Nat} {K : AV → Prop} (hs : Nat.ble sz' sz = true) (hl : (row i).length = sz) (h : nameE nm (.agg ((row i).take sz')) K) :
    nameE nm (.agg (List.map (fun j => flatF sz row (mulN (i : Int).toNat sz + j)) (List.range sz'))) K := by
  refine view_agg ?_ h
  have hs := Nat.le_of_ble_eq_true hs
  rw [mulN_eq, Int.toNat_natCast]
  apply List.ext_getElem
  · simp [hl]; omega
  · intro c h1 h2
    simp only [List.getElem_map, List.getElem_range, List.getElem_take]
    have hc : c < sz' := by simpa using h1
    rw [flat_at (by omega), List.getD_eq_getElem?_getD, List.getElem?_eq_getElem (by omega)]; rfl
theorem view_drop {nm : Bool} {sz sz' o : Nat} {row : Nat → List AV} {i : Nat} {K : AV → Prop} (hs : Nat.ble (o + sz') sz = true) (hl : (row i).length = sz) (h : nameE nm (.agg (((row i).drop o).take sz')) K) :
    nameE nm (.agg (List.map (fun j => flatF sz row (mulN (i : Int).toNat sz + o + j)) (List.range sz'))) K := by
  refine view_agg ?_ h
  have hs := Nat.le_of_ble_eq_true hs
  rw [mulN_eq, Int.toNat_natCast]
  apply List.ext_getElem
  · simp [hl]; omega
  · intro c h1 h2
    simp only [List.getElem_map, List.getElem_range, List.getElem_take, List.getElem_drop]
    have hc : c < sz' := by simpa using h1
    rw [Nat.add_assoc, flat_at (by omega), List.getD_eq_getElem?_getD, List.getElem?_eq_getElem (by omega)]; rfl
theorem flat_row {sz : Nat} {row : Nat → List AV} {i c j : Nat} (hc : c < sz) (hj : j = i * sz + c) : flatF sz row j = (row i).getD c .any := by subst hj; exact flat_at hc
end Go.Proofs.YtdjckabogdohcaaGreat
/- Solids: which ones may be. -/
namespace Go.Proofs.YtdjckabogdohcaaGreat
open Go.RowKit Ev
set_option linter.unusedVariables false
set_option linter.unusedSimpArgs false
set_option maxRecDepth 20000
set_option maxHeartbeats 4000000

/-- A shape's numbers. -/
structure Shp where
  k : Int
  a : Nat
  b : Nat
  c : Nat
  d : Nat
  e : Nat
  f : Nat
  g : Nat
  h : Nat
  i : Nat
  r : Nat
  q : Nat
  s : Int
def Shp.cell (p : Shp) (c : Nat) : AV := [AV.int .i64 p.k, .flt p.a, .flt p.b, .flt p.c, .flt p.d, .flt p.e, .flt p.f, .flt p.g, .flt p.h, .flt p.i, .flt p.r, .flt p.q, .int .i64 p.s].getD c .any
def Shp.err (p : Shp) : Int := shapeE p.k p.a p.b p.c p.d p.e p.f p.g p.h p.i p.r p.q p.s
/-- A part's numbers. -/
structure Prt where
  op : Int
  l : Int
  m : Int
  p : Shp
def Prt.cell (p : Prt) (c : Nat) : AV := match c with
  | 0 => .int .i64 p.op
  | 1 => .int .i64 p.l
  | 2 => .int .i64 p.m
  | c + 3 => p.p.cell c
@[irreducible] def partF (P : Nat → Prt) (j : Nat) : AV := (P (j / 16)).cell (j % 16)
theorem part_at (P : Nat → Prt) (i c : Nat) (h : c < 16) : partF P (i * 16 + c) = (P i).cell c := by
  unfold partF; rw [show (i * 16 + c) / 16 = i by omega, show (i * 16 + c) % 16 = c by omega]
def Prt.row (p : Prt) : List AV := [.int .i64 p.op, .int .i64 p.l, .int .i64 p.m, .int .i64 p.p.k, .flt p.p.a, .flt p.p.b, .flt p.p.c, .flt p.p.d, .flt p.p.e, .flt p.p.f, .flt p.p.g, .flt p.p.h, .flt p.p.i, .flt p.p.r, .flt p.p.q, .int .i64 p.p.s]
/-- The first error. -/
def firstE (f : Nat → Int) : Nat → Int
  | 0 => 0
  | n + 1 => if firstE f n = 0 then f n else firstE f n
theorem firstE_0 (f : Nat → Int) : firstE f 0 = 0 := rfl
theorem firstE_n (f : Nat → Int) (n : Nat) : firstE f (n + 1) = if firstE f n = 0 then f n else firstE f n := rfl
attribute [irreducible] firstE
theorem firstE_s {f : Nat → Int} {i : Nat} (h : firstE f i = 0) (hf : f i = 0) : firstE f (i + 1) = 0 := by rw [firstE_n, if_pos h, hf]
theorem firstE_hit {f : Nat → Int} {i : Nat} (h : firstE f i = 0) (hf : f i ≠ 0) : ∀ {n : Nat}, i < n → firstE f n = f i
  | 0, hn => by omega
  | n + 1, hn => by
    rw [firstE_n]
    by_cases e : i = n
    · subst e; rw [if_pos h]
    · rw [firstE_hit h hf (n := n) (by omega), if_neg hf]
theorem firstE_all {f : Nat → Int} {n : Nat} (h : firstE f n = 0) : ∀ {i : Nat}, i < n → f i = 0 := fun {i} hi => by
  induction n with
  | zero => omega
  | succ n ih =>
    rw [firstE_n] at h
    split at h
    · rename_i h1
      rcases Nat.lt_or_eq_of_le (Nat.le_of_lt_succ hi) with g | g
      · exact ih h1 g
      · rw [g]; exact h
    · rename_i h1; exact absurd h h1
def partE (P : Nat → Prt) (i : Nat) : Int :=
  if (P i).op = 0 then (if (P i).p.err = 0 then (if (P i).p.k = 1 ∨ (P i).p.k = 2 ∨ (P i).p.k = 5 then 0 else 3) else (P i).p.err) else
  if (P i).op = 1 ∨ (P i).op = 2 ∨ (P i).op = 3 then (if (P i).l < 0 ∨ (i : Int) ≤ (P i).l ∨ (P i).m < 0 ∨ (i : Int) ≤ (P i).m then 9 else 0) else 11
@[irreducible] def solidE (n : Nat) (P : Nat → Prt) (s : Int) : Int := if (n : Int) < 1 ∨ 16 < (n : Int) then 5 else if s < 0 ∨ 16 ≤ s then 4 else firstE (partE P) n
theorem solidE_5 {n : Nat} {P : Nat → Prt} {s : Int} (h : (n : Int) < 1 ∨ 16 < (n : Int)) : solidE n P s = 5 := by unfold solidE; rw [if_pos h]
theorem solidE_4 {n : Nat} {P : Nat → Prt} {s : Int} (h : 1 ≤ (n : Int) ∧ (n : Int) ≤ 16) (h2 : s < 0 ∨ 16 ≤ s) : solidE n P s = 4 := by unfold solidE; rw [if_neg (by omega), if_pos h2]
theorem solidE_n {n : Nat} {P : Nat → Prt} {s : Int} (h : 1 ≤ (n : Int) ∧ (n : Int) ≤ 16) (h2 : 0 ≤ s ∧ s < 16) : solidE n P s = firstE (partE P) n := by unfold solidE; rw [if_neg (by omega), if_neg (by omega)]
theorem solidE_e {n i : Nat} {P : Nat → Prt} {s e : Int} (h : 1 ≤ (n : Int) ∧ (n : Int) ≤ 16) (h2 : 0 ≤ s ∧ s < 16) (he : firstE (partE P) i = 0) (hi : (i : Int) < n) (hf : partE P i = e) (h0 : e ≠ 0) : solidE n P s = e := by
  rw [solidE_n h h2, firstE_hit he (by rw [hf]; exact h0) (by omega), hf]
end Go.Proofs.YtdjckabogdohcaaGreat
/- Fields: which ones may be. -/
namespace Go.Proofs.YtdjckabogdohcaaGreat
open Go.RowKit Ev
set_option linter.unusedVariables false
set_option linter.unusedSimpArgs false
set_option maxRecDepth 20000
set_option maxHeartbeats 4000000

def fX (x d : Nat) (i : Int) : Nat := F .add x (F .mul (cn (FloatKind.f64.nearest i)) d)
def fY (y : Nat) (h : Int) : Nat := F .add y (F .quo (cn (FloatKind.f64.nearest h)) 4652007308841189376)
/-- A grid that may be. -/
structure Grid (w h : Int) (n : Nat) : Prop where
  w2 : 2 ≤ w
  w8 : w ≤ 8
  h2 : 2 ≤ h
  h8 : h ≤ 8
  n : (n : Int) = w * h
theorem grid_at {w h : Int} {n : Nat} (g : Grid w h n) {i k : Int} (hi : 0 ≤ i ∧ i < w) (hk : 0 ≤ k ∧ k < h) : IntKind.i64.wrap (k * w) = k * w ∧ IntKind.i64.wrap (k * w + i) = k * w + i ∧ 0 ≤ k * w + i ∧ k * w + i < n := by
  obtain ⟨a, b, c, d, e⟩ := g
  have h1 : 0 ≤ k * w := Int.mul_nonneg hk.1 (by omega)
  have h2 : k * w ≤ (h - 1) * w := Int.mul_le_mul_of_nonneg_right (by omega) (by omega)
  have h3 : (h - 1) * w = w * h - w := by rw [Int.sub_mul, Int.one_mul, Int.mul_comm h w]
  have h4 : w * h ≤ 8 * 8 := Int.mul_le_mul b d (by omega) (by omega)
  exact ⟨wrapI (by omega) (by omega), wrapI (by omega) (by omega), by omega, by omega⟩
theorem point_f : FnOk Tryz.prog 64 Tryz.f64 := ⟨Tryz.func64, by kernel_rfl⟩
theorem point_a (w h : Int) (x y z d n : Nat) (H : Nat → Int) (s i k : Int) (hpre : Grid w h n ∧ (0 ≤ i ∧ i < w) ∧ (0 ≤ k ∧ k < h)) : ACalls Tryz.prog 64 [.agg [.int .i64 w, .int .i64 h, .flt x, .flt y, .flt z, .flt d, ints .i64 n H, .int .i64 s], .int .i64 i, .int .i64 k] (.agg [.flt (fX x d i), .flt (fY y (H (k * w + i).toNat)), .flt (fX z d k)]) := by
  refine acalls_of (inl := hasI (P := Tryz.prog) [] []) (base [] [] []) 0 point_f (And.intro (by kernel_rfl) ?_)
  repeat' (first | refine And.intro ?_ ?_ | (with_reducible exact ff_elim) | (with_reducible exact tf_elim) | refine num_elim ?_ | intro _ | (with_reducible rfl) | ((with_reducible refine lk_t ?_); exact rfl) | ((with_reducible refine pf_t ?_); exact rfl) | refine tell ?_ | exact True.intro | (refine IsT.of ?_; kernel_rfl))
  all_goals (have hq := grid_at hpre.1 hpre.2.1 hpre.2.2; have q1 := hq.1; have q2 := hq.2.1; have q3 := hq.2.2.1; have q4 := hq.2.2.2)
  all_goals (try refine Tell.mk ?_)
  all_goals first | with_reducible rfl | with_reducible exact isI_mk | with_reducible assumption | (with_reducible refine gb_t ?_; with_reducible assumption) | (with_reducible refine gb_f ?_; with_reducible assumption) | ((with_reducible refine lk_t ?_); rfl) | ((with_reducible refine okF_t ?_); kernel_rfl) | ((with_reducible refine ks_t ?_); rfl) | ((with_reducible refine pk_t ?_); rfl) | ((with_reducible refine pf_t ?_); rfl) | skip
  all_goals (try dsimp only at *)
  all_goals (try simp only [decide_eq_true_eq, decide_eq_false_iff_not, Bool.or_eq_true, Bool.or_eq_false_iff, Bool.and_eq_true, Bool.and_eq_false_iff, Bool.not_eq_true', Bool.not_eq_false', bne_iff_ne, ne_eq, beq_iff_eq, bne_eq_false_iff_eq, beq_eq_false_iff_ne, Int.not_lt, Int.not_le, gt_iff_lt, ge_iff_le] at *)
  all_goals (try simp only [mulN1, Nat.add_zero, Nat.zero_add, Nat.mul_one, Int.toNat_natCast, avInt_int, intF_mk] at *)
  all_goals (try simp only [q1, q2] at *)
  all_goals first | with_reducible rfl | with_reducible exact nums_N | omega | ((with_reducible refine by_le 1 rfl ?_); omega) | ((with_reducible refine by_le 8 rfl ?_); omega) | (rw [wrapI (by omega) (by omega)] <;> omega) | skip
  all_goals first | omega | rfl
def point_r (w h : Int) (x y z d n : Nat) (H : Nat → Int) (s i k : Int) : AV := .agg [.flt (fX x d i), .flt (fY y (H (k * w + i).toNat)), .flt (fX z d k)]
def point_p (w h : Int) (x y z d n : Nat) (H : Nat → Int) (s i k : Int) : Prop := Grid w h n ∧ (0 ≤ i ∧ i < w) ∧ (0 ≤ k ∧ k < h)
def point_k : Con Tryz.prog := ⟨64, fun args => match args with | [.agg [.int .i64 w, .int .i64 h, .flt x, .flt y, .flt z, .flt d, .sl n 1 g_H, .int .i64 s], .int .i64 i, .int .i64 k] => .ok (some (IsI .i64 g_H ∧ point_p w h x y z d n (intF g_H) s i k)) (point_r w h x y z d n (intF g_H) s i k) | _ => .no, by
  intro args p r h hp
  split at h
  · cases h; obtain ⟨h_H, hp⟩ := hp; have e_H := h_H.eq; rw [e_H]; exact point_a _ _ _ _ _ _ _ _ _ _ _ hp
  · cases h⟩
theorem gridP_f : FnOk Tryz.prog 65 Tryz.f65 := ⟨Tryz.func65, by kernel_rfl⟩
theorem gridP_a (w h : Int) (x y z d n : Nat) (H : Nat → Int) (s i k : Int) (hpre : Grid w h n ∧ (0 ≤ i ∧ i < w) ∧ (0 ≤ k ∧ k < h)) : ACalls Tryz.prog 65 [.agg [.int .i64 w, .int .i64 h, .flt x, .flt y, .flt z, .flt d, ints .i64 n H, .int .i64 s], .int .i64 i, .int .i64 k] (.agg [.flt (fX x d i), .flt (fY y (H (k * w + i).toNat)), .flt (fX z d k)]) := by
  refine acalls_of (inl := hasI (P := Tryz.prog) [] []) (base [times_k] [] []) 0 gridP_f (And.intro (by kernel_rfl) ?_)
  repeat' (first | refine And.intro ?_ ?_ | (with_reducible exact ff_elim) | (with_reducible exact tf_elim) | refine num_elim ?_ | intro _ | (with_reducible rfl) | ((with_reducible refine lk_t ?_); exact rfl) | ((with_reducible refine pf_t ?_); exact rfl) | refine tell ?_ | exact True.intro | (refine IsT.of ?_; kernel_rfl))
  all_goals (have hq := grid_at hpre.1 hpre.2.1 hpre.2.2; have q1 := hq.1; have q2 := hq.2.1; have q3 := hq.2.2.1; have q4 := hq.2.2.2)
  all_goals (try refine Tell.mk ?_)
  all_goals first | with_reducible rfl | with_reducible exact isI_mk | with_reducible assumption | (with_reducible refine gb_t ?_; with_reducible assumption) | (with_reducible refine gb_f ?_; with_reducible assumption) | ((with_reducible refine lk_t ?_); rfl) | ((with_reducible refine okF_t ?_); kernel_rfl) | ((with_reducible refine ks_t ?_); rfl) | ((with_reducible refine pk_t ?_); rfl) | ((with_reducible refine pf_t ?_); rfl) | skip
  all_goals (try dsimp only at *)
  all_goals (try simp only [decide_eq_true_eq, decide_eq_false_iff_not, Bool.or_eq_true, Bool.or_eq_false_iff, Bool.and_eq_true, Bool.and_eq_false_iff, Bool.not_eq_true', Bool.not_eq_false', bne_iff_ne, ne_eq, beq_iff_eq, bne_eq_false_iff_eq, beq_eq_false_iff_ne, Int.not_lt, Int.not_le, gt_iff_lt, ge_iff_le] at *)
  all_goals (try simp only [mulN1, Nat.add_zero, Nat.zero_add, Nat.mul_one, Int.toNat_natCast, avInt_int, intF_mk] at *)
  all_goals (try simp only [q1, q2] at *)
  all_goals first | with_reducible rfl | with_reducible exact nums_N | omega | ((with_reducible refine by_le 1 rfl ?_); omega) | ((with_reducible refine by_le 8 rfl ?_); omega) | (rw [wrapI (by omega) (by omega)] <;> omega) | skip
  all_goals first | omega | rfl
def gridP_r (w h : Int) (x y z d n : Nat) (H : Nat → Int) (s i k : Int) : AV := .agg [.flt (fX x d i), .flt (fY y (H (k * w + i).toNat)), .flt (fX z d k)]
def gridP_p (w h : Int) (x y z d n : Nat) (H : Nat → Int) (s i k : Int) : Prop := Grid w h n ∧ (0 ≤ i ∧ i < w) ∧ (0 ≤ k ∧ k < h)
def gridP_k : Con Tryz.prog := ⟨65, fun args => match args with | [.agg [.int .i64 w, .int .i64 h, .flt x, .flt y, .flt z, .flt d, .sl n 1 g_H, .int .i64 s], .int .i64 i, .int .i64 k] => .ok (some (IsI .i64 g_H ∧ gridP_p w h x y z d n (intF g_H) s i k)) (gridP_r w h x y z d n (intF g_H) s i k) | _ => .no, by
  intro args p r h hp
  split at h
  · cases h; obtain ⟨h_H, hp⟩ := hp; have e_H := h_H.eq; rw [e_H]; exact gridP_a _ _ _ _ _ _ _ _ _ _ _ hp
  · cases h⟩
/-- What is gathered point by point. -/
def accF (op : Nat → Nat → Nat) (f0 : Nat) (f : Nat → Nat) : Nat → Nat
  | 0 => f0
  | t + 1 => op (accF op f0 f t) (f t)
theorem accF_0 {op : Nat → Nat → Nat} {f0 : Nat} {f : Nat → Nat} : accF op f0 f 0 = f0 := rfl
theorem accF_s {op : Nat → Nat → Nat} {f0 : Nat} {f : Nat → Nat} {t t' v : Nat} (ht : t' = t + 1) (hv : v = f t) : accF op f0 f t' = op (accF op f0 f t) v := by subst ht hv; rfl
attribute [irreducible] accF
def bX (op : Nat → Nat → Nat) (w x d t : Nat) : Nat := accF op (fX x d 0) (fun t => fX x d (t % w : Nat)) t
def bY (op : Nat → Nat → Nat) (y : Nat) (H : Nat → Int) (t : Nat) : Nat := accF op (fY y (H 0)) (fun t => fY y (H t)) t
def bZ (op : Nat → Nat → Nat) (w z d t : Nat) : Nat := accF op (fX z d 0) (fun t => fX z d (t / w : Nat)) t
def bRow (w x y z d : Nat) (H : Nat → Int) (t : Nat) : List AV := [.flt (bX lessV w x d t), .flt (bY lessV y H t), .flt (bZ lessV w z d t), .flt (bX moreV w x d t), .flt (bY moreV y H t), .flt (bZ moreV w z d t)]
structure UpH (h : Int) where
  v : Nat
  le : (v : Int) ≤ h
structure UpW (w : Int) where
  v : Nat
  le : (v : Int) ≤ w
theorem bX_0 {op : Nat → Nat → Nat} {w x d t : Nat} (h : t = 0) : bX op w x d t = fX x d 0 := by subst h; exact accF_0
theorem bY_0 {op : Nat → Nat → Nat} {y t : Nat} {H : Nat → Int} {j : Nat} (h : t = 0) (hj : j = 0) : bY op y H t = fY y (H j) := by subst h hj; exact accF_0
theorem bZ_0 {op : Nat → Nat → Nat} {w z d t : Nat} (h : t = 0) : bZ op w z d t = fX z d 0 := by subst h; exact accF_0
theorem bX_s {op : Nat → Nat → Nat} {w x d k i : Nat} (hi : i < w) : bX op w x d (k * w + (i + 1)) = op (bX op w x d (k * w + i)) (fX x d (i : Int)) :=
  accF_s rfl (by rw [show (k * w + i) % w = i by rw [Nat.mul_comm, Nat.mul_add_mod]; exact Nat.mod_eq_of_lt hi])
theorem bY_s {op : Nat → Nat → Nat} {w y k i j : Nat} {H : Nat → Int} (hj : j = k * w + i) : bY op y H (k * w + (i + 1)) = op (bY op y H (k * w + i)) (fY y (H j)) :=
  accF_s rfl (by rw [hj])
theorem bZ_s {op : Nat → Nat → Nat} {w z d k i : Nat} (hi : i < w) : bZ op w z d (k * w + (i + 1)) = op (bZ op w z d (k * w + i)) (fX z d (k : Int)) :=
  accF_s rfl (by rw [show (k * w + i) / w = k by rw [Nat.mul_comm, Nat.mul_add_div (by omega), Nat.div_eq_of_lt hi, Nat.add_zero]])
theorem b_end {w k i : Nat} (hi : i = w) : (k + 1) * w = k * w + i := by rw [Nat.add_mul, Nat.one_mul, hi]
theorem b_all {n k W V : Nat} (h : (n : Int) = W * V) (e : k = V) : n = k * W := by
  subst e
  rw [← Int.natCast_mul] at h
  rw [Nat.mul_comm]; omega
theorem fieldBx_f : FnOk Tryz.prog 57 Tryz.f57 := ⟨Tryz.func57, by kernel_rfl⟩
theorem fieldBx_a (w h : Int) (x y z d n : Nat) (H : Nat → Int) (s : Int) (hpre : Grid w h n) : ACalls Tryz.prog 57 [.agg [.int .i64 w, .int .i64 h, .flt x, .flt y, .flt z, .flt d, ints .i64 n H, .int .i64 s]] (.agg (bRow w.toNat x y z d H n)) := by
  refine acalls_of (inl := hasI (P := Tryz.prog) [] []) (base [point_k, join_k] [] []) 0 fieldBx_f (And.intro (by kernel_rfl) ?_)
  repeat' (first | refine And.intro ?_ ?_ | (with_reducible exact ff_elim) | (with_reducible exact tf_elim) | refine num_elim ?_ | intro _ | (with_reducible rfl) | ((with_reducible refine lk_t ?_); exact rfl) | ((with_reducible refine pf_t ?_); exact rfl) | refine tell ?_ | exact True.intro | (refine IsT.of ?_; kernel_rfl))
  all_goals (try (refine loop_keep [1, 2, 3, 13] [0, 1] ?_; refine LoopI.mk (UpH h) (fun k => [(14, .int .i64 k.1)]) (fun k => [(7, .row (bRow w.toNat x y z d H (k.1 * w.toNat)))]) (fun k => h.toNat - k.1) (⟨0, (by have := hpre.h2; omega)⟩) (wk_mk [some 7, some 0, some 1] ?_) (fun ⟨k, hk⟩ => ?_)))
  repeat' (first | refine And.intro ?_ ?_ | (with_reducible exact ff_elim) | (with_reducible exact tf_elim) | refine stp_mk [some 7, some 0, some 1] ((⟨k + 1, ?_⟩ : UpH h)) ?_ ?_ | refine num_elim ?_ | intro _ | (with_reducible rfl) | ((with_reducible refine lk_t ?_); exact rfl) | ((with_reducible refine pf_t ?_); exact rfl) | refine tell ?_ | exact True.intro | (refine IsT.of ?_; kernel_rfl))
  all_goals (try (refine loop_keep [1, 2, 3, 4, 13, 14, 18] [0, 1] ?_; refine LoopI.mk (UpW w) (fun i => [(19, .int .i64 i.1)]) (fun i => [(7, .row (bRow w.toNat x y z d H (k * w.toNat + i.1)))]) (fun i => w.toNat - i.1) (⟨0, (by have := hpre.w2; omega)⟩) (wk_mk [some 7, some 0, some 1] ?_) (fun ⟨i, hi⟩ => ?_)))
  repeat' (first | refine And.intro ?_ ?_ | (with_reducible exact ff_elim) | (with_reducible exact tf_elim) | refine stp_mk [some 7, some 0, some 1] ((⟨i + 1, ?_⟩ : UpW w)) ?_ ?_ | refine stp_mk [some 7, some 0, some 1] (⟨k + 1, ?_⟩ : UpH h) ?_ ?_ | refine num_elim ?_ | intro _ | (with_reducible rfl) | ((with_reducible refine lk_t ?_); exact rfl) | ((with_reducible refine pf_t ?_); exact rfl) | refine tell ?_ | exact True.intro | (refine IsT.of ?_; kernel_rfl))
  all_goals (try refine Tell.mk ?_)
  all_goals first | with_reducible rfl | with_reducible exact isI_mk | with_reducible assumption | (with_reducible refine gb_t ?_; with_reducible assumption) | (with_reducible refine gb_f ?_; with_reducible assumption) | ((with_reducible refine lk_t ?_); rfl) | ((with_reducible refine okF_t ?_); kernel_rfl) | ((with_reducible refine ks_t ?_); rfl) | ((with_reducible refine pk_t ?_); rfl) | ((with_reducible refine pf_t ?_); rfl) | skip
  all_goals (try dsimp only at *)
  all_goals (try simp only [decide_eq_true_eq, decide_eq_false_iff_not, Bool.or_eq_true, Bool.or_eq_false_iff, Bool.and_eq_true, Bool.and_eq_false_iff, Bool.not_eq_true', Bool.not_eq_false', bne_iff_ne, ne_eq, beq_iff_eq, bne_eq_false_iff_eq, beq_eq_false_iff_ne, Int.not_lt, Int.not_le, gt_iff_lt, ge_iff_le] at *)
  all_goals (try simp only [mulN1, Nat.add_zero, Nat.zero_add, Nat.mul_one, Int.toNat_natCast, avInt_int, intF_mk] at *)
  all_goals first | with_reducible rfl | with_reducible exact nums_N | omega | ((with_reducible refine by_le 1 rfl ?_); omega) | ((with_reducible refine by_le 8 rfl ?_); omega) | (rw [wrapI (by omega) (by omega)] <;> omega) | skip
  all_goals (have g := hpre; obtain ⟨W, rfl⟩ : ∃ W : Nat, w = W := ⟨w.toNat, (by have := g.w2; omega)⟩; obtain ⟨V, rfl⟩ : ∃ V : Nat, h = V := ⟨h.toNat, (by have := g.h2; omega)⟩)
  all_goals obtain ⟨g1, g2, g3, g4, g5⟩ := hpre
  all_goals (try simp only [Int.toNat_natCast] at *)
  all_goals first | omega | with_reducible exact bX_0 (Nat.zero_mul _) | with_reducible exact bY_0 (Nat.zero_mul _) (by omega) | with_reducible exact bZ_0 (Nat.zero_mul _) | (rw [wrapI (by omega) (by omega)]; omega) | skip
  all_goals first | with_reducible exact bX_s (by omega) | with_reducible exact bY_s (w := W) (by rw [← Int.natCast_mul, ← Int.natCast_add, Int.toNat_natCast]) | with_reducible exact bZ_s (by omega) | (rw [b_end (show i = W by omega)]; done) | skip
  all_goals (rw [b_all g5 (show k = V by omega)])
def fieldBx_r (w h : Int) (x y z d n : Nat) (H : Nat → Int) (s : Int) : AV := .agg (bRow w.toNat x y z d H n)
def fieldBx_p (w h : Int) (x y z d n : Nat) (H : Nat → Int) (s : Int) : Prop := Grid w h n
def fieldBx_k : Con Tryz.prog := ⟨57, fun args => match args with | [.agg [.int .i64 w, .int .i64 h, .flt x, .flt y, .flt z, .flt d, .sl n 1 g_H, .int .i64 s]] => .ok (some (IsI .i64 g_H ∧ fieldBx_p w h x y z d n (intF g_H) s)) (fieldBx_r w h x y z d n (intF g_H) s) | _ => .no, by
  intro args p r h hp
  split at h
  · cases h; obtain ⟨h_H, hp⟩ := hp; have e_H := h_H.eq; rw [e_H]; exact fieldBx_a _ _ _ _ _ _ _ _ _ hp
  · cases h⟩
structure UpHp (h : Int) where
  v : Nat
  le : (v : Int) ≤ h
  a : Nat
  b : Nat
  c : Nat
structure UpWp (w : Int) where
  v : Nat
  le : (v : Int) ≤ w
  a : Nat
  b : Nat
  c : Nat
theorem fieldBxR_f : FnOk Tryz.prog 58 Tryz.f58 := ⟨Tryz.func58, by kernel_rfl⟩
theorem fieldBxR_a (w h : Int) (x y z d n : Nat) (H : Nat → Int) (s : Int) (hpre : Grid w h n) : ACalls Tryz.prog 58 [.agg [.int .i64 w, .int .i64 h, .flt x, .flt y, .flt z, .flt d, ints .i64 n H, .int .i64 s]] (.agg (bRow w.toNat x y z d H n)) := by
  refine acalls_of (inl := hasI (P := Tryz.prog) [] []) (base [gridP_k, lowR_k, highR_k] [] []) 0 fieldBxR_f (And.intro (by kernel_rfl) ?_)
  repeat' (first | refine And.intro ?_ ?_ | (with_reducible exact ff_elim) | (with_reducible exact tf_elim) | refine num_elim ?_ | intro _ | (with_reducible rfl) | ((with_reducible refine lk_t ?_); exact rfl) | ((with_reducible refine pf_t ?_); exact rfl) | refine tell ?_ | exact True.intro | (refine IsT.of ?_; kernel_rfl))
  all_goals (try (refine loop_keep [1, 2, 3, 4] [0, 1] ?_; refine LoopI.mk (UpHp h) (fun k => [(5, .int .i64 k.1)]) (fun k => [(9, .row (bRow w.toNat x y z d H (k.1 * w.toNat))), (4, .row [.flt k.3, .flt k.4, .flt k.5])]) (fun k => h.toNat - k.1) (⟨0, (by have := hpre.h2; omega), fX x d 0, fY y (H (0 * w + 0).toNat), fX z d 0⟩) (wk_mk [some 9, some 4, some 0, some 1] ?_) (fun ⟨k, hk, p1, p2, p3⟩ => ?_)))
  repeat' (first | refine And.intro ?_ ?_ | (with_reducible exact ff_elim) | (with_reducible exact tf_elim) | refine stp_mk [some 9, some 4, some 0, some 1] ((⟨k + 1, ?_, p1, p2, p3⟩ : UpHp h)) ?_ ?_ | refine num_elim ?_ | intro _ | (with_reducible rfl) | ((with_reducible refine lk_t ?_); exact rfl) | ((with_reducible refine pf_t ?_); exact rfl) | refine tell ?_ | exact True.intro | (refine IsT.of ?_; kernel_rfl))
  all_goals (try (refine loop_keep [1, 2, 3, 4, 5] [0, 1] ?_; refine LoopI.mk (UpWp w) (fun i => [(6, .int .i64 i.1)]) (fun i => [(9, .row (bRow w.toNat x y z d H (k * w.toNat + i.1))), (4, .row [.flt i.3, .flt i.4, .flt i.5])]) (fun i => w.toNat - i.1) (⟨0, (by have := hpre.w2; omega), p1, p2, p3⟩) (wk_mk [some 9, some 4, some 0, some 1] ?_) (fun ⟨i, hi, q1, q2, q3⟩ => ?_)))
  repeat' (first | refine And.intro ?_ ?_ | (with_reducible exact ff_elim) | (with_reducible exact tf_elim) | refine stp_mk [some 9, some 4, some 0, some 1] ((⟨i + 1, ?_, fX x d i, fY y (H ((k : Int) * w + (i : Int)).toNat), fX z d k⟩ : UpWp w)) ?_ ?_ | refine stp_mk [some 9, some 4, some 0, some 1] (⟨k + 1, ?_, q1, q2, q3⟩ : UpHp h) ?_ ?_ | refine num_elim ?_ | intro _ | (with_reducible rfl) | ((with_reducible refine lk_t ?_); exact rfl) | ((with_reducible refine pf_t ?_); exact rfl) | refine tell ?_ | exact True.intro | (refine IsT.of ?_; kernel_rfl))
  all_goals (try refine Tell.mk ?_)
  all_goals first | with_reducible rfl | with_reducible exact isI_mk | with_reducible assumption | (with_reducible refine gb_t ?_; with_reducible assumption) | (with_reducible refine gb_f ?_; with_reducible assumption) | ((with_reducible refine lk_t ?_); rfl) | ((with_reducible refine okF_t ?_); kernel_rfl) | ((with_reducible refine ks_t ?_); rfl) | ((with_reducible refine pk_t ?_); rfl) | ((with_reducible refine pf_t ?_); rfl) | skip
  all_goals (try dsimp only at *)
  all_goals (try simp only [decide_eq_true_eq, decide_eq_false_iff_not, Bool.or_eq_true, Bool.or_eq_false_iff, Bool.and_eq_true, Bool.and_eq_false_iff, Bool.not_eq_true', Bool.not_eq_false', bne_iff_ne, ne_eq, beq_iff_eq, bne_eq_false_iff_eq, beq_eq_false_iff_ne, Int.not_lt, Int.not_le, gt_iff_lt, ge_iff_le] at *)
  all_goals (try simp only [mulN1, Nat.add_zero, Nat.zero_add, Nat.mul_one, Int.toNat_natCast, avInt_int, intF_mk] at *)
  all_goals first | with_reducible rfl | with_reducible exact nums_N | omega | ((with_reducible refine by_le 1 rfl ?_); omega) | ((with_reducible refine by_le 8 rfl ?_); omega) | (rw [wrapI (by omega) (by omega)] <;> omega) | skip
  all_goals (have g := hpre; obtain ⟨W, rfl⟩ : ∃ W : Nat, w = W := ⟨w.toNat, (by have := g.w2; omega)⟩; obtain ⟨V, rfl⟩ : ∃ V : Nat, h = V := ⟨h.toNat, (by have := g.h2; omega)⟩)
  all_goals obtain ⟨g1, g2, g3, g4, g5⟩ := hpre
  all_goals (try simp only [Int.toNat_natCast] at *)
  all_goals first | omega | with_reducible exact bX_0 (Nat.zero_mul _) | with_reducible exact bY_0 (Nat.zero_mul _) (by omega) | with_reducible exact bZ_0 (Nat.zero_mul _) | (rw [wrapI (by omega) (by omega)]; omega) | skip
  all_goals first | with_reducible exact bX_s (by omega) | with_reducible exact bY_s (w := W) (by rw [← Int.natCast_mul, ← Int.natCast_add, Int.toNat_natCast]) | with_reducible exact bZ_s (by omega) | (rw [b_end (show i = W by omega)]; done) | skip
  all_goals (rw [b_all g5 (show k = V by omega)])
def fieldBxR_r (w h : Int) (x y z d n : Nat) (H : Nat → Int) (s : Int) : AV := .agg (bRow w.toNat x y z d H n)
def fieldBxR_p (w h : Int) (x y z d n : Nat) (H : Nat → Int) (s : Int) : Prop := Grid w h n
def fieldBxR_k : Con Tryz.prog := ⟨58, fun args => match args with | [.agg [.int .i64 w, .int .i64 h, .flt x, .flt y, .flt z, .flt d, .sl n 1 g_H, .int .i64 s]] => .ok (some (IsI .i64 g_H ∧ fieldBxR_p w h x y z d n (intF g_H) s)) (fieldBxR_r w h x y z d n (intF g_H) s) | _ => .no, by
  intro args p r h hp
  split at h
  · cases h; obtain ⟨h_H, hp⟩ := hp; have e_H := h_H.eq; rw [e_H]; exact fieldBxR_a _ _ _ _ _ _ _ _ _ hp
  · cases h⟩
end Go.Proofs.YtdjckabogdohcaaGreat
/- Fields: what is said of them. -/
namespace Go.Proofs.YtdjckabogdohcaaGreat
open Go.RowKit Ev
set_option linter.unusedVariables false
set_option linter.unusedSimpArgs false
set_option maxRecDepth 20000
set_option maxHeartbeats 4000000

def hiE (H : Nat → Int) (i : Nat) : Int := if H i < -1000000 ∨ 1000000 < H i then 6 else 0
@[irreducible] def fbE (w x y z d : Nat) (H : Nat → Int) (n : Nat) : Int := mayV (bX lessV w x d n) (bY lessV y H n) (bZ lessV w z d n) (bX moreV w x d n) (bY moreV y H n) (bZ moreV w z d n)
@[irreducible] def fieldE (w h : Int) (x y z d n : Nat) (H : Nat → Int) (s : Int) : Int :=
  if w < 2 ∨ h < 2 ∨ 8 < w ∨ 8 < h then 4 else if ¬ (n : Int) = w * h then 5 else if s < 0 ∨ 16 ≤ s then 4 else if fineB x y z = false ∨ nearB d = false then 1 else if fgt d 0 = false then 6 else
  if ¬ firstE (hiE H) n = 0 then firstE (hiE H) n else if fbE w.toNat x y z d H n = 0 then 0 else 1
theorem fieldE_4 {w h : Int} {x y z d n : Nat} {H : Nat → Int} {s : Int} (h1 : w < 2 ∨ h < 2 ∨ 8 < w ∨ 8 < h) : fieldE w h x y z d n H s = 4 := by unfold fieldE; rw [if_pos h1]
theorem fieldE_5 {w h : Int} {x y z d n : Nat} {H : Nat → Int} {s : Int} (h1 : ¬ (w < 2 ∨ h < 2 ∨ 8 < w ∨ 8 < h)) (h2 : ¬ (n : Int) = w * h) : fieldE w h x y z d n H s = 5 := by unfold fieldE; rw [if_neg h1, if_pos h2]
theorem fieldE_s {w h : Int} {x y z d n : Nat} {H : Nat → Int} {s : Int} (h1 : ¬ (w < 2 ∨ h < 2 ∨ 8 < w ∨ 8 < h)) (h2 : (n : Int) = w * h) (h3 : s < 0 ∨ 16 ≤ s) : fieldE w h x y z d n H s = 4 := by
  unfold fieldE; rw [if_neg h1, if_neg (fun c => c h2), if_pos h3]
theorem fieldE_1 {w h : Int} {x y z d n : Nat} {H : Nat → Int} {s : Int} (h1 : ¬ (w < 2 ∨ h < 2 ∨ 8 < w ∨ 8 < h)) (h2 : (n : Int) = w * h) (h3 : ¬ (s < 0 ∨ 16 ≤ s)) (h4 : fineB x y z = false ∨ nearB d = false) : fieldE w h x y z d n H s = 1 := by
  unfold fieldE; rw [if_neg h1, if_neg (fun c => c h2), if_neg h3, if_pos h4]
theorem fieldE_6 {w h : Int} {x y z d n : Nat} {H : Nat → Int} {s : Int} (h1 : ¬ (w < 2 ∨ h < 2 ∨ 8 < w ∨ 8 < h)) (h2 : (n : Int) = w * h) (h3 : ¬ (s < 0 ∨ 16 ≤ s)) (h4 : ¬ (fineB x y z = false ∨ nearB d = false)) (h5 : fgt d 0 = false) : fieldE w h x y z d n H s = 6 := by
  unfold fieldE; rw [if_neg h1, if_neg (fun c => c h2), if_neg h3, if_neg h4, if_pos h5]
theorem fieldE_h {w h : Int} {x y z d n i : Nat} {H : Nat → Int} {s : Int} (h1 : ¬ (w < 2 ∨ h < 2 ∨ 8 < w ∨ 8 < h)) (h2 : (n : Int) = w * h) (h3 : ¬ (s < 0 ∨ 16 ≤ s)) (h4 : ¬ (fineB x y z = false ∨ nearB d = false)) (h5 : fgt d 0 = true)
    (he : firstE (hiE H) i = 0) (hi : (i : Int) < n) (hh : H i < -1000000 ∨ 1000000 < H i) : fieldE w h x y z d n H s = 6 := by
  have e : hiE H i = 6 := by unfold hiE; rw [if_pos hh]
  have f := firstE_hit he (by rw [e]; decide) (n := n) (by omega)
  rw [e] at f
  unfold fieldE; rw [if_neg h1, if_neg (fun c => c h2), if_neg h3, if_neg h4, if_neg (by rw [h5]; decide), f, if_pos (by decide)]
theorem fieldE_b {w h : Int} {x y z d n : Nat} {H : Nat → Int} {s : Int} (h1 : ¬ (w < 2 ∨ h < 2 ∨ 8 < w ∨ 8 < h)) (h2 : (n : Int) = w * h) (h3 : ¬ (s < 0 ∨ 16 ≤ s)) (h4 : ¬ (fineB x y z = false ∨ nearB d = false)) (h5 : fgt d 0 = true)
    (he : firstE (hiE H) n = 0) : fieldE w h x y z d n H s = if fbE w.toNat x y z d H n = 0 then 0 else 1 := by
  unfold fieldE; rw [if_neg h1, if_neg (fun c => c h2), if_neg h3, if_neg h4, if_neg (by rw [h5]; decide), if_neg (fun c => c he)]
theorem grid_of {w h : Int} {n : Nat} (h1 : ¬ (w < 2 ∨ h < 2 ∨ 8 < w ∨ 8 < h)) (h2 : (n : Int) = w * h) : Grid w h n := ⟨by omega, by omega, by omega, by omega, h2⟩
theorem wh_le {w h : Int} (h1 : ¬ (w < 2 ∨ h < 2 ∨ 8 < w ∨ 8 < h)) : w * h ≤ 64 ∧ 0 ≤ w * h := by
  have h4 : w * h ≤ 8 * 8 := Int.mul_le_mul (by omega) (by omega) (by omega) (by omega)
  have h5 : 0 ≤ w * h := Int.mul_nonneg (by omega) (by omega)
  omega
theorem wh_wrap {w h : Int} (h1 : ¬ (w < 2 ∨ h < 2 ∨ 8 < w ∨ 8 < h)) : IntKind.i64.wrap (w * h) = w * h := by
  have h4 : w * h ≤ 8 * 8 := Int.mul_le_mul (by omega) (by omega) (by omega) (by omega)
  have h5 : 0 ≤ w * h := Int.mul_nonneg (by omega) (by omega)
  exact wrapI (by omega) (by omega)
theorem le_pos {d : Nat} (h : nearB d = true) (c : flt d 0 = true ∨ feq d 0 = true) : fgt d 0 = false := by
  have e := pos_le h
  cases g : fgt d 0
  · rfl
  · rw [g] at e; rcases c with c | c <;> rw [c] at e <;> simp at e
theorem gt_pos {d : Nat} (h : nearB d = true) (c : flt d 0 = false ∧ feq d 0 = false) : fgt d 0 = true := by
  have e := pos_le h
  rw [c.1, c.2] at e
  cases g : fgt d 0
  · rw [g] at e; cases e
  · rfl
theorem fieldMay_f : FnOk Tryz.prog 27 Tryz.f27 := ⟨Tryz.func27, by kernel_rfl⟩
theorem fieldMay_a (w h : Int) (x y z d n : Nat) (H : Nat → Int) (s : Int) : ACalls Tryz.prog 27 [.agg [.int .i64 w, .int .i64 h, .flt x, .flt y, .flt z, .flt d, ints .i64 n H, .int .i64 s]] (.int .i64 (fieldE w h x y z d n H s)) := by
  refine acalls_of (inl := hasI (P := Tryz.prog) [] []) (base [fine_k, near_k, fieldBx_k, may_k] [] []) 0 fieldMay_f (And.intro (by kernel_rfl) ?_)
  repeat' (first | refine And.intro ?_ ?_ | (with_reducible exact ff_elim) | (with_reducible exact tf_elim) | refine num_elim ?_ | intro _ | (with_reducible rfl) | ((with_reducible refine lk_t ?_); exact rfl) | ((with_reducible refine pf_t ?_); exact rfl) | refine tell ?_ | exact True.intro | (refine IsT.of ?_; kernel_rfl))
  all_goals (try (refine loop_keep [1, 60, 61] [0] ?_; refine LoopI.mk ({i : Nat // i ≤ n ∧ firstE (hiE H) i = 0}) (fun i => [(62, .int .i64 i.1)]) (fun i => []) (fun i => n - i.1) (⟨0, Nat.zero_le _, firstE_0 _⟩) (wk_mk [some 0] ?_) (fun ⟨i, hi, he⟩ => ?_)))
  repeat' (first | refine And.intro ?_ ?_ | (with_reducible exact ff_elim) | (with_reducible exact tf_elim) | refine stp_mk [some 0] (⟨i + 1, ?_, ?_⟩) ?_ ?_ | refine num_elim ?_ | intro _ | (with_reducible rfl) | ((with_reducible refine lk_t ?_); exact rfl) | ((with_reducible refine pf_t ?_); exact rfl) | refine tell ?_ | exact True.intro | (refine IsT.of ?_; kernel_rfl))
  all_goals (try refine Tell.mk ?_)
  all_goals first | with_reducible rfl | with_reducible exact isI_mk | with_reducible assumption | (with_reducible refine gb_t ?_; with_reducible assumption) | (with_reducible refine gb_f ?_; with_reducible assumption) | ((with_reducible refine lk_t ?_); rfl) | ((with_reducible refine okF_t ?_); kernel_rfl) | ((with_reducible refine ks_t ?_); rfl) | ((with_reducible refine pk_t ?_); rfl) | ((with_reducible refine pf_t ?_); rfl) | skip
  all_goals (try dsimp only at *)
  all_goals (try simp only [decide_eq_true_eq, decide_eq_false_iff_not, Bool.or_eq_true, Bool.or_eq_false_iff, Bool.and_eq_true, Bool.and_eq_false_iff, Bool.not_eq_true', Bool.not_eq_false', bne_iff_ne, ne_eq, beq_iff_eq, bne_eq_false_iff_eq, beq_eq_false_iff_ne, Int.not_lt, Int.not_le, gt_iff_lt, ge_iff_le] at *)
  all_goals (try simp only [mulN1, Nat.add_zero, Nat.zero_add, Nat.mul_one, Int.toNat_natCast, avInt_int, intF_mk] at *)
  all_goals first | with_reducible rfl | with_reducible exact nums_N | omega | ((with_reducible refine by_le 1 rfl ?_); omega) | ((with_reducible refine by_le 8 rfl ?_); omega) | (rw [wrapI (by omega) (by omega)] <;> omega) | skip
  all_goals first | (with_reducible exact fieldE_4 (by omega)) | exact Nat.le_refl 16 | skip
  all_goals (have h1 : ¬ (w < 2 ∨ h < 2 ∨ 8 < w ∨ 8 < h) := (by omega); have hw := wh_wrap h1; have hv := wh_le h1; simp only [hw] at *)
  all_goals first | (with_reducible exact fieldE_5 h1 (by assumption)) | skip
  all_goals (have h2 : (n : Int) = w * h := by assumption)
  all_goals first | (with_reducible exact fieldE_s h1 h2 (by omega)) | skip
  all_goals (have h3 : ¬ (s < 0 ∨ 16 ≤ s) := (by omega))
  all_goals first | (with_reducible exact fieldE_1 h1 h2 h3 (by assumption)) | skip
  all_goals (have h4 : fineB x y z = true ∧ nearB d = true := (by assumption); have h5 : ¬ (fineB x y z = false ∨ nearB d = false) := (by rw [h4.1, h4.2]; exact fun c => c.elim (fun e => by cases e) (fun e => by cases e)))
  all_goals first | (with_reducible exact fieldE_6 h1 h2 h3 h5 (by assumption)) | (with_reducible exact fieldE_6 h1 h2 h3 h5 (le_pos h4.2 (by assumption))) | skip
  all_goals (have h6 : fgt d 0 = true := by first | assumption | exact gt_pos h4.2 (by assumption))
  all_goals first | (with_reducible exact fieldE_h h1 h2 h3 h5 h6 he (by assumption) (by assumption)) | (refine firstE_s he ?_; unfold hiE; rw [if_neg (by omega)]; done) | (rw [wrapI (by omega) (by omega)]; omega) | exact grid_of h1 h2 | skip
  all_goals (obtain rfl : i = n := (by omega))
  all_goals (rw [fieldE_b h1 h2 h3 h5 h6 he]; unfold fbE; first | exact (if_neg (by assumption)).symm | exact if_neg (by assumption) | exact if_pos (by assumption))
def fieldMay_r (w h : Int) (x y z d n : Nat) (H : Nat → Int) (s : Int) : AV := .int .i64 (fieldE w h x y z d n H s)
def fieldMay_k : Con Tryz.prog := ⟨27, fun args => match args with | [.agg [.int .i64 w, .int .i64 h, .flt x, .flt y, .flt z, .flt d, .sl n 1 g_H, .int .i64 s]] => .ok (some (IsI .i64 g_H)) (fieldMay_r w h x y z d n (intF g_H) s) | _ => .no, by
  intro args p r h hp
  split at h
  · cases h; have h_H := hp; have e_H := h_H.eq; rw [e_H]; exact fieldMay_a _ _ _ _ _ _ _ _ _
  · cases h⟩
theorem fieldMayR_f : FnOk Tryz.prog 28 Tryz.f28 := ⟨Tryz.func28, by kernel_rfl⟩
theorem fieldMayR_a (w h : Int) (x y z d n : Nat) (H : Nat → Int) (s : Int) : ACalls Tryz.prog 28 [.agg [.int .i64 w, .int .i64 h, .flt x, .flt y, .flt z, .flt d, ints .i64 n H, .int .i64 s]] (.int .i64 (fieldE w h x y z d n H s)) := by
  refine acalls_of (inl := hasI (P := Tryz.prog) [] []) (base [fineR_k, nearR_k, fieldBxR_k, mayR_k] [] []) 0 fieldMayR_f (And.intro (by kernel_rfl) ?_)
  repeat' (first | refine And.intro ?_ ?_ | (with_reducible exact ff_elim) | (with_reducible exact tf_elim) | refine num_elim ?_ | intro _ | (with_reducible rfl) | ((with_reducible refine lk_t ?_); exact rfl) | ((with_reducible refine pf_t ?_); exact rfl) | refine tell ?_ | exact True.intro | (refine IsT.of ?_; kernel_rfl))
  all_goals (try (refine loop_keep [1] [0] ?_; refine LoopI.mk ({i : Nat // i ≤ n ∧ firstE (hiE H) i = 0}) (fun i => [(5, .int .i64 i.1)]) (fun i => []) (fun i => n - i.1) (⟨0, Nat.zero_le _, firstE_0 _⟩) (wk_mk [some 0] ?_) (fun ⟨i, hi, he⟩ => ?_)))
  repeat' (first | refine And.intro ?_ ?_ | (with_reducible exact ff_elim) | (with_reducible exact tf_elim) | refine stp_mk [some 0] (⟨i + 1, ?_, ?_⟩) ?_ ?_ | refine num_elim ?_ | intro _ | (with_reducible rfl) | ((with_reducible refine lk_t ?_); exact rfl) | ((with_reducible refine pf_t ?_); exact rfl) | refine tell ?_ | exact True.intro | (refine IsT.of ?_; kernel_rfl))
  all_goals (try refine Tell.mk ?_)
  all_goals first | with_reducible rfl | with_reducible exact isI_mk | with_reducible assumption | (with_reducible refine gb_t ?_; with_reducible assumption) | (with_reducible refine gb_f ?_; with_reducible assumption) | ((with_reducible refine lk_t ?_); rfl) | ((with_reducible refine okF_t ?_); kernel_rfl) | ((with_reducible refine ks_t ?_); rfl) | ((with_reducible refine pk_t ?_); rfl) | ((with_reducible refine pf_t ?_); rfl) | skip
  all_goals (try dsimp only at *)
  all_goals (try simp only [decide_eq_true_eq, decide_eq_false_iff_not, Bool.or_eq_true, Bool.or_eq_false_iff, Bool.and_eq_true, Bool.and_eq_false_iff, Bool.not_eq_true', Bool.not_eq_false', bne_iff_ne, ne_eq, beq_iff_eq, bne_eq_false_iff_eq, beq_eq_false_iff_ne, Int.not_lt, Int.not_le, gt_iff_lt, ge_iff_le] at *)
  all_goals (try simp only [mulN1, Nat.add_zero, Nat.zero_add, Nat.mul_one, Int.toNat_natCast, avInt_int, intF_mk] at *)
  all_goals first | with_reducible rfl | with_reducible exact nums_N | omega | ((with_reducible refine by_le 1 rfl ?_); omega) | ((with_reducible refine by_le 8 rfl ?_); omega) | (rw [wrapI (by omega) (by omega)] <;> omega) | skip
  all_goals first | (with_reducible exact fieldE_4 (by omega)) | exact Nat.le_refl 16 | skip
  all_goals (have h1 : ¬ (w < 2 ∨ h < 2 ∨ 8 < w ∨ 8 < h) := (by omega); have hw := wh_wrap h1; have hv := wh_le h1; simp only [hw] at *)
  all_goals first | (with_reducible exact fieldE_5 h1 (by assumption)) | skip
  all_goals (have h2 : (n : Int) = w * h := by assumption)
  all_goals first | (with_reducible exact fieldE_s h1 h2 (by omega)) | skip
  all_goals (have h3 : ¬ (s < 0 ∨ 16 ≤ s) := (by omega))
  all_goals first | (with_reducible exact fieldE_1 h1 h2 h3 (by assumption)) | skip
  all_goals (have h4 : fineB x y z = true ∧ nearB d = true := (by assumption); have h5 : ¬ (fineB x y z = false ∨ nearB d = false) := (by rw [h4.1, h4.2]; exact fun c => c.elim (fun e => by cases e) (fun e => by cases e)))
  all_goals first | (with_reducible exact fieldE_6 h1 h2 h3 h5 (by assumption)) | (with_reducible exact fieldE_6 h1 h2 h3 h5 (le_pos h4.2 (by assumption))) | skip
  all_goals (have h6 : fgt d 0 = true := by first | assumption | exact gt_pos h4.2 (by assumption))
  all_goals first | (with_reducible exact fieldE_h h1 h2 h3 h5 h6 he (by assumption) (by assumption)) | (refine firstE_s he ?_; unfold hiE; rw [if_neg (by omega)]; done) | (rw [wrapI (by omega) (by omega)]; omega) | exact grid_of h1 h2 | skip
  all_goals (obtain rfl : i = n := (by omega))
  all_goals (rw [fieldE_b h1 h2 h3 h5 h6 he]; unfold fbE; first | exact (if_neg (by assumption)).symm | exact if_neg (by assumption) | exact if_pos (by assumption))
def fieldMayR_r (w h : Int) (x y z d n : Nat) (H : Nat → Int) (s : Int) : AV := .int .i64 (fieldE w h x y z d n H s)
def fieldMayR_k : Con Tryz.prog := ⟨28, fun args => match args with | [.agg [.int .i64 w, .int .i64 h, .flt x, .flt y, .flt z, .flt d, .sl n 1 g_H, .int .i64 s]] => .ok (some (IsI .i64 g_H)) (fieldMayR_r w h x y z d n (intF g_H) s) | _ => .no, by
  intro args p r h hp
  split at h
  · cases h; have h_H := hp; have e_H := h_H.eq; rw [e_H]; exact fieldMayR_a _ _ _ _ _ _ _ _ _
  · cases h⟩
end Go.Proofs.YtdjckabogdohcaaGreat
/- The reference Meets, where Axis has its contracts already. -/
namespace Go.Proofs.YtdjckabogdohcaaGreat
open Go.RowKit Ev
set_option linter.unusedVariables false
set_option linter.unusedSimpArgs false
set_option maxRecDepth 20000
set_option maxHeartbeats 4000000

def badV (lo hi fr d : Nat) : Bool := bif feq d 0 then (flt fr lo || fgt fr hi) else false
def refC (a b c d e f p q r u v w l : Nat) : Bool := bif meetC a b c d e f p q r u v w l then true else bif badV a d p u then true else bif badV b e q v then true else bif badV c f r w then true else fgt (meetN a b c d e f p q r u v w l) (meetF a b c d e f p q r u v w)
def refB (a b c d e f p q r u v w l : Nat) : Bool := bif refC a b c d e f p q r u v w l then false else true
def refX (a b c d e f p q r u v w l : Nat) : Nat := bif refC a b c d e f p q r u v w l then 0 else meetN a b c d e f p q r u v w l
def refY (a b c d e f p q r u v w l : Nat) : Nat := bif refC a b c d e f p q r u v w l then 0 else meetF a b c d e f p q r u v w
theorem meetsR_f : FnOk Tryz.prog 67 Tryz.f67 := ⟨Tryz.func67, by kernel_rfl⟩
theorem meetsR_a (a b c d e f p q r u v w l : Nat) : ACalls Tryz.prog 67 [.agg [.flt a, .flt b, .flt c, .flt d, .flt e, .flt f], .agg [.flt p, .flt q, .flt r, .flt u, .flt v, .flt w, .flt l]] (.tup [.flt (refX a b c d e f p q r u v w l), .flt (refY a b c d e f p q r u v w l), .bool (refB a b c d e f p q r u v w l)]) := by
  refine acalls_of (inl := hasI (P := Tryz.prog) [] []) (base [mayR_k, rayfineR_k, axis0_k, axis1_k, axis2_k, less_k, more_k] [] []) 0 meetsR_f (And.intro (by kernel_rfl) ?_)
  repeat' (first | refine And.intro ?_ ?_ | refine num_lit 0 (by decide) ?_ | refine num_lit 1 (by decide) ?_ | refine num_lit 2 (by decide) ?_ | refine num_lit 3 (by decide) ?_ | refine num_lit 4 (by decide) ?_ | refine num_lit 5 (by decide) ?_ | refine num_lit 6 (by decide) ?_ | refine num_lit 7 (by decide) ?_ | refine num_lit 8 (by decide) ?_ | refine num_elim ?_ | (with_reducible exact ff_elim) | (with_reducible exact tf_elim) | (intro h; exact absurd h (by decide)) | intro _ | (with_reducible rfl) | refine Or.inl ⟨4, ?_⟩ | refine tell ?_ | exact True.intro | (refine IsT.of ?_; kernel_rfl))
  all_goals ((try refine Tell.mk ?_); first | with_reducible rfl | ((show (_ : Int) ≤ _); decide) | ((show (_ : Int) < _); decide) | (with_reducible refine gb_t ?_; with_reducible assumption) | with_reducible assumption | (with_reducible refine gb_f ?_; with_reducible assumption) | (simp only [refX, refY, refB, refC, badV, meetC, meetN, meetF, cutN, cutF, cutA, *, cond_true, cond_false]; done) | ((with_reducible refine ks_t ?_); rfl) | ((with_reducible refine pk_t ?_); rfl) | ((with_reducible refine pf_t ?_); rfl) | ((with_reducible refine lk_t ?_); rfl) | ((with_reducible refine okF_t ?_); kernel_rfl) | grind [gb, refX, refY, refB, refC, badV, meetC, meetN, meetF, cutN, cutF, cutA])
def meetsR_k : Con Tryz.prog := ⟨67, fun args => match args with | [.agg [.flt a, .flt b, .flt c, .flt d, .flt e, .flt f], .agg [.flt p, .flt q, .flt r, .flt u, .flt v, .flt w, .flt l]] => .ok (none) (.tup [.flt (refX a b c d e f p q r u v w l), .flt (refY a b c d e f p q r u v w l), .bool (refB a b c d e f p q r u v w l)]) | _ => .no, by
  intro args p r h hp
  split at h
  · cases h; exact meetsR_a _ _ _ _ _ _ _ _ _ _ _ _ _
  · cases h⟩
end Go.Proofs.YtdjckabogdohcaaGreat
/- The two Meets are one; where Axis has its contracts already. -/
namespace Go.Proofs.YtdjckabogdohcaaGreat
open Go.RowKit Ev
set_option linter.unusedVariables false
set_option linter.unusedSimpArgs false

theorem near_notN {x : Nat} (h : nearB x = true) : isN x = false := by
  cases hx : isN x with
  | false => rfl
  | true =>
    obtain ⟨h1, h2, h3⟩ := flt_nan (y := 13920209183539462144) hx
    unfold nearB at h
    rw [h2, h3] at h
    cases h
theorem fine_notN {a b c : Nat} (h : fineB a b c = true) : isN a = false ∧ isN b = false ∧ isN c = false := by
  unfold fineB at h
  rw [Bool.and_eq_true, Bool.and_eq_true] at h
  exact ⟨near_notN h.1.1, near_notN h.1.2, near_notN h.2⟩
theorem may_fine {a b c d e f : Nat} (h : mayV a b c d e f = 0) : fineB a b c = true ∧ fineB d e f = true := by
  unfold mayV at h
  cases h1 : fineB a b c <;> cases h2 : fineB d e f <;> rw [h1, h2] at h <;> first | exact ⟨rfl, rfl⟩ | exact absurd (show (1 : Int) = 0 from h) (by decide)
theorem ray_fine {a b c d e f l : Nat} (h : rayV a b c d e f l = 0) : fineB a b c = true ∧ fineB d e f = true ∧ nearB l = true := by
  unfold rayV at h
  cases h1 : fineB a b c <;> cases h2 : fineB d e f <;> cases h3 : nearB l <;> rw [h1, h2, h3] at h <;> first | exact ⟨rfl, rfl, rfl⟩ | exact absurd (show (1 : Int) = 0 from h) (by decide)
theorem bad_cut {o : Bool} {lo hi fr d : Nat} (h1 : isN lo = false) (h2 : isN hi = false) (h3 : isN fr = false) : cutO o lo hi fr d = (o && !(badV lo hi fr d)) := by
  unfold cutO badV
  rw [le_not h1 h3, le_not h3 h2, fgt_flt lo fr]
  cases feq d 0 <;> cases o <;> cases flt fr lo <;> cases fgt fr hi <;> rfl
theorem ref_c (a b c d e f p q r u v w l : Nat) : refC a b c d e f p q r u v w l = (bif meetC a b c d e f p q r u v w l then true else meetD a b c d e f p q r u v w l) := by
  unfold refC
  cases h : meetC a b c d e f p q r u v w l with
  | true => rfl
  | false =>
    unfold meetC at h
    rw [Bool.or_eq_false_iff] at h
    obtain ⟨h1, h2⟩ := may_fine (a := a) (b := b) (c := c) (d := d) (e := e) (f := f) (by simpa using h.1)
    obtain ⟨h3, h4, h5⟩ := ray_fine (a := p) (b := q) (c := r) (d := u) (e := v) (f := w) (l := l) (by simpa using h.2)
    obtain ⟨a1, a2, a3⟩ := fine_notN h1
    obtain ⟨b1, b2, b3⟩ := fine_notN h2
    obtain ⟨c1, c2, c3⟩ := fine_notN h3
    unfold meetD meetO
    rw [bad_cut a1 b1 c1, bad_cut a2 b2 c2, bad_cut a3 b3 c3]
    cases badV a d p u <;> cases badV b e q v <;> cases badV c f r w <;> rfl
theorem ref_b (a b c d e f p q r u v w l : Nat) : refB a b c d e f p q r u v w l = meetB a b c d e f p q r u v w l := by
  unfold refB meetB; rw [ref_c]; cases meetC a b c d e f p q r u v w l <;> rfl
theorem ref_x (a b c d e f p q r u v w l : Nat) : refX a b c d e f p q r u v w l = meetX a b c d e f p q r u v w l := by
  unfold refX meetX; rw [ref_c]; cases meetC a b c d e f p q r u v w l <;> rfl
theorem ref_y (a b c d e f p q r u v w l : Nat) : refY a b c d e f p q r u v w l = meetY a b c d e f p q r u v w l := by
  unfold refY meetY; rw [ref_c]; cases meetC a b c d e f p q r u v w l <;> rfl
end Go.Proofs.YtdjckabogdohcaaGreat
/- What rays strike, as the document asks for it: triangles. -/
namespace Go.Proofs.YtdjckabogdohcaaGreat
open Go.RowKit Ev
set_option linter.unusedVariables false
set_option linter.unusedSimpArgs false
set_option maxRecDepth 20000
set_option maxHeartbeats 4000000

theorem meetsS_f : FnOk Tryz.prog 67 Tryz.f67 := ⟨Tryz.func67, by kernel_rfl⟩
theorem meetsS_a (a b c d e f p q r u v w l : Nat) : ACalls Tryz.prog 67 [.agg [.flt a, .flt b, .flt c, .flt d, .flt e, .flt f], .agg [.flt p, .flt q, .flt r, .flt u, .flt v, .flt w, .flt l]] (.tup [.flt (meetX a b c d e f p q r u v w l), .flt (meetY a b c d e f p q r u v w l), .bool (meetB a b c d e f p q r u v w l)]) := by
  have h := meetsR_a a b c d e f p q r u v w l
  rw [ref_x, ref_y, ref_b] at h
  exact h
def meetsS_k : Con Tryz.prog := ⟨67, fun args => match args with | [.agg [.flt a, .flt b, .flt c, .flt d, .flt e, .flt f], .agg [.flt p, .flt q, .flt r, .flt u, .flt v, .flt w, .flt l]] => .ok (none) (.tup [.flt (meetX a b c d e f p q r u v w l), .flt (meetY a b c d e f p q r u v w l), .bool (meetB a b c d e f p q r u v w l)]) | _ => .no, by
  intro args p r h hp
  split at h
  · cases h; exact meetsS_a _ _ _ _ _ _ _ _ _ _ _ _ _
  · cases h⟩
theorem meet_le {a b c d e f p q r u v w l : Nat} (h : meetB a b c d e f p q r u v w l = true) : fgt (meetX a b c d e f p q r u v w l) (meetY a b c d e f p q r u v w l) = false := by
  unfold meetB at h
  unfold meetX meetY
  cases h1 : meetC a b c d e f p q r u v w l
  · rw [h1] at h
    cases h2 : meetD a b c d e f p q r u v w l
    · unfold meetD at h2
      rw [Bool.or_eq_false_iff] at h2
      exact h2.2
    · rw [h2] at h; cases h
  · rw [h1] at h; cases h
/-- Cut off at both ends, one behind the other. -/
def stR (k : Bool) (t : Nat) (ok : Bool) (l n m : Nat) : Nat := bif stB k t ok l then (bif fgt (bif flt t n then n else t) m then m else (bif flt t n then n else t)) else 0
theorem st_r {k ok : Bool} {t l n m : Nat} (h : k = true → fgt n m = false) : stR k t ok l n m = stT k t ok l n m := by
  unfold stR stT
  cases hs : stB k t ok l
  · rfl
  · have hk : k = true := by cases k <;> first | rfl | (unfold stB at hs; cases hs)
    cases flt t n
    · rfl
    · simp only [cond_true, h hk, cond_false]
theorem ownT0_f : FnOk Tryz.prog 83 Tryz.f83 := ⟨Tryz.func83, by kernel_rfl⟩
theorem ownT0_a (a b c d e f g h i r q : Nat) (s : Int) (x y z u v w l n m : Nat) (hpre : deepV u v w = 0 ∧ rayV x y z u v w l = 0 ∧ fineB a b c = true ∧ fineB d e f = true ∧ fineB g h i = true) : ACalls Tryz.prog 83 [.agg [.int .i64 3, .flt a, .flt b, .flt c, .flt d, .flt e, .flt f, .flt g, .flt h, .flt i, .flt r, .flt q, .int .i64 s], .agg [.flt x, .flt y, .flt z, .flt u, .flt v, .flt w, .flt l], .flt n, .flt m] (.tup [.flt (trT0 a b c d e f g h i x y z u v w), .bool (trO0 a b c d e f g h i x y z u v w)]) := by
  refine acalls_of (inl := hasI (P := Tryz.prog) [] []) (base [ThrR0_k, side0_k, placeR0_k, times_k] [] []) 0 ownT0_f (And.intro (by kernel_rfl) ?_)
  repeat' (first | refine And.intro ?_ ?_ | (with_reducible exact ff_elim) | (with_reducible exact tf_elim) | (intro h; exact absurd h (by decide)) | intro _ | (with_reducible rfl) | ((with_reducible refine lk_t ?_); exact rfl) | ((with_reducible refine pf_t ?_); exact rfl) | refine tell ?_ | exact True.intro | (refine IsT.of ?_; kernel_rfl))
  all_goals (have hthe : thE0 x y z u v w l a b c d e f g h i = 0 := by obtain ⟨_, h1, h2, h3, h4⟩ := hpre; unfold thE0 edgE; rw [h1, h2, h3, h4]; rfl)
  all_goals (obtain ⟨hpre, _⟩ := hpre)
  all_goals (try simp only [hthe, beq_self_eq_true, cond_true] at *)
  all_goals ((try refine Tell.mk ?_); first | with_reducible rfl | ((show (_ : Int) ≤ _); decide) | ((show (_ : Int) < _); decide) | (with_reducible refine gb_t ?_; with_reducible assumption) | with_reducible assumption | (with_reducible refine gb_f ?_; with_reducible assumption) | (simp only [trT0, trO0, thrS, thrB, *, cond_true, cond_false]; done) | ((with_reducible refine ks_t ?_); rfl) | ((with_reducible refine pk_t ?_); rfl) | ((with_reducible refine pf_t ?_); rfl) | ((with_reducible refine lk_t ?_); rfl) | ((with_reducible refine okF_t ?_); kernel_rfl) | grind [gb, trT0, trO0, thrS, thrB])
def ownT0_k : Con Tryz.prog := ⟨83, fun args => match args with | [.agg [.int .i64 3, .flt a, .flt b, .flt c, .flt d, .flt e, .flt f, .flt g, .flt h, .flt i, .flt r, .flt q, .int .i64 s], .agg [.flt x, .flt y, .flt z, .flt u, .flt v, .flt w, .flt l], .flt n, .flt m] => .ok (some (deepV u v w = 0 ∧ rayV x y z u v w l = 0 ∧ fineB a b c = true ∧ fineB d e f = true ∧ fineB g h i = true)) (.tup [.flt (trT0 a b c d e f g h i x y z u v w), .bool (trO0 a b c d e f g h i x y z u v w)]) | _ => .no, by
  intro args p r h hp
  split at h
  · cases h; exact ownT0_a _ _ _ _ _ _ _ _ _ _ _ _ _ _ _ _ _ _ _ _ _ hp
  · cases h⟩
theorem ownT1_f : FnOk Tryz.prog 83 Tryz.f83 := ⟨Tryz.func83, by kernel_rfl⟩
theorem ownT1_a (a b c d e f g h i r q : Nat) (s : Int) (x y z u v w l n m : Nat) (hpre : deepV u v w = 1 ∧ rayV x y z u v w l = 0 ∧ fineB a b c = true ∧ fineB d e f = true ∧ fineB g h i = true) : ACalls Tryz.prog 83 [.agg [.int .i64 3, .flt a, .flt b, .flt c, .flt d, .flt e, .flt f, .flt g, .flt h, .flt i, .flt r, .flt q, .int .i64 s], .agg [.flt x, .flt y, .flt z, .flt u, .flt v, .flt w, .flt l], .flt n, .flt m] (.tup [.flt (trT1 a b c d e f g h i x y z u v w), .bool (trO1 a b c d e f g h i x y z u v w)]) := by
  refine acalls_of (inl := hasI (P := Tryz.prog) [] []) (base [ThrR1_k, side1_k, placeR1_k, times_k] [] []) 0 ownT1_f (And.intro (by kernel_rfl) ?_)
  repeat' (first | refine And.intro ?_ ?_ | (with_reducible exact ff_elim) | (with_reducible exact tf_elim) | (intro h; exact absurd h (by decide)) | intro _ | (with_reducible rfl) | ((with_reducible refine lk_t ?_); exact rfl) | ((with_reducible refine pf_t ?_); exact rfl) | refine tell ?_ | exact True.intro | (refine IsT.of ?_; kernel_rfl))
  all_goals (have hthe : thE1 x y z u v w l a b c d e f g h i = 0 := by obtain ⟨_, h1, h2, h3, h4⟩ := hpre; unfold thE1 edgE; rw [h1, h2, h3, h4]; rfl)
  all_goals (obtain ⟨hpre, _⟩ := hpre)
  all_goals (try simp only [hthe, beq_self_eq_true, cond_true] at *)
  all_goals ((try refine Tell.mk ?_); first | with_reducible rfl | ((show (_ : Int) ≤ _); decide) | ((show (_ : Int) < _); decide) | (with_reducible refine gb_t ?_; with_reducible assumption) | with_reducible assumption | (with_reducible refine gb_f ?_; with_reducible assumption) | (simp only [trT1, trO1, thrS, thrB, *, cond_true, cond_false]; done) | ((with_reducible refine ks_t ?_); rfl) | ((with_reducible refine pk_t ?_); rfl) | ((with_reducible refine pf_t ?_); rfl) | ((with_reducible refine lk_t ?_); rfl) | ((with_reducible refine okF_t ?_); kernel_rfl) | grind [gb, trT1, trO1, thrS, thrB])
def ownT1_k : Con Tryz.prog := ⟨83, fun args => match args with | [.agg [.int .i64 3, .flt a, .flt b, .flt c, .flt d, .flt e, .flt f, .flt g, .flt h, .flt i, .flt r, .flt q, .int .i64 s], .agg [.flt x, .flt y, .flt z, .flt u, .flt v, .flt w, .flt l], .flt n, .flt m] => .ok (some (deepV u v w = 1 ∧ rayV x y z u v w l = 0 ∧ fineB a b c = true ∧ fineB d e f = true ∧ fineB g h i = true)) (.tup [.flt (trT1 a b c d e f g h i x y z u v w), .bool (trO1 a b c d e f g h i x y z u v w)]) | _ => .no, by
  intro args p r h hp
  split at h
  · cases h; exact ownT1_a _ _ _ _ _ _ _ _ _ _ _ _ _ _ _ _ _ _ _ _ _ hp
  · cases h⟩
theorem ownT2_f : FnOk Tryz.prog 83 Tryz.f83 := ⟨Tryz.func83, by kernel_rfl⟩
theorem ownT2_a (a b c d e f g h i r q : Nat) (s : Int) (x y z u v w l n m : Nat) (hpre : deepV u v w = 2 ∧ rayV x y z u v w l = 0 ∧ fineB a b c = true ∧ fineB d e f = true ∧ fineB g h i = true) : ACalls Tryz.prog 83 [.agg [.int .i64 3, .flt a, .flt b, .flt c, .flt d, .flt e, .flt f, .flt g, .flt h, .flt i, .flt r, .flt q, .int .i64 s], .agg [.flt x, .flt y, .flt z, .flt u, .flt v, .flt w, .flt l], .flt n, .flt m] (.tup [.flt (trT2 a b c d e f g h i x y z u v w), .bool (trO2 a b c d e f g h i x y z u v w)]) := by
  refine acalls_of (inl := hasI (P := Tryz.prog) [] []) (base [ThrR2_k, side2_k, placeR2_k, times_k] [] []) 0 ownT2_f (And.intro (by kernel_rfl) ?_)
  repeat' (first | refine And.intro ?_ ?_ | (with_reducible exact ff_elim) | (with_reducible exact tf_elim) | (intro h; exact absurd h (by decide)) | intro _ | (with_reducible rfl) | ((with_reducible refine lk_t ?_); exact rfl) | ((with_reducible refine pf_t ?_); exact rfl) | refine tell ?_ | exact True.intro | (refine IsT.of ?_; kernel_rfl))
  all_goals (have hthe : thE2 x y z u v w l a b c d e f g h i = 0 := by obtain ⟨_, h1, h2, h3, h4⟩ := hpre; unfold thE2 edgE; rw [h1, h2, h3, h4]; rfl)
  all_goals (obtain ⟨hpre, _⟩ := hpre)
  all_goals (try simp only [hthe, beq_self_eq_true, cond_true] at *)
  all_goals ((try refine Tell.mk ?_); first | with_reducible rfl | ((show (_ : Int) ≤ _); decide) | ((show (_ : Int) < _); decide) | (with_reducible refine gb_t ?_; with_reducible assumption) | with_reducible assumption | (with_reducible refine gb_f ?_; with_reducible assumption) | (simp only [trT2, trO2, thrS, thrB, *, cond_true, cond_false]; done) | ((with_reducible refine ks_t ?_); rfl) | ((with_reducible refine pk_t ?_); rfl) | ((with_reducible refine pf_t ?_); rfl) | ((with_reducible refine lk_t ?_); rfl) | ((with_reducible refine okF_t ?_); kernel_rfl) | grind [gb, trT2, trO2, thrS, thrB])
def ownT2_k : Con Tryz.prog := ⟨83, fun args => match args with | [.agg [.int .i64 3, .flt a, .flt b, .flt c, .flt d, .flt e, .flt f, .flt g, .flt h, .flt i, .flt r, .flt q, .int .i64 s], .agg [.flt x, .flt y, .flt z, .flt u, .flt v, .flt w, .flt l], .flt n, .flt m] => .ok (some (deepV u v w = 2 ∧ rayV x y z u v w l = 0 ∧ fineB a b c = true ∧ fineB d e f = true ∧ fineB g h i = true)) (.tup [.flt (trT2 a b c d e f g h i x y z u v w), .bool (trO2 a b c d e f g h i x y z u v w)]) | _ => .no, by
  intro args p r h hp
  split at h
  · cases h; exact ownT2_a _ _ _ _ _ _ _ _ _ _ _ _ _ _ _ _ _ _ _ _ _ hp
  · cases h⟩
theorem ownT_f : FnOk Tryz.prog 83 Tryz.f83 := ⟨Tryz.func83, by kernel_rfl⟩
theorem ownT_a (a b c d e f g h i r q : Nat) (s : Int) (x y z u v w l n m : Nat) (hpre : rayV x y z u v w l = 0 ∧ fineB a b c = true ∧ fineB d e f = true ∧ fineB g h i = true) : ACalls Tryz.prog 83 [.agg [.int .i64 3, .flt a, .flt b, .flt c, .flt d, .flt e, .flt f, .flt g, .flt h, .flt i, .flt r, .flt q, .int .i64 s], .agg [.flt x, .flt y, .flt z, .flt u, .flt v, .flt w, .flt l], .flt n, .flt m] (.tup [.flt (trT a b c d e f g h i x y z u v w), .bool (trO a b c d e f g h i x y z u v w)]) := by
  unfold trT trO
  rcases deepV_or u v w with hk | hk | hk
  · rw [hk]; exact ownT0_a a b c d e f g h i r q s x y z u v w l n m ⟨hk, hpre⟩
  · rw [hk]; exact ownT1_a a b c d e f g h i r q s x y z u v w l n m ⟨hk, hpre⟩
  · rw [hk]; exact ownT2_a a b c d e f g h i r q s x y z u v w l n m ⟨hk, hpre⟩
def ownT_k : Con Tryz.prog := ⟨83, fun args => match args with | [.agg [.int .i64 3, .flt a, .flt b, .flt c, .flt d, .flt e, .flt f, .flt g, .flt h, .flt i, .flt r, .flt q, .int .i64 s], .agg [.flt x, .flt y, .flt z, .flt u, .flt v, .flt w, .flt l], .flt n, .flt m] => .ok (some (rayV x y z u v w l = 0 ∧ fineB a b c = true ∧ fineB d e f = true ∧ fineB g h i = true)) (.tup [.flt (trT a b c d e f g h i x y z u v w), .bool (trO a b c d e f g h i x y z u v w)]) | _ => .no, by
  intro args p r h hp
  split at h
  · cases h; exact ownT_a _ _ _ _ _ _ _ _ _ _ _ _ _ _ _ _ _ _ _ _ _ hp
  · cases h⟩
theorem aroundT_f : FnOk Tryz.prog 82 Tryz.f82 := ⟨Tryz.func82, by kernel_rfl⟩
theorem aroundT_a (a b c d e f g h i r q : Nat) (s : Int) : ACalls Tryz.prog 82 [.agg [.int .i64 3, .flt a, .flt b, .flt c, .flt d, .flt e, .flt f, .flt g, .flt h, .flt i, .flt r, .flt q, .int .i64 s]] (.agg [.flt (lessV (lessV a d) g), .flt (lessV (lessV b e) h), .flt (lessV (lessV c f) i), .flt (moreV (moreV a d) g), .flt (moreV (moreV b e) h), .flt (moreV (moreV c f) i)]) := by
  refine acalls_of (inl := hasI (P := Tryz.prog) [] []) (base [lowR_k, highR_k] [] []) 0 aroundT_f (And.intro (by kernel_rfl) ?_)
  repeat' (first | refine And.intro ?_ ?_ | (with_reducible exact ff_elim) | (with_reducible exact tf_elim) | (intro h; exact absurd h (by decide)) | intro _ | (with_reducible rfl) | ((with_reducible refine lk_t ?_); exact rfl) | ((with_reducible refine pf_t ?_); exact rfl) | refine tell ?_ | exact True.intro | (refine IsT.of ?_; kernel_rfl))
  all_goals ((try refine Tell.mk ?_); first | with_reducible rfl | ((show (_ : Int) ≤ _); decide) | ((show (_ : Int) < _); decide) | (with_reducible refine gb_t ?_; with_reducible assumption) | with_reducible assumption | (with_reducible refine gb_f ?_; with_reducible assumption) | (simp only [gb, *, cond_true, cond_false]; done) | ((with_reducible refine ks_t ?_); rfl) | ((with_reducible refine pk_t ?_); rfl) | ((with_reducible refine pf_t ?_); rfl) | ((with_reducible refine lk_t ?_); rfl) | ((with_reducible refine okF_t ?_); kernel_rfl) | grind [gb])
def aroundT_k : Con Tryz.prog := ⟨82, fun args => match args with | [.agg [.int .i64 3, .flt a, .flt b, .flt c, .flt d, .flt e, .flt f, .flt g, .flt h, .flt i, .flt r, .flt q, .int .i64 s]] => .ok (none) (.agg [.flt (lessV (lessV a d) g), .flt (lessV (lessV b e) h), .flt (lessV (lessV c f) i), .flt (moreV (moreV a d) g), .flt (moreV (moreV b e) h), .flt (moreV (moreV c f) i)]) | _ => .no, by
  intro args p r h hp
  split at h
  · cases h; exact aroundT_a _ _ _ _ _ _ _ _ _ _ _ _
  · cases h⟩
theorem sh3_fine {a b c d e f g h i r q : Nat} {s : Int} (hh : shapeE 3 a b c d e f g h i r q s = 0) : fineB a b c = true ∧ fineB d e f = true ∧ fineB g h i = true := by
  unfold shapeE at hh
  cases h1 : (decide (s < 0) || decide (16 ≤ s)) <;> rw [h1] at hh
  · cases h2 : fineB a b c <;> cases h3 : fineB d e f <;> cases h4 : fineB g h i <;> rw [h2, h3, h4] at hh <;> first | exact ⟨rfl, rfl, rfl⟩ | cases hh
  · cases hh
theorem StrikeR3_f : FnOk Tryz.prog 68 Tryz.f68 := ⟨Tryz.func68, by kernel_rfl⟩
theorem StrikeR3_a (a b c d e f g h i r q : Nat) (s : Int) (x y z u v w l : Nat) : ACalls Tryz.prog 68 [.agg [.int .i64 3, .flt a, .flt b, .flt c, .flt d, .flt e, .flt f, .flt g, .flt h, .flt i, .flt r, .flt q, .int .i64 s], .agg [.flt x, .flt y, .flt z, .flt u, .flt v, .flt w, .flt l]] (.tup [.flt (bif sE3 a b c d e f g h i r q s x y z u v w l == 0 then sT3 a b c d e f g h i x y z u v w l else 0), .bool (bif sE3 a b c d e f g h i r q s x y z u v w l == 0 then sO3 a b c d e f g h i x y z u v w l else false), .int .i64 (sE3 a b c d e f g h i r q s x y z u v w l)]) := by
  refine acalls_of (inl := hasI (P := Tryz.prog) [] []) (base [shapeMayR_k, rayfineR_k, meetsS_k, aroundT_k, ownT_k] [] []) 0 StrikeR3_f (And.intro (by kernel_rfl) ?_)
  have hst := @st_r (meetB (lessV (lessV a d) g) (lessV (lessV b e) h) (lessV (lessV c f) i) (moreV (moreV a d) g) (moreV (moreV b e) h) (moreV (moreV c f) i) x y z u v w l) (trO a b c d e f g h i x y z u v w) (trT a b c d e f g h i x y z u v w) l (meetX (lessV (lessV a d) g) (lessV (lessV b e) h) (lessV (lessV c f) i) (moreV (moreV a d) g) (moreV (moreV b e) h) (moreV (moreV c f) i) x y z u v w l) (meetY (lessV (lessV a d) g) (lessV (lessV b e) h) (lessV (lessV c f) i) (moreV (moreV a d) g) (moreV (moreV b e) h) (moreV (moreV c f) i) x y z u v w l) meet_le
  repeat' (first | refine And.intro ?_ ?_ | (with_reducible exact ff_elim) | (with_reducible exact tf_elim) | intro _ | (with_reducible rfl) | ((with_reducible refine lk_t ?_); exact rfl) | ((with_reducible refine pf_t ?_); exact rfl) | refine tell ?_ | exact True.intro | (refine IsT.of ?_; kernel_rfl))
  all_goals (try unfold sO3)
  all_goals (try unfold sT3)
  all_goals (generalize hB : meetB _ _ _ _ _ _ x y z u v w l = mB at *; generalize hX : meetX _ _ _ _ _ _ x y z u v w l = mX at *; generalize hY : meetY _ _ _ _ _ _ x y z u v w l = mY at *; generalize hT : trT a b c d e f g h i x y z u v w = tT at *; generalize hO : trO a b c d e f g h i x y z u v w = tO at *)
  all_goals clear hB hX hY hT hO
  all_goals (try refine Tell.mk ?_)
  all_goals first | with_reducible rfl | with_reducible assumption | (with_reducible refine gb_t ?_; with_reducible assumption) | (with_reducible refine gb_f ?_; with_reducible assumption) | (simp_all; done) | exact (sh3_fine (bne_eq_false_iff_eq.1 (by with_reducible assumption))).1 | exact (sh3_fine (bne_eq_false_iff_eq.1 (by with_reducible assumption))).2.1 | exact (sh3_fine (bne_eq_false_iff_eq.1 (by with_reducible assumption))).2.2 | (unfold sE3; unfold stR at hst; grind [stT, stB, bne, gb]) | (unfold stR at hst; grind [stT, stB, bne, gb]) | trace_state
def StrikeR3_k : Con Tryz.prog := ⟨68, fun args => match args with | [.agg [.int .i64 3, .flt a, .flt b, .flt c, .flt d, .flt e, .flt f, .flt g, .flt h, .flt i, .flt r, .flt q, .int .i64 s], .agg [.flt x, .flt y, .flt z, .flt u, .flt v, .flt w, .flt l]] => .ok (none) (.tup [.flt (bif sE3 a b c d e f g h i r q s x y z u v w l == 0 then sT3 a b c d e f g h i x y z u v w l else 0), .bool (bif sE3 a b c d e f g h i r q s x y z u v w l == 0 then sO3 a b c d e f g h i x y z u v w l else false), .int .i64 (sE3 a b c d e f g h i r q s x y z u v w l)]) | _ => .no, by
  intro args p r h hp
  split at h
  · cases h; exact StrikeR3_a _ _ _ _ _ _ _ _ _ _ _ _ _ _ _ _ _ _ _
  · cases h⟩
end Go.Proofs.YtdjckabogdohcaaGreat
/- Fields: their pieces. -/
namespace Go.Proofs.YtdjckabogdohcaaGreat
open Go.RowKit Ev
set_option linter.unusedVariables false
set_option linter.unusedSimpArgs false
set_option maxRecDepth 20000
set_option maxHeartbeats 4000000

theorem fieldE_ok {w h : Int} {x y z d n : Nat} {H : Nat → Int} {s : Int} (h0 : fieldE w h x y z d n H s = 0) : Grid w h n ∧ (0 ≤ s ∧ s < 16) ∧ fineB x y z = true ∧ nearB d = true ∧ fgt d 0 = true ∧ firstE (hiE H) n = 0 ∧ fbE w.toNat x y z d H n = 0 := by
  unfold fieldE at h0
  split at h0
  · omega
  split at h0
  · omega
  split at h0
  · omega
  split at h0
  · omega
  split at h0
  · omega
  rename_i h1 h2 h3 h4 h5
  split at h0
  · rename_i h6; exact absurd h0 h6
  split at h0
  · rename_i h6 h7
    refine ⟨grid_of h1 (by omega), by omega, ?_, ?_, ?_, by omega, h7⟩
    · cases e : fineB x y z
      · exact absurd (.inl e) h4
      · rfl
    · cases e : nearB d
      · exact absurd (.inr e) h4
      · rfl
    · cases e : fgt d 0
      · exact absurd e h5
      · rfl
  · omega
def pcI (w j : Nat) : Nat := (j / 2) % (w - 1)
def pcK (w j : Nat) : Nat := (j / 2) / (w - 1)
theorem pc_at {w k i m j : Nat} (hi : i < w - 1) (hm : m < 2) (hj : j = 2 * ((w - 1) * k + i) + m) : pcI w j = i ∧ pcK w j = k ∧ j % 2 = m := by
  subst hj
  have e : (2 * ((w - 1) * k + i) + m) / 2 = (w - 1) * k + i := by omega
  unfold pcI pcK
  rw [e]
  refine ⟨?_, ?_, by omega⟩
  · rw [Nat.mul_add_mod]; exact Nat.mod_eq_of_lt hi
  · rw [Nat.mul_add_div (by omega), Nat.div_eq_of_lt hi, Nat.add_zero]
/-- The numbers of a piece. -/
def pcR (w x y z d : Nat) (H : Nat → Int) (s : Int) (j : Nat) : List AV := [.int .i64 3,
  .flt (fX x d ((pcI w j + j % 2 : Nat) : Int)), .flt (fY y (H (pcK w j * w + (pcI w j + j % 2)))), .flt (fX z d ((pcK w j : Nat) : Int)),
  .flt (fX x d ((pcI w j : Nat) : Int)), .flt (fY y (H ((pcK w j + 1) * w + pcI w j))), .flt (fX z d ((pcK w j + 1 : Nat) : Int)),
  .flt (fX x d ((pcI w j + 1 : Nat) : Int)), .flt (fY y (H ((pcK w j + j % 2) * w + (pcI w j + 1)))), .flt (fX z d ((pcK w j + j % 2 : Nat) : Int)),
  .flt 0, .flt 0, .int .i64 s]
theorem getD_app {l1 l2 : List AV} {c : Nat} : (l1 ++ l2).getD c .any = if c < l1.length then l1.getD c .any else l2.getD (c - l1.length) .any := by
  split
  · rename_i h; simp [List.getD, List.getElem?_append_left h]
  · rename_i h; simp [List.getD, List.getElem?_append_right (Nat.le_of_not_lt h)]
def pcA (w : Int) (x y z d : Nat) (H : Nat → Int) (s : Int) (i k : Nat) : List AV := [.int .i64 3, .flt (fX x d i), .flt (fY y (H ((k : Int) * w + i).toNat)), .flt (fX z d k),
  .flt (fX x d i), .flt (fY y (H (((k : Int) + 1) * w + i).toNat)), .flt (fX z d ((k : Int) + 1)),
  .flt (fX x d ((i : Int) + 1)), .flt (fY y (H ((k : Int) * w + ((i : Int) + 1)).toNat)), .flt (fX z d k), .flt 0, .flt 0, .int .i64 s]
def pcB (w : Int) (x y z d : Nat) (H : Nat → Int) (s : Int) (i k : Nat) : List AV := [.int .i64 3, .flt (fX x d ((i : Int) + 1)), .flt (fY y (H ((k : Int) * w + ((i : Int) + 1)).toNat)), .flt (fX z d k),
  .flt (fX x d i), .flt (fY y (H (((k : Int) + 1) * w + i).toNat)), .flt (fX z d ((k : Int) + 1)),
  .flt (fX x d ((i : Int) + 1)), .flt (fY y (H (((k : Int) + 1) * w + ((i : Int) + 1)).toNat)), .flt (fX z d ((k : Int) + 1)), .flt 0, .flt 0, .int .i64 s]
theorem h_at {w : Int} {k i : Nat} (hw : 0 ≤ w) : ((k : Int) * w + i).toNat = k * w.toNat + i := by
  obtain ⟨W, rfl⟩ := Int.eq_ofNat_of_zero_le hw
  rw [← Int.natCast_mul, ← Int.natCast_add, Int.toNat_natCast, Int.toNat_natCast]
theorem row_A {w : Int} {x y z d : Nat} {H : Nat → Int} {s : Int} {i k : Nat} (hw : 0 ≤ w) (hi : i < w.toNat - 1) : pcR w.toNat x y z d H s (2 * ((w.toNat - 1) * k + i)) = pcA w x y z d H s i k := by
  obtain ⟨e1, e2, e3⟩ := pc_at (k := k) (m := 0) hi (by decide) rfl
  rw [Nat.add_zero] at e1 e2 e3
  unfold pcR pcA
  rw [e1, e2, e3, h_at hw, show ((k : Int) + 1) = ((k + 1 : Nat) : Int) by omega, show ((i : Int) + 1) = ((i + 1 : Nat) : Int) by omega, h_at hw, h_at hw]
  rfl
theorem row_B {w : Int} {x y z d : Nat} {H : Nat → Int} {s : Int} {i k : Nat} (hw : 0 ≤ w) (hi : i < w.toNat - 1) : pcR w.toNat x y z d H s (2 * ((w.toNat - 1) * k + i) + 1) = pcB w x y z d H s i k := by
  obtain ⟨e1, e2, e3⟩ := pc_at (k := k) (m := 1) hi (by decide) rfl
  unfold pcR pcB
  rw [e1, e2, e3, show ((k : Int) + 1) = ((k + 1 : Nat) : Int) by omega, show ((i : Int) + 1) = ((i + 1 : Nat) : Int) by omega, h_at hw, h_at hw, h_at hw]
theorem piece_step {w : Int} {x y z d : Nat} {H : Nat → Int} {s : Int} {i k j : Nat} (hw : 0 ≤ w) (hi : i < w.toNat - 1) (hj : j < 26 * ((w.toNat - 1) * k + (i + 1))) :
    flatF 13 (pcR w.toNat x y z d H s) j = catA (2 * ((w.toNat - 1) * k + i) * 13) (flatF 13 (pcR w.toNat x y z d H s)) (fun j => (pcA w x y z d H s i k ++ pcB w x y z d H s i k).getD j .any) j := by
  unfold catA
  split
  · rfl
  · rename_i h
    show _ = (pcA w x y z d H s i k ++ pcB w x y z d H s i k).getD (j - 2 * ((w.toNat - 1) * k + i) * 13) .any
    rw [getD_app]
    split
    · rename_i h1
      have h1 : j - 2 * ((w.toNat - 1) * k + i) * 13 < 13 := h1
      rw [flat_row (i := 2 * ((w.toNat - 1) * k + i)) h1 (by omega), row_A hw hi]
    · rename_i h1
      have h1 : ¬ j - 2 * ((w.toNat - 1) * k + i) * 13 < 13 := h1
      show _ = (pcB w x y z d H s i k).getD (j - 2 * ((w.toNat - 1) * k + i) * 13 - 13) .any
      rw [flat_row (i := 2 * ((w.toNat - 1) * k + i) + 1) (c := j - 2 * ((w.toNat - 1) * k + i) * 13 - 13) (by omega) (by omega), row_B hw hi]
theorem size_S : (Tab.cx.ti 38).size = 13 := rfl
theorem bytes_S : (Tab.cx.ti 38).bytes = 104 := rfl
theorem pc_le {W H k i : Nat} (hW : W ≤ 7) (hH : H ≤ 7) (hk : k ≤ H) (hi : i ≤ W) : W * k + i ≤ 56 := by
  have := Nat.mul_le_mul hW (Nat.le_trans hk hH)
  omega
structure PcK (m : Nat) where
  v : Nat
  le : v ≤ m
structure PcI (m : Nat) where
  v : Nat
  le : v ≤ m
theorem pieces_f : FnOk Tryz.prog 30 Tryz.f30 := ⟨Tryz.func30, by kernel_rfl⟩
theorem pieces_a (w h : Int) (x y z d n : Nat) (H : Nat → Int) (s : Int) (hpre : fieldE w h x y z d n H s = 0) : ACalls Tryz.prog 30 [.agg [.int .i64 w, .int .i64 h, .flt x, .flt y, .flt z, .flt d, ints .i64 n H, .int .i64 s]] (.tup [.sl (2 * ((w.toNat - 1) * (h.toNat - 1))) 13 (flatF 13 (pcR w.toNat x y z d H s)), .int .i64 0]) := by
  refine acalls_of (inl := hasI (P := Tryz.prog) [] []) (base [fieldMay_k, point_k] [] []) 0 pieces_f (And.intro (by kernel_rfl) ?_)
  have hG := (fieldE_ok hpre).1
  have g1 := hG.w2
  have g2 := hG.w8
  have g3 := hG.h2
  have g4 := hG.h8
  have eh : IntKind.i64.wrap (h - 1) = h - 1 := wrapI (by omega) (by omega)
  have ew : IntKind.i64.wrap (w - 1) = w - 1 := wrapI (by omega) (by omega)
  repeat' (first | refine And.intro ?_ ?_ | (with_reducible exact ff_elim) | (with_reducible exact tf_elim) | refine num_elim ?_ | intro _ | (with_reducible rfl) | ((with_reducible refine lk_t ?_); exact rfl) | ((with_reducible refine pf_t ?_); exact rfl) | refine tell ?_ | exact True.intro | (refine IsT.of ?_; kernel_rfl))
  all_goals (try (refine loop_keep [1, 19] [0] ?_; refine LoopI.mk (PcK (h.toNat - 1)) (fun k => [(20, .int .i64 k.1), (5, .os 1 13 0 (2 * ((w.toNat - 1) * k.1)))]) (fun k => [(1, .arr (26 * ((w.toNat - 1) * k.1)) (flatF 13 (pcR w.toNat x y z d H s)))]) (fun k => h.toNat - 1 - k.1) (⟨0, Nat.zero_le _⟩) (wk_mk [none, some 0] ?_) (fun ⟨k, hk⟩ => ?_)))
  repeat' (first | refine And.intro ?_ ?_ | (with_reducible exact ff_elim) | (with_reducible exact tf_elim) | refine stp_mk [some 1, some 0] ((⟨k + 1, ?_⟩ : PcK (h.toNat - 1))) ?_ ?_ | refine num_elim ?_ | intro _ | (with_reducible rfl) | ((with_reducible refine lk_t ?_); exact rfl) | ((with_reducible refine pf_t ?_); exact rfl) | refine tell ?_ | exact True.intro | (refine IsT.of ?_; kernel_rfl))
  all_goals (try (refine loop_keep [1, 6, 19, 20, 25] [0] ?_; refine LoopI.mk (PcI (w.toNat - 1)) (fun i => [(26, .int .i64 i.1), (5, .os 1 13 0 (2 * ((w.toNat - 1) * k + i.1)))]) (fun i => [(1, .arr (26 * ((w.toNat - 1) * k + i.1)) (flatF 13 (pcR w.toNat x y z d H s)))]) (fun i => w.toNat - 1 - i.1) (⟨0, Nat.zero_le _⟩) (wk_mk [some 1, some 0] ?_) (fun ⟨i, hi⟩ => ?_)))
  repeat' (first | refine And.intro ?_ ?_ | (with_reducible exact ff_elim) | (with_reducible exact tf_elim) | refine' stp_mk [some _, some 0] ((⟨i + 1, ?_⟩ : PcI (w.toNat - 1))) ?_ ?_ | refine stp_mk [some 1, some 0] (⟨k + 1, ?_⟩ : PcK (h.toNat - 1)) ?_ ?_ | refine num_elim ?_ | intro _ | (with_reducible rfl) | ((with_reducible refine lk_t ?_); exact rfl) | ((with_reducible refine pf_t ?_); exact rfl) | refine tell ?_ | exact True.intro | (refine IsT.of ?_; kernel_rfl))
  all_goals (try refine Tell.mk ?_)
  all_goals first | with_reducible rfl | with_reducible exact isI_mk | with_reducible assumption | (with_reducible refine gb_t ?_; with_reducible assumption) | (with_reducible refine gb_f ?_; with_reducible assumption) | ((with_reducible refine lk_t ?_); rfl) | ((with_reducible refine okF_t ?_); kernel_rfl) | ((with_reducible refine ks_t ?_); rfl) | ((with_reducible refine pk_t ?_); rfl) | ((with_reducible refine pf_t ?_); rfl) | skip
  all_goals (try dsimp only at *)
  all_goals (try simp only [decide_eq_true_eq, decide_eq_false_iff_not, Bool.or_eq_true, Bool.or_eq_false_iff, Bool.and_eq_true, Bool.and_eq_false_iff, Bool.not_eq_true', Bool.not_eq_false', bne_iff_ne, ne_eq, beq_iff_eq, bne_eq_false_iff_eq, beq_eq_false_iff_ne, Int.not_lt, Int.not_le, gt_iff_lt, ge_iff_le] at *)
  all_goals (try simp only [mulN1, Nat.add_zero, Nat.zero_add, Nat.mul_one, Int.toNat_natCast, avInt_int, intF_mk] at *)
  all_goals first | with_reducible rfl | with_reducible exact nums_N | omega | ((with_reducible refine by_le 1 rfl ?_); omega) | ((with_reducible refine by_le 8 rfl ?_); omega) | (rw [wrapI (by omega) (by omega)] <;> omega) | skip
  all_goals (try simp only [eh, ew] at *)
  all_goals first | exact hG | with_reducible rfl | omega | (rw [wrapI (by omega) (by omega)]; omega) | (show 13 = _; rfl) | (show 26 * ((w.toNat - 1) * 0) = 0; rfl) | (rw [show k = h.toNat - 1 by omega]; done) | skip
  all_goals (have hL := pc_le (W := w.toNat - 1) (H := h.toNat - 1) (k := k) (i := i) (by omega) (by omega) (by omega) (by omega))
  all_goals (try rw [size_S]); all_goals (try rw [bytes_S])
  all_goals first | omega | (show 2 * 13 ≤ 26; omega) | (rw [Nat.mul_succ]; omega) | skip
  all_goals (have ek : IntKind.i64.wrap ((k : Int) + 1) = (k : Int) + 1 := wrapI (by omega) (by omega); have ei : IntKind.i64.wrap ((i : Int) + 1) = (i : Int) + 1 := wrapI (by omega) (by omega))
  all_goals (rw [ek, ei]; exact piece_step (by omega) (by omega) (by assumption))
def pieces_r (w h : Int) (x y z d n : Nat) (H : Nat → Int) (s : Int) : AV := .tup [.sl (2 * ((w.toNat - 1) * (h.toNat - 1))) 13 (flatF 13 (pcR w.toNat x y z d H s)), .int .i64 0]
def pieces_p (w h : Int) (x y z d n : Nat) (H : Nat → Int) (s : Int) : Prop := fieldE w h x y z d n H s = 0
def pieces_k : Con Tryz.prog := ⟨30, fun args => match args with | [.agg [.int .i64 w, .int .i64 h, .flt x, .flt y, .flt z, .flt d, .sl n 1 g_H, .int .i64 s]] => .ok (some (IsI .i64 g_H ∧ pieces_p w h x y z d n (intF g_H) s)) (pieces_r w h x y z d n (intF g_H) s) | _ => .no, by
  intro args p r h hp
  split at h
  · cases h; obtain ⟨h_H, hp⟩ := hp; have e_H := h_H.eq; rw [e_H]; exact pieces_a _ _ _ _ _ _ _ _ _ hp
  · cases h⟩
structure QcK (m : Nat) where
  v : Nat
  le : v ≤ m
structure QcI (m : Nat) where
  v : Nat
  le : v ≤ m
theorem piecesR_f : FnOk Tryz.prog 31 Tryz.f31 := ⟨Tryz.func31, by kernel_rfl⟩
theorem piecesR_a (w h : Int) (x y z d n : Nat) (H : Nat → Int) (s : Int) (hpre : fieldE w h x y z d n H s = 0) : ACalls Tryz.prog 31 [.agg [.int .i64 w, .int .i64 h, .flt x, .flt y, .flt z, .flt d, ints .i64 n H, .int .i64 s]] (.tup [.sl (2 * ((w.toNat - 1) * (h.toNat - 1))) 13 (flatF 13 (pcR w.toNat x y z d H s)), .int .i64 0]) := by
  refine acalls_of (inl := hasI (P := Tryz.prog) [] []) (base [fieldMayR_k, gridP_k] [] []) 0 piecesR_f (And.intro (by kernel_rfl) ?_)
  have hG := (fieldE_ok hpre).1
  have g1 := hG.w2
  have g2 := hG.w8
  have g3 := hG.h2
  have g4 := hG.h8
  have eh : IntKind.i64.wrap (h - 1) = h - 1 := wrapI (by omega) (by omega)
  have ew : IntKind.i64.wrap (w - 1) = w - 1 := wrapI (by omega) (by omega)
  repeat' (first | refine And.intro ?_ ?_ | (with_reducible exact ff_elim) | (with_reducible exact tf_elim) | refine num_elim ?_ | intro _ | (with_reducible rfl) | ((with_reducible refine lk_t ?_); exact rfl) | ((with_reducible refine pf_t ?_); exact rfl) | refine tell ?_ | exact True.intro | (refine IsT.of ?_; kernel_rfl))
  all_goals (try (refine loop_keep [1] [0] ?_; refine LoopI.mk (QcK (h.toNat - 1)) (fun k => [(6, .int .i64 ((k.1 : Int) + 1)), (5, .os 1 13 0 (2 * ((w.toNat - 1) * k.1)))]) (fun k => [(1, .arr (26 * ((w.toNat - 1) * k.1)) (flatF 13 (pcR w.toNat x y z d H s)))]) (fun k => h.toNat - 1 - k.1) (⟨0, Nat.zero_le _⟩) (wk_mk [none, some 0] ?_) (fun ⟨k, hk⟩ => ?_)))
  repeat' (first | refine And.intro ?_ ?_ | (with_reducible exact ff_elim) | (with_reducible exact tf_elim) | refine stp_mk [some 1, some 0] ((⟨k + 1, ?_⟩ : QcK (h.toNat - 1))) ?_ ?_ | refine num_elim ?_ | intro _ | (with_reducible rfl) | ((with_reducible refine lk_t ?_); exact rfl) | ((with_reducible refine pf_t ?_); exact rfl) | refine tell ?_ | exact True.intro | (refine IsT.of ?_; kernel_rfl))
  all_goals (try (refine loop_keep [1, 6] [0] ?_; refine LoopI.mk (QcI (w.toNat - 1)) (fun i => [(7, .int .i64 ((i.1 : Int) + 1)), (5, .os 1 13 0 (2 * ((w.toNat - 1) * k + i.1)))]) (fun i => [(1, .arr (26 * ((w.toNat - 1) * k + i.1)) (flatF 13 (pcR w.toNat x y z d H s)))]) (fun i => w.toNat - 1 - i.1) (⟨0, Nat.zero_le _⟩) (wk_mk [some 1, some 0] ?_) (fun ⟨i, hi⟩ => ?_)))
  repeat' (first | refine And.intro ?_ ?_ | (with_reducible exact ff_elim) | (with_reducible exact tf_elim) | refine' stp_mk [some _, some 0] ((⟨i + 1, ?_⟩ : QcI (w.toNat - 1))) ?_ ?_ | refine stp_mk [some 1, some 0] (⟨k + 1, ?_⟩ : QcK (h.toNat - 1)) ?_ ?_ | refine num_elim ?_ | intro _ | (with_reducible rfl) | ((with_reducible refine lk_t ?_); exact rfl) | ((with_reducible refine pf_t ?_); exact rfl) | refine tell ?_ | exact True.intro | (refine IsT.of ?_; kernel_rfl))
  all_goals (try refine Tell.mk ?_)
  all_goals first | with_reducible rfl | with_reducible exact isI_mk | with_reducible assumption | (with_reducible refine gb_t ?_; with_reducible assumption) | (with_reducible refine gb_f ?_; with_reducible assumption) | ((with_reducible refine lk_t ?_); rfl) | ((with_reducible refine okF_t ?_); kernel_rfl) | ((with_reducible refine ks_t ?_); rfl) | ((with_reducible refine pk_t ?_); rfl) | ((with_reducible refine pf_t ?_); rfl) | skip
  all_goals (try dsimp only at *)
  all_goals (try simp only [decide_eq_true_eq, decide_eq_false_iff_not, Bool.or_eq_true, Bool.or_eq_false_iff, Bool.and_eq_true, Bool.and_eq_false_iff, Bool.not_eq_true', Bool.not_eq_false', bne_iff_ne, ne_eq, beq_iff_eq, bne_eq_false_iff_eq, beq_eq_false_iff_ne, Int.not_lt, Int.not_le, gt_iff_lt, ge_iff_le] at *)
  all_goals (try simp only [mulN1, Nat.add_zero, Nat.zero_add, Nat.mul_one, Int.toNat_natCast, avInt_int, intF_mk] at *)
  all_goals first | with_reducible rfl | with_reducible exact nums_N | omega | ((with_reducible refine by_le 1 rfl ?_); omega) | ((with_reducible refine by_le 8 rfl ?_); omega) | (rw [wrapI (by omega) (by omega)] <;> omega) | skip
  all_goals (try simp only [Int.add_sub_cancel] at *)
  all_goals first | exact hG | with_reducible rfl | omega | (rw [wrapI (by omega) (by omega)]; omega) | (show 13 = _; rfl) | (show 26 * ((w.toNat - 1) * 0) = 0; rfl) | (rw [show k = h.toNat - 1 by omega]; done) | skip
  all_goals (have ek0 : IntKind.i64.wrap (k : Int) = (k : Int) := wrapI (by omega) (by omega); have ei0 : IntKind.i64.wrap (i : Int) = (i : Int) := wrapI (by omega) (by omega))
  all_goals (try simp only [ek0, ei0])
  all_goals first | exact hG | with_reducible rfl | omega | skip
  all_goals (have hL := pc_le (W := w.toNat - 1) (H := h.toNat - 1) (k := k) (i := i) (by omega) (by omega) (by omega) (by omega))
  all_goals (try rw [size_S]); all_goals (try rw [bytes_S])
  all_goals first | omega | (show 2 * 13 ≤ 26; omega) | (rw [Nat.mul_succ]; omega) | exact piece_step (by omega) (by omega) (by assumption) | trace_state
def piecesR_r (w h : Int) (x y z d n : Nat) (H : Nat → Int) (s : Int) : AV := .tup [.sl (2 * ((w.toNat - 1) * (h.toNat - 1))) 13 (flatF 13 (pcR w.toNat x y z d H s)), .int .i64 0]
def piecesR_p (w h : Int) (x y z d n : Nat) (H : Nat → Int) (s : Int) : Prop := fieldE w h x y z d n H s = 0
def piecesR_k : Con Tryz.prog := ⟨31, fun args => match args with | [.agg [.int .i64 w, .int .i64 h, .flt x, .flt y, .flt z, .flt d, .sl n 1 g_H, .int .i64 s]] => .ok (some (IsI .i64 g_H ∧ piecesR_p w h x y z d n (intF g_H) s)) (piecesR_r w h x y z d n (intF g_H) s) | _ => .no, by
  intro args p r h hp
  split at h
  · cases h; obtain ⟨h_H, hp⟩ := hp; have e_H := h_H.eq; rw [e_H]; exact piecesR_a _ _ _ _ _ _ _ _ _ hp
  · cases h⟩
end Go.Proofs.YtdjckabogdohcaaGreat
/- Floats that are bounded: sums, differences, products, quotients; differences turned about. -/
namespace Go.Proofs.YtdjckabogdohcaaGreat
open Go.RowKit Ev Ieee
set_option linter.unusedVariables false
set_option linter.unusedSimpArgs false
set_option maxRecDepth 20000
namespace Flt

theorem h0_nn : 0 ≤ h0 := by
  have h := h0_U
  refine Rat.le_of_mul_le_mul_right (c := U) ?_ U_pos
  rw [h]; grind
theorem two_ge : ∀ k : Nat, (2 : Rat) ≤ ((2 ^ (k + 1) : Nat) : Rat) := fun k => by
  have h : 2 ^ 1 ≤ 2 ^ (k + 1) := Nat.pow_le_pow_right (by decide) (by omega)
  have e : (2 : Rat) = ((2 : Nat) : Rat) := rfl
  rw [e]
  exact Rat.natCast_le_natCast.2 h
theorem U_two : (2 : Rat) ≤ U := by
  obtain ⟨κ, hκ, e⟩ := U_nat
  have h := two_ge (κ - 1)
  rw [show κ - 1 + 1 = κ by omega, ← e] at h
  exact h
theorem h0_one : h0 ≤ 1 / 2 := by
  have h1 : (2 : Rat) * h0 ≤ U * h0 := Rat.mul_le_mul_of_nonneg_right U_two h0_nn
  rw [Rat.mul_comm U, h0_U] at h1
  have := h0_nn
  grind
theorem err_one {M : Rat} (h0' : 0 ≤ M) (h : M ≤ 1152921504606846976) : M * u + h0 ≤ 129 := by
  have := h0_one
  unfold u
  grind
/-- A float that stands for a number, and one no greater than M. -/
structure Q (x : Nat) (M : Rat) : Prop where
  fin : Fin x
  bd : Bd (val x) M
theorem Q.nn {x : Nat} {M : Rat} (h : Q x M) : 0 ≤ M := by have := h.bd; unfold Bd at this; grind
theorem Q.le {x : Nat} {M N : Rat} (h : Q x M) (h' : M ≤ N) : Q x N := ⟨h.fin, h.bd.le h'⟩
theorem near_bd {a e E M : Rat} (h : Nr a e E) (hM : Bd e M) : Bd a (M + E) := by unfold Nr Bd at *; grind
theorem Q.of {r : Nat} {e M : Rat} (h : Fin r ∧ Nr (val r) e (M * u + h0)) (hb : Bd e M) (hM : M ≤ 1152921504606846976) : Q r (M + 129) := by
  have h0M : 0 ≤ M := by unfold Bd at hb; grind
  exact ⟨h.1, (near_bd h.2 hb).le (by have := err_one h0M hM; grind)⟩
theorem Q.add {x y : Nat} {M N : Rat} (hx : Q x M) (hy : Q y N) (h : M + N ≤ 1152921504606846976) : Q (F .add x y) (M + N + 129) :=
  .of (add_err hx.fin hy.fin (hx.bd.add hy.bd) h) (hx.bd.add hy.bd) h
theorem Q.sub {x y : Nat} {M N : Rat} (hx : Q x M) (hy : Q y N) (h : M + N ≤ 1152921504606846976) : Q (F .sub x y) (M + N + 129) :=
  .of (sub_err hx.fin hy.fin (hx.bd.sub hy.bd) h) (hx.bd.sub hy.bd) h
theorem Q.mul {x y : Nat} {M N : Rat} (hx : Q x M) (hy : Q y N) (h : M * N ≤ 1152921504606846976) : Q (F .mul x y) (M * N + 129) :=
  .of (mul_err hx.fin hy.fin (mul_Bd hx.bd hy.bd) h) (mul_Bd hx.bd hy.bd) h
theorem val_pos_U {x : Nat} : 0 ≤ V x → 0 ≤ val x := fun h => by
  refine Rat.le_of_mul_le_mul_right (c := U) ?_ U_pos
  rw [Rat.zero_mul, val_U]
  exact Rat.intCast_nonneg.2 h
theorem val_le {x y : Nat} (h : V x ≤ V y) : val x ≤ val y := by
  refine Rat.le_of_mul_le_mul_right (c := U) ?_ U_pos
  rw [val_U, val_U]
  exact Rat.intCast_le_intCast.2 h
theorem val_neg {z w : Nat} (h : V z ≤ -V w) : val z ≤ -val w := by
  refine Rat.le_of_mul_le_mul_right (c := U) ?_ U_pos
  rw [Rat.neg_mul, val_U, val_U, ← Rat.intCast_neg]
  exact Rat.intCast_le_intCast.2 h
theorem val_neg' {z w : Nat} (h : -V w ≤ V z) : -val w ≤ val z := by
  refine Rat.le_of_mul_le_mul_right (c := U) ?_ U_pos
  rw [Rat.neg_mul, val_U, val_U, ← Rat.intCast_neg]
  exact Rat.intCast_le_intCast.2 h
theorem val_le_of {x κ : Nat} {M : Int} (hκ : U = ((2 ^ κ : Nat) : Rat)) (h : V x ≤ M * (2 ^ κ : Nat)) : val x ≤ (M : Rat) := by
  refine Rat.le_of_mul_le_mul_right (c := U) ?_ U_pos
  rw [val_U]
  have := Rat.intCast_le_intCast.2 h
  rw [Rat.intCast_mul, Rat.intCast_natCast, ← hκ] at this
  exact this
theorem le_val_of {x κ : Nat} {M : Int} (hκ : U = ((2 ^ κ : Nat) : Rat)) (h : M * (2 ^ κ : Nat) ≤ V x) : (M : Rat) ≤ val x := by
  refine Rat.le_of_mul_le_mul_right (c := U) ?_ U_pos
  rw [val_U]
  have := Rat.intCast_le_intCast.2 h
  rw [Rat.intCast_mul, Rat.intCast_natCast, ← hκ] at this
  exact this
theorem of_val_le {x κ : Nat} {M : Int} (hκ : U = ((2 ^ κ : Nat) : Rat)) (h : val x ≤ (M : Rat)) : V x ≤ M * (2 ^ κ : Nat) := by
  have := Rat.mul_le_mul_of_nonneg_right h (Rat.le_of_lt U_pos)
  rw [val_U, hκ] at this
  refine Rat.intCast_le_intCast.1 ?_
  rw [Rat.intCast_mul, Rat.intCast_natCast]
  exact this
theorem of_le_val {x κ : Nat} {M : Int} (hκ : U = ((2 ^ κ : Nat) : Rat)) (h : (M : Rat) ≤ val x) : M * (2 ^ κ : Nat) ≤ V x := by
  have := Rat.mul_le_mul_of_nonneg_right h (Rat.le_of_lt U_pos)
  rw [val_U, hκ] at this
  refine Rat.intCast_le_intCast.1 ?_
  rw [Rat.intCast_mul, Rat.intCast_natCast]
  exact this
theorem val_ne {x : Nat} (h : V x ≠ 0) : val x ≠ 0 := fun e => h (by
  have := val_U x
  rw [e, Rat.zero_mul] at this
  exact Rat.intCast_eq_zero_iff.1 this.symm)
theorem V_0 : V 0 = 0 := by rw [V_of (show double.read 0 = .number false 0 (-1074) by decide +kernel)]; exact signed_0 _ _
theorem val_0 : val 0 = 0 := by unfold val; rw [V_0, Rat.intCast_zero, Rat.div_def, Rat.zero_mul]
/-- A quotient of a number by one that is no lesser. -/
theorem ratio_bd {x y : Nat} (h0y : V y ≠ 0) (h : (V x).natAbs ≤ (V y).natAbs) : Bd (val x / val y) 1 := by
  have hv := val_ne h0y
  have he : (val x / val y) * val y = val x := Rat.div_mul_cancel hv
  generalize val x / val y = q at he ⊢
  rcases Int.lt_or_le (V y) 0 with g | g
  · have g1 : val y ≤ 0 := by rw [← val_0]; exact val_le (by rw [V_0]; omega)
    have g2 : val y ≤ val x := val_le (by omega)
    have g3 : val x ≤ -val y := val_neg (by omega)
    have gp : 0 < -val y := by grind
    unfold Bd
    constructor
    · refine Rat.le_of_mul_le_mul_right (c := -val y) ?_ gp
      rw [Rat.mul_neg q, he]; grind
    · refine Rat.le_of_mul_le_mul_right (c := -val y) ?_ gp
      rw [Rat.mul_neg q, he]; grind
  · have g1 := val_pos_U g
    have g2 : -val y ≤ val x := val_neg' (by omega)
    have g3 : val x ≤ val y := val_le (by omega)
    have gp : 0 < val y := by grind
    unfold Bd
    constructor
    · refine Rat.le_of_mul_le_mul_right (c := val y) ?_ gp
      rw [he]; grind
    · refine Rat.le_of_mul_le_mul_right (c := val y) ?_ gp
      rw [he]; grind
theorem Q.ratio {x y : Nat} (hx : Fin x) (hy : Fin y) (h0y : V y ≠ 0) (h : (V x).natAbs ≤ (V y).natAbs) : Q (F .quo x y) 130 := by
  have he : (val x / val y) * val y = val x := Rat.div_mul_cancel (val_ne h0y)
  have hb := ratio_bd h0y h
  exact (Q.of (quo_err hx hy h0y he hb (by grind)) hb (by grind)).le (by grind)
theorem pw_gen (c : Nat) : (8589934592000000 : Nat) <<< c = 1000000 * 2 ^ (33 + c) := by
  rw [Nat.shiftLeft_eq, Nat.pow_add, ← Nat.mul_assoc]
theorem pw33 {κ : Nat} (hκ : κ = 1074) : (8589934592000000 : Nat) <<< 1041 = 1000000 * 2 ^ κ := by
  have e : κ = 33 + 1041 := by omega
  subst e
  exact pw_gen 1041
/-- What is near is no greater than a million. -/
theorem near_V {x κ : Nat} (hκ : κ = 1074) : nearB x = true ↔ Fin x ∧ -1000000 * ((2 ^ κ : Nat) : Int) ≤ V x ∧ V x ≤ 1000000 * ((2 ^ κ : Nat) : Int) := by
  have f1 : Fin 13920209183539462144 := ⟨_, _, _, read_n1e6⟩
  have f2 : Fin 4696837146684686336 := ⟨_, _, _, read_1e6⟩
  have e1 : V 13920209183539462144 = -1000000 * ((2 ^ κ : Nat) : Int) := by
    rw [V_of read_n1e6]
    unfold signed
    rw [if_pos rfl, show ((-33 : Int) + 1074).toNat = 1041 by decide, pw33 hκ, Int.natCast_mul, Int.neg_mul]; rfl
  have e2 : V 4696837146684686336 = 1000000 * ((2 ^ κ : Nat) : Int) := by
    rw [V_of read_1e6]
    unfold signed
    rw [if_neg (by decide), show ((-33 : Int) + 1074).toNat = 1041 by decide, pw33 hκ, Int.natCast_mul]; rfl
  constructor
  · intro h
    have f := (near_small h).fin
    unfold nearB at h
    rw [fgt_flt, flt_V f1 f, flt_V f f2, feq_V f f1, feq_V f f2, e1, e2] at h
    simp only [Bool.and_eq_true, Bool.or_eq_true, decide_eq_true_eq] at h
    exact ⟨f, by omega, by omega⟩
  · rintro ⟨f, h1, h2⟩
    unfold nearB
    rw [fgt_flt, flt_V f1 f, flt_V f f2, feq_V f f1, feq_V f f2, e1, e2]
    simp only [Bool.and_eq_true, Bool.or_eq_true, decide_eq_true_eq]
    omega
theorem near_Q {x : Nat} (h : nearB x = true) : Q x 1000000 := by
  obtain ⟨κ, hκ, e⟩ := U_nat
  obtain ⟨f, h1, h2⟩ := (near_V hκ).1 h
  refine ⟨f, ?_⟩
  have g1 := le_val_of e h1
  have g2 := val_le_of e h2
  unfold Bd
  exact ⟨by simpa using g1, by simpa using g2⟩
theorem Q.near {x : Nat} (h : Q x 1000000) : nearB x = true := by
  obtain ⟨κ, hκ, e⟩ := U_nat
  have hb := h.bd
  unfold Bd at hb
  exact (near_V hκ).2 ⟨h.fin, of_le_val e (by simpa using hb.1), of_val_le e (by simpa using hb.2)⟩
theorem rung_same {P t t' : Nat} (h : Rng (2 ^ 52) P 1 t) (h' : Rng (2 ^ 52) P 1 t') : rung (2 ^ 52) II P 1 t = rung (2 ^ 52) II P 1 t' :=
  Nat.le_antisymm (rung_mono (by decide) (by decide) (Nat.le_refl _) h h') (rung_mono (by decide) (by decide) (Nat.le_refl _) h' h)
theorem II_pos : 0 < II := by unfold II; decide
theorem rung_pos {P t : Nat} (hP : 0 < P) (h : Rng (2 ^ 52) P 1 t) : 0 < rung (2 ^ 52) II P 1 t := by
  have hi := II_pos
  rcases h with ⟨rfl, _⟩ | ⟨h, _⟩
  · unfold rung rhe
    rw [Nat.zero_mul, Nat.zero_add, Nat.pow_zero, Nat.mul_one, Nat.div_one]
    omega
  · unfold rung
    have := Nat.mul_pos h (show 0 < 2 ^ 52 by decide)
    omega
/-- A difference turned about. -/
theorem sub_turn {x y : Nat} (hx : Fin x) (hy : Fin y) : isN (F .sub x y) = false ∧ isN (F .sub y x) = false ∧ key (F .sub y x) = -key (F .sub x y) := by
  obtain ⟨t, r1, n1, k1⟩ := sub_form hx hy
  obtain ⟨t', r2, n2, k2⟩ := sub_form hy hx
  refine ⟨n1, n2, ?_⟩
  have e : (V y - V x).natAbs = (V x - V y).natAbs := by omega
  rw [e] at r2 k2
  rw [k1, k2, rung_same r2 r1]
  rcases Int.lt_trichotomy (V x) (V y) with g | g | g
  · rw [decide_eq_true g, decide_eq_false (show ¬ V y < V x by omega)]; unfold sg; simp
  · have e0 : (V x - V y).natAbs = 0 := by omega
    rw [e0] at r1 ⊢
    rw [rng_0 (by decide) (by decide) r1]; unfold sg; split <;> split <;> simp
  · rw [decide_eq_true g, decide_eq_false (show ¬ V x < V y by omega)]; unfold sg; simp
theorem key_0 : key 0 = 0 := by decide +kernel
theorem Fin_0 : Fin 0 := ⟨false, 0, -1074, by decide +kernel⟩
theorem V_pos {x : Nat} (h : Fin x) : 0 < V x ↔ 0 < key x := by
  have := (V_key Fin_0 h).1
  rw [V_0, key_0] at this; exact this
theorem V_nonneg {x : Nat} (h : Fin x) : 0 ≤ V x ↔ 0 ≤ key x := by
  have := (V_key h Fin_0).1
  rw [V_0, key_0] at this; omega
theorem add_pos {x y : Nat} (hx : Fin x) (hy : Fin y) (h : 0 < V x + V y) : isN (F .add x y) = false ∧ 0 < key (F .add x y) := by
  obtain ⟨t, r, n, k⟩ := add_form hx hy
  refine ⟨n, ?_⟩
  rw [k, decide_eq_false (by omega)]
  have := rung_pos (by omega) r
  unfold sg
  rw [if_neg (by decide)]
  omega
theorem add_neg {x y : Nat} (hx : Fin x) (hy : Fin y) (h : V x + V y < 0) : isN (F .add x y) = false ∧ key (F .add x y) < 0 := by
  obtain ⟨t, r, n, k⟩ := add_form hx hy
  refine ⟨n, ?_⟩
  rw [k, decide_eq_true h]
  have := rung_pos (by omega) r
  unfold sg
  rw [if_pos rfl]
  omega
/-- The sign turned. -/
theorem key_fneg (x : Nat) : key (fneg x) = -key x := by
  have hm : fneg x % 9223372036854775808 = x % 9223372036854775808 := fneg_mod x
  have hd : fneg x / 9223372036854775808 % 2 = 1 - x / 9223372036854775808 % 2 := by
    have e : fneg x / 2 ^ 63 = x / 2 ^ 63 ^^^ 1 := by
      show (x ^^^ 2 ^ 63) / 2 ^ 63 = _
      rw [Nat.xor_div_two_pow, Nat.div_self (by decide)]
    rw [show (9223372036854775808 : Nat) = 2 ^ 63 by decide, e, show (2 : Nat) = 2 ^ 1 by decide, Nat.xor_mod_two_pow]
    have : x / (2 ^ 1) ^ 63 % 2 ^ 1 = 0 ∨ x / (2 ^ 1) ^ 63 % 2 ^ 1 = 1 := by omega
    rcases this with h | h <;> rw [h] <;> rfl
  unfold key
  rw [hm, hd]
  have : x / 9223372036854775808 % 2 = 0 ∨ x / 9223372036854775808 % 2 = 1 := by omega
  rcases this with h | h <;> rw [h] <;> unfold sg <;> simp
theorem key_Fneg {x : Nat} (h : isN x = false) : isN (Fneg x) = false ∧ key (Fneg x) = -key x := by
  have e : Fneg x = fneg x := by unfold Fneg; exact cn_notN (by rw [isN_fneg]; exact h)
  rw [e]
  exact ⟨by rw [isN_fneg]; exact h, key_fneg x⟩
theorem V_absK {x : Nat} (h : Fin x) : (V x).natAbs = Vr (key x).natAbs := by
  obtain ⟨s, r, k, h1, h2, h3⟩ := read_sr x
  have hr : r < II := by
    rcases Nat.lt_trichotomy r II with g | g | g
    · exact g
    · obtain ⟨t, m, i, e⟩ := h
      rw [h2 g] at e; cases e
    · have := h3 g; rw [h.notN] at this; cases this
  obtain ⟨m, i, _, e⟩ := h1 hr
  rw [e, k]
  unfold sg
  cases s <;> simp
end Flt
end Go.Proofs.YtdjckabogdohcaaGreat
/- Floats that are whole numbers: their sums, products and even quotients are exact. -/
namespace Go.Proofs.YtdjckabogdohcaaGreat
open Go.RowKit Ev Ieee
set_option linter.unusedVariables false
set_option linter.unusedSimpArgs false
set_option maxRecDepth 20000
namespace Flt

theorem rhe_exact {q g : Nat} (hg : 0 < g) : rhe (q * g) g = q := by
  unfold rhe
  rw [Nat.mul_mod_left, Nat.mul_div_cancel _ hg, if_neg (by omega)]; rfl
theorem rung_at {P D t q : Nat} (hq : rhe P (D * 2 ^ t) = q) (h1 : q ≤ 9007199254740992) (ht : t ≤ 1074) : rung (2 ^ 52) II P D t = t * 4503599627370496 + q ∧ t * 4503599627370496 + q < II := by
  have hII : II = 9218868437227405312 := by decide
  unfold rung; rw [p52, hII, hq]
  omega
theorem rung_exact {P D t Z κ : Nat} (hκ : κ = 1074) (hD : 0 < D) (h : Rng (2 ^ 52) P D t) (hP : P = Z * 2 ^ κ * D) (hZ : Z < 9007199254740992) : rung (2 ^ 52) II P D t < II ∧ Vr (rung (2 ^ 52) II P D t) = Z * 2 ^ κ := by
  have hII : II = 9218868437227405312 := by decide
  have hg : 0 < D * 2 ^ t := Nat.mul_pos hD (Nat.two_pow_pos _)
  have p53 : (2 : Nat) ^ 53 = 9007199254740992 := by decide
  have ht : t ≤ κ := by
    rcases h with ⟨h, _⟩ | ⟨_, h, _⟩
    · omega
    · rw [hP] at h
      have h1 := Nat.le_of_mul_le_mul_right h hD
      have h2 : Z * 2 ^ κ < 2 ^ 53 * 2 ^ κ := Nat.mul_lt_mul_of_pos_right (by omega) (Nat.two_pow_pos _)
      have h3 : 2 ^ 52 * 2 ^ t < 2 ^ 53 * 2 ^ κ := Nat.lt_of_le_of_lt h1 h2
      rw [← Nat.pow_add, ← Nat.pow_add] at h3
      have := (Nat.pow_lt_pow_iff_right (by decide)).1 h3
      omega
  have eP : P = Z * 2 ^ (κ - t) * (D * 2 ^ t) := by
    have : Z * 2 ^ (κ - t) * (D * 2 ^ t) = Z * D * (2 ^ (κ - t) * 2 ^ t) := by simp only [Nat.mul_assoc, Nat.mul_left_comm, Nat.mul_comm]
    rw [this, ← Nat.pow_add, show κ - t + t = κ by omega, hP, Nat.mul_right_comm]
  have er : rhe P (D * 2 ^ t) = Z * 2 ^ (κ - t) := by rw [eP]; exact rhe_exact hg
  have q1 : rhe P (D * 2 ^ t) ≤ 9007199254740992 := rhe_upper hg (by have := h.upper; rw [p52] at this; exact this)
  have q2 : 0 < t → 4503599627370496 ≤ rhe P (D * 2 ^ t) := fun ht => rhe_lower hg (by
    rcases h with ⟨h, _⟩ | ⟨_, h, _⟩
    · omega
    · rw [p52] at h; rw [Nat.mul_comm D, ← Nat.mul_assoc]; exact h)
  rw [er] at q1 q2
  obtain ⟨f1, f2⟩ := rung_at er q1 (Nat.le_trans ht (Nat.le_of_eq hκ))
  rw [f1, Vr_at q1 q2, Nat.mul_assoc, ← Nat.pow_add, Nat.sub_add_cancel ht]
  exact ⟨f2, rfl⟩
theorem sg_natAbs {s : Bool} {P m : Nat} {z : Int} (h : sg s P = z * (m : Int)) : P = z.natAbs * m := by
  have h1 := congrArg Int.natAbs h
  rw [Int.natAbs_mul] at h1
  have h2 : (sg s P).natAbs = P := by unfold sg; cases s <;> simp
  rw [h2] at h1
  exact h1
theorem op_exact {r P D t : Nat} {s : Bool} (hD : 0 < D) (hr : Rng (2 ^ 52) P D t) (hn : isN r = false) (hk : key r = sg s (rung (2 ^ 52) II P D t)) {z : Int} (he : (z : Rat) * (U * (D : Rat)) = ((sg s P : Int) : Rat))
    (hz : -9007199254740992 < z ∧ z < 9007199254740992) : Fin r ∧ val r = (z : Rat) := by
  obtain ⟨κ, hκ, hU⟩ := U_nat
  have e1 : sg s P = z * ((2 ^ κ * D : Nat) : Int) := by
    refine Rat.intCast_inj.1 ?_
    rw [← he, hU, Rat.intCast_mul, Rat.intCast_natCast, Rat.natCast_mul]
  have e2 := sg_natAbs e1
  obtain ⟨r1, r2⟩ := rung_exact hκ hD hr (Z := z.natAbs) (by rw [e2, Nat.mul_assoc]) (by omega)
  obtain ⟨f, v⟩ := key_V hk hn r1
  refine ⟨f, ?_⟩
  have ev : V r = z * ((2 ^ κ : Nat) : Int) := by
    rw [v, r2]
    have e3 : sg s (z.natAbs * 2 ^ κ) * (D : Int) = z * ((2 ^ κ : Nat) : Int) * (D : Int) := by
      have : sg s (z.natAbs * 2 ^ κ) * (D : Int) = sg s P := by
        rw [e2]
        unfold sg
        cases s
        · simp only [Bool.false_eq_true, if_false]; rw [← Int.natCast_mul, Nat.mul_assoc]
        · simp only [if_true]; rw [Int.neg_mul, ← Int.natCast_mul, Nat.mul_assoc]
      rw [this, e1, Int.natCast_mul, Int.mul_assoc]
    exact Int.eq_of_mul_eq_mul_right (by omega) e3
  have hUp := U_pos
  have e4 : val r * U = (z : Rat) * U := by rw [val_U, ev, hU, Rat.intCast_mul, Rat.intCast_natCast]
  exact Rat.le_antisymm (Rat.le_of_mul_le_mul_right (c := U) (by rw [e4]; exact Rat.le_refl) hUp) (Rat.le_of_mul_le_mul_right (c := U) (by rw [e4]; exact Rat.le_refl) hUp)
/-- A float that is a whole number. -/
structure Iv (x : Nat) (z : Int) : Prop where
  fin : Fin x
  eq : val x = (z : Rat)
theorem Iv.V {x : Nat} {z : Int} (h : Iv x z) {κ : Nat} (hκ : U = ((2 ^ κ : Nat) : Rat)) : V x = z * ((2 ^ κ : Nat) : Int) := by
  refine Rat.intCast_inj.1 ?_
  rw [← val_U, h.eq, hκ, Rat.intCast_mul, Rat.intCast_natCast]
theorem iv_add {x y : Nat} {a b : Int} (hx : Iv x a) (hy : Iv y b) (h : -9007199254740992 < a + b ∧ a + b < 9007199254740992) : Iv (F .add x y) (a + b) := by
  obtain ⟨t, r, n, k⟩ := add_form hx.fin hy.fin
  obtain ⟨f, v⟩ := op_exact (by decide) r n k (z := a + b) (by rw [sg_abs, one_cast, Rat.mul_one, Rat.intCast_add, Rat.add_mul, ← hx.eq, ← hy.eq, val_U, val_U, Rat.intCast_add]) h
  exact ⟨f, v⟩
theorem iv_sub {x y : Nat} {a b : Int} (hx : Iv x a) (hy : Iv y b) (h : -9007199254740992 < a - b ∧ a - b < 9007199254740992) : Iv (F .sub x y) (a - b) := by
  obtain ⟨t, r, n, k⟩ := sub_form hx.fin hy.fin
  rw [show decide (Flt.V x < Flt.V y) = decide (Flt.V x - Flt.V y < 0) from decide_eq_decide.2 (by omega)] at k
  have e1 := val_U x
  have e2 := val_U y
  obtain ⟨f, v⟩ := op_exact (by decide) r n k (z := a - b) (by rw [sg_abs, one_cast, Rat.mul_one, Rat.intCast_sub, Rat.intCast_sub, ← e1, ← e2, hx.eq, hy.eq]; grind) h
  exact ⟨f, v⟩
theorem iv_mul {x y : Nat} {a b : Int} (hx : Iv x a) (hy : Iv y b) (h : -9007199254740992 < a * b ∧ a * b < 9007199254740992) : Iv (F .mul x y) (a * b) := by
  have hx' := hx
  have hy' := hy
  obtain ⟨⟨s, m, i, ex⟩, vx⟩ := hx
  obtain ⟨⟨t, n, j, ey⟩, vy⟩ := hy
  obtain ⟨_, i0, _⟩ := read_form ex
  obtain ⟨_, j0, _⟩ := read_form ey
  obtain ⟨τ, r, nn, k⟩ := mul_form ex ey
  obtain ⟨κ, hκ, hκU⟩ := U_nat
  have e1 : m * n * 2 ^ (i + j + 1074).toNat * 2 ^ κ = m * 2 ^ (i + 1074).toNat * (n * 2 ^ (j + 1074).toNat) * 2 ^ (-1074 - (i + j)).toNat := by
    have : m * 2 ^ (i + 1074).toNat * (n * 2 ^ (j + 1074).toNat) * 2 ^ (-1074 - (i + j)).toNat = m * n * (2 ^ ((i + 1074).toNat + (j + 1074).toNat + (-1074 - (i + j)).toNat)) := by
      rw [Nat.pow_add, Nat.pow_add]; simp only [Nat.mul_assoc, Nat.mul_left_comm, Nat.mul_comm]
    rw [this, Nat.mul_assoc, ← Nat.pow_add, show (i + j + 1074).toNat + κ = (i + 1074).toNat + (j + 1074).toNat + (-1074 - (i + j)).toNat by omega]
  have e2 : ((sg (s ^^ t) (m * n * 2 ^ (i + j + 1074).toNat) : Int) : Rat) * U = (Flt.V x : Rat) * (Flt.V y : Rat) * ((2 ^ (-1074 - (i + j)).toNat : Nat) : Rat) := by
    rw [V_sg ex, V_sg ey, hκU, ← sg_scale, e1, sg_scale, ← sg_mul, Rat.intCast_mul]
  obtain ⟨f, v⟩ := op_exact (Nat.two_pow_pos _) r nn k (z := a * b) (by
    have hU := U_pos
    rw [← val_U x, ← val_U y, vx, vy] at e2
    rw [Rat.intCast_mul]
    generalize ((sg (s ^^ t) (m * n * 2 ^ (i + j + 1074).toNat) : Int) : Rat) = z at *
    generalize ((2 ^ (-1074 - (i + j)).toNat : Nat) : Rat) = d at *
    have e3 : z * U = (a : Rat) * (b : Rat) * (U * d) * U := by rw [e2]; grind
    exact Rat.le_antisymm (Rat.le_of_mul_le_mul_right (c := U) (by rw [e3]; exact Rat.le_refl) hU) (Rat.le_of_mul_le_mul_right (c := U) (by rw [e3]; exact Rat.le_refl) hU)) h
  exact ⟨f, v⟩
theorem iv_quo {x y : Nat} {a b c : Int} (hx : Iv x a) (hy : Iv y b) (hb : b ≠ 0) (hc : c * b = a) (h : -9007199254740992 < c ∧ c < 9007199254740992) : Iv (F .quo x y) c := by
  obtain ⟨κ, hκ, hκU⟩ := U_nat
  have vx := hx.V hκU
  have vy := hy.V hκU
  obtain ⟨⟨s, m, i, ex⟩, _⟩ := hx
  obtain ⟨⟨t, n, j, ey⟩, _⟩ := hy
  obtain ⟨_, i0, _⟩ := read_form ex
  obtain ⟨_, j0, _⟩ := read_form ey
  have hp : (0 : Int) < ((2 ^ κ : Nat) : Int) := by have := Nat.two_pow_pos κ; omega
  have h0y : Flt.V y ≠ 0 := by rw [vy]; exact fun e => (Int.mul_eq_zero.1 e).elim hb (by omega)
  have hn : n ≠ 0 := by
    intro h; subst h; apply h0y; rw [V_of ey]; exact signed_0 _ _
  obtain ⟨τ, r, nn, k⟩ := quo_key ex ey hn
  have e1 : m * 2 ^ (i - j + 1074).toNat * (n * 2 ^ (j + 1074).toNat) = m * 2 ^ (i + 1074).toNat * 2 ^ κ * (n * 2 ^ (j - i - 1074).toNat) := by
    have h1 : m * 2 ^ (i - j + 1074).toNat * (n * 2 ^ (j + 1074).toNat) = m * n * 2 ^ ((i - j + 1074).toNat + (j + 1074).toNat) := by
      rw [Nat.pow_add]; simp only [Nat.mul_assoc, Nat.mul_left_comm, Nat.mul_comm]
    have h2 : m * 2 ^ (i + 1074).toNat * 2 ^ κ * (n * 2 ^ (j - i - 1074).toNat) = m * n * 2 ^ ((i + 1074).toNat + κ + (j - i - 1074).toNat) := by
      rw [Nat.pow_add, Nat.pow_add]; simp only [Nat.mul_assoc, Nat.mul_left_comm, Nat.mul_comm]
    rw [h1, h2, show (i - j + 1074).toNat + (j + 1074).toNat = (i + 1074).toNat + κ + (j - i - 1074).toNat by omega]
  have e2 : ((sg (s ^^ t) (m * 2 ^ (i - j + 1074).toNat) : Int) : Rat) * (Flt.V y : Rat) = (Flt.V x : Rat) * ((2 ^ κ : Nat) : Rat) * ((n * 2 ^ (j - i - 1074).toNat : Nat) : Rat) := by
    rw [V_sg ex, V_sg ey, ← Rat.intCast_mul, sg_mul, e1, sg_scale, sg_scale, Bool.xor_assoc, Bool.xor_self, Bool.xor_false]
  obtain ⟨f, v⟩ := op_exact (Nat.mul_pos (by omega) (Nat.two_pow_pos _)) r nn k (z := c) (by
    have hU := U_pos
    have hb' : (b : Rat) ≠ 0 := fun e => hb (Rat.intCast_eq_zero_iff.1 e)
    rw [vx, vy, ← hc, ← hκU, Rat.intCast_mul, Rat.intCast_mul, Rat.intCast_mul, Rat.intCast_natCast, ← hκU] at e2
    generalize ((sg (s ^^ t) (m * 2 ^ (i - j + 1074).toNat) : Int) : Rat) = z at *
    generalize ((n * 2 ^ (j - i - 1074).toNat : Nat) : Rat) = d at *
    generalize (b : Rat) = b' at *
    generalize (c : Rat) = c' at *
    generalize U = U' at *
    grind) h
  exact ⟨f, v⟩
theorem iv_of {x : Nat} {z : Int} {κ : Nat} (hκ : U = ((2 ^ κ : Nat) : Rat)) (hf : Fin x) (h : Flt.V x = z * ((2 ^ κ : Nat) : Int)) : Iv x z := by
  refine ⟨hf, ?_⟩
  have hUp := U_pos
  have e4 : val x * U = (z : Rat) * U := by rw [val_U, h, hκ, Rat.intCast_mul, Rat.intCast_natCast]
  exact Rat.le_antisymm (Rat.le_of_mul_le_mul_right (c := U) (by rw [e4]; exact Rat.le_refl) hUp) (Rat.le_of_mul_le_mul_right (c := U) (by rw [e4]; exact Rat.le_refl) hUp)
theorem iv_near {z : Int} (h : -9007199254740992 < z ∧ z < 9007199254740992) : Iv (cn (FloatKind.f64.nearest z)) z := by
  have e : FloatKind.f64.nearest z = double.nearest (decide (z < 0)) z.natAbs 0 := rfl
  obtain ⟨n1, n2⟩ := nearest_V (decide (z < 0)) (m := z.natAbs) (i := 0) (by omega) (by decide) (by decide)
  obtain ⟨κ, hκ, hU⟩ := U_nat
  rw [e, cn_notN n1.notN]
  refine iv_of hU n1 ?_
  rw [n2, show ((0 : Int) + 1074).toNat = κ by omega]
  unfold signed
  rw [Nat.shiftLeft_eq]
  by_cases g : z < 0
  · rw [decide_eq_true g, if_pos rfl, Int.natCast_mul, ← Int.neg_mul]
    congr 1; omega
  · rw [decide_eq_false g, if_neg (by decide), Int.natCast_mul]
    congr 1; omega
theorem iv_feq {x y : Nat} {z : Int} (hx : Iv x z) (hy : Iv y z) : feq x y = true := by
  obtain ⟨κ, hκ, hU⟩ := U_nat
  rw [feq_V hx.fin hy.fin, hx.V hU, hy.V hU, decide_eq_true rfl]
theorem iv_cmp {x y : Nat} {a b : Int} (hx : Iv x a) (hy : Iv y b) : flt x y = decide (a < b) ∧ feq x y = decide (a = b) ∧ fgt x y = decide (b < a) := by
  obtain ⟨κ, hκ, hU⟩ := U_nat
  have hp : (0 : Int) < ((2 ^ κ : Nat) : Int) := by have := Nat.two_pow_pos κ; omega
  have lt : ∀ a b : Int, (a * ((2 ^ κ : Nat) : Int) < b * ((2 ^ κ : Nat) : Int)) = (a < b) := fun a b => propext ⟨fun h => Int.lt_of_mul_lt_mul_right h (Int.le_of_lt hp), fun h => Int.mul_lt_mul_of_pos_right h hp⟩
  refine ⟨?_, ?_, ?_⟩
  · rw [flt_V hx.fin hy.fin, hx.V hU, hy.V hU]; exact decide_eq_decide.2 (by rw [lt])
  · rw [feq_V hx.fin hy.fin, hx.V hU, hy.V hU]
    refine decide_eq_decide.2 ⟨fun h => Int.eq_of_mul_eq_mul_right (by omega) h, fun h => by rw [h]⟩
  · rw [fgt_flt, flt_V hy.fin hx.fin, hx.V hU, hy.V hU]; exact decide_eq_decide.2 (by rw [lt])
end Flt
end Go.Proofs.YtdjckabogdohcaaGreat
/- Fields: the numbers of their pieces are numbers. -/
namespace Go.Proofs.YtdjckabogdohcaaGreat
open Go.RowKit Ev Flt
set_option linter.unusedVariables false
set_option linter.unusedSimpArgs false
set_option maxRecDepth 20000

theorem nI_Q {i M : Int} (h : -M ≤ i ∧ i ≤ M) (hM : M ≤ 9007199254740991) : Q (cn (FloatKind.f64.nearest i)) (M : Rat) := by
  obtain ⟨f, e⟩ := iv_near (z := i) (by omega)
  refine ⟨f, ?_⟩
  rw [e]
  unfold Bd
  have h1 := Rat.intCast_le_intCast.2 h.1
  have h2 := Rat.intCast_le_intCast.2 h.2
  rw [Rat.intCast_neg] at h1
  exact ⟨h1, h2⟩
theorem iv_1000 : Iv 4652007308841189376 1000 := by
  have := iv_near (z := 1000) (by omega)
  rwa [show cn (FloatKind.f64.nearest 1000) = 4652007308841189376 by decide +kernel] at this
theorem quo_1000 {x : Nat} {M : Rat} (h : Q x M) (hM : M ≤ 1152921504606846976) : Q (F .quo x 4652007308841189376) (M + 129) := by
  have v : val 4652007308841189376 = 1000 := by rw [iv_1000.eq]; rfl
  have v0 : V 4652007308841189376 ≠ 0 := fun e => by
    have : val 4652007308841189376 = 0 := by unfold val; rw [e, Rat.intCast_zero, Rat.div_def, Rat.zero_mul]
    rw [v] at this; exact absurd this (by decide)
  have he : (val x / 1000) * val 4652007308841189376 = val x := by rw [v]; grind
  have hb : Bd (val x / 1000) M := by
    have := h.bd
    unfold Bd at *
    grind
  exact .of (quo_err h.fin iv_1000.fin v0 he hb hM) hb hM
theorem fX_Q {x d : Nat} {i : Int} (hx : nearB x = true) (hd : nearB d = true) (hi : 0 ≤ i ∧ i ≤ 8) : Q (fX x d i) 10000000 := by
  have h1 := (nI_Q (i := i) (M := 8) (by omega) (by omega)).mul (near_Q hd) (by grind)
  exact ((near_Q hx).add h1 (by grind)).le (by grind)
theorem fY_Q {y : Nat} {h : Int} (hy : nearB y = true) (hh : -1000000 ≤ h ∧ h ≤ 1000000) : Q (fY y h) 10000000 := by
  have h1 := quo_1000 (nI_Q (i := h) (M := 1000000) hh (by omega)) (by grind)
  exact ((near_Q hy).add h1 (by grind)).le (by grind)
theorem hi_at {H : Nat → Int} {n i : Nat} (h : firstE (hiE H) n = 0) (hi : i < n) : -1000000 ≤ H i ∧ H i ≤ 1000000 := by
  have := firstE_all h hi
  unfold hiE at this
  split at this
  · omega
  · omega
theorem Q.eq {x : Nat} {M : Rat} (h : Q x M) : feq x x = true := feq_refl h.fin.notN
end Go.Proofs.YtdjckabogdohcaaGreat
/- Fields: what rays strike of them. -/
namespace Go.Proofs.YtdjckabogdohcaaGreat
open Go.RowKit Ev
set_option linter.unusedVariables false
set_option linter.unusedSimpArgs false
set_option maxRecDepth 20000
set_option maxHeartbeats 4000000

/-- The first that is nearest. -/
def fsS (T : Nat → Nat) (O : Nat → Bool) : Nat → Int × Nat × Bool
  | 0 => (0, 0, false)
  | n + 1 => if O n = true ∧ ((fsS T O n).2.2 = false ∨ flt (T n) (fsS T O n).2.1 = true) then ((n : Int), T n, true) else fsS T O n
@[irreducible] def fsP (T : Nat → Nat) (O : Nat → Bool) (n : Nat) : Int := (fsS T O n).1
@[irreducible] def fsT (T : Nat → Nat) (O : Nat → Bool) (n : Nat) : Nat := (fsS T O n).2.1
@[irreducible] def fsO (T : Nat → Nat) (O : Nat → Bool) (n : Nat) : Bool := (fsS T O n).2.2
section
variable {T : Nat → Nat} {O : Nat → Bool} {n : Nat}
theorem fs_0 : fsP T O 0 = 0 ∧ fsT T O 0 = 0 ∧ fsO T O 0 = false := by unfold fsP fsT fsO; exact ⟨rfl, rfl, rfl⟩
theorem fs_t (h : O n = true ∧ (fsO T O n = false ∨ flt (T n) (fsT T O n) = true)) : fsP T O (n + 1) = n ∧ fsT T O (n + 1) = T n ∧ fsO T O (n + 1) = true := by
  unfold fsO fsT at h
  have e : fsS T O (n + 1) = ((n : Int), T n, true) := if_pos h
  unfold fsP fsT fsO
  rw [e]; exact ⟨rfl, rfl, rfl⟩
theorem fs_f (h : ¬ (O n = true ∧ (fsO T O n = false ∨ flt (T n) (fsT T O n) = true))) : fsP T O (n + 1) = fsP T O n ∧ fsT T O (n + 1) = fsT T O n ∧ fsO T O (n + 1) = fsO T O n := by
  unfold fsO fsT at h
  have e : fsS T O (n + 1) = fsS T O n := if_neg h
  unfold fsP fsT fsO
  rw [e]; exact ⟨rfl, rfl, rfl⟩
theorem fs_g (h : O n = false ∨ fsO T O n = true ∧ flt (T n) (fsT T O n) = false) : fsP T O (n + 1) = fsP T O n ∧ fsT T O (n + 1) = fsT T O n ∧ fsO T O (n + 1) = fsO T O n := by
  refine fs_f fun c => ?_
  rcases h with h | h
  · rw [c.1] at h; cases h
  · rcases c.2 with g | g
    · rw [h.1] at g; cases g
    · rw [h.2] at g; cases g
theorem fs_nn : ∀ n, 0 ≤ fsP T O n
  | 0 => by rw [fs_0.1]; exact Int.le_refl _
  | n + 1 => by
    by_cases h : O n = true ∧ (fsO T O n = false ∨ flt (T n) (fsT T O n) = true)
    · rw [(fs_t h).1]; omega
    · rw [(fs_f h).1]; exact fs_nn n
theorem fs_no : ∀ n, fsO T O n = false → fsP T O n = 0 ∧ fsT T O n = 0
  | 0, _ => ⟨fs_0.1, fs_0.2.1⟩
  | n + 1, hn => by
    by_cases h : O n = true ∧ (fsO T O n = false ∨ flt (T n) (fsT T O n) = true)
    · rw [(fs_t h).2.2] at hn; cases hn
    · rw [(fs_f h).1, (fs_f h).2.1]; rw [(fs_f h).2.2] at hn; exact fs_no n hn
/-- Which one, as the document counts: none is below nought. -/
@[irreducible] def fsA (T : Nat → Nat) (O : Nat → Bool) (n : Nat) : Int := if fsO T O n = true then fsP T O n else -1
theorem fsA_0 : fsA T O 0 = -1 := by unfold fsA; rw [fs_0.2.2]; rfl
theorem fsA_lt : fsA T O n < 0 ↔ fsO T O n = false := by
  have := fs_nn (T := T) (O := O) n
  unfold fsA
  cases fsO T O n <;> simp <;> omega
theorem fsA_t (h : O n = true ∧ (fsA T O n < 0 ∨ flt (T n) (fsT T O n) = true)) : fsA T O (n + 1) = n ∧ fsT T O (n + 1) = T n := by
  have g := fs_t (n := n) ⟨h.1, h.2.imp fsA_lt.1 id⟩
  refine ⟨?_, g.2.1⟩
  unfold fsA; rw [g.2.2, if_pos rfl, g.1]
theorem fsA_f (h : ¬ (O n = true ∧ (fsA T O n < 0 ∨ flt (T n) (fsT T O n) = true))) : fsA T O (n + 1) = fsA T O n ∧ fsT T O (n + 1) = fsT T O n := by
  have g := fs_f (n := n) (fun c => h ⟨c.1, c.2.imp fsA_lt.2 id⟩)
  refine ⟨?_, g.2.1⟩
  unfold fsA; rw [g.2.2, g.1]
theorem fsA_g (h : O n = false ∨ 0 ≤ fsA T O n ∧ flt (T n) (fsT T O n) = false) : fsA T O (n + 1) = fsA T O n ∧ fsT T O (n + 1) = fsT T O n := by
  refine fsA_f fun c => ?_
  rcases h with h | h
  · rw [c.1] at h; cases h
  · rcases c.2 with g | g
    · omega
    · rw [h.2] at g; cases g
theorem fsA_n (h : fsA T O n < 0) : fsP T O n = 0 ∧ fsT T O n = 0 ∧ fsO T O n = false := ⟨(fs_no n (fsA_lt.1 h)).1, (fs_no n (fsA_lt.1 h)).2, fsA_lt.1 h⟩
theorem fsA_p (h : 0 ≤ fsA T O n) : fsP T O n = fsA T O n ∧ fsO T O n = true := by
  cases ho : fsO T O n
  · have := fsA_lt.2 ho; omega
  · exact ⟨by unfold fsA; rw [ho, if_pos rfl], rfl⟩
end
/-- Where a ray strikes a piece. -/
@[reducible] def pkT (w x y z d : Nat) (H : Nat → Int) (s : Int) (X Y Z u v e l : Nat) (j : Nat) : Nat := bif sE3 (fX x d ((pcI w j + j % 2 : Nat) : Int)) (fY y (H (pcK w j * w + (pcI w j + j % 2)))) (fX z d ((pcK w j : Nat) : Int)) (fX x d ((pcI w j : Nat) : Int)) (fY y (H ((pcK w j + 1) * w + pcI w j))) (fX z d ((pcK w j + 1 : Nat) : Int)) (fX x d ((pcI w j + 1 : Nat) : Int)) (fY y (H ((pcK w j + j % 2) * w + (pcI w j + 1)))) (fX z d ((pcK w j + j % 2 : Nat) : Int)) 0 0 s X Y Z u v e l == 0 then sT3 (fX x d ((pcI w j + j % 2 : Nat) : Int)) (fY y (H (pcK w j * w + (pcI w j + j % 2)))) (fX z d ((pcK w j : Nat) : Int)) (fX x d ((pcI w j : Nat) : Int)) (fY y (H ((pcK w j + 1) * w + pcI w j))) (fX z d ((pcK w j + 1 : Nat) : Int)) (fX x d ((pcI w j + 1 : Nat) : Int)) (fY y (H ((pcK w j + j % 2) * w + (pcI w j + 1)))) (fX z d ((pcK w j + j % 2 : Nat) : Int)) X Y Z u v e l else 0
@[reducible] def pkO (w x y z d : Nat) (H : Nat → Int) (s : Int) (X Y Z u v e l : Nat) (j : Nat) : Bool := bif sE3 (fX x d ((pcI w j + j % 2 : Nat) : Int)) (fY y (H (pcK w j * w + (pcI w j + j % 2)))) (fX z d ((pcK w j : Nat) : Int)) (fX x d ((pcI w j : Nat) : Int)) (fY y (H ((pcK w j + 1) * w + pcI w j))) (fX z d ((pcK w j + 1 : Nat) : Int)) (fX x d ((pcI w j + 1 : Nat) : Int)) (fY y (H ((pcK w j + j % 2) * w + (pcI w j + 1)))) (fX z d ((pcK w j + j % 2 : Nat) : Int)) 0 0 s X Y Z u v e l == 0 then sO3 (fX x d ((pcI w j + j % 2 : Nat) : Int)) (fY y (H (pcK w j * w + (pcI w j + j % 2)))) (fX z d ((pcK w j : Nat) : Int)) (fX x d ((pcI w j : Nat) : Int)) (fY y (H ((pcK w j + 1) * w + pcI w j))) (fX z d ((pcK w j + 1 : Nat) : Int)) (fX x d ((pcI w j + 1 : Nat) : Int)) (fY y (H ((pcK w j + j % 2) * w + (pcI w j + 1)))) (fX z d ((pcK w j + j % 2 : Nat) : Int)) X Y Z u v e l else false
def piN (w h : Int) : Nat := 2 * ((w.toNat - 1) * (h.toNat - 1))
theorem piN_le {w h : Int} {n : Nat} (g : Grid w h n) : piN w h ≤ 98 := by
  have := pc_le (W := w.toNat - 1) (H := h.toNat - 1) (k := h.toNat - 1) (i := 0) (by have := g.w8; omega) (by have := g.h8; omega) (Nat.le_refl _) (Nat.zero_le _)
  have h7 : (w.toNat - 1) * (h.toNat - 1) ≤ 7 * 7 := Nat.mul_le_mul (by have := g.w8; omega) (by have := g.h8; omega)
  unfold piN; omega
theorem bounds0_f : FnOk Tryz.prog 25 Tryz.f25 := ⟨Tryz.func25, by kernel_rfl⟩
theorem bounds0_a (w h : Int) (x y z d n : Nat) (H : Nat → Int) (s : Int) (hpre : fieldE w h x y z d n H s = 0) : ACalls Tryz.prog 25 [.agg [.int .i64 w, .int .i64 h, .flt x, .flt y, .flt z, .flt d, ints .i64 n H, .int .i64 s]] (.tup [.agg (bRow w.toNat x y z d H n), .int .i64 0]) := by
  refine acalls_of (inl := hasI (P := Tryz.prog) [] []) (base [fieldMay_k, fieldBx_k] [] []) 0 bounds0_f (And.intro (by kernel_rfl) ?_)
  repeat' (first | refine And.intro ?_ ?_ | (with_reducible exact ff_elim) | (with_reducible exact tf_elim) | refine num_elim ?_ | intro _ | (with_reducible rfl) | ((with_reducible refine lk_t ?_); exact rfl) | ((with_reducible refine pf_t ?_); exact rfl) | refine tell ?_ | exact True.intro | (refine IsT.of ?_; kernel_rfl))
  all_goals (try refine Tell.mk ?_)
  all_goals (try simp only [intF_mk] at *)
  all_goals first | with_reducible rfl | with_reducible exact isI_mk | with_reducible assumption | exact absurd hpre (by assumption) | exact absurd hpre.1 (by assumption) | exact (fieldE_ok hpre).1 | exact hpre | (simp_all; done)
def bounds0_r (w h : Int) (x y z d n : Nat) (H : Nat → Int) (s : Int) : AV := .tup [.agg (bRow w.toNat x y z d H n), .int .i64 0]
def bounds0_p (w h : Int) (x y z d n : Nat) (H : Nat → Int) (s : Int) : Prop := fieldE w h x y z d n H s = 0
def bounds0_k : Con Tryz.prog := ⟨25, fun args => match args with | [.agg [.int .i64 w, .int .i64 h, .flt x, .flt y, .flt z, .flt d, .sl n 1 g_H, .int .i64 s]] => .ok (some (IsI .i64 g_H ∧ bounds0_p w h x y z d n (intF g_H) s)) (bounds0_r w h x y z d n (intF g_H) s) | _ => .no, by
  intro args p r h hp
  split at h
  · cases h; obtain ⟨h_H, hp⟩ := hp; have e_H := h_H.eq; rw [e_H]; exact bounds0_a _ _ _ _ _ _ _ _ _ hp
  · cases h⟩
theorem boundsR0_f : FnOk Tryz.prog 26 Tryz.f26 := ⟨Tryz.func26, by kernel_rfl⟩
theorem boundsR0_a (w h : Int) (x y z d n : Nat) (H : Nat → Int) (s : Int) (hpre : fieldE w h x y z d n H s = 0) : ACalls Tryz.prog 26 [.agg [.int .i64 w, .int .i64 h, .flt x, .flt y, .flt z, .flt d, ints .i64 n H, .int .i64 s]] (.tup [.agg (bRow w.toNat x y z d H n), .int .i64 0]) := by
  refine acalls_of (inl := hasI (P := Tryz.prog) [] []) (base [fieldMayR_k, fieldBxR_k] [] []) 0 boundsR0_f (And.intro (by kernel_rfl) ?_)
  repeat' (first | refine And.intro ?_ ?_ | (with_reducible exact ff_elim) | (with_reducible exact tf_elim) | refine num_elim ?_ | intro _ | (with_reducible rfl) | ((with_reducible refine lk_t ?_); exact rfl) | ((with_reducible refine pf_t ?_); exact rfl) | refine tell ?_ | exact True.intro | (refine IsT.of ?_; kernel_rfl))
  all_goals (try refine Tell.mk ?_)
  all_goals (try simp only [intF_mk] at *)
  all_goals first | with_reducible rfl | with_reducible exact isI_mk | with_reducible assumption | exact absurd hpre (by assumption) | exact absurd hpre.1 (by assumption) | exact (fieldE_ok hpre).1 | exact hpre | (simp_all; done)
def boundsR0_r (w h : Int) (x y z d n : Nat) (H : Nat → Int) (s : Int) : AV := .tup [.agg (bRow w.toNat x y z d H n), .int .i64 0]
def boundsR0_p (w h : Int) (x y z d n : Nat) (H : Nat → Int) (s : Int) : Prop := fieldE w h x y z d n H s = 0
def boundsR0_k : Con Tryz.prog := ⟨26, fun args => match args with | [.agg [.int .i64 w, .int .i64 h, .flt x, .flt y, .flt z, .flt d, .sl n 1 g_H, .int .i64 s]] => .ok (some (IsI .i64 g_H ∧ boundsR0_p w h x y z d n (intF g_H) s)) (boundsR0_r w h x y z d n (intF g_H) s) | _ => .no, by
  intro args p r h hp
  split at h
  · cases h; obtain ⟨h_H, hp⟩ := hp; have e_H := h_H.eq; rw [e_H]; exact boundsR0_a _ _ _ _ _ _ _ _ _ hp
  · cases h⟩
theorem boundsX_f : FnOk Tryz.prog 25 Tryz.f25 := ⟨Tryz.func25, by kernel_rfl⟩
theorem boundsX_a (w h : Int) (x y z d n : Nat) (H : Nat → Int) (s : Int) (hpre : ¬ fieldE w h x y z d n H s = 0) : ACalls Tryz.prog 25 [.agg [.int .i64 w, .int .i64 h, .flt x, .flt y, .flt z, .flt d, ints .i64 n H, .int .i64 s]] (.tup [.agg [.flt 0, .flt 0, .flt 0, .flt 0, .flt 0, .flt 0], .int .i64 (fieldE w h x y z d n H s)]) := by
  refine acalls_of (inl := hasI (P := Tryz.prog) [] []) (base [fieldMay_k] [] []) 0 boundsX_f (And.intro (by kernel_rfl) ?_)
  repeat' (first | refine And.intro ?_ ?_ | (with_reducible exact ff_elim) | (with_reducible exact tf_elim) | refine num_elim ?_ | intro _ | (with_reducible rfl) | ((with_reducible refine lk_t ?_); exact rfl) | ((with_reducible refine pf_t ?_); exact rfl) | refine tell ?_ | exact True.intro | (refine IsT.of ?_; kernel_rfl))
  all_goals (try refine Tell.mk ?_)
  all_goals (try simp only [intF_mk] at *)
  all_goals first | with_reducible rfl | with_reducible exact isI_mk | with_reducible assumption | exact absurd hpre (by assumption) | exact absurd hpre.1 (by assumption) | (simp_all; done)
def boundsX_r (w h : Int) (x y z d n : Nat) (H : Nat → Int) (s : Int) : AV := .tup [.agg [.flt 0, .flt 0, .flt 0, .flt 0, .flt 0, .flt 0], .int .i64 (fieldE w h x y z d n H s)]
def boundsX_p (w h : Int) (x y z d n : Nat) (H : Nat → Int) (s : Int) : Prop := ¬ fieldE w h x y z d n H s = 0
def boundsX_k : Con Tryz.prog := ⟨25, fun args => match args with | [.agg [.int .i64 w, .int .i64 h, .flt x, .flt y, .flt z, .flt d, .sl n 1 g_H, .int .i64 s]] => .ok (some (IsI .i64 g_H ∧ boundsX_p w h x y z d n (intF g_H) s)) (boundsX_r w h x y z d n (intF g_H) s) | _ => .no, by
  intro args p r h hp
  split at h
  · cases h; obtain ⟨h_H, hp⟩ := hp; have e_H := h_H.eq; rw [e_H]; exact boundsX_a _ _ _ _ _ _ _ _ _ hp
  · cases h⟩
theorem boundsRX_f : FnOk Tryz.prog 26 Tryz.f26 := ⟨Tryz.func26, by kernel_rfl⟩
theorem boundsRX_a (w h : Int) (x y z d n : Nat) (H : Nat → Int) (s : Int) (hpre : ¬ fieldE w h x y z d n H s = 0) : ACalls Tryz.prog 26 [.agg [.int .i64 w, .int .i64 h, .flt x, .flt y, .flt z, .flt d, ints .i64 n H, .int .i64 s]] (.tup [.agg [.flt 0, .flt 0, .flt 0, .flt 0, .flt 0, .flt 0], .int .i64 (fieldE w h x y z d n H s)]) := by
  refine acalls_of (inl := hasI (P := Tryz.prog) [] []) (base [fieldMayR_k] [] []) 0 boundsRX_f (And.intro (by kernel_rfl) ?_)
  repeat' (first | refine And.intro ?_ ?_ | (with_reducible exact ff_elim) | (with_reducible exact tf_elim) | refine num_elim ?_ | intro _ | (with_reducible rfl) | ((with_reducible refine lk_t ?_); exact rfl) | ((with_reducible refine pf_t ?_); exact rfl) | refine tell ?_ | exact True.intro | (refine IsT.of ?_; kernel_rfl))
  all_goals (try refine Tell.mk ?_)
  all_goals (try simp only [intF_mk] at *)
  all_goals first | with_reducible rfl | with_reducible exact isI_mk | with_reducible assumption | exact absurd hpre (by assumption) | exact absurd hpre.1 (by assumption) | (simp_all; done)
def boundsRX_r (w h : Int) (x y z d n : Nat) (H : Nat → Int) (s : Int) : AV := .tup [.agg [.flt 0, .flt 0, .flt 0, .flt 0, .flt 0, .flt 0], .int .i64 (fieldE w h x y z d n H s)]
def boundsRX_p (w h : Int) (x y z d n : Nat) (H : Nat → Int) (s : Int) : Prop := ¬ fieldE w h x y z d n H s = 0
def boundsRX_k : Con Tryz.prog := ⟨26, fun args => match args with | [.agg [.int .i64 w, .int .i64 h, .flt x, .flt y, .flt z, .flt d, .sl n 1 g_H, .int .i64 s]] => .ok (some (IsI .i64 g_H ∧ boundsRX_p w h x y z d n (intF g_H) s)) (boundsRX_r w h x y z d n (intF g_H) s) | _ => .no, by
  intro args p r h hp
  split at h
  · cases h; obtain ⟨h_H, hp⟩ := hp; have e_H := h_H.eq; rw [e_H]; exact boundsRX_a _ _ _ _ _ _ _ _ _ hp
  · cases h⟩
theorem piecesX_f : FnOk Tryz.prog 30 Tryz.f30 := ⟨Tryz.func30, by kernel_rfl⟩
theorem piecesX_a (w h : Int) (x y z d n : Nat) (H : Nat → Int) (s : Int) (hpre : ¬ fieldE w h x y z d n H s = 0) : ACalls Tryz.prog 30 [.agg [.int .i64 w, .int .i64 h, .flt x, .flt y, .flt z, .flt d, ints .i64 n H, .int .i64 s]] (.tup [.nils, .int .i64 (fieldE w h x y z d n H s)]) := by
  refine acalls_of (inl := hasI (P := Tryz.prog) [] []) (base [fieldMay_k] [] []) 0 piecesX_f (And.intro (by kernel_rfl) ?_)
  repeat' (first | refine And.intro ?_ ?_ | (with_reducible exact ff_elim) | (with_reducible exact tf_elim) | refine num_elim ?_ | intro _ | (with_reducible rfl) | ((with_reducible refine lk_t ?_); exact rfl) | ((with_reducible refine pf_t ?_); exact rfl) | refine tell ?_ | exact True.intro | (refine IsT.of ?_; kernel_rfl))
  all_goals (try refine Tell.mk ?_)
  all_goals (try simp only [intF_mk] at *)
  all_goals first | with_reducible rfl | with_reducible exact isI_mk | with_reducible assumption | exact absurd hpre (by assumption) | exact absurd hpre.1 (by assumption) | (simp_all; done)
def piecesX_r (w h : Int) (x y z d n : Nat) (H : Nat → Int) (s : Int) : AV := .tup [.nils, .int .i64 (fieldE w h x y z d n H s)]
def piecesX_p (w h : Int) (x y z d n : Nat) (H : Nat → Int) (s : Int) : Prop := ¬ fieldE w h x y z d n H s = 0
def piecesX_k : Con Tryz.prog := ⟨30, fun args => match args with | [.agg [.int .i64 w, .int .i64 h, .flt x, .flt y, .flt z, .flt d, .sl n 1 g_H, .int .i64 s]] => .ok (some (IsI .i64 g_H ∧ piecesX_p w h x y z d n (intF g_H) s)) (piecesX_r w h x y z d n (intF g_H) s) | _ => .no, by
  intro args p r h hp
  split at h
  · cases h; obtain ⟨h_H, hp⟩ := hp; have e_H := h_H.eq; rw [e_H]; exact piecesX_a _ _ _ _ _ _ _ _ _ hp
  · cases h⟩
theorem piecesRX_f : FnOk Tryz.prog 31 Tryz.f31 := ⟨Tryz.func31, by kernel_rfl⟩
theorem piecesRX_a (w h : Int) (x y z d n : Nat) (H : Nat → Int) (s : Int) (hpre : ¬ fieldE w h x y z d n H s = 0) : ACalls Tryz.prog 31 [.agg [.int .i64 w, .int .i64 h, .flt x, .flt y, .flt z, .flt d, ints .i64 n H, .int .i64 s]] (.tup [.nils, .int .i64 (fieldE w h x y z d n H s)]) := by
  refine acalls_of (inl := hasI (P := Tryz.prog) [] []) (base [fieldMayR_k] [] []) 0 piecesRX_f (And.intro (by kernel_rfl) ?_)
  repeat' (first | refine And.intro ?_ ?_ | (with_reducible exact ff_elim) | (with_reducible exact tf_elim) | refine num_elim ?_ | intro _ | (with_reducible rfl) | ((with_reducible refine lk_t ?_); exact rfl) | ((with_reducible refine pf_t ?_); exact rfl) | refine tell ?_ | exact True.intro | (refine IsT.of ?_; kernel_rfl))
  all_goals (try refine Tell.mk ?_)
  all_goals (try simp only [intF_mk] at *)
  all_goals first | with_reducible rfl | with_reducible exact isI_mk | with_reducible assumption | exact absurd hpre (by assumption) | exact absurd hpre.1 (by assumption) | (simp_all; done)
def piecesRX_r (w h : Int) (x y z d n : Nat) (H : Nat → Int) (s : Int) : AV := .tup [.nils, .int .i64 (fieldE w h x y z d n H s)]
def piecesRX_p (w h : Int) (x y z d n : Nat) (H : Nat → Int) (s : Int) : Prop := ¬ fieldE w h x y z d n H s = 0
def piecesRX_k : Con Tryz.prog := ⟨31, fun args => match args with | [.agg [.int .i64 w, .int .i64 h, .flt x, .flt y, .flt z, .flt d, .sl n 1 g_H, .int .i64 s]] => .ok (some (IsI .i64 g_H ∧ piecesRX_p w h x y z d n (intF g_H) s)) (piecesRX_r w h x y z d n (intF g_H) s) | _ => .no, by
  intro args p r h hp
  split at h
  · cases h; obtain ⟨h_H, hp⟩ := hp; have e_H := h_H.eq; rw [e_H]; exact piecesRX_a _ _ _ _ _ _ _ _ _ hp
  · cases h⟩
theorem fstrikeX_f : FnOk Tryz.prog 32 Tryz.f32 := ⟨Tryz.func32, by kernel_rfl⟩
theorem fstrikeX_a (w h : Int) (x y z d n : Nat) (H : Nat → Int) (s : Int) (X Y Z u v e l : Nat) (hpre : ¬ fieldE w h x y z d n H s = 0) : ACalls Tryz.prog 32 [.agg [.int .i64 w, .int .i64 h, .flt x, .flt y, .flt z, .flt d, ints .i64 n H, .int .i64 s], .agg [.flt X, .flt Y, .flt Z, .flt u, .flt v, .flt e, .flt l]] (.tup [.int .i64 0, .flt 0, .bool false, .int .i64 (fieldE w h x y z d n H s)]) := by
  refine acalls_of (inl := hasI (P := Tryz.prog) [] []) (base [piecesX_k] [] []) 0 fstrikeX_f (And.intro (by kernel_rfl) ?_)
  repeat' (first | refine And.intro ?_ ?_ | (with_reducible exact ff_elim) | (with_reducible exact tf_elim) | (intro hq; exact absurd (bne_eq_false_iff_eq.1 hq) hpre) | (intro hq; exact absurd (beq_iff_eq.1 hq) hpre) | refine num_elim ?_ | intro _ | (with_reducible rfl) | ((with_reducible refine lk_t ?_); exact rfl) | ((with_reducible refine pf_t ?_); exact rfl) | refine tell ?_ | exact True.intro | (refine IsT.of ?_; kernel_rfl))
  all_goals (try refine Tell.mk ?_)
  all_goals (try simp only [intF_mk] at *)
  all_goals first | with_reducible rfl | with_reducible exact isI_mk | with_reducible assumption | exact hpre.1 | exact (fieldE_ok hpre.1).1 | exact hpre | exact hpre.2 | exact hpre.2.1.symm | exact hpre.2.1 | (simp_all; done) | trace_state
def fstrikeX_r (w h : Int) (x y z d n : Nat) (H : Nat → Int) (s : Int) (X Y Z u v e l : Nat) : AV := .tup [.int .i64 0, .flt 0, .bool false, .int .i64 (fieldE w h x y z d n H s)]
def fstrikeX_p (w h : Int) (x y z d n : Nat) (H : Nat → Int) (s : Int) (X Y Z u v e l : Nat) : Prop := ¬ fieldE w h x y z d n H s = 0
def fstrikeX_k : Con Tryz.prog := ⟨32, fun args => match args with | [.agg [.int .i64 w, .int .i64 h, .flt x, .flt y, .flt z, .flt d, .sl n 1 g_H, .int .i64 s], .agg [.flt X, .flt Y, .flt Z, .flt u, .flt v, .flt e, .flt l]] => .ok (some (IsI .i64 g_H ∧ fstrikeX_p w h x y z d n (intF g_H) s X Y Z u v e l)) (fstrikeX_r w h x y z d n (intF g_H) s X Y Z u v e l) | _ => .no, by
  intro args p r h hp
  split at h
  · cases h; obtain ⟨h_H, hp⟩ := hp; have e_H := h_H.eq; rw [e_H]; exact fstrikeX_a _ _ _ _ _ _ _ _ _ _ _ _ _ _ _ _ hp
  · cases h⟩
theorem fstrikeRX_f : FnOk Tryz.prog 33 Tryz.f33 := ⟨Tryz.func33, by kernel_rfl⟩
theorem fstrikeRX_a (w h : Int) (x y z d n : Nat) (H : Nat → Int) (s : Int) (X Y Z u v e l : Nat) (hpre : ¬ fieldE w h x y z d n H s = 0) : ACalls Tryz.prog 33 [.agg [.int .i64 w, .int .i64 h, .flt x, .flt y, .flt z, .flt d, ints .i64 n H, .int .i64 s], .agg [.flt X, .flt Y, .flt Z, .flt u, .flt v, .flt e, .flt l]] (.tup [.int .i64 0, .flt 0, .bool false, .int .i64 (fieldE w h x y z d n H s)]) := by
  refine acalls_of (inl := hasI (P := Tryz.prog) [] []) (base [piecesRX_k] [] []) 0 fstrikeRX_f (And.intro (by kernel_rfl) ?_)
  repeat' (first | refine And.intro ?_ ?_ | (with_reducible exact ff_elim) | (with_reducible exact tf_elim) | (intro hq; exact absurd (bne_eq_false_iff_eq.1 hq) hpre) | (intro hq; exact absurd (beq_iff_eq.1 hq) hpre) | refine num_elim ?_ | intro _ | (with_reducible rfl) | ((with_reducible refine lk_t ?_); exact rfl) | ((with_reducible refine pf_t ?_); exact rfl) | refine tell ?_ | exact True.intro | (refine IsT.of ?_; kernel_rfl))
  all_goals (try refine Tell.mk ?_)
  all_goals (try simp only [intF_mk] at *)
  all_goals first | with_reducible rfl | with_reducible exact isI_mk | with_reducible assumption | exact hpre.1 | exact (fieldE_ok hpre.1).1 | exact hpre | exact hpre.2 | exact hpre.2.1.symm | exact hpre.2.1 | (simp_all; done) | trace_state
def fstrikeRX_r (w h : Int) (x y z d n : Nat) (H : Nat → Int) (s : Int) (X Y Z u v e l : Nat) : AV := .tup [.int .i64 0, .flt 0, .bool false, .int .i64 (fieldE w h x y z d n H s)]
def fstrikeRX_p (w h : Int) (x y z d n : Nat) (H : Nat → Int) (s : Int) (X Y Z u v e l : Nat) : Prop := ¬ fieldE w h x y z d n H s = 0
def fstrikeRX_k : Con Tryz.prog := ⟨33, fun args => match args with | [.agg [.int .i64 w, .int .i64 h, .flt x, .flt y, .flt z, .flt d, .sl n 1 g_H, .int .i64 s], .agg [.flt X, .flt Y, .flt Z, .flt u, .flt v, .flt e, .flt l]] => .ok (some (IsI .i64 g_H ∧ fstrikeRX_p w h x y z d n (intF g_H) s X Y Z u v e l)) (fstrikeRX_r w h x y z d n (intF g_H) s X Y Z u v e l) | _ => .no, by
  intro args p r h hp
  split at h
  · cases h; obtain ⟨h_H, hp⟩ := hp; have e_H := h_H.eq; rw [e_H]; exact fstrikeRX_a _ _ _ _ _ _ _ _ _ _ _ _ _ _ _ _ hp
  · cases h⟩
/-- Whether a ray meets the box around a field. -/
def fmB (w x y z d n : Nat) (H : Nat → Int) (X Y Z u v e l : Nat) : Bool := meetB (bX lessV w x d n) (bY lessV y H n) (bZ lessV w z d n) (bX moreV w x d n) (bY moreV y H n) (bZ moreV w z d n) X Y Z u v e l
theorem fm_no {w x y z d n : Nat} {H : Nat → Int} {X Y Z u v e l : Nat} (h : fmB w x y z d n H X Y Z u v e l = false) (hq : (!meetB (bX lessV w x d n) (bY lessV y H n) (bZ lessV w z d n) (bX moreV w x d n) (bY moreV y H n) (bZ moreV w z d n) X Y Z u v e l) = false) : False := by
  unfold fmB at h; rw [h] at hq; cases hq
theorem fm_yes {w x y z d n : Nat} {H : Nat → Int} {X Y Z u v e l : Nat} (h : fmB w x y z d n H X Y Z u v e l = true) (hq : (!meetB (bX lessV w x d n) (bY lessV y H n) (bZ lessV w z d n) (bX moreV w x d n) (bY moreV y H n) (bZ moreV w z d n) X Y Z u v e l) = true) : False := by
  unfold fmB at h; rw [h] at hq; cases hq
def fkB (w h : Int) (x y z d n : Nat) (H : Nat → Int) (s : Int) (X Y Z u v e l : Nat) : Prop := rayV X Y Z u v e l = 0 ∧ fmB w.toNat x y z d n H X Y Z u v e l = true
theorem fstrikeV_f : FnOk Tryz.prog 32 Tryz.f32 := ⟨Tryz.func32, by kernel_rfl⟩
theorem fstrikeV_a (w h : Int) (x y z d n : Nat) (H : Nat → Int) (s : Int) (X Y Z u v e l : Nat) (hpre : fieldE w h x y z d n H s = 0 ∧ ¬ rayV X Y Z u v e l = 0) : ACalls Tryz.prog 32 [.agg [.int .i64 w, .int .i64 h, .flt x, .flt y, .flt z, .flt d, ints .i64 n H, .int .i64 s], .agg [.flt X, .flt Y, .flt Z, .flt u, .flt v, .flt e, .flt l]] (.tup [.int .i64 0, .flt 0, .bool false, .int .i64 (rayV X Y Z u v e l)]) := by
  refine acalls_of (inl := hasI (P := Tryz.prog) [] []) (base [pieces_k, rayfine_k] [] []) 0 fstrikeV_f (And.intro (by kernel_rfl) ?_)
  repeat' (first | refine And.intro ?_ ?_ | (with_reducible exact ff_elim) | (with_reducible exact tf_elim) | (intro hq; exact absurd hq (by decide)) | (intro hq; exact absurd (bne_eq_false_iff_eq.1 hq) hpre.2) | refine num_elim ?_ | intro _ | (with_reducible rfl) | ((with_reducible refine lk_t ?_); exact rfl) | ((with_reducible refine pf_t ?_); exact rfl) | refine tell ?_ | exact True.intro | (refine IsT.of ?_; kernel_rfl))
  all_goals (try refine Tell.mk ?_)
  all_goals (try simp only [intF_mk] at *)
  all_goals first | with_reducible rfl | with_reducible exact isI_mk | with_reducible assumption | exact hpre.1 | exact (fieldE_ok hpre.1).1 | exact hpre | exact hpre.2 | exact hpre.2.1.symm | exact hpre.2.1 | (simp_all; done) | trace_state
def fstrikeV_r (w h : Int) (x y z d n : Nat) (H : Nat → Int) (s : Int) (X Y Z u v e l : Nat) : AV := .tup [.int .i64 0, .flt 0, .bool false, .int .i64 (rayV X Y Z u v e l)]
def fstrikeV_p (w h : Int) (x y z d n : Nat) (H : Nat → Int) (s : Int) (X Y Z u v e l : Nat) : Prop := fieldE w h x y z d n H s = 0 ∧ ¬ rayV X Y Z u v e l = 0
def fstrikeV_k : Con Tryz.prog := ⟨32, fun args => match args with | [.agg [.int .i64 w, .int .i64 h, .flt x, .flt y, .flt z, .flt d, .sl n 1 g_H, .int .i64 s], .agg [.flt X, .flt Y, .flt Z, .flt u, .flt v, .flt e, .flt l]] => .ok (some (IsI .i64 g_H ∧ fstrikeV_p w h x y z d n (intF g_H) s X Y Z u v e l)) (fstrikeV_r w h x y z d n (intF g_H) s X Y Z u v e l) | _ => .no, by
  intro args p r h hp
  split at h
  · cases h; obtain ⟨h_H, hp⟩ := hp; have e_H := h_H.eq; rw [e_H]; exact fstrikeV_a _ _ _ _ _ _ _ _ _ _ _ _ _ _ _ _ hp
  · cases h⟩
theorem fstrikeRV_f : FnOk Tryz.prog 33 Tryz.f33 := ⟨Tryz.func33, by kernel_rfl⟩
theorem fstrikeRV_a (w h : Int) (x y z d n : Nat) (H : Nat → Int) (s : Int) (X Y Z u v e l : Nat) (hpre : fieldE w h x y z d n H s = 0 ∧ ¬ rayV X Y Z u v e l = 0) : ACalls Tryz.prog 33 [.agg [.int .i64 w, .int .i64 h, .flt x, .flt y, .flt z, .flt d, ints .i64 n H, .int .i64 s], .agg [.flt X, .flt Y, .flt Z, .flt u, .flt v, .flt e, .flt l]] (.tup [.int .i64 0, .flt 0, .bool false, .int .i64 (rayV X Y Z u v e l)]) := by
  refine acalls_of (inl := hasI (P := Tryz.prog) [] []) (base [piecesR_k, rayfineR_k] [] []) 0 fstrikeRV_f (And.intro (by kernel_rfl) ?_)
  repeat' (first | refine And.intro ?_ ?_ | (with_reducible exact ff_elim) | (with_reducible exact tf_elim) | (intro hq; exact absurd hq (by decide)) | (intro hq; exact absurd (bne_eq_false_iff_eq.1 hq) hpre.2) | refine num_elim ?_ | intro _ | (with_reducible rfl) | ((with_reducible refine lk_t ?_); exact rfl) | ((with_reducible refine pf_t ?_); exact rfl) | refine tell ?_ | exact True.intro | (refine IsT.of ?_; kernel_rfl))
  all_goals (try refine Tell.mk ?_)
  all_goals (try simp only [intF_mk] at *)
  all_goals first | with_reducible rfl | with_reducible exact isI_mk | with_reducible assumption | exact hpre.1 | exact (fieldE_ok hpre.1).1 | exact hpre | exact hpre.2 | exact hpre.2.1.symm | exact hpre.2.1 | (simp_all; done) | trace_state
def fstrikeRV_r (w h : Int) (x y z d n : Nat) (H : Nat → Int) (s : Int) (X Y Z u v e l : Nat) : AV := .tup [.int .i64 0, .flt 0, .bool false, .int .i64 (rayV X Y Z u v e l)]
def fstrikeRV_p (w h : Int) (x y z d n : Nat) (H : Nat → Int) (s : Int) (X Y Z u v e l : Nat) : Prop := fieldE w h x y z d n H s = 0 ∧ ¬ rayV X Y Z u v e l = 0
def fstrikeRV_k : Con Tryz.prog := ⟨33, fun args => match args with | [.agg [.int .i64 w, .int .i64 h, .flt x, .flt y, .flt z, .flt d, .sl n 1 g_H, .int .i64 s], .agg [.flt X, .flt Y, .flt Z, .flt u, .flt v, .flt e, .flt l]] => .ok (some (IsI .i64 g_H ∧ fstrikeRV_p w h x y z d n (intF g_H) s X Y Z u v e l)) (fstrikeRV_r w h x y z d n (intF g_H) s X Y Z u v e l) | _ => .no, by
  intro args p r h hp
  split at h
  · cases h; obtain ⟨h_H, hp⟩ := hp; have e_H := h_H.eq; rw [e_H]; exact fstrikeRV_a _ _ _ _ _ _ _ _ _ _ _ _ _ _ _ _ hp
  · cases h⟩
theorem fstrikeM_f : FnOk Tryz.prog 32 Tryz.f32 := ⟨Tryz.func32, by kernel_rfl⟩
theorem fstrikeM_a (w h : Int) (x y z d n : Nat) (H : Nat → Int) (s : Int) (X Y Z u v e l : Nat) (hpre : fieldE w h x y z d n H s = 0 ∧ rayV X Y Z u v e l = 0 ∧ fmB w.toNat x y z d n H X Y Z u v e l = false) : ACalls Tryz.prog 32 [.agg [.int .i64 w, .int .i64 h, .flt x, .flt y, .flt z, .flt d, ints .i64 n H, .int .i64 s], .agg [.flt X, .flt Y, .flt Z, .flt u, .flt v, .flt e, .flt l]] (.tup [.int .i64 0, .flt 0, .bool false, .int .i64 0]) := by
  refine acalls_of (inl := hasI (P := Tryz.prog) [] []) (base [pieces_k, rayfine_k, fieldBx_k, meets_k] [] []) 0 fstrikeM_f (And.intro (by kernel_rfl) ?_)
  repeat' (first | refine And.intro ?_ ?_ | (with_reducible exact ff_elim) | (with_reducible exact tf_elim) | (intro hq; exact absurd hq (by decide)) | (intro hq; exact absurd hpre.2.1 (bne_iff_ne.1 hq)) | (intro hq; exact (fm_no hpre.2.2 hq).elim) | (intro hq; exact (fm_yes hpre.2.2 hq).elim) | refine num_elim ?_ | intro _ | (with_reducible rfl) | ((with_reducible refine lk_t ?_); exact rfl) | ((with_reducible refine pf_t ?_); exact rfl) | refine tell ?_ | exact True.intro | (refine IsT.of ?_; kernel_rfl))
  all_goals (try refine Tell.mk ?_)
  all_goals (try simp only [intF_mk] at *)
  all_goals first | with_reducible rfl | with_reducible exact isI_mk | with_reducible assumption | exact hpre.1 | exact (fieldE_ok hpre.1).1 | exact hpre | exact hpre.2 | exact hpre.2.1.symm | exact hpre.2.1 | (simp_all; done) | trace_state
def fstrikeM_r (w h : Int) (x y z d n : Nat) (H : Nat → Int) (s : Int) (X Y Z u v e l : Nat) : AV := .tup [.int .i64 0, .flt 0, .bool false, .int .i64 0]
def fstrikeM_p (w h : Int) (x y z d n : Nat) (H : Nat → Int) (s : Int) (X Y Z u v e l : Nat) : Prop := fieldE w h x y z d n H s = 0 ∧ rayV X Y Z u v e l = 0 ∧ fmB w.toNat x y z d n H X Y Z u v e l = false
def fstrikeM_k : Con Tryz.prog := ⟨32, fun args => match args with | [.agg [.int .i64 w, .int .i64 h, .flt x, .flt y, .flt z, .flt d, .sl n 1 g_H, .int .i64 s], .agg [.flt X, .flt Y, .flt Z, .flt u, .flt v, .flt e, .flt l]] => .ok (some (IsI .i64 g_H ∧ fstrikeM_p w h x y z d n (intF g_H) s X Y Z u v e l)) (fstrikeM_r w h x y z d n (intF g_H) s X Y Z u v e l) | _ => .no, by
  intro args p r h hp
  split at h
  · cases h; obtain ⟨h_H, hp⟩ := hp; have e_H := h_H.eq; rw [e_H]; exact fstrikeM_a _ _ _ _ _ _ _ _ _ _ _ _ _ _ _ _ hp
  · cases h⟩
theorem fstrikeRM_f : FnOk Tryz.prog 33 Tryz.f33 := ⟨Tryz.func33, by kernel_rfl⟩
theorem fstrikeRM_a (w h : Int) (x y z d n : Nat) (H : Nat → Int) (s : Int) (X Y Z u v e l : Nat) (hpre : fieldE w h x y z d n H s = 0 ∧ rayV X Y Z u v e l = 0 ∧ fmB w.toNat x y z d n H X Y Z u v e l = false) : ACalls Tryz.prog 33 [.agg [.int .i64 w, .int .i64 h, .flt x, .flt y, .flt z, .flt d, ints .i64 n H, .int .i64 s], .agg [.flt X, .flt Y, .flt Z, .flt u, .flt v, .flt e, .flt l]] (.tup [.int .i64 0, .flt 0, .bool false, .int .i64 0]) := by
  refine acalls_of (inl := hasI (P := Tryz.prog) [] []) (base [piecesR_k, rayfineR_k, fieldBxR_k, meetsS_k] [] []) 0 fstrikeRM_f (And.intro (by kernel_rfl) ?_)
  repeat' (first | refine And.intro ?_ ?_ | (with_reducible exact ff_elim) | (with_reducible exact tf_elim) | (intro hq; exact absurd hq (by decide)) | (intro hq; exact absurd hpre.2.1 (bne_iff_ne.1 hq)) | (intro hq; exact (fm_no hpre.2.2 hq).elim) | (intro hq; exact (fm_yes hpre.2.2 hq).elim) | refine num_elim ?_ | intro _ | (with_reducible rfl) | ((with_reducible refine lk_t ?_); exact rfl) | ((with_reducible refine pf_t ?_); exact rfl) | refine tell ?_ | exact True.intro | (refine IsT.of ?_; kernel_rfl))
  all_goals (try refine Tell.mk ?_)
  all_goals (try simp only [intF_mk] at *)
  all_goals first | with_reducible rfl | with_reducible exact isI_mk | with_reducible assumption | exact hpre.1 | exact (fieldE_ok hpre.1).1 | exact hpre | exact hpre.2 | exact hpre.2.1.symm | exact hpre.2.1 | (simp_all; done) | trace_state
def fstrikeRM_r (w h : Int) (x y z d n : Nat) (H : Nat → Int) (s : Int) (X Y Z u v e l : Nat) : AV := .tup [.int .i64 0, .flt 0, .bool false, .int .i64 0]
def fstrikeRM_p (w h : Int) (x y z d n : Nat) (H : Nat → Int) (s : Int) (X Y Z u v e l : Nat) : Prop := fieldE w h x y z d n H s = 0 ∧ rayV X Y Z u v e l = 0 ∧ fmB w.toNat x y z d n H X Y Z u v e l = false
def fstrikeRM_k : Con Tryz.prog := ⟨33, fun args => match args with | [.agg [.int .i64 w, .int .i64 h, .flt x, .flt y, .flt z, .flt d, .sl n 1 g_H, .int .i64 s], .agg [.flt X, .flt Y, .flt Z, .flt u, .flt v, .flt e, .flt l]] => .ok (some (IsI .i64 g_H ∧ fstrikeRM_p w h x y z d n (intF g_H) s X Y Z u v e l)) (fstrikeRM_r w h x y z d n (intF g_H) s X Y Z u v e l) | _ => .no, by
  intro args p r h hp
  split at h
  · cases h; obtain ⟨h_H, hp⟩ := hp; have e_H := h_H.eq; rw [e_H]; exact fstrikeRM_a _ _ _ _ _ _ _ _ _ _ _ _ _ _ _ _ hp
  · cases h⟩
theorem size_S13 : (Tab.cx.ti 38).size ≤ 13 := Nat.le_refl 13
theorem fstrike1_f : FnOk Tryz.prog 32 Tryz.f32 := ⟨Tryz.func32, by kernel_rfl⟩
theorem fstrike1_a (w h : Int) (x y z d n : Nat) (H : Nat → Int) (s : Int) (X Y Z u v e l : Nat) (hpre : fieldE w h x y z d n H s = 0 ∧ fkB w h x y z d n H s X Y Z u v e l) : ACalls Tryz.prog 32 [.agg [.int .i64 w, .int .i64 h, .flt x, .flt y, .flt z, .flt d, ints .i64 n H, .int .i64 s], .agg [.flt X, .flt Y, .flt Z, .flt u, .flt v, .flt e, .flt l]] (.tup [.int .i64 (fsP (pkT w.toNat x y z d H s X Y Z u v e l) (pkO w.toNat x y z d H s X Y Z u v e l) (piN w h)), .flt (fsT (pkT w.toNat x y z d H s X Y Z u v e l) (pkO w.toNat x y z d H s X Y Z u v e l) (piN w h)), .bool (fsO (pkT w.toNat x y z d H s X Y Z u v e l) (pkO w.toNat x y z d H s X Y Z u v e l) (piN w h)), .int .i64 0]) := by
  refine acalls_of (inl := hasI (P := Tryz.prog) [] []) (base [pieces_k, rayfine_k, fieldBx_k, meets_k, Strike3_k] [] []) 0 fstrike1_f (And.intro (by kernel_rfl) ?_)
  repeat' (first | refine And.intro ?_ ?_ | (with_reducible exact ff_elim) | (with_reducible exact tf_elim) | refine view_flat rfl rfl ?_ | (intro hq; exact absurd hq (by decide)) | (intro hq; exact absurd hpre.2.1 (bne_iff_ne.1 hq)) | (intro hq; exact (fm_no hpre.2.2 hq).elim) | (intro hq; exact (fm_yes hpre.2.2 hq).elim) | refine num_elim ?_ | intro _ | (with_reducible rfl) | ((with_reducible refine lk_t ?_); exact rfl) | ((with_reducible refine pf_t ?_); exact rfl) | refine tell ?_ | exact True.intro | (refine IsT.of ?_; kernel_rfl))
  all_goals (try (refine loop_keep [3, 41, 42] [1] ?_; refine LoopI.mk ({i : Nat // i ≤ piN w h}) (fun i => [(43, .int .i64 i.1), (4, .int .i64 (fsP (pkT w.toNat x y z d H s X Y Z u v e l) (pkO w.toNat x y z d H s X Y Z u v e l) i.1)), (5, .flt (fsT (pkT w.toNat x y z d H s X Y Z u v e l) (pkO w.toNat x y z d H s X Y Z u v e l) i.1)), (6, .bool (fsO (pkT w.toNat x y z d H s X Y Z u v e l) (pkO w.toNat x y z d H s X Y Z u v e l) i.1))]) (fun i => []) (fun i => piN w h - i.1) (⟨0, Nat.zero_le _⟩) (wk_mk [some 1] ?_) (fun ⟨i, hi⟩ => ?_)))
  repeat' (first | refine And.intro ?_ ?_ | (with_reducible exact ff_elim) | (with_reducible exact tf_elim) | refine stp_mk [some 1] (⟨i + 1, ?_⟩) ?_ ?_ | refine view_flat rfl rfl ?_ | refine num_elim ?_ | intro _ | (with_reducible rfl) | ((with_reducible refine lk_t ?_); exact rfl) | ((with_reducible refine pf_t ?_); exact rfl) | refine tell ?_ | exact True.intro | (refine IsT.of ?_; kernel_rfl))
  all_goals (try refine Tell.mk ?_)
  all_goals first | with_reducible rfl | with_reducible exact isI_mk | with_reducible assumption | (with_reducible refine gb_t ?_; with_reducible assumption) | (with_reducible refine gb_f ?_; with_reducible assumption) | ((with_reducible refine lk_t ?_); rfl) | ((with_reducible refine okF_t ?_); kernel_rfl) | ((with_reducible refine ks_t ?_); rfl) | ((with_reducible refine pk_t ?_); rfl) | ((with_reducible refine pf_t ?_); rfl) | skip
  all_goals (try dsimp only at *)
  all_goals (try simp only [decide_eq_true_eq, decide_eq_false_iff_not, Bool.or_eq_true, Bool.or_eq_false_iff, Bool.and_eq_true, Bool.and_eq_false_iff, Bool.not_eq_true', Bool.not_eq_false', bne_iff_ne, ne_eq, beq_iff_eq, bne_eq_false_iff_eq, beq_eq_false_iff_ne, Int.not_lt, Int.not_le, gt_iff_lt, ge_iff_le] at *)
  all_goals (try simp only [mulN1, Nat.add_zero, Nat.zero_add, Nat.mul_one, Int.toNat_natCast, avInt_int, intF_mk] at *)
  all_goals first | with_reducible rfl | with_reducible exact nums_N | omega | ((with_reducible refine by_le 1 rfl ?_); omega) | ((with_reducible refine by_le 8 rfl ?_); omega) | (rw [wrapI (by omega) (by omega)] <;> omega) | skip
  all_goals (have hN0 : piN w h = 2 * ((w.toNat - 1) * (h.toNat - 1)) := rfl)
  all_goals first | exact hpre.1 | exact (fieldE_ok hpre.1).1 | exact size_S13 | omega | (rw [show i = piN w h by omega]; done) | exact fs_0.1 | exact fs_0.2.1 | exact fs_0.2.2 | skip
  all_goals (have hN := piN_le (fieldE_ok hpre.1).1)
  all_goals (try (rw [wrapI (by omega) (by omega)]; omega))
  all_goals first | exact (fs_t (by with_reducible assumption)).1 | exact (fs_t (by with_reducible assumption)).2.1 | exact (fs_t (by with_reducible assumption)).2.2 | exact (fs_f (by with_reducible assumption)).1 | exact (fs_f (by with_reducible assumption)).2.1 | exact (fs_f (by with_reducible assumption)).2.2 | exact (fs_g (by with_reducible assumption)).1 | exact (fs_g (by with_reducible assumption)).2.1 | exact (fs_g (by with_reducible assumption)).2.2 | (refine And.intro ?_ ?_ <;> first | assumption | ((with_reducible refine gb_f ?_); have hx : fsO (pkT w.toNat x y z d H s X Y Z u v e l) (pkO w.toNat x y z d H s X Y Z u v e l) i = true := (by assumption); rw [hx]; rfl)) | assumption | trace_state
def fstrike1_r (w h : Int) (x y z d n : Nat) (H : Nat → Int) (s : Int) (X Y Z u v e l : Nat) : AV := .tup [.int .i64 (fsP (pkT w.toNat x y z d H s X Y Z u v e l) (pkO w.toNat x y z d H s X Y Z u v e l) (piN w h)), .flt (fsT (pkT w.toNat x y z d H s X Y Z u v e l) (pkO w.toNat x y z d H s X Y Z u v e l) (piN w h)), .bool (fsO (pkT w.toNat x y z d H s X Y Z u v e l) (pkO w.toNat x y z d H s X Y Z u v e l) (piN w h)), .int .i64 0]
def fstrike1_p (w h : Int) (x y z d n : Nat) (H : Nat → Int) (s : Int) (X Y Z u v e l : Nat) : Prop := fieldE w h x y z d n H s = 0 ∧ fkB w h x y z d n H s X Y Z u v e l
def fstrike1_k : Con Tryz.prog := ⟨32, fun args => match args with | [.agg [.int .i64 w, .int .i64 h, .flt x, .flt y, .flt z, .flt d, .sl n 1 g_H, .int .i64 s], .agg [.flt X, .flt Y, .flt Z, .flt u, .flt v, .flt e, .flt l]] => .ok (some (IsI .i64 g_H ∧ fstrike1_p w h x y z d n (intF g_H) s X Y Z u v e l)) (fstrike1_r w h x y z d n (intF g_H) s X Y Z u v e l) | _ => .no, by
  intro args p r h hp
  split at h
  · cases h; obtain ⟨h_H, hp⟩ := hp; have e_H := h_H.eq; rw [e_H]; exact fstrike1_a _ _ _ _ _ _ _ _ _ _ _ _ _ _ _ _ hp
  · cases h⟩
theorem fstrikeR1_f : FnOk Tryz.prog 33 Tryz.f33 := ⟨Tryz.func33, by kernel_rfl⟩
theorem fstrikeR1_a (w h : Int) (x y z d n : Nat) (H : Nat → Int) (s : Int) (X Y Z u v e l : Nat) (hpre : fieldE w h x y z d n H s = 0 ∧ fkB w h x y z d n H s X Y Z u v e l) : ACalls Tryz.prog 33 [.agg [.int .i64 w, .int .i64 h, .flt x, .flt y, .flt z, .flt d, ints .i64 n H, .int .i64 s], .agg [.flt X, .flt Y, .flt Z, .flt u, .flt v, .flt e, .flt l]] (.tup [.int .i64 (fsP (pkT w.toNat x y z d H s X Y Z u v e l) (pkO w.toNat x y z d H s X Y Z u v e l) (piN w h)), .flt (fsT (pkT w.toNat x y z d H s X Y Z u v e l) (pkO w.toNat x y z d H s X Y Z u v e l) (piN w h)), .bool (fsO (pkT w.toNat x y z d H s X Y Z u v e l) (pkO w.toNat x y z d H s X Y Z u v e l) (piN w h)), .int .i64 0]) := by
  refine acalls_of (inl := hasI (P := Tryz.prog) [] []) (base [piecesR_k, rayfineR_k, fieldBxR_k, meetsS_k, StrikeR3_k] [] []) 0 fstrikeR1_f (And.intro (by kernel_rfl) ?_)
  repeat' (first | refine And.intro ?_ ?_ | (with_reducible exact ff_elim) | (with_reducible exact tf_elim) | refine view_flat rfl rfl ?_ | (intro hq; exact absurd hq (by decide)) | (intro hq; exact absurd hpre.2.1 (bne_iff_ne.1 hq)) | (intro hq; exact (fm_no hpre.2.2 hq).elim) | (intro hq; exact (fm_yes hpre.2.2 hq).elim) | refine num_elim ?_ | intro _ | (with_reducible rfl) | ((with_reducible refine lk_t ?_); exact rfl) | ((with_reducible refine pf_t ?_); exact rfl) | refine tell ?_ | exact True.intro | (refine IsT.of ?_; kernel_rfl))
  all_goals (try (refine loop_keep [3, 8] [1] ?_; refine LoopI.mk ({i : Nat // i ≤ piN w h}) (fun i => [(15, .int .i64 i.1), (13, .int .i64 (fsA (pkT w.toNat x y z d H s X Y Z u v e l) (pkO w.toNat x y z d H s X Y Z u v e l) i.1)), (14, .flt (fsT (pkT w.toNat x y z d H s X Y Z u v e l) (pkO w.toNat x y z d H s X Y Z u v e l) i.1))]) (fun i => []) (fun i => piN w h - i.1) (⟨0, Nat.zero_le _⟩) (wk_mk [some 1] ?_) (fun ⟨i, hi⟩ => ?_)))
  repeat' (first | refine And.intro ?_ ?_ | (with_reducible exact ff_elim) | (with_reducible exact tf_elim) | refine stp_mk [some 1] (⟨i + 1, ?_⟩) ?_ ?_ | refine view_flat rfl rfl ?_ | (intro hq; exact absurd hq (by decide)) | refine num_elim ?_ | intro _ | (with_reducible rfl) | ((with_reducible refine lk_t ?_); exact rfl) | ((with_reducible refine pf_t ?_); exact rfl) | refine tell ?_ | exact True.intro | (refine IsT.of ?_; kernel_rfl))
  all_goals (try refine Tell.mk ?_)
  all_goals first | with_reducible rfl | with_reducible exact isI_mk | with_reducible assumption | (with_reducible refine gb_t ?_; with_reducible assumption) | (with_reducible refine gb_f ?_; with_reducible assumption) | ((with_reducible refine lk_t ?_); rfl) | ((with_reducible refine okF_t ?_); kernel_rfl) | ((with_reducible refine ks_t ?_); rfl) | ((with_reducible refine pk_t ?_); rfl) | ((with_reducible refine pf_t ?_); rfl) | skip
  all_goals (try dsimp only at *)
  all_goals (try simp only [decide_eq_true_eq, decide_eq_false_iff_not, Bool.or_eq_true, Bool.or_eq_false_iff, Bool.and_eq_true, Bool.and_eq_false_iff, Bool.not_eq_true', Bool.not_eq_false', bne_iff_ne, ne_eq, beq_iff_eq, bne_eq_false_iff_eq, beq_eq_false_iff_ne, Int.not_lt, Int.not_le, gt_iff_lt, ge_iff_le] at *)
  all_goals (try simp only [mulN1, Nat.add_zero, Nat.zero_add, Nat.mul_one, Int.toNat_natCast, avInt_int, intF_mk] at *)
  all_goals first | with_reducible rfl | with_reducible exact nums_N | omega | ((with_reducible refine by_le 1 rfl ?_); omega) | ((with_reducible refine by_le 8 rfl ?_); omega) | (rw [wrapI (by omega) (by omega)] <;> omega) | skip
  all_goals (have hN0 : piN w h = 2 * ((w.toNat - 1) * (h.toNat - 1)) := rfl)
  all_goals first | exact hpre.1 | exact (fieldE_ok hpre.1).1 | exact size_S13 | omega | (rw [show i = piN w h by omega]; done) | exact fsA_0 | exact fs_0.2.1 | exact (fsA_n (by assumption)).1 | skip
  all_goals (have hN := piN_le (fieldE_ok hpre.1).1)
  all_goals (try (rw [wrapI (by omega) (by omega)]; omega))
  all_goals (try (have hii : i = piN w h := (by omega); rw [← hii]))
  all_goals first | exact (fsA_n (by with_reducible assumption)).1 | exact (fsA_n (by with_reducible assumption)).2.1 | exact (fsA_n (by with_reducible assumption)).2.2 | exact (fsA_p (by with_reducible assumption)).1 | exact (fsA_p (by with_reducible assumption)).2 | exact (fsA_t (by with_reducible assumption)).1 | exact (fsA_t (by with_reducible assumption)).2 | exact (fsA_g (by with_reducible assumption)).1 | exact (fsA_g (by with_reducible assumption)).2 | (refine And.intro ?_ ?_ <;> first | assumption | ((with_reducible refine gb_f ?_); have hx : 0 ≤ fsA (pkT w.toNat x y z d H s X Y Z u v e l) (pkO w.toNat x y z d H s X Y Z u v e l) i := (by assumption); exact decide_eq_false (by omega))) | assumption | trace_state
def fstrikeR1_r (w h : Int) (x y z d n : Nat) (H : Nat → Int) (s : Int) (X Y Z u v e l : Nat) : AV := .tup [.int .i64 (fsP (pkT w.toNat x y z d H s X Y Z u v e l) (pkO w.toNat x y z d H s X Y Z u v e l) (piN w h)), .flt (fsT (pkT w.toNat x y z d H s X Y Z u v e l) (pkO w.toNat x y z d H s X Y Z u v e l) (piN w h)), .bool (fsO (pkT w.toNat x y z d H s X Y Z u v e l) (pkO w.toNat x y z d H s X Y Z u v e l) (piN w h)), .int .i64 0]
def fstrikeR1_p (w h : Int) (x y z d n : Nat) (H : Nat → Int) (s : Int) (X Y Z u v e l : Nat) : Prop := fieldE w h x y z d n H s = 0 ∧ fkB w h x y z d n H s X Y Z u v e l
def fstrikeR1_k : Con Tryz.prog := ⟨33, fun args => match args with | [.agg [.int .i64 w, .int .i64 h, .flt x, .flt y, .flt z, .flt d, .sl n 1 g_H, .int .i64 s], .agg [.flt X, .flt Y, .flt Z, .flt u, .flt v, .flt e, .flt l]] => .ok (some (IsI .i64 g_H ∧ fstrikeR1_p w h x y z d n (intF g_H) s X Y Z u v e l)) (fstrikeR1_r w h x y z d n (intF g_H) s X Y Z u v e l) | _ => .no, by
  intro args p r h hp
  split at h
  · cases h; obtain ⟨h_H, hp⟩ := hp; have e_H := h_H.eq; rw [e_H]; exact fstrikeR1_a _ _ _ _ _ _ _ _ _ _ _ _ _ _ _ _ hp
  · cases h⟩
end Go.Proofs.YtdjckabogdohcaaGreat
/- The law FieldSays. -/
namespace Go.Proofs.YtdjckabogdohcaaGreat
open Go.RowKit Ev Flt
set_option linter.unusedVariables false
set_option linter.unusedSimpArgs false
set_option maxRecDepth 20000
set_option maxHeartbeats 4000000

theorem pc_in {w h : Int} {n i : Nat} (g : Grid w h n) (hi : i < piN w h) : pcI w.toNat i + 2 ≤ w.toNat ∧ pcK w.toNat i + 2 ≤ h.toNat := by
  have g1 := g.w2
  have g2 := g.h2
  unfold piN at hi
  unfold pcI pcK
  have h1 : i / 2 < (w.toNat - 1) * (h.toNat - 1) := by omega
  have h2 := Nat.mod_lt (i / 2) (show 0 < w.toNat - 1 by omega)
  have h3 := Nat.div_lt_of_lt_mul h1
  omega
theorem grid_lt {w h : Int} {n k j : Nat} (g : Grid w h n) (hk : k + 1 ≤ h.toNat) (hj : j + 1 ≤ w.toNat) : k * w.toNat + j < n := by
  have g1 := g.w2
  have g2 := g.h2
  have e : (n : Int) = w.toNat * h.toNat := by rw [g.n]; congr 1 <;> omega
  have e : n = w.toNat * h.toNat := by exact_mod_cast e
  have h1 : (k + 1) * w.toNat ≤ h.toNat * w.toNat := Nat.mul_le_mul_right _ hk
  rw [Nat.add_mul, Nat.one_mul, Nat.mul_comm h.toNat] at h1
  omega
theorem pc_num {w h : Int} {x y z d n : Nat} {H : Nat → Int} {s : Int} {i : Nat} (h0 : fieldE w h x y z d n H s = 0) (hi : i < piN w h) :
    feq (fX x d ((pcI w.toNat i + i % 2 : Nat) : Int)) (fX x d ((pcI w.toNat i + i % 2 : Nat) : Int)) = true ∧ feq (fY y (H (pcK w.toNat i * w.toNat + (pcI w.toNat i + i % 2)))) (fY y (H (pcK w.toNat i * w.toNat + (pcI w.toNat i + i % 2)))) = true ∧ feq (fX z d ((pcK w.toNat i : Nat) : Int)) (fX z d ((pcK w.toNat i : Nat) : Int)) = true ∧ feq (fX x d ((pcI w.toNat i : Nat) : Int)) (fX x d ((pcI w.toNat i : Nat) : Int)) = true ∧ feq (fY y (H ((pcK w.toNat i + 1) * w.toNat + pcI w.toNat i))) (fY y (H ((pcK w.toNat i + 1) * w.toNat + pcI w.toNat i))) = true ∧ feq (fX z d ((pcK w.toNat i + 1 : Nat) : Int)) (fX z d ((pcK w.toNat i + 1 : Nat) : Int)) = true ∧ feq (fX x d ((pcI w.toNat i + 1 : Nat) : Int)) (fX x d ((pcI w.toNat i + 1 : Nat) : Int)) = true ∧ feq (fY y (H ((pcK w.toNat i + i % 2) * w.toNat + (pcI w.toNat i + 1)))) (fY y (H ((pcK w.toNat i + i % 2) * w.toNat + (pcI w.toNat i + 1)))) = true ∧ feq (fX z d ((pcK w.toNat i + i % 2 : Nat) : Int)) (fX z d ((pcK w.toNat i + i % 2 : Nat) : Int)) = true := by
  obtain ⟨g, _, hf, hd, _, hh, _⟩ := fieldE_ok h0
  obtain ⟨i1, i2⟩ := pc_in g hi
  have g8 := g.w8
  have g8' := g.h8
  have hm : i % 2 < 2 := Nat.mod_lt _ (by decide)
  obtain ⟨x1, y1, z1⟩ : nearB x = true ∧ nearB y = true ∧ nearB z = true := by unfold fineB at hf; simp only [Bool.and_eq_true] at hf; exact ⟨hf.1.1, hf.1.2, hf.2⟩
  have fx : ∀ {c : Nat}, c ≤ 8 → feq (fX x d (c : Int)) (fX x d (c : Int)) = true := fun {c} hc => feq_refl (fX_Q x1 hd ⟨by omega, by omega⟩).fin.notN
  have fz : ∀ {c : Nat}, c ≤ 8 → feq (fX z d (c : Int)) (fX z d (c : Int)) = true := fun {c} hc => feq_refl (fX_Q z1 hd ⟨by omega, by omega⟩).fin.notN
  have fy : ∀ {j : Nat}, j < n → feq (fY y (H j)) (fY y (H j)) = true := fun {j} hj => feq_refl (fY_Q y1 (hi_at hh hj)).fin.notN
  exact ⟨fx (by omega), fy (grid_lt g (by omega) (by omega)), fz (by omega), fx (by omega), fy (grid_lt g (by omega) (by omega)), fz (by omega), fx (by omega), fy (grid_lt g (by omega) (by omega)), fz (by omega)⟩
theorem feq_00 : feq 0 0 = true := by decide +kernel
theorem lawFX_f : FnOk Tryz.prog 6 Tryz.f6 := ⟨Tryz.func6, by kernel_rfl⟩
theorem lawFX_a (w h : Int) (x y z d n : Nat) (H : Nat → Int) (s : Int) (X Y Z u v e l : Nat) (hpre : ¬ fieldE w h x y z d n H s = 0) : ACalls Tryz.prog 6 [.agg [.int .i64 w, .int .i64 h, .flt x, .flt y, .flt z, .flt d, ints .i64 n H, .int .i64 s], .agg [.flt X, .flt Y, .flt Z, .flt u, .flt v, .flt e, .flt l]] (.bool true) := by
  refine acalls_of (inl := hasI (P := Tryz.prog) [] []) (base [boundsX_k, boundsRX_k, fieldMay_k, fieldMayR_k, samebox_k, piecesX_k, piecesRX_k, fstrikeX_k, fstrikeRX_k, same_k] [] []) 0 lawFX_f (And.intro (by kernel_rfl) ?_)
  repeat' (first | refine And.intro ?_ ?_ | (with_reducible exact ff_elim) | (with_reducible exact tf_elim) | (intro hq; exact absurd hq (by decide)) | refine Or.inl ⟨1, ?_⟩ | refine num_elim ?_ | intro _ | (with_reducible rfl) | ((with_reducible refine lk_t ?_); exact rfl) | ((with_reducible refine pf_t ?_); exact rfl) | refine tell ?_ | exact True.intro | (refine IsT.of ?_; kernel_rfl))
  all_goals (try refine Tell.mk ?_)
  all_goals (try simp only [intF_mk] at *)
  all_goals first | with_reducible rfl | with_reducible exact isI_mk | with_reducible assumption | exact hpre | exact hpre.1 | exact hpre.2.1 | exact hpre.2.2 | exact size_S13 | (simp [gb, sameV_refl]; done) | skip
  all_goals first | (simp_all [sameV_refl]; done) | trace_state
def lawFX_r (w h : Int) (x y z d n : Nat) (H : Nat → Int) (s : Int) (X Y Z u v e l : Nat) : AV := .bool true
def lawFX_p (w h : Int) (x y z d n : Nat) (H : Nat → Int) (s : Int) (X Y Z u v e l : Nat) : Prop := ¬ fieldE w h x y z d n H s = 0
def lawFX_k : Con Tryz.prog := ⟨6, fun args => match args with | [.agg [.int .i64 w, .int .i64 h, .flt x, .flt y, .flt z, .flt d, .sl n 1 g_H, .int .i64 s], .agg [.flt X, .flt Y, .flt Z, .flt u, .flt v, .flt e, .flt l]] => .ok (some (IsI .i64 g_H ∧ lawFX_p w h x y z d n (intF g_H) s X Y Z u v e l)) (lawFX_r w h x y z d n (intF g_H) s X Y Z u v e l) | _ => .no, by
  intro args p r h hp
  split at h
  · cases h; obtain ⟨h_H, hp⟩ := hp; have e_H := h_H.eq; rw [e_H]; exact lawFX_a _ _ _ _ _ _ _ _ _ _ _ _ _ _ _ _ hp
  · cases h⟩
theorem lawFV_f : FnOk Tryz.prog 6 Tryz.f6 := ⟨Tryz.func6, by kernel_rfl⟩
theorem lawFV_a (w h : Int) (x y z d n : Nat) (H : Nat → Int) (s : Int) (X Y Z u v e l : Nat) (hpre : fieldE w h x y z d n H s = 0 ∧ ¬ rayV X Y Z u v e l = 0) : ACalls Tryz.prog 6 [.agg [.int .i64 w, .int .i64 h, .flt x, .flt y, .flt z, .flt d, ints .i64 n H, .int .i64 s], .agg [.flt X, .flt Y, .flt Z, .flt u, .flt v, .flt e, .flt l]] (.bool true) := by
  refine acalls_of (inl := hasI (P := Tryz.prog) [] []) (base [bounds0_k, boundsR0_k, fieldMay_k, fieldMayR_k, samebox_k, pieces_k, piecesR_k, fstrikeV_k, fstrikeRV_k, same_k] [] []) 0 lawFV_f (And.intro (by kernel_rfl) ?_)
  repeat' (first | refine And.intro ?_ ?_ | (with_reducible exact ff_elim) | (with_reducible exact tf_elim) | refine view_flat rfl rfl ?_ | (intro hq; exact absurd hq (by decide)) | refine num_elim ?_ | intro _ | (with_reducible rfl) | ((with_reducible refine lk_t ?_); exact rfl) | ((with_reducible refine pf_t ?_); exact rfl) | refine tell ?_ | exact True.intro | (refine IsT.of ?_; kernel_rfl))
  all_goals (try (refine loop_keep [2, 3, 9, 10] [0, 1] ?_; refine LoopI.mk ({i : Nat // i ≤ piN w h}) (fun i => [(11, .int .i64 i.1)]) (fun i => []) (fun i => piN w h - i.1) (⟨0, Nat.zero_le _⟩) (wk_mk [some 0, some 1] ?_) (fun ⟨i, hi⟩ => ?_)))
  repeat' (first | refine And.intro ?_ ?_ | (with_reducible exact ff_elim) | (with_reducible exact tf_elim) | refine stp_mk [some 0, some 1] (⟨i + 1, ?_⟩) ?_ ?_ | refine view_flat rfl rfl ?_ | (intro hq; exact absurd hq (by decide)) | refine num_elim ?_ | intro _ | (with_reducible rfl) | ((with_reducible refine lk_t ?_); exact rfl) | ((with_reducible refine pf_t ?_); exact rfl) | refine tell ?_ | exact True.intro | (refine IsT.of ?_; kernel_rfl))
  all_goals (try refine Tell.mk ?_)
  all_goals (try simp only [intF_mk] at *)
  all_goals first | with_reducible rfl | with_reducible exact isI_mk | with_reducible assumption | exact hpre | exact hpre.1 | exact hpre.2.1 | exact hpre.2.2 | exact size_S13 | (simp [gb, sameV_refl]; done) | skip
  all_goals (have hN := piN_le (fieldE_ok hpre.1).1; have hN0 : piN w h = 2 * ((w.toNat - 1) * (h.toNat - 1)) := rfl)
  all_goals first | (exfalso; have hs := fieldE_ok hpre.1; simp_all [sameV_refl]; done) | skip
  all_goals (try (have hlt : (i : Int) < ((2 * ((w.toNat - 1) * (h.toNat - 1)) : Nat) : Int) := of_decide_eq_true (by with_reducible assumption)))
  all_goals first | omega | (rw [wrapI (by omega) (by omega)]; omega) | skip
  all_goals first | (have hq := pc_num (i := i) hpre.1 (by omega); rename_i hne; simp only [hq, feq_00, Bool.and_true, Bool.and_self, beq_self_eq_true, Bool.not_true, Bool.false_eq_true] at hne) | (simp_all [sameV_refl]; done) | trace_state
def lawFV_r (w h : Int) (x y z d n : Nat) (H : Nat → Int) (s : Int) (X Y Z u v e l : Nat) : AV := .bool true
def lawFV_p (w h : Int) (x y z d n : Nat) (H : Nat → Int) (s : Int) (X Y Z u v e l : Nat) : Prop := fieldE w h x y z d n H s = 0 ∧ ¬ rayV X Y Z u v e l = 0
def lawFV_k : Con Tryz.prog := ⟨6, fun args => match args with | [.agg [.int .i64 w, .int .i64 h, .flt x, .flt y, .flt z, .flt d, .sl n 1 g_H, .int .i64 s], .agg [.flt X, .flt Y, .flt Z, .flt u, .flt v, .flt e, .flt l]] => .ok (some (IsI .i64 g_H ∧ lawFV_p w h x y z d n (intF g_H) s X Y Z u v e l)) (lawFV_r w h x y z d n (intF g_H) s X Y Z u v e l) | _ => .no, by
  intro args p r h hp
  split at h
  · cases h; obtain ⟨h_H, hp⟩ := hp; have e_H := h_H.eq; rw [e_H]; exact lawFV_a _ _ _ _ _ _ _ _ _ _ _ _ _ _ _ _ hp
  · cases h⟩
theorem lawFM_f : FnOk Tryz.prog 6 Tryz.f6 := ⟨Tryz.func6, by kernel_rfl⟩
theorem lawFM_a (w h : Int) (x y z d n : Nat) (H : Nat → Int) (s : Int) (X Y Z u v e l : Nat) (hpre : fieldE w h x y z d n H s = 0 ∧ rayV X Y Z u v e l = 0 ∧ fmB w.toNat x y z d n H X Y Z u v e l = false) : ACalls Tryz.prog 6 [.agg [.int .i64 w, .int .i64 h, .flt x, .flt y, .flt z, .flt d, ints .i64 n H, .int .i64 s], .agg [.flt X, .flt Y, .flt Z, .flt u, .flt v, .flt e, .flt l]] (.bool true) := by
  refine acalls_of (inl := hasI (P := Tryz.prog) [] []) (base [bounds0_k, boundsR0_k, fieldMay_k, fieldMayR_k, samebox_k, pieces_k, piecesR_k, fstrikeM_k, fstrikeRM_k, same_k] [] []) 0 lawFM_f (And.intro (by kernel_rfl) ?_)
  repeat' (first | refine And.intro ?_ ?_ | (with_reducible exact ff_elim) | (with_reducible exact tf_elim) | refine view_flat rfl rfl ?_ | (intro hq; exact absurd hq (by decide)) | refine num_elim ?_ | intro _ | (with_reducible rfl) | ((with_reducible refine lk_t ?_); exact rfl) | ((with_reducible refine pf_t ?_); exact rfl) | refine tell ?_ | exact True.intro | (refine IsT.of ?_; kernel_rfl))
  all_goals (try (refine loop_keep [2, 3, 9, 10] [0, 1] ?_; refine LoopI.mk ({i : Nat // i ≤ piN w h}) (fun i => [(11, .int .i64 i.1)]) (fun i => []) (fun i => piN w h - i.1) (⟨0, Nat.zero_le _⟩) (wk_mk [some 0, some 1] ?_) (fun ⟨i, hi⟩ => ?_)))
  repeat' (first | refine And.intro ?_ ?_ | (with_reducible exact ff_elim) | (with_reducible exact tf_elim) | refine stp_mk [some 0, some 1] (⟨i + 1, ?_⟩) ?_ ?_ | refine view_flat rfl rfl ?_ | (intro hq; exact absurd hq (by decide)) | refine num_elim ?_ | intro _ | (with_reducible rfl) | ((with_reducible refine lk_t ?_); exact rfl) | ((with_reducible refine pf_t ?_); exact rfl) | refine tell ?_ | exact True.intro | (refine IsT.of ?_; kernel_rfl))
  all_goals (try refine Tell.mk ?_)
  all_goals (try simp only [intF_mk] at *)
  all_goals first | with_reducible rfl | with_reducible exact isI_mk | with_reducible assumption | exact hpre | exact hpre.1 | exact hpre.2.1 | exact hpre.2.2 | exact size_S13 | (simp [gb, sameV_refl]; done) | skip
  all_goals (have hN := piN_le (fieldE_ok hpre.1).1; have hN0 : piN w h = 2 * ((w.toNat - 1) * (h.toNat - 1)) := rfl)
  all_goals first | (exfalso; have hs := fieldE_ok hpre.1; simp_all [sameV_refl]; done) | skip
  all_goals (try (have hlt : (i : Int) < ((2 * ((w.toNat - 1) * (h.toNat - 1)) : Nat) : Int) := of_decide_eq_true (by with_reducible assumption)))
  all_goals first | omega | (rw [wrapI (by omega) (by omega)]; omega) | skip
  all_goals first | (have hq := pc_num (i := i) hpre.1 (by omega); rename_i hne; simp only [hq, feq_00, Bool.and_true, Bool.and_self, beq_self_eq_true, Bool.not_true, Bool.false_eq_true] at hne) | (simp_all [sameV_refl]; done) | trace_state
def lawFM_r (w h : Int) (x y z d n : Nat) (H : Nat → Int) (s : Int) (X Y Z u v e l : Nat) : AV := .bool true
def lawFM_p (w h : Int) (x y z d n : Nat) (H : Nat → Int) (s : Int) (X Y Z u v e l : Nat) : Prop := fieldE w h x y z d n H s = 0 ∧ rayV X Y Z u v e l = 0 ∧ fmB w.toNat x y z d n H X Y Z u v e l = false
def lawFM_k : Con Tryz.prog := ⟨6, fun args => match args with | [.agg [.int .i64 w, .int .i64 h, .flt x, .flt y, .flt z, .flt d, .sl n 1 g_H, .int .i64 s], .agg [.flt X, .flt Y, .flt Z, .flt u, .flt v, .flt e, .flt l]] => .ok (some (IsI .i64 g_H ∧ lawFM_p w h x y z d n (intF g_H) s X Y Z u v e l)) (lawFM_r w h x y z d n (intF g_H) s X Y Z u v e l) | _ => .no, by
  intro args p r h hp
  split at h
  · cases h; obtain ⟨h_H, hp⟩ := hp; have e_H := h_H.eq; rw [e_H]; exact lawFM_a _ _ _ _ _ _ _ _ _ _ _ _ _ _ _ _ hp
  · cases h⟩
theorem lawF1_f : FnOk Tryz.prog 6 Tryz.f6 := ⟨Tryz.func6, by kernel_rfl⟩
theorem lawF1_a (w h : Int) (x y z d n : Nat) (H : Nat → Int) (s : Int) (X Y Z u v e l : Nat) (hpre : fieldE w h x y z d n H s = 0 ∧ fkB w h x y z d n H s X Y Z u v e l) : ACalls Tryz.prog 6 [.agg [.int .i64 w, .int .i64 h, .flt x, .flt y, .flt z, .flt d, ints .i64 n H, .int .i64 s], .agg [.flt X, .flt Y, .flt Z, .flt u, .flt v, .flt e, .flt l]] (.bool true) := by
  refine acalls_of (inl := hasI (P := Tryz.prog) [] []) (base [bounds0_k, boundsR0_k, fieldMay_k, fieldMayR_k, samebox_k, pieces_k, piecesR_k, fstrike1_k, fstrikeR1_k, same_k] [] []) 0 lawF1_f (And.intro (by kernel_rfl) ?_)
  repeat' (first | refine And.intro ?_ ?_ | (with_reducible exact ff_elim) | (with_reducible exact tf_elim) | refine view_flat rfl rfl ?_ | (intro hq; exact absurd hq (by decide)) | refine num_elim ?_ | intro _ | (with_reducible rfl) | ((with_reducible refine lk_t ?_); exact rfl) | ((with_reducible refine pf_t ?_); exact rfl) | refine tell ?_ | exact True.intro | (refine IsT.of ?_; kernel_rfl))
  all_goals (try (refine loop_keep [2, 3, 9, 10] [0, 1] ?_; refine LoopI.mk ({i : Nat // i ≤ piN w h}) (fun i => [(11, .int .i64 i.1)]) (fun i => []) (fun i => piN w h - i.1) (⟨0, Nat.zero_le _⟩) (wk_mk [some 0, some 1] ?_) (fun ⟨i, hi⟩ => ?_)))
  repeat' (first | refine And.intro ?_ ?_ | (with_reducible exact ff_elim) | (with_reducible exact tf_elim) | refine stp_mk [some 0, some 1] (⟨i + 1, ?_⟩) ?_ ?_ | refine view_flat rfl rfl ?_ | (intro hq; exact absurd hq (by decide)) | refine num_elim ?_ | intro _ | (with_reducible rfl) | ((with_reducible refine lk_t ?_); exact rfl) | ((with_reducible refine pf_t ?_); exact rfl) | refine tell ?_ | exact True.intro | (refine IsT.of ?_; kernel_rfl))
  all_goals (try refine Tell.mk ?_)
  all_goals (try simp only [intF_mk] at *)
  all_goals first | with_reducible rfl | with_reducible exact isI_mk | with_reducible assumption | exact hpre | exact hpre.1 | exact hpre.2.1 | exact hpre.2.2 | exact size_S13 | (simp [gb, sameV_refl]; done) | skip
  all_goals (have hN := piN_le (fieldE_ok hpre.1).1; have hN0 : piN w h = 2 * ((w.toNat - 1) * (h.toNat - 1)) := rfl)
  all_goals first | (exfalso; have hs := fieldE_ok hpre.1; simp_all [sameV_refl]; done) | skip
  all_goals (try (have hlt : (i : Int) < ((2 * ((w.toNat - 1) * (h.toNat - 1)) : Nat) : Int) := of_decide_eq_true (by with_reducible assumption)))
  all_goals first | omega | (rw [wrapI (by omega) (by omega)]; omega) | skip
  all_goals first | (have hq := pc_num (i := i) hpre.1 (by omega); rename_i hne; simp only [hq, feq_00, Bool.and_true, Bool.and_self, beq_self_eq_true, Bool.not_true, Bool.false_eq_true] at hne) | (simp_all [sameV_refl]; done) | trace_state
def lawF1_r (w h : Int) (x y z d n : Nat) (H : Nat → Int) (s : Int) (X Y Z u v e l : Nat) : AV := .bool true
def lawF1_p (w h : Int) (x y z d n : Nat) (H : Nat → Int) (s : Int) (X Y Z u v e l : Nat) : Prop := fieldE w h x y z d n H s = 0 ∧ fkB w h x y z d n H s X Y Z u v e l
def lawF1_k : Con Tryz.prog := ⟨6, fun args => match args with | [.agg [.int .i64 w, .int .i64 h, .flt x, .flt y, .flt z, .flt d, .sl n 1 g_H, .int .i64 s], .agg [.flt X, .flt Y, .flt Z, .flt u, .flt v, .flt e, .flt l]] => .ok (some (IsI .i64 g_H ∧ lawF1_p w h x y z d n (intF g_H) s X Y Z u v e l)) (lawF1_r w h x y z d n (intF g_H) s X Y Z u v e l) | _ => .no, by
  intro args p r h hp
  split at h
  · cases h; obtain ⟨h_H, hp⟩ := hp; have e_H := h_H.eq; rw [e_H]; exact lawF1_a _ _ _ _ _ _ _ _ _ _ _ _ _ _ _ _ hp
  · cases h⟩
theorem fieldSays_f : FnOk Tryz.prog 6 Tryz.f6 := ⟨Tryz.func6, by kernel_rfl⟩
theorem fieldSays_a (w h : Int) (x y z d n : Nat) (H : Nat → Int) (s : Int) (X Y Z u v e l : Nat) : ACalls Tryz.prog 6 [.agg [.int .i64 w, .int .i64 h, .flt x, .flt y, .flt z, .flt d, ints .i64 n H, .int .i64 s], .agg [.flt X, .flt Y, .flt Z, .flt u, .flt v, .flt e, .flt l]] (.bool true) := by
  by_cases h0 : fieldE w h x y z d n H s = 0
  · by_cases h1 : rayV X Y Z u v e l = 0
    · cases h2 : fmB w.toNat x y z d n H X Y Z u v e l
      · exact lawFM_a w h x y z d n H s X Y Z u v e l ⟨h0, h1, h2⟩
      · exact lawF1_a w h x y z d n H s X Y Z u v e l ⟨h0, h1, h2⟩
    · exact lawFV_a w h x y z d n H s X Y Z u v e l ⟨h0, h1⟩
  · exact lawFX_a w h x y z d n H s X Y Z u v e l h0
def fieldSays_r (w h : Int) (x y z d n : Nat) (H : Nat → Int) (s : Int) (X Y Z u v e l : Nat) : AV := .bool true
def fieldSays_k : Con Tryz.prog := ⟨6, fun args => match args with | [.agg [.int .i64 w, .int .i64 h, .flt x, .flt y, .flt z, .flt d, .sl n 1 g_H, .int .i64 s], .agg [.flt X, .flt Y, .flt Z, .flt u, .flt v, .flt e, .flt l]] => .ok (some (IsI .i64 g_H)) (fieldSays_r w h x y z d n (intF g_H) s X Y Z u v e l) | _ => .no, by
  intro args p r h hp
  split at h
  · cases h; have h_H := hp; have e_H := h_H.eq; rw [e_H]; exact fieldSays_a _ _ _ _ _ _ _ _ _ _ _ _ _ _ _ _
  · cases h⟩
end Go.Proofs.YtdjckabogdohcaaGreat
/- The law FieldMade: fields and rays that are made of raw numbers. -/
namespace Go.Proofs.YtdjckabogdohcaaGreat
open Go.RowKit Ev Flt
set_option linter.unusedVariables false
set_option linter.unusedSimpArgs false
set_option maxRecDepth 20000
set_option maxHeartbeats 4000000

@[irreducible] def foW (n : Nat) (F : Nat → Int) (k : Int) : Int := 2 + pickF (rawF n F k) 3
@[irreducible] def foR (n : Nat) (F : Nat → Int) (k : Int) (i : Nat) : Int := pickF (rawF n F (k + 7 + i)) 2000 - 1000
theorem foW_bd (n : Nat) (F : Nat → Int) (k : Int) : 2 ≤ foW n F k ∧ foW n F k ≤ 4 := by
  unfold foW; have := pickF_bd (rawF n F k) 3 (by omega); omega
theorem foW_eq (n : Nat) (F : Nat → Int) (k : Int) : IntKind.i64.wrap (2 + pickF (rawF n F k) 3) = foW n F k := by
  have := pickF_bd (rawF n F k) 3 (by omega)
  unfold foW; exact wrapI (by omega) (by omega)
theorem foR_eq {n : Nat} {F : Nat → Int} {k : Int} {i : Nat} (hk : 0 ≤ k ∧ k ≤ 900000) (hi : i ≤ 16) : IntKind.i64.wrap (pickF (rawF n F (IntKind.i64.wrap (IntKind.i64.wrap (k + 7) + i))) 2000 - 1000) = foR n F k i := by
  have := pickF_bd (rawF n F (k + 7 + i)) 2000 (by omega)
  rw [wrapI (x := k + 7) (by omega) (by omega), wrapI (x := k + 7 + i) (by omega) (by omega), wrapI (by omega) (by omega)]
  unfold foR; rfl
theorem foWH (n : Nat) (F : Nat → Int) (k : Int) : 4 ≤ foW n F k * foW n F (k + 1) ∧ foW n F k * foW n F (k + 1) ≤ 16 := by
  have a := foW_bd n F k
  have b := foW_bd n F (k + 1)
  generalize foW n F k = x at *
  generalize foW n F (k + 1) = y at *
  have : x = 2 ∨ x = 3 ∨ x = 4 := by omega
  rcases this with rfl | rfl | rfl <;> omega
theorem fo_step {n : Nat} {F : Nat → Int} {k : Int} {i j q : Nat} (hk : 0 ≤ k ∧ k ≤ 900000) (hi : i ≤ 16) (hj : j < i + 1) :
    foR n F k j = catI i (some q) (foR n F k) (fun _ => IntKind.i64.wrap (pickF (rawF n F (IntKind.i64.wrap (IntKind.i64.wrap (k + 7) + i))) 2000 - 1000)) j := by
  rw [foR_eq hk hi, catI_some]
  split
  · rfl
  · rw [show j = i by omega]
theorem fieldOf_f : FnOk Tryz.prog 34 Tryz.f34 := ⟨Tryz.func34, by kernel_rfl⟩
theorem fieldOf_a (n : Nat) (F : Nat → Int) (k m : Int) (hpre : (∀ j, In64 (F j)) ∧ (0 ≤ k ∧ k ≤ 900000) ∧ 1 ≤ m ∧ m ≤ 1000) : ACalls Tryz.prog 34 [ints .i64 n F, .int .i64 k, .int .i64 m] (.agg [.int .i64 (foW n F k), .int .i64 (foW n F (k + 1)), .flt (milF (rawF n F (k + 2)) 3000), .flt (milF (rawF n F (k + 2 + 1)) 3000), .flt (milF (rawF n F (k + 2 + 2)) 3000), .flt (thoF (300 + pickF (rawF n F (k + 5)) 1500)), ints .i64 (foW n F k * foW n F (k + 1)).toNat (foR n F k), .int .i64 (pickF (rawF n F (k + 6)) m)]) := by
  refine acalls_of (inl := hasI (P := Tryz.prog) [] []) (base [raw_k, pick_k, vecOf_k, thousandth_k] [] []) 0 fieldOf_f (And.intro (by kernel_rfl) ?_)
  have hb := pickF_bd (rawF n F (k + 5)) 1500 (by omega)
  have w1 : IntKind.i64.wrap (k + 1) = k + 1 := wrapI (by omega) (by omega)
  have w2 : IntKind.i64.wrap (k + 2) = k + 2 := wrapI (by omega) (by omega)
  have w5 : IntKind.i64.wrap (k + 5) = k + 5 := wrapI (by omega) (by omega)
  have w6 : IntKind.i64.wrap (k + 6) = k + 6 := wrapI (by omega) (by omega)
  have w7 : IntKind.i64.wrap (300 + pickF (rawF n F (k + 5)) 1500) = 300 + pickF (rawF n F (k + 5)) 1500 := wrapI (by omega) (by omega)
  have hp := foWH n F k
  have w8 : IntKind.i64.wrap (foW n F k * foW n F (k + 1)) = foW n F k * foW n F (k + 1) := wrapI (by omega) (by omega)
  repeat' (first | refine And.intro ?_ ?_ | (with_reducible exact ff_elim) | (with_reducible exact tf_elim) | refine num_elim ?_ | intro _ | (with_reducible rfl) | ((with_reducible refine lk_t ?_); exact rfl) | ((with_reducible refine pf_t ?_); exact rfl) | refine tell ?_ | exact True.intro | (refine IsT.of ?_; kernel_rfl))
  all_goals (try (refine loop_keep [0, 1, 6, 7] [0] ?_; refine LoopI.mk ({i : Nat // (i : Int) ≤ foW n F k * foW n F (k + 1)}) (fun i => [(8, .int .i64 i.1)]) (fun i => [(30, .row [.int .i64 (foW n F k), .int .i64 (foW n F (k + 1)), .flt (milF (rawF n F (k + 2)) 3000), .flt (milF (rawF n F (k + 2 + 1)) 3000), .flt (milF (rawF n F (k + 2 + 2)) 3000), .flt (thoF (300 + pickF (rawF n F (k + 5)) 1500)), .os 1 1 0 i.1, .int .i64 (pickF (rawF n F (k + 6)) m)]), (1, .nums .i64 i.1 (foR n F k))]) (fun i => (foW n F k * foW n F (k + 1)).toNat - i.1) (⟨0, by omega⟩) (wk_mk [some 30, none, some 0] ?_) (fun ⟨i, hi⟩ => ?_)))
  repeat' (first | refine And.intro ?_ ?_ | (with_reducible exact ff_elim) | (with_reducible exact tf_elim) | refine' stp_mk [some 30, some _, some 0] (⟨i + 1, ?_⟩) ?_ ?_ | refine num_elim ?_ | intro _ | (with_reducible rfl) | ((with_reducible refine lk_t ?_); exact rfl) | ((with_reducible refine pf_t ?_); exact rfl) | refine tell ?_ | exact True.intro | (refine IsT.of ?_; kernel_rfl))
  all_goals (try refine Tell.mk ?_)
  all_goals (try dsimp only at *)
  all_goals (try simp only [intF_mk, w1, w2, w5, w6, w7, foW_eq, w8, decide_eq_true_eq, decide_eq_false_iff_not, Tab.b3, Nat.zero_add] at *)
  all_goals first | with_reducible rfl | with_reducible exact isI_mk | with_reducible assumption | omega | exact hpre.1 | exact hpre.1 _ | exact rawF_in hpre.1 | (unfold raw_p; omega) | (unfold raw_p; rw [wrapI (x := k + 7) (by omega) (by omega), wrapI (by omega) (by omega)]; omega) | (have hii : ¬ (i : Int) < foW n F k * foW n F (k + 1) := (by assumption); omega) | (generalize foW n F k * foW n F (k + 1) = z at *; omega) | exact fo_step hpre.2.1 (by omega) (by assumption) | ((with_reducible refine lk_t ?_); rfl) | ((with_reducible refine ks_t ?_); rfl) | exact nums_N | (rw [wrapI (by omega) (by omega)]; omega) | trace_state
def fieldOf_r (n : Nat) (F : Nat → Int) (k m : Int) : AV := .agg [.int .i64 (foW n F k), .int .i64 (foW n F (k + 1)), .flt (milF (rawF n F (k + 2)) 3000), .flt (milF (rawF n F (k + 2 + 1)) 3000), .flt (milF (rawF n F (k + 2 + 2)) 3000), .flt (thoF (300 + pickF (rawF n F (k + 5)) 1500)), ints .i64 (foW n F k * foW n F (k + 1)).toNat (foR n F k), .int .i64 (pickF (rawF n F (k + 6)) m)]
def fieldOf_p (n : Nat) (F : Nat → Int) (k m : Int) : Prop := (∀ j, In64 (F j)) ∧ (0 ≤ k ∧ k ≤ 900000) ∧ 1 ≤ m ∧ m ≤ 1000
def fieldOf_k : Con Tryz.prog := ⟨34, fun args => match args with | [.sl n 1 g_F, .int .i64 k, .int .i64 m] => .ok (some (IsI .i64 g_F ∧ fieldOf_p n (intF g_F) k m)) (fieldOf_r n (intF g_F) k m) | _ => .no, by
  intro args p r h hp
  split at h
  · cases h; obtain ⟨h_F, hp⟩ := hp; have e_F := h_F.eq; rw [e_F]; exact fieldOf_a _ _ _ _ hp
  · cases h⟩
theorem fieldMade_f : FnOk Tryz.prog 7 Tryz.f7 := ⟨Tryz.func7, by kernel_rfl⟩
theorem fieldMade_a (n : Nat) (F : Nat → Int) (c : Int) (hpre : (∀ j, In64 (F j)) ∧ In64 c) : ACalls Tryz.prog 7 [ints .i64 n F, .int .i64 c] (.bool true) := by
  refine acalls_of (inl := hasI (P := Tryz.prog) [] []) (base [pick_k, rayOf_k, fieldOf_k, fieldSays_k] [] []) 0 fieldMade_f (And.intro (by kernel_rfl) ?_)
  have hb := pickF_bd c 64 (by omega)
  repeat' (first | refine And.intro ?_ ?_ | (with_reducible exact ff_elim) | (with_reducible exact tf_elim) | refine num_elim ?_ | intro _ | (with_reducible rfl) | ((with_reducible refine lk_t ?_); exact rfl) | ((with_reducible refine pf_t ?_); exact rfl) | refine tell ?_ | exact True.intro | (refine IsT.of ?_; kernel_rfl))
  all_goals (try refine Tell.mk ?_)
  all_goals (try dsimp only at *)
  all_goals first | with_reducible rfl | with_reducible exact isI_mk | with_reducible assumption | exact hpre.1 | exact hpre.2 | exact hpre.1 _ | omega | (unfold raw_p; omega) | trace_state
def fieldMade_r (n : Nat) (F : Nat → Int) (c : Int) : AV := .bool true
def fieldMade_p (n : Nat) (F : Nat → Int) (c : Int) : Prop := (∀ j, In64 (F j)) ∧ In64 c
def fieldMade_k : Con Tryz.prog := ⟨7, fun args => match args with | [.sl n 1 g_F, .int .i64 c] => .ok (some (IsI .i64 g_F ∧ fieldMade_p n (intF g_F) c)) (fieldMade_r n (intF g_F) c) | _ => .no, by
  intro args p r h hp
  split at h
  · cases h; obtain ⟨h_F, hp⟩ := hp; have e_F := h_F.eq; rw [e_F]; exact fieldMade_a _ _ _ hp
  · cases h⟩
end Go.Proofs.YtdjckabogdohcaaGreat
