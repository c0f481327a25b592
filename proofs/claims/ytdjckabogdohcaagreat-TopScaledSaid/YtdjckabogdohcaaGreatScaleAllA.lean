/- Meets. -/
import Derived.Test.YtdjckabogdohcaaGreatSlabC
import Derived.Test.YtdjckabogdohcaaGreatShapeC
import Derived.Test.YtdjckabogdohcaaGreatEdgeC
import Derived.Test.YtdjckabogdohcaaGreatFltErr
import Derived.Test.YtdjckabogdohcaaGreatLin
import Derived.Test.YtdjckabogdohcaaGreatFltVal
namespace Go.Proofs.YtdjckabogdohcaaGreat
open Go.RowKit Ev
set_option linter.unusedVariables false
set_option linter.unusedSimpArgs false
set_option maxRecDepth 20000
set_option maxHeartbeats 4000000

def cutA (lo fr d : Nat) : Nat := F .quo (F .sub lo fr) d
def cutN (n lo hi fr d : Nat) : Nat := bif feq d 0 then n else bif flt d 0 then moreV n (cutA hi fr d) else moreV n (cutA lo fr d)
def cutF (f lo hi fr d : Nat) : Nat := bif feq d 0 then f else bif flt d 0 then lessV f (cutA lo fr d) else lessV f (cutA hi fr d)
def cutO (o : Bool) (lo hi fr d : Nat) : Bool := bif feq d 0 then o && ((flt lo fr || feq lo fr) && (flt fr hi || feq fr hi)) else o
theorem cut_f : FnOk Tryz.prog 52 Tryz.f52 := ⟨Tryz.func52, by kernel_rfl⟩
theorem cut_a (n f : Nat) (o : Bool) (lo hi fr d : Nat) : MCalls Tryz.prog 52 ([.own 0 0, .flt lo, .flt hi, .flt fr, .flt d]) [.row [.flt n, .flt f, .bool o]] (.tup []) [.row [.flt (cutN n lo hi fr d), .flt (cutF f lo hi fr d), .bool (cutO o lo hi fr d)]] := by
  refine mcalls_of (inl := hasI (P := Tryz.prog) [] []) (base [] [] []) 0 cut_f (And.intro (by kernel_rfl) ?_)
  repeat' (first | refine And.intro ?_ ?_ | (with_reducible exact ff_elim) | (with_reducible exact tf_elim) | intro _ | (with_reducible rfl) | ((with_reducible refine lk_t ?_); exact rfl) | ((with_reducible refine pf_t ?_); exact rfl) | refine tell ?_ | exact True.intro | (refine IsT.of ?_; kernel_rfl))
  all_goals ((try refine Tell.mk ?_); first | with_reducible rfl | ((show (_ : Int) ≤ _); decide) | ((show (_ : Int) < _); decide) | (with_reducible refine gb_t ?_; with_reducible assumption) | with_reducible assumption | (with_reducible refine gb_f ?_; with_reducible assumption) | (simp only [cutN, cutF, cutO, cutA, moreV, lessV, *, cond_true, cond_false]; done) | ((with_reducible refine ks_t ?_); rfl) | ((with_reducible refine pk_t ?_); rfl) | ((with_reducible refine pf_t ?_); rfl) | ((with_reducible refine lk_t ?_); rfl) | ((with_reducible refine okF_t ?_); kernel_rfl) | grind [gb, cutN, cutF, cutO, cutA, moreV, lessV])
def cut_m : MCon Tryz.prog := ⟨52, fun args own => match args with | [.own k_ 0, .flt lo, .flt hi, .flt fr, .flt d] => (match own k_ with | .row [.flt n, .flt f, .bool o] => .ok [k_] ([.own 0 0, .flt lo, .flt hi, .flt fr, .flt d]) [.row [.flt n, .flt f, .bool o]] none (.tup []) [.row [.flt (cutN n lo hi fr d), .flt (cutF f lo hi fr d), .bool (cutO o lo hi fr d)]] | _ => .no) | _ => .no, by
  intro args own ks cargs rows p r rows2 h hp
  split at h
  · split at h
    · cases h; exact cut_a _ _ _ _ _ _ _
    · cases h
  · cases h⟩
end Go.Proofs.YtdjckabogdohcaaGreat
/- Meets. -/
namespace Go.Proofs.YtdjckabogdohcaaGreat
open Go.RowKit Ev
set_option linter.unusedVariables false
set_option linter.unusedSimpArgs false
set_option maxRecDepth 20000
set_option maxHeartbeats 4000000

def meetN (a b c d e f p q r u v w l : Nat) : Nat := cutN (cutN (cutN l a d p u) b e q v) c f r w
def meetF (a b c d e f p q r u v w : Nat) : Nat := cutF (cutF (cutF 4786511204640096256 a d p u) b e q v) c f r w
def meetO (a b c d e f p q r u v w : Nat) : Bool := cutO (cutO (cutO true a d p u) b e q v) c f r w
def meetC (a b c d e f p q r u v w l : Nat) : Bool := (mayV a b c d e f != 0) || (rayV p q r u v w l != 0)
def meetD (a b c d e f p q r u v w l : Nat) : Bool := !(meetO a b c d e f p q r u v w) || fgt (meetN a b c d e f p q r u v w l) (meetF a b c d e f p q r u v w)
def meetB (a b c d e f p q r u v w l : Nat) : Bool := bif meetC a b c d e f p q r u v w l then false else bif meetD a b c d e f p q r u v w l then false else true
def meetX (a b c d e f p q r u v w l : Nat) : Nat := bif meetC a b c d e f p q r u v w l then 0 else bif meetD a b c d e f p q r u v w l then 0 else meetN a b c d e f p q r u v w l
def meetY (a b c d e f p q r u v w l : Nat) : Nat := bif meetC a b c d e f p q r u v w l then 0 else bif meetD a b c d e f p q r u v w l then 0 else meetF a b c d e f p q r u v w
theorem meets_f : FnOk Tryz.prog 21 Tryz.f21 := ⟨Tryz.func21, by kernel_rfl⟩
theorem meets_a (a b c d e f p q r u v w l : Nat) : ACalls Tryz.prog 21 [.agg [.flt a, .flt b, .flt c, .flt d, .flt e, .flt f], .agg [.flt p, .flt q, .flt r, .flt u, .flt v, .flt w, .flt l]] (.tup [.flt (meetX a b c d e f p q r u v w l), .flt (meetY a b c d e f p q r u v w l), .bool (meetB a b c d e f p q r u v w l)]) := by
  refine acalls_of (inl := hasI (P := Tryz.prog) [] [cut_m]) (base [may_k, rayfine_k] [] [cut_m]) 0 meets_f (And.intro (by kernel_rfl) ?_)
  repeat' (first | refine And.intro ?_ ?_ | (with_reducible exact ff_elim) | (with_reducible exact tf_elim) | intro _ | (with_reducible rfl) | ((with_reducible refine lk_t ?_); exact rfl) | ((with_reducible refine pf_t ?_); exact rfl) | refine tell ?_ | exact True.intro | (refine IsT.of ?_; kernel_rfl))
  all_goals ((try refine Tell.mk ?_); first | with_reducible rfl | ((show (_ : Int) ≤ _); decide) | ((show (_ : Int) < _); decide) | (with_reducible refine gb_t ?_; with_reducible assumption) | with_reducible assumption | (with_reducible refine gb_f ?_; with_reducible assumption) | (simp only [meetX, meetY, meetB, meetC, meetD, meetN, meetF, meetO, *, cond_true, cond_false]; done) | ((with_reducible refine ks_t ?_); rfl) | ((with_reducible refine pk_t ?_); rfl) | ((with_reducible refine pf_t ?_); rfl) | ((with_reducible refine lk_t ?_); rfl) | ((with_reducible refine okF_t ?_); kernel_rfl) | grind [gb, meetX, meetY, meetB, meetC, meetD, meetN, meetF, meetO])
def meets_k : Con Tryz.prog := ⟨21, fun args => match args with | [.agg [.flt a, .flt b, .flt c, .flt d, .flt e, .flt f], .agg [.flt p, .flt q, .flt r, .flt u, .flt v, .flt w, .flt l]] => .ok (none) (.tup [.flt (meetX a b c d e f p q r u v w l), .flt (meetY a b c d e f p q r u v w l), .bool (meetB a b c d e f p q r u v w l)]) | _ => .no, by
  intro args p r h hp
  split at h
  · cases h; exact meets_a _ _ _ _ _ _ _ _ _ _ _ _ _
  · cases h⟩
end Go.Proofs.YtdjckabogdohcaaGreat
/- What rays strike, kind by kind. -/
namespace Go.Proofs.YtdjckabogdohcaaGreat
open Go.RowKit Ev
set_option linter.unusedVariables false
set_option linter.unusedSimpArgs false
set_option maxRecDepth 20000
set_option maxHeartbeats 4000000

/-- From where to where a ray is no farther than so far from a point. -/
def abE (x y z u v w r : Nat) : Nat := F .sub (F .mul (dotV x y z u v w) (dotV x y z u v w)) (F .mul (dotV u v w u v w) (F .sub (dotV x y z x y z) (F .mul r r)))
def abO (x y z u v w r : Nat) : Bool := fgt (abE x y z u v w r) 0 || feq (abE x y z u v w r) 0
def abI (x y z u v w r : Nat) : Nat := bif abO x y z u v w r then F .quo (F .sub (Fneg (dotV x y z u v w)) (sq (abE x y z u v w r))) (dotV u v w u v w) else 0
def abU (x y z u v w r : Nat) : Nat := bif abO x y z u v w r then F .quo (F .add (Fneg (dotV x y z u v w)) (sq (abE x y z u v w r))) (dotV u v w u v w) else 0
theorem abt_f : FnOk Tryz.prog 166 Tryz.f166 := ⟨Tryz.func166, by kernel_rfl⟩
theorem abt_a (x y z u v w r : Nat) : ACalls Tryz.prog 166 [.agg [.flt x, .flt y, .flt z], .agg [.flt u, .flt v, .flt w], .flt r] (.tup [.flt (abI x y z u v w r), .flt (abU x y z u v w r), .bool (abO x y z u v w r)]) := by
  refine acalls_of (inl := hasI (P := Tryz.prog) [] []) (base [dot_k, sqrt_k] [] []) 0 abt_f (And.intro (by kernel_rfl) ?_)
  repeat' (first | refine And.intro ?_ ?_ | (with_reducible exact ff_elim) | (with_reducible exact tf_elim) | intro _ | (with_reducible rfl) | ((with_reducible refine lk_t ?_); exact rfl) | ((with_reducible refine pf_t ?_); exact rfl) | refine tell ?_ | exact True.intro | (refine IsT.of ?_; kernel_rfl))
  all_goals ((try refine Tell.mk ?_); first | with_reducible rfl | ((show (_ : Int) ≤ _); decide) | ((show (_ : Int) < _); decide) | (with_reducible refine gb_t ?_; with_reducible assumption) | with_reducible assumption | (with_reducible refine gb_f ?_; with_reducible assumption) | (simp only [abI, abU, abO, abE, *, cond_true, cond_false]; done) | ((with_reducible refine ks_t ?_); rfl) | ((with_reducible refine pk_t ?_); rfl) | ((with_reducible refine pf_t ?_); rfl) | ((with_reducible refine lk_t ?_); rfl) | ((with_reducible refine okF_t ?_); kernel_rfl) | grind [gb, abI, abU, abO, abE])
def abt_k : Con Tryz.prog := ⟨166, fun args => match args with | [.agg [.flt x, .flt y, .flt z], .agg [.flt u, .flt v, .flt w], .flt r] => .ok (none) (.tup [.flt (abI x y z u v w r), .flt (abU x y z u v w r), .bool (abO x y z u v w r)]) | _ => .no, by
  intro args p r h hp
  split at h
  · cases h; exact abt_a _ _ _ _ _ _ _
  · cases h⟩
theorem ballW_f : FnOk Tryz.prog 165 Tryz.f165 := ⟨Tryz.func165, by kernel_rfl⟩
theorem ballW_a (a b c r x y z u v w l n m : Nat) : ACalls Tryz.prog 165 [.agg [.flt a, .flt b, .flt c, .flt r], .agg [.flt x, .flt y, .flt z, .flt u, .flt v, .flt w, .flt l], .flt n, .flt m] (.tup [.flt (abI (F .sub x a) (F .sub y b) (F .sub z c) u v w r), .flt (abU (F .sub x a) (F .sub y b) (F .sub z c) u v w r), .bool (abO (F .sub x a) (F .sub y b) (F .sub z c) u v w r)]) := by
  refine acalls_of (inl := hasI (P := Tryz.prog) [] []) (base [sub_k, abt_k] [] []) 0 ballW_f (And.intro (by kernel_rfl) ?_)
  repeat' (first | refine And.intro ?_ ?_ | (with_reducible exact ff_elim) | (with_reducible exact tf_elim) | intro _ | (with_reducible rfl) | ((with_reducible refine lk_t ?_); exact rfl) | ((with_reducible refine pf_t ?_); exact rfl) | refine tell ?_ | exact True.intro | (refine IsT.of ?_; kernel_rfl))
  all_goals ((try refine Tell.mk ?_); first | with_reducible rfl | ((show (_ : Int) ≤ _); decide) | ((show (_ : Int) < _); decide) | (with_reducible refine gb_t ?_; with_reducible assumption) | with_reducible assumption | (with_reducible refine gb_f ?_; with_reducible assumption) | (simp only [gb, *, cond_true, cond_false]; done) | ((with_reducible refine ks_t ?_); rfl) | ((with_reducible refine pk_t ?_); rfl) | ((with_reducible refine pf_t ?_); rfl) | ((with_reducible refine lk_t ?_); rfl) | ((with_reducible refine okF_t ?_); kernel_rfl) | grind [gb])
def ballW_k : Con Tryz.prog := ⟨165, fun args => match args with | [.agg [.flt a, .flt b, .flt c, .flt r], .agg [.flt x, .flt y, .flt z, .flt u, .flt v, .flt w, .flt l], .flt n, .flt m] => .ok (none) (.tup [.flt (abI (F .sub x a) (F .sub y b) (F .sub z c) u v w r), .flt (abU (F .sub x a) (F .sub y b) (F .sub z c) u v w r), .bool (abO (F .sub x a) (F .sub y b) (F .sub z c) u v w r)]) | _ => .no, by
  intro args p r h hp
  split at h
  · cases h; exact ballW_a _ _ _ _ _ _ _ _ _ _ _ _ _
  · cases h⟩
def orI (x y z u v w r l : Nat) : Nat := bif fgt (abI x y z u v w r) l || feq (abI x y z u v w r) l then abI x y z u v w r else abU x y z u v w r
theorem ballS_f : FnOk Tryz.prog 163 Tryz.f163 := ⟨Tryz.func163, by kernel_rfl⟩
theorem ballS_a (a b c r x y z u v w l n m : Nat) : ACalls Tryz.prog 163 [.agg [.flt a, .flt b, .flt c, .flt r], .agg [.flt x, .flt y, .flt z, .flt u, .flt v, .flt w, .flt l], .flt n, .flt m] (.tup [.flt (orI (F .sub x a) (F .sub y b) (F .sub z c) u v w r l), .bool (abO (F .sub x a) (F .sub y b) (F .sub z c) u v w r)]) := by
  refine acalls_of (inl := hasI (P := Tryz.prog) [] []) (base [ballW_k] [] []) 0 ballS_f (And.intro (by kernel_rfl) ?_)
  repeat' (first | refine And.intro ?_ ?_ | (with_reducible exact ff_elim) | (with_reducible exact tf_elim) | intro _ | (with_reducible rfl) | ((with_reducible refine lk_t ?_); exact rfl) | ((with_reducible refine pf_t ?_); exact rfl) | refine tell ?_ | exact True.intro | (refine IsT.of ?_; kernel_rfl))
  all_goals ((try refine Tell.mk ?_); first | with_reducible rfl | ((show (_ : Int) ≤ _); decide) | ((show (_ : Int) < _); decide) | (with_reducible refine gb_t ?_; with_reducible assumption) | with_reducible assumption | (with_reducible refine gb_f ?_; with_reducible assumption) | (simp only [orI, *, cond_true, cond_false]; done) | ((with_reducible refine ks_t ?_); rfl) | ((with_reducible refine pk_t ?_); rfl) | ((with_reducible refine pf_t ?_); rfl) | ((with_reducible refine lk_t ?_); rfl) | ((with_reducible refine okF_t ?_); kernel_rfl) | grind [gb, orI])
def ballS_k : Con Tryz.prog := ⟨163, fun args => match args with | [.agg [.flt a, .flt b, .flt c, .flt r], .agg [.flt x, .flt y, .flt z, .flt u, .flt v, .flt w, .flt l], .flt n, .flt m] => .ok (none) (.tup [.flt (orI (F .sub x a) (F .sub y b) (F .sub z c) u v w r l), .bool (abO (F .sub x a) (F .sub y b) (F .sub z c) u v w r)]) | _ => .no, by
  intro args p r h hp
  split at h
  · cases h; exact ballS_a _ _ _ _ _ _ _ _ _ _ _ _ _
  · cases h⟩
def blT (l n m : Nat) : Nat := bif fgt n l then n else m
theorem blockS_f : FnOk Tryz.prog 169 Tryz.f169 := ⟨Tryz.func169, by kernel_rfl⟩
theorem blockS_a (a b c d e f x y z u v w l n m : Nat) : ACalls Tryz.prog 169 [.agg [.flt a, .flt b, .flt c, .flt d, .flt e, .flt f], .agg [.flt x, .flt y, .flt z, .flt u, .flt v, .flt w, .flt l], .flt n, .flt m] (.tup [.flt (blT l n m), .bool true]) := by
  refine acalls_of (inl := hasI (P := Tryz.prog) [] []) (base [] [] []) 0 blockS_f (And.intro (by kernel_rfl) ?_)
  repeat' (first | refine And.intro ?_ ?_ | (with_reducible exact ff_elim) | (with_reducible exact tf_elim) | intro _ | (with_reducible rfl) | ((with_reducible refine lk_t ?_); exact rfl) | ((with_reducible refine pf_t ?_); exact rfl) | refine tell ?_ | exact True.intro | (refine IsT.of ?_; kernel_rfl))
  all_goals ((try refine Tell.mk ?_); first | with_reducible rfl | ((show (_ : Int) ≤ _); decide) | ((show (_ : Int) < _); decide) | (with_reducible refine gb_t ?_; with_reducible assumption) | with_reducible assumption | (with_reducible refine gb_f ?_; with_reducible assumption) | (simp only [blT, *, cond_true, cond_false]; done) | ((with_reducible refine ks_t ?_); rfl) | ((with_reducible refine pk_t ?_); rfl) | ((with_reducible refine pf_t ?_); rfl) | ((with_reducible refine lk_t ?_); rfl) | ((with_reducible refine okF_t ?_); kernel_rfl) | grind [gb, blT])
def blockS_k : Con Tryz.prog := ⟨169, fun args => match args with | [.agg [.flt a, .flt b, .flt c, .flt d, .flt e, .flt f], .agg [.flt x, .flt y, .flt z, .flt u, .flt v, .flt w, .flt l], .flt n, .flt m] => .ok (none) (.tup [.flt (blT l n m), .bool true]) | _ => .no, by
  intro args p r h hp
  split at h
  · cases h; exact blockS_a _ _ _ _ _ _ _ _ _ _ _ _ _ _ _
  · cases h⟩
def tuZ (d e f u v w : Nat) : Bool := feq (wo (aloneV d e f) 0 u) 0 && (feq (wo (aloneV d e f) 1 v) 0 && feq (wz (aloneV d e f) w) 0)
def tuI (a b c d e f r x y z u v w n : Nat) : Nat := bif tuZ d e f u v w then n else moreV n (abI (wo (aloneV d e f) 0 (F .sub x a)) (wo (aloneV d e f) 1 (F .sub y b)) (wz (aloneV d e f) (F .sub z c)) (wo (aloneV d e f) 0 u) (wo (aloneV d e f) 1 v) (wz (aloneV d e f) w) r)
def tuU (a b c d e f r x y z u v w m : Nat) : Nat := bif tuZ d e f u v w then m else lessV m (abU (wo (aloneV d e f) 0 (F .sub x a)) (wo (aloneV d e f) 1 (F .sub y b)) (wz (aloneV d e f) (F .sub z c)) (wo (aloneV d e f) 0 u) (wo (aloneV d e f) 1 v) (wz (aloneV d e f) w) r)
def tuO (a b c d e f r x y z u v w n m : Nat) : Bool := bif tuZ d e f u v w then flt (dotV (wo (aloneV d e f) 0 (F .sub x a)) (wo (aloneV d e f) 1 (F .sub y b)) (wz (aloneV d e f) (F .sub z c)) (wo (aloneV d e f) 0 (F .sub x a)) (wo (aloneV d e f) 1 (F .sub y b)) (wz (aloneV d e f) (F .sub z c))) (F .mul r r) || feq (dotV (wo (aloneV d e f) 0 (F .sub x a)) (wo (aloneV d e f) 1 (F .sub y b)) (wz (aloneV d e f) (F .sub z c)) (wo (aloneV d e f) 0 (F .sub x a)) (wo (aloneV d e f) 1 (F .sub y b)) (wz (aloneV d e f) (F .sub z c))) (F .mul r r) else abO (wo (aloneV d e f) 0 (F .sub x a)) (wo (aloneV d e f) 1 (F .sub y b)) (wz (aloneV d e f) (F .sub z c)) (wo (aloneV d e f) 0 u) (wo (aloneV d e f) 1 v) (wz (aloneV d e f) w) r && (flt (tuI a b c d e f r x y z u v w n) (tuU a b c d e f r x y z u v w m) || feq (tuI a b c d e f r x y z u v w n) (tuU a b c d e f r x y z u v w m))
theorem tubeW_f : FnOk Tryz.prog 180 Tryz.f180 := ⟨Tryz.func180, by kernel_rfl⟩
theorem tubeW_a (a b c d e f r x y z u v w l n m : Nat) : ACalls Tryz.prog 180 [.agg [.flt a, .flt b, .flt c, .flt d, .flt e, .flt f, .flt r], .agg [.flt x, .flt y, .flt z, .flt u, .flt v, .flt w, .flt l], .flt n, .flt m] (.tup [.flt (tuI a b c d e f r x y z u v w n), .flt (tuU a b c d e f r x y z u v w m), .bool (tuO a b c d e f r x y z u v w n m)]) := by
  refine acalls_of (inl := hasI (P := Tryz.prog) [] []) (base [alone_k, sub_k, without_k, dot_k, abt_k, greater_k, lesser_k] [] []) 0 tubeW_f (And.intro (by kernel_rfl) ?_)
  repeat' (first | refine And.intro ?_ ?_ | (with_reducible exact ff_elim) | (with_reducible exact tf_elim) | intro _ | (with_reducible rfl) | ((with_reducible refine lk_t ?_); exact rfl) | ((with_reducible refine pf_t ?_); exact rfl) | refine tell ?_ | exact True.intro | (refine IsT.of ?_; kernel_rfl))
  all_goals ((try refine Tell.mk ?_); first | with_reducible rfl | ((show (_ : Int) ≤ _); decide) | ((show (_ : Int) < _); decide) | (with_reducible refine gb_t ?_; with_reducible assumption) | with_reducible assumption | (with_reducible refine gb_f ?_; with_reducible assumption) | (simp only [tuI, tuU, tuO, tuZ, wz, *, cond_true, cond_false]; done) | ((with_reducible refine ks_t ?_); rfl) | ((with_reducible refine pk_t ?_); rfl) | ((with_reducible refine pf_t ?_); rfl) | ((with_reducible refine lk_t ?_); rfl) | ((with_reducible refine okF_t ?_); kernel_rfl) | grind [gb, tuI, tuU, tuO, tuZ, wz])
def tubeW_k : Con Tryz.prog := ⟨180, fun args => match args with | [.agg [.flt a, .flt b, .flt c, .flt d, .flt e, .flt f, .flt r], .agg [.flt x, .flt y, .flt z, .flt u, .flt v, .flt w, .flt l], .flt n, .flt m] => .ok (none) (.tup [.flt (tuI a b c d e f r x y z u v w n), .flt (tuU a b c d e f r x y z u v w m), .bool (tuO a b c d e f r x y z u v w n m)]) | _ => .no, by
  intro args p r h hp
  split at h
  · cases h; exact tubeW_a _ _ _ _ _ _ _ _ _ _ _ _ _ _ _ _
  · cases h⟩
def tuT (a b c d e f r x y z u v w l n m : Nat) : Nat := bif fgt (tuI a b c d e f r x y z u v w n) l then tuI a b c d e f r x y z u v w n else tuU a b c d e f r x y z u v w m
theorem tubeS_f : FnOk Tryz.prog 178 Tryz.f178 := ⟨Tryz.func178, by kernel_rfl⟩
theorem tubeS_a (a b c d e f r x y z u v w l n m : Nat) : ACalls Tryz.prog 178 [.agg [.flt a, .flt b, .flt c, .flt d, .flt e, .flt f, .flt r], .agg [.flt x, .flt y, .flt z, .flt u, .flt v, .flt w, .flt l], .flt n, .flt m] (.tup [.flt (tuT a b c d e f r x y z u v w l n m), .bool (tuO a b c d e f r x y z u v w n m)]) := by
  refine acalls_of (inl := hasI (P := Tryz.prog) [] []) (base [tubeW_k] [] []) 0 tubeS_f (And.intro (by kernel_rfl) ?_)
  repeat' (first | refine And.intro ?_ ?_ | (with_reducible exact ff_elim) | (with_reducible exact tf_elim) | intro _ | (with_reducible rfl) | ((with_reducible refine lk_t ?_); exact rfl) | ((with_reducible refine pf_t ?_); exact rfl) | refine tell ?_ | exact True.intro | (refine IsT.of ?_; kernel_rfl))
  all_goals ((try refine Tell.mk ?_); first | with_reducible rfl | ((show (_ : Int) ≤ _); decide) | ((show (_ : Int) < _); decide) | (with_reducible refine gb_t ?_; with_reducible assumption) | with_reducible assumption | (with_reducible refine gb_f ?_; with_reducible assumption) | (simp only [tuT, *, cond_true, cond_false]; done) | ((with_reducible refine ks_t ?_); rfl) | ((with_reducible refine pk_t ?_); rfl) | ((with_reducible refine pf_t ?_); rfl) | ((with_reducible refine lk_t ?_); rfl) | ((with_reducible refine okF_t ?_); kernel_rfl) | grind [gb, tuT])
def tubeS_k : Con Tryz.prog := ⟨178, fun args => match args with | [.agg [.flt a, .flt b, .flt c, .flt d, .flt e, .flt f, .flt r], .agg [.flt x, .flt y, .flt z, .flt u, .flt v, .flt w, .flt l], .flt n, .flt m] => .ok (none) (.tup [.flt (tuT a b c d e f r x y z u v w l n m), .bool (tuO a b c d e f r x y z u v w n m)]) | _ => .no, by
  intro args p r h hp
  split at h
  · cases h; exact tubeS_a _ _ _ _ _ _ _ _ _ _ _ _ _ _ _ _
  · cases h⟩
def plaD (d e f u v w : Nat) : Nat := dotV (unitV d e f d) (unitV d e f e) (unitV d e f f) u v w
def plaQ (a b c d e f x y z u v w : Nat) : Nat := F .quo (dotV (unitV d e f d) (unitV d e f e) (unitV d e f f) (F .sub a x) (F .sub b y) (F .sub c z)) (plaD d e f u v w)
def plaT (a b c d e f x y z u v w : Nat) : Nat := bif feq (plaD d e f u v w) 0 then 0 else plaQ a b c d e f x y z u v w
def plaS (a b c d e f x y z u v w : Nat) : Nat := dotV (F .sub (F .add x (F .mul u (plaQ a b c d e f x y z u v w))) a) (F .sub (F .add y (F .mul v (plaQ a b c d e f x y z u v w))) b) (F .sub (F .add z (F .mul w (plaQ a b c d e f x y z u v w))) c) (F .sub (F .add x (F .mul u (plaQ a b c d e f x y z u v w))) a) (F .sub (F .add y (F .mul v (plaQ a b c d e f x y z u v w))) b) (F .sub (F .add z (F .mul w (plaQ a b c d e f x y z u v w))) c)
def plaO (a b c d e f r x y z u v w : Nat) : Bool := bif feq (plaD d e f u v w) 0 then false else flt (plaS a b c d e f x y z u v w) (F .mul r r) || feq (plaS a b c d e f x y z u v w) (F .mul r r)
theorem plateS_f : FnOk Tryz.prog 175 Tryz.f175 := ⟨Tryz.func175, by kernel_rfl⟩
theorem plateS_a (a b c d e f r x y z u v w l n m : Nat) : ACalls Tryz.prog 175 [.agg [.flt a, .flt b, .flt c, .flt d, .flt e, .flt f, .flt r], .agg [.flt x, .flt y, .flt z, .flt u, .flt v, .flt w, .flt l], .flt n, .flt m] (.tup [.flt (plaT a b c d e f x y z u v w), .bool (plaO a b c d e f r x y z u v w)]) := by
  refine acalls_of (inl := hasI (P := Tryz.prog) [] []) (base [unit_k, dot_k, sub_k, add_k, scale_k] [] []) 0 plateS_f (And.intro (by kernel_rfl) ?_)
  repeat' (first | refine And.intro ?_ ?_ | (with_reducible exact ff_elim) | (with_reducible exact tf_elim) | intro _ | (with_reducible rfl) | ((with_reducible refine lk_t ?_); exact rfl) | ((with_reducible refine pf_t ?_); exact rfl) | refine tell ?_ | exact True.intro | (refine IsT.of ?_; kernel_rfl))
  all_goals ((try refine Tell.mk ?_); first | with_reducible rfl | ((show (_ : Int) ≤ _); decide) | ((show (_ : Int) < _); decide) | (with_reducible refine gb_t ?_; with_reducible assumption) | with_reducible assumption | (with_reducible refine gb_f ?_; with_reducible assumption) | (simp only [plaT, plaO, plaS, plaQ, plaD, *, cond_true, cond_false]; done) | ((with_reducible refine ks_t ?_); rfl) | ((with_reducible refine pk_t ?_); rfl) | ((with_reducible refine pf_t ?_); rfl) | ((with_reducible refine lk_t ?_); rfl) | ((with_reducible refine okF_t ?_); kernel_rfl) | grind [gb, plaT, plaO, plaS, plaQ, plaD])
def plateS_k : Con Tryz.prog := ⟨175, fun args => match args with | [.agg [.flt a, .flt b, .flt c, .flt d, .flt e, .flt f, .flt r], .agg [.flt x, .flt y, .flt z, .flt u, .flt v, .flt w, .flt l], .flt n, .flt m] => .ok (none) (.tup [.flt (plaT a b c d e f x y z u v w), .bool (plaO a b c d e f r x y z u v w)]) | _ => .no, by
  intro args p r h hp
  split at h
  · cases h; exact plateS_a _ _ _ _ _ _ _ _ _ _ _ _ _ _ _ _
  · cases h⟩
def trO0 (a b c d e f g h i x y z u v w : Nat) : Bool := thrB (sdV0 x y z u v w d e f g h i) (sdV0 x y z u v w g h i a b c) (sdV0 x y z u v w a b c d e f)
def trT0 (a b c d e f g h i x y z u v w : Nat) : Nat := bif trO0 a b c d e f g h i x y z u v w then F .quo (F .add (F .add (F .mul (sdV0 x y z u v w d e f g h i) (plZ0 x y z u v w a b c)) (F .mul (sdV0 x y z u v w g h i a b c) (plZ0 x y z u v w d e f))) (F .mul (sdV0 x y z u v w a b c d e f) (plZ0 x y z u v w g h i))) (F .add (F .add (sdV0 x y z u v w d e f g h i) (sdV0 x y z u v w g h i a b c)) (sdV0 x y z u v w a b c d e f)) else 0
theorem triS0_f : FnOk Tryz.prog 172 Tryz.f172 := ⟨Tryz.func172, by kernel_rfl⟩
theorem triS0_a (a b c d e f g h i x y z u v w l n m : Nat) (hpre : deepV u v w = 0) : ACalls Tryz.prog 172 [.agg [.flt a, .flt b, .flt c, .flt d, .flt e, .flt f, .flt g, .flt h, .flt i], .agg [.flt x, .flt y, .flt z, .flt u, .flt v, .flt w, .flt l], .flt n, .flt m] (.tup [.flt (trT0 a b c d e f g h i x y z u v w), .bool (trO0 a b c d e f g h i x y z u v w)]) := by
  refine acalls_of (inl := hasI (P := Tryz.prog) [] []) (base [frame0_k, edge0_k, place0_k, through_k] [] []) 0 triS0_f (And.intro (by kernel_rfl) ?_)
  repeat' (first | refine And.intro ?_ ?_ | (with_reducible exact ff_elim) | (with_reducible exact tf_elim) | intro _ | (with_reducible rfl) | ((with_reducible refine lk_t ?_); exact rfl) | ((with_reducible refine pf_t ?_); exact rfl) | refine tell ?_ | exact True.intro | (refine IsT.of ?_; kernel_rfl))
  all_goals ((try refine Tell.mk ?_); first | with_reducible rfl | ((show (_ : Int) ≤ _); decide) | ((show (_ : Int) < _); decide) | (with_reducible refine gb_t ?_; with_reducible assumption) | with_reducible assumption | (with_reducible refine gb_f ?_; with_reducible assumption) | (simp only [trT0, trO0, thrS, thrB, sdV0, plX0, plY0, plZ0, *, cond_true, cond_false]; done) | ((with_reducible refine ks_t ?_); rfl) | ((with_reducible refine pk_t ?_); rfl) | ((with_reducible refine pf_t ?_); rfl) | ((with_reducible refine lk_t ?_); rfl) | ((with_reducible refine okF_t ?_); kernel_rfl) | grind [gb, trT0, trO0, thrS, thrB, sdV0, plX0, plY0, plZ0])
def triS0_k : Con Tryz.prog := ⟨172, fun args => match args with | [.agg [.flt a, .flt b, .flt c, .flt d, .flt e, .flt f, .flt g, .flt h, .flt i], .agg [.flt x, .flt y, .flt z, .flt u, .flt v, .flt w, .flt l], .flt n, .flt m] => .ok (some (deepV u v w = 0)) (.tup [.flt (trT0 a b c d e f g h i x y z u v w), .bool (trO0 a b c d e f g h i x y z u v w)]) | _ => .no, by
  intro args p r h hp
  split at h
  · cases h; exact triS0_a _ _ _ _ _ _ _ _ _ _ _ _ _ _ _ _ _ _ hp
  · cases h⟩
def trO1 (a b c d e f g h i x y z u v w : Nat) : Bool := thrB (sdV1 x y z u v w d e f g h i) (sdV1 x y z u v w g h i a b c) (sdV1 x y z u v w a b c d e f)
def trT1 (a b c d e f g h i x y z u v w : Nat) : Nat := bif trO1 a b c d e f g h i x y z u v w then F .quo (F .add (F .add (F .mul (sdV1 x y z u v w d e f g h i) (plZ1 x y z u v w a b c)) (F .mul (sdV1 x y z u v w g h i a b c) (plZ1 x y z u v w d e f))) (F .mul (sdV1 x y z u v w a b c d e f) (plZ1 x y z u v w g h i))) (F .add (F .add (sdV1 x y z u v w d e f g h i) (sdV1 x y z u v w g h i a b c)) (sdV1 x y z u v w a b c d e f)) else 0
theorem triS1_f : FnOk Tryz.prog 172 Tryz.f172 := ⟨Tryz.func172, by kernel_rfl⟩
theorem triS1_a (a b c d e f g h i x y z u v w l n m : Nat) (hpre : deepV u v w = 1) : ACalls Tryz.prog 172 [.agg [.flt a, .flt b, .flt c, .flt d, .flt e, .flt f, .flt g, .flt h, .flt i], .agg [.flt x, .flt y, .flt z, .flt u, .flt v, .flt w, .flt l], .flt n, .flt m] (.tup [.flt (trT1 a b c d e f g h i x y z u v w), .bool (trO1 a b c d e f g h i x y z u v w)]) := by
  refine acalls_of (inl := hasI (P := Tryz.prog) [] []) (base [frame1_k, edge1_k, place1_k, through_k] [] []) 0 triS1_f (And.intro (by kernel_rfl) ?_)
  repeat' (first | refine And.intro ?_ ?_ | (with_reducible exact ff_elim) | (with_reducible exact tf_elim) | intro _ | (with_reducible rfl) | ((with_reducible refine lk_t ?_); exact rfl) | ((with_reducible refine pf_t ?_); exact rfl) | refine tell ?_ | exact True.intro | (refine IsT.of ?_; kernel_rfl))
  all_goals ((try refine Tell.mk ?_); first | with_reducible rfl | ((show (_ : Int) ≤ _); decide) | ((show (_ : Int) < _); decide) | (with_reducible refine gb_t ?_; with_reducible assumption) | with_reducible assumption | (with_reducible refine gb_f ?_; with_reducible assumption) | (simp only [trT1, trO1, thrS, thrB, sdV1, plX1, plY1, plZ1, *, cond_true, cond_false]; done) | ((with_reducible refine ks_t ?_); rfl) | ((with_reducible refine pk_t ?_); rfl) | ((with_reducible refine pf_t ?_); rfl) | ((with_reducible refine lk_t ?_); rfl) | ((with_reducible refine okF_t ?_); kernel_rfl) | grind [gb, trT1, trO1, thrS, thrB, sdV1, plX1, plY1, plZ1])
def triS1_k : Con Tryz.prog := ⟨172, fun args => match args with | [.agg [.flt a, .flt b, .flt c, .flt d, .flt e, .flt f, .flt g, .flt h, .flt i], .agg [.flt x, .flt y, .flt z, .flt u, .flt v, .flt w, .flt l], .flt n, .flt m] => .ok (some (deepV u v w = 1)) (.tup [.flt (trT1 a b c d e f g h i x y z u v w), .bool (trO1 a b c d e f g h i x y z u v w)]) | _ => .no, by
  intro args p r h hp
  split at h
  · cases h; exact triS1_a _ _ _ _ _ _ _ _ _ _ _ _ _ _ _ _ _ _ hp
  · cases h⟩
def trO2 (a b c d e f g h i x y z u v w : Nat) : Bool := thrB (sdV2 x y z u v w d e f g h i) (sdV2 x y z u v w g h i a b c) (sdV2 x y z u v w a b c d e f)
def trT2 (a b c d e f g h i x y z u v w : Nat) : Nat := bif trO2 a b c d e f g h i x y z u v w then F .quo (F .add (F .add (F .mul (sdV2 x y z u v w d e f g h i) (plZ2 x y z u v w a b c)) (F .mul (sdV2 x y z u v w g h i a b c) (plZ2 x y z u v w d e f))) (F .mul (sdV2 x y z u v w a b c d e f) (plZ2 x y z u v w g h i))) (F .add (F .add (sdV2 x y z u v w d e f g h i) (sdV2 x y z u v w g h i a b c)) (sdV2 x y z u v w a b c d e f)) else 0
theorem triS2_f : FnOk Tryz.prog 172 Tryz.f172 := ⟨Tryz.func172, by kernel_rfl⟩
theorem triS2_a (a b c d e f g h i x y z u v w l n m : Nat) (hpre : deepV u v w = 2) : ACalls Tryz.prog 172 [.agg [.flt a, .flt b, .flt c, .flt d, .flt e, .flt f, .flt g, .flt h, .flt i], .agg [.flt x, .flt y, .flt z, .flt u, .flt v, .flt w, .flt l], .flt n, .flt m] (.tup [.flt (trT2 a b c d e f g h i x y z u v w), .bool (trO2 a b c d e f g h i x y z u v w)]) := by
  refine acalls_of (inl := hasI (P := Tryz.prog) [] []) (base [frame2_k, edge2_k, place2_k, through_k] [] []) 0 triS2_f (And.intro (by kernel_rfl) ?_)
  repeat' (first | refine And.intro ?_ ?_ | (with_reducible exact ff_elim) | (with_reducible exact tf_elim) | intro _ | (with_reducible rfl) | ((with_reducible refine lk_t ?_); exact rfl) | ((with_reducible refine pf_t ?_); exact rfl) | refine tell ?_ | exact True.intro | (refine IsT.of ?_; kernel_rfl))
  all_goals ((try refine Tell.mk ?_); first | with_reducible rfl | ((show (_ : Int) ≤ _); decide) | ((show (_ : Int) < _); decide) | (with_reducible refine gb_t ?_; with_reducible assumption) | with_reducible assumption | (with_reducible refine gb_f ?_; with_reducible assumption) | (simp only [trT2, trO2, thrS, thrB, sdV2, plX2, plY2, plZ2, *, cond_true, cond_false]; done) | ((with_reducible refine ks_t ?_); rfl) | ((with_reducible refine pk_t ?_); rfl) | ((with_reducible refine pf_t ?_); rfl) | ((with_reducible refine lk_t ?_); rfl) | ((with_reducible refine okF_t ?_); kernel_rfl) | grind [gb, trT2, trO2, thrS, thrB, sdV2, plX2, plY2, plZ2])
def triS2_k : Con Tryz.prog := ⟨172, fun args => match args with | [.agg [.flt a, .flt b, .flt c, .flt d, .flt e, .flt f, .flt g, .flt h, .flt i], .agg [.flt x, .flt y, .flt z, .flt u, .flt v, .flt w, .flt l], .flt n, .flt m] => .ok (some (deepV u v w = 2)) (.tup [.flt (trT2 a b c d e f g h i x y z u v w), .bool (trO2 a b c d e f g h i x y z u v w)]) | _ => .no, by
  intro args p r h hp
  split at h
  · cases h; exact triS2_a _ _ _ _ _ _ _ _ _ _ _ _ _ _ _ _ _ _ hp
  · cases h⟩
def trT (a b c d e f g h i x y z u v w : Nat) : Nat := bif deepV u v w == 0 then trT0 a b c d e f g h i x y z u v w else bif deepV u v w == 1 then trT1 a b c d e f g h i x y z u v w else trT2 a b c d e f g h i x y z u v w
def trO (a b c d e f g h i x y z u v w : Nat) : Bool := bif deepV u v w == 0 then trO0 a b c d e f g h i x y z u v w else bif deepV u v w == 1 then trO1 a b c d e f g h i x y z u v w else trO2 a b c d e f g h i x y z u v w
theorem triS_f : FnOk Tryz.prog 172 Tryz.f172 := ⟨Tryz.func172, by kernel_rfl⟩
theorem triS_a (a b c d e f g h i x y z u v w l n m : Nat) : ACalls Tryz.prog 172 [.agg [.flt a, .flt b, .flt c, .flt d, .flt e, .flt f, .flt g, .flt h, .flt i], .agg [.flt x, .flt y, .flt z, .flt u, .flt v, .flt w, .flt l], .flt n, .flt m] (.tup [.flt (trT a b c d e f g h i x y z u v w), .bool (trO a b c d e f g h i x y z u v w)]) := by
  unfold trT trO
  rcases deepV_or u v w with hk | hk | hk
  · rw [hk]; exact triS0_a a b c d e f g h i x y z u v w l n m hk
  · rw [hk]; exact triS1_a a b c d e f g h i x y z u v w l n m hk
  · rw [hk]; exact triS2_a a b c d e f g h i x y z u v w l n m hk
def triS_k : Con Tryz.prog := ⟨172, fun args => match args with | [.agg [.flt a, .flt b, .flt c, .flt d, .flt e, .flt f, .flt g, .flt h, .flt i], .agg [.flt x, .flt y, .flt z, .flt u, .flt v, .flt w, .flt l], .flt n, .flt m] => .ok (none) (.tup [.flt (trT a b c d e f g h i x y z u v w), .bool (trO a b c d e f g h i x y z u v w)]) | _ => .no, by
  intro args p r h hp
  split at h
  · cases h; exact triS_a _ _ _ _ _ _ _ _ _ _ _ _ _ _ _ _ _ _
  · cases h⟩
end Go.Proofs.YtdjckabogdohcaaGreat
/- Where rays strike shapes. -/
namespace Go.Proofs.YtdjckabogdohcaaGreat
open Go.RowKit Ev
set_option linter.unusedVariables false
set_option linter.unusedSimpArgs false
set_option maxRecDepth 20000
set_option maxHeartbeats 4000000

/-- Within the box around it, by its own reckoning. -/
def stB (k : Bool) (t : Nat) (ok : Bool) (l : Nat) : Bool := bif k then (bif ok then fgt t l || feq t l else false) else false
def stT (k : Bool) (t : Nat) (ok : Bool) (l n m : Nat) : Nat := bif stB k t ok l then (bif flt t n then n else bif fgt t m then m else t) else 0
theorem sh_1 {a b c d e f g h i r q : Nat} {s : Int} (hh : shapeE 1 a b c d e f g h i r q s = 0) : 0 = ballE a b c r := by
  unfold shapeE at hh
  cases h1 : (decide (s < 0) || decide (16 ≤ s)) <;> cases h2 : (!(fineB a b c) || (!(fineB d e f) || (!(fineB g h i) || (!(nearB r) || !(nearB q))))) <;> rw [h1, h2] at hh <;> first | exact hh.symm | cases hh
theorem sh_2 {a b c d e f g h i r q : Nat} {s : Int} (hh : shapeE 2 a b c d e f g h i r q s = 0) : 0 = blockE a b c d e f := by
  unfold shapeE at hh
  cases h1 : (decide (s < 0) || decide (16 ≤ s)) <;> cases h2 : (!(fineB a b c) || (!(fineB d e f) || (!(fineB g h i) || (!(nearB r) || !(nearB q))))) <;> rw [h1, h2] at hh <;> first | exact hh.symm | cases hh
theorem sh_3 {a b c d e f g h i r q : Nat} {s : Int} (hh : shapeE 3 a b c d e f g h i r q s = 0) : 0 = triE a b c d e f g h i := by
  unfold shapeE at hh
  cases h1 : (decide (s < 0) || decide (16 ≤ s)) <;> cases h2 : (!(fineB a b c) || (!(fineB d e f) || (!(fineB g h i) || (!(nearB r) || !(nearB q))))) <;> rw [h1, h2] at hh <;> first | exact hh.symm | cases hh
theorem sh_4 {a b c d e f g h i r q : Nat} {s : Int} (hh : shapeE 4 a b c d e f g h i r q s = 0) : 0 = plateE a b c d e f r := by
  unfold shapeE at hh
  cases h1 : (decide (s < 0) || decide (16 ≤ s)) <;> cases h2 : (!(fineB a b c) || (!(fineB d e f) || (!(fineB g h i) || (!(nearB r) || !(nearB q))))) <;> rw [h1, h2] at hh <;> first | exact hh.symm | cases hh
theorem sh_5 {a b c d e f g h i r q : Nat} {s : Int} (hh : shapeE 5 a b c d e f g h i r q s = 0) : 0 = tubeE a b c d e f r := by
  unfold shapeE at hh
  cases h1 : (decide (s < 0) || decide (16 ≤ s)) <;> cases h2 : (!(fineB a b c) || (!(fineB d e f) || (!(fineB g h i) || (!(nearB r) || !(nearB q))))) <;> rw [h1, h2] at hh <;> first | exact hh.symm | cases hh
def sO1 (a b c r x y z u v w l : Nat) : Bool := stB (meetB (F .sub a r) (F .sub b r) (F .sub c r) (F .add a r) (F .add b r) (F .add c r) x y z u v w l) (orI (F .sub x a) (F .sub y b) (F .sub z c) u v w r l) (abO (F .sub x a) (F .sub y b) (F .sub z c) u v w r) l
def sT1 (a b c r x y z u v w l : Nat) : Nat := stT (meetB (F .sub a r) (F .sub b r) (F .sub c r) (F .add a r) (F .add b r) (F .add c r) x y z u v w l) (orI (F .sub x a) (F .sub y b) (F .sub z c) u v w r l) (abO (F .sub x a) (F .sub y b) (F .sub z c) u v w r) l (meetX (F .sub a r) (F .sub b r) (F .sub c r) (F .add a r) (F .add b r) (F .add c r) x y z u v w l) (meetY (F .sub a r) (F .sub b r) (F .sub c r) (F .add a r) (F .add b r) (F .add c r) x y z u v w l)
theorem struck1_f : FnOk Tryz.prog 47 Tryz.f47 := ⟨Tryz.func47, by kernel_rfl⟩
theorem struck1_a (a b c r x y z u v w l : Nat) : ACalls Tryz.prog 47 [.ifc 110 (.agg [.flt a, .flt b, .flt c, .flt r]), .agg [.flt x, .flt y, .flt z, .flt u, .flt v, .flt w, .flt l]] (.tup [.flt (sT1 a b c r x y z u v w l), .bool (sO1 a b c r x y z u v w l)]) := by
  refine acalls_of (inl := hasI (P := Tryz.prog) [] []) (base [ballB_k, meets_k, ballS_k] [] []) 0 struck1_f (And.intro (by kernel_rfl) ?_)
  repeat' (first | refine And.intro ?_ ?_ | (with_reducible exact ff_elim) | (with_reducible exact tf_elim) | intro _ | (with_reducible rfl) | ((with_reducible refine lk_t ?_); exact rfl) | ((with_reducible refine pf_t ?_); exact rfl) | refine tell ?_ | exact True.intro | (refine IsT.of ?_; kernel_rfl))
  all_goals ((try refine Tell.mk ?_); first | with_reducible rfl | ((show (_ : Int) ≤ _); decide) | ((show (_ : Int) < _); decide) | (with_reducible refine gb_t ?_; with_reducible assumption) | with_reducible assumption | (with_reducible refine gb_f ?_; with_reducible assumption) | (simp only [sT1, sO1, stT, stB, *, cond_true, cond_false]; done) | ((with_reducible refine ks_t ?_); rfl) | ((with_reducible refine pk_t ?_); rfl) | ((with_reducible refine pf_t ?_); rfl) | ((with_reducible refine lk_t ?_); rfl) | ((with_reducible refine okF_t ?_); kernel_rfl) | grind [gb, sT1, sO1, stT, stB])
def struck1_k : Con Tryz.prog := ⟨47, fun args => match args with | [.ifc 110 (.agg [.flt a, .flt b, .flt c, .flt r]), .agg [.flt x, .flt y, .flt z, .flt u, .flt v, .flt w, .flt l]] => .ok (none) (.tup [.flt (sT1 a b c r x y z u v w l), .bool (sO1 a b c r x y z u v w l)]) | _ => .no, by
  intro args p r h hp
  split at h
  · cases h; exact struck1_a _ _ _ _ _ _ _ _ _ _ _
  · cases h⟩
theorem solid1_f : FnOk Tryz.prog 46 Tryz.f46 := ⟨Tryz.func46, by kernel_rfl⟩
theorem solid1_a (a b c d e f g h i r q : Nat) (s : Int) (hpre : shapeE 1 a b c d e f g h i r q s = 0) : ACalls Tryz.prog 46 [.agg [.int .i64 1, .flt a, .flt b, .flt c, .flt d, .flt e, .flt f, .flt g, .flt h, .flt i, .flt r, .flt q, .int .i64 s]] (.tup [.ifc 110 (.agg [.flt a, .flt b, .flt c, .flt r]), .int .i64 0]) := by
  refine acalls_of (inl := hasI (P := Tryz.prog) [] []) (base [fine_k, near_k, fitsBall_k] [] []) 0 solid1_f (And.intro (by kernel_rfl) ?_)
  repeat' (first | refine And.intro ?_ ?_ | (with_reducible exact ff_elim) | (with_reducible exact tf_elim) | (intro h; exact absurd h (by decide)) | intro _ | (with_reducible rfl) | ((with_reducible refine lk_t ?_); exact rfl) | ((with_reducible refine pf_t ?_); exact rfl) | refine tell ?_ | exact True.intro | (refine IsT.of ?_; kernel_rfl))
  all_goals (try refine Tell.mk ?_)
  all_goals first | with_reducible rfl | with_reducible assumption | (with_reducible refine gb_t ?_; with_reducible assumption) | (with_reducible refine gb_f ?_; with_reducible assumption) | ((with_reducible refine lk_t ?_); rfl) | ((with_reducible refine ks_t ?_); rfl) | (show (_ : AV) = _; kernel_rfl) | exact sh_1 hpre | (exfalso; simp only [shapeE] at hpre; simp_all; done) | (exfalso; clear hf; grind [shapeE]) | (exfalso; grind [shapeE]) | trace_state
def solid1_k : Con Tryz.prog := ⟨46, fun args => match args with | [.agg [.int .i64 1, .flt a, .flt b, .flt c, .flt d, .flt e, .flt f, .flt g, .flt h, .flt i, .flt r, .flt q, .int .i64 s]] => .ok (some (shapeE 1 a b c d e f g h i r q s = 0)) (.tup [.ifc 110 (.agg [.flt a, .flt b, .flt c, .flt r]), .int .i64 0]) | _ => .no, by
  intro args p r h hp
  split at h
  · cases h; exact solid1_a _ _ _ _ _ _ _ _ _ _ _ _ hp
  · cases h⟩
def sE1 (a b c d e f g h i r q : Nat) (s : Int) (x y z u v w l : Nat) : Int := bif !(shapeE 1 a b c d e f g h i r q s == 0) then shapeE 1 a b c d e f g h i r q s else rayV x y z u v w l
theorem Strike1_f : FnOk Tryz.prog 15 Tryz.f15 := ⟨Tryz.func15, by kernel_rfl⟩
theorem Strike1_a (a b c d e f g h i r q : Nat) (s : Int) (x y z u v w l : Nat) : ACalls Tryz.prog 15 [.agg [.int .i64 1, .flt a, .flt b, .flt c, .flt d, .flt e, .flt f, .flt g, .flt h, .flt i, .flt r, .flt q, .int .i64 s], .agg [.flt x, .flt y, .flt z, .flt u, .flt v, .flt w, .flt l]] (.tup [.flt (bif sE1 a b c d e f g h i r q s x y z u v w l == 0 then sT1 a b c r x y z u v w l else 0), .bool (bif sE1 a b c d e f g h i r q s x y z u v w l == 0 then sO1 a b c r x y z u v w l else false), .int .i64 (sE1 a b c d e f g h i r q s x y z u v w l)]) := by
  refine acalls_of (inl := hasI (P := Tryz.prog) [] []) (base [shapeMay_k, rayfine_k, solid1_k, struck1_k] [] []) 0 Strike1_f (And.intro (by kernel_rfl) ?_)
  repeat' (first | refine And.intro ?_ ?_ | (with_reducible exact ff_elim) | (with_reducible exact tf_elim) | intro _ | (with_reducible rfl) | ((with_reducible refine lk_t ?_); exact rfl) | ((with_reducible refine pf_t ?_); exact rfl) | refine tell ?_ | exact True.intro | (refine IsT.of ?_; kernel_rfl))
  all_goals ((try refine Tell.mk ?_); first | with_reducible rfl | ((show (_ : Int) ≤ _); decide) | ((show (_ : Int) < _); decide) | (with_reducible refine gb_t ?_; with_reducible assumption) | with_reducible assumption | (with_reducible refine gb_f ?_; with_reducible assumption) | (simp only [sE1, bne, *, cond_true, cond_false]; done) | ((with_reducible refine ks_t ?_); rfl) | ((with_reducible refine pk_t ?_); rfl) | ((with_reducible refine pf_t ?_); rfl) | ((with_reducible refine lk_t ?_); rfl) | ((with_reducible refine okF_t ?_); kernel_rfl) | grind [gb, sE1, bne])
def Strike1_k : Con Tryz.prog := ⟨15, fun args => match args with | [.agg [.int .i64 1, .flt a, .flt b, .flt c, .flt d, .flt e, .flt f, .flt g, .flt h, .flt i, .flt r, .flt q, .int .i64 s], .agg [.flt x, .flt y, .flt z, .flt u, .flt v, .flt w, .flt l]] => .ok (none) (.tup [.flt (bif sE1 a b c d e f g h i r q s x y z u v w l == 0 then sT1 a b c r x y z u v w l else 0), .bool (bif sE1 a b c d e f g h i r q s x y z u v w l == 0 then sO1 a b c r x y z u v w l else false), .int .i64 (sE1 a b c d e f g h i r q s x y z u v w l)]) | _ => .no, by
  intro args p r h hp
  split at h
  · cases h; exact Strike1_a _ _ _ _ _ _ _ _ _ _ _ _ _ _ _ _ _ _ _
  · cases h⟩
def sO2 (a b c d e f x y z u v w l : Nat) : Bool := stB (meetB a b c d e f x y z u v w l) (blT l (meetX a b c d e f x y z u v w l) (meetY a b c d e f x y z u v w l)) true l
def sT2 (a b c d e f x y z u v w l : Nat) : Nat := stT (meetB a b c d e f x y z u v w l) (blT l (meetX a b c d e f x y z u v w l) (meetY a b c d e f x y z u v w l)) true l (meetX a b c d e f x y z u v w l) (meetY a b c d e f x y z u v w l)
theorem struck2_f : FnOk Tryz.prog 47 Tryz.f47 := ⟨Tryz.func47, by kernel_rfl⟩
theorem struck2_a (a b c d e f x y z u v w l : Nat) : ACalls Tryz.prog 47 [.ifc 112 (.agg [.flt a, .flt b, .flt c, .flt d, .flt e, .flt f]), .agg [.flt x, .flt y, .flt z, .flt u, .flt v, .flt w, .flt l]] (.tup [.flt (sT2 a b c d e f x y z u v w l), .bool (sO2 a b c d e f x y z u v w l)]) := by
  refine acalls_of (inl := hasI (P := Tryz.prog) [] []) (base [blockB_k, meets_k, blockS_k] [] []) 0 struck2_f (And.intro (by kernel_rfl) ?_)
  repeat' (first | refine And.intro ?_ ?_ | (with_reducible exact ff_elim) | (with_reducible exact tf_elim) | intro _ | (with_reducible rfl) | ((with_reducible refine lk_t ?_); exact rfl) | ((with_reducible refine pf_t ?_); exact rfl) | refine tell ?_ | exact True.intro | (refine IsT.of ?_; kernel_rfl))
  all_goals ((try refine Tell.mk ?_); first | with_reducible rfl | ((show (_ : Int) ≤ _); decide) | ((show (_ : Int) < _); decide) | (with_reducible refine gb_t ?_; with_reducible assumption) | with_reducible assumption | (with_reducible refine gb_f ?_; with_reducible assumption) | (simp only [sT2, sO2, stT, stB, *, cond_true, cond_false]; done) | ((with_reducible refine ks_t ?_); rfl) | ((with_reducible refine pk_t ?_); rfl) | ((with_reducible refine pf_t ?_); rfl) | ((with_reducible refine lk_t ?_); rfl) | ((with_reducible refine okF_t ?_); kernel_rfl) | grind [gb, sT2, sO2, stT, stB])
def struck2_k : Con Tryz.prog := ⟨47, fun args => match args with | [.ifc 112 (.agg [.flt a, .flt b, .flt c, .flt d, .flt e, .flt f]), .agg [.flt x, .flt y, .flt z, .flt u, .flt v, .flt w, .flt l]] => .ok (none) (.tup [.flt (sT2 a b c d e f x y z u v w l), .bool (sO2 a b c d e f x y z u v w l)]) | _ => .no, by
  intro args p r h hp
  split at h
  · cases h; exact struck2_a _ _ _ _ _ _ _ _ _ _ _ _ _
  · cases h⟩
theorem solid2_f : FnOk Tryz.prog 46 Tryz.f46 := ⟨Tryz.func46, by kernel_rfl⟩
theorem solid2_a (a b c d e f g h i r q : Nat) (s : Int) (hpre : shapeE 2 a b c d e f g h i r q s = 0) : ACalls Tryz.prog 46 [.agg [.int .i64 2, .flt a, .flt b, .flt c, .flt d, .flt e, .flt f, .flt g, .flt h, .flt i, .flt r, .flt q, .int .i64 s]] (.tup [.ifc 112 (.agg [.flt a, .flt b, .flt c, .flt d, .flt e, .flt f]), .int .i64 0]) := by
  refine acalls_of (inl := hasI (P := Tryz.prog) [] []) (base [fine_k, near_k, fitsBlock_k] [] []) 0 solid2_f (And.intro (by kernel_rfl) ?_)
  repeat' (first | refine And.intro ?_ ?_ | (with_reducible exact ff_elim) | (with_reducible exact tf_elim) | (intro h; exact absurd h (by decide)) | intro _ | (with_reducible rfl) | ((with_reducible refine lk_t ?_); exact rfl) | ((with_reducible refine pf_t ?_); exact rfl) | refine tell ?_ | exact True.intro | (refine IsT.of ?_; kernel_rfl))
  all_goals (try refine Tell.mk ?_)
  all_goals first | with_reducible rfl | with_reducible assumption | (with_reducible refine gb_t ?_; with_reducible assumption) | (with_reducible refine gb_f ?_; with_reducible assumption) | ((with_reducible refine lk_t ?_); rfl) | ((with_reducible refine ks_t ?_); rfl) | (show (_ : AV) = _; kernel_rfl) | exact sh_2 hpre | (exfalso; simp only [shapeE] at hpre; simp_all; done) | (exfalso; clear hf; grind [shapeE]) | (exfalso; grind [shapeE]) | trace_state
def solid2_k : Con Tryz.prog := ⟨46, fun args => match args with | [.agg [.int .i64 2, .flt a, .flt b, .flt c, .flt d, .flt e, .flt f, .flt g, .flt h, .flt i, .flt r, .flt q, .int .i64 s]] => .ok (some (shapeE 2 a b c d e f g h i r q s = 0)) (.tup [.ifc 112 (.agg [.flt a, .flt b, .flt c, .flt d, .flt e, .flt f]), .int .i64 0]) | _ => .no, by
  intro args p r h hp
  split at h
  · cases h; exact solid2_a _ _ _ _ _ _ _ _ _ _ _ _ hp
  · cases h⟩
def sE2 (a b c d e f g h i r q : Nat) (s : Int) (x y z u v w l : Nat) : Int := bif !(shapeE 2 a b c d e f g h i r q s == 0) then shapeE 2 a b c d e f g h i r q s else rayV x y z u v w l
theorem Strike2_f : FnOk Tryz.prog 15 Tryz.f15 := ⟨Tryz.func15, by kernel_rfl⟩
theorem Strike2_a (a b c d e f g h i r q : Nat) (s : Int) (x y z u v w l : Nat) : ACalls Tryz.prog 15 [.agg [.int .i64 2, .flt a, .flt b, .flt c, .flt d, .flt e, .flt f, .flt g, .flt h, .flt i, .flt r, .flt q, .int .i64 s], .agg [.flt x, .flt y, .flt z, .flt u, .flt v, .flt w, .flt l]] (.tup [.flt (bif sE2 a b c d e f g h i r q s x y z u v w l == 0 then sT2 a b c d e f x y z u v w l else 0), .bool (bif sE2 a b c d e f g h i r q s x y z u v w l == 0 then sO2 a b c d e f x y z u v w l else false), .int .i64 (sE2 a b c d e f g h i r q s x y z u v w l)]) := by
  refine acalls_of (inl := hasI (P := Tryz.prog) [] []) (base [shapeMay_k, rayfine_k, solid2_k, struck2_k] [] []) 0 Strike2_f (And.intro (by kernel_rfl) ?_)
  repeat' (first | refine And.intro ?_ ?_ | (with_reducible exact ff_elim) | (with_reducible exact tf_elim) | intro _ | (with_reducible rfl) | ((with_reducible refine lk_t ?_); exact rfl) | ((with_reducible refine pf_t ?_); exact rfl) | refine tell ?_ | exact True.intro | (refine IsT.of ?_; kernel_rfl))
  all_goals ((try refine Tell.mk ?_); first | with_reducible rfl | ((show (_ : Int) ≤ _); decide) | ((show (_ : Int) < _); decide) | (with_reducible refine gb_t ?_; with_reducible assumption) | with_reducible assumption | (with_reducible refine gb_f ?_; with_reducible assumption) | (simp only [sE2, bne, *, cond_true, cond_false]; done) | ((with_reducible refine ks_t ?_); rfl) | ((with_reducible refine pk_t ?_); rfl) | ((with_reducible refine pf_t ?_); rfl) | ((with_reducible refine lk_t ?_); rfl) | ((with_reducible refine okF_t ?_); kernel_rfl) | grind [gb, sE2, bne])
def Strike2_k : Con Tryz.prog := ⟨15, fun args => match args with | [.agg [.int .i64 2, .flt a, .flt b, .flt c, .flt d, .flt e, .flt f, .flt g, .flt h, .flt i, .flt r, .flt q, .int .i64 s], .agg [.flt x, .flt y, .flt z, .flt u, .flt v, .flt w, .flt l]] => .ok (none) (.tup [.flt (bif sE2 a b c d e f g h i r q s x y z u v w l == 0 then sT2 a b c d e f x y z u v w l else 0), .bool (bif sE2 a b c d e f g h i r q s x y z u v w l == 0 then sO2 a b c d e f x y z u v w l else false), .int .i64 (sE2 a b c d e f g h i r q s x y z u v w l)]) | _ => .no, by
  intro args p r h hp
  split at h
  · cases h; exact Strike2_a _ _ _ _ _ _ _ _ _ _ _ _ _ _ _ _ _ _ _
  · cases h⟩
def sO3 (a b c d e f g h i x y z u v w l : Nat) : Bool := stB (meetB (lessV (lessV a d) g) (lessV (lessV b e) h) (lessV (lessV c f) i) (moreV (moreV a d) g) (moreV (moreV b e) h) (moreV (moreV c f) i) x y z u v w l) (trT a b c d e f g h i x y z u v w) (trO a b c d e f g h i x y z u v w) l
def sT3 (a b c d e f g h i x y z u v w l : Nat) : Nat := stT (meetB (lessV (lessV a d) g) (lessV (lessV b e) h) (lessV (lessV c f) i) (moreV (moreV a d) g) (moreV (moreV b e) h) (moreV (moreV c f) i) x y z u v w l) (trT a b c d e f g h i x y z u v w) (trO a b c d e f g h i x y z u v w) l (meetX (lessV (lessV a d) g) (lessV (lessV b e) h) (lessV (lessV c f) i) (moreV (moreV a d) g) (moreV (moreV b e) h) (moreV (moreV c f) i) x y z u v w l) (meetY (lessV (lessV a d) g) (lessV (lessV b e) h) (lessV (lessV c f) i) (moreV (moreV a d) g) (moreV (moreV b e) h) (moreV (moreV c f) i) x y z u v w l)
theorem struck3_f : FnOk Tryz.prog 47 Tryz.f47 := ⟨Tryz.func47, by kernel_rfl⟩
theorem struck3_a (a b c d e f g h i x y z u v w l : Nat) : ACalls Tryz.prog 47 [.ifc 114 (.agg [.flt a, .flt b, .flt c, .flt d, .flt e, .flt f, .flt g, .flt h, .flt i]), .agg [.flt x, .flt y, .flt z, .flt u, .flt v, .flt w, .flt l]] (.tup [.flt (sT3 a b c d e f g h i x y z u v w l), .bool (sO3 a b c d e f g h i x y z u v w l)]) := by
  refine acalls_of (inl := hasI (P := Tryz.prog) [] []) (base [triB_k, meets_k, triS_k] [] []) 0 struck3_f (And.intro (by kernel_rfl) ?_)
  repeat' (first | refine And.intro ?_ ?_ | (with_reducible exact ff_elim) | (with_reducible exact tf_elim) | intro _ | (with_reducible rfl) | ((with_reducible refine lk_t ?_); exact rfl) | ((with_reducible refine pf_t ?_); exact rfl) | refine tell ?_ | exact True.intro | (refine IsT.of ?_; kernel_rfl))
  all_goals ((try refine Tell.mk ?_); first | with_reducible rfl | ((show (_ : Int) ≤ _); decide) | ((show (_ : Int) < _); decide) | (with_reducible refine gb_t ?_; with_reducible assumption) | with_reducible assumption | (with_reducible refine gb_f ?_; with_reducible assumption) | (simp only [sT3, sO3, stT, stB, *, cond_true, cond_false]; done) | ((with_reducible refine ks_t ?_); rfl) | ((with_reducible refine pk_t ?_); rfl) | ((with_reducible refine pf_t ?_); rfl) | ((with_reducible refine lk_t ?_); rfl) | ((with_reducible refine okF_t ?_); kernel_rfl) | grind [gb, sT3, sO3, stT, stB])
def struck3_k : Con Tryz.prog := ⟨47, fun args => match args with | [.ifc 114 (.agg [.flt a, .flt b, .flt c, .flt d, .flt e, .flt f, .flt g, .flt h, .flt i]), .agg [.flt x, .flt y, .flt z, .flt u, .flt v, .flt w, .flt l]] => .ok (none) (.tup [.flt (sT3 a b c d e f g h i x y z u v w l), .bool (sO3 a b c d e f g h i x y z u v w l)]) | _ => .no, by
  intro args p r h hp
  split at h
  · cases h; exact struck3_a _ _ _ _ _ _ _ _ _ _ _ _ _ _ _ _
  · cases h⟩
theorem solid3_f : FnOk Tryz.prog 46 Tryz.f46 := ⟨Tryz.func46, by kernel_rfl⟩
theorem solid3_a (a b c d e f g h i r q : Nat) (s : Int) (hpre : shapeE 3 a b c d e f g h i r q s = 0) : ACalls Tryz.prog 46 [.agg [.int .i64 3, .flt a, .flt b, .flt c, .flt d, .flt e, .flt f, .flt g, .flt h, .flt i, .flt r, .flt q, .int .i64 s]] (.tup [.ifc 114 (.agg [.flt a, .flt b, .flt c, .flt d, .flt e, .flt f, .flt g, .flt h, .flt i]), .int .i64 0]) := by
  refine acalls_of (inl := hasI (P := Tryz.prog) [] []) (base [fine_k, near_k, fitsTri_k] [] []) 0 solid3_f (And.intro (by kernel_rfl) ?_)
  repeat' (first | refine And.intro ?_ ?_ | (with_reducible exact ff_elim) | (with_reducible exact tf_elim) | (intro h; exact absurd h (by decide)) | intro _ | (with_reducible rfl) | ((with_reducible refine lk_t ?_); exact rfl) | ((with_reducible refine pf_t ?_); exact rfl) | refine tell ?_ | exact True.intro | (refine IsT.of ?_; kernel_rfl))
  all_goals (try refine Tell.mk ?_)
  all_goals first | with_reducible rfl | with_reducible assumption | (with_reducible refine gb_t ?_; with_reducible assumption) | (with_reducible refine gb_f ?_; with_reducible assumption) | ((with_reducible refine lk_t ?_); rfl) | ((with_reducible refine ks_t ?_); rfl) | (show (_ : AV) = _; kernel_rfl) | exact sh_3 hpre | (exfalso; simp only [shapeE] at hpre; simp_all; done) | (exfalso; clear hf; grind [shapeE]) | (exfalso; grind [shapeE]) | trace_state
def solid3_k : Con Tryz.prog := ⟨46, fun args => match args with | [.agg [.int .i64 3, .flt a, .flt b, .flt c, .flt d, .flt e, .flt f, .flt g, .flt h, .flt i, .flt r, .flt q, .int .i64 s]] => .ok (some (shapeE 3 a b c d e f g h i r q s = 0)) (.tup [.ifc 114 (.agg [.flt a, .flt b, .flt c, .flt d, .flt e, .flt f, .flt g, .flt h, .flt i]), .int .i64 0]) | _ => .no, by
  intro args p r h hp
  split at h
  · cases h; exact solid3_a _ _ _ _ _ _ _ _ _ _ _ _ hp
  · cases h⟩
def sE3 (a b c d e f g h i r q : Nat) (s : Int) (x y z u v w l : Nat) : Int := bif !(shapeE 3 a b c d e f g h i r q s == 0) then shapeE 3 a b c d e f g h i r q s else rayV x y z u v w l
theorem Strike3_f : FnOk Tryz.prog 15 Tryz.f15 := ⟨Tryz.func15, by kernel_rfl⟩
theorem Strike3_a (a b c d e f g h i r q : Nat) (s : Int) (x y z u v w l : Nat) : ACalls Tryz.prog 15 [.agg [.int .i64 3, .flt a, .flt b, .flt c, .flt d, .flt e, .flt f, .flt g, .flt h, .flt i, .flt r, .flt q, .int .i64 s], .agg [.flt x, .flt y, .flt z, .flt u, .flt v, .flt w, .flt l]] (.tup [.flt (bif sE3 a b c d e f g h i r q s x y z u v w l == 0 then sT3 a b c d e f g h i x y z u v w l else 0), .bool (bif sE3 a b c d e f g h i r q s x y z u v w l == 0 then sO3 a b c d e f g h i x y z u v w l else false), .int .i64 (sE3 a b c d e f g h i r q s x y z u v w l)]) := by
  refine acalls_of (inl := hasI (P := Tryz.prog) [] []) (base [shapeMay_k, rayfine_k, solid3_k, struck3_k] [] []) 0 Strike3_f (And.intro (by kernel_rfl) ?_)
  repeat' (first | refine And.intro ?_ ?_ | (with_reducible exact ff_elim) | (with_reducible exact tf_elim) | intro _ | (with_reducible rfl) | ((with_reducible refine lk_t ?_); exact rfl) | ((with_reducible refine pf_t ?_); exact rfl) | refine tell ?_ | exact True.intro | (refine IsT.of ?_; kernel_rfl))
  all_goals ((try refine Tell.mk ?_); first | with_reducible rfl | ((show (_ : Int) ≤ _); decide) | ((show (_ : Int) < _); decide) | (with_reducible refine gb_t ?_; with_reducible assumption) | with_reducible assumption | (with_reducible refine gb_f ?_; with_reducible assumption) | (simp only [sE3, bne, *, cond_true, cond_false]; done) | ((with_reducible refine ks_t ?_); rfl) | ((with_reducible refine pk_t ?_); rfl) | ((with_reducible refine pf_t ?_); rfl) | ((with_reducible refine lk_t ?_); rfl) | ((with_reducible refine okF_t ?_); kernel_rfl) | grind [gb, sE3, bne])
def Strike3_k : Con Tryz.prog := ⟨15, fun args => match args with | [.agg [.int .i64 3, .flt a, .flt b, .flt c, .flt d, .flt e, .flt f, .flt g, .flt h, .flt i, .flt r, .flt q, .int .i64 s], .agg [.flt x, .flt y, .flt z, .flt u, .flt v, .flt w, .flt l]] => .ok (none) (.tup [.flt (bif sE3 a b c d e f g h i r q s x y z u v w l == 0 then sT3 a b c d e f g h i x y z u v w l else 0), .bool (bif sE3 a b c d e f g h i r q s x y z u v w l == 0 then sO3 a b c d e f g h i x y z u v w l else false), .int .i64 (sE3 a b c d e f g h i r q s x y z u v w l)]) | _ => .no, by
  intro args p r h hp
  split at h
  · cases h; exact Strike3_a _ _ _ _ _ _ _ _ _ _ _ _ _ _ _ _ _ _ _
  · cases h⟩
def sO4 (a b c d e f r x y z u v w l : Nat) : Bool := stB (meetB (F .sub a r) (F .sub b r) (F .sub c r) (F .add a r) (F .add b r) (F .add c r) x y z u v w l) (plaT a b c d e f x y z u v w) (plaO a b c d e f r x y z u v w) l
def sT4 (a b c d e f r x y z u v w l : Nat) : Nat := stT (meetB (F .sub a r) (F .sub b r) (F .sub c r) (F .add a r) (F .add b r) (F .add c r) x y z u v w l) (plaT a b c d e f x y z u v w) (plaO a b c d e f r x y z u v w) l (meetX (F .sub a r) (F .sub b r) (F .sub c r) (F .add a r) (F .add b r) (F .add c r) x y z u v w l) (meetY (F .sub a r) (F .sub b r) (F .sub c r) (F .add a r) (F .add b r) (F .add c r) x y z u v w l)
theorem struck4_f : FnOk Tryz.prog 47 Tryz.f47 := ⟨Tryz.func47, by kernel_rfl⟩
theorem struck4_a (a b c d e f r x y z u v w l : Nat) : ACalls Tryz.prog 47 [.ifc 116 (.agg [.flt a, .flt b, .flt c, .flt d, .flt e, .flt f, .flt r]), .agg [.flt x, .flt y, .flt z, .flt u, .flt v, .flt w, .flt l]] (.tup [.flt (sT4 a b c d e f r x y z u v w l), .bool (sO4 a b c d e f r x y z u v w l)]) := by
  refine acalls_of (inl := hasI (P := Tryz.prog) [] []) (base [plateB_k, meets_k, plateS_k] [] []) 0 struck4_f (And.intro (by kernel_rfl) ?_)
  repeat' (first | refine And.intro ?_ ?_ | (with_reducible exact ff_elim) | (with_reducible exact tf_elim) | intro _ | (with_reducible rfl) | ((with_reducible refine lk_t ?_); exact rfl) | ((with_reducible refine pf_t ?_); exact rfl) | refine tell ?_ | exact True.intro | (refine IsT.of ?_; kernel_rfl))
  all_goals ((try refine Tell.mk ?_); first | with_reducible rfl | ((show (_ : Int) ≤ _); decide) | ((show (_ : Int) < _); decide) | (with_reducible refine gb_t ?_; with_reducible assumption) | with_reducible assumption | (with_reducible refine gb_f ?_; with_reducible assumption) | (simp only [sT4, sO4, stT, stB, *, cond_true, cond_false]; done) | ((with_reducible refine ks_t ?_); rfl) | ((with_reducible refine pk_t ?_); rfl) | ((with_reducible refine pf_t ?_); rfl) | ((with_reducible refine lk_t ?_); rfl) | ((with_reducible refine okF_t ?_); kernel_rfl) | grind [gb, sT4, sO4, stT, stB])
def struck4_k : Con Tryz.prog := ⟨47, fun args => match args with | [.ifc 116 (.agg [.flt a, .flt b, .flt c, .flt d, .flt e, .flt f, .flt r]), .agg [.flt x, .flt y, .flt z, .flt u, .flt v, .flt w, .flt l]] => .ok (none) (.tup [.flt (sT4 a b c d e f r x y z u v w l), .bool (sO4 a b c d e f r x y z u v w l)]) | _ => .no, by
  intro args p r h hp
  split at h
  · cases h; exact struck4_a _ _ _ _ _ _ _ _ _ _ _ _ _ _
  · cases h⟩
theorem solid4_f : FnOk Tryz.prog 46 Tryz.f46 := ⟨Tryz.func46, by kernel_rfl⟩
theorem solid4_a (a b c d e f g h i r q : Nat) (s : Int) (hpre : shapeE 4 a b c d e f g h i r q s = 0) : ACalls Tryz.prog 46 [.agg [.int .i64 4, .flt a, .flt b, .flt c, .flt d, .flt e, .flt f, .flt g, .flt h, .flt i, .flt r, .flt q, .int .i64 s]] (.tup [.ifc 116 (.agg [.flt a, .flt b, .flt c, .flt d, .flt e, .flt f, .flt r]), .int .i64 0]) := by
  refine acalls_of (inl := hasI (P := Tryz.prog) [] []) (base [fine_k, near_k, fitsPlate_k] [] []) 0 solid4_f (And.intro (by kernel_rfl) ?_)
  repeat' (first | refine And.intro ?_ ?_ | (with_reducible exact ff_elim) | (with_reducible exact tf_elim) | (intro h; exact absurd h (by decide)) | intro _ | (with_reducible rfl) | ((with_reducible refine lk_t ?_); exact rfl) | ((with_reducible refine pf_t ?_); exact rfl) | refine tell ?_ | exact True.intro | (refine IsT.of ?_; kernel_rfl))
  all_goals (try refine Tell.mk ?_)
  all_goals first | with_reducible rfl | with_reducible assumption | (with_reducible refine gb_t ?_; with_reducible assumption) | (with_reducible refine gb_f ?_; with_reducible assumption) | ((with_reducible refine lk_t ?_); rfl) | ((with_reducible refine ks_t ?_); rfl) | (show (_ : AV) = _; kernel_rfl) | exact sh_4 hpre | (exfalso; simp only [shapeE] at hpre; simp_all; done) | (exfalso; clear hf; grind [shapeE]) | (exfalso; grind [shapeE]) | trace_state
def solid4_k : Con Tryz.prog := ⟨46, fun args => match args with | [.agg [.int .i64 4, .flt a, .flt b, .flt c, .flt d, .flt e, .flt f, .flt g, .flt h, .flt i, .flt r, .flt q, .int .i64 s]] => .ok (some (shapeE 4 a b c d e f g h i r q s = 0)) (.tup [.ifc 116 (.agg [.flt a, .flt b, .flt c, .flt d, .flt e, .flt f, .flt r]), .int .i64 0]) | _ => .no, by
  intro args p r h hp
  split at h
  · cases h; exact solid4_a _ _ _ _ _ _ _ _ _ _ _ _ hp
  · cases h⟩
def sE4 (a b c d e f g h i r q : Nat) (s : Int) (x y z u v w l : Nat) : Int := bif !(shapeE 4 a b c d e f g h i r q s == 0) then shapeE 4 a b c d e f g h i r q s else rayV x y z u v w l
theorem Strike4_f : FnOk Tryz.prog 15 Tryz.f15 := ⟨Tryz.func15, by kernel_rfl⟩
theorem Strike4_a (a b c d e f g h i r q : Nat) (s : Int) (x y z u v w l : Nat) : ACalls Tryz.prog 15 [.agg [.int .i64 4, .flt a, .flt b, .flt c, .flt d, .flt e, .flt f, .flt g, .flt h, .flt i, .flt r, .flt q, .int .i64 s], .agg [.flt x, .flt y, .flt z, .flt u, .flt v, .flt w, .flt l]] (.tup [.flt (bif sE4 a b c d e f g h i r q s x y z u v w l == 0 then sT4 a b c d e f r x y z u v w l else 0), .bool (bif sE4 a b c d e f g h i r q s x y z u v w l == 0 then sO4 a b c d e f r x y z u v w l else false), .int .i64 (sE4 a b c d e f g h i r q s x y z u v w l)]) := by
  refine acalls_of (inl := hasI (P := Tryz.prog) [] []) (base [shapeMay_k, rayfine_k, solid4_k, struck4_k] [] []) 0 Strike4_f (And.intro (by kernel_rfl) ?_)
  repeat' (first | refine And.intro ?_ ?_ | (with_reducible exact ff_elim) | (with_reducible exact tf_elim) | intro _ | (with_reducible rfl) | ((with_reducible refine lk_t ?_); exact rfl) | ((with_reducible refine pf_t ?_); exact rfl) | refine tell ?_ | exact True.intro | (refine IsT.of ?_; kernel_rfl))
  all_goals ((try refine Tell.mk ?_); first | with_reducible rfl | ((show (_ : Int) ≤ _); decide) | ((show (_ : Int) < _); decide) | (with_reducible refine gb_t ?_; with_reducible assumption) | with_reducible assumption | (with_reducible refine gb_f ?_; with_reducible assumption) | (simp only [sE4, bne, *, cond_true, cond_false]; done) | ((with_reducible refine ks_t ?_); rfl) | ((with_reducible refine pk_t ?_); rfl) | ((with_reducible refine pf_t ?_); rfl) | ((with_reducible refine lk_t ?_); rfl) | ((with_reducible refine okF_t ?_); kernel_rfl) | grind [gb, sE4, bne])
def Strike4_k : Con Tryz.prog := ⟨15, fun args => match args with | [.agg [.int .i64 4, .flt a, .flt b, .flt c, .flt d, .flt e, .flt f, .flt g, .flt h, .flt i, .flt r, .flt q, .int .i64 s], .agg [.flt x, .flt y, .flt z, .flt u, .flt v, .flt w, .flt l]] => .ok (none) (.tup [.flt (bif sE4 a b c d e f g h i r q s x y z u v w l == 0 then sT4 a b c d e f r x y z u v w l else 0), .bool (bif sE4 a b c d e f g h i r q s x y z u v w l == 0 then sO4 a b c d e f r x y z u v w l else false), .int .i64 (sE4 a b c d e f g h i r q s x y z u v w l)]) | _ => .no, by
  intro args p r h hp
  split at h
  · cases h; exact Strike4_a _ _ _ _ _ _ _ _ _ _ _ _ _ _ _ _ _ _ _
  · cases h⟩
def sO5 (a b c d e f r x y z u v w l : Nat) : Bool := stB (meetB (F .sub (lessV a (F .add a d)) (wo (aloneV d e f) 0 r)) (F .sub (lessV b (F .add b e)) (wo (aloneV d e f) 1 r)) (F .sub (lessV c (F .add c f)) (wz (aloneV d e f) r)) (F .add (moreV a (F .add a d)) (wo (aloneV d e f) 0 r)) (F .add (moreV b (F .add b e)) (wo (aloneV d e f) 1 r)) (F .add (moreV c (F .add c f)) (wz (aloneV d e f) r)) x y z u v w l) (tuT a b c d e f r x y z u v w l (meetX (F .sub (lessV a (F .add a d)) (wo (aloneV d e f) 0 r)) (F .sub (lessV b (F .add b e)) (wo (aloneV d e f) 1 r)) (F .sub (lessV c (F .add c f)) (wz (aloneV d e f) r)) (F .add (moreV a (F .add a d)) (wo (aloneV d e f) 0 r)) (F .add (moreV b (F .add b e)) (wo (aloneV d e f) 1 r)) (F .add (moreV c (F .add c f)) (wz (aloneV d e f) r)) x y z u v w l) (meetY (F .sub (lessV a (F .add a d)) (wo (aloneV d e f) 0 r)) (F .sub (lessV b (F .add b e)) (wo (aloneV d e f) 1 r)) (F .sub (lessV c (F .add c f)) (wz (aloneV d e f) r)) (F .add (moreV a (F .add a d)) (wo (aloneV d e f) 0 r)) (F .add (moreV b (F .add b e)) (wo (aloneV d e f) 1 r)) (F .add (moreV c (F .add c f)) (wz (aloneV d e f) r)) x y z u v w l)) (tuO a b c d e f r x y z u v w (meetX (F .sub (lessV a (F .add a d)) (wo (aloneV d e f) 0 r)) (F .sub (lessV b (F .add b e)) (wo (aloneV d e f) 1 r)) (F .sub (lessV c (F .add c f)) (wz (aloneV d e f) r)) (F .add (moreV a (F .add a d)) (wo (aloneV d e f) 0 r)) (F .add (moreV b (F .add b e)) (wo (aloneV d e f) 1 r)) (F .add (moreV c (F .add c f)) (wz (aloneV d e f) r)) x y z u v w l) (meetY (F .sub (lessV a (F .add a d)) (wo (aloneV d e f) 0 r)) (F .sub (lessV b (F .add b e)) (wo (aloneV d e f) 1 r)) (F .sub (lessV c (F .add c f)) (wz (aloneV d e f) r)) (F .add (moreV a (F .add a d)) (wo (aloneV d e f) 0 r)) (F .add (moreV b (F .add b e)) (wo (aloneV d e f) 1 r)) (F .add (moreV c (F .add c f)) (wz (aloneV d e f) r)) x y z u v w l)) l
def sT5 (a b c d e f r x y z u v w l : Nat) : Nat := stT (meetB (F .sub (lessV a (F .add a d)) (wo (aloneV d e f) 0 r)) (F .sub (lessV b (F .add b e)) (wo (aloneV d e f) 1 r)) (F .sub (lessV c (F .add c f)) (wz (aloneV d e f) r)) (F .add (moreV a (F .add a d)) (wo (aloneV d e f) 0 r)) (F .add (moreV b (F .add b e)) (wo (aloneV d e f) 1 r)) (F .add (moreV c (F .add c f)) (wz (aloneV d e f) r)) x y z u v w l) (tuT a b c d e f r x y z u v w l (meetX (F .sub (lessV a (F .add a d)) (wo (aloneV d e f) 0 r)) (F .sub (lessV b (F .add b e)) (wo (aloneV d e f) 1 r)) (F .sub (lessV c (F .add c f)) (wz (aloneV d e f) r)) (F .add (moreV a (F .add a d)) (wo (aloneV d e f) 0 r)) (F .add (moreV b (F .add b e)) (wo (aloneV d e f) 1 r)) (F .add (moreV c (F .add c f)) (wz (aloneV d e f) r)) x y z u v w l) (meetY (F .sub (lessV a (F .add a d)) (wo (aloneV d e f) 0 r)) (F .sub (lessV b (F .add b e)) (wo (aloneV d e f) 1 r)) (F .sub (lessV c (F .add c f)) (wz (aloneV d e f) r)) (F .add (moreV a (F .add a d)) (wo (aloneV d e f) 0 r)) (F .add (moreV b (F .add b e)) (wo (aloneV d e f) 1 r)) (F .add (moreV c (F .add c f)) (wz (aloneV d e f) r)) x y z u v w l)) (tuO a b c d e f r x y z u v w (meetX (F .sub (lessV a (F .add a d)) (wo (aloneV d e f) 0 r)) (F .sub (lessV b (F .add b e)) (wo (aloneV d e f) 1 r)) (F .sub (lessV c (F .add c f)) (wz (aloneV d e f) r)) (F .add (moreV a (F .add a d)) (wo (aloneV d e f) 0 r)) (F .add (moreV b (F .add b e)) (wo (aloneV d e f) 1 r)) (F .add (moreV c (F .add c f)) (wz (aloneV d e f) r)) x y z u v w l) (meetY (F .sub (lessV a (F .add a d)) (wo (aloneV d e f) 0 r)) (F .sub (lessV b (F .add b e)) (wo (aloneV d e f) 1 r)) (F .sub (lessV c (F .add c f)) (wz (aloneV d e f) r)) (F .add (moreV a (F .add a d)) (wo (aloneV d e f) 0 r)) (F .add (moreV b (F .add b e)) (wo (aloneV d e f) 1 r)) (F .add (moreV c (F .add c f)) (wz (aloneV d e f) r)) x y z u v w l)) l (meetX (F .sub (lessV a (F .add a d)) (wo (aloneV d e f) 0 r)) (F .sub (lessV b (F .add b e)) (wo (aloneV d e f) 1 r)) (F .sub (lessV c (F .add c f)) (wz (aloneV d e f) r)) (F .add (moreV a (F .add a d)) (wo (aloneV d e f) 0 r)) (F .add (moreV b (F .add b e)) (wo (aloneV d e f) 1 r)) (F .add (moreV c (F .add c f)) (wz (aloneV d e f) r)) x y z u v w l) (meetY (F .sub (lessV a (F .add a d)) (wo (aloneV d e f) 0 r)) (F .sub (lessV b (F .add b e)) (wo (aloneV d e f) 1 r)) (F .sub (lessV c (F .add c f)) (wz (aloneV d e f) r)) (F .add (moreV a (F .add a d)) (wo (aloneV d e f) 0 r)) (F .add (moreV b (F .add b e)) (wo (aloneV d e f) 1 r)) (F .add (moreV c (F .add c f)) (wz (aloneV d e f) r)) x y z u v w l)
theorem struck5_f : FnOk Tryz.prog 47 Tryz.f47 := ⟨Tryz.func47, by kernel_rfl⟩
theorem struck5_a (a b c d e f r x y z u v w l : Nat) : ACalls Tryz.prog 47 [.ifc 118 (.agg [.flt a, .flt b, .flt c, .flt d, .flt e, .flt f, .flt r]), .agg [.flt x, .flt y, .flt z, .flt u, .flt v, .flt w, .flt l]] (.tup [.flt (sT5 a b c d e f r x y z u v w l), .bool (sO5 a b c d e f r x y z u v w l)]) := by
  refine acalls_of (inl := hasI (P := Tryz.prog) [] []) (base [tubeB_k, meets_k, tubeS_k] [] []) 0 struck5_f (And.intro (by kernel_rfl) ?_)
  repeat' (first | refine And.intro ?_ ?_ | (with_reducible exact ff_elim) | (with_reducible exact tf_elim) | intro _ | (with_reducible rfl) | ((with_reducible refine lk_t ?_); exact rfl) | ((with_reducible refine pf_t ?_); exact rfl) | refine tell ?_ | exact True.intro | (refine IsT.of ?_; kernel_rfl))
  all_goals ((try refine Tell.mk ?_); first | with_reducible rfl | ((show (_ : Int) ≤ _); decide) | ((show (_ : Int) < _); decide) | (with_reducible refine gb_t ?_; with_reducible assumption) | with_reducible assumption | (with_reducible refine gb_f ?_; with_reducible assumption) | (simp only [sT5, sO5, stT, stB, *, cond_true, cond_false]; done) | ((with_reducible refine ks_t ?_); rfl) | ((with_reducible refine pk_t ?_); rfl) | ((with_reducible refine pf_t ?_); rfl) | ((with_reducible refine lk_t ?_); rfl) | ((with_reducible refine okF_t ?_); kernel_rfl) | grind [gb, sT5, sO5, stT, stB])
def struck5_k : Con Tryz.prog := ⟨47, fun args => match args with | [.ifc 118 (.agg [.flt a, .flt b, .flt c, .flt d, .flt e, .flt f, .flt r]), .agg [.flt x, .flt y, .flt z, .flt u, .flt v, .flt w, .flt l]] => .ok (none) (.tup [.flt (sT5 a b c d e f r x y z u v w l), .bool (sO5 a b c d e f r x y z u v w l)]) | _ => .no, by
  intro args p r h hp
  split at h
  · cases h; exact struck5_a _ _ _ _ _ _ _ _ _ _ _ _ _ _
  · cases h⟩
theorem solid5_f : FnOk Tryz.prog 46 Tryz.f46 := ⟨Tryz.func46, by kernel_rfl⟩
theorem solid5_a (a b c d e f g h i r q : Nat) (s : Int) (hpre : shapeE 5 a b c d e f g h i r q s = 0) : ACalls Tryz.prog 46 [.agg [.int .i64 5, .flt a, .flt b, .flt c, .flt d, .flt e, .flt f, .flt g, .flt h, .flt i, .flt r, .flt q, .int .i64 s]] (.tup [.ifc 118 (.agg [.flt a, .flt b, .flt c, .flt d, .flt e, .flt f, .flt r]), .int .i64 0]) := by
  refine acalls_of (inl := hasI (P := Tryz.prog) [] []) (base [fine_k, near_k, fitsTube_k] [] []) 0 solid5_f (And.intro (by kernel_rfl) ?_)
  repeat' (first | refine And.intro ?_ ?_ | (with_reducible exact ff_elim) | (with_reducible exact tf_elim) | (intro h; exact absurd h (by decide)) | intro _ | (with_reducible rfl) | ((with_reducible refine lk_t ?_); exact rfl) | ((with_reducible refine pf_t ?_); exact rfl) | refine tell ?_ | exact True.intro | (refine IsT.of ?_; kernel_rfl))
  all_goals (try refine Tell.mk ?_)
  all_goals first | with_reducible rfl | with_reducible assumption | (with_reducible refine gb_t ?_; with_reducible assumption) | (with_reducible refine gb_f ?_; with_reducible assumption) | ((with_reducible refine lk_t ?_); rfl) | ((with_reducible refine ks_t ?_); rfl) | (show (_ : AV) = _; kernel_rfl) | exact sh_5 hpre | (exfalso; simp only [shapeE] at hpre; simp_all; done) | (exfalso; clear hf; grind [shapeE]) | (exfalso; grind [shapeE]) | trace_state
def solid5_k : Con Tryz.prog := ⟨46, fun args => match args with | [.agg [.int .i64 5, .flt a, .flt b, .flt c, .flt d, .flt e, .flt f, .flt g, .flt h, .flt i, .flt r, .flt q, .int .i64 s]] => .ok (some (shapeE 5 a b c d e f g h i r q s = 0)) (.tup [.ifc 118 (.agg [.flt a, .flt b, .flt c, .flt d, .flt e, .flt f, .flt r]), .int .i64 0]) | _ => .no, by
  intro args p r h hp
  split at h
  · cases h; exact solid5_a _ _ _ _ _ _ _ _ _ _ _ _ hp
  · cases h⟩
def sE5 (a b c d e f g h i r q : Nat) (s : Int) (x y z u v w l : Nat) : Int := bif !(shapeE 5 a b c d e f g h i r q s == 0) then shapeE 5 a b c d e f g h i r q s else rayV x y z u v w l
theorem Strike5_f : FnOk Tryz.prog 15 Tryz.f15 := ⟨Tryz.func15, by kernel_rfl⟩
theorem Strike5_a (a b c d e f g h i r q : Nat) (s : Int) (x y z u v w l : Nat) : ACalls Tryz.prog 15 [.agg [.int .i64 5, .flt a, .flt b, .flt c, .flt d, .flt e, .flt f, .flt g, .flt h, .flt i, .flt r, .flt q, .int .i64 s], .agg [.flt x, .flt y, .flt z, .flt u, .flt v, .flt w, .flt l]] (.tup [.flt (bif sE5 a b c d e f g h i r q s x y z u v w l == 0 then sT5 a b c d e f r x y z u v w l else 0), .bool (bif sE5 a b c d e f g h i r q s x y z u v w l == 0 then sO5 a b c d e f r x y z u v w l else false), .int .i64 (sE5 a b c d e f g h i r q s x y z u v w l)]) := by
  refine acalls_of (inl := hasI (P := Tryz.prog) [] []) (base [shapeMay_k, rayfine_k, solid5_k, struck5_k] [] []) 0 Strike5_f (And.intro (by kernel_rfl) ?_)
  repeat' (first | refine And.intro ?_ ?_ | (with_reducible exact ff_elim) | (with_reducible exact tf_elim) | intro _ | (with_reducible rfl) | ((with_reducible refine lk_t ?_); exact rfl) | ((with_reducible refine pf_t ?_); exact rfl) | refine tell ?_ | exact True.intro | (refine IsT.of ?_; kernel_rfl))
  all_goals ((try refine Tell.mk ?_); first | with_reducible rfl | ((show (_ : Int) ≤ _); decide) | ((show (_ : Int) < _); decide) | (with_reducible refine gb_t ?_; with_reducible assumption) | with_reducible assumption | (with_reducible refine gb_f ?_; with_reducible assumption) | (simp only [sE5, bne, *, cond_true, cond_false]; done) | ((with_reducible refine ks_t ?_); rfl) | ((with_reducible refine pk_t ?_); rfl) | ((with_reducible refine pf_t ?_); rfl) | ((with_reducible refine lk_t ?_); rfl) | ((with_reducible refine okF_t ?_); kernel_rfl) | grind [gb, sE5, bne])
def Strike5_k : Con Tryz.prog := ⟨15, fun args => match args with | [.agg [.int .i64 5, .flt a, .flt b, .flt c, .flt d, .flt e, .flt f, .flt g, .flt h, .flt i, .flt r, .flt q, .int .i64 s], .agg [.flt x, .flt y, .flt z, .flt u, .flt v, .flt w, .flt l]] => .ok (none) (.tup [.flt (bif sE5 a b c d e f g h i r q s x y z u v w l == 0 then sT5 a b c d e f r x y z u v w l else 0), .bool (bif sE5 a b c d e f g h i r q s x y z u v w l == 0 then sO5 a b c d e f r x y z u v w l else false), .int .i64 (sE5 a b c d e f g h i r q s x y z u v w l)]) | _ => .no, by
  intro args p r h hp
  split at h
  · cases h; exact Strike5_a _ _ _ _ _ _ _ _ _ _ _ _ _ _ _ _ _ _ _
  · cases h⟩
end Go.Proofs.YtdjckabogdohcaaGreat
/- Floats that are bounded: sums, differences, products, quotients; differences turned about. -/
namespace Go.Proofs.YtdjckabogdohcaaGreat
open Go.RowKit Ev Ieee
set_option linter.unusedVariables false
set_option linter.unusedSimpArgs false
set_option maxRecDepth 20000
namespace Flt

theorem h0_nn : 0 ≤ h0 := by
  have h := h0_U
  refine Rat.le_of_mul_le_mul_right (c := U) ?_ U_pos
  rw [h]; grind
theorem two_ge : ∀ k : Nat, (2 : Rat) ≤ ((2 ^ (k + 1) : Nat) : Rat) := fun k => by
  have h : 2 ^ 1 ≤ 2 ^ (k + 1) := Nat.pow_le_pow_right (by decide) (by omega)
  have e : (2 : Rat) = ((2 : Nat) : Rat) := rfl
  rw [e]
  exact Rat.natCast_le_natCast.2 h
theorem U_two : (2 : Rat) ≤ U := by
  obtain ⟨κ, hκ, e⟩ := U_nat
  have h := two_ge (κ - 1)
  rw [show κ - 1 + 1 = κ by omega, ← e] at h
  exact h
theorem h0_one : h0 ≤ 1 / 2 := by
  have h1 : (2 : Rat) * h0 ≤ U * h0 := Rat.mul_le_mul_of_nonneg_right U_two h0_nn
  rw [Rat.mul_comm U, h0_U] at h1
  have := h0_nn
  grind
theorem err_one {M : Rat} (h0' : 0 ≤ M) (h : M ≤ 1152921504606846976) : M * u + h0 ≤ 129 := by
  have := h0_one
  unfold u
  grind
/-- A float that stands for a number, and one no greater than M. -/
structure Q (x : Nat) (M : Rat) : Prop where
  fin : Fin x
  bd : Bd (val x) M
theorem Q.nn {x : Nat} {M : Rat} (h : Q x M) : 0 ≤ M := by have := h.bd; unfold Bd at this; grind
theorem Q.le {x : Nat} {M N : Rat} (h : Q x M) (h' : M ≤ N) : Q x N := ⟨h.fin, h.bd.le h'⟩
theorem near_bd {a e E M : Rat} (h : Nr a e E) (hM : Bd e M) : Bd a (M + E) := by unfold Nr Bd at *; grind
theorem Q.of {r : Nat} {e M : Rat} (h : Fin r ∧ Nr (val r) e (M * u + h0)) (hb : Bd e M) (hM : M ≤ 1152921504606846976) : Q r (M + 129) := by
  have h0M : 0 ≤ M := by unfold Bd at hb; grind
  exact ⟨h.1, (near_bd h.2 hb).le (by have := err_one h0M hM; grind)⟩
theorem Q.add {x y : Nat} {M N : Rat} (hx : Q x M) (hy : Q y N) (h : M + N ≤ 1152921504606846976) : Q (F .add x y) (M + N + 129) :=
  .of (add_err hx.fin hy.fin (hx.bd.add hy.bd) h) (hx.bd.add hy.bd) h
theorem Q.sub {x y : Nat} {M N : Rat} (hx : Q x M) (hy : Q y N) (h : M + N ≤ 1152921504606846976) : Q (F .sub x y) (M + N + 129) :=
  .of (sub_err hx.fin hy.fin (hx.bd.sub hy.bd) h) (hx.bd.sub hy.bd) h
theorem Q.mul {x y : Nat} {M N : Rat} (hx : Q x M) (hy : Q y N) (h : M * N ≤ 1152921504606846976) : Q (F .mul x y) (M * N + 129) :=
  .of (mul_err hx.fin hy.fin (mul_Bd hx.bd hy.bd) h) (mul_Bd hx.bd hy.bd) h
theorem val_pos_U {x : Nat} : 0 ≤ V x → 0 ≤ val x := fun h => by
  refine Rat.le_of_mul_le_mul_right (c := U) ?_ U_pos
  rw [Rat.zero_mul, val_U]
  exact Rat.intCast_nonneg.2 h
theorem val_le {x y : Nat} (h : V x ≤ V y) : val x ≤ val y := by
  refine Rat.le_of_mul_le_mul_right (c := U) ?_ U_pos
  rw [val_U, val_U]
  exact Rat.intCast_le_intCast.2 h
theorem val_neg {z w : Nat} (h : V z ≤ -V w) : val z ≤ -val w := by
  refine Rat.le_of_mul_le_mul_right (c := U) ?_ U_pos
  rw [Rat.neg_mul, val_U, val_U, ← Rat.intCast_neg]
  exact Rat.intCast_le_intCast.2 h
theorem val_neg' {z w : Nat} (h : -V w ≤ V z) : -val w ≤ val z := by
  refine Rat.le_of_mul_le_mul_right (c := U) ?_ U_pos
  rw [Rat.neg_mul, val_U, val_U, ← Rat.intCast_neg]
  exact Rat.intCast_le_intCast.2 h
theorem val_le_of {x κ : Nat} {M : Int} (hκ : U = ((2 ^ κ : Nat) : Rat)) (h : V x ≤ M * (2 ^ κ : Nat)) : val x ≤ (M : Rat) := by
  refine Rat.le_of_mul_le_mul_right (c := U) ?_ U_pos
  rw [val_U]
  have := Rat.intCast_le_intCast.2 h
  rw [Rat.intCast_mul, Rat.intCast_natCast, ← hκ] at this
  exact this
theorem le_val_of {x κ : Nat} {M : Int} (hκ : U = ((2 ^ κ : Nat) : Rat)) (h : M * (2 ^ κ : Nat) ≤ V x) : (M : Rat) ≤ val x := by
  refine Rat.le_of_mul_le_mul_right (c := U) ?_ U_pos
  rw [val_U]
  have := Rat.intCast_le_intCast.2 h
  rw [Rat.intCast_mul, Rat.intCast_natCast, ← hκ] at this
  exact this
theorem of_val_le {x κ : Nat} {M : Int} (hκ : U = ((2 ^ κ : Nat) : Rat)) (h : val x ≤ (M : Rat)) : V x ≤ M * (2 ^ κ : Nat) := by
  have := Rat.mul_le_mul_of_nonneg_right h (Rat.le_of_lt U_pos)
  rw [val_U, hκ] at this
  refine Rat.intCast_le_intCast.1 ?_
  rw [Rat.intCast_mul, Rat.intCast_natCast]
  exact this
theorem of_le_val {x κ : Nat} {M : Int} (hκ : U = ((2 ^ κ : Nat) : Rat)) (h : (M : Rat) ≤ val x) : M * (2 ^ κ : Nat) ≤ V x := by
  have := Rat.mul_le_mul_of_nonneg_right h (Rat.le_of_lt U_pos)
  rw [val_U, hκ] at this
  refine Rat.intCast_le_intCast.1 ?_
  rw [Rat.intCast_mul, Rat.intCast_natCast]
  exact this
theorem val_ne {x : Nat} (h : V x ≠ 0) : val x ≠ 0 := fun e => h (by
  have := val_U x
  rw [e, Rat.zero_mul] at this
  exact Rat.intCast_eq_zero_iff.1 this.symm)
theorem V_0 : V 0 = 0 := by rw [V_of (show double.read 0 = .number false 0 (-1074) by decide +kernel)]; exact signed_0 _ _
theorem val_0 : val 0 = 0 := by unfold val; rw [V_0, Rat.intCast_zero, Rat.div_def, Rat.zero_mul]
/-- A quotient of a number by one that is no lesser. -/
theorem ratio_bd {x y : Nat} (h0y : V y ≠ 0) (h : (V x).natAbs ≤ (V y).natAbs) : Bd (val x / val y) 1 := by
  have hv := val_ne h0y
  have he : (val x / val y) * val y = val x := Rat.div_mul_cancel hv
  generalize val x / val y = q at he ⊢
  rcases Int.lt_or_le (V y) 0 with g | g
  · have g1 : val y ≤ 0 := by rw [← val_0]; exact val_le (by rw [V_0]; omega)
    have g2 : val y ≤ val x := val_le (by omega)
    have g3 : val x ≤ -val y := val_neg (by omega)
    have gp : 0 < -val y := by grind
    unfold Bd
    constructor
    · refine Rat.le_of_mul_le_mul_right (c := -val y) ?_ gp
      rw [Rat.mul_neg q, he]; grind
    · refine Rat.le_of_mul_le_mul_right (c := -val y) ?_ gp
      rw [Rat.mul_neg q, he]; grind
  · have g1 := val_pos_U g
    have g2 : -val y ≤ val x := val_neg' (by omega)
    have g3 : val x ≤ val y := val_le (by omega)
    have gp : 0 < val y := by grind
    unfold Bd
    constructor
    · refine Rat.le_of_mul_le_mul_right (c := val y) ?_ gp
      rw [he]; grind
    · refine Rat.le_of_mul_le_mul_right (c := val y) ?_ gp
      rw [he]; grind
theorem Q.ratio {x y : Nat} (hx : Fin x) (hy : Fin y) (h0y : V y ≠ 0) (h : (V x).natAbs ≤ (V y).natAbs) : Q (F .quo x y) 130 := by
  have he : (val x / val y) * val y = val x := Rat.div_mul_cancel (val_ne h0y)
  have hb := ratio_bd h0y h
  exact (Q.of (quo_err hx hy h0y he hb (by grind)) hb (by grind)).le (by grind)
theorem pw_gen (c : Nat) : (8589934592000000 : Nat) <<< c = 1000000 * 2 ^ (33 + c) := by
  rw [Nat.shiftLeft_eq, Nat.pow_add, ← Nat.mul_assoc]
theorem pw33 {κ : Nat} (hκ : κ = 1074) : (8589934592000000 : Nat) <<< 1041 = 1000000 * 2 ^ κ := by
  have e : κ = 33 + 1041 := by omega
  subst e
  exact pw_gen 1041
/-- What is near is no greater than a million. -/
theorem near_V {x κ : Nat} (hκ : κ = 1074) : nearB x = true ↔ Fin x ∧ -1000000 * ((2 ^ κ : Nat) : Int) ≤ V x ∧ V x ≤ 1000000 * ((2 ^ κ : Nat) : Int) := by
  have f1 : Fin 13920209183539462144 := ⟨_, _, _, read_n1e6⟩
  have f2 : Fin 4696837146684686336 := ⟨_, _, _, read_1e6⟩
  have e1 : V 13920209183539462144 = -1000000 * ((2 ^ κ : Nat) : Int) := by
    rw [V_of read_n1e6]
    unfold signed
    rw [if_pos rfl, show ((-33 : Int) + 1074).toNat = 1041 by decide, pw33 hκ, Int.natCast_mul, Int.neg_mul]; rfl
  have e2 : V 4696837146684686336 = 1000000 * ((2 ^ κ : Nat) : Int) := by
    rw [V_of read_1e6]
    unfold signed
    rw [if_neg (by decide), show ((-33 : Int) + 1074).toNat = 1041 by decide, pw33 hκ, Int.natCast_mul]; rfl
  constructor
  · intro h
    have f := (near_small h).fin
    unfold nearB at h
    rw [fgt_flt, flt_V f1 f, flt_V f f2, feq_V f f1, feq_V f f2, e1, e2] at h
    simp only [Bool.and_eq_true, Bool.or_eq_true, decide_eq_true_eq] at h
    exact ⟨f, by omega, by omega⟩
  · rintro ⟨f, h1, h2⟩
    unfold nearB
    rw [fgt_flt, flt_V f1 f, flt_V f f2, feq_V f f1, feq_V f f2, e1, e2]
    simp only [Bool.and_eq_true, Bool.or_eq_true, decide_eq_true_eq]
    omega
theorem near_Q {x : Nat} (h : nearB x = true) : Q x 1000000 := by
  obtain ⟨κ, hκ, e⟩ := U_nat
  obtain ⟨f, h1, h2⟩ := (near_V hκ).1 h
  refine ⟨f, ?_⟩
  have g1 := le_val_of e h1
  have g2 := val_le_of e h2
  unfold Bd
  exact ⟨by simpa using g1, by simpa using g2⟩
theorem Q.near {x : Nat} (h : Q x 1000000) : nearB x = true := by
  obtain ⟨κ, hκ, e⟩ := U_nat
  have hb := h.bd
  unfold Bd at hb
  exact (near_V hκ).2 ⟨h.fin, of_le_val e (by simpa using hb.1), of_val_le e (by simpa using hb.2)⟩
theorem rung_same {P t t' : Nat} (h : Rng (2 ^ 52) P 1 t) (h' : Rng (2 ^ 52) P 1 t') : rung (2 ^ 52) II P 1 t = rung (2 ^ 52) II P 1 t' :=
  Nat.le_antisymm (rung_mono (by decide) (by decide) (Nat.le_refl _) h h') (rung_mono (by decide) (by decide) (Nat.le_refl _) h' h)
theorem II_pos : 0 < II := by unfold II; decide
theorem rung_pos {P t : Nat} (hP : 0 < P) (h : Rng (2 ^ 52) P 1 t) : 0 < rung (2 ^ 52) II P 1 t := by
  have hi := II_pos
  rcases h with ⟨rfl, _⟩ | ⟨h, _⟩
  · unfold rung rhe
    rw [Nat.zero_mul, Nat.zero_add, Nat.pow_zero, Nat.mul_one, Nat.div_one]
    omega
  · unfold rung
    have := Nat.mul_pos h (show 0 < 2 ^ 52 by decide)
    omega
/-- A difference turned about. -/
theorem sub_turn {x y : Nat} (hx : Fin x) (hy : Fin y) : isN (F .sub x y) = false ∧ isN (F .sub y x) = false ∧ key (F .sub y x) = -key (F .sub x y) := by
  obtain ⟨t, r1, n1, k1⟩ := sub_form hx hy
  obtain ⟨t', r2, n2, k2⟩ := sub_form hy hx
  refine ⟨n1, n2, ?_⟩
  have e : (V y - V x).natAbs = (V x - V y).natAbs := by omega
  rw [e] at r2 k2
  rw [k1, k2, rung_same r2 r1]
  rcases Int.lt_trichotomy (V x) (V y) with g | g | g
  · rw [decide_eq_true g, decide_eq_false (show ¬ V y < V x by omega)]; unfold sg; simp
  · have e0 : (V x - V y).natAbs = 0 := by omega
    rw [e0] at r1 ⊢
    rw [rng_0 (by decide) (by decide) r1]; unfold sg; split <;> split <;> simp
  · rw [decide_eq_true g, decide_eq_false (show ¬ V x < V y by omega)]; unfold sg; simp
theorem key_0 : key 0 = 0 := by decide +kernel
theorem Fin_0 : Fin 0 := ⟨false, 0, -1074, by decide +kernel⟩
theorem V_pos {x : Nat} (h : Fin x) : 0 < V x ↔ 0 < key x := by
  have := (V_key Fin_0 h).1
  rw [V_0, key_0] at this; exact this
theorem V_nonneg {x : Nat} (h : Fin x) : 0 ≤ V x ↔ 0 ≤ key x := by
  have := (V_key h Fin_0).1
  rw [V_0, key_0] at this; omega
theorem add_pos {x y : Nat} (hx : Fin x) (hy : Fin y) (h : 0 < V x + V y) : isN (F .add x y) = false ∧ 0 < key (F .add x y) := by
  obtain ⟨t, r, n, k⟩ := add_form hx hy
  refine ⟨n, ?_⟩
  rw [k, decide_eq_false (by omega)]
  have := rung_pos (by omega) r
  unfold sg
  rw [if_neg (by decide)]
  omega
theorem add_neg {x y : Nat} (hx : Fin x) (hy : Fin y) (h : V x + V y < 0) : isN (F .add x y) = false ∧ key (F .add x y) < 0 := by
  obtain ⟨t, r, n, k⟩ := add_form hx hy
  refine ⟨n, ?_⟩
  rw [k, decide_eq_true h]
  have := rung_pos (by omega) r
  unfold sg
  rw [if_pos rfl]
  omega
/-- The sign turned. -/
theorem key_fneg (x : Nat) : key (fneg x) = -key x := by
  have hm : fneg x % 9223372036854775808 = x % 9223372036854775808 := fneg_mod x
  have hd : fneg x / 9223372036854775808 % 2 = 1 - x / 9223372036854775808 % 2 := by
    have e : fneg x / 2 ^ 63 = x / 2 ^ 63 ^^^ 1 := by
      show (x ^^^ 2 ^ 63) / 2 ^ 63 = _
      rw [Nat.xor_div_two_pow, Nat.div_self (by decide)]
    rw [show (9223372036854775808 : Nat) = 2 ^ 63 by decide, e, show (2 : Nat) = 2 ^ 1 by decide, Nat.xor_mod_two_pow]
    have : x / (2 ^ 1) ^ 63 % 2 ^ 1 = 0 ∨ x / (2 ^ 1) ^ 63 % 2 ^ 1 = 1 := by omega
    rcases this with h | h <;> rw [h] <;> rfl
  unfold key
  rw [hm, hd]
  have : x / 9223372036854775808 % 2 = 0 ∨ x / 9223372036854775808 % 2 = 1 := by omega
  rcases this with h | h <;> rw [h] <;> unfold sg <;> simp
theorem key_Fneg {x : Nat} (h : isN x = false) : isN (Fneg x) = false ∧ key (Fneg x) = -key x := by
  have e : Fneg x = fneg x := by unfold Fneg; exact cn_notN (by rw [isN_fneg]; exact h)
  rw [e]
  exact ⟨by rw [isN_fneg]; exact h, key_fneg x⟩
theorem V_absK {x : Nat} (h : Fin x) : (V x).natAbs = Vr (key x).natAbs := by
  obtain ⟨s, r, k, h1, h2, h3⟩ := read_sr x
  have hr : r < II := by
    rcases Nat.lt_trichotomy r II with g | g | g
    · exact g
    · obtain ⟨t, m, i, e⟩ := h
      rw [h2 g] at e; cases e
    · have := h3 g; rw [h.notN] at this; cases this
  obtain ⟨m, i, _, e⟩ := h1 hr
  rw [e, k]
  unfold sg
  cases s <;> simp
end Flt
end Go.Proofs.YtdjckabogdohcaaGreat
/- Floats that are whole numbers: their sums, products and even quotients are exact. -/
namespace Go.Proofs.YtdjckabogdohcaaGreat
open Go.RowKit Ev Ieee
set_option linter.unusedVariables false
set_option linter.unusedSimpArgs false
set_option maxRecDepth 20000
namespace Flt

theorem rhe_exact {q g : Nat} (hg : 0 < g) : rhe (q * g) g = q := by
  unfold rhe
  rw [Nat.mul_mod_left, Nat.mul_div_cancel _ hg, if_neg (by omega)]; rfl
theorem rung_at {P D t q : Nat} (hq : rhe P (D * 2 ^ t) = q) (h1 : q ≤ 9007199254740992) (ht : t ≤ 1074) : rung (2 ^ 52) II P D t = t * 4503599627370496 + q ∧ t * 4503599627370496 + q < II := by
  have hII : II = 9218868437227405312 := by decide
  unfold rung; rw [p52, hII, hq]
  omega
theorem rung_exact {P D t Z κ : Nat} (hκ : κ = 1074) (hD : 0 < D) (h : Rng (2 ^ 52) P D t) (hP : P = Z * 2 ^ κ * D) (hZ : Z < 9007199254740992) : rung (2 ^ 52) II P D t < II ∧ Vr (rung (2 ^ 52) II P D t) = Z * 2 ^ κ := by
  have hII : II = 9218868437227405312 := by decide
  have hg : 0 < D * 2 ^ t := Nat.mul_pos hD (Nat.two_pow_pos _)
  have p53 : (2 : Nat) ^ 53 = 9007199254740992 := by decide
  have ht : t ≤ κ := by
    rcases h with ⟨h, _⟩ | ⟨_, h, _⟩
    · omega
    · rw [hP] at h
      have h1 := Nat.le_of_mul_le_mul_right h hD
      have h2 : Z * 2 ^ κ < 2 ^ 53 * 2 ^ κ := Nat.mul_lt_mul_of_pos_right (by omega) (Nat.two_pow_pos _)
      have h3 : 2 ^ 52 * 2 ^ t < 2 ^ 53 * 2 ^ κ := Nat.lt_of_le_of_lt h1 h2
      rw [← Nat.pow_add, ← Nat.pow_add] at h3
      have := (Nat.pow_lt_pow_iff_right (by decide)).1 h3
      omega
  have eP : P = Z * 2 ^ (κ - t) * (D * 2 ^ t) := by
    have : Z * 2 ^ (κ - t) * (D * 2 ^ t) = Z * D * (2 ^ (κ - t) * 2 ^ t) := by simp only [Nat.mul_assoc, Nat.mul_left_comm, Nat.mul_comm]
    rw [this, ← Nat.pow_add, show κ - t + t = κ by omega, hP, Nat.mul_right_comm]
  have er : rhe P (D * 2 ^ t) = Z * 2 ^ (κ - t) := by rw [eP]; exact rhe_exact hg
  have q1 : rhe P (D * 2 ^ t) ≤ 9007199254740992 := rhe_upper hg (by have := h.upper; rw [p52] at this; exact this)
  have q2 : 0 < t → 4503599627370496 ≤ rhe P (D * 2 ^ t) := fun ht => rhe_lower hg (by
    rcases h with ⟨h, _⟩ | ⟨_, h, _⟩
    · omega
    · rw [p52] at h; rw [Nat.mul_comm D, ← Nat.mul_assoc]; exact h)
  rw [er] at q1 q2
  obtain ⟨f1, f2⟩ := rung_at er q1 (Nat.le_trans ht (Nat.le_of_eq hκ))
  rw [f1, Vr_at q1 q2, Nat.mul_assoc, ← Nat.pow_add, Nat.sub_add_cancel ht]
  exact ⟨f2, rfl⟩
theorem sg_natAbs {s : Bool} {P m : Nat} {z : Int} (h : sg s P = z * (m : Int)) : P = z.natAbs * m := by
  have h1 := congrArg Int.natAbs h
  rw [Int.natAbs_mul] at h1
  have h2 : (sg s P).natAbs = P := by unfold sg; cases s <;> simp
  rw [h2] at h1
  exact h1
theorem op_exact {r P D t : Nat} {s : Bool} (hD : 0 < D) (hr : Rng (2 ^ 52) P D t) (hn : isN r = false) (hk : key r = sg s (rung (2 ^ 52) II P D t)) {z : Int} (he : (z : Rat) * (U * (D : Rat)) = ((sg s P : Int) : Rat))
    (hz : -9007199254740992 < z ∧ z < 9007199254740992) : Fin r ∧ val r = (z : Rat) := by
  obtain ⟨κ, hκ, hU⟩ := U_nat
  have e1 : sg s P = z * ((2 ^ κ * D : Nat) : Int) := by
    refine Rat.intCast_inj.1 ?_
    rw [← he, hU, Rat.intCast_mul, Rat.intCast_natCast, Rat.natCast_mul]
  have e2 := sg_natAbs e1
  obtain ⟨r1, r2⟩ := rung_exact hκ hD hr (Z := z.natAbs) (by rw [e2, Nat.mul_assoc]) (by omega)
  obtain ⟨f, v⟩ := key_V hk hn r1
  refine ⟨f, ?_⟩
  have ev : V r = z * ((2 ^ κ : Nat) : Int) := by
    rw [v, r2]
    have e3 : sg s (z.natAbs * 2 ^ κ) * (D : Int) = z * ((2 ^ κ : Nat) : Int) * (D : Int) := by
      have : sg s (z.natAbs * 2 ^ κ) * (D : Int) = sg s P := by
        rw [e2]
        unfold sg
        cases s
        · simp only [Bool.false_eq_true, if_false]; rw [← Int.natCast_mul, Nat.mul_assoc]
        · simp only [if_true]; rw [Int.neg_mul, ← Int.natCast_mul, Nat.mul_assoc]
      rw [this, e1, Int.natCast_mul, Int.mul_assoc]
    exact Int.eq_of_mul_eq_mul_right (by omega) e3
  have hUp := U_pos
  have e4 : val r * U = (z : Rat) * U := by rw [val_U, ev, hU, Rat.intCast_mul, Rat.intCast_natCast]
  exact Rat.le_antisymm (Rat.le_of_mul_le_mul_right (c := U) (by rw [e4]; exact Rat.le_refl) hUp) (Rat.le_of_mul_le_mul_right (c := U) (by rw [e4]; exact Rat.le_refl) hUp)
/-- A float that is a whole number. -/
structure Iv (x : Nat) (z : Int) : Prop where
  fin : Fin x
  eq : val x = (z : Rat)
theorem Iv.V {x : Nat} {z : Int} (h : Iv x z) {κ : Nat} (hκ : U = ((2 ^ κ : Nat) : Rat)) : V x = z * ((2 ^ κ : Nat) : Int) := by
  refine Rat.intCast_inj.1 ?_
  rw [← val_U, h.eq, hκ, Rat.intCast_mul, Rat.intCast_natCast]
theorem iv_add {x y : Nat} {a b : Int} (hx : Iv x a) (hy : Iv y b) (h : -9007199254740992 < a + b ∧ a + b < 9007199254740992) : Iv (F .add x y) (a + b) := by
  obtain ⟨t, r, n, k⟩ := add_form hx.fin hy.fin
  obtain ⟨f, v⟩ := op_exact (by decide) r n k (z := a + b) (by rw [sg_abs, one_cast, Rat.mul_one, Rat.intCast_add, Rat.add_mul, ← hx.eq, ← hy.eq, val_U, val_U, Rat.intCast_add]) h
  exact ⟨f, v⟩
theorem iv_sub {x y : Nat} {a b : Int} (hx : Iv x a) (hy : Iv y b) (h : -9007199254740992 < a - b ∧ a - b < 9007199254740992) : Iv (F .sub x y) (a - b) := by
  obtain ⟨t, r, n, k⟩ := sub_form hx.fin hy.fin
  rw [show decide (Flt.V x < Flt.V y) = decide (Flt.V x - Flt.V y < 0) from decide_eq_decide.2 (by omega)] at k
  have e1 := val_U x
  have e2 := val_U y
  obtain ⟨f, v⟩ := op_exact (by decide) r n k (z := a - b) (by rw [sg_abs, one_cast, Rat.mul_one, Rat.intCast_sub, Rat.intCast_sub, ← e1, ← e2, hx.eq, hy.eq]; grind) h
  exact ⟨f, v⟩
theorem iv_mul {x y : Nat} {a b : Int} (hx : Iv x a) (hy : Iv y b) (h : -9007199254740992 < a * b ∧ a * b < 9007199254740992) : Iv (F .mul x y) (a * b) := by
  have hx' := hx
  have hy' := hy
  obtain ⟨⟨s, m, i, ex⟩, vx⟩ := hx
  obtain ⟨⟨t, n, j, ey⟩, vy⟩ := hy
  obtain ⟨_, i0, _⟩ := read_form ex
  obtain ⟨_, j0, _⟩ := read_form ey
  obtain ⟨τ, r, nn, k⟩ := mul_form ex ey
  obtain ⟨κ, hκ, hκU⟩ := U_nat
  have e1 : m * n * 2 ^ (i + j + 1074).toNat * 2 ^ κ = m * 2 ^ (i + 1074).toNat * (n * 2 ^ (j + 1074).toNat) * 2 ^ (-1074 - (i + j)).toNat := by
    have : m * 2 ^ (i + 1074).toNat * (n * 2 ^ (j + 1074).toNat) * 2 ^ (-1074 - (i + j)).toNat = m * n * (2 ^ ((i + 1074).toNat + (j + 1074).toNat + (-1074 - (i + j)).toNat)) := by
      rw [Nat.pow_add, Nat.pow_add]; simp only [Nat.mul_assoc, Nat.mul_left_comm, Nat.mul_comm]
    rw [this, Nat.mul_assoc, ← Nat.pow_add, show (i + j + 1074).toNat + κ = (i + 1074).toNat + (j + 1074).toNat + (-1074 - (i + j)).toNat by omega]
  have e2 : ((sg (s ^^ t) (m * n * 2 ^ (i + j + 1074).toNat) : Int) : Rat) * U = (Flt.V x : Rat) * (Flt.V y : Rat) * ((2 ^ (-1074 - (i + j)).toNat : Nat) : Rat) := by
    rw [V_sg ex, V_sg ey, hκU, ← sg_scale, e1, sg_scale, ← sg_mul, Rat.intCast_mul]
  obtain ⟨f, v⟩ := op_exact (Nat.two_pow_pos _) r nn k (z := a * b) (by
    have hU := U_pos
    rw [← val_U x, ← val_U y, vx, vy] at e2
    rw [Rat.intCast_mul]
    generalize ((sg (s ^^ t) (m * n * 2 ^ (i + j + 1074).toNat) : Int) : Rat) = z at *
    generalize ((2 ^ (-1074 - (i + j)).toNat : Nat) : Rat) = d at *
    have e3 : z * U = (a : Rat) * (b : Rat) * (U * d) * U := by rw [e2]; grind
    exact Rat.le_antisymm (Rat.le_of_mul_le_mul_right (c := U) (by rw [e3]; exact Rat.le_refl) hU) (Rat.le_of_mul_le_mul_right (c := U) (by rw [e3]; exact Rat.le_refl) hU)) h
  exact ⟨f, v⟩
theorem iv_quo {x y : Nat} {a b c : Int} (hx : Iv x a) (hy : Iv y b) (hb : b ≠ 0) (hc : c * b = a) (h : -9007199254740992 < c ∧ c < 9007199254740992) : Iv (F .quo x y) c := by
  obtain ⟨κ, hκ, hκU⟩ := U_nat
  have vx := hx.V hκU
  have vy := hy.V hκU
  obtain ⟨⟨s, m, i, ex⟩, _⟩ := hx
  obtain ⟨⟨t, n, j, ey⟩, _⟩ := hy
  obtain ⟨_, i0, _⟩ := read_form ex
  obtain ⟨_, j0, _⟩ := read_form ey
  have hp : (0 : Int) < ((2 ^ κ : Nat) : Int) := by have := Nat.two_pow_pos κ; omega
  have h0y : Flt.V y ≠ 0 := by rw [vy]; exact fun e => (Int.mul_eq_zero.1 e).elim hb (by omega)
  have hn : n ≠ 0 := by
    intro h; subst h; apply h0y; rw [V_of ey]; exact signed_0 _ _
  obtain ⟨τ, r, nn, k⟩ := quo_key ex ey hn
  have e1 : m * 2 ^ (i - j + 1074).toNat * (n * 2 ^ (j + 1074).toNat) = m * 2 ^ (i + 1074).toNat * 2 ^ κ * (n * 2 ^ (j - i - 1074).toNat) := by
    have h1 : m * 2 ^ (i - j + 1074).toNat * (n * 2 ^ (j + 1074).toNat) = m * n * 2 ^ ((i - j + 1074).toNat + (j + 1074).toNat) := by
      rw [Nat.pow_add]; simp only [Nat.mul_assoc, Nat.mul_left_comm, Nat.mul_comm]
    have h2 : m * 2 ^ (i + 1074).toNat * 2 ^ κ * (n * 2 ^ (j - i - 1074).toNat) = m * n * 2 ^ ((i + 1074).toNat + κ + (j - i - 1074).toNat) := by
      rw [Nat.pow_add, Nat.pow_add]; simp only [Nat.mul_assoc, Nat.mul_left_comm, Nat.mul_comm]
    rw [h1, h2, show (i - j + 1074).toNat + (j + 1074).toNat = (i + 1074).toNat + κ + (j - i - 1074).toNat by omega]
  have e2 : ((sg (s ^^ t) (m * 2 ^ (i - j + 1074).toNat) : Int) : Rat) * (Flt.V y : Rat) = (Flt.V x : Rat) * ((2 ^ κ : Nat) : Rat) * ((n * 2 ^ (j - i - 1074).toNat : Nat) : Rat) := by
    rw [V_sg ex, V_sg ey, ← Rat.intCast_mul, sg_mul, e1, sg_scale, sg_scale, Bool.xor_assoc, Bool.xor_self, Bool.xor_false]
  obtain ⟨f, v⟩ := op_exact (Nat.mul_pos (by omega) (Nat.two_pow_pos _)) r nn k (z := c) (by
    have hU := U_pos
    have hb' : (b : Rat) ≠ 0 := fun e => hb (Rat.intCast_eq_zero_iff.1 e)
    rw [vx, vy, ← hc, ← hκU, Rat.intCast_mul, Rat.intCast_mul, Rat.intCast_mul, Rat.intCast_natCast, ← hκU] at e2
    generalize ((sg (s ^^ t) (m * 2 ^ (i - j + 1074).toNat) : Int) : Rat) = z at *
    generalize ((n * 2 ^ (j - i - 1074).toNat : Nat) : Rat) = d at *
    generalize (b : Rat) = b' at *
    generalize (c : Rat) = c' at *
    generalize U = U' at *
    grind) h
  exact ⟨f, v⟩
theorem iv_of {x : Nat} {z : Int} {κ : Nat} (hκ : U = ((2 ^ κ : Nat) : Rat)) (hf : Fin x) (h : Flt.V x = z * ((2 ^ κ : Nat) : Int)) : Iv x z := by
  refine ⟨hf, ?_⟩
  have hUp := U_pos
  have e4 : val x * U = (z : Rat) * U := by rw [val_U, h, hκ, Rat.intCast_mul, Rat.intCast_natCast]
  exact Rat.le_antisymm (Rat.le_of_mul_le_mul_right (c := U) (by rw [e4]; exact Rat.le_refl) hUp) (Rat.le_of_mul_le_mul_right (c := U) (by rw [e4]; exact Rat.le_refl) hUp)
theorem iv_near {z : Int} (h : -9007199254740992 < z ∧ z < 9007199254740992) : Iv (cn (FloatKind.f64.nearest z)) z := by
  have e : FloatKind.f64.nearest z = double.nearest (decide (z < 0)) z.natAbs 0 := rfl
  obtain ⟨n1, n2⟩ := nearest_V (decide (z < 0)) (m := z.natAbs) (i := 0) (by omega) (by decide) (by decide)
  obtain ⟨κ, hκ, hU⟩ := U_nat
  rw [e, cn_notN n1.notN]
  refine iv_of hU n1 ?_
  rw [n2, show ((0 : Int) + 1074).toNat = κ by omega]
  unfold signed
  rw [Nat.shiftLeft_eq]
  by_cases g : z < 0
  · rw [decide_eq_true g, if_pos rfl, Int.natCast_mul, ← Int.neg_mul]
    congr 1; omega
  · rw [decide_eq_false g, if_neg (by decide), Int.natCast_mul]
    congr 1; omega
theorem iv_feq {x y : Nat} {z : Int} (hx : Iv x z) (hy : Iv y z) : feq x y = true := by
  obtain ⟨κ, hκ, hU⟩ := U_nat
  rw [feq_V hx.fin hy.fin, hx.V hU, hy.V hU, decide_eq_true rfl]
theorem iv_cmp {x y : Nat} {a b : Int} (hx : Iv x a) (hy : Iv y b) : flt x y = decide (a < b) ∧ feq x y = decide (a = b) ∧ fgt x y = decide (b < a) := by
  obtain ⟨κ, hκ, hU⟩ := U_nat
  have hp : (0 : Int) < ((2 ^ κ : Nat) : Int) := by have := Nat.two_pow_pos κ; omega
  have lt : ∀ a b : Int, (a * ((2 ^ κ : Nat) : Int) < b * ((2 ^ κ : Nat) : Int)) = (a < b) := fun a b => propext ⟨fun h => Int.lt_of_mul_lt_mul_right h (Int.le_of_lt hp), fun h => Int.mul_lt_mul_of_pos_right h hp⟩
  refine ⟨?_, ?_, ?_⟩
  · rw [flt_V hx.fin hy.fin, hx.V hU, hy.V hU]; exact decide_eq_decide.2 (by rw [lt])
  · rw [feq_V hx.fin hy.fin, hx.V hU, hy.V hU]
    refine decide_eq_decide.2 ⟨fun h => Int.eq_of_mul_eq_mul_right (by omega) h, fun h => by rw [h]⟩
  · rw [fgt_flt, flt_V hy.fin hx.fin, hx.V hU, hy.V hU]; exact decide_eq_decide.2 (by rw [lt])
end Flt
end Go.Proofs.YtdjckabogdohcaaGreat
/- Sides of rays: the same for both ways, but for the sign; what goes by within four goes through one of two triangles. -/
namespace Go.Proofs.YtdjckabogdohcaaGreat
open Go.RowKit Ev Flt
set_option linter.unusedVariables false
set_option linter.unusedSimpArgs false
set_option maxRecDepth 20000

theorem V_zero {x : Nat} (h : nearB x = true) : (feq x 0 = true ↔ V x = 0) := by
  rw [feq_V (near_Q h).fin Fin_0, V_0, decide_eq_true_eq]
theorem fine3 {a b c : Nat} (h : fineB a b c = true) : nearB a = true ∧ nearB b = true ∧ nearB c = true := by
  unfold fineB at h; simp only [Bool.and_eq_true] at h; exact ⟨h.1.1, h.1.2, h.2⟩
/-- A place's number, seen along a ray. -/
theorem place_Q {b q e d p a : Nat} (hb : nearB b = true) (hq : nearB q = true) (he : nearB e = true) (hd : nearB d = true) (hp : nearB p = true) (ha : nearB a = true) (h0 : V d ≠ 0) (h : (V e).natAbs ≤ (V d).natAbs) :
    Q (F .sub (F .sub q b) (F .mul (F .quo e d) (F .sub p a))) 300000000 := by
  have h1 := (near_Q hq).sub (near_Q hb) (by grind)
  have h2 := (near_Q hp).sub (near_Q ha) (by grind)
  have h3 := Q.ratio (near_Q he).fin (near_Q hd).fin h0 h
  have h4 := h3.mul h2 (by grind)
  exact (h1.sub h4 (by grind)).le (by grind)
/-- A side, and the other way. -/
theorem side_turn {X Y X' Y' : Nat} (hX : Q X 300000000) (hY : Q Y 300000000) (hX' : Q X' 300000000) (hY' : Q Y' 300000000) :
    Q (F .sub (F .mul X Y') (F .mul Y X')) 200000000000000000 ∧ key (F .sub (F .mul X' Y) (F .mul Y' X)) = -key (F .sub (F .mul X Y') (F .mul Y X')) := by
  have h1 := hX.mul hY' (by grind)
  have h2 := hY.mul hX' (by grind)
  rw [F_mul_comm X' Y, F_mul_comm Y' X]
  exact ⟨(h1.sub h2 (by grind)).le (by grind), (sub_turn h1.fin h2.fin).2.2⟩
theorem gt_key {x : Nat} (h : Flt.Fin x) : fgt x 0 = decide (0 < key x) ∧ flt x 0 = decide (key x < 0) := by
  have n0 : isN 0 = false := by decide +kernel
  rw [fgt_key h.notN n0, flt_key h.notN n0, key_0]
  exact ⟨rfl, rfl⟩
/-- Three sides, two above nought and one not below it. -/
theorem thr_pos {x y z : Nat} (hx : Q x 200000000000000000) (hy : Q y 200000000000000000) (hz : Q z 200000000000000000) (h1 : 0 < key x) (h2 : 0 ≤ key y) (h3 : 0 < key z) : thrB x y z = true ∧ thrB x z y = true := by
  have n0 : isN 0 = false := by decide +kernel
  have vx := (V_pos hx.fin).2 h1
  have vy := (V_nonneg hy.fin).2 h2
  have vz := (V_pos hz.fin).2 h3
  have s1 := hx.add hy (by grind)
  have s2 := hx.add hz (by grind)
  have p1 := add_pos hx.fin hy.fin (by omega)
  have p2 := add_pos hx.fin hz.fin (by omega)
  have v1 := (V_pos s1.fin).2 p1.2
  have v2 := (V_pos s2.fin).2 p2.2
  have q1 := add_pos s1.fin hz.fin (by omega)
  have q2 := add_pos s2.fin hy.fin (by omega)
  unfold thrB
  rw [(gt_key hx.fin).1, (gt_key hx.fin).2, (gt_key hy.fin).1, (gt_key hy.fin).2, (gt_key hz.fin).1, (gt_key hz.fin).2, feq_key q1.1 n0, feq_key q2.1 n0, key_0,
    decide_eq_false (show ¬ key x < 0 by omega), decide_eq_false (show ¬ key y < 0 by omega), decide_eq_false (show ¬ key z < 0 by omega), decide_eq_false (show ¬ key (F .add (F .add x y) z) = 0 by omega), decide_eq_false (show ¬ key (F .add (F .add x z) y) = 0 by omega)]
  exact ⟨rfl, rfl⟩
theorem sides_neg {x y : Nat} (hx : Q x 200000000000000000) (hy : Q y 200000000000000000) (h : key y = -key x) : feq x (Fneg y) = true := by
  have n := key_Fneg hy.fin.notN
  rw [feq_key hx.fin.notN n.1, n.2, h]
  simp
theorem two_thr {ab bc cd da ca ac : Nat} (h1 : Q ab 200000000000000000) (h2 : Q bc 200000000000000000) (h3 : Q cd 200000000000000000) (h4 : Q da 200000000000000000) (h5 : Q ca 200000000000000000) (h6 : Q ac 200000000000000000) (h : key ac = -key ca)
    (k1 : fgt ab 0 = true) (k2 : fgt bc 0 = true) (k3 : fgt cd 0 = true) (k4 : fgt da 0 = true) : thrB bc ca ab = true ∨ thrB cd da ac = true := by
  rw [(gt_key h1.fin).1, decide_eq_true_eq] at k1
  rw [(gt_key h2.fin).1, decide_eq_true_eq] at k2
  rw [(gt_key h3.fin).1, decide_eq_true_eq] at k3
  rw [(gt_key h4.fin).1, decide_eq_true_eq] at k4
  by_cases g : 0 ≤ key ca
  · exact .inl (thr_pos h2 h5 h1 k2 g k1).1
  · exact .inr (thr_pos h3 h6 h4 k3 (by omega) k4).2
theorem abs_key {x : Nat} (h : isN x = false) : isN (absF x) = false ∧ key (absF x) = (key x).natAbs := by
  have n : isN (x % 9223372036854775808) = false := by rw [isN_mod (y := x) (by omega)]; exact h
  unfold absF
  rw [cn_notN n]
  refine ⟨n, ?_⟩
  unfold key
  rw [Nat.mod_mod, show x % 9223372036854775808 / 9223372036854775808 % 2 = 0 by omega]
  unfold sg
  have : x / 9223372036854775808 % 2 = 0 ∨ x / 9223372036854775808 % 2 = 1 := by omega
  rcases this with e | e <;> rw [e] <;> simp <;> omega
theorem V_abs {x : Nat} (h : Flt.Fin x) : (V x).natAbs = Vr (key x).natAbs := by
  obtain ⟨s, r, k, h1, h2, h3⟩ := read_sr x
  have hr : r < II := by
    rcases Nat.lt_trichotomy r II with g | g | g
    · exact g
    · obtain ⟨t, m, i, e⟩ := h
      rw [h2 g] at e; cases e
    · have := h3 g; rw [h.notN] at this; cases this
  obtain ⟨m, i, _, e⟩ := h1 hr
  rw [e, k]
  unfold sg
  cases s <;> simp
theorem V_le {x y : Nat} (hx : Flt.Fin x) (hy : Flt.Fin y) (h : (key x).natAbs ≤ (key y).natAbs) : (V x).natAbs ≤ (V y).natAbs := by
  rw [V_abs hx, V_abs hy]
  rcases Nat.lt_or_eq_of_le h with g | g
  · exact Nat.le_of_lt (Vr_lt g)
  · rw [g]; exact Nat.le_refl _
theorem abs_gt {x y : Nat} (hx : isN x = false) (hy : isN y = false) : fgt (absF x) (absF y) = decide ((key y).natAbs < (key x).natAbs) := by
  rw [fgt_key (abs_key hx).1 (abs_key hy).1, (abs_key hx).2, (abs_key hy).2]
  exact decide_eq_decide.2 (by omega)
/-- The greatest axis is no lesser than the others. -/
theorem deep_max {d e f : Nat} (hd : nearB d = true) (he : nearB e = true) (hf : nearB f = true) :
    (deepV d e f = 0 → (V e).natAbs ≤ (V d).natAbs ∧ (V f).natAbs ≤ (V d).natAbs) ∧ (deepV d e f = 1 → (V d).natAbs ≤ (V e).natAbs ∧ (V f).natAbs ≤ (V e).natAbs) ∧ (deepV d e f = 2 → (V d).natAbs ≤ (V f).natAbs ∧ (V e).natAbs ≤ (V f).natAbs) := by
  have nd := (near_Q hd).fin
  have ne := (near_Q he).fin
  have nf := (near_Q hf).fin
  unfold deepV
  rw [abs_gt ne.notN nd.notN, abs_gt nf.notN ne.notN, abs_gt nf.notN nd.notN]
  by_cases g1 : (key d).natAbs < (key e).natAbs
  · rw [decide_eq_true g1]
    by_cases g2 : (key e).natAbs < (key f).natAbs
    · rw [decide_eq_true g2]
      exact ⟨fun h => (by cases h), fun h => (by cases h), fun _ => ⟨V_le nd nf (by omega), V_le ne nf (by omega)⟩⟩
    · rw [decide_eq_false g2]
      exact ⟨fun h => (by cases h), fun _ => ⟨V_le nd ne (by omega), V_le nf ne (by omega)⟩, fun h => (by cases h)⟩
  · rw [decide_eq_false g1]
    by_cases g2 : (key d).natAbs < (key f).natAbs
    · rw [decide_eq_true g2]
      exact ⟨fun h => (by cases h), fun h => (by cases h), fun _ => ⟨V_le nd nf (by omega), V_le ne nf (by omega)⟩⟩
    · rw [decide_eq_false g2]
      exact ⟨fun _ => ⟨V_le ne nd (by omega), V_le nf nd (by omega)⟩, fun h => (by cases h), fun h => (by cases h)⟩
theorem ray_ok {a b c d e f l : Nat} (h : rayV a b c d e f l = 0) : (fineB a b c = true ∧ fineB d e f = true ∧ nearB l = true) ∧ ¬ (V d = 0 ∧ V e = 0 ∧ V f = 0) := by
  unfold rayV at h
  cases h1 : fineB a b c <;> cases h2 : fineB d e f <;> cases h3 : nearB l <;> rw [h1, h2, h3] at h <;> first | (cases h; done) | skip
  refine ⟨⟨rfl, rfl, rfl⟩, ?_⟩
  rintro ⟨v1, v2, v3⟩
  obtain ⟨n1, n2, n3⟩ := fine3 h2
  rw [(V_zero n1).2 v1, (V_zero n2).2 v2, (V_zero n3).2 v3] at h
  cases h
theorem edg_ok {a b c d e f l p q r u v w : Nat} (h : edgE a b c d e f l p q r u v w = 0) : rayV a b c d e f l = 0 ∧ fineB p q r = true ∧ fineB u v w = true := by
  unfold edgE at h
  by_cases h0 : rayV a b c d e f l = 0
  · rw [h0] at h
    cases h1 : fineB p q r <;> cases h2 : fineB u v w <;> rw [h1, h2] at h <;> first | (cases h; done) | exact ⟨h0, rfl, rfl⟩
  · have : (!(rayV a b c d e f l == 0)) = true := by simpa using h0
    rw [this, cond_true] at h
    exact absurd h h0
theorem edg_swap (a b c d e f l p q r u v w : Nat) : edgE a b c d e f l u v w p q r = edgE a b c d e f l p q r u v w := by
  unfold edgE
  cases fineB p q r <;> cases fineB u v w <;> rfl
theorem pl0 {a b c d e f l p q r : Nat} (h : deepV d e f = 0) (hr : rayV a b c d e f l = 0) (hp : fineB p q r = true) : Q (plX0 a b c d e f p q r) 300000000 ∧ Q (plY0 a b c d e f p q r) 300000000 := by
  obtain ⟨⟨h1, h2, _⟩, h0⟩ := ray_ok hr
  obtain ⟨a1, a2, a3⟩ := fine3 h1
  obtain ⟨d1, d2, d3⟩ := fine3 h2
  obtain ⟨p1, p2, p3⟩ := fine3 hp
  have m := (deep_max d1 d2 d3).1 h
  have n : V d ≠ 0 := fun e => h0 (by omega)
  exact ⟨place_Q a2 p2 d2 d1 p1 a1 n m.1, place_Q a3 p3 d3 d1 p1 a1 n m.2⟩
theorem sd0 {a b c d e f l p q r u v w : Nat} (h : deepV d e f = 0) (he : edgE a b c d e f l p q r u v w = 0) : Q (sdV0 a b c d e f p q r u v w) 200000000000000000 ∧ Q (sdV0 a b c d e f u v w p q r) 200000000000000000 ∧ key (sdV0 a b c d e f u v w p q r) = -key (sdV0 a b c d e f p q r u v w) := by
  obtain ⟨hr, hp, hu⟩ := edg_ok he
  have p1 := pl0 h hr hp
  have p2 := pl0 h hr hu
  have s1 := side_turn p1.1 p1.2 p2.1 p2.2
  have s2 := side_turn p2.1 p2.2 p1.1 p1.2
  exact ⟨s1.1, s2.1, s1.2⟩
theorem pl1 {a b c d e f l p q r : Nat} (h : deepV d e f = 1) (hr : rayV a b c d e f l = 0) (hp : fineB p q r = true) : Q (plX1 a b c d e f p q r) 300000000 ∧ Q (plY1 a b c d e f p q r) 300000000 := by
  obtain ⟨⟨h1, h2, _⟩, h0⟩ := ray_ok hr
  obtain ⟨a1, a2, a3⟩ := fine3 h1
  obtain ⟨d1, d2, d3⟩ := fine3 h2
  obtain ⟨p1, p2, p3⟩ := fine3 hp
  have m := (deep_max d1 d2 d3).2.1 h
  have n : V e ≠ 0 := fun e => h0 (by omega)
  exact ⟨place_Q a3 p3 d3 d2 p2 a2 n m.2, place_Q a1 p1 d1 d2 p2 a2 n m.1⟩
theorem sd1 {a b c d e f l p q r u v w : Nat} (h : deepV d e f = 1) (he : edgE a b c d e f l p q r u v w = 0) : Q (sdV1 a b c d e f p q r u v w) 200000000000000000 ∧ Q (sdV1 a b c d e f u v w p q r) 200000000000000000 ∧ key (sdV1 a b c d e f u v w p q r) = -key (sdV1 a b c d e f p q r u v w) := by
  obtain ⟨hr, hp, hu⟩ := edg_ok he
  have p1 := pl1 h hr hp
  have p2 := pl1 h hr hu
  have s1 := side_turn p1.1 p1.2 p2.1 p2.2
  have s2 := side_turn p2.1 p2.2 p1.1 p1.2
  exact ⟨s1.1, s2.1, s1.2⟩
theorem pl2 {a b c d e f l p q r : Nat} (h : deepV d e f = 2) (hr : rayV a b c d e f l = 0) (hp : fineB p q r = true) : Q (plX2 a b c d e f p q r) 300000000 ∧ Q (plY2 a b c d e f p q r) 300000000 := by
  obtain ⟨⟨h1, h2, _⟩, h0⟩ := ray_ok hr
  obtain ⟨a1, a2, a3⟩ := fine3 h1
  obtain ⟨d1, d2, d3⟩ := fine3 h2
  obtain ⟨p1, p2, p3⟩ := fine3 hp
  have m := (deep_max d1 d2 d3).2.2 h
  have n : V f ≠ 0 := fun e => h0 (by omega)
  exact ⟨place_Q a1 p1 d1 d3 p3 a3 n m.1, place_Q a2 p2 d2 d3 p3 a3 n m.2⟩
theorem sd2 {a b c d e f l p q r u v w : Nat} (h : deepV d e f = 2) (he : edgE a b c d e f l p q r u v w = 0) : Q (sdV2 a b c d e f p q r u v w) 200000000000000000 ∧ Q (sdV2 a b c d e f u v w p q r) 200000000000000000 ∧ key (sdV2 a b c d e f u v w p q r) = -key (sdV2 a b c d e f p q r u v w) := by
  obtain ⟨hr, hp, hu⟩ := edg_ok he
  have p1 := pl2 h hr hp
  have p2 := pl2 h hr hu
  have s1 := side_turn p1.1 p1.2 p2.1 p2.2
  have s2 := side_turn p2.1 p2.2 p1.1 p1.2
  exact ⟨s1.1, s2.1, s1.2⟩
theorem edg_mk {a b c d e f l p q r u v w : Nat} (h : rayV a b c d e f l = 0) (hp : fineB p q r = true) (hu : fineB u v w = true) : edgE a b c d e f l p q r u v w = 0 := by
  unfold edgE; rw [h, hp, hu]; rfl
theorem turn0 {a b c d e f l p q r u v w : Nat} (h : deepV d e f = 0) : ((edgE a b c d e f l p q r u v w) != (edgE a b c d e f l u v w p q r) || (edgE a b c d e f l p q r u v w) == 0 && !(feq (bif (edgE a b c d e f l p q r u v w) == 0 then (sdV0 a b c d e f p q r u v w) else 0) (Fneg (bif (edgE a b c d e f l u v w p q r) == 0 then (sdV0 a b c d e f u v w p q r) else 0)))) = false := by
  rw [edg_swap a b c d e f l p q r u v w]
  by_cases he : (edgE a b c d e f l p q r u v w) = 0
  · have k := sd0 h he
    rw [he]
    have := sides_neg k.1 k.2.1 k.2.2
    simp only [beq_self_eq_true, cond_true, this]
    rfl
  · have : ((edgE a b c d e f l p q r u v w) == 0) = false := by simpa using he
    rw [this]
    simp
theorem four0 {a b c d e f l p q r u v w x y t i j k : Nat} (h : ((edgE a b c d e f l p q r u v w) != 0 || (edgE a b c d e f l u v w x y t) != 0 || (edgE a b c d e f l x y t i j k) != 0 || (edgE a b c d e f l i j k p q r) != 0) = false) : rayV a b c d e f l = 0 ∧ fineB p q r = true ∧ fineB u v w = true ∧ fineB x y t = true ∧ fineB i j k = true := by
  simp only [Bool.or_eq_false_iff, bne_eq_false_iff_eq] at h
  obtain ⟨⟨⟨h1, h2⟩, h3⟩, h4⟩ := h
  have a1 := edg_ok h1
  have a2 := edg_ok h3
  exact ⟨a1.1, a1.2.1, a1.2.2, a2.2.1, a2.2.2⟩
theorem fit0 {a b c d e f l p q r u v w x y t i j k : Nat} (h : ((edgE a b c d e f l p q r u v w) != 0 || (edgE a b c d e f l u v w x y t) != 0 || (edgE a b c d e f l x y t i j k) != 0 || (edgE a b c d e f l i j k p q r) != 0) = false) : ((thE0 a b c d e f l p q r u v w x y t) != 0 || (thE0 a b c d e f l p q r x y t i j k) != 0) = false := by
  obtain ⟨h0, h1, h2, h3, h4⟩ := four0 h
  unfold thE0
  rw [edg_mk h0 h1 h2, edg_mk h0 h1 h3, h3, h4]
  rfl
theorem slip0 {a b c d e f l p q r u v w x y t i j k : Nat} (hd : deepV d e f = 0) (h : ((edgE a b c d e f l p q r u v w) != 0 || (edgE a b c d e f l u v w x y t) != 0 || (edgE a b c d e f l x y t i j k) != 0 || (edgE a b c d e f l i j k p q r) != 0) = false) :
    true = ((!(fgt (bif (edgE a b c d e f l p q r u v w) == 0 then (sdV0 a b c d e f p q r u v w) else 0) 0 && fgt (bif (edgE a b c d e f l u v w x y t) == 0 then (sdV0 a b c d e f u v w x y t) else 0) 0 && fgt (bif (edgE a b c d e f l x y t i j k) == 0 then (sdV0 a b c d e f x y t i j k) else 0) 0 && fgt (bif (edgE a b c d e f l i j k p q r) == 0 then (sdV0 a b c d e f i j k p q r) else 0) 0) || (bif (thE0 a b c d e f l p q r u v w x y t) == 0 then thrB (sdV0 a b c d e f u v w x y t) (sdV0 a b c d e f x y t p q r) (sdV0 a b c d e f p q r u v w) else false)) || (bif (thE0 a b c d e f l p q r x y t i j k) == 0 then thrB (sdV0 a b c d e f x y t i j k) (sdV0 a b c d e f i j k p q r) (sdV0 a b c d e f p q r x y t) else false)) := by
  have hf := fit0 h
  obtain ⟨h0, h1, h2, h3, h4⟩ := four0 h
  have e1 := edg_mk h0 h1 h2
  have e2 := edg_mk h0 h2 h3
  have e3 := edg_mk h0 h3 h4
  have e4 := edg_mk h0 h4 h1
  have e5 := edg_mk h0 h3 h1
  simp only [Bool.or_eq_false_iff, bne_eq_false_iff_eq] at hf
  rw [e1, e2, e3, e4, hf.1, hf.2]
  simp only [beq_self_eq_true, cond_true]
  have s1 := sd0 hd e1
  have s2 := sd0 hd e2
  have s3 := sd0 hd e3
  have s4 := sd0 hd e4
  have s5 := sd0 hd e5
  cases k1 : fgt (sdV0 a b c d e f p q r u v w) 0
  · rfl
  cases k2 : fgt (sdV0 a b c d e f u v w x y t) 0
  · rfl
  cases k3 : fgt (sdV0 a b c d e f x y t i j k) 0
  · rfl
  cases k4 : fgt (sdV0 a b c d e f i j k p q r) 0
  · rfl
  rcases two_thr s1.1 s2.1 s3.1 s4.1 s5.1 s5.2.1 s5.2.2 k1 k2 k3 k4 with g | g
  · rw [g]; rfl
  · rw [g]; simp
theorem turn1 {a b c d e f l p q r u v w : Nat} (h : deepV d e f = 1) : ((edgE a b c d e f l p q r u v w) != (edgE a b c d e f l u v w p q r) || (edgE a b c d e f l p q r u v w) == 0 && !(feq (bif (edgE a b c d e f l p q r u v w) == 0 then (sdV1 a b c d e f p q r u v w) else 0) (Fneg (bif (edgE a b c d e f l u v w p q r) == 0 then (sdV1 a b c d e f u v w p q r) else 0)))) = false := by
  rw [edg_swap a b c d e f l p q r u v w]
  by_cases he : (edgE a b c d e f l p q r u v w) = 0
  · have k := sd1 h he
    rw [he]
    have := sides_neg k.1 k.2.1 k.2.2
    simp only [beq_self_eq_true, cond_true, this]
    rfl
  · have : ((edgE a b c d e f l p q r u v w) == 0) = false := by simpa using he
    rw [this]
    simp
theorem four1 {a b c d e f l p q r u v w x y t i j k : Nat} (h : ((edgE a b c d e f l p q r u v w) != 0 || (edgE a b c d e f l u v w x y t) != 0 || (edgE a b c d e f l x y t i j k) != 0 || (edgE a b c d e f l i j k p q r) != 0) = false) : rayV a b c d e f l = 0 ∧ fineB p q r = true ∧ fineB u v w = true ∧ fineB x y t = true ∧ fineB i j k = true := by
  simp only [Bool.or_eq_false_iff, bne_eq_false_iff_eq] at h
  obtain ⟨⟨⟨h1, h2⟩, h3⟩, h4⟩ := h
  have a1 := edg_ok h1
  have a2 := edg_ok h3
  exact ⟨a1.1, a1.2.1, a1.2.2, a2.2.1, a2.2.2⟩
theorem fit1 {a b c d e f l p q r u v w x y t i j k : Nat} (h : ((edgE a b c d e f l p q r u v w) != 0 || (edgE a b c d e f l u v w x y t) != 0 || (edgE a b c d e f l x y t i j k) != 0 || (edgE a b c d e f l i j k p q r) != 0) = false) : ((thE1 a b c d e f l p q r u v w x y t) != 0 || (thE1 a b c d e f l p q r x y t i j k) != 0) = false := by
  obtain ⟨h0, h1, h2, h3, h4⟩ := four1 h
  unfold thE1
  rw [edg_mk h0 h1 h2, edg_mk h0 h1 h3, h3, h4]
  rfl
theorem slip1 {a b c d e f l p q r u v w x y t i j k : Nat} (hd : deepV d e f = 1) (h : ((edgE a b c d e f l p q r u v w) != 0 || (edgE a b c d e f l u v w x y t) != 0 || (edgE a b c d e f l x y t i j k) != 0 || (edgE a b c d e f l i j k p q r) != 0) = false) :
    true = ((!(fgt (bif (edgE a b c d e f l p q r u v w) == 0 then (sdV1 a b c d e f p q r u v w) else 0) 0 && fgt (bif (edgE a b c d e f l u v w x y t) == 0 then (sdV1 a b c d e f u v w x y t) else 0) 0 && fgt (bif (edgE a b c d e f l x y t i j k) == 0 then (sdV1 a b c d e f x y t i j k) else 0) 0 && fgt (bif (edgE a b c d e f l i j k p q r) == 0 then (sdV1 a b c d e f i j k p q r) else 0) 0) || (bif (thE1 a b c d e f l p q r u v w x y t) == 0 then thrB (sdV1 a b c d e f u v w x y t) (sdV1 a b c d e f x y t p q r) (sdV1 a b c d e f p q r u v w) else false)) || (bif (thE1 a b c d e f l p q r x y t i j k) == 0 then thrB (sdV1 a b c d e f x y t i j k) (sdV1 a b c d e f i j k p q r) (sdV1 a b c d e f p q r x y t) else false)) := by
  have hf := fit1 h
  obtain ⟨h0, h1, h2, h3, h4⟩ := four1 h
  have e1 := edg_mk h0 h1 h2
  have e2 := edg_mk h0 h2 h3
  have e3 := edg_mk h0 h3 h4
  have e4 := edg_mk h0 h4 h1
  have e5 := edg_mk h0 h3 h1
  simp only [Bool.or_eq_false_iff, bne_eq_false_iff_eq] at hf
  rw [e1, e2, e3, e4, hf.1, hf.2]
  simp only [beq_self_eq_true, cond_true]
  have s1 := sd1 hd e1
  have s2 := sd1 hd e2
  have s3 := sd1 hd e3
  have s4 := sd1 hd e4
  have s5 := sd1 hd e5
  cases k1 : fgt (sdV1 a b c d e f p q r u v w) 0
  · rfl
  cases k2 : fgt (sdV1 a b c d e f u v w x y t) 0
  · rfl
  cases k3 : fgt (sdV1 a b c d e f x y t i j k) 0
  · rfl
  cases k4 : fgt (sdV1 a b c d e f i j k p q r) 0
  · rfl
  rcases two_thr s1.1 s2.1 s3.1 s4.1 s5.1 s5.2.1 s5.2.2 k1 k2 k3 k4 with g | g
  · rw [g]; rfl
  · rw [g]; simp
theorem turn2 {a b c d e f l p q r u v w : Nat} (h : deepV d e f = 2) : ((edgE a b c d e f l p q r u v w) != (edgE a b c d e f l u v w p q r) || (edgE a b c d e f l p q r u v w) == 0 && !(feq (bif (edgE a b c d e f l p q r u v w) == 0 then (sdV2 a b c d e f p q r u v w) else 0) (Fneg (bif (edgE a b c d e f l u v w p q r) == 0 then (sdV2 a b c d e f u v w p q r) else 0)))) = false := by
  rw [edg_swap a b c d e f l p q r u v w]
  by_cases he : (edgE a b c d e f l p q r u v w) = 0
  · have k := sd2 h he
    rw [he]
    have := sides_neg k.1 k.2.1 k.2.2
    simp only [beq_self_eq_true, cond_true, this]
    rfl
  · have : ((edgE a b c d e f l p q r u v w) == 0) = false := by simpa using he
    rw [this]
    simp
theorem four2 {a b c d e f l p q r u v w x y t i j k : Nat} (h : ((edgE a b c d e f l p q r u v w) != 0 || (edgE a b c d e f l u v w x y t) != 0 || (edgE a b c d e f l x y t i j k) != 0 || (edgE a b c d e f l i j k p q r) != 0) = false) : rayV a b c d e f l = 0 ∧ fineB p q r = true ∧ fineB u v w = true ∧ fineB x y t = true ∧ fineB i j k = true := by
  simp only [Bool.or_eq_false_iff, bne_eq_false_iff_eq] at h
  obtain ⟨⟨⟨h1, h2⟩, h3⟩, h4⟩ := h
  have a1 := edg_ok h1
  have a2 := edg_ok h3
  exact ⟨a1.1, a1.2.1, a1.2.2, a2.2.1, a2.2.2⟩
theorem fit2 {a b c d e f l p q r u v w x y t i j k : Nat} (h : ((edgE a b c d e f l p q r u v w) != 0 || (edgE a b c d e f l u v w x y t) != 0 || (edgE a b c d e f l x y t i j k) != 0 || (edgE a b c d e f l i j k p q r) != 0) = false) : ((thE2 a b c d e f l p q r u v w x y t) != 0 || (thE2 a b c d e f l p q r x y t i j k) != 0) = false := by
  obtain ⟨h0, h1, h2, h3, h4⟩ := four2 h
  unfold thE2
  rw [edg_mk h0 h1 h2, edg_mk h0 h1 h3, h3, h4]
  rfl
theorem slip2 {a b c d e f l p q r u v w x y t i j k : Nat} (hd : deepV d e f = 2) (h : ((edgE a b c d e f l p q r u v w) != 0 || (edgE a b c d e f l u v w x y t) != 0 || (edgE a b c d e f l x y t i j k) != 0 || (edgE a b c d e f l i j k p q r) != 0) = false) :
    true = ((!(fgt (bif (edgE a b c d e f l p q r u v w) == 0 then (sdV2 a b c d e f p q r u v w) else 0) 0 && fgt (bif (edgE a b c d e f l u v w x y t) == 0 then (sdV2 a b c d e f u v w x y t) else 0) 0 && fgt (bif (edgE a b c d e f l x y t i j k) == 0 then (sdV2 a b c d e f x y t i j k) else 0) 0 && fgt (bif (edgE a b c d e f l i j k p q r) == 0 then (sdV2 a b c d e f i j k p q r) else 0) 0) || (bif (thE2 a b c d e f l p q r u v w x y t) == 0 then thrB (sdV2 a b c d e f u v w x y t) (sdV2 a b c d e f x y t p q r) (sdV2 a b c d e f p q r u v w) else false)) || (bif (thE2 a b c d e f l p q r x y t i j k) == 0 then thrB (sdV2 a b c d e f x y t i j k) (sdV2 a b c d e f i j k p q r) (sdV2 a b c d e f p q r x y t) else false)) := by
  have hf := fit2 h
  obtain ⟨h0, h1, h2, h3, h4⟩ := four2 h
  have e1 := edg_mk h0 h1 h2
  have e2 := edg_mk h0 h2 h3
  have e3 := edg_mk h0 h3 h4
  have e4 := edg_mk h0 h4 h1
  have e5 := edg_mk h0 h3 h1
  simp only [Bool.or_eq_false_iff, bne_eq_false_iff_eq] at hf
  rw [e1, e2, e3, e4, hf.1, hf.2]
  simp only [beq_self_eq_true, cond_true]
  have s1 := sd2 hd e1
  have s2 := sd2 hd e2
  have s3 := sd2 hd e3
  have s4 := sd2 hd e4
  have s5 := sd2 hd e5
  cases k1 : fgt (sdV2 a b c d e f p q r u v w) 0
  · rfl
  cases k2 : fgt (sdV2 a b c d e f u v w x y t) 0
  · rfl
  cases k3 : fgt (sdV2 a b c d e f x y t i j k) 0
  · rfl
  cases k4 : fgt (sdV2 a b c d e f i j k p q r) 0
  · rfl
  rcases two_thr s1.1 s2.1 s3.1 s4.1 s5.1 s5.2.1 s5.2.2 k1 k2 k3 k4 with g | g
  · rw [g]; rfl
  · rw [g]; simp
end Go.Proofs.YtdjckabogdohcaaGreat
/- The law TopEdges: nothing slips through. -/
namespace Go.Proofs.YtdjckabogdohcaaGreat
open Go.RowKit Ev Flt
set_option linter.unusedVariables false
set_option linter.unusedSimpArgs false
set_option maxRecDepth 20000
set_option maxHeartbeats 4000000

theorem strikes_f : FnOk Tryz.prog 8 Tryz.f8 := ⟨Tryz.func8, by kernel_rfl⟩
theorem strikes_a  : ACalls Tryz.prog 8 [] (.bool true) := by
  refine acalls_of (inl := hasI (P := Tryz.prog) [] []) (base [Strike1_k, meets_k, Thr2_k] [] []) 0 strikes_f (And.intro (by kernel_rfl) ?_)
  repeat' (first | refine And.intro ?_ ?_ | (with_reducible exact ff_elim) | (with_reducible exact tf_elim) | (intro h; exact absurd h (by decide +kernel)) | refine num_elim ?_ | intro _ | (with_reducible rfl) | ((with_reducible refine lk_t ?_); exact rfl) | ((with_reducible refine pf_t ?_); exact rfl) | refine tell ?_ | exact True.intro | (refine IsT.of ?_; kernel_rfl))
  all_goals (try refine Tell.mk ?_)
  all_goals first | with_reducible rfl | decide +kernel
def strikes_k : Con Tryz.prog := ⟨8, fun args => match args with | [] => .ok (none) (.bool true) | _ => .no, by
  intro args p r h hp
  split at h
  · cases h; exact strikes_a 
  · cases h⟩
theorem lawT0_f : FnOk Tryz.prog 3 Tryz.f3 := ⟨Tryz.func3, by kernel_rfl⟩
theorem lawT0_a (a b c d e f l p q r u v w x y t i j k : Nat) (hpre : deepV d e f = 0) : ACalls Tryz.prog 3 [.agg [.flt a, .flt b, .flt c, .flt d, .flt e, .flt f, .flt l], .agg [.flt p, .flt q, .flt r], .agg [.flt u, .flt v, .flt w], .agg [.flt x, .flt y, .flt t], .agg [.flt i, .flt j, .flt k]] (.bool true) := by
  refine acalls_of (inl := hasI (P := Tryz.prog) [] []) (base [strikes_k, Edge0_k, Thr0_k] [] []) 0 lawT0_f (And.intro (by kernel_rfl) ?_)
  have hno : ∀ {b : Bool}, b = false → b = true → true = false := fun h1 h2 => by rw [h1] at h2; cases h2
  repeat' (first | refine And.intro ?_ ?_ | (with_reducible exact ff_elim) | (with_reducible exact tf_elim) | intro _ | (with_reducible rfl) | ((with_reducible refine lk_t ?_); exact rfl) | ((with_reducible refine pf_t ?_); exact rfl) | refine tell ?_ | exact True.intro | (refine IsT.of ?_; kernel_rfl))
  all_goals (try refine Tell.mk ?_)
  all_goals first | with_reducible rfl | with_reducible assumption | (with_reducible refine gb_t ?_; with_reducible assumption) | (with_reducible refine gb_f ?_; with_reducible assumption) | (exfalso; have hx : (!true) = true := (by with_reducible assumption); cases hx) | exact hno (turn0 hpre) (by with_reducible assumption) | exact hno (fit0 (by with_reducible assumption)) (by with_reducible assumption) | exact slip0 hpre (by with_reducible assumption) | (simp_all [gb]; done)
def lawT0_k : Con Tryz.prog := ⟨3, fun args => match args with | [.agg [.flt a, .flt b, .flt c, .flt d, .flt e, .flt f, .flt l], .agg [.flt p, .flt q, .flt r], .agg [.flt u, .flt v, .flt w], .agg [.flt x, .flt y, .flt t], .agg [.flt i, .flt j, .flt k]] => .ok (some (deepV d e f = 0)) (.bool true) | _ => .no, by
  intro args p r h hp
  split at h
  · cases h; exact lawT0_a _ _ _ _ _ _ _ _ _ _ _ _ _ _ _ _ _ _ _ hp
  · cases h⟩
theorem lawT1_f : FnOk Tryz.prog 3 Tryz.f3 := ⟨Tryz.func3, by kernel_rfl⟩
theorem lawT1_a (a b c d e f l p q r u v w x y t i j k : Nat) (hpre : deepV d e f = 1) : ACalls Tryz.prog 3 [.agg [.flt a, .flt b, .flt c, .flt d, .flt e, .flt f, .flt l], .agg [.flt p, .flt q, .flt r], .agg [.flt u, .flt v, .flt w], .agg [.flt x, .flt y, .flt t], .agg [.flt i, .flt j, .flt k]] (.bool true) := by
  refine acalls_of (inl := hasI (P := Tryz.prog) [] []) (base [strikes_k, Edge1_k, Thr1_k] [] []) 0 lawT1_f (And.intro (by kernel_rfl) ?_)
  have hno : ∀ {b : Bool}, b = false → b = true → true = false := fun h1 h2 => by rw [h1] at h2; cases h2
  repeat' (first | refine And.intro ?_ ?_ | (with_reducible exact ff_elim) | (with_reducible exact tf_elim) | intro _ | (with_reducible rfl) | ((with_reducible refine lk_t ?_); exact rfl) | ((with_reducible refine pf_t ?_); exact rfl) | refine tell ?_ | exact True.intro | (refine IsT.of ?_; kernel_rfl))
  all_goals (try refine Tell.mk ?_)
  all_goals first | with_reducible rfl | with_reducible assumption | (with_reducible refine gb_t ?_; with_reducible assumption) | (with_reducible refine gb_f ?_; with_reducible assumption) | (exfalso; have hx : (!true) = true := (by with_reducible assumption); cases hx) | exact hno (turn1 hpre) (by with_reducible assumption) | exact hno (fit1 (by with_reducible assumption)) (by with_reducible assumption) | exact slip1 hpre (by with_reducible assumption) | (simp_all [gb]; done)
def lawT1_k : Con Tryz.prog := ⟨3, fun args => match args with | [.agg [.flt a, .flt b, .flt c, .flt d, .flt e, .flt f, .flt l], .agg [.flt p, .flt q, .flt r], .agg [.flt u, .flt v, .flt w], .agg [.flt x, .flt y, .flt t], .agg [.flt i, .flt j, .flt k]] => .ok (some (deepV d e f = 1)) (.bool true) | _ => .no, by
  intro args p r h hp
  split at h
  · cases h; exact lawT1_a _ _ _ _ _ _ _ _ _ _ _ _ _ _ _ _ _ _ _ hp
  · cases h⟩
theorem lawT2_f : FnOk Tryz.prog 3 Tryz.f3 := ⟨Tryz.func3, by kernel_rfl⟩
theorem lawT2_a (a b c d e f l p q r u v w x y t i j k : Nat) (hpre : deepV d e f = 2) : ACalls Tryz.prog 3 [.agg [.flt a, .flt b, .flt c, .flt d, .flt e, .flt f, .flt l], .agg [.flt p, .flt q, .flt r], .agg [.flt u, .flt v, .flt w], .agg [.flt x, .flt y, .flt t], .agg [.flt i, .flt j, .flt k]] (.bool true) := by
  refine acalls_of (inl := hasI (P := Tryz.prog) [] []) (base [strikes_k, Edge2_k, Thr2_k] [] []) 0 lawT2_f (And.intro (by kernel_rfl) ?_)
  have hno : ∀ {b : Bool}, b = false → b = true → true = false := fun h1 h2 => by rw [h1] at h2; cases h2
  repeat' (first | refine And.intro ?_ ?_ | (with_reducible exact ff_elim) | (with_reducible exact tf_elim) | intro _ | (with_reducible rfl) | ((with_reducible refine lk_t ?_); exact rfl) | ((with_reducible refine pf_t ?_); exact rfl) | refine tell ?_ | exact True.intro | (refine IsT.of ?_; kernel_rfl))
  all_goals (try refine Tell.mk ?_)
  all_goals first | with_reducible rfl | with_reducible assumption | (with_reducible refine gb_t ?_; with_reducible assumption) | (with_reducible refine gb_f ?_; with_reducible assumption) | (exfalso; have hx : (!true) = true := (by with_reducible assumption); cases hx) | exact hno (turn2 hpre) (by with_reducible assumption) | exact hno (fit2 (by with_reducible assumption)) (by with_reducible assumption) | exact slip2 hpre (by with_reducible assumption) | (simp_all [gb]; done)
def lawT2_k : Con Tryz.prog := ⟨3, fun args => match args with | [.agg [.flt a, .flt b, .flt c, .flt d, .flt e, .flt f, .flt l], .agg [.flt p, .flt q, .flt r], .agg [.flt u, .flt v, .flt w], .agg [.flt x, .flt y, .flt t], .agg [.flt i, .flt j, .flt k]] => .ok (some (deepV d e f = 2)) (.bool true) | _ => .no, by
  intro args p r h hp
  split at h
  · cases h; exact lawT2_a _ _ _ _ _ _ _ _ _ _ _ _ _ _ _ _ _ _ _ hp
  · cases h⟩
theorem topEdges_f : FnOk Tryz.prog 3 Tryz.f3 := lawT0_f
theorem topEdges_a (a b c d e f l p q r u v w x y t i j k : Nat) : ACalls Tryz.prog 3 [.agg [.flt a, .flt b, .flt c, .flt d, .flt e, .flt f, .flt l], .agg [.flt p, .flt q, .flt r], .agg [.flt u, .flt v, .flt w], .agg [.flt x, .flt y, .flt t], .agg [.flt i, .flt j, .flt k]] (.bool true) := by
  rcases deepV_or d e f with h | h | h
  · exact lawT0_a a b c d e f l p q r u v w x y t i j k h
  · exact lawT1_a a b c d e f l p q r u v w x y t i j k h
  · exact lawT2_a a b c d e f l p q r u v w x y t i j k h
end Go.Proofs.YtdjckabogdohcaaGreat
/- Floats of whole numbers, and thousandths of them. -/
namespace Go.Proofs.YtdjckabogdohcaaGreat
open Go.RowKit Ev Flt
set_option linter.unusedVariables false
set_option linter.unusedSimpArgs false
set_option maxRecDepth 20000

theorem nI_Q {i M : Int} (h : -M ≤ i ∧ i ≤ M) (hM : M ≤ 9007199254740991) : Q (cn (FloatKind.f64.nearest i)) (M : Rat) := by
  obtain ⟨f, e⟩ := iv_near (z := i) (by omega)
  refine ⟨f, ?_⟩
  rw [e]
  unfold Bd
  have h1 := Rat.intCast_le_intCast.2 h.1
  have h2 := Rat.intCast_le_intCast.2 h.2
  rw [Rat.intCast_neg] at h1
  exact ⟨h1, h2⟩
theorem iv_1000 : Iv 4652007308841189376 1000 := by
  have := iv_near (z := 1000) (by omega)
  rwa [show cn (FloatKind.f64.nearest 1000) = 4652007308841189376 by decide +kernel] at this
theorem quo_1000 {x : Nat} {M : Rat} (h : Q x M) (hM : M ≤ 1152921504606846976) : Q (F .quo x 4652007308841189376) (M + 129) := by
  have v : val 4652007308841189376 = 1000 := by rw [iv_1000.eq]; rfl
  have v0 : V 4652007308841189376 ≠ 0 := fun e => by
    have : val 4652007308841189376 = 0 := by unfold val; rw [e, Rat.intCast_zero, Rat.div_def, Rat.zero_mul]
    rw [v] at this; exact absurd this (by decide)
  have he : (val x / 1000) * val 4652007308841189376 = val x := by rw [v]; grind
  have hb : Bd (val x / 1000) M := by
    have := h.bd
    unfold Bd at *
    grind
  exact .of (quo_err h.fin iv_1000.fin v0 he hb hM) hb hM
end Go.Proofs.YtdjckabogdohcaaGreat
/- Numbers of quarters, and rows of them times a point (plain). -/
namespace Go.Proofs.YtdjckabogdohcaaGreat
open Go.RowKit Ev Ieee Flt
set_option linter.unusedVariables false
set_option linter.unusedSimpArgs false

namespace Flt
/-- What a number of a quarter stands for. -/
def cf (x : Nat) : Int := if x = 4607182418800017408 then 1 else if x = 13830554455654793216 then -1 else 0
def okc (x : Nat) : Bool := x == 0 || (x == 9223372036854775808 || (x == 4607182418800017408 || x == 13830554455654793216))
def okr (a b c : Nat) : Bool := okc a && (okc b && (okc c && (cf a).natAbs + (cf b).natAbs + (cf c).natAbs == 1))
theorem okc_cases {x : Nat} (h : okc x = true) : (Zr x ∧ cf x = 0) ∨ (x = 4607182418800017408 ∧ cf x = 1) ∨ (x = 13830554455654793216 ∧ cf x = -1) := by
  unfold okc at h
  rw [Bool.or_eq_true, Bool.or_eq_true, Bool.or_eq_true, beq_iff_eq, beq_iff_eq, beq_iff_eq, beq_iff_eq] at h
  rcases h with rfl | rfl | rfl | rfl
  · exact .inl ⟨.inl rfl, by decide⟩
  · exact .inl ⟨.inr rfl, by decide⟩
  · exact .inr (.inl ⟨rfl, by decide⟩)
  · exact .inr (.inr ⟨rfl, by decide⟩)
theorem mul_c {c x : Nat} (hc : okc c = true) (h : Low x) : (Zr (F .mul c x) ∧ cf c = 0) ∨ (Low (F .mul c x) ∧ V (F .mul c x) = cf c * V x ∧ cf c ≠ 0) := by
  rcases okc_cases hc with ⟨h1, h2⟩ | ⟨rfl, h2⟩ | ⟨rfl, h2⟩
  · exact .inl ⟨mul_zero h1 h, h2⟩
  · refine .inr ⟨(mul_one h).1, ?_, by rw [h2]; decide⟩
    rw [(mul_one h).2, h2]; omega
  · refine .inr ⟨(mul_neg h).1, ?_, by rw [h2]; decide⟩
    rw [(mul_neg h).2, h2]; omega
theorem dot_row {a b c p q r : Nat} (h : okr a b c = true) (hp : Low p) (hq : Low q) (hr : Low r) : Low (dotV a b c p q r) ∧ V (dotV a b c p q r) = cf a * V p + cf b * V q + cf c * V r := by
  unfold okr at h
  rw [Bool.and_eq_true, Bool.and_eq_true, Bool.and_eq_true, beq_iff_eq] at h
  obtain ⟨ha, hb, hc, h⟩ := h
  unfold dotV
  rcases mul_c ha hp with ⟨A, a0⟩ | ⟨A, A', a0⟩ <;> rcases mul_c hb hq with ⟨B, b0⟩ | ⟨B, B', b0⟩ <;> rcases mul_c hc hr with ⟨C, c0⟩ | ⟨C, C', c0⟩
  all_goals first | (exfalso; omega) | skip
  · obtain ⟨D, D'⟩ := zero_add C (zero_zero A B)
    refine ⟨D, ?_⟩
    rw [D', C', a0, b0, Int.zero_mul, Int.zero_mul]; omega
  · obtain ⟨D, D'⟩ := zero_add B A
    obtain ⟨E, E'⟩ := add_zero D C
    refine ⟨E, ?_⟩
    rw [E', D', B', a0, c0, Int.zero_mul, Int.zero_mul]; omega
  · obtain ⟨D, D'⟩ := add_zero A B
    obtain ⟨E, E'⟩ := add_zero D C
    refine ⟨E, ?_⟩
    rw [E', D', A', b0, c0, Int.zero_mul, Int.zero_mul]; omega
end Flt
end Go.Proofs.YtdjckabogdohcaaGreat
/- Boxes and rays that are turned by quarters: what is met is met (plain). -/
namespace Go.Proofs.YtdjckabogdohcaaGreat
open Go.RowKit Ev Ieee Flt
set_option linter.unusedVariables false
set_option linter.unusedSimpArgs false
set_option maxRecDepth 20000

namespace Flt
theorem less_V {x y : Nat} (hx : Low x) (hy : Low y) : Low (lessV x y) ∧ V (lessV x y) = min (V x) (V y) := by
  unfold lessV
  rw [flt_V hy.fin hx.fin]
  by_cases h : V y < V x
  · rw [decide_eq_true h]; exact ⟨hy, by simp only [cond_true]; omega⟩
  · rw [decide_eq_false h]; exact ⟨hx, by simp only [cond_false]; omega⟩
theorem more_V {x y : Nat} (hx : Low x) (hy : Low y) : Low (moreV x y) ∧ V (moreV x y) = max (V x) (V y) := by
  unfold moreV
  rw [fgt_flt, flt_V hx.fin hy.fin]
  by_cases h : V x < V y
  · rw [decide_eq_true h]; exact ⟨hy, by simp only [cond_true]; omega⟩
  · rw [decide_eq_false h]; exact ⟨hx, by simp only [cond_false]; omega⟩
/-- What a turned number stands for. -/
structure Lv (x : Nat) (v : Int) : Prop where
  low : Low x
  eq : V x = v
theorem Lv.less {x y : Nat} {a b : Int} (hx : Lv x a) (hy : Lv y b) : Lv (lessV x y) (min a b) := by
  have h := less_V hx.low hy.low
  exact ⟨h.1, by rw [h.2, hx.eq, hy.eq]⟩
theorem Lv.more {x y : Nat} {a b : Int} (hx : Lv x a) (hy : Lv y b) : Lv (moreV x y) (max a b) := by
  have h := more_V hx.low hy.low
  exact ⟨h.1, by rw [h.2, hx.eq, hy.eq]⟩
theorem dir_Lv {a b c p q r : Nat} (h : okr a b c = true) (hp : Low p) (hq : Low q) (hr : Low r) : Lv (dotV a b c p q r) (cf a * V p + cf b * V q + cf c * V r) :=
  ⟨(dot_row h hp hq hr).1, (dot_row h hp hq hr).2⟩
theorem point_Lv {a b c p q r : Nat} (h : okr a b c = true) (hp : Low p) (hq : Low q) (hr : Low r) : Lv (F .add (dotV a b c p q r) 0) (cf a * V p + cf b * V q + cf c * V r) := by
  have k := dot_row h hp hq hr
  have m := add_zero k.1 (.inl rfl : Zr 0)
  exact ⟨m.1, by rw [m.2, k.2]⟩
/-- Eight corners. -/
def cn8 (op : Nat → Nat → Nat) (a b c l0 l1 l2 h0 h1 h2 : Nat) : Nat := op (op (op (op (op (op (op (F .add (dotV a b c l0 l1 l2) 0) (F .add (dotV a b c h0 l1 l2) 0)) (F .add (dotV a b c l0 h1 l2) 0)) (F .add (dotV a b c h0 h1 l2) 0)) (F .add (dotV a b c l0 l1 h2) 0)) (F .add (dotV a b c h0 l1 h2) 0)) (F .add (dotV a b c l0 h1 h2) 0)) (F .add (dotV a b c h0 h1 h2) 0)
/-- One axis of a box and a ray, before and behind a turn. -/
structure Ax (lo hi fr d lo' hi' fr' d' : Nat) : Prop where
  l : nearB lo = true ∧ nearB hi = true ∧ nearB fr = true ∧ nearB d = true
  l' : Flt.Fin lo' ∧ Flt.Fin hi' ∧ Flt.Fin fr' ∧ Flt.Fin d'
  le : V lo ≤ V hi
  eq : (V lo' = V lo ∧ V hi' = V hi ∧ V fr' = V fr ∧ V d' = V d) ∨ (V lo' = -V hi ∧ V hi' = -V lo ∧ V fr' = -V fr ∧ V d' = -V d)
theorem cf_cases {a b c : Nat} (h : okr a b c = true) : (cf a = 1 ∧ cf b = 0 ∧ cf c = 0) ∨ (cf a = -1 ∧ cf b = 0 ∧ cf c = 0) ∨ (cf a = 0 ∧ cf b = 1 ∧ cf c = 0) ∨ (cf a = 0 ∧ cf b = -1 ∧ cf c = 0) ∨ (cf a = 0 ∧ cf b = 0 ∧ cf c = 1) ∨ (cf a = 0 ∧ cf b = 0 ∧ cf c = -1) := by
  unfold okr at h
  rw [Bool.and_eq_true, Bool.and_eq_true, Bool.and_eq_true, beq_iff_eq] at h
  obtain ⟨ha, hb, hc, h⟩ := h
  have A : cf a = 0 ∨ cf a = 1 ∨ cf a = -1 := by rcases okc_cases ha with ⟨_, e⟩ | ⟨_, e⟩ | ⟨_, e⟩ <;> omega
  have B : cf b = 0 ∨ cf b = 1 ∨ cf b = -1 := by rcases okc_cases hb with ⟨_, e⟩ | ⟨_, e⟩ | ⟨_, e⟩ <;> omega
  have C : cf c = 0 ∨ cf c = 1 ∨ cf c = -1 := by rcases okc_cases hc with ⟨_, e⟩ | ⟨_, e⟩ | ⟨_, e⟩ <;> omega
  clear ha hb hc
  generalize cf a = x at *
  generalize cf b = y at *
  generalize cf c = z at *
  rcases A with rfl | rfl | rfl <;> rcases B with rfl | rfl | rfl <;> rcases C with rfl | rfl | rfl <;> first | exact absurd h (by decide) | simp
/-- The inputs: a box, and a ray. -/
structure In3 (l0 l1 l2 h0 h1 h2 p q r u v w : Nat) : Prop where
  L : nearB l0 = true ∧ nearB l1 = true ∧ nearB l2 = true
  H : nearB h0 = true ∧ nearB h1 = true ∧ nearB h2 = true
  P : nearB p = true ∧ nearB q = true ∧ nearB r = true
  D : nearB u = true ∧ nearB v = true ∧ nearB w = true
  le : V l0 ≤ V h0 ∧ V l1 ≤ V h1 ∧ V l2 ≤ V h2
theorem near_low {x : Nat} (h : nearB x = true) : Low x := (near_small h).low
theorem turn_axis {a b c l0 l1 l2 h0 h1 h2 p q r u v w : Nat} (h : okr a b c = true) (g : In3 l0 l1 l2 h0 h1 h2 p q r u v w) :
    (cf a ≠ 0 → Ax l0 h0 p u (cn8 lessV a b c l0 l1 l2 h0 h1 h2) (cn8 moreV a b c l0 l1 l2 h0 h1 h2) (F .add (dotV a b c p q r) 0) (dotV a b c u v w)) ∧
    (cf b ≠ 0 → Ax l1 h1 q v (cn8 lessV a b c l0 l1 l2 h0 h1 h2) (cn8 moreV a b c l0 l1 l2 h0 h1 h2) (F .add (dotV a b c p q r) 0) (dotV a b c u v w)) ∧
    (cf c ≠ 0 → Ax l2 h2 r w (cn8 lessV a b c l0 l1 l2 h0 h1 h2) (cn8 moreV a b c l0 l1 l2 h0 h1 h2) (F .add (dotV a b c p q r) 0) (dotV a b c u v w)) := by
  obtain ⟨⟨L0, L1, L2⟩, ⟨H0, H1, H2⟩, ⟨P0, P1, P2⟩, ⟨D0, D1, D2⟩, e0, e1, e2⟩ := g
  have c1 := point_Lv h (near_low L0) (near_low L1) (near_low L2)
  have c2 := point_Lv h (near_low H0) (near_low L1) (near_low L2)
  have c3 := point_Lv h (near_low L0) (near_low H1) (near_low L2)
  have c4 := point_Lv h (near_low H0) (near_low H1) (near_low L2)
  have c5 := point_Lv h (near_low L0) (near_low L1) (near_low H2)
  have c6 := point_Lv h (near_low H0) (near_low L1) (near_low H2)
  have c7 := point_Lv h (near_low L0) (near_low H1) (near_low H2)
  have c8 := point_Lv h (near_low H0) (near_low H1) (near_low H2)
  have lo := ((((((c1.less c2).less c3).less c4).less c5).less c6).less c7).less c8
  have hi := ((((((c1.more c2).more c3).more c4).more c5).more c6).more c7).more c8
  have fr := point_Lv h (near_low P0) (near_low P1) (near_low P2)
  have di := dir_Lv h (near_low D0) (near_low D1) (near_low D2)
  have fin := fun {x : Nat} {v : Int} (k : Lv x v) => k.low.fin
  rcases cf_cases h with ⟨ha, hb, hc⟩ | ⟨ha, hb, hc⟩ | ⟨ha, hb, hc⟩ | ⟨ha, hb, hc⟩ | ⟨ha, hb, hc⟩ | ⟨ha, hb, hc⟩
  all_goals (simp only [ha, hb, hc, Int.zero_mul, Int.one_mul, Int.neg_mul, Int.zero_add, Int.add_zero] at lo hi fr di)
  all_goals refine ⟨fun n => ?_, fun n => ?_, fun n => ?_⟩
  all_goals first | (exfalso; omega) | skip
  all_goals (refine ⟨⟨by assumption, by assumption, by assumption, by assumption⟩, ⟨fin lo, fin hi, fin fr, fin di⟩, by assumption, ?_⟩)
  all_goals (unfold cn8; rw [lo.eq, hi.eq, fr.eq, di.eq]; omega)
/-- Quotients of numbers, and of both with the sign turned. -/
theorem read_mag {x x' : Nat} {s : Bool} {m : Nat} {i : Int} (hx : double.read x = .number s m i) (h : x' % 9223372036854775808 = x % 9223372036854775808) : ∃ s', double.read x' = .number s' m i := by
  have w : double.signWeight = 9223372036854775808 := by decide +kernel
  unfold Format.read at hx ⊢
  simp only [w, h] at hx ⊢
  split at hx
  · rename_i c
    rw [if_pos c]
    injection hx with _ h2 h3
    exact ⟨_, by rw [h2, h3]⟩
  · rename_i c
    rw [if_neg c]
    split at hx
    · rename_i c2
      rw [if_pos c2]
      injection hx with _ h2 h3
      exact ⟨_, by rw [h2, h3]⟩
    · rename_i c2
      rw [if_neg c2]
      split at hx <;> cases hx
theorem key_mag {x : Nat} : (key x).natAbs = x % 9223372036854775808 := by
  unfold key sg; split <;> omega
theorem mag_of {x x' : Nat} (hx : Flt.Fin x) (hx' : Flt.Fin x') (h : V x' = V x ∨ V x' = -V x) : x' % 9223372036854775808 = x % 9223372036854775808 := by
  rw [← key_mag, ← key_mag]
  have a := V_absK hx
  have b := V_absK hx'
  have c : Vr (key x').natAbs = Vr (key x).natAbs := by omega
  exact Vr_cmp.2.1 c
theorem quo_pm {x y x' y' : Nat} (hx : Flt.Fin x) (hy : Flt.Fin y) (hx' : Flt.Fin x') (hy' : Flt.Fin y') (h0 : V y ≠ 0) (h : (V x' = V x ∧ V y' = V y) ∨ (V x' = -V x ∧ V y' = -V y)) :
    isN (F .quo x y) = false ∧ isN (F .quo x' y') = false ∧ key (F .quo x' y') = key (F .quo x y) := by
  obtain ⟨s, m, i, ex⟩ := hx
  obtain ⟨t, n, j, ey⟩ := hy
  obtain ⟨s', ex'⟩ := read_mag ex (mag_of (x' := x') ⟨_, _, _, ex⟩ hx' (by omega))
  obtain ⟨t', ey'⟩ := read_mag ey (mag_of (x' := y') ⟨_, _, _, ey⟩ hy' (by omega))
  have hn : n ≠ 0 := by
    rintro rfl
    exact h0 (by rw [V_of ey, signed_0])
  obtain ⟨τ, r1, n1, k1⟩ := quo_key ex ey hn
  obtain ⟨τ', r2, n2, k2⟩ := quo_key ex' ey' hn
  refine ⟨n1, n2, ?_⟩
  have d1 : 0 < n * 2 ^ (j - i - 1074).toNat := Nat.mul_pos (Nat.pos_of_ne_zero hn) (Nat.two_pow_pos _)
  have er := Nat.le_antisymm (rung_mono (B := 2 ^ 52) (I := II) d1 d1 (Nat.le_refl _) r1 r2) (rung_mono (B := 2 ^ 52) (I := II) d1 d1 (Nat.le_refl _) r2 r1)
  rw [k1, k2, ← er]
  by_cases m0 : m = 0
  · subst m0
    have z : rung (2 ^ 52) II (0 * 2 ^ (i - j + 1074).toNat) (n * 2 ^ (j - i - 1074).toNat) τ = 0 := by
      rw [Nat.zero_mul] at r1 ⊢
      exact rng_0 (by decide) d1 r1
    rw [z]; unfold sg; split <;> split <;> rfl
  · have sv : ∀ (s : Bool) (m k : Nat), signed s m k = sg s (m * 2 ^ k) := fun s m k => by
      unfold signed sg; rw [Nat.shiftLeft_eq]
    rw [V_of ex, V_of ex', V_of ey, V_of ey', sv, sv, sv, sv] at h
    have pm := Nat.mul_pos (Nat.pos_of_ne_zero m0) (Nat.two_pow_pos (i + 1074).toNat)
    have pn := Nat.mul_pos (Nat.pos_of_ne_zero hn) (Nat.two_pow_pos (j + 1074).toNat)
    generalize m * 2 ^ (i + 1074).toNat = A at *
    generalize n * 2 ^ (j + 1074).toNat = B at *
    have : (s' ^^ t') = (s ^^ t) := by
      unfold sg at h
      cases s <;> cases s' <;> cases t <;> cases t' <;> simp only [if_true, if_false, Bool.false_eq_true] at h <;> first | rfl | (exfalso; omega)
    rw [this]
theorem V_neg_key {x x' : Nat} (hx : Flt.Fin x) (hx' : Flt.Fin x') (h : key x' = -key x) : V x' = -V x := by
  have g : ∀ {y : Nat}, Flt.Fin y → ∃ s, V y = sg s (Vr (key y).natAbs) ∧ key y = sg s (key y).natAbs := fun {y} hy => by
    obtain ⟨s, r, k, h1, h2, h3⟩ := read_sr y
    have hr : r < II := by
      rcases Nat.lt_trichotomy r II with g | g | g
      · exact g
      · obtain ⟨t, m, i, e⟩ := hy
        rw [h2 g] at e; cases e
      · have := h3 g; rw [hy.notN] at this; cases this
    obtain ⟨m, i, _, e⟩ := h1 hr
    have : (key y).natAbs = r := by rw [k]; unfold sg; split <;> omega
    exact ⟨s, by rw [this]; exact e, by rw [this]; exact k⟩
  obtain ⟨s, a, b⟩ := g hx
  obtain ⟨t, c, d⟩ := g hx'
  have e : (key x').natAbs = (key x).natAbs := by omega
  rw [a, c, e]
  rw [e] at d
  rcases Nat.eq_zero_or_pos (key x).natAbs with z | z
  · rw [z, Vr_0]; unfold sg; split <;> split <;> rfl
  · unfold sg at b d ⊢
    cases s <;> cases t <;> simp only [if_true, if_false, Bool.false_eq_true] at b d ⊢ <;> omega
theorem sub_pm {a b a' b' : Nat} (ha : Flt.Fin a) (hb : Flt.Fin b) (ha' : Flt.Fin a') (hb' : Flt.Fin b') :
    ((V a' = V a ∧ V b' = V b) → key (F .sub a' b') = key (F .sub a b)) ∧ ((V a' = -V a ∧ V b' = -V b) → key (F .sub a' b') = -key (F .sub a b)) := by
  obtain ⟨t, r1, n1, k1⟩ := sub_form ha hb
  obtain ⟨t', r2, n2, k2⟩ := sub_form ha' hb'
  constructor
  · intro h
    have e : (V a' - V b').natAbs = (V a - V b).natAbs := by omega
    rw [e] at r2 k2
    rw [k1, k2, rung_same r2 r1, show decide (V a' < V b') = decide (V a < V b) from decide_eq_decide.2 (by omega)]
  · intro h
    have e : (V a' - V b').natAbs = (V a - V b).natAbs := by omega
    rw [e] at r2 k2
    rw [k1, k2, rung_same r2 r1]
    rcases Int.lt_trichotomy (V a) (V b) with g | g | g
    · rw [decide_eq_true g, decide_eq_false (show ¬ V a' < V b' by omega)]; unfold sg; simp
    · have e0 : (V a - V b).natAbs = 0 := by omega
      rw [e0] at r1 ⊢
      rw [rng_0 (by decide) (by decide) r1]; unfold sg; split <;> split <;> simp
    · rw [decide_eq_true (show V a' < V b' by omega), decide_eq_false (show ¬ V a < V b by omega)]; unfold sg; simp
theorem near_pm {x x' : Nat} (h : nearB x = true) (hf : Flt.Fin x') (e : V x' = V x ∨ V x' = -V x) : nearB x' = true := by
  obtain ⟨κ, hκ, _⟩ := U_nat
  obtain ⟨f, h1, h2⟩ := (near_V hκ).1 h
  exact (near_V hκ).2 ⟨hf, by omega, by omega⟩
theorem cut_pm {e fr d e' fr' d' : Nat} (he : nearB e = true) (hfr : nearB fr = true) (hd : nearB d = true) (fe : Flt.Fin e') (ff : Flt.Fin fr') (fd : Flt.Fin d') (h0 : V d ≠ 0)
    (h : (V e' = V e ∧ V fr' = V fr ∧ V d' = V d) ∨ (V e' = -V e ∧ V fr' = -V fr ∧ V d' = -V d)) : isN (cutA e fr d) = false ∧ isN (cutA e' fr' d') = false ∧ key (cutA e' fr' d') = key (cutA e fr d) := by
  have ne := near_pm he fe (by omega)
  have nf := near_pm hfr ff (by omega)
  have nd := near_pm hd fd (by omega)
  have s1 := ((near_Q he).sub (near_Q hfr) (by grind)).fin
  have s2 := ((near_Q ne).sub (near_Q nf) (by grind)).fin
  have p := sub_pm (near_Q he).fin (near_Q hfr).fin (near_Q ne).fin (near_Q nf).fin
  unfold cutA
  refine quo_pm s1 (near_Q hd).fin s2 (near_Q nd).fin h0 ?_
  rcases h with h | h
  · exact .inl ⟨(V_key s2 s1).2.2 (p.1 ⟨h.1, h.2.1⟩), h.2.2⟩
  · exact .inr ⟨V_neg_key s1 s2 (p.2 ⟨h.1, h.2.1⟩), h.2.2⟩
def kNr (lo hi fr d : Nat) : Int := key (cutA (bif flt d 0 then hi else lo) fr d)
def kFr (lo hi fr d : Nat) : Int := key (cutA (bif flt d 0 then lo else hi) fr d)
def oX (lo hi fr : Nat) : Bool := (flt lo fr || feq lo fr) && (flt fr hi || feq fr hi)
theorem oX_V {lo hi fr : Nat} (a : Flt.Fin lo) (b : Flt.Fin hi) (c : Flt.Fin fr) : oX lo hi fr = decide (V lo ≤ V fr ∧ V fr ≤ V hi) := by
  unfold oX
  rw [flt_V a c, feq_V a c, flt_V c b, feq_V c b, Bool.eq_iff_iff]
  simp only [Bool.and_eq_true, Bool.or_eq_true, decide_eq_true_eq]
  omega
theorem dz {d : Nat} (h : Flt.Fin d) : feq d 0 = decide (V d = 0) ∧ flt d 0 = decide (V d < 0) := by
  rw [feq_V h Fin_0, flt_V h Fin_0, V_0]; exact ⟨rfl, rfl⟩
theorem ax_sum {lo hi fr d lo' hi' fr' d' : Nat} (A : Ax lo hi fr d lo' hi' fr' d') : feq d' 0 = feq d 0 ∧ (feq d 0 = false → kNr lo' hi' fr' d' = kNr lo hi fr d ∧ kFr lo' hi' fr' d' = kFr lo hi fr d) ∧ oX lo' hi' fr' = oX lo hi fr := by
  obtain ⟨⟨l1, l2, l3, l4⟩, ⟨m1, m2, m3, m4⟩, le, eq⟩ := A
  have f1 := (near_Q l1).fin
  have f2 := (near_Q l2).fin
  have f3 := (near_Q l3).fin
  have f4 := (near_Q l4).fin
  refine ⟨?_, fun hz => ?_, ?_⟩
  · rw [(dz m4).1, (dz f4).1]; exact decide_eq_decide.2 (by omega)
  · rw [(dz f4).1, decide_eq_false_iff_not] at hz
    unfold kNr kFr
    rw [(dz m4).2, (dz f4).2]
    rcases eq with e | e
    · by_cases g : V d < 0
      · rw [decide_eq_true g, decide_eq_true (show V d' < 0 by omega)]
        exact ⟨(cut_pm l2 l3 l4 m2 m3 m4 hz (.inl ⟨e.2.1, e.2.2.1, e.2.2.2⟩)).2.2, (cut_pm l1 l3 l4 m1 m3 m4 hz (.inl ⟨e.1, e.2.2.1, e.2.2.2⟩)).2.2⟩
      · rw [decide_eq_false g, decide_eq_false (show ¬ V d' < 0 by omega)]
        exact ⟨(cut_pm l1 l3 l4 m1 m3 m4 hz (.inl ⟨e.1, e.2.2.1, e.2.2.2⟩)).2.2, (cut_pm l2 l3 l4 m2 m3 m4 hz (.inl ⟨e.2.1, e.2.2.1, e.2.2.2⟩)).2.2⟩
    · by_cases g : V d < 0
      · rw [decide_eq_true g, decide_eq_false (show ¬ V d' < 0 by omega)]
        exact ⟨(cut_pm l2 l3 l4 m1 m3 m4 hz (.inr ⟨e.1, e.2.2.1, e.2.2.2⟩)).2.2, (cut_pm l1 l3 l4 m2 m3 m4 hz (.inr ⟨e.2.1, e.2.2.1, e.2.2.2⟩)).2.2⟩
      · rw [decide_eq_false g, decide_eq_true (show V d' < 0 by omega)]
        exact ⟨(cut_pm l1 l3 l4 m2 m3 m4 hz (.inr ⟨e.2.1, e.2.2.1, e.2.2.2⟩)).2.2, (cut_pm l2 l3 l4 m1 m3 m4 hz (.inr ⟨e.1, e.2.2.1, e.2.2.2⟩)).2.2⟩
  · rw [oX_V m1 m2 m3, oX_V f1 f2 f3]; exact decide_eq_decide.2 (by omega)
def nK (z : Bool) (k n : Int) : Int := bif z then n else max n k
def mK (z : Bool) (k n : Int) : Int := bif z then n else min n k
theorem more_key {x y : Nat} (hx : isN x = false) (hy : isN y = false) : isN (moreV x y) = false ∧ key (moreV x y) = max (key x) (key y) := by
  unfold moreV
  rw [fgt_key hy hx]
  by_cases h : key x < key y
  · rw [decide_eq_true h]; exact ⟨hy, by simp only [cond_true]; omega⟩
  · rw [decide_eq_false h]; exact ⟨hx, by simp only [cond_false]; omega⟩
theorem less_key {x y : Nat} (hx : isN x = false) (hy : isN y = false) : isN (lessV x y) = false ∧ key (lessV x y) = min (key x) (key y) := by
  unfold lessV
  rw [flt_key hy hx]
  by_cases h : key y < key x
  · rw [decide_eq_true h]; exact ⟨hy, by simp only [cond_true]; omega⟩
  · rw [decide_eq_false h]; exact ⟨hx, by simp only [cond_false]; omega⟩
theorem cut_num {e fr d : Nat} (he : nearB e = true) (hf : nearB fr = true) (hd : nearB d = true) (h0 : feq d 0 = false) : isN (cutA e fr d) = false := by
  rw [(dz (near_Q hd).fin).1, decide_eq_false_iff_not] at h0
  exact (cut_pm he hf hd (near_Q he).fin (near_Q hf).fin (near_Q hd).fin h0 (.inl ⟨rfl, rfl, rfl⟩)).1
theorem cutN_key {n lo hi fr d : Nat} (hn : isN n = false) (a : nearB lo = true) (b : nearB hi = true) (c : nearB fr = true) (e : nearB d = true) : isN (cutN n lo hi fr d) = false ∧ key (cutN n lo hi fr d) = nK (feq d 0) (kNr lo hi fr d) (key n) := by
  unfold cutN nK kNr
  cases hz : feq d 0
  · cases flt d 0
    · exact more_key hn (cut_num a c e hz)
    · exact more_key hn (cut_num b c e hz)
  · exact ⟨hn, rfl⟩
theorem cutF_key {n lo hi fr d : Nat} (hn : isN n = false) (a : nearB lo = true) (b : nearB hi = true) (c : nearB fr = true) (e : nearB d = true) : isN (cutF n lo hi fr d) = false ∧ key (cutF n lo hi fr d) = mK (feq d 0) (kFr lo hi fr d) (key n) := by
  unfold cutF mK kFr
  cases hz : feq d 0
  · cases flt d 0
    · exact less_key hn (cut_num b c e hz)
    · exact less_key hn (cut_num a c e hz)
  · exact ⟨hn, rfl⟩
theorem nK_comm (z y : Bool) (j k n : Int) : nK z j (nK y k n) = nK y k (nK z j n) := by unfold nK; cases z <;> cases y <;> simp only [cond_true, cond_false] <;> omega
theorem mK_comm (z y : Bool) (j k n : Int) : mK z j (mK y k n) = mK y k (mK z j n) := by unfold mK; cases z <;> cases y <;> simp only [cond_true, cond_false] <;> omega
theorem nK_same {z z' : Bool} {k k' n : Int} (hz : z' = z) (hk : z = false → k' = k) : nK z' k' n = nK z k n := by subst hz; unfold nK; cases z' <;> first | rfl | rw [hk rfl]
theorem mK_same {z z' : Bool} {k k' n : Int} (hz : z' = z) (hk : z = false → k' = k) : mK z' k' n = mK z k n := by subst hz; unfold mK; cases z' <;> first | rfl | rw [hk rfl]
/-- What a box and a ray have in common, axis by axis. -/
structure Mt (a b c d e f p q r u v w l : Nat) : Prop where
  x : nearB a = true ∧ nearB d = true ∧ nearB p = true ∧ nearB u = true
  y : nearB b = true ∧ nearB e = true ∧ nearB q = true ∧ nearB v = true
  z : nearB c = true ∧ nearB f = true ∧ nearB r = true ∧ nearB w = true
  l : isN l = false
theorem far_num : isN 4786511204640096256 = false := by decide +kernel
theorem mt_N {a b c d e f p q r u v w l : Nat} (h : Mt a b c d e f p q r u v w l) : isN (meetN a b c d e f p q r u v w l) = false ∧ key (meetN a b c d e f p q r u v w l) = nK (feq w 0) (kNr c f r w) (nK (feq v 0) (kNr b e q v) (nK (feq u 0) (kNr a d p u) (key l))) := by
  obtain ⟨⟨x1, x2, x3, x4⟩, ⟨y1, y2, y3, y4⟩, ⟨z1, z2, z3, z4⟩, hl⟩ := h
  have h1 := cutN_key hl x1 x2 x3 x4
  have h2 := cutN_key h1.1 y1 y2 y3 y4
  have h3 := cutN_key h2.1 z1 z2 z3 z4
  unfold meetN
  exact ⟨h3.1, by rw [h3.2, h2.2, h1.2]⟩
theorem mt_F {a b c d e f p q r u v w l : Nat} (h : Mt a b c d e f p q r u v w l) : isN (meetF a b c d e f p q r u v w) = false ∧ key (meetF a b c d e f p q r u v w) = mK (feq w 0) (kFr c f r w) (mK (feq v 0) (kFr b e q v) (mK (feq u 0) (kFr a d p u) (key 4786511204640096256))) := by
  obtain ⟨⟨x1, x2, x3, x4⟩, ⟨y1, y2, y3, y4⟩, ⟨z1, z2, z3, z4⟩, hl⟩ := h
  have h1 := cutF_key far_num x1 x2 x3 x4
  have h2 := cutF_key h1.1 y1 y2 y3 y4
  have h3 := cutF_key h2.1 z1 z2 z3 z4
  unfold meetF
  exact ⟨h3.1, by rw [h3.2, h2.2, h1.2]⟩
theorem mt_O (a b c d e f p q r u v w : Nat) : meetO a b c d e f p q r u v w = ((bif feq u 0 then oX a d p else true) && (bif feq v 0 then oX b e q else true) && (bif feq w 0 then oX c f r else true)) := by
  unfold meetO cutO oX
  cases feq u 0 <;> cases feq v 0 <;> cases feq w 0 <;> simp
/-- From keys to what is met. -/
theorem met_of {a b c d e f p q r u v w l a' b' c' d' e' f' p' q' r' u' v' w' : Nat} (h : Mt a b c d e f p q r u v w l) (h' : Mt a' b' c' d' e' f' p' q' r' u' v' w' l)
    (hC : meetC a' b' c' d' e' f' p' q' r' u' v' w' l = meetC a b c d e f p q r u v w l) (hO : meetO a' b' c' d' e' f' p' q' r' u' v' w' = meetO a b c d e f p q r u v w)
    (hN : key (meetN a' b' c' d' e' f' p' q' r' u' v' w' l) = key (meetN a b c d e f p q r u v w l)) (hF : key (meetF a' b' c' d' e' f' p' q' r' u' v' w') = key (meetF a b c d e f p q r u v w)) :
    meetB a' b' c' d' e' f' p' q' r' u' v' w' l = meetB a b c d e f p q r u v w l ∧ feq (meetX a b c d e f p q r u v w l) (meetX a' b' c' d' e' f' p' q' r' u' v' w' l) = true ∧ feq (meetY a b c d e f p q r u v w l) (meetY a' b' c' d' e' f' p' q' r' u' v' w' l) = true := by
  have N := mt_N h
  have N' := mt_N h'
  have Q := mt_F h
  have Q' := mt_F h'
  have hD : meetD a' b' c' d' e' f' p' q' r' u' v' w' l = meetD a b c d e f p q r u v w l := by
    unfold meetD
    rw [hO, fgt_key N.1 Q.1, fgt_key N'.1 Q'.1, hN, hF]
  have z : feq 0 0 = true := by decide +kernel
  unfold meetB meetX meetY
  rw [hC, hD]
  refine ⟨rfl, ?_, ?_⟩
  · cases meetC a b c d e f p q r u v w l <;> cases meetD a b c d e f p q r u v w l <;> first | exact z | (simp only [cond_false]; rw [feq_key N.1 N'.1, hN]; simp)
  · cases meetC a b c d e f p q r u v w l <;> cases meetD a b c d e f p q r u v w l <;> first | exact z | (simp only [cond_false]; rw [feq_key Q.1 Q'.1, hF]; simp)
theorem may_ok {a b c d e f : Nat} (h1 : nearB a = true) (h2 : nearB b = true) (h3 : nearB c = true) (h4 : nearB d = true) (h5 : nearB e = true) (h6 : nearB f = true) (l1 : V a ≤ V d) (l2 : V b ≤ V e) (l3 : V c ≤ V f) : mayV a b c d e f = 0 := by
  have g : ∀ {x y : Nat}, nearB x = true → nearB y = true → V x ≤ V y → fgt x y = false := fun {x y} hx hy h => by
    rw [fgt_flt, flt_V (near_Q hy).fin (near_Q hx).fin]; exact decide_eq_false (by omega)
  unfold mayV fineB
  rw [h1, h2, h3, h4, h5, h6, g h1 h4 l1, g h2 h5 l2, g h3 h6 l3]
  rfl
/-- What is nearly nought. -/
theorem read_lo : ∃ m i, double.read 4517329193108106637 = .number false m i ∧ double.read 13740701229962882445 = .number true m i := by
  refine ⟨_, _, show double.read 4517329193108106637 = .number false 4722366482869645 (-72) by decide +kernel, by decide +kernel⟩
theorem clean_V {x : Nat} (h : Flt.Fin x) : feq x (cleanV x) = decide (V x = 0 ∨ V x ≤ V 13740701229962882445 ∨ V 4517329193108106637 ≤ V x) := by
  obtain ⟨m, i, e1, e2⟩ := read_lo
  have f1 : Flt.Fin 4517329193108106637 := ⟨_, _, _, e1⟩
  have f2 : Flt.Fin 13740701229962882445 := ⟨_, _, _, e2⟩
  have hp : 0 < V 4517329193108106637 := by rw [V_pos f1]; decide +kernel
  have hn : V 13740701229962882445 = -V 4517329193108106637 := V_neg_key f1 f2 (by decide +kernel)
  unfold cleanV
  rw [fgt_flt, flt_V f2 h, flt_V h f1]
  by_cases a : V 13740701229962882445 < V x <;> by_cases b : V x < V 4517329193108106637
  · rw [decide_eq_true a, decide_eq_true b]
    simp only [Bool.and_self, cond_true]
    rw [feq_V h Fin_0, V_0]; exact decide_eq_decide.2 (by omega)
  · rw [decide_eq_true a, decide_eq_false b]
    simp only [Bool.and_false, cond_false]
    rw [feq_V h h]; exact decide_eq_decide.2 (by omega)
  · rw [decide_eq_false a, decide_eq_true b]
    simp only [Bool.false_and, cond_false]
    rw [feq_V h h]; exact decide_eq_decide.2 (by omega)
  · rw [decide_eq_false a, decide_eq_false b]
    simp only [Bool.false_and, cond_false]
    rw [feq_V h h]; exact decide_eq_decide.2 (by omega)
theorem clean_pm {x x' : Nat} (h : Flt.Fin x) (h' : Flt.Fin x') (e : V x' = V x ∨ V x' = -V x) : feq x' (cleanV x') = feq x (cleanV x) := by
  obtain ⟨m, i, e1, e2⟩ := read_lo
  have hn : V 13740701229962882445 = -V 4517329193108106637 := V_neg_key ⟨_, _, _, e1⟩ ⟨_, _, _, e2⟩ (by decide +kernel)
  rw [clean_V h, clean_V h', hn]
  exact decide_eq_decide.2 (by omega)
/-- A pair of an axis of old and one of new, alike. -/
def Pm (x x' : Nat) : Prop := Flt.Fin x ∧ Flt.Fin x' ∧ (V x' = V x ∨ V x' = -V x)
theorem Pm.z {x x' : Nat} (h : Pm x x') : feq x' 0 = feq x 0 := by
  rw [(dz h.1).1, (dz h.2.1).1]; exact decide_eq_decide.2 (by have := h.2.2; omega)
theorem Pm.c {x x' : Nat} (h : Pm x x') : feq x' (cleanV x') = feq x (cleanV x) := clean_pm h.1 h.2.1 h.2.2
theorem ray_perm {p q r u v w l p' q' r' u' v' w' : Nat} (h1 : fineB p q r = true) (h2 : fineB u v w = true) (h3 : fineB p' q' r' = true) (h4 : fineB u' v' w' = true)
    (h : (Pm u u' ∧ Pm v v' ∧ Pm w w') ∨ (Pm u u' ∧ Pm v w' ∧ Pm w v') ∨ (Pm u v' ∧ Pm v u' ∧ Pm w w') ∨ (Pm u w' ∧ Pm v v' ∧ Pm w u')) : rayV p' q' r' u' v' w' l = rayV p q r u v w l := by
  unfold rayV
  rw [h1, h2, h3, h4]
  rcases h with ⟨a, b, c⟩ | ⟨a, b, c⟩ | ⟨a, b, c⟩ | ⟨a, b, c⟩ <;> rw [a.z, b.z, c.z, a.c, b.c, c.c]
  · cases feq u 0 <;> cases feq v 0 <;> cases feq w 0 <;> cases feq u (cleanV u) <;> cases feq v (cleanV v) <;> cases feq w (cleanV w) <;> rfl
  · cases feq u 0 <;> cases feq v 0 <;> cases feq w 0 <;> cases feq u (cleanV u) <;> cases feq v (cleanV v) <;> cases feq w (cleanV w) <;> rfl
  · cases feq u 0 <;> cases feq v 0 <;> cases feq w 0 <;> cases feq u (cleanV u) <;> cases feq v (cleanV v) <;> cases feq w (cleanV w) <;> rfl
theorem Ax.mt {lo hi fr d lo' hi' fr' d' : Nat} (A : Ax lo hi fr d lo' hi' fr' d') : (nearB lo = true ∧ nearB hi = true ∧ nearB fr = true ∧ nearB d = true) ∧ (nearB lo' = true ∧ nearB hi' = true ∧ nearB fr' = true ∧ nearB d' = true) ∧ V lo ≤ V hi ∧ V lo' ≤ V hi' ∧ Pm d d' := by
  obtain ⟨⟨l1, l2, l3, l4⟩, ⟨m1, m2, m3, m4⟩, le, eq⟩ := A
  refine ⟨⟨l1, l2, l3, l4⟩, ⟨?_, ?_, near_pm l3 m3 (by omega), near_pm l4 m4 (by omega)⟩, le, by omega, (near_Q l4).fin, m4, by omega⟩
  · rcases eq with e | e
    · exact near_pm l1 m1 (.inl e.1)
    · exact near_pm l2 m1 (.inr e.1)
  · rcases eq with e | e
    · exact near_pm l2 m2 (.inl e.2.1)
    · exact near_pm l1 m2 (.inr e.2.1)
/-- A box and a ray that are turned by quarters meet as they met. -/
theorem met_perm {a b c d e f p q r u v w l a' b' c' d' e' f' p' q' r' u' v' w' : Nat} (hl : nearB l = true)
    (h : (Ax a d p u a' d' p' u' ∧ Ax b e q v b' e' q' v' ∧ Ax c f r w c' f' r' w') ∨ (Ax a d p u a' d' p' u' ∧ Ax b e q v c' f' r' w' ∧ Ax c f r w b' e' q' v') ∨
      (Ax a d p u b' e' q' v' ∧ Ax b e q v a' d' p' u' ∧ Ax c f r w c' f' r' w') ∨ (Ax a d p u c' f' r' w' ∧ Ax b e q v b' e' q' v' ∧ Ax c f r w a' d' p' u')) :
    meetB a' b' c' d' e' f' p' q' r' u' v' w' l = meetB a b c d e f p q r u v w l ∧ feq (meetX a b c d e f p q r u v w l) (meetX a' b' c' d' e' f' p' q' r' u' v' w' l) = true ∧ feq (meetY a b c d e f p q r u v w l) (meetY a' b' c' d' e' f' p' q' r' u' v' w' l) = true := by
  have fin3 : ∀ {x y z : Nat}, nearB x = true → nearB y = true → nearB z = true → fineB x y z = true := fun h1 h2 h3 => by unfold fineB; rw [h1, h2, h3]; rfl
  have ln := (near_Q hl).fin.notN
  have all : (nearB a = true ∧ nearB d = true ∧ nearB p = true ∧ nearB u = true ∧ V a ≤ V d) ∧ (nearB b = true ∧ nearB e = true ∧ nearB q = true ∧ nearB v = true ∧ V b ≤ V e) ∧ (nearB c = true ∧ nearB f = true ∧ nearB r = true ∧ nearB w = true ∧ V c ≤ V f) ∧
      (nearB a' = true ∧ nearB d' = true ∧ nearB p' = true ∧ nearB u' = true ∧ V a' ≤ V d') ∧ (nearB b' = true ∧ nearB e' = true ∧ nearB q' = true ∧ nearB v' = true ∧ V b' ≤ V e') ∧ (nearB c' = true ∧ nearB f' = true ∧ nearB r' = true ∧ nearB w' = true ∧ V c' ≤ V f') ∧
      ((Pm u u' ∧ Pm v v' ∧ Pm w w') ∨ (Pm u u' ∧ Pm v w' ∧ Pm w v') ∨ (Pm u v' ∧ Pm v u' ∧ Pm w w') ∨ (Pm u w' ∧ Pm v v' ∧ Pm w u')) := by
    rcases h with ⟨A, B, C⟩ | ⟨A, B, C⟩ | ⟨A, B, C⟩ | ⟨A, B, C⟩ <;> (
      obtain ⟨⟨x1, x2, x3, x4⟩, ⟨y1, y2, y3, y4⟩, z1, z2, z3⟩ := A.mt
      obtain ⟨⟨X1, X2, X3, X4⟩, ⟨Y1, Y2, Y3, Y4⟩, Z1, Z2, Z3⟩ := B.mt
      obtain ⟨⟨u1, u2, u3, u4⟩, ⟨v1, v2, v3, v4⟩, w1, w2, w3⟩ := C.mt
      refine ⟨⟨x1, x2, x3, x4, z1⟩, ⟨X1, X2, X3, X4, Z1⟩, ⟨u1, u2, u3, u4, w1⟩, ?_, ?_, ?_, ?_⟩ <;> first | exact ⟨y1, y2, y3, y4, z2⟩ | exact ⟨Y1, Y2, Y3, Y4, Z2⟩ | exact ⟨v1, v2, v3, v4, w2⟩ | exact .inl ⟨z3, Z3, w3⟩ | exact .inr (.inl ⟨z3, Z3, w3⟩) | exact .inr (.inr (.inl ⟨z3, Z3, w3⟩)) | exact .inr (.inr (.inr ⟨z3, Z3, w3⟩)))
  obtain ⟨⟨a1, a2, a3, a4, a5⟩, ⟨b1, b2, b3, b4, b5⟩, ⟨c1, c2, c3, c4, c5⟩, ⟨A1, A2, A3, A4, A5⟩, ⟨B1, B2, B3, B4, B5⟩, ⟨C1, C2, C3, C4, C5⟩, hP⟩ := all
  have M : Mt a b c d e f p q r u v w l := ⟨⟨a1, a2, a3, a4⟩, ⟨b1, b2, b3, b4⟩, ⟨c1, c2, c3, c4⟩, ln⟩
  have M' : Mt a' b' c' d' e' f' p' q' r' u' v' w' l := ⟨⟨A1, A2, A3, A4⟩, ⟨B1, B2, B3, B4⟩, ⟨C1, C2, C3, C4⟩, ln⟩
  have hC : meetC a' b' c' d' e' f' p' q' r' u' v' w' l = meetC a b c d e f p q r u v w l := by
    unfold meetC
    rw [may_ok a1 b1 c1 a2 b2 c2 a5 b5 c5, may_ok A1 B1 C1 A2 B2 C2 A5 B5 C5, ray_perm (fin3 a3 b3 c3) (fin3 a4 b4 c4) (fin3 A3 B3 C3) (fin3 A4 B4 C4) hP]
  refine met_of M M' hC ?_ ?_ ?_
  · rw [mt_O, mt_O]
    rcases h with ⟨A, B, C⟩ | ⟨A, B, C⟩ | ⟨A, B, C⟩ | ⟨A, B, C⟩ <;> (
      have sa := ax_sum A; have sb := ax_sum B; have sc := ax_sum C
      rw [sa.1, sb.1, sc.1, sa.2.2, sb.2.2, sc.2.2]
      all_goals (cases feq u 0 <;> cases feq v 0 <;> cases feq w 0 <;> cases oX a d p <;> cases oX b e q <;> cases oX c f r <;> rfl))
  · rw [(mt_N M).2, (mt_N M').2]
    rcases h with ⟨A, B, C⟩ | ⟨A, B, C⟩ | ⟨A, B, C⟩ | ⟨A, B, C⟩ <;> (
      have sa := ax_sum A; have sb := ax_sum B; have sc := ax_sum C
      have na := fun n => nK_same (n := n) sa.1 fun z => (sa.2.1 z).1
      have nb := fun n => nK_same (n := n) sb.1 fun z => (sb.2.1 z).1
      have nc := fun n => nK_same (n := n) sc.1 fun z => (sc.2.1 z).1
      simp only [na, nb, nc])
    · exact nK_comm _ _ _ _ _
    · rw [nK_comm (feq v 0) (feq u 0)]
    · unfold nK; cases feq u 0 <;> cases feq v 0 <;> cases feq w 0 <;> simp only [cond_true, cond_false] <;> omega
  · rw [(mt_F M).2, (mt_F M').2]
    rcases h with ⟨A, B, C⟩ | ⟨A, B, C⟩ | ⟨A, B, C⟩ | ⟨A, B, C⟩ <;> (
      have sa := ax_sum A; have sb := ax_sum B; have sc := ax_sum C
      have na := fun n => mK_same (n := n) sa.1 fun z => (sa.2.1 z).2
      have nb := fun n => mK_same (n := n) sb.1 fun z => (sb.2.1 z).2
      have nc := fun n => mK_same (n := n) sc.1 fun z => (sc.2.1 z).2
      simp only [na, nb, nc])
    · exact mK_comm _ _ _ _ _
    · rw [mK_comm (feq v 0) (feq u 0)]
    · unfold mK; cases feq u 0 <;> cases feq v 0 <;> cases feq w 0 <;> simp only [cond_true, cond_false] <;> omega
end Flt
end Go.Proofs.YtdjckabogdohcaaGreat
/- Floats that are one another times a power of two: all operations go along. -/
namespace Go.Proofs.YtdjckabogdohcaaGreat
open Go.RowKit Ev Ieee
set_option linter.unusedVariables false
set_option linter.unusedSimpArgs false
set_option maxRecDepth 20000
namespace Flt

theorem log2_52 {m : Nat} (h : 4503599627370496 ≤ m) (h' : m < 9007199254740992) : m.log2 = 52 := by
  have h0 : m ≠ 0 := by omega
  refine (Nat.log2_eq_iff h0).2 ⟨?_, ?_⟩
  · exact h
  · exact h'
theorem kept_ge (neg : Bool) (m : Nat) (up drop : Nat) (hm : m ≠ 0) (h : (up = 52 - m.log2 ∧ drop = m.log2 - 52)) : 4503599627370496 ≤ Toward.even.cut neg (m <<< up) drop := by
  have hl := Nat.log2_self_le hm
  rw [cut_even]
  refine rhe_lower (Nat.two_pow_pos _) ?_
  obtain ⟨rfl, rfl⟩ := h
  rw [Nat.shiftLeft_eq]
  have e : (4503599627370496 : Nat) = 2 ^ 52 := by decide
  rw [e, ← Nat.pow_add]
  by_cases g : m.log2 ≤ 52
  · rw [show m.log2 - 52 = 0 by omega, Nat.add_zero]
    calc 2 ^ 52 = 2 ^ m.log2 * 2 ^ (52 - m.log2) := by rw [← Nat.pow_add]; congr 1; omega
      _ ≤ m * 2 ^ (52 - m.log2) := Nat.mul_le_mul_right _ hl
  · rw [show 52 - m.log2 = 0 by omega, Nat.pow_zero, Nat.mul_one, show 52 + (m.log2 - 52) = m.log2 by omega]
    exact hl
theorem read_low {neg : Bool} {Q C : Nat} {i : Int} (h : 4503599627370496 ≤ C) (h' : C < 9007199254740992) (hq : Q ≤ 2000) (hi : i = -1074 + Q) : double.read (double.word neg (Q * 4503599627370496 + C)) = .number neg C i := by
  have m1 : 4503599627370496 + (Q * 4503599627370496 + C) % 4503599627370496 = C := by omega
  have m2 : (-1074 : Int) + ((Q * 4503599627370496 + C) / 4503599627370496 - 1 : Nat) = i := by omega
  rw [read_word neg _ (by omega), if_neg (by omega), m1, m2]
theorem read_top {neg : Bool} {Q : Nat} {i : Int} (hq : Q ≤ 2000) (hi : i = -1073 + Q) : double.read (double.word neg (Q * 4503599627370496 + 9007199254740992)) = .number neg 4503599627370496 i := by
  have m1 : 4503599627370496 + (Q * 4503599627370496 + 9007199254740992) % 4503599627370496 = 4503599627370496 := by omega
  have m2 : (-1074 : Int) + ((Q * 4503599627370496 + 9007199254740992) / 4503599627370496 - 1 : Nat) = i := by omega
  rw [read_word neg _ (by omega), if_neg (by omega), m1, m2]
/-- What is written of a number whose exponent has room: read, and shifted by so many. -/
theorem near_sc {neg : Bool} {mag : Nat} {p e : Int} (hm : mag ≠ 0) (h1 : -1050 ≤ p + mag.log2 - 52) (h2 : p + mag.log2 - 52 ≤ 850) (he : -20 ≤ e ∧ e ≤ 20) :
    ∃ m i, 4503599627370496 ≤ m ∧ m < 9007199254740992 ∧ p + mag.log2 - 52 ≤ i ∧ i ≤ p + mag.log2 - 51 ∧ double.read (double.nearest neg mag p) = .number neg m i ∧ double.read (double.nearest neg mag (p + e)) = .number neg m (i + e) := by
  obtain ⟨C, hC⟩ : ∃ C, C = Toward.even.cut neg (mag <<< (52 - mag.log2)) (mag.log2 - 52) := ⟨_, rfl⟩
  have c1 : 4503599627370496 ≤ C := by rw [hC]; exact kept_ge neg mag _ _ hm ⟨rfl, rfl⟩
  have key : ∀ p : Int, -1074 ≤ p + mag.log2 - 52 → p + mag.log2 - 52 ≤ 900 → double.nearest neg mag p = double.word neg ((p + mag.log2 - 52 + 1074).toNat * 4503599627370496 + C) ∧ C ≤ 9007199254740992 := fun p a b => by
    have hk := kept_le neg mag p (max (p + mag.log2 - 52) (-1074)) hm (by omega)
    rw [nearest_eq neg mag p hm]
    have hq : max (p + mag.log2 - 52) (-1074) = p + mag.log2 - 52 := by omega
    rw [hq] at hk ⊢
    have u : (p - (p + mag.log2 - 52)).toNat = 52 - mag.log2 := by omega
    have d : (p + mag.log2 - 52 - p).toNat = mag.log2 - 52 := by omega
    rw [u, d, ← hC] at hk ⊢
    have hm2 : min ((p + mag.log2 - 52 + 1074).toNat * 4503599627370496 + C) (2047 * 4503599627370496) = (p + mag.log2 - 52 + 1074).toNat * 4503599627370496 + C := by
      refine Nat.min_eq_left ?_
      omega
    exact ⟨congrArg (double.word neg) hm2, hk⟩
  obtain ⟨k1, c2⟩ := key p (by omega) (by omega)
  obtain ⟨k2, _⟩ := key (p + e) (by omega) (by omega)
  rw [k1, k2]
  obtain ⟨Q, hQ⟩ : ∃ Q : Nat, (Q : Int) = p + mag.log2 - 52 + 1074 := ⟨(p + mag.log2 - 52 + 1074).toNat, by omega⟩
  obtain ⟨Q', hQ'⟩ : ∃ Q : Nat, (Q : Int) = p + e + mag.log2 - 52 + 1074 := ⟨(p + e + mag.log2 - 52 + 1074).toNat, by omega⟩
  have e1 : (p + mag.log2 - 52 + 1074).toNat = Q := by omega
  have e2 : (p + e + mag.log2 - 52 + 1074).toNat = Q' := by omega
  rw [e1, e2]
  by_cases g : C = 9007199254740992
  · rw [g]
    refine ⟨4503599627370496, p + mag.log2 - 51, by omega, by omega, by omega, by omega, read_top (by omega) (by omega), read_top (by omega) (by omega)⟩
  · refine ⟨C, p + mag.log2 - 52, c1, by omega, by omega, by omega, read_low c1 (by omega) (by omega) (by omega), read_low c1 (by omega) (by omega) (by omega)⟩
/-- The one is the other times a power of two; how great it is at most, and at least. -/
def Sc (e lo hi : Int) (x x' : Nat) : Prop := (∃ s, double.read x = .number s 0 (-1074) ∧ double.read x' = .number s 0 (-1074)) ∨
  ∃ s m i, 4503599627370496 ≤ m ∧ m < 9007199254740992 ∧ lo ≤ i ∧ i ≤ hi ∧ double.read x = .number s m i ∧ double.read x' = .number s m (i + e)
theorem Sc.wk {e lo hi lo' hi' : Int} {x x' : Nat} (h : Sc e lo hi x x') (a : lo' ≤ lo) (b : hi ≤ hi') : Sc e lo' hi' x x' := by
  rcases h with h | ⟨s, m, i, h1, h2, h3, h4, h5, h6⟩
  · exact .inl h
  · exact .inr ⟨s, m, i, h1, h2, by omega, by omega, h5, h6⟩
theorem Sc.fin {e lo hi : Int} {x x' : Nat} (h : Sc e lo hi x x') : Flt.Fin x ∧ Flt.Fin x' := by
  rcases h with ⟨s, h1, h2⟩ | ⟨s, m, i, h1, h2, h3, h4, h5, h6⟩
  · exact ⟨⟨_, _, _, h1⟩, ⟨_, _, _, h2⟩⟩
  · exact ⟨⟨_, _, _, h5⟩, ⟨_, _, _, h6⟩⟩
theorem read_zero (s : Bool) : double.read (double.word s 0) = .number s 0 (-1074) := by
  rw [read_word s 0 (by decide), if_pos (by decide)]
/-- Two writings of one number, so many places apart. -/
theorem Sc.mk {e lo hi p : Int} {s : Bool} {mag : Nat} (he : -20 ≤ e ∧ e ≤ 20) (h : mag ≠ 0 → lo ≤ p + mag.log2 - 52 ∧ p + mag.log2 - 51 ≤ hi) (h1 : -1050 ≤ lo) (h2 : hi ≤ 850) : Sc e lo hi (double.nearest s mag p) (double.nearest s mag (p + e)) := by
  by_cases hm : mag = 0
  · subst hm
    rw [near_0, near_0]
    exact .inl ⟨s, read_zero s, read_zero s⟩
  · obtain ⟨a, b⟩ := h hm
    obtain ⟨m, i, c1, c2, c3, c4, c5, c6⟩ := near_sc (neg := s) (p := p) (e := e) hm (by omega) (by omega) he
    exact .inr ⟨s, m, i, c1, c2, by omega, by omega, c5, c6⟩
theorem near_num (s : Bool) (mag : Nat) (p : Int) : isN (double.nearest s mag p) = false := by
  by_cases hm : mag = 0
  · subst hm; rw [near_0]; exact word_ok s (Nat.zero_le _)
  · obtain ⟨t, _, e⟩ := nearest_form s mag p
    rw [e]; exact word_ok s (rung_le _ _ _ _ _)
theorem F_near {op : BinOp} {x y : Nat} {s : Bool} {mag : Nat} {p : Int} (h : fop op x y = some (double.nearest s mag p)) : F op x y = double.nearest s mag p := F_some h (near_num s mag p)
theorem fop_mul {x y : Nat} {s t : Bool} {m n : Nat} {i j : Int} (hx : double.read x = .number s m i) (hy : double.read y = .number t n j) : fop .mul x y = some (double.nearest (s ^^ t) (m * n) (i + j)) := by
  show ((double.read x).product (double.read y)).map double.write = _
  rw [hx, hy]; rfl
theorem Sc.mul {e e' lo hi lo' hi' : Int} {x x' y y' : Nat} (hx : Sc e lo hi x x') (hy : Sc e' lo' hi' y y') (he : -20 ≤ e + e' ∧ e + e' ≤ 20) (h1 : -1050 ≤ lo + lo' + 52) (h2 : hi + hi' + 54 ≤ 850) : Sc (e + e') (lo + lo' + 52) (hi + hi' + 54) (F .mul x y) (F .mul x' y') := by
  have z : ∀ {s t : Bool} {a b c d : Nat} {i j k l : Int}, double.read x = .number s a i → double.read y = .number t b j → double.read x' = .number s c k → double.read y' = .number t d l → a * b = 0 → c * d = 0 → Sc (e + e') (lo + lo' + 52) (hi + hi' + 54) (F .mul x y) (F .mul x' y') := fun {s t a b c d i j k l} q1 q2 q3 q4 z1 z2 => by
    rw [F_near (fop_mul q1 q2), F_near (fop_mul q3 q4), z1, z2, near_0, near_0]
    exact .inl ⟨_, read_zero _, read_zero _⟩
  rcases hx with ⟨s, a1, a2⟩ | ⟨s, m, i, a1, a2, a3, a4, a5, a6⟩ <;> rcases hy with ⟨t, b1, b2⟩ | ⟨t, n, j, b1, b2, b3, b4, b5, b6⟩
  · exact z a1 b1 a2 b2 (Nat.zero_mul _) (Nat.zero_mul _)
  · exact z a1 b5 a2 b6 (Nat.zero_mul _) (Nat.zero_mul _)
  · exact z a5 b1 a6 b2 (Nat.mul_zero _) (Nat.mul_zero _)
  · rw [F_near (fop_mul a5 b5), F_near (fop_mul a6 b6), show i + e + (j + e') = i + j + (e + e') by omega]
    have g : m * n ≠ 0 → (m * n).log2 = 104 ∨ (m * n).log2 = 105 := fun h0 => by
      have h3 : 2 ^ 104 ≤ m * n := by
        have := Nat.mul_le_mul a1 b1
        rw [show (2 : Nat) ^ 104 = 4503599627370496 * 4503599627370496 by decide]; exact this
      have h4 : m * n < 2 ^ 106 := by
        have := Nat.mul_lt_mul'' a2 b2
        rw [show (2 : Nat) ^ 106 = 9007199254740992 * 9007199254740992 by decide]; exact this
      have h5 := (Nat.le_log2 h0).2 h3
      have h6 := (Nat.log2_lt h0).2 h4
      omega
    refine Sc.mk he (fun h0 => ?_) h1 h2
    have := g h0
    omega
theorem fop_quo {x y : Nat} {s t : Bool} {m n : Nat} {i j : Int} (hx : double.read x = .number s m i) (hy : double.read y = .number t n j) (hn : n ≠ 0) :
    fop .quo x y = some (double.nearest (s ^^ t) (2 * ((m <<< (54 + n.log2 - m.log2)) / n) + ((m <<< (54 + n.log2 - m.log2)) % n != 0).toNat) (i - j - (54 + n.log2 - m.log2 : Nat) - 1)) := by
  show ((double.read x).quotient (double.fractionBits + 2) (double.read y)).map double.write = _
  have fb : double.fractionBits + 2 = 54 := by decide +kernel
  rw [hx, hy, fb]
  simp only [Datum.quotient, if_neg hn, Option.map_some]
  rfl
theorem Sc.quo {e e' lo hi lo' hi' : Int} {x x' y y' : Nat} (hx : Sc e lo hi x x') (hy : Sc e' lo' hi' y y') (h0 : feq y 0 = false) (he : -20 ≤ e - e' ∧ e - e' ≤ 20) (h1 : -1050 ≤ lo - hi' - 53) (h2 : hi - lo' - 51 ≤ 850) : Sc (e - e') (lo - hi' - 53) (hi - lo' - 51) (F .quo x y) (F .quo x' y') := by
  rcases hy with ⟨t, b1, b2⟩ | ⟨t, n, j, b1, b2, b3, b4, b5, b6⟩
  · exfalso
    rw [feq_V ⟨_, _, _, b1⟩ Fin_0, V_0, V_of b1, signed_0] at h0
    exact absurd h0 (by decide)
  have hn : n ≠ 0 := by omega
  have ln := log2_52 b1 b2
  rcases hx with ⟨s, a1, a2⟩ | ⟨s, m, i, a1, a2, a3, a4, a5, a6⟩
  · have z : (2 * ((0 <<< (54 + n.log2 - (0 : Nat).log2)) / n) + ((0 <<< (54 + n.log2 - (0 : Nat).log2)) % n != 0).toNat) = 0 := by simp
    rw [F_near (fop_quo a1 b5 hn), F_near (fop_quo a2 b6 hn), z, near_0, near_0]
    exact .inl ⟨_, read_zero _, read_zero _⟩
  · rw [F_near (fop_quo a5 b5 hn), F_near (fop_quo a6 b6 hn)]
    have lm := log2_52 a1 a2
    rw [ln, lm, show 54 + 52 - 52 = 54 by decide, show i + e - (j + e') - ((54 : Nat) : Int) - 1 = i - j - ((54 : Nat) : Int) - 1 + (e - e') by omega]
    have d0 : m <<< 54 = m * 18014398509481984 := Nat.shiftLeft_eq m 54
    rw [d0]
    have d1 : 9007199254740992 ≤ m * 18014398509481984 / n := by
      rw [Nat.le_div_iff_mul_le (by omega)]
      omega
    have d2 : m * 18014398509481984 / n < 36028797018963968 := by
      rw [Nat.div_lt_iff_lt_mul (by omega)]
      omega
    have tb : ((m * 18014398509481984) % n != 0).toNat ≤ 1 := by cases ((m * 18014398509481984) % n != 0) <;> decide
    generalize m * 18014398509481984 / n = D at *
    generalize ((m * 18014398509481984) % n != 0).toNat = T at *
    refine Sc.mk he (fun h0 => ?_) h1 h2
    have h5 := (Nat.le_log2 h0).2 (show 2 ^ 54 ≤ 2 * D + T by rw [show (2 : Nat) ^ 54 = 18014398509481984 by decide]; omega)
    have h6 := (Nat.log2_lt h0).2 (show 2 * D + T < 2 ^ 56 by rw [show (2 : Nat) ^ 56 = 72057594037927936 by decide]; omega)
    omega
theorem rootFrom_bd (n : Nat) : ∀ (todo r : Nat), r ≤ Datum.rootFrom n todo r ∧ Datum.rootFrom n todo r < r + 2 ^ todo
  | 0, r => ⟨Nat.le_refl _, by show r < r + 2 ^ 0; omega⟩
  | t + 1, r => by
    have e : Datum.rootFrom n (t + 1) r = Datum.rootFrom n t (if (r + 1 <<< t) * (r + 1 <<< t) ≤ n then r + 1 <<< t else r) := rfl
    rw [e, Nat.shiftLeft_eq, Nat.one_mul, Nat.pow_succ]
    split
    · have := rootFrom_bd n t (r + 2 ^ t); omega
    · have := rootFrom_bd n t r; omega
theorem root_read {x : Nat} {m : Nat} {i : Int} (hx : double.read x = .number false m i) (h : 4503599627370496 ≤ m) (h' : m < 9007199254740992) :
    ∃ (W : Nat) (k : Nat), (k : Int) = 56 + ((i - 56) % 2) ∧ 2 ^ 55 ≤ W ∧ W < 2 ^ 56 ∧ sq x = double.nearest false W ((i - k) / 2 - 1) ∧ ∀ y j, double.read y = .number false m j → (j - i) % 2 = 0 → sq y = double.nearest false W ((j - k) / 2 - 1) := by
  have fb : double.fractionBits + 2 = 54 := by decide +kernel
  have lm := log2_52 h h'
  have gen : ∀ y j, double.read y = .number false m j → Ieee.double.sqrt y = some (double.nearest false (2 * Datum.rootFrom (m <<< (56 + ((j - (56 : Nat)) % 2).toNat)) ((m <<< (56 + ((j - (56 : Nat)) % 2).toNat)).log2 / 2 + 1) 0 + (Datum.rootFrom (m <<< (56 + ((j - (56 : Nat)) % 2).toNat)) ((m <<< (56 + ((j - (56 : Nat)) % 2).toNat)).log2 / 2 + 1) 0 * Datum.rootFrom (m <<< (56 + ((j - (56 : Nat)) % 2).toNat)) ((m <<< (56 + ((j - (56 : Nat)) % 2).toNat)).log2 / 2 + 1) 0 != m <<< (56 + ((j - (56 : Nat)) % 2).toNat)).toNat) ((j - (56 + ((j - (56 : Nat)) % 2).toNat : Nat)) / 2 - 1)) := fun y j hy => by
    show ((double.read y).root (double.fractionBits + 2)).map double.write = _
    rw [hy, fb]
    simp only [Datum.root, if_neg (show ¬ m = 0 by omega), lm, Bool.false_eq_true, if_false, Option.map_some]
    rfl
  obtain ⟨k, hk⟩ : ∃ k : Nat, k = 56 + ((i - (56 : Nat)) % 2).toNat := ⟨_, rfl⟩
  have k2 : k = 56 ∨ k = 57 := by omega
  have sqs : ∀ y j, double.read y = .number false m j → (j - i) % 2 = 0 → sq y = double.nearest false (2 * Datum.rootFrom (m <<< k) ((m <<< k).log2 / 2 + 1) 0 + (Datum.rootFrom (m <<< k) ((m <<< k).log2 / 2 + 1) 0 * Datum.rootFrom (m <<< k) ((m <<< k).log2 / 2 + 1) 0 != m <<< k).toNat) ((j - (k : Nat)) / 2 - 1) := fun y j hy hp => by
    have g := gen y j hy
    have e : 56 + ((j - (56 : Nat)) % 2).toNat = k := by omega
    rw [e] at g
    unfold sq
    rw [g]
    exact cn_notN (near_num _ _ _)
  have lg : (m <<< k).log2 / 2 + 1 = 55 := by
    rw [log2_shl m k (by omega), lm]
    omega
  rw [lg] at sqs
  have big : (0 + 1 <<< 54) * (0 + 1 <<< 54) ≤ m <<< k := by
    rw [Nat.shiftLeft_eq, Nat.shiftLeft_eq]
    have h1 : 4503599627370496 * 2 ^ 56 ≤ m * 2 ^ k := Nat.mul_le_mul h (Nat.pow_le_pow_right (by decide) (by omega))
    have h2 : (0 + 1 * 2 ^ 54) * (0 + 1 * 2 ^ 54) = 4503599627370496 * 2 ^ 56 := by decide
    omega
  have step : Datum.rootFrom (m <<< k) 55 0 = Datum.rootFrom (m <<< k) 54 (0 + 1 <<< 54) := by
    have e : Datum.rootFrom (m <<< k) 55 0 = Datum.rootFrom (m <<< k) 54 (if (0 + 1 <<< 54) * (0 + 1 <<< 54) ≤ m <<< k then 0 + 1 <<< 54 else 0) := rfl
    rw [e, if_pos big]
  have rb := rootFrom_bd (m <<< k) 54 (0 + 1 <<< 54)
  rw [← step] at rb
  have e54 : (0 + 1 <<< 54 : Nat) = 2 ^ 54 := by decide
  rw [e54] at rb
  have tb : (Datum.rootFrom (m <<< k) 55 0 * Datum.rootFrom (m <<< k) 55 0 != m <<< k).toNat ≤ 1 := by cases (Datum.rootFrom (m <<< k) 55 0 * Datum.rootFrom (m <<< k) 55 0 != m <<< k) <;> decide
  refine ⟨2 * Datum.rootFrom (m <<< k) 55 0 + (Datum.rootFrom (m <<< k) 55 0 * Datum.rootFrom (m <<< k) 55 0 != m <<< k).toNat, k, by omega, by omega, by omega, sqs x i hx (by omega), sqs⟩
theorem Sc.sqrt {e lo hi : Int} {x x' : Nat} (hx : Sc (e + e) lo hi x x') (h0 : flt x 0 = false) (he : -20 ≤ e ∧ e ≤ 20) (h1 : -1050 ≤ (lo - 57) / 2 + 2) (h2 : (hi - 56) / 2 + 3 ≤ 850) : Sc e ((lo - 57) / 2 + 2) ((hi - 56) / 2 + 3) (sq x) (sq x') := by
  rcases hx with ⟨s, a1, a2⟩ | ⟨s, m, i, a1, a2, a3, a4, a5, a6⟩
  · have fb : double.fractionBits + 2 = 54 := by decide +kernel
    have g : ∀ y, double.read y = .number s 0 (-1074) → sq y = double.nearest s 0 (-1074) := fun y hy => by
      have e : Ieee.double.sqrt y = some (double.nearest s 0 (-1074)) := by
        show ((double.read y).root (double.fractionBits + 2)).map double.write = _
        rw [hy]; rfl
      unfold sq; rw [e]; exact cn_notN (near_num _ _ _)
    rw [g x a1, g x' a2, near_0]
    exact .inl ⟨s, read_zero s, read_zero s⟩
  · have hs : s = false := by
      cases s
      · rfl
      · exfalso
        rw [flt_V ⟨_, _, _, a5⟩ Fin_0, V_0, V_of a5, decide_eq_false_iff_not] at h0
        unfold signed at h0
        rw [if_pos rfl, Nat.shiftLeft_eq] at h0
        have := Nat.mul_pos (show 0 < m by omega) (Nat.two_pow_pos (i + 1074).toNat)
        omega
    subst hs
    obtain ⟨W, k, hk, w1, w2, q1, q2⟩ := root_read a5 a1 a2
    rw [q1, q2 x' (i + (e + e)) a6 (by omega), show (i + (e + e) - (k : Int)) / 2 - 1 = (i - (k : Int)) / 2 - 1 + e by omega]
    refine Sc.mk he (fun hz => ?_) h1 h2
    have h5 := (Nat.le_log2 hz).2 w1
    have h6 := (Nat.log2_lt hz).2 w2
    omega
theorem fop_add {x y : Nat} {s t : Bool} {m n : Nat} {i j : Int} (hx : double.read x = .number s m i) (hy : double.read y = .number t n j) :
    fop .add x y = some (double.nearest (if signed s m (i - min i j).toNat + signed t n (j - min i j).toNat = 0 then s && t else decide (signed s m (i - min i j).toNat + signed t n (j - min i j).toNat < 0)) (signed s m (i - min i j).toNat + signed t n (j - min i j).toNat).natAbs (min i j)) := by
  show ((double.read x).sum (double.read y)).map double.write = _
  rw [hx, hy]; rfl
theorem signed_ne {s : Bool} {m k : Nat} (h : 0 < m) : signed s m k ≠ 0 ∧ decide (signed s m k < 0) = s ∧ (signed s m k).natAbs = m <<< k := by
  have hp := Nat.mul_pos h (Nat.two_pow_pos k)
  unfold signed
  rw [Nat.shiftLeft_eq]
  cases s
  · rw [if_neg (by decide)]
    exact ⟨by omega, decide_eq_false (by omega), by omega⟩
  · rw [if_pos rfl]
    exact ⟨by omega, decide_eq_true (by omega), by omega⟩
theorem add_0l {x y : Nat} {s t : Bool} {n : Nat} {j : Int} (hx : double.read x = .number s 0 (-1074)) (hy : double.read y = .number t n j) (hn : 0 < n) (hj : -1074 ≤ j) : F .add x y = double.nearest t n j := by
  have h := fop_add hx hy
  have hb : min (-1074) j = -1074 := by omega
  rw [hb, signed_0, Int.zero_add] at h
  obtain ⟨a, b, c⟩ := signed_ne (s := t) (k := (j - -1074).toNat) hn
  rw [if_neg a, b, c] at h
  rw [F_near h, near_shift]
  congr 1
  omega
theorem add_0r {x y : Nat} {s t : Bool} {n : Nat} {j : Int} (hx : double.read x = .number s 0 (-1074)) (hy : double.read y = .number t n j) (hn : 0 < n) (hj : -1074 ≤ j) : F .add y x = double.nearest t n j := by
  rw [F_add_comm]; exact add_0l hx hy hn hj
theorem sum_lt {s t : Bool} {m n a b D : Nat} (hm : m < 9007199254740992) (hn : n < 9007199254740992) (ha : a ≤ D) (hb : b ≤ D) : (signed s m a + signed t n b).natAbs < 2 ^ (54 + D) := by
  have h1 : (signed s m a).natAbs = m * 2 ^ a := by rw [signed_abs, Nat.shiftLeft_eq]
  have h2 : (signed t n b).natAbs = n * 2 ^ b := by rw [signed_abs, Nat.shiftLeft_eq]
  have p1 := Nat.pow_le_pow_right (n := 2) (by decide) ha
  have p2 := Nat.pow_le_pow_right (n := 2) (by decide) hb
  have q1 : m * 2 ^ a ≤ 9007199254740991 * 2 ^ D := Nat.mul_le_mul (by omega) p1
  have q2 : n * 2 ^ b ≤ 9007199254740991 * 2 ^ D := Nat.mul_le_mul (by omega) p2
  have e : 2 ^ (54 + D) = 18014398509481984 * 2 ^ D := by rw [Nat.pow_add]
  have pd := Nat.two_pow_pos D
  omega
theorem Sc.add {e lo hi lo' hi' : Int} {x x' y y' : Nat} (hx : Sc e lo hi x x') (hy : Sc e lo' hi' y y') (he : -20 ≤ e ∧ e ≤ 20) (l1 : -1050 ≤ lo) (l2 : -1050 ≤ lo') (h1 : -1050 ≤ min lo lo' - 52) (h2 : max hi hi' + 2 ≤ 850) : Sc e (min lo lo' - 52) (max hi hi' + 2) (F .add x y) (F .add x' y') := by
  rcases hx with ⟨s, a1, a2⟩ | ⟨s, m, i, a1, a2, a3, a4, a5, a6⟩ <;> rcases hy with ⟨t, b1, b2⟩ | ⟨t, n, j, b1, b2, b3, b4, b5, b6⟩
  · have z : ∀ u v, double.read u = .number s 0 (-1074) → double.read v = .number t 0 (-1074) → F .add u v = double.word (s && t) 0 := fun u v hu hv => by
      have h := fop_add hu hv
      rw [signed_0, signed_0, Int.add_zero, if_pos rfl] at h
      rw [F_near h]
      exact near_0 _ _
    rw [z _ _ a1 b1, z _ _ a2 b2]
    exact .inl ⟨_, read_zero _, read_zero _⟩
  · rw [add_0l a1 b5 (by omega) (by omega), add_0l a2 b6 (by omega) (by omega)]
    have ln := log2_52 b1 b2
    exact Sc.mk he (fun h0 => by rw [ln]; omega) h1 h2
  · rw [add_0r b1 a5 (by omega) (by omega), add_0r b2 a6 (by omega) (by omega)]
    have lm := log2_52 a1 a2
    exact Sc.mk he (fun h0 => by rw [lm]; omega) h1 h2
  · have h := fop_add a5 b5
    have h' := fop_add a6 b6
    have eb : min (i + e) (j + e) = min i j + e := by omega
    have e1 : i + e - (min i j + e) = i - min i j := by omega
    have e2 : j + e - (min i j + e) = j - min i j := by omega
    rw [eb, e1, e2] at h'
    rw [F_near h, F_near h']
    have sl := sum_lt (s := s) (t := t) (a := (i - min i j).toNat) (b := (j - min i j).toNat) (D := (max i j - min i j).toNat) a2 b2 (by omega) (by omega)
    generalize (signed s m (i - min i j).toNat + signed t n (j - min i j).toNat).natAbs = M at *
    refine Sc.mk he (fun h0 => ?_) h1 h2
    have h6 := (Nat.log2_lt h0).2 sl
    omega
theorem read_fneg {x : Nat} {s : Bool} {m : Nat} {i : Int} (h : double.read x = .number s m i) : double.read (fneg x) = .number (!s) m i := by
  have hm : fneg x % 9223372036854775808 = x % 9223372036854775808 := fneg_mod x
  have hd : fneg x / 9223372036854775808 % 2 = 1 - x / 9223372036854775808 % 2 := by
    have e : fneg x / 2 ^ 63 = x / 2 ^ 63 ^^^ 1 := by
      show (x ^^^ 2 ^ 63) / 2 ^ 63 = _
      rw [Nat.xor_div_two_pow, Nat.div_self (by decide)]
    rw [show (9223372036854775808 : Nat) = 2 ^ 63 by decide, e, show (2 : Nat) = 2 ^ 1 by decide, Nat.xor_mod_two_pow]
    have : x / (2 ^ 1) ^ 63 % 2 ^ 1 = 0 ∨ x / (2 ^ 1) ^ 63 % 2 ^ 1 = 1 := by omega
    rcases this with h | h <;> rw [h] <;> rfl
  have hs : (fneg x / 9223372036854775808 % 2 == 1) = !(x / 9223372036854775808 % 2 == 1) := by
    rw [hd]
    have : x / 9223372036854775808 % 2 = 0 ∨ x / 9223372036854775808 % 2 = 1 := by omega
    rcases this with h | h <;> rw [h] <;> rfl
  have w : double.signWeight = 9223372036854775808 := by decide +kernel
  unfold Format.read at h ⊢
  simp only [w, hm, hs] at h ⊢
  split at h
  · rename_i c
    rw [if_pos c]
    injection h with h1 h2 h3
    rw [h1, h2, h3]
  · rename_i c
    rw [if_neg c]
    split at h
    · rename_i c2
      rw [if_pos c2]
      injection h with h1 h2 h3
      rw [h1, h2, h3]
    · rename_i c2
      rw [if_neg c2]
      split at h <;> cases h
theorem Sc.fneg {e lo hi : Int} {x x' : Nat} (h : Sc e lo hi x x') : Sc e lo hi (fneg x) (fneg x') := by
  rcases h with ⟨s, a, b⟩ | ⟨s, m, i, a1, a2, a3, a4, a5, a6⟩
  · exact .inl ⟨_, read_fneg a, read_fneg b⟩
  · exact .inr ⟨_, m, i, a1, a2, a3, a4, read_fneg a5, read_fneg a6⟩
theorem Fneg_eq {x : Nat} (h : Flt.Fin x) : Fneg x = fneg x := by unfold Fneg; exact cn_notN (by rw [isN_fneg]; exact h.notN)
theorem Sc.neg {e lo hi : Int} {x x' : Nat} (h : Sc e lo hi x x') : Sc e lo hi (Fneg x) (Fneg x') := by
  rw [Fneg_eq h.fin.1, Fneg_eq h.fin.2]; exact h.fneg
theorem sub_add {x y : Nat} (h : Flt.Fin y) : F .sub x y = F .add x (fneg y) := by
  obtain ⟨s, m, i, e⟩ := h
  have : fop .sub x y = fop .add x (fneg y) := by
    show ((double.read x).sum (double.read y).opposite).map double.write = ((double.read x).sum (double.read (fneg y))).map double.write
    rw [e, read_fneg e]; rfl
  unfold F; rw [this]
theorem Sc.sub {e lo hi lo' hi' : Int} {x x' y y' : Nat} (hx : Sc e lo hi x x') (hy : Sc e lo' hi' y y') (he : -20 ≤ e ∧ e ≤ 20) (l1 : -1050 ≤ lo) (l2 : -1050 ≤ lo') (h1 : -1050 ≤ min lo lo' - 52) (h2 : max hi hi' + 2 ≤ 850) : Sc e (min lo lo' - 52) (max hi hi' + 2) (F .sub x y) (F .sub x' y') := by
  rw [sub_add hy.fin.1, sub_add hy.fin.2]
  exact hx.add hy.fneg he l1 l2 h1 h2
/-- What both stand for, so many places apart. -/
theorem Sc.V {e lo hi : Int} {x x' : Nat} (h : Sc e lo hi x x') (he : -20 ≤ e ∧ e ≤ 20) (hl : -1050 ≤ lo) : Flt.V x' * (2 ^ 20 : Nat) = Flt.V x * (2 ^ (20 + e).toNat : Nat) := by
  rcases h with ⟨s, a, b⟩ | ⟨s, m, i, a1, a2, a3, a4, a5, a6⟩
  · rw [V_of a, V_of b, signed_0, Int.zero_mul, Int.zero_mul]
  · rw [V_of a5, V_of a6, ← signed_add, ← signed_add]
    congr 1
    omega
theorem cmp_sc {a a' b b' : Int} {p q : Nat} (hp : 0 < p) (hq : 0 < q) (h1 : a' * p = a * q) (h2 : b' * p = b * q) : (a' < b' ↔ a < b) ∧ (a' = b' ↔ a = b) := by
  have P : (0 : Int) < p := by omega
  have Q : (0 : Int) < q := by omega
  constructor
  · rw [← Int.mul_lt_mul_right P, h1, h2, Int.mul_lt_mul_right Q]
  · constructor
    · intro h
      have : a * q = b * q := by rw [← h1, ← h2, h]
      exact Int.eq_of_mul_eq_mul_right (by omega) this
    · intro h
      have : a' * p = b' * p := by rw [h1, h2, h]
      exact Int.eq_of_mul_eq_mul_right (by omega) this
theorem Sc.cmp {e lo hi lo' hi' : Int} {x x' y y' : Nat} (hx : Sc e lo hi x x') (hy : Sc e lo' hi' y y') (he : -20 ≤ e ∧ e ≤ 20) (l1 : -1050 ≤ lo) (l2 : -1050 ≤ lo') : flt x' y' = flt x y ∧ feq x' y' = feq x y ∧ fgt x' y' = fgt x y := by
  have h := cmp_sc (Nat.two_pow_pos 20) (Nat.two_pow_pos (20 + e).toNat) (hx.V he l1) (hy.V he l2)
  have h' := cmp_sc (Nat.two_pow_pos 20) (Nat.two_pow_pos (20 + e).toNat) (hy.V he l2) (hx.V he l1)
  rw [fgt_flt, fgt_flt, flt_V hx.fin.2 hy.fin.2, flt_V hx.fin.1 hy.fin.1, feq_V hx.fin.2 hy.fin.2, feq_V hx.fin.1 hy.fin.1, flt_V hy.fin.2 hx.fin.2, flt_V hy.fin.1 hx.fin.1]
  exact ⟨decide_eq_decide.2 h.1, decide_eq_decide.2 h.2, decide_eq_decide.2 h'.1⟩
theorem sc_0 (e : Int) : Sc e 0 0 0 0 := .inl ⟨false, by decide +kernel, by decide +kernel⟩
theorem Sc.zero {e lo hi : Int} {x x' : Nat} (hx : Sc e lo hi x x') (he : -20 ≤ e ∧ e ≤ 20) (l1 : -1050 ≤ lo) : flt x' 0 = flt x 0 ∧ feq x' 0 = feq x 0 ∧ fgt x' 0 = fgt x 0 := hx.cmp (sc_0 e) he l1 (by decide)
theorem Sc.less {e lo hi lo' hi' : Int} {x x' y y' : Nat} (hx : Sc e lo hi x x') (hy : Sc e lo' hi' y y') (he : -20 ≤ e ∧ e ≤ 20) (l1 : -1050 ≤ lo) (l2 : -1050 ≤ lo') : Sc e (min lo lo') (max hi hi') (lessV x y) (lessV x' y') := by
  unfold lessV
  rw [(hy.cmp hx he l2 l1).1]
  cases flt y x
  · exact hx.wk (by omega) (by omega)
  · exact hy.wk (by omega) (by omega)
theorem Sc.more {e lo hi lo' hi' : Int} {x x' y y' : Nat} (hx : Sc e lo hi x x') (hy : Sc e lo' hi' y y') (he : -20 ≤ e ∧ e ≤ 20) (l1 : -1050 ≤ lo) (l2 : -1050 ≤ lo') : Sc e (min lo lo') (max hi hi') (moreV x y) (moreV x' y') := by
  unfold moreV
  rw [(hy.cmp hx he l2 l1).2.2]
  cases fgt y x
  · exact hx.wk (by omega) (by omega)
  · exact hy.wk (by omega) (by omega)
/-- Quotients of two that go along are the same. -/
theorem Sc.quo_eq {e lo hi lo' hi' : Int} {x x' y y' : Nat} (hx : Sc e lo hi x x') (hy : Sc e lo' hi' y y') (h0 : feq y 0 = false) : F .quo x y = F .quo x' y' := by
  rcases hy with ⟨t, b1, b2⟩ | ⟨t, n, j, b1, b2, b3, b4, b5, b6⟩
  · exfalso
    rw [feq_V ⟨_, _, _, b1⟩ Fin_0, V_0, V_of b1, signed_0] at h0
    exact absurd h0 (by decide)
  have hn : n ≠ 0 := by omega
  rcases hx with ⟨s, a1, a2⟩ | ⟨s, m, i, a1, a2, a3, a4, a5, a6⟩
  · have z : (2 * ((0 <<< (54 + n.log2 - (0 : Nat).log2)) / n) + ((0 <<< (54 + n.log2 - (0 : Nat).log2)) % n != 0).toNat) = 0 := by simp
    rw [F_near (fop_quo a1 b5 hn), F_near (fop_quo a2 b6 hn), z, near_0, near_0]
  · rw [F_near (fop_quo a5 b5 hn), F_near (fop_quo a6 b6 hn), show i + e - (j + e) = i - j by omega]
theorem near_id {s : Bool} {m : Nat} {i : Int} (h : 4503599627370496 ≤ m) (h' : m < 9007199254740992) (h1 : -1060 ≤ i) (h2 : i ≤ 860) : double.read (double.nearest s m i) = .number s m i := by
  have lm := log2_52 h h'
  rw [nearest_eq s m i (by omega), lm]
  have hq : max (i + ((52 : Nat) : Int) - 52) (-1074) = i := by omega
  rw [hq, show (i - i).toNat = 0 by omega, Nat.shiftLeft_zero, cut_even, Nat.pow_zero]
  have hr : rhe m 1 = m := by unfold rhe; rw [Nat.mod_one, Nat.div_one]; simp
  rw [hr]
  obtain ⟨Q, hQ⟩ : ∃ Q : Nat, (Q : Int) = i + 1074 := ⟨(i + 1074).toNat, by omega⟩
  rw [show (i + 1074).toNat = Q by omega, Nat.min_eq_left (by omega)]
  exact read_low h h' (by omega) (by omega)
theorem fop_pow {a k : Nat} {s : Bool} {m : Nat} {i j : Int} (ha : double.read a = .number s m i) (hk : double.read k = .number false 4503599627370496 j) : F .mul a k = double.nearest s m (i + j + 52) := by
  have h := fop_mul ha hk
  have e : m * 4503599627370496 = m <<< 52 := by rw [Nat.shiftLeft_eq]
  rw [e, near_shift, Bool.xor_false] at h
  exact F_near h
/-- A number times a power of two. -/
theorem Sc.pow {lo hi j : Int} {a k : Nat} (h : Sc 0 lo hi a a) (hk : double.read k = .number false 4503599627370496 j) (hj : -72 ≤ j ∧ j ≤ -32) (l1 : -1000 ≤ lo) (l2 : hi ≤ 800) : Sc (j + 52) lo hi a (F .mul a k) := by
  rcases h with ⟨s, b1, b2⟩ | ⟨s, m, i, b1, b2, b3, b4, b5, b6⟩
  · rw [fop_pow b1 hk, near_0]
    exact .inl ⟨s, b1, read_zero s⟩
  · refine .inr ⟨s, m, i, b1, b2, b3, b4, b5, ?_⟩
    rw [fop_pow b5 hk, near_id b1 b2 (by omega) (by omega)]
    congr 1
    omega
end Flt
end Go.Proofs.YtdjckabogdohcaaGreat
