/- Meets. -/
import Derived.Test.YtdjckabogdohcaaGreatSlabC
import Derived.Test.YtdjckabogdohcaaGreatShapeC
import Derived.Test.YtdjckabogdohcaaGreatEdgeC
import Derived.Test.YtdjckabogdohcaaGreatFltBd
namespace Go.Proofs.YtdjckabogdohcaaGreat
open Go.RowKit Ev
set_option linter.unusedVariables false
set_option linter.unusedSimpArgs false
set_option maxRecDepth 20000
set_option maxHeartbeats 4000000

def cutA (lo fr d : Nat) : Nat := F .quo (F .sub lo fr) d
def cutN (n lo hi fr d : Nat) : Nat := bif feq d 0 then n else bif flt d 0 then moreV n (cutA hi fr d) else moreV n (cutA lo fr d)
def cutF (f lo hi fr d : Nat) : Nat := bif feq d 0 then f else bif flt d 0 then lessV f (cutA lo fr d) else lessV f (cutA hi fr d)
def cutO (o : Bool) (lo hi fr d : Nat) : Bool := bif feq d 0 then o && ((flt lo fr || feq lo fr) && (flt fr hi || feq fr hi)) else o
theorem cut_f : FnOk Tryz.prog 52 Tryz.f52 := ⟨Tryz.func52, by kernel_rfl⟩
theorem cut_a (n f : Nat) (o : Bool) (lo hi fr d : Nat) : MCalls Tryz.prog 52 ([.own 0 0, .flt lo, .flt hi, .flt fr, .flt d]) [.row [.flt n, .flt f, .bool o]] (.tup []) [.row [.flt (cutN n lo hi fr d), .flt (cutF f lo hi fr d), .bool (cutO o lo hi fr d)]] := by
  refine mcalls_of (inl := hasI (P := Tryz.prog) [] []) (base [] [] []) 0 cut_f (And.intro (by kernel_rfl) ?_)
  repeat' (first | refine And.intro ?_ ?_ | (with_reducible exact ff_elim) | (with_reducible exact tf_elim) | intro _ | (with_reducible rfl) | ((with_reducible refine lk_t ?_); exact rfl) | ((with_reducible refine pf_t ?_); exact rfl) | refine tell ?_ | exact True.intro | (refine IsT.of ?_; kernel_rfl))
  all_goals ((try refine Tell.mk ?_); first | with_reducible rfl | ((show (_ : Int) ≤ _); decide) | ((show (_ : Int) < _); decide) | (with_reducible refine gb_t ?_; with_reducible assumption) | with_reducible assumption | (with_reducible refine gb_f ?_; with_reducible assumption) | (simp only [cutN, cutF, cutO, cutA, moreV, lessV, *, cond_true, cond_false]; done) | ((with_reducible refine ks_t ?_); rfl) | ((with_reducible refine pk_t ?_); rfl) | ((with_reducible refine pf_t ?_); rfl) | ((with_reducible refine lk_t ?_); rfl) | ((with_reducible refine okF_t ?_); kernel_rfl) | grind [gb, cutN, cutF, cutO, cutA, moreV, lessV])
def cut_m : MCon Tryz.prog := ⟨52, fun args own => match args with | [.own k_ 0, .flt lo, .flt hi, .flt fr, .flt d] => (match own k_ with | .row [.flt n, .flt f, .bool o] => .ok [k_] ([.own 0 0, .flt lo, .flt hi, .flt fr, .flt d]) [.row [.flt n, .flt f, .bool o]] none (.tup []) [.row [.flt (cutN n lo hi fr d), .flt (cutF f lo hi fr d), .bool (cutO o lo hi fr d)]] | _ => .no) | _ => .no, by
  intro args own ks cargs rows p r rows2 h hp
  split at h
  · split at h
    · cases h; exact cut_a _ _ _ _ _ _ _
    · cases h
  · cases h⟩
end Go.Proofs.YtdjckabogdohcaaGreat
/- Meets. -/
namespace Go.Proofs.YtdjckabogdohcaaGreat
open Go.RowKit Ev
set_option linter.unusedVariables false
set_option linter.unusedSimpArgs false
set_option maxRecDepth 20000
set_option maxHeartbeats 4000000

def meetN (a b c d e f p q r u v w l : Nat) : Nat := cutN (cutN (cutN l a d p u) b e q v) c f r w
def meetF (a b c d e f p q r u v w : Nat) : Nat := cutF (cutF (cutF 4786511204640096256 a d p u) b e q v) c f r w
def meetO (a b c d e f p q r u v w : Nat) : Bool := cutO (cutO (cutO true a d p u) b e q v) c f r w
def meetC (a b c d e f p q r u v w l : Nat) : Bool := (mayV a b c d e f != 0) || (rayV p q r u v w l != 0)
def meetD (a b c d e f p q r u v w l : Nat) : Bool := !(meetO a b c d e f p q r u v w) || fgt (meetN a b c d e f p q r u v w l) (meetF a b c d e f p q r u v w)
def meetB (a b c d e f p q r u v w l : Nat) : Bool := bif meetC a b c d e f p q r u v w l then false else bif meetD a b c d e f p q r u v w l then false else true
def meetX (a b c d e f p q r u v w l : Nat) : Nat := bif meetC a b c d e f p q r u v w l then 0 else bif meetD a b c d e f p q r u v w l then 0 else meetN a b c d e f p q r u v w l
def meetY (a b c d e f p q r u v w l : Nat) : Nat := bif meetC a b c d e f p q r u v w l then 0 else bif meetD a b c d e f p q r u v w l then 0 else meetF a b c d e f p q r u v w
theorem meets_f : FnOk Tryz.prog 21 Tryz.f21 := ⟨Tryz.func21, by kernel_rfl⟩
theorem meets_a (a b c d e f p q r u v w l : Nat) : ACalls Tryz.prog 21 [.agg [.flt a, .flt b, .flt c, .flt d, .flt e, .flt f], .agg [.flt p, .flt q, .flt r, .flt u, .flt v, .flt w, .flt l]] (.tup [.flt (meetX a b c d e f p q r u v w l), .flt (meetY a b c d e f p q r u v w l), .bool (meetB a b c d e f p q r u v w l)]) := by
  refine acalls_of (inl := hasI (P := Tryz.prog) [] [cut_m]) (base [may_k, rayfine_k] [] [cut_m]) 0 meets_f (And.intro (by kernel_rfl) ?_)
  repeat' (first | refine And.intro ?_ ?_ | (with_reducible exact ff_elim) | (with_reducible exact tf_elim) | intro _ | (with_reducible rfl) | ((with_reducible refine lk_t ?_); exact rfl) | ((with_reducible refine pf_t ?_); exact rfl) | refine tell ?_ | exact True.intro | (refine IsT.of ?_; kernel_rfl))
  all_goals ((try refine Tell.mk ?_); first | with_reducible rfl | ((show (_ : Int) ≤ _); decide) | ((show (_ : Int) < _); decide) | (with_reducible refine gb_t ?_; with_reducible assumption) | with_reducible assumption | (with_reducible refine gb_f ?_; with_reducible assumption) | (simp only [meetX, meetY, meetB, meetC, meetD, meetN, meetF, meetO, *, cond_true, cond_false]; done) | ((with_reducible refine ks_t ?_); rfl) | ((with_reducible refine pk_t ?_); rfl) | ((with_reducible refine pf_t ?_); rfl) | ((with_reducible refine lk_t ?_); rfl) | ((with_reducible refine okF_t ?_); kernel_rfl) | grind [gb, meetX, meetY, meetB, meetC, meetD, meetN, meetF, meetO])
def meets_k : Con Tryz.prog := ⟨21, fun args => match args with | [.agg [.flt a, .flt b, .flt c, .flt d, .flt e, .flt f], .agg [.flt p, .flt q, .flt r, .flt u, .flt v, .flt w, .flt l]] => .ok (none) (.tup [.flt (meetX a b c d e f p q r u v w l), .flt (meetY a b c d e f p q r u v w l), .bool (meetB a b c d e f p q r u v w l)]) | _ => .no, by
  intro args p r h hp
  split at h
  · cases h; exact meets_a _ _ _ _ _ _ _ _ _ _ _ _ _
  · cases h⟩
end Go.Proofs.YtdjckabogdohcaaGreat
/- What rays strike, kind by kind. -/
namespace Go.Proofs.YtdjckabogdohcaaGreat
open Go.RowKit Ev
set_option linter.unusedVariables false
set_option linter.unusedSimpArgs false
set_option maxRecDepth 20000
set_option maxHeartbeats 4000000

/-- From where to where a ray is no farther than so far from a point. -/
def abE (x y z u v w r : Nat) : Nat := F .sub (F .mul (dotV x y z u v w) (dotV x y z u v w)) (F .mul (dotV u v w u v w) (F .sub (dotV x y z x y z) (F .mul r r)))
def abO (x y z u v w r : Nat) : Bool := fgt (abE x y z u v w r) 0 || feq (abE x y z u v w r) 0
def abI (x y z u v w r : Nat) : Nat := bif abO x y z u v w r then F .quo (F .sub (Fneg (dotV x y z u v w)) (sq (abE x y z u v w r))) (dotV u v w u v w) else 0
def abU (x y z u v w r : Nat) : Nat := bif abO x y z u v w r then F .quo (F .add (Fneg (dotV x y z u v w)) (sq (abE x y z u v w r))) (dotV u v w u v w) else 0
theorem abt_f : FnOk Tryz.prog 166 Tryz.f166 := ⟨Tryz.func166, by kernel_rfl⟩
theorem abt_a (x y z u v w r : Nat) : ACalls Tryz.prog 166 [.agg [.flt x, .flt y, .flt z], .agg [.flt u, .flt v, .flt w], .flt r] (.tup [.flt (abI x y z u v w r), .flt (abU x y z u v w r), .bool (abO x y z u v w r)]) := by
  refine acalls_of (inl := hasI (P := Tryz.prog) [] []) (base [dot_k, sqrt_k] [] []) 0 abt_f (And.intro (by kernel_rfl) ?_)
  repeat' (first | refine And.intro ?_ ?_ | (with_reducible exact ff_elim) | (with_reducible exact tf_elim) | intro _ | (with_reducible rfl) | ((with_reducible refine lk_t ?_); exact rfl) | ((with_reducible refine pf_t ?_); exact rfl) | refine tell ?_ | exact True.intro | (refine IsT.of ?_; kernel_rfl))
  all_goals ((try refine Tell.mk ?_); first | with_reducible rfl | ((show (_ : Int) ≤ _); decide) | ((show (_ : Int) < _); decide) | (with_reducible refine gb_t ?_; with_reducible assumption) | with_reducible assumption | (with_reducible refine gb_f ?_; with_reducible assumption) | (simp only [abI, abU, abO, abE, *, cond_true, cond_false]; done) | ((with_reducible refine ks_t ?_); rfl) | ((with_reducible refine pk_t ?_); rfl) | ((with_reducible refine pf_t ?_); rfl) | ((with_reducible refine lk_t ?_); rfl) | ((with_reducible refine okF_t ?_); kernel_rfl) | grind [gb, abI, abU, abO, abE])
def abt_k : Con Tryz.prog := ⟨166, fun args => match args with | [.agg [.flt x, .flt y, .flt z], .agg [.flt u, .flt v, .flt w], .flt r] => .ok (none) (.tup [.flt (abI x y z u v w r), .flt (abU x y z u v w r), .bool (abO x y z u v w r)]) | _ => .no, by
  intro args p r h hp
  split at h
  · cases h; exact abt_a _ _ _ _ _ _ _
  · cases h⟩
theorem ballW_f : FnOk Tryz.prog 165 Tryz.f165 := ⟨Tryz.func165, by kernel_rfl⟩
theorem ballW_a (a b c r x y z u v w l n m : Nat) : ACalls Tryz.prog 165 [.agg [.flt a, .flt b, .flt c, .flt r], .agg [.flt x, .flt y, .flt z, .flt u, .flt v, .flt w, .flt l], .flt n, .flt m] (.tup [.flt (abI (F .sub x a) (F .sub y b) (F .sub z c) u v w r), .flt (abU (F .sub x a) (F .sub y b) (F .sub z c) u v w r), .bool (abO (F .sub x a) (F .sub y b) (F .sub z c) u v w r)]) := by
  refine acalls_of (inl := hasI (P := Tryz.prog) [] []) (base [sub_k, abt_k] [] []) 0 ballW_f (And.intro (by kernel_rfl) ?_)
  repeat' (first | refine And.intro ?_ ?_ | (with_reducible exact ff_elim) | (with_reducible exact tf_elim) | intro _ | (with_reducible rfl) | ((with_reducible refine lk_t ?_); exact rfl) | ((with_reducible refine pf_t ?_); exact rfl) | refine tell ?_ | exact True.intro | (refine IsT.of ?_; kernel_rfl))
  all_goals ((try refine Tell.mk ?_); first | with_reducible rfl | ((show (_ : Int) ≤ _); decide) | ((show (_ : Int) < _); decide) | (with_reducible refine gb_t ?_; with_reducible assumption) | with_reducible assumption | (with_reducible refine gb_f ?_; with_reducible assumption) | (simp only [gb, *, cond_true, cond_false]; done) | ((with_reducible refine ks_t ?_); rfl) | ((with_reducible refine pk_t ?_); rfl) | ((with_reducible refine pf_t ?_); rfl) | ((with_reducible refine lk_t ?_); rfl) | ((with_reducible refine okF_t ?_); kernel_rfl) | grind [gb])
def ballW_k : Con Tryz.prog := ⟨165, fun args => match args with | [.agg [.flt a, .flt b, .flt c, .flt r], .agg [.flt x, .flt y, .flt z, .flt u, .flt v, .flt w, .flt l], .flt n, .flt m] => .ok (none) (.tup [.flt (abI (F .sub x a) (F .sub y b) (F .sub z c) u v w r), .flt (abU (F .sub x a) (F .sub y b) (F .sub z c) u v w r), .bool (abO (F .sub x a) (F .sub y b) (F .sub z c) u v w r)]) | _ => .no, by
  intro args p r h hp
  split at h
  · cases h; exact ballW_a _ _ _ _ _ _ _ _ _ _ _ _ _
  · cases h⟩
def orI (x y z u v w r l : Nat) : Nat := bif fgt (abI x y z u v w r) l || feq (abI x y z u v w r) l then abI x y z u v w r else abU x y z u v w r
theorem ballS_f : FnOk Tryz.prog 163 Tryz.f163 := ⟨Tryz.func163, by kernel_rfl⟩
theorem ballS_a (a b c r x y z u v w l n m : Nat) : ACalls Tryz.prog 163 [.agg [.flt a, .flt b, .flt c, .flt r], .agg [.flt x, .flt y, .flt z, .flt u, .flt v, .flt w, .flt l], .flt n, .flt m] (.tup [.flt (orI (F .sub x a) (F .sub y b) (F .sub z c) u v w r l), .bool (abO (F .sub x a) (F .sub y b) (F .sub z c) u v w r)]) := by
  refine acalls_of (inl := hasI (P := Tryz.prog) [] []) (base [ballW_k] [] []) 0 ballS_f (And.intro (by kernel_rfl) ?_)
  repeat' (first | refine And.intro ?_ ?_ | (with_reducible exact ff_elim) | (with_reducible exact tf_elim) | intro _ | (with_reducible rfl) | ((with_reducible refine lk_t ?_); exact rfl) | ((with_reducible refine pf_t ?_); exact rfl) | refine tell ?_ | exact True.intro | (refine IsT.of ?_; kernel_rfl))
  all_goals ((try refine Tell.mk ?_); first | with_reducible rfl | ((show (_ : Int) ≤ _); decide) | ((show (_ : Int) < _); decide) | (with_reducible refine gb_t ?_; with_reducible assumption) | with_reducible assumption | (with_reducible refine gb_f ?_; with_reducible assumption) | (simp only [orI, *, cond_true, cond_false]; done) | ((with_reducible refine ks_t ?_); rfl) | ((with_reducible refine pk_t ?_); rfl) | ((with_reducible refine pf_t ?_); rfl) | ((with_reducible refine lk_t ?_); rfl) | ((with_reducible refine okF_t ?_); kernel_rfl) | grind [gb, orI])
def ballS_k : Con Tryz.prog := ⟨163, fun args => match args with | [.agg [.flt a, .flt b, .flt c, .flt r], .agg [.flt x, .flt y, .flt z, .flt u, .flt v, .flt w, .flt l], .flt n, .flt m] => .ok (none) (.tup [.flt (orI (F .sub x a) (F .sub y b) (F .sub z c) u v w r l), .bool (abO (F .sub x a) (F .sub y b) (F .sub z c) u v w r)]) | _ => .no, by
  intro args p r h hp
  split at h
  · cases h; exact ballS_a _ _ _ _ _ _ _ _ _ _ _ _ _
  · cases h⟩
def blT (l n m : Nat) : Nat := bif fgt n l then n else m
theorem blockS_f : FnOk Tryz.prog 169 Tryz.f169 := ⟨Tryz.func169, by kernel_rfl⟩
theorem blockS_a (a b c d e f x y z u v w l n m : Nat) : ACalls Tryz.prog 169 [.agg [.flt a, .flt b, .flt c, .flt d, .flt e, .flt f], .agg [.flt x, .flt y, .flt z, .flt u, .flt v, .flt w, .flt l], .flt n, .flt m] (.tup [.flt (blT l n m), .bool true]) := by
  refine acalls_of (inl := hasI (P := Tryz.prog) [] []) (base [] [] []) 0 blockS_f (And.intro (by kernel_rfl) ?_)
  repeat' (first | refine And.intro ?_ ?_ | (with_reducible exact ff_elim) | (with_reducible exact tf_elim) | intro _ | (with_reducible rfl) | ((with_reducible refine lk_t ?_); exact rfl) | ((with_reducible refine pf_t ?_); exact rfl) | refine tell ?_ | exact True.intro | (refine IsT.of ?_; kernel_rfl))
  all_goals ((try refine Tell.mk ?_); first | with_reducible rfl | ((show (_ : Int) ≤ _); decide) | ((show (_ : Int) < _); decide) | (with_reducible refine gb_t ?_; with_reducible assumption) | with_reducible assumption | (with_reducible refine gb_f ?_; with_reducible assumption) | (simp only [blT, *, cond_true, cond_false]; done) | ((with_reducible refine ks_t ?_); rfl) | ((with_reducible refine pk_t ?_); rfl) | ((with_reducible refine pf_t ?_); rfl) | ((with_reducible refine lk_t ?_); rfl) | ((with_reducible refine okF_t ?_); kernel_rfl) | grind [gb, blT])
def blockS_k : Con Tryz.prog := ⟨169, fun args => match args with | [.agg [.flt a, .flt b, .flt c, .flt d, .flt e, .flt f], .agg [.flt x, .flt y, .flt z, .flt u, .flt v, .flt w, .flt l], .flt n, .flt m] => .ok (none) (.tup [.flt (blT l n m), .bool true]) | _ => .no, by
  intro args p r h hp
  split at h
  · cases h; exact blockS_a _ _ _ _ _ _ _ _ _ _ _ _ _ _ _
  · cases h⟩
def tuZ (d e f u v w : Nat) : Bool := feq (wo (aloneV d e f) 0 u) 0 && (feq (wo (aloneV d e f) 1 v) 0 && feq (wz (aloneV d e f) w) 0)
def tuI (a b c d e f r x y z u v w n : Nat) : Nat := bif tuZ d e f u v w then n else moreV n (abI (wo (aloneV d e f) 0 (F .sub x a)) (wo (aloneV d e f) 1 (F .sub y b)) (wz (aloneV d e f) (F .sub z c)) (wo (aloneV d e f) 0 u) (wo (aloneV d e f) 1 v) (wz (aloneV d e f) w) r)
def tuU (a b c d e f r x y z u v w m : Nat) : Nat := bif tuZ d e f u v w then m else lessV m (abU (wo (aloneV d e f) 0 (F .sub x a)) (wo (aloneV d e f) 1 (F .sub y b)) (wz (aloneV d e f) (F .sub z c)) (wo (aloneV d e f) 0 u) (wo (aloneV d e f) 1 v) (wz (aloneV d e f) w) r)
def tuO (a b c d e f r x y z u v w n m : Nat) : Bool := bif tuZ d e f u v w then flt (dotV (wo (aloneV d e f) 0 (F .sub x a)) (wo (aloneV d e f) 1 (F .sub y b)) (wz (aloneV d e f) (F .sub z c)) (wo (aloneV d e f) 0 (F .sub x a)) (wo (aloneV d e f) 1 (F .sub y b)) (wz (aloneV d e f) (F .sub z c))) (F .mul r r) || feq (dotV (wo (aloneV d e f) 0 (F .sub x a)) (wo (aloneV d e f) 1 (F .sub y b)) (wz (aloneV d e f) (F .sub z c)) (wo (aloneV d e f) 0 (F .sub x a)) (wo (aloneV d e f) 1 (F .sub y b)) (wz (aloneV d e f) (F .sub z c))) (F .mul r r) else abO (wo (aloneV d e f) 0 (F .sub x a)) (wo (aloneV d e f) 1 (F .sub y b)) (wz (aloneV d e f) (F .sub z c)) (wo (aloneV d e f) 0 u) (wo (aloneV d e f) 1 v) (wz (aloneV d e f) w) r && (flt (tuI a b c d e f r x y z u v w n) (tuU a b c d e f r x y z u v w m) || feq (tuI a b c d e f r x y z u v w n) (tuU a b c d e f r x y z u v w m))
theorem tubeW_f : FnOk Tryz.prog 180 Tryz.f180 := ⟨Tryz.func180, by kernel_rfl⟩
theorem tubeW_a (a b c d e f r x y z u v w l n m : Nat) : ACalls Tryz.prog 180 [.agg [.flt a, .flt b, .flt c, .flt d, .flt e, .flt f, .flt r], .agg [.flt x, .flt y, .flt z, .flt u, .flt v, .flt w, .flt l], .flt n, .flt m] (.tup [.flt (tuI a b c d e f r x y z u v w n), .flt (tuU a b c d e f r x y z u v w m), .bool (tuO a b c d e f r x y z u v w n m)]) := by
  refine acalls_of (inl := hasI (P := Tryz.prog) [] []) (base [alone_k, sub_k, without_k, dot_k, abt_k, greater_k, lesser_k] [] []) 0 tubeW_f (And.intro (by kernel_rfl) ?_)
  repeat' (first | refine And.intro ?_ ?_ | (with_reducible exact ff_elim) | (with_reducible exact tf_elim) | intro _ | (with_reducible rfl) | ((with_reducible refine lk_t ?_); exact rfl) | ((with_reducible refine pf_t ?_); exact rfl) | refine tell ?_ | exact True.intro | (refine IsT.of ?_; kernel_rfl))
  all_goals ((try refine Tell.mk ?_); first | with_reducible rfl | ((show (_ : Int) ≤ _); decide) | ((show (_ : Int) < _); decide) | (with_reducible refine gb_t ?_; with_reducible assumption) | with_reducible assumption | (with_reducible refine gb_f ?_; with_reducible assumption) | (simp only [tuI, tuU, tuO, tuZ, wz, *, cond_true, cond_false]; done) | ((with_reducible refine ks_t ?_); rfl) | ((with_reducible refine pk_t ?_); rfl) | ((with_reducible refine pf_t ?_); rfl) | ((with_reducible refine lk_t ?_); rfl) | ((with_reducible refine okF_t ?_); kernel_rfl) | grind [gb, tuI, tuU, tuO, tuZ, wz])
def tubeW_k : Con Tryz.prog := ⟨180, fun args => match args with | [.agg [.flt a, .flt b, .flt c, .flt d, .flt e, .flt f, .flt r], .agg [.flt x, .flt y, .flt z, .flt u, .flt v, .flt w, .flt l], .flt n, .flt m] => .ok (none) (.tup [.flt (tuI a b c d e f r x y z u v w n), .flt (tuU a b c d e f r x y z u v w m), .bool (tuO a b c d e f r x y z u v w n m)]) | _ => .no, by
  intro args p r h hp
  split at h
  · cases h; exact tubeW_a _ _ _ _ _ _ _ _ _ _ _ _ _ _ _ _
  · cases h⟩
def tuT (a b c d e f r x y z u v w l n m : Nat) : Nat := bif fgt (tuI a b c d e f r x y z u v w n) l then tuI a b c d e f r x y z u v w n else tuU a b c d e f r x y z u v w m
theorem tubeS_f : FnOk Tryz.prog 178 Tryz.f178 := ⟨Tryz.func178, by kernel_rfl⟩
theorem tubeS_a (a b c d e f r x y z u v w l n m : Nat) : ACalls Tryz.prog 178 [.agg [.flt a, .flt b, .flt c, .flt d, .flt e, .flt f, .flt r], .agg [.flt x, .flt y, .flt z, .flt u, .flt v, .flt w, .flt l], .flt n, .flt m] (.tup [.flt (tuT a b c d e f r x y z u v w l n m), .bool (tuO a b c d e f r x y z u v w n m)]) := by
  refine acalls_of (inl := hasI (P := Tryz.prog) [] []) (base [tubeW_k] [] []) 0 tubeS_f (And.intro (by kernel_rfl) ?_)
  repeat' (first | refine And.intro ?_ ?_ | (with_reducible exact ff_elim) | (with_reducible exact tf_elim) | intro _ | (with_reducible rfl) | ((with_reducible refine lk_t ?_); exact rfl) | ((with_reducible refine pf_t ?_); exact rfl) | refine tell ?_ | exact True.intro | (refine IsT.of ?_; kernel_rfl))
  all_goals ((try refine Tell.mk ?_); first | with_reducible rfl | ((show (_ : Int) ≤ _); decide) | ((show (_ : Int) < _); decide) | (with_reducible refine gb_t ?_; with_reducible assumption) | with_reducible assumption | (with_reducible refine gb_f ?_; with_reducible assumption) | (simp only [tuT, *, cond_true, cond_false]; done) | ((with_reducible refine ks_t ?_); rfl) | ((with_reducible refine pk_t ?_); rfl) | ((with_reducible refine pf_t ?_); rfl) | ((with_reducible refine lk_t ?_); rfl) | ((with_reducible refine okF_t ?_); kernel_rfl) | grind [gb, tuT])
def tubeS_k : Con Tryz.prog := ⟨178, fun args => match args with | [.agg [.flt a, .flt b, .flt c, .flt d, .flt e, .flt f, .flt r], .agg [.flt x, .flt y, .flt z, .flt u, .flt v, .flt w, .flt l], .flt n, .flt m] => .ok (none) (.tup [.flt (tuT a b c d e f r x y z u v w l n m), .bool (tuO a b c d e f r x y z u v w n m)]) | _ => .no, by
  intro args p r h hp
  split at h
  · cases h; exact tubeS_a _ _ _ _ _ _ _ _ _ _ _ _ _ _ _ _
  · cases h⟩
def plaD (d e f u v w : Nat) : Nat := dotV (unitV d e f d) (unitV d e f e) (unitV d e f f) u v w
def plaQ (a b c d e f x y z u v w : Nat) : Nat := F .quo (dotV (unitV d e f d) (unitV d e f e) (unitV d e f f) (F .sub a x) (F .sub b y) (F .sub c z)) (plaD d e f u v w)
def plaT (a b c d e f x y z u v w : Nat) : Nat := bif feq (plaD d e f u v w) 0 then 0 else plaQ a b c d e f x y z u v w
def plaS (a b c d e f x y z u v w : Nat) : Nat := dotV (F .sub (F .add x (F .mul u (plaQ a b c d e f x y z u v w))) a) (F .sub (F .add y (F .mul v (plaQ a b c d e f x y z u v w))) b) (F .sub (F .add z (F .mul w (plaQ a b c d e f x y z u v w))) c) (F .sub (F .add x (F .mul u (plaQ a b c d e f x y z u v w))) a) (F .sub (F .add y (F .mul v (plaQ a b c d e f x y z u v w))) b) (F .sub (F .add z (F .mul w (plaQ a b c d e f x y z u v w))) c)
def plaO (a b c d e f r x y z u v w : Nat) : Bool := bif feq (plaD d e f u v w) 0 then false else flt (plaS a b c d e f x y z u v w) (F .mul r r) || feq (plaS a b c d e f x y z u v w) (F .mul r r)
theorem plateS_f : FnOk Tryz.prog 175 Tryz.f175 := ⟨Tryz.func175, by kernel_rfl⟩
theorem plateS_a (a b c d e f r x y z u v w l n m : Nat) : ACalls Tryz.prog 175 [.agg [.flt a, .flt b, .flt c, .flt d, .flt e, .flt f, .flt r], .agg [.flt x, .flt y, .flt z, .flt u, .flt v, .flt w, .flt l], .flt n, .flt m] (.tup [.flt (plaT a b c d e f x y z u v w), .bool (plaO a b c d e f r x y z u v w)]) := by
  refine acalls_of (inl := hasI (P := Tryz.prog) [] []) (base [unit_k, dot_k, sub_k, add_k, scale_k] [] []) 0 plateS_f (And.intro (by kernel_rfl) ?_)
  repeat' (first | refine And.intro ?_ ?_ | (with_reducible exact ff_elim) | (with_reducible exact tf_elim) | intro _ | (with_reducible rfl) | ((with_reducible refine lk_t ?_); exact rfl) | ((with_reducible refine pf_t ?_); exact rfl) | refine tell ?_ | exact True.intro | (refine IsT.of ?_; kernel_rfl))
  all_goals ((try refine Tell.mk ?_); first | with_reducible rfl | ((show (_ : Int) ≤ _); decide) | ((show (_ : Int) < _); decide) | (with_reducible refine gb_t ?_; with_reducible assumption) | with_reducible assumption | (with_reducible refine gb_f ?_; with_reducible assumption) | (simp only [plaT, plaO, plaS, plaQ, plaD, *, cond_true, cond_false]; done) | ((with_reducible refine ks_t ?_); rfl) | ((with_reducible refine pk_t ?_); rfl) | ((with_reducible refine pf_t ?_); rfl) | ((with_reducible refine lk_t ?_); rfl) | ((with_reducible refine okF_t ?_); kernel_rfl) | grind [gb, plaT, plaO, plaS, plaQ, plaD])
def plateS_k : Con Tryz.prog := ⟨175, fun args => match args with | [.agg [.flt a, .flt b, .flt c, .flt d, .flt e, .flt f, .flt r], .agg [.flt x, .flt y, .flt z, .flt u, .flt v, .flt w, .flt l], .flt n, .flt m] => .ok (none) (.tup [.flt (plaT a b c d e f x y z u v w), .bool (plaO a b c d e f r x y z u v w)]) | _ => .no, by
  intro args p r h hp
  split at h
  · cases h; exact plateS_a _ _ _ _ _ _ _ _ _ _ _ _ _ _ _ _
  · cases h⟩
def trO0 (a b c d e f g h i x y z u v w : Nat) : Bool := thrB (sdV0 x y z u v w d e f g h i) (sdV0 x y z u v w g h i a b c) (sdV0 x y z u v w a b c d e f)
def trT0 (a b c d e f g h i x y z u v w : Nat) : Nat := bif trO0 a b c d e f g h i x y z u v w then F .quo (F .add (F .add (F .mul (sdV0 x y z u v w d e f g h i) (plZ0 x y z u v w a b c)) (F .mul (sdV0 x y z u v w g h i a b c) (plZ0 x y z u v w d e f))) (F .mul (sdV0 x y z u v w a b c d e f) (plZ0 x y z u v w g h i))) (F .add (F .add (sdV0 x y z u v w d e f g h i) (sdV0 x y z u v w g h i a b c)) (sdV0 x y z u v w a b c d e f)) else 0
theorem triS0_f : FnOk Tryz.prog 172 Tryz.f172 := ⟨Tryz.func172, by kernel_rfl⟩
theorem triS0_a (a b c d e f g h i x y z u v w l n m : Nat) (hpre : deepV u v w = 0) : ACalls Tryz.prog 172 [.agg [.flt a, .flt b, .flt c, .flt d, .flt e, .flt f, .flt g, .flt h, .flt i], .agg [.flt x, .flt y, .flt z, .flt u, .flt v, .flt w, .flt l], .flt n, .flt m] (.tup [.flt (trT0 a b c d e f g h i x y z u v w), .bool (trO0 a b c d e f g h i x y z u v w)]) := by
  refine acalls_of (inl := hasI (P := Tryz.prog) [] []) (base [frame0_k, edge0_k, place0_k, through_k] [] []) 0 triS0_f (And.intro (by kernel_rfl) ?_)
  repeat' (first | refine And.intro ?_ ?_ | (with_reducible exact ff_elim) | (with_reducible exact tf_elim) | intro _ | (with_reducible rfl) | ((with_reducible refine lk_t ?_); exact rfl) | ((with_reducible refine pf_t ?_); exact rfl) | refine tell ?_ | exact True.intro | (refine IsT.of ?_; kernel_rfl))
  all_goals ((try refine Tell.mk ?_); first | with_reducible rfl | ((show (_ : Int) ≤ _); decide) | ((show (_ : Int) < _); decide) | (with_reducible refine gb_t ?_; with_reducible assumption) | with_reducible assumption | (with_reducible refine gb_f ?_; with_reducible assumption) | (simp only [trT0, trO0, thrS, thrB, sdV0, plX0, plY0, plZ0, *, cond_true, cond_false]; done) | ((with_reducible refine ks_t ?_); rfl) | ((with_reducible refine pk_t ?_); rfl) | ((with_reducible refine pf_t ?_); rfl) | ((with_reducible refine lk_t ?_); rfl) | ((with_reducible refine okF_t ?_); kernel_rfl) | grind [gb, trT0, trO0, thrS, thrB, sdV0, plX0, plY0, plZ0])
def triS0_k : Con Tryz.prog := ⟨172, fun args => match args with | [.agg [.flt a, .flt b, .flt c, .flt d, .flt e, .flt f, .flt g, .flt h, .flt i], .agg [.flt x, .flt y, .flt z, .flt u, .flt v, .flt w, .flt l], .flt n, .flt m] => .ok (some (deepV u v w = 0)) (.tup [.flt (trT0 a b c d e f g h i x y z u v w), .bool (trO0 a b c d e f g h i x y z u v w)]) | _ => .no, by
  intro args p r h hp
  split at h
  · cases h; exact triS0_a _ _ _ _ _ _ _ _ _ _ _ _ _ _ _ _ _ _ hp
  · cases h⟩
def trO1 (a b c d e f g h i x y z u v w : Nat) : Bool := thrB (sdV1 x y z u v w d e f g h i) (sdV1 x y z u v w g h i a b c) (sdV1 x y z u v w a b c d e f)
def trT1 (a b c d e f g h i x y z u v w : Nat) : Nat := bif trO1 a b c d e f g h i x y z u v w then F .quo (F .add (F .add (F .mul (sdV1 x y z u v w d e f g h i) (plZ1 x y z u v w a b c)) (F .mul (sdV1 x y z u v w g h i a b c) (plZ1 x y z u v w d e f))) (F .mul (sdV1 x y z u v w a b c d e f) (plZ1 x y z u v w g h i))) (F .add (F .add (sdV1 x y z u v w d e f g h i) (sdV1 x y z u v w g h i a b c)) (sdV1 x y z u v w a b c d e f)) else 0
theorem triS1_f : FnOk Tryz.prog 172 Tryz.f172 := ⟨Tryz.func172, by kernel_rfl⟩
theorem triS1_a (a b c d e f g h i x y z u v w l n m : Nat) (hpre : deepV u v w = 1) : ACalls Tryz.prog 172 [.agg [.flt a, .flt b, .flt c, .flt d, .flt e, .flt f, .flt g, .flt h, .flt i], .agg [.flt x, .flt y, .flt z, .flt u, .flt v, .flt w, .flt l], .flt n, .flt m] (.tup [.flt (trT1 a b c d e f g h i x y z u v w), .bool (trO1 a b c d e f g h i x y z u v w)]) := by
  refine acalls_of (inl := hasI (P := Tryz.prog) [] []) (base [frame1_k, edge1_k, place1_k, through_k] [] []) 0 triS1_f (And.intro (by kernel_rfl) ?_)
  repeat' (first | refine And.intro ?_ ?_ | (with_reducible exact ff_elim) | (with_reducible exact tf_elim) | intro _ | (with_reducible rfl) | ((with_reducible refine lk_t ?_); exact rfl) | ((with_reducible refine pf_t ?_); exact rfl) | refine tell ?_ | exact True.intro | (refine IsT.of ?_; kernel_rfl))
  all_goals ((try refine Tell.mk ?_); first | with_reducible rfl | ((show (_ : Int) ≤ _); decide) | ((show (_ : Int) < _); decide) | (with_reducible refine gb_t ?_; with_reducible assumption) | with_reducible assumption | (with_reducible refine gb_f ?_; with_reducible assumption) | (simp only [trT1, trO1, thrS, thrB, sdV1, plX1, plY1, plZ1, *, cond_true, cond_false]; done) | ((with_reducible refine ks_t ?_); rfl) | ((with_reducible refine pk_t ?_); rfl) | ((with_reducible refine pf_t ?_); rfl) | ((with_reducible refine lk_t ?_); rfl) | ((with_reducible refine okF_t ?_); kernel_rfl) | grind [gb, trT1, trO1, thrS, thrB, sdV1, plX1, plY1, plZ1])
def triS1_k : Con Tryz.prog := ⟨172, fun args => match args with | [.agg [.flt a, .flt b, .flt c, .flt d, .flt e, .flt f, .flt g, .flt h, .flt i], .agg [.flt x, .flt y, .flt z, .flt u, .flt v, .flt w, .flt l], .flt n, .flt m] => .ok (some (deepV u v w = 1)) (.tup [.flt (trT1 a b c d e f g h i x y z u v w), .bool (trO1 a b c d e f g h i x y z u v w)]) | _ => .no, by
  intro args p r h hp
  split at h
  · cases h; exact triS1_a _ _ _ _ _ _ _ _ _ _ _ _ _ _ _ _ _ _ hp
  · cases h⟩
def trO2 (a b c d e f g h i x y z u v w : Nat) : Bool := thrB (sdV2 x y z u v w d e f g h i) (sdV2 x y z u v w g h i a b c) (sdV2 x y z u v w a b c d e f)
def trT2 (a b c d e f g h i x y z u v w : Nat) : Nat := bif trO2 a b c d e f g h i x y z u v w then F .quo (F .add (F .add (F .mul (sdV2 x y z u v w d e f g h i) (plZ2 x y z u v w a b c)) (F .mul (sdV2 x y z u v w g h i a b c) (plZ2 x y z u v w d e f))) (F .mul (sdV2 x y z u v w a b c d e f) (plZ2 x y z u v w g h i))) (F .add (F .add (sdV2 x y z u v w d e f g h i) (sdV2 x y z u v w g h i a b c)) (sdV2 x y z u v w a b c d e f)) else 0
theorem triS2_f : FnOk Tryz.prog 172 Tryz.f172 := ⟨Tryz.func172, by kernel_rfl⟩
theorem triS2_a (a b c d e f g h i x y z u v w l n m : Nat) (hpre : deepV u v w = 2) : ACalls Tryz.prog 172 [.agg [.flt a, .flt b, .flt c, .flt d, .flt e, .flt f, .flt g, .flt h, .flt i], .agg [.flt x, .flt y, .flt z, .flt u, .flt v, .flt w, .flt l], .flt n, .flt m] (.tup [.flt (trT2 a b c d e f g h i x y z u v w), .bool (trO2 a b c d e f g h i x y z u v w)]) := by
  refine acalls_of (inl := hasI (P := Tryz.prog) [] []) (base [frame2_k, edge2_k, place2_k, through_k] [] []) 0 triS2_f (And.intro (by kernel_rfl) ?_)
  repeat' (first | refine And.intro ?_ ?_ | (with_reducible exact ff_elim) | (with_reducible exact tf_elim) | intro _ | (with_reducible rfl) | ((with_reducible refine lk_t ?_); exact rfl) | ((with_reducible refine pf_t ?_); exact rfl) | refine tell ?_ | exact True.intro | (refine IsT.of ?_; kernel_rfl))
  all_goals ((try refine Tell.mk ?_); first | with_reducible rfl | ((show (_ : Int) ≤ _); decide) | ((show (_ : Int) < _); decide) | (with_reducible refine gb_t ?_; with_reducible assumption) | with_reducible assumption | (with_reducible refine gb_f ?_; with_reducible assumption) | (simp only [trT2, trO2, thrS, thrB, sdV2, plX2, plY2, plZ2, *, cond_true, cond_false]; done) | ((with_reducible refine ks_t ?_); rfl) | ((with_reducible refine pk_t ?_); rfl) | ((with_reducible refine pf_t ?_); rfl) | ((with_reducible refine lk_t ?_); rfl) | ((with_reducible refine okF_t ?_); kernel_rfl) | grind [gb, trT2, trO2, thrS, thrB, sdV2, plX2, plY2, plZ2])
def triS2_k : Con Tryz.prog := ⟨172, fun args => match args with | [.agg [.flt a, .flt b, .flt c, .flt d, .flt e, .flt f, .flt g, .flt h, .flt i], .agg [.flt x, .flt y, .flt z, .flt u, .flt v, .flt w, .flt l], .flt n, .flt m] => .ok (some (deepV u v w = 2)) (.tup [.flt (trT2 a b c d e f g h i x y z u v w), .bool (trO2 a b c d e f g h i x y z u v w)]) | _ => .no, by
  intro args p r h hp
  split at h
  · cases h; exact triS2_a _ _ _ _ _ _ _ _ _ _ _ _ _ _ _ _ _ _ hp
  · cases h⟩
def trT (a b c d e f g h i x y z u v w : Nat) : Nat := bif deepV u v w == 0 then trT0 a b c d e f g h i x y z u v w else bif deepV u v w == 1 then trT1 a b c d e f g h i x y z u v w else trT2 a b c d e f g h i x y z u v w
def trO (a b c d e f g h i x y z u v w : Nat) : Bool := bif deepV u v w == 0 then trO0 a b c d e f g h i x y z u v w else bif deepV u v w == 1 then trO1 a b c d e f g h i x y z u v w else trO2 a b c d e f g h i x y z u v w
theorem triS_f : FnOk Tryz.prog 172 Tryz.f172 := ⟨Tryz.func172, by kernel_rfl⟩
theorem triS_a (a b c d e f g h i x y z u v w l n m : Nat) : ACalls Tryz.prog 172 [.agg [.flt a, .flt b, .flt c, .flt d, .flt e, .flt f, .flt g, .flt h, .flt i], .agg [.flt x, .flt y, .flt z, .flt u, .flt v, .flt w, .flt l], .flt n, .flt m] (.tup [.flt (trT a b c d e f g h i x y z u v w), .bool (trO a b c d e f g h i x y z u v w)]) := by
  unfold trT trO
  rcases deepV_or u v w with hk | hk | hk
  · rw [hk]; exact triS0_a a b c d e f g h i x y z u v w l n m hk
  · rw [hk]; exact triS1_a a b c d e f g h i x y z u v w l n m hk
  · rw [hk]; exact triS2_a a b c d e f g h i x y z u v w l n m hk
def triS_k : Con Tryz.prog := ⟨172, fun args => match args with | [.agg [.flt a, .flt b, .flt c, .flt d, .flt e, .flt f, .flt g, .flt h, .flt i], .agg [.flt x, .flt y, .flt z, .flt u, .flt v, .flt w, .flt l], .flt n, .flt m] => .ok (none) (.tup [.flt (trT a b c d e f g h i x y z u v w), .bool (trO a b c d e f g h i x y z u v w)]) | _ => .no, by
  intro args p r h hp
  split at h
  · cases h; exact triS_a _ _ _ _ _ _ _ _ _ _ _ _ _ _ _ _ _ _
  · cases h⟩
end Go.Proofs.YtdjckabogdohcaaGreat
/- Where rays strike shapes. -/
namespace Go.Proofs.YtdjckabogdohcaaGreat
open Go.RowKit Ev
set_option linter.unusedVariables false
set_option linter.unusedSimpArgs false
set_option maxRecDepth 20000
set_option maxHeartbeats 4000000

/-- Within the box around it, by its own reckoning. -/
def stB (k : Bool) (t : Nat) (ok : Bool) (l : Nat) : Bool := bif k then (bif ok then fgt t l || feq t l else false) else false
def stT (k : Bool) (t : Nat) (ok : Bool) (l n m : Nat) : Nat := bif stB k t ok l then (bif flt t n then n else bif fgt t m then m else t) else 0
theorem sh_1 {a b c d e f g h i r q : Nat} {s : Int} (hh : shapeE 1 a b c d e f g h i r q s = 0) : 0 = ballE a b c r := by
  unfold shapeE at hh
  cases h1 : (decide (s < 0) || decide (16 ≤ s)) <;> cases h2 : (!(fineB a b c) || (!(fineB d e f) || (!(fineB g h i) || (!(nearB r) || !(nearB q))))) <;> rw [h1, h2] at hh <;> first | exact hh.symm | cases hh
theorem sh_2 {a b c d e f g h i r q : Nat} {s : Int} (hh : shapeE 2 a b c d e f g h i r q s = 0) : 0 = blockE a b c d e f := by
  unfold shapeE at hh
  cases h1 : (decide (s < 0) || decide (16 ≤ s)) <;> cases h2 : (!(fineB a b c) || (!(fineB d e f) || (!(fineB g h i) || (!(nearB r) || !(nearB q))))) <;> rw [h1, h2] at hh <;> first | exact hh.symm | cases hh
theorem sh_3 {a b c d e f g h i r q : Nat} {s : Int} (hh : shapeE 3 a b c d e f g h i r q s = 0) : 0 = triE a b c d e f g h i := by
  unfold shapeE at hh
  cases h1 : (decide (s < 0) || decide (16 ≤ s)) <;> cases h2 : (!(fineB a b c) || (!(fineB d e f) || (!(fineB g h i) || (!(nearB r) || !(nearB q))))) <;> rw [h1, h2] at hh <;> first | exact hh.symm | cases hh
theorem sh_4 {a b c d e f g h i r q : Nat} {s : Int} (hh : shapeE 4 a b c d e f g h i r q s = 0) : 0 = plateE a b c d e f r := by
  unfold shapeE at hh
  cases h1 : (decide (s < 0) || decide (16 ≤ s)) <;> cases h2 : (!(fineB a b c) || (!(fineB d e f) || (!(fineB g h i) || (!(nearB r) || !(nearB q))))) <;> rw [h1, h2] at hh <;> first | exact hh.symm | cases hh
theorem sh_5 {a b c d e f g h i r q : Nat} {s : Int} (hh : shapeE 5 a b c d e f g h i r q s = 0) : 0 = tubeE a b c d e f r := by
  unfold shapeE at hh
  cases h1 : (decide (s < 0) || decide (16 ≤ s)) <;> cases h2 : (!(fineB a b c) || (!(fineB d e f) || (!(fineB g h i) || (!(nearB r) || !(nearB q))))) <;> rw [h1, h2] at hh <;> first | exact hh.symm | cases hh
def sO1 (a b c r x y z u v w l : Nat) : Bool := stB (meetB (F .sub a r) (F .sub b r) (F .sub c r) (F .add a r) (F .add b r) (F .add c r) x y z u v w l) (orI (F .sub x a) (F .sub y b) (F .sub z c) u v w r l) (abO (F .sub x a) (F .sub y b) (F .sub z c) u v w r) l
def sT1 (a b c r x y z u v w l : Nat) : Nat := stT (meetB (F .sub a r) (F .sub b r) (F .sub c r) (F .add a r) (F .add b r) (F .add c r) x y z u v w l) (orI (F .sub x a) (F .sub y b) (F .sub z c) u v w r l) (abO (F .sub x a) (F .sub y b) (F .sub z c) u v w r) l (meetX (F .sub a r) (F .sub b r) (F .sub c r) (F .add a r) (F .add b r) (F .add c r) x y z u v w l) (meetY (F .sub a r) (F .sub b r) (F .sub c r) (F .add a r) (F .add b r) (F .add c r) x y z u v w l)
theorem struck1_f : FnOk Tryz.prog 47 Tryz.f47 := ⟨Tryz.func47, by kernel_rfl⟩
theorem struck1_a (a b c r x y z u v w l : Nat) : ACalls Tryz.prog 47 [.ifc 110 (.agg [.flt a, .flt b, .flt c, .flt r]), .agg [.flt x, .flt y, .flt z, .flt u, .flt v, .flt w, .flt l]] (.tup [.flt (sT1 a b c r x y z u v w l), .bool (sO1 a b c r x y z u v w l)]) := by
  refine acalls_of (inl := hasI (P := Tryz.prog) [] []) (base [ballB_k, meets_k, ballS_k] [] []) 0 struck1_f (And.intro (by kernel_rfl) ?_)
  repeat' (first | refine And.intro ?_ ?_ | (with_reducible exact ff_elim) | (with_reducible exact tf_elim) | intro _ | (with_reducible rfl) | ((with_reducible refine lk_t ?_); exact rfl) | ((with_reducible refine pf_t ?_); exact rfl) | refine tell ?_ | exact True.intro | (refine IsT.of ?_; kernel_rfl))
  all_goals ((try refine Tell.mk ?_); first | with_reducible rfl | ((show (_ : Int) ≤ _); decide) | ((show (_ : Int) < _); decide) | (with_reducible refine gb_t ?_; with_reducible assumption) | with_reducible assumption | (with_reducible refine gb_f ?_; with_reducible assumption) | (simp only [sT1, sO1, stT, stB, *, cond_true, cond_false]; done) | ((with_reducible refine ks_t ?_); rfl) | ((with_reducible refine pk_t ?_); rfl) | ((with_reducible refine pf_t ?_); rfl) | ((with_reducible refine lk_t ?_); rfl) | ((with_reducible refine okF_t ?_); kernel_rfl) | grind [gb, sT1, sO1, stT, stB])
def struck1_k : Con Tryz.prog := ⟨47, fun args => match args with | [.ifc 110 (.agg [.flt a, .flt b, .flt c, .flt r]), .agg [.flt x, .flt y, .flt z, .flt u, .flt v, .flt w, .flt l]] => .ok (none) (.tup [.flt (sT1 a b c r x y z u v w l), .bool (sO1 a b c r x y z u v w l)]) | _ => .no, by
  intro args p r h hp
  split at h
  · cases h; exact struck1_a _ _ _ _ _ _ _ _ _ _ _
  · cases h⟩
theorem solid1_f : FnOk Tryz.prog 46 Tryz.f46 := ⟨Tryz.func46, by kernel_rfl⟩
theorem solid1_a (a b c d e f g h i r q : Nat) (s : Int) (hpre : shapeE 1 a b c d e f g h i r q s = 0) : ACalls Tryz.prog 46 [.agg [.int .i64 1, .flt a, .flt b, .flt c, .flt d, .flt e, .flt f, .flt g, .flt h, .flt i, .flt r, .flt q, .int .i64 s]] (.tup [.ifc 110 (.agg [.flt a, .flt b, .flt c, .flt r]), .int .i64 0]) := by
  refine acalls_of (inl := hasI (P := Tryz.prog) [] []) (base [fine_k, near_k, fitsBall_k] [] []) 0 solid1_f (And.intro (by kernel_rfl) ?_)
  repeat' (first | refine And.intro ?_ ?_ | (with_reducible exact ff_elim) | (with_reducible exact tf_elim) | (intro h; exact absurd h (by decide)) | intro _ | (with_reducible rfl) | ((with_reducible refine lk_t ?_); exact rfl) | ((with_reducible refine pf_t ?_); exact rfl) | refine tell ?_ | exact True.intro | (refine IsT.of ?_; kernel_rfl))
  all_goals (try refine Tell.mk ?_)
  all_goals first | with_reducible rfl | with_reducible assumption | (with_reducible refine gb_t ?_; with_reducible assumption) | (with_reducible refine gb_f ?_; with_reducible assumption) | ((with_reducible refine lk_t ?_); rfl) | ((with_reducible refine ks_t ?_); rfl) | (show (_ : AV) = _; kernel_rfl) | exact sh_1 hpre | (exfalso; simp only [shapeE] at hpre; simp_all; done) | (exfalso; clear hf; grind [shapeE]) | (exfalso; grind [shapeE]) | trace_state
def solid1_k : Con Tryz.prog := ⟨46, fun args => match args with | [.agg [.int .i64 1, .flt a, .flt b, .flt c, .flt d, .flt e, .flt f, .flt g, .flt h, .flt i, .flt r, .flt q, .int .i64 s]] => .ok (some (shapeE 1 a b c d e f g h i r q s = 0)) (.tup [.ifc 110 (.agg [.flt a, .flt b, .flt c, .flt r]), .int .i64 0]) | _ => .no, by
  intro args p r h hp
  split at h
  · cases h; exact solid1_a _ _ _ _ _ _ _ _ _ _ _ _ hp
  · cases h⟩
def sE1 (a b c d e f g h i r q : Nat) (s : Int) (x y z u v w l : Nat) : Int := bif !(shapeE 1 a b c d e f g h i r q s == 0) then shapeE 1 a b c d e f g h i r q s else rayV x y z u v w l
theorem Strike1_f : FnOk Tryz.prog 15 Tryz.f15 := ⟨Tryz.func15, by kernel_rfl⟩
theorem Strike1_a (a b c d e f g h i r q : Nat) (s : Int) (x y z u v w l : Nat) : ACalls Tryz.prog 15 [.agg [.int .i64 1, .flt a, .flt b, .flt c, .flt d, .flt e, .flt f, .flt g, .flt h, .flt i, .flt r, .flt q, .int .i64 s], .agg [.flt x, .flt y, .flt z, .flt u, .flt v, .flt w, .flt l]] (.tup [.flt (bif sE1 a b c d e f g h i r q s x y z u v w l == 0 then sT1 a b c r x y z u v w l else 0), .bool (bif sE1 a b c d e f g h i r q s x y z u v w l == 0 then sO1 a b c r x y z u v w l else false), .int .i64 (sE1 a b c d e f g h i r q s x y z u v w l)]) := by
  refine acalls_of (inl := hasI (P := Tryz.prog) [] []) (base [shapeMay_k, rayfine_k, solid1_k, struck1_k] [] []) 0 Strike1_f (And.intro (by kernel_rfl) ?_)
  repeat' (first | refine And.intro ?_ ?_ | (with_reducible exact ff_elim) | (with_reducible exact tf_elim) | intro _ | (with_reducible rfl) | ((with_reducible refine lk_t ?_); exact rfl) | ((with_reducible refine pf_t ?_); exact rfl) | refine tell ?_ | exact True.intro | (refine IsT.of ?_; kernel_rfl))
  all_goals ((try refine Tell.mk ?_); first | with_reducible rfl | ((show (_ : Int) ≤ _); decide) | ((show (_ : Int) < _); decide) | (with_reducible refine gb_t ?_; with_reducible assumption) | with_reducible assumption | (with_reducible refine gb_f ?_; with_reducible assumption) | (simp only [sE1, bne, *, cond_true, cond_false]; done) | ((with_reducible refine ks_t ?_); rfl) | ((with_reducible refine pk_t ?_); rfl) | ((with_reducible refine pf_t ?_); rfl) | ((with_reducible refine lk_t ?_); rfl) | ((with_reducible refine okF_t ?_); kernel_rfl) | grind [gb, sE1, bne])
def Strike1_k : Con Tryz.prog := ⟨15, fun args => match args with | [.agg [.int .i64 1, .flt a, .flt b, .flt c, .flt d, .flt e, .flt f, .flt g, .flt h, .flt i, .flt r, .flt q, .int .i64 s], .agg [.flt x, .flt y, .flt z, .flt u, .flt v, .flt w, .flt l]] => .ok (none) (.tup [.flt (bif sE1 a b c d e f g h i r q s x y z u v w l == 0 then sT1 a b c r x y z u v w l else 0), .bool (bif sE1 a b c d e f g h i r q s x y z u v w l == 0 then sO1 a b c r x y z u v w l else false), .int .i64 (sE1 a b c d e f g h i r q s x y z u v w l)]) | _ => .no, by
  intro args p r h hp
  split at h
  · cases h; exact Strike1_a _ _ _ _ _ _ _ _ _ _ _ _ _ _ _ _ _ _ _
  · cases h⟩
def sO2 (a b c d e f x y z u v w l : Nat) : Bool := stB (meetB a b c d e f x y z u v w l) (blT l (meetX a b c d e f x y z u v w l) (meetY a b c d e f x y z u v w l)) true l
def sT2 (a b c d e f x y z u v w l : Nat) : Nat := stT (meetB a b c d e f x y z u v w l) (blT l (meetX a b c d e f x y z u v w l) (meetY a b c d e f x y z u v w l)) true l (meetX a b c d e f x y z u v w l) (meetY a b c d e f x y z u v w l)
theorem struck2_f : FnOk Tryz.prog 47 Tryz.f47 := ⟨Tryz.func47, by kernel_rfl⟩
theorem struck2_a (a b c d e f x y z u v w l : Nat) : ACalls Tryz.prog 47 [.ifc 112 (.agg [.flt a, .flt b, .flt c, .flt d, .flt e, .flt f]), .agg [.flt x, .flt y, .flt z, .flt u, .flt v, .flt w, .flt l]] (.tup [.flt (sT2 a b c d e f x y z u v w l), .bool (sO2 a b c d e f x y z u v w l)]) := by
  refine acalls_of (inl := hasI (P := Tryz.prog) [] []) (base [blockB_k, meets_k, blockS_k] [] []) 0 struck2_f (And.intro (by kernel_rfl) ?_)
  repeat' (first | refine And.intro ?_ ?_ | (with_reducible exact ff_elim) | (with_reducible exact tf_elim) | intro _ | (with_reducible rfl) | ((with_reducible refine lk_t ?_); exact rfl) | ((with_reducible refine pf_t ?_); exact rfl) | refine tell ?_ | exact True.intro | (refine IsT.of ?_; kernel_rfl))
  all_goals ((try refine Tell.mk ?_); first | with_reducible rfl | ((show (_ : Int) ≤ _); decide) | ((show (_ : Int) < _); decide) | (with_reducible refine gb_t ?_; with_reducible assumption) | with_reducible assumption | (with_reducible refine gb_f ?_; with_reducible assumption) | (simp only [sT2, sO2, stT, stB, *, cond_true, cond_false]; done) | ((with_reducible refine ks_t ?_); rfl) | ((with_reducible refine pk_t ?_); rfl) | ((with_reducible refine pf_t ?_); rfl) | ((with_reducible refine lk_t ?_); rfl) | ((with_reducible refine okF_t ?_); kernel_rfl) | grind [gb, sT2, sO2, stT, stB])
def struck2_k : Con Tryz.prog := ⟨47, fun args => match args with | [.ifc 112 (.agg [.flt a, .flt b, .flt c, .flt d, .flt e, .flt f]), .agg [.flt x, .flt y, .flt z, .flt u, .flt v, .flt w, .flt l]] => .ok (none) (.tup [.flt (sT2 a b c d e f x y z u v w l), .bool (sO2 a b c d e f x y z u v w l)]) | _ => .no, by
  intro args p r h hp
  split at h
  · cases h; exact struck2_a _ _ _ _ _ _ _ _ _ _ _ _ _
  · cases h⟩
theorem solid2_f : FnOk Tryz.prog 46 Tryz.f46 := ⟨Tryz.func46, by kernel_rfl⟩
theorem solid2_a (a b c d e f g h i r q : Nat) (s : Int) (hpre : shapeE 2 a b c d e f g h i r q s = 0) : ACalls Tryz.prog 46 [.agg [.int .i64 2, .flt a, .flt b, .flt c, .flt d, .flt e, .flt f, .flt g, .flt h, .flt i, .flt r, .flt q, .int .i64 s]] (.tup [.ifc 112 (.agg [.flt a, .flt b, .flt c, .flt d, .flt e, .flt f]), .int .i64 0]) := by
  refine acalls_of (inl := hasI (P := Tryz.prog) [] []) (base [fine_k, near_k, fitsBlock_k] [] []) 0 solid2_f (And.intro (by kernel_rfl) ?_)
  repeat' (first | refine And.intro ?_ ?_ | (with_reducible exact ff_elim) | (with_reducible exact tf_elim) | (intro h; exact absurd h (by decide)) | intro _ | (with_reducible rfl) | ((with_reducible refine lk_t ?_); exact rfl) | ((with_reducible refine pf_t ?_); exact rfl) | refine tell ?_ | exact True.intro | (refine IsT.of ?_; kernel_rfl))
  all_goals (try refine Tell.mk ?_)
  all_goals first | with_reducible rfl | with_reducible assumption | (with_reducible refine gb_t ?_; with_reducible assumption) | (with_reducible refine gb_f ?_; with_reducible assumption) | ((with_reducible refine lk_t ?_); rfl) | ((with_reducible refine ks_t ?_); rfl) | (show (_ : AV) = _; kernel_rfl) | exact sh_2 hpre | (exfalso; simp only [shapeE] at hpre; simp_all; done) | (exfalso; clear hf; grind [shapeE]) | (exfalso; grind [shapeE]) | trace_state
def solid2_k : Con Tryz.prog := ⟨46, fun args => match args with | [.agg [.int .i64 2, .flt a, .flt b, .flt c, .flt d, .flt e, .flt f, .flt g, .flt h, .flt i, .flt r, .flt q, .int .i64 s]] => .ok (some (shapeE 2 a b c d e f g h i r q s = 0)) (.tup [.ifc 112 (.agg [.flt a, .flt b, .flt c, .flt d, .flt e, .flt f]), .int .i64 0]) | _ => .no, by
  intro args p r h hp
  split at h
  · cases h; exact solid2_a _ _ _ _ _ _ _ _ _ _ _ _ hp
  · cases h⟩
def sE2 (a b c d e f g h i r q : Nat) (s : Int) (x y z u v w l : Nat) : Int := bif !(shapeE 2 a b c d e f g h i r q s == 0) then shapeE 2 a b c d e f g h i r q s else rayV x y z u v w l
theorem Strike2_f : FnOk Tryz.prog 15 Tryz.f15 := ⟨Tryz.func15, by kernel_rfl⟩
theorem Strike2_a (a b c d e f g h i r q : Nat) (s : Int) (x y z u v w l : Nat) : ACalls Tryz.prog 15 [.agg [.int .i64 2, .flt a, .flt b, .flt c, .flt d, .flt e, .flt f, .flt g, .flt h, .flt i, .flt r, .flt q, .int .i64 s], .agg [.flt x, .flt y, .flt z, .flt u, .flt v, .flt w, .flt l]] (.tup [.flt (bif sE2 a b c d e f g h i r q s x y z u v w l == 0 then sT2 a b c d e f x y z u v w l else 0), .bool (bif sE2 a b c d e f g h i r q s x y z u v w l == 0 then sO2 a b c d e f x y z u v w l else false), .int .i64 (sE2 a b c d e f g h i r q s x y z u v w l)]) := by
  refine acalls_of (inl := hasI (P := Tryz.prog) [] []) (base [shapeMay_k, rayfine_k, solid2_k, struck2_k] [] []) 0 Strike2_f (And.intro (by kernel_rfl) ?_)
  repeat' (first | refine And.intro ?_ ?_ | (with_reducible exact ff_elim) | (with_reducible exact tf_elim) | intro _ | (with_reducible rfl) | ((with_reducible refine lk_t ?_); exact rfl) | ((with_reducible refine pf_t ?_); exact rfl) | refine tell ?_ | exact True.intro | (refine IsT.of ?_; kernel_rfl))
  all_goals ((try refine Tell.mk ?_); first | with_reducible rfl | ((show (_ : Int) ≤ _); decide) | ((show (_ : Int) < _); decide) | (with_reducible refine gb_t ?_; with_reducible assumption) | with_reducible assumption | (with_reducible refine gb_f ?_; with_reducible assumption) | (simp only [sE2, bne, *, cond_true, cond_false]; done) | ((with_reducible refine ks_t ?_); rfl) | ((with_reducible refine pk_t ?_); rfl) | ((with_reducible refine pf_t ?_); rfl) | ((with_reducible refine lk_t ?_); rfl) | ((with_reducible refine okF_t ?_); kernel_rfl) | grind [gb, sE2, bne])
def Strike2_k : Con Tryz.prog := ⟨15, fun args => match args with | [.agg [.int .i64 2, .flt a, .flt b, .flt c, .flt d, .flt e, .flt f, .flt g, .flt h, .flt i, .flt r, .flt q, .int .i64 s], .agg [.flt x, .flt y, .flt z, .flt u, .flt v, .flt w, .flt l]] => .ok (none) (.tup [.flt (bif sE2 a b c d e f g h i r q s x y z u v w l == 0 then sT2 a b c d e f x y z u v w l else 0), .bool (bif sE2 a b c d e f g h i r q s x y z u v w l == 0 then sO2 a b c d e f x y z u v w l else false), .int .i64 (sE2 a b c d e f g h i r q s x y z u v w l)]) | _ => .no, by
  intro args p r h hp
  split at h
  · cases h; exact Strike2_a _ _ _ _ _ _ _ _ _ _ _ _ _ _ _ _ _ _ _
  · cases h⟩
def sO3 (a b c d e f g h i x y z u v w l : Nat) : Bool := stB (meetB (lessV (lessV a d) g) (lessV (lessV b e) h) (lessV (lessV c f) i) (moreV (moreV a d) g) (moreV (moreV b e) h) (moreV (moreV c f) i) x y z u v w l) (trT a b c d e f g h i x y z u v w) (trO a b c d e f g h i x y z u v w) l
def sT3 (a b c d e f g h i x y z u v w l : Nat) : Nat := stT (meetB (lessV (lessV a d) g) (lessV (lessV b e) h) (lessV (lessV c f) i) (moreV (moreV a d) g) (moreV (moreV b e) h) (moreV (moreV c f) i) x y z u v w l) (trT a b c d e f g h i x y z u v w) (trO a b c d e f g h i x y z u v w) l (meetX (lessV (lessV a d) g) (lessV (lessV b e) h) (lessV (lessV c f) i) (moreV (moreV a d) g) (moreV (moreV b e) h) (moreV (moreV c f) i) x y z u v w l) (meetY (lessV (lessV a d) g) (lessV (lessV b e) h) (lessV (lessV c f) i) (moreV (moreV a d) g) (moreV (moreV b e) h) (moreV (moreV c f) i) x y z u v w l)
theorem struck3_f : FnOk Tryz.prog 47 Tryz.f47 := ⟨Tryz.func47, by kernel_rfl⟩
theorem struck3_a (a b c d e f g h i x y z u v w l : Nat) : ACalls Tryz.prog 47 [.ifc 114 (.agg [.flt a, .flt b, .flt c, .flt d, .flt e, .flt f, .flt g, .flt h, .flt i]), .agg [.flt x, .flt y, .flt z, .flt u, .flt v, .flt w, .flt l]] (.tup [.flt (sT3 a b c d e f g h i x y z u v w l), .bool (sO3 a b c d e f g h i x y z u v w l)]) := by
  refine acalls_of (inl := hasI (P := Tryz.prog) [] []) (base [triB_k, meets_k, triS_k] [] []) 0 struck3_f (And.intro (by kernel_rfl) ?_)
  repeat' (first | refine And.intro ?_ ?_ | (with_reducible exact ff_elim) | (with_reducible exact tf_elim) | intro _ | (with_reducible rfl) | ((with_reducible refine lk_t ?_); exact rfl) | ((with_reducible refine pf_t ?_); exact rfl) | refine tell ?_ | exact True.intro | (refine IsT.of ?_; kernel_rfl))
  all_goals ((try refine Tell.mk ?_); first | with_reducible rfl | ((show (_ : Int) ≤ _); decide) | ((show (_ : Int) < _); decide) | (with_reducible refine gb_t ?_; with_reducible assumption) | with_reducible assumption | (with_reducible refine gb_f ?_; with_reducible assumption) | (simp only [sT3, sO3, stT, stB, *, cond_true, cond_false]; done) | ((with_reducible refine ks_t ?_); rfl) | ((with_reducible refine pk_t ?_); rfl) | ((with_reducible refine pf_t ?_); rfl) | ((with_reducible refine lk_t ?_); rfl) | ((with_reducible refine okF_t ?_); kernel_rfl) | grind [gb, sT3, sO3, stT, stB])
def struck3_k : Con Tryz.prog := ⟨47, fun args => match args with | [.ifc 114 (.agg [.flt a, .flt b, .flt c, .flt d, .flt e, .flt f, .flt g, .flt h, .flt i]), .agg [.flt x, .flt y, .flt z, .flt u, .flt v, .flt w, .flt l]] => .ok (none) (.tup [.flt (sT3 a b c d e f g h i x y z u v w l), .bool (sO3 a b c d e f g h i x y z u v w l)]) | _ => .no, by
  intro args p r h hp
  split at h
  · cases h; exact struck3_a _ _ _ _ _ _ _ _ _ _ _ _ _ _ _ _
  · cases h⟩
theorem solid3_f : FnOk Tryz.prog 46 Tryz.f46 := ⟨Tryz.func46, by kernel_rfl⟩
theorem solid3_a (a b c d e f g h i r q : Nat) (s : Int) (hpre : shapeE 3 a b c d e f g h i r q s = 0) : ACalls Tryz.prog 46 [.agg [.int .i64 3, .flt a, .flt b, .flt c, .flt d, .flt e, .flt f, .flt g, .flt h, .flt i, .flt r, .flt q, .int .i64 s]] (.tup [.ifc 114 (.agg [.flt a, .flt b, .flt c, .flt d, .flt e, .flt f, .flt g, .flt h, .flt i]), .int .i64 0]) := by
  refine acalls_of (inl := hasI (P := Tryz.prog) [] []) (base [fine_k, near_k, fitsTri_k] [] []) 0 solid3_f (And.intro (by kernel_rfl) ?_)
  repeat' (first | refine And.intro ?_ ?_ | (with_reducible exact ff_elim) | (with_reducible exact tf_elim) | (intro h; exact absurd h (by decide)) | intro _ | (with_reducible rfl) | ((with_reducible refine lk_t ?_); exact rfl) | ((with_reducible refine pf_t ?_); exact rfl) | refine tell ?_ | exact True.intro | (refine IsT.of ?_; kernel_rfl))
  all_goals (try refine Tell.mk ?_)
  all_goals first | with_reducible rfl | with_reducible assumption | (with_reducible refine gb_t ?_; with_reducible assumption) | (with_reducible refine gb_f ?_; with_reducible assumption) | ((with_reducible refine lk_t ?_); rfl) | ((with_reducible refine ks_t ?_); rfl) | (show (_ : AV) = _; kernel_rfl) | exact sh_3 hpre | (exfalso; simp only [shapeE] at hpre; simp_all; done) | (exfalso; clear hf; grind [shapeE]) | (exfalso; grind [shapeE]) | trace_state
def solid3_k : Con Tryz.prog := ⟨46, fun args => match args with | [.agg [.int .i64 3, .flt a, .flt b, .flt c, .flt d, .flt e, .flt f, .flt g, .flt h, .flt i, .flt r, .flt q, .int .i64 s]] => .ok (some (shapeE 3 a b c d e f g h i r q s = 0)) (.tup [.ifc 114 (.agg [.flt a, .flt b, .flt c, .flt d, .flt e, .flt f, .flt g, .flt h, .flt i]), .int .i64 0]) | _ => .no, by
  intro args p r h hp
  split at h
  · cases h; exact solid3_a _ _ _ _ _ _ _ _ _ _ _ _ hp
  · cases h⟩
def sE3 (a b c d e f g h i r q : Nat) (s : Int) (x y z u v w l : Nat) : Int := bif !(shapeE 3 a b c d e f g h i r q s == 0) then shapeE 3 a b c d e f g h i r q s else rayV x y z u v w l
theorem Strike3_f : FnOk Tryz.prog 15 Tryz.f15 := ⟨Tryz.func15, by kernel_rfl⟩
theorem Strike3_a (a b c d e f g h i r q : Nat) (s : Int) (x y z u v w l : Nat) : ACalls Tryz.prog 15 [.agg [.int .i64 3, .flt a, .flt b, .flt c, .flt d, .flt e, .flt f, .flt g, .flt h, .flt i, .flt r, .flt q, .int .i64 s], .agg [.flt x, .flt y, .flt z, .flt u, .flt v, .flt w, .flt l]] (.tup [.flt (bif sE3 a b c d e f g h i r q s x y z u v w l == 0 then sT3 a b c d e f g h i x y z u v w l else 0), .bool (bif sE3 a b c d e f g h i r q s x y z u v w l == 0 then sO3 a b c d e f g h i x y z u v w l else false), .int .i64 (sE3 a b c d e f g h i r q s x y z u v w l)]) := by
  refine acalls_of (inl := hasI (P := Tryz.prog) [] []) (base [shapeMay_k, rayfine_k, solid3_k, struck3_k] [] []) 0 Strike3_f (And.intro (by kernel_rfl) ?_)
  repeat' (first | refine And.intro ?_ ?_ | (with_reducible exact ff_elim) | (with_reducible exact tf_elim) | intro _ | (with_reducible rfl) | ((with_reducible refine lk_t ?_); exact rfl) | ((with_reducible refine pf_t ?_); exact rfl) | refine tell ?_ | exact True.intro | (refine IsT.of ?_; kernel_rfl))
  all_goals ((try refine Tell.mk ?_); first | with_reducible rfl | ((show (_ : Int) ≤ _); decide) | ((show (_ : Int) < _); decide) | (with_reducible refine gb_t ?_; with_reducible assumption) | with_reducible assumption | (with_reducible refine gb_f ?_; with_reducible assumption) | (simp only [sE3, bne, *, cond_true, cond_false]; done) | ((with_reducible refine ks_t ?_); rfl) | ((with_reducible refine pk_t ?_); rfl) | ((with_reducible refine pf_t ?_); rfl) | ((with_reducible refine lk_t ?_); rfl) | ((with_reducible refine okF_t ?_); kernel_rfl) | grind [gb, sE3, bne])
def Strike3_k : Con Tryz.prog := ⟨15, fun args => match args with | [.agg [.int .i64 3, .flt a, .flt b, .flt c, .flt d, .flt e, .flt f, .flt g, .flt h, .flt i, .flt r, .flt q, .int .i64 s], .agg [.flt x, .flt y, .flt z, .flt u, .flt v, .flt w, .flt l]] => .ok (none) (.tup [.flt (bif sE3 a b c d e f g h i r q s x y z u v w l == 0 then sT3 a b c d e f g h i x y z u v w l else 0), .bool (bif sE3 a b c d e f g h i r q s x y z u v w l == 0 then sO3 a b c d e f g h i x y z u v w l else false), .int .i64 (sE3 a b c d e f g h i r q s x y z u v w l)]) | _ => .no, by
  intro args p r h hp
  split at h
  · cases h; exact Strike3_a _ _ _ _ _ _ _ _ _ _ _ _ _ _ _ _ _ _ _
  · cases h⟩
def sO4 (a b c d e f r x y z u v w l : Nat) : Bool := stB (meetB (F .sub a r) (F .sub b r) (F .sub c r) (F .add a r) (F .add b r) (F .add c r) x y z u v w l) (plaT a b c d e f x y z u v w) (plaO a b c d e f r x y z u v w) l
def sT4 (a b c d e f r x y z u v w l : Nat) : Nat := stT (meetB (F .sub a r) (F .sub b r) (F .sub c r) (F .add a r) (F .add b r) (F .add c r) x y z u v w l) (plaT a b c d e f x y z u v w) (plaO a b c d e f r x y z u v w) l (meetX (F .sub a r) (F .sub b r) (F .sub c r) (F .add a r) (F .add b r) (F .add c r) x y z u v w l) (meetY (F .sub a r) (F .sub b r) (F .sub c r) (F .add a r) (F .add b r) (F .add c r) x y z u v w l)
theorem struck4_f : FnOk Tryz.prog 47 Tryz.f47 := ⟨Tryz.func47, by kernel_rfl⟩
theorem struck4_a (a b c d e f r x y z u v w l : Nat) : ACalls Tryz.prog 47 [.ifc 116 (.agg [.flt a, .flt b, .flt c, .flt d, .flt e, .flt f, .flt r]), .agg [.flt x, .flt y, .flt z, .flt u, .flt v, .flt w, .flt l]] (.tup [.flt (sT4 a b c d e f r x y z u v w l), .bool (sO4 a b c d e f r x y z u v w l)]) := by
  refine acalls_of (inl := hasI (P := Tryz.prog) [] []) (base [plateB_k, meets_k, plateS_k] [] []) 0 struck4_f (And.intro (by kernel_rfl) ?_)
  repeat' (first | refine And.intro ?_ ?_ | (with_reducible exact ff_elim) | (with_reducible exact tf_elim) | intro _ | (with_reducible rfl) | ((with_reducible refine lk_t ?_); exact rfl) | ((with_reducible refine pf_t ?_); exact rfl) | refine tell ?_ | exact True.intro | (refine IsT.of ?_; kernel_rfl))
  all_goals ((try refine Tell.mk ?_); first | with_reducible rfl | ((show (_ : Int) ≤ _); decide) | ((show (_ : Int) < _); decide) | (with_reducible refine gb_t ?_; with_reducible assumption) | with_reducible assumption | (with_reducible refine gb_f ?_; with_reducible assumption) | (simp only [sT4, sO4, stT, stB, *, cond_true, cond_false]; done) | ((with_reducible refine ks_t ?_); rfl) | ((with_reducible refine pk_t ?_); rfl) | ((with_reducible refine pf_t ?_); rfl) | ((with_reducible refine lk_t ?_); rfl) | ((with_reducible refine okF_t ?_); kernel_rfl) | grind [gb, sT4, sO4, stT, stB])
def struck4_k : Con Tryz.prog := ⟨47, fun args => match args with | [.ifc 116 (.agg [.flt a, .flt b, .flt c, .flt d, .flt e, .flt f, .flt r]), .agg [.flt x, .flt y, .flt z, .flt u, .flt v, .flt w, .flt l]] => .ok (none) (.tup [.flt (sT4 a b c d e f r x y z u v w l), .bool (sO4 a b c d e f r x y z u v w l)]) | _ => .no, by
  intro args p r h hp
  split at h
  · cases h; exact struck4_a _ _ _ _ _ _ _ _ _ _ _ _ _ _
  · cases h⟩
theorem solid4_f : FnOk Tryz.prog 46 Tryz.f46 := ⟨Tryz.func46, by kernel_rfl⟩
theorem solid4_a (a b c d e f g h i r q : Nat) (s : Int) (hpre : shapeE 4 a b c d e f g h i r q s = 0) : ACalls Tryz.prog 46 [.agg [.int .i64 4, .flt a, .flt b, .flt c, .flt d, .flt e, .flt f, .flt g, .flt h, .flt i, .flt r, .flt q, .int .i64 s]] (.tup [.ifc 116 (.agg [.flt a, .flt b, .flt c, .flt d, .flt e, .flt f, .flt r]), .int .i64 0]) := by
  refine acalls_of (inl := hasI (P := Tryz.prog) [] []) (base [fine_k, near_k, fitsPlate_k] [] []) 0 solid4_f (And.intro (by kernel_rfl) ?_)
  repeat' (first | refine And.intro ?_ ?_ | (with_reducible exact ff_elim) | (with_reducible exact tf_elim) | (intro h; exact absurd h (by decide)) | intro _ | (with_reducible rfl) | ((with_reducible refine lk_t ?_); exact rfl) | ((with_reducible refine pf_t ?_); exact rfl) | refine tell ?_ | exact True.intro | (refine IsT.of ?_; kernel_rfl))
  all_goals (try refine Tell.mk ?_)
  all_goals first | with_reducible rfl | with_reducible assumption | (with_reducible refine gb_t ?_; with_reducible assumption) | (with_reducible refine gb_f ?_; with_reducible assumption) | ((with_reducible refine lk_t ?_); rfl) | ((with_reducible refine ks_t ?_); rfl) | (show (_ : AV) = _; kernel_rfl) | exact sh_4 hpre | (exfalso; simp only [shapeE] at hpre; simp_all; done) | (exfalso; clear hf; grind [shapeE]) | (exfalso; grind [shapeE]) | trace_state
def solid4_k : Con Tryz.prog := ⟨46, fun args => match args with | [.agg [.int .i64 4, .flt a, .flt b, .flt c, .flt d, .flt e, .flt f, .flt g, .flt h, .flt i, .flt r, .flt q, .int .i64 s]] => .ok (some (shapeE 4 a b c d e f g h i r q s = 0)) (.tup [.ifc 116 (.agg [.flt a, .flt b, .flt c, .flt d, .flt e, .flt f, .flt r]), .int .i64 0]) | _ => .no, by
  intro args p r h hp
  split at h
  · cases h; exact solid4_a _ _ _ _ _ _ _ _ _ _ _ _ hp
  · cases h⟩
def sE4 (a b c d e f g h i r q : Nat) (s : Int) (x y z u v w l : Nat) : Int := bif !(shapeE 4 a b c d e f g h i r q s == 0) then shapeE 4 a b c d e f g h i r q s else rayV x y z u v w l
theorem Strike4_f : FnOk Tryz.prog 15 Tryz.f15 := ⟨Tryz.func15, by kernel_rfl⟩
theorem Strike4_a (a b c d e f g h i r q : Nat) (s : Int) (x y z u v w l : Nat) : ACalls Tryz.prog 15 [.agg [.int .i64 4, .flt a, .flt b, .flt c, .flt d, .flt e, .flt f, .flt g, .flt h, .flt i, .flt r, .flt q, .int .i64 s], .agg [.flt x, .flt y, .flt z, .flt u, .flt v, .flt w, .flt l]] (.tup [.flt (bif sE4 a b c d e f g h i r q s x y z u v w l == 0 then sT4 a b c d e f r x y z u v w l else 0), .bool (bif sE4 a b c d e f g h i r q s x y z u v w l == 0 then sO4 a b c d e f r x y z u v w l else false), .int .i64 (sE4 a b c d e f g h i r q s x y z u v w l)]) := by
  refine acalls_of (inl := hasI (P := Tryz.prog) [] []) (base [shapeMay_k, rayfine_k, solid4_k, struck4_k] [] []) 0 Strike4_f (And.intro (by kernel_rfl) ?_)
  repeat' (first | refine And.intro ?_ ?_ | (with_reducible exact ff_elim) | (with_reducible exact tf_elim) | intro _ | (with_reducible rfl) | ((with_reducible refine lk_t ?_); exact rfl) | ((with_reducible refine pf_t ?_); exact rfl) | refine tell ?_ | exact True.intro | (refine IsT.of ?_; kernel_rfl))
  all_goals ((try refine Tell.mk ?_); first | with_reducible rfl | ((show (_ : Int) ≤ _); decide) | ((show (_ : Int) < _); decide) | (with_reducible refine gb_t ?_; with_reducible assumption) | with_reducible assumption | (with_reducible refine gb_f ?_; with_reducible assumption) | (simp only [sE4, bne, *, cond_true, cond_false]; done) | ((with_reducible refine ks_t ?_); rfl) | ((with_reducible refine pk_t ?_); rfl) | ((with_reducible refine pf_t ?_); rfl) | ((with_reducible refine lk_t ?_); rfl) | ((with_reducible refine okF_t ?_); kernel_rfl) | grind [gb, sE4, bne])
def Strike4_k : Con Tryz.prog := ⟨15, fun args => match args with | [.agg [.int .i64 4, .flt a, .flt b, .flt c, .flt d, .flt e, .flt f, .flt g, .flt h, .flt i, .flt r, .flt q, .int .i64 s], .agg [.flt x, .flt y, .flt z, .flt u, .flt v, .flt w, .flt l]] => .ok (none) (.tup [.flt (bif sE4 a b c d e f g h i r q s x y z u v w l == 0 then sT4 a b c d e f r x y z u v w l else 0), .bool (bif sE4 a b c d e f g h i r q s x y z u v w l == 0 then sO4 a b c d e f r x y z u v w l else false), .int .i64 (sE4 a b c d e f g h i r q s x y z u v w l)]) | _ => .no, by
  intro args p r h hp
  split at h
  · cases h; exact Strike4_a _ _ _ _ _ _ _ _ _ _ _ _ _ _ _ _ _ _ _
  · cases h⟩
def sO5 (a b c d e f r x y z u v w l : Nat) : Bool := stB (meetB (F .sub (lessV a (F .add a d)) (wo (aloneV d e f) 0 r)) (F .sub (lessV b (F .add b e)) (wo (aloneV d e f) 1 r)) (F .sub (lessV c (F .add c f)) (wz (aloneV d e f) r)) (F .add (moreV a (F .add a d)) (wo (aloneV d e f) 0 r)) (F .add (moreV b (F .add b e)) (wo (aloneV d e f) 1 r)) (F .add (moreV c (F .add c f)) (wz (aloneV d e f) r)) x y z u v w l) (tuT a b c d e f r x y z u v w l (meetX (F .sub (lessV a (F .add a d)) (wo (aloneV d e f) 0 r)) (F .sub (lessV b (F .add b e)) (wo (aloneV d e f) 1 r)) (F .sub (lessV c (F .add c f)) (wz (aloneV d e f) r)) (F .add (moreV a (F .add a d)) (wo (aloneV d e f) 0 r)) (F .add (moreV b (F .add b e)) (wo (aloneV d e f) 1 r)) (F .add (moreV c (F .add c f)) (wz (aloneV d e f) r)) x y z u v w l) (meetY (F .sub (lessV a (F .add a d)) (wo (aloneV d e f) 0 r)) (F .sub (lessV b (F .add b e)) (wo (aloneV d e f) 1 r)) (F .sub (lessV c (F .add c f)) (wz (aloneV d e f) r)) (F .add (moreV a (F .add a d)) (wo (aloneV d e f) 0 r)) (F .add (moreV b (F .add b e)) (wo (aloneV d e f) 1 r)) (F .add (moreV c (F .add c f)) (wz (aloneV d e f) r)) x y z u v w l)) (tuO a b c d e f r x y z u v w (meetX (F .sub (lessV a (F .add a d)) (wo (aloneV d e f) 0 r)) (F .sub (lessV b (F .add b e)) (wo (aloneV d e f) 1 r)) (F .sub (lessV c (F .add c f)) (wz (aloneV d e f) r)) (F .add (moreV a (F .add a d)) (wo (aloneV d e f) 0 r)) (F .add (moreV b (F .add b e)) (wo (aloneV d e f) 1 r)) (F .add (moreV c (F .add c f)) (wz (aloneV d e f) r)) x y z u v w l) (meetY (F .sub (lessV a (F .add a d)) (wo (aloneV d e f) 0 r)) (F .sub (lessV b (F .add b e)) (wo (aloneV d e f) 1 r)) (F .sub (lessV c (F .add c f)) (wz (aloneV d e f) r)) (F .add (moreV a (F .add a d)) (wo (aloneV d e f) 0 r)) (F .add (moreV b (F .add b e)) (wo (aloneV d e f) 1 r)) (F .add (moreV c (F .add c f)) (wz (aloneV d e f) r)) x y z u v w l)) l
def sT5 (a b c d e f r x y z u v w l : Nat) : Nat := stT (meetB (F .sub (lessV a (F .add a d)) (wo (aloneV d e f) 0 r)) (F .sub (lessV b (F .add b e)) (wo (aloneV d e f) 1 r)) (F .sub (lessV c (F .add c f)) (wz (aloneV d e f) r)) (F .add (moreV a (F .add a d)) (wo (aloneV d e f) 0 r)) (F .add (moreV b (F .add b e)) (wo (aloneV d e f) 1 r)) (F .add (moreV c (F .add c f)) (wz (aloneV d e f) r)) x y z u v w l) (tuT a b c d e f r x y z u v w l (meetX (F .sub (lessV a (F .add a d)) (wo (aloneV d e f) 0 r)) (F .sub (lessV b (F .add b e)) (wo (aloneV d e f) 1 r)) (F .sub (lessV c (F .add c f)) (wz (aloneV d e f) r)) (F .add (moreV a (F .add a d)) (wo (aloneV d e f) 0 r)) (F .add (moreV b (F .add b e)) (wo (aloneV d e f) 1 r)) (F .add (moreV c (F .add c f)) (wz (aloneV d e f) r)) x y z u v w l) (meetY (F .sub (lessV a (F .add a d)) (wo (aloneV d e f) 0 r)) (F .sub (lessV b (F .add b e)) (wo (aloneV d e f) 1 r)) (F .sub (lessV c (F .add c f)) (wz (aloneV d e f) r)) (F .add (moreV a (F .add a d)) (wo (aloneV d e f) 0 r)) (F .add (moreV b (F .add b e)) (wo (aloneV d e f) 1 r)) (F .add (moreV c (F .add c f)) (wz (aloneV d e f) r)) x y z u v w l)) (tuO a b c d e f r x y z u v w (meetX (F .sub (lessV a (F .add a d)) (wo (aloneV d e f) 0 r)) (F .sub (lessV b (F .add b e)) (wo (aloneV d e f) 1 r)) (F .sub (lessV c (F .add c f)) (wz (aloneV d e f) r)) (F .add (moreV a (F .add a d)) (wo (aloneV d e f) 0 r)) (F .add (moreV b (F .add b e)) (wo (aloneV d e f) 1 r)) (F .add (moreV c (F .add c f)) (wz (aloneV d e f) r)) x y z u v w l) (meetY (F .sub (lessV a (F .add a d)) (wo (aloneV d e f) 0 r)) (F .sub (lessV b (F .add b e)) (wo (aloneV d e f) 1 r)) (F .sub (lessV c (F .add c f)) (wz (aloneV d e f) r)) (F .add (moreV a (F .add a d)) (wo (aloneV d e f) 0 r)) (F .add (moreV b (F .add b e)) (wo (aloneV d e f) 1 r)) (F .add (moreV c (F .add c f)) (wz (aloneV d e f) r)) x y z u v w l)) l (meetX (F .sub (lessV a (F .add a d)) (wo (aloneV d e f) 0 r)) (F .sub (lessV b (F .add b e)) (wo (aloneV d e f) 1 r)) (F .sub (lessV c (F .add c f)) (wz (aloneV d e f) r)) (F .add (moreV a (F .add a d)) (wo (aloneV d e f) 0 r)) (F .add (moreV b (F .add b e)) (wo (aloneV d e f) 1 r)) (F .add (moreV c (F .add c f)) (wz (aloneV d e f) r)) x y z u v w l) (meetY (F .sub (lessV a (F .add a d)) (wo (aloneV d e f) 0 r)) (F .sub (lessV b (F .add b e)) (wo (aloneV d e f) 1 r)) (F .sub (lessV c (F .add c f)) (wz (aloneV d e f) r)) (F .add (moreV a (F .add a d)) (wo (aloneV d e f) 0 r)) (F .add (moreV b (F .add b e)) (wo (aloneV d e f) 1 r)) (F .add (moreV c (F .add c f)) (wz (aloneV d e f) r)) x y z u v w l)
theorem struck5_f : FnOk Tryz.prog 47 Tryz.f47 := ⟨Tryz.func47, by kernel_rfl⟩
theorem struck5_a (a b c d e f r x y z u v w l : Nat) : ACalls Tryz.prog 47 [.ifc 118 (.agg [.flt a, .flt b, .flt c, .flt d, .flt e, .flt f, .flt r]), .agg [.flt x, .flt y, .flt z, .flt u, .flt v, .flt w, .flt l]] (.tup [.flt (sT5 a b c d e f r x y z u v w l), .bool (sO5 a b c d e f r x y z u v w l)]) := by
  refine acalls_of (inl := hasI (P := Tryz.prog) [] []) (base [tubeB_k, meets_k, tubeS_k] [] []) 0 struck5_f (And.intro (by kernel_rfl) ?_)
  repeat' (first | refine And.intro ?_ ?_ | (with_reducible exact ff_elim) | (with_reducible exact tf_elim) | intro _ | (with_reducible rfl) | ((with_reducible refine lk_t ?_); exact rfl) | ((with_reducible refine pf_t ?_); exact rfl) | refine tell ?_ | exact True.intro | (refine IsT.of ?_; kernel_rfl))
  all_goals ((try refine Tell.mk ?_); first | with_reducible rfl | ((show (_ : Int) ≤ _); decide) | ((show (_ : Int) < _); decide) | (with_reducible refine gb_t ?_; with_reducible assumption) | with_reducible assumption | (with_reducible refine gb_f ?_; with_reducible assumption) | (simp only [sT5, sO5, stT, stB, *, cond_true, cond_false]; done) | ((with_reducible refine ks_t ?_); rfl) | ((with_reducible refine pk_t ?_); rfl) | ((with_reducible refine pf_t ?_); rfl) | ((with_reducible refine lk_t ?_); rfl) | ((with_reducible refine okF_t ?_); kernel_rfl) | grind [gb, sT5, sO5, stT, stB])
def struck5_k : Con Tryz.prog := ⟨47, fun args => match args with | [.ifc 118 (.agg [.flt a, .flt b, .flt c, .flt d, .flt e, .flt f, .flt r]), .agg [.flt x, .flt y, .flt z, .flt u, .flt v, .flt w, .flt l]] => .ok (none) (.tup [.flt (sT5 a b c d e f r x y z u v w l), .bool (sO5 a b c d e f r x y z u v w l)]) | _ => .no, by
  intro args p r h hp
  split at h
  · cases h; exact struck5_a _ _ _ _ _ _ _ _ _ _ _ _ _ _
  · cases h⟩
theorem solid5_f : FnOk Tryz.prog 46 Tryz.f46 := ⟨Tryz.func46, by kernel_rfl⟩
theorem solid5_a (a b c d e f g h i r q : Nat) (s : Int) (hpre : shapeE 5 a b c d e f g h i r q s = 0) : ACalls Tryz.prog 46 [.agg [.int .i64 5, .flt a, .flt b, .flt c, .flt d, .flt e, .flt f, .flt g, .flt h, .flt i, .flt r, .flt q, .int .i64 s]] (.tup [.ifc 118 (.agg [.flt a, .flt b, .flt c, .flt d, .flt e, .flt f, .flt r]), .int .i64 0]) := by
  refine acalls_of (inl := hasI (P := Tryz.prog) [] []) (base [fine_k, near_k, fitsTube_k] [] []) 0 solid5_f (And.intro (by kernel_rfl) ?_)
  repeat' (first | refine And.intro ?_ ?_ | (with_reducible exact ff_elim) | (with_reducible exact tf_elim) | (intro h; exact absurd h (by decide)) | intro _ | (with_reducible rfl) | ((with_reducible refine lk_t ?_); exact rfl) | ((with_reducible refine pf_t ?_); exact rfl) | refine tell ?_ | exact True.intro | (refine IsT.of ?_; kernel_rfl))
  all_goals (try refine Tell.mk ?_)
  all_goals first | with_reducible rfl | with_reducible assumption | (with_reducible refine gb_t ?_; with_reducible assumption) | (with_reducible refine gb_f ?_; with_reducible assumption) | ((with_reducible refine lk_t ?_); rfl) | ((with_reducible refine ks_t ?_); rfl) | (show (_ : AV) = _; kernel_rfl) | exact sh_5 hpre | (exfalso; simp only [shapeE] at hpre; simp_all; done) | (exfalso; clear hf; grind [shapeE]) | (exfalso; grind [shapeE]) | trace_state
def solid5_k : Con Tryz.prog := ⟨46, fun args => match args with | [.agg [.int .i64 5, .flt a, .flt b, .flt c, .flt d, .flt e, .flt f, .flt g, .flt h, .flt i, .flt r, .flt q, .int .i64 s]] => .ok (some (shapeE 5 a b c d e f g h i r q s = 0)) (.tup [.ifc 118 (.agg [.flt a, .flt b, .flt c, .flt d, .flt e, .flt f, .flt r]), .int .i64 0]) | _ => .no, by
  intro args p r h hp
  split at h
  · cases h; exact solid5_a _ _ _ _ _ _ _ _ _ _ _ _ hp
  · cases h⟩
def sE5 (a b c d e f g h i r q : Nat) (s : Int) (x y z u v w l : Nat) : Int := bif !(shapeE 5 a b c d e f g h i r q s == 0) then shapeE 5 a b c d e f g h i r q s else rayV x y z u v w l
theorem Strike5_f : FnOk Tryz.prog 15 Tryz.f15 := ⟨Tryz.func15, by kernel_rfl⟩
theorem Strike5_a (a b c d e f g h i r q : Nat) (s : Int) (x y z u v w l : Nat) : ACalls Tryz.prog 15 [.agg [.int .i64 5, .flt a, .flt b, .flt c, .flt d, .flt e, .flt f, .flt g, .flt h, .flt i, .flt r, .flt q, .int .i64 s], .agg [.flt x, .flt y, .flt z, .flt u, .flt v, .flt w, .flt l]] (.tup [.flt (bif sE5 a b c d e f g h i r q s x y z u v w l == 0 then sT5 a b c d e f r x y z u v w l else 0), .bool (bif sE5 a b c d e f g h i r q s x y z u v w l == 0 then sO5 a b c d e f r x y z u v w l else false), .int .i64 (sE5 a b c d e f g h i r q s x y z u v w l)]) := by
  refine acalls_of (inl := hasI (P := Tryz.prog) [] []) (base [shapeMay_k, rayfine_k, solid5_k, struck5_k] [] []) 0 Strike5_f (And.intro (by kernel_rfl) ?_)
  repeat' (first | refine And.intro ?_ ?_ | (with_reducible exact ff_elim) | (with_reducible exact tf_elim) | intro _ | (with_reducible rfl) | ((with_reducible refine lk_t ?_); exact rfl) | ((with_reducible refine pf_t ?_); exact rfl) | refine tell ?_ | exact True.intro | (refine IsT.of ?_; kernel_rfl))
  all_goals ((try refine Tell.mk ?_); first | with_reducible rfl | ((show (_ : Int) ≤ _); decide) | ((show (_ : Int) < _); decide) | (with_reducible refine gb_t ?_; with_reducible assumption) | with_reducible assumption | (with_reducible refine gb_f ?_; with_reducible assumption) | (simp only [sE5, bne, *, cond_true, cond_false]; done) | ((with_reducible refine ks_t ?_); rfl) | ((with_reducible refine pk_t ?_); rfl) | ((with_reducible refine pf_t ?_); rfl) | ((with_reducible refine lk_t ?_); rfl) | ((with_reducible refine okF_t ?_); kernel_rfl) | grind [gb, sE5, bne])
def Strike5_k : Con Tryz.prog := ⟨15, fun args => match args with | [.agg [.int .i64 5, .flt a, .flt b, .flt c, .flt d, .flt e, .flt f, .flt g, .flt h, .flt i, .flt r, .flt q, .int .i64 s], .agg [.flt x, .flt y, .flt z, .flt u, .flt v, .flt w, .flt l]] => .ok (none) (.tup [.flt (bif sE5 a b c d e f g h i r q s x y z u v w l == 0 then sT5 a b c d e f r x y z u v w l else 0), .bool (bif sE5 a b c d e f g h i r q s x y z u v w l == 0 then sO5 a b c d e f r x y z u v w l else false), .int .i64 (sE5 a b c d e f g h i r q s x y z u v w l)]) | _ => .no, by
  intro args p r h hp
  split at h
  · cases h; exact Strike5_a _ _ _ _ _ _ _ _ _ _ _ _ _ _ _ _ _ _ _
  · cases h⟩
end Go.Proofs.YtdjckabogdohcaaGreat
/- Sides of rays: the same for both ways, but for the sign; what goes by within four goes through one of two triangles. -/
namespace Go.Proofs.YtdjckabogdohcaaGreat
open Go.RowKit Ev Flt
set_option linter.unusedVariables false
set_option linter.unusedSimpArgs false
set_option maxRecDepth 20000

theorem V_zero {x : Nat} (h : nearB x = true) : (feq x 0 = true ↔ V x = 0) := by
  rw [feq_V (near_Q h).fin Fin_0, V_0, decide_eq_true_eq]
theorem fine3 {a b c : Nat} (h : fineB a b c = true) : nearB a = true ∧ nearB b = true ∧ nearB c = true := by
  unfold fineB at h; simp only [Bool.and_eq_true] at h; exact ⟨h.1.1, h.1.2, h.2⟩
/-- A place's number, seen along a ray. -/
theorem place_Q {b q e d p a : Nat} (hb : nearB b = true) (hq : nearB q = true) (he : nearB e = true) (hd : nearB d = true) (hp : nearB p = true) (ha : nearB a = true) (h0 : V d ≠ 0) (h : (V e).natAbs ≤ (V d).natAbs) :
    Q (F .sub (F .sub q b) (F .mul (F .quo e d) (F .sub p a))) 300000000 := by
  have h1 := (near_Q hq).sub (near_Q hb) (by grind)
  have h2 := (near_Q hp).sub (near_Q ha) (by grind)
  have h3 := Q.ratio (near_Q he).fin (near_Q hd).fin h0 h
  have h4 := h3.mul h2 (by grind)
  exact (h1.sub h4 (by grind)).le (by grind)
/-- A side, and the other way. -/
theorem side_turn {X Y X' Y' : Nat} (hX : Q X 300000000) (hY : Q Y 300000000) (hX' : Q X' 300000000) (hY' : Q Y' 300000000) :
    Q (F .sub (F .mul X Y') (F .mul Y X')) 200000000000000000 ∧ key (F .sub (F .mul X' Y) (F .mul Y' X)) = -key (F .sub (F .mul X Y') (F .mul Y X')) := by
  have h1 := hX.mul hY' (by grind)
  have h2 := hY.mul hX' (by grind)
  rw [F_mul_comm X' Y, F_mul_comm Y' X]
  exact ⟨(h1.sub h2 (by grind)).le (by grind), (sub_turn h1.fin h2.fin).2.2⟩
theorem gt_key {x : Nat} (h : Flt.Fin x) : fgt x 0 = decide (0 < key x) ∧ flt x 0 = decide (key x < 0) := by
  have n0 : isN 0 = false := by decide +kernel
  rw [fgt_key h.notN n0, flt_key h.notN n0, key_0]
  exact ⟨rfl, rfl⟩
/-- Three sides, two above nought and one not below it. -/
theorem thr_pos {x y z : Nat} (hx : Q x 200000000000000000) (hy : Q y 200000000000000000) (hz : Q z 200000000000000000) (h1 : 0 < key x) (h2 : 0 ≤ key y) (h3 : 0 < key z) : thrB x y z = true ∧ thrB x z y = true := by
  have n0 : isN 0 = false := by decide +kernel
  have vx := (V_pos hx.fin).2 h1
  have vy := (V_nonneg hy.fin).2 h2
  have vz := (V_pos hz.fin).2 h3
  have s1 := hx.add hy (by grind)
  have s2 := hx.add hz (by grind)
  have p1 := add_pos hx.fin hy.fin (by omega)
  have p2 := add_pos hx.fin hz.fin (by omega)
  have v1 := (V_pos s1.fin).2 p1.2
  have v2 := (V_pos s2.fin).2 p2.2
  have q1 := add_pos s1.fin hz.fin (by omega)
  have q2 := add_pos s2.fin hy.fin (by omega)
  unfold thrB
  rw [(gt_key hx.fin).1, (gt_key hx.fin).2, (gt_key hy.fin).1, (gt_key hy.fin).2, (gt_key hz.fin).1, (gt_key hz.fin).2, feq_key q1.1 n0, feq_key q2.1 n0, key_0,
    decide_eq_false (show ¬ key x < 0 by omega), decide_eq_false (show ¬ key y < 0 by omega), decide_eq_false (show ¬ key z < 0 by omega), decide_eq_false (show ¬ key (F .add (F .add x y) z) = 0 by omega), decide_eq_false (show ¬ key (F .add (F .add x z) y) = 0 by omega)]
  exact ⟨rfl, rfl⟩
theorem sides_neg {x y : Nat} (hx : Q x 200000000000000000) (hy : Q y 200000000000000000) (h : key y = -key x) : feq x (Fneg y) = true := by
  have n := key_Fneg hy.fin.notN
  rw [feq_key hx.fin.notN n.1, n.2, h]
  simp
theorem two_thr {ab bc cd da ca ac : Nat} (h1 : Q ab 200000000000000000) (h2 : Q bc 200000000000000000) (h3 : Q cd 200000000000000000) (h4 : Q da 200000000000000000) (h5 : Q ca 200000000000000000) (h6 : Q ac 200000000000000000) (h : key ac = -key ca)
    (k1 : fgt ab 0 = true) (k2 : fgt bc 0 = true) (k3 : fgt cd 0 = true) (k4 : fgt da 0 = true) : thrB bc ca ab = true ∨ thrB cd da ac = true := by
  rw [(gt_key h1.fin).1, decide_eq_true_eq] at k1
  rw [(gt_key h2.fin).1, decide_eq_true_eq] at k2
  rw [(gt_key h3.fin).1, decide_eq_true_eq] at k3
  rw [(gt_key h4.fin).1, decide_eq_true_eq] at k4
  by_cases g : 0 ≤ key ca
  · exact .inl (thr_pos h2 h5 h1 k2 g k1).1
  · exact .inr (thr_pos h3 h6 h4 k3 (by omega) k4).2
theorem abs_key {x : Nat} (h : isN x = false) : isN (absF x) = false ∧ key (absF x) = (key x).natAbs := by
  have n : isN (x % 9223372036854775808) = false := by rw [isN_mod (y := x) (by omega)]; exact h
  unfold absF
  rw [cn_notN n]
  refine ⟨n, ?_⟩
  unfold key
  rw [Nat.mod_mod, show x % 9223372036854775808 / 9223372036854775808 % 2 = 0 by omega]
  unfold sg
  have : x / 9223372036854775808 % 2 = 0 ∨ x / 9223372036854775808 % 2 = 1 := by omega
  rcases this with e | e <;> rw [e] <;> simp <;> omega
theorem V_abs {x : Nat} (h : Flt.Fin x) : (V x).natAbs = Vr (key x).natAbs := by
  obtain ⟨s, r, k, h1, h2, h3⟩ := read_sr x
  have hr : r < II := by
    rcases Nat.lt_trichotomy r II with g | g | g
    · exact g
    · obtain ⟨t, m, i, e⟩ := h
      rw [h2 g] at e; cases e
    · have := h3 g; rw [h.notN] at this; cases this
  obtain ⟨m, i, _, e⟩ := h1 hr
  rw [e, k]
  unfold sg
  cases s <;> simp
theorem V_le {x y : Nat} (hx : Flt.Fin x) (hy : Flt.Fin y) (h : (key x).natAbs ≤ (key y).natAbs) : (V x).natAbs ≤ (V y).natAbs := by
  rw [V_abs hx, V_abs hy]
  rcases Nat.lt_or_eq_of_le h with g | g
  · exact Nat.le_of_lt (Vr_lt g)
  · rw [g]; exact Nat.le_refl _
theorem abs_gt {x y : Nat} (hx : isN x = false) (hy : isN y = false) : fgt (absF x) (absF y) = decide ((key y).natAbs < (key x).natAbs) := by
  rw [fgt_key (abs_key hx).1 (abs_key hy).1, (abs_key hx).2, (abs_key hy).2]
  exact decide_eq_decide.2 (by omega)
/-- The greatest axis is no lesser than the others. -/
theorem deep_max {d e f : Nat} (hd : nearB d = true) (he : nearB e = true) (hf : nearB f = true) :
    (deepV d e f = 0 → (V e).natAbs ≤ (V d).natAbs ∧ (V f).natAbs ≤ (V d).natAbs) ∧ (deepV d e f = 1 → (V d).natAbs ≤ (V e).natAbs ∧ (V f).natAbs ≤ (V e).natAbs) ∧ (deepV d e f = 2 → (V d).natAbs ≤ (V f).natAbs ∧ (V e).natAbs ≤ (V f).natAbs) := by
  have nd := (near_Q hd).fin
  have ne := (near_Q he).fin
  have nf := (near_Q hf).fin
  unfold deepV
  rw [abs_gt ne.notN nd.notN, abs_gt nf.notN ne.notN, abs_gt nf.notN nd.notN]
  by_cases g1 : (key d).natAbs < (key e).natAbs
  · rw [decide_eq_true g1]
    by_cases g2 : (key e).natAbs < (key f).natAbs
    · rw [decide_eq_true g2]
      exact ⟨fun h => (by cases h), fun h => (by cases h), fun _ => ⟨V_le nd nf (by omega), V_le ne nf (by omega)⟩⟩
    · rw [decide_eq_false g2]
      exact ⟨fun h => (by cases h), fun _ => ⟨V_le nd ne (by omega), V_le nf ne (by omega)⟩, fun h => (by cases h)⟩
  · rw [decide_eq_false g1]
    by_cases g2 : (key d).natAbs < (key f).natAbs
    · rw [decide_eq_true g2]
      exact ⟨fun h => (by cases h), fun h => (by cases h), fun _ => ⟨V_le nd nf (by omega), V_le ne nf (by omega)⟩⟩
    · rw [decide_eq_false g2]
      exact ⟨fun _ => ⟨V_le ne nd (by omega), V_le nf nd (by omega)⟩, fun h => (by cases h), fun h => (by cases h)⟩
theorem ray_ok {a b c d e f l : Nat} (h : rayV a b c d e f l = 0) : (fineB a b c = true ∧ fineB d e f = true ∧ nearB l = true) ∧ ¬ (V d = 0 ∧ V e = 0 ∧ V f = 0) := by
  unfold rayV at h
  cases h1 : fineB a b c <;> cases h2 : fineB d e f <;> cases h3 : nearB l <;> rw [h1, h2, h3] at h <;> first | (cases h; done) | skip
  refine ⟨⟨rfl, rfl, rfl⟩, ?_⟩
  rintro ⟨v1, v2, v3⟩
  obtain ⟨n1, n2, n3⟩ := fine3 h2
  rw [(V_zero n1).2 v1, (V_zero n2).2 v2, (V_zero n3).2 v3] at h
  cases h
theorem edg_ok {a b c d e f l p q r u v w : Nat} (h : edgE a b c d e f l p q r u v w = 0) : rayV a b c d e f l = 0 ∧ fineB p q r = true ∧ fineB u v w = true := by
  unfold edgE at h
  by_cases h0 : rayV a b c d e f l = 0
  · rw [h0] at h
    cases h1 : fineB p q r <;> cases h2 : fineB u v w <;> rw [h1, h2] at h <;> first | (cases h; done) | exact ⟨h0, rfl, rfl⟩
  · have : (!(rayV a b c d e f l == 0)) = true := by simpa using h0
    rw [this, cond_true] at h
    exact absurd h h0
theorem edg_swap (a b c d e f l p q r u v w : Nat) : edgE a b c d e f l u v w p q r = edgE a b c d e f l p q r u v w := by
  unfold edgE
  cases fineB p q r <;> cases fineB u v w <;> rfl
theorem pl0 {a b c d e f l p q r : Nat} (h : deepV d e f = 0) (hr : rayV a b c d e f l = 0) (hp : fineB p q r = true) : Q (plX0 a b c d e f p q r) 300000000 ∧ Q (plY0 a b c d e f p q r) 300000000 := by
  obtain ⟨⟨h1, h2, _⟩, h0⟩ := ray_ok hr
  obtain ⟨a1, a2, a3⟩ := fine3 h1
  obtain ⟨d1, d2, d3⟩ := fine3 h2
  obtain ⟨p1, p2, p3⟩ := fine3 hp
  have m := (deep_max d1 d2 d3).1 h
  have n : V d ≠ 0 := fun e => h0 (by omega)
  exact ⟨place_Q a2 p2 d2 d1 p1 a1 n m.1, place_Q a3 p3 d3 d1 p1 a1 n m.2⟩
theorem sd0 {a b c d e f l p q r u v w : Nat} (h : deepV d e f = 0) (he : edgE a b c d e f l p q r u v w = 0) : Q (sdV0 a b c d e f p q r u v w) 200000000000000000 ∧ Q (sdV0 a b c d e f u v w p q r) 200000000000000000 ∧ key (sdV0 a b c d e f u v w p q r) = -key (sdV0 a b c d e f p q r u v w) := by
  obtain ⟨hr, hp, hu⟩ := edg_ok he
  have p1 := pl0 h hr hp
  have p2 := pl0 h hr hu
  have s1 := side_turn p1.1 p1.2 p2.1 p2.2
  have s2 := side_turn p2.1 p2.2 p1.1 p1.2
  exact ⟨s1.1, s2.1, s1.2⟩
theorem pl1 {a b c d e f l p q r : Nat} (h : deepV d e f = 1) (hr : rayV a b c d e f l = 0) (hp : fineB p q r = true) : Q (plX1 a b c d e f p q r) 300000000 ∧ Q (plY1 a b c d e f p q r) 300000000 := by
  obtain ⟨⟨h1, h2, _⟩, h0⟩ := ray_ok hr
  obtain ⟨a1, a2, a3⟩ := fine3 h1
  obtain ⟨d1, d2, d3⟩ := fine3 h2
  obtain ⟨p1, p2, p3⟩ := fine3 hp
  have m := (deep_max d1 d2 d3).2.1 h
  have n : V e ≠ 0 := fun e => h0 (by omega)
  exact ⟨place_Q a3 p3 d3 d2 p2 a2 n m.2, place_Q a1 p1 d1 d2 p2 a2 n m.1⟩
theorem sd1 {a b c d e f l p q r u v w : Nat} (h : deepV d e f = 1) (he : edgE a b c d e f l p q r u v w = 0) : Q (sdV1 a b c d e f p q r u v w) 200000000000000000 ∧ Q (sdV1 a b c d e f u v w p q r) 200000000000000000 ∧ key (sdV1 a b c d e f u v w p q r) = -key (sdV1 a b c d e f p q r u v w) := by
  obtain ⟨hr, hp, hu⟩ := edg_ok he
  have p1 := pl1 h hr hp
  have p2 := pl1 h hr hu
  have s1 := side_turn p1.1 p1.2 p2.1 p2.2
  have s2 := side_turn p2.1 p2.2 p1.1 p1.2
  exact ⟨s1.1, s2.1, s1.2⟩
theorem pl2 {a b c d e f l p q r : Nat} (h : deepV d e f = 2) (hr : rayV a b c d e f l = 0) (hp : fineB p q r = true) : Q (plX2 a b c d e f p q r) 300000000 ∧ Q (plY2 a b c d e f p q r) 300000000 := by
  obtain ⟨⟨h1, h2, _⟩, h0⟩ := ray_ok hr
  obtain ⟨a1, a2, a3⟩ := fine3 h1
  obtain ⟨d1, d2, d3⟩ := fine3 h2
  obtain ⟨p1, p2, p3⟩ := fine3 hp
  have m := (deep_max d1 d2 d3).2.2 h
  have n : V f ≠ 0 := fun e => h0 (by omega)
  exact ⟨place_Q a1 p1 d1 d3 p3 a3 n m.1, place_Q a2 p2 d2 d3 p3 a3 n m.2⟩
theorem sd2 {a b c d e f l p q r u v w : Nat} (h : deepV d e f = 2) (he : edgE a b c d e f l p q r u v w = 0) : Q (sdV2 a b c d e f p q r u v w) 200000000000000000 ∧ Q (sdV2 a b c d e f u v w p q r) 200000000000000000 ∧ key (sdV2 a b c d e f u v w p q r) = -key (sdV2 a b c d e f p q r u v w) := by
  obtain ⟨hr, hp, hu⟩ := edg_ok he
  have p1 := pl2 h hr hp
  have p2 := pl2 h hr hu
  have s1 := side_turn p1.1 p1.2 p2.1 p2.2
  have s2 := side_turn p2.1 p2.2 p1.1 p1.2
  exact ⟨s1.1, s2.1, s1.2⟩
theorem edg_mk {a b c d e f l p q r u v w : Nat} (h : rayV a b c d e f l = 0) (hp : fineB p q r = true) (hu : fineB u v w = true) : edgE a b c d e f l p q r u v w = 0 := by
  unfold edgE; rw [h, hp, hu]; rfl
theorem turn0 {a b c d e f l p q r u v w : Nat} (h : deepV d e f = 0) : ((edgE a b c d e f l p q r u v w) != (edgE a b c d e f l u v w p q r) || (edgE a b c d e f l p q r u v w) == 0 && !(feq (bif (edgE a b c d e f l p q r u v w) == 0 then (sdV0 a b c d e f p q r u v w) else 0) (Fneg (bif (edgE a b c d e f l u v w p q r) == 0 then (sdV0 a b c d e f u v w p q r) else 0)))) = false := by
  rw [edg_swap a b c d e f l p q r u v w]
  by_cases he : (edgE a b c d e f l p q r u v w) = 0
  · have k := sd0 h he
    rw [he]
    have := sides_neg k.1 k.2.1 k.2.2
    simp only [beq_self_eq_true, cond_true, this]
    rfl
  · have : ((edgE a b c d e f l p q r u v w) == 0) = false := by simpa using he
    rw [this]
    simp
theorem four0 {a b c d e f l p q r u v w x y t i j k : Nat} (h : ((edgE a b c d e f l p q r u v w) != 0 || (edgE a b c d e f l u v w x y t) != 0 || (edgE a b c d e f l x y t i j k) != 0 || (edgE a b c d e f l i j k p q r) != 0) = false) : rayV a b c d e f l = 0 ∧ fineB p q r = true ∧ fineB u v w = true ∧ fineB x y t = true ∧ fineB i j k = true := by
  simp only [Bool.or_eq_false_iff, bne_eq_false_iff_eq] at h
  obtain ⟨⟨⟨h1, h2⟩, h3⟩, h4⟩ := h
  have a1 := edg_ok h1
  have a2 := edg_ok h3
  exact ⟨a1.1, a1.2.1, a1.2.2, a2.2.1, a2.2.2⟩
theorem fit0 {a b c d e f l p q r u v w x y t i j k : Nat} (h : ((edgE a b c d e f l p q r u v w) != 0 || (edgE a b c d e f l u v w x y t) != 0 || (edgE a b c d e f l x y t i j k) != 0 || (edgE a b c d e f l i j k p q r) != 0) = false) : ((thE0 a b c d e f l p q r u v w x y t) != 0 || (thE0 a b c d e f l p q r x y t i j k) != 0) = false := by
  obtain ⟨h0, h1, h2, h3, h4⟩ := four0 h
  unfold thE0
  rw [edg_mk h0 h1 h2, edg_mk h0 h1 h3, h3, h4]
  rfl
theorem slip0 {a b c d e f l p q r u v w x y t i j k : Nat} (hd : deepV d e f = 0) (h : ((edgE a b c d e f l p q r u v w) != 0 || (edgE a b c d e f l u v w x y t) != 0 || (edgE a b c d e f l x y t i j k) != 0 || (edgE a b c d e f l i j k p q r) != 0) = false) :
    true = ((!(fgt (bif (edgE a b c d e f l p q r u v w) == 0 then (sdV0 a b c d e f p q r u v w) else 0) 0 && fgt (bif (edgE a b c d e f l u v w x y t) == 0 then (sdV0 a b c d e f u v w x y t) else 0) 0 && fgt (bif (edgE a b c d e f l x y t i j k) == 0 then (sdV0 a b c d e f x y t i j k) else 0) 0 && fgt (bif (edgE a b c d e f l i j k p q r) == 0 then (sdV0 a b c d e f i j k p q r) else 0) 0) || (bif (thE0 a b c d e f l p q r u v w x y t) == 0 then thrB (sdV0 a b c d e f u v w x y t) (sdV0 a b c d e f x y t p q r) (sdV0 a b c d e f p q r u v w) else false)) || (bif (thE0 a b c d e f l p q r x y t i j k) == 0 then thrB (sdV0 a b c d e f x y t i j k) (sdV0 a b c d e f i j k p q r) (sdV0 a b c d e f p q r x y t) else false)) := by
  have hf := fit0 h
  obtain ⟨h0, h1, h2, h3, h4⟩ := four0 h
  have e1 := edg_mk h0 h1 h2
  have e2 := edg_mk h0 h2 h3
  have e3 := edg_mk h0 h3 h4
  have e4 := edg_mk h0 h4 h1
  have e5 := edg_mk h0 h3 h1
  simp only [Bool.or_eq_false_iff, bne_eq_false_iff_eq] at hf
  rw [e1, e2, e3, e4, hf.1, hf.2]
  simp only [beq_self_eq_true, cond_true]
  have s1 := sd0 hd e1
  have s2 := sd0 hd e2
  have s3 := sd0 hd e3
  have s4 := sd0 hd e4
  have s5 := sd0 hd e5
  cases k1 : fgt (sdV0 a b c d e f p q r u v w) 0
  · rfl
  cases k2 : fgt (sdV0 a b c d e f u v w x y t) 0
  · rfl
  cases k3 : fgt (sdV0 a b c d e f x y t i j k) 0
  · rfl
  cases k4 : fgt (sdV0 a b c d e f i j k p q r) 0
  · rfl
  rcases two_thr s1.1 s2.1 s3.1 s4.1 s5.1 s5.2.1 s5.2.2 k1 k2 k3 k4 with g | g
  · rw [g]; rfl
  · rw [g]; simp
theorem turn1 {a b c d e f l p q r u v w : Nat} (h : deepV d e f = 1) : ((edgE a b c d e f l p q r u v w) != (edgE a b c d e f l u v w p q r) || (edgE a b c d e f l p q r u v w) == 0 && !(feq (bif (edgE a b c d e f l p q r u v w) == 0 then (sdV1 a b c d e f p q r u v w) else 0) (Fneg (bif (edgE a b c d e f l u v w p q r) == 0 then (sdV1 a b c d e f u v w p q r) else 0)))) = false := by
  rw [edg_swap a b c d e f l p q r u v w]
  by_cases he : (edgE a b c d e f l p q r u v w) = 0
  · have k := sd1 h he
    rw [he]
    have := sides_neg k.1 k.2.1 k.2.2
    simp only [beq_self_eq_true, cond_true, this]
    rfl
  · have : ((edgE a b c d e f l p q r u v w) == 0) = false := by simpa using he
    rw [this]
    simp
theorem four1 {a b c d e f l p q r u v w x y t i j k : Nat} (h : ((edgE a b c d e f l p q r u v w) != 0 || (edgE a b c d e f l u v w x y t) != 0 || (edgE a b c d e f l x y t i j k) != 0 || (edgE a b c d e f l i j k p q r) != 0) = false) : rayV a b c d e f l = 0 ∧ fineB p q r = true ∧ fineB u v w = true ∧ fineB x y t = true ∧ fineB i j k = true := by
  simp only [Bool.or_eq_false_iff, bne_eq_false_iff_eq] at h
  obtain ⟨⟨⟨h1, h2⟩, h3⟩, h4⟩ := h
  have a1 := edg_ok h1
  have a2 := edg_ok h3
  exact ⟨a1.1, a1.2.1, a1.2.2, a2.2.1, a2.2.2⟩
theorem fit1 {a b c d e f l p q r u v w x y t i j k : Nat} (h : ((edgE a b c d e f l p q r u v w) != 0 || (edgE a b c d e f l u v w x y t) != 0 || (edgE a b c d e f l x y t i j k) != 0 || (edgE a b c d e f l i j k p q r) != 0) = false) : ((thE1 a b c d e f l p q r u v w x y t) != 0 || (thE1 a b c d e f l p q r x y t i j k) != 0) = false := by
  obtain ⟨h0, h1, h2, h3, h4⟩ := four1 h
  unfold thE1
  rw [edg_mk h0 h1 h2, edg_mk h0 h1 h3, h3, h4]
  rfl
theorem slip1 {a b c d e f l p q r u v w x y t i j k : Nat} (hd : deepV d e f = 1) (h : ((edgE a b c d e f l p q r u v w) != 0 || (edgE a b c d e f l u v w x y t) != 0 || (edgE a b c d e f l x y t i j k) != 0 || (edgE a b c d e f l i j k p q r) != 0) = false) :
    true = ((!(fgt (bif (edgE a b c d e f l p q r u v w) == 0 then (sdV1 a b c d e f p q r u v w) else 0) 0 && fgt (bif (edgE a b c d e f l u v w x y t) == 0 then (sdV1 a b c d e f u v w x y t) else 0) 0 && fgt (bif (edgE a b c d e f l x y t i j k) == 0 then (sdV1 a b c d e f x y t i j k) else 0) 0 && fgt (bif (edgE a b c d e f l i j k p q r) == 0 then (sdV1 a b c d e f i j k p q r) else 0) 0) || (bif (thE1 a b c d e f l p q r u v w x y t) == 0 then thrB (sdV1 a b c d e f u v w x y t) (sdV1 a b c d e f x y t p q r) (sdV1 a b c d e f p q r u v w) else false)) || (bif (thE1 a b c d e f l p q r x y t i j k) == 0 then thrB (sdV1 a b c d e f x y t i j k) (sdV1 a b c d e f i j k p q r) (sdV1 a b c d e f p q r x y t) else false)) := by
  have hf := fit1 h
  obtain ⟨h0, h1, h2, h3, h4⟩ := four1 h
  have e1 := edg_mk h0 h1 h2
  have e2 := edg_mk h0 h2 h3
  have e3 := edg_mk h0 h3 h4
  have e4 := edg_mk h0 h4 h1
  have e5 := edg_mk h0 h3 h1
  simp only [Bool.or_eq_false_iff, bne_eq_false_iff_eq] at hf
  rw [e1, e2, e3, e4, hf.1, hf.2]
  simp only [beq_self_eq_true, cond_true]
  have s1 := sd1 hd e1
  have s2 := sd1 hd e2
  have s3 := sd1 hd e3
  have s4 := sd1 hd e4
  have s5 := sd1 hd e5
  cases k1 : fgt (sdV1 a b c d e f p q r u v w) 0
  · rfl
  cases k2 : fgt (sdV1 a b c d e f u v w x y t) 0
  · rfl
  cases k3 : fgt (sdV1 a b c d e f x y t i j k) 0
  · rfl
  cases k4 : fgt (sdV1 a b c d e f i j k p q r) 0
  · rfl
  rcases two_thr s1.1 s2.1 s3.1 s4.1 s5.1 s5.2.1 s5.2.2 k1 k2 k3 k4 with g | g
  · rw [g]; rfl
  · rw [g]; simp
theorem turn2 {a b c d e f l p q r u v w : Nat} (h : deepV d e f = 2) : ((edgE a b c d e f l p q r u v w) != (edgE a b c d e f l u v w p q r) || (edgE a b c d e f l p q r u v w) == 0 && !(feq (bif (edgE a b c d e f l p q r u v w) == 0 then (sdV2 a b c d e f p q r u v w) else 0) (Fneg (bif (edgE a b c d e f l u v w p q r) == 0 then (sdV2 a b c d e f u v w p q r) else 0)))) = false := by
  rw [edg_swap a b c d e f l p q r u v w]
  by_cases he : (edgE a b c d e f l p q r u v w) = 0
  · have k := sd2 h he
    rw [he]
    have := sides_neg k.1 k.2.1 k.2.2
    simp only [beq_self_eq_true, cond_true, this]
    rfl
  · have : ((edgE a b c d e f l p q r u v w) == 0) = false := by simpa using he
    rw [this]
    simp
theorem four2 {a b c d e f l p q r u v w x y t i j k : Nat} (h : ((edgE a b c d e f l p q r u v w) != 0 || (edgE a b c d e f l u v w x y t) != 0 || (edgE a b c d e f l x y t i j k) != 0 || (edgE a b c d e f l i j k p q r) != 0) = false) : rayV a b c d e f l = 0 ∧ fineB p q r = true ∧ fineB u v w = true ∧ fineB x y t = true ∧ fineB i j k = true := by
  simp only [Bool.or_eq_false_iff, bne_eq_false_iff_eq] at h
  obtain ⟨⟨⟨h1, h2⟩, h3⟩, h4⟩ := h
  have a1 := edg_ok h1
  have a2 := edg_ok h3
  exact ⟨a1.1, a1.2.1, a1.2.2, a2.2.1, a2.2.2⟩
theorem fit2 {a b c d e f l p q r u v w x y t i j k : Nat} (h : ((edgE a b c d e f l p q r u v w) != 0 || (edgE a b c d e f l u v w x y t) != 0 || (edgE a b c d e f l x y t i j k) != 0 || (edgE a b c d e f l i j k p q r) != 0) = false) : ((thE2 a b c d e f l p q r u v w x y t) != 0 || (thE2 a b c d e f l p q r x y t i j k) != 0) = false := by
  obtain ⟨h0, h1, h2, h3, h4⟩ := four2 h
  unfold thE2
  rw [edg_mk h0 h1 h2, edg_mk h0 h1 h3, h3, h4]
  rfl
theorem slip2 {a b c d e f l p q r u v w x y t i j k : Nat} (hd : deepV d e f = 2) (h : ((edgE a b c d e f l p q r u v w) != 0 || (edgE a b c d e f l u v w x y t) != 0 || (edgE a b c d e f l x y t i j k) != 0 || (edgE a b c d e f l i j k p q r) != 0) = false) :
    true = ((!(fgt (bif (edgE a b c d e f l p q r u v w) == 0 then (sdV2 a b c d e f p q r u v w) else 0) 0 && fgt (bif (edgE a b c d e f l u v w x y t) == 0 then (sdV2 a b c d e f u v w x y t) else 0) 0 && fgt (bif (edgE a b c d e f l x y t i j k) == 0 then (sdV2 a b c d e f x y t i j k) else 0) 0 && fgt (bif (edgE a b c d e f l i j k p q r) == 0 then (sdV2 a b c d e f i j k p q r) else 0) 0) || (bif (thE2 a b c d e f l p q r u v w x y t) == 0 then thrB (sdV2 a b c d e f u v w x y t) (sdV2 a b c d e f x y t p q r) (sdV2 a b c d e f p q r u v w) else false)) || (bif (thE2 a b c d e f l p q r x y t i j k) == 0 then thrB (sdV2 a b c d e f x y t i j k) (sdV2 a b c d e f i j k p q r) (sdV2 a b c d e f p q r x y t) else false)) := by
  have hf := fit2 h
  obtain ⟨h0, h1, h2, h3, h4⟩ := four2 h
  have e1 := edg_mk h0 h1 h2
  have e2 := edg_mk h0 h2 h3
  have e3 := edg_mk h0 h3 h4
  have e4 := edg_mk h0 h4 h1
  have e5 := edg_mk h0 h3 h1
  simp only [Bool.or_eq_false_iff, bne_eq_false_iff_eq] at hf
  rw [e1, e2, e3, e4, hf.1, hf.2]
  simp only [beq_self_eq_true, cond_true]
  have s1 := sd2 hd e1
  have s2 := sd2 hd e2
  have s3 := sd2 hd e3
  have s4 := sd2 hd e4
  have s5 := sd2 hd e5
  cases k1 : fgt (sdV2 a b c d e f p q r u v w) 0
  · rfl
  cases k2 : fgt (sdV2 a b c d e f u v w x y t) 0
  · rfl
  cases k3 : fgt (sdV2 a b c d e f x y t i j k) 0
  · rfl
  cases k4 : fgt (sdV2 a b c d e f i j k p q r) 0
  · rfl
  rcases two_thr s1.1 s2.1 s3.1 s4.1 s5.1 s5.2.1 s5.2.2 k1 k2 k3 k4 with g | g
  · rw [g]; rfl
  · rw [g]; simp
end Go.Proofs.YtdjckabogdohcaaGreat
/- The law TopEdges: nothing slips through. -/
namespace Go.Proofs.YtdjckabogdohcaaGreat
open Go.RowKit Ev Flt
set_option linter.unusedVariables false
set_option linter.unusedSimpArgs false
set_option maxRecDepth 20000
set_option maxHeartbeats 4000000

theorem strikes_f : FnOk Tryz.prog 8 Tryz.f8 := ⟨Tryz.func8, by kernel_rfl⟩
theorem strikes_a  : ACalls Tryz.prog 8 [] (.bool true) := by
  refine acalls_of (inl := hasI (P := Tryz.prog) [] []) (base [Strike1_k, meets_k, Thr2_k] [] []) 0 strikes_f (And.intro (by kernel_rfl) ?_)
  repeat' (first | refine And.intro ?_ ?_ | (with_reducible exact ff_elim) | (with_reducible exact tf_elim) | (intro h; exact absurd h (by decide +kernel)) | refine num_elim ?_ | intro _ | (with_reducible rfl) | ((with_reducible refine lk_t ?_); exact rfl) | ((with_reducible refine pf_t ?_); exact rfl) | refine tell ?_ | exact True.intro | (refine IsT.of ?_; kernel_rfl))
  all_goals (try refine Tell.mk ?_)
  all_goals first | with_reducible rfl | decide +kernel
def strikes_k : Con Tryz.prog := ⟨8, fun args => match args with | [] => .ok (none) (.bool true) | _ => .no, by
  intro args p r h hp
  split at h
  · cases h; exact strikes_a 
  · cases h⟩
theorem lawT0_f : FnOk Tryz.prog 3 Tryz.f3 := ⟨Tryz.func3, by kernel_rfl⟩
theorem lawT0_a (a b c d e f l p q r u v w x y t i j k : Nat) (hpre : deepV d e f = 0) : ACalls Tryz.prog 3 [.agg [.flt a, .flt b, .flt c, .flt d, .flt e, .flt f, .flt l], .agg [.flt p, .flt q, .flt r], .agg [.flt u, .flt v, .flt w], .agg [.flt x, .flt y, .flt t], .agg [.flt i, .flt j, .flt k]] (.bool true) := by
  refine acalls_of (inl := hasI (P := Tryz.prog) [] []) (base [strikes_k, Edge0_k, Thr0_k] [] []) 0 lawT0_f (And.intro (by kernel_rfl) ?_)
  have hno : ∀ {b : Bool}, b = false → b = true → true = false := fun h1 h2 => by rw [h1] at h2; cases h2
  repeat' (first | refine And.intro ?_ ?_ | (with_reducible exact ff_elim) | (with_reducible exact tf_elim) | intro _ | (with_reducible rfl) | ((with_reducible refine lk_t ?_); exact rfl) | ((with_reducible refine pf_t ?_); exact rfl) | refine tell ?_ | exact True.intro | (refine IsT.of ?_; kernel_rfl))
  all_goals (try refine Tell.mk ?_)
  all_goals first | with_reducible rfl | with_reducible assumption | (with_reducible refine gb_t ?_; with_reducible assumption) | (with_reducible refine gb_f ?_; with_reducible assumption) | (exfalso; have hx : (!true) = true := (by with_reducible assumption); cases hx) | exact hno (turn0 hpre) (by with_reducible assumption) | exact hno (fit0 (by with_reducible assumption)) (by with_reducible assumption) | exact slip0 hpre (by with_reducible assumption) | (simp_all [gb]; done)
def lawT0_k : Con Tryz.prog := ⟨3, fun args => match args with | [.agg [.flt a, .flt b, .flt c, .flt d, .flt e, .flt f, .flt l], .agg [.flt p, .flt q, .flt r], .agg [.flt u, .flt v, .flt w], .agg [.flt x, .flt y, .flt t], .agg [.flt i, .flt j, .flt k]] => .ok (some (deepV d e f = 0)) (.bool true) | _ => .no, by
  intro args p r h hp
  split at h
  · cases h; exact lawT0_a _ _ _ _ _ _ _ _ _ _ _ _ _ _ _ _ _ _ _ hp
  · cases h⟩
theorem lawT1_f : FnOk Tryz.prog 3 Tryz.f3 := ⟨Tryz.func3, by kernel_rfl⟩
theorem lawT1_a (a b c d e f l p q r u v w x y t i j k : Nat) (hpre : deepV d e f = 1) : ACalls Tryz.prog 3 [.agg [.flt a, .flt b, .flt c, .flt d, .flt e, .flt f, .flt l], .agg [.flt p, .flt q, .flt r], .agg [.flt u, .flt v, .flt w], .agg [.flt x, .flt y, .flt t], .agg [.flt i, .flt j, .flt k]] (.bool true) := by
  refine acalls_of (inl := hasI (P := Tryz.prog) [] []) (base [strikes_k, Edge1_k, Thr1_k] [] []) 0 lawT1_f (And.intro (by kernel_rfl) ?_)
  have hno : ∀ {b : Bool}, b = false → b = true → true = false := fun h1 h2 => by rw [h1] at h2; cases h2
  repeat' (first | refine And.intro ?_ ?_ | (with_reducible exact ff_elim) | (with_reducible exact tf_elim) | intro _ | (with_reducible rfl) | ((with_reducible refine lk_t ?_); exact rfl) | ((with_reducible refine pf_t ?_); exact rfl) | refine tell ?_ | exact True.intro | (refine IsT.of ?_; kernel_rfl))
  all_goals (try refine Tell.mk ?_)
  all_goals first | with_reducible rfl | with_reducible assumption | (with_reducible refine gb_t ?_; with_reducible assumption) | (with_reducible refine gb_f ?_; with_reducible assumption) | (exfalso; have hx : (!true) = true := (by with_reducible assumption); cases hx) | exact hno (turn1 hpre) (by with_reducible assumption) | exact hno (fit1 (by with_reducible assumption)) (by with_reducible assumption) | exact slip1 hpre (by with_reducible assumption) | (simp_all [gb]; done)
def lawT1_k : Con Tryz.prog := ⟨3, fun args => match args with | [.agg [.flt a, .flt b, .flt c, .flt d, .flt e, .flt f, .flt l], .agg [.flt p, .flt q, .flt r], .agg [.flt u, .flt v, .flt w], .agg [.flt x, .flt y, .flt t], .agg [.flt i, .flt j, .flt k]] => .ok (some (deepV d e f = 1)) (.bool true) | _ => .no, by
  intro args p r h hp
  split at h
  · cases h; exact lawT1_a _ _ _ _ _ _ _ _ _ _ _ _ _ _ _ _ _ _ _ hp
  · cases h⟩
theorem lawT2_f : FnOk Tryz.prog 3 Tryz.f3 := ⟨Tryz.func3, by kernel_rfl⟩
theorem lawT2_a (a b c d e f l p q r u v w x y t i j k : Nat) (hpre : deepV d e f = 2) : ACalls Tryz.prog 3 [.agg [.flt a, .flt b, .flt c, .flt d, .flt e, .flt f, .flt l], .agg [.flt p, .flt q, .flt r], .agg [.flt u, .flt v, .flt w], .agg [.flt x, .flt y, .flt t], .agg [.flt i, .flt j, .flt k]] (.bool true) := by
  refine acalls_of (inl := hasI (P := Tryz.prog) [] []) (base [strikes_k, Edge2_k, Thr2_k] [] []) 0 lawT2_f (And.intro (by kernel_rfl) ?_)
  have hno : ∀ {b : Bool}, b = false → b = true → true = false := fun h1 h2 => by rw [h1] at h2; cases h2
  repeat' (first | refine And.intro ?_ ?_ | (with_reducible exact ff_elim) | (with_reducible exact tf_elim) | intro _ | (with_reducible rfl) | ((with_reducible refine lk_t ?_); exact rfl) | ((with_reducible refine pf_t ?_); exact rfl) | refine tell ?_ | exact True.intro | (refine IsT.of ?_; kernel_rfl))
  all_goals (try refine Tell.mk ?_)
  all_goals first | with_reducible rfl | with_reducible assumption | (with_reducible refine gb_t ?_; with_reducible assumption) | (with_reducible refine gb_f ?_; with_reducible assumption) | (exfalso; have hx : (!true) = true := (by with_reducible assumption); cases hx) | exact hno (turn2 hpre) (by with_reducible assumption) | exact hno (fit2 (by with_reducible assumption)) (by with_reducible assumption) | exact slip2 hpre (by with_reducible assumption) | (simp_all [gb]; done)
def lawT2_k : Con Tryz.prog := ⟨3, fun args => match args with | [.agg [.flt a, .flt b, .flt c, .flt d, .flt e, .flt f, .flt l], .agg [.flt p, .flt q, .flt r], .agg [.flt u, .flt v, .flt w], .agg [.flt x, .flt y, .flt t], .agg [.flt i, .flt j, .flt k]] => .ok (some (deepV d e f = 2)) (.bool true) | _ => .no, by
  intro args p r h hp
  split at h
  · cases h; exact lawT2_a _ _ _ _ _ _ _ _ _ _ _ _ _ _ _ _ _ _ _ hp
  · cases h⟩
theorem topEdges_f : FnOk Tryz.prog 3 Tryz.f3 := lawT0_f
theorem topEdges_a (a b c d e f l p q r u v w x y t i j k : Nat) : ACalls Tryz.prog 3 [.agg [.flt a, .flt b, .flt c, .flt d, .flt e, .flt f, .flt l], .agg [.flt p, .flt q, .flt r], .agg [.flt u, .flt v, .flt w], .agg [.flt x, .flt y, .flt t], .agg [.flt i, .flt j, .flt k]] (.bool true) := by
  rcases deepV_or d e f with h | h | h
  · exact lawT0_a a b c d e f l p q r u v w x y t i j k h
  · exact lawT1_a a b c d e f l p q r u v w x y t i j k h
  · exact lawT2_a a b c d e f l p q r u v w x y t i j k h
end Go.Proofs.YtdjckabogdohcaaGreat
