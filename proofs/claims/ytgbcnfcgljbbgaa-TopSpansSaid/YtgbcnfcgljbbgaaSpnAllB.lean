/- Bodies: from where to where a ray is within them, by the program and by the document. -/
import Derived.Test.YtgbcnfcgljbbgaaBodyA
import Derived.Test.YtgbcnfcgljbbgaaSpnAllA
namespace Go.Proofs.Ytgbcnfcgljbbgaa
open Go.RowKit Ev Flt
set_option linter.unusedVariables false
set_option linter.unusedSimpArgs false
set_option maxRecDepth 20000
set_option maxHeartbeats 4000000

def badV (lo hi fr d : Nat) : Bool := bif feq d 0 then (flt fr lo || fgt fr hi) else false
def refC (a b c d e f p q r u v w l : Nat) : Bool := bif meetC a b c d e f p q r u v w l then true else bif badV a d p u then true else bif badV b e q v then true else bif badV c f r w then true else fgt (meetN a b c d e f p q r u v w l) (meetF a b c d e f p q r u v w)
def refB (a b c d e f p q r u v w l : Nat) : Bool := bif refC a b c d e f p q r u v w l then false else true
def refX (a b c d e f p q r u v w l : Nat) : Nat := bif refC a b c d e f p q r u v w l then 0 else meetN a b c d e f p q r u v w l
def refY (a b c d e f p q r u v w l : Nat) : Nat := bif refC a b c d e f p q r u v w l then 0 else meetF a b c d e f p q r u v w
theorem near_notN {x : Nat} (h : nearB x = true) : isN x = false := near_num h
theorem fine_notN {a b c : Nat} (h : fineB a b c = true) : isN a = false ∧ isN b = false ∧ isN c = false := by
  unfold fineB at h
  rw [Bool.and_eq_true, Bool.and_eq_true] at h
  exact ⟨near_notN h.1.1, near_notN h.1.2, near_notN h.2⟩
theorem may_fine {a b c d e f : Nat} (h : mayV a b c d e f = 0) : fineB a b c = true ∧ fineB d e f = true := by
  unfold mayV at h
  cases h1 : fineB a b c <;> cases h2 : fineB d e f <;> rw [h1, h2] at h <;> first | exact ⟨rfl, rfl⟩ | exact absurd (show (1 : Int) = 0 from h) (by decide)
theorem ray_fine {a b c d e f l : Nat} (h : rayV a b c d e f l = 0) : fineB a b c = true ∧ fineB d e f = true ∧ nearB l = true := by
  unfold rayV at h
  cases h1 : fineB a b c <;> cases h2 : fineB d e f <;> cases h3 : nearB l <;> rw [h1, h2, h3] at h <;> first | exact ⟨rfl, rfl, rfl⟩ | exact absurd (show (1 : Int) = 0 from h) (by decide)
theorem bad_cut {o : Bool} {lo hi fr d : Nat} (h1 : isN lo = false) (h2 : isN hi = false) (h3 : isN fr = false) : cutO o lo hi fr d = (o && !(badV lo hi fr d)) := by
  unfold cutO badV
  rw [le_not h1 h3, le_not h3 h2, fgt_flt lo fr]
  cases feq d 0 <;> cases o <;> cases flt fr lo <;> cases fgt fr hi <;> rfl
theorem ref_c (a b c d e f p q r u v w l : Nat) : refC a b c d e f p q r u v w l = (bif meetC a b c d e f p q r u v w l then true else meetD a b c d e f p q r u v w l) := by
  unfold refC
  cases h : meetC a b c d e f p q r u v w l with
  | true => rfl
  | false =>
    unfold meetC at h
    rw [Bool.or_eq_false_iff] at h
    obtain ⟨h1, h2⟩ := may_fine (a := a) (b := b) (c := c) (d := d) (e := e) (f := f) (by simpa using h.1)
    obtain ⟨h3, h4, h5⟩ := ray_fine (a := p) (b := q) (c := r) (d := u) (e := v) (f := w) (l := l) (by simpa using h.2)
    obtain ⟨a1, a2, a3⟩ := fine_notN h1
    obtain ⟨b1, b2, b3⟩ := fine_notN h2
    obtain ⟨c1, c2, c3⟩ := fine_notN h3
    unfold meetD meetO
    rw [bad_cut a1 b1 c1, bad_cut a2 b2 c2, bad_cut a3 b3 c3]
    cases badV a d p u <;> cases badV b e q v <;> cases badV c f r w <;> rfl
theorem ref_b (a b c d e f p q r u v w l : Nat) : refB a b c d e f p q r u v w l = meetB a b c d e f p q r u v w l := by
  unfold refB meetB; rw [ref_c]; cases meetC a b c d e f p q r u v w l <;> rfl
theorem ref_x (a b c d e f p q r u v w l : Nat) : refX a b c d e f p q r u v w l = meetX a b c d e f p q r u v w l := by
  unfold refX meetX; rw [ref_c]; cases meetC a b c d e f p q r u v w l <;> rfl
theorem ref_y (a b c d e f p q r u v w l : Nat) : refY a b c d e f p q r u v w l = meetY a b c d e f p q r u v w l := by
  unfold refY meetY; rw [ref_c]; cases meetC a b c d e f p q r u v w l <;> rfl
/-- No nearer than so, and no farther. -/
def btw (n x f : Nat) : Nat := lessV f (moreV n x)
theorem nought_f : FnOk Try.prog 16 Try.f16 := ⟨Try.func16, by kernel_rfl⟩
theorem nought_a (a b c : Nat) : ACalls Try.prog 16 [.agg [.flt a, .flt b, .flt c]] (.bool (feq a 0 && (feq b 0 && feq c 0))) := by
  refine acalls_of (inl := hasI (P := Try.prog) [] []) (base [] [] []) 0 nought_f (And.intro (by kernel_rfl) ?_)
  repeat' (first | refine And.intro ?_ ?_ | (with_reducible exact ff_elim) | (with_reducible exact tf_elim) | intro _ | (with_reducible rfl) | ((with_reducible refine lk_t ?_); exact rfl) | ((with_reducible refine pf_t ?_); exact rfl) | refine tell ?_ | exact True.intro | (refine IsT.of ?_; kernel_rfl))
  all_goals ((try refine Tell.mk ?_); first | with_reducible rfl | ((show (_ : Int) ≤ _); decide) | ((show (_ : Int) < _); decide) | (with_reducible refine gb_t ?_; with_reducible assumption) | with_reducible assumption | (with_reducible refine gb_f ?_; with_reducible assumption) | (simp only [gb, *, cond_true, cond_false]; done) | ((with_reducible refine ks_t ?_); rfl) | ((with_reducible refine pk_t ?_); rfl) | ((with_reducible refine pf_t ?_); rfl) | ((with_reducible refine lk_t ?_); rfl) | ((with_reducible refine okF_t ?_); kernel_rfl) | grind [gb])
def nought_k : Con Try.prog := ⟨16, fun args => match args with | [.agg [.flt a, .flt b, .flt c]] => .ok (none) (.bool (feq a 0 && (feq b 0 && feq c 0))) | _ => .no, by
  intro args p r h hp
  split at h
  · cases h; exact nought_a _ _ _
  · cases h⟩
def wiO (met ok : Bool) (n i o f : Nat) : Bool := met && (ok && flt (btw n i f) (btw n o f))
def wiI (met ok : Bool) (n i o f : Nat) : Nat := bif wiO met ok n i o f then btw n i f else 0
def wiU (met ok : Bool) (n i o f : Nat) : Nat := bif wiO met ok n i o f then btw n o f else 0
def wN1 (a b c d e f r x y z u v w : Nat) : Nat := meetX (F .sub a r) (F .sub b r) (F .sub c r) (F .add a r) (F .add b r) (F .add c r) x y z u v w 0
def wF1 (a b c d e f r x y z u v w : Nat) : Nat := meetY (F .sub a r) (F .sub b r) (F .sub c r) (F .add a r) (F .add b r) (F .add c r) x y z u v w 0
def wB1 (a b c d e f r x y z u v w : Nat) : Bool := meetB (F .sub a r) (F .sub b r) (F .sub c r) (F .add a r) (F .add b r) (F .add c r) x y z u v w 0
def wO1 (a b c d e f r x y z u v w : Nat) : Bool := wiO (wB1 a b c d e f r x y z u v w) (abO (F .sub x a) (F .sub y b) (F .sub z c) u v w r) (wN1 a b c d e f r x y z u v w) (abI (F .sub x a) (F .sub y b) (F .sub z c) u v w r) (abU (F .sub x a) (F .sub y b) (F .sub z c) u v w r) (wF1 a b c d e f r x y z u v w)
def wI1 (a b c d e f r x y z u v w : Nat) : Nat := wiI (wB1 a b c d e f r x y z u v w) (abO (F .sub x a) (F .sub y b) (F .sub z c) u v w r) (wN1 a b c d e f r x y z u v w) (abI (F .sub x a) (F .sub y b) (F .sub z c) u v w r) (abU (F .sub x a) (F .sub y b) (F .sub z c) u v w r) (wF1 a b c d e f r x y z u v w)
def wU1 (a b c d e f r x y z u v w : Nat) : Nat := wiU (wB1 a b c d e f r x y z u v w) (abO (F .sub x a) (F .sub y b) (F .sub z c) u v w r) (wN1 a b c d e f r x y z u v w) (abI (F .sub x a) (F .sub y b) (F .sub z c) u v w r) (abU (F .sub x a) (F .sub y b) (F .sub z c) u v w r) (wF1 a b c d e f r x y z u v w)
theorem within1_f : FnOk Try.prog 35 Try.f35 := ⟨Try.func35, by kernel_rfl⟩
theorem within1_a (a b c d e f g h i r q : Nat) (s : Int) (x y z u v w l : Nat) (hpre : shapeE 1 a b c d e f g h i r q s = 0 ∧ rayV x y z u v w l = 0) : ACalls Try.prog 35 [.agg [.int .i64 1, .flt a, .flt b, .flt c, .flt d, .flt e, .flt f, .flt g, .flt h, .flt i, .flt r, .flt q, .int .i64 s], .agg [.flt x, .flt y, .flt z, .flt u, .flt v, .flt w, .flt l]] (.tup [.flt (wI1 a b c d e f r x y z u v w), .flt (wU1 a b c d e f r x y z u v w), .bool (wO1 a b c d e f r x y z u v w), .int .i64 0]) := by
  refine acalls_of (inl := hasI (P := Try.prog) [] []) (base [shapeMay_k, rayfine_k, solid1_k, meets_k, greater_k, lesser_k, ballB_k, ballW_k] [] []) 0 within1_f (And.intro (by kernel_rfl) ?_)
  repeat' (first | refine And.intro ?_ ?_ | (with_reducible exact ff_elim) | (with_reducible exact tf_elim) | (intro h; exact absurd h (by decide)) | (intro h; exact absurd hpre.1 (bne_iff_ne.1 h)) | (intro h; exact absurd hpre.2 (bne_iff_ne.1 h)) | intro _ | (with_reducible rfl) | ((with_reducible refine lk_t ?_); exact rfl) | ((with_reducible refine pf_t ?_); exact rfl) | refine tell ?_ | exact True.intro | (refine IsT.of ?_; kernel_rfl))
  all_goals first | exact h0 | exact alone_le _ _ _ | exact hpre.1 | skip
  all_goals ((try refine Tell.mk ?_); first | with_reducible rfl | ((show (_ : Int) ≤ _); decide) | ((show (_ : Int) < _); decide) | (with_reducible refine gb_t ?_; with_reducible assumption) | with_reducible assumption | (with_reducible refine gb_f ?_; with_reducible assumption) | (simp only [wI1, wU1, wO1, wiI, wiU, wiO, wN1, wF1, wB1, btw, *, cond_true, cond_false]; done) | ((with_reducible refine ks_t ?_); rfl) | ((with_reducible refine pk_t ?_); rfl) | ((with_reducible refine pf_t ?_); rfl) | ((with_reducible refine lk_t ?_); rfl) | ((with_reducible refine okF_t ?_); kernel_rfl) | grind [gb, wI1, wU1, wO1, wiI, wiU, wiO, wN1, wF1, wB1, btw])
def within1_k : Con Try.prog := ⟨35, fun args => match args with | [.agg [.int .i64 1, .flt a, .flt b, .flt c, .flt d, .flt e, .flt f, .flt g, .flt h, .flt i, .flt r, .flt q, .int .i64 s], .agg [.flt x, .flt y, .flt z, .flt u, .flt v, .flt w, .flt l]] => .ok (some (shapeE 1 a b c d e f g h i r q s = 0 ∧ rayV x y z u v w l = 0)) (.tup [.flt (wI1 a b c d e f r x y z u v w), .flt (wU1 a b c d e f r x y z u v w), .bool (wO1 a b c d e f r x y z u v w), .int .i64 0]) | _ => .no, by
  intro args p r h hp
  split at h
  · cases h; exact within1_a _ _ _ _ _ _ _ _ _ _ _ _ _ _ _ _ _ _ _ hp
  · cases h⟩
def wN2 (a b c d e f r x y z u v w : Nat) : Nat := meetX a b c d e f x y z u v w 0
def wF2 (a b c d e f r x y z u v w : Nat) : Nat := meetY a b c d e f x y z u v w 0
def wB2 (a b c d e f r x y z u v w : Nat) : Bool := meetB a b c d e f x y z u v w 0
def wO2 (a b c d e f r x y z u v w : Nat) : Bool := wiO (wB2 a b c d e f r x y z u v w) true (wN2 a b c d e f r x y z u v w) (wN2 a b c d e f r x y z u v w) (wF2 a b c d e f r x y z u v w) (wF2 a b c d e f r x y z u v w)
def wI2 (a b c d e f r x y z u v w : Nat) : Nat := wiI (wB2 a b c d e f r x y z u v w) true (wN2 a b c d e f r x y z u v w) (wN2 a b c d e f r x y z u v w) (wF2 a b c d e f r x y z u v w) (wF2 a b c d e f r x y z u v w)
def wU2 (a b c d e f r x y z u v w : Nat) : Nat := wiU (wB2 a b c d e f r x y z u v w) true (wN2 a b c d e f r x y z u v w) (wN2 a b c d e f r x y z u v w) (wF2 a b c d e f r x y z u v w) (wF2 a b c d e f r x y z u v w)
theorem within2_f : FnOk Try.prog 35 Try.f35 := ⟨Try.func35, by kernel_rfl⟩
theorem within2_a (a b c d e f g h i r q : Nat) (s : Int) (x y z u v w l : Nat) (hpre : shapeE 2 a b c d e f g h i r q s = 0 ∧ rayV x y z u v w l = 0) : ACalls Try.prog 35 [.agg [.int .i64 2, .flt a, .flt b, .flt c, .flt d, .flt e, .flt f, .flt g, .flt h, .flt i, .flt r, .flt q, .int .i64 s], .agg [.flt x, .flt y, .flt z, .flt u, .flt v, .flt w, .flt l]] (.tup [.flt (wI2 a b c d e f r x y z u v w), .flt (wU2 a b c d e f r x y z u v w), .bool (wO2 a b c d e f r x y z u v w), .int .i64 0]) := by
  refine acalls_of (inl := hasI (P := Try.prog) [] []) (base [shapeMay_k, rayfine_k, solid2_k, meets_k, greater_k, lesser_k, blockB_k, blockW_k] [] []) 0 within2_f (And.intro (by kernel_rfl) ?_)
  repeat' (first | refine And.intro ?_ ?_ | (with_reducible exact ff_elim) | (with_reducible exact tf_elim) | (intro h; exact absurd h (by decide)) | (intro h; exact absurd hpre.1 (bne_iff_ne.1 h)) | (intro h; exact absurd hpre.2 (bne_iff_ne.1 h)) | intro _ | (with_reducible rfl) | ((with_reducible refine lk_t ?_); exact rfl) | ((with_reducible refine pf_t ?_); exact rfl) | refine tell ?_ | exact True.intro | (refine IsT.of ?_; kernel_rfl))
  all_goals first | exact h0 | exact alone_le _ _ _ | exact hpre.1 | skip
  all_goals ((try refine Tell.mk ?_); first | with_reducible rfl | ((show (_ : Int) ≤ _); decide) | ((show (_ : Int) < _); decide) | (with_reducible refine gb_t ?_; with_reducible assumption) | with_reducible assumption | (with_reducible refine gb_f ?_; with_reducible assumption) | (simp only [wI2, wU2, wO2, wiI, wiU, wiO, wN2, wF2, wB2, btw, *, cond_true, cond_false]; done) | ((with_reducible refine ks_t ?_); rfl) | ((with_reducible refine pk_t ?_); rfl) | ((with_reducible refine pf_t ?_); rfl) | ((with_reducible refine lk_t ?_); rfl) | ((with_reducible refine okF_t ?_); kernel_rfl) | grind [gb, wI2, wU2, wO2, wiI, wiU, wiO, wN2, wF2, wB2, btw])
def within2_k : Con Try.prog := ⟨35, fun args => match args with | [.agg [.int .i64 2, .flt a, .flt b, .flt c, .flt d, .flt e, .flt f, .flt g, .flt h, .flt i, .flt r, .flt q, .int .i64 s], .agg [.flt x, .flt y, .flt z, .flt u, .flt v, .flt w, .flt l]] => .ok (some (shapeE 2 a b c d e f g h i r q s = 0 ∧ rayV x y z u v w l = 0)) (.tup [.flt (wI2 a b c d e f r x y z u v w), .flt (wU2 a b c d e f r x y z u v w), .bool (wO2 a b c d e f r x y z u v w), .int .i64 0]) | _ => .no, by
  intro args p r h hp
  split at h
  · cases h; exact within2_a _ _ _ _ _ _ _ _ _ _ _ _ _ _ _ _ _ _ _ hp
  · cases h⟩
def wN5 (a b c d e f r x y z u v w : Nat) : Nat := meetX (F .sub (lessV a (F .add a d)) (wo (aloneV d e f) 0 r)) (F .sub (lessV b (F .add b e)) (wo (aloneV d e f) 1 r)) (F .sub (lessV c (F .add c f)) (wz (aloneV d e f) r)) (F .add (moreV a (F .add a d)) (wo (aloneV d e f) 0 r)) (F .add (moreV b (F .add b e)) (wo (aloneV d e f) 1 r)) (F .add (moreV c (F .add c f)) (wz (aloneV d e f) r)) x y z u v w 0
def wF5 (a b c d e f r x y z u v w : Nat) : Nat := meetY (F .sub (lessV a (F .add a d)) (wo (aloneV d e f) 0 r)) (F .sub (lessV b (F .add b e)) (wo (aloneV d e f) 1 r)) (F .sub (lessV c (F .add c f)) (wz (aloneV d e f) r)) (F .add (moreV a (F .add a d)) (wo (aloneV d e f) 0 r)) (F .add (moreV b (F .add b e)) (wo (aloneV d e f) 1 r)) (F .add (moreV c (F .add c f)) (wz (aloneV d e f) r)) x y z u v w 0
def wB5 (a b c d e f r x y z u v w : Nat) : Bool := meetB (F .sub (lessV a (F .add a d)) (wo (aloneV d e f) 0 r)) (F .sub (lessV b (F .add b e)) (wo (aloneV d e f) 1 r)) (F .sub (lessV c (F .add c f)) (wz (aloneV d e f) r)) (F .add (moreV a (F .add a d)) (wo (aloneV d e f) 0 r)) (F .add (moreV b (F .add b e)) (wo (aloneV d e f) 1 r)) (F .add (moreV c (F .add c f)) (wz (aloneV d e f) r)) x y z u v w 0
def wO5 (a b c d e f r x y z u v w : Nat) : Bool := wiO (wB5 a b c d e f r x y z u v w) (tuO a b c d e f r x y z u v w (wN5 a b c d e f r x y z u v w) (wF5 a b c d e f r x y z u v w)) (wN5 a b c d e f r x y z u v w) (tuI a b c d e f r x y z u v w (wN5 a b c d e f r x y z u v w)) (tuU a b c d e f r x y z u v w (wF5 a b c d e f r x y z u v w)) (wF5 a b c d e f r x y z u v w)
def wI5 (a b c d e f r x y z u v w : Nat) : Nat := wiI (wB5 a b c d e f r x y z u v w) (tuO a b c d e f r x y z u v w (wN5 a b c d e f r x y z u v w) (wF5 a b c d e f r x y z u v w)) (wN5 a b c d e f r x y z u v w) (tuI a b c d e f r x y z u v w (wN5 a b c d e f r x y z u v w)) (tuU a b c d e f r x y z u v w (wF5 a b c d e f r x y z u v w)) (wF5 a b c d e f r x y z u v w)
def wU5 (a b c d e f r x y z u v w : Nat) : Nat := wiU (wB5 a b c d e f r x y z u v w) (tuO a b c d e f r x y z u v w (wN5 a b c d e f r x y z u v w) (wF5 a b c d e f r x y z u v w)) (wN5 a b c d e f r x y z u v w) (tuI a b c d e f r x y z u v w (wN5 a b c d e f r x y z u v w)) (tuU a b c d e f r x y z u v w (wF5 a b c d e f r x y z u v w)) (wF5 a b c d e f r x y z u v w)
theorem tube_al {a b c d e f g h i r q : Nat} {s : Int} (hh : shapeE 5 a b c d e f g h i r q s = 0) : 0 ≤ aloneV d e f := by
  have := sh_5 hh
  unfold tubeE at this
  cases h1 : (fgt r 0 && decide (0 ≤ aloneV d e f)) with
  | true => rw [Bool.and_eq_true] at h1; exact of_decide_eq_true h1.2
  | false => rw [h1] at this; cases this
theorem within5_f : FnOk Try.prog 35 Try.f35 := ⟨Try.func35, by kernel_rfl⟩
theorem within5_a (a b c d e f g h i r q : Nat) (s : Int) (x y z u v w l : Nat) (hpre : shapeE 5 a b c d e f g h i r q s = 0 ∧ rayV x y z u v w l = 0) : ACalls Try.prog 35 [.agg [.int .i64 5, .flt a, .flt b, .flt c, .flt d, .flt e, .flt f, .flt g, .flt h, .flt i, .flt r, .flt q, .int .i64 s], .agg [.flt x, .flt y, .flt z, .flt u, .flt v, .flt w, .flt l]] (.tup [.flt (wI5 a b c d e f r x y z u v w), .flt (wU5 a b c d e f r x y z u v w), .bool (wO5 a b c d e f r x y z u v w), .int .i64 0]) := by
  refine acalls_of (inl := hasI (P := Try.prog) [] []) (base [shapeMay_k, rayfine_k, solid5_k, meets_k, greater_k, lesser_k, tubeB_k, tubeW_k] [] []) 0 within5_f (And.intro (by kernel_rfl) ?_)
  repeat' (first | refine And.intro ?_ ?_ | (with_reducible exact ff_elim) | (with_reducible exact tf_elim) | (intro h; exact absurd h (by decide)) | (intro h; exact absurd hpre.1 (bne_iff_ne.1 h)) | (intro h; exact absurd hpre.2 (bne_iff_ne.1 h)) | intro _ | (with_reducible rfl) | ((with_reducible refine lk_t ?_); exact rfl) | ((with_reducible refine pf_t ?_); exact rfl) | refine tell ?_ | exact True.intro | (refine IsT.of ?_; kernel_rfl))
  all_goals (have h0 : 0 ≤ aloneV d e f := tube_al hpre.1)
  all_goals first | exact h0 | exact alone_le _ _ _ | exact hpre.1 | skip
  all_goals ((try refine Tell.mk ?_); first | with_reducible rfl | ((show (_ : Int) ≤ _); decide) | ((show (_ : Int) < _); decide) | (with_reducible refine gb_t ?_; with_reducible assumption) | with_reducible assumption | (with_reducible refine gb_f ?_; with_reducible assumption) | (simp only [wI5, wU5, wO5, wiI, wiU, wiO, wN5, wF5, wB5, btw, *, cond_true, cond_false]; done) | ((with_reducible refine ks_t ?_); rfl) | ((with_reducible refine pk_t ?_); rfl) | ((with_reducible refine pf_t ?_); rfl) | ((with_reducible refine lk_t ?_); rfl) | ((with_reducible refine okF_t ?_); kernel_rfl) | grind [gb, wI5, wU5, wO5, wiI, wiU, wiO, wN5, wF5, wB5, btw])
def within5_k : Con Try.prog := ⟨35, fun args => match args with | [.agg [.int .i64 5, .flt a, .flt b, .flt c, .flt d, .flt e, .flt f, .flt g, .flt h, .flt i, .flt r, .flt q, .int .i64 s], .agg [.flt x, .flt y, .flt z, .flt u, .flt v, .flt w, .flt l]] => .ok (some (shapeE 5 a b c d e f g h i r q s = 0 ∧ rayV x y z u v w l = 0)) (.tup [.flt (wI5 a b c d e f r x y z u v w), .flt (wU5 a b c d e f r x y z u v w), .bool (wO5 a b c d e f r x y z u v w), .int .i64 0]) | _ => .no, by
  intro args p r h hp
  split at h
  · cases h; exact within5_a _ _ _ _ _ _ _ _ _ _ _ _ _ _ _ _ _ _ _ hp
  · cases h⟩
end Go.Proofs.Ytgbcnfcgljbbgaa
/- Solids: their spans, part by part. -/
namespace Go.Proofs.Ytgbcnfcgljbbgaa
open Go.RowKit Ev Flt
set_option linter.unusedVariables false
set_option linter.unusedSimpArgs false
set_option maxRecDepth 20000
set_option maxHeartbeats 4000000

/-- A ray's numbers. -/
structure Ray where
  x : Nat
  y : Nat
  z : Nat
  u : Nat
  v : Nat
  w : Nat
  l : Nat
def Ray.e (r : Ray) : Int := rayV r.x r.y r.z r.u r.v r.w r.l
def pwI (p : Shp) (r : Ray) : Nat := if p.k = 1 then wI1 p.a p.b p.c p.d p.e p.f p.r r.x r.y r.z r.u r.v r.w else if p.k = 2 then wI2 p.a p.b p.c p.d p.e p.f p.r r.x r.y r.z r.u r.v r.w else wI5 p.a p.b p.c p.d p.e p.f p.r r.x r.y r.z r.u r.v r.w
def pwU (p : Shp) (r : Ray) : Nat := if p.k = 1 then wU1 p.a p.b p.c p.d p.e p.f p.r r.x r.y r.z r.u r.v r.w else if p.k = 2 then wU2 p.a p.b p.c p.d p.e p.f p.r r.x r.y r.z r.u r.v r.w else wU5 p.a p.b p.c p.d p.e p.f p.r r.x r.y r.z r.u r.v r.w
def pwO (p : Shp) (r : Ray) : Bool := if p.k = 1 then wO1 p.a p.b p.c p.d p.e p.f p.r r.x r.y r.z r.u r.v r.w else if p.k = 2 then wO2 p.a p.b p.c p.d p.e p.f p.r r.x r.y r.z r.u r.v r.w else wO5 p.a p.b p.c p.d p.e p.f p.r r.x r.y r.z r.u r.v r.w
/-- A body's numbers are in order. -/
def Shp.body (p : Shp) (r : Ray) : Prop := (p.k = 1 ∨ p.k = 2 ∨ p.k = 5) ∧ p.err = 0 ∧ r.e = 0
def shpA (p : Shp) : AV := .agg [.int .i64 p.k, .flt p.a, .flt p.b, .flt p.c, .flt p.d, .flt p.e, .flt p.f, .flt p.g, .flt p.h, .flt p.i, .flt p.r, .flt p.q, .int .i64 p.s]
def rayA (r : Ray) : AV := .agg [.flt r.x, .flt r.y, .flt r.z, .flt r.u, .flt r.v, .flt r.w, .flt r.l]
def wRes (p : Shp) (r : Ray) : AV := .tup [.flt (pwI p r), .flt (pwU p r), .bool (pwO p r), .int .i64 0]
theorem within_p (p : Shp) (r : Ray) (h : p.body r) : ACalls Try.prog 35 [shpA p, rayA r] (wRes p r) := by
  obtain ⟨hk, he, hr⟩ := h
  obtain ⟨k, a, b, c, d, e, f, g, hh, i, rr, q, s⟩ := p
  obtain ⟨x, y, z, u, v, w, l⟩ := r
  unfold Shp.err at he
  unfold Ray.e at hr
  unfold shpA rayA wRes pwI pwU pwO
  dsimp only at *
  rcases hk with rfl | rfl | rfl
  · exact within1_a a b c d e f g hh i rr q s x y z u v w l ⟨he, hr⟩
  · exact within2_a a b c d e f g hh i rr q s x y z u v w l ⟨he, hr⟩
  · exact within5_a a b c d e f g hh i rr q s x y z u v w l ⟨he, hr⟩
def shpOf (l : List AV) : Shp := ⟨intOf (l.getD 0 .any), natOf (l.getD 1 .any), natOf (l.getD 2 .any), natOf (l.getD 3 .any), natOf (l.getD 4 .any), natOf (l.getD 5 .any), natOf (l.getD 6 .any), natOf (l.getD 7 .any), natOf (l.getD 8 .any), natOf (l.getD 9 .any), natOf (l.getD 10 .any), natOf (l.getD 11 .any), intOf (l.getD 12 .any)⟩
def rayOfL (l : List AV) : Ray := ⟨natOf (l.getD 0 .any), natOf (l.getD 1 .any), natOf (l.getD 2 .any), natOf (l.getD 3 .any), natOf (l.getD 4 .any), natOf (l.getD 5 .any), natOf (l.getD 6 .any)⟩
def withinK (f : Nat) (args : List AV) : CR := match args with
  | [.agg l, .agg m] => .ok (some ((shpA (shpOf l) = .agg l ∧ rayA (rayOfL m) = .agg m) ∧ (shpOf l).body (rayOfL m))) (.tup [.flt (pwI (shpOf l) (rayOfL m)), .flt (pwU (shpOf l) (rayOfL m)), .bool (pwO (shpOf l) (rayOfL m)), .int .i64 0])
  | _ => .no
def within_k : Con Try.prog := ⟨35, withinK 0, by
  intro args p r h hp
  unfold withinK at h
  split at h
  · cases h
    obtain ⟨⟨h1, h2⟩, h3⟩ := hp
    rw [← h1, ← h2]
    exact within_p _ _ h3
  · cases h⟩
/-- The span of a leaf. -/
def leafS (P : Nat → Prt) (r : Ray) (k : Nat) : List Spn := bif pwO (P k).p r then [⟨pwI (P k).p r, k, false, pwU (P k).p r, k, false⟩] else []
def combS (op : Int) (A B L : List Spn) : List Spn := if op = 1 then bothL A B else if op = 2 then eitherL A B else if op = 3 then lessL A B else L
/-- The spans of the parts so far. -/
def tabS (P : Nat → Prt) (r : Ray) : Nat → Nat → List Spn
  | 0 => fun _ => []
  | k + 1 => fun j => if j = k then combS (P k).op (tabS P r k (P k).l.toNat) (tabS P r k (P k).m.toNat) (leafS P r k) else tabS P r k j
theorem tab_at (P : Nat → Prt) (r : Ray) (k : Nat) : tabS P r (k + 1) k = combS (P k).op (tabS P r k (P k).l.toNat) (tabS P r k (P k).m.toNat) (leafS P r k) := by
  show (if k = k then _ else _) = _
  rw [if_pos rfl]
theorem tab_ne (P : Nat → Prt) (r : Ray) {k j : Nat} (h : j ≠ k) : tabS P r (k + 1) j = tabS P r k j := by
  show (if j = k then _ else _) = _
  rw [if_neg h]
attribute [irreducible] tabS
theorem solid_ok {n : Nat} {P : Nat → Prt} {s : Int} (h : solidE n P s = 0) : (1 ≤ n ∧ n ≤ 16) ∧ ∀ i, i < n → partE P i = 0 := by
  unfold solidE at h
  split at h
  · cases h
  · split at h
    · cases h
    · exact ⟨by omega, fun i hi => firstE_all h hi⟩
theorem part_op {P : Nat → Prt} {i : Nat} (h : partE P i = 0) : ((P i).op = 0 ∧ (P i).p.err = 0 ∧ ((P i).p.k = 1 ∨ (P i).p.k = 2 ∨ (P i).p.k = 5)) ∨ (((P i).op = 1 ∨ (P i).op = 2 ∨ (P i).op = 3) ∧ 0 ≤ (P i).l ∧ (P i).l.toNat < i ∧ 0 ≤ (P i).m ∧ (P i).m.toNat < i) := by
  unfold partE at h
  split at h
  · rename_i h1
    split at h
    · rename_i h2
      split at h
      · rename_i h3; exact .inl ⟨h1, h2, h3⟩
      · cases h
    · rename_i h2; exact absurd h h2
  · split at h
    · rename_i h2
      split at h
      · cases h
      · exact .inr ⟨h2, by omega, by omega, by omega, by omega⟩
    · cases h
theorem pwO_lt {p : Shp} {r : Ray} (h : pwO p r = true) : flt (pwI p r) (pwU p r) = true := by
  have key : ∀ (met ok : Bool) (n i o f : Nat), wiO met ok n i o f = true → flt (wiI met ok n i o f) (wiU met ok n i o f) = true := fun met ok n i o f h => by
    unfold wiI wiU
    rw [h]
    unfold wiO at h
    rw [Bool.and_eq_true, Bool.and_eq_true] at h
    exact h.2.2
  unfold pwO at h
  unfold pwI pwU
  split
  · rename_i h1; rw [if_pos h1] at h; exact key _ _ _ _ _ _ h
  · rename_i h1
    rw [if_neg h1] at h
    split
    · rename_i h2; rw [if_pos h2] at h; exact key _ _ _ _ _ _ h
    · rename_i h2; rw [if_neg h2] at h; exact key _ _ _ _ _ _ h
/-- The ends of the leaves. -/
def endsE (P : Nat → Prt) (r : Ray) (n : Nat) : List Nat := (List.range n).flatMap fun i => [pwI (P i).p r, pwU (P i).p r]
theorem ends_len (P : Nat → Prt) (r : Ray) : ∀ n, (endsE P r n).length = 2 * n
  | 0 => rfl
  | n + 1 => by
    have e : endsE P r (n + 1) = endsE P r n ++ [pwI (P n).p r, pwU (P n).p r] := by unfold endsE; rw [List.range_succ, List.flatMap_append]; rfl
    rw [e, List.length_append, ends_len P r n]; simp; omega
theorem leaf_good (P : Nat → Prt) (r : Ray) (k : Nat) : Good (leafS P r k) := by
  unfold leafS
  cases e : pwO (P k).p r
  · trivial
  · exact ⟨ok_of (pwO_lt e), (fun w hw => by cases hw), trivial⟩
theorem leaf_ends (P : Nat → Prt) (r : Ray) {k n : Nat} (h : k < n) : Ends (endsE P r n) (leafS P r k) := fun z hz => by
  unfold leafS at hz
  cases e : pwO (P k).p r with
  | false => rw [e] at hz; cases hz
  | true =>
    rw [e] at hz
    have : z = ⟨pwI (P k).p r, k, false, pwU (P k).p r, k, false⟩ := by simpa using hz
    subst this
    exact ⟨List.mem_flatMap.2 ⟨k, List.mem_range.2 h, by simp⟩, List.mem_flatMap.2 ⟨k, List.mem_range.2 h, by simp⟩⟩
theorem comb_ok {op : Int} {A B L : List Spn} {E : List Nat} (hA : Good A) (hB : Good B) (hL : Good L) (eA : Ends E A) (eB : Ends E B) (eL : Ends E L) : Good (combS op A B L) ∧ Ends E (combS op A B L) := by
  unfold combS
  split
  · exact ⟨both_good hA hB, both_ends hA hB eA eB⟩
  · split
    · exact ⟨(either_same hA hB).2, either_ends eA eB⟩
    · split
      · exact ⟨less_good hA hB, less_ends eA eB⟩
      · exact ⟨hL, eL⟩
theorem tab_ok (P : Nat → Prt) (r : Ray) (n : Nat) : ∀ k, k ≤ n → ∀ j, Good (tabS P r k j) ∧ Ends (endsE P r n) (tabS P r k j)
  | 0, _, j => by unfold tabS; exact ⟨trivial, fun z hz => by cases hz⟩
  | k + 1, h, j => by
    by_cases e : j = k
    · subst e
      rw [tab_at]
      have a := tab_ok P r n j (by omega) (P j).l.toNat
      have b := tab_ok P r n j (by omega) (P j).m.toNat
      exact comb_ok a.1 b.1 (leaf_good P r j) a.2 b.2 (leaf_ends P r (by omega))
    · rw [tab_ne P r e]; exact tab_ok P r n k (by omega) j
theorem tab_len (P : Nat → Prt) (r : Ray) {n k : Nat} (hk : k ≤ n) (hn : n ≤ 16) (j : Nat) : (tabS P r k j).length ≤ 32 := by
  obtain ⟨h1, h2⟩ := tab_ok P r n k hk j
  have := good_len h1 fun x hx => (h2 x hx).1
  rw [ends_len] at this; omega
def slA (L : List Spn) : AV := .sl L.length 6 (flatF 6 (rowsS L))
/-- What the two rows that are handed over make, as a contract. -/
def rowsK (f : List Spn → List Spn → List Spn) (p : List Spn → List Spn → Prop) (args : List AV) : CR := match args with
  | [.sl n sz g, .sl m sz' h] => .ok (some ((sz = 6 ∧ sz' = 6) ∧ ((∀ j, j < n * 6 → flatF 6 (rowsS (unS n g)) j = g j) ∧ (∀ j, j < m * 6 → flatF 6 (rowsS (unS m h)) j = h j)) ∧ p (unS n g) (unS m h))) (.sl (f (unS n g) (unS m h)).length 6 (flatF 6 (rowsS (f (unS n g) (unS m h)))))
  | _ => .no
theorem rowsK_ok {P : Program} {f : FuncId} {F : List Spn → List Spn → List Spn} {p : List Spn → List Spn → Prop} (h : ∀ A B, p A B → ACalls P f [slA A, slA B] (slA (F A B))) : ∀ args q r, rowsK F p args = .ok q r → q.getD True → ACalls P f args r := by
  intro args q r e hq
  unfold rowsK at e
  split at e
  · cases e
    obtain ⟨⟨rfl, rfl⟩, ⟨h1, h2⟩, h3⟩ := hq
    rename_i n g m k
    refine acalls_agr (h _ _ h3) ⟨⟨unS_len n g, rfl, fun j hj => h1 j (by rw [unS_len] at hj; exact hj)⟩, ⟨unS_len m k, rfl, fun j hj => h2 j (by rw [unS_len] at hj; exact hj)⟩, True.intro⟩
  · cases e
def small (A B : List Spn) : Prop := A.length ≤ 32 ∧ B.length ≤ 32
theorem mul_small {A B : List Spn} (h : small A B) : A.length * (B.length + 1) ≤ 100000000 ∧ A.length ≤ 1000000 ∧ B.length ≤ 1000000 := by
  obtain ⟨h1, h2⟩ := h
  have := Nat.mul_le_mul h1 (show B.length + 1 ≤ 33 by omega)
  omega
def both_k : Con Try.prog := ⟨21, rowsK bothL small, rowsK_ok fun A B h => both_a A B (by unfold small at h; omega)⟩
def either_k : Con Try.prog := ⟨22, rowsK eitherL small, rowsK_ok fun A B h => either_a A B (by unfold small at h; omega)⟩
def lessP_k : Con Try.prog := ⟨23, rowsK lessL small, rowsK_ok fun A B h => lessP_a A B (mul_small h)⟩
/-- What the document combines, as a contract. -/
def combK (args : List AV) : CR := match args with
  | [.int _ op, .sl n sz g, .sl m sz' h] => .ok (some ((args.getD 0 .any = .int .i64 op ∧ sz = 6 ∧ sz' = 6) ∧ ((∀ j, j < n * 6 → flatF 6 (rowsS (unS n g)) j = g j) ∧ (∀ j, j < m * 6 → flatF 6 (rowsS (unS m h)) j = h j)) ∧ ((op = 1 ∨ op = 2 ∨ op = 3) ∧ Good (unS n g) ∧ Good (unS m h)) ∧ small (unS n g) (unS m h))) (.sl (combS op (unS n g) (unS m h) []).length 6 (flatF 6 (rowsS (combS op (unS n g) (unS m h) []))))
  | _ => .no
theorem cutK_len {x : Spn} {B : List Spn} (hx : OkS x) (hB : Good B) (h : B.length ≤ 32) (i : Nat) (hi : i ≤ B.length) : (ncutS x B i).length ≤ 1000000 := by
  rw [ncutS_less hx hB i]
  have := lessX_len (B.take i) x
  rw [List.length_take] at this
  omega
theorem less_len {A B : List Spn} (h : small A B) : (lessL A B).length ≤ 1000000 := by
  have key : ∀ (A : List Spn), (lessL A B).length ≤ A.length * (B.length + 1) := fun A => by
    induction A with
    | nil => simp [lessL]
    | cons x a ih =>
      have e : lessL (x :: a) B = lessX x B ++ lessL a B := List.flatMap_cons ..
      rw [e, List.length_append, List.length_cons, Nat.succ_mul]
      have := lessX_len B x
      omega
  have := key A
  have := Nat.mul_le_mul h.1 (show B.length + 1 ≤ 33 by have := h.2; omega)
  omega
end Go.Proofs.Ytgbcnfcgljbbgaa
/- Solids: their spans, part by part, by the program and by the document. -/
namespace Go.Proofs.Ytgbcnfcgljbbgaa
open Go.RowKit Ev Flt
set_option linter.unusedVariables false
set_option linter.unusedSimpArgs false
set_option maxRecDepth 20000
set_option maxHeartbeats 4000000

theorem view_shp {nm : Bool} {P : Nat → Prt} {i : Nat} {K : AV → Prop} (h : nameE nm (shpA (P i).p) K) :
    nameE nm (.agg (List.map (fun j => partF P (mulN (i : Int).toNat 16 + (3 + j))) (List.range (Tab.cx.ti 27).size))) K := by
  refine view_one ?_ h
  have e : (Tab.cx.ti 27).size = 13 := rfl
  rw [e, mulN_eq, Int.toNat_natCast]
  show AV.agg [partF P (i * 16 + 3), partF P (i * 16 + 4), partF P (i * 16 + 5), partF P (i * 16 + 6), partF P (i * 16 + 7), partF P (i * 16 + 8), partF P (i * 16 + 9), partF P (i * 16 + 10), partF P (i * 16 + 11), partF P (i * 16 + 12), partF P (i * 16 + 13), partF P (i * 16 + 14), partF P (i * 16 + 15)] = _
  simp only [part_at P i _ (show 3 < 16 by decide), part_at P i _ (show 4 < 16 by decide), part_at P i _ (show 5 < 16 by decide), part_at P i _ (show 6 < 16 by decide), part_at P i _ (show 7 < 16 by decide), part_at P i _ (show 8 < 16 by decide), part_at P i _ (show 9 < 16 by decide), part_at P i _ (show 10 < 16 by decide), part_at P i _ (show 11 < 16 by decide), part_at P i _ (show 12 < 16 by decide), part_at P i _ (show 13 < 16 by decide), part_at P i _ (show 14 < 16 by decide), part_at P i _ (show 15 < 16 by decide)]
  rfl
theorem shpOf_eta (p : Shp) : shpOf [.int .i64 p.k, .flt p.a, .flt p.b, .flt p.c, .flt p.d, .flt p.e, .flt p.f, .flt p.g, .flt p.h, .flt p.i, .flt p.r, .flt p.q, .int .i64 p.s] = p := rfl
theorem rayOf_eta (r : Ray) : rayOfL [.flt r.x, .flt r.y, .flt r.z, .flt r.u, .flt r.v, .flt r.w, .flt r.l] = r := rfl
/-- The parts so far, in a row that is as long as it will be. -/
def tabG (T : Nat → List Spn) (k j : Nat) : AV := bif Nat.blt j k then slA (T j) else .nils
theorem leaf_t {P : Nat → Prt} {r : Ray} {k : Nat} (h : pwO (P k).p r = true) : leafS P r k = [⟨pwI (P k).p r, k, false, pwU (P k).p r, k, false⟩] := by unfold leafS; rw [h]; rfl
theorem leaf_f {P : Nat → Prt} {r : Ray} {k : Nat} (h : pwO (P k).p r = false) : leafS P r k = [] := by unfold leafS; rw [h]; rfl
theorem leafP_f : FnOk Try.prog 24 Try.f24 := ⟨Try.func24, by kernel_rfl⟩
theorem leafP_a (n : Nat) (P : Nat → Prt) (r : Ray) (k : Nat) (hpre : (P k).p.body r ∧ k < n) : ACalls Try.prog 24 [.sl n 16 (partF P), .int .i64 k, .agg [.flt r.x, .flt r.y, .flt r.z, .flt r.u, .flt r.v, .flt r.w, .flt r.l]] (.sl (leafS P r k).length 6 (flatF 6 (rowsS (leafS P r k)))) := by
  refine acalls_of (inl := hasI (P := Try.prog) [] []) (base [within_k] [] []) 0 leafP_f (And.intro (by kernel_rfl) ?_)
  repeat' (first | refine And.intro ?_ ?_ | (with_reducible exact ff_elim) | (with_reducible exact tf_elim) | refine view_shp ?_ | refine num_elim ?_ | intro _ | (with_reducible rfl) | ((with_reducible refine lk_t ?_); exact rfl) | ((with_reducible refine pf_t ?_); exact rfl) | refine tell ?_ | exact True.intro | (refine IsT.of ?_; kernel_rfl))
  all_goals (try refine Tell.mk ?_)
  all_goals (try dsimp only at *)
  all_goals obtain ⟨hp1, hp2⟩ := hpre
  all_goals first | with_reducible rfl | with_reducible assumption | (with_reducible refine gb_t ?_; with_reducible assumption) | (with_reducible refine gb_f ?_; with_reducible assumption) | exact hp1 | rfl | skip
  all_goals (try simp only [size_Span, bytes_Span, Int.toNat_natCast, shpOf_eta, rayOf_eta, Bool.not_eq_true', Bool.not_eq_false'] at *)
  all_goals (try simp only [Nat.zero_add] at *)
  all_goals first | omega | (show 13 ≤ _; decide) | (show 1 * 6 ≤ 6; decide) | exact hp1.1 | exact hp1.2.1 | exact hp1.2.2 | skip
  all_goals first | (rw [leaf_f (by assumption)]; rfl) | (rw [leaf_t (by assumption)]; rfl) | (have q := leaf_t (P := P) (r := r) (k := k) (by assumption); simp only [q] at *; exact row_one (by assumption)) | skip
  trace_state
theorem tabG_step {T T' : Nat → List Spn} {k j : Nat} {X : List Spn} (h1 : T' k = X) (h2 : ∀ j, j ≠ k → T' j = T j) : tabG T' (k + 1) j = setA (0 + mulN k 1) [slA X] (tabG T k) j := by
  unfold setA
  rw [mulN_eq, Nat.zero_add, Nat.mul_one]
  by_cases e : j = k
  · subst e
    rw [if_pos (by simp)]
    unfold tabG
    rw [show Nat.blt j (j + 1) = true from Nat.ble_eq_true_of_le (Nat.le_refl _), h1, Nat.sub_self]; rfl
  · rw [if_neg (by simp only [List.length_cons, List.length_nil]; omega)]
    unfold tabG
    rw [h2 j e]
    have : Nat.blt j (k + 1) = Nat.blt j k := by
      cases h : Nat.blt j k
      · cases h' : Nat.blt j (k + 1)
        · rfl
        · have q1 := Nat.le_of_ble_eq_true h'
          have : ¬ j < k := fun q => by rw [show Nat.blt j k = true from Nat.ble_eq_true_of_le q] at h; cases h
          omega
      · exact Nat.ble_eq_true_of_le (by have := Nat.le_of_ble_eq_true h; omega)
    rw [this]
theorem comb_1 (A B L : List Spn) : combS 1 A B L = bothL A B := rfl
theorem comb_2 (A B L : List Spn) : combS 2 A B L = eitherL A B := rfl
theorem comb_3 (A B L : List Spn) : combS 3 A B L = lessL A B := rfl
theorem comb_0 (A B L : List Spn) : combS 0 A B L = L := rfl
theorem tab_op {P : Nat → Prt} {r : Ray} {k : Nat} {o : Int} (h : ((P k).op == o) = true) : tabS P r (k + 1) k = combS o (tabS P r k (P k).l.toNat) (tabS P r k (P k).m.toNat) (leafS P r k) := by rw [tab_at, eq_of_beq h]
theorem op_0 {n : Nat} {P : Nat → Prt} {s : Int} (hS : solidE n P s = 0) {k : Nat} (hk : k < n) (h1 : ((P k).op == 1) = false) (h2 : ((P k).op == 2) = false) (h3 : ((P k).op == 3) = false) : (P k).op = 0 ∧ ∀ r : Ray, r.e = 0 → (P k).p.body r := by
  rcases part_op ((solid_ok hS).2 k hk) with g | g
  · exact ⟨g.1, fun r hr => ⟨g.2.2, g.2.1, hr⟩⟩
  · have := beq_eq_false_iff_ne.1 h1
    have := beq_eq_false_iff_ne.1 h2
    have := beq_eq_false_iff_ne.1 h3
    omega
theorem op_le {n : Nat} {P : Nat → Prt} {s : Int} (hS : solidE n P s = 0) {k : Nat} (hk : k < n) (h : decide ((P k).op > 0) = true) : ((P k).op = 1 ∨ (P k).op = 2 ∨ (P k).op = 3) ∧ (P k).l.toNat < k ∧ (P k).m.toNat < k ∧ 0 ≤ (P k).l ∧ 0 ≤ (P k).m := by
  have := of_decide_eq_true h
  rcases part_op ((solid_ok hS).2 k hk) with g | g
  · omega
  · omega
theorem op_no {n : Nat} {P : Nat → Prt} {s : Int} (hS : solidE n P s = 0) {k : Nat} (hk : k < n) (h : decide ((P k).op > 0) = false) : (P k).op = 0 ∧ ∀ r : Ray, r.e = 0 → (P k).p.body r := by
  have := of_decide_eq_false h
  rcases part_op ((solid_ok hS).2 k hk) with g | g
  · exact ⟨g.1, fun r hr => ⟨g.2.2, g.2.1, hr⟩⟩
  · omega
def leaf_k (n : Nat) (P : Nat → Prt) (r : Ray) : Con Try.prog := ⟨24, fun args => match args with
    | [_, .int _ e, _] => .ok (some (args = [.sl n 16 (partF P), .int .i64 (e.toNat : Nat), rayA r] ∧ (P e.toNat).p.body r ∧ e.toNat < n)) (.sl (leafS P r e.toNat).length 6 (flatF 6 (rowsS (leafS P r e.toNat))))
    | _ => .no, by
  intro args q u h hp
  split at h
  · cases h
    obtain ⟨h1, h2⟩ := hp
    rw [h1]
    exact leafP_a n P r _ h2
  · cases h⟩
theorem view_tab {nm : Bool} {T : Nat → List Spn} {k : Nat} {e : Int} {K : AV → Prop} (h : e.toNat < k) (hk : nameE nm (slA (T e.toNat)) K) : nameE nm (tabG T k (0 + mulN e.toNat 1)) K := by
  refine view_one ?_ hk
  rw [mulN_eq, Nat.zero_add, Nat.mul_one]
  unfold tabG
  rw [show Nat.blt e.toNat k = true from Nat.ble_eq_true_of_le h]; rfl
theorem lt_k {n : Nat} {P : Nat → Prt} {s : Int} (hS : solidE n P s = 0) {k : Nat} {o : Int} (ho : o = 1 ∨ o = 2 ∨ o = 3) (hi : decide ((k : Int) < (n : Int)) = true) (h : ((P k).op == o) = true) : (P k).l.toNat < k ∧ (P k).m.toNat < k ∧ 0 ≤ (P k).l ∧ 0 ≤ (P k).m := by
  have hi := of_decide_eq_true hi
  have h := eq_of_beq h
  rcases part_op ((solid_ok hS).2 k (by omega)) with g | g
  · omega
  · omega
theorem last_lt {n k : Nat} (hn : 1 ≤ n ∧ n ≤ 16) (h : decide ((k : Int) < (n : Int)) = false) : (IntKind.i64.wrap ((n : Int) - 1)).toNat < k := by
  have := of_decide_eq_false h
  rw [last_ix (by omega)]; omega
theorem tabG_set {T T' : Nat → List Spn} {k j : Nat} {X : List Spn} (h1 : T' k = X) (h2 : ∀ j, j ≠ k → T' j = T j) : tabG T' (k + 1) j = if j = 0 + mulN k 1 then slA X else tabG T k j := by
  rw [tabG_step h1 h2]
  unfold setA
  rw [mulN_eq, Nat.zero_add, Nat.mul_one]
  by_cases e : j = k
  · subst e; rw [if_pos (by simp), if_pos rfl, Nat.sub_self]; rfl
  · rw [if_neg (by simp only [List.length_cons, List.length_nil]; omega), if_neg e]
theorem tab_end {n k : Nat} {P : Nat → Prt} {r : Ray} (hn : 1 ≤ n ∧ n ≤ 16) (hk : k ≤ n) (h : decide ((k : Int) < (n : Int)) = false) : tabS P r k (IntKind.i64.wrap ((n : Int) - 1)).toNat = tabS P r n (n - 1) := by
  have := of_decide_eq_false h
  rw [last_ix (by omega), show k = n by omega]
structure MI (n : Nat) where
  k : Nat
  hk : k ≤ n
theorem made_f : FnOk Try.prog 11 Try.f11 := ⟨Try.func11, by kernel_rfl⟩
theorem made_a (n : Nat) (P : Nat → Prt) (s : Int) (r : Ray) (hpre : solidE n P s = 0 ∧ r.e = 0) : ACalls Try.prog 11 [.sl n 16 (partF P), .agg [.flt r.x, .flt r.y, .flt r.z, .flt r.u, .flt r.v, .flt r.w, .flt r.l]] (.sl (tabS P r n (n - 1)).length 6 (flatF 6 (rowsS (tabS P r n (n - 1))))) := by
  refine acalls_of (inl := hasI (P := Try.prog) [] []) (base [both_k, either_k, lessP_k, (leaf_k n P r)] [] []) 0 made_f (And.intro (by kernel_rfl) ?_)
  obtain ⟨hS, hr⟩ := hpre
  have hn := (solid_ok hS).1
  repeat' (first | refine And.intro ?_ ?_ | (with_reducible exact ff_elim) | (with_reducible exact tf_elim) | refine num_elim ?_ | intro _ | (with_reducible rfl) | ((with_reducible refine lk_t ?_); exact rfl) | ((with_reducible refine pf_t ?_); exact rfl) | refine tell ?_ | exact True.intro | (refine IsT.of ?_; kernel_rfl))
  all_goals (try (refine loop_keep [0, 3, 5, 11, 12] [0] ?_; refine LoopI.mk (MI n) (fun j => [(13, .int .i64 j.k)]) (fun j => [(4, .arr n (tabG (tabS P r j.k) j.k))]) (fun j => n - j.k) (⟨0, Nat.zero_le _⟩) (wk_mk [some 4, some 0] ?_) (fun ⟨k, hk⟩ => ?_)))
  repeat' (first | refine And.intro ?_ ?_ | (with_reducible exact ff_elim) | (with_reducible exact tf_elim) | refine stp_mk [some 4, some 0] ((⟨k + 1, ?_⟩ : MI n)) ?_ ?_ | refine view_part ?_ | refine view_tab (lt_k hS (.inl rfl) (by assumption) (by assumption)).1 ?_ | refine view_tab (lt_k hS (.inl rfl) (by assumption) (by assumption)).2.1 ?_ | refine view_tab (lt_k hS (.inr (.inl rfl)) (by assumption) (by assumption)).1 ?_ | refine view_tab (lt_k hS (.inr (.inl rfl)) (by assumption) (by assumption)).2.1 ?_ | refine view_tab (lt_k hS (.inr (.inr rfl)) (by assumption) (by assumption)).1 ?_ | refine view_tab (lt_k hS (.inr (.inr rfl)) (by assumption) (by assumption)).2.1 ?_ | refine view_tab (last_lt hn (by assumption)) ?_ | refine num_elim ?_ | intro _ | (with_reducible rfl) | ((with_reducible refine lk_t ?_); exact rfl) | ((with_reducible refine pf_t ?_); exact rfl) | refine tell ?_ | exact True.intro | (refine IsT.of ?_; kernel_rfl))
  all_goals (try refine Tell.mk ?_)
  all_goals (try dsimp only at *)
  all_goals first | with_reducible rfl | with_reducible assumption | (with_reducible refine gb_t ?_; with_reducible assumption) | (with_reducible refine gb_f ?_; with_reducible assumption) | skip
  all_goals (try simp only [Int.toNat_natCast, unS_rows] at *)
  all_goals (try (have hlt : k < n := lt_of (by assumption)))
  all_goals first | (have q := lt_k hS (.inl rfl) (by assumption) (by assumption : ((P k).op == 1) = true); have q2 := (tab_op (r := r) (by assumption : ((P k).op == 1) = true)).trans (comb_1 _ _ _)) | (have q := lt_k hS (.inr (.inl rfl)) (by assumption) (by assumption : ((P k).op == 2) = true); have q2 := (tab_op (r := r) (by assumption : ((P k).op == 2) = true)).trans (comb_2 _ _ _)) | (have q := lt_k hS (.inr (.inr rfl)) (by assumption) (by assumption : ((P k).op == 3) = true); have q2 := (tab_op (r := r) (by assumption : ((P k).op == 3) = true)).trans (comb_3 _ _ _)) | (have e1 : ((P k).op == 1) = false := (by assumption); have e2 : ((P k).op == 2) = false := (by assumption); have e3 : ((P k).op == 3) = false := (by assumption); obtain ⟨q, q1⟩ := op_0 hS hlt e1 e2 e3; have q2 : tabS P r (k + 1) k = leafS P r k := (by rw [tab_at, q]; rfl)) | skip
  all_goals first | exact tab_len P r hk hn.2 _ | exact tabG_step q2 fun j hj => tab_ne P r hj | exact tabG_set q2 fun j hj => tab_ne P r hj | (rw [tab_end hn hk (by assumption)]; done) | (rw [← tab_end (P := P) (r := r) hn hk (by assumption)]; done) | (show (tabS P r n (n - 1)).length = _; rw [← tab_end (P := P) (r := r) hn hk (by assumption)]; done) | (show 16 ≤ 16; decide) | (show 0 + mulN _ 1 < n; rw [mulN_eq, last_ix (by omega)]; omega) | exact (q1 r hr).1 | exact (q1 r hr).2.1 | exact (q1 r hr).2.2 | omega | (show 0 + mulN _ 1 < n; rw [mulN_eq]; omega) | (show n ≤ mulN _ 1; rw [mulN_eq]; omega) | (show ((24 : Nat) : Int) * _ ≤ _; omega) | (rw [wrapI (by omega) (by omega)]; omega) | rfl | skip
  trace_state
def tabH (T : Nat → List Spn) (j : Nat) : AV := slA (T j)
theorem tabH_app {T T' : Nat → List Spn} {k j : Nat} {X : AV} (hj : j < k + 1) (h1 : slA (T' k) = X ∨ agr0 (fun _ => none) (slA (T' k)) X) (h2 : ∀ j, j ≠ k → T' j = T j) :
    tabH T' j = catA (k * 1) (tabH T) (fun j => [X].getD j .any) j ∨ agr0 (fun _ => none) (tabH T' j) (catA (k * 1) (tabH T) (fun j => [X].getD j .any) j) := by
  unfold catA tabH
  rw [Nat.mul_one]
  by_cases e : j = k
  · subst e
    rw [if_neg (by omega), Nat.sub_self]
    exact h1
  · rw [if_pos (by omega), h2 j e]; exact .inl rfl
theorem agr_leaf {P : Nat → Prt} {r : Ray} {k : Nat} {g : Nat → AV} (h : pwO (P k).p r = true) (hg : ∀ j, j < 6 → g j = [AV.flt (pwI (P k).p r), .int .i64 k, .bool false, .flt (pwU (P k).p r), .int .i64 k, .bool false].getD j .any) : agr0 (fun _ => none) (slA (leafS P r k)) (.sl 1 6 g) := by
  rw [leaf_t h]
  exact ⟨rfl, rfl, fun j hj => by rw [hg j hj]; exact row_one hj⟩
theorem agr_noleaf {P : Nat → Prt} {r : Ray} {k : Nat} (h : pwO (P k).p r = false) : agr0 (fun _ => none) (slA (leafS P r k)) .nils := by
  rw [leaf_f h]; exact (rfl : ([] : List Spn).length = 0)
theorem comb_any {op : Int} (h : op = 1 ∨ op = 2 ∨ op = 3) (A B L L' : List Spn) : combS op A B L = combS op A B L' := by rcases h with rfl | rfl | rfl <;> rfl
structure SI (n : Nat) where
  k : Nat
  hk : k ≤ n
theorem view_tabH {nm : Bool} {T : Nat → List Spn} {e : Int} {K : AV → Prop} (hk : nameE nm (slA (T e.toNat)) K) : nameE nm (tabH T (0 + mulN e.toNat 1)) K := by
  refine view_one ?_ hk
  rw [mulN_eq, Nat.zero_add, Nat.mul_one]; rfl
end Go.Proofs.Ytgbcnfcgljbbgaa
/- Solids: the spans of a ray. -/
namespace Go.Proofs.Ytgbcnfcgljbbgaa
open Go.RowKit Ev Flt
set_option linter.unusedVariables false
set_option linter.unusedSimpArgs false
set_option maxRecDepth 20000
set_option maxHeartbeats 4000000

def spE (n : Nat) (P : Nat → Prt) (s : Int) (r : Ray) : Int := if solidE n P s = 0 then r.e else solidE n P s
def spV (n : Nat) (P : Nat → Prt) (s : Int) (r : Ray) : List Spn := if spE n P s r = 0 then tabS P r n (n - 1) else []
theorem spE_0 {n : Nat} {P : Nat → Prt} {s : Int} {r : Ray} (h : spE n P s r = 0) : solidE n P s = 0 ∧ r.e = 0 := by
  unfold spE at h
  split at h
  · exact ⟨by assumption, h⟩
  · rename_i h2; exact absurd h h2
def solidMay_mc (n : Nat) (P : Nat → Prt) (s : Int) : MCon Try.prog := ⟨9, fun args own => .ok [] [.agg [.sl n 16 (partF P), .int .i64 s]] [] none (.int .i64 (solidE n P s)) [], by
  intro args own ks cargs rows p r rows2 h hp
  cases h
  exact solidMay_a n P s⟩
def made_k (n : Nat) (P : Nat → Prt) (s : Int) (r : Ray) : Con Try.prog := ⟨11, fun args => .ok (some (args = [.sl n 16 (partF P), rayA r] ∧ solidE n P s = 0 ∧ r.e = 0)) (.sl (tabS P r n (n - 1)).length 6 (flatF 6 (rowsS (tabS P r n (n - 1))))), by
  intro args p u h hp
  cases h
  obtain ⟨rfl, h2⟩ := hp
  exact made_a n P s r h2⟩
theorem spansP_f : FnOk Try.prog 4 Try.f4 := ⟨Try.func4, by kernel_rfl⟩
theorem spansP_a (n : Nat) (P : Nat → Prt) (s : Int) (r : Ray) : ACalls Try.prog 4 [.agg [.sl n 16 (partF P), .int .i64 s], .agg [.flt r.x, .flt r.y, .flt r.z, .flt r.u, .flt r.v, .flt r.w, .flt r.l]] (.tup [.sl (spV n P s r).length 6 (flatF 6 (rowsS (spV n P s r))), .int .i64 (spE n P s r)]) := by
  refine acalls_of (inl := hasI (P := Try.prog) [] [(solidMay_mc n P s)]) (base [rayfine_k, (made_k n P s r)] [] [(solidMay_mc n P s)]) 0 spansP_f (And.intro (by kernel_rfl) ?_)
  repeat' (first | refine And.intro ?_ ?_ | (with_reducible exact ff_elim) | (with_reducible exact tf_elim) | intro _ | (with_reducible rfl) | ((with_reducible refine lk_t ?_); exact rfl) | ((with_reducible refine pf_t ?_); exact rfl) | refine tell ?_ | exact True.intro | (refine IsT.of ?_; kernel_rfl))
  all_goals (try refine Tell.mk ?_)
  all_goals first | with_reducible rfl | with_reducible assumption | (with_reducible refine gb_t ?_; with_reducible assumption) | (with_reducible refine gb_f ?_; with_reducible assumption) | skip
  all_goals first | (show (_ : List AV) = [AV.sl _ _ _, AV.agg _]; rfl) | skip
  all_goals (try simp only [bne_iff_ne, ne_eq, bne_eq_false_iff_eq, beq_iff_eq, beq_eq_false_iff_ne, Decidable.not_not, show ∀ r : Ray, rayV r.x r.y r.z r.u r.v r.w r.l = r.e from fun _ => rfl] at *)
  all_goals first | assumption | contradiction | (simp [spE, spV, *]; done) | trace_state
def solA (n : Nat) (P : Nat → Prt) (s : Int) : AV := .agg [.sl n 16 (partF P), .int .i64 s]
def spansP_k (n : Nat) (P : Nat → Prt) (s : Int) (r : Ray) : Con Try.prog := ⟨4, fun args => .ok (some (args = [solA n P s, rayA r])) (.tup [.sl (spV n P s r).length 6 (flatF 6 (rowsS (spV n P s r))), .int .i64 (spE n P s r)]), by
  intro args p u h hp
  cases h
  have hp : args = [solA n P s, rayA r] := hp
  rw [hp]
  exact spansP_a n P s r⟩
end Go.Proofs.Ytgbcnfcgljbbgaa
/- Rows of spans as sets of places (for TopSpans): what both and less hold. -/
namespace Go.Proofs.Ytgbcnfcgljbbgaa
open Go.RowKit Ev Flt
set_option linter.unusedVariables false
set_option linter.unusedSimpArgs false

/-- A place within a span, not at its ends. -/
def ins (x : Spn) (k : Int) : Prop := key x.a < k ∧ k < key x.d
def InL (L : List Spn) (k : Int) : Prop := ∃ x, x ∈ L ∧ ins x k
/-- A place at an end of a span. -/
def EndL (L : List Spn) (k : Int) : Prop := ∃ x, x ∈ L ∧ (key x.a = k ∨ key x.d = k)
theorem in_nil {k : Int} : ¬ InL [] k := fun ⟨_, h, _⟩ => by cases h
theorem in_cons {x : Spn} {L : List Spn} {k : Int} : InL (x :: L) k ↔ ins x k ∨ InL L k := by
  constructor
  · rintro ⟨y, hy, hk⟩
    rcases List.mem_cons.1 hy with rfl | hy
    · exact .inl hk
    · exact .inr ⟨y, hy, hk⟩
  · rintro (h | ⟨y, hy, hk⟩)
    · exact ⟨x, List.mem_cons_self, h⟩
    · exact ⟨y, List.mem_cons_of_mem _ hy, hk⟩
theorem in_app {L M : List Spn} {k : Int} : InL (L ++ M) k ↔ InL L k ∨ InL M k := by
  constructor
  · rintro ⟨y, hy, hk⟩
    rcases List.mem_append.1 hy with hy | hy
    · exact .inl ⟨y, hy, hk⟩
    · exact .inr ⟨y, hy, hk⟩
  · rintro (⟨y, hy, hk⟩ | ⟨y, hy, hk⟩)
    · exact ⟨y, List.mem_append_left _ hy, hk⟩
    · exact ⟨y, List.mem_append_right _ hy, hk⟩
theorem in_flat {L : List Spn} {f : Spn → List Spn} {k : Int} : InL (L.flatMap f) k ↔ ∃ x, x ∈ L ∧ InL (f x) k := by
  constructor
  · rintro ⟨y, hy, hk⟩
    obtain ⟨x, hx, hy⟩ := List.mem_flatMap.1 hy
    exact ⟨x, hx, y, hy, hk⟩
  · rintro ⟨x, hx, y, hy, hk⟩
    exact ⟨y, List.mem_flatMap.2 ⟨x, hx, hy⟩, hk⟩
theorem inter_in {x y : Spn} (hx : OkS x) (hy : OkS y) {k : Int} : InL (interL x y) k ↔ ins x k ∧ ins y k := by
  obtain ⟨h1, h2, h3, h4⟩ := inter_a hx hy
  unfold interL
  rw [flt_key h1 h2]
  by_cases e : key (interS x y).a < key (interS x y).d
  · rw [decide_eq_true e]
    show InL [interS x y] k ↔ _
    rw [in_cons]
    unfold ins
    constructor
    · rintro (h | h)
      · omega
      · exact absurd h in_nil
    · intro h
      exact .inl (by omega)
  · rw [decide_eq_false e]
    show InL [] k ↔ _
    unfold ins
    constructor
    · intro h; exact absurd h in_nil
    · intro h; omega
theorem pairs_in {A B : List Spn} (hA : ∀ x, x ∈ A → OkS x) (hB : ∀ y, y ∈ B → OkS y) {k : Int} : InL (pairsL A B) k ↔ InL A k ∧ InL B k := by
  unfold pairsL
  rw [in_flat]
  constructor
  · rintro ⟨x, hx, h⟩
    obtain ⟨y, hy, h⟩ := in_flat.1 h
    obtain ⟨h1, h2⟩ := (inter_in (hA x hx) (hB y hy)).1 h
    exact ⟨⟨x, hx, h1⟩, y, hy, h2⟩
  · rintro ⟨⟨x, hx, h1⟩, y, hy, h2⟩
    exact ⟨x, hx, in_flat.2 ⟨y, hy, (inter_in (hA x hx) (hB y hy)).2 ⟨h1, h2⟩⟩⟩
theorem both_in {A B : List Spn} (hA : Good A) (hB : Good B) {k : Int} : InL (bothL A B) k ↔ InL A k ∧ InL B k := by
  rw [← pairs_both _ A B rfl hA hB]
  exact pairs_in hA.ok hB.ok
theorem fin_in {x : Spn} (ha : isN x.a = false) (hd : isN x.d = false) {k : Int} : InL (finS x) k ↔ ins x k := by
  rw [fin_key ha hd]
  by_cases e : key x.a < key x.d
  · rw [if_pos e, in_cons]
    exact ⟨fun h => h.elim id fun h => absurd h in_nil, .inl⟩
  · rw [if_neg e]
    unfold ins
    exact ⟨fun h => absurd h in_nil, fun h => by omega⟩
theorem good_ge {y : Spn} {b : List Spn} (h : Good (y :: b)) {z : Spn} (hz : z ∈ b) : key y.a < key z.a := by
  have := h.1.lt
  have := h.2.1 z hz
  omega
theorem in_no {b : List Spn} {k m : Int} (h : ∀ z, z ∈ b → m ≤ key z.a) (hk : k ≤ m) : ¬ InL b k := fun ⟨z, hz, h1, h2⟩ => by
  have := h z hz
  omega
theorem lessX_in {k : Int} : ∀ (b : List Spn) (x : Spn), Good b → isN x.a = false → isN x.d = false → ¬ EndL b k → (InL (lessX x b) k ↔ ins x k ∧ ¬ InL b k)
  | [], x, _, ha, hd, _ => by
    show InL (finS x) k ↔ _
    rw [fin_in ha hd]
    exact ⟨fun h => ⟨h, in_nil⟩, fun h => h.1⟩
  | y :: b, x, hB, ha, hd, hE => by
    have hy := hB.1
    have hE' : ¬ EndL b k := fun ⟨z, hz, h⟩ => hE ⟨z, List.mem_cons_of_mem _ hz, h⟩
    have e1 : key y.a ≠ k := fun h => hE ⟨y, List.mem_cons_self, .inl h⟩
    have e2 : key y.d ≠ k := fun h => hE ⟨y, List.mem_cons_self, .inr h⟩
    have hlt := hy.lt
    show InL (bif skipS x y then lessX x b else bif stopS x y then finS x else cutS x y ++ lessX (behindS x y) b) k ↔ _
    rw [skip_key ha hy.nd, stop_key hd hy.na, in_cons]
    by_cases c1 : key y.d ≤ key x.a
    · rw [decide_eq_true c1]
      show InL (lessX x b) k ↔ _
      rw [lessX_in b x hB.2.2 ha hd hE']
      unfold ins
      constructor
      · rintro ⟨h1, h2⟩
        exact ⟨h1, fun h => h.elim (fun h => by omega) h2⟩
      · rintro ⟨h1, h2⟩
        exact ⟨h1, fun h => h2 (.inr h)⟩
    · rw [decide_eq_false c1]
      by_cases c2 : key x.d ≤ key y.a
      · rw [decide_eq_true c2]
        show InL (finS x) k ↔ _
        rw [fin_in ha hd]
        unfold ins
        constructor
        · intro h
          refine ⟨h, fun q => q.elim (fun q => by omega) ?_⟩
          exact in_no (m := key y.d) hB.2.1 (by omega)
        · exact fun h => h.1
      · rw [decide_eq_false c2]
        show InL (cutS x y ++ lessX (behindS x y) b) k ↔ _
        rw [in_app, lessX_in b (behindS x y) hB.2.2 hy.nd hd hE']
        have hc : InL (cutS x y) k ↔ key x.a < k ∧ k < key y.a := by
          unfold cutS
          rw [flt_key ha hy.na]
          by_cases c3 : key x.a < key y.a
          · rw [decide_eq_true c3]
            show InL [beforeS x y] k ↔ _
            rw [in_cons]
            exact ⟨fun h => h.elim id fun h => absurd h in_nil, .inl⟩
          · rw [decide_eq_false c3]
            show InL [] k ↔ _
            exact ⟨fun h => absurd h in_nil, fun h => by omega⟩
        have hb : ins (behindS x y) k ↔ key y.d < k ∧ k < key x.d := Iff.rfl
        rw [hc, hb]
        unfold ins
        constructor
        · rintro (h | ⟨h1, h2⟩)
          · refine ⟨by omega, fun q => q.elim (fun q => by omega) ?_⟩
            exact in_no (m := key y.d) hB.2.1 (by omega)
          · exact ⟨by omega, fun q => q.elim (fun q => by omega) h2⟩
        · rintro ⟨h1, h2⟩
          by_cases c4 : k < key y.a
          · exact .inl ⟨h1.1, c4⟩
          · have c5 : ¬ (key y.a < k ∧ k < key y.d) := fun q => h2 (.inl q)
            exact .inr ⟨by omega, fun q => h2 (.inr q)⟩
theorem less_in {A B : List Spn} (hA : Good A) (hB : Good B) {k : Int} (hE : ¬ EndL B k) : InL (lessL A B) k ↔ InL A k ∧ ¬ InL B k := by
  unfold lessL
  rw [in_flat]
  constructor
  · rintro ⟨x, hx, h⟩
    have hx' := hA.ok x hx
    obtain ⟨h1, h2⟩ := (lessX_in B x hB hx'.na hx'.nd hE).1 h
    exact ⟨⟨x, hx, h1⟩, h2⟩
  · rintro ⟨⟨x, hx, h1⟩, h2⟩
    have hx' := hA.ok x hx
    exact ⟨x, hx, (lessX_in B x hB hx'.na hx'.nd hE).2 ⟨h1, h2⟩⟩
theorem mem_merge : ∀ (n : Nat) (A B : List Spn), A.length + B.length = n → ∀ z, z ∈ A ∨ z ∈ B → z ∈ mergeL A B
  | 0, A, B, h, z, hz => by
    have hA : A = [] := List.eq_nil_of_length_eq_zero (by omega)
    have hB : B = [] := List.eq_nil_of_length_eq_zero (by omega)
    subst hA hB
    rcases hz with hz | hz <;> cases hz
  | n + 1, A, B, h, z, hz => by
    rw [merge_step (by omega)]
    cases hf : firstS A B with
    | true =>
      have hp := first_pos (by omega) hf
      have ih := mem_merge n A.tail B (by rw [List.length_tail]; omega) z
      rcases hz with hz | hz
      · rcases (mem_tail_getD hp).1 hz with e | g
        · exact List.mem_cons.2 (.inl e)
        · exact List.mem_cons.2 (.inr (ih (.inl g)))
      · exact List.mem_cons.2 (.inr (ih (.inr hz)))
    | false =>
      have hp := first_neg hf
      have ih := mem_merge n A B.tail (by rw [List.length_tail]; omega) z
      rcases hz with hz | hz
      · exact List.mem_cons.2 (.inr (ih (.inl hz)))
      · rcases (mem_tail_getD hp).1 hz with e | g
        · exact List.mem_cons.2 (.inl e)
        · exact List.mem_cons.2 (.inr (ih (.inr g)))
theorem merge_in {A B : List Spn} {k : Int} : InL (mergeL A B) k ↔ InL A k ∨ InL B k := by
  constructor
  · rintro ⟨z, hz, h⟩
    rcases merge_mem _ A B rfl z hz with g | g
    · exact .inl ⟨z, g, h⟩
    · exact .inr ⟨z, g, h⟩
  · rintro (⟨z, hz, h⟩ | ⟨z, hz, h⟩)
    · exact ⟨z, mem_merge _ A B rfl z (.inl hz), h⟩
    · exact ⟨z, mem_merge _ A B rfl z (.inr hz), h⟩
theorem push_in {o : List Spn} {x : Spn} {k : Int} (ho : Good o) (hx : OkS x) (hl : 0 < o.length → key (lastS o).a ≤ key x.a) (hE : ¬ EndL o k) (e1 : key x.a ≠ k) (e2 : key x.d ≠ k) :
    (InL (pushS o x) k ↔ InL o k ∨ ins x k) ∧ ¬ EndL (pushS o x) k := by
  rcases Nat.eq_zero_or_pos o.length with e | hp
  · have : o = [] := List.eq_nil_of_length_eq_zero e
    subst this
    unfold pushS
    rw [touch_nil rfl]
    show (InL [x] k ↔ _) ∧ ¬ EndL [x] k
    rw [in_cons]
    refine ⟨⟨fun h => h.elim .inr (fun h => absurd h in_nil), fun h => h.elim (fun h => absurd h in_nil) .inl⟩, ?_⟩
    rintro ⟨z, hz, h⟩
    have : z = x := by simpa using hz
    subst this
    omega
  · have hs := last_split hp
    have ho' := ho
    rw [hs] at ho'
    obtain ⟨l1, l2, l3⟩ := good_split ho'
    have hl := hl hp
    have hm : lastS o ∈ o := by
      have : lastS o ∈ o.dropLast ++ [lastS o] := by simp
      rwa [← hs] at this
    have d1 : key (lastS o).d ≠ k := fun h => hE ⟨_, hm, .inr h⟩
    have hin : InL o k ↔ InL o.dropLast k ∨ ins (lastS o) k := by
      conv => lhs; rw [hs]
      rw [in_app, in_cons]
      exact ⟨fun h => h.elim .inl fun h => h.elim .inr fun h => absurd h in_nil, fun h => h.elim .inl fun h => .inr (.inl h)⟩
    unfold pushS
    rw [touch_key hp l1 hx]
    by_cases c : key x.a ≤ key (lastS o).d
    · rw [decide_eq_true c]
      show (InL (o.dropLast ++ [laterS (lastS o) x]) k ↔ _) ∧ ¬ EndL (o.dropLast ++ [laterS (lastS o) x]) k
      obtain ⟨q1, q2, q3, q4⟩ := later_last l1 hx
      have hlt := l1.lt
      have hlx := hx.lt
      have hla : ins (laterS (lastS o) x) k ↔ ins (lastS o) k ∨ ins x k := by
        unfold ins
        rw [q2, q3]
        omega
      rw [in_app, in_cons, hin, hla]
      refine ⟨⟨fun h => ?_, fun h => ?_⟩, ?_⟩
      · rcases h with h | (h | h) | h
        · exact .inl (.inl h)
        · exact .inl (.inr h)
        · exact .inr h
        · exact absurd h in_nil
      · rcases h with (h | h) | h
        · exact .inl h
        · exact .inr (.inl (.inl h))
        · exact .inr (.inl (.inr h))
      · rintro ⟨z, hz, h⟩
        rcases List.mem_append.1 hz with hz | hz
        · exact hE ⟨z, List.dropLast_subset _ hz, h⟩
        · have : z = laterS (lastS o) x := by simpa using hz
          subst this
          rcases h with h | h
          · rw [q2] at h; exact hE ⟨_, hm, .inl h⟩
          · rw [q3] at h; omega
    · rw [decide_eq_false c]
      show (InL (o ++ [x]) k ↔ _) ∧ ¬ EndL (o ++ [x]) k
      rw [in_app, in_cons]
      refine ⟨⟨fun h => h.elim .inl fun h => h.elim .inr fun h => absurd h in_nil, fun h => h.elim .inl fun h => .inr (.inl h)⟩, ?_⟩
      rintro ⟨z, hz, h⟩
      rcases List.mem_append.1 hz with hz | hz
      · exact hE ⟨z, hz, h⟩
      · have : z = x := by simpa using hz
        subst this
        omega
theorem fold_in {k : Int} : ∀ (M o : List Spn), SortA M → Gath o M → ¬ EndL o k → ¬ EndL M k → (InL (M.foldl pushS o) k ↔ InL o k ∨ InL M k)
  | [], o, _, _, _, _ => ⟨.inl, fun h => h.elim id fun h => absurd h in_nil⟩
  | x :: M, o, hM, h, hE, hF => by
    show InL (M.foldl pushS (pushS o x)) k ↔ _
    obtain ⟨p1, p2⟩ := push_in (k := k) h.good hM.1 (h.last x List.mem_cons_self) hE (fun e => hF ⟨x, List.mem_cons_self, .inl e⟩) (fun e => hF ⟨x, List.mem_cons_self, .inr e⟩)
    rw [fold_in M _ hM.2.2 (push_gath h hM.1 hM.2.1) p2 (fun ⟨z, hz, h⟩ => hF ⟨z, List.mem_cons_of_mem _ hz, h⟩), p1, in_cons, or_assoc]
theorem either_in {A B : List Spn} (hA : Good A) (hB : Good B) {k : Int} (eA : ¬ EndL A k) (eB : ¬ EndL B k) : InL (eitherL A B) k ↔ InL A k ∨ InL B k := by
  unfold eitherL
  rw [fold_in _ [] (merge_sort _ A B rfl hA.sortA hB.sortA) ⟨trivial, fun x _ h => absurd h (Nat.lt_irrefl 0)⟩ (fun ⟨_, h, _⟩ => by cases h) ?_, merge_in]
  · exact ⟨fun h => h.elim (fun h => absurd h in_nil) id, .inr⟩
  · rintro ⟨z, hz, h⟩
    rcases merge_mem _ A B rfl z hz with g | g
    · exact eA ⟨z, g, h⟩
    · exact eB ⟨z, g, h⟩
end Go.Proofs.Ytgbcnfcgljbbgaa
/- How far the answer of a float's operation is from the exact one. -/
namespace Go.Proofs.Ytgbcnfcgljbbgaa
open Go.RowKit Ev Ieee
set_option linter.unusedVariables false
set_option linter.unusedSimpArgs false
set_option maxRecDepth 20000
namespace Flt

theorem rhe_near {P g : Nat} (hg : 0 < g) : 2 * (rhe P g * g) ≤ 2 * P + g ∧ 2 * P ≤ 2 * (rhe P g * g) + g := by
  unfold rhe
  have h := Nat.div_add_mod P g
  have hm := Nat.mod_lt P hg
  split
  · rename_i hc
    rw [Nat.add_mul, Nat.one_mul, Nat.mul_comm (P / g)]
    generalize g * (P / g) = a at *
    generalize P / g % 2 = b at *
    generalize P % g = r at *
    omega
  · rename_i hc
    rw [Nat.add_zero, Nat.mul_comm (P / g)]
    generalize g * (P / g) = a at *
    generalize P / g % 2 = b at *
    generalize P % g = r at *
    omega
theorem Vr_at {t q : Nat} (h1 : q ≤ 9007199254740992) (h2 : 0 < t → 4503599627370496 ≤ q) : Vr (t * 4503599627370496 + q) = q * 2 ^ t := by
  unfold Vr
  by_cases h0 : t = 0
  · subst h0
    rw [Nat.zero_mul, Nat.zero_add, Nat.pow_zero, Nat.mul_one]
    split
    · rfl
    · by_cases h : q = 9007199254740992
      · subst h; decide
      · rw [show q / 4503599627370496 - 1 = 0 by omega, Nat.pow_zero]; omega
  · have h2 := h2 (by omega)
    rw [if_neg (by omega)]
    by_cases h : q = 9007199254740992
    · subst h
      rw [show (t * 4503599627370496 + 9007199254740992) % 4503599627370496 = 0 by omega, show (t * 4503599627370496 + 9007199254740992) / 4503599627370496 - 1 = t + 1 by omega, Nat.pow_succ]
      omega
    · rw [show (t * 4503599627370496 + q) % 4503599627370496 = q - 4503599627370496 by omega, show (t * 4503599627370496 + q) / 4503599627370496 - 1 = t by omega, show 4503599627370496 + (q - 4503599627370496) = q by omega]
theorem rung_err {P D t κ : Nat} (hD : 0 < D) (h : Rng (2 ^ 52) P D t) (hκ : κ ≤ 1900) (hP : P ≤ 2 ^ κ * D) : rung (2 ^ 52) II P D t < II ∧
    9007199254740992 * (Vr (rung (2 ^ 52) II P D t) * D) ≤ 9007199254740992 * P + P + 4503599627370496 * D ∧ 9007199254740992 * P ≤ 9007199254740992 * (Vr (rung (2 ^ 52) II P D t) * D) + P + 4503599627370496 * D := by
  have hII : II = 9218868437227405312 := by decide
  have hg : 0 < D * 2 ^ t := Nat.mul_pos hD (Nat.two_pow_pos _)
  obtain ⟨n1, n2⟩ := rhe_near (P := P) hg
  have q1 : rhe P (D * 2 ^ t) ≤ 9007199254740992 := rhe_upper hg (by have := h.upper; rw [p52] at this; exact this)
  have q2 : 0 < t → 4503599627370496 ≤ rhe P (D * 2 ^ t) := fun ht => rhe_lower hg (by
    rcases h with ⟨h, _⟩ | ⟨_, h, _⟩
    · omega
    · rw [p52] at h; rw [Nat.mul_comm D, ← Nat.mul_assoc]; exact h)
  have t1 : t ≤ 1900 := by
    rcases h with ⟨h, _⟩ | ⟨_, h, _⟩
    · omega
    · have h' : 2 ^ 52 * 2 ^ t * D ≤ 2 ^ κ * D := Nat.le_trans h hP
      have h'' := Nat.le_of_mul_le_mul_right h' hD
      rw [← Nat.pow_add] at h''
      have := (Nat.pow_le_pow_iff_right (by decide)).1 h''
      omega
  have er : rung (2 ^ 52) II P D t = t * 4503599627370496 + rhe P (D * 2 ^ t) := by
    unfold rung; rw [p52, hII]; omega
  rw [er, Vr_at q1 q2]
  refine ⟨by rw [hII]; omega, ?_⟩
  have e : rhe P (D * 2 ^ t) * 2 ^ t * D = rhe P (D * 2 ^ t) * (D * 2 ^ t) := by rw [Nat.mul_assoc, Nat.mul_comm (2 ^ t)]
  rw [e]
  generalize rhe P (D * 2 ^ t) * (D * 2 ^ t) = X at *
  rcases h with ⟨rfl, h⟩ | ⟨_, h, _⟩
  · rw [Nat.pow_zero, Nat.mul_one] at n1 n2
    omega
  · rw [p52, Nat.mul_assoc, Nat.mul_comm _ D] at h
    generalize D * 2 ^ t = g at *
    omega
theorem key_V {r : Nat} {s : Bool} {ρ : Nat} (hk : key r = sg s ρ) (hn : isN r = false) (hr : ρ < II) : Fin r ∧ V r = sg s (Vr ρ) := by
  obtain ⟨s', r', k, a, b, c⟩ := read_sr r
  have hII : II = 9218868437227405312 := by decide
  have e : r' = ρ := by rw [hk] at k; unfold sg at k; split at k <;> split at k <;> omega
  subst e
  obtain ⟨m, i, h1, h2⟩ := a hr
  refine ⟨⟨_, _, _, h1⟩, ?_⟩
  rw [h2]
  rw [hk] at k
  rw [(sg_cmp s' s r' r').2, k]
/-- A sum: its sign, and its rung. -/
theorem add_form {x y : Nat} (hx : Fin x) (hy : Fin y) : ∃ t, Rng (2 ^ 52) (V x + V y).natAbs 1 t ∧ isN (F .add x y) = false ∧ key (F .add x y) = sg (decide (V x + V y < 0)) (rung (2 ^ 52) II (V x + V y).natAbs 1 t) := by
  obtain ⟨s, m, i, ex⟩ := hx
  obtain ⟨t, n, j, ey⟩ := hy
  obtain ⟨_, i0, _⟩ := read_form ex
  obtain ⟨_, j0, _⟩ := read_form ey
  have e0 : fop .add x y = some (double.nearest (if signed s m (i - min i j).toNat + signed t n (j - min i j).toNat = 0 then s && t else decide (signed s m (i - min i j).toNat + signed t n (j - min i j).toNat < 0)) (signed s m (i - min i j).toNat + signed t n (j - min i j).toNat).natAbs (min i j)) := by
    show ((double.read x).sum (double.read y)).map double.write = _
    rw [ex, ey]
    rfl
  have hd : (signed s m (i - min i j).toNat + signed t n (j - min i j).toNat) * (2 ^ (min i j + 1074).toNat : Nat) = V x + V y := by
    rw [V_of ex, V_of ey, Int.add_mul, ← signed_add, ← signed_add, show (i - min i j).toNat + (min i j + 1074).toNat = (i + 1074).toNat by omega, show (j - min i j).toNat + (min i j + 1074).toNat = (j + 1074).toNat by omega]
  have p : (0 : Int) < (2 ^ (min i j + 1074).toNat : Nat) := by have := Nat.two_pow_pos (min i j + 1074).toNat; omega
  generalize signed s m (i - min i j).toNat + signed t n (j - min i j).toNat = d at *
  have hb : (-1074 - min i j).toNat = 0 := by omega
  generalize hneg : (if d = 0 then s && t else decide (d < 0)) = neg at e0
  obtain ⟨τ, hr, hn⟩ := nearest_form neg d.natAbs (min i j)
  have hab : d.natAbs * 2 ^ (min i j + 1074).toNat = (V x + V y).natAbs := by
    rw [← hd, Int.natAbs_mul]; rfl
  rw [hb, Nat.pow_zero, hab] at hr hn
  rw [hn] at e0
  have hw := word_ok neg (rung_le (2 ^ 52) II (V x + V y).natAbs 1 τ)
  refine ⟨τ, hr, ?_, ?_⟩
  · rw [F_some e0 hw]; exact hw
  · rw [F_some e0 hw, key_word _ (rung_le _ _ _ _ _)]
    rcases Int.lt_trichotomy d 0 with g | g | g
    · have : V x + V y < 0 := by
        have := Int.mul_neg_of_neg_of_pos g p; omega
      rw [decide_eq_true this, ← hneg, if_neg (by omega), decide_eq_true g]
    · have h0 : V x + V y = 0 := by rw [← hd, g, Int.zero_mul]
      rw [h0] at hr ⊢
      have e : rung (2 ^ 52) II (Int.natAbs 0) 1 τ = 0 := rng_0 (Nat.two_pow_pos _) (by decide) hr
      rw [e]
      unfold sg
      split <;> split <;> rfl
    · have : ¬ V x + V y < 0 := by
        have := Int.mul_pos g p; omega
      rw [decide_eq_false this, ← hneg, if_neg (by omega), decide_eq_false (by omega)]
/-- A product: its sign, and its rung. -/
theorem mul_form {x y : Nat} {s t : Bool} {m n : Nat} {i j : Int} (hx : double.read x = .number s m i) (hy : double.read y = .number t n j) :
    ∃ τ, Rng (2 ^ 52) (m * n * 2 ^ (i + j + 1074).toNat) (2 ^ (-1074 - (i + j)).toNat) τ ∧ isN (F .mul x y) = false ∧ key (F .mul x y) = sg (s ^^ t) (rung (2 ^ 52) II (m * n * 2 ^ (i + j + 1074).toNat) (2 ^ (-1074 - (i + j)).toNat) τ) := by
  have e0 : fop .mul x y = some (double.nearest (s ^^ t) (m * n) (i + j)) := by
    show ((double.read x).product (double.read y)).map double.write = _
    rw [hx, hy]
    rfl
  obtain ⟨τ, hr, hn⟩ := nearest_form (s ^^ t) (m * n) (i + j)
  rw [hn] at e0
  have hw := word_ok (s ^^ t) (rung_le (2 ^ 52) II (m * n * 2 ^ (i + j + 1074).toNat) (2 ^ (-1074 - (i + j)).toNat) τ)
  exact ⟨τ, hr, by rw [F_some e0 hw]; exact hw, by rw [F_some e0 hw, key_word _ (rung_le _ _ _ _ _)]⟩

/-- How many least parts make one. -/
@[irreducible] def U : Rat := ((2 ^ 1074 : Nat) : Rat)
theorem two_pos (k : Nat) : (0 : Rat) < ((2 ^ k : Nat) : Rat) := Rat.natCast_pos.2 (Nat.two_pow_pos k)
theorem U_pos : 0 < U := by unfold U; exact two_pos 1074
/-- What a finite float stands for. -/
def val (x : Nat) : Rat := (V x : Rat) / U
theorem val_U (x : Nat) : val x * U = (V x : Rat) := by
  unfold val; exact Rat.div_mul_cancel (Rat.ne_of_gt U_pos)
def Nr (a b E : Rat) : Prop := a - b ≤ E ∧ b - a ≤ E
def Bd (a M : Rat) : Prop := -M ≤ a ∧ a ≤ M
theorem mul_Bd {a b A B : Rat} (ha : Bd a A) (hb : Bd b B) : Bd (a * b) (A * B) := by
  have h1 : 0 ≤ (A - a) * (B + b) := Rat.mul_nonneg (by grind [Bd]) (by grind [Bd])
  have h2 : 0 ≤ (A + a) * (B - b) := Rat.mul_nonneg (by grind [Bd]) (by grind [Bd])
  have h3 : 0 ≤ (A - a) * (B - b) := Rat.mul_nonneg (by grind [Bd]) (by grind [Bd])
  have h4 : 0 ≤ (A + a) * (B + b) := Rat.mul_nonneg (by grind [Bd]) (by grind [Bd])
  constructor <;> grind
theorem Nr.bd {a b E : Rat} (h : Nr a b E) : Bd (a - b) E := by unfold Nr at h; unfold Bd; grind
theorem Bd.nr {a b E : Rat} (h : Bd (a - b) E) : Nr a b E := by unfold Bd at h; unfold Nr; grind
theorem Bd.add {a b A B : Rat} (ha : Bd a A) (hb : Bd b B) : Bd (a + b) (A + B) := by unfold Bd at *; grind
theorem Bd.sub {a b A B : Rat} (ha : Bd a A) (hb : Bd b B) : Bd (a - b) (A + B) := by unfold Bd at *; grind
theorem Bd.le {a A B : Rat} (ha : Bd a A) (h : A ≤ B) : Bd a B := by unfold Bd at *; grind
theorem Nr.le {a b A B : Rat} (ha : Nr a b A) (h : A ≤ B) : Nr a b B := by unfold Nr at *; grind
def u : Rat := 1 / 9007199254740992
/-- Half of the least part. -/
def h0 : Rat := 1 / (2 * U)
theorem h0_U : h0 * U = 1 / 2 := by
  unfold h0
  have := U_pos
  grind
theorem U_eq : U = ((2 ^ 1074 : Nat) : Rat) := by unfold U; rfl
theorem two_split (a b D : Nat) : ((2 ^ (a + b) * D : Nat) : Rat) = ((2 ^ a : Nat) : Rat) * (((2 ^ b : Nat) : Rat) * (D : Rat)) := by
  rw [Nat.pow_add, Rat.natCast_mul, Rat.natCast_mul, Rat.mul_assoc]
theorem two_60 : ((2 ^ 60 : Nat) : Rat) = 1152921504606846976 := by
  rw [show (2 : Nat) ^ 60 = 1152921504606846976 by decide]; rfl
theorem le_split {P D : Nat} (a b : Nat) (hab : a + b ≤ 1900) {x y : Rat} (hy : y = ((2 ^ b : Nat) : Rat)) (h1 : (P : Rat) ≤ x) (h2 : x ≤ ((2 ^ a : Nat) : Rat) * (y * (D : Rat))) : ∃ κ, κ ≤ 1900 ∧ P ≤ 2 ^ κ * D := by
  rw [hy, ← two_split] at h2
  exact ⟨_, hab, Rat.natCast_le_natCast.1 (Rat.le_trans h1 h2)⟩
theorem op_err {r P D t : Nat} {s : Bool} (hD : 0 < D) (hr : Rng (2 ^ 52) P D t) (hn : isN r = false) (hk : key r = sg s (rung (2 ^ 52) II P D t)) {e M : Rat} (he : e * (U * (D : Rat)) = ((sg s P : Int) : Rat))
    (hM : Bd e M) (hM2 : M ≤ 1152921504606846976) : Fin r ∧ Nr (val r) e (M * u + h0) := by
  have hD' : (0 : Rat) < (D : Rat) := Rat.natCast_pos.2 hD
  have hUD : 0 < U * (D : Rat) := Rat.mul_pos U_pos hD'
  have b1 : e * (U * (D : Rat)) ≤ M * (U * (D : Rat)) := Rat.mul_le_mul_of_nonneg_right hM.2 (Rat.le_of_lt hUD)
  have b2 : (-M) * (U * (D : Rat)) ≤ e * (U * (D : Rat)) := Rat.mul_le_mul_of_nonneg_right hM.1 (Rat.le_of_lt hUD)
  have hP1 : (P : Rat) ≤ M * (U * (D : Rat)) := by
    rw [he] at b1 b2
    unfold sg at b1 b2
    cases s
    · simp only [Bool.false_eq_true, if_false, Rat.intCast_natCast] at b1 b2; exact b1
    · simp only [if_true, Rat.intCast_neg, Rat.intCast_natCast] at b1 b2; grind
  obtain ⟨κ, hκ, hP2⟩ : ∃ κ, κ ≤ 1900 ∧ P ≤ 2 ^ κ * D := by
    have h1 : M * (U * (D : Rat)) ≤ 1152921504606846976 * (U * (D : Rat)) := Rat.mul_le_mul_of_nonneg_right hM2 (Rat.le_of_lt hUD)
    rw [← two_60] at h1
    exact le_split 60 1074 (by decide) U_eq hP1 h1
  obtain ⟨r1, r2, r3⟩ := rung_err hD hr hκ hP2
  obtain ⟨f, v⟩ := key_V hk hn r1
  refine ⟨f, ?_⟩
  generalize Vr (rung (2 ^ 52) II P D t) = R at *
  have r2' : ((9007199254740992 * (R * D) : Nat) : Rat) ≤ ((9007199254740992 * P + P + 4503599627370496 * D : Nat) : Rat) := Rat.natCast_le_natCast.2 r2
  have r3' : ((9007199254740992 * P : Nat) : Rat) ≤ ((9007199254740992 * (R * D) + P + 4503599627370496 * D : Nat) : Rat) := Rat.natCast_le_natCast.2 r3
  simp only [Rat.natCast_mul, Rat.natCast_add] at r2' r3'
  have ev : val r * (U * (D : Rat)) = ((sg s R : Int) : Rat) * (D : Rat) := by rw [← Rat.mul_assoc, val_U, v]
  have eh : h0 * (U * (D : Rat)) = (D : Rat) / 2 := by rw [← Rat.mul_assoc, h0_U]; grind
  generalize hX : U * (D : Rat) = X at *
  generalize hY : (R : Rat) * (D : Rat) = Y at *
  have es : ((sg s R : Int) : Rat) * (D : Rat) = if s then -Y else Y := by
    unfold sg
    cases s
    · simp only [Bool.false_eq_true, if_false, Rat.intCast_natCast]; exact hY
    · simp only [if_true, Rat.intCast_neg, Rat.intCast_natCast]; grind
  have ep : ((sg s P : Int) : Rat) = if s then -(P : Rat) else (P : Rat) := by
    unfold sg
    cases s
    · simp only [Bool.false_eq_true, if_false, Rat.intCast_natCast]
    · simp only [if_true, Rat.intCast_neg, Rat.intCast_natCast]
  rw [es] at ev
  rw [ep] at he
  have c53 : ((9007199254740992 : Nat) : Rat) = 9007199254740992 := rfl
  have c52 : ((4503599627370496 : Nat) : Rat) = 4503599627370496 := rfl
  rw [c53, c52] at r2' r3'
  have hu : u = 1 / 9007199254740992 := rfl
  unfold Nr
  rw [hu]
  constructor
  · refine Rat.le_of_mul_le_mul_right (c := X) ?_ hUD
    cases s <;> simp only [Bool.false_eq_true, if_false, if_true] at ev he <;> grind
  · refine Rat.le_of_mul_le_mul_right (c := X) ?_ hUD
    cases s <;> simp only [Bool.false_eq_true, if_false, if_true] at ev he <;> grind
theorem sg_abs (d : Int) : sg (decide (d < 0)) d.natAbs = d := by
  unfold sg
  by_cases h : d < 0
  · rw [decide_eq_true h, if_pos rfl]; omega
  · rw [decide_eq_false h, if_neg (by decide)]; omega
theorem one_cast : ((1 : Nat) : Rat) = 1 := rfl
theorem add_err {x y : Nat} (hx : Fin x) (hy : Fin y) {M : Rat} (hM : Bd (val x + val y) M) (hM2 : M ≤ 1152921504606846976) :
    Fin (F .add x y) ∧ Nr (val (F .add x y)) (val x + val y) (M * u + h0) := by
  obtain ⟨t, r, n, k⟩ := add_form hx hy
  refine op_err (by decide) r n k ?_ hM hM2
  rw [sg_abs, one_cast, Rat.mul_one, Rat.add_mul, val_U, val_U, Rat.intCast_add]
theorem sub_err {x y : Nat} (hx : Fin x) (hy : Fin y) {M : Rat} (hM : Bd (val x - val y) M) (hM2 : M ≤ 1152921504606846976) :
    Fin (F .sub x y) ∧ Nr (val (F .sub x y)) (val x - val y) (M * u + h0) := by
  obtain ⟨t, r, n, k⟩ := sub_form hx hy
  rw [show decide (V x < V y) = decide (V x - V y < 0) from decide_eq_decide.2 (by omega)] at k
  refine op_err (by decide) r n k ?_ hM hM2
  have a := val_U x
  have b := val_U y
  rw [sg_abs, one_cast, Rat.mul_one, Rat.intCast_sub, ← a, ← b]
  grind
theorem V_sg {x : Nat} {s : Bool} {m : Nat} {i : Int} (h : double.read x = .number s m i) : V x = sg s (m * 2 ^ (i + 1074).toNat) := by
  rw [V_of h]; unfold signed sg; rw [Nat.shiftLeft_eq]
theorem sg_mul (s t : Bool) (a b : Nat) : sg s a * sg t b = sg (s ^^ t) (a * b) := by
  unfold sg; cases s <;> cases t <;> simp [Int.neg_mul, Int.mul_neg]
theorem U_nat : ∃ k : Nat, k = 1074 ∧ U = ((2 ^ k : Nat) : Rat) := ⟨1074, rfl, U_eq⟩
theorem sg_scale (s : Bool) (a b : Nat) : ((sg s (a * b) : Int) : Rat) = ((sg s a : Int) : Rat) * (b : Rat) := by
  unfold sg
  cases s
  · simp only [Bool.false_eq_true, if_false, Rat.intCast_natCast, Rat.natCast_mul]
  · simp only [if_true, Rat.intCast_neg, Rat.intCast_natCast, Rat.natCast_mul]; grind
theorem mul_err {x y : Nat} (hx : Fin x) (hy : Fin y) {M : Rat} (hM : Bd (val x * val y) M) (hM2 : M ≤ 1152921504606846976) :
    Fin (F .mul x y) ∧ Nr (val (F .mul x y)) (val x * val y) (M * u + h0) := by
  obtain ⟨s, m, i, ex⟩ := hx
  obtain ⟨t, n, j, ey⟩ := hy
  obtain ⟨_, i0, _⟩ := read_form ex
  obtain ⟨_, j0, _⟩ := read_form ey
  obtain ⟨τ, r, nn, k⟩ := mul_form ex ey
  refine op_err (Nat.two_pow_pos _) r nn k ?_ hM hM2
  obtain ⟨κ, hκ, hκU⟩ := U_nat
  generalize ha : (i + j + 1074).toNat = a
  generalize hb : (-1074 - (i + j)).toNat = b
  have e1 : m * n * 2 ^ a * 2 ^ κ = m * 2 ^ (i + 1074).toNat * (n * 2 ^ (j + 1074).toNat) * 2 ^ b := by
    have : m * 2 ^ (i + 1074).toNat * (n * 2 ^ (j + 1074).toNat) * 2 ^ b = m * n * (2 ^ ((i + 1074).toNat + (j + 1074).toNat + b)) := by
      rw [Nat.pow_add, Nat.pow_add]; simp only [Nat.mul_assoc, Nat.mul_left_comm, Nat.mul_comm]
    rw [this, Nat.mul_assoc, ← Nat.pow_add, show a + κ = (i + 1074).toNat + (j + 1074).toNat + b by omega]
  have e2 : ((sg (s ^^ t) (m * n * 2 ^ a) : Int) : Rat) * U = (V x : Rat) * (V y : Rat) * ((2 ^ b : Nat) : Rat) := by
    rw [V_sg ex, V_sg ey, hκU, ← sg_scale, e1, sg_scale, ← sg_mul, Rat.intCast_mul]
  have hU := U_pos
  rw [← val_U x, ← val_U y] at e2
  generalize ((sg (s ^^ t) (m * n * 2 ^ a) : Int) : Rat) = z at *
  generalize ((2 ^ b : Nat) : Rat) = d at *
  have e3 : z * U = val x * val y * (U * d) * U := by rw [e2]; grind
  refine Rat.le_antisymm (Rat.le_of_mul_le_mul_right (c := U) (by rw [e3]; exact Rat.le_refl) hU) (Rat.le_of_mul_le_mul_right (c := U) (by rw [e3]; exact Rat.le_refl) hU)
theorem quo_err {x y : Nat} (hx : Fin x) (hy : Fin y) (h0y : V y ≠ 0) {e M : Rat} (he : e * val y = val x) (hM : Bd e M) (hM2 : M ≤ 1152921504606846976) :
    Fin (F .quo x y) ∧ Nr (val (F .quo x y)) e (M * u + h0) := by
  obtain ⟨s, m, i, ex⟩ := hx
  obtain ⟨t, n, j, ey⟩ := hy
  obtain ⟨_, i0, _⟩ := read_form ex
  obtain ⟨_, j0, _⟩ := read_form ey
  have hn : n ≠ 0 := by
    intro h; subst h; apply h0y; rw [V_of ey]; exact signed_0 _ _
  obtain ⟨τ, r, nn, k⟩ := quo_key ex ey hn
  refine op_err (Nat.mul_pos (by omega) (Nat.two_pow_pos _)) r nn k ?_ hM hM2
  obtain ⟨κ, hκ, hκU⟩ := U_nat
  generalize ha : (i - j + 1074).toNat = a
  generalize hb : (j - i - 1074).toNat = b
  have e1 : m * 2 ^ a * (n * 2 ^ (j + 1074).toNat) = m * 2 ^ (i + 1074).toNat * 2 ^ κ * (n * 2 ^ b) := by
    have h1 : m * 2 ^ a * (n * 2 ^ (j + 1074).toNat) = m * n * 2 ^ (a + (j + 1074).toNat) := by
      rw [Nat.pow_add]; simp only [Nat.mul_assoc, Nat.mul_left_comm, Nat.mul_comm]
    have h2 : m * 2 ^ (i + 1074).toNat * 2 ^ κ * (n * 2 ^ b) = m * n * 2 ^ ((i + 1074).toNat + κ + b) := by
      rw [Nat.pow_add, Nat.pow_add]; simp only [Nat.mul_assoc, Nat.mul_left_comm, Nat.mul_comm]
    rw [h1, h2, show a + (j + 1074).toNat = (i + 1074).toNat + κ + b by omega]
  have hD : ((n * 2 ^ b : Nat) : Rat) = ((n * 2 ^ b : Nat) : Rat) := rfl
  have e2 : ((sg (s ^^ t) (m * 2 ^ a) : Int) : Rat) * (V y : Rat) = (V x : Rat) * ((2 ^ κ : Nat) : Rat) * ((n * 2 ^ b : Nat) : Rat) := by
    rw [V_sg ex, V_sg ey, ← Rat.intCast_mul, sg_mul, e1, sg_scale, sg_scale, Bool.xor_assoc, Bool.xor_self, Bool.xor_false]
  have hU := U_pos
  have hV : val y ≠ 0 := by
    intro h
    apply h0y
    have := val_U y
    rw [h, Rat.zero_mul] at this
    exact Rat.intCast_eq_zero_iff.1 this.symm
  rw [← hκU, ← val_U x, ← val_U y, ← he] at e2
  generalize ((sg (s ^^ t) (m * 2 ^ a) : Int) : Rat) = z at *
  generalize ((n * 2 ^ b : Nat) : Rat) = d at *
  grind
end Flt
end Go.Proofs.Ytgbcnfcgljbbgaa
/- Floats that are bounded: sums, differences, products, quotients; differences turned about. -/
namespace Go.Proofs.Ytgbcnfcgljbbgaa
open Go.RowKit Ev Ieee
set_option linter.unusedVariables false
set_option linter.unusedSimpArgs false
set_option maxRecDepth 20000
namespace Flt

theorem h0_nn : 0 ≤ h0 := by
  have h := h0_U
  refine Rat.le_of_mul_le_mul_right (c := U) ?_ U_pos
  rw [h]; grind
theorem two_ge : ∀ k : Nat, (2 : Rat) ≤ ((2 ^ (k + 1) : Nat) : Rat) := fun k => by
  have h : 2 ^ 1 ≤ 2 ^ (k + 1) := Nat.pow_le_pow_right (by decide) (by omega)
  have e : (2 : Rat) = ((2 : Nat) : Rat) := rfl
  rw [e]
  exact Rat.natCast_le_natCast.2 h
theorem U_two : (2 : Rat) ≤ U := by
  obtain ⟨κ, hκ, e⟩ := U_nat
  have h := two_ge (κ - 1)
  rw [show κ - 1 + 1 = κ by omega, ← e] at h
  exact h
theorem h0_one : h0 ≤ 1 / 2 := by
  have h1 : (2 : Rat) * h0 ≤ U * h0 := Rat.mul_le_mul_of_nonneg_right U_two h0_nn
  rw [Rat.mul_comm U, h0_U] at h1
  have := h0_nn
  grind
theorem err_one {M : Rat} (h0' : 0 ≤ M) (h : M ≤ 1152921504606846976) : M * u + h0 ≤ 129 := by
  have := h0_one
  unfold u
  grind
/-- A float that stands for a number, and one no greater than M. -/
structure Q (x : Nat) (M : Rat) : Prop where
  fin : Fin x
  bd : Bd (val x) M
theorem Q.nn {x : Nat} {M : Rat} (h : Q x M) : 0 ≤ M := by have := h.bd; unfold Bd at this; grind
theorem Q.le {x : Nat} {M N : Rat} (h : Q x M) (h' : M ≤ N) : Q x N := ⟨h.fin, h.bd.le h'⟩
theorem near_bd {a e E M : Rat} (h : Nr a e E) (hM : Bd e M) : Bd a (M + E) := by unfold Nr Bd at *; grind
theorem Q.of {r : Nat} {e M : Rat} (h : Fin r ∧ Nr (val r) e (M * u + h0)) (hb : Bd e M) (hM : M ≤ 1152921504606846976) : Q r (M + 129) := by
  have h0M : 0 ≤ M := by unfold Bd at hb; grind
  exact ⟨h.1, (near_bd h.2 hb).le (by have := err_one h0M hM; grind)⟩
theorem Q.add {x y : Nat} {M N : Rat} (hx : Q x M) (hy : Q y N) (h : M + N ≤ 1152921504606846976) : Q (F .add x y) (M + N + 129) :=
  .of (add_err hx.fin hy.fin (hx.bd.add hy.bd) h) (hx.bd.add hy.bd) h
theorem Q.sub {x y : Nat} {M N : Rat} (hx : Q x M) (hy : Q y N) (h : M + N ≤ 1152921504606846976) : Q (F .sub x y) (M + N + 129) :=
  .of (sub_err hx.fin hy.fin (hx.bd.sub hy.bd) h) (hx.bd.sub hy.bd) h
theorem Q.mul {x y : Nat} {M N : Rat} (hx : Q x M) (hy : Q y N) (h : M * N ≤ 1152921504606846976) : Q (F .mul x y) (M * N + 129) :=
  .of (mul_err hx.fin hy.fin (mul_Bd hx.bd hy.bd) h) (mul_Bd hx.bd hy.bd) h
theorem val_pos_U {x : Nat} : 0 ≤ V x → 0 ≤ val x := fun h => by
  refine Rat.le_of_mul_le_mul_right (c := U) ?_ U_pos
  rw [Rat.zero_mul, val_U]
  exact Rat.intCast_nonneg.2 h
theorem val_le {x y : Nat} (h : V x ≤ V y) : val x ≤ val y := by
  refine Rat.le_of_mul_le_mul_right (c := U) ?_ U_pos
  rw [val_U, val_U]
  exact Rat.intCast_le_intCast.2 h
theorem val_neg {z w : Nat} (h : V z ≤ -V w) : val z ≤ -val w := by
  refine Rat.le_of_mul_le_mul_right (c := U) ?_ U_pos
  rw [Rat.neg_mul, val_U, val_U, ← Rat.intCast_neg]
  exact Rat.intCast_le_intCast.2 h
theorem val_neg' {z w : Nat} (h : -V w ≤ V z) : -val w ≤ val z := by
  refine Rat.le_of_mul_le_mul_right (c := U) ?_ U_pos
  rw [Rat.neg_mul, val_U, val_U, ← Rat.intCast_neg]
  exact Rat.intCast_le_intCast.2 h
theorem val_le_of {x κ : Nat} {M : Int} (hκ : U = ((2 ^ κ : Nat) : Rat)) (h : V x ≤ M * (2 ^ κ : Nat)) : val x ≤ (M : Rat) := by
  refine Rat.le_of_mul_le_mul_right (c := U) ?_ U_pos
  rw [val_U]
  have := Rat.intCast_le_intCast.2 h
  rw [Rat.intCast_mul, Rat.intCast_natCast, ← hκ] at this
  exact this
theorem le_val_of {x κ : Nat} {M : Int} (hκ : U = ((2 ^ κ : Nat) : Rat)) (h : M * (2 ^ κ : Nat) ≤ V x) : (M : Rat) ≤ val x := by
  refine Rat.le_of_mul_le_mul_right (c := U) ?_ U_pos
  rw [val_U]
  have := Rat.intCast_le_intCast.2 h
  rw [Rat.intCast_mul, Rat.intCast_natCast, ← hκ] at this
  exact this
theorem of_val_le {x κ : Nat} {M : Int} (hκ : U = ((2 ^ κ : Nat) : Rat)) (h : val x ≤ (M : Rat)) : V x ≤ M * (2 ^ κ : Nat) := by
  have := Rat.mul_le_mul_of_nonneg_right h (Rat.le_of_lt U_pos)
  rw [val_U, hκ] at this
  refine Rat.intCast_le_intCast.1 ?_
  rw [Rat.intCast_mul, Rat.intCast_natCast]
  exact this
theorem of_le_val {x κ : Nat} {M : Int} (hκ : U = ((2 ^ κ : Nat) : Rat)) (h : (M : Rat) ≤ val x) : M * (2 ^ κ : Nat) ≤ V x := by
  have := Rat.mul_le_mul_of_nonneg_right h (Rat.le_of_lt U_pos)
  rw [val_U, hκ] at this
  refine Rat.intCast_le_intCast.1 ?_
  rw [Rat.intCast_mul, Rat.intCast_natCast]
  exact this
theorem val_ne {x : Nat} (h : V x ≠ 0) : val x ≠ 0 := fun e => h (by
  have := val_U x
  rw [e, Rat.zero_mul] at this
  exact Rat.intCast_eq_zero_iff.1 this.symm)
theorem V_0 : V 0 = 0 := by rw [V_of (show double.read 0 = .number false 0 (-1074) by decide +kernel)]; exact signed_0 _ _
theorem val_0 : val 0 = 0 := by unfold val; rw [V_0, Rat.intCast_zero, Rat.div_def, Rat.zero_mul]
/-- A quotient of a number by one that is no lesser. -/
theorem ratio_bd {x y : Nat} (h0y : V y ≠ 0) (h : (V x).natAbs ≤ (V y).natAbs) : Bd (val x / val y) 1 := by
  have hv := val_ne h0y
  have he : (val x / val y) * val y = val x := Rat.div_mul_cancel hv
  generalize val x / val y = q at he ⊢
  rcases Int.lt_or_le (V y) 0 with g | g
  · have g1 : val y ≤ 0 := by rw [← val_0]; exact val_le (by rw [V_0]; omega)
    have g2 : val y ≤ val x := val_le (by omega)
    have g3 : val x ≤ -val y := val_neg (by omega)
    have gp : 0 < -val y := by grind
    unfold Bd
    constructor
    · refine Rat.le_of_mul_le_mul_right (c := -val y) ?_ gp
      rw [Rat.mul_neg q, he]; grind
    · refine Rat.le_of_mul_le_mul_right (c := -val y) ?_ gp
      rw [Rat.mul_neg q, he]; grind
  · have g1 := val_pos_U g
    have g2 : -val y ≤ val x := val_neg' (by omega)
    have g3 : val x ≤ val y := val_le (by omega)
    have gp : 0 < val y := by grind
    unfold Bd
    constructor
    · refine Rat.le_of_mul_le_mul_right (c := val y) ?_ gp
      rw [he]; grind
    · refine Rat.le_of_mul_le_mul_right (c := val y) ?_ gp
      rw [he]; grind
theorem Q.ratio {x y : Nat} (hx : Fin x) (hy : Fin y) (h0y : V y ≠ 0) (h : (V x).natAbs ≤ (V y).natAbs) : Q (F .quo x y) 130 := by
  have he : (val x / val y) * val y = val x := Rat.div_mul_cancel (val_ne h0y)
  have hb := ratio_bd h0y h
  exact (Q.of (quo_err hx hy h0y he hb (by grind)) hb (by grind)).le (by grind)
theorem pw_gen (c : Nat) : (8589934592000000 : Nat) <<< c = 1000000 * 2 ^ (33 + c) := by
  rw [Nat.shiftLeft_eq, Nat.pow_add, ← Nat.mul_assoc]
theorem pw33 {κ : Nat} (hκ : κ = 1074) : (8589934592000000 : Nat) <<< 1041 = 1000000 * 2 ^ κ := by
  have e : κ = 33 + 1041 := by omega
  subst e
  exact pw_gen 1041
/-- What is near is no greater than a million. -/
theorem near_V {x κ : Nat} (hκ : κ = 1074) : nearB x = true ↔ Fin x ∧ -1000000 * ((2 ^ κ : Nat) : Int) ≤ V x ∧ V x ≤ 1000000 * ((2 ^ κ : Nat) : Int) := by
  have f1 : Fin 13920209183539462144 := ⟨_, _, _, read_n1e6⟩
  have f2 : Fin 4696837146684686336 := ⟨_, _, _, read_1e6⟩
  have e1 : V 13920209183539462144 = -1000000 * ((2 ^ κ : Nat) : Int) := by
    rw [V_of read_n1e6]
    unfold signed
    rw [if_pos rfl, show ((-33 : Int) + 1074).toNat = 1041 by decide, pw33 hκ, Int.natCast_mul, Int.neg_mul]; rfl
  have e2 : V 4696837146684686336 = 1000000 * ((2 ^ κ : Nat) : Int) := by
    rw [V_of read_1e6]
    unfold signed
    rw [if_neg (by decide), show ((-33 : Int) + 1074).toNat = 1041 by decide, pw33 hκ, Int.natCast_mul]; rfl
  constructor
  · intro h
    have f := (near_small h).fin
    unfold nearB at h
    rw [fgt_flt, flt_V f1 f, flt_V f f2, feq_V f f1, feq_V f f2, e1, e2] at h
    simp only [Bool.and_eq_true, Bool.or_eq_true, decide_eq_true_eq] at h
    exact ⟨f, by omega, by omega⟩
  · rintro ⟨f, h1, h2⟩
    unfold nearB
    rw [fgt_flt, flt_V f1 f, flt_V f f2, feq_V f f1, feq_V f f2, e1, e2]
    simp only [Bool.and_eq_true, Bool.or_eq_true, decide_eq_true_eq]
    omega
theorem near_Q {x : Nat} (h : nearB x = true) : Q x 1000000 := by
  obtain ⟨κ, hκ, e⟩ := U_nat
  obtain ⟨f, h1, h2⟩ := (near_V hκ).1 h
  refine ⟨f, ?_⟩
  have g1 := le_val_of e h1
  have g2 := val_le_of e h2
  unfold Bd
  exact ⟨by simpa using g1, by simpa using g2⟩
theorem Q.near {x : Nat} (h : Q x 1000000) : nearB x = true := by
  obtain ⟨κ, hκ, e⟩ := U_nat
  have hb := h.bd
  unfold Bd at hb
  exact (near_V hκ).2 ⟨h.fin, of_le_val e (by simpa using hb.1), of_val_le e (by simpa using hb.2)⟩
theorem rung_same {P t t' : Nat} (h : Rng (2 ^ 52) P 1 t) (h' : Rng (2 ^ 52) P 1 t') : rung (2 ^ 52) II P 1 t = rung (2 ^ 52) II P 1 t' :=
  Nat.le_antisymm (rung_mono (by decide) (by decide) (Nat.le_refl _) h h') (rung_mono (by decide) (by decide) (Nat.le_refl _) h' h)
theorem II_pos : 0 < II := by unfold II; decide
theorem rung_pos {P t : Nat} (hP : 0 < P) (h : Rng (2 ^ 52) P 1 t) : 0 < rung (2 ^ 52) II P 1 t := by
  have hi := II_pos
  rcases h with ⟨rfl, _⟩ | ⟨h, _⟩
  · unfold rung rhe
    rw [Nat.zero_mul, Nat.zero_add, Nat.pow_zero, Nat.mul_one, Nat.div_one]
    omega
  · unfold rung
    have := Nat.mul_pos h (show 0 < 2 ^ 52 by decide)
    omega
/-- A difference turned about. -/
theorem sub_turn {x y : Nat} (hx : Fin x) (hy : Fin y) : isN (F .sub x y) = false ∧ isN (F .sub y x) = false ∧ key (F .sub y x) = -key (F .sub x y) := by
  obtain ⟨t, r1, n1, k1⟩ := sub_form hx hy
  obtain ⟨t', r2, n2, k2⟩ := sub_form hy hx
  refine ⟨n1, n2, ?_⟩
  have e : (V y - V x).natAbs = (V x - V y).natAbs := by omega
  rw [e] at r2 k2
  rw [k1, k2, rung_same r2 r1]
  rcases Int.lt_trichotomy (V x) (V y) with g | g | g
  · rw [decide_eq_true g, decide_eq_false (show ¬ V y < V x by omega)]; unfold sg; simp
  · have e0 : (V x - V y).natAbs = 0 := by omega
    rw [e0] at r1 ⊢
    rw [rng_0 (by decide) (by decide) r1]; unfold sg; split <;> split <;> simp
  · rw [decide_eq_true g, decide_eq_false (show ¬ V x < V y by omega)]; unfold sg; simp
theorem key_0 : key 0 = 0 := by decide +kernel
theorem Fin_0 : Fin 0 := ⟨false, 0, -1074, by decide +kernel⟩
theorem V_pos {x : Nat} (h : Fin x) : 0 < V x ↔ 0 < key x := by
  have := (V_key Fin_0 h).1
  rw [V_0, key_0] at this; exact this
theorem V_nonneg {x : Nat} (h : Fin x) : 0 ≤ V x ↔ 0 ≤ key x := by
  have := (V_key h Fin_0).1
  rw [V_0, key_0] at this; omega
theorem add_pos {x y : Nat} (hx : Fin x) (hy : Fin y) (h : 0 < V x + V y) : isN (F .add x y) = false ∧ 0 < key (F .add x y) := by
  obtain ⟨t, r, n, k⟩ := add_form hx hy
  refine ⟨n, ?_⟩
  rw [k, decide_eq_false (by omega)]
  have := rung_pos (by omega) r
  unfold sg
  rw [if_neg (by decide)]
  omega
theorem add_neg {x y : Nat} (hx : Fin x) (hy : Fin y) (h : V x + V y < 0) : isN (F .add x y) = false ∧ key (F .add x y) < 0 := by
  obtain ⟨t, r, n, k⟩ := add_form hx hy
  refine ⟨n, ?_⟩
  rw [k, decide_eq_true h]
  have := rung_pos (by omega) r
  unfold sg
  rw [if_pos rfl]
  omega
/-- The sign turned. -/
theorem key_fneg (x : Nat) : key (fneg x) = -key x := by
  have hm : fneg x % 9223372036854775808 = x % 9223372036854775808 := fneg_mod x
  have hd : fneg x / 9223372036854775808 % 2 = 1 - x / 9223372036854775808 % 2 := by
    have e : fneg x / 2 ^ 63 = x / 2 ^ 63 ^^^ 1 := by
      show (x ^^^ 2 ^ 63) / 2 ^ 63 = _
      rw [Nat.xor_div_two_pow, Nat.div_self (by decide)]
    rw [show (9223372036854775808 : Nat) = 2 ^ 63 by decide, e, show (2 : Nat) = 2 ^ 1 by decide, Nat.xor_mod_two_pow]
    have : x / (2 ^ 1) ^ 63 % 2 ^ 1 = 0 ∨ x / (2 ^ 1) ^ 63 % 2 ^ 1 = 1 := by omega
    rcases this with h | h <;> rw [h] <;> rfl
  unfold key
  rw [hm, hd]
  have : x / 9223372036854775808 % 2 = 0 ∨ x / 9223372036854775808 % 2 = 1 := by omega
  rcases this with h | h <;> rw [h] <;> unfold sg <;> simp
theorem key_Fneg {x : Nat} (h : isN x = false) : isN (Fneg x) = false ∧ key (Fneg x) = -key x := by
  have e : Fneg x = fneg x := by unfold Fneg; exact cn_notN (by rw [isN_fneg]; exact h)
  rw [e]
  exact ⟨by rw [isN_fneg]; exact h, key_fneg x⟩
theorem V_absK {x : Nat} (h : Fin x) : (V x).natAbs = Vr (key x).natAbs := by
  obtain ⟨s, r, k, h1, h2, h3⟩ := read_sr x
  have hr : r < II := by
    rcases Nat.lt_trichotomy r II with g | g | g
    · exact g
    · obtain ⟨t, m, i, e⟩ := h
      rw [h2 g] at e; cases e
    · have := h3 g; rw [h.notN] at this; cases this
  obtain ⟨m, i, _, e⟩ := h1 hr
  rw [e, k]
  unfold sg
  cases s <;> simp
end Flt
end Go.Proofs.Ytgbcnfcgljbbgaa
/- Floats that are whole numbers: their sums, products and even quotients are exact. -/
namespace Go.Proofs.Ytgbcnfcgljbbgaa
open Go.RowKit Ev Ieee
set_option linter.unusedVariables false
set_option linter.unusedSimpArgs false
set_option maxRecDepth 20000
namespace Flt

theorem rhe_exact {q g : Nat} (hg : 0 < g) : rhe (q * g) g = q := by
  unfold rhe
  rw [Nat.mul_mod_left, Nat.mul_div_cancel _ hg, if_neg (by omega)]; rfl
theorem rung_at {P D t q : Nat} (hq : rhe P (D * 2 ^ t) = q) (h1 : q ≤ 9007199254740992) (ht : t ≤ 1074) : rung (2 ^ 52) II P D t = t * 4503599627370496 + q ∧ t * 4503599627370496 + q < II := by
  have hII : II = 9218868437227405312 := by decide
  unfold rung; rw [p52, hII, hq]
  omega
theorem rung_exact {P D t Z κ : Nat} (hκ : κ = 1074) (hD : 0 < D) (h : Rng (2 ^ 52) P D t) (hP : P = Z * 2 ^ κ * D) (hZ : Z < 9007199254740992) : rung (2 ^ 52) II P D t < II ∧ Vr (rung (2 ^ 52) II P D t) = Z * 2 ^ κ := by
  have hII : II = 9218868437227405312 := by decide
  have hg : 0 < D * 2 ^ t := Nat.mul_pos hD (Nat.two_pow_pos _)
  have p53 : (2 : Nat) ^ 53 = 9007199254740992 := by decide
  have ht : t ≤ κ := by
    rcases h with ⟨h, _⟩ | ⟨_, h, _⟩
    · omega
    · rw [hP] at h
      have h1 := Nat.le_of_mul_le_mul_right h hD
      have h2 : Z * 2 ^ κ < 2 ^ 53 * 2 ^ κ := Nat.mul_lt_mul_of_pos_right (by omega) (Nat.two_pow_pos _)
      have h3 : 2 ^ 52 * 2 ^ t < 2 ^ 53 * 2 ^ κ := Nat.lt_of_le_of_lt h1 h2
      rw [← Nat.pow_add, ← Nat.pow_add] at h3
      have := (Nat.pow_lt_pow_iff_right (by decide)).1 h3
      omega
  have eP : P = Z * 2 ^ (κ - t) * (D * 2 ^ t) := by
    have : Z * 2 ^ (κ - t) * (D * 2 ^ t) = Z * D * (2 ^ (κ - t) * 2 ^ t) := by simp only [Nat.mul_assoc, Nat.mul_left_comm, Nat.mul_comm]
    rw [this, ← Nat.pow_add, show κ - t + t = κ by omega, hP, Nat.mul_right_comm]
  have er : rhe P (D * 2 ^ t) = Z * 2 ^ (κ - t) := by rw [eP]; exact rhe_exact hg
  have q1 : rhe P (D * 2 ^ t) ≤ 9007199254740992 := rhe_upper hg (by have := h.upper; rw [p52] at this; exact this)
  have q2 : 0 < t → 4503599627370496 ≤ rhe P (D * 2 ^ t) := fun ht => rhe_lower hg (by
    rcases h with ⟨h, _⟩ | ⟨_, h, _⟩
    · omega
    · rw [p52] at h; rw [Nat.mul_comm D, ← Nat.mul_assoc]; exact h)
  rw [er] at q1 q2
  obtain ⟨f1, f2⟩ := rung_at er q1 (Nat.le_trans ht (Nat.le_of_eq hκ))
  rw [f1, Vr_at q1 q2, Nat.mul_assoc, ← Nat.pow_add, Nat.sub_add_cancel ht]
  exact ⟨f2, rfl⟩
theorem sg_natAbs {s : Bool} {P m : Nat} {z : Int} (h : sg s P = z * (m : Int)) : P = z.natAbs * m := by
  have h1 := congrArg Int.natAbs h
  rw [Int.natAbs_mul] at h1
  have h2 : (sg s P).natAbs = P := by unfold sg; cases s <;> simp
  rw [h2] at h1
  exact h1
theorem op_exact {r P D t : Nat} {s : Bool} (hD : 0 < D) (hr : Rng (2 ^ 52) P D t) (hn : isN r = false) (hk : key r = sg s (rung (2 ^ 52) II P D t)) {z : Int} (he : (z : Rat) * (U * (D : Rat)) = ((sg s P : Int) : Rat))
    (hz : -9007199254740992 < z ∧ z < 9007199254740992) : Fin r ∧ val r = (z : Rat) := by
  obtain ⟨κ, hκ, hU⟩ := U_nat
  have e1 : sg s P = z * ((2 ^ κ * D : Nat) : Int) := by
    refine Rat.intCast_inj.1 ?_
    rw [← he, hU, Rat.intCast_mul, Rat.intCast_natCast, Rat.natCast_mul]
  have e2 := sg_natAbs e1
  obtain ⟨r1, r2⟩ := rung_exact hκ hD hr (Z := z.natAbs) (by rw [e2, Nat.mul_assoc]) (by omega)
  obtain ⟨f, v⟩ := key_V hk hn r1
  refine ⟨f, ?_⟩
  have ev : V r = z * ((2 ^ κ : Nat) : Int) := by
    rw [v, r2]
    have e3 : sg s (z.natAbs * 2 ^ κ) * (D : Int) = z * ((2 ^ κ : Nat) : Int) * (D : Int) := by
      have : sg s (z.natAbs * 2 ^ κ) * (D : Int) = sg s P := by
        rw [e2]
        unfold sg
        cases s
        · simp only [Bool.false_eq_true, if_false]; rw [← Int.natCast_mul, Nat.mul_assoc]
        · simp only [if_true]; rw [Int.neg_mul, ← Int.natCast_mul, Nat.mul_assoc]
      rw [this, e1, Int.natCast_mul, Int.mul_assoc]
    exact Int.eq_of_mul_eq_mul_right (by omega) e3
  have hUp := U_pos
  have e4 : val r * U = (z : Rat) * U := by rw [val_U, ev, hU, Rat.intCast_mul, Rat.intCast_natCast]
  exact Rat.le_antisymm (Rat.le_of_mul_le_mul_right (c := U) (by rw [e4]; exact Rat.le_refl) hUp) (Rat.le_of_mul_le_mul_right (c := U) (by rw [e4]; exact Rat.le_refl) hUp)
/-- A float that is a whole number. -/
structure Iv (x : Nat) (z : Int) : Prop where
  fin : Fin x
  eq : val x = (z : Rat)
theorem Iv.V {x : Nat} {z : Int} (h : Iv x z) {κ : Nat} (hκ : U = ((2 ^ κ : Nat) : Rat)) : V x = z * ((2 ^ κ : Nat) : Int) := by
  refine Rat.intCast_inj.1 ?_
  rw [← val_U, h.eq, hκ, Rat.intCast_mul, Rat.intCast_natCast]
theorem iv_add {x y : Nat} {a b : Int} (hx : Iv x a) (hy : Iv y b) (h : -9007199254740992 < a + b ∧ a + b < 9007199254740992) : Iv (F .add x y) (a + b) := by
  obtain ⟨t, r, n, k⟩ := add_form hx.fin hy.fin
  obtain ⟨f, v⟩ := op_exact (by decide) r n k (z := a + b) (by rw [sg_abs, one_cast, Rat.mul_one, Rat.intCast_add, Rat.add_mul, ← hx.eq, ← hy.eq, val_U, val_U, Rat.intCast_add]) h
  exact ⟨f, v⟩
theorem iv_sub {x y : Nat} {a b : Int} (hx : Iv x a) (hy : Iv y b) (h : -9007199254740992 < a - b ∧ a - b < 9007199254740992) : Iv (F .sub x y) (a - b) := by
  obtain ⟨t, r, n, k⟩ := sub_form hx.fin hy.fin
  rw [show decide (Flt.V x < Flt.V y) = decide (Flt.V x - Flt.V y < 0) from decide_eq_decide.2 (by omega)] at k
  have e1 := val_U x
  have e2 := val_U y
  obtain ⟨f, v⟩ := op_exact (by decide) r n k (z := a - b) (by rw [sg_abs, one_cast, Rat.mul_one, Rat.intCast_sub, Rat.intCast_sub, ← e1, ← e2, hx.eq, hy.eq]; grind) h
  exact ⟨f, v⟩
theorem iv_mul {x y : Nat} {a b : Int} (hx : Iv x a) (hy : Iv y b) (h : -9007199254740992 < a * b ∧ a * b < 9007199254740992) : Iv (F .mul x y) (a * b) := by
  have hx' := hx
  have hy' := hy
  obtain ⟨⟨s, m, i, ex⟩, vx⟩ := hx
  obtain ⟨⟨t, n, j, ey⟩, vy⟩ := hy
  obtain ⟨_, i0, _⟩ := read_form ex
  obtain ⟨_, j0, _⟩ := read_form ey
  obtain ⟨τ, r, nn, k⟩ := mul_form ex ey
  obtain ⟨κ, hκ, hκU⟩ := U_nat
  have e1 : m * n * 2 ^ (i + j + 1074).toNat * 2 ^ κ = m * 2 ^ (i + 1074).toNat * (n * 2 ^ (j + 1074).toNat) * 2 ^ (-1074 - (i + j)).toNat := by
    have : m * 2 ^ (i + 1074).toNat * (n * 2 ^ (j + 1074).toNat) * 2 ^ (-1074 - (i + j)).toNat = m * n * (2 ^ ((i + 1074).toNat + (j + 1074).toNat + (-1074 - (i + j)).toNat)) := by
      rw [Nat.pow_add, Nat.pow_add]; simp only [Nat.mul_assoc, Nat.mul_left_comm, Nat.mul_comm]
    rw [this, Nat.mul_assoc, ← Nat.pow_add, show (i + j + 1074).toNat + κ = (i + 1074).toNat + (j + 1074).toNat + (-1074 - (i + j)).toNat by omega]
  have e2 : ((sg (s ^^ t) (m * n * 2 ^ (i + j + 1074).toNat) : Int) : Rat) * U = (Flt.V x : Rat) * (Flt.V y : Rat) * ((2 ^ (-1074 - (i + j)).toNat : Nat) : Rat) := by
    rw [V_sg ex, V_sg ey, hκU, ← sg_scale, e1, sg_scale, ← sg_mul, Rat.intCast_mul]
  obtain ⟨f, v⟩ := op_exact (Nat.two_pow_pos _) r nn k (z := a * b) (by
    have hU := U_pos
    rw [← val_U x, ← val_U y, vx, vy] at e2
    rw [Rat.intCast_mul]
    generalize ((sg (s ^^ t) (m * n * 2 ^ (i + j + 1074).toNat) : Int) : Rat) = z at *
    generalize ((2 ^ (-1074 - (i + j)).toNat : Nat) : Rat) = d at *
    have e3 : z * U = (a : Rat) * (b : Rat) * (U * d) * U := by rw [e2]; grind
    exact Rat.le_antisymm (Rat.le_of_mul_le_mul_right (c := U) (by rw [e3]; exact Rat.le_refl) hU) (Rat.le_of_mul_le_mul_right (c := U) (by rw [e3]; exact Rat.le_refl) hU)) h
  exact ⟨f, v⟩
theorem iv_quo {x y : Nat} {a b c : Int} (hx : Iv x a) (hy : Iv y b) (hb : b ≠ 0) (hc : c * b = a) (h : -9007199254740992 < c ∧ c < 9007199254740992) : Iv (F .quo x y) c := by
  obtain ⟨κ, hκ, hκU⟩ := U_nat
  have vx := hx.V hκU
  have vy := hy.V hκU
  obtain ⟨⟨s, m, i, ex⟩, _⟩ := hx
  obtain ⟨⟨t, n, j, ey⟩, _⟩ := hy
  obtain ⟨_, i0, _⟩ := read_form ex
  obtain ⟨_, j0, _⟩ := read_form ey
  have hp : (0 : Int) < ((2 ^ κ : Nat) : Int) := by have := Nat.two_pow_pos κ; omega
  have h0y : Flt.V y ≠ 0 := by rw [vy]; exact fun e => (Int.mul_eq_zero.1 e).elim hb (by omega)
  have hn : n ≠ 0 := by
    intro h; subst h; apply h0y; rw [V_of ey]; exact signed_0 _ _
  obtain ⟨τ, r, nn, k⟩ := quo_key ex ey hn
  have e1 : m * 2 ^ (i - j + 1074).toNat * (n * 2 ^ (j + 1074).toNat) = m * 2 ^ (i + 1074).toNat * 2 ^ κ * (n * 2 ^ (j - i - 1074).toNat) := by
    have h1 : m * 2 ^ (i - j + 1074).toNat * (n * 2 ^ (j + 1074).toNat) = m * n * 2 ^ ((i - j + 1074).toNat + (j + 1074).toNat) := by
      rw [Nat.pow_add]; simp only [Nat.mul_assoc, Nat.mul_left_comm, Nat.mul_comm]
    have h2 : m * 2 ^ (i + 1074).toNat * 2 ^ κ * (n * 2 ^ (j - i - 1074).toNat) = m * n * 2 ^ ((i + 1074).toNat + κ + (j - i - 1074).toNat) := by
      rw [Nat.pow_add, Nat.pow_add]; simp only [Nat.mul_assoc, Nat.mul_left_comm, Nat.mul_comm]
    rw [h1, h2, show (i - j + 1074).toNat + (j + 1074).toNat = (i + 1074).toNat + κ + (j - i - 1074).toNat by omega]
  have e2 : ((sg (s ^^ t) (m * 2 ^ (i - j + 1074).toNat) : Int) : Rat) * (Flt.V y : Rat) = (Flt.V x : Rat) * ((2 ^ κ : Nat) : Rat) * ((n * 2 ^ (j - i - 1074).toNat : Nat) : Rat) := by
    rw [V_sg ex, V_sg ey, ← Rat.intCast_mul, sg_mul, e1, sg_scale, sg_scale, Bool.xor_assoc, Bool.xor_self, Bool.xor_false]
  obtain ⟨f, v⟩ := op_exact (Nat.mul_pos (by omega) (Nat.two_pow_pos _)) r nn k (z := c) (by
    have hU := U_pos
    have hb' : (b : Rat) ≠ 0 := fun e => hb (Rat.intCast_eq_zero_iff.1 e)
    rw [vx, vy, ← hc, ← hκU, Rat.intCast_mul, Rat.intCast_mul, Rat.intCast_mul, Rat.intCast_natCast, ← hκU] at e2
    generalize ((sg (s ^^ t) (m * 2 ^ (i - j + 1074).toNat) : Int) : Rat) = z at *
    generalize ((n * 2 ^ (j - i - 1074).toNat : Nat) : Rat) = d at *
    generalize (b : Rat) = b' at *
    generalize (c : Rat) = c' at *
    generalize U = U' at *
    grind) h
  exact ⟨f, v⟩
theorem iv_of {x : Nat} {z : Int} {κ : Nat} (hκ : U = ((2 ^ κ : Nat) : Rat)) (hf : Fin x) (h : Flt.V x = z * ((2 ^ κ : Nat) : Int)) : Iv x z := by
  refine ⟨hf, ?_⟩
  have hUp := U_pos
  have e4 : val x * U = (z : Rat) * U := by rw [val_U, h, hκ, Rat.intCast_mul, Rat.intCast_natCast]
  exact Rat.le_antisymm (Rat.le_of_mul_le_mul_right (c := U) (by rw [e4]; exact Rat.le_refl) hUp) (Rat.le_of_mul_le_mul_right (c := U) (by rw [e4]; exact Rat.le_refl) hUp)
theorem iv_near {z : Int} (h : -9007199254740992 < z ∧ z < 9007199254740992) : Iv (cn (FloatKind.f64.nearest z)) z := by
  have e : FloatKind.f64.nearest z = double.nearest (decide (z < 0)) z.natAbs 0 := rfl
  obtain ⟨n1, n2⟩ := nearest_V (decide (z < 0)) (m := z.natAbs) (i := 0) (by omega) (by decide) (by decide)
  obtain ⟨κ, hκ, hU⟩ := U_nat
  rw [e, cn_notN n1.notN]
  refine iv_of hU n1 ?_
  rw [n2, show ((0 : Int) + 1074).toNat = κ by omega]
  unfold signed
  rw [Nat.shiftLeft_eq]
  by_cases g : z < 0
  · rw [decide_eq_true g, if_pos rfl, Int.natCast_mul, ← Int.neg_mul]
    congr 1; omega
  · rw [decide_eq_false g, if_neg (by decide), Int.natCast_mul]
    congr 1; omega
theorem iv_feq {x y : Nat} {z : Int} (hx : Iv x z) (hy : Iv y z) : feq x y = true := by
  obtain ⟨κ, hκ, hU⟩ := U_nat
  rw [feq_V hx.fin hy.fin, hx.V hU, hy.V hU, decide_eq_true rfl]
theorem iv_cmp {x y : Nat} {a b : Int} (hx : Iv x a) (hy : Iv y b) : flt x y = decide (a < b) ∧ feq x y = decide (a = b) ∧ fgt x y = decide (b < a) := by
  obtain ⟨κ, hκ, hU⟩ := U_nat
  have hp : (0 : Int) < ((2 ^ κ : Nat) : Int) := by have := Nat.two_pow_pos κ; omega
  have lt : ∀ a b : Int, (a * ((2 ^ κ : Nat) : Int) < b * ((2 ^ κ : Nat) : Int)) = (a < b) := fun a b => propext ⟨fun h => Int.lt_of_mul_lt_mul_right h (Int.le_of_lt hp), fun h => Int.mul_lt_mul_of_pos_right h hp⟩
  refine ⟨?_, ?_, ?_⟩
  · rw [flt_V hx.fin hy.fin, hx.V hU, hy.V hU]; exact decide_eq_decide.2 (by rw [lt])
  · rw [feq_V hx.fin hy.fin, hx.V hU, hy.V hU]
    refine decide_eq_decide.2 ⟨fun h => Int.eq_of_mul_eq_mul_right (by omega) h, fun h => by rw [h]⟩
  · rw [fgt_flt, flt_V hy.fin hx.fin, hx.V hU, hy.V hU]; exact decide_eq_decide.2 (by rw [lt])
end Flt
end Go.Proofs.Ytgbcnfcgljbbgaa
/- Floats of whole numbers, and thousandths of them. -/
namespace Go.Proofs.Ytgbcnfcgljbbgaa
open Go.RowKit Ev Flt
set_option linter.unusedVariables false
set_option linter.unusedSimpArgs false
set_option maxRecDepth 20000

theorem nI_Q {i M : Int} (h : -M ≤ i ∧ i ≤ M) (hM : M ≤ 9007199254740991) : Q (cn (FloatKind.f64.nearest i)) (M : Rat) := by
  obtain ⟨f, e⟩ := iv_near (z := i) (by omega)
  refine ⟨f, ?_⟩
  rw [e]
  unfold Bd
  have h1 := Rat.intCast_le_intCast.2 h.1
  have h2 := Rat.intCast_le_intCast.2 h.2
  rw [Rat.intCast_neg] at h1
  exact ⟨h1, h2⟩
theorem iv_1000 : Iv 4652007308841189376 1000 := by
  have := iv_near (z := 1000) (by omega)
  rwa [show cn (FloatKind.f64.nearest 1000) = 4652007308841189376 by decide +kernel] at this
theorem quo_1000 {x : Nat} {M : Rat} (h : Q x M) (hM : M ≤ 1152921504606846976) : Q (F .quo x 4652007308841189376) (M + 129) := by
  have v : val 4652007308841189376 = 1000 := by rw [iv_1000.eq]; rfl
  have v0 : V 4652007308841189376 ≠ 0 := fun e => by
    have : val 4652007308841189376 = 0 := by unfold val; rw [e, Rat.intCast_zero, Rat.div_def, Rat.zero_mul]
    rw [v] at this; exact absurd this (by decide)
  have he : (val x / 1000) * val 4652007308841189376 = val x := by rw [v]; grind
  have hb : Bd (val x / 1000) M := by
    have := h.bd
    unfold Bd at *
    grind
  exact .of (quo_err h.fin iv_1000.fin v0 he hb hM) hb hM
end Go.Proofs.Ytgbcnfcgljbbgaa
/- Numbers cut off to whole ones. -/
namespace Go.Proofs.Ytgbcnfcgljbbgaa
open Go.RowKit Ev Flt Ieee
set_option linter.unusedVariables false
set_option linter.unusedSimpArgs false

theorem shr_powT {n drop : Nat} : n / (1 <<< min drop (n.log2 + 2)) = n / 2 ^ drop := by
  rw [Nat.shiftLeft_eq, Nat.one_mul]
  by_cases h : drop ≤ n.log2 + 2
  · rw [Nat.min_eq_left h]
  · rw [Nat.min_eq_right (by omega)]
    have h1 : n < 2 ^ (n.log2 + 1) := Nat.lt_log2_self
    have h2 : 2 ^ (n.log2 + 1) ≤ 2 ^ (n.log2 + 2) := Nat.pow_le_pow_right (by decide) (by omega)
    have h3 : 2 ^ (n.log2 + 1) ≤ 2 ^ drop := Nat.pow_le_pow_right (by decide) (by omega)
    rw [Nat.div_eq_of_lt (by omega), Nat.div_eq_of_lt (by omega)]
theorem cut_zeroT (s : Bool) (n d : Nat) : Toward.zero.cut s n d = n / 2 ^ d := by
  show n / (1 <<< min d (n.log2 + 2)) + false.toNat = _
  rw [shr_powT]; rfl
theorem signedT (s : Bool) (c : Nat) : signed s c 0 = if s then -(c : Int) else (c : Int) := by
  unfold signed; rw [Nat.shiftLeft_zero]
theorem trunc_some {x : Nat} {M : Int} (h : Q x (M : Rat)) (hM : 0 ≤ M) : ∃ z, (FloatKind.f64.decode x).toInt .zero = some z ∧ -M ≤ z ∧ z ≤ M := by
  obtain ⟨s, m, i, ex⟩ := h.fin
  obtain ⟨_, i0, _⟩ := read_form ex
  obtain ⟨κ, hκ, hU⟩ := U_nat
  have b := h.bd
  unfold Bd at b
  have b1 : V x ≤ M * (2 ^ κ : Nat) := of_val_le hU b.2
  have b2 : -M * (2 ^ κ : Nat) ≤ V x := of_le_val hU (by rw [Rat.intCast_neg]; exact b.1)
  have v := V_sg ex
  have hc : ((m <<< i.toNat) / 2 ^ (-i).toNat : Nat) * 2 ^ κ ≤ m * 2 ^ (i + 1074).toNat := by
    have e : m * 2 ^ (i + 1074).toNat * 2 ^ (-i).toNat = m * 2 ^ i.toNat * 2 ^ κ := by
      rw [Nat.mul_assoc, Nat.mul_assoc, ← Nat.pow_add, ← Nat.pow_add, show (i + 1074).toNat + (-i).toNat = i.toNat + κ by omega]
    have hp := Nat.two_pow_pos (-i).toNat
    refine Nat.le_of_mul_le_mul_right ?_ hp
    rw [e, Nat.shiftLeft_eq, Nat.mul_right_comm]
    exact Nat.mul_le_mul_right _ (Nat.div_mul_le_self _ _)
  have hk : (0 : Int) < ((2 ^ κ : Nat) : Int) := by have := Nat.two_pow_pos κ; omega
  generalize hC : ((m <<< i.toNat) / 2 ^ (-i).toNat : Nat) = c at hc
  refine ⟨signed s c 0, ?_, ?_⟩
  · show Datum.toInt .zero (double.read x) = _
    rw [ex]
    show some (signed s (Toward.zero.cut s (m <<< i.toNat) (-i).toNat) 0) = _
    rw [cut_zeroT, hC]
  · have hc' : (c : Int) * ((2 ^ κ : Nat) : Int) ≤ ((m * 2 ^ (i + 1074).toNat : Nat) : Int) := by
      have := Int.ofNat_le.2 hc
      rwa [Int.natCast_mul c] at this
    have key : (c : Int) ≤ M := by
      refine Int.le_of_mul_le_mul_right ?_ hk
      unfold sg at v
      split at v
      · rw [v] at b2
        have : ((m * 2 ^ (i + 1074).toNat : Nat) : Int) ≤ M * ((2 ^ κ : Nat) : Int) := by
          rw [Int.neg_mul] at b2; omega
        exact Int.le_trans hc' this
      · rw [v] at b1; exact Int.le_trans hc' b1
    rw [signedT]
    split <;> omega
end Go.Proofs.Ytgbcnfcgljbbgaa
/- Floats that are one another times a power of two: all operations go along. -/
namespace Go.Proofs.Ytgbcnfcgljbbgaa
open Go.RowKit Ev Ieee
set_option linter.unusedVariables false
set_option linter.unusedSimpArgs false
set_option maxRecDepth 20000
namespace Flt

theorem log2_52 {m : Nat} (h : 4503599627370496 ≤ m) (h' : m < 9007199254740992) : m.log2 = 52 := by
  have h0 : m ≠ 0 := by omega
  refine (Nat.log2_eq_iff h0).2 ⟨?_, ?_⟩
  · exact h
  · exact h'
theorem kept_ge (neg : Bool) (m : Nat) (up drop : Nat) (hm : m ≠ 0) (h : (up = 52 - m.log2 ∧ drop = m.log2 - 52)) : 4503599627370496 ≤ Toward.even.cut neg (m <<< up) drop := by
  have hl := Nat.log2_self_le hm
  rw [cut_even]
  refine rhe_lower (Nat.two_pow_pos _) ?_
  obtain ⟨rfl, rfl⟩ := h
  rw [Nat.shiftLeft_eq]
  have e : (4503599627370496 : Nat) = 2 ^ 52 := by decide
  rw [e, ← Nat.pow_add]
  by_cases g : m.log2 ≤ 52
  · rw [show m.log2 - 52 = 0 by omega, Nat.add_zero]
    calc 2 ^ 52 = 2 ^ m.log2 * 2 ^ (52 - m.log2) := by rw [← Nat.pow_add]; congr 1; omega
      _ ≤ m * 2 ^ (52 - m.log2) := Nat.mul_le_mul_right _ hl
  · rw [show 52 - m.log2 = 0 by omega, Nat.pow_zero, Nat.mul_one, show 52 + (m.log2 - 52) = m.log2 by omega]
    exact hl
theorem read_low {neg : Bool} {Q C : Nat} {i : Int} (h : 4503599627370496 ≤ C) (h' : C < 9007199254740992) (hq : Q ≤ 2000) (hi : i = -1074 + Q) : double.read (double.word neg (Q * 4503599627370496 + C)) = .number neg C i := by
  have m1 : 4503599627370496 + (Q * 4503599627370496 + C) % 4503599627370496 = C := by omega
  have m2 : (-1074 : Int) + ((Q * 4503599627370496 + C) / 4503599627370496 - 1 : Nat) = i := by omega
  rw [read_word neg _ (by omega), if_neg (by omega), m1, m2]
theorem read_top {neg : Bool} {Q : Nat} {i : Int} (hq : Q ≤ 2000) (hi : i = -1073 + Q) : double.read (double.word neg (Q * 4503599627370496 + 9007199254740992)) = .number neg 4503599627370496 i := by
  have m1 : 4503599627370496 + (Q * 4503599627370496 + 9007199254740992) % 4503599627370496 = 4503599627370496 := by omega
  have m2 : (-1074 : Int) + ((Q * 4503599627370496 + 9007199254740992) / 4503599627370496 - 1 : Nat) = i := by omega
  rw [read_word neg _ (by omega), if_neg (by omega), m1, m2]
/-- What is written of a number whose exponent has room: read, and shifted by so many. -/
theorem near_sc {neg : Bool} {mag : Nat} {p e : Int} (hm : mag ≠ 0) (h1 : -1050 ≤ p + mag.log2 - 52) (h2 : p + mag.log2 - 52 ≤ 850) (he : -20 ≤ e ∧ e ≤ 20) :
    ∃ m i, 4503599627370496 ≤ m ∧ m < 9007199254740992 ∧ p + mag.log2 - 52 ≤ i ∧ i ≤ p + mag.log2 - 51 ∧ double.read (double.nearest neg mag p) = .number neg m i ∧ double.read (double.nearest neg mag (p + e)) = .number neg m (i + e) := by
  obtain ⟨C, hC⟩ : ∃ C, C = Toward.even.cut neg (mag <<< (52 - mag.log2)) (mag.log2 - 52) := ⟨_, rfl⟩
  have c1 : 4503599627370496 ≤ C := by rw [hC]; exact kept_ge neg mag _ _ hm ⟨rfl, rfl⟩
  have key : ∀ p : Int, -1074 ≤ p + mag.log2 - 52 → p + mag.log2 - 52 ≤ 900 → double.nearest neg mag p = double.word neg ((p + mag.log2 - 52 + 1074).toNat * 4503599627370496 + C) ∧ C ≤ 9007199254740992 := fun p a b => by
    have hk := kept_le neg mag p (max (p + mag.log2 - 52) (-1074)) hm (by omega)
    rw [nearest_eq neg mag p hm]
    have hq : max (p + mag.log2 - 52) (-1074) = p + mag.log2 - 52 := by omega
    rw [hq] at hk ⊢
    have u : (p - (p + mag.log2 - 52)).toNat = 52 - mag.log2 := by omega
    have d : (p + mag.log2 - 52 - p).toNat = mag.log2 - 52 := by omega
    rw [u, d, ← hC] at hk ⊢
    have hm2 : min ((p + mag.log2 - 52 + 1074).toNat * 4503599627370496 + C) (2047 * 4503599627370496) = (p + mag.log2 - 52 + 1074).toNat * 4503599627370496 + C := by
      refine Nat.min_eq_left ?_
      omega
    exact ⟨congrArg (double.word neg) hm2, hk⟩
  obtain ⟨k1, c2⟩ := key p (by omega) (by omega)
  obtain ⟨k2, _⟩ := key (p + e) (by omega) (by omega)
  rw [k1, k2]
  obtain ⟨Q, hQ⟩ : ∃ Q : Nat, (Q : Int) = p + mag.log2 - 52 + 1074 := ⟨(p + mag.log2 - 52 + 1074).toNat, by omega⟩
  obtain ⟨Q', hQ'⟩ : ∃ Q : Nat, (Q : Int) = p + e + mag.log2 - 52 + 1074 := ⟨(p + e + mag.log2 - 52 + 1074).toNat, by omega⟩
  have e1 : (p + mag.log2 - 52 + 1074).toNat = Q := by omega
  have e2 : (p + e + mag.log2 - 52 + 1074).toNat = Q' := by omega
  rw [e1, e2]
  by_cases g : C = 9007199254740992
  · rw [g]
    refine ⟨4503599627370496, p + mag.log2 - 51, by omega, by omega, by omega, by omega, read_top (by omega) (by omega), read_top (by omega) (by omega)⟩
  · refine ⟨C, p + mag.log2 - 52, c1, by omega, by omega, by omega, read_low c1 (by omega) (by omega) (by omega), read_low c1 (by omega) (by omega) (by omega)⟩
/-- The one is the other times a power of two; how great it is at most, and at least. -/
def Sc (e lo hi : Int) (x x' : Nat) : Prop := (∃ s, double.read x = .number s 0 (-1074) ∧ double.read x' = .number s 0 (-1074)) ∨
  ∃ s m i, 4503599627370496 ≤ m ∧ m < 9007199254740992 ∧ lo ≤ i ∧ i ≤ hi ∧ double.read x = .number s m i ∧ double.read x' = .number s m (i + e)
theorem Sc.wk {e lo hi lo' hi' : Int} {x x' : Nat} (h : Sc e lo hi x x') (a : lo' ≤ lo) (b : hi ≤ hi') : Sc e lo' hi' x x' := by
  rcases h with h | ⟨s, m, i, h1, h2, h3, h4, h5, h6⟩
  · exact .inl h
  · exact .inr ⟨s, m, i, h1, h2, by omega, by omega, h5, h6⟩
theorem Sc.fin {e lo hi : Int} {x x' : Nat} (h : Sc e lo hi x x') : Flt.Fin x ∧ Flt.Fin x' := by
  rcases h with ⟨s, h1, h2⟩ | ⟨s, m, i, h1, h2, h3, h4, h5, h6⟩
  · exact ⟨⟨_, _, _, h1⟩, ⟨_, _, _, h2⟩⟩
  · exact ⟨⟨_, _, _, h5⟩, ⟨_, _, _, h6⟩⟩
theorem read_zero (s : Bool) : double.read (double.word s 0) = .number s 0 (-1074) := by
  rw [read_word s 0 (by decide), if_pos (by decide)]
/-- Two writings of one number, so many places apart. -/
theorem Sc.mk {e lo hi p : Int} {s : Bool} {mag : Nat} (he : -20 ≤ e ∧ e ≤ 20) (h : mag ≠ 0 → lo ≤ p + mag.log2 - 52 ∧ p + mag.log2 - 51 ≤ hi) (h1 : -1050 ≤ lo) (h2 : hi ≤ 850) : Sc e lo hi (double.nearest s mag p) (double.nearest s mag (p + e)) := by
  by_cases hm : mag = 0
  · subst hm
    rw [near_0, near_0]
    exact .inl ⟨s, read_zero s, read_zero s⟩
  · obtain ⟨a, b⟩ := h hm
    obtain ⟨m, i, c1, c2, c3, c4, c5, c6⟩ := near_sc (neg := s) (p := p) (e := e) hm (by omega) (by omega) he
    exact .inr ⟨s, m, i, c1, c2, by omega, by omega, c5, c6⟩
theorem near_num (s : Bool) (mag : Nat) (p : Int) : isN (double.nearest s mag p) = false := by
  by_cases hm : mag = 0
  · subst hm; rw [near_0]; exact word_ok s (Nat.zero_le _)
  · obtain ⟨t, _, e⟩ := nearest_form s mag p
    rw [e]; exact word_ok s (rung_le _ _ _ _ _)
theorem F_near {op : BinOp} {x y : Nat} {s : Bool} {mag : Nat} {p : Int} (h : fop op x y = some (double.nearest s mag p)) : F op x y = double.nearest s mag p := F_some h (near_num s mag p)
theorem fop_mul {x y : Nat} {s t : Bool} {m n : Nat} {i j : Int} (hx : double.read x = .number s m i) (hy : double.read y = .number t n j) : fop .mul x y = some (double.nearest (s ^^ t) (m * n) (i + j)) := by
  show ((double.read x).product (double.read y)).map double.write = _
  rw [hx, hy]; rfl
theorem Sc.mul {e e' lo hi lo' hi' : Int} {x x' y y' : Nat} (hx : Sc e lo hi x x') (hy : Sc e' lo' hi' y y') (he : -20 ≤ e + e' ∧ e + e' ≤ 20) (h1 : -1050 ≤ lo + lo' + 52) (h2 : hi + hi' + 54 ≤ 850) : Sc (e + e') (lo + lo' + 52) (hi + hi' + 54) (F .mul x y) (F .mul x' y') := by
  have z : ∀ {s t : Bool} {a b c d : Nat} {i j k l : Int}, double.read x = .number s a i → double.read y = .number t b j → double.read x' = .number s c k → double.read y' = .number t d l → a * b = 0 → c * d = 0 → Sc (e + e') (lo + lo' + 52) (hi + hi' + 54) (F .mul x y) (F .mul x' y') := fun {s t a b c d i j k l} q1 q2 q3 q4 z1 z2 => by
    rw [F_near (fop_mul q1 q2), F_near (fop_mul q3 q4), z1, z2, near_0, near_0]
    exact .inl ⟨_, read_zero _, read_zero _⟩
  rcases hx with ⟨s, a1, a2⟩ | ⟨s, m, i, a1, a2, a3, a4, a5, a6⟩ <;> rcases hy with ⟨t, b1, b2⟩ | ⟨t, n, j, b1, b2, b3, b4, b5, b6⟩
  · exact z a1 b1 a2 b2 (Nat.zero_mul _) (Nat.zero_mul _)
  · exact z a1 b5 a2 b6 (Nat.zero_mul _) (Nat.zero_mul _)
  · exact z a5 b1 a6 b2 (Nat.mul_zero _) (Nat.mul_zero _)
  · rw [F_near (fop_mul a5 b5), F_near (fop_mul a6 b6), show i + e + (j + e') = i + j + (e + e') by omega]
    have g : m * n ≠ 0 → (m * n).log2 = 104 ∨ (m * n).log2 = 105 := fun h0 => by
      have h3 : 2 ^ 104 ≤ m * n := by
        have := Nat.mul_le_mul a1 b1
        rw [show (2 : Nat) ^ 104 = 4503599627370496 * 4503599627370496 by decide]; exact this
      have h4 : m * n < 2 ^ 106 := by
        have := Nat.mul_lt_mul'' a2 b2
        rw [show (2 : Nat) ^ 106 = 9007199254740992 * 9007199254740992 by decide]; exact this
      have h5 := (Nat.le_log2 h0).2 h3
      have h6 := (Nat.log2_lt h0).2 h4
      omega
    refine Sc.mk he (fun h0 => ?_) h1 h2
    have := g h0
    omega
theorem fop_quo {x y : Nat} {s t : Bool} {m n : Nat} {i j : Int} (hx : double.read x = .number s m i) (hy : double.read y = .number t n j) (hn : n ≠ 0) :
    fop .quo x y = some (double.nearest (s ^^ t) (2 * ((m <<< (54 + n.log2 - m.log2)) / n) + ((m <<< (54 + n.log2 - m.log2)) % n != 0).toNat) (i - j - (54 + n.log2 - m.log2 : Nat) - 1)) := by
  show ((double.read x).quotient (double.fractionBits + 2) (double.read y)).map double.write = _
  have fb : double.fractionBits + 2 = 54 := by decide +kernel
  rw [hx, hy, fb]
  simp only [Datum.quotient, if_neg hn, Option.map_some]
  rfl
theorem Sc.quo {e e' lo hi lo' hi' : Int} {x x' y y' : Nat} (hx : Sc e lo hi x x') (hy : Sc e' lo' hi' y y') (h0 : feq y 0 = false) (he : -20 ≤ e - e' ∧ e - e' ≤ 20) (h1 : -1050 ≤ lo - hi' - 53) (h2 : hi - lo' - 51 ≤ 850) : Sc (e - e') (lo - hi' - 53) (hi - lo' - 51) (F .quo x y) (F .quo x' y') := by
  rcases hy with ⟨t, b1, b2⟩ | ⟨t, n, j, b1, b2, b3, b4, b5, b6⟩
  · exfalso
    rw [feq_V ⟨_, _, _, b1⟩ Fin_0, V_0, V_of b1, signed_0] at h0
    exact absurd h0 (by decide)
  have hn : n ≠ 0 := by omega
  have ln := log2_52 b1 b2
  rcases hx with ⟨s, a1, a2⟩ | ⟨s, m, i, a1, a2, a3, a4, a5, a6⟩
  · have z : (2 * ((0 <<< (54 + n.log2 - (0 : Nat).log2)) / n) + ((0 <<< (54 + n.log2 - (0 : Nat).log2)) % n != 0).toNat) = 0 := by simp
    rw [F_near (fop_quo a1 b5 hn), F_near (fop_quo a2 b6 hn), z, near_0, near_0]
    exact .inl ⟨_, read_zero _, read_zero _⟩
  · rw [F_near (fop_quo a5 b5 hn), F_near (fop_quo a6 b6 hn)]
    have lm := log2_52 a1 a2
    rw [ln, lm, show 54 + 52 - 52 = 54 by decide, show i + e - (j + e') - ((54 : Nat) : Int) - 1 = i - j - ((54 : Nat) : Int) - 1 + (e - e') by omega]
    have d0 : m <<< 54 = m * 18014398509481984 := Nat.shiftLeft_eq m 54
    rw [d0]
    have d1 : 9007199254740992 ≤ m * 18014398509481984 / n := by
      rw [Nat.le_div_iff_mul_le (by omega)]
      omega
    have d2 : m * 18014398509481984 / n < 36028797018963968 := by
      rw [Nat.div_lt_iff_lt_mul (by omega)]
      omega
    have tb : ((m * 18014398509481984) % n != 0).toNat ≤ 1 := by cases ((m * 18014398509481984) % n != 0) <;> decide
    generalize m * 18014398509481984 / n = D at *
    generalize ((m * 18014398509481984) % n != 0).toNat = T at *
    refine Sc.mk he (fun h0 => ?_) h1 h2
    have h5 := (Nat.le_log2 h0).2 (show 2 ^ 54 ≤ 2 * D + T by rw [show (2 : Nat) ^ 54 = 18014398509481984 by decide]; omega)
    have h6 := (Nat.log2_lt h0).2 (show 2 * D + T < 2 ^ 56 by rw [show (2 : Nat) ^ 56 = 72057594037927936 by decide]; omega)
    omega
theorem rootFrom_bd (n : Nat) : ∀ (todo r : Nat), r ≤ Datum.rootFrom n todo r ∧ Datum.rootFrom n todo r < r + 2 ^ todo
  | 0, r => ⟨Nat.le_refl _, by show r < r + 2 ^ 0; omega⟩
  | t + 1, r => by
    have e : Datum.rootFrom n (t + 1) r = Datum.rootFrom n t (if (r + 1 <<< t) * (r + 1 <<< t) ≤ n then r + 1 <<< t else r) := rfl
    rw [e, Nat.shiftLeft_eq, Nat.one_mul, Nat.pow_succ]
    split
    · have := rootFrom_bd n t (r + 2 ^ t); omega
    · have := rootFrom_bd n t r; omega
theorem root_read {x : Nat} {m : Nat} {i : Int} (hx : double.read x = .number false m i) (h : 4503599627370496 ≤ m) (h' : m < 9007199254740992) :
    ∃ (W : Nat) (k : Nat), (k : Int) = 56 + ((i - 56) % 2) ∧ 2 ^ 55 ≤ W ∧ W < 2 ^ 56 ∧ sq x = double.nearest false W ((i - k) / 2 - 1) ∧ ∀ y j, double.read y = .number false m j → (j - i) % 2 = 0 → sq y = double.nearest false W ((j - k) / 2 - 1) := by
  have fb : double.fractionBits + 2 = 54 := by decide +kernel
  have lm := log2_52 h h'
  have gen : ∀ y j, double.read y = .number false m j → Ieee.double.sqrt y = some (double.nearest false (2 * Datum.rootFrom (m <<< (56 + ((j - (56 : Nat)) % 2).toNat)) ((m <<< (56 + ((j - (56 : Nat)) % 2).toNat)).log2 / 2 + 1) 0 + (Datum.rootFrom (m <<< (56 + ((j - (56 : Nat)) % 2).toNat)) ((m <<< (56 + ((j - (56 : Nat)) % 2).toNat)).log2 / 2 + 1) 0 * Datum.rootFrom (m <<< (56 + ((j - (56 : Nat)) % 2).toNat)) ((m <<< (56 + ((j - (56 : Nat)) % 2).toNat)).log2 / 2 + 1) 0 != m <<< (56 + ((j - (56 : Nat)) % 2).toNat)).toNat) ((j - (56 + ((j - (56 : Nat)) % 2).toNat : Nat)) / 2 - 1)) := fun y j hy => by
    show ((double.read y).root (double.fractionBits + 2)).map double.write = _
    rw [hy, fb]
    simp only [Datum.root, if_neg (show ¬ m = 0 by omega), lm, Bool.false_eq_true, if_false, Option.map_some]
    rfl
  obtain ⟨k, hk⟩ : ∃ k : Nat, k = 56 + ((i - (56 : Nat)) % 2).toNat := ⟨_, rfl⟩
  have k2 : k = 56 ∨ k = 57 := by omega
  have sqs : ∀ y j, double.read y = .number false m j → (j - i) % 2 = 0 → sq y = double.nearest false (2 * Datum.rootFrom (m <<< k) ((m <<< k).log2 / 2 + 1) 0 + (Datum.rootFrom (m <<< k) ((m <<< k).log2 / 2 + 1) 0 * Datum.rootFrom (m <<< k) ((m <<< k).log2 / 2 + 1) 0 != m <<< k).toNat) ((j - (k : Nat)) / 2 - 1) := fun y j hy hp => by
    have g := gen y j hy
    have e : 56 + ((j - (56 : Nat)) % 2).toNat = k := by omega
    rw [e] at g
    unfold sq
    rw [g]
    exact cn_notN (near_num _ _ _)
  have lg : (m <<< k).log2 / 2 + 1 = 55 := by
    rw [log2_shl m k (by omega), lm]
    omega
  rw [lg] at sqs
  have big : (0 + 1 <<< 54) * (0 + 1 <<< 54) ≤ m <<< k := by
    rw [Nat.shiftLeft_eq, Nat.shiftLeft_eq]
    have h1 : 4503599627370496 * 2 ^ 56 ≤ m * 2 ^ k := Nat.mul_le_mul h (Nat.pow_le_pow_right (by decide) (by omega))
    have h2 : (0 + 1 * 2 ^ 54) * (0 + 1 * 2 ^ 54) = 4503599627370496 * 2 ^ 56 := by decide
    omega
  have step : Datum.rootFrom (m <<< k) 55 0 = Datum.rootFrom (m <<< k) 54 (0 + 1 <<< 54) := by
    have e : Datum.rootFrom (m <<< k) 55 0 = Datum.rootFrom (m <<< k) 54 (if (0 + 1 <<< 54) * (0 + 1 <<< 54) ≤ m <<< k then 0 + 1 <<< 54 else 0) := rfl
    rw [e, if_pos big]
  have rb := rootFrom_bd (m <<< k) 54 (0 + 1 <<< 54)
  rw [← step] at rb
  have e54 : (0 + 1 <<< 54 : Nat) = 2 ^ 54 := by decide
  rw [e54] at rb
  have tb : (Datum.rootFrom (m <<< k) 55 0 * Datum.rootFrom (m <<< k) 55 0 != m <<< k).toNat ≤ 1 := by cases (Datum.rootFrom (m <<< k) 55 0 * Datum.rootFrom (m <<< k) 55 0 != m <<< k) <;> decide
  refine ⟨2 * Datum.rootFrom (m <<< k) 55 0 + (Datum.rootFrom (m <<< k) 55 0 * Datum.rootFrom (m <<< k) 55 0 != m <<< k).toNat, k, by omega, by omega, by omega, sqs x i hx (by omega), sqs⟩
theorem Sc.sqrt {e lo hi : Int} {x x' : Nat} (hx : Sc (e + e) lo hi x x') (h0 : flt x 0 = false) (he : -20 ≤ e ∧ e ≤ 20) (h1 : -1050 ≤ (lo - 57) / 2 + 2) (h2 : (hi - 56) / 2 + 3 ≤ 850) : Sc e ((lo - 57) / 2 + 2) ((hi - 56) / 2 + 3) (sq x) (sq x') := by
  rcases hx with ⟨s, a1, a2⟩ | ⟨s, m, i, a1, a2, a3, a4, a5, a6⟩
  · have fb : double.fractionBits + 2 = 54 := by decide +kernel
    have g : ∀ y, double.read y = .number s 0 (-1074) → sq y = double.nearest s 0 (-1074) := fun y hy => by
      have e : Ieee.double.sqrt y = some (double.nearest s 0 (-1074)) := by
        show ((double.read y).root (double.fractionBits + 2)).map double.write = _
        rw [hy]; rfl
      unfold sq; rw [e]; exact cn_notN (near_num _ _ _)
    rw [g x a1, g x' a2, near_0]
    exact .inl ⟨s, read_zero s, read_zero s⟩
  · have hs : s = false := by
      cases s
      · rfl
      · exfalso
        rw [flt_V ⟨_, _, _, a5⟩ Fin_0, V_0, V_of a5, decide_eq_false_iff_not] at h0
        unfold signed at h0
        rw [if_pos rfl, Nat.shiftLeft_eq] at h0
        have := Nat.mul_pos (show 0 < m by omega) (Nat.two_pow_pos (i + 1074).toNat)
        omega
    subst hs
    obtain ⟨W, k, hk, w1, w2, q1, q2⟩ := root_read a5 a1 a2
    rw [q1, q2 x' (i + (e + e)) a6 (by omega), show (i + (e + e) - (k : Int)) / 2 - 1 = (i - (k : Int)) / 2 - 1 + e by omega]
    refine Sc.mk he (fun hz => ?_) h1 h2
    have h5 := (Nat.le_log2 hz).2 w1
    have h6 := (Nat.log2_lt hz).2 w2
    omega
theorem fop_add {x y : Nat} {s t : Bool} {m n : Nat} {i j : Int} (hx : double.read x = .number s m i) (hy : double.read y = .number t n j) :
    fop .add x y = some (double.nearest (if signed s m (i - min i j).toNat + signed t n (j - min i j).toNat = 0 then s && t else decide (signed s m (i - min i j).toNat + signed t n (j - min i j).toNat < 0)) (signed s m (i - min i j).toNat + signed t n (j - min i j).toNat).natAbs (min i j)) := by
  show ((double.read x).sum (double.read y)).map double.write = _
  rw [hx, hy]; rfl
theorem signed_ne {s : Bool} {m k : Nat} (h : 0 < m) : signed s m k ≠ 0 ∧ decide (signed s m k < 0) = s ∧ (signed s m k).natAbs = m <<< k := by
  have hp := Nat.mul_pos h (Nat.two_pow_pos k)
  unfold signed
  rw [Nat.shiftLeft_eq]
  cases s
  · rw [if_neg (by decide)]
    exact ⟨by omega, decide_eq_false (by omega), by omega⟩
  · rw [if_pos rfl]
    exact ⟨by omega, decide_eq_true (by omega), by omega⟩
theorem add_0l {x y : Nat} {s t : Bool} {n : Nat} {j : Int} (hx : double.read x = .number s 0 (-1074)) (hy : double.read y = .number t n j) (hn : 0 < n) (hj : -1074 ≤ j) : F .add x y = double.nearest t n j := by
  have h := fop_add hx hy
  have hb : min (-1074) j = -1074 := by omega
  rw [hb, signed_0, Int.zero_add] at h
  obtain ⟨a, b, c⟩ := signed_ne (s := t) (k := (j - -1074).toNat) hn
  rw [if_neg a, b, c] at h
  rw [F_near h, near_shift]
  congr 1
  omega
theorem add_0r {x y : Nat} {s t : Bool} {n : Nat} {j : Int} (hx : double.read x = .number s 0 (-1074)) (hy : double.read y = .number t n j) (hn : 0 < n) (hj : -1074 ≤ j) : F .add y x = double.nearest t n j := by
  rw [F_add_comm]; exact add_0l hx hy hn hj
theorem sum_lt {s t : Bool} {m n a b D : Nat} (hm : m < 9007199254740992) (hn : n < 9007199254740992) (ha : a ≤ D) (hb : b ≤ D) : (signed s m a + signed t n b).natAbs < 2 ^ (54 + D) := by
  have h1 : (signed s m a).natAbs = m * 2 ^ a := by rw [signed_abs, Nat.shiftLeft_eq]
  have h2 : (signed t n b).natAbs = n * 2 ^ b := by rw [signed_abs, Nat.shiftLeft_eq]
  have p1 := Nat.pow_le_pow_right (n := 2) (by decide) ha
  have p2 := Nat.pow_le_pow_right (n := 2) (by decide) hb
  have q1 : m * 2 ^ a ≤ 9007199254740991 * 2 ^ D := Nat.mul_le_mul (by omega) p1
  have q2 : n * 2 ^ b ≤ 9007199254740991 * 2 ^ D := Nat.mul_le_mul (by omega) p2
  have e : 2 ^ (54 + D) = 18014398509481984 * 2 ^ D := by rw [Nat.pow_add]
  have pd := Nat.two_pow_pos D
  omega
theorem Sc.add {e lo hi lo' hi' : Int} {x x' y y' : Nat} (hx : Sc e lo hi x x') (hy : Sc e lo' hi' y y') (he : -20 ≤ e ∧ e ≤ 20) (l1 : -1050 ≤ lo) (l2 : -1050 ≤ lo') (h1 : -1050 ≤ min lo lo' - 52) (h2 : max hi hi' + 2 ≤ 850) : Sc e (min lo lo' - 52) (max hi hi' + 2) (F .add x y) (F .add x' y') := by
  rcases hx with ⟨s, a1, a2⟩ | ⟨s, m, i, a1, a2, a3, a4, a5, a6⟩ <;> rcases hy with ⟨t, b1, b2⟩ | ⟨t, n, j, b1, b2, b3, b4, b5, b6⟩
  · have z : ∀ u v, double.read u = .number s 0 (-1074) → double.read v = .number t 0 (-1074) → F .add u v = double.word (s && t) 0 := fun u v hu hv => by
      have h := fop_add hu hv
      rw [signed_0, signed_0, Int.add_zero, if_pos rfl] at h
      rw [F_near h]
      exact near_0 _ _
    rw [z _ _ a1 b1, z _ _ a2 b2]
    exact .inl ⟨_, read_zero _, read_zero _⟩
  · rw [add_0l a1 b5 (by omega) (by omega), add_0l a2 b6 (by omega) (by omega)]
    have ln := log2_52 b1 b2
    exact Sc.mk he (fun h0 => by rw [ln]; omega) h1 h2
  · rw [add_0r b1 a5 (by omega) (by omega), add_0r b2 a6 (by omega) (by omega)]
    have lm := log2_52 a1 a2
    exact Sc.mk he (fun h0 => by rw [lm]; omega) h1 h2
  · have h := fop_add a5 b5
    have h' := fop_add a6 b6
    have eb : min (i + e) (j + e) = min i j + e := by omega
    have e1 : i + e - (min i j + e) = i - min i j := by omega
    have e2 : j + e - (min i j + e) = j - min i j := by omega
    rw [eb, e1, e2] at h'
    rw [F_near h, F_near h']
    have sl := sum_lt (s := s) (t := t) (a := (i - min i j).toNat) (b := (j - min i j).toNat) (D := (max i j - min i j).toNat) a2 b2 (by omega) (by omega)
    generalize (signed s m (i - min i j).toNat + signed t n (j - min i j).toNat).natAbs = M at *
    refine Sc.mk he (fun h0 => ?_) h1 h2
    have h6 := (Nat.log2_lt h0).2 sl
    omega
theorem read_fneg {x : Nat} {s : Bool} {m : Nat} {i : Int} (h : double.read x = .number s m i) : double.read (fneg x) = .number (!s) m i := by
  have hm : fneg x % 9223372036854775808 = x % 9223372036854775808 := fneg_mod x
  have hd : fneg x / 9223372036854775808 % 2 = 1 - x / 9223372036854775808 % 2 := by
    have e : fneg x / 2 ^ 63 = x / 2 ^ 63 ^^^ 1 := by
      show (x ^^^ 2 ^ 63) / 2 ^ 63 = _
      rw [Nat.xor_div_two_pow, Nat.div_self (by decide)]
    rw [show (9223372036854775808 : Nat) = 2 ^ 63 by decide, e, show (2 : Nat) = 2 ^ 1 by decide, Nat.xor_mod_two_pow]
    have : x / (2 ^ 1) ^ 63 % 2 ^ 1 = 0 ∨ x / (2 ^ 1) ^ 63 % 2 ^ 1 = 1 := by omega
    rcases this with h | h <;> rw [h] <;> rfl
  have hs : (fneg x / 9223372036854775808 % 2 == 1) = !(x / 9223372036854775808 % 2 == 1) := by
    rw [hd]
    have : x / 9223372036854775808 % 2 = 0 ∨ x / 9223372036854775808 % 2 = 1 := by omega
    rcases this with h | h <;> rw [h] <;> rfl
  have w : double.signWeight = 9223372036854775808 := by decide +kernel
  unfold Format.read at h ⊢
  simp only [w, hm, hs] at h ⊢
  split at h
  · rename_i c
    rw [if_pos c]
    injection h with h1 h2 h3
    rw [h1, h2, h3]
  · rename_i c
    rw [if_neg c]
    split at h
    · rename_i c2
      rw [if_pos c2]
      injection h with h1 h2 h3
      rw [h1, h2, h3]
    · rename_i c2
      rw [if_neg c2]
      split at h <;> cases h
theorem Sc.fneg {e lo hi : Int} {x x' : Nat} (h : Sc e lo hi x x') : Sc e lo hi (fneg x) (fneg x') := by
  rcases h with ⟨s, a, b⟩ | ⟨s, m, i, a1, a2, a3, a4, a5, a6⟩
  · exact .inl ⟨_, read_fneg a, read_fneg b⟩
  · exact .inr ⟨_, m, i, a1, a2, a3, a4, read_fneg a5, read_fneg a6⟩
theorem Fneg_eq {x : Nat} (h : Flt.Fin x) : Fneg x = fneg x := by unfold Fneg; exact cn_notN (by rw [isN_fneg]; exact h.notN)
theorem Sc.neg {e lo hi : Int} {x x' : Nat} (h : Sc e lo hi x x') : Sc e lo hi (Fneg x) (Fneg x') := by
  rw [Fneg_eq h.fin.1, Fneg_eq h.fin.2]; exact h.fneg
theorem sub_add {x y : Nat} (h : Flt.Fin y) : F .sub x y = F .add x (fneg y) := by
  obtain ⟨s, m, i, e⟩ := h
  have : fop .sub x y = fop .add x (fneg y) := by
    show ((double.read x).sum (double.read y).opposite).map double.write = ((double.read x).sum (double.read (fneg y))).map double.write
    rw [e, read_fneg e]; rfl
  unfold F; rw [this]
theorem Sc.sub {e lo hi lo' hi' : Int} {x x' y y' : Nat} (hx : Sc e lo hi x x') (hy : Sc e lo' hi' y y') (he : -20 ≤ e ∧ e ≤ 20) (l1 : -1050 ≤ lo) (l2 : -1050 ≤ lo') (h1 : -1050 ≤ min lo lo' - 52) (h2 : max hi hi' + 2 ≤ 850) : Sc e (min lo lo' - 52) (max hi hi' + 2) (F .sub x y) (F .sub x' y') := by
  rw [sub_add hy.fin.1, sub_add hy.fin.2]
  exact hx.add hy.fneg he l1 l2 h1 h2
/-- What both stand for, so many places apart. -/
theorem Sc.V {e lo hi : Int} {x x' : Nat} (h : Sc e lo hi x x') (he : -20 ≤ e ∧ e ≤ 20) (hl : -1050 ≤ lo) : Flt.V x' * (2 ^ 20 : Nat) = Flt.V x * (2 ^ (20 + e).toNat : Nat) := by
  rcases h with ⟨s, a, b⟩ | ⟨s, m, i, a1, a2, a3, a4, a5, a6⟩
  · rw [V_of a, V_of b, signed_0, Int.zero_mul, Int.zero_mul]
  · rw [V_of a5, V_of a6, ← signed_add, ← signed_add]
    congr 1
    omega
theorem cmp_sc {a a' b b' : Int} {p q : Nat} (hp : 0 < p) (hq : 0 < q) (h1 : a' * p = a * q) (h2 : b' * p = b * q) : (a' < b' ↔ a < b) ∧ (a' = b' ↔ a = b) := by
  have P : (0 : Int) < p := by omega
  have Q : (0 : Int) < q := by omega
  constructor
  · rw [← Int.mul_lt_mul_right P, h1, h2, Int.mul_lt_mul_right Q]
  · constructor
    · intro h
      have : a * q = b * q := by rw [← h1, ← h2, h]
      exact Int.eq_of_mul_eq_mul_right (by omega) this
    · intro h
      have : a' * p = b' * p := by rw [h1, h2, h]
      exact Int.eq_of_mul_eq_mul_right (by omega) this
theorem Sc.cmp {e lo hi lo' hi' : Int} {x x' y y' : Nat} (hx : Sc e lo hi x x') (hy : Sc e lo' hi' y y') (he : -20 ≤ e ∧ e ≤ 20) (l1 : -1050 ≤ lo) (l2 : -1050 ≤ lo') : flt x' y' = flt x y ∧ feq x' y' = feq x y ∧ fgt x' y' = fgt x y := by
  have h := cmp_sc (Nat.two_pow_pos 20) (Nat.two_pow_pos (20 + e).toNat) (hx.V he l1) (hy.V he l2)
  have h' := cmp_sc (Nat.two_pow_pos 20) (Nat.two_pow_pos (20 + e).toNat) (hy.V he l2) (hx.V he l1)
  rw [fgt_flt, fgt_flt, flt_V hx.fin.2 hy.fin.2, flt_V hx.fin.1 hy.fin.1, feq_V hx.fin.2 hy.fin.2, feq_V hx.fin.1 hy.fin.1, flt_V hy.fin.2 hx.fin.2, flt_V hy.fin.1 hx.fin.1]
  exact ⟨decide_eq_decide.2 h.1, decide_eq_decide.2 h.2, decide_eq_decide.2 h'.1⟩
theorem sc_0 (e : Int) : Sc e 0 0 0 0 := .inl ⟨false, by decide +kernel, by decide +kernel⟩
theorem Sc.zero {e lo hi : Int} {x x' : Nat} (hx : Sc e lo hi x x') (he : -20 ≤ e ∧ e ≤ 20) (l1 : -1050 ≤ lo) : flt x' 0 = flt x 0 ∧ feq x' 0 = feq x 0 ∧ fgt x' 0 = fgt x 0 := hx.cmp (sc_0 e) he l1 (by decide)
theorem Sc.less {e lo hi lo' hi' : Int} {x x' y y' : Nat} (hx : Sc e lo hi x x') (hy : Sc e lo' hi' y y') (he : -20 ≤ e ∧ e ≤ 20) (l1 : -1050 ≤ lo) (l2 : -1050 ≤ lo') : Sc e (min lo lo') (max hi hi') (lessV x y) (lessV x' y') := by
  unfold lessV
  rw [(hy.cmp hx he l2 l1).1]
  cases flt y x
  · exact hx.wk (by omega) (by omega)
  · exact hy.wk (by omega) (by omega)
theorem Sc.more {e lo hi lo' hi' : Int} {x x' y y' : Nat} (hx : Sc e lo hi x x') (hy : Sc e lo' hi' y y') (he : -20 ≤ e ∧ e ≤ 20) (l1 : -1050 ≤ lo) (l2 : -1050 ≤ lo') : Sc e (min lo lo') (max hi hi') (moreV x y) (moreV x' y') := by
  unfold moreV
  rw [(hy.cmp hx he l2 l1).2.2]
  cases fgt y x
  · exact hx.wk (by omega) (by omega)
  · exact hy.wk (by omega) (by omega)
/-- Quotients of two that go along are the same. -/
theorem Sc.quo_eq {e lo hi lo' hi' : Int} {x x' y y' : Nat} (hx : Sc e lo hi x x') (hy : Sc e lo' hi' y y') (h0 : feq y 0 = false) : F .quo x y = F .quo x' y' := by
  rcases hy with ⟨t, b1, b2⟩ | ⟨t, n, j, b1, b2, b3, b4, b5, b6⟩
  · exfalso
    rw [feq_V ⟨_, _, _, b1⟩ Fin_0, V_0, V_of b1, signed_0] at h0
    exact absurd h0 (by decide)
  have hn : n ≠ 0 := by omega
  rcases hx with ⟨s, a1, a2⟩ | ⟨s, m, i, a1, a2, a3, a4, a5, a6⟩
  · have z : (2 * ((0 <<< (54 + n.log2 - (0 : Nat).log2)) / n) + ((0 <<< (54 + n.log2 - (0 : Nat).log2)) % n != 0).toNat) = 0 := by simp
    rw [F_near (fop_quo a1 b5 hn), F_near (fop_quo a2 b6 hn), z, near_0, near_0]
  · rw [F_near (fop_quo a5 b5 hn), F_near (fop_quo a6 b6 hn), show i + e - (j + e) = i - j by omega]
theorem near_id {s : Bool} {m : Nat} {i : Int} (h : 4503599627370496 ≤ m) (h' : m < 9007199254740992) (h1 : -1060 ≤ i) (h2 : i ≤ 860) : double.read (double.nearest s m i) = .number s m i := by
  have lm := log2_52 h h'
  rw [nearest_eq s m i (by omega), lm]
  have hq : max (i + ((52 : Nat) : Int) - 52) (-1074) = i := by omega
  rw [hq, show (i - i).toNat = 0 by omega, Nat.shiftLeft_zero, cut_even, Nat.pow_zero]
  have hr : rhe m 1 = m := by unfold rhe; rw [Nat.mod_one, Nat.div_one]; simp
  rw [hr]
  obtain ⟨Q, hQ⟩ : ∃ Q : Nat, (Q : Int) = i + 1074 := ⟨(i + 1074).toNat, by omega⟩
  rw [show (i + 1074).toNat = Q by omega, Nat.min_eq_left (by omega)]
  exact read_low h h' (by omega) (by omega)
theorem fop_pow {a k : Nat} {s : Bool} {m : Nat} {i j : Int} (ha : double.read a = .number s m i) (hk : double.read k = .number false 4503599627370496 j) : F .mul a k = double.nearest s m (i + j + 52) := by
  have h := fop_mul ha hk
  have e : m * 4503599627370496 = m <<< 52 := by rw [Nat.shiftLeft_eq]
  rw [e, near_shift, Bool.xor_false] at h
  exact F_near h
/-- A number times a power of two. -/
theorem Sc.pow {lo hi j : Int} {a k : Nat} (h : Sc 0 lo hi a a) (hk : double.read k = .number false 4503599627370496 j) (hj : -72 ≤ j ∧ j ≤ -32) (l1 : -1000 ≤ lo) (l2 : hi ≤ 800) : Sc (j + 52) lo hi a (F .mul a k) := by
  rcases h with ⟨s, b1, b2⟩ | ⟨s, m, i, b1, b2, b3, b4, b5, b6⟩
  · rw [fop_pow b1 hk, near_0]
    exact .inl ⟨s, b1, read_zero s⟩
  · refine .inr ⟨s, m, i, b1, b2, b3, b4, b5, ?_⟩
    rw [fop_pow b5 hk, near_id b1 b2 (by omega) (by omega)]
    congr 1
    omega
end Flt
end Go.Proofs.Ytgbcnfcgljbbgaa
