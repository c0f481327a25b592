/- Bodies: from where to where a ray is within them, by the program and by the document. -/
import Derived.Test.YtgbcnfcgljbbgaaGreatBodyA
import Derived.Test.YtgbcnfcgljbbgaaGreatSpnAllA
namespace Go.Proofs.YtgbcnfcgljbbgaaGreat
open Go.RowKit Ev Flt
set_option linter.unusedVariables false
set_option linter.unusedSimpArgs false
set_option maxRecDepth 20000
set_option maxHeartbeats 4000000

def badV (lo hi fr d : Nat) : Bool := bif feq d 0 then (flt fr lo || fgt fr hi) else false
def refC (a b c d e f p q r u v w l : Nat) : Bool := bif meetC a b c d e f p q r u v w l then true else bif badV a d p u then true else bif badV b e q v then true else bif badV c f r w then true else fgt (meetN a b c d e f p q r u v w l) (meetF a b c d e f p q r u v w)
def refB (a b c d e f p q r u v w l : Nat) : Bool := bif refC a b c d e f p q r u v w l then false else true
def refX (a b c d e f p q r u v w l : Nat) : Nat := bif refC a b c d e f p q r u v w l then 0 else meetN a b c d e f p q r u v w l
def refY (a b c d e f p q r u v w l : Nat) : Nat := bif refC a b c d e f p q r u v w l then 0 else meetF a b c d e f p q r u v w
theorem ax0_f : FnOk Tryz.prog 62 Tryz.f62 := ⟨Tryz.func62, by kernel_rfl⟩
theorem ax0_a (a b c : Nat) : ACalls Tryz.prog 62 [.agg [.flt a, .flt b, .flt c], .int .i64 0] (.flt a) := by
  refine acalls_of (inl := hasI (P := Tryz.prog) [] []) (base [] [] []) 0 ax0_f (And.intro (by kernel_rfl) ?_)
  repeat' (first | refine And.intro ?_ ?_ | (with_reducible exact ff_elim) | (with_reducible exact tf_elim) | intro _ | (with_reducible rfl) | ((with_reducible refine lk_t ?_); exact rfl) | ((with_reducible refine pf_t ?_); exact rfl) | refine tell ?_ | exact True.intro | (refine IsT.of ?_; kernel_rfl))
  all_goals ((try refine Tell.mk ?_); first | with_reducible rfl | ((show (_ : Int) ≤ _); decide) | ((show (_ : Int) < _); decide) | (with_reducible refine gb_t ?_; with_reducible assumption) | with_reducible assumption | (with_reducible refine gb_f ?_; with_reducible assumption) | (simp only [gb, *, cond_true, cond_false]; done) | ((with_reducible refine ks_t ?_); rfl) | ((with_reducible refine pk_t ?_); rfl) | ((with_reducible refine pf_t ?_); rfl) | ((with_reducible refine lk_t ?_); rfl) | ((with_reducible refine okF_t ?_); kernel_rfl) | grind [gb])
def ax0_k : Con Tryz.prog := ⟨62, fun args => match args with | [.agg [.flt a, .flt b, .flt c], .int .i64 0] => .ok (none) (.flt a) | _ => .no, by
  intro args p r h hp
  split at h
  · cases h; exact ax0_a _ _ _
  · cases h⟩
theorem ax1_f : FnOk Tryz.prog 62 Tryz.f62 := ⟨Tryz.func62, by kernel_rfl⟩
theorem ax1_a (a b c : Nat) : ACalls Tryz.prog 62 [.agg [.flt a, .flt b, .flt c], .int .i64 1] (.flt b) := by
  refine acalls_of (inl := hasI (P := Tryz.prog) [] []) (base [] [] []) 0 ax1_f (And.intro (by kernel_rfl) ?_)
  repeat' (first | refine And.intro ?_ ?_ | (with_reducible exact ff_elim) | (with_reducible exact tf_elim) | intro _ | (with_reducible rfl) | ((with_reducible refine lk_t ?_); exact rfl) | ((with_reducible refine pf_t ?_); exact rfl) | refine tell ?_ | exact True.intro | (refine IsT.of ?_; kernel_rfl))
  all_goals ((try refine Tell.mk ?_); first | with_reducible rfl | ((show (_ : Int) ≤ _); decide) | ((show (_ : Int) < _); decide) | (with_reducible refine gb_t ?_; with_reducible assumption) | with_reducible assumption | (with_reducible refine gb_f ?_; with_reducible assumption) | (simp only [gb, *, cond_true, cond_false]; done) | ((with_reducible refine ks_t ?_); rfl) | ((with_reducible refine pk_t ?_); rfl) | ((with_reducible refine pf_t ?_); rfl) | ((with_reducible refine lk_t ?_); rfl) | ((with_reducible refine okF_t ?_); kernel_rfl) | grind [gb])
def ax1_k : Con Tryz.prog := ⟨62, fun args => match args with | [.agg [.flt a, .flt b, .flt c], .int .i64 1] => .ok (none) (.flt b) | _ => .no, by
  intro args p r h hp
  split at h
  · cases h; exact ax1_a _ _ _
  · cases h⟩
theorem ax2_f : FnOk Tryz.prog 62 Tryz.f62 := ⟨Tryz.func62, by kernel_rfl⟩
theorem ax2_a (a b c : Nat) : ACalls Tryz.prog 62 [.agg [.flt a, .flt b, .flt c], .int .i64 2] (.flt c) := by
  refine acalls_of (inl := hasI (P := Tryz.prog) [] []) (base [] [] []) 0 ax2_f (And.intro (by kernel_rfl) ?_)
  repeat' (first | refine And.intro ?_ ?_ | (with_reducible exact ff_elim) | (with_reducible exact tf_elim) | intro _ | (with_reducible rfl) | ((with_reducible refine lk_t ?_); exact rfl) | ((with_reducible refine pf_t ?_); exact rfl) | refine tell ?_ | exact True.intro | (refine IsT.of ?_; kernel_rfl))
  all_goals ((try refine Tell.mk ?_); first | with_reducible rfl | ((show (_ : Int) ≤ _); decide) | ((show (_ : Int) < _); decide) | (with_reducible refine gb_t ?_; with_reducible assumption) | with_reducible assumption | (with_reducible refine gb_f ?_; with_reducible assumption) | (simp only [gb, *, cond_true, cond_false]; done) | ((with_reducible refine ks_t ?_); rfl) | ((with_reducible refine pk_t ?_); rfl) | ((with_reducible refine pf_t ?_); rfl) | ((with_reducible refine lk_t ?_); rfl) | ((with_reducible refine okF_t ?_); kernel_rfl) | grind [gb])
def ax2_k : Con Tryz.prog := ⟨62, fun args => match args with | [.agg [.flt a, .flt b, .flt c], .int .i64 2] => .ok (none) (.flt c) | _ => .no, by
  intro args p r h hp
  split at h
  · cases h; exact ax2_a _ _ _
  · cases h⟩
theorem meetsR_f : FnOk Tryz.prog 34 Tryz.f34 := ⟨Tryz.func34, by kernel_rfl⟩
theorem meetsR_a (a b c d e f p q r u v w l : Nat) : ACalls Tryz.prog 34 [.agg [.flt a, .flt b, .flt c, .flt d, .flt e, .flt f], .agg [.flt p, .flt q, .flt r, .flt u, .flt v, .flt w, .flt l]] (.tup [.flt (refX a b c d e f p q r u v w l), .flt (refY a b c d e f p q r u v w l), .bool (refB a b c d e f p q r u v w l)]) := by
  refine acalls_of (inl := hasI (P := Tryz.prog) [] []) (base [mayR_k, rayfineR_k, ax0_k, ax1_k, ax2_k, less_k, more_k] [] []) 0 meetsR_f (And.intro (by kernel_rfl) ?_)
  repeat' (first | refine And.intro ?_ ?_ | refine num_lit 0 (by decide) ?_ | refine num_lit 1 (by decide) ?_ | refine num_lit 2 (by decide) ?_ | refine num_lit 3 (by decide) ?_ | refine num_lit 4 (by decide) ?_ | refine num_lit 5 (by decide) ?_ | refine num_lit 6 (by decide) ?_ | refine num_lit 7 (by decide) ?_ | refine num_lit 8 (by decide) ?_ | refine num_elim ?_ | (with_reducible exact ff_elim) | (with_reducible exact tf_elim) | (intro h; exact absurd h (by decide)) | intro _ | (with_reducible rfl) | refine Or.inl ⟨4, ?_⟩ | refine tell ?_ | exact True.intro | (refine IsT.of ?_; kernel_rfl))
  all_goals ((try refine Tell.mk ?_); first | with_reducible rfl | ((show (_ : Int) ≤ _); decide) | ((show (_ : Int) < _); decide) | (with_reducible refine gb_t ?_; with_reducible assumption) | with_reducible assumption | (with_reducible refine gb_f ?_; with_reducible assumption) | (simp only [refX, refY, refB, refC, badV, meetC, meetN, meetF, cutN, cutF, cutA, *, cond_true, cond_false]; done) | ((with_reducible refine ks_t ?_); rfl) | ((with_reducible refine pk_t ?_); rfl) | ((with_reducible refine pf_t ?_); rfl) | ((with_reducible refine lk_t ?_); rfl) | ((with_reducible refine okF_t ?_); kernel_rfl) | grind [gb, refX, refY, refB, refC, badV, meetC, meetN, meetF, cutN, cutF, cutA])
def meetsR_k : Con Tryz.prog := ⟨34, fun args => match args with | [.agg [.flt a, .flt b, .flt c, .flt d, .flt e, .flt f], .agg [.flt p, .flt q, .flt r, .flt u, .flt v, .flt w, .flt l]] => .ok (none) (.tup [.flt (refX a b c d e f p q r u v w l), .flt (refY a b c d e f p q r u v w l), .bool (refB a b c d e f p q r u v w l)]) | _ => .no, by
  intro args p r h hp
  split at h
  · cases h; exact meetsR_a _ _ _ _ _ _ _ _ _ _ _ _ _
  · cases h⟩
theorem near_notN {x : Nat} (h : nearB x = true) : isN x = false := near_num h
theorem fine_notN {a b c : Nat} (h : fineB a b c = true) : isN a = false ∧ isN b = false ∧ isN c = false := by
  unfold fineB at h
  rw [Bool.and_eq_true, Bool.and_eq_true] at h
  exact ⟨near_notN h.1.1, near_notN h.1.2, near_notN h.2⟩
theorem may_fine {a b c d e f : Nat} (h : mayV a b c d e f = 0) : fineB a b c = true ∧ fineB d e f = true := by
  unfold mayV at h
  cases h1 : fineB a b c <;> cases h2 : fineB d e f <;> rw [h1, h2] at h <;> first | exact ⟨rfl, rfl⟩ | exact absurd (show (1 : Int) = 0 from h) (by decide)
theorem ray_fine {a b c d e f l : Nat} (h : rayV a b c d e f l = 0) : fineB a b c = true ∧ fineB d e f = true ∧ nearB l = true := by
  unfold rayV at h
  cases h1 : fineB a b c <;> cases h2 : fineB d e f <;> cases h3 : nearB l <;> rw [h1, h2, h3] at h <;> first | exact ⟨rfl, rfl, rfl⟩ | exact absurd (show (1 : Int) = 0 from h) (by decide)
theorem bad_cut {o : Bool} {lo hi fr d : Nat} (h1 : isN lo = false) (h2 : isN hi = false) (h3 : isN fr = false) : cutO o lo hi fr d = (o && !(badV lo hi fr d)) := by
  unfold cutO badV
  rw [le_not h1 h3, le_not h3 h2, fgt_flt lo fr]
  cases feq d 0 <;> cases o <;> cases flt fr lo <;> cases fgt fr hi <;> rfl
theorem ref_c (a b c d e f p q r u v w l : Nat) : refC a b c d e f p q r u v w l = (bif meetC a b c d e f p q r u v w l then true else meetD a b c d e f p q r u v w l) := by
  unfold refC
  cases h : meetC a b c d e f p q r u v w l with
  | true => rfl
  | false =>
    unfold meetC at h
    rw [Bool.or_eq_false_iff] at h
    obtain ⟨h1, h2⟩ := may_fine (a := a) (b := b) (c := c) (d := d) (e := e) (f := f) (by simpa using h.1)
    obtain ⟨h3, h4, h5⟩ := ray_fine (a := p) (b := q) (c := r) (d := u) (e := v) (f := w) (l := l) (by simpa using h.2)
    obtain ⟨a1, a2, a3⟩ := fine_notN h1
    obtain ⟨b1, b2, b3⟩ := fine_notN h2
    obtain ⟨c1, c2, c3⟩ := fine_notN h3
    unfold meetD meetO
    rw [bad_cut a1 b1 c1, bad_cut a2 b2 c2, bad_cut a3 b3 c3]
    cases badV a d p u <;> cases badV b e q v <;> cases badV c f r w <;> rfl
theorem ref_b (a b c d e f p q r u v w l : Nat) : refB a b c d e f p q r u v w l = meetB a b c d e f p q r u v w l := by
  unfold refB meetB; rw [ref_c]; cases meetC a b c d e f p q r u v w l <;> rfl
theorem ref_x (a b c d e f p q r u v w l : Nat) : refX a b c d e f p q r u v w l = meetX a b c d e f p q r u v w l := by
  unfold refX meetX; rw [ref_c]; cases meetC a b c d e f p q r u v w l <;> rfl
theorem ref_y (a b c d e f p q r u v w l : Nat) : refY a b c d e f p q r u v w l = meetY a b c d e f p q r u v w l := by
  unfold refY meetY; rw [ref_c]; cases meetC a b c d e f p q r u v w l <;> rfl
theorem meetsS_f : FnOk Tryz.prog 34 Tryz.f34 := ⟨Tryz.func34, by kernel_rfl⟩
theorem meetsS_a (a b c d e f p q r u v w l : Nat) : ACalls Tryz.prog 34 [.agg [.flt a, .flt b, .flt c, .flt d, .flt e, .flt f], .agg [.flt p, .flt q, .flt r, .flt u, .flt v, .flt w, .flt l]] (.tup [.flt (meetX a b c d e f p q r u v w l), .flt (meetY a b c d e f p q r u v w l), .bool (meetB a b c d e f p q r u v w l)]) := by
  have h := meetsR_a a b c d e f p q r u v w l
  rw [ref_x, ref_y, ref_b] at h
  exact h
def meetsS_k : Con Tryz.prog := ⟨34, fun args => match args with | [.agg [.flt a, .flt b, .flt c, .flt d, .flt e, .flt f], .agg [.flt p, .flt q, .flt r, .flt u, .flt v, .flt w, .flt l]] => .ok (none) (.tup [.flt (meetX a b c d e f p q r u v w l), .flt (meetY a b c d e f p q r u v w l), .bool (meetB a b c d e f p q r u v w l)]) | _ => .no, by
  intro args p r h hp
  split at h
  · cases h; exact meetsS_a _ _ _ _ _ _ _ _ _ _ _ _ _
  · cases h⟩
/-- No nearer than so, and no farther. -/
def btw (n x f : Nat) : Nat := lessV f (moreV n x)
theorem betweenR_f : FnOk Tryz.prog 35 Tryz.f35 := ⟨Tryz.func35, by kernel_rfl⟩
theorem betweenR_a (n x f : Nat) : ACalls Tryz.prog 35 [.flt n, .flt x, .flt f] (.flt (btw n x f)) := by
  refine acalls_of (inl := hasI (P := Tryz.prog) [] []) (base [] [] []) 0 betweenR_f (And.intro (by kernel_rfl) ?_)
  repeat' (first | refine And.intro ?_ ?_ | (with_reducible exact ff_elim) | (with_reducible exact tf_elim) | intro _ | (with_reducible rfl) | ((with_reducible refine lk_t ?_); exact rfl) | ((with_reducible refine pf_t ?_); exact rfl) | refine tell ?_ | exact True.intro | (refine IsT.of ?_; kernel_rfl))
  all_goals ((try refine Tell.mk ?_); first | with_reducible rfl | ((show (_ : Int) ≤ _); decide) | ((show (_ : Int) < _); decide) | (with_reducible refine gb_t ?_; with_reducible assumption) | with_reducible assumption | (with_reducible refine gb_f ?_; with_reducible assumption) | (simp only [btw, lessV, moreV, *, cond_true, cond_false]; done) | ((with_reducible refine ks_t ?_); rfl) | ((with_reducible refine pk_t ?_); rfl) | ((with_reducible refine pf_t ?_); rfl) | ((with_reducible refine lk_t ?_); rfl) | ((with_reducible refine okF_t ?_); kernel_rfl) | grind [gb, btw, lessV, moreV])
def betweenR_k : Con Tryz.prog := ⟨35, fun args => match args with | [.flt n, .flt x, .flt f] => .ok (none) (.flt (btw n x f)) | _ => .no, by
  intro args p r h hp
  split at h
  · cases h; exact betweenR_a _ _ _
  · cases h⟩
theorem aboutR_f : FnOk Tryz.prog 105 Tryz.f105 := ⟨Tryz.func105, by kernel_rfl⟩
theorem aboutR_a (x y z u v w r : Nat) : ACalls Tryz.prog 105 [.agg [.flt x, .flt y, .flt z], .agg [.flt u, .flt v, .flt w], .flt r] (.tup [.flt (abI x y z u v w r), .flt (abU x y z u v w r), .bool (abO x y z u v w r)]) := by
  refine acalls_of (inl := hasI (P := Tryz.prog) [] []) (base [dotR_k, times_k, sqrt_k] [] []) 0 aboutR_f (And.intro (by kernel_rfl) ?_)
  repeat' (first | refine And.intro ?_ ?_ | (with_reducible exact ff_elim) | (with_reducible exact tf_elim) | intro _ | (with_reducible rfl) | ((with_reducible refine lk_t ?_); exact rfl) | ((with_reducible refine pf_t ?_); exact rfl) | refine tell ?_ | exact True.intro | (refine IsT.of ?_; kernel_rfl))
  all_goals ((try refine Tell.mk ?_); first | with_reducible rfl | ((show (_ : Int) ≤ _); decide) | ((show (_ : Int) < _); decide) | (with_reducible refine gb_t ?_; with_reducible assumption) | with_reducible assumption | (with_reducible refine gb_f ?_; with_reducible assumption) | (simp only [abI, abU, abO, abE, *, cond_true, cond_false]; done) | ((with_reducible refine ks_t ?_); rfl) | ((with_reducible refine pk_t ?_); rfl) | ((with_reducible refine pf_t ?_); rfl) | ((with_reducible refine lk_t ?_); rfl) | ((with_reducible refine okF_t ?_); kernel_rfl) | grind [gb, abI, abU, abO, abE])
def aboutR_k : Con Tryz.prog := ⟨105, fun args => match args with | [.agg [.flt x, .flt y, .flt z], .agg [.flt u, .flt v, .flt w], .flt r] => .ok (none) (.tup [.flt (abI x y z u v w r), .flt (abU x y z u v w r), .bool (abO x y z u v w r)]) | _ => .no, by
  intro args p r h hp
  split at h
  · cases h; exact aboutR_a _ _ _ _ _ _ _
  · cases h⟩
theorem nought_f : FnOk Tryz.prog 43 Tryz.f43 := ⟨Tryz.func43, by kernel_rfl⟩
theorem nought_a (a b c : Nat) : ACalls Tryz.prog 43 [.agg [.flt a, .flt b, .flt c]] (.bool (feq a 0 && (feq b 0 && feq c 0))) := by
  refine acalls_of (inl := hasI (P := Tryz.prog) [] []) (base [] [] []) 0 nought_f (And.intro (by kernel_rfl) ?_)
  repeat' (first | refine And.intro ?_ ?_ | (with_reducible exact ff_elim) | (with_reducible exact tf_elim) | intro _ | (with_reducible rfl) | ((with_reducible refine lk_t ?_); exact rfl) | ((with_reducible refine pf_t ?_); exact rfl) | refine tell ?_ | exact True.intro | (refine IsT.of ?_; kernel_rfl))
  all_goals ((try refine Tell.mk ?_); first | with_reducible rfl | ((show (_ : Int) ≤ _); decide) | ((show (_ : Int) < _); decide) | (with_reducible refine gb_t ?_; with_reducible assumption) | with_reducible assumption | (with_reducible refine gb_f ?_; with_reducible assumption) | (simp only [gb, *, cond_true, cond_false]; done) | ((with_reducible refine ks_t ?_); rfl) | ((with_reducible refine pk_t ?_); rfl) | ((with_reducible refine pf_t ?_); rfl) | ((with_reducible refine lk_t ?_); rfl) | ((with_reducible refine okF_t ?_); kernel_rfl) | grind [gb])
def nought_k : Con Tryz.prog := ⟨43, fun args => match args with | [.agg [.flt a, .flt b, .flt c]] => .ok (none) (.bool (feq a 0 && (feq b 0 && feq c 0))) | _ => .no, by
  intro args p r h hp
  split at h
  · cases h; exact nought_a _ _ _
  · cases h⟩
theorem arnd1_f : FnOk Tryz.prog 47 Tryz.f47 := ⟨Tryz.func47, by kernel_rfl⟩
theorem arnd1_a (a b c d e f g h i r q : Nat) (s : Int) : ACalls Tryz.prog 47 [.agg [.int .i64 1, .flt a, .flt b, .flt c, .flt d, .flt e, .flt f, .flt g, .flt h, .flt i, .flt r, .flt q, .int .i64 s]] (.agg [.flt (F .sub a r), .flt (F .sub b r), .flt (F .sub c r), .flt (F .add a r), .flt (F .add b r), .flt (F .add c r)]) := by
  refine acalls_of (inl := hasI (P := Tryz.prog) [] []) (base [subR_k, addR_k, lowR_k, highR_k, axisOf_k, put_k] [] []) 0 arnd1_f (And.intro (by kernel_rfl) ?_)
  repeat' (first | refine And.intro ?_ ?_ | (with_reducible exact ff_elim) | (with_reducible exact tf_elim) | (intro h; exact absurd h (by decide)) | intro _ | (with_reducible rfl) | ((with_reducible refine lk_t ?_); exact rfl) | ((with_reducible refine pf_t ?_); exact rfl) | refine tell ?_ | exact True.intro | (refine IsT.of ?_; kernel_rfl))
  all_goals ((try refine Tell.mk ?_); first | with_reducible rfl | ((show (_ : Int) ≤ _); decide) | ((show (_ : Int) < _); decide) | (with_reducible refine gb_t ?_; with_reducible assumption) | with_reducible assumption | (with_reducible refine gb_f ?_; with_reducible assumption) | (simp only [wo, wz, *, cond_true, cond_false]; done) | ((with_reducible refine ks_t ?_); rfl) | ((with_reducible refine pk_t ?_); rfl) | ((with_reducible refine pf_t ?_); rfl) | ((with_reducible refine lk_t ?_); rfl) | ((with_reducible refine okF_t ?_); kernel_rfl) | grind [gb, wo, wz])
def arnd1_k : Con Tryz.prog := ⟨47, fun args => match args with | [.agg [.int .i64 1, .flt a, .flt b, .flt c, .flt d, .flt e, .flt f, .flt g, .flt h, .flt i, .flt r, .flt q, .int .i64 s]] => .ok (none) (.agg [.flt (F .sub a r), .flt (F .sub b r), .flt (F .sub c r), .flt (F .add a r), .flt (F .add b r), .flt (F .add c r)]) | _ => .no, by
  intro args p r h hp
  split at h
  · cases h; exact arnd1_a _ _ _ _ _ _ _ _ _ _ _ _
  · cases h⟩
theorem arnd2_f : FnOk Tryz.prog 47 Tryz.f47 := ⟨Tryz.func47, by kernel_rfl⟩
theorem arnd2_a (a b c d e f g h i r q : Nat) (s : Int) : ACalls Tryz.prog 47 [.agg [.int .i64 2, .flt a, .flt b, .flt c, .flt d, .flt e, .flt f, .flt g, .flt h, .flt i, .flt r, .flt q, .int .i64 s]] (.agg [.flt a, .flt b, .flt c, .flt d, .flt e, .flt f]) := by
  refine acalls_of (inl := hasI (P := Tryz.prog) [] []) (base [subR_k, addR_k, lowR_k, highR_k, axisOf_k, put_k] [] []) 0 arnd2_f (And.intro (by kernel_rfl) ?_)
  repeat' (first | refine And.intro ?_ ?_ | (with_reducible exact ff_elim) | (with_reducible exact tf_elim) | (intro h; exact absurd h (by decide)) | intro _ | (with_reducible rfl) | ((with_reducible refine lk_t ?_); exact rfl) | ((with_reducible refine pf_t ?_); exact rfl) | refine tell ?_ | exact True.intro | (refine IsT.of ?_; kernel_rfl))
  all_goals ((try refine Tell.mk ?_); first | with_reducible rfl | ((show (_ : Int) ≤ _); decide) | ((show (_ : Int) < _); decide) | (with_reducible refine gb_t ?_; with_reducible assumption) | with_reducible assumption | (with_reducible refine gb_f ?_; with_reducible assumption) | (simp only [wo, wz, *, cond_true, cond_false]; done) | ((with_reducible refine ks_t ?_); rfl) | ((with_reducible refine pk_t ?_); rfl) | ((with_reducible refine pf_t ?_); rfl) | ((with_reducible refine lk_t ?_); rfl) | ((with_reducible refine okF_t ?_); kernel_rfl) | grind [gb, wo, wz])
def arnd2_k : Con Tryz.prog := ⟨47, fun args => match args with | [.agg [.int .i64 2, .flt a, .flt b, .flt c, .flt d, .flt e, .flt f, .flt g, .flt h, .flt i, .flt r, .flt q, .int .i64 s]] => .ok (none) (.agg [.flt a, .flt b, .flt c, .flt d, .flt e, .flt f]) | _ => .no, by
  intro args p r h hp
  split at h
  · cases h; exact arnd2_a _ _ _ _ _ _ _ _ _ _ _ _
  · cases h⟩
theorem arnd5_f : FnOk Tryz.prog 47 Tryz.f47 := ⟨Tryz.func47, by kernel_rfl⟩
theorem arnd5_a (a b c d e f g h i r q : Nat) (s : Int) (hpre : 0 ≤ aloneV d e f) : ACalls Tryz.prog 47 [.agg [.int .i64 5, .flt a, .flt b, .flt c, .flt d, .flt e, .flt f, .flt g, .flt h, .flt i, .flt r, .flt q, .int .i64 s]] (.agg [.flt (F .sub (lessV a (F .add a d)) (wo (aloneV d e f) 0 r)), .flt (F .sub (lessV b (F .add b e)) (wo (aloneV d e f) 1 r)), .flt (F .sub (lessV c (F .add c f)) (wz (aloneV d e f) r)), .flt (F .add (moreV a (F .add a d)) (wo (aloneV d e f) 0 r)), .flt (F .add (moreV b (F .add b e)) (wo (aloneV d e f) 1 r)), .flt (F .add (moreV c (F .add c f)) (wz (aloneV d e f) r))]) := by
  refine acalls_of (inl := hasI (P := Tryz.prog) [] []) (base [subR_k, addR_k, lowR_k, highR_k, axisOf_k, put_k] [] []) 0 arnd5_f (And.intro (by kernel_rfl) ?_)
  repeat' (first | refine And.intro ?_ ?_ | (with_reducible exact ff_elim) | (with_reducible exact tf_elim) | (intro h; exact absurd h (by decide)) | intro _ | (with_reducible rfl) | ((with_reducible refine lk_t ?_); exact rfl) | ((with_reducible refine pf_t ?_); exact rfl) | refine tell ?_ | exact True.intro | (refine IsT.of ?_; kernel_rfl))
  all_goals first | exact hpre | exact alone_le _ _ _ | skip
  all_goals ((try refine Tell.mk ?_); first | with_reducible rfl | ((show (_ : Int) ≤ _); decide) | ((show (_ : Int) < _); decide) | (with_reducible refine gb_t ?_; with_reducible assumption) | with_reducible assumption | (with_reducible refine gb_f ?_; with_reducible assumption) | (simp only [wo, wz, *, cond_true, cond_false]; done) | ((with_reducible refine ks_t ?_); rfl) | ((with_reducible refine pk_t ?_); rfl) | ((with_reducible refine pf_t ?_); rfl) | ((with_reducible refine lk_t ?_); rfl) | ((with_reducible refine okF_t ?_); kernel_rfl) | grind [gb, wo, wz])
def arnd5_k : Con Tryz.prog := ⟨47, fun args => match args with | [.agg [.int .i64 5, .flt a, .flt b, .flt c, .flt d, .flt e, .flt f, .flt g, .flt h, .flt i, .flt r, .flt q, .int .i64 s]] => .ok (some (0 ≤ aloneV d e f)) (.agg [.flt (F .sub (lessV a (F .add a d)) (wo (aloneV d e f) 0 r)), .flt (F .sub (lessV b (F .add b e)) (wo (aloneV d e f) 1 r)), .flt (F .sub (lessV c (F .add c f)) (wz (aloneV d e f) r)), .flt (F .add (moreV a (F .add a d)) (wo (aloneV d e f) 0 r)), .flt (F .add (moreV b (F .add b e)) (wo (aloneV d e f) 1 r)), .flt (F .add (moreV c (F .add c f)) (wz (aloneV d e f) r))]) | _ => .no, by
  intro args p r h hp
  split at h
  · cases h; exact arnd5_a _ _ _ _ _ _ _ _ _ _ _ _ hp
  · cases h⟩
def wiO (met ok : Bool) (n i o f : Nat) : Bool := met && (ok && flt (btw n i f) (btw n o f))
def wiI (met ok : Bool) (n i o f : Nat) : Nat := bif wiO met ok n i o f then btw n i f else 0
def wiU (met ok : Bool) (n i o f : Nat) : Nat := bif wiO met ok n i o f then btw n o f else 0
def wN1 (a b c d e f r x y z u v w : Nat) : Nat := meetX (F .sub a r) (F .sub b r) (F .sub c r) (F .add a r) (F .add b r) (F .add c r) x y z u v w 0
def wF1 (a b c d e f r x y z u v w : Nat) : Nat := meetY (F .sub a r) (F .sub b r) (F .sub c r) (F .add a r) (F .add b r) (F .add c r) x y z u v w 0
def wB1 (a b c d e f r x y z u v w : Nat) : Bool := meetB (F .sub a r) (F .sub b r) (F .sub c r) (F .add a r) (F .add b r) (F .add c r) x y z u v w 0
def wO1 (a b c d e f r x y z u v w : Nat) : Bool := wiO (wB1 a b c d e f r x y z u v w) (abO (F .sub x a) (F .sub y b) (F .sub z c) u v w r) (wN1 a b c d e f r x y z u v w) (abI (F .sub x a) (F .sub y b) (F .sub z c) u v w r) (abU (F .sub x a) (F .sub y b) (F .sub z c) u v w r) (wF1 a b c d e f r x y z u v w)
def wI1 (a b c d e f r x y z u v w : Nat) : Nat := wiI (wB1 a b c d e f r x y z u v w) (abO (F .sub x a) (F .sub y b) (F .sub z c) u v w r) (wN1 a b c d e f r x y z u v w) (abI (F .sub x a) (F .sub y b) (F .sub z c) u v w r) (abU (F .sub x a) (F .sub y b) (F .sub z c) u v w r) (wF1 a b c d e f r x y z u v w)
def wU1 (a b c d e f r x y z u v w : Nat) : Nat := wiU (wB1 a b c d e f r x y z u v w) (abO (F .sub x a) (F .sub y b) (F .sub z c) u v w r) (wN1 a b c d e f r x y z u v w) (abI (F .sub x a) (F .sub y b) (F .sub z c) u v w r) (abU (F .sub x a) (F .sub y b) (F .sub z c) u v w r) (wF1 a b c d e f r x y z u v w)
theorem within1_f : FnOk Tryz.prog 92 Tryz.f92 := ⟨Tryz.func92, by kernel_rfl⟩
theorem within1_a (a b c d e f g h i r q : Nat) (s : Int) (x y z u v w l : Nat) (hpre : shapeE 1 a b c d e f g h i r q s = 0 ∧ rayV x y z u v w l = 0) : ACalls Tryz.prog 92 [.agg [.int .i64 1, .flt a, .flt b, .flt c, .flt d, .flt e, .flt f, .flt g, .flt h, .flt i, .flt r, .flt q, .int .i64 s], .agg [.flt x, .flt y, .flt z, .flt u, .flt v, .flt w, .flt l]] (.tup [.flt (wI1 a b c d e f r x y z u v w), .flt (wU1 a b c d e f r x y z u v w), .bool (wO1 a b c d e f r x y z u v w), .int .i64 0]) := by
  refine acalls_of (inl := hasI (P := Tryz.prog) [] []) (base [shapeMay_k, rayfine_k, solid1_k, meets_k, greater_k, lesser_k, ballB_k, ballW_k] [] []) 0 within1_f (And.intro (by kernel_rfl) ?_)
  repeat' (first | refine And.intro ?_ ?_ | (with_reducible exact ff_elim) | (with_reducible exact tf_elim) | (intro h; exact absurd h (by decide)) | (intro h; exact absurd hpre.1 (bne_iff_ne.1 h)) | (intro h; exact absurd hpre.2 (bne_iff_ne.1 h)) | intro _ | (with_reducible rfl) | ((with_reducible refine lk_t ?_); exact rfl) | ((with_reducible refine pf_t ?_); exact rfl) | refine tell ?_ | exact True.intro | (refine IsT.of ?_; kernel_rfl))
  all_goals first | exact h0 | exact alone_le _ _ _ | exact hpre.1 | skip
  all_goals ((try refine Tell.mk ?_); first | with_reducible rfl | ((show (_ : Int) ≤ _); decide) | ((show (_ : Int) < _); decide) | (with_reducible refine gb_t ?_; with_reducible assumption) | with_reducible assumption | (with_reducible refine gb_f ?_; with_reducible assumption) | (simp only [wI1, wU1, wO1, wiI, wiU, wiO, wN1, wF1, wB1, btw, *, cond_true, cond_false]; done) | ((with_reducible refine ks_t ?_); rfl) | ((with_reducible refine pk_t ?_); rfl) | ((with_reducible refine pf_t ?_); rfl) | ((with_reducible refine lk_t ?_); rfl) | ((with_reducible refine okF_t ?_); kernel_rfl) | grind [gb, wI1, wU1, wO1, wiI, wiU, wiO, wN1, wF1, wB1, btw])
def within1_k : Con Tryz.prog := ⟨92, fun args => match args with | [.agg [.int .i64 1, .flt a, .flt b, .flt c, .flt d, .flt e, .flt f, .flt g, .flt h, .flt i, .flt r, .flt q, .int .i64 s], .agg [.flt x, .flt y, .flt z, .flt u, .flt v, .flt w, .flt l]] => .ok (some (shapeE 1 a b c d e f g h i r q s = 0 ∧ rayV x y z u v w l = 0)) (.tup [.flt (wI1 a b c d e f r x y z u v w), .flt (wU1 a b c d e f r x y z u v w), .bool (wO1 a b c d e f r x y z u v w), .int .i64 0]) | _ => .no, by
  intro args p r h hp
  split at h
  · cases h; exact within1_a _ _ _ _ _ _ _ _ _ _ _ _ _ _ _ _ _ _ _ hp
  · cases h⟩
theorem withinR1_f : FnOk Tryz.prog 65 Tryz.f65 := ⟨Tryz.func65, by kernel_rfl⟩
theorem withinR1_a (a b c d e f g h i r q : Nat) (s : Int) (x y z u v w l : Nat) (hpre : shapeE 1 a b c d e f g h i r q s = 0 ∧ rayV x y z u v w l = 0) : ACalls Tryz.prog 65 [.agg [.int .i64 1, .flt a, .flt b, .flt c, .flt d, .flt e, .flt f, .flt g, .flt h, .flt i, .flt r, .flt q, .int .i64 s], .agg [.flt x, .flt y, .flt z, .flt u, .flt v, .flt w, .flt l]] (.tup [.flt (wI1 a b c d e f r x y z u v w), .flt (wU1 a b c d e f r x y z u v w), .bool (wO1 a b c d e f r x y z u v w), .int .i64 0]) := by
  refine acalls_of (inl := hasI (P := Tryz.prog) [⟨95, Tryz.f95, Tryz.func95, by kernel_rfl⟩] []) (base [shapeMayR_k, rayfineR_k, meetsS_k, betweenR_k, aboutR_k, subR_k, addR_k, lowR_k, highR_k, axisOf_k, put_k, nought_k, dotR_k, times_k, arnd1_k, arnd2_k, arnd5_k] [⟨95, Tryz.f95, Tryz.func95, by kernel_rfl⟩] []) 4 withinR1_f (And.intro (by kernel_rfl) ?_)
  repeat' (first | refine And.intro ?_ ?_ | (with_reducible exact ff_elim) | (with_reducible exact tf_elim) | (intro h; exact absurd h (by decide)) | (intro h; exact absurd hpre.1 (bne_iff_ne.1 h)) | (intro h; exact absurd hpre.2 (bne_iff_ne.1 h)) | intro _ | (with_reducible rfl) | ((with_reducible refine lk_t ?_); exact rfl) | ((with_reducible refine pf_t ?_); exact rfl) | refine tell ?_ | exact True.intro | (refine IsT.of ?_; kernel_rfl))
  all_goals first | exact h0 | exact alone_le _ _ _ | exact hpre.1 | skip
  all_goals ((try refine Tell.mk ?_); first | with_reducible rfl | ((show (_ : Int) ≤ _); decide) | ((show (_ : Int) < _); decide) | (with_reducible refine gb_t ?_; with_reducible assumption) | with_reducible assumption | (with_reducible refine gb_f ?_; with_reducible assumption) | (simp only [wI1, wU1, wO1, wiI, wiU, wiO, wN1, wF1, wB1, btw, *, cond_true, cond_false]; done) | ((with_reducible refine ks_t ?_); rfl) | ((with_reducible refine pk_t ?_); rfl) | ((with_reducible refine pf_t ?_); rfl) | ((with_reducible refine lk_t ?_); rfl) | ((with_reducible refine okF_t ?_); kernel_rfl) | grind [gb, wI1, wU1, wO1, wiI, wiU, wiO, wN1, wF1, wB1, btw])
def withinR1_k : Con Tryz.prog := ⟨65, fun args => match args with | [.agg [.int .i64 1, .flt a, .flt b, .flt c, .flt d, .flt e, .flt f, .flt g, .flt h, .flt i, .flt r, .flt q, .int .i64 s], .agg [.flt x, .flt y, .flt z, .flt u, .flt v, .flt w, .flt l]] => .ok (some (shapeE 1 a b c d e f g h i r q s = 0 ∧ rayV x y z u v w l = 0)) (.tup [.flt (wI1 a b c d e f r x y z u v w), .flt (wU1 a b c d e f r x y z u v w), .bool (wO1 a b c d e f r x y z u v w), .int .i64 0]) | _ => .no, by
  intro args p r h hp
  split at h
  · cases h; exact withinR1_a _ _ _ _ _ _ _ _ _ _ _ _ _ _ _ _ _ _ _ hp
  · cases h⟩
def wN2 (a b c d e f r x y z u v w : Nat) : Nat := meetX a b c d e f x y z u v w 0
def wF2 (a b c d e f r x y z u v w : Nat) : Nat := meetY a b c d e f x y z u v w 0
def wB2 (a b c d e f r x y z u v w : Nat) : Bool := meetB a b c d e f x y z u v w 0
def wO2 (a b c d e f r x y z u v w : Nat) : Bool := wiO (wB2 a b c d e f r x y z u v w) true (wN2 a b c d e f r x y z u v w) (wN2 a b c d e f r x y z u v w) (wF2 a b c d e f r x y z u v w) (wF2 a b c d e f r x y z u v w)
def wI2 (a b c d e f r x y z u v w : Nat) : Nat := wiI (wB2 a b c d e f r x y z u v w) true (wN2 a b c d e f r x y z u v w) (wN2 a b c d e f r x y z u v w) (wF2 a b c d e f r x y z u v w) (wF2 a b c d e f r x y z u v w)
def wU2 (a b c d e f r x y z u v w : Nat) : Nat := wiU (wB2 a b c d e f r x y z u v w) true (wN2 a b c d e f r x y z u v w) (wN2 a b c d e f r x y z u v w) (wF2 a b c d e f r x y z u v w) (wF2 a b c d e f r x y z u v w)
theorem within2_f : FnOk Tryz.prog 92 Tryz.f92 := ⟨Tryz.func92, by kernel_rfl⟩
theorem within2_a (a b c d e f g h i r q : Nat) (s : Int) (x y z u v w l : Nat) (hpre : shapeE 2 a b c d e f g h i r q s = 0 ∧ rayV x y z u v w l = 0) : ACalls Tryz.prog 92 [.agg [.int .i64 2, .flt a, .flt b, .flt c, .flt d, .flt e, .flt f, .flt g, .flt h, .flt i, .flt r, .flt q, .int .i64 s], .agg [.flt x, .flt y, .flt z, .flt u, .flt v, .flt w, .flt l]] (.tup [.flt (wI2 a b c d e f r x y z u v w), .flt (wU2 a b c d e f r x y z u v w), .bool (wO2 a b c d e f r x y z u v w), .int .i64 0]) := by
  refine acalls_of (inl := hasI (P := Tryz.prog) [] []) (base [shapeMay_k, rayfine_k, solid2_k, meets_k, greater_k, lesser_k, blockB_k, blockW_k] [] []) 0 within2_f (And.intro (by kernel_rfl) ?_)
  repeat' (first | refine And.intro ?_ ?_ | (with_reducible exact ff_elim) | (with_reducible exact tf_elim) | (intro h; exact absurd h (by decide)) | (intro h; exact absurd hpre.1 (bne_iff_ne.1 h)) | (intro h; exact absurd hpre.2 (bne_iff_ne.1 h)) | intro _ | (with_reducible rfl) | ((with_reducible refine lk_t ?_); exact rfl) | ((with_reducible refine pf_t ?_); exact rfl) | refine tell ?_ | exact True.intro | (refine IsT.of ?_; kernel_rfl))
  all_goals first | exact h0 | exact alone_le _ _ _ | exact hpre.1 | skip
  all_goals ((try refine Tell.mk ?_); first | with_reducible rfl | ((show (_ : Int) ≤ _); decide) | ((show (_ : Int) < _); decide) | (with_reducible refine gb_t ?_; with_reducible assumption) | with_reducible assumption | (with_reducible refine gb_f ?_; with_reducible assumption) | (simp only [wI2, wU2, wO2, wiI, wiU, wiO, wN2, wF2, wB2, btw, *, cond_true, cond_false]; done) | ((with_reducible refine ks_t ?_); rfl) | ((with_reducible refine pk_t ?_); rfl) | ((with_reducible refine pf_t ?_); rfl) | ((with_reducible refine lk_t ?_); rfl) | ((with_reducible refine okF_t ?_); kernel_rfl) | grind [gb, wI2, wU2, wO2, wiI, wiU, wiO, wN2, wF2, wB2, btw])
def within2_k : Con Tryz.prog := ⟨92, fun args => match args with | [.agg [.int .i64 2, .flt a, .flt b, .flt c, .flt d, .flt e, .flt f, .flt g, .flt h, .flt i, .flt r, .flt q, .int .i64 s], .agg [.flt x, .flt y, .flt z, .flt u, .flt v, .flt w, .flt l]] => .ok (some (shapeE 2 a b c d e f g h i r q s = 0 ∧ rayV x y z u v w l = 0)) (.tup [.flt (wI2 a b c d e f r x y z u v w), .flt (wU2 a b c d e f r x y z u v w), .bool (wO2 a b c d e f r x y z u v w), .int .i64 0]) | _ => .no, by
  intro args p r h hp
  split at h
  · cases h; exact within2_a _ _ _ _ _ _ _ _ _ _ _ _ _ _ _ _ _ _ _ hp
  · cases h⟩
theorem withinR2_f : FnOk Tryz.prog 65 Tryz.f65 := ⟨Tryz.func65, by kernel_rfl⟩
theorem withinR2_a (a b c d e f g h i r q : Nat) (s : Int) (x y z u v w l : Nat) (hpre : shapeE 2 a b c d e f g h i r q s = 0 ∧ rayV x y z u v w l = 0) : ACalls Tryz.prog 65 [.agg [.int .i64 2, .flt a, .flt b, .flt c, .flt d, .flt e, .flt f, .flt g, .flt h, .flt i, .flt r, .flt q, .int .i64 s], .agg [.flt x, .flt y, .flt z, .flt u, .flt v, .flt w, .flt l]] (.tup [.flt (wI2 a b c d e f r x y z u v w), .flt (wU2 a b c d e f r x y z u v w), .bool (wO2 a b c d e f r x y z u v w), .int .i64 0]) := by
  refine acalls_of (inl := hasI (P := Tryz.prog) [⟨95, Tryz.f95, Tryz.func95, by kernel_rfl⟩] []) (base [shapeMayR_k, rayfineR_k, meetsS_k, betweenR_k, aboutR_k, subR_k, addR_k, lowR_k, highR_k, axisOf_k, put_k, nought_k, dotR_k, times_k, arnd1_k, arnd2_k, arnd5_k] [⟨95, Tryz.f95, Tryz.func95, by kernel_rfl⟩] []) 4 withinR2_f (And.intro (by kernel_rfl) ?_)
  repeat' (first | refine And.intro ?_ ?_ | (with_reducible exact ff_elim) | (with_reducible exact tf_elim) | (intro h; exact absurd h (by decide)) | (intro h; exact absurd hpre.1 (bne_iff_ne.1 h)) | (intro h; exact absurd hpre.2 (bne_iff_ne.1 h)) | intro _ | (with_reducible rfl) | ((with_reducible refine lk_t ?_); exact rfl) | ((with_reducible refine pf_t ?_); exact rfl) | refine tell ?_ | exact True.intro | (refine IsT.of ?_; kernel_rfl))
  all_goals first | exact h0 | exact alone_le _ _ _ | exact hpre.1 | skip
  all_goals ((try refine Tell.mk ?_); first | with_reducible rfl | ((show (_ : Int) ≤ _); decide) | ((show (_ : Int) < _); decide) | (with_reducible refine gb_t ?_; with_reducible assumption) | with_reducible assumption | (with_reducible refine gb_f ?_; with_reducible assumption) | (simp only [wI2, wU2, wO2, wiI, wiU, wiO, wN2, wF2, wB2, btw, *, cond_true, cond_false]; done) | ((with_reducible refine ks_t ?_); rfl) | ((with_reducible refine pk_t ?_); rfl) | ((with_reducible refine pf_t ?_); rfl) | ((with_reducible refine lk_t ?_); rfl) | ((with_reducible refine okF_t ?_); kernel_rfl) | grind [gb, wI2, wU2, wO2, wiI, wiU, wiO, wN2, wF2, wB2, btw])
def withinR2_k : Con Tryz.prog := ⟨65, fun args => match args with | [.agg [.int .i64 2, .flt a, .flt b, .flt c, .flt d, .flt e, .flt f, .flt g, .flt h, .flt i, .flt r, .flt q, .int .i64 s], .agg [.flt x, .flt y, .flt z, .flt u, .flt v, .flt w, .flt l]] => .ok (some (shapeE 2 a b c d e f g h i r q s = 0 ∧ rayV x y z u v w l = 0)) (.tup [.flt (wI2 a b c d e f r x y z u v w), .flt (wU2 a b c d e f r x y z u v w), .bool (wO2 a b c d e f r x y z u v w), .int .i64 0]) | _ => .no, by
  intro args p r h hp
  split at h
  · cases h; exact withinR2_a _ _ _ _ _ _ _ _ _ _ _ _ _ _ _ _ _ _ _ hp
  · cases h⟩
def wN5 (a b c d e f r x y z u v w : Nat) : Nat := meetX (F .sub (lessV a (F .add a d)) (wo (aloneV d e f) 0 r)) (F .sub (lessV b (F .add b e)) (wo (aloneV d e f) 1 r)) (F .sub (lessV c (F .add c f)) (wz (aloneV d e f) r)) (F .add (moreV a (F .add a d)) (wo (aloneV d e f) 0 r)) (F .add (moreV b (F .add b e)) (wo (aloneV d e f) 1 r)) (F .add (moreV c (F .add c f)) (wz (aloneV d e f) r)) x y z u v w 0
def wF5 (a b c d e f r x y z u v w : Nat) : Nat := meetY (F .sub (lessV a (F .add a d)) (wo (aloneV d e f) 0 r)) (F .sub (lessV b (F .add b e)) (wo (aloneV d e f) 1 r)) (F .sub (lessV c (F .add c f)) (wz (aloneV d e f) r)) (F .add (moreV a (F .add a d)) (wo (aloneV d e f) 0 r)) (F .add (moreV b (F .add b e)) (wo (aloneV d e f) 1 r)) (F .add (moreV c (F .add c f)) (wz (aloneV d e f) r)) x y z u v w 0
def wB5 (a b c d e f r x y z u v w : Nat) : Bool := meetB (F .sub (lessV a (F .add a d)) (wo (aloneV d e f) 0 r)) (F .sub (lessV b (F .add b e)) (wo (aloneV d e f) 1 r)) (F .sub (lessV c (F .add c f)) (wz (aloneV d e f) r)) (F .add (moreV a (F .add a d)) (wo (aloneV d e f) 0 r)) (F .add (moreV b (F .add b e)) (wo (aloneV d e f) 1 r)) (F .add (moreV c (F .add c f)) (wz (aloneV d e f) r)) x y z u v w 0
def wO5 (a b c d e f r x y z u v w : Nat) : Bool := wiO (wB5 a b c d e f r x y z u v w) (tuO a b c d e f r x y z u v w (wN5 a b c d e f r x y z u v w) (wF5 a b c d e f r x y z u v w)) (wN5 a b c d e f r x y z u v w) (tuI a b c d e f r x y z u v w (wN5 a b c d e f r x y z u v w)) (tuU a b c d e f r x y z u v w (wF5 a b c d e f r x y z u v w)) (wF5 a b c d e f r x y z u v w)
def wI5 (a b c d e f r x y z u v w : Nat) : Nat := wiI (wB5 a b c d e f r x y z u v w) (tuO a b c d e f r x y z u v w (wN5 a b c d e f r x y z u v w) (wF5 a b c d e f r x y z u v w)) (wN5 a b c d e f r x y z u v w) (tuI a b c d e f r x y z u v w (wN5 a b c d e f r x y z u v w)) (tuU a b c d e f r x y z u v w (wF5 a b c d e f r x y z u v w)) (wF5 a b c d e f r x y z u v w)
def wU5 (a b c d e f r x y z u v w : Nat) : Nat := wiU (wB5 a b c d e f r x y z u v w) (tuO a b c d e f r x y z u v w (wN5 a b c d e f r x y z u v w) (wF5 a b c d e f r x y z u v w)) (wN5 a b c d e f r x y z u v w) (tuI a b c d e f r x y z u v w (wN5 a b c d e f r x y z u v w)) (tuU a b c d e f r x y z u v w (wF5 a b c d e f r x y z u v w)) (wF5 a b c d e f r x y z u v w)
theorem tube_al {a b c d e f g h i r q : Nat} {s : Int} (hh : shapeE 5 a b c d e f g h i r q s = 0) : 0 ≤ aloneV d e f := by
  have := sh_5 hh
  unfold tubeE at this
  cases h1 : (fgt r 0 && decide (0 ≤ aloneV d e f)) with
  | true => rw [Bool.and_eq_true] at h1; exact of_decide_eq_true h1.2
  | false => rw [h1] at this; cases this
theorem within5_f : FnOk Tryz.prog 92 Tryz.f92 := ⟨Tryz.func92, by kernel_rfl⟩
theorem within5_a (a b c d e f g h i r q : Nat) (s : Int) (x y z u v w l : Nat) (hpre : shapeE 5 a b c d e f g h i r q s = 0 ∧ rayV x y z u v w l = 0) : ACalls Tryz.prog 92 [.agg [.int .i64 5, .flt a, .flt b, .flt c, .flt d, .flt e, .flt f, .flt g, .flt h, .flt i, .flt r, .flt q, .int .i64 s], .agg [.flt x, .flt y, .flt z, .flt u, .flt v, .flt w, .flt l]] (.tup [.flt (wI5 a b c d e f r x y z u v w), .flt (wU5 a b c d e f r x y z u v w), .bool (wO5 a b c d e f r x y z u v w), .int .i64 0]) := by
  refine acalls_of (inl := hasI (P := Tryz.prog) [] []) (base [shapeMay_k, rayfine_k, solid5_k, meets_k, greater_k, lesser_k, tubeB_k, tubeW_k] [] []) 0 within5_f (And.intro (by kernel_rfl) ?_)
  repeat' (first | refine And.intro ?_ ?_ | (with_reducible exact ff_elim) | (with_reducible exact tf_elim) | (intro h; exact absurd h (by decide)) | (intro h; exact absurd hpre.1 (bne_iff_ne.1 h)) | (intro h; exact absurd hpre.2 (bne_iff_ne.1 h)) | intro _ | (with_reducible rfl) | ((with_reducible refine lk_t ?_); exact rfl) | ((with_reducible refine pf_t ?_); exact rfl) | refine tell ?_ | exact True.intro | (refine IsT.of ?_; kernel_rfl))
  all_goals (have h0 : 0 ≤ aloneV d e f := tube_al hpre.1)
  all_goals first | exact h0 | exact alone_le _ _ _ | exact hpre.1 | skip
  all_goals ((try refine Tell.mk ?_); first | with_reducible rfl | ((show (_ : Int) ≤ _); decide) | ((show (_ : Int) < _); decide) | (with_reducible refine gb_t ?_; with_reducible assumption) | with_reducible assumption | (with_reducible refine gb_f ?_; with_reducible assumption) | (simp only [wI5, wU5, wO5, wiI, wiU, wiO, wN5, wF5, wB5, btw, *, cond_true, cond_false]; done) | ((with_reducible refine ks_t ?_); rfl) | ((with_reducible refine pk_t ?_); rfl) | ((with_reducible refine pf_t ?_); rfl) | ((with_reducible refine lk_t ?_); rfl) | ((with_reducible refine okF_t ?_); kernel_rfl) | grind [gb, wI5, wU5, wO5, wiI, wiU, wiO, wN5, wF5, wB5, btw])
def within5_k : Con Tryz.prog := ⟨92, fun args => match args with | [.agg [.int .i64 5, .flt a, .flt b, .flt c, .flt d, .flt e, .flt f, .flt g, .flt h, .flt i, .flt r, .flt q, .int .i64 s], .agg [.flt x, .flt y, .flt z, .flt u, .flt v, .flt w, .flt l]] => .ok (some (shapeE 5 a b c d e f g h i r q s = 0 ∧ rayV x y z u v w l = 0)) (.tup [.flt (wI5 a b c d e f r x y z u v w), .flt (wU5 a b c d e f r x y z u v w), .bool (wO5 a b c d e f r x y z u v w), .int .i64 0]) | _ => .no, by
  intro args p r h hp
  split at h
  · cases h; exact within5_a _ _ _ _ _ _ _ _ _ _ _ _ _ _ _ _ _ _ _ hp
  · cases h⟩
theorem withinR5_f : FnOk Tryz.prog 65 Tryz.f65 := ⟨Tryz.func65, by kernel_rfl⟩
theorem withinR5_a (a b c d e f g h i r q : Nat) (s : Int) (x y z u v w l : Nat) (hpre : shapeE 5 a b c d e f g h i r q s = 0 ∧ rayV x y z u v w l = 0) : ACalls Tryz.prog 65 [.agg [.int .i64 5, .flt a, .flt b, .flt c, .flt d, .flt e, .flt f, .flt g, .flt h, .flt i, .flt r, .flt q, .int .i64 s], .agg [.flt x, .flt y, .flt z, .flt u, .flt v, .flt w, .flt l]] (.tup [.flt (wI5 a b c d e f r x y z u v w), .flt (wU5 a b c d e f r x y z u v w), .bool (wO5 a b c d e f r x y z u v w), .int .i64 0]) := by
  refine acalls_of (inl := hasI (P := Tryz.prog) [⟨95, Tryz.f95, Tryz.func95, by kernel_rfl⟩] []) (base [shapeMayR_k, rayfineR_k, meetsS_k, betweenR_k, aboutR_k, subR_k, addR_k, lowR_k, highR_k, axisOf_k, put_k, nought_k, dotR_k, times_k, arnd1_k, arnd2_k, arnd5_k] [⟨95, Tryz.f95, Tryz.func95, by kernel_rfl⟩] []) 4 withinR5_f (And.intro (by kernel_rfl) ?_)
  repeat' (first | refine And.intro ?_ ?_ | (with_reducible exact ff_elim) | (with_reducible exact tf_elim) | (intro h; exact absurd h (by decide)) | (intro h; exact absurd hpre.1 (bne_iff_ne.1 h)) | (intro h; exact absurd hpre.2 (bne_iff_ne.1 h)) | intro _ | (with_reducible rfl) | ((with_reducible refine lk_t ?_); exact rfl) | ((with_reducible refine pf_t ?_); exact rfl) | refine tell ?_ | exact True.intro | (refine IsT.of ?_; kernel_rfl))
  all_goals (have h0 : 0 ≤ aloneV d e f := tube_al hpre.1)
  all_goals first | exact h0 | exact alone_le _ _ _ | exact hpre.1 | skip
  all_goals (try refine Tell.mk ?_)
  all_goals first | with_reducible rfl | with_reducible assumption | (with_reducible refine gb_t ?_; with_reducible assumption) | (with_reducible refine gb_f ?_; with_reducible assumption) | skip
  all_goals (try simp only [show ∀ (k j : Int) (x : Nat), (bif k == j then 0 else x) = wo k j x from fun _ _ _ => rfl, show ∀ (k : Int) (x : Nat), (bif k == 0 || k == 1 then x else 0) = wz k x from fun _ _ => rfl] at *)
  all_goals (try simp only [show meetB (F .sub (lessV a (F .add a d)) (wo (aloneV d e f) 0 r)) (F .sub (lessV b (F .add b e)) (wo (aloneV d e f) 1 r)) (F .sub (lessV c (F .add c f)) (wz (aloneV d e f) r)) (F .add (moreV a (F .add a d)) (wo (aloneV d e f) 0 r)) (F .add (moreV b (F .add b e)) (wo (aloneV d e f) 1 r)) (F .add (moreV c (F .add c f)) (wz (aloneV d e f) r)) x y z u v w 0 = wB5 a b c d e f r x y z u v w from rfl, show meetX (F .sub (lessV a (F .add a d)) (wo (aloneV d e f) 0 r)) (F .sub (lessV b (F .add b e)) (wo (aloneV d e f) 1 r)) (F .sub (lessV c (F .add c f)) (wz (aloneV d e f) r)) (F .add (moreV a (F .add a d)) (wo (aloneV d e f) 0 r)) (F .add (moreV b (F .add b e)) (wo (aloneV d e f) 1 r)) (F .add (moreV c (F .add c f)) (wz (aloneV d e f) r)) x y z u v w 0 = wN5 a b c d e f r x y z u v w from rfl, show meetY (F .sub (lessV a (F .add a d)) (wo (aloneV d e f) 0 r)) (F .sub (lessV b (F .add b e)) (wo (aloneV d e f) 1 r)) (F .sub (lessV c (F .add c f)) (wz (aloneV d e f) r)) (F .add (moreV a (F .add a d)) (wo (aloneV d e f) 0 r)) (F .add (moreV b (F .add b e)) (wo (aloneV d e f) 1 r)) (F .add (moreV c (F .add c f)) (wz (aloneV d e f) r)) x y z u v w 0 = wF5 a b c d e f r x y z u v w from rfl] at *)
  all_goals (try simp only [show (feq (wo (aloneV d e f) 0 u) 0 && (feq (wo (aloneV d e f) 1 v) 0 && feq (wz (aloneV d e f) w) 0)) = tuZ d e f u v w from rfl] at *)
  all_goals (try simp only [show ∀ (n x : Nat), (bif fgt x n then x else n) = moreV n x from fun _ _ => rfl, show ∀ (n x : Nat), (bif flt x n then x else n) = lessV n x from fun _ _ => rfl] at *)
  all_goals (clear hpre h0)
  all_goals (generalize hB : wB5 a b c d e f r x y z u v w = B at *; generalize hN : wN5 a b c d e f r x y z u v w = N at *; generalize hF : wF5 a b c d e f r x y z u v w = G at *)
  all_goals first | ((with_reducible refine okF_t ?_); kernel_rfl) | (simp only [wI5, wU5, wO5, wiI, wiU, wiO, hN, hF, hB, tuI, tuU, tuO, moreV, lessV]; grind)
def withinR5_k : Con Tryz.prog := ⟨65, fun args => match args with | [.agg [.int .i64 5, .flt a, .flt b, .flt c, .flt d, .flt e, .flt f, .flt g, .flt h, .flt i, .flt r, .flt q, .int .i64 s], .agg [.flt x, .flt y, .flt z, .flt u, .flt v, .flt w, .flt l]] => .ok (some (shapeE 5 a b c d e f g h i r q s = 0 ∧ rayV x y z u v w l = 0)) (.tup [.flt (wI5 a b c d e f r x y z u v w), .flt (wU5 a b c d e f r x y z u v w), .bool (wO5 a b c d e f r x y z u v w), .int .i64 0]) | _ => .no, by
  intro args p r h hp
  split at h
  · cases h; exact withinR5_a _ _ _ _ _ _ _ _ _ _ _ _ _ _ _ _ _ _ _ hp
  · cases h⟩
end Go.Proofs.YtgbcnfcgljbbgaaGreat
/- Solids: their spans, part by part. -/
namespace Go.Proofs.YtgbcnfcgljbbgaaGreat
open Go.RowKit Ev Flt
set_option linter.unusedVariables false
set_option linter.unusedSimpArgs false
set_option maxRecDepth 20000
set_option maxHeartbeats 4000000

/-- A ray's numbers. -/
structure Ray where
  x : Nat
  y : Nat
  z : Nat
  u : Nat
  v : Nat
  w : Nat
  l : Nat
def Ray.e (r : Ray) : Int := rayV r.x r.y r.z r.u r.v r.w r.l
def pwI (p : Shp) (r : Ray) : Nat := if p.k = 1 then wI1 p.a p.b p.c p.d p.e p.f p.r r.x r.y r.z r.u r.v r.w else if p.k = 2 then wI2 p.a p.b p.c p.d p.e p.f p.r r.x r.y r.z r.u r.v r.w else wI5 p.a p.b p.c p.d p.e p.f p.r r.x r.y r.z r.u r.v r.w
def pwU (p : Shp) (r : Ray) : Nat := if p.k = 1 then wU1 p.a p.b p.c p.d p.e p.f p.r r.x r.y r.z r.u r.v r.w else if p.k = 2 then wU2 p.a p.b p.c p.d p.e p.f p.r r.x r.y r.z r.u r.v r.w else wU5 p.a p.b p.c p.d p.e p.f p.r r.x r.y r.z r.u r.v r.w
def pwO (p : Shp) (r : Ray) : Bool := if p.k = 1 then wO1 p.a p.b p.c p.d p.e p.f p.r r.x r.y r.z r.u r.v r.w else if p.k = 2 then wO2 p.a p.b p.c p.d p.e p.f p.r r.x r.y r.z r.u r.v r.w else wO5 p.a p.b p.c p.d p.e p.f p.r r.x r.y r.z r.u r.v r.w
/-- A body's numbers are in order. -/
def Shp.body (p : Shp) (r : Ray) : Prop := (p.k = 1 ∨ p.k = 2 ∨ p.k = 5) ∧ p.err = 0 ∧ r.e = 0
def shpA (p : Shp) : AV := .agg [.int .i64 p.k, .flt p.a, .flt p.b, .flt p.c, .flt p.d, .flt p.e, .flt p.f, .flt p.g, .flt p.h, .flt p.i, .flt p.r, .flt p.q, .int .i64 p.s]
def rayA (r : Ray) : AV := .agg [.flt r.x, .flt r.y, .flt r.z, .flt r.u, .flt r.v, .flt r.w, .flt r.l]
def wRes (p : Shp) (r : Ray) : AV := .tup [.flt (pwI p r), .flt (pwU p r), .bool (pwO p r), .int .i64 0]
theorem within_p (p : Shp) (r : Ray) (h : p.body r) : ACalls Tryz.prog 92 [shpA p, rayA r] (wRes p r) := by
  obtain ⟨hk, he, hr⟩ := h
  obtain ⟨k, a, b, c, d, e, f, g, hh, i, rr, q, s⟩ := p
  obtain ⟨x, y, z, u, v, w, l⟩ := r
  unfold Shp.err at he
  unfold Ray.e at hr
  unfold shpA rayA wRes pwI pwU pwO
  dsimp only at *
  rcases hk with rfl | rfl | rfl
  · exact within1_a a b c d e f g hh i rr q s x y z u v w l ⟨he, hr⟩
  · exact within2_a a b c d e f g hh i rr q s x y z u v w l ⟨he, hr⟩
  · exact within5_a a b c d e f g hh i rr q s x y z u v w l ⟨he, hr⟩
theorem withinR_p (p : Shp) (r : Ray) (h : p.body r) : ACalls Tryz.prog 65 [shpA p, rayA r] (wRes p r) := by
  obtain ⟨hk, he, hr⟩ := h
  obtain ⟨k, a, b, c, d, e, f, g, hh, i, rr, q, s⟩ := p
  obtain ⟨x, y, z, u, v, w, l⟩ := r
  unfold Shp.err at he
  unfold Ray.e at hr
  unfold shpA rayA wRes pwI pwU pwO
  dsimp only at *
  rcases hk with rfl | rfl | rfl
  · exact withinR1_a a b c d e f g hh i rr q s x y z u v w l ⟨he, hr⟩
  · exact withinR2_a a b c d e f g hh i rr q s x y z u v w l ⟨he, hr⟩
  · exact withinR5_a a b c d e f g hh i rr q s x y z u v w l ⟨he, hr⟩
def shpOf (l : List AV) : Shp := ⟨intOf (l.getD 0 .any), natOf (l.getD 1 .any), natOf (l.getD 2 .any), natOf (l.getD 3 .any), natOf (l.getD 4 .any), natOf (l.getD 5 .any), natOf (l.getD 6 .any), natOf (l.getD 7 .any), natOf (l.getD 8 .any), natOf (l.getD 9 .any), natOf (l.getD 10 .any), natOf (l.getD 11 .any), intOf (l.getD 12 .any)⟩
def rayOfL (l : List AV) : Ray := ⟨natOf (l.getD 0 .any), natOf (l.getD 1 .any), natOf (l.getD 2 .any), natOf (l.getD 3 .any), natOf (l.getD 4 .any), natOf (l.getD 5 .any), natOf (l.getD 6 .any)⟩
def withinK (f : Nat) (args : List AV) : CR := match args with
  | [.agg l, .agg m] => .ok (some ((shpA (shpOf l) = .agg l ∧ rayA (rayOfL m) = .agg m) ∧ (shpOf l).body (rayOfL m))) (.tup [.flt (pwI (shpOf l) (rayOfL m)), .flt (pwU (shpOf l) (rayOfL m)), .bool (pwO (shpOf l) (rayOfL m)), .int .i64 0])
  | _ => .no
def within_k : Con Tryz.prog := ⟨92, withinK 0, by
  intro args p r h hp
  unfold withinK at h
  split at h
  · cases h
    obtain ⟨⟨h1, h2⟩, h3⟩ := hp
    rw [← h1, ← h2]
    exact within_p _ _ h3
  · cases h⟩
def withinR_k : Con Tryz.prog := ⟨65, withinK 0, by
  intro args p r h hp
  unfold withinK at h
  split at h
  · cases h
    obtain ⟨⟨h1, h2⟩, h3⟩ := hp
    rw [← h1, ← h2]
    exact withinR_p _ _ h3
  · cases h⟩
/-- The span of a leaf. -/
def leafS (P : Nat → Prt) (r : Ray) (k : Nat) : List Spn := bif pwO (P k).p r then [⟨pwI (P k).p r, k, false, pwU (P k).p r, k, false⟩] else []
def combS (op : Int) (A B L : List Spn) : List Spn := if op = 1 then bothL A B else if op = 2 then eitherL A B else if op = 3 then lessL A B else L
/-- The spans of the parts so far. -/
def tabS (P : Nat → Prt) (r : Ray) : Nat → Nat → List Spn
  | 0 => fun _ => []
  | k + 1 => fun j => if j = k then combS (P k).op (tabS P r k (P k).l.toNat) (tabS P r k (P k).m.toNat) (leafS P r k) else tabS P r k j
theorem tab_at (P : Nat → Prt) (r : Ray) (k : Nat) : tabS P r (k + 1) k = combS (P k).op (tabS P r k (P k).l.toNat) (tabS P r k (P k).m.toNat) (leafS P r k) := by
  show (if k = k then _ else _) = _
  rw [if_pos rfl]
theorem tab_ne (P : Nat → Prt) (r : Ray) {k j : Nat} (h : j ≠ k) : tabS P r (k + 1) j = tabS P r k j := by
  show (if j = k then _ else _) = _
  rw [if_neg h]
attribute [irreducible] tabS
theorem solid_ok {n : Nat} {P : Nat → Prt} {s : Int} (h : solidE n P s = 0) : (1 ≤ n ∧ n ≤ 16) ∧ ∀ i, i < n → partE P i = 0 := by
  unfold solidE at h
  split at h
  · cases h
  · split at h
    · cases h
    · exact ⟨by omega, fun i hi => firstE_all h hi⟩
theorem part_op {P : Nat → Prt} {i : Nat} (h : partE P i = 0) : ((P i).op = 0 ∧ (P i).p.err = 0 ∧ ((P i).p.k = 1 ∨ (P i).p.k = 2 ∨ (P i).p.k = 5)) ∨ (((P i).op = 1 ∨ (P i).op = 2 ∨ (P i).op = 3) ∧ 0 ≤ (P i).l ∧ (P i).l.toNat < i ∧ 0 ≤ (P i).m ∧ (P i).m.toNat < i) := by
  unfold partE at h
  split at h
  · rename_i h1
    split at h
    · rename_i h2
      split at h
      · rename_i h3; exact .inl ⟨h1, h2, h3⟩
      · cases h
    · rename_i h2; exact absurd h h2
  · split at h
    · rename_i h2
      split at h
      · cases h
      · exact .inr ⟨h2, by omega, by omega, by omega, by omega⟩
    · cases h
theorem pwO_lt {p : Shp} {r : Ray} (h : pwO p r = true) : flt (pwI p r) (pwU p r) = true := by
  have key : ∀ (met ok : Bool) (n i o f : Nat), wiO met ok n i o f = true → flt (wiI met ok n i o f) (wiU met ok n i o f) = true := fun met ok n i o f h => by
    unfold wiI wiU
    rw [h]
    unfold wiO at h
    rw [Bool.and_eq_true, Bool.and_eq_true] at h
    exact h.2.2
  unfold pwO at h
  unfold pwI pwU
  split
  · rename_i h1; rw [if_pos h1] at h; exact key _ _ _ _ _ _ h
  · rename_i h1
    rw [if_neg h1] at h
    split
    · rename_i h2; rw [if_pos h2] at h; exact key _ _ _ _ _ _ h
    · rename_i h2; rw [if_neg h2] at h; exact key _ _ _ _ _ _ h
/-- The ends of the leaves. -/
def endsE (P : Nat → Prt) (r : Ray) (n : Nat) : List Nat := (List.range n).flatMap fun i => [pwI (P i).p r, pwU (P i).p r]
theorem ends_len (P : Nat → Prt) (r : Ray) : ∀ n, (endsE P r n).length = 2 * n
  | 0 => rfl
  | n + 1 => by
    have e : endsE P r (n + 1) = endsE P r n ++ [pwI (P n).p r, pwU (P n).p r] := by unfold endsE; rw [List.range_succ, List.flatMap_append]; rfl
    rw [e, List.length_append, ends_len P r n]; simp; omega
theorem leaf_good (P : Nat → Prt) (r : Ray) (k : Nat) : Good (leafS P r k) := by
  unfold leafS
  cases e : pwO (P k).p r
  · trivial
  · exact ⟨ok_of (pwO_lt e), (fun w hw => by cases hw), trivial⟩
theorem leaf_ends (P : Nat → Prt) (r : Ray) {k n : Nat} (h : k < n) : Ends (endsE P r n) (leafS P r k) := fun z hz => by
  unfold leafS at hz
  cases e : pwO (P k).p r with
  | false => rw [e] at hz; cases hz
  | true =>
    rw [e] at hz
    have : z = ⟨pwI (P k).p r, k, false, pwU (P k).p r, k, false⟩ := by simpa using hz
    subst this
    exact ⟨List.mem_flatMap.2 ⟨k, List.mem_range.2 h, by simp⟩, List.mem_flatMap.2 ⟨k, List.mem_range.2 h, by simp⟩⟩
theorem comb_ok {op : Int} {A B L : List Spn} {E : List Nat} (hA : Good A) (hB : Good B) (hL : Good L) (eA : Ends E A) (eB : Ends E B) (eL : Ends E L) : Good (combS op A B L) ∧ Ends E (combS op A B L) := by
  unfold combS
  split
  · exact ⟨both_good hA hB, both_ends hA hB eA eB⟩
  · split
    · exact ⟨(either_same hA hB).2, either_ends eA eB⟩
    · split
      · exact ⟨less_good hA hB, less_ends eA eB⟩
      · exact ⟨hL, eL⟩
theorem tab_ok (P : Nat → Prt) (r : Ray) (n : Nat) : ∀ k, k ≤ n → ∀ j, Good (tabS P r k j) ∧ Ends (endsE P r n) (tabS P r k j)
  | 0, _, j => by unfold tabS; exact ⟨trivial, fun z hz => by cases hz⟩
  | k + 1, h, j => by
    by_cases e : j = k
    · subst e
      rw [tab_at]
      have a := tab_ok P r n j (by omega) (P j).l.toNat
      have b := tab_ok P r n j (by omega) (P j).m.toNat
      exact comb_ok a.1 b.1 (leaf_good P r j) a.2 b.2 (leaf_ends P r (by omega))
    · rw [tab_ne P r e]; exact tab_ok P r n k (by omega) j
theorem tab_len (P : Nat → Prt) (r : Ray) {n k : Nat} (hk : k ≤ n) (hn : n ≤ 16) (j : Nat) : (tabS P r k j).length ≤ 32 := by
  obtain ⟨h1, h2⟩ := tab_ok P r n k hk j
  have := good_len h1 fun x hx => (h2 x hx).1
  rw [ends_len] at this; omega
def slA (L : List Spn) : AV := .sl L.length 6 (flatF 6 (rowsS L))
/-- What the two rows that are handed over make, as a contract. -/
def rowsK (f : List Spn → List Spn → List Spn) (p : List Spn → List Spn → Prop) (args : List AV) : CR := match args with
  | [.sl n sz g, .sl m sz' h] => .ok (some ((sz = 6 ∧ sz' = 6) ∧ ((∀ j, j < n * 6 → flatF 6 (rowsS (unS n g)) j = g j) ∧ (∀ j, j < m * 6 → flatF 6 (rowsS (unS m h)) j = h j)) ∧ p (unS n g) (unS m h))) (.sl (f (unS n g) (unS m h)).length 6 (flatF 6 (rowsS (f (unS n g) (unS m h)))))
  | _ => .no
theorem rowsK_ok {P : Program} {f : FuncId} {F : List Spn → List Spn → List Spn} {p : List Spn → List Spn → Prop} (h : ∀ A B, p A B → ACalls P f [slA A, slA B] (slA (F A B))) : ∀ args q r, rowsK F p args = .ok q r → q.getD True → ACalls P f args r := by
  intro args q r e hq
  unfold rowsK at e
  split at e
  · cases e
    obtain ⟨⟨rfl, rfl⟩, ⟨h1, h2⟩, h3⟩ := hq
    rename_i n g m k
    refine acalls_agr (h _ _ h3) ⟨⟨unS_len n g, rfl, fun j hj => h1 j (by rw [unS_len] at hj; exact hj)⟩, ⟨unS_len m k, rfl, fun j hj => h2 j (by rw [unS_len] at hj; exact hj)⟩, True.intro⟩
  · cases e
def small (A B : List Spn) : Prop := A.length ≤ 32 ∧ B.length ≤ 32
theorem mul_small {A B : List Spn} (h : small A B) : A.length * (B.length + 1) ≤ 100000000 ∧ A.length ≤ 1000000 ∧ B.length ≤ 1000000 := by
  obtain ⟨h1, h2⟩ := h
  have := Nat.mul_le_mul h1 (show B.length + 1 ≤ 33 by omega)
  omega
def both_k : Con Tryz.prog := ⟨58, rowsK bothL small, rowsK_ok fun A B h => both_a A B (by unfold small at h; omega)⟩
def either_k : Con Tryz.prog := ⟨59, rowsK eitherL small, rowsK_ok fun A B h => either_a A B (by unfold small at h; omega)⟩
def lessP_k : Con Tryz.prog := ⟨60, rowsK lessL small, rowsK_ok fun A B h => lessP_a A B (mul_small h)⟩
/-- What the document combines, as a contract. -/
def combK (args : List AV) : CR := match args with
  | [.int _ op, .sl n sz g, .sl m sz' h] => .ok (some ((args.getD 0 .any = .int .i64 op ∧ sz = 6 ∧ sz' = 6) ∧ ((∀ j, j < n * 6 → flatF 6 (rowsS (unS n g)) j = g j) ∧ (∀ j, j < m * 6 → flatF 6 (rowsS (unS m h)) j = h j)) ∧ ((op = 1 ∨ op = 2 ∨ op = 3) ∧ Good (unS n g) ∧ Good (unS m h)) ∧ small (unS n g) (unS m h))) (.sl (combS op (unS n g) (unS m h) []).length 6 (flatF 6 (rowsS (combS op (unS n g) (unS m h) []))))
  | _ => .no
theorem cutK_len {x : Spn} {B : List Spn} (hx : OkS x) (hB : Good B) (h : B.length ≤ 32) (i : Nat) (hi : i ≤ B.length) : (ncutS x B i).length ≤ 1000000 := by
  rw [ncutS_less hx hB i]
  have := lessX_len (B.take i) x
  rw [List.length_take] at this
  omega
theorem less_len {A B : List Spn} (h : small A B) : (lessL A B).length ≤ 1000000 := by
  have key : ∀ (A : List Spn), (lessL A B).length ≤ A.length * (B.length + 1) := fun A => by
    induction A with
    | nil => simp [lessL]
    | cons x a ih =>
      have e : lessL (x :: a) B = lessX x B ++ lessL a B := List.flatMap_cons ..
      rw [e, List.length_append, List.length_cons, Nat.succ_mul]
      have := lessX_len B x
      omega
  have := key A
  have := Nat.mul_le_mul h.1 (show B.length + 1 ≤ 33 by have := h.2; omega)
  omega
theorem comb_p (op : Int) (A B : List Spn) (ho : op = 1 ∨ op = 2 ∨ op = 3) (hA : Good A) (hB : Good B) (h : small A B) : ACalls Tryz.prog 64 [.int .i64 op, slA A, slA B] (slA (combS op A B [])) := by
  rcases ho with rfl | rfl | rfl
  · have e : combS 1 A B [] = pairsL A B := (pairs_both _ A B rfl hA hB).symm
    rw [e]
    refine combR1_a A B ?_
    have := Nat.mul_le_mul h.1 h.2
    unfold small at h; omega
  · have e : combS 2 A B [] = eitherR A B := (either_same hA hB).1.symm
    rw [e]
    exact combR2_a A B (by unfold small at h; omega)
  · have e : combS 3 A B [] = cutAll A B := (cutAll_less hA hB).symm
    rw [e]
    refine combR3_a A B ⟨by have := h.1; omega, by have := h.2; omega, ?_, fun x hx i hi => cutK_len (hA.ok x hx) hB h.2 i hi⟩
    rw [cutAll_less hA hB]; exact less_len h
def comb_k : Con Tryz.prog := ⟨64, combK, by
  intro args q r e hq
  unfold combK at e
  split at e
  · cases e
    obtain ⟨⟨h0, rfl, rfl⟩, ⟨h1, h2⟩, ⟨h3, h4, h5⟩, h6⟩ := hq
    rename_i kd op n g m k
    have h0 : AV.int kd op = .int .i64 op := h0
    rw [h0]
    refine acalls_agr (comb_p op _ _ h3 h4 h5 h6) ⟨⟨rfl, rfl⟩, ⟨unS_len n g, rfl, fun j hj => h1 j (by rw [unS_len] at hj; exact hj)⟩, ⟨unS_len m k, rfl, fun j hj => h2 j (by rw [unS_len] at hj; exact hj)⟩, True.intro⟩
  · cases e⟩
end Go.Proofs.YtgbcnfcgljbbgaaGreat
/- Solids: their spans, part by part, by the program and by the document. -/
namespace Go.Proofs.YtgbcnfcgljbbgaaGreat
open Go.RowKit Ev Flt
set_option linter.unusedVariables false
set_option linter.unusedSimpArgs false
set_option maxRecDepth 20000
set_option maxHeartbeats 4000000

theorem view_shp {nm : Bool} {P : Nat → Prt} {i : Nat} {K : AV → Prop} (h : nameE nm (shpA (P i).p) K) :
    nameE nm (.agg (List.map (fun j => partF P (mulN (i : Int).toNat 16 + (3 + j))) (List.range (Tab.cx.ti 59).size))) K := by
  refine view_one ?_ h
  have e : (Tab.cx.ti 59).size = 13 := rfl
  rw [e, mulN_eq, Int.toNat_natCast]
  show AV.agg [partF P (i * 16 + 3), partF P (i * 16 + 4), partF P (i * 16 + 5), partF P (i * 16 + 6), partF P (i * 16 + 7), partF P (i * 16 + 8), partF P (i * 16 + 9), partF P (i * 16 + 10), partF P (i * 16 + 11), partF P (i * 16 + 12), partF P (i * 16 + 13), partF P (i * 16 + 14), partF P (i * 16 + 15)] = _
  simp only [part_at P i _ (show 3 < 16 by decide), part_at P i _ (show 4 < 16 by decide), part_at P i _ (show 5 < 16 by decide), part_at P i _ (show 6 < 16 by decide), part_at P i _ (show 7 < 16 by decide), part_at P i _ (show 8 < 16 by decide), part_at P i _ (show 9 < 16 by decide), part_at P i _ (show 10 < 16 by decide), part_at P i _ (show 11 < 16 by decide), part_at P i _ (show 12 < 16 by decide), part_at P i _ (show 13 < 16 by decide), part_at P i _ (show 14 < 16 by decide), part_at P i _ (show 15 < 16 by decide)]
  rfl
theorem shpOf_eta (p : Shp) : shpOf [.int .i64 p.k, .flt p.a, .flt p.b, .flt p.c, .flt p.d, .flt p.e, .flt p.f, .flt p.g, .flt p.h, .flt p.i, .flt p.r, .flt p.q, .int .i64 p.s] = p := rfl
theorem rayOf_eta (r : Ray) : rayOfL [.flt r.x, .flt r.y, .flt r.z, .flt r.u, .flt r.v, .flt r.w, .flt r.l] = r := rfl
/-- The parts so far, in a row that is as long as it will be. -/
def tabG (T : Nat → List Spn) (k j : Nat) : AV := bif Nat.blt j k then slA (T j) else .nils
theorem leaf_t {P : Nat → Prt} {r : Ray} {k : Nat} (h : pwO (P k).p r = true) : leafS P r k = [⟨pwI (P k).p r, k, false, pwU (P k).p r, k, false⟩] := by unfold leafS; rw [h]; rfl
theorem leaf_f {P : Nat → Prt} {r : Ray} {k : Nat} (h : pwO (P k).p r = false) : leafS P r k = [] := by unfold leafS; rw [h]; rfl
theorem leafP_f : FnOk Tryz.prog 61 Tryz.f61 := ⟨Tryz.func61, by kernel_rfl⟩
theorem leafP_a (n : Nat) (P : Nat → Prt) (r : Ray) (k : Nat) (hpre : (P k).p.body r ∧ k < n) : ACalls Tryz.prog 61 [.sl n 16 (partF P), .int .i64 k, .agg [.flt r.x, .flt r.y, .flt r.z, .flt r.u, .flt r.v, .flt r.w, .flt r.l]] (.sl (leafS P r k).length 6 (flatF 6 (rowsS (leafS P r k)))) := by
  refine acalls_of (inl := hasI (P := Tryz.prog) [] []) (base [within_k] [] []) 0 leafP_f (And.intro (by kernel_rfl) ?_)
  repeat' (first | refine And.intro ?_ ?_ | (with_reducible exact ff_elim) | (with_reducible exact tf_elim) | refine view_shp ?_ | refine num_elim ?_ | intro _ | (with_reducible rfl) | ((with_reducible refine lk_t ?_); exact rfl) | ((with_reducible refine pf_t ?_); exact rfl) | refine tell ?_ | exact True.intro | (refine IsT.of ?_; kernel_rfl))
  all_goals (try refine Tell.mk ?_)
  all_goals (try dsimp only at *)
  all_goals obtain ⟨hp1, hp2⟩ := hpre
  all_goals first | with_reducible rfl | with_reducible assumption | (with_reducible refine gb_t ?_; with_reducible assumption) | (with_reducible refine gb_f ?_; with_reducible assumption) | exact hp1 | rfl | skip
  all_goals (try simp only [size_Span, bytes_Span, Int.toNat_natCast, shpOf_eta, rayOf_eta, Bool.not_eq_true', Bool.not_eq_false'] at *)
  all_goals (try simp only [Nat.zero_add] at *)
  all_goals first | omega | (show 13 ≤ _; decide) | (show 1 * 6 ≤ 6; decide) | exact hp1.1 | exact hp1.2.1 | exact hp1.2.2 | skip
  all_goals first | (rw [leaf_f (by assumption)]; rfl) | (rw [leaf_t (by assumption)]; rfl) | (have q := leaf_t (P := P) (r := r) (k := k) (by assumption); simp only [q] at *; exact row_one (by assumption)) | skip
  trace_state
theorem tabG_step {T T' : Nat → List Spn} {k j : Nat} {X : List Spn} (h1 : T' k = X) (h2 : ∀ j, j ≠ k → T' j = T j) : tabG T' (k + 1) j = setA (0 + mulN k 1) [slA X] (tabG T k) j := by
  unfold setA
  rw [mulN_eq, Nat.zero_add, Nat.mul_one]
  by_cases e : j = k
  · subst e
    rw [if_pos (by simp)]
    unfold tabG
    rw [show Nat.blt j (j + 1) = true from Nat.ble_eq_true_of_le (Nat.le_refl _), h1, Nat.sub_self]; rfl
  · rw [if_neg (by simp only [List.length_cons, List.length_nil]; omega)]
    unfold tabG
    rw [h2 j e]
    have : Nat.blt j (k + 1) = Nat.blt j k := by
      cases h : Nat.blt j k
      · cases h' : Nat.blt j (k + 1)
        · rfl
        · have q1 := Nat.le_of_ble_eq_true h'
          have : ¬ j < k := fun q => by rw [show Nat.blt j k = true from Nat.ble_eq_true_of_le q] at h; cases h
          omega
      · exact Nat.ble_eq_true_of_le (by have := Nat.le_of_ble_eq_true h; omega)
    rw [this]
theorem comb_1 (A B L : List Spn) : combS 1 A B L = bothL A B := rfl
theorem comb_2 (A B L : List Spn) : combS 2 A B L = eitherL A B := rfl
theorem comb_3 (A B L : List Spn) : combS 3 A B L = lessL A B := rfl
theorem comb_0 (A B L : List Spn) : combS 0 A B L = L := rfl
theorem tab_op {P : Nat → Prt} {r : Ray} {k : Nat} {o : Int} (h : ((P k).op == o) = true) : tabS P r (k + 1) k = combS o (tabS P r k (P k).l.toNat) (tabS P r k (P k).m.toNat) (leafS P r k) := by rw [tab_at, eq_of_beq h]
theorem op_0 {n : Nat} {P : Nat → Prt} {s : Int} (hS : solidE n P s = 0) {k : Nat} (hk : k < n) (h1 : ((P k).op == 1) = false) (h2 : ((P k).op == 2) = false) (h3 : ((P k).op == 3) = false) : (P k).op = 0 ∧ ∀ r : Ray, r.e = 0 → (P k).p.body r := by
  rcases part_op ((solid_ok hS).2 k hk) with g | g
  · exact ⟨g.1, fun r hr => ⟨g.2.2, g.2.1, hr⟩⟩
  · have := beq_eq_false_iff_ne.1 h1
    have := beq_eq_false_iff_ne.1 h2
    have := beq_eq_false_iff_ne.1 h3
    omega
theorem op_le {n : Nat} {P : Nat → Prt} {s : Int} (hS : solidE n P s = 0) {k : Nat} (hk : k < n) (h : decide ((P k).op > 0) = true) : ((P k).op = 1 ∨ (P k).op = 2 ∨ (P k).op = 3) ∧ (P k).l.toNat < k ∧ (P k).m.toNat < k ∧ 0 ≤ (P k).l ∧ 0 ≤ (P k).m := by
  have := of_decide_eq_true h
  rcases part_op ((solid_ok hS).2 k hk) with g | g
  · omega
  · omega
theorem op_no {n : Nat} {P : Nat → Prt} {s : Int} (hS : solidE n P s = 0) {k : Nat} (hk : k < n) (h : decide ((P k).op > 0) = false) : (P k).op = 0 ∧ ∀ r : Ray, r.e = 0 → (P k).p.body r := by
  have := of_decide_eq_false h
  rcases part_op ((solid_ok hS).2 k hk) with g | g
  · exact ⟨g.1, fun r hr => ⟨g.2.2, g.2.1, hr⟩⟩
  · omega
def leaf_k (n : Nat) (P : Nat → Prt) (r : Ray) : Con Tryz.prog := ⟨61, fun args => match args with
    | [_, .int _ e, _] => .ok (some (args = [.sl n 16 (partF P), .int .i64 (e.toNat : Nat), rayA r] ∧ (P e.toNat).p.body r ∧ e.toNat < n)) (.sl (leafS P r e.toNat).length 6 (flatF 6 (rowsS (leafS P r e.toNat))))
    | _ => .no, by
  intro args q u h hp
  split at h
  · cases h
    obtain ⟨h1, h2⟩ := hp
    rw [h1]
    exact leafP_a n P r _ h2
  · cases h⟩
theorem view_tab {nm : Bool} {T : Nat → List Spn} {k : Nat} {e : Int} {K : AV → Prop} (h : e.toNat < k) (hk : nameE nm (slA (T e.toNat)) K) : nameE nm (tabG T k (0 + mulN e.toNat 1)) K := by
  refine view_one ?_ hk
  rw [mulN_eq, Nat.zero_add, Nat.mul_one]
  unfold tabG
  rw [show Nat.blt e.toNat k = true from Nat.ble_eq_true_of_le h]; rfl
theorem lt_k {n : Nat} {P : Nat → Prt} {s : Int} (hS : solidE n P s = 0) {k : Nat} {o : Int} (ho : o = 1 ∨ o = 2 ∨ o = 3) (hi : decide ((k : Int) < (n : Int)) = true) (h : ((P k).op == o) = true) : (P k).l.toNat < k ∧ (P k).m.toNat < k ∧ 0 ≤ (P k).l ∧ 0 ≤ (P k).m := by
  have hi := of_decide_eq_true hi
  have h := eq_of_beq h
  rcases part_op ((solid_ok hS).2 k (by omega)) with g | g
  · omega
  · omega
theorem last_lt {n k : Nat} (hn : 1 ≤ n ∧ n ≤ 16) (h : decide ((k : Int) < (n : Int)) = false) : (IntKind.i64.wrap ((n : Int) - 1)).toNat < k := by
  have := of_decide_eq_false h
  rw [last_ix (by omega)]; omega
theorem tabG_set {T T' : Nat → List Spn} {k j : Nat} {X : List Spn} (h1 : T' k = X) (h2 : ∀ j, j ≠ k → T' j = T j) : tabG T' (k + 1) j = if j = 0 + mulN k 1 then slA X else tabG T k j := by
  rw [tabG_step h1 h2]
  unfold setA
  rw [mulN_eq, Nat.zero_add, Nat.mul_one]
  by_cases e : j = k
  · subst e; rw [if_pos (by simp), if_pos rfl, Nat.sub_self]; rfl
  · rw [if_neg (by simp only [List.length_cons, List.length_nil]; omega), if_neg e]
theorem tab_end {n k : Nat} {P : Nat → Prt} {r : Ray} (hn : 1 ≤ n ∧ n ≤ 16) (hk : k ≤ n) (h : decide ((k : Int) < (n : Int)) = false) : tabS P r k (IntKind.i64.wrap ((n : Int) - 1)).toNat = tabS P r n (n - 1) := by
  have := of_decide_eq_false h
  rw [last_ix (by omega), show k = n by omega]
structure MI (n : Nat) where
  k : Nat
  hk : k ≤ n
theorem made_f : FnOk Tryz.prog 27 Tryz.f27 := ⟨Tryz.func27, by kernel_rfl⟩
theorem made_a (n : Nat) (P : Nat → Prt) (s : Int) (r : Ray) (hpre : solidE n P s = 0 ∧ r.e = 0) : ACalls Tryz.prog 27 [.sl n 16 (partF P), .agg [.flt r.x, .flt r.y, .flt r.z, .flt r.u, .flt r.v, .flt r.w, .flt r.l]] (.sl (tabS P r n (n - 1)).length 6 (flatF 6 (rowsS (tabS P r n (n - 1))))) := by
  refine acalls_of (inl := hasI (P := Tryz.prog) [] []) (base [both_k, either_k, lessP_k, (leaf_k n P r)] [] []) 0 made_f (And.intro (by kernel_rfl) ?_)
  obtain ⟨hS, hr⟩ := hpre
  have hn := (solid_ok hS).1
  repeat' (first | refine And.intro ?_ ?_ | (with_reducible exact ff_elim) | (with_reducible exact tf_elim) | refine num_elim ?_ | intro _ | (with_reducible rfl) | ((with_reducible refine lk_t ?_); exact rfl) | ((with_reducible refine pf_t ?_); exact rfl) | refine tell ?_ | exact True.intro | (refine IsT.of ?_; kernel_rfl))
  all_goals (try (refine loop_keep [0, 3, 5, 11, 12] [0] ?_; refine LoopI.mk (MI n) (fun j => [(13, .int .i64 j.k)]) (fun j => [(4, .arr n (tabG (tabS P r j.k) j.k))]) (fun j => n - j.k) (⟨0, Nat.zero_le _⟩) (wk_mk [some 4, some 0] ?_) (fun ⟨k, hk⟩ => ?_)))
  repeat' (first | refine And.intro ?_ ?_ | (with_reducible exact ff_elim) | (with_reducible exact tf_elim) | refine stp_mk [some 4, some 0] ((⟨k + 1, ?_⟩ : MI n)) ?_ ?_ | refine view_part ?_ | refine view_tab (lt_k hS (.inl rfl) (by assumption) (by assumption)).1 ?_ | refine view_tab (lt_k hS (.inl rfl) (by assumption) (by assumption)).2.1 ?_ | refine view_tab (lt_k hS (.inr (.inl rfl)) (by assumption) (by assumption)).1 ?_ | refine view_tab (lt_k hS (.inr (.inl rfl)) (by assumption) (by assumption)).2.1 ?_ | refine view_tab (lt_k hS (.inr (.inr rfl)) (by assumption) (by assumption)).1 ?_ | refine view_tab (lt_k hS (.inr (.inr rfl)) (by assumption) (by assumption)).2.1 ?_ | refine view_tab (last_lt hn (by assumption)) ?_ | refine num_elim ?_ | intro _ | (with_reducible rfl) | ((with_reducible refine lk_t ?_); exact rfl) | ((with_reducible refine pf_t ?_); exact rfl) | refine tell ?_ | exact True.intro | (refine IsT.of ?_; kernel_rfl))
  all_goals (try refine Tell.mk ?_)
  all_goals (try dsimp only at *)
  all_goals first | with_reducible rfl | with_reducible assumption | (with_reducible refine gb_t ?_; with_reducible assumption) | (with_reducible refine gb_f ?_; with_reducible assumption) | skip
  all_goals (try simp only [Int.toNat_natCast, unS_rows] at *)
  all_goals (try (have hlt : k < n := lt_of (by assumption)))
  all_goals first | (have q := lt_k hS (.inl rfl) (by assumption) (by assumption : ((P k).op == 1) = true); have q2 := (tab_op (r := r) (by assumption : ((P k).op == 1) = true)).trans (comb_1 _ _ _)) | (have q := lt_k hS (.inr (.inl rfl)) (by assumption) (by assumption : ((P k).op == 2) = true); have q2 := (tab_op (r := r) (by assumption : ((P k).op == 2) = true)).trans (comb_2 _ _ _)) | (have q := lt_k hS (.inr (.inr rfl)) (by assumption) (by assumption : ((P k).op == 3) = true); have q2 := (tab_op (r := r) (by assumption : ((P k).op == 3) = true)).trans (comb_3 _ _ _)) | (have e1 : ((P k).op == 1) = false := (by assumption); have e2 : ((P k).op == 2) = false := (by assumption); have e3 : ((P k).op == 3) = false := (by assumption); obtain ⟨q, q1⟩ := op_0 hS hlt e1 e2 e3; have q2 : tabS P r (k + 1) k = leafS P r k := (by rw [tab_at, q]; rfl)) | skip
  all_goals first | exact tab_len P r hk hn.2 _ | exact tabG_step q2 fun j hj => tab_ne P r hj | exact tabG_set q2 fun j hj => tab_ne P r hj | (rw [tab_end hn hk (by assumption)]; done) | (rw [← tab_end (P := P) (r := r) hn hk (by assumption)]; done) | (show (tabS P r n (n - 1)).length = _; rw [← tab_end (P := P) (r := r) hn hk (by assumption)]; done) | (show 16 ≤ 16; decide) | (show 0 + mulN _ 1 < n; rw [mulN_eq, last_ix (by omega)]; omega) | exact (q1 r hr).1 | exact (q1 r hr).2.1 | exact (q1 r hr).2.2 | omega | (show 0 + mulN _ 1 < n; rw [mulN_eq]; omega) | (show n ≤ mulN _ 1; rw [mulN_eq]; omega) | (show ((24 : Nat) : Int) * _ ≤ _; omega) | (rw [wrapI (by omega) (by omega)]; omega) | rfl | skip
  trace_state
def tabH (T : Nat → List Spn) (j : Nat) : AV := slA (T j)
theorem tabH_app {T T' : Nat → List Spn} {k j : Nat} {X : AV} (hj : j < k + 1) (h1 : slA (T' k) = X ∨ agr0 (fun _ => none) (slA (T' k)) X) (h2 : ∀ j, j ≠ k → T' j = T j) :
    tabH T' j = catA (k * 1) (tabH T) (fun j => [X].getD j .any) j ∨ agr0 (fun _ => none) (tabH T' j) (catA (k * 1) (tabH T) (fun j => [X].getD j .any) j) := by
  unfold catA tabH
  rw [Nat.mul_one]
  by_cases e : j = k
  · subst e
    rw [if_neg (by omega), Nat.sub_self]
    exact h1
  · rw [if_pos (by omega), h2 j e]; exact .inl rfl
theorem agr_leaf {P : Nat → Prt} {r : Ray} {k : Nat} {g : Nat → AV} (h : pwO (P k).p r = true) (hg : ∀ j, j < 6 → g j = [AV.flt (pwI (P k).p r), .int .i64 k, .bool false, .flt (pwU (P k).p r), .int .i64 k, .bool false].getD j .any) : agr0 (fun _ => none) (slA (leafS P r k)) (.sl 1 6 g) := by
  rw [leaf_t h]
  exact ⟨rfl, rfl, fun j hj => by rw [hg j hj]; exact row_one hj⟩
theorem agr_noleaf {P : Nat → Prt} {r : Ray} {k : Nat} (h : pwO (P k).p r = false) : agr0 (fun _ => none) (slA (leafS P r k)) .nils := by
  rw [leaf_f h]; exact (rfl : ([] : List Spn).length = 0)
theorem comb_any {op : Int} (h : op = 1 ∨ op = 2 ∨ op = 3) (A B L L' : List Spn) : combS op A B L = combS op A B L' := by rcases h with rfl | rfl | rfl <;> rfl
structure SI (n : Nat) where
  k : Nat
  hk : k ≤ n
theorem view_tabH {nm : Bool} {T : Nat → List Spn} {e : Int} {K : AV → Prop} (hk : nameE nm (slA (T e.toNat)) K) : nameE nm (tabH T (0 + mulN e.toNat 1)) K := by
  refine view_one ?_ hk
  rw [mulN_eq, Nat.zero_add, Nat.mul_one]; rfl
theorem spansOfR_f : FnOk Tryz.prog 29 Tryz.f29 := ⟨Tryz.func29, by kernel_rfl⟩
theorem spansOfR_a (n : Nat) (P : Nat → Prt) (s : Int) (r : Ray) (hpre : solidE n P s = 0 ∧ r.e = 0) : ACalls Tryz.prog 29 [.sl n 16 (partF P), .agg [.flt r.x, .flt r.y, .flt r.z, .flt r.u, .flt r.v, .flt r.w, .flt r.l]] (.sl (tabS P r n (n - 1)).length 6 (flatF 6 (rowsS (tabS P r n (n - 1))))) := by
  refine acalls_of (inl := hasI (P := Tryz.prog) [] []) (base [withinR_k, comb_k] [] []) 0 spansOfR_f (And.intro (by kernel_rfl) ?_)
  obtain ⟨hS, hr⟩ := hpre
  have hn := (solid_ok hS).1
  repeat' (first | refine And.intro ?_ ?_ | (with_reducible exact ff_elim) | (with_reducible exact tf_elim) | refine num_elim ?_ | intro _ | (with_reducible rfl) | ((with_reducible refine lk_t ?_); exact rfl) | ((with_reducible refine pf_t ?_); exact rfl) | refine tell ?_ | exact True.intro | (refine IsT.of ?_; kernel_rfl))
  all_goals (try (refine loop_keep [0, 3] [0] ?_; refine LoopI.mk (SI n) (fun j => [(6, .int .i64 j.k), (5, .os 1 1 0 j.k)]) (fun j => [(1, .arr j.k (tabH (tabS P r j.k)))]) (fun j => n - j.k) (⟨0, Nat.zero_le _⟩) (wk_mk [none, some 0] ?_) (fun ⟨k, hk⟩ => ?_)))
  repeat' (first | refine And.intro ?_ ?_ | (with_reducible exact ff_elim) | (with_reducible exact tf_elim) | refine' stp_mkW [some _, some 0] ((⟨k + 1, ?_⟩ : SI n)) ?_ ?_ | refine view_part ?_ | refine view_tabH ?_ | refine num_elim ?_ | intro _ | (with_reducible rfl) | ((with_reducible refine lk_t ?_); exact rfl) | ((with_reducible refine pf_t ?_); exact rfl) | refine tell ?_ | exact True.intro | (refine IsT.of ?_; kernel_rfl))
  all_goals (try refine Tell.mk ?_)
  all_goals (try dsimp only at *)
  all_goals first | with_reducible rfl | with_reducible assumption | (with_reducible refine gb_t ?_; with_reducible assumption) | (with_reducible refine gb_f ?_; with_reducible assumption) | skip
  all_goals first | (show (_ : List AV) = [AV.int _ _, AV.sl _ _ _, AV.sl _ _ _]; rfl) | skip
  all_goals (try simp only [mulN_eq, Nat.mul_one, Nat.zero_add, Int.toNat_natCast, unS_rows, shpOf_eta, rayOf_eta] at *)
  all_goals (try (have hlt : k < n := lt_of (by assumption)))
  all_goals first | (have e0 : decide ((P k).op > 0) = true := (by assumption); have q := op_le hS hlt e0; have q2 : tabS P r (k + 1) k = combS (P k).op (tabS P r k (P k).l.toNat) (tabS P r k (P k).m.toNat) [] := (tab_at P r k).trans (comb_any q.1 _ _ _ _)) | (have e0 : decide ((P k).op > 0) = false := (by assumption); obtain ⟨q, q1⟩ := op_no hS hlt e0; have q2 : tabS P r (k + 1) k = leafS P r k := (by rw [tab_at, q]; rfl)) | skip
  all_goals first | exact tab_len P r hk hn.2 _ | exact (tab_ok P r n k hk _).1 | exact (q1 r hr).1 | exact (q1 r hr).2.1 | exact (q1 r hr).2.2 | omega | rfl | skip
  all_goals (try (rw [← tab_end (P := P) (r := r) hn hk (by assumption)]))
  all_goals first | (exact tabH_app (by omega) (.inl (by rw [q2]; rfl)) fun j hj => tab_ne P r hj) | (exact tabH_app (by omega) (.inr (by rw [q2]; exact agr_noleaf (by assumption))) fun j hj => tab_ne P r hj) | (exact tabH_app (by omega) (.inr (by rw [q2]; exact agr_leaf (by assumption) fun j hj => (by show (if j < 0 * 6 then _ else _) = _; rw [if_neg (by omega)]; rfl))) fun j hj => tab_ne P r hj) | skip
  all_goals first | (show k * 1 ≤ k; omega) | (show (k + 1) * 24 ≤ _; omega) | (rw [wrapI (by omega) (by omega)]; omega) | (show k + 1 ≤ (k + 1) * 1; omega) | (show 16 ≤ 16; decide) | (show 1 * 1 ≤ 1; decide) | (show 1 * 6 ≤ 6; decide) | (show 1 * 48 ≤ _; decide) | skip
  all_goals (obtain rfl : k = n := (by have := ge_of (by assumption : decide ((k : Int) < (n : Int)) = false); omega))
  all_goals first | rfl | (rw [wrapI (by omega) (by omega)]; omega) | trace_state
end Go.Proofs.YtgbcnfcgljbbgaaGreat
/- Solids: the boxes around them. -/
namespace Go.Proofs.YtgbcnfcgljbbgaaGreat
open Go.RowKit Ev Flt
set_option linter.unusedVariables false
set_option linter.unusedSimpArgs false
set_option maxRecDepth 20000
set_option maxHeartbeats 4000000

/-- A box's numbers. -/
structure Bx where
  a : Nat
  b : Nat
  c : Nat
  d : Nat
  e : Nat
  f : Nat
def Bx.row (x : Bx) : List AV := [.flt x.a, .flt x.b, .flt x.c, .flt x.d, .flt x.e, .flt x.f]
def joinB (x y : Bx) : Bx := ⟨lessV x.a y.a, lessV x.b y.b, lessV x.c y.c, moreV x.d y.d, moreV x.e y.e, moreV x.f y.f⟩
def shpB (p : Shp) : Bx :=
  if p.k = 1 then ⟨F .sub p.a p.r, F .sub p.b p.r, F .sub p.c p.r, F .add p.a p.r, F .add p.b p.r, F .add p.c p.r⟩ else
  if p.k = 2 then ⟨p.a, p.b, p.c, p.d, p.e, p.f⟩ else
  ⟨F .sub (lessV p.a (F .add p.a p.d)) (wo (aloneV p.d p.e p.f) 0 p.r), F .sub (lessV p.b (F .add p.b p.e)) (wo (aloneV p.d p.e p.f) 1 p.r), F .sub (lessV p.c (F .add p.c p.f)) (wz (aloneV p.d p.e p.f) p.r), F .add (moreV p.a (F .add p.a p.d)) (wo (aloneV p.d p.e p.f) 0 p.r), F .add (moreV p.b (F .add p.b p.e)) (wo (aloneV p.d p.e p.f) 1 p.r), F .add (moreV p.c (F .add p.c p.f)) (wz (aloneV p.d p.e p.f) p.r)⟩
theorem bnds1_f : FnOk Tryz.prog 45 Tryz.f45 := ⟨Tryz.func45, by kernel_rfl⟩
theorem bnds1_a (a b c d e f g h i r q : Nat) (s : Int) (hpre : shapeE 1 a b c d e f g h i r q s = 0) : ACalls Tryz.prog 45 [.agg [.int .i64 1, .flt a, .flt b, .flt c, .flt d, .flt e, .flt f, .flt g, .flt h, .flt i, .flt r, .flt q, .int .i64 s]] (.tup [.agg [.flt (F .sub a r), .flt (F .sub b r), .flt (F .sub c r), .flt (F .add a r), .flt (F .add b r), .flt (F .add c r)], .int .i64 0]) := by
  refine acalls_of (inl := hasI (P := Tryz.prog) [] []) (base [shapeMay_k, solid1_k, ballB_k] [] []) 0 bnds1_f (And.intro (by kernel_rfl) ?_)
  repeat' (first | refine And.intro ?_ ?_ | (with_reducible exact ff_elim) | (with_reducible exact tf_elim) | (intro h; exact absurd hpre (bne_iff_ne.1 h)) | intro _ | (with_reducible rfl) | ((with_reducible refine lk_t ?_); exact rfl) | ((with_reducible refine pf_t ?_); exact rfl) | refine tell ?_ | exact True.intro | (refine IsT.of ?_; kernel_rfl))
  all_goals first | exact hpre | skip
  all_goals ((try refine Tell.mk ?_); first | with_reducible rfl | ((show (_ : Int) ≤ _); decide) | ((show (_ : Int) < _); decide) | (with_reducible refine gb_t ?_; with_reducible assumption) | with_reducible assumption | (with_reducible refine gb_f ?_; with_reducible assumption) | (simp only [gb, *, cond_true, cond_false]; done) | ((with_reducible refine ks_t ?_); rfl) | ((with_reducible refine pk_t ?_); rfl) | ((with_reducible refine pf_t ?_); rfl) | ((with_reducible refine lk_t ?_); rfl) | ((with_reducible refine okF_t ?_); kernel_rfl) | grind [gb])
def bnds1_k : Con Tryz.prog := ⟨45, fun args => match args with | [.agg [.int .i64 1, .flt a, .flt b, .flt c, .flt d, .flt e, .flt f, .flt g, .flt h, .flt i, .flt r, .flt q, .int .i64 s]] => .ok (some (shapeE 1 a b c d e f g h i r q s = 0)) (.tup [.agg [.flt (F .sub a r), .flt (F .sub b r), .flt (F .sub c r), .flt (F .add a r), .flt (F .add b r), .flt (F .add c r)], .int .i64 0]) | _ => .no, by
  intro args p r h hp
  split at h
  · cases h; exact bnds1_a _ _ _ _ _ _ _ _ _ _ _ _ hp
  · cases h⟩
theorem bnds2_f : FnOk Tryz.prog 45 Tryz.f45 := ⟨Tryz.func45, by kernel_rfl⟩
theorem bnds2_a (a b c d e f g h i r q : Nat) (s : Int) (hpre : shapeE 2 a b c d e f g h i r q s = 0) : ACalls Tryz.prog 45 [.agg [.int .i64 2, .flt a, .flt b, .flt c, .flt d, .flt e, .flt f, .flt g, .flt h, .flt i, .flt r, .flt q, .int .i64 s]] (.tup [.agg [.flt a, .flt b, .flt c, .flt d, .flt e, .flt f], .int .i64 0]) := by
  refine acalls_of (inl := hasI (P := Tryz.prog) [] []) (base [shapeMay_k, solid2_k, blockB_k] [] []) 0 bnds2_f (And.intro (by kernel_rfl) ?_)
  repeat' (first | refine And.intro ?_ ?_ | (with_reducible exact ff_elim) | (with_reducible exact tf_elim) | (intro h; exact absurd hpre (bne_iff_ne.1 h)) | intro _ | (with_reducible rfl) | ((with_reducible refine lk_t ?_); exact rfl) | ((with_reducible refine pf_t ?_); exact rfl) | refine tell ?_ | exact True.intro | (refine IsT.of ?_; kernel_rfl))
  all_goals first | exact hpre | skip
  all_goals ((try refine Tell.mk ?_); first | with_reducible rfl | ((show (_ : Int) ≤ _); decide) | ((show (_ : Int) < _); decide) | (with_reducible refine gb_t ?_; with_reducible assumption) | with_reducible assumption | (with_reducible refine gb_f ?_; with_reducible assumption) | (simp only [gb, *, cond_true, cond_false]; done) | ((with_reducible refine ks_t ?_); rfl) | ((with_reducible refine pk_t ?_); rfl) | ((with_reducible refine pf_t ?_); rfl) | ((with_reducible refine lk_t ?_); rfl) | ((with_reducible refine okF_t ?_); kernel_rfl) | grind [gb])
def bnds2_k : Con Tryz.prog := ⟨45, fun args => match args with | [.agg [.int .i64 2, .flt a, .flt b, .flt c, .flt d, .flt e, .flt f, .flt g, .flt h, .flt i, .flt r, .flt q, .int .i64 s]] => .ok (some (shapeE 2 a b c d e f g h i r q s = 0)) (.tup [.agg [.flt a, .flt b, .flt c, .flt d, .flt e, .flt f], .int .i64 0]) | _ => .no, by
  intro args p r h hp
  split at h
  · cases h; exact bnds2_a _ _ _ _ _ _ _ _ _ _ _ _ hp
  · cases h⟩
theorem bnds5_f : FnOk Tryz.prog 45 Tryz.f45 := ⟨Tryz.func45, by kernel_rfl⟩
theorem bnds5_a (a b c d e f g h i r q : Nat) (s : Int) (hpre : shapeE 5 a b c d e f g h i r q s = 0) : ACalls Tryz.prog 45 [.agg [.int .i64 5, .flt a, .flt b, .flt c, .flt d, .flt e, .flt f, .flt g, .flt h, .flt i, .flt r, .flt q, .int .i64 s]] (.tup [.agg [.flt (F .sub (lessV a (F .add a d)) (wo (aloneV d e f) 0 r)), .flt (F .sub (lessV b (F .add b e)) (wo (aloneV d e f) 1 r)), .flt (F .sub (lessV c (F .add c f)) (wz (aloneV d e f) r)), .flt (F .add (moreV a (F .add a d)) (wo (aloneV d e f) 0 r)), .flt (F .add (moreV b (F .add b e)) (wo (aloneV d e f) 1 r)), .flt (F .add (moreV c (F .add c f)) (wz (aloneV d e f) r))], .int .i64 0]) := by
  refine acalls_of (inl := hasI (P := Tryz.prog) [] []) (base [shapeMay_k, solid5_k, tubeB_k] [] []) 0 bnds5_f (And.intro (by kernel_rfl) ?_)
  repeat' (first | refine And.intro ?_ ?_ | (with_reducible exact ff_elim) | (with_reducible exact tf_elim) | (intro h; exact absurd hpre (bne_iff_ne.1 h)) | intro _ | (with_reducible rfl) | ((with_reducible refine lk_t ?_); exact rfl) | ((with_reducible refine pf_t ?_); exact rfl) | refine tell ?_ | exact True.intro | (refine IsT.of ?_; kernel_rfl))
  all_goals first | exact hpre | skip
  all_goals ((try refine Tell.mk ?_); first | with_reducible rfl | ((show (_ : Int) ≤ _); decide) | ((show (_ : Int) < _); decide) | (with_reducible refine gb_t ?_; with_reducible assumption) | with_reducible assumption | (with_reducible refine gb_f ?_; with_reducible assumption) | (simp only [gb, *, cond_true, cond_false]; done) | ((with_reducible refine ks_t ?_); rfl) | ((with_reducible refine pk_t ?_); rfl) | ((with_reducible refine pf_t ?_); rfl) | ((with_reducible refine lk_t ?_); rfl) | ((with_reducible refine okF_t ?_); kernel_rfl) | grind [gb])
def bnds5_k : Con Tryz.prog := ⟨45, fun args => match args with | [.agg [.int .i64 5, .flt a, .flt b, .flt c, .flt d, .flt e, .flt f, .flt g, .flt h, .flt i, .flt r, .flt q, .int .i64 s]] => .ok (some (shapeE 5 a b c d e f g h i r q s = 0)) (.tup [.agg [.flt (F .sub (lessV a (F .add a d)) (wo (aloneV d e f) 0 r)), .flt (F .sub (lessV b (F .add b e)) (wo (aloneV d e f) 1 r)), .flt (F .sub (lessV c (F .add c f)) (wz (aloneV d e f) r)), .flt (F .add (moreV a (F .add a d)) (wo (aloneV d e f) 0 r)), .flt (F .add (moreV b (F .add b e)) (wo (aloneV d e f) 1 r)), .flt (F .add (moreV c (F .add c f)) (wz (aloneV d e f) r))], .int .i64 0]) | _ => .no, by
  intro args p r h hp
  split at h
  · cases h; exact bnds5_a _ _ _ _ _ _ _ _ _ _ _ _ hp
  · cases h⟩
def Shp.bod (p : Shp) : Prop := (p.k = 1 ∨ p.k = 2 ∨ p.k = 5) ∧ p.err = 0
theorem bnds_p (p : Shp) (h : p.bod) : ACalls Tryz.prog 45 [shpA p] (.tup [.agg (shpB p).row, .int .i64 0]) := by
  obtain ⟨hk, he⟩ := h
  obtain ⟨k, a, b, c, d, e, f, g, hh, i, rr, q, s⟩ := p
  unfold Shp.err at he
  unfold shpA shpB
  dsimp only at *
  rcases hk with rfl | rfl | rfl
  · exact bnds1_a a b c d e f g hh i rr q s he
  · exact bnds2_a a b c d e f g hh i rr q s he
  · exact bnds5_a a b c d e f g hh i rr q s he
def bnds_k : Con Tryz.prog := ⟨45, fun args => match args with
    | [.agg l] => .ok (some (shpA (shpOf l) = .agg l ∧ (shpOf l).bod)) (.tup [.agg (shpB (shpOf l)).row, .int .i64 0])
    | _ => .no, by
  intro args q u h hp
  split at h
  · cases h
    obtain ⟨h1, h2⟩ := hp
    rw [← h1]
    exact bnds_p _ h2
  · cases h⟩
theorem arnd_p (p : Shp) (h : p.bod) : ACalls Tryz.prog 47 [shpA p] (.agg (shpB p).row) := by
  obtain ⟨hk, he⟩ := h
  obtain ⟨k, a, b, c, d, e, f, g, hh, i, rr, q, s⟩ := p
  unfold Shp.err at he
  unfold shpA shpB
  dsimp only at *
  rcases hk with rfl | rfl | rfl
  · exact arnd1_a a b c d e f g hh i rr q s
  · exact arnd2_a a b c d e f g hh i rr q s
  · exact arnd5_a a b c d e f g hh i rr q s (tube_al he)
def arnd_k : Con Tryz.prog := ⟨47, fun args => match args with
    | [.agg l] => .ok (some (shpA (shpOf l) = .agg l ∧ (shpOf l).bod)) (.agg (shpB (shpOf l)).row)
    | _ => .no, by
  intro args q u h hp
  split at h
  · cases h
    obtain ⟨h1, h2⟩ := hp
    rw [← h1]
    exact arnd_p _ h2
  · cases h⟩
def boxR (T : Nat → Bx) (j : Nat) : List AV := (T j).row
/-- The boxes of the parts so far. -/
def tabB (P : Nat → Prt) : Nat → Nat → Bx
  | 0 => fun _ => ⟨0, 0, 0, 0, 0, 0⟩
  | k + 1 => fun j => if j = k then (if (P k).op = 0 then shpB (P k).p else if (P k).op = 2 then joinB (tabB P k (P k).l.toNat) (tabB P k (P k).m.toNat) else tabB P k (P k).l.toNat) else tabB P k j
theorem tabB_at (P : Nat → Prt) (k : Nat) : tabB P (k + 1) k = (if (P k).op = 0 then shpB (P k).p else if (P k).op = 2 then joinB (tabB P k (P k).l.toNat) (tabB P k (P k).m.toNat) else tabB P k (P k).l.toNat) := by
  show (if k = k then _ else _) = _
  rw [if_pos rfl]
theorem tabB_ne (P : Nat → Prt) {k j : Nat} (h : j ≠ k) : tabB P (k + 1) j = tabB P k j := by
  show (if j = k then _ else _) = _
  rw [if_neg h]
theorem tabB_0 (P : Nat → Prt) (j : Nat) : tabB P 0 j = ⟨0, 0, 0, 0, 0, 0⟩ := rfl
attribute [irreducible] tabB
theorem zero_at (P : Nat → Prt) (j : Nat) : flatF 6 (boxR (tabB P 0)) j = .flt 0 := by
  unfold flatF boxR
  rw [tabB_0]
  have := Nat.mod_lt j (show 0 < 6 by decide)
  generalize j % 6 = r at this
  rcases r with _ | _ | _ | _ | _ | _ | r <;> first | rfl | omega
theorem box_set {T T' : Nat → Bx} {k j : Nat} {X : Bx} (h1 : T' k = X) (h2 : ∀ j, j ≠ k → T' j = T j) : flatF 6 (boxR T') j = setA (0 + mulN k 6) X.row (flatF 6 (boxR T)) j := by
  unfold setA
  rw [mulN_eq, Nat.zero_add]
  by_cases e : j / 6 = k
  · have e2 : j = k * 6 + j % 6 := by omega
    have hc := Nat.mod_lt j (show 0 < 6 by decide)
    rw [if_pos ⟨by omega, by show j < k * 6 + 6; omega⟩, flat_row (i := k) (c := j % 6) hc e2]
    unfold boxR
    rw [h1, show j - k * 6 = j % 6 by omega]
  · rw [if_neg (fun ⟨q1, q2⟩ => e (by have q2 : j < k * 6 + 6 := q2; omega))]
    unfold flatF boxR
    rw [h2 _ e]
theorem box_app {T T' : Nat → Bx} {k j : Nat} {X : Bx} (hj : j < 6 * (k + 1)) (h1 : T' k = X) (h2 : ∀ j, j ≠ k → T' j = T j) : flatF 6 (boxR T') j = catA (k * 6) (flatF 6 (boxR T)) (fun j => X.row.getD j .any) j := by
  rw [box_set h1 h2]
  unfold setA catA
  rw [mulN_eq, Nat.zero_add]
  by_cases e : k * 6 ≤ j
  · rw [if_pos ⟨e, by show j < k * 6 + 6; omega⟩, if_neg (by omega)]
  · rw [if_neg (fun q => e q.1), if_pos (by omega)]
theorem view_oe {nm : Bool} {sz sz' : Nat} {row : Nat → List AV} {e : Int} {K : AV → Prop} (hs : sz' = sz) (hl : (row e.toNat).length = sz) (h : nameE nm (.agg (row e.toNat)) K) :
    nameE nm (.agg (List.map (fun j => flatF sz row (0 + mulN e.toNat sz + j)) (List.range sz'))) K := by
  have := view_flat (i := e.toNat) hs hl h
  rw [Int.toNat_natCast] at this
  simp only [Nat.zero_add] at *
  exact this
theorem size_Box : (Tab.cx.ti 33).size = 6 := rfl
theorem bytes_Box : (Tab.cx.ti 33).bytes = 48 := rfl
theorem zero_Box (j : Nat) : (List.map ofV0 (Tab.cx.ti 33).zero).getD (j % (Tab.cx.ti 33).zero.length) .any = .flt 0 := by
  have h : j % (Tab.cx.ti 33).zero.length < 6 := Nat.mod_lt j (show 0 < 6 by decide)
  generalize j % (Tab.cx.ti 33).zero.length = r at h
  rcases r with _ | _ | _ | _ | _ | _ | r <;> first | rfl | omega
theorem bx_0 {n : Nat} {P : Nat → Prt} {s : Int} (hS : solidE n P s = 0) {k : Nat} (hk : k < n) (h : ((P k).op == 0) = true) : (P k).p.bod ∧ tabB P (k + 1) k = shpB (P k).p := by
  have h := eq_of_beq h
  rcases part_op ((solid_ok hS).2 k hk) with g | g
  · exact ⟨⟨g.2.2, g.2.1⟩, by rw [tabB_at, if_pos h]⟩
  · omega
theorem bx_2 {n : Nat} {P : Nat → Prt} {s : Int} (hS : solidE n P s = 0) {k : Nat} (hk : k < n) (h : ((P k).op == 2) = true) : (0 ≤ (P k).l ∧ (P k).l.toNat < k ∧ 0 ≤ (P k).m ∧ (P k).m.toNat < k) ∧ tabB P (k + 1) k = joinB (tabB P k (P k).l.toNat) (tabB P k (P k).m.toNat) := by
  have h := eq_of_beq h
  rcases part_op ((solid_ok hS).2 k hk) with g | g
  · omega
  · exact ⟨g.2, by rw [tabB_at, if_neg (by omega), if_pos h]⟩
theorem bx_1 {n : Nat} {P : Nat → Prt} {s : Int} (hS : solidE n P s = 0) {k : Nat} (hk : k < n) (h0 : ((P k).op == 0) = false) (h2 : ((P k).op == 2) = false) : (0 ≤ (P k).l ∧ (P k).l.toNat < k ∧ 0 ≤ (P k).m ∧ (P k).m.toNat < k) ∧ tabB P (k + 1) k = tabB P k (P k).l.toNat := by
  have h0 := beq_eq_false_iff_ne.1 h0
  have h2 := beq_eq_false_iff_ne.1 h2
  rcases part_op ((solid_ok hS).2 k hk) with g | g
  · omega
  · exact ⟨g.2, by rw [tabB_at, if_neg h0, if_neg h2]⟩
structure BI2 (n : Nat) where
  k : Nat
  hk : k ≤ n
def solB (P : Nat → Prt) (n : Nat) : Bx := tabB P n (n - 1)
theorem bnds_f : FnOk Tryz.prog 22 Tryz.f22 := ⟨Tryz.func22, by kernel_rfl⟩
theorem bnds_a (n : Nat) (P : Nat → Prt) (s : Int) (hpre : solidE n P s = 0) : ACalls Tryz.prog 22 [.sl n 16 (partF P)] (.agg [.flt (solB P n).a, .flt (solB P n).b, .flt (solB P n).c, .flt (solB P n).d, .flt (solB P n).e, .flt (solB P n).f]) := by
  refine acalls_of (inl := hasI (P := Tryz.prog) [] []) (base [bnds_k, join_k] [] []) 0 bnds_f (And.intro (by kernel_rfl) ?_)
  have hS := hpre
  have hn := (solid_ok hS).1
  repeat' (first | refine And.intro ?_ ?_ | (with_reducible exact ff_elim) | (with_reducible exact tf_elim) | refine num_elim ?_ | intro _ | (with_reducible rfl) | ((with_reducible refine lk_t ?_); exact rfl) | ((with_reducible refine pf_t ?_); exact rfl) | refine tell ?_ | exact True.intro | (refine IsT.of ?_; kernel_rfl))
  all_goals (try (refine loop_keep [0, 2, 3, 9, 10] [0] ?_; refine LoopI.mk (BI2 n) (fun j => [(11, .int .i64 j.k)]) (fun j => [(3, .arr (6 * n) (flatF 6 (boxR (tabB P j.k))))]) (fun j => n - j.k) (⟨0, Nat.zero_le _⟩) (wk_mk [some 3, some 0] ?_) (fun ⟨k, hk⟩ => ?_)))
  repeat' (first | refine And.intro ?_ ?_ | (with_reducible exact ff_elim) | (with_reducible exact tf_elim) | refine stp_mk [some 3, some 0] ((⟨k + 1, ?_⟩ : BI2 n)) ?_ ?_ | refine view_part ?_ | refine view_oe rfl rfl ?_ | refine num_elim ?_ | intro _ | (with_reducible rfl) | ((with_reducible refine lk_t ?_); exact rfl) | ((with_reducible refine pf_t ?_); exact rfl) | refine tell ?_ | exact True.intro | (refine IsT.of ?_; kernel_rfl))
  all_goals (try refine Tell.mk ?_)
  all_goals (try dsimp only at *)
  all_goals first | with_reducible rfl | with_reducible assumption | (with_reducible refine gb_t ?_; with_reducible assumption) | (with_reducible refine gb_f ?_; with_reducible assumption) | skip
  all_goals (try simp only [mulN_eq, Nat.zero_add, Int.toNat_natCast, shpOf_eta, size_Box, bytes_Box, List.length_cons, List.length_nil] at *)
  all_goals (try (have hlt : k < n := lt_of (by assumption)))
  all_goals first | (have e0 : ((P k).op == 0) = true := (by assumption); obtain ⟨q, q2⟩ := bx_0 hS hlt e0) | (have e0 : ((P k).op == 2) = true := (by assumption); obtain ⟨q, q2⟩ := bx_2 hS hlt e0) | (have e0 : ((P k).op == 0) = false := (by assumption); have e2 : ((P k).op == 2) = false := (by assumption); obtain ⟨q, q2⟩ := bx_1 hS hlt e0 e2) | skip
  all_goals first | exact q.1 | exact q.2 | (rw [zero_at, zero_Box]; done) | omega | (show 16 ≤ 16; decide) | (rw [wrapI (by omega) (by omega)]; omega) | rfl | skip
  all_goals first | (rw [← Nat.zero_add (k * 6), ← mulN_eq]; exact box_set q2 fun j hj => tabB_ne P hj) | skip
  all_goals (obtain rfl : k = n := (by have := ge_of (by assumption : decide ((k : Int) < (n : Int)) = false); omega))
  all_goals first | (unfold solB; rw [last_ix (by omega)]; done) | (rw [last_ix (by omega)]; omega) | (rw [wrapI (by omega) (by omega)]; omega) | trace_state
def bndsP_k (n : Nat) (P : Nat → Prt) (s : Int) : Con Tryz.prog := ⟨22, fun args => .ok (some (args = [.sl n 16 (partF P)] ∧ solidE n P s = 0)) (.agg (solB P n).row), by
  intro args q u h hp
  cases h
  obtain ⟨rfl, h2⟩ := hp
  exact bnds_a n P s h2⟩
theorem boxRf_f : FnOk Tryz.prog 23 Tryz.f23 := ⟨Tryz.func23, by kernel_rfl⟩
theorem boxRf_a (n : Nat) (P : Nat → Prt) (s : Int) (hpre : solidE n P s = 0) : ACalls Tryz.prog 23 [.sl n 16 (partF P)] (.agg [.flt (solB P n).a, .flt (solB P n).b, .flt (solB P n).c, .flt (solB P n).d, .flt (solB P n).e, .flt (solB P n).f]) := by
  refine acalls_of (inl := hasI (P := Tryz.prog) [] []) (base [arnd_k, joinR_k] [] []) 0 boxRf_f (And.intro (by kernel_rfl) ?_)
  have hS := hpre
  have hn := (solid_ok hS).1
  repeat' (first | refine And.intro ?_ ?_ | (with_reducible exact ff_elim) | (with_reducible exact tf_elim) | refine num_elim ?_ | intro _ | (with_reducible rfl) | ((with_reducible refine lk_t ?_); exact rfl) | ((with_reducible refine pf_t ?_); exact rfl) | refine tell ?_ | exact True.intro | (refine IsT.of ?_; kernel_rfl))
  all_goals (try (refine loop_keep [0, 2] [0] ?_; refine LoopI.mk (BI2 n) (fun j => [(4, .int .i64 j.k), (3, .os 1 6 0 j.k)]) (fun j => [(1, .arr (6 * j.k) (flatF 6 (boxR (tabB P j.k))))]) (fun j => n - j.k) (⟨0, Nat.zero_le _⟩) (wk_mk [none, some 0] ?_) (fun ⟨k, hk⟩ => ?_)))
  repeat' (first | refine And.intro ?_ ?_ | (with_reducible exact ff_elim) | (with_reducible exact tf_elim) | refine' stp_mk [some _, some 0] ((⟨k + 1, ?_⟩ : BI2 n)) ?_ ?_ | refine view_part ?_ | refine view_oe rfl rfl ?_ | refine num_elim ?_ | intro _ | (with_reducible rfl) | ((with_reducible refine lk_t ?_); exact rfl) | ((with_reducible refine pf_t ?_); exact rfl) | refine tell ?_ | exact True.intro | (refine IsT.of ?_; kernel_rfl))
  all_goals (try refine Tell.mk ?_)
  all_goals (try dsimp only at *)
  all_goals first | with_reducible rfl | with_reducible assumption | (with_reducible refine gb_t ?_; with_reducible assumption) | (with_reducible refine gb_f ?_; with_reducible assumption) | skip
  all_goals (try simp only [mulN_eq, Nat.zero_add, Int.toNat_natCast, shpOf_eta, size_Box, bytes_Box, List.length_cons, List.length_nil] at *)
  all_goals (try (have hlt : k < n := lt_of (by assumption)))
  all_goals first | (have e0 : ((P k).op == 0) = true := (by assumption); obtain ⟨q, q2⟩ := bx_0 hS hlt e0) | (have e0 : ((P k).op == 2) = true := (by assumption); obtain ⟨q, q2⟩ := bx_2 hS hlt e0) | (have e0 : ((P k).op == 0) = false := (by assumption); have e2 : ((P k).op == 2) = false := (by assumption); obtain ⟨q, q2⟩ := bx_1 hS hlt e0 e2) | skip
  all_goals first | exact q.1 | exact q.2 | (rw [zero_at, zero_Box]; done) | omega | (show 16 ≤ 16; decide) | (rw [wrapI (by omega) (by omega)]; omega) | rfl | skip
  all_goals first | (exact box_app (by omega) q2 fun j hj => tabB_ne P hj) | skip
  all_goals (obtain rfl : k = n := (by have := ge_of (by assumption : decide ((k : Int) < (n : Int)) = false); omega))
  all_goals first | (unfold solB; rw [last_ix (by omega)]; done) | (rw [last_ix (by omega)]; omega) | (rw [wrapI (by omega) (by omega)]; omega) | trace_state
def boxRf_k (n : Nat) (P : Nat → Prt) (s : Int) : Con Tryz.prog := ⟨23, fun args => .ok (some (args = [.sl n 16 (partF P)] ∧ solidE n P s = 0)) (.agg (solB P n).row), by
  intro args q u h hp
  cases h
  obtain ⟨rfl, h2⟩ := hp
  exact boxRf_a n P s h2⟩
end Go.Proofs.YtgbcnfcgljbbgaaGreat
/- Solids: where a ray comes to their surface first. -/
namespace Go.Proofs.YtgbcnfcgljbbgaaGreat
open Go.RowKit Ev Flt
set_option linter.unusedVariables false
set_option linter.unusedSimpArgs false
set_option maxRecDepth 20000
set_option maxHeartbeats 4000000

def spE (n : Nat) (P : Nat → Prt) (s : Int) (r : Ray) : Int := if solidE n P s = 0 then r.e else solidE n P s
def spV (n : Nat) (P : Nat → Prt) (s : Int) (r : Ray) : List Spn := if spE n P s r = 0 then tabS P r n (n - 1) else []
theorem spE_0 {n : Nat} {P : Nat → Prt} {s : Int} {r : Ray} (h : spE n P s r = 0) : solidE n P s = 0 ∧ r.e = 0 := by
  unfold spE at h
  split at h
  · exact ⟨by assumption, h⟩
  · rename_i h2; exact absurd h h2
def solidMay_mc (n : Nat) (P : Nat → Prt) (s : Int) : MCon Tryz.prog := ⟨7, fun args own => .ok [] [.agg [.sl n 16 (partF P), .int .i64 s]] [] none (.int .i64 (solidE n P s)) [], by
  intro args own ks cargs rows p r rows2 h hp
  cases h
  exact solidMay_a n P s⟩
def solidMayR_mc (n : Nat) (P : Nat → Prt) (s : Int) : MCon Tryz.prog := ⟨8, fun args own => .ok [] [.agg [.sl n 16 (partF P), .int .i64 s]] [] none (.int .i64 (solidE n P s)) [], by
  intro args own ks cargs rows p r rows2 h hp
  cases h
  exact solidMayR_a n P s⟩
def made_k (n : Nat) (P : Nat → Prt) (s : Int) (r : Ray) : Con Tryz.prog := ⟨27, fun args => .ok (some (args = [.sl n 16 (partF P), rayA r] ∧ solidE n P s = 0 ∧ r.e = 0)) (.sl (tabS P r n (n - 1)).length 6 (flatF 6 (rowsS (tabS P r n (n - 1))))), by
  intro args p u h hp
  cases h
  obtain ⟨rfl, h2⟩ := hp
  exact made_a n P s r h2⟩
def spansOf_k (n : Nat) (P : Nat → Prt) (s : Int) (r : Ray) : Con Tryz.prog := ⟨29, fun args => .ok (some (args = [.sl n 16 (partF P), rayA r] ∧ solidE n P s = 0 ∧ r.e = 0)) (.sl (tabS P r n (n - 1)).length 6 (flatF 6 (rowsS (tabS P r n (n - 1))))), by
  intro args p u h hp
  cases h
  obtain ⟨rfl, h2⟩ := hp
  exact spansOfR_a n P s r h2⟩
theorem spansP_f : FnOk Tryz.prog 10 Tryz.f10 := ⟨Tryz.func10, by kernel_rfl⟩
theorem spansP_a (n : Nat) (P : Nat → Prt) (s : Int) (r : Ray) : ACalls Tryz.prog 10 [.agg [.sl n 16 (partF P), .int .i64 s], .agg [.flt r.x, .flt r.y, .flt r.z, .flt r.u, .flt r.v, .flt r.w, .flt r.l]] (.tup [.sl (spV n P s r).length 6 (flatF 6 (rowsS (spV n P s r))), .int .i64 (spE n P s r)]) := by
  refine acalls_of (inl := hasI (P := Tryz.prog) [] [(solidMay_mc n P s)]) (base [rayfine_k, (made_k n P s r)] [] [(solidMay_mc n P s)]) 0 spansP_f (And.intro (by kernel_rfl) ?_)
  repeat' (first | refine And.intro ?_ ?_ | (with_reducible exact ff_elim) | (with_reducible exact tf_elim) | intro _ | (with_reducible rfl) | ((with_reducible refine lk_t ?_); exact rfl) | ((with_reducible refine pf_t ?_); exact rfl) | refine tell ?_ | exact True.intro | (refine IsT.of ?_; kernel_rfl))
  all_goals (try refine Tell.mk ?_)
  all_goals first | with_reducible rfl | with_reducible assumption | (with_reducible refine gb_t ?_; with_reducible assumption) | (with_reducible refine gb_f ?_; with_reducible assumption) | skip
  all_goals first | (show (_ : List AV) = [AV.sl _ _ _, AV.agg _]; rfl) | skip
  all_goals (try simp only [bne_iff_ne, ne_eq, bne_eq_false_iff_eq, beq_iff_eq, beq_eq_false_iff_ne, Decidable.not_not, show ∀ r : Ray, rayV r.x r.y r.z r.u r.v r.w r.l = r.e from fun _ => rfl] at *)
  all_goals first | assumption | contradiction | (simp [spE, spV, *]; done) | trace_state
theorem spansR_f : FnOk Tryz.prog 11 Tryz.f11 := ⟨Tryz.func11, by kernel_rfl⟩
theorem spansR_a (n : Nat) (P : Nat → Prt) (s : Int) (r : Ray) : ACalls Tryz.prog 11 [.agg [.sl n 16 (partF P), .int .i64 s], .agg [.flt r.x, .flt r.y, .flt r.z, .flt r.u, .flt r.v, .flt r.w, .flt r.l]] (.tup [.sl (spV n P s r).length 6 (flatF 6 (rowsS (spV n P s r))), .int .i64 (spE n P s r)]) := by
  refine acalls_of (inl := hasI (P := Tryz.prog) [] [(solidMayR_mc n P s)]) (base [rayfineR_k, (spansOf_k n P s r)] [] [(solidMayR_mc n P s)]) 0 spansR_f (And.intro (by kernel_rfl) ?_)
  repeat' (first | refine And.intro ?_ ?_ | (with_reducible exact ff_elim) | (with_reducible exact tf_elim) | intro _ | (with_reducible rfl) | ((with_reducible refine lk_t ?_); exact rfl) | ((with_reducible refine pf_t ?_); exact rfl) | refine tell ?_ | exact True.intro | (refine IsT.of ?_; kernel_rfl))
  all_goals (try refine Tell.mk ?_)
  all_goals first | with_reducible rfl | with_reducible assumption | (with_reducible refine gb_t ?_; with_reducible assumption) | (with_reducible refine gb_f ?_; with_reducible assumption) | skip
  all_goals first | (show (_ : List AV) = [AV.sl _ _ _, AV.agg _]; rfl) | skip
  all_goals (try simp only [bne_iff_ne, ne_eq, bne_eq_false_iff_eq, beq_iff_eq, beq_eq_false_iff_ne, Decidable.not_not, show ∀ r : Ray, rayV r.x r.y r.z r.u r.v r.w r.l = r.e from fun _ => rfl] at *)
  all_goals first | assumption | contradiction | (simp [spE, spV, *]; done) | trace_state
def solA (n : Nat) (P : Nat → Prt) (s : Int) : AV := .agg [.sl n 16 (partF P), .int .i64 s]
def spansP_k (n : Nat) (P : Nat → Prt) (s : Int) (r : Ray) : Con Tryz.prog := ⟨10, fun args => .ok (some (args = [solA n P s, rayA r])) (.tup [.sl (spV n P s r).length 6 (flatF 6 (rowsS (spV n P s r))), .int .i64 (spE n P s r)]), by
  intro args p u h hp
  cases h
  have hp : args = [solA n P s, rayA r] := hp
  rw [hp]
  exact spansP_a n P s r⟩
def spansR_k (n : Nat) (P : Nat → Prt) (s : Int) (r : Ray) : Con Tryz.prog := ⟨11, fun args => .ok (some (args = [solA n P s, rayA r])) (.tup [.sl (spV n P s r).length 6 (flatF 6 (rowsS (spV n P s r))), .int .i64 (spE n P s r)]), by
  intro args p u h hp
  cases h
  have hp : args = [solA n P s, rayA r] := hp
  rw [hp]
  exact spansR_a n P s r⟩
/-- Where a ray comes to a surface. -/
structure Crs where
  t : Nat
  l : Int
  u : Bool
def crossL (L : List Spn) : List Crs := L.flatMap fun x => [⟨x.a, x.b, x.c⟩, ⟨x.d, x.e, x.f⟩]
def hitB (l : Nat) (c : Crs) : Bool := (fgt c.t l || feq c.t l) && fgt c.t 0
def firstC (l : Nat) : List Crs → Option Crs
  | [] => none
  | c :: r => bif hitB l c then some c else firstC l r
def strX (n : Nat) (P : Nat → Prt) (s : Int) (r : Ray) : Option Crs :=
  if spE n P s r = 0 ∧ meetB (solB P n).a (solB P n).b (solB P n).c (solB P n).d (solB P n).e (solB P n).f r.x r.y r.z r.u r.v r.w r.l = true then firstC r.l (crossL (spV n P s r)) else none
def strT (n : Nat) (P : Nat → Prt) (s : Int) (r : Ray) (t : Nat) : Nat := btw (meetX (solB P n).a (solB P n).b (solB P n).c (solB P n).d (solB P n).e (solB P n).f r.x r.y r.z r.u r.v r.w r.l) t (meetY (solB P n).a (solB P n).b (solB P n).c (solB P n).d (solB P n).e (solB P n).f r.x r.y r.z r.u r.v r.w r.l)
def strC (n : Nat) (P : Nat → Prt) (s : Int) (r : Ray) : Crs := match strX n P s r with | some c => ⟨strT n P s r c.t, c.l, c.u⟩ | none => ⟨0, 0, false⟩
def strO (n : Nat) (P : Nat → Prt) (s : Int) (r : Ray) : Bool := (strX n P s r).isSome
theorem str_hit {n : Nat} {P : Nat → Prt} {s : Int} {r : Ray} {c : Crs} (h : strX n P s r = some c) : strC n P s r = ⟨strT n P s r c.t, c.l, c.u⟩ ∧ strO n P s r = true := by unfold strC strO; rw [h]; exact ⟨rfl, rfl⟩
theorem str_no {n : Nat} {P : Nat → Prt} {s : Int} {r : Ray} (h : strX n P s r = none) : strC n P s r = ⟨0, 0, false⟩ ∧ strO n P s r = false := by unfold strC strO; rw [h]; exact ⟨rfl, rfl⟩
theorem cross_drop {L : List Spn} {i : Nat} (h : i < L.length) : crossL (L.drop i) = ⟨(L.getD i spnZ).a, (L.getD i spnZ).b, (L.getD i spnZ).c⟩ :: ⟨(L.getD i spnZ).d, (L.getD i spnZ).e, (L.getD i spnZ).f⟩ :: crossL (L.drop (i + 1)) := by
  rw [drop_cons h]; rfl
theorem cross_end {L : List Spn} {i : Nat} (h : L.length ≤ i) : crossL (L.drop i) = [] := by rw [List.drop_eq_nil_of_le h]; rfl
end Go.Proofs.YtgbcnfcgljbbgaaGreat
/- Solids: where a ray comes to their surface first, by the program and by the document. -/
namespace Go.Proofs.YtgbcnfcgljbbgaaGreat
open Go.RowKit Ev Flt
set_option linter.unusedVariables false
set_option linter.unusedSimpArgs false
set_option maxRecDepth 20000
set_option maxHeartbeats 4000000

theorem spV_len (n : Nat) (P : Nat → Prt) (s : Int) (r : Ray) : (spV n P s r).length ≤ 32 := by
  unfold spV
  split
  · rename_i h
    exact tab_len P r (Nat.le_refl _) (solid_ok (spE_0 h).1).1.2 _
  · exact Nat.zero_le _
section
variable {n : Nat} {P : Nat → Prt} {s : Int} {r : Ray}
theorem str_e (h : ¬ spE n P s r = 0) : strX n P s r = none := by unfold strX; rw [if_neg (fun q => h q.1)]
theorem str_m (h : meetB (solB P n).a (solB P n).b (solB P n).c (solB P n).d (solB P n).e (solB P n).f r.x r.y r.z r.u r.v r.w r.l = false) : strX n P s r = none := by
  unfold strX; rw [if_neg (fun q => by rw [h] at q; cases q.2)]
theorem str_f (h0 : spE n P s r = 0) (hm : meetB (solB P n).a (solB P n).b (solB P n).c (solB P n).d (solB P n).e (solB P n).f r.x r.y r.z r.u r.v r.w r.l = true) : strX n P s r = firstC r.l (crossL (spV n P s r)) := by
  unfold strX; rw [if_pos ⟨h0, hm⟩]
end
section
variable {l : Nat} {L : List Spn} {i : Nat}
theorem first_in (hi : i < L.length) (he : firstC l (crossL (L.drop i)) = firstC l (crossL L)) (h : hitB l ⟨(L.getD i spnZ).a, (L.getD i spnZ).b, (L.getD i spnZ).c⟩ = true) : firstC l (crossL L) = some ⟨(L.getD i spnZ).a, (L.getD i spnZ).b, (L.getD i spnZ).c⟩ := by
  rw [← he, cross_drop hi]
  show (bif hitB l _ then _ else _) = _
  rw [h]; rfl
theorem first_out (hi : i < L.length) (he : firstC l (crossL (L.drop i)) = firstC l (crossL L)) (h : hitB l ⟨(L.getD i spnZ).a, (L.getD i spnZ).b, (L.getD i spnZ).c⟩ = false) (h2 : hitB l ⟨(L.getD i spnZ).d, (L.getD i spnZ).e, (L.getD i spnZ).f⟩ = true) : firstC l (crossL L) = some ⟨(L.getD i spnZ).d, (L.getD i spnZ).e, (L.getD i spnZ).f⟩ := by
  rw [← he, cross_drop hi]
  show (bif hitB l _ then _ else bif hitB l _ then _ else _) = _
  rw [h, h2]; rfl
theorem first_next (hi : i < L.length) (he : firstC l (crossL (L.drop i)) = firstC l (crossL L)) (h : hitB l ⟨(L.getD i spnZ).a, (L.getD i spnZ).b, (L.getD i spnZ).c⟩ = false) (h2 : hitB l ⟨(L.getD i spnZ).d, (L.getD i spnZ).e, (L.getD i spnZ).f⟩ = false) : firstC l (crossL (L.drop (i + 1))) = firstC l (crossL L) := by
  rw [← he, cross_drop hi]
  show _ = (bif hitB l _ then _ else bif hitB l _ then _ else _)
  rw [h, h2]; rfl
theorem first_end (hi : L.length ≤ i) (he : firstC l (crossL (L.drop i)) = firstC l (crossL L)) : firstC l (crossL L) = none := by rw [← he, cross_end hi]; rfl
end
structure TI2 (l : Nat) (L : List Spn) where
  i : Nat
  hi : i ≤ L.length
  he : firstC l (crossL (L.drop i)) = firstC l (crossL L)
theorem strikeS_f : FnOk Tryz.prog 13 Tryz.f13 := ⟨Tryz.func13, by kernel_rfl⟩
theorem strikeS_a (n : Nat) (P : Nat → Prt) (s : Int) (r : Ray) : ACalls Tryz.prog 13 [.agg [.sl n 16 (partF P), .int .i64 s], .agg [.flt r.x, .flt r.y, .flt r.z, .flt r.u, .flt r.v, .flt r.w, .flt r.l]] (.tup [.agg [.flt (strC n P s r).t, .int .i64 (strC n P s r).l, .bool (strC n P s r).u], .bool (strO n P s r), .int .i64 (spE n P s r)]) := by
  refine acalls_of (inl := hasI (P := Tryz.prog) [] []) (base [(spansP_k n P s r), (bndsP_k n P s), meets_k, greater_k, lesser_k] [] []) 0 strikeS_f (And.intro (by kernel_rfl) ?_)
  repeat' (first | refine And.intro ?_ ?_ | (with_reducible exact ff_elim) | (with_reducible exact tf_elim) | refine num_elim ?_ | intro _ | (with_reducible rfl) | ((with_reducible refine lk_t ?_); exact rfl) | ((with_reducible refine pf_t ?_); exact rfl) | refine tell ?_ | exact True.intro | (refine IsT.of ?_; kernel_rfl))
  all_goals (try (refine loop_keep [3, 4, 8, 9, 37, 38] [1, 2] ?_; refine LoopI.mk (TI2 r.l (spV n P s r)) (fun j => [(39, .int .i64 j.i)]) (fun j => []) (fun j => (spV n P s r).length - j.i) (⟨0, Nat.zero_le _, rfl⟩) (wk_mk [some 1, some 2] ?_) (fun ⟨i, hi, he⟩ => ?_)))
  repeat' (first | refine And.intro ?_ ?_ | (with_reducible exact ff_elim) | (with_reducible exact tf_elim) | refine stp_mk [some 1, some 2] ((⟨i + 1, ?_, ?_⟩ : TI2 r.l (spV n P s r))) ?_ ?_ | refine view_flat rfl rfl ?_ | refine view_take (by rfl) rfl ?_ | refine view_drop (by rfl) rfl ?_ | refine view_cell (by rfl) ?_ | refine view_rd (by rfl) rfl ?_ | refine view_rc (by rfl) ?_ | refine view1_c (by rfl) ?_ | refine view1_0 (by rfl) ?_ | refine view_f0 rfl rfl ?_ | refine Or.inl ⟨4, ?_⟩ | refine num_lit 0 (by decide) ?_ | refine num_lit 1 (by decide) ?_ | refine num_lit 2 (by decide) ?_ | refine num_lit 3 (by decide) ?_ | refine num_lit 4 (by decide) ?_ | refine num_lit 5 (by decide) ?_ | refine num_lit 6 (by decide) ?_ | refine num_lit 7 (by decide) ?_ | refine num_lit 8 (by decide) ?_ | (intro h; exact absurd h (by decide)) | refine num_elim ?_ | intro _ | (with_reducible rfl) | ((with_reducible refine lk_t ?_); exact rfl) | ((with_reducible refine pf_t ?_); exact rfl) | refine tell ?_ | exact True.intro | (refine IsT.of ?_; kernel_rfl))
  all_goals (try refine Tell.mk ?_)
  all_goals (try dsimp only at *)
  all_goals first | with_reducible rfl | with_reducible assumption | (with_reducible refine gb_t ?_; with_reducible assumption) | (with_reducible refine gb_f ?_; with_reducible assumption) | skip
  all_goals first | (show (_ : List AV) = [AV.agg _, AV.agg _]; rfl) | (show (_ : List AV) = [AV.sl _ _ _]; rfl) | skip
  all_goals (try simp only [bne_iff_ne, ne_eq, bne_eq_false_iff_eq, Bool.not_eq_true', Bool.not_eq_false', size_Span, Nat.le_refl] at *)
  all_goals (have hl := spV_len n P s r)
  all_goals first | (have x := str_e (by assumption : ¬ spE n P s r = 0)) | (have x := str_m (n := n) (P := P) (s := s) (r := r) (by assumption)) | (have x0 := str_f (n := n) (P := P) (s := s) (r := r) (by assumption) (by assumption)) | skip
  all_goals (try (have hlt : i < (spV n P s r).length := lt_of (by assumption)))
  all_goals first | (have q1 : hitB r.l ⟨((spV n P s r).getD i spnZ).a, ((spV n P s r).getD i spnZ).b, ((spV n P s r).getD i spnZ).c⟩ = true := (by unfold hitB; with_reducible assumption)) | (have q1 : hitB r.l ⟨((spV n P s r).getD i spnZ).a, ((spV n P s r).getD i spnZ).b, ((spV n P s r).getD i spnZ).c⟩ = false := (by unfold hitB; with_reducible assumption)) | skip
  all_goals first | (have q2 : hitB r.l ⟨((spV n P s r).getD i spnZ).d, ((spV n P s r).getD i spnZ).e, ((spV n P s r).getD i spnZ).f⟩ = true := (by unfold hitB; with_reducible assumption)) | (have q2 : hitB r.l ⟨((spV n P s r).getD i spnZ).d, ((spV n P s r).getD i spnZ).e, ((spV n P s r).getD i spnZ).f⟩ = false := (by unfold hitB; with_reducible assumption)) | skip
  all_goals first | (have x := x0.trans (first_in hlt he q1)) | (have x := x0.trans (first_out hlt he q1 q2)) | (have x := x0.trans (first_end (ge_of (by assumption)) he)) | skip
  all_goals first | exact (spE_0 (by assumption)).1 | exact first_next hlt he q1 q2 | (rw [(str_hit x).1]; rfl) | (rw [(str_hit x).1]; done) | (rw [(str_hit x).2]; done) | (rw [(str_no x).1]; done) | (rw [(str_no x).2]; done) | omega | (rw [wrapI (by omega) (by omega)]; omega) | rfl | trace_state
theorem view_te {nm : Bool} {sz sz' o : Nat} {row : Nat → List AV} {e : Int} {K : AV → Prop} (i : Nat) (he : e.toNat = i) (hs : Nat.ble (o + sz') sz = true) (hl : (row i).length = sz) (h : nameE nm (.agg (((row i).drop o).take sz')) K) :
    nameE nm (.agg (List.map (fun j => flatF sz row (mulN e.toNat sz + (o + j))) (List.range sz'))) K := by
  have := view_rd (i := i) hs hl h
  rw [Int.toNat_natCast] at this
  rw [he]; exact this
theorem ix2 {k : Nat} (h : k ≤ 1000) : (IntKind.i64.wrap ((k : Int).tdiv 2)).toNat = k / 2 := by
  rw [show (k : Int).tdiv 2 = ((k / 2 : Nat) : Int) by rw [Int.tdiv_eq_ediv_of_nonneg (by omega)]; rfl, wrapI (by omega) (by omega)]; rfl
theorem rem2 {k : Nat} (h : k ≤ 1000) : IntKind.i64.wrap ((k : Int).tmod 2) = ((k % 2 : Nat) : Int) := by
  rw [show (k : Int).tmod 2 = ((k % 2 : Nat) : Int) by rw [Int.tmod_eq_emod_of_nonneg (by omega)]; rfl, wrapI (by omega) (by omega)]
theorem cross_len (L : List Spn) : (crossL L).length = 2 * L.length := by
  induction L with
  | nil => rfl
  | cons x r ih =>
    have e : crossL (x :: r) = ⟨x.a, x.b, x.c⟩ :: ⟨x.d, x.e, x.f⟩ :: crossL r := rfl
    rw [e]; simp only [List.length_cons, ih]; omega
def crsAt (L : List Spn) (k : Nat) : Crs := if k % 2 = 1 then ⟨(L.getD (k / 2) spnZ).d, (L.getD (k / 2) spnZ).e, (L.getD (k / 2) spnZ).f⟩ else ⟨(L.getD (k / 2) spnZ).a, (L.getD (k / 2) spnZ).b, (L.getD (k / 2) spnZ).c⟩
theorem cross_at : ∀ (L : List Spn) (k : Nat), k < 2 * L.length → (crossL L).drop k = crsAt L k :: (crossL L).drop (k + 1)
  | [], k, h => by simp at h
  | x :: r, 0, _ => rfl
  | x :: r, 1, _ => rfl
  | x :: r, k + 2, h => by
    have e : crossL (x :: r) = ⟨x.a, x.b, x.c⟩ :: ⟨x.d, x.e, x.f⟩ :: crossL r := rfl
    have h' : k < 2 * r.length := by simp only [List.length_cons] at h; omega
    rw [e]
    show (crossL r).drop k = _ :: (crossL r).drop (k + 1)
    rw [cross_at r k h']
    have e2 : crsAt (x :: r) (k + 2) = crsAt r k := by
      unfold crsAt
      rw [show (k + 2) % 2 = k % 2 by omega, show (k + 2) / 2 = k / 2 + 1 by omega]
      rfl
    rw [e2]
section
variable {l : Nat} {L : List Spn} {k : Nat}
theorem firstR_hit (hk : k < 2 * L.length) (he : firstC l ((crossL L).drop k) = firstC l (crossL L)) (h : hitB l (crsAt L k) = true) : firstC l (crossL L) = some (crsAt L k) := by
  rw [← he, cross_at L k hk]
  show (bif hitB l _ then _ else _) = _
  rw [h]; rfl
theorem firstR_next (hk : k < 2 * L.length) (he : firstC l ((crossL L).drop k) = firstC l (crossL L)) (h : hitB l (crsAt L k) = false) : firstC l ((crossL L).drop (k + 1)) = firstC l (crossL L) := by
  rw [← he, cross_at L k hk]
  show _ = (bif hitB l _ then _ else _)
  rw [h]; rfl
theorem firstR_end (hk : 2 * L.length ≤ k) (he : firstC l ((crossL L).drop k) = firstC l (crossL L)) : firstC l (crossL L) = none := by
  rw [← he, List.drop_eq_nil_of_le (by rw [cross_len]; exact hk)]; rfl
theorem crs_1 (h : k % 2 = 1) : crsAt L k = ⟨(L.getD (k / 2) spnZ).d, (L.getD (k / 2) spnZ).e, (L.getD (k / 2) spnZ).f⟩ := by unfold crsAt; rw [if_pos h]
theorem crs_0 (h : ¬ k % 2 = 1) : crsAt L k = ⟨(L.getD (k / 2) spnZ).a, (L.getD (k / 2) spnZ).b, (L.getD (k / 2) spnZ).c⟩ := by unfold crsAt; rw [if_neg h]
end
theorem lt2 {k n : Nat} (hn : n ≤ 32) (h : decide ((k : Int) < IntKind.i64.wrap (2 * (n : Int))) = true) : k < 2 * n := by
  rw [wrapI (by omega) (by omega)] at h
  have := of_decide_eq_true h; omega
theorem ge2 {k n : Nat} (hn : n ≤ 32) (h : decide ((k : Int) < IntKind.i64.wrap (2 * (n : Int))) = false) : 2 * n ≤ k := by
  rw [wrapI (by omega) (by omega)] at h
  have := of_decide_eq_false h; omega
theorem tmod2 (k : Nat) : (k : Int).tmod 2 = ((k % 2 : Nat) : Int) := by rw [Int.tmod_eq_emod_of_nonneg (by omega)]; rfl
theorem tdiv2 (k : Nat) : (k : Int).tdiv 2 = ((k / 2 : Nat) : Int) := by rw [Int.tdiv_eq_ediv_of_nonneg (by omega)]; rfl
theorem rm1 {k : Nat} (h : ((k : Int).tmod 2 == 1) = true) : k % 2 = 1 := by
  have := eq_of_beq h
  rw [tmod2] at this; omega
theorem rm0 {k : Nat} (h : ((k : Int).tmod 2 == 1) = false) : ¬ k % 2 = 1 := by
  have := beq_eq_false_iff_ne.1 h
  rw [tmod2] at this; omega
structure TR2 (l : Nat) (L : List Spn) where
  k : Nat
  hk : k ≤ 2 * L.length
  he : firstC l ((crossL L).drop k) = firstC l (crossL L)
theorem strikeR_f : FnOk Tryz.prog 14 Tryz.f14 := ⟨Tryz.func14, by kernel_rfl⟩
theorem strikeR_a (n : Nat) (P : Nat → Prt) (s : Int) (r : Ray) : ACalls Tryz.prog 14 [.agg [.sl n 16 (partF P), .int .i64 s], .agg [.flt r.x, .flt r.y, .flt r.z, .flt r.u, .flt r.v, .flt r.w, .flt r.l]] (.tup [.agg [.flt (strC n P s r).t, .int .i64 (strC n P s r).l, .bool (strC n P s r).u], .bool (strO n P s r), .int .i64 (spE n P s r)]) := by
  refine acalls_of (inl := hasI (P := Tryz.prog) [] []) (base [(spansR_k n P s r), (boxRf_k n P s), meetsS_k, betweenR_k] [] []) 0 strikeR_f (And.intro (by kernel_rfl) ?_)
  have hl := spV_len n P s r
  repeat' (first | refine And.intro ?_ ?_ | (with_reducible exact ff_elim) | (with_reducible exact tf_elim) | refine num_elim ?_ | intro _ | (with_reducible rfl) | ((with_reducible refine lk_t ?_); exact rfl) | ((with_reducible refine pf_t ?_); exact rfl) | refine tell ?_ | exact True.intro | (refine IsT.of ?_; kernel_rfl))
  all_goals (try (refine loop_keep [3, 4, 7, 9, 10] [1, 2] ?_; refine LoopI.mk (TR2 r.l (spV n P s r)) (fun j => [(12, .int .i64 j.k)]) (fun j => []) (fun j => 2 * (spV n P s r).length - j.k) (⟨0, Nat.zero_le _, rfl⟩) (wk_mk [some 1, some 2] ?_) (fun ⟨k, hk, he⟩ => ?_)))
  repeat' (first | refine And.intro ?_ ?_ | (with_reducible exact ff_elim) | (with_reducible exact tf_elim) | refine stp_mk [some 1, some 2] ((⟨k + 1, ?_, ?_⟩ : TR2 r.l (spV n P s r))) ?_ ?_ | refine view_te (k / 2) (ix2 (k := k) (by omega)) (by rfl) rfl ?_ | refine view_flat rfl rfl ?_ | refine view_take (by rfl) rfl ?_ | refine view_drop (by rfl) rfl ?_ | refine view_cell (by rfl) ?_ | refine view_rd (by rfl) rfl ?_ | refine view_rc (by rfl) ?_ | refine view1_c (by rfl) ?_ | refine view1_0 (by rfl) ?_ | refine view_f0 rfl rfl ?_ | refine num_elim ?_ | intro _ | (with_reducible rfl) | ((with_reducible refine lk_t ?_); exact rfl) | ((with_reducible refine pf_t ?_); exact rfl) | refine tell ?_ | exact True.intro | (refine IsT.of ?_; kernel_rfl))
  all_goals (try refine Tell.mk ?_)
  all_goals (try dsimp only at *)
  all_goals first | with_reducible rfl | with_reducible assumption | (with_reducible refine gb_t ?_; with_reducible assumption) | (with_reducible refine gb_f ?_; with_reducible assumption) | skip
  all_goals first | (show (_ : List AV) = [AV.agg _, AV.agg _]; rfl) | (show (_ : List AV) = [AV.sl _ _ _]; rfl) | skip
  all_goals (try simp only [bne_iff_ne, ne_eq, bne_eq_false_iff_eq, Bool.not_eq_true', Bool.not_eq_false', size_Span, size_Cross, Nat.le_refl] at *)
  all_goals first | (have x := str_e (by assumption : ¬ spE n P s r = 0)) | (have x := str_m (n := n) (P := P) (s := s) (r := r) (by assumption)) | (have x0 := str_f (n := n) (P := P) (s := s) (r := r) (by assumption) (by assumption)) | skip
  all_goals (try (have hlt : k < 2 * (spV n P s r).length := lt2 hl (by assumption)))
  all_goals first | (have c := crs_1 (L := spV n P s r) (rm1 (by assumption : ((k : Int).tmod 2 == 1) = true))) | (have c := crs_0 (L := spV n P s r) (rm0 (by assumption : ((k : Int).tmod 2 == 1) = false))) | skip
  all_goals first | (have q1 : hitB r.l (crsAt (spV n P s r) k) = true := (by rw [c]; unfold hitB; with_reducible assumption)) | (have q1 : hitB r.l (crsAt (spV n P s r) k) = false := (by rw [c]; unfold hitB; with_reducible assumption)) | skip
  all_goals first | (have x := x0.trans (firstR_hit hlt he q1)) | (have x := x0.trans (firstR_end (ge2 hl (by assumption)) he)) | skip
  all_goals first | exact (spE_0 (by assumption)).1 | exact firstR_next hlt he q1 | assumption | (rw [(str_hit x).1, c]; rfl) | (rw [(str_hit x).1, c]; done) | (rw [(str_hit x).2]; done) | (rw [(str_no x).1]; done) | (rw [(str_no x).2]; done) | omega | (rw [tdiv2, wrapI (by omega) (by omega)]; omega) | (rw [wrapI (by omega) (by omega)]; omega) | rfl | trace_state
end Go.Proofs.YtgbcnfcgljbbgaaGreat
