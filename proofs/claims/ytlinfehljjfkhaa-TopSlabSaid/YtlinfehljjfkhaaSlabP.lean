/- The two Meets are one; what is the same is the same. -/
import Derived.Test.YtlinfehljjfkhaaSlabF
import Derived.Test.YtlinfehljjfkhaaFltOrd
namespace Go.Proofs.Ytlinfehljjfkhaa
open Go.RowKit Ev
set_option linter.unusedVariables false
set_option linter.unusedSimpArgs false

theorem sameV_refl (x : Nat) : sameV x x = true := by
  unfold sameV
  cases h : feq x x with
  | false => rfl
  | true =>
    cases h0 : feq x 0 with
    | false => rfl
    | true => rw [feq_refl (over_zero h0)]; rfl
theorem near_notN {x : Nat} (h : nearB x = true) : isN x = false := by
  cases hx : isN x with
  | false => rfl
  | true =>
    obtain ⟨h1, h2, h3⟩ := flt_nan (y := 13920209183539462144) hx
    unfold nearB at h
    rw [h2, h3] at h
    cases h
theorem fine_notN {a b c : Nat} (h : fineB a b c = true) : isN a = false ∧ isN b = false ∧ isN c = false := by
  unfold fineB at h
  rw [Bool.and_eq_true, Bool.and_eq_true] at h
  exact ⟨near_notN h.1.1, near_notN h.1.2, near_notN h.2⟩
theorem may_fine {a b c d e f : Nat} (h : mayV a b c d e f = 0) : fineB a b c = true ∧ fineB d e f = true := by
  unfold mayV at h
  cases h1 : fineB a b c <;> cases h2 : fineB d e f <;> rw [h1, h2] at h <;> first | exact ⟨rfl, rfl⟩ | exact absurd (show (1 : Int) = 0 from h) (by decide)
theorem ray_fine {a b c d e f l : Nat} (h : rayV a b c d e f l = 0) : fineB a b c = true ∧ fineB d e f = true ∧ nearB l = true := by
  unfold rayV at h
  cases h1 : fineB a b c <;> cases h2 : fineB d e f <;> cases h3 : nearB l <;> rw [h1, h2, h3] at h <;> first | exact ⟨rfl, rfl, rfl⟩ | exact absurd (show (1 : Int) = 0 from h) (by decide)
theorem bad_cut {o : Bool} {lo hi fr d : Nat} (h1 : isN lo = false) (h2 : isN hi = false) (h3 : isN fr = false) : cutO o lo hi fr d = (o && !(badV lo hi fr d)) := by
  unfold cutO badV
  rw [le_not h1 h3, le_not h3 h2, fgt_flt lo fr]
  cases feq d 0 <;> cases o <;> cases flt fr lo <;> cases fgt fr hi <;> rfl
theorem ref_c (a b c d e f p q r u v w l : Nat) : refC a b c d e f p q r u v w l = (bif meetC a b c d e f p q r u v w l then true else meetD a b c d e f p q r u v w l) := by
  unfold refC
  cases h : meetC a b c d e f p q r u v w l with
  | true => rfl
  | false =>
    unfold meetC at h
    rw [Bool.or_eq_false_iff] at h
    obtain ⟨h1, h2⟩ := may_fine (a := a) (b := b) (c := c) (d := d) (e := e) (f := f) (by simpa using h.1)
    obtain ⟨h3, h4, h5⟩ := ray_fine (a := p) (b := q) (c := r) (d := u) (e := v) (f := w) (l := l) (by simpa using h.2)
    obtain ⟨a1, a2, a3⟩ := fine_notN h1
    obtain ⟨b1, b2, b3⟩ := fine_notN h2
    obtain ⟨c1, c2, c3⟩ := fine_notN h3
    unfold meetD meetO
    rw [bad_cut a1 b1 c1, bad_cut a2 b2 c2, bad_cut a3 b3 c3]
    cases badV a d p u <;> cases badV b e q v <;> cases badV c f r w <;> rfl
theorem ref_b (a b c d e f p q r u v w l : Nat) : refB a b c d e f p q r u v w l = meetB a b c d e f p q r u v w l := by
  unfold refB meetB; rw [ref_c]; cases meetC a b c d e f p q r u v w l <;> rfl
theorem ref_x (a b c d e f p q r u v w l : Nat) : refX a b c d e f p q r u v w l = meetX a b c d e f p q r u v w l := by
  unfold refX meetX; rw [ref_c]; cases meetC a b c d e f p q r u v w l <;> rfl
theorem ref_y (a b c d e f p q r u v w l : Nat) : refY a b c d e f p q r u v w l = meetY a b c d e f p q r u v w l := by
  unfold refY meetY; rw [ref_c]; cases meetC a b c d e f p q r u v w l <;> rfl
end Go.Proofs.Ytlinfehljjfkhaa
