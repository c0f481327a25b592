/- Eyes and their rays; the law BounceRays. -/
import Derived.Test.YtgbcnfcgljbbgaaSame
import Derived.Test.YtgbcnfcgljbbgaaSame
namespace Go.Proofs.Ytgbcnfcgljbbgaa
open Go.RowKit Ev
set_option linter.unusedVariables false
set_option linter.unusedSimpArgs false
set_option maxRecDepth 20000
set_option maxHeartbeats 4000000

/-- A number that is near is a number. -/
theorem near_num {x : Nat} (h : nearB x = true) : isN x = false := by
  cases hx : isN x
  · rfl
  · have e := (flt_nan (y := 13920209183539462144) hx)
    unfold nearB at h
    rw [e.2.1, e.2.2] at h
    cases h
theorem zero_num : isN 0 = false := by decide +kernel
theorem pos_le {x : Nat} (h : nearB x = true) : (flt x 0 || feq x 0) = !(fgt x 0) := le_not (near_num h) zero_num
/-- What a view of an eye is made of. -/
def vF (a b c d e f x : Nat) : Nat := unitV (F .sub d a) (F .sub e b) (F .sub f c) x
def vX (a b c d e f : Nat) : Nat := vF a b c d e f (F .sub d a)
def vY (a b c d e f : Nat) : Nat := vF a b c d e f (F .sub e b)
def vZ (a b c d e f : Nat) : Nat := vF a b c d e f (F .sub f c)
def gX (a b c d e f u v w : Nat) : Nat := crsV (vY a b c d e f) (vZ a b c d e f) v w
def gY (a b c d e f u v w : Nat) : Nat := crsV (vZ a b c d e f) (vX a b c d e f) w u
def gZ (a b c d e f u v w : Nat) : Nat := crsV (vX a b c d e f) (vY a b c d e f) u v
def gL (a b c d e f u v w : Nat) : Nat := lenV (gX a b c d e f u v w) (gY a b c d e f u v w) (gZ a b c d e f u v w)
def eyeP (a b c d e f u v w k : Nat) (pos : Bool) : Int :=
  bif !(fineB a b c) || !(fineB d e f) || !(fineB u v w) || !(nearB k) then 1 else bif pos then 6 else
  bif !(unitE (F .sub d a) (F .sub e b) (F .sub f c) == 0) then unitE (F .sub d a) (F .sub e b) (F .sub f c) else bif feq (gL a b c d e f u v w) 0 then 2 else 0
def eyeE (a b c d e f u v w k : Nat) : Int := eyeP a b c d e f u v w k (!(fgt k 0))
def eyeR (a b c d e f u v w k : Nat) : Int := eyeP a b c d e f u v w k (flt k 0 || feq k 0)
theorem eye_eq (a b c d e f u v w k : Nat) : eyeR a b c d e f u v w k = eyeE a b c d e f u v w k := by
  unfold eyeR eyeE
  cases h : nearB k
  · unfold eyeP; rw [h]; simp
  · rw [pos_le h]
theorem feq00 : feq 0 0 = true := by decide +kernel
def nI (n : Int) : Nat := cn (FloatKind.f64.nearest n)
/-- The way of a ray. -/
def sA (U : Int) (k : Nat) : Nat := F .mul (F .sub (F .quo (nI U) 4679240012837945344) 4602678819172646912) k
def sB (V : Int) (k t : Nat) : Nat := F .mul (F .mul (F .sub 4602678819172646912 (F .quo (nI V) 4679240012837945344)) k) t
def rX (a b c d e f u v w : Nat) : Nat := F .quo (gX a b c d e f u v w) (gL a b c d e f u v w)
def rY (a b c d e f u v w : Nat) : Nat := F .quo (gY a b c d e f u v w) (gL a b c d e f u v w)
def rZ (a b c d e f u v w : Nat) : Nat := F .quo (gZ a b c d e f u v w) (gL a b c d e f u v w)
def oX (a b c d e f u v w : Nat) : Nat := crsV (rY a b c d e f u v w) (rZ a b c d e f u v w) (vY a b c d e f) (vZ a b c d e f)
def oY (a b c d e f u v w : Nat) : Nat := crsV (rZ a b c d e f u v w) (rX a b c d e f u v w) (vZ a b c d e f) (vX a b c d e f)
def oZ (a b c d e f u v w : Nat) : Nat := crsV (rX a b c d e f u v w) (rY a b c d e f u v w) (vX a b c d e f) (vY a b c d e f)
def wX (a b c d e f u v w k : Nat) (U V : Int) (t : Nat) : Nat := cleanV (F .add (F .add (vX a b c d e f) (F .mul (rX a b c d e f u v w) (sA U k))) (F .mul (oX a b c d e f u v w) (sB V k t)))
def wY (a b c d e f u v w k : Nat) (U V : Int) (t : Nat) : Nat := cleanV (F .add (F .add (vY a b c d e f) (F .mul (rY a b c d e f u v w) (sA U k))) (F .mul (oY a b c d e f u v w) (sB V k t)))
def wZ (a b c d e f u v w k : Nat) (U V : Int) (t : Nat) : Nat := cleanV (F .add (F .add (vZ a b c d e f) (F .mul (rZ a b c d e f u v w) (sA U k))) (F .mul (oZ a b c d e f u v w) (sB V k t)))
/-- What a ray is asked for first. -/
def askP (y : Int) (U V : Int) (t : Nat) (pos : Bool) : Int := bif !(y == 0) then y else bif !(nearB t) || pos then 1 else bif decide (U < 0) || decide (U > 65536) || decide (V < 0) || decide (V > 65536) then 6 else 0
def askE (a b c d e f u v w k : Nat) (U V : Int) (t : Nat) : Int := askP (eyeE a b c d e f u v w k) U V t (!(fgt t 0))
def askR (a b c d e f u v w k : Nat) (U V : Int) (t : Nat) : Int := askP (eyeR a b c d e f u v w k) U V t (flt t 0 || feq t 0)
theorem ask_eq (a b c d e f u v w k : Nat) (U V : Int) (t : Nat) : askR a b c d e f u v w k U V t = askE a b c d e f u v w k U V t := by
  unfold askR askE
  rw [eye_eq]
  cases h : nearB t
  · unfold askP; rw [h]; simp
  · rw [pos_le h]
def ifb (y : Int) (x : Nat) : Nat := bif y == 0 then x else 0
def rayQ (y : Int) (a b c x y' z : Nat) : Int := bif y == 0 then rayV a b c x y' z 0 else y
end Go.Proofs.Ytgbcnfcgljbbgaa
