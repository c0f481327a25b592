/- Functions with small loops, by the abstract machine. -/
import Derived.Test.YtnhgicdmlcnpkaaSlabA
namespace Go.Proofs.Ytnhgicdmlcnpkaa
open Go.RowKit Ev
set_option linter.unusedVariables false
set_option linter.unusedSimpArgs false
set_option maxRecDepth 20000

theorem axV0 (a b c : Nat) : axV a b c 0 = a := rfl
theorem axV1 (a b c : Nat) : axV a b c 1 = b := rfl
theorem axV2 (a b c : Nat) : axV a b c 2 = c := rfl
def mayV (a b c d e f : Nat) : Int := bif fineB a b c && fineB d e f then (bif fgt a d || fgt b e || fgt c f then 6 else 0) else 1
def inV (a b c d e f a' b' c' d' e' f' : Nat) : Bool := (flt a' a || feq a' a) && (flt b' b || feq b' b) && (flt c' c || feq c' c) && (flt d d' || feq d d') && (flt e e' || feq e e') && (flt f f' || feq f f')
end Go.Proofs.Ytnhgicdmlcnpkaa
