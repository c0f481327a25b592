/- Small functions, by the abstract machine. -/
import Derived.Test.YtnhgicdmlcnpkaaEvLoop
import Derived.Test.YtnhgicdmlcnpkaaTab
namespace Go.Proofs.Ytnhgicdmlcnpkaa
open Go.RowKit Ev
set_option linter.unusedVariables false
set_option linter.unusedSimpArgs false
set_option maxRecDepth 20000

theorem base (l : List (Con Try.prog)) (m : List (Inl Try.prog)) (k : List (MCon Try.prog)) : Base Try.prog Tab.cx (conL l) (inlL m) (mcL k) := ⟨Tab.cx_ok, conL_ok l, by kernel_rfl, inlL_ok m, mcL_ok k⟩
/-- Near: V1. -/
def nearB (x : Nat) : Bool := (fgt x 13920209183539462144 || feq x 13920209183539462144) && (flt x 4696837146684686336 || feq x 4696837146684686336)
def cleanV (x : Nat) : Nat := bif fgt x 13740701229962882445 && flt x 4517329193108106637 then 0 else x
def fineB (a b c : Nat) : Bool := nearB a && nearB b && nearB c
def lessV (a b : Nat) : Nat := bif flt b a then b else a
def moreV (a b : Nat) : Nat := bif fgt b a then b else a
def axV (a b c : Nat) (k : Int) : Nat := bif k == 0 then a else bif k == 1 then b else c
end Go.Proofs.Ytnhgicdmlcnpkaa
