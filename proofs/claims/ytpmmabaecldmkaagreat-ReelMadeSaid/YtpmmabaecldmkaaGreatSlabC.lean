/- Rays, sameness. -/
import Derived.Test.YtpmmabaecldmkaaGreatSlabB
namespace Go.Proofs.YtpmmabaecldmkaaGreat
open Go.RowKit Ev
set_option linter.unusedVariables false
set_option linter.unusedSimpArgs false
set_option maxRecDepth 20000
set_option maxHeartbeats 4000000

def rayV (a b c d e f l : Nat) : Int := bif !(fineB a b c) || (!(fineB d e f) || !(nearB l)) then 1 else
  bif feq d 0 && (feq e 0 && feq f 0) then 2 else
  bif !(feq d (cleanV d) && (feq e (cleanV e) && feq f (cleanV f))) then 1 else bif flt l 0 then 6 else 0
def sameV (a b : Nat) : Bool := bif !(feq a a) || !(feq b b) then !(feq a a) && !(feq b b) else feq a b && (!(feq a 0) || feq (F .quo 4607182418800017408 a) (F .quo 4607182418800017408 b))
end Go.Proofs.YtpmmabaecldmkaaGreat
