/- What is the same is the same. -/
import Derived.Test.YtgbcnfcgljbbgaaLin
import Derived.Test.YtgbcnfcgljbbgaaFltOrd
namespace Go.Proofs.Ytgbcnfcgljbbgaa
open Go.RowKit Ev

theorem sameV_refl (x : Nat) : sameV x x = true := by
  unfold sameV
  cases h : feq x x with
  | false => rfl
  | true =>
    cases h0 : feq x 0 with
    | false => rfl
    | true => rw [feq_refl (over_zero h0)]; rfl
end Go.Proofs.Ytgbcnfcgljbbgaa
