/-
  No cell of these rows narrows 'for every input' (looked for: loops, veiled, ifaces, maps, wideKeys, modest, calm, conditions, laid).
  DERIVED. THE GIVEN ROWS OF THIS SEAT. 2 by the template 'for every input the law returns true; each argument reads behind the call as it read before'; 0 by the template 'total and deterministic' (their statements: YtgbcnfcgljbbgaaGreatTotals.lean).
  GIVEN WITH THE SEED: the statements are not yours to turn. If you find one false, say at which input.
  Laid BY PROGRAM, IN A SANDBOX (cutbox-rows.mjs): the forced cells as the released guide's own fill.sh prints them over the translation 246ef8e472027d5c… (all of the seat's roots in one cut). By AI agents, Wed Nov 11 2026. No macro, syntax, notation, axiom, sorry.
-/
import Derived.Test.YtgbcnfcgljbbgaaGreatChecked
import GoSem.Claim
import GoSem.ClaimJoined
import GoSem.ClaimMapViews
import Derived.JoinedTies
import Derived.KernelRfl
namespace Go.Proofs.YtgbcnfcgljbbgaaGreat
/- THE CELL 'sum', in the pinned program and in every row, IS THE sha256 OF THE DUMP (.gsa) THAT YtgbcnfcgljbbgaaGreatProg.lean LOADS. Nothing in Lean hashes anything: it is a label: what it is worth is what the hold of that sum in a sandbox is worth. -/
noncomputable def Tryz.pinned : Pinned := { name := "ytgbcnfcgljbbgaagreat", sum := "246ef8e472027d5ce195777d168bafb40a340165f0c9656ca7f9744111ae883b", checked := Tryz.checked }
namespace Rows
def none {H : Type} : Left H := { results := [], args := [] }

/-- 'rayhouselaw.SolidSays': WHATEVER THE INPUT: true; the input reads as it did. -/
def solidSaysSpec : ChangeSpec := { name := "solidSays", fn := fun _ => fun
  | [d1, d2, d3, d4] => { results := [.lit (.bool true)], args := [d1, d2, d3, d4] }
  | _ => none }
def solidSaysRow : OpenClaim := { program := "ytgbcnfcgljbbgaagreat", sum := "246ef8e472027d5ce195777d168bafb40a340165f0c9656ca7f9744111ae883b", func := "rayhouse/rayhouselaw.SolidSays", spec := "solidSays", inPlace := ["math.sqrt", "math.Float64bits", "math.Float64frombits"], unfollowed := true, recurses := true, apart := false }
def SolidSaysSaid : Prop := solidSaysRow.holds Tryz.pinned (OpenSpec.ofChange solidSaysSpec)

/-- ITS FALSE NEIGHBOUR: 'it returns false'. Refute it at one input. -/
def solidSaysWrong : ChangeSpec := { name := "solidSays", fn := fun _ => fun
  | [d1, d2, d3, d4] => { results := [.lit (.bool false)], args := [d1, d2, d3, d4] }
  | _ => none }
def SolidSaysWrongFalsely : Prop := solidSaysRow.holds Tryz.pinned (OpenSpec.ofChange solidSaysWrong)

/-- 'rayhouselaw.SolidMade': WHATEVER THE INPUT: true; the input reads as it did. -/
def solidMadeSpec : ChangeSpec := { name := "solidMade", fn := fun _ => fun
  | [d1, d2] => { results := [.lit (.bool true)], args := [d1, d2] }
  | _ => none }
def solidMadeRow : OpenClaim := { program := "ytgbcnfcgljbbgaagreat", sum := "246ef8e472027d5ce195777d168bafb40a340165f0c9656ca7f9744111ae883b", func := "rayhouse/rayhouselaw.SolidMade", spec := "solidMade", inPlace := ["math.sqrt", "math.Float64bits", "math.Float64frombits"], unfollowed := true, recurses := true, apart := false }
def SolidMadeSaid : Prop := solidMadeRow.holds Tryz.pinned (OpenSpec.ofChange solidMadeSpec)

/-- ITS FALSE NEIGHBOUR: 'it returns false'. Refute it at one input. -/
def solidMadeWrong : ChangeSpec := { name := "solidMade", fn := fun _ => fun
  | [d1, d2] => { results := [.lit (.bool false)], args := [d1, d2] }
  | _ => none }
def SolidMadeWrongFalsely : Prop := solidMadeRow.holds Tryz.pinned (OpenSpec.ofChange solidMadeWrong)

/- THE SECOND FORM. 'bulk': how many values and letters a reading holds, each counted each time it is reached (what is shared counts as often as it is met; a slice's spare places count too). A statement '..UptoSaid' is the law's where the arguments, and the package variables that the reading takes, are together of bulk at most 1048576: NARROWER than '..Said'. Prove '..Said' where nothing that the law and all that it calls make is longer than what came in: it says more and counts as full. Else prove '..UptoSaid'. A law counts once. -/
mutual
def uptoBulk {H : Type} : DataW H → Nat
  | .lit (.string bytes) => bytes.length + 1
  | .lit _ => 1
  | .nil => 1
  | .ptr d => uptoBulk d + 1
  | .slice elems spare => uptoBulkAll elems + uptoBulkAll spare + 1
  | .agg parts => uptoBulkAll parts + 1
  | .iface _ d => uptoBulk d + 1
  | .map entries => uptoBulkEntries entries + 1
  | .held _ => 1
def uptoBulkAll {H : Type} : List (DataW H) → Nat
  | [] => 0
  | d :: r => uptoBulk d + uptoBulkAll r
def uptoBulkEntries {H : Type} : List (Lit × DataW H) → Nat
  | [] => 0
  | x :: r => uptoBulkEntry x + uptoBulkEntries r
def uptoBulkEntry {H : Type} : Lit × DataW H → Nat
  | (.string bytes, d) => bytes.length + uptoBulk d + 1
  | (_, d) => uptoBulk d + 1
 end
def uptoSmall : (H : Type) → List (DataW H) → Bool := fun _ ds => decide (uptoBulkAll ds ≤ 1048576)
def OpenSpec.upto (s : _root_.Go.ChangeSpec) : _root_.Go.OpenSpec := { _root_.Go.OpenSpec.ofChange s with cond := some uptoSmall }

/-- 'rayhouselaw.SolidSays', WHERE WHAT IT READS IS OF BULK AT MOST 1048576: true; the input reads as it did. -/
def solidSaysUptoRow : OpenClaim := { program := "ytgbcnfcgljbbgaagreat", sum := "246ef8e472027d5ce195777d168bafb40a340165f0c9656ca7f9744111ae883b", func := "rayhouse/rayhouselaw.SolidSays", spec := "solidSays", inPlace := ["math.sqrt", "math.Float64bits", "math.Float64frombits"], unfollowed := true, recurses := true, apart := false, narrowed := true }
def SolidSaysUptoSaid : Prop := solidSaysUptoRow.holds Tryz.pinned (OpenSpec.upto solidSaysSpec)

/-- 'rayhouselaw.SolidMade', WHERE WHAT IT READS IS OF BULK AT MOST 1048576: true; the input reads as it did. -/
def solidMadeUptoRow : OpenClaim := { program := "ytgbcnfcgljbbgaagreat", sum := "246ef8e472027d5ce195777d168bafb40a340165f0c9656ca7f9744111ae883b", func := "rayhouse/rayhouselaw.SolidMade", spec := "solidMade", inPlace := ["math.sqrt", "math.Float64bits", "math.Float64frombits"], unfollowed := true, recurses := true, apart := false, narrowed := true }
def SolidMadeUptoSaid : Prop := solidMadeUptoRow.holds Tryz.pinned (OpenSpec.upto solidMadeSpec)

end Rows
end Go.Proofs.YtgbcnfcgljbbgaaGreat
