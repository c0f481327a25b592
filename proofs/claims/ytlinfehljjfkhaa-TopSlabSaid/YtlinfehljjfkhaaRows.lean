/-
  No cell of these rows narrows 'for every input' (looked for: loops, veiled, ifaces, maps, wideKeys, modest, calm, conditions, laid).
  DERIVED. THE GIVEN ROWS OF THIS SEAT. 3 by the template 'for every input the law returns true; each argument reads behind the call as it read before'; 0 by the template 'total and deterministic' (their statements: YtlinfehljjfkhaaTotals.lean).
  GIVEN WITH THE SEED: the statements are not yours to turn. If you find one false, say at which input.
  Laid BY PROGRAM, IN A SANDBOX (cutbox-rows.mjs): the forced cells as the released guide's own fill.sh prints them over the translation 80b0594d3863a635… (all of the seat's roots in one cut). By AI agents, Wed Nov 11 2026. No macro, syntax, notation, axiom, sorry.
-/
import Derived.Test.YtlinfehljjfkhaaChecked
import GoSem.Claim
import GoSem.ClaimJoined
import GoSem.ClaimMapViews
import Derived.JoinedTies
import Derived.KernelRfl
namespace Go.Proofs.Ytlinfehljjfkhaa
/- THE CELL 'sum', in the pinned program and in every row, IS THE sha256 OF THE DUMP (.gsa) THAT YtlinfehljjfkhaaProg.lean LOADS. Nothing in Lean hashes anything: it is a label: what it is worth is what the hold of that sum in a sandbox is worth. -/
noncomputable def Try.pinned : Pinned := { name := "ytlinfehljjfkhaa", sum := "80b0594d3863a635936d8ff3aca1e7b2eed6e188fd636537d6ddc8b13cb5992c", checked := Try.checked }
namespace Rows
def none {H : Type} : Left H := { results := [], args := [] }

/-- 'rayhouselaw.SlabSays': WHATEVER THE INPUT: true; the input reads as it did. -/
def slabSaysSpec : ChangeSpec := { name := "slabSays", fn := fun _ => fun
  | [d1, d2, d3] => { results := [.lit (.bool true)], args := [d1, d2, d3] }
  | _ => none }
def slabSaysRow : OpenClaim := { program := "ytlinfehljjfkhaa", sum := "80b0594d3863a635936d8ff3aca1e7b2eed6e188fd636537d6ddc8b13cb5992c", func := "rayhouse/rayhouselaw.SlabSays", spec := "slabSays", apart := false }
def SlabSaysSaid : Prop := slabSaysRow.holds Try.pinned (OpenSpec.ofChange slabSaysSpec)

/-- ITS FALSE NEIGHBOUR: 'it returns false'. Refute it at one input. -/
def slabSaysWrong : ChangeSpec := { name := "slabSays", fn := fun _ => fun
  | [d1, d2, d3] => { results := [.lit (.bool false)], args := [d1, d2, d3] }
  | _ => none }
def SlabSaysWrongFalsely : Prop := slabSaysRow.holds Try.pinned (OpenSpec.ofChange slabSaysWrong)

/-- 'rayhouselaw.SlabMade': WHATEVER THE INPUT: true; the input reads as it did. -/
def slabMadeSpec : ChangeSpec := { name := "slabMade", fn := fun _ => fun
  | [d] => { results := [.lit (.bool true)], args := [d] }
  | _ => none }
def slabMadeRow : OpenClaim := { program := "ytlinfehljjfkhaa", sum := "80b0594d3863a635936d8ff3aca1e7b2eed6e188fd636537d6ddc8b13cb5992c", func := "rayhouse/rayhouselaw.SlabMade", spec := "slabMade", apart := false }
def SlabMadeSaid : Prop := slabMadeRow.holds Try.pinned (OpenSpec.ofChange slabMadeSpec)

/-- ITS FALSE NEIGHBOUR: 'it returns false'. Refute it at one input. -/
def slabMadeWrong : ChangeSpec := { name := "slabMade", fn := fun _ => fun
  | [d] => { results := [.lit (.bool false)], args := [d] }
  | _ => none }
def SlabMadeWrongFalsely : Prop := slabMadeRow.holds Try.pinned (OpenSpec.ofChange slabMadeWrong)

/-- 'rayhousetop.TopSlab': WHATEVER THE INPUT: true; the input reads as it did. -/
def topSlabSpec : ChangeSpec := { name := "topSlab", fn := fun _ => fun
  | [d1, d2, d3] => { results := [.lit (.bool true)], args := [d1, d2, d3] }
  | _ => none }
def topSlabRow : OpenClaim := { program := "ytlinfehljjfkhaa", sum := "80b0594d3863a635936d8ff3aca1e7b2eed6e188fd636537d6ddc8b13cb5992c", func := "rayhouse/rayhousetop.TopSlab", spec := "topSlab", apart := false }
def TopSlabSaid : Prop := topSlabRow.holds Try.pinned (OpenSpec.ofChange topSlabSpec)

/-- ITS FALSE NEIGHBOUR: 'it returns false'. Refute it at one input. -/
def topSlabWrong : ChangeSpec := { name := "topSlab", fn := fun _ => fun
  | [d1, d2, d3] => { results := [.lit (.bool false)], args := [d1, d2, d3] }
  | _ => none }
def TopSlabWrongFalsely : Prop := topSlabRow.holds Try.pinned (OpenSpec.ofChange topSlabWrong)

/- THE SECOND FORM. 'bulk': how many values and letters a reading holds, each counted each time it is reached (what is shared counts as often as it is met; a slice's spare places count too). A statement '..UptoSaid' is the law's where the arguments, and the package variables that the reading takes, are together of bulk at most 1048576: NARROWER than '..Said'. Prove '..Said' where nothing that the law and all that it calls make is longer than what came in: it says more and counts as full. Else prove '..UptoSaid'. A law counts once. -/
mutual
def uptoBulk {H : Type} : DataW H → Nat
  | .lit (.string bytes) => bytes.length + 1
  | .lit _ => 1
  | .nil => 1
  | .ptr d => uptoBulk d + 1
  | .slice elems spare => uptoBulkAll elems + uptoBulkAll spare + 1
  | .agg parts => uptoBulkAll parts + 1
  | .iface _ d => uptoBulk d + 1
  | .map entries => uptoBulkEntries entries + 1
  | .held _ => 1
def uptoBulkAll {H : Type} : List (DataW H) → Nat
  | [] => 0
  | d :: r => uptoBulk d + uptoBulkAll r
def uptoBulkEntries {H : Type} : List (Lit × DataW H) → Nat
  | [] => 0
  | x :: r => uptoBulkEntry x + uptoBulkEntries r
def uptoBulkEntry {H : Type} : Lit × DataW H → Nat
  | (.string bytes, d) => bytes.length + uptoBulk d + 1
  | (_, d) => uptoBulk d + 1
 end
def uptoSmall : (H : Type) → List (DataW H) → Bool := fun _ ds => decide (uptoBulkAll ds ≤ 1048576)
def OpenSpec.upto (s : _root_.Go.ChangeSpec) : _root_.Go.OpenSpec := { _root_.Go.OpenSpec.ofChange s with cond := some uptoSmall }

/-- 'rayhouselaw.SlabSays', WHERE WHAT IT READS IS OF BULK AT MOST 1048576: true; the input reads as it did. -/
def slabSaysUptoRow : OpenClaim := { program := "ytlinfehljjfkhaa", sum := "80b0594d3863a635936d8ff3aca1e7b2eed6e188fd636537d6ddc8b13cb5992c", func := "rayhouse/rayhouselaw.SlabSays", spec := "slabSays", apart := false, narrowed := true }
def SlabSaysUptoSaid : Prop := slabSaysUptoRow.holds Try.pinned (OpenSpec.upto slabSaysSpec)

/-- 'rayhouselaw.SlabMade', WHERE WHAT IT READS IS OF BULK AT MOST 1048576: true; the input reads as it did. -/
def slabMadeUptoRow : OpenClaim := { program := "ytlinfehljjfkhaa", sum := "80b0594d3863a635936d8ff3aca1e7b2eed6e188fd636537d6ddc8b13cb5992c", func := "rayhouse/rayhouselaw.SlabMade", spec := "slabMade", apart := false, narrowed := true }
def SlabMadeUptoSaid : Prop := slabMadeUptoRow.holds Try.pinned (OpenSpec.upto slabMadeSpec)

/-- 'rayhousetop.TopSlab', WHERE WHAT IT READS IS OF BULK AT MOST 1048576: true; the input reads as it did. -/
def topSlabUptoRow : OpenClaim := { program := "ytlinfehljjfkhaa", sum := "80b0594d3863a635936d8ff3aca1e7b2eed6e188fd636537d6ddc8b13cb5992c", func := "rayhouse/rayhousetop.TopSlab", spec := "topSlab", apart := false, narrowed := true }
def TopSlabUptoSaid : Prop := topSlabUptoRow.holds Try.pinned (OpenSpec.upto topSlabSpec)

end Rows
end Go.Proofs.Ytlinfehljjfkhaa
