/-
  No cell of these rows narrows 'for every input' (looked for: loops, veiled, ifaces, maps, wideKeys, modest, calm, conditions, laid).
  DERIVED. THE GIVEN ROWS OF THIS SEAT. 4 by the template 'for every input the law returns true; each argument reads behind the call as it read before'; 0 by the template 'total and deterministic' (their statements: YtkfmpdoendggjaaTotals.lean).
  GIVEN WITH THE SEED: the statements are not yours to turn. If you find one false, say at which input.
  Laid BY PROGRAM, IN A SANDBOX (cutbox-rows.mjs): the forced cells as the released guide's own fill.sh prints them over the translation 01d41cc3180c5d49… (all of the seat's roots in one cut). By AI agents, Wed Nov 11 2026. No macro, syntax, notation, axiom, sorry.
-/
import Derived.Test.YtkfmpdoendggjaaChecked
import GoSem.Claim
import GoSem.ClaimJoined
import GoSem.ClaimMapViews
import Derived.JoinedTies
import Derived.KernelRfl
namespace Go.Proofs.Ytkfmpdoendggjaa
/- THE CELL 'sum', in the pinned program and in every row, IS THE sha256 OF THE DUMP (.gsa) THAT YtkfmpdoendggjaaProg.lean LOADS. Nothing in Lean hashes anything: it is a label: what it is worth is what the hold of that sum in a sandbox is worth. -/
noncomputable def Try.pinned : Pinned := { name := "ytkfmpdoendggjaa", sum := "01d41cc3180c5d49c12355ebe79d97345b76edde22579365a1a9393c9a03d9fe", checked := Try.checked }
namespace Rows
def none {H : Type} : Left H := { results := [], args := [] }

/-- 'rayhouselaw.Names': WHATEVER THE INPUT: true; the input reads as it did. -/
def namesSpec : ChangeSpec := { name := "names", fn := fun _ => fun
  | [] => { results := [.lit (.bool true)], args := [] }
  | _ => none }
def namesRow : OpenClaim := { program := "ytkfmpdoendggjaa", sum := "01d41cc3180c5d49c12355ebe79d97345b76edde22579365a1a9393c9a03d9fe", func := "rayhouse/rayhouselaw.Names", spec := "names", apart := false }
def NamesSaid : Prop := namesRow.holds Try.pinned (OpenSpec.ofChange namesSpec)

/-- ITS FALSE NEIGHBOUR: 'it returns false'. Refute it at one input. -/
def namesWrong : ChangeSpec := { name := "names", fn := fun _ => fun
  | [] => { results := [.lit (.bool false)], args := [] }
  | _ => none }
def NamesWrongFalsely : Prop := namesRow.holds Try.pinned (OpenSpec.ofChange namesWrong)

/-- 'rayhouselaw.VecLaws': WHATEVER THE INPUT: true; the input reads as it did. -/
def vecLawsSpec : ChangeSpec := { name := "vecLaws", fn := fun _ => fun
  | [d1, d2, d3] => { results := [.lit (.bool true)], args := [d1, d2, d3] }
  | _ => none }
def vecLawsRow : OpenClaim := { program := "ytkfmpdoendggjaa", sum := "01d41cc3180c5d49c12355ebe79d97345b76edde22579365a1a9393c9a03d9fe", func := "rayhouse/rayhouselaw.VecLaws", spec := "vecLaws", apart := false }
def VecLawsSaid : Prop := vecLawsRow.holds Try.pinned (OpenSpec.ofChange vecLawsSpec)

/-- ITS FALSE NEIGHBOUR: 'it returns false'. Refute it at one input. -/
def vecLawsWrong : ChangeSpec := { name := "vecLaws", fn := fun _ => fun
  | [d1, d2, d3] => { results := [.lit (.bool false)], args := [d1, d2, d3] }
  | _ => none }
def VecLawsWrongFalsely : Prop := vecLawsRow.holds Try.pinned (OpenSpec.ofChange vecLawsWrong)

/-- 'rayhouselaw.VecBends': WHATEVER THE INPUT: true; the input reads as it did. -/
def vecBendsSpec : ChangeSpec := { name := "vecBends", fn := fun _ => fun
  | [d1, d2, d3] => { results := [.lit (.bool true)], args := [d1, d2, d3] }
  | _ => none }
def vecBendsRow : OpenClaim := { program := "ytkfmpdoendggjaa", sum := "01d41cc3180c5d49c12355ebe79d97345b76edde22579365a1a9393c9a03d9fe", func := "rayhouse/rayhouselaw.VecBends", spec := "vecBends", inPlace := ["math.sqrt"], apart := false }
def VecBendsSaid : Prop := vecBendsRow.holds Try.pinned (OpenSpec.ofChange vecBendsSpec)

/-- ITS FALSE NEIGHBOUR: 'it returns false'. Refute it at one input. -/
def vecBendsWrong : ChangeSpec := { name := "vecBends", fn := fun _ => fun
  | [d1, d2, d3] => { results := [.lit (.bool false)], args := [d1, d2, d3] }
  | _ => none }
def VecBendsWrongFalsely : Prop := vecBendsRow.holds Try.pinned (OpenSpec.ofChange vecBendsWrong)

/-- 'rayhouselaw.VecSays': WHATEVER THE INPUT: true; the input reads as it did. -/
def vecSaysSpec : ChangeSpec := { name := "vecSays", fn := fun _ => fun
  | [d1, d2, d3] => { results := [.lit (.bool true)], args := [d1, d2, d3] }
  | _ => none }
def vecSaysRow : OpenClaim := { program := "ytkfmpdoendggjaa", sum := "01d41cc3180c5d49c12355ebe79d97345b76edde22579365a1a9393c9a03d9fe", func := "rayhouse/rayhouselaw.VecSays", spec := "vecSays", inPlace := ["math.sqrt"], apart := false }
def VecSaysSaid : Prop := vecSaysRow.holds Try.pinned (OpenSpec.ofChange vecSaysSpec)

/-- ITS FALSE NEIGHBOUR: 'it returns false'. Refute it at one input. -/
def vecSaysWrong : ChangeSpec := { name := "vecSays", fn := fun _ => fun
  | [d1, d2, d3] => { results := [.lit (.bool false)], args := [d1, d2, d3] }
  | _ => none }
def VecSaysWrongFalsely : Prop := vecSaysRow.holds Try.pinned (OpenSpec.ofChange vecSaysWrong)

/- THE SECOND FORM. 'bulk': how many values and letters a reading holds, each counted each time it is reached (what is shared counts as often as it is met; a slice's spare places count too). A statement '..UptoSaid' is the law's where the arguments, and the package variables that the reading takes, are together of bulk at most 1048576: NARROWER than '..Said'. Prove '..Said' where nothing that the law and all that it calls make is longer than what came in: it says more and counts as full. Else prove '..UptoSaid'. A law counts once. -/
mutual
def uptoBulk {H : Type} : DataW H → Nat
  | .lit (.string bytes) => bytes.length + 1
  | .lit _ => 1
  | .nil => 1
  | .ptr d => uptoBulk d + 1
  | .slice elems spare => uptoBulkAll elems + uptoBulkAll spare + 1
  | .agg parts => uptoBulkAll parts + 1
  | .iface _ d => uptoBulk d + 1
  | .map entries => uptoBulkEntries entries + 1
  | .held _ => 1
def uptoBulkAll {H : Type} : List (DataW H) → Nat
  | [] => 0
  | d :: r => uptoBulk d + uptoBulkAll r
def uptoBulkEntries {H : Type} : List (Lit × DataW H) → Nat
  | [] => 0
  | x :: r => uptoBulkEntry x + uptoBulkEntries r
def uptoBulkEntry {H : Type} : Lit × DataW H → Nat
  | (.string bytes, d) => bytes.length + uptoBulk d + 1
  | (_, d) => uptoBulk d + 1
 end
def uptoSmall : (H : Type) → List (DataW H) → Bool := fun _ ds => decide (uptoBulkAll ds ≤ 1048576)
def OpenSpec.upto (s : _root_.Go.ChangeSpec) : _root_.Go.OpenSpec := { _root_.Go.OpenSpec.ofChange s with cond := some uptoSmall }

/-- 'rayhouselaw.Names', WHERE WHAT IT READS IS OF BULK AT MOST 1048576: true; the input reads as it did. -/
def namesUptoRow : OpenClaim := { program := "ytkfmpdoendggjaa", sum := "01d41cc3180c5d49c12355ebe79d97345b76edde22579365a1a9393c9a03d9fe", func := "rayhouse/rayhouselaw.Names", spec := "names", apart := false, narrowed := true }
def NamesUptoSaid : Prop := namesUptoRow.holds Try.pinned (OpenSpec.upto namesSpec)

/-- 'rayhouselaw.VecLaws', WHERE WHAT IT READS IS OF BULK AT MOST 1048576: true; the input reads as it did. -/
def vecLawsUptoRow : OpenClaim := { program := "ytkfmpdoendggjaa", sum := "01d41cc3180c5d49c12355ebe79d97345b76edde22579365a1a9393c9a03d9fe", func := "rayhouse/rayhouselaw.VecLaws", spec := "vecLaws", apart := false, narrowed := true }
def VecLawsUptoSaid : Prop := vecLawsUptoRow.holds Try.pinned (OpenSpec.upto vecLawsSpec)

/-- 'rayhouselaw.VecBends', WHERE WHAT IT READS IS OF BULK AT MOST 1048576: true; the input reads as it did. -/
def vecBendsUptoRow : OpenClaim := { program := "ytkfmpdoendggjaa", sum := "01d41cc3180c5d49c12355ebe79d97345b76edde22579365a1a9393c9a03d9fe", func := "rayhouse/rayhouselaw.VecBends", spec := "vecBends", inPlace := ["math.sqrt"], apart := false, narrowed := true }
def VecBendsUptoSaid : Prop := vecBendsUptoRow.holds Try.pinned (OpenSpec.upto vecBendsSpec)

/-- 'rayhouselaw.VecSays', WHERE WHAT IT READS IS OF BULK AT MOST 1048576: true; the input reads as it did. -/
def vecSaysUptoRow : OpenClaim := { program := "ytkfmpdoendggjaa", sum := "01d41cc3180c5d49c12355ebe79d97345b76edde22579365a1a9393c9a03d9fe", func := "rayhouse/rayhouselaw.VecSays", spec := "vecSays", inPlace := ["math.sqrt"], apart := false, narrowed := true }
def VecSaysUptoSaid : Prop := vecSaysUptoRow.holds Try.pinned (OpenSpec.upto vecSaysSpec)

end Rows
end Go.Proofs.Ytkfmpdoendggjaa
