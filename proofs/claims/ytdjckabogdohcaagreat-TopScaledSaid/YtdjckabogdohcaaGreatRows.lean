/-
  No cell of these rows narrows 'for every input' (looked for: loops, veiled, ifaces, maps, wideKeys, modest, calm, conditions, laid).
  DERIVED. THE GIVEN ROWS OF THIS SEAT. 5 by the template 'for every input the law returns true; each argument reads behind the call as it read before'; 0 by the template 'total and deterministic' (their statements: YtdjckabogdohcaaGreatTotals.lean).
  GIVEN WITH THE SEED: the statements are not yours to turn. If you find one false, say at which input.
  Laid BY PROGRAM, IN A SANDBOX (cutbox-rows.mjs): the forced cells as the released guide's own fill.sh prints them over the translation 9079d4de54d5d0b7… (all of the seat's roots in one cut). By AI agents, Wed Nov 11 2026. No macro, syntax, notation, axiom, sorry.
-/
import Derived.Test.YtdjckabogdohcaaGreatChecked
import GoSem.Claim
import GoSem.ClaimJoined
import GoSem.ClaimMapViews
import Derived.JoinedTies
import Derived.KernelRfl
namespace Go.Proofs.YtdjckabogdohcaaGreat
/- THE CELL 'sum', in the pinned program and in every row, IS THE sha256 OF THE DUMP (.gsa) THAT YtdjckabogdohcaaGreatProg.lean LOADS. Nothing in Lean hashes anything: it is a label: what it is worth is what the hold of that sum in a sandbox is worth. -/
noncomputable def Tryz.pinned : Pinned := { name := "ytdjckabogdohcaagreat", sum := "9079d4de54d5d0b75cd400bc59f3b692a067cce2d81a0bcb36f211e910ed0c26", checked := Tryz.checked }
namespace Rows
def none {H : Type} : Left H := { results := [], args := [] }

/-- 'rayhousetop.TopEdges': WHATEVER THE INPUT: true; the input reads as it did. -/
def topEdgesSpec : ChangeSpec := { name := "topEdges", fn := fun _ => fun
  | [d1, d2, d3, d4, d5] => { results := [.lit (.bool true)], args := [d1, d2, d3, d4, d5] }
  | _ => none }
def topEdgesRow : OpenClaim := { program := "ytdjckabogdohcaagreat", sum := "9079d4de54d5d0b75cd400bc59f3b692a067cce2d81a0bcb36f211e910ed0c26", func := "rayhouse/rayhousetop.TopEdges", spec := "topEdges", inPlace := ["math.sqrt", "math.Float64bits", "math.Float64frombits"], unfollowed := true, recurses := true, apart := false }
def TopEdgesSaid : Prop := topEdgesRow.holds Tryz.pinned (OpenSpec.ofChange topEdgesSpec)

/-- ITS FALSE NEIGHBOUR: 'it returns false'. Refute it at one input. -/
def topEdgesWrong : ChangeSpec := { name := "topEdges", fn := fun _ => fun
  | [d1, d2, d3, d4, d5] => { results := [.lit (.bool false)], args := [d1, d2, d3, d4, d5] }
  | _ => none }
def TopEdgesWrongFalsely : Prop := topEdgesRow.holds Tryz.pinned (OpenSpec.ofChange topEdgesWrong)

/-- 'rayhousetop.TopScaled': WHATEVER THE INPUT: true; the input reads as it did. -/
def topScaledSpec : ChangeSpec := { name := "topScaled", fn := fun _ => fun
  | [d1, d2] => { results := [.lit (.bool true)], args := [d1, d2] }
  | _ => none }
def topScaledRow : OpenClaim := { program := "ytdjckabogdohcaagreat", sum := "9079d4de54d5d0b75cd400bc59f3b692a067cce2d81a0bcb36f211e910ed0c26", func := "rayhouse/rayhousetop.TopScaled", spec := "topScaled", inPlace := ["math.sqrt", "math.Float64bits", "math.Float64frombits"], unfollowed := true, recurses := true, apart := false }
def TopScaledSaid : Prop := topScaledRow.holds Tryz.pinned (OpenSpec.ofChange topScaledSpec)

/-- ITS FALSE NEIGHBOUR: 'it returns false'. Refute it at one input. -/
def topScaledWrong : ChangeSpec := { name := "topScaled", fn := fun _ => fun
  | [d1, d2] => { results := [.lit (.bool false)], args := [d1, d2] }
  | _ => none }
def TopScaledWrongFalsely : Prop := topScaledRow.holds Tryz.pinned (OpenSpec.ofChange topScaledWrong)

/-- 'rayhousetop.TopQuarters': WHATEVER THE INPUT: true; the input reads as it did. -/
def topQuartersSpec : ChangeSpec := { name := "topQuarters", fn := fun _ => fun
  | [d1, d2, d3] => { results := [.lit (.bool true)], args := [d1, d2, d3] }
  | _ => none }
def topQuartersRow : OpenClaim := { program := "ytdjckabogdohcaagreat", sum := "9079d4de54d5d0b75cd400bc59f3b692a067cce2d81a0bcb36f211e910ed0c26", func := "rayhouse/rayhousetop.TopQuarters", spec := "topQuarters", inPlace := ["math.sqrt", "math.Float64bits", "math.Float64frombits"], unfollowed := true, recurses := true, apart := false }
def TopQuartersSaid : Prop := topQuartersRow.holds Tryz.pinned (OpenSpec.ofChange topQuartersSpec)

/-- ITS FALSE NEIGHBOUR: 'it returns false'. Refute it at one input. -/
def topQuartersWrong : ChangeSpec := { name := "topQuarters", fn := fun _ => fun
  | [d1, d2, d3] => { results := [.lit (.bool false)], args := [d1, d2, d3] }
  | _ => none }
def TopQuartersWrongFalsely : Prop := topQuartersRow.holds Tryz.pinned (OpenSpec.ofChange topQuartersWrong)

/-- 'rayhouselaw.FieldSays': WHATEVER THE INPUT: true; the input reads as it did. -/
def fieldSaysSpec : ChangeSpec := { name := "fieldSays", fn := fun _ => fun
  | [d1, d2] => { results := [.lit (.bool true)], args := [d1, d2] }
  | _ => none }
def fieldSaysRow : OpenClaim := { program := "ytdjckabogdohcaagreat", sum := "9079d4de54d5d0b75cd400bc59f3b692a067cce2d81a0bcb36f211e910ed0c26", func := "rayhouse/rayhouselaw.FieldSays", spec := "fieldSays", inPlace := ["math.sqrt", "math.archFloor", "math.Float64bits", "math.Float64frombits", "math.archTrunc", "math.archCeil"], unfollowed := true, recurses := true, apart := false }
def FieldSaysSaid : Prop := fieldSaysRow.holds Tryz.pinned (OpenSpec.ofChange fieldSaysSpec)

/-- ITS FALSE NEIGHBOUR: 'it returns false'. Refute it at one input. -/
def fieldSaysWrong : ChangeSpec := { name := "fieldSays", fn := fun _ => fun
  | [d1, d2] => { results := [.lit (.bool false)], args := [d1, d2] }
  | _ => none }
def FieldSaysWrongFalsely : Prop := fieldSaysRow.holds Tryz.pinned (OpenSpec.ofChange fieldSaysWrong)

/-- 'rayhouselaw.FieldMade': WHATEVER THE INPUT: true; the input reads as it did. -/
def fieldMadeSpec : ChangeSpec := { name := "fieldMade", fn := fun _ => fun
  | [d1, d2] => { results := [.lit (.bool true)], args := [d1, d2] }
  | _ => none }
def fieldMadeRow : OpenClaim := { program := "ytdjckabogdohcaagreat", sum := "9079d4de54d5d0b75cd400bc59f3b692a067cce2d81a0bcb36f211e910ed0c26", func := "rayhouse/rayhouselaw.FieldMade", spec := "fieldMade", inPlace := ["math.sqrt", "math.archFloor", "math.Float64bits", "math.Float64frombits", "math.archTrunc", "math.archCeil"], unfollowed := true, recurses := true, apart := false }
def FieldMadeSaid : Prop := fieldMadeRow.holds Tryz.pinned (OpenSpec.ofChange fieldMadeSpec)

/-- ITS FALSE NEIGHBOUR: 'it returns false'. Refute it at one input. -/
def fieldMadeWrong : ChangeSpec := { name := "fieldMade", fn := fun _ => fun
  | [d1, d2] => { results := [.lit (.bool false)], args := [d1, d2] }
  | _ => none }
def FieldMadeWrongFalsely : Prop := fieldMadeRow.holds Tryz.pinned (OpenSpec.ofChange fieldMadeWrong)

/- THE SECOND FORM. 'bulk': how many values and letters a reading holds, each counted each time it is reached (what is shared counts as often as it is met; a slice's spare places count too). A statement '..UptoSaid' is the law's where the arguments, and the package variables that the reading takes, are together of bulk at most 1048576: NARROWER than '..Said'. Prove '..Said' where nothing that the law and all that it calls make is longer than what came in: it says more and counts as full. Else prove '..UptoSaid'. A law counts once. -/
mutual
def uptoBulk {H : Type} : DataW H → Nat
  | .lit (.string bytes) => bytes.length + 1
  | .lit _ => 1
  | .nil => 1
  | .ptr d => uptoBulk d + 1
  | .slice elems spare => uptoBulkAll elems + uptoBulkAll spare + 1
  | .agg parts => uptoBulkAll parts + 1
  | .iface _ d => uptoBulk d + 1
  | .map entries => uptoBulkEntries entries + 1
  | .held _ => 1
def uptoBulkAll {H : Type} : List (DataW H) → Nat
  | [] => 0
  | d :: r => uptoBulk d + uptoBulkAll r
def uptoBulkEntries {H : Type} : List (Lit × DataW H) → Nat
  | [] => 0
  | x :: r => uptoBulkEntry x + uptoBulkEntries r
def uptoBulkEntry {H : Type} : Lit × DataW H → Nat
  | (.string bytes, d) => bytes.length + uptoBulk d + 1
  | (_, d) => uptoBulk d + 1
 end
def uptoSmall : (H : Type) → List (DataW H) → Bool := fun _ ds => decide (uptoBulkAll ds ≤ 1048576)
def OpenSpec.upto (s : _root_.Go.ChangeSpec) : _root_.Go.OpenSpec := { _root_.Go.OpenSpec.ofChange s with cond := some uptoSmall }

/-- 'rayhousetop.TopEdges', WHERE WHAT IT READS IS OF BULK AT MOST 1048576: true; the input reads as it did. -/
def topEdgesUptoRow : OpenClaim := { program := "ytdjckabogdohcaagreat", sum := "9079d4de54d5d0b75cd400bc59f3b692a067cce2d81a0bcb36f211e910ed0c26", func := "rayhouse/rayhousetop.TopEdges", spec := "topEdges", inPlace := ["math.sqrt", "math.Float64bits", "math.Float64frombits"], unfollowed := true, recurses := true, apart := false, narrowed := true }
def TopEdgesUptoSaid : Prop := topEdgesUptoRow.holds Tryz.pinned (OpenSpec.upto topEdgesSpec)

/-- 'rayhousetop.TopScaled', WHERE WHAT IT READS IS OF BULK AT MOST 1048576: true; the input reads as it did. -/
def topScaledUptoRow : OpenClaim := { program := "ytdjckabogdohcaagreat", sum := "9079d4de54d5d0b75cd400bc59f3b692a067cce2d81a0bcb36f211e910ed0c26", func := "rayhouse/rayhousetop.TopScaled", spec := "topScaled", inPlace := ["math.sqrt", "math.Float64bits", "math.Float64frombits"], unfollowed := true, recurses := true, apart := false, narrowed := true }
def TopScaledUptoSaid : Prop := topScaledUptoRow.holds Tryz.pinned (OpenSpec.upto topScaledSpec)

/-- 'rayhousetop.TopQuarters', WHERE WHAT IT READS IS OF BULK AT MOST 1048576: true; the input reads as it did. -/
def topQuartersUptoRow : OpenClaim := { program := "ytdjckabogdohcaagreat", sum := "9079d4de54d5d0b75cd400bc59f3b692a067cce2d81a0bcb36f211e910ed0c26", func := "rayhouse/rayhousetop.TopQuarters", spec := "topQuarters", inPlace := ["math.sqrt", "math.Float64bits", "math.Float64frombits"], unfollowed := true, recurses := true, apart := false, narrowed := true }
def TopQuartersUptoSaid : Prop := topQuartersUptoRow.holds Tryz.pinned (OpenSpec.upto topQuartersSpec)

/-- 'rayhouselaw.FieldSays', WHERE WHAT IT READS IS OF BULK AT MOST 1048576: true; the input reads as it did. -/
def fieldSaysUptoRow : OpenClaim := { program := "ytdjckabogdohcaagreat", sum := "9079d4de54d5d0b75cd400bc59f3b692a067cce2d81a0bcb36f211e910ed0c26", func := "rayhouse/rayhouselaw.FieldSays", spec := "fieldSays", inPlace := ["math.sqrt", "math.archFloor", "math.Float64bits", "math.Float64frombits", "math.archTrunc", "math.archCeil"], unfollowed := true, recurses := true, apart := false, narrowed := true }
def FieldSaysUptoSaid : Prop := fieldSaysUptoRow.holds Tryz.pinned (OpenSpec.upto fieldSaysSpec)

/-- 'rayhouselaw.FieldMade', WHERE WHAT IT READS IS OF BULK AT MOST 1048576: true; the input reads as it did. -/
def fieldMadeUptoRow : OpenClaim := { program := "ytdjckabogdohcaagreat", sum := "9079d4de54d5d0b75cd400bc59f3b692a067cce2d81a0bcb36f211e910ed0c26", func := "rayhouse/rayhouselaw.FieldMade", spec := "fieldMade", inPlace := ["math.sqrt", "math.archFloor", "math.Float64bits", "math.Float64frombits", "math.archTrunc", "math.archCeil"], unfollowed := true, recurses := true, apart := false, narrowed := true }
def FieldMadeUptoSaid : Prop := fieldMadeUptoRow.holds Tryz.pinned (OpenSpec.upto fieldMadeSpec)

end Rows
end Go.Proofs.YtdjckabogdohcaaGreat
