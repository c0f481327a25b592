/-
  No cell of these rows narrows 'for every input' (looked for: loops, veiled, ifaces, maps, wideKeys, modest, calm, conditions, laid).
  DERIVED. THE GIVEN ROWS OF THIS SEAT. 4 by the template 'for every input the law returns true; each argument reads behind the call as it read before'; 0 by the template 'total and deterministic' (their statements: YtehjhfifldefiaaTotals.lean).
  GIVEN WITH THE SEED: the statements are not yours to turn. If you find one false, say at which input.
  Laid BY PROGRAM, IN A SANDBOX (cutbox-rows.mjs): the forced cells as the released guide's own fill.sh prints them over the translation 77700bcb567f713e… (all of the seat's roots in one cut). By AI agents, Wed Nov 11 2026. No macro, syntax, notation, axiom, sorry.
-/
import Derived.Test.YtehjhfifldefiaaChecked
import GoSem.Claim
import GoSem.ClaimJoined
import GoSem.ClaimMapViews
import Derived.JoinedTies
import Derived.KernelRfl
namespace Go.Proofs.Ytehjhfifldefiaa
/- THE CELL 'sum', in the pinned program and in every row, IS THE sha256 OF THE DUMP (.gsa) THAT YtehjhfifldefiaaProg.lean LOADS. Nothing in Lean hashes anything: it is a label: what it is worth is what the hold of that sum in a sandbox is worth. -/
noncomputable def Try.pinned : Pinned := { name := "ytehjhfifldefiaa", sum := "77700bcb567f713e429cf971602d609ba533811ad848cedb6e15f07cd6df78f6", checked := Try.checked }
namespace Rows
def none {H : Type} : Left H := { results := [], args := [] }

/-- 'rayhouselaw.WorkLoads': WHATEVER THE INPUT: true; the input reads as it did. -/
def workLoadsSpec : ChangeSpec := { name := "workLoads", fn := fun _ => fun
  | [d] => { results := [.lit (.bool true)], args := [d] }
  | _ => none }
def workLoadsRow : OpenClaim := { program := "ytehjhfifldefiaa", sum := "77700bcb567f713e429cf971602d609ba533811ad848cedb6e15f07cd6df78f6", func := "rayhouse/rayhouselaw.WorkLoads", spec := "workLoads", apart := false }
def WorkLoadsSaid : Prop := workLoadsRow.holds Try.pinned (OpenSpec.ofChange workLoadsSpec)

/-- ITS FALSE NEIGHBOUR: 'it returns false'. Refute it at one input. -/
def workLoadsWrong : ChangeSpec := { name := "workLoads", fn := fun _ => fun
  | [d] => { results := [.lit (.bool false)], args := [d] }
  | _ => none }
def WorkLoadsWrongFalsely : Prop := workLoadsRow.holds Try.pinned (OpenSpec.ofChange workLoadsWrong)

/-- 'rayhouselaw.WorkSaves': WHATEVER THE INPUT: true; the input reads as it did. -/
def workSavesSpec : ChangeSpec := { name := "workSaves", fn := fun _ => fun
  | [d] => { results := [.lit (.bool true)], args := [d] }
  | _ => none }
def workSavesRow : OpenClaim := { program := "ytehjhfifldefiaa", sum := "77700bcb567f713e429cf971602d609ba533811ad848cedb6e15f07cd6df78f6", func := "rayhouse/rayhouselaw.WorkSaves", spec := "workSaves", apart := false }
def WorkSavesSaid : Prop := workSavesRow.holds Try.pinned (OpenSpec.ofChange workSavesSpec)

/-- ITS FALSE NEIGHBOUR: 'it returns false'. Refute it at one input. -/
def workSavesWrong : ChangeSpec := { name := "workSaves", fn := fun _ => fun
  | [d] => { results := [.lit (.bool false)], args := [d] }
  | _ => none }
def WorkSavesWrongFalsely : Prop := workSavesRow.holds Try.pinned (OpenSpec.ofChange workSavesWrong)

/-- 'rayhousetop.TopTurned': WHATEVER THE INPUT: true; the input reads as it did. -/
def topTurnedSpec : ChangeSpec := { name := "topTurned", fn := fun _ => fun
  | [d1, d2, d3, d4, d5] => { results := [.lit (.bool true)], args := [d1, d2, d3, d4, d5] }
  | _ => none }
def topTurnedRow : OpenClaim := { program := "ytehjhfifldefiaa", sum := "77700bcb567f713e429cf971602d609ba533811ad848cedb6e15f07cd6df78f6", func := "rayhouse/rayhousetop.TopTurned", spec := "topTurned", apart := false }
def TopTurnedSaid : Prop := topTurnedRow.holds Try.pinned (OpenSpec.ofChange topTurnedSpec)

/-- ITS FALSE NEIGHBOUR: 'it returns false'. Refute it at one input. -/
def topTurnedWrong : ChangeSpec := { name := "topTurned", fn := fun _ => fun
  | [d1, d2, d3, d4, d5] => { results := [.lit (.bool false)], args := [d1, d2, d3, d4, d5] }
  | _ => none }
def TopTurnedWrongFalsely : Prop := topTurnedRow.holds Try.pinned (OpenSpec.ofChange topTurnedWrong)

/-- 'rayhousetop.TopStore': WHATEVER THE INPUT: true; the input reads as it did. -/
def topStoreSpec : ChangeSpec := { name := "topStore", fn := fun _ => fun
  | [d1, d2, d3] => { results := [.lit (.bool true)], args := [d1, d2, d3] }
  | _ => none }
def topStoreRow : OpenClaim := { program := "ytehjhfifldefiaa", sum := "77700bcb567f713e429cf971602d609ba533811ad848cedb6e15f07cd6df78f6", func := "rayhouse/rayhousetop.TopStore", spec := "topStore", apart := false }
def TopStoreSaid : Prop := topStoreRow.holds Try.pinned (OpenSpec.ofChange topStoreSpec)

/-- ITS FALSE NEIGHBOUR: 'it returns false'. Refute it at one input. -/
def topStoreWrong : ChangeSpec := { name := "topStore", fn := fun _ => fun
  | [d1, d2, d3] => { results := [.lit (.bool false)], args := [d1, d2, d3] }
  | _ => none }
def TopStoreWrongFalsely : Prop := topStoreRow.holds Try.pinned (OpenSpec.ofChange topStoreWrong)

/- THE SECOND FORM. 'bulk': how many values and letters a reading holds, each counted each time it is reached (what is shared counts as often as it is met; a slice's spare places count too). A statement '..UptoSaid' is the law's where the arguments, and the package variables that the reading takes, are together of bulk at most 1048576: NARROWER than '..Said'. Prove '..Said' where nothing that the law and all that it calls make is longer than what came in: it says more and counts as full. Else prove '..UptoSaid'. A law counts once. -/
mutual
def uptoBulk {H : Type} : DataW H → Nat
  | .lit (.string bytes) => bytes.length + 1
  | .lit _ => 1
  | .nil => 1
  | .ptr d => uptoBulk d + 1
  | .slice elems spare => uptoBulkAll elems + uptoBulkAll spare + 1
  | .agg parts => uptoBulkAll parts + 1
  | .iface _ d => uptoBulk d + 1
  | .map entries => uptoBulkEntries entries + 1
  | .held _ => 1
def uptoBulkAll {H : Type} : List (DataW H) → Nat
  | [] => 0
  | d :: r => uptoBulk d + uptoBulkAll r
def uptoBulkEntries {H : Type} : List (Lit × DataW H) → Nat
  | [] => 0
  | x :: r => uptoBulkEntry x + uptoBulkEntries r
def uptoBulkEntry {H : Type} : Lit × DataW H → Nat
  | (.string bytes, d) => bytes.length + uptoBulk d + 1
  | (_, d) => uptoBulk d + 1
 end
def uptoSmall : (H : Type) → List (DataW H) → Bool := fun _ ds => decide (uptoBulkAll ds ≤ 1048576)
def OpenSpec.upto (s : _root_.Go.ChangeSpec) : _root_.Go.OpenSpec := { _root_.Go.OpenSpec.ofChange s with cond := some uptoSmall }

/-- 'rayhouselaw.WorkLoads', WHERE WHAT IT READS IS OF BULK AT MOST 1048576: true; the input reads as it did. -/
def workLoadsUptoRow : OpenClaim := { program := "ytehjhfifldefiaa", sum := "77700bcb567f713e429cf971602d609ba533811ad848cedb6e15f07cd6df78f6", func := "rayhouse/rayhouselaw.WorkLoads", spec := "workLoads", apart := false, narrowed := true }
def WorkLoadsUptoSaid : Prop := workLoadsUptoRow.holds Try.pinned (OpenSpec.upto workLoadsSpec)

/-- 'rayhouselaw.WorkSaves', WHERE WHAT IT READS IS OF BULK AT MOST 1048576: true; the input reads as it did. -/
def workSavesUptoRow : OpenClaim := { program := "ytehjhfifldefiaa", sum := "77700bcb567f713e429cf971602d609ba533811ad848cedb6e15f07cd6df78f6", func := "rayhouse/rayhouselaw.WorkSaves", spec := "workSaves", apart := false, narrowed := true }
def WorkSavesUptoSaid : Prop := workSavesUptoRow.holds Try.pinned (OpenSpec.upto workSavesSpec)

/-- 'rayhousetop.TopTurned', WHERE WHAT IT READS IS OF BULK AT MOST 1048576: true; the input reads as it did. -/
def topTurnedUptoRow : OpenClaim := { program := "ytehjhfifldefiaa", sum := "77700bcb567f713e429cf971602d609ba533811ad848cedb6e15f07cd6df78f6", func := "rayhouse/rayhousetop.TopTurned", spec := "topTurned", apart := false, narrowed := true }
def TopTurnedUptoSaid : Prop := topTurnedUptoRow.holds Try.pinned (OpenSpec.upto topTurnedSpec)

/-- 'rayhousetop.TopStore', WHERE WHAT IT READS IS OF BULK AT MOST 1048576: true; the input reads as it did. -/
def topStoreUptoRow : OpenClaim := { program := "ytehjhfifldefiaa", sum := "77700bcb567f713e429cf971602d609ba533811ad848cedb6e15f07cd6df78f6", func := "rayhouse/rayhousetop.TopStore", spec := "topStore", apart := false, narrowed := true }
def TopStoreUptoSaid : Prop := topStoreUptoRow.holds Try.pinned (OpenSpec.upto topStoreSpec)

end Rows
end Go.Proofs.Ytehjhfifldefiaa
