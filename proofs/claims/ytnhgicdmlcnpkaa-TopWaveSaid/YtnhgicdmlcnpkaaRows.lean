/-
  No cell of these rows narrows 'for every input' (looked for: loops, veiled, ifaces, maps, wideKeys, modest, calm, conditions, laid).
  DERIVED. THE GIVEN ROWS OF THIS SEAT. 3 by the template 'for every input the law returns true; each argument reads behind the call as it read before'; 0 by the template 'total and deterministic' (their statements: YtnhgicdmlcnpkaaTotals.lean).
  GIVEN WITH THE SEED: the statements are not yours to turn. If you find one false, say at which input.
  Laid BY PROGRAM, IN A SANDBOX (cutbox-rows.mjs): the forced cells as the released guide's own fill.sh prints them over the translation b117d834b364aef8… (all of the seat's roots in one cut). By AI agents, Wed Nov 11 2026. No macro, syntax, notation, axiom, sorry.
-/
import Derived.Test.YtnhgicdmlcnpkaaChecked
import GoSem.Claim
import GoSem.ClaimJoined
import GoSem.ClaimMapViews
import Derived.JoinedTies
import Derived.KernelRfl
namespace Go.Proofs.Ytnhgicdmlcnpkaa
/- THE CELL 'sum', in the pinned program and in every row, IS THE sha256 OF THE DUMP (.gsa) THAT YtnhgicdmlcnpkaaProg.lean LOADS. Nothing in Lean hashes anything: it is a label: what it is worth is what the hold of that sum in a sandbox is worth. -/
noncomputable def Try.pinned : Pinned := { name := "ytnhgicdmlcnpkaa", sum := "b117d834b364aef81f4b45db02b06f4aaec592ad6a4558ef7972020481efd49e", checked := Try.checked }
namespace Rows
def none {H : Type} : Left H := { results := [], args := [] }

/-- 'rayhouselaw.WaveRounds': WHATEVER THE INPUT: true; the input reads as it did. -/
def waveRoundsSpec : ChangeSpec := { name := "waveRounds", fn := fun _ => fun
  | [d1, d2] => { results := [.lit (.bool true)], args := [d1, d2] }
  | _ => none }
def waveRoundsRow : OpenClaim := { program := "ytnhgicdmlcnpkaa", sum := "b117d834b364aef81f4b45db02b06f4aaec592ad6a4558ef7972020481efd49e", func := "rayhouse/rayhouselaw.WaveRounds", spec := "waveRounds", inPlace := ["math.sqrt", "math.archFloor", "math.Float64bits", "math.Float64frombits", "math.archTrunc"], recurses := true, apart := false }
def WaveRoundsSaid : Prop := waveRoundsRow.holds Try.pinned (OpenSpec.ofChange waveRoundsSpec)

/-- ITS FALSE NEIGHBOUR: 'it returns false'. Refute it at one input. -/
def waveRoundsWrong : ChangeSpec := { name := "waveRounds", fn := fun _ => fun
  | [d1, d2] => { results := [.lit (.bool false)], args := [d1, d2] }
  | _ => none }
def WaveRoundsWrongFalsely : Prop := waveRoundsRow.holds Try.pinned (OpenSpec.ofChange waveRoundsWrong)

/-- 'rayhousetop.TopWave': WHATEVER THE INPUT: true; the input reads as it did. -/
def topWaveSpec : ChangeSpec := { name := "topWave", fn := fun _ => fun
  | [d1, d2] => { results := [.lit (.bool true)], args := [d1, d2] }
  | _ => none }
def topWaveRow : OpenClaim := { program := "ytnhgicdmlcnpkaa", sum := "b117d834b364aef81f4b45db02b06f4aaec592ad6a4558ef7972020481efd49e", func := "rayhouse/rayhousetop.TopWave", spec := "topWave", inPlace := ["math.sqrt"], recurses := true, apart := false }
def TopWaveSaid : Prop := topWaveRow.holds Try.pinned (OpenSpec.ofChange topWaveSpec)

/-- ITS FALSE NEIGHBOUR: 'it returns false'. Refute it at one input. -/
def topWaveWrong : ChangeSpec := { name := "topWave", fn := fun _ => fun
  | [d1, d2] => { results := [.lit (.bool false)], args := [d1, d2] }
  | _ => none }
def TopWaveWrongFalsely : Prop := topWaveRow.holds Try.pinned (OpenSpec.ofChange topWaveWrong)

/-- 'rayhousetop.TopRound': WHATEVER THE INPUT: true; the input reads as it did. -/
def topRoundSpec : ChangeSpec := { name := "topRound", fn := fun _ => fun
  | [d1, d2, d3] => { results := [.lit (.bool true)], args := [d1, d2, d3] }
  | _ => none }
def topRoundRow : OpenClaim := { program := "ytnhgicdmlcnpkaa", sum := "b117d834b364aef81f4b45db02b06f4aaec592ad6a4558ef7972020481efd49e", func := "rayhouse/rayhousetop.TopRound", spec := "topRound", inPlace := ["math.sqrt", "math.archFloor", "math.Float64bits", "math.Float64frombits", "math.archTrunc"], recurses := true, apart := false }
def TopRoundSaid : Prop := topRoundRow.holds Try.pinned (OpenSpec.ofChange topRoundSpec)

/-- ITS FALSE NEIGHBOUR: 'it returns false'. Refute it at one input. -/
def topRoundWrong : ChangeSpec := { name := "topRound", fn := fun _ => fun
  | [d1, d2, d3] => { results := [.lit (.bool false)], args := [d1, d2, d3] }
  | _ => none }
def TopRoundWrongFalsely : Prop := topRoundRow.holds Try.pinned (OpenSpec.ofChange topRoundWrong)

/- THE SECOND FORM. 'bulk': how many values and letters a reading holds, each counted each time it is reached (what is shared counts as often as it is met; a slice's spare places count too). A statement '..UptoSaid' is the law's where the arguments, and the package variables that the reading takes, are together of bulk at most 1048576: NARROWER than '..Said'. Prove '..Said' where nothing that the law and all that it calls make is longer than what came in: it says more and counts as full. Else prove '..UptoSaid'. A law counts once. -/
mutual
def uptoBulk {H : Type} : DataW H → Nat
  | .lit (.string bytes) => bytes.length + 1
  | .lit _ => 1
  | .nil => 1
  | .ptr d => uptoBulk d + 1
  | .slice elems spare => uptoBulkAll elems + uptoBulkAll spare + 1
  | .agg parts => uptoBulkAll parts + 1
  | .iface _ d => uptoBulk d + 1
  | .map entries => uptoBulkEntries entries + 1
  | .held _ => 1
def uptoBulkAll {H : Type} : List (DataW H) → Nat
  | [] => 0
  | d :: r => uptoBulk d + uptoBulkAll r
def uptoBulkEntries {H : Type} : List (Lit × DataW H) → Nat
  | [] => 0
  | x :: r => uptoBulkEntry x + uptoBulkEntries r
def uptoBulkEntry {H : Type} : Lit × DataW H → Nat
  | (.string bytes, d) => bytes.length + uptoBulk d + 1
  | (_, d) => uptoBulk d + 1
 end
def uptoSmall : (H : Type) → List (DataW H) → Bool := fun _ ds => decide (uptoBulkAll ds ≤ 1048576)
def OpenSpec.upto (s : _root_.Go.ChangeSpec) : _root_.Go.OpenSpec := { _root_.Go.OpenSpec.ofChange s with cond := some uptoSmall }

/-- 'rayhouselaw.WaveRounds', WHERE WHAT IT READS IS OF BULK AT MOST 1048576: true; the input reads as it did. -/
def waveRoundsUptoRow : OpenClaim := { program := "ytnhgicdmlcnpkaa", sum := "b117d834b364aef81f4b45db02b06f4aaec592ad6a4558ef7972020481efd49e", func := "rayhouse/rayhouselaw.WaveRounds", spec := "waveRounds", inPlace := ["math.sqrt", "math.archFloor", "math.Float64bits", "math.Float64frombits", "math.archTrunc"], recurses := true, apart := false, narrowed := true }
def WaveRoundsUptoSaid : Prop := waveRoundsUptoRow.holds Try.pinned (OpenSpec.upto waveRoundsSpec)

/-- 'rayhousetop.TopWave', WHERE WHAT IT READS IS OF BULK AT MOST 1048576: true; the input reads as it did. -/
def topWaveUptoRow : OpenClaim := { program := "ytnhgicdmlcnpkaa", sum := "b117d834b364aef81f4b45db02b06f4aaec592ad6a4558ef7972020481efd49e", func := "rayhouse/rayhousetop.TopWave", spec := "topWave", inPlace := ["math.sqrt"], recurses := true, apart := false, narrowed := true }
def TopWaveUptoSaid : Prop := topWaveUptoRow.holds Try.pinned (OpenSpec.upto topWaveSpec)

/-- 'rayhousetop.TopRound', WHERE WHAT IT READS IS OF BULK AT MOST 1048576: true; the input reads as it did. -/
def topRoundUptoRow : OpenClaim := { program := "ytnhgicdmlcnpkaa", sum := "b117d834b364aef81f4b45db02b06f4aaec592ad6a4558ef7972020481efd49e", func := "rayhouse/rayhousetop.TopRound", spec := "topRound", inPlace := ["math.sqrt", "math.archFloor", "math.Float64bits", "math.Float64frombits", "math.archTrunc"], recurses := true, apart := false, narrowed := true }
def TopRoundUptoSaid : Prop := topRoundUptoRow.holds Try.pinned (OpenSpec.upto topRoundSpec)

end Rows
end Go.Proofs.Ytnhgicdmlcnpkaa
