/-
  No cell of these rows narrows 'for every input' (looked for: loops, veiled, ifaces, maps, wideKeys, modest, calm, conditions, laid).
  DERIVED. THE GIVEN ROWS OF THIS SEAT. 4 by the template 'for every input the law returns true; each argument reads behind the call as it read before'; 0 by the template 'total and deterministic' (their statements: YtoaghdmhapcgiaaTotals.lean).
  GIVEN WITH THE SEED: the statements are not yours to turn. If you find one false, say at which input.
  Laid BY PROGRAM, IN A SANDBOX (cutbox-rows.mjs): the forced cells as the released guide's own fill.sh prints them over the translation b6e490114eb4cb49… (all of the seat's roots in one cut). By AI agents, Wed Nov 11 2026. No macro, syntax, notation, axiom, sorry.
-/
import Derived.Test.YtoaghdmhapcgiaaChecked
import GoSem.Claim
import GoSem.ClaimJoined
import GoSem.ClaimMapViews
import Derived.JoinedTies
import Derived.KernelRfl
namespace Go.Proofs.Ytoaghdmhapcgiaa
/- THE CELL 'sum', in the pinned program and in every row, IS THE sha256 OF THE DUMP (.gsa) THAT YtoaghdmhapcgiaaProg.lean LOADS. Nothing in Lean hashes anything: it is a label: what it is worth is what the hold of that sum in a sandbox is worth. -/
noncomputable def Try.pinned : Pinned := { name := "ytoaghdmhapcgiaa", sum := "b6e490114eb4cb49a8a0f5f46e4d8e502db9f1229e5ecf347395384c884c57f4", checked := Try.checked }
namespace Rows
def none {H : Type} : Left H := { results := [], args := [] }

/-- 'rayhouselaw.FilmSays': WHATEVER THE INPUT: true; the input reads as it did. -/
def filmSaysSpec : ChangeSpec := { name := "filmSays", fn := fun _ => fun
  | [d1, d2, d3, d4, d5, d6, d7, d8] => { results := [.lit (.bool true)], args := [d1, d2, d3, d4, d5, d6, d7, d8] }
  | _ => none }
def filmSaysRow : OpenClaim := { program := "ytoaghdmhapcgiaa", sum := "b6e490114eb4cb49a8a0f5f46e4d8e502db9f1229e5ecf347395384c884c57f4", func := "rayhouse/rayhouselaw.FilmSays", spec := "filmSays", unfollowed := true, recurses := true, apart := false }
def FilmSaysSaid : Prop := filmSaysRow.holds Try.pinned (OpenSpec.ofChange filmSaysSpec)

/-- ITS FALSE NEIGHBOUR: 'it returns false'. Refute it at one input. -/
def filmSaysWrong : ChangeSpec := { name := "filmSays", fn := fun _ => fun
  | [d1, d2, d3, d4, d5, d6, d7, d8] => { results := [.lit (.bool false)], args := [d1, d2, d3, d4, d5, d6, d7, d8] }
  | _ => none }
def FilmSaysWrongFalsely : Prop := filmSaysRow.holds Try.pinned (OpenSpec.ofChange filmSaysWrong)

/-- 'rayhouselaw.FilmMade': WHATEVER THE INPUT: true; the input reads as it did. -/
def filmMadeSpec : ChangeSpec := { name := "filmMade", fn := fun _ => fun
  | [d1, d2, d3, d4, d5, d6, d7, d8] => { results := [.lit (.bool true)], args := [d1, d2, d3, d4, d5, d6, d7, d8] }
  | _ => none }
def filmMadeRow : OpenClaim := { program := "ytoaghdmhapcgiaa", sum := "b6e490114eb4cb49a8a0f5f46e4d8e502db9f1229e5ecf347395384c884c57f4", func := "rayhouse/rayhouselaw.FilmMade", spec := "filmMade", unfollowed := true, recurses := true, apart := false }
def FilmMadeSaid : Prop := filmMadeRow.holds Try.pinned (OpenSpec.ofChange filmMadeSpec)

/-- ITS FALSE NEIGHBOUR: 'it returns false'. Refute it at one input. -/
def filmMadeWrong : ChangeSpec := { name := "filmMade", fn := fun _ => fun
  | [d1, d2, d3, d4, d5, d6, d7, d8] => { results := [.lit (.bool false)], args := [d1, d2, d3, d4, d5, d6, d7, d8] }
  | _ => none }
def FilmMadeWrongFalsely : Prop := filmMadeRow.holds Try.pinned (OpenSpec.ofChange filmMadeWrong)

/-- 'rayhousetop.TopMerge': WHATEVER THE INPUT: true; the input reads as it did. -/
def topMergeSpec : ChangeSpec := { name := "topMerge", fn := fun _ => fun
  | [d1, d2, d3, d4, d5] => { results := [.lit (.bool true)], args := [d1, d2, d3, d4, d5] }
  | _ => none }
def topMergeRow : OpenClaim := { program := "ytoaghdmhapcgiaa", sum := "b6e490114eb4cb49a8a0f5f46e4d8e502db9f1229e5ecf347395384c884c57f4", func := "rayhouse/rayhousetop.TopMerge", spec := "topMerge", apart := false }
def TopMergeSaid : Prop := topMergeRow.holds Try.pinned (OpenSpec.ofChange topMergeSpec)

/-- ITS FALSE NEIGHBOUR: 'it returns false'. Refute it at one input. -/
def topMergeWrong : ChangeSpec := { name := "topMerge", fn := fun _ => fun
  | [d1, d2, d3, d4, d5] => { results := [.lit (.bool false)], args := [d1, d2, d3, d4, d5] }
  | _ => none }
def TopMergeWrongFalsely : Prop := topMergeRow.holds Try.pinned (OpenSpec.ofChange topMergeWrong)

/-- 'rayhousetop.TopShade': WHATEVER THE INPUT: true; the input reads as it did. -/
def topShadeSpec : ChangeSpec := { name := "topShade", fn := fun _ => fun
  | [d1, d2] => { results := [.lit (.bool true)], args := [d1, d2] }
  | _ => none }
def topShadeRow : OpenClaim := { program := "ytoaghdmhapcgiaa", sum := "b6e490114eb4cb49a8a0f5f46e4d8e502db9f1229e5ecf347395384c884c57f4", func := "rayhouse/rayhousetop.TopShade", spec := "topShade", unfollowed := true, recurses := true, apart := false }
def TopShadeSaid : Prop := topShadeRow.holds Try.pinned (OpenSpec.ofChange topShadeSpec)

/-- ITS FALSE NEIGHBOUR: 'it returns false'. Refute it at one input. -/
def topShadeWrong : ChangeSpec := { name := "topShade", fn := fun _ => fun
  | [d1, d2] => { results := [.lit (.bool false)], args := [d1, d2] }
  | _ => none }
def TopShadeWrongFalsely : Prop := topShadeRow.holds Try.pinned (OpenSpec.ofChange topShadeWrong)

/- THE SECOND FORM. 'bulk': how many values and letters a reading holds, each counted each time it is reached (what is shared counts as often as it is met; a slice's spare places count too). A statement '..UptoSaid' is the law's where the arguments, and the package variables that the reading takes, are together of bulk at most 1048576: NARROWER than '..Said'. Prove '..Said' where nothing that the law and all that it calls make is longer than what came in: it says more and counts as full. Else prove '..UptoSaid'. A law counts once. -/
mutual
def uptoBulk {H : Type} : DataW H → Nat
  | .lit (.string bytes) => bytes.length + 1
  | .lit _ => 1
  | .nil => 1
  | .ptr d => uptoBulk d + 1
  | .slice elems spare => uptoBulkAll elems + uptoBulkAll spare + 1
  | .agg parts => uptoBulkAll parts + 1
  | .iface _ d => uptoBulk d + 1
  | .map entries => uptoBulkEntries entries + 1
  | .held _ => 1
def uptoBulkAll {H : Type} : List (DataW H) → Nat
  | [] => 0
  | d :: r => uptoBulk d + uptoBulkAll r
def uptoBulkEntries {H : Type} : List (Lit × DataW H) → Nat
  | [] => 0
  | x :: r => uptoBulkEntry x + uptoBulkEntries r
def uptoBulkEntry {H : Type} : Lit × DataW H → Nat
  | (.string bytes, d) => bytes.length + uptoBulk d + 1
  | (_, d) => uptoBulk d + 1
 end
def uptoSmall : (H : Type) → List (DataW H) → Bool := fun _ ds => decide (uptoBulkAll ds ≤ 1048576)
def OpenSpec.upto (s : _root_.Go.ChangeSpec) : _root_.Go.OpenSpec := { _root_.Go.OpenSpec.ofChange s with cond := some uptoSmall }

/-- 'rayhouselaw.FilmSays', WHERE WHAT IT READS IS OF BULK AT MOST 1048576: true; the input reads as it did. -/
def filmSaysUptoRow : OpenClaim := { program := "ytoaghdmhapcgiaa", sum := "b6e490114eb4cb49a8a0f5f46e4d8e502db9f1229e5ecf347395384c884c57f4", func := "rayhouse/rayhouselaw.FilmSays", spec := "filmSays", unfollowed := true, recurses := true, apart := false, narrowed := true }
def FilmSaysUptoSaid : Prop := filmSaysUptoRow.holds Try.pinned (OpenSpec.upto filmSaysSpec)

/-- 'rayhouselaw.FilmMade', WHERE WHAT IT READS IS OF BULK AT MOST 1048576: true; the input reads as it did. -/
def filmMadeUptoRow : OpenClaim := { program := "ytoaghdmhapcgiaa", sum := "b6e490114eb4cb49a8a0f5f46e4d8e502db9f1229e5ecf347395384c884c57f4", func := "rayhouse/rayhouselaw.FilmMade", spec := "filmMade", unfollowed := true, recurses := true, apart := false, narrowed := true }
def FilmMadeUptoSaid : Prop := filmMadeUptoRow.holds Try.pinned (OpenSpec.upto filmMadeSpec)

/-- 'rayhousetop.TopMerge', WHERE WHAT IT READS IS OF BULK AT MOST 1048576: true; the input reads as it did. -/
def topMergeUptoRow : OpenClaim := { program := "ytoaghdmhapcgiaa", sum := "b6e490114eb4cb49a8a0f5f46e4d8e502db9f1229e5ecf347395384c884c57f4", func := "rayhouse/rayhousetop.TopMerge", spec := "topMerge", apart := false, narrowed := true }
def TopMergeUptoSaid : Prop := topMergeUptoRow.holds Try.pinned (OpenSpec.upto topMergeSpec)

/-- 'rayhousetop.TopShade', WHERE WHAT IT READS IS OF BULK AT MOST 1048576: true; the input reads as it did. -/
def topShadeUptoRow : OpenClaim := { program := "ytoaghdmhapcgiaa", sum := "b6e490114eb4cb49a8a0f5f46e4d8e502db9f1229e5ecf347395384c884c57f4", func := "rayhouse/rayhousetop.TopShade", spec := "topShade", unfollowed := true, recurses := true, apart := false, narrowed := true }
def TopShadeUptoSaid : Prop := topShadeUptoRow.holds Try.pinned (OpenSpec.upto topShadeSpec)

end Rows
end Go.Proofs.Ytoaghdmhapcgiaa
