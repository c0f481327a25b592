/-
  No cell of these rows narrows 'for every input' (looked for: loops, veiled, ifaces, maps, wideKeys, modest, calm, conditions, laid).
  DERIVED. THE GIVEN ROWS OF THIS SEAT. 7 by the template 'for every input the law returns true; each argument reads behind the call as it read before'; 0 by the template 'total and deterministic' (their statements: YtlcdaoljfclliaaTotals.lean).
  GIVEN WITH THE SEED: the statements are not yours to turn. If you find one false, say at which input.
  Laid BY PROGRAM, IN A SANDBOX (cutbox-rows.mjs): the forced cells as the released guide's own fill.sh prints them over the translation 6fd1cca1c06acc87… (all of the seat's roots in one cut). By AI agents, Wed Nov 11 2026. No macro, syntax, notation, axiom, sorry.
-/
import Derived.Test.YtlcdaoljfclliaaChecked
import GoSem.Claim
import GoSem.ClaimJoined
import GoSem.ClaimMapViews
import Derived.JoinedTies
import Derived.KernelRfl
namespace Go.Proofs.Ytlcdaoljfclliaa
/- THE CELL 'sum', in the pinned program and in every row, IS THE sha256 OF THE DUMP (.gsa) THAT YtlcdaoljfclliaaProg.lean LOADS. Nothing in Lean hashes anything: it is a label: what it is worth is what the hold of that sum in a sandbox is worth. -/
noncomputable def Try.pinned : Pinned := { name := "ytlcdaoljfclliaa", sum := "6fd1cca1c06acc875e5f36802acdec1aa7c4e43cb42578dbf70b7237ee592c08", checked := Try.checked }
namespace Rows
def none {H : Type} : Left H := { results := [], args := [] }

/-- 'rayhouselaw.ReelApart': WHATEVER THE INPUT: true; the input reads as it did. -/
def reelApartSpec : ChangeSpec := { name := "reelApart", fn := fun _ => fun
  | [d1, d2] => { results := [.lit (.bool true)], args := [d1, d2] }
  | _ => none }
def reelApartRow : OpenClaim := { program := "ytlcdaoljfclliaa", sum := "6fd1cca1c06acc875e5f36802acdec1aa7c4e43cb42578dbf70b7237ee592c08", func := "rayhouse/rayhouselaw.ReelApart", spec := "reelApart", apart := false }
def ReelApartSaid : Prop := reelApartRow.holds Try.pinned (OpenSpec.ofChange reelApartSpec)

/-- ITS FALSE NEIGHBOUR: 'it returns false'. Refute it at one input. -/
def reelApartWrong : ChangeSpec := { name := "reelApart", fn := fun _ => fun
  | [d1, d2] => { results := [.lit (.bool false)], args := [d1, d2] }
  | _ => none }
def ReelApartWrongFalsely : Prop := reelApartRow.holds Try.pinned (OpenSpec.ofChange reelApartWrong)

/-- 'rayhouselaw.SkinSays': WHATEVER THE INPUT: true; the input reads as it did. -/
def skinSaysSpec : ChangeSpec := { name := "skinSays", fn := fun _ => fun
  | [d1, d2, d3, d4] => { results := [.lit (.bool true)], args := [d1, d2, d3, d4] }
  | _ => none }
def skinSaysRow : OpenClaim := { program := "ytlcdaoljfclliaa", sum := "6fd1cca1c06acc875e5f36802acdec1aa7c4e43cb42578dbf70b7237ee592c08", func := "rayhouse/rayhouselaw.SkinSays", spec := "skinSays", apart := false }
def SkinSaysSaid : Prop := skinSaysRow.holds Try.pinned (OpenSpec.ofChange skinSaysSpec)

/-- ITS FALSE NEIGHBOUR: 'it returns false'. Refute it at one input. -/
def skinSaysWrong : ChangeSpec := { name := "skinSays", fn := fun _ => fun
  | [d1, d2, d3, d4] => { results := [.lit (.bool false)], args := [d1, d2, d3, d4] }
  | _ => none }
def SkinSaysWrongFalsely : Prop := skinSaysRow.holds Try.pinned (OpenSpec.ofChange skinSaysWrong)

/-- 'rayhouselaw.SkinMade': WHATEVER THE INPUT: true; the input reads as it did. -/
def skinMadeSpec : ChangeSpec := { name := "skinMade", fn := fun _ => fun
  | [d1, d2, d3, d4, d5, d6] => { results := [.lit (.bool true)], args := [d1, d2, d3, d4, d5, d6] }
  | _ => none }
def skinMadeRow : OpenClaim := { program := "ytlcdaoljfclliaa", sum := "6fd1cca1c06acc875e5f36802acdec1aa7c4e43cb42578dbf70b7237ee592c08", func := "rayhouse/rayhouselaw.SkinMade", spec := "skinMade", apart := false }
def SkinMadeSaid : Prop := skinMadeRow.holds Try.pinned (OpenSpec.ofChange skinMadeSpec)

/-- ITS FALSE NEIGHBOUR: 'it returns false'. Refute it at one input. -/
def skinMadeWrong : ChangeSpec := { name := "skinMade", fn := fun _ => fun
  | [d1, d2, d3, d4, d5, d6] => { results := [.lit (.bool false)], args := [d1, d2, d3, d4, d5, d6] }
  | _ => none }
def SkinMadeWrongFalsely : Prop := skinMadeRow.holds Try.pinned (OpenSpec.ofChange skinMadeWrong)

/-- 'rayhousetop.TopSkin': WHATEVER THE INPUT: true; the input reads as it did. -/
def topSkinSpec : ChangeSpec := { name := "topSkin", fn := fun _ => fun
  | [d1, d2, d3, d4, d5, d6] => { results := [.lit (.bool true)], args := [d1, d2, d3, d4, d5, d6] }
  | _ => none }
def topSkinRow : OpenClaim := { program := "ytlcdaoljfclliaa", sum := "6fd1cca1c06acc875e5f36802acdec1aa7c4e43cb42578dbf70b7237ee592c08", func := "rayhouse/rayhousetop.TopSkin", spec := "topSkin", apart := false }
def TopSkinSaid : Prop := topSkinRow.holds Try.pinned (OpenSpec.ofChange topSkinSpec)

/-- ITS FALSE NEIGHBOUR: 'it returns false'. Refute it at one input. -/
def topSkinWrong : ChangeSpec := { name := "topSkin", fn := fun _ => fun
  | [d1, d2, d3, d4, d5, d6] => { results := [.lit (.bool false)], args := [d1, d2, d3, d4, d5, d6] }
  | _ => none }
def TopSkinWrongFalsely : Prop := topSkinRow.holds Try.pinned (OpenSpec.ofChange topSkinWrong)

/-- 'rayhouselaw.BlendSays': WHATEVER THE INPUT: true; the input reads as it did. -/
def blendSaysSpec : ChangeSpec := { name := "blendSays", fn := fun _ => fun
  | [d1, d2, d3, d4, d5] => { results := [.lit (.bool true)], args := [d1, d2, d3, d4, d5] }
  | _ => none }
def blendSaysRow : OpenClaim := { program := "ytlcdaoljfclliaa", sum := "6fd1cca1c06acc875e5f36802acdec1aa7c4e43cb42578dbf70b7237ee592c08", func := "rayhouse/rayhouselaw.BlendSays", spec := "blendSays", unfollowed := true, recurses := true, apart := false }
def BlendSaysSaid : Prop := blendSaysRow.holds Try.pinned (OpenSpec.ofChange blendSaysSpec)

/-- ITS FALSE NEIGHBOUR: 'it returns false'. Refute it at one input. -/
def blendSaysWrong : ChangeSpec := { name := "blendSays", fn := fun _ => fun
  | [d1, d2, d3, d4, d5] => { results := [.lit (.bool false)], args := [d1, d2, d3, d4, d5] }
  | _ => none }
def BlendSaysWrongFalsely : Prop := blendSaysRow.holds Try.pinned (OpenSpec.ofChange blendSaysWrong)

/-- 'rayhouselaw.BlendMade': WHATEVER THE INPUT: true; the input reads as it did. -/
def blendMadeSpec : ChangeSpec := { name := "blendMade", fn := fun _ => fun
  | [d1, d2, d3, d4, d5] => { results := [.lit (.bool true)], args := [d1, d2, d3, d4, d5] }
  | _ => none }
def blendMadeRow : OpenClaim := { program := "ytlcdaoljfclliaa", sum := "6fd1cca1c06acc875e5f36802acdec1aa7c4e43cb42578dbf70b7237ee592c08", func := "rayhouse/rayhouselaw.BlendMade", spec := "blendMade", unfollowed := true, recurses := true, apart := false }
def BlendMadeSaid : Prop := blendMadeRow.holds Try.pinned (OpenSpec.ofChange blendMadeSpec)

/-- ITS FALSE NEIGHBOUR: 'it returns false'. Refute it at one input. -/
def blendMadeWrong : ChangeSpec := { name := "blendMade", fn := fun _ => fun
  | [d1, d2, d3, d4, d5] => { results := [.lit (.bool false)], args := [d1, d2, d3, d4, d5] }
  | _ => none }
def BlendMadeWrongFalsely : Prop := blendMadeRow.holds Try.pinned (OpenSpec.ofChange blendMadeWrong)

/-- 'rayhousetop.TopBlend': WHATEVER THE INPUT: true; the input reads as it did. -/
def topBlendSpec : ChangeSpec := { name := "topBlend", fn := fun _ => fun
  | [d1, d2, d3, d4] => { results := [.lit (.bool true)], args := [d1, d2, d3, d4] }
  | _ => none }
def topBlendRow : OpenClaim := { program := "ytlcdaoljfclliaa", sum := "6fd1cca1c06acc875e5f36802acdec1aa7c4e43cb42578dbf70b7237ee592c08", func := "rayhouse/rayhousetop.TopBlend", spec := "topBlend", unfollowed := true, recurses := true, apart := false }
def TopBlendSaid : Prop := topBlendRow.holds Try.pinned (OpenSpec.ofChange topBlendSpec)

/-- ITS FALSE NEIGHBOUR: 'it returns false'. Refute it at one input. -/
def topBlendWrong : ChangeSpec := { name := "topBlend", fn := fun _ => fun
  | [d1, d2, d3, d4] => { results := [.lit (.bool false)], args := [d1, d2, d3, d4] }
  | _ => none }
def TopBlendWrongFalsely : Prop := topBlendRow.holds Try.pinned (OpenSpec.ofChange topBlendWrong)

/- THE SECOND FORM. 'bulk': how many values and letters a reading holds, each counted each time it is reached (what is shared counts as often as it is met; a slice's spare places count too). A statement '..UptoSaid' is the law's where the arguments, and the package variables that the reading takes, are together of bulk at most 1048576: NARROWER than '..Said'. Prove '..Said' where nothing that the law and all that it calls make is longer than what came in: it says more and counts as full. Else prove '..UptoSaid'. A law counts once. -/
mutual
def uptoBulk {H : Type} : DataW H → Nat
  | .lit (.string bytes) => bytes.length + 1
  | .lit _ => 1
  | .nil => 1
  | .ptr d => uptoBulk d + 1
  | .slice elems spare => uptoBulkAll elems + uptoBulkAll spare + 1
  | .agg parts => uptoBulkAll parts + 1
  | .iface _ d => uptoBulk d + 1
  | .map entries => uptoBulkEntries entries + 1
  | .held _ => 1
def uptoBulkAll {H : Type} : List (DataW H) → Nat
  | [] => 0
  | d :: r => uptoBulk d + uptoBulkAll r
def uptoBulkEntries {H : Type} : List (Lit × DataW H) → Nat
  | [] => 0
  | x :: r => uptoBulkEntry x + uptoBulkEntries r
def uptoBulkEntry {H : Type} : Lit × DataW H → Nat
  | (.string bytes, d) => bytes.length + uptoBulk d + 1
  | (_, d) => uptoBulk d + 1
 end
def uptoSmall : (H : Type) → List (DataW H) → Bool := fun _ ds => decide (uptoBulkAll ds ≤ 1048576)
def OpenSpec.upto (s : _root_.Go.ChangeSpec) : _root_.Go.OpenSpec := { _root_.Go.OpenSpec.ofChange s with cond := some uptoSmall }

/-- 'rayhouselaw.ReelApart', WHERE WHAT IT READS IS OF BULK AT MOST 1048576: true; the input reads as it did. -/
def reelApartUptoRow : OpenClaim := { program := "ytlcdaoljfclliaa", sum := "6fd1cca1c06acc875e5f36802acdec1aa7c4e43cb42578dbf70b7237ee592c08", func := "rayhouse/rayhouselaw.ReelApart", spec := "reelApart", apart := false, narrowed := true }
def ReelApartUptoSaid : Prop := reelApartUptoRow.holds Try.pinned (OpenSpec.upto reelApartSpec)

/-- 'rayhouselaw.SkinSays', WHERE WHAT IT READS IS OF BULK AT MOST 1048576: true; the input reads as it did. -/
def skinSaysUptoRow : OpenClaim := { program := "ytlcdaoljfclliaa", sum := "6fd1cca1c06acc875e5f36802acdec1aa7c4e43cb42578dbf70b7237ee592c08", func := "rayhouse/rayhouselaw.SkinSays", spec := "skinSays", apart := false, narrowed := true }
def SkinSaysUptoSaid : Prop := skinSaysUptoRow.holds Try.pinned (OpenSpec.upto skinSaysSpec)

/-- 'rayhouselaw.SkinMade', WHERE WHAT IT READS IS OF BULK AT MOST 1048576: true; the input reads as it did. -/
def skinMadeUptoRow : OpenClaim := { program := "ytlcdaoljfclliaa", sum := "6fd1cca1c06acc875e5f36802acdec1aa7c4e43cb42578dbf70b7237ee592c08", func := "rayhouse/rayhouselaw.SkinMade", spec := "skinMade", apart := false, narrowed := true }
def SkinMadeUptoSaid : Prop := skinMadeUptoRow.holds Try.pinned (OpenSpec.upto skinMadeSpec)

/-- 'rayhousetop.TopSkin', WHERE WHAT IT READS IS OF BULK AT MOST 1048576: true; the input reads as it did. -/
def topSkinUptoRow : OpenClaim := { program := "ytlcdaoljfclliaa", sum := "6fd1cca1c06acc875e5f36802acdec1aa7c4e43cb42578dbf70b7237ee592c08", func := "rayhouse/rayhousetop.TopSkin", spec := "topSkin", apart := false, narrowed := true }
def TopSkinUptoSaid : Prop := topSkinUptoRow.holds Try.pinned (OpenSpec.upto topSkinSpec)

/-- 'rayhouselaw.BlendSays', WHERE WHAT IT READS IS OF BULK AT MOST 1048576: true; the input reads as it did. -/
def blendSaysUptoRow : OpenClaim := { program := "ytlcdaoljfclliaa", sum := "6fd1cca1c06acc875e5f36802acdec1aa7c4e43cb42578dbf70b7237ee592c08", func := "rayhouse/rayhouselaw.BlendSays", spec := "blendSays", unfollowed := true, recurses := true, apart := false, narrowed := true }
def BlendSaysUptoSaid : Prop := blendSaysUptoRow.holds Try.pinned (OpenSpec.upto blendSaysSpec)

/-- 'rayhouselaw.BlendMade', WHERE WHAT IT READS IS OF BULK AT MOST 1048576: true; the input reads as it did. -/
def blendMadeUptoRow : OpenClaim := { program := "ytlcdaoljfclliaa", sum := "6fd1cca1c06acc875e5f36802acdec1aa7c4e43cb42578dbf70b7237ee592c08", func := "rayhouse/rayhouselaw.BlendMade", spec := "blendMade", unfollowed := true, recurses := true, apart := false, narrowed := true }
def BlendMadeUptoSaid : Prop := blendMadeUptoRow.holds Try.pinned (OpenSpec.upto blendMadeSpec)

/-- 'rayhousetop.TopBlend', WHERE WHAT IT READS IS OF BULK AT MOST 1048576: true; the input reads as it did. -/
def topBlendUptoRow : OpenClaim := { program := "ytlcdaoljfclliaa", sum := "6fd1cca1c06acc875e5f36802acdec1aa7c4e43cb42578dbf70b7237ee592c08", func := "rayhouse/rayhousetop.TopBlend", spec := "topBlend", unfollowed := true, recurses := true, apart := false, narrowed := true }
def TopBlendUptoSaid : Prop := topBlendUptoRow.holds Try.pinned (OpenSpec.upto topBlendSpec)

end Rows
end Go.Proofs.Ytlcdaoljfclliaa
