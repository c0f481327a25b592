/-
  DERIVED. GIVEN WITH THE SEED: THE CARDS: each row of YtjnpngbgapigeaaDoorRows.lean that lists a variable, with what it lists TIED to the program's text (the seventh form; the later family's looks); each row that meets fmt, with fmt's text TOLD by the authors' own Lean function (tested against real Go, not proved from fmt's source: count such statements apart). THE CARD IS WHAT COUNTS. Prove the row's statement (the work); the ties are given (YtjnpngbgapigeaaDoorTie.lean); close each card by the builder's one call (the guide's Derived/Test/ToyasCard.lean, 'card_holds'). Laid BY PROGRAM, IN A SANDBOX (cutbox-door.mjs). By AI agents, Wed Nov 11 2026. No macro, syntax, notation, axiom, sorry.
-/
import Derived.Test.YtjnpngbgapigeaaDoorRows
import GoSem.ClaimSeven
namespace Go.Proofs.YtjnpngbgapigeaaDoor
namespace Rows

/-- THE TIED CARD OF 'rayhouselaw.PictReads'. -/
def pictReadsCard : Claim7 := { stood := { row := pictReadsRow, standIns := [], harness := (true, "45993d1e76270dd7cf414855848dee82434861f7bdb67a0574b73acd8ae3fb2f"), looks := true }, kinds := [], alts := [], laidByText := true, laidKinds := [.data, .data, .data, .data, .sentinel, .sentinel, .pinned], laidTests := true, laidLooks := .later }
def PictReadsCardSaid : Prop := Claim7.holds Tryd.pinned (.plain (OpenSpec.ofChange pictReadsSpec)) pictReadsCard

/-- THE TIED CARD OF 'rayhouselaw.PictSays'. -/
def pictSaysCard : Claim7 := { stood := { row := pictSaysRow, standIns := [], harness := (true, "45993d1e76270dd7cf414855848dee82434861f7bdb67a0574b73acd8ae3fb2f"), looks := true }, kinds := [], alts := [], laidByText := true, laidKinds := [.data, .data, .data, .data, .sentinel, .sentinel, .pinned], laidTests := true, laidLooks := .later }
def PictSaysCardSaid : Prop := Claim7.holds Tryd.pinned (.plain (OpenSpec.ofChange pictSaysSpec)) pictSaysCard

/-- THE TIED CARD OF 'rayhouselaw.PictMade'. -/
def pictMadeCard : Claim7 := { stood := { row := pictMadeRow, standIns := [], harness := (true, "45993d1e76270dd7cf414855848dee82434861f7bdb67a0574b73acd8ae3fb2f"), looks := true }, kinds := [], alts := [], laidByText := true, laidKinds := [.data, .data, .data, .data, .sentinel, .sentinel, .pinned], laidTests := true, laidLooks := .later }
def PictMadeCardSaid : Prop := Claim7.holds Tryd.pinned (.plain (OpenSpec.ofChange pictMadeSpec)) pictMadeCard

/-- THE SECOND FORM's CARD OF 'rayhouselaw.PictReads'. -/
def pictReadsUptoCard : Claim7 := { stood := { row := pictReadsUptoRow, standIns := [], harness := (true, "45993d1e76270dd7cf414855848dee82434861f7bdb67a0574b73acd8ae3fb2f"), looks := true }, kinds := [], alts := [], laidByText := true, laidKinds := [.data, .data, .data, .data, .sentinel, .sentinel, .pinned], laidTests := true, laidLooks := .later }
def PictReadsUptoCardSaid : Prop := Claim7.holds Tryd.pinned (.plain (OpenSpec.upto pictReadsSpec)) pictReadsUptoCard

/-- THE SECOND FORM's CARD OF 'rayhouselaw.PictSays'. -/
def pictSaysUptoCard : Claim7 := { stood := { row := pictSaysUptoRow, standIns := [], harness := (true, "45993d1e76270dd7cf414855848dee82434861f7bdb67a0574b73acd8ae3fb2f"), looks := true }, kinds := [], alts := [], laidByText := true, laidKinds := [.data, .data, .data, .data, .sentinel, .sentinel, .pinned], laidTests := true, laidLooks := .later }
def PictSaysUptoCardSaid : Prop := Claim7.holds Tryd.pinned (.plain (OpenSpec.upto pictSaysSpec)) pictSaysUptoCard

/-- THE SECOND FORM's CARD OF 'rayhouselaw.PictMade'. -/
def pictMadeUptoCard : Claim7 := { stood := { row := pictMadeUptoRow, standIns := [], harness := (true, "45993d1e76270dd7cf414855848dee82434861f7bdb67a0574b73acd8ae3fb2f"), looks := true }, kinds := [], alts := [], laidByText := true, laidKinds := [.data, .data, .data, .data, .sentinel, .sentinel, .pinned], laidTests := true, laidLooks := .later }
def PictMadeUptoCardSaid : Prop := Claim7.holds Tryd.pinned (.plain (OpenSpec.upto pictMadeSpec)) pictMadeUptoCard
end Rows
end Go.Proofs.YtjnpngbgapigeaaDoor
