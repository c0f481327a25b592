/-
  DERIVED. GIVEN WITH THE SEED: THE CARDS: each row of YtphdjmaebdmdmaaGreatDoorRows.lean that lists a variable, with what it lists TIED to the program's text (the seventh form; the later family's looks); each row that meets fmt, with fmt's text TOLD by the authors' own Lean function (tested against real Go, not proved from fmt's source: count such statements apart). THE CARD IS WHAT COUNTS. Prove the row's statement (the work); the ties are given (YtphdjmaebdmdmaaGreatDoorTie.lean); close each card by the builder's one call (the guide's Derived/Test/ToyasCard.lean, 'card_holds'). Laid BY PROGRAM, IN A SANDBOX (cutbox-door.mjs). By AI agents, Wed Nov 11 2026. No macro, syntax, notation, axiom, sorry.
-/
import Derived.Test.YtphdjmaebdmdmaaGreatDoorRows
import GoSem.ClaimSeven
namespace Go.Proofs.YtphdjmaebdmdmaaGreatDoor
namespace Rows

/-- THE TIED CARD OF 'rayhouselaw.ScenePrints'. -/
def scenePrintsCard : Claim7 := { stood := { row := scenePrintsRow, standIns := [], harness := (true, "e55ee1e925726c232d0447a58671bc9401cdb08f0a59b4377790dfc5a4f43c0f"), looks := true }, kinds := [], alts := [], laidByText := true, laidKinds := [.data, .data, .data, .data, .pinned], laidTests := true, laidLooks := .later }
def ScenePrintsCardSaid : Prop := Claim7.holds Tryz.pinned (.plain (OpenSpec.ofChange scenePrintsSpec)) scenePrintsCard

/-- THE TIED CARD OF 'rayhouselaw.SceneParses'. -/
def sceneParsesCard : Claim7 := { stood := { row := sceneParsesRow, standIns := [], harness := (true, "e55ee1e925726c232d0447a58671bc9401cdb08f0a59b4377790dfc5a4f43c0f"), looks := true }, kinds := [], alts := [], laidByText := true, laidKinds := [.data, .data, .data, .data, .sentinel, .sentinel, .pinned], laidTests := true, laidLooks := .later }
def SceneParsesCardSaid : Prop := Claim7.holds Tryz.pinned (.plain (OpenSpec.ofChange sceneParsesSpec)) sceneParsesCard

/-- THE TIED CARD OF 'rayhouselaw.SceneBack'. -/
def sceneBackCard : Claim7 := { stood := { row := sceneBackRow, standIns := [], harness := (true, "e55ee1e925726c232d0447a58671bc9401cdb08f0a59b4377790dfc5a4f43c0f"), looks := true }, kinds := [], alts := [], laidByText := true, laidKinds := [.data, .data, .data, .data, .sentinel, .sentinel, .pinned], laidTests := true, laidLooks := .later }
def SceneBackCardSaid : Prop := Claim7.holds Tryz.pinned (.plain (OpenSpec.ofChange sceneBackSpec)) sceneBackCard

/-- THE TIED CARD OF 'rayhouselaw.SceneMade'. -/
def sceneMadeCard : Claim7 := { stood := { row := sceneMadeRow, standIns := [], harness := (true, "e55ee1e925726c232d0447a58671bc9401cdb08f0a59b4377790dfc5a4f43c0f"), looks := true }, kinds := [], alts := [], laidByText := true, laidKinds := [.data, .data, .data, .data, .sentinel, .sentinel, .pinned], laidTests := true, laidLooks := .later }
def SceneMadeCardSaid : Prop := Claim7.holds Tryz.pinned (.plain (OpenSpec.ofChange sceneMadeSpec)) sceneMadeCard

/-- THE TIED CARD OF 'rayhousetop.TopTold'. -/
def topToldCard : Claim7 := { stood := { row := topToldRow, standIns := [], harness := (true, "e55ee1e925726c232d0447a58671bc9401cdb08f0a59b4377790dfc5a4f43c0f"), looks := true }, kinds := [], alts := [], laidByText := true, laidKinds := [.data, .data, .data, .data, .sentinel, .sentinel, .pinned], laidTests := true, laidLooks := .later }
def TopToldCardSaid : Prop := Claim7.holds Tryz.pinned (.plain (OpenSpec.ofChange topToldSpec)) topToldCard

/-- THE SECOND FORM's CARD OF 'rayhouselaw.ScenePrints'. -/
def scenePrintsUptoCard : Claim7 := { stood := { row := scenePrintsUptoRow, standIns := [], harness := (true, "e55ee1e925726c232d0447a58671bc9401cdb08f0a59b4377790dfc5a4f43c0f"), looks := true }, kinds := [], alts := [], laidByText := true, laidKinds := [.data, .data, .data, .data, .pinned], laidTests := true, laidLooks := .later }
def ScenePrintsUptoCardSaid : Prop := Claim7.holds Tryz.pinned (.plain (OpenSpec.upto scenePrintsSpec)) scenePrintsUptoCard

/-- THE SECOND FORM's CARD OF 'rayhouselaw.SceneParses'. -/
def sceneParsesUptoCard : Claim7 := { stood := { row := sceneParsesUptoRow, standIns := [], harness := (true, "e55ee1e925726c232d0447a58671bc9401cdb08f0a59b4377790dfc5a4f43c0f"), looks := true }, kinds := [], alts := [], laidByText := true, laidKinds := [.data, .data, .data, .data, .sentinel, .sentinel, .pinned], laidTests := true, laidLooks := .later }
def SceneParsesUptoCardSaid : Prop := Claim7.holds Tryz.pinned (.plain (OpenSpec.upto sceneParsesSpec)) sceneParsesUptoCard

/-- THE SECOND FORM's CARD OF 'rayhouselaw.SceneBack'. -/
def sceneBackUptoCard : Claim7 := { stood := { row := sceneBackUptoRow, standIns := [], harness := (true, "e55ee1e925726c232d0447a58671bc9401cdb08f0a59b4377790dfc5a4f43c0f"), looks := true }, kinds := [], alts := [], laidByText := true, laidKinds := [.data, .data, .data, .data, .sentinel, .sentinel, .pinned], laidTests := true, laidLooks := .later }
def SceneBackUptoCardSaid : Prop := Claim7.holds Tryz.pinned (.plain (OpenSpec.upto sceneBackSpec)) sceneBackUptoCard

/-- THE SECOND FORM's CARD OF 'rayhouselaw.SceneMade'. -/
def sceneMadeUptoCard : Claim7 := { stood := { row := sceneMadeUptoRow, standIns := [], harness := (true, "e55ee1e925726c232d0447a58671bc9401cdb08f0a59b4377790dfc5a4f43c0f"), looks := true }, kinds := [], alts := [], laidByText := true, laidKinds := [.data, .data, .data, .data, .sentinel, .sentinel, .pinned], laidTests := true, laidLooks := .later }
def SceneMadeUptoCardSaid : Prop := Claim7.holds Tryz.pinned (.plain (OpenSpec.upto sceneMadeSpec)) sceneMadeUptoCard

/-- THE SECOND FORM's CARD OF 'rayhousetop.TopTold'. -/
def topToldUptoCard : Claim7 := { stood := { row := topToldUptoRow, standIns := [], harness := (true, "e55ee1e925726c232d0447a58671bc9401cdb08f0a59b4377790dfc5a4f43c0f"), looks := true }, kinds := [], alts := [], laidByText := true, laidKinds := [.data, .data, .data, .data, .sentinel, .sentinel, .pinned], laidTests := true, laidLooks := .later }
def TopToldUptoCardSaid : Prop := Claim7.holds Tryz.pinned (.plain (OpenSpec.upto topToldSpec)) topToldUptoCard
end Rows
end Go.Proofs.YtphdjmaebdmdmaaGreatDoor
