/- What every world has that comes up: the tables that the library's functions read. -/
import Derived.Test.YtphdjmaebdmdmaaGreatDoorFloat
import Derived.Lib.LaidTab
import Derived.Lib.AppendIntMem
import Derived.Test.YtphdjmaebdmdmaaGreatDoorProg
namespace Go.Proofs.YtphdjmaebdmdmaaGreatDoor
open Go.RowKit Go.Lib
set_option linter.unusedVariables false
/-- The type of bytes. -/
def u8T : TypeId := 5
def TW (w : World) : Prop := TabIs Tryz.prog w "internal/strconv.uint64pow10" .u64 pow10Tab
theorem TW.below {w w' : World} (h : TW w) (hb : Below w.heap.size w w') : TW w' := tabBelow_of_tabIs h w' hb
end Go.Proofs.YtphdjmaebdmdmaaGreatDoor
