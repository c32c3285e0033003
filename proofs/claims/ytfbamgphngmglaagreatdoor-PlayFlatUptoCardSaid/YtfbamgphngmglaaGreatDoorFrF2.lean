/- A part of the proof that cyanotypelaw22.PlayFlat returns true: a step that the closing text imports. Each theorem states its own conditions. -/
import Derived.Test.YtfbamgphngmglaaGreatDoorFrF1
set_option linter.unusedSimpArgs false
set_option linter.unusedVariables false
namespace Go.Proofs.YtfbamgphngmglaaGreatDoor.playFlat
open Go Go.ChangeShapes
theorem g3 : Rows.playFlatUptoRow.unfollowed = Tryz.pinned.checked.prog.unfollowed 5 := by kernel_rfl
theorem g4 : Rows.playFlatUptoRow.recurses = Tryz.pinned.checked.prog.recurses 5 := by kernel_rfl
end Go.Proofs.YtfbamgphngmglaaGreatDoor.playFlat
