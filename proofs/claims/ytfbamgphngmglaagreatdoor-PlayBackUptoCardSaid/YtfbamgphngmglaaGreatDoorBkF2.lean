/- A part of a proof about a statement of cyanotypelaw22: a step that the closing text imports. Each theorem states its own conditions. -/
import Derived.Test.YtfbamgphngmglaaGreatDoorBkF1
set_option linter.unusedSimpArgs false
set_option linter.unusedVariables false
namespace Go.Proofs.YtfbamgphngmglaaGreatDoor.playBack
open Go Go.ChangeShapes
theorem g3 : Rows.playBackUptoRow.unfollowed = Tryz.pinned.checked.prog.unfollowed 4 := by kernel_rfl
theorem g4 : Rows.playBackUptoRow.recurses = Tryz.pinned.checked.prog.recurses 4 := by kernel_rfl
end Go.Proofs.YtfbamgphngmglaaGreatDoor.playBack
