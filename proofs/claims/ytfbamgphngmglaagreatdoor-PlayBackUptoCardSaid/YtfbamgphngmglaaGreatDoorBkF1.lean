/- A part of a proof about a statement of cyanotypelaw22: a step that the closing text imports. Each theorem states its own conditions. -/
import Derived.Test.YtfbamgphngmglaaGreatDoorBkRow4
set_option linter.unusedSimpArgs false
set_option linter.unusedVariables false
namespace Go.Proofs.YtfbamgphngmglaaGreatDoor.playBack
open Go Go.ChangeShapes
theorem g1 : laidOutB Tryz.pinned.checked.prog = true := by kernel_rfl
theorem g2 : Rows.playBackUptoRow.inPlace = Tryz.pinned.checked.prog.inPlace 4 := by kernel_rfl
end Go.Proofs.YtfbamgphngmglaaGreatDoor.playBack
