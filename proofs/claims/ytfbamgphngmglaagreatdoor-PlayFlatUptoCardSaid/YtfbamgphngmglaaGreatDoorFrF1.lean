/- A part of the proof that cyanotypelaw22.PlayFlat returns true: a step that the closing text imports. Each theorem states its own conditions. -/
import Derived.Test.YtfbamgphngmglaaGreatDoorFrRow4
set_option linter.unusedSimpArgs false
set_option linter.unusedVariables false
namespace Go.Proofs.YtfbamgphngmglaaGreatDoor.playFlat
open Go Go.ChangeShapes
theorem g1 : laidOutB Tryz.pinned.checked.prog = true := by kernel_rfl
theorem g2 : Rows.playFlatUptoRow.inPlace = Tryz.pinned.checked.prog.inPlace 5 := by kernel_rfl
end Go.Proofs.YtfbamgphngmglaaGreatDoor.playFlat
