/- A part of the proof that cyanotypelaw22.PlayFlat returns true: a step that the closing text imports. Each theorem states its own conditions. -/
import Derived.Test.YtfbamgphngmglaaGreatDoorFrF2
set_option linter.unusedSimpArgs false
set_option linter.unusedVariables false
namespace Go.Proofs.YtfbamgphngmglaaGreatDoor.playFlat
open Go Go.ChangeShapes
theorem g5 : Rows.playFlatUptoRow.named = Tryz.pinned.checked.prog.varsNamed 5 := by kernel_rfl
end Go.Proofs.YtfbamgphngmglaaGreatDoor.playFlat
