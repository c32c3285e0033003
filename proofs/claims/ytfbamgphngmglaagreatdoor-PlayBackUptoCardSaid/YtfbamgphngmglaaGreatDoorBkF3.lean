/- A part of a proof about a statement of cyanotypelaw22: a step that the closing text imports. Each theorem states its own conditions. -/
import Derived.Test.YtfbamgphngmglaaGreatDoorBkF2
set_option linter.unusedSimpArgs false
set_option linter.unusedVariables false
namespace Go.Proofs.YtfbamgphngmglaaGreatDoor.playBack
open Go Go.ChangeShapes
theorem g5 : Rows.playBackUptoRow.named = Tryz.pinned.checked.prog.varsNamed 4 := by kernel_rfl
end Go.Proofs.YtfbamgphngmglaaGreatDoor.playBack
