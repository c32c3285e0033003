/- A part of the proof that cyanotypelaw22.PlayBad returns true: a step that the closing text imports. Each theorem states its own conditions. -/
import Derived.Test.YtfbamgphngmglaaGreatDoorPlayF2
set_option linter.unusedSimpArgs false
set_option linter.unusedVariables false
namespace Go.Proofs.YtfbamgphngmglaaGreatDoor.playBad
open Go Go.ChangeShapes
theorem g5 : Rows.playBadUptoRow.named = Tryz.pinned.checked.prog.varsNamed 6 := by kernel_rfl
end Go.Proofs.YtfbamgphngmglaaGreatDoor.playBad
