/- A part of the proof that cyanotypelaw22.PlayBad returns true: a step that the closing text imports. Each theorem states its own conditions. -/
import Derived.Test.YtfbamgphngmglaaGreatDoorPlayF1
set_option linter.unusedSimpArgs false
set_option linter.unusedVariables false
namespace Go.Proofs.YtfbamgphngmglaaGreatDoor.playBad
open Go Go.ChangeShapes
theorem g3 : Rows.playBadUptoRow.unfollowed = Tryz.pinned.checked.prog.unfollowed 6 := by kernel_rfl
theorem g4 : Rows.playBadUptoRow.recurses = Tryz.pinned.checked.prog.recurses 6 := by kernel_rfl
end Go.Proofs.YtfbamgphngmglaaGreatDoor.playBad
