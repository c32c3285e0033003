/- cyanotypelaw22.PlayBack returns true for all seven numbers, in every world that holds the ten listed package variables as their initialisers lay them; what was there stays as it was. Condition: the second form's bound on bulk, which seven numbers always meet. -/
import Derived.Test.YtfbamgphngmglaaGreatDoorBkRow8
set_option linter.unusedSimpArgs false
set_option linter.unusedVariables false
namespace Go.Proofs.YtfbamgphngmglaaGreatDoor.playBack
open Go.ChangeShapes Go.WideShapes Go.ChangeAt Go.RowKit Go.Abs
theorem cardUpto : Rows.PlayBackUptoCardSaid :=
  Claim7.holds_tied_plain_at .later [] _ _ _ _ saidUpto (fun _ h => by cases h) (by kernel_rfl) (fun _ h => by cases h) playBackUpto_row_tie rfl ⟨rfl, rfl⟩ (by kernel_rfl) rfl plain (by kernel_rfl)
end Go.Proofs.YtfbamgphngmglaaGreatDoor.playBack
