/- cyanotypelaw22.PlayBad returns true for every line and number whose bulk is at most 1048576, in every world that holds the ten listed package variables as their initialisers lay them; what was there stays as it was. No other conditions. -/
import Derived.Test.YtfbamgphngmglaaGreatDoorPlayRow8
set_option linter.unusedSimpArgs false
set_option linter.unusedVariables false
namespace Go.Proofs.YtfbamgphngmglaaGreatDoor.playBad
open Go.ChangeShapes Go.WideShapes Go.ChangeAt Go.RowKit Go.Abs
theorem cardUpto : Rows.PlayBadUptoCardSaid :=
  Claim7.holds_tied_plain_at .later [] _ _ _ _ saidUpto (fun _ h => by cases h) (by kernel_rfl) (fun _ h => by cases h) playBadUpto_row_tie rfl ⟨rfl, rfl⟩ (by kernel_rfl) rfl plain (by kernel_rfl)
end Go.Proofs.YtfbamgphngmglaaGreatDoor.playBad
