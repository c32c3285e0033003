/- A part of the proof that cyanotypelaw22.PlayBad returns true: a step that the closing text imports. Each theorem states its own conditions. -/
import Derived.Test.YtfbamgphngmglaaGreatDoorPlayF3
set_option linter.unusedSimpArgs false
set_option linter.unusedVariables false
namespace Go.Proofs.YtfbamgphngmglaaGreatDoor.playBad
open Go.ChangeShapes Go.WideShapes Go.ChangeAt Go.RowKit Go.Abs
theorem named6 : Tryz.pinned.checked.prog.funcNamed Rows.playBadUptoRow.func = some 6 := by kernel_rfl
theorem func6p : Tryz.pinned.checked.prog.funcs[6]? = some Tryz.f6 := func6
theorem closed6 : joinedFacts Tryz.pinned.checked.prog 6 Tryz.f6 (Rows.OpenSpec.upto Rows.playBadSpec).bare Rows.playBadUptoRow = true := by
  unfold joinedFacts
  rw [g1, ← g2, ← g3, ← g4, ← g5]
  kernel_rfl
theorem inst6 : Tryz.f6.isInstance Tryz.pinned.checked.prog Rows.playBadUptoRow.origin Rows.playBadUptoRow.targs := of_decide_eq_true (by kernel_rfl)
end Go.Proofs.YtfbamgphngmglaaGreatDoor.playBad
