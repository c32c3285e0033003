/- A part of the proof that cyanotypelaw22.PlayFlat returns true: a step that the closing text imports. Each theorem states its own conditions. -/
import Derived.Test.YtfbamgphngmglaaGreatDoorFrF3
set_option linter.unusedSimpArgs false
set_option linter.unusedVariables false
namespace Go.Proofs.YtfbamgphngmglaaGreatDoor.playFlat
open Go.ChangeShapes Go.WideShapes Go.ChangeAt Go.RowKit Go.Abs
theorem named6 : Tryz.pinned.checked.prog.funcNamed Rows.playFlatUptoRow.func = some 5 := by kernel_rfl
theorem func6p : Tryz.pinned.checked.prog.funcs[5]? = some Tryz.f5 := func6
theorem closed6 : joinedFacts Tryz.pinned.checked.prog 5 Tryz.f5 (Rows.OpenSpec.upto Rows.playFlatSpec).bare Rows.playFlatUptoRow = true := by
  unfold joinedFacts
  rw [g1, ← g2, ← g3, ← g4, ← g5]
  kernel_rfl
theorem inst6 : Tryz.f5.isInstance Tryz.pinned.checked.prog Rows.playFlatUptoRow.origin Rows.playFlatUptoRow.targs := of_decide_eq_true (by kernel_rfl)
end Go.Proofs.YtfbamgphngmglaaGreatDoor.playFlat
