/- A part of a proof about a statement of cyanotypelaw22: a step that the closing text imports. Each theorem states its own conditions. -/
import Derived.Test.YtfbamgphngmglaaGreatDoorBkF3
set_option linter.unusedSimpArgs false
set_option linter.unusedVariables false
namespace Go.Proofs.YtfbamgphngmglaaGreatDoor.playBack
open Go.ChangeShapes Go.WideShapes Go.ChangeAt Go.RowKit Go.Abs
theorem named6 : Tryz.pinned.checked.prog.funcNamed Rows.playBackUptoRow.func = some 4 := by kernel_rfl
theorem func6p : Tryz.pinned.checked.prog.funcs[4]? = some Tryz.f4 := func6
theorem closed6 : joinedFacts Tryz.pinned.checked.prog 4 Tryz.f4 (Rows.OpenSpec.upto Rows.playBackSpec).bare Rows.playBackUptoRow = true := by
  unfold joinedFacts
  rw [g1, ← g2, ← g3, ← g4, ← g5]
  kernel_rfl
theorem inst6 : Tryz.f4.isInstance Tryz.pinned.checked.prog Rows.playBackUptoRow.origin Rows.playBackUptoRow.targs := of_decide_eq_true (by kernel_rfl)
end Go.Proofs.YtfbamgphngmglaaGreatDoor.playBack
