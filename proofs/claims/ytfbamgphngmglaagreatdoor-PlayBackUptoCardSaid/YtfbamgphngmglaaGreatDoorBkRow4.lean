/- A part of a proof about a statement of cyanotypelaw22: a step that the closing text imports. Each theorem states its own conditions. -/
import Derived.Test.YtfbamgphngmglaaGreatDoorBkWr
import Derived.Test.YtfbamgphngmglaaGreatDoorCards
import Derived.Test.YtfbamgphngmglaaGreatDoorTie
set_option linter.unusedSimpArgs false
set_option linter.unusedVariables false
namespace Go.Proofs.YtfbamgphngmglaaGreatDoor.playBack
open Go.ChangeShapes Go.WideShapes Go.ChangeAt Go.RowKit Go.Abs
theorem func6 : Tryz.prog.funcs[4]? = some Tryz.f4 := by kernel_rfl
set_option maxRecDepth 100000 in
theorem liftedUpto (os : Os) (started : os.Started) (H : Type) (enc : TypeId × Value → H) (F : Stop.Interp) :
    ReturnsInHanded {} Tryz.checked os 4 .any ((Rows.OpenSpec.upto Rows.playBackSpec).preRow enc Tryz.prog Tryz.f4 Rows.playBackUptoRow.domain false Rows.playBackUptoRow.laid) (((Rows.OpenSpec.upto Rows.playBackSpec).at F).post enc Tryz.prog Tryz.f4 false true false false) := by
  obtain ⟨places, hx⟩ := reads os enc
  refine returnsInHanded_of_row (C := Tryz.checked) (s := Rows.OpenSpec.upto Rows.playBackSpec) own started (by kernel_rfl) func6
    (witness_row_at (enc := enc) (C := Tryz.checked) false (laidWorld os) args0 rfl (by kernel_rfl) (by kernel_rfl) (by kernel_rfl)
      (OpenSpec.preRow_of_cond 8 hx (by kernel_rfl) (fun k hk => by cases hk; kernel_rfl) (by kernel_rfl) (laid_met os))) ?_
  intro W base args ds gs before hval hW a1 a2 a3 hL a4 a5
  exact contract H enc W base args ds gs before hval hW hL (by first | exact a4 _ rfl | exact a5 _ rfl | exact a1 _ rfl | exact a2 _ rfl)
end Go.Proofs.YtfbamgphngmglaaGreatDoor.playBack
