/- A part of a proof about a statement of cyanotypelaw22: a step that the closing text imports. Each theorem states its own conditions. -/
import Derived.Test.YtfbamgphngmglaaGreatDoorBkWc
set_option linter.unusedSimpArgs false
set_option linter.unusedVariables false
namespace Go.Proofs.YtfbamgphngmglaaGreatDoor.playBack
open Go Go.ChangeShapes Go.WideShapes Go.ChangeAt Go.RowKit Go.Abs
theorem reads (os : Os) {H : Type} (enc : TypeId × Value → H) : ∃ places, DataW.whole enc Tryz.prog ((laidWorld os).forCall (fun _ _ => 0) ⟨#[], args0, []⟩).memory Tryz.f4.params.toList Rows.playBackSpec.vars false args0.toList 8 = some ([.lit (.int .u32 0), .lit (.int .u32 0), .lit (.int .u32 0), .lit (.int .u32 0), .lit (.int .u32 0), .lit (.int .u32 0), .lit (.int .u8 0)], [], places) :=
  ⟨[], by kernel_rfl⟩
end Go.Proofs.YtfbamgphngmglaaGreatDoor.playBack
