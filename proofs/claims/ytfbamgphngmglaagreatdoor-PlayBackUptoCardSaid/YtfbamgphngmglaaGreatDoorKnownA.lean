/- A part of a proof about a statement of cyanotypelaw22: a step that the closing text imports. Each theorem states its own conditions. -/
import Derived.Test.YtfbamgphngmglaaGreatDoorEnvP
set_option linter.unusedSimpArgs false
set_option linter.unusedVariables false
namespace Go.Proofs.YtfbamgphngmglaaGreatDoor
open Go Go.Abs
def isInt (n : Int) : Option (AV × Heap) → Bool
  | some (.int .i64 m, _) => m == n
  | _ => false
def pK : List Int := [8, 8, 1, 50, 1, 0]
theorem size_run : isInt 348 (evalN E0 2097152 150 (.fn 86) [.agg (.ints .i64 6 pK)] []) = true := by kernel_rfl
end Go.Proofs.YtfbamgphngmglaaGreatDoor
