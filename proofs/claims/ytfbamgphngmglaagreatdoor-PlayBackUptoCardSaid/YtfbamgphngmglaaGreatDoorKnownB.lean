/- A part of a proof about a statement of cyanotypelaw22: a step that the closing text imports. Each theorem states its own conditions. -/
import Derived.Test.YtfbamgphngmglaaGreatDoorKnownA
set_option linter.unusedSimpArgs false
set_option linter.unusedVariables false
namespace Go.Proofs.YtfbamgphngmglaaGreatDoor
open Go Go.Abs
def runK (z0 : List Int) (v : Int) (args : List AV) : Option (AV × Heap) :=
  match args with
  | [.agg (.ints .i64 6 z)] => (match decide (z = z0) with | true => some (.int .i64 v, []) | false => none)
  | _ => none
noncomputable def conK (z0 : List Int) (v : Int) : Con := { run := runK z0 v, fresh := 0 }
noncomputable def con2 (f : Nat) : Option Con := cond (Nat.beq f 86) (some (conK pK 348)) none
noncomputable def E2 : Env := { E0 with con := con2 }
def isT : Option (AV × Heap) → Bool
  | some (.bool true, _) => true
  | _ => false
theorem known_run : isT (evalN E2 2097152 200 (.fn 7) [] []) = true := by kernel_rfl
end Go.Proofs.YtfbamgphngmglaaGreatDoor
