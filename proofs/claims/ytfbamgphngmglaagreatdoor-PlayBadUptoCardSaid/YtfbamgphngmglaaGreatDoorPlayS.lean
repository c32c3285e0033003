/- A part of the proof that cyanotypelaw22.PlayBad returns true: a step that the closing text imports. Each theorem states its own conditions. -/
import Derived.Test.YtfbamgphngmglaaGreatDoorPlayR
set_option linter.unusedSimpArgs false
set_option linter.unusedVariables false
namespace Go.Proofs.YtfbamgphngmglaaGreatDoor
open Go Go.Abs
set_option maxRecDepth 100000
noncomputable def tailOb (w : List UInt8) (x : Int) (j : Nat) (p : Prop) : Prop :=
  noName w (strBin .add (ofL w) (ofL tail1) = some (.str (ofL (appR w tail1))) ∧ AV.int .u8 (x.tmod 6) = .int .u8 (j : Int) ∧ p)
theorem case2 (w : List UInt8) (x : Int) (i N : Nat) : codeP Y6 cR (stE w x i) (orcN w 2 ++ (2, .res (.str (ofL (appR w tail2)))) :: orcW w N) done =
    tailOb w x 2 (strBin .add (ofL (appR w tail1)) (ofL [10]) = some (.str (ofL (appR w tail2))) ∧ wordObs w N yes) := by kernel_rfl
theorem case0 (w : List UInt8) (x : Int) (i : Nat) : codeP Y6 cR (stE w x i) (orcN w 0) done = tailOb w x 0 yes := by kernel_rfl
theorem case1 (w : List UInt8) (x : Int) (i : Nat) : codeP Y6 cR (stE w x i) (orcN w 1) done = tailOb w x 1 yes := by kernel_rfl
theorem case3 (w : List UInt8) (x : Int) (i : Nat) : codeP Y6 cR (stE w x i) (orcN w 3) done = tailOb w x 3 yes := by kernel_rfl
theorem case4 (w : List UInt8) (x : Int) (i : Nat) : codeP Y6 cR (stE w x i) (orcN w 4) done = tailOb w x 4 yes := by kernel_rfl
theorem case5 (w : List UInt8) (x : Int) (i : Nat) : codeP Y6 cR (stE w x i) (orcN w 5) done = tailOb w x 5 yes := by kernel_rfl
end Go.Proofs.YtfbamgphngmglaaGreatDoor
