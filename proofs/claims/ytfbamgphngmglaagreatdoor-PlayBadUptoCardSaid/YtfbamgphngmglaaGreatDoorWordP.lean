/- A part of the proof that cyanotypelaw22.PlayBad returns true: a step that the closing text imports. Each theorem states its own conditions. -/
import Derived.Test.YtfbamgphngmglaaGreatDoorEnvP
set_option linter.unusedSimpArgs false
set_option linter.unusedVariables false
namespace Go.Proofs.YtfbamgphngmglaaGreatDoor
open Go Go.Abs
def tail2 : List UInt8 := [32, 56, 32, 56, 32, 49, 32, 53, 48, 32, 49, 32, 48, 32, 48, 32, 48, 10]
def tail1 : List UInt8 := [32, 56, 32, 56, 32, 49, 32, 53, 48, 32, 49, 32, 48, 32, 48, 32, 48]
def tail0 : List UInt8 := [56, 32, 56, 32, 49, 32, 53, 48, 32, 49, 32, 48, 32, 48, 32, 48]
noncomputable def orcW (w : List UInt8) (N : Nat) : Orc := [(9, .val (.bool true)), (8, .val (.int .i64 ((N + 17 : Nat) : Int))), (7, .val (.int .i64 ((N + 18 : Nat) : Int))), (0, .res (.str (ofL (appR w tail2)))), (2, .val (.int .i64 ((N + 18 : Nat) : Int))), (0, .res (.str (ofL []))), (17, .val (.bool true)), (3, .val (.int .i64 ((N + 18 : Nat) : Int))), (2, .val (.int .i64 ((N + 17 : Nat) : Int))), (0, .res (.str (ofL [10]))), (9, .val (.int .i64 ((N + 17 : Nat) : Int))), (0, .res (.str (ofL (appR w tail1)))), (23, .val (.bool false)), (11, .val (.int .i64 (N : Int))), (7, .res (.str (ofL w))), (4, .val (.int .i64 ((N + 1 : Nat) : Int))), (0, .res (.str (ofL tail0))), (2861, .res (.tup [.nilfn, .bool false]))]
def I (n : Nat) : AV := .int .i64 (n : Int)
noncomputable def wordObs (w : List UInt8) (N : Nat) (p : Prop) : Prop :=
    (AV.bool (decide (((ofL (appR w tail2)).size : Int) > 0)) = .bool true ∧
     AV.int .i64 (ixZ 10 (bytesL (ofL (appR w tail2))) 0) = .int .i64 ((N + 17 : Nat) : Int) ∧
     AV.int .i64 (IntKind.wrap .i64 (((N + 17 : Nat) : Int) + 1)) = .int .i64 ((N + 18 : Nat) : Int) ∧
     sliceStr (ofL (appR w tail2)) none (some (.int .i64 ((N + 18 : Nat) : Int))) = some (.str (ofL (appR w tail2))) ∧
     AV.int .i64 (IntKind.wrap .i64 (((N + 17 : Nat) : Int) + 1)) = .int .i64 ((N + 18 : Nat) : Int) ∧
     sliceStr (ofL (appR w tail2)) (some (.int .i64 ((N + 18 : Nat) : Int))) none = some (.str (ofL [])) ∧
     AV.bool (decide (((ofL (appR w tail2)).size : Int) ≥ 1)) = .bool true ∧
     AV.int .i64 ((ofL (appR w tail2)).size : Int) = .int .i64 ((N + 18 : Nat) : Int) ∧
     AV.int .i64 (IntKind.wrap .i64 (((N + 18 : Nat) : Int) - 1)) = .int .i64 ((N + 17 : Nat) : Int) ∧
     sliceStr (ofL (appR w tail2)) (some (.int .i64 ((N + 17 : Nat) : Int))) none = some (.str (ofL [10])) ∧
     AV.int .i64 (IntKind.wrap .i64 (((ofL (appR w tail2)).size : Int) - 1)) = .int .i64 ((N + 17 : Nat) : Int) ∧
     sliceStr (ofL (appR w tail2)) none (some (.int .i64 ((N + 17 : Nat) : Int))) = some (.str (ofL (appR w tail1))) ∧
     AV.bool (eqB (ofL [32]) (ofL (appR w tail1))) = .bool false ∧
     AV.int .i64 (ixZ 32 (bytesL (ofL (appR w tail1))) 0) = .int .i64 (N : Int) ∧
     sliceStr (ofL (appR w tail1)) none (some (.int .i64 (N : Int))) = some (.str (ofL w)) ∧
     AV.int .i64 (IntKind.wrap .i64 ((N : Int) + 1)) = .int .i64 ((N + 1 : Nat) : Int) ∧
     sliceStr (ofL (appR w tail1)) (some (.int .i64 ((N + 1 : Nat) : Int))) none = some (.str (ofL tail0)) ∧
     ((some (eqB (ofL w) (ofL [115, 105, 122, 101])) = some false ∧ some (eqB (ofL w) (ofL [101, 110, 99, 111, 100, 101])) = some false ∧ some (eqB (ofL w) (ofL [100, 101, 99, 111, 100, 101])) = some false ∧ some (eqB (ofL w) (ofL [116, 114, 97, 99, 101])) = some false ∧ True) ∧
       AV.tup [.nilfn, .bool false] = .tup [.nilfn, .bool false]) ∧ p)
end Go.Proofs.YtfbamgphngmglaaGreatDoor
