/- A part of the proof that cyanotypelaw22.PlayBad returns true: a step that the closing text imports. Each theorem states its own conditions. -/
import Derived.Test.YtfbamgphngmglaaGreatDoorPlayP
set_option linter.unusedSimpArgs false
set_option linter.unusedVariables false
namespace Go.Proofs.YtfbamgphngmglaaGreatDoor
open Go Go.Abs
set_option maxRecDepth 100000
noncomputable def done : KE := fun _ e s => e = .ret ∧ tget s.tm 4 = .bool true
def yes : Prop := Ex.ret = .ret ∧ AV.bool true = .bool true
noncomputable def at6 (w : List UInt8) (i : Nat) : Option AV := match (if 0 ≤ (i : Int) then nthR (bytesL (ofL w)) (i : Int).toNat else none) with | some c => some (AV.int .u8 c.toNat) | none => none
theorem low6 (w : List UInt8) (x : Int) (i : Nat) (c : UInt8) : codeP Y6 cL (st w x i) [(3, .val (.bool true)), (2, .res (.int .u8 (c.toNat : Int))), (0, .val (.bool true))] done =
    (AV.bool (decide ((i : Int) < ((ofL w).size : Int))) = .bool true ∧ at6 w i = some (.int .u8 (c.toNat : Int)) ∧ AV.bool (decide ((c.toNat : Int) < 97)) = .bool true ∧ yes) := by kernel_rfl
theorem high6 (w : List UInt8) (x : Int) (i : Nat) (c : UInt8) : codeP Y6 cL (st w x i) [(3, .val (.bool true)), (2, .res (.int .u8 (c.toNat : Int))), (0, .val (.bool false)), (3, .res (.int .u8 (c.toNat : Int))), (0, .val (.bool true))] done =
    (AV.bool (decide ((i : Int) < ((ofL w).size : Int))) = .bool true ∧ at6 w i = some (.int .u8 (c.toNat : Int)) ∧ AV.bool (decide ((c.toNat : Int) < 97)) = .bool false ∧
     at6 w i = some (.int .u8 (c.toNat : Int)) ∧ AV.bool (decide ((c.toNat : Int) > 122)) = .bool true ∧ yes) := by kernel_rfl
def long (w : List UInt8) : AV := .bool (decide (((ofL w).size : Int) > 50))
def sz : ByteArray := ofL [115, 105, 122, 101]
def en : ByteArray := ofL [101, 110, 99, 111, 100, 101]
def de : ByteArray := ofL [100, 101, 99, 111, 100, 101]
def tr : ByteArray := ofL [116, 114, 97, 99, 101]
theorem long6 (w : List UInt8) (x : Int) (i : Nat) : codeP Y6 cR (stE w x i) [(2, .val (.bool true))] done = (long w = .bool true ∧ yes) := by kernel_rfl
theorem sz6 (w : List UInt8) (x : Int) (i : Nat) : codeP Y6 cR (stE w x i) [(2, .val (.bool false)), (2, .val (.bool true))] done = (long w = .bool false ∧ AV.bool (eqB (ofL w) sz) = .bool true ∧ yes) := by kernel_rfl
theorem en6 (w : List UInt8) (x : Int) (i : Nat) : codeP Y6 cR (stE w x i) [(2, .val (.bool false)), (2, .val (.bool false)), (3, .val (.bool true))] done =
    (long w = .bool false ∧ AV.bool (eqB (ofL w) sz) = .bool false ∧ AV.bool (eqB (ofL w) en) = .bool true ∧ yes) := by kernel_rfl
theorem de6 (w : List UInt8) (x : Int) (i : Nat) : codeP Y6 cR (stE w x i) [(2, .val (.bool false)), (2, .val (.bool false)), (3, .val (.bool false)), (3, .val (.bool true))] done =
    (long w = .bool false ∧ AV.bool (eqB (ofL w) sz) = .bool false ∧ AV.bool (eqB (ofL w) en) = .bool false ∧ AV.bool (eqB (ofL w) de) = .bool true ∧ yes) := by kernel_rfl
theorem tr6 (w : List UInt8) (x : Int) (i : Nat) : codeP Y6 cR (stE w x i) [(2, .val (.bool false)), (2, .val (.bool false)), (3, .val (.bool false)), (3, .val (.bool false)), (3, .val (.bool true))] done =
    (long w = .bool false ∧ AV.bool (eqB (ofL w) sz) = .bool false ∧ AV.bool (eqB (ofL w) en) = .bool false ∧ AV.bool (eqB (ofL w) de) = .bool false ∧ AV.bool (eqB (ofL w) tr) = .bool true ∧ yes) := by kernel_rfl
def noName (w : List UInt8) (p : Prop) : Prop := long w = .bool false ∧ AV.bool (eqB (ofL w) sz) = .bool false ∧ AV.bool (eqB (ofL w) en) = .bool false ∧ AV.bool (eqB (ofL w) de) = .bool false ∧ AV.bool (eqB (ofL w) tr) = .bool false ∧ p
noncomputable def orcN (w : List UInt8) (j : Nat) : Orc := [(2, .val (.bool false)), (2, .val (.bool false)), (3, .val (.bool false)), (3, .val (.bool false)), (3, .val (.bool false)), (2, .res (.str (ofL (appR w tail1)))), (6, .val (.int .u8 (j : Int)))]
end Go.Proofs.YtfbamgphngmglaaGreatDoor
