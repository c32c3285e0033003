/- A part of the proof that cyanotypelaw22.PlayBad returns true: a step that the closing text imports. Each theorem states its own conditions. -/
import Derived.Test.YtfbamgphngmglaaGreatDoorWordP
set_option linter.unusedSimpArgs false
set_option linter.unusedVariables false
namespace Go.Proofs.YtfbamgphngmglaaGreatDoor
open Go Go.Abs
set_option maxRecDepth 100000
noncomputable def con1 (f : Nat) : Option Con := cond (Nat.beq f 7) (some (conConst (.bool true))) none
noncomputable def E1 : Env := { E0 with con := con1 }
noncomputable def c6 : Code := (Tryz.f6.body).getD .skip
def sqA : Code → Code | .seq a _ => a | c => c
def sqB : Code → Code | .seq _ b => b | c => c
def inB : Code → Code | .block _ c => c | c => c
def inL : Code → Code | .loop c => c | c => c
noncomputable def cA : Code := sqA c6
noncomputable def cB : Code := sqA (sqA (sqB c6))
noncomputable def cL : Code := inL (inB (sqB (sqA (sqB c6))))
noncomputable def cR : Code := sqB (sqB c6)
theorem shape6 : Tryz.f6.body = some (.seq cA (.seq (.seq cB (.block 0 (.loop cL))) cR)) := by kernel_rfl
def fuel : Nat := 2097152
noncomputable def X6 : Cx := { E := E1, fn := 6, base := 0, k := fuel, inl := evalN E1 fuel 199, round := none }
noncomputable def Y6 : CxP := { E := E1, fn := 6, base := 0, k := fuel, inl := evalNP E1 fuel 199, round := none }
theorem XY6 : CxOK X6 Y6 := ⟨rfl, rfl, rfl, rfl, rfl, evalNP_sound E1 fuel 199⟩
noncomputable def st (w : List UInt8) (x : Int) (i : Nat) : St := ⟨[.str (ofL w), .int .u8 x, .top, .top, .bool false, .int .i64 (i : Int)] ++ List.replicate 56 .top, []⟩
noncomputable def stE (w : List UInt8) (x : Int) (i : Nat) : St := ⟨[.str (ofL w), .int .u8 x, .top, .top, .bool false, .int .i64 (i : Int), .top, .int .i64 (i : Int), .str (ofL w), .int .i64 ((ofL w).size : Int), .bool false] ++ List.replicate 51 .top, []⟩
noncomputable def td6 : St → St := tdOf 0 (E1.live 6 (firstReg cL))
theorem start6 (w : List UInt8) (x : Int) : codeP Y6 (.seq cA cB) { tm := [.str (ofL w), .int .u8 x] ++ List.replicate 60 .top, hp := [] } [] (fun _ e s => e = .normal ∧ td6 s = st w x 0) =
    (Ex.normal = .normal ∧ st w x 0 = st w x 0) := by kernel_rfl
theorem exit6 (w : List UInt8) (x : Int) (i : Nat) : codeP Y6 cL (st w x i) [(3, .val (.bool false))] (fun _ e s => e = .exit 0 ∧ s = stE w x i) =
    (AV.bool (decide ((i : Int) < ((ofL w).size : Int))) = .bool false ∧ Ex.exit 0 = .exit 0 ∧ stE w x i = stE w x i) := by kernel_rfl
theorem round6 (w : List UInt8) (x : Int) (i : Nat) (c : UInt8) : codeP Y6 cL (st w x i) [(3, .val (.bool true)), (2, .res (.int .u8 (c.toNat : Int))), (0, .val (.bool false)), (3, .res (.int .u8 (c.toNat : Int))), (0, .val (.bool false)), (2, .val (.int .i64 ((i + 1 : Nat) : Int)))]
      (fun _ e s => e = .normal ∧ td6 s = st w x (i + 1)) =
    (AV.bool (decide ((i : Int) < ((ofL w).size : Int))) = .bool true ∧
     (match (if 0 ≤ (i : Int) then nthR (bytesL (ofL w)) (i : Int).toNat else none) with | some c => some (AV.int .u8 c.toNat) | none => none) = some (.int .u8 (c.toNat : Int)) ∧
     AV.bool (decide ((c.toNat : Int) < 97)) = .bool false ∧
     (match (if 0 ≤ (i : Int) then nthR (bytesL (ofL w)) (i : Int).toNat else none) with | some c => some (AV.int .u8 c.toNat) | none => none) = some (.int .u8 (c.toNat : Int)) ∧
     AV.bool (decide ((c.toNat : Int) > 122)) = .bool false ∧
     AV.int .i64 (IntKind.wrap .i64 ((i : Int) + 1)) = .int .i64 ((i + 1 : Nat) : Int) ∧
     Ex.normal = .normal ∧ st w x (i + 1) = st w x (i + 1)) := by kernel_rfl
end Go.Proofs.YtfbamgphngmglaaGreatDoor
