/- A part of a proof about a statement of cyanotypelaw22: a step that the closing text imports. Each theorem states its own conditions. -/
import Derived.Test.YtfbamgphngmglaaGreatDoorFlatL
import Derived.Test.YtfbamgphngmglaaGreatDoorFlatC
set_option linter.unusedSimpArgs false
set_option linter.unusedVariables false
section
namespace Go.Proofs.YtfbamgphngmglaaGreatDoor
open Go Go.Abs
set_option maxRecDepth 100000
/-! ### play.one at a line of eight numerals -/
noncomputable def con5 (f : Nat) : Option Con := cond (Nat.beq f 13) (some (conEval (evalN E3 fuelF 141) 13 1)) (cond (Nat.beq f 15) (some conItoa) (cond (Nat.beq f 19) (some (conEval (evalN E0 fuelF 100) 19 1))
  (cond (Nat.beq f 36) (some conJoin) (cond (Nat.beq f 37) (some (conEval (evalN E4 fuelF 100) 37 0)) (cond (Nat.beq f 66) (some (conEval (evalN E0 fuelF 100) 66 0)) (cond (Nat.beq f 7) (some (conConst (.bool true))) none))))))
noncomputable def E5 : Env := { E0 with con := con5, live := liveF }
theorem envOK5 : EnvOK Tryz.prog E5 where
  T := ttok
  ext := extOK
  eq := eqOK
  eqI := intOK
  mixed := by kernel_rfl
theorem conOK5 : ConOK Tryz.prog E5 := conOK_of fun f c hc => by
  rcases beqE hc with ⟨rfl, rfl⟩ | hc
  · exact conEval_ok (evalOK3 fuelF 141) 13 1 rfl
  rcases beqE hc with ⟨rfl, rfl⟩ | hc
  · exact itoa_spec
  rcases beqE hc with ⟨rfl, rfl⟩ | hc
  · exact conEval_ok (evalOK fuelF 100) 19 1 rfl
  rcases beqE hc with ⟨rfl, rfl⟩ | hc
  · exact join_spec
  rcases beqE hc with ⟨rfl, rfl⟩ | hc
  · exact conEval_ok (evalOK4 fuelF 100) 37 0 rfl
  rcases beqE hc with ⟨rfl, rfl⟩ | hc
  · exact conEval_ok (evalOK fuelF 100) 66 0 rfl
  · obtain ⟨rfl, rfl⟩ := beqD hc
    exact known_spec rfl
theorem evalOK5 (k n : Nat) : InlOK Tryz.prog E5 (evalN E5 k n) := evalN_sound envOK5 conOK5 (fnsOf_ok rfl) k n
def szL (R : List UInt8) : List UInt8 := 115 :: 105 :: 122 :: 101 :: 32 :: R
end Go.Proofs.YtfbamgphngmglaaGreatDoor
end

section
namespace Go.Proofs.YtfbamgphngmglaaGreatDoor
open Go Go.Abs
set_option maxRecDepth 100000
/-! ### play.one at a line of eight numerals, above quality 100 -/
def err12 : List UInt8 := [101, 114, 114, 111, 114, 32, 49, 50]
def numA (n : Int) : Ans := .run (.tup [.int .i64 n, .bool true]) []
noncomputable def orcO (w h m q : Int) (rgb : Bool) (N : Nat) (z : List Int) (R a1 a2 a3 a4 a5 a6 a7 a8 : List UInt8) : Orc :=
  [(41, .res (.str (ofL [115, 105, 122, 101]))), (5, .res (.str (ofL R))), (17, .run (.sl 0 (some (0, 8)) 1 (.is 8)) (wordsV [a1, a2, a3, a4, a5, a6, a7, a8])), (11, numA w), (19, numA h), (19, numA m), (19, numA q), (19, numA 1), (19, numA 0), (19, numA 0), (19, numA 0),
   (63, .run (picV w h rgb) (picH N z)), (50, .run (.int .u16 12) []), (8, .chk), (21, .chk), (0, .run (.int .u16 12) [])]
def pV (w h m q : Int) : AV := .agg (.vals [.int .i64 w, .int .i64 h, .int .i64 m, .int .i64 q, .int .i64 1, .int .i64 0])
def numOb (a : List UInt8) (n : Int) : Prop := (conEval (evalN E4 fuelF 100) 37 0).run [.str (ofL a)] = some (.tup [.int .i64 n, .bool true], [])
def chkOb (w h m q : Int) : Prop := (conEval (evalN E0 fuelF 100) 66 0).run [.agg (.ints .i64 6 [w, h, m, q, 1, 0])] = some (.int .u16 12, [])
theorem one_eq (w h m q : Int) (rgb : Bool) (N : Nat) (z : List Int) (R a1 a2 a3 a4 a5 a6 a7 a8 : List UInt8) : evalNP E5 fuelF 150 (.fn 29) [.str (ofL (szL R))] [] (orcO w h m q rgb N z R a1 a2 a3 a4 a5 a6 a7 a8) (fun _ y hp => y = .str (ofL err12) ∧ hp = []) =
    (sliceStr (ofL (szL R)) none (some (.int .i64 4)) = some (.str (ofL [115, 105, 122, 101])) ∧ sliceStr (ofL (szL R)) (some (.int .i64 5)) none = some (.str (ofL R)) ∧
     (conEval (evalN E0 fuelF 100) 19 1).run [.str (ofL R), .str (ofL [32])] = some (.sl 0 (some (0, 8)) 1 (.is 8), wordsV [a1, a2, a3, a4, a5, a6, a7, a8]) ∧
     numOb a1 w ∧ numOb a2 h ∧ numOb a3 m ∧ numOb a4 q ∧ numOb a5 1 ∧ numOb a6 0 ∧ numOb a7 0 ∧ numOb a8 0 ∧
     (conEval (evalN E3 fuelF 141) 13 1).run (pargs w h m q 1 0 0 0) = some (picV w h rgb, picH N z) ∧ chkOb w h m q ∧ (eqV (pV w h m q) (pV w h m q) = true ∧ True) ∧ (eqV (pV w h m q) (pV w h m q) = true ∧ True) ∧ chkOb w h m q ∧
     AV.str (ofL err12) = .str (ofL err12) ∧ ([] : Heap) = []) := by kernel_rfl
end Go.Proofs.YtfbamgphngmglaaGreatDoor
end

section
namespace Go.Proofs.YtfbamgphngmglaaGreatDoor
open Go Go.Abs
set_option maxRecDepth 100000
theorem dec1 (i : Nat) (h : i < 10) : Lib.decDigits i = [UInt8.ofNat (48 + i)] := Lib.decDigits_one h
theorem numOb_dec (u : Nat) (hu : u < 1000000000) : numOb (Lib.decDigits u) (u : Int) := runEval_eq 0 (number_dec u hu) rfl
theorem numOb_one (i : Nat) (h : i < 10) : numOb [UInt8.ofNat (48 + i)] (i : Int) := by rw [← dec1 i h]; exact numOb_dec i (by omega)
theorem plain_dec (u : Nat) : plainW (Lib.decDigits u) := ⟨dec_ne u, fun y hy => by have := dec_digit u y hy; omega⟩
theorem plain_one (i : Nat) (h : i < 10) : plainW [UInt8.ofNat (48 + i)] := by rw [← dec1 i h]; exact plain_dec i
def words8 (w h m q : Nat) : List (List UInt8) := [Lib.decDigits w, Lib.decDigits h, Lib.decDigits m, Lib.decDigits q, [49], [48], [48], [48]]
theorem check_ok (w h m q : Nat) (hw : 1 ≤ w) (hw2 : w ≤ 60) (hh : 1 ≤ h) (hh2 : h ≤ 60) (hm : m = 1 ∨ m = 2 ∨ m = 3 ∨ m = 4) (hq : 101 ≤ q) (hq2 : q ≤ 1000000) : chkOb w h m q := by
  refine runEval_eq 0 (h := []) ?_ rfl
  rcases hm with rfl | rfl | rfl | rfl
  · exact check1 w h q hw hw2 hh hh2 hq hq2
  · exact check2 w h q hw hw2 hh hh2 hq hq2
  · exact check3 w h q hw hw2 hh hh2 hq hq2
  · exact check4 w h q hw hw2 hh hh2 hq hq2
theorem one_flat (w h m q : Nat) (hw : 1 ≤ w) (hw2 : w ≤ 60) (hh : 1 ≤ h) (hh2 : h ≤ 60) (hm : m = 1 ∨ m = 2 ∨ m = 3 ∨ m = 4) (hq : 101 ≤ q) (hq2 : q ≤ 1000000) :
    evalN E5 fuelF 150 (.fn 29) [.str (ofL (szL (joinS (words8 w h m q))))] [] = some (.str (ofL err12), []) := by
  have hmI : (m : Int) = 1 ∨ (m : Int) = 2 ∨ (m : Int) = 3 ∨ (m : Int) = 4 := by omega
  obtain ⟨rgb, N, _, _, hp⟩ := pic_flat w h 0 (m : Int) (q : Int) 1 0 hw hw2 hh hh2 hmI (by omega)
  have hc := check_ok w h m q hw hw2 hh hh2 hm hq hq2
  have hpl : ∀ x ∈ words8 w h m q, plainW x ∧ x.length ≤ 1000 := by
    have l1 : ∀ u, u < 10 ^ 7 → (Lib.decDigits u).length ≤ 1000 := fun u hu => Nat.le_trans (dec_len 6 u hu) (by decide)
    intro x hx
    simp only [words8, List.mem_cons, List.not_mem_nil, or_false] at hx
    rcases hx with rfl | rfl | rfl | rfl | rfl | rfl | rfl | rfl
    · exact ⟨plain_dec _, l1 _ (by omega)⟩
    · exact ⟨plain_dec _, l1 _ (by omega)⟩
    · exact ⟨plain_dec _, l1 _ (by omega)⟩
    · exact ⟨plain_dec _, l1 _ (by omega)⟩
    · exact ⟨plain_one 1 (by omega), by decide⟩
    · exact ⟨plain_one 0 (by omega), by decide⟩
    · exact ⟨plain_one 0 (by omega), by decide⟩
    · exact ⟨plain_one 0 (by omega), by decide⟩
  have hs := split8_run _ _ _ _ _ _ _ _ hpl
  have hlen : 5 ≤ (szL (joinS (words8 w h m q))).length := by unfold szL; simp only [List.length_cons]; omega
  refine ev_of (one_eq w h m q rgb N (List.replicate N ((0 : Nat) : Int)) (joinS (words8 w h m q)) _ _ _ _ _ _ _ _) ⟨?_, ?_, runEval_eq 1 hs rfl, numOb_dec w (by omega), numOb_dec h (by omega), numOb_dec m (by omega), numOb_dec q (by omega), numOb_one 1 (by omega), numOb_one 0 (by omega), numOb_one 0 (by omega), numOb_one 0 (by omega),
    runEval_eq 1 hp rfl, hc, ⟨?_, trivial⟩, ⟨?_, trivial⟩, hc, rfl, rfl⟩
  · exact (sl_hi' _ 4 (by omega)).trans rfl
  · exact (sl_lo' _ 5 (by omega)).trans rfl
  · simp [pV, eqV, eqRow, eqVL, kEq]
  · simp [pV, eqV, eqRow, eqVL, kEq]
end Go.Proofs.YtfbamgphngmglaaGreatDoor
end
