/- A part of a proof about a statement of cyanotypelaw22: a step that the closing text imports. Each theorem states its own conditions. -/
import Derived.Test.YtfbamgphngmglaaGreatDoorKnownC
import Derived.Test.YtfbamgphngmglaaGreatDoorShelfQ
import Derived.Lib.ItoaMem
import Derived.Lib.AtoiAllCases
set_option linter.unusedSimpArgs false
set_option linter.unusedVariables false
section
namespace Go.Proofs.YtfbamgphngmglaaGreatDoor
open Go Go.Abs
set_option maxRecDepth 100000
noncomputable def liveF (f r : Nat) : Option (List Nat) := cond (Nat.beq f 13) (some [6, 9, 11, 60, 61]) (cond (Nat.beq f 5) (some [3, 10, 11, 12, 13]) none)
noncomputable def E3 : Env := { E0 with live := liveF }
def fuelF : Nat := 2097152
theorem envOK3 : EnvOK Tryz.prog E3 where
  T := ttok
  ext := extOK
  eq := eqOK
  eqI := intOK
  mixed := by kernel_rfl
theorem evalOK3 (k n : Nat) : InlOK Tryz.prog E3 (evalN E3 k n) := evalN_sound envOK3 (conOK_none fun _ => rfl) (fnsOf_ok rfl) k n
/-- codes in a row -/
def seqs : List Code → Code → Code
  | [], r => r
  | a :: l, r => .seq a (seqs l r)
def sqL : Code → Code | .seq a _ => a | c => c
def sqR : Code → Code | .seq _ b => b | c => c
def blkC : Code → Code | .block _ c => c | c => c
def loopC : Code → Code | .loop c => c | c => c
def drp : Nat → Code → Code
  | 0, c => c
  | n + 1, c => drp n (sqR c)
def tks : Nat → Code → List Code
  | 0, _ => []
  | n + 1, c => sqL c :: tks n (sqR c)
theorem seqs_split {X : Cx} {r : Code} {s1 : St} : ∀ (l : List Code) (s : St), evalCode X (seqs l .skip) s = some (.normal, s1) → evalCode X (seqs l r) s = evalCode X r s1
  | [], s, h => by
    have h : some (Ex.normal, s) = some (.normal, s1) := h
    cases h; rfl
  | a :: l, s, h => by
    show evalCode X (.seq a (seqs l r)) s = _
    have h : evalCode X (.seq a (seqs l .skip)) s = _ := h
    rw [evalCode_seq] at h ⊢
    cases ha : evalCode X a s with
    | none => rw [ha] at h; cases h
    | some q =>
      obtain ⟨e, sa⟩ := q
      rw [ha] at h
      cases e with
      | normal => exact seqs_split l sa h
      | exit i => cases h
      | ret => cases h
/-- a loop behind its first piece, and the rest -/
theorem loop_split {X : Cx} {a b c : Code} {s s1 : St} (h : evalCode X a s = some (.normal, s1)) :
    evalCode X (.seq (.seq a b) c) s = match evalCode X b s1 with
      | some (.normal, s2) => evalCode X c s2
      | r => r := by
  rw [evalCode_seq, evalCode_seq, h]
  rfl
/-! Picture -/
noncomputable def c13 : Code := (Tryz.f13.body).getD .skip
noncomputable def pre13 : List Code := tks 8 c13
noncomputable def cut13 : Code := sqL (drp 8 c13)
noncomputable def a13 : Code := sqL cut13
noncomputable def l13 : Code := loopC (blkC (sqR cut13))
noncomputable def r13 : Code := sqR (drp 8 c13)
theorem shape13 : Tryz.f13.body = some (seqs pre13 (.seq (.seq a13 (.block 1 (.loop l13))) r13)) := by kernel_rfl
noncomputable def X13 : Cx := { E := E3, fn := 13, base := 0, k := fuelF, inl := evalN E3 fuelF 140, round := none }
noncomputable def Y13 : CxP := { E := E3, fn := 13, base := 0, k := fuelF, inl := evalNP E3 fuelF 140, round := none }
theorem XY13 : CxOK X13 Y13 := ⟨rfl, rfl, rfl, rfl, rfl, evalNP_sound E3 fuelF 140⟩
noncomputable def st13 (w h m q i c k s : Int) : St := { tm := [.agg (.ints .i64 6 [w, h, m, q, i, c]), .int .i64 k, .int .i64 s] ++ List.replicate 72 .top, hp := [] }
end Go.Proofs.YtfbamgphngmglaaGreatDoor
end

section
namespace Go.Proofs.YtfbamgphngmglaaGreatDoor
open Go Go.Abs
set_option maxRecDepth 100000
/-! ### play.number at a decimal numeral -/
noncomputable def con4 (f : Nat) : Option Con := cond (Nat.beq f 15) (some conItoa) (cond (Nat.beq f 55) (some conAtoi) none)
noncomputable def E4 : Env := { E0 with con := con4 }
theorem envOK4 : EnvOK Tryz.prog E4 where
  T := ttok
  ext := extOK
  eq := eqOK
  eqI := intOK
  mixed := by kernel_rfl
theorem beqE {α : Type} {f n : Nat} {a c : α} {r : Option α} (h : cond (Nat.beq f n) (some a) r = some c) : (f = n ∧ a = c) ∨ r = some c := by
  cases hb : Nat.beq f n with
  | false => rw [hb] at h; exact .inr h
  | true => rw [hb] at h; cases h; exact .inl ⟨Nat.eq_of_beq_eq_true hb, rfl⟩
theorem evalOK4 (k n : Nat) : InlOK Tryz.prog E4 (evalN E4 k n) := evalN_sound envOK4 (conOK_of fun f c hc => by
  rcases beqE hc with ⟨rfl, rfl⟩ | hc
  · exact itoa_spec
  · obtain ⟨rfl, rfl⟩ := beqD hc
    exact atoi_spec) (fnsOf_ok rfl) k n
noncomputable def orcN (v : Int) (b : Bool) : Orc := [(3, .all (.tup [.int .i64 v, .nilif]) [.dead]), (11, .val (.bool true)), (3, .val (.bool true)), (3, .res (.str (ofL (Lib.itoa v)))), (1, .val (.bool b))]
theorem number_eq (s : ByteArray) (v : Int) (b : Bool) : evalNP E4 fuelF 100 (.fn 37) [.str s] [] (orcN v b) (fun _ y h => y = .tup [.int .i64 v, .bool b] ∧ h = []) =
    (callCon conAtoi [.str s] [.dead] 0 = some (.tup [.int .i64 v, .nilif], [.dead]) ∧
      AV.bool (decide ((s.size : Int) ≤ 9)) = .bool true ∧ AV.bool (decide (v ≥ 0)) = .bool true ∧
      callCon conItoa [.int .i64 v] [.dead] 1 = some (.str (ofL (Lib.itoa v)), [.dead]) ∧
      AV.bool (eqB (ofL (Lib.itoa v)) s) = .bool b ∧
      AV.tup [.int .i64 v, .bool b] = .tup [.int .i64 v, .bool b] ∧ ([] : Heap) = []) := by kernel_rfl
end Go.Proofs.YtfbamgphngmglaaGreatDoor
end

section
namespace Go.Proofs.YtfbamgphngmglaaGreatDoor
open Go Go.Abs
set_option maxRecDepth 100000
/-! ### numerals -/
theorem dig_toNat (d : Nat) (h : d < 10) : (UInt8.ofNat (48 + d)).toNat = 48 + d := by
  rw [UInt8.toNat_ofNat']; omega
theorem dec_digit : ∀ (u : Nat), ∀ y ∈ Lib.decDigits u, 48 ≤ y.toNat ∧ y.toNat ≤ 57 := by
  intro u
  induction u using Nat.strongRecOn with
  | ind u ih =>
    intro y hy
    unfold Lib.decDigits at hy
    split at hy
    · rename_i h
      have hy : y = UInt8.ofNat (48 + u) := by simpa using hy
      subst hy
      rw [dig_toNat u h]; omega
    · rename_i h
      rcases List.mem_append.mp hy with hy | hy
      · exact ih (u / 10) (by omega) y hy
      · have hy : y = UInt8.ofNat (48 + u % 10) := by simpa using hy
        subst hy
        rw [dig_toNat _ (Nat.mod_lt _ (by omega))]; omega
theorem parse_step (acc d : Nat) (h : acc < 100000000000000000) (hd : d < 10) (r : List UInt8) : Lib.parseUint10 acc (UInt8.ofNat (48 + d) :: r) = Lib.parseUint10 (acc * 10 + d) r := by
  rw [Lib.parseUint10, dig_toNat d hd, if_pos (by omega), if_neg (by omega), if_neg (by omega)]
  congr 1; omega
theorem parse_dec : ∀ (u : Nat), u < 100000000000000000 → ∀ r, Lib.parseUint10 0 (Lib.decDigits u ++ r) = Lib.parseUint10 u r := by
  intro u
  induction u using Nat.strongRecOn with
  | ind u ih =>
    intro hu r
    unfold Lib.decDigits
    split
    · rename_i h
      rw [List.cons_append, List.nil_append, parse_step 0 u (by omega) h]
      congr 1; omega
    · rename_i h
      rw [List.append_assoc, ih (u / 10) (by omega) (by omega), List.cons_append, List.nil_append, parse_step _ _ (by omega) (Nat.mod_lt _ (by omega))]
      congr 1; omega
theorem dec_ne (u : Nat) : Lib.decDigits u ≠ [] := by
  unfold Lib.decDigits
  split <;> simp
theorem atoi_dec (u : Nat) (hu : u < 100000000000000000) : Lib.atoiAll (Lib.decDigits u) = .ok (u : Int) := by
  have hp := parse_dec u hu []
  rw [List.append_nil] at hp
  have hp : Lib.parseUint10 0 (Lib.decDigits u) = .ok u := hp
  cases hl : Lib.decDigits u with
  | nil => exact absurd hl (dec_ne u)
  | cons c r =>
    have hc := dec_digit u c (by rw [hl]; exact List.mem_cons_self)
    have hm : Lib.parseMag (c :: r) = .ok u := by
      unfold Lib.parseMag
      rw [if_neg (by simp), ← hl, hp]
    rw [Lib.atoiAll_plain c r (by omega) (by omega), hm]
    unfold Lib.signless
    simp only
    rw [if_neg (by omega)]
theorem dec_len : ∀ (k u : Nat), u < 10 ^ (k + 1) → (Lib.decDigits u).length ≤ k + 1
  | 0, u, h => by
    unfold Lib.decDigits
    rw [dif_pos (by simpa using h)]; simp
  | k + 1, u, h => by
    unfold Lib.decDigits
    split
    · simp
    · have := dec_len k (u / 10) (by rw [Nat.pow_succ] at h; omega)
      rw [List.length_append]; simp only [List.length_cons, List.length_nil]; omega
theorem itoa_dec (u : Nat) : Lib.itoa (u : Int) = Lib.decDigits u := Lib.itoa_nonneg u
theorem eqB_self (s : ByteArray) : eqB s s = true := (eqR_iff _ _).mpr rfl
/-- a numeral's number -/
theorem number_dec (u : Nat) (hu : u < 1000000000) : evalN E4 fuelF 100 (.fn 37) [.str (ofL (Lib.decDigits u))] [] = some (.tup [.int .i64 (u : Int), .bool true], []) := by
  have hl := dec_len 8 u (by simpa using hu)
  obtain ⟨y, h', o', h1, h2, h3⟩ := evalNP_sound E4 fuelF 100 (.fn 37) [.str (ofL (Lib.decDigits u))] [] (orcN u true) _ ((number_eq (ofL (Lib.decDigits u)) (u : Int) true).mpr ⟨by
      rw [callCon_new (args' := [.str (ofL (Lib.decDigits u))]) (h1 := [.dead]) (h2 := [.dead]) (v := .tup [.int .i64 u, .nilif]) 0 rfl ?_ rfl rfl]
      · rfl
      · show runAtoi [.str (ofL (Lib.decDigits u))] = _
        unfold runAtoi
        have hs : (ofL (Lib.decDigits u)).size = (Lib.decDigits u).length := rfl
        have hk : Lib.atoiAll (ofL (Lib.decDigits u)).data.toList = .ok (u : Int) := atoi_dec u (by omega)
        simp only [hs, hk]
        rw [if_pos (by omega)], by
      have hs : (ofL (Lib.decDigits u)).size = (Lib.decDigits u).length := rfl
      rw [hs, decide_eq_true (by omega)], by rw [decide_eq_true (by omega)], by
      refine callCon_old 1 (args' := [.int .i64 (u : Int)]) (h1 := [.dead]) rfl ?_ rfl rfl
      show runItoa [.int .i64 (u : Int)] = _
      unfold runItoa
      simp only
      rw [if_pos ⟨by omega, by omega⟩], by rw [itoa_dec, eqB_self], rfl, rfl⟩)
  rw [h1, h2, h3]
end Go.Proofs.YtfbamgphngmglaaGreatDoor
end
