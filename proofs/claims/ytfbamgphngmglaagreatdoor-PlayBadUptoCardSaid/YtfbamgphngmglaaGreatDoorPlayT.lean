/- A part of the proof that cyanotypelaw22.PlayBad returns true: a step that the closing text imports. Each theorem states its own conditions. -/
import Derived.Test.YtfbamgphngmglaaGreatDoorPlayS
set_option linter.unusedSimpArgs false
set_option linter.unusedVariables false
namespace Go.Proofs.YtfbamgphngmglaaGreatDoor
open Go Go.Abs
def letter (y : UInt8) : Prop := 97 ≤ y.toNat ∧ y.toNat ≤ 122
theorem size_ofL (l : List UInt8) : (ofL l).size = l.length := rfl
theorem bytesL_ofL (l : List UInt8) : bytesL (ofL l) = l := rfl
theorem ixZ_skip (c : Nat) : ∀ (w t : List UInt8) (n : Nat), (∀ y ∈ w, Nat.beq y.toNat c = false) → ixZ c (w ++ t) n = ixZ c t (n + w.length)
  | [], t, n, _ => rfl
  | y :: w, t, n, h => by
    show (Bool.rec (ixZ c (w ++ t) (Nat.succ n)) (n : Int) (Nat.beq y.toNat c) : Int) = _
    rw [h y List.mem_cons_self]
    show ixZ c (w ++ t) (Nat.succ n) = _
    rw [ixZ_skip c w t _ fun z hz => h z (List.mem_cons_of_mem _ hz)]
    simp only [List.length_cons]; congr 1; omega
theorem sl_hi (L : List UInt8) (u : Nat) (h : u ≤ L.length) : sliceStr (ofL L) none (some (.int .i64 (u : Int))) = some (.str (ofL (L.take u))) := by
  unfold sliceStr
  simp only [bnd]
  rw [if_pos ⟨by omega, by omega, by have := size_ofL L; omega⟩]
  simp only [subB, bytesL_ofL, takeR_eq, dropR_eq, Int.toNat_natCast, Int.toNat_zero, List.drop_zero, Nat.sub_zero]
theorem sl_lo (L : List UInt8) (l : Nat) (h : l ≤ L.length) : sliceStr (ofL L) (some (.int .i64 (l : Int))) none = some (.str (ofL (L.drop l))) := by
  unfold sliceStr
  simp only [bnd]
  rw [if_pos ⟨by omega, by have := size_ofL L; omega, by omega⟩]
  simp only [subB, bytesL_ofL, takeR_eq, dropR_eq, Int.toNat_natCast, size_ofL]
  rw [List.take_of_length_le (by simp)]
theorem eqB_false {a b : List UInt8} (h : a ≠ b) : eqB (ofL a) (ofL b) = false := by
  cases hq : eqB (ofL a) (ofL b) with
  | false => rfl
  | true => exact absurd ((eqR_iff a b).mp hq) h
theorem wr (n : Nat) (z : Int) (hz : z = n) (h : n ≤ 9223372036854775807) : AV.int .i64 (IntKind.wrap .i64 z) = .int .i64 (n : Int) := by
  rw [wrap_i64 (by omega) (by omega), hz]
theorem word_law (w : List UInt8) (hw : ∀ y ∈ w, letter y) (hl : w.length ≤ 50) (h1 : eqB (ofL w) sz = false) (h2 : eqB (ofL w) en = false) (h3 : eqB (ofL w) de = false) (h4 : eqB (ofL w) tr = false) (p : Prop) (hp : p) : wordObs w w.length p := by
  have l2 : (w ++ tail2).length = w.length + 18 := by rw [List.length_append]; rfl
  have l1 : (w ++ tail1).length = w.length + 17 := by rw [List.length_append]; rfl
  have s2 : ((ofL (w ++ tail2)).size : Int) = ((w.length + 18 : Nat) : Int) := by rw [size_ofL, l2]
  have n10 : ∀ y ∈ w, Nat.beq y.toNat 10 = false := fun y hy => by have := (hw y hy).1; rw [← Bool.not_eq_true, Nat.beq_eq]; omega
  have n32 : ∀ y ∈ w, Nat.beq y.toNat 32 = false := fun y hy => by have := (hw y hy).1; rw [← Bool.not_eq_true, Nat.beq_eq]; omega
  unfold wordObs
  rw [appR_eq, appR_eq]
  refine ⟨?_, ?_, ?_, ?_, ?_, ?_, ?_, ?_, ?_, ?_, ?_, ?_, ?_, ?_, ?_, ?_, ?_, ⟨⟨?_, ?_, ?_, ?_, trivial⟩, rfl⟩, hp⟩
  · rw [s2, decide_eq_true (by omega)]
  · rw [bytesL_ofL, ixZ_skip 10 w tail2 0 n10, Nat.zero_add]; rfl
  · exact wr _ _ (by omega) (by omega)
  · rw [sl_hi _ _ (by omega), List.take_of_length_le (by omega)]
  · exact wr _ _ (by omega) (by omega)
  · rw [sl_lo _ _ (by omega), List.drop_of_length_le (by omega)]
  · rw [s2, decide_eq_true (by omega)]
  · rw [s2]
  · exact wr _ _ (by omega) (by omega)
  · rw [sl_lo _ _ (by omega), List.drop_append, List.drop_of_length_le (by omega), show w.length + 17 - w.length = 17 by omega]; rfl
  · exact wr _ _ (by rw [s2]; omega) (by omega)
  · rw [sl_hi _ _ (by omega), List.take_append, List.take_of_length_le (by omega), show w.length + 17 - w.length = 17 by omega]; rfl
  · rw [eqB_false]
    intro h
    have := congrArg List.length h
    rw [l1] at this; simp at this
  · rw [bytesL_ofL, ixZ_skip 32 w tail1 0 n32, Nat.zero_add]; rfl
  · rw [sl_hi _ _ (by omega), List.take_left']; rfl
  · exact wr _ _ (by omega) (by omega)
  · rw [sl_lo _ _ (by omega), List.drop_append, List.drop_of_length_le (by omega), show w.length + 1 - w.length = 1 by omega]; rfl
  · exact congrArg some h1
  · exact congrArg some h2
  · exact congrArg some h3
  · exact congrArg some h4
theorem add_law (a b : List UInt8) (h : a.length + b.length ≤ 9223372036854775807) : strBin .add (ofL a) (ofL b) = some (.str (ofL (a ++ b))) := by
  unfold strBin
  simp only [bytesL_ofL, appR_eq]
  rw [if_neg]
  have h1 := size_ofL a
  have h2 := size_ofL b
  simp only [IntKind.max, IntKind.signed, IntKind.bits]
  simp; omega
end Go.Proofs.YtfbamgphngmglaaGreatDoor
