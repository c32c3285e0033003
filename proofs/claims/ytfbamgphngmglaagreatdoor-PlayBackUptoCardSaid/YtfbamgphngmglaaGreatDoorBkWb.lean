/- A part of a proof about a statement of cyanotypelaw22: a step that the closing text imports. Each theorem states its own conditions. -/
import Derived.Test.YtfbamgphngmglaaGreatDoorBkWa
set_option linter.unusedSimpArgs false
set_option linter.unusedVariables false
namespace Go.Proofs.YtfbamgphngmglaaGreatDoor.playBack
open Go Go.ChangeShapes Go.WideShapes Go.ChangeAt Go.RowKit Go.Abs
/-- places by numbers: other numbers, other places -/
def keyP : MemPlace → Nat
  | .cell b o => b * 1000 + o
  | .map b => b * 1000
noncomputable def inK (n : Nat) (l : List MemPlace) : Bool := List.rec (motive := fun _ => Bool) false (fun p _ ih => Bool.rec ih true (Nat.beq n (keyP p))) l
noncomputable def apartB : List MemPlace → Bool := fun l => List.rec (motive := fun _ => Bool) true (fun p l ih => Bool.rec ih false (inK (keyP p) l)) l
theorem inK_of_mem {p : MemPlace} : ∀ {l : List MemPlace}, p ∈ l → inK (keyP p) l = true
  | q :: l, h => by
    show Bool.rec (inK (keyP p) l) true (Nat.beq (keyP p) (keyP q)) = true
    rcases List.mem_cons.mp h with rfl | h
    · rw [Nat.beq_refl]
    · rw [inK_of_mem h]
      cases Nat.beq (keyP p) (keyP q) <;> rfl
theorem nodup_of_apart : ∀ {l : List MemPlace}, apartB l = true → l.Nodup
  | [], _ => List.nodup_nil
  | p :: l, h => by
    have h : Bool.rec (apartB l) false (inK (keyP p) l) = true := h
    cases hk : inK (keyP p) l with
    | true => rw [hk] at h; cases h
    | false =>
      rw [hk] at h
      exact List.nodup_cons.mpr ⟨(fun hm => by rw [inK_of_mem hm] at hk; cases hk), nodup_of_apart h⟩
noncomputable def psW (os : Os) : List MemPlace := ((DataW.laidRun Tryz.prog (memW os) 8 (L.map (·.1))).map (·.2)).getD []
set_option maxRecDepth 100000 in
theorem apartW (os : Os) : apartB (psW os) = true := by kernel_rfl
end Go.Proofs.YtfbamgphngmglaaGreatDoor.playBack
