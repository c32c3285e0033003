/- A part of a proof about a statement of cyanotypelaw22: a step that the closing text imports. Each theorem states its own conditions. -/
import Derived.Test.YtfbamgphngmglaaGreatDoorBkWb
set_option linter.unusedSimpArgs false
set_option linter.unusedVariables false
namespace Go.Proofs.YtfbamgphngmglaaGreatDoor.playBack
open Go Go.ChangeShapes Go.WideShapes Go.ChangeAt Go.RowKit Go.Abs
theorem rowsW (os : Os) : laidRowsB Tryz.prog (memW os) (psW os) = true := by kernel_rfl
theorem laid_met (os : Os) : laidMet Tryz.prog L ((laidWorld os).forCall (fun _ _ => 0) ⟨#[], args0, []⟩).memory := by
  show laidMet Tryz.prog L (memW os)
  have h := run1 os
  cases hx : DataW.laidRun Tryz.prog (memW os) 8 (L.map (·.1)) with
  | none => rw [hx] at h; cases h
  | some x =>
    obtain ⟨l', ps⟩ := x
    have hps : psW os = ps := by unfold psW; rw [hx]; rfl
    rw [hx] at h
    have h : l' = L := Option.some.inj h
    subst h
    exact laidMet_of_run 8 hx (decide_eq_true (nodup_of_apart (hps ▸ apartW os))) (hps ▸ rowsW os)
end Go.Proofs.YtfbamgphngmglaaGreatDoor.playBack
