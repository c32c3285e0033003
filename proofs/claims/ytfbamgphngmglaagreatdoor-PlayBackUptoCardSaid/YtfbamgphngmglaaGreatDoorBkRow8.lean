/- A part of a proof about a statement of cyanotypelaw22: a step that the closing text imports. Each theorem states its own conditions. -/
import Derived.Test.YtfbamgphngmglaaGreatDoorBkRow7
set_option linter.unusedSimpArgs false
set_option linter.unusedVariables false
namespace Go.Proofs.YtfbamgphngmglaaGreatDoor.playBack
open Go.ChangeShapes Go.WideShapes Go.ChangeAt Go.RowKit Go.Abs
theorem plain (f : FuncId) (fn : Func) (hf : Tryz.pinned.checked.prog.funcNamed "cyanotype/cyanotypelaw22.PlayBack" = some f) (hfn : Tryz.pinned.checked.prog.funcs[f]? = some fn) :
    true = Tryz.pinned.checked.prog.looks [] ∧ ∀ (j : Nat) t, fn.params[j]? = some t → Tryz.pinned.checked.prog.wantsStandIn t = false := by
  obtain rfl : f = 4 := Option.some.inj ((show Tryz.prog.funcNamed "cyanotype/cyanotypelaw22.PlayBack" = some 4 by kernel_rfl).symm.trans hf) |>.symm
  obtain rfl : fn = Tryz.f4 := (Option.some.inj (func6.symm.trans hfn)).symm
  refine ⟨by kernel_rfl, fun j t ht => ?_⟩
  rw [params6] at ht
  rcases j with _ | _ | _ | _ | _ | _ | _ | j
  · obtain rfl : 29 = t := Option.some.inj ht
    exact (show Tryz.prog.wantsStandIn 29 = false by kernel_rfl)
  · obtain rfl : 29 = t := Option.some.inj ht
    exact (show Tryz.prog.wantsStandIn 29 = false by kernel_rfl)
  · obtain rfl : 29 = t := Option.some.inj ht
    exact (show Tryz.prog.wantsStandIn 29 = false by kernel_rfl)
  · obtain rfl : 29 = t := Option.some.inj ht
    exact (show Tryz.prog.wantsStandIn 29 = false by kernel_rfl)
  · obtain rfl : 29 = t := Option.some.inj ht
    exact (show Tryz.prog.wantsStandIn 29 = false by kernel_rfl)
  · obtain rfl : 29 = t := Option.some.inj ht
    exact (show Tryz.prog.wantsStandIn 29 = false by kernel_rfl)
  · obtain rfl : 5 = t := Option.some.inj ht
    exact (show Tryz.prog.wantsStandIn 5 = false by kernel_rfl)
  · cases ht
end Go.Proofs.YtfbamgphngmglaaGreatDoor.playBack
