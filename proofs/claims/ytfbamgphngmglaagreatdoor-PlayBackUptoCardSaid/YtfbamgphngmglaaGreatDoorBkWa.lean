/- A part of a proof about a statement of cyanotypelaw22: a step that the closing text imports. Each theorem states its own conditions. -/
import Derived.Test.YtfbamgphngmglaaGreatDoorBkRow3
set_option linter.unusedSimpArgs false
set_option linter.unusedVariables false
namespace Go.Proofs.YtfbamgphngmglaaGreatDoor.playBack
open Go Go.ChangeShapes Go.WideShapes Go.ChangeAt Go.RowKit Go.Abs
def setB (h : Array Obj) (b : Nat) (cs : List Value) : Array Obj := h.modify b fun
  | .cells _ t fr => .cells cs.toArray t fr
  | o => o
noncomputable def heap1 (h : Array Obj) : Array Obj :=
  let h := (h.push (.cells #[.string ⟨⟨[118, 97, 108, 117, 101, 32, 111, 117, 116, 32, 111, 102, 32, 114, 97, 110, 103, 101]⟩⟩] 261 (0, 0))).push (.cells #[.string ⟨⟨[105, 110, 118, 97, 108, 105, 100, 32, 115, 121, 110, 116, 97, 120]⟩⟩] 261 (0, 0))
  let n := h.size
  let h := setB h 3 [.iface 259 (.pointer (some ⟨n - 2, 0, none⟩))]
  let h := setB h 2 [.iface 259 (.pointer (some ⟨n - 1, 0, none⟩))]
  let h := setB h 0 (flatD (H := Unit) Rows.laid_internal_strconv_uint64pow10)
  let h := setB h 4 (flatD Rows.laid_unicode_utf8_first)
  let h := setB h 5 (flatD (H := Unit) Rows.laid_unicode_utf8_acceptRanges)
  let h := setB h 6 (flatD (H := Unit) Rows.laid_math_bits_deBruijn32tab)
  let h := setB h 7 (flatD (H := Unit) Rows.laid_math_bits_deBruijn64tab)
  let h := setB h 8 (flatD (H := Unit) Rows.laid_cyanotype_quant_bases)
  let h := setB h 9 (flatD (H := Unit) Rows.laid_cyanotype_quant_zigzag)
  setB h 10 (flatD (H := Unit) Rows.laid_cyanotype_dct_factors)
noncomputable def laidWorld (os : Os) : World :=
  { World.holding Tryz.prog os ⟨#[], #[], []⟩ with heap := heap1 (World.holding Tryz.prog os ⟨#[], #[], []⟩).heap }
noncomputable def args0 : Array Value := #[.int .u32 0, .int .u32 0, .int .u32 0, .int .u32 0, .int .u32 0, .int .u32 0, .int .u8 0]
noncomputable def memW (os : Os) : World := ((laidWorld os).forCall (fun _ _ => 0) ⟨#[], args0, []⟩).memory
theorem run1 (os : Os) : (DataW.laidRun Tryz.prog (memW os) 8 (L.map (·.1))).map (·.1) = some L := by kernel_rfl
end Go.Proofs.YtfbamgphngmglaaGreatDoor.playBack
