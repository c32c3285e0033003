/- A part of a proof about a statement of cyanotypelaw22: a step that the closing text imports. Each theorem states its own conditions. -/
import Derived.Test.YtfbamgphngmglaaGreatDoorFlatJ
import Derived.Test.YtfbamgphngmglaaGreatDoorEngineL
import Derived.Stop.LaidErr
import Derived.Test.YtfbamgphngmglaaGreatDoorRows
set_option linter.unusedSimpArgs false
set_option linter.unusedVariables false
namespace Go.Proofs.YtfbamgphngmglaaGreatDoor
open Go Go.Abs
set_option maxRecDepth 100000
/-- all rows of cells that are there -/
def rowsOf (w : World) : SS := fun b => match w.heap[b]? with | some (.cells c _ _) => some c | _ => none
theorem rowsOf_stab (w : World) : ∀ b c, rowsOf w b = some c → ∃ e fr, w.heap[b]? = some (.cells c e fr) := by
  intro b c h
  unfold rowsOf at h
  split at h
  · rename_i c' e fr hh; cases h; exact ⟨e, fr, hh⟩
  · cases h
theorem rowsOf_of {w : World} {b : Nat} {c : Array Value} {e : TypeId} {fr : Nat × Nat} (h : w.heap[b]? = some (.cells c e fr)) : rowsOf w b = some c := by
  unfold rowsOf; rw [h]
abbrev GOK (w : World) (g : Nat) (r : Row) (n : Nat) : Prop := ∃ c, rowsOf w g = some c ∧ r.len = n ∧ n = c.size ∧ RR (rowsOf w) r noM noF (c.toList.take n)
theorem tab_ok {w : World} {laid : List (String × DataW Unit)} (h : laidMet Tryz.prog laid w) {name : String} {d : DataW Unit} (hm : (name, d) ∈ laid) {g : Nat} {t : TypeId} (hg : Tryz.prog.globalNamed name = some g)
    (ht : (Tryz.prog.globals[g]?).map (·.type) = some t) (hs : shapeB Tryz.prog 5 t = true) {k : IntKind} {n : Nat} {z : List Int} (hz : z.length = n) (hd : flatD d = z.map (Value.int k)) : GOK w g (.ints k n z) n := by
  obtain ⟨ps, hv, _⟩ := h
  obtain ⟨c, e, fr, h1, h2⟩ := laid_flat hv hm hg ht hs
  rw [hd] at h2
  have hl : c.size = n := by rw [← Array.length_toList, h2, List.length_map, hz]
  refine ⟨c, rowsOf_of h1, rfl, by omega, ?_⟩
  simp only [RR]
  exact ⟨hz, by rw [List.take_of_length_le (by rw [Array.length_toList]; omega), h2]⟩
abbrev L := Rows.playBackUptoRow.laid
noncomputable def rG (g : Nat) : Row := ((GTr.get g).map Prod.fst).getD (.vals [])
noncomputable def nG (g : Nat) : Nat := ((GTr.get g).map Prod.snd).getD 0
def kOf : Row → IntKind | .ints k _ _ => k | _ => .i64
def zOf : Row → List Int | .ints _ _ z => z | _ => []
theorem tabG {w : World} (h : laidMet Tryz.prog L w) (g : Nat) {name : String} {d : DataW Unit} (hm : (name, d) ∈ L) {t : TypeId} (hg : Tryz.prog.globalNamed name = some g)
    (ht : (Tryz.prog.globals[g]?).map (·.type) = some t) (hs : shapeB Tryz.prog 5 t = true) (he : GTr.get g = some (rG g, nG g)) (hi : rG g = .ints (kOf (rG g)) (nG g) (zOf (rG g))) (hz : (zOf (rG g)).length = nG g)
    (hd : flatD d = (zOf (rG g)).map (Value.int (kOf (rG g)))) : ∀ r n, GTr.get g = some (r, n) → GOK w g r n := by
  intro r n hr
  rw [he] at hr
  obtain ⟨rfl, rfl⟩ := Prod.mk.inj (Option.some.inj hr)
  rw [hi]
  exact tab_ok h hm hg ht hs hz hd
theorem g0 {w : World} (h : laidMet Tryz.prog L w) : ∀ r n, GTr.get 0 = some (r, n) → GOK w 0 r n :=
  tabG h 0 (name := "internal/strconv.uint64pow10") (d := Rows.laid_internal_strconv_uint64pow10) (List.mem_cons_of_mem _ (List.mem_cons_of_mem _ List.mem_cons_self)) (by kernel_rfl) (t := 145) (by kernel_rfl) (by kernel_rfl) (by kernel_rfl) (by kernel_rfl) (by kernel_rfl) (by kernel_rfl)
theorem g5 {w : World} (h : laidMet Tryz.prog L w) : ∀ r n, GTr.get 5 = some (r, n) → GOK w 5 r n :=
  tabG h 5 (name := "unicode/utf8.acceptRanges") (d := Rows.laid_unicode_utf8_acceptRanges) (List.mem_cons_of_mem _ (List.mem_cons_of_mem _ (List.mem_cons_of_mem _ List.mem_cons_self))) (by kernel_rfl) (t := 196) (by kernel_rfl) (by kernel_rfl) (by kernel_rfl) (by kernel_rfl) (by kernel_rfl) (by kernel_rfl)
theorem g6 {w : World} (h : laidMet Tryz.prog L w) : ∀ r n, GTr.get 6 = some (r, n) → GOK w 6 r n :=
  tabG h 6 (name := "math/bits.deBruijn32tab") (d := Rows.laid_math_bits_deBruijn32tab) List.mem_cons_self (by kernel_rfl) (t := 256) (by kernel_rfl) (by kernel_rfl) (by kernel_rfl) (by kernel_rfl) (by kernel_rfl) (by kernel_rfl)
theorem g7 {w : World} (h : laidMet Tryz.prog L w) : ∀ r n, GTr.get 7 = some (r, n) → GOK w 7 r n :=
  tabG h 7 (name := "math/bits.deBruijn64tab") (d := Rows.laid_math_bits_deBruijn64tab) (List.mem_cons_of_mem _ List.mem_cons_self) (by kernel_rfl) (t := 257) (by kernel_rfl) (by kernel_rfl) (by kernel_rfl) (by kernel_rfl) (by kernel_rfl) (by kernel_rfl)
theorem g8 {w : World} (h : laidMet Tryz.prog L w) : ∀ r n, GTr.get 8 = some (r, n) → GOK w 8 r n :=
  tabG h 8 (name := "cyanotype/quant.bases") (d := Rows.laid_cyanotype_quant_bases) (List.mem_cons_of_mem _ (List.mem_cons_of_mem _ (List.mem_cons_of_mem _ (List.mem_cons_of_mem _ (List.mem_cons_of_mem _ (List.mem_cons_of_mem _ List.mem_cons_self)))))) (by kernel_rfl) (t := 267) (by kernel_rfl) (by kernel_rfl) (by kernel_rfl) (by kernel_rfl) (by kernel_rfl) (by kernel_rfl)
theorem g9 {w : World} (h : laidMet Tryz.prog L w) : ∀ r n, GTr.get 9 = some (r, n) → GOK w 9 r n :=
  tabG h 9 (name := "cyanotype/quant.zigzag") (d := Rows.laid_cyanotype_quant_zigzag) (List.mem_cons_of_mem _ (List.mem_cons_of_mem _ (List.mem_cons_of_mem _ (List.mem_cons_of_mem _ (List.mem_cons_of_mem _ List.mem_cons_self))))) (by kernel_rfl) (t := 266) (by kernel_rfl) (by kernel_rfl) (by kernel_rfl) (by kernel_rfl) (by kernel_rfl) (by kernel_rfl)
theorem g10 {w : World} (h : laidMet Tryz.prog L w) : ∀ r n, GTr.get 10 = some (r, n) → GOK w 10 r n :=
  tabG h 10 (name := "cyanotype/dct.factors") (d := Rows.laid_cyanotype_dct_factors) (List.mem_cons_of_mem _ (List.mem_cons_of_mem _ (List.mem_cons_of_mem _ (List.mem_cons_of_mem _ List.mem_cons_self)))) (by kernel_rfl) (t := 314) (by kernel_rfl) (by kernel_rfl) (by kernel_rfl) (by kernel_rfl) (by kernel_rfl) (by kernel_rfl)
end Go.Proofs.YtfbamgphngmglaaGreatDoor
