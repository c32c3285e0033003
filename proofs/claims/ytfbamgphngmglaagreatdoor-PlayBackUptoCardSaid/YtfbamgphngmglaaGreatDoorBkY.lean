/- A part of a proof about a statement of cyanotypelaw22: a step that the closing text imports. Each theorem states its own conditions. -/
import Derived.Test.YtfbamgphngmglaaGreatDoorBkX
import Derived.Look8
set_option linter.unusedSimpArgs false
set_option linter.unusedVariables false
namespace Go.Proofs.YtfbamgphngmglaaGreatDoor
open Go Go.Abs
set_option maxRecDepth 100000
theorem named259 : Tryz.prog.typeNamed8 "*errors.errorString" = some 259 := by kernel_rfl
theorem star : "*" ++ "errors.errorString" = "*errors.errorString" := by decide
theorem name259 (u : TypeId) (h : Tryz.prog.typeName? 3 u = some "*errors.errorString") : u = 259 :=
  typeName_ptr_named (nm := "errors.errorString") (by rw [star]; kernel_rfl) (by kernel_rfl) (by decide) u (by rw [star]; exact h)
theorem err_ok {w : World} {n : String} {text : List UInt8} {r : List (String × DataW Unit)} {g : Nat} (h : laidMet Tryz.prog ((n, .iface "*errors.errorString" (.ptr (.agg [.lit (.string text)]))) :: r) w)
    (hg : Tryz.prog.globalNamed n = some g) (ht : (Tryz.prog.globals[g]?).map (·.type) = some 61) {tp : TypeId} (hp : Tryz.prog.underlying 259 = some (.pointer tp)) {f : Field} (he : Tryz.prog.underlying tp = some (.struct #[f])) (hft : f.type = 9) (hfo : f.offset = 0)
    (hs : Tryz.prog.underlying 9 = some .string) (hc : Tryz.prog.cellsOf tp = 1) (hcs : Tryz.prog.cellsOf 9 = 1) {ms : Array (String × TypeId)} (hi : Tryz.prog.underlying 61 = some (.interface ms)) :
    GOK w g (.vals [.iface 259 (.vptr (.vals [.str ⟨⟨text⟩⟩]) none [] 1)]) 1 := by
  obtain ⟨a, s, h1, h2, h3, _⟩ := laid_sentinel h hg ht hi name259 hp he hft hfo hs hc hcs
  obtain ⟨blk, off, spot⟩ := a
  unfold World.var? at h1
  rw [hg] at h1
  simp only [Option.bind_some] at h1
  split at h1
  · rename_i c e fr hh
    cases h1
    unfold World.cell? at h2
    split at h2
    · rename_i c2 e2 fr2 hh2
      cases spot with
      | some q => simp at h2
      | none =>
        simp only [Option.isSome_none, Bool.false_eq_true, if_false] at h2
        have hlt : off < c2.size := by
          rcases Nat.lt_or_ge off c2.size with h' | h'
          · exact h'
          · rw [Array.getElem?_eq_none h'] at h2; cases h2
        rw [Array.getElem?_eq_getElem hlt] at h2
        have h2 := Option.some.inj h2
        have hs' : (⟨⟨text⟩⟩ : ByteArray) = s := by subst h3; rfl
        refine ⟨_, rowsOf_of hh, rfl, by simp, ?_⟩
        simp only [RR, LR, VR]
        refine ⟨⟨_, _, rfl, ⟨_, rfl, blk, off, c2, rfl, rowsOf_of hh2, by simp [InB, flatP, Row.len], by simp [Row.len]; omega, ?_, ?_⟩, rfl⟩, ?_⟩
        · refine ⟨_, [], ?_, rfl, rfl⟩
          rw [List.drop_eq_getElem_cons (by simpa using hlt)]
          simp [Row.len, h2, hs']
        · intro v hv
          rw [List.drop_eq_getElem_cons (by simpa using hlt)] at hv
          simp [Row.len, h2] at hv
          subst hv; rfl
        · intro v hv
          simp at hv; subst hv; rfl
    · cases h2
  · cases h1
end Go.Proofs.YtfbamgphngmglaaGreatDoor
