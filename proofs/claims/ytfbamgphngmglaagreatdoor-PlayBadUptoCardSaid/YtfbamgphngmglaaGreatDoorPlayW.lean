/- A part of the proof that cyanotypelaw22.PlayBad returns true: a step that the closing text imports. Each theorem states its own conditions. -/
import Derived.Test.YtfbamgphngmglaaGreatDoorPlayV
set_option linter.unusedSimpArgs false
set_option linter.unusedVariables false
namespace Go.Proofs.YtfbamgphngmglaaGreatDoor
open Go Go.Abs
/-- what was there is there as it was -/
structure Kept (w w' : World) : Prop where
  os : w'.os = w.os
  output : w'.output = w.output
  tape : w'.tape = w.tape
  size : w.heap.size ≤ w'.heap.size
  old : ∀ b, b < w.heap.size → w'.heap[b]? = w.heap[b]?
/-- the walk -/
theorem playBad_calls (S : SS) (w : World) (s : ByteArray) (hs : s.size ≤ 1048576) (x : Nat) (hG : GlobOK GTr.get S) (hst : ∀ b c, S b = some c → ∃ e fr, w.heap[b]? = some (.cells c e fr)) :
    Calls Tryz.prog 6 #[.string s, .int .u8 (x : Int)] w fun e w' => e = .returned (.bool true) ∧ Kept w w' := by
  have hW : WR (Go.Abs.rebase noM S [] w) noM S noF [] w := {
    obj := fun id => by rw [hget_nil]; trivial
    inj := fun i j l l' _ _ hl => by cases hl
    stab := hst
    apart := fun i l _ hl => by cases hl
    size := Nat.le_refl _
    keep := fun _ _ _ => rfl
    own := fun i l _ hl => by cases hl
    fresh := fun b c hb => .inl hb
    os := rfl
    output := rfl
    tape := rfl }
  obtain ⟨h', hr⟩ := play_run (bytesL s) hs x
  have hs' : ofL (bytesL s) = s := rfl
  rw [hs'] at hr
  obtain ⟨_, hc⟩ := evalOK1 fuel 200 _ _ _ _ _ hr _ _ S noF w #[.string s, .int .u8 (x : Int)] hG hW (fun _ _ => rfl) (by simp only [LR, VR]; exact ⟨_, _, rfl, rfl, _, _, rfl, rfl, rfl⟩)
  refine callsIn_wide.mp (hc.mono fun e w' ⟨u, m', S', he, hu, hw', _⟩ => ?_)
  simp only [VR] at hu
  subst hu
  exact ⟨he, hw'.os, hw'.output, hw'.tape, hw'.size, fun b hb => hw'.keep b hb (mutBlk_nil noM b)⟩
end Go.Proofs.YtfbamgphngmglaaGreatDoor
