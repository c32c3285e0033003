/- A part of a proof about a statement of cyanotypelaw22: a step that the closing text imports. Each theorem states its own conditions. -/
import Derived.Test.YtfbamgphngmglaaGreatDoorKnownB
set_option linter.unusedSimpArgs false
set_option linter.unusedVariables false
namespace Go.Proofs.YtfbamgphngmglaaGreatDoor
open Go Go.Abs
set_option maxRecDepth 100000
theorem isT_some {r : Option (AV × Heap)} (h : isT r = true) : ∃ h', r = some (.bool true, h') := by
  unfold isT at h
  split at h
  · exact ⟨_, rfl⟩
  · cases h
theorem isInt_some {n : Int} {r : Option (AV × Heap)} (h : isInt n r = true) : ∃ h', r = some (.int .i64 n, h') := by
  unfold isInt at h
  split at h
  · rename_i m h'
    have : m = n := by simpa using h
    exact ⟨h', by rw [this]⟩
  · cases h
theorem runK_eq {z0 : List Int} {v : Int} {y : AV} {args : List AV} {h2 : Heap} (h : runK z0 v args = some (y, h2)) : args = [.agg (.ints .i64 6 z0)] ∧ y = .int .i64 v ∧ h2 = [] := by
  unfold runK at h
  split at h
  · split at h
    · rename_i z hz
      have := of_decide_eq_true hz
      subst this
      cases h; exact ⟨rfl, rfl, rfl⟩
    · cases h
  · cases h
theorem beqD {α : Type} {f n : Nat} {a c : α} (h : cond (Nat.beq f n) (some a) none = some c) : f = n ∧ a = c := by
  cases hb : Nat.beq f n with
  | false => rw [hb] at h; cases h
  | true => rw [hb] at h; cases h; exact ⟨Nat.eq_of_beq_eq_true hb, rfl⟩
theorem envOK2 : EnvOK Tryz.prog E2 where
  T := ttok
  ext := extOK
  eq := eqOK
  eqI := intOK
  mixed := by kernel_rfl
theorem evalOK2 (k n : Nat) : InlOK Tryz.prog E2 (evalN E2 k n) := evalN_sound envOK2 (conOK_of fun f c hc => by
  obtain ⟨rfl, rfl⟩ := beqD hc
  refine conSpec_scalar (evalOK 2097152 150) (glob := E2.glob) (fun args v h2 hr => ?_) rfl
  obtain ⟨rfl, rfl, rfl⟩ := runK_eq hr
  exact ⟨rfl, rfl, isInt_some size_run⟩) (fnsOf_ok rfl) k n
theorem known_some : ∃ h', evalN E2 2097152 200 (.fn 7) [] [] = some (.bool true, h') := isT_some known_run
theorem known_spec {glob : Nat → Option (Row × Nat)} (hg : glob = E0.glob) : ConSpec Tryz.prog glob (conConst (.bool true)) 7 := by
  refine conSpec_scalar (evalOK2 2097152 200) (fun args v h2 hr => ?_) hg
  obtain ⟨rfl, rfl, rfl⟩ := runConst_eq hr
  exact ⟨rfl, rfl, known_some⟩
end Go.Proofs.YtfbamgphngmglaaGreatDoor
