/- A part of the proof that cyanotypelaw22.PlayBad returns true: a step that the closing text imports. Each theorem states its own conditions. -/
import Derived.Test.YtfbamgphngmglaaGreatDoorPlayU
import Derived.Test.YtfbamgphngmglaaGreatDoorKnownC
set_option linter.unusedSimpArgs false
set_option linter.unusedVariables false
namespace Go.Proofs.YtfbamgphngmglaaGreatDoor
open Go Go.Abs
set_option maxRecDepth 100000
theorem seq_split {X : Cx} {a b c d : Code} {s s1 : St} (h : evalCode X (.seq a b) s = some (.normal, s1)) :
    evalCode X (.seq a (.seq (.seq b c) d)) s = match evalCode X c s1 with
      | some (.normal, s2) => evalCode X d s2
      | r => r := by
  rw [evalCode_seq] at h
  rw [evalCode_seq]
  cases ha : evalCode X a s with
  | none => rw [ha] at h; cases h
  | some q =>
    obtain ⟨e, sa⟩ := q
    cases e with
    | exit i => rw [ha] at h; cases h
    | ret => rw [ha] at h; cases h
    | normal =>
      rw [ha] at h
      simp only at h ⊢
      rw [evalCode_seq, evalCode_seq, h]
      rfl
theorem fns6 : E1.fns 6 = some Tryz.f6 := by kernel_rfl
theorem ntmps6 : Tryz.f6.ntmps = 62 := by kernel_rfl
theorem res6 : Tryz.f6.results.toList = [.tmp 4] := by kernel_rfl
theorem body6 (w : List UInt8) (hw : w.length ≤ 1048576) (x : Nat) : ∃ e s', evalCode X6 (.seq cA (.seq (.seq cB (.block 0 (.loop cL))) cR)) { tm := [.str (ofL w), .int .u8 (x : Int)] ++ List.replicate 60 .top, hp := [] } = some (e, s') ∧ fin e s' := by
  obtain ⟨e, s1, h1, rfl, h2⟩ := run6 (Q := fun e s => e = .normal ∧ td6 s = st w x 0) ((start6 w x).mpr ⟨rfl, rfl⟩)
  rw [seq_split h1, evalCode_block, evalCode_loop]
  have hk : iter (evalCode X6 cL) (tdOf X6.base (X6.E.live X6.fn (firstReg cL))) X6.k (tdOf X6.base (X6.E.live X6.fn (firstReg cL)) s1) = iter (evalCode X6 cL) td6 fuel (st w x 0) := by rw [← h2]; rfl
  rw [hk]
  rcases loop6 w x hw w.length 0 fuel (by omega) (by unfold fuel; omega) (fun j hj _ => absurd hj (Nat.not_lt_zero _)) with ⟨s', h3, h4⟩ | ⟨hall, h3⟩
  · rw [h3]; exact ⟨_, _, rfl, rfl, h4⟩
  · rw [h3]
    obtain ⟨e, s', h5, h6⟩ := rest6 w hall hw x w.length
    exact ⟨e, s', h5, h6⟩
theorem play_run (w : List UInt8) (hw : w.length ≤ 1048576) (x : Nat) : ∃ h', evalN E1 fuel 200 (.fn 6) [.str (ofL w), .int .u8 (x : Int)] [] = some (.bool true, h') := by
  obtain ⟨e, s', h1, rfl, h2⟩ := body6 w hw x
  show ∃ h', (match E1.fns 6 with | some fn => evalFn E1 fuel (evalN E1 fuel 199) 6 fn [.str (ofL w), .int .u8 (x : Int)] [] | none => none) = _
  rw [fns6]
  simp only [evalFn, shape6, ntmps6, List.length_nil]
  have h1' : evalCode { E := E1, fn := 6, base := 0, k := fuel, inl := evalN E1 fuel 199, round := none } (.seq cA (.seq (.seq cB (.block 0 (.loop cL))) cR)) { tm := [.str (ofL w), .int .u8 (x : Int)] ++ List.replicate (62 - [AV.str (ofL w), .int .u8 (x : Int)].length) .top, hp := [] } = some (.ret, s') := h1
  rw [h1']
  simp only [resultsAV, res6, results1, Option.map_some, h2]
  exact ⟨_, rfl⟩
theorem envOK1 : EnvOK Tryz.prog E1 where
  T := ttok
  ext := extOK
  eq := eqOK
  eqI := intOK
  mixed := by kernel_rfl
theorem conOK1 : ConOK Tryz.prog E1 := conOK_of fun f c hc => by
  obtain ⟨rfl, rfl⟩ := beqD hc
  exact known_spec rfl
theorem evalOK1 (k n : Nat) : InlOK Tryz.prog E1 (evalN E1 k n) := evalN_sound envOK1 conOK1 (fnsOf_ok rfl) k n
end Go.Proofs.YtfbamgphngmglaaGreatDoor
