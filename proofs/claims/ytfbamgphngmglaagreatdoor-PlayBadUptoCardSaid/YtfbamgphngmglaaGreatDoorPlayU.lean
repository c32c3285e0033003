/- A part of the proof that cyanotypelaw22.PlayBad returns true: a step that the closing text imports. Each theorem states its own conditions. -/
import Derived.Test.YtfbamgphngmglaaGreatDoorPlayT
set_option linter.unusedSimpArgs false
set_option linter.unusedVariables false
namespace Go.Proofs.YtfbamgphngmglaaGreatDoor
open Go Go.Abs
def OutE (X : Cx) (c : Code) (s : St) (Q : Ex → St → Prop) : Prop := ∃ e s', evalCode X c s = some (e, s') ∧ Q e s'
theorem run6 {c : Code} {s : St} {o : Orc} {Q : Ex → St → Prop} (h : codeP Y6 c s o (fun _ e s => Q e s)) : OutE X6 c s Q := by
  obtain ⟨e, s', _, h1, h2⟩ := codeP_sound XY6 c _ _ _ h
  exact ⟨e, s', h1, h2⟩
def fin (e : Ex) (s : St) : Prop := e = .ret ∧ tget s.tm 4 = .bool true
theorem yes_ok : yes := ⟨rfl, rfl⟩
theorem at6_ok {w : List UInt8} {i : Nat} (h : i < w.length) : at6 w i = some (.int .u8 (w[i].toNat : Int)) := by
  unfold at6
  rw [if_pos (by omega), bytesL_ofL, Int.toNat_natCast, nthR_eq, List.getElem?_eq_getElem h]
theorem lt6 {w : List UInt8} {i : Nat} (h : i < w.length) : AV.bool (decide ((i : Int) < ((ofL w).size : Int))) = .bool true := by
  rw [size_ofL, decide_eq_true (by omega)]
theorem loop6 (w : List UInt8) (x : Int) (hw : w.length ≤ 1048576) : ∀ (r i k : Nat), i + r = w.length → r < k → (∀ j, (h : j < i) → (h' : j < w.length) → letter w[j]) →
    (∃ s', iter (evalCode X6 cL) td6 k (st w x i) = some (.ret, s') ∧ tget s'.tm 4 = .bool true) ∨
    ((∀ y ∈ w, letter y) ∧ iter (evalCode X6 cL) td6 k (st w x i) = some (.exit 0, stE w x w.length))
  | r, i, 0, _, hk, _ => absurd hk (Nat.not_lt_zero _)
  | 0, i, k + 1, hi, _, hle => by
    have hi : i = w.length := by omega
    subst hi
    right
    refine ⟨fun y hy => ?_, ?_⟩
    · obtain ⟨j, hj, rfl⟩ := List.mem_iff_getElem.mp hy
      exact hle j hj hj
    · have h := exit6 w x w.length
      obtain ⟨e, s', h1, rfl, rfl⟩ := run6 (Q := fun e s => e = .exit 0 ∧ s = stE w x w.length) (h.mpr ⟨by rw [size_ofL, decide_eq_false (by omega)], rfl, rfl⟩)
      rw [iter_succ, h1]
  | r + 1, i, k + 1, hi, hk, hle => by
    have hlt : i < w.length := by omega
    by_cases hlow : (w[i].toNat : Int) < 97
    · left
      have h := low6 w x i w[i]
      obtain ⟨e, s', h1, rfl, h2⟩ := run6 (Q := fin) (h.mpr ⟨lt6 hlt, at6_ok hlt, by rw [decide_eq_true hlow], yes_ok⟩)
      exact ⟨s', by rw [iter_succ, h1], h2⟩
    · by_cases hhigh : (w[i].toNat : Int) > 122
      · left
        have h := high6 w x i w[i]
        obtain ⟨e, s', h1, rfl, h2⟩ := run6 (Q := fin) (h.mpr ⟨lt6 hlt, at6_ok hlt, by rw [decide_eq_false hlow], at6_ok hlt, by rw [decide_eq_true hhigh], yes_ok⟩)
        exact ⟨s', by rw [iter_succ, h1], h2⟩
      · have h := round6 w x i w[i]
        obtain ⟨e, s', h1, rfl, h2⟩ := run6 (Q := fun e s => e = .normal ∧ td6 s = st w x (i + 1))
          (h.mpr ⟨lt6 hlt, at6_ok hlt, by rw [decide_eq_false hlow], at6_ok hlt, by rw [decide_eq_false hhigh], wr _ _ (by omega) (by omega), rfl, rfl⟩)
        have ih := loop6 w x hw r (i + 1) k (by omega) (by omega) fun j hj hj' => by
          rcases Nat.lt_succ_iff_lt_or_eq.mp hj with hj | rfl
          · exact hle j hj hj'
          · constructor <;> omega
        rw [iter_succ, h1]
        simp only [h2]
        exact ih
theorem long_ok {w : List UInt8} (h : ¬ w.length > 50) : long w = .bool false := by
  unfold long; rw [size_ofL, decide_eq_false (by omega)]
/-- what stands behind the loop -/
theorem rest6 (w : List UInt8) (hw : ∀ y ∈ w, letter y) (hwl : w.length ≤ 1048576) (x : Nat) (i : Nat) : OutE X6 cR (stE w (x : Int) i) fin := by
  by_cases hl : w.length > 50
  · have h := long6 w x i
    exact run6 (Q := fin) (h.mpr ⟨by unfold long; rw [size_ofL, decide_eq_true (by omega)], yes_ok⟩)
  · have hl' := long_ok hl
    cases h1 : eqB (ofL w) sz with
    | true => have h := sz6 w x i; exact run6 (Q := fin) (h.mpr ⟨hl', congrArg _ h1, yes_ok⟩)
    | false =>
    cases h2 : eqB (ofL w) en with
    | true => have h := en6 w x i; exact run6 (Q := fin) (h.mpr ⟨hl', congrArg _ h1, congrArg _ h2, yes_ok⟩)
    | false =>
    cases h3 : eqB (ofL w) de with
    | true => have h := de6 w x i; exact run6 (Q := fin) (h.mpr ⟨hl', congrArg _ h1, congrArg _ h2, congrArg _ h3, yes_ok⟩)
    | false =>
    cases h4 : eqB (ofL w) tr with
    | true => have h := tr6 w x i; exact run6 (Q := fin) (h.mpr ⟨hl', congrArg _ h1, congrArg _ h2, congrArg _ h3, congrArg _ h4, yes_ok⟩)
    | false =>
    have hadd : strBin .add (ofL w) (ofL tail1) = some (.str (ofL (appR w tail1))) := by
      rw [appR_eq]; exact add_law w tail1 (by show w.length + 17 ≤ _; omega)
    have hadd2 : strBin .add (ofL (appR w tail1)) (ofL [10]) = some (.str (ofL (appR w tail2))) := by
      rw [appR_eq, appR_eq, add_law _ _ (by rw [List.length_append]; show w.length + 17 + 1 ≤ _; omega), List.append_assoc]; rfl
    have tl : ∀ (j : Nat) (p : Prop), x % 6 = j → p → tailOb w x j p := fun j p hj hp =>
      ⟨hl', congrArg _ h1, congrArg _ h2, congrArg _ h3, congrArg _ h4, hadd, by
        have : (x : Int).tmod 6 = (j : Int) := by rw [Int.tmod_eq_emod_of_nonneg (by omega)]; omega
        rw [this], hp⟩
    have hx : x % 6 < 6 := Nat.mod_lt _ (by decide)
    rcases hj : x % 6 with _ | _ | _ | _ | _ | _ | _
    · have h := case0 w x i; exact run6 (Q := fin) (h.mpr (tl 0 _ hj yes_ok))
    · have h := case1 w x i; exact run6 (Q := fin) (h.mpr (tl 1 _ hj yes_ok))
    · have h := case2 w x i w.length; exact run6 (Q := fin) (h.mpr (tl 2 _ hj ⟨hadd2, word_law w hw (by omega) h1 h2 h3 h4 _ yes_ok⟩))
    · have h := case3 w x i; exact run6 (Q := fin) (h.mpr (tl 3 _ hj yes_ok))
    · have h := case4 w x i; exact run6 (Q := fin) (h.mpr (tl 4 _ hj yes_ok))
    · have h := case5 w x i; exact run6 (Q := fin) (h.mpr (tl 5 _ hj yes_ok))
    · omega
end Go.Proofs.YtfbamgphngmglaaGreatDoor
