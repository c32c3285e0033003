/- A part of a proof about a statement of cyanotypelaw22: a step that the closing text imports. Each theorem states its own conditions. -/
import Derived.Test.YtfbamgphngmglaaGreatDoorBkY
set_option linter.unusedSimpArgs false
set_option linter.unusedVariables false
namespace Go.Proofs.YtfbamgphngmglaaGreatDoor
open Go Go.Abs
set_option maxRecDepth 100000
noncomputable def keysT {α : Type} (t : Tr α) : List Nat := Tr.rec (motive := fun _ => List Nat) [] (fun k _ _ _ a b => k :: (a ++ b)) t
theorem get_mem {α : Type} : ∀ (t : Tr α) (n : Nat) (v : α), t.get n = some v → n ∈ keysT t
  | .leaf, n, v, h => by cases h
  | .node k l r x, n, v, h => by
    have h : Bool.rec (Bool.rec (r.get n) (l.get n) (Nat.blt n k)) (some x) (Nat.beq n k) = some v := h
    show n ∈ k :: (keysT l ++ keysT r)
    cases hk : Nat.beq n k with
    | true => rw [Nat.eq_of_beq_eq_true hk]; exact List.mem_cons_self
    | false =>
      rw [hk] at h
      cases hb : Nat.blt n k with
      | true => rw [hb] at h; exact List.mem_cons_of_mem _ (List.mem_append_left _ (get_mem l n v h))
      | false => rw [hb] at h; exact List.mem_cons_of_mem _ (List.mem_append_right _ (get_mem r n v h))
theorem keysG : keysT GTr = [6, 3, 2, 0, 5, 9, 8, 7, 10] := by kernel_rfl
def isI : Option TypeDesc → Bool
  | some (.interface _) => true
  | _ => false
theorem isI_some {o : Option TypeDesc} (h : isI o = true) : ∃ ms, o = some (.interface ms) := by
  unfold isI at h
  split at h
  · exact ⟨_, rfl⟩
  · cases h
theorem hi61 : ∃ ms, Tryz.prog.underlying 61 = some (.interface ms) := isI_some (by kernel_rfl)
def fErr : Field := ⟨ "s", 9, 0, false, "", "errors", 0⟩
theorem u259 : Tryz.prog.underlying 259 = some (.pointer 261) := by kernel_rfl
theorem u261 : Tryz.prog.underlying 261 = some (.struct #[fErr]) := by kernel_rfl
theorem u9 : Tryz.prog.underlying 9 = some .string := by kernel_rfl
theorem c261 : Tryz.prog.cellsOf 261 = 1 := by kernel_rfl
theorem c9 : Tryz.prog.cellsOf 9 = 1 := by kernel_rfl
theorem g3 {w : World} (h : laidMet Tryz.prog L w) : ∀ r n, GTr.get 3 = some (r, n) → GOK w 3 r n := by
  intro r n hr
  have e : GTr.get 3 = some (.vals [.iface 259 (.vptr (.vals [.str ⟨⟨[118, 97, 108, 117, 101, 32, 111, 117, 116, 32, 111, 102, 32, 114, 97, 110, 103, 101]⟩⟩]) none [] 1)], 1) := by kernel_rfl
  rw [e] at hr
  obtain ⟨rfl, rfl⟩ := Prod.mk.inj (Option.some.inj hr)
  obtain ⟨ms, hi⟩ := hi61
  exact err_ok (n := "strconv.ErrRange") (laidMet.tail (laidMet.tail (laidMet.tail (laidMet.tail (laidMet.tail (laidMet.tail (laidMet.tail h))))))) (by kernel_rfl) (by kernel_rfl) u259 u261 rfl rfl u9 c261 c9 hi
theorem g2 {w : World} (h : laidMet Tryz.prog L w) : ∀ r n, GTr.get 2 = some (r, n) → GOK w 2 r n := by
  intro r n hr
  have e : GTr.get 2 = some (.vals [.iface 259 (.vptr (.vals [.str ⟨⟨[105, 110, 118, 97, 108, 105, 100, 32, 115, 121, 110, 116, 97, 120]⟩⟩]) none [] 1)], 1) := by kernel_rfl
  rw [e] at hr
  obtain ⟨rfl, rfl⟩ := Prod.mk.inj (Option.some.inj hr)
  obtain ⟨ms, hi⟩ := hi61
  exact err_ok (n := "strconv.ErrSyntax") (laidMet.tail (laidMet.tail (laidMet.tail (laidMet.tail (laidMet.tail (laidMet.tail (laidMet.tail (laidMet.tail h)))))))) (by kernel_rfl) (by kernel_rfl) u259 u261 rfl rfl u9 c261 c9 hi
theorem globOK {w : World} (h : laidMet Tryz.prog L w) : GlobOK GTr.get (rowsOf w) := by
  intro g r n hg
  have hm := get_mem GTr g _ hg
  rw [keysG] at hm
  simp only [List.mem_cons, List.not_mem_nil, or_false] at hm
  rcases hm with rfl | rfl | rfl | rfl | rfl | rfl | rfl | rfl | rfl
  · exact g6 h r n hg
  · exact g3 h r n hg
  · exact g2 h r n hg
  · exact g0 h r n hg
  · exact g5 h r n hg
  · exact g9 h r n hg
  · exact g8 h r n hg
  · exact g7 h r n hg
  · exact g10 h r n hg
end Go.Proofs.YtfbamgphngmglaaGreatDoor
