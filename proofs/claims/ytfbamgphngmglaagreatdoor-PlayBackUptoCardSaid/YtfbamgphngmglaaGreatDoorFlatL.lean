/- A part of a proof about a statement of cyanotypelaw22: a step that the closing text imports. Each theorem states its own conditions. -/
import Derived.Test.YtfbamgphngmglaaGreatDoorFlatN
import Derived.Test.YtfbamgphngmglaaGreatDoorFlatR
set_option linter.unusedSimpArgs false
set_option linter.unusedVariables false
section
namespace Go.Proofs.YtfbamgphngmglaaGreatDoor
open Go Go.Abs
set_option maxRecDepth 100000
/-! ### strings.Split of words with a blank between them -/
def N64 (n : Nat) : AV := .int .i64 (n : Int)
def joinS : List (List UInt8) → List UInt8
  | [] => []
  | [w] => w
  | w :: r => w ++ 32 :: joinS r
noncomputable def itO (gap : Nat) (w T : List UInt8) : Orc := [(gap, .val (.bool false)), (11, .val (N64 w.length)), (5, .val (.bool false)), (5, .val (N64 w.length)), (0, .res (.str (ofL w))), (6, .val (N64 (w.length + 1))), (0, .res (.str (ofL T)))]
noncomputable def orcS1 : Nat → List (List UInt8) → Orc
  | gap, w :: w' :: r => itO gap w (joinS (w' :: r)) ++ orcS1 21 (w' :: r)
  | _, _ => []
noncomputable def orcS (ws : List (List UInt8)) : Orc := (22, .val (N64 (ws.length - 1))) :: (7, .val (N64 ws.length)) :: orcS1 25 ws
def itOb (w T T' : List UInt8) (p : Prop) : Prop :=
  AV.bool (eqB (ofL [32]) (ofL T)) = .bool false ∧ AV.int .i64 (ixZ 32 (bytesL (ofL T)) 0) = N64 w.length ∧ AV.bool (decide ((w.length : Int) < 0)) = .bool false ∧
  AV.int .i64 (IntKind.wrap .i64 ((w.length : Int) + 0)) = N64 w.length ∧ sliceStr (ofL T) none (some (N64 w.length)) = some (.str (ofL w)) ∧
  AV.int .i64 (IntKind.wrap .i64 ((w.length : Int) + 1)) = N64 (w.length + 1) ∧ sliceStr (ofL T) (some (N64 (w.length + 1))) none = some (.str (ofL T')) ∧ p
def splitOb : List (List UInt8) → Prop → Prop
  | w :: w' :: r, p => itOb w (joinS (w :: w' :: r)) (joinS (w' :: r)) (splitOb (w' :: r) p)
  | _, p => p
def headOb (k : Nat) (L : List UInt8) (p : Prop) : Prop :=
  AV.int .i64 (cntZ 32 (bytesL (ofL L)) 0 : Nat) = N64 (k - 1) ∧ AV.int .i64 (if IntKind.wrap .i64 (((ofL L).size : Int) + 1) < (k : Int) then IntKind.wrap .i64 (((ofL L).size : Int) + 1) else (k : Int)) = N64 k ∧ p
def wordsV (ws : List (List UInt8)) : Heap := [.cells (.vals (ws.map fun w => AV.str (ofL w))) 9]
theorem split8 (a b c d e f g h : List UInt8) : evalNP E0 fuelF 100 (.fn 19) [.str (ofL (joinS [a, b, c, d, e, f, g, h])), .str (ofL [32])] [] (orcS [a, b, c, d, e, f, g, h])
      (fun _ y hp => y = .sl 0 (some (0, 8)) 1 (.is 8) ∧ hp = wordsV [a, b, c, d, e, f, g, h]) =
    headOb 8 (joinS [a, b, c, d, e, f, g, h]) (splitOb [a, b, c, d, e, f, g, h] (AV.sl 0 (some (0, 8)) 1 (.is 8) = .sl 0 (some (0, 8)) 1 (.is 8) ∧ wordsV [a, b, c, d, e, f, g, h] = wordsV [a, b, c, d, e, f, g, h])) := by kernel_rfl
end Go.Proofs.YtfbamgphngmglaaGreatDoor
end

section
namespace Go.Proofs.YtfbamgphngmglaaGreatDoor
open Go Go.Abs
set_option maxRecDepth 100000
/-! ### plain laws of words with a blank between them -/
theorem sizeL (l : List UInt8) : (ofL l).size = l.length := rfl
theorem bytesL' (l : List UInt8) : bytesL (ofL l) = l := rfl
def plainW (w : List UInt8) : Prop := w ≠ [] ∧ ∀ y ∈ w, y.toNat ≠ 32
theorem ix_skip : ∀ (w t : List UInt8) (n : Nat), (∀ y ∈ w, y.toNat ≠ 32) → ixZ 32 (w ++ t) n = ixZ 32 t (n + w.length)
  | [], t, n, _ => rfl
  | y :: w, t, n, h => by
    have hy : Nat.beq y.toNat 32 = false := by rw [← Bool.not_eq_true, Nat.beq_eq]; exact h y List.mem_cons_self
    show (Bool.rec (ixZ 32 (w ++ t) (Nat.succ n)) (n : Int) (Nat.beq y.toNat 32) : Int) = _
    rw [hy]
    show ixZ 32 (w ++ t) (Nat.succ n) = _
    rw [ix_skip w t _ fun z hz => h z (List.mem_cons_of_mem _ hz)]
    simp only [List.length_cons]; congr 1; omega
theorem cnt_skip : ∀ (w t : List UInt8) (n : Nat), (∀ y ∈ w, y.toNat ≠ 32) → cntZ 32 (w ++ t) n = cntZ 32 t n
  | [], t, n, _ => rfl
  | y :: w, t, n, h => by
    have hy : Nat.beq y.toNat 32 = false := by rw [← Bool.not_eq_true, Nat.beq_eq]; exact h y List.mem_cons_self
    show (Bool.rec (cntZ 32 (w ++ t) n) (cntZ 32 (w ++ t) (Nat.succ n)) (Nat.beq y.toNat 32) : Nat) = _
    rw [hy]
    exact cnt_skip w t n fun z hz => h z (List.mem_cons_of_mem _ hz)
theorem cnt_join : ∀ (ws : List (List UInt8)) (n : Nat), (∀ w ∈ ws, plainW w) → cntZ 32 (joinS ws) n = n + (ws.length - 1)
  | [], n, _ => rfl
  | [w], n, h => by
    have := cnt_skip w [] n (h w List.mem_cons_self).2
    rw [List.append_nil] at this
    exact this
  | w :: w' :: r, n, h => by
    show cntZ 32 (w ++ 32 :: joinS (w' :: r)) n = _
    rw [cnt_skip w _ n (h w List.mem_cons_self).2]
    show cntZ 32 (joinS (w' :: r)) (Nat.succ n) = _
    rw [cnt_join (w' :: r) _ fun x hx => h x (List.mem_cons_of_mem _ hx)]
    simp only [List.length_cons]; omega
theorem join_len : ∀ (ws : List (List UInt8)), (∀ w ∈ ws, plainW w) → ws.length ≤ (joinS ws).length + 1
  | [], _ => by simp
  | [w], h => by simp
  | w :: w' :: r, h => by
    have := join_len (w' :: r) fun x hx => h x (List.mem_cons_of_mem _ hx)
    show _ ≤ (w ++ 32 :: joinS (w' :: r)).length + 1
    rw [List.length_append, List.length_cons]
    simp only [List.length_cons] at this ⊢
    omega
theorem sl_hi' (L : List UInt8) (u : Nat) (h : u ≤ L.length) : sliceStr (ofL L) none (some (N64 u)) = some (.str (ofL (L.take u))) := by
  unfold sliceStr N64
  simp only [bnd]
  rw [if_pos ⟨by omega, by omega, by have := sizeL L; omega⟩]
  simp only [subB, bytesL', takeR_eq, dropR_eq, Int.toNat_natCast, Int.toNat_zero, List.drop_zero, Nat.sub_zero]
theorem sl_lo' (L : List UInt8) (l : Nat) (h : l ≤ L.length) : sliceStr (ofL L) (some (N64 l)) none = some (.str (ofL (L.drop l))) := by
  unfold sliceStr N64
  simp only [bnd]
  rw [if_pos ⟨by omega, by have := sizeL L; omega, by omega⟩]
  simp only [subB, bytesL', takeR_eq, dropR_eq, Int.toNat_natCast, sizeL]
  rw [List.take_of_length_le (by simp)]
theorem eqB_ne {a b : List UInt8} (h : a ≠ b) : eqB (ofL a) (ofL b) = false := by
  cases hq : eqB (ofL a) (ofL b) with
  | false => rfl
  | true => exact absurd ((eqR_iff a b).mp hq) h
theorem add_str (a b : List UInt8) (h : a.length + b.length ≤ 9223372036854775807) : strBin .add (ofL a) (ofL b) = some (.str (ofL (a ++ b))) := by
  unfold strBin
  simp only [bytesL', appR_eq]
  rw [if_neg]
  have h1 := sizeL a
  have h2 := sizeL b
  simp only [IntKind.max, IntKind.signed, IntKind.bits]
  simp; omega
theorem wrN (n : Nat) (h : n ≤ 9223372036854775807) : IntKind.wrap .i64 (n : Int) = (n : Int) := wrap_i64 (by omega) (by omega)
theorem itOb_ok (w T' : List UInt8) (hw : plainW w) (hl : w.length ≤ 1000000) (hT : T' ≠ []) {p : Prop} (hp : p) : itOb w (w ++ 32 :: T') T' p := by
  have lT : (w ++ 32 :: T').length = w.length + 1 + T'.length := by rw [List.length_append, List.length_cons]; omega
  refine ⟨?_, ?_, by rw [decide_eq_false (by omega)], ?_, ?_, ?_, ?_, hp⟩
  · rw [eqB_ne]
    intro h
    have := congrArg List.length h
    rw [lT] at this
    have h2 : w.length ≠ 0 := by simpa using hw.1
    simp only [List.length_cons, List.length_nil] at this
    omega
  · rw [bytesL', ix_skip w _ 0 hw.2, Nat.zero_add]; rfl
  · have : (w.length : Int) + 0 = ((w.length : Nat) : Int) := by omega
    rw [this, wrN _ (by omega)]; rfl
  · rw [sl_hi' _ _ (by omega), List.take_left']; rfl
  · have : (w.length : Int) + 1 = ((w.length + 1 : Nat) : Int) := by omega
    rw [this, wrN _ (by omega)]; rfl
  · rw [sl_lo' _ _ (by omega), List.drop_append, List.drop_of_length_le (by omega), show w.length + 1 - w.length = 1 by omega]; rfl
theorem join_ne : ∀ (ws : List (List UInt8)), ws ≠ [] → (∀ w ∈ ws, plainW w) → joinS ws ≠ []
  | [], h, _ => absurd rfl h
  | [w], _, h => (h w List.mem_cons_self).1
  | w :: w' :: r, _, h => by
    show w ++ 32 :: joinS (w' :: r) ≠ []
    simp
theorem splitOb_ok : ∀ (ws : List (List UInt8)) {p : Prop}, (∀ w ∈ ws, plainW w ∧ w.length ≤ 1000000) → p → splitOb ws p
  | [], _, _, hp => hp
  | [_], _, _, hp => hp
  | w :: w' :: r, _, h, hp => itOb_ok w (joinS (w' :: r)) (h w List.mem_cons_self).1 (h w List.mem_cons_self).2 (join_ne _ (by simp) fun x hx => (h x (List.mem_cons_of_mem _ hx)).1)
      (splitOb_ok (w' :: r) (fun x hx => h x (List.mem_cons_of_mem _ hx)) hp)
theorem headOb_ok (ws : List (List UInt8)) (h : ∀ w ∈ ws, plainW w) (hl : (joinS ws).length ≤ 1000000) (h0 : ws ≠ []) {p : Prop} (hp : p) : headOb ws.length (joinS ws) p := by
  refine ⟨?_, ?_, hp⟩
  · rw [bytesL', cnt_join ws 0 h, Nat.zero_add]; rfl
  · have h1 := join_len ws h
    have : ((ofL (joinS ws)).size : Int) + 1 = (((joinS ws).length + 1 : Nat) : Int) := by rw [sizeL]; omega
    rw [this, wrN _ (by omega), if_neg (by omega)]; rfl
theorem split8_run (a b c d e f g h : List UInt8) (hw : ∀ w ∈ [a, b, c, d, e, f, g, h], plainW w ∧ w.length ≤ 1000) : evalN E0 fuelF 100 (.fn 19) [.str (ofL (joinS [a, b, c, d, e, f, g, h])), .str (ofL [32])] [] = some (.sl 0 (some (0, 8)) 1 (.is 8), wordsV [a, b, c, d, e, f, g, h]) := by
  have hlen : (joinS [a, b, c, d, e, f, g, h]).length ≤ 1000000 := by
    have := fun w hx => (hw w hx).2
    simp only [List.mem_cons, List.not_mem_nil, or_false, forall_eq_or_imp, forall_eq] at this
    simp only [joinS, List.length_append, List.length_cons]
    omega
  have hob : headOb 8 (joinS [a, b, c, d, e, f, g, h]) (splitOb [a, b, c, d, e, f, g, h] (AV.sl 0 (some (0, 8)) 1 (.is 8) = .sl 0 (some (0, 8)) 1 (.is 8) ∧ wordsV [a, b, c, d, e, f, g, h] = wordsV [a, b, c, d, e, f, g, h])) :=
    headOb_ok [a, b, c, d, e, f, g, h] (fun w hx => (hw w hx).1) hlen (by simp) (splitOb_ok _ (fun w hx => ⟨(hw w hx).1, by have := (hw w hx).2; omega⟩) ⟨rfl, rfl⟩)
  rw [← split8] at hob
  obtain ⟨y, h', o', h1, h2, h3⟩ := evalNP_sound E0 fuelF 100 _ _ _ _ _ hob
  rw [h1, h2, h3]
end Go.Proofs.YtfbamgphngmglaaGreatDoor
end
