/- A certified abstract evaluator of the model's code (namespace Go.Abs), one part of it: what it answers holds of every run. Each theorem states its own conditions. -/
import Derived.Test.YtfbamgphngmglaaGreatDoorEngineG
import Derived.OrdersIn
import Derived.TacticsIn
import Derived.RangeFuncLeaves
set_option linter.unusedSimpArgs false
set_option linter.unusedVariables false
section
namespace Go.Abs
variable {P : Program} {B : Base} {m : MM} {S : SS} {F : FF} {H : Heap} {w : World}
/-! ### renaming is sound -/
def RenOK (m m2 : MM) (base : Nat) (old : List Nat) : Prop := ∀ id j loc, newId base old id = some j → m id = some loc → m2 j = some loc
theorem oneCell_top {v : Value} : VR S .top m F v := by simp only [VR]
theorem renL_len (base : Nat) (old : List Nat) : ∀ (l : List AV), (renL base old l).length = l.length
  | [] => by simp only [renL]
  | a :: l => by simp only [renL, List.length_cons, renL_len base old l]
theorem renR_len (base : Nat) (old : List Nat) (r : Row) : (renR base old r).len = r.len := by
  cases r <;> simp only [renR, Row.len, renL_len]
mutual
theorem VR_ren {m m2 : MM} {base : Nat} {old : List Nat} (hr : RenOK m m2 base old) : ∀ (a : AV) {v : Value}, VR S a m F v → VR S (renV base old a) m2 F v
  | .bool b, _, h => by simpa only [renV, VR] using h
  | .int k n, _, h => by simpa only [renV, VR] using h
  | .str s, _, h => by simpa only [renV, VR] using h
  | .ptr id e p n, _, h => by
    simp only [VR] at h
    obtain ⟨loc, h1, h2⟩ := h
    simp only [renV]
    cases hn : newId base old id with
    | none => simp only [VR]
    | some j => simp only [VR]; exact ⟨loc, hr _ _ _ hn h1, h2⟩
  | .vptr r e p n, _, h => by
    simp only [VR] at h
    obtain ⟨a, off, c, h1, h2, h3, h4, h5⟩ := h
    have hl : (renR base old r).len = r.len := renR_len base old r
    simp only [renV, VR]
    exact ⟨a, off, c, h1, h2, by rw [hl]; exact h3, by rw [hl]; exact h4, by rw [hl]; exact RR_ren hr r h5⟩
  | .nilptr, _, h => by simpa only [renV, VR] using h
  | .sl id win esz cap, _, h => by
    simp only [VR] at h
    obtain ⟨loc, len, base', cap', h1, h2⟩ := h
    simp only [renV]
    cases hn : newId base old id with
    | none => simp only [VR]
    | some j => simp only [VR]; exact ⟨loc, len, base', cap', hr _ _ _ hn h1, h2⟩
  | .vs r win esz tight, _, h => by
    simp only [VR] at h
    obtain ⟨a, off, c, len, base', cap', h1, h2, h3, h4, h5, h6, h7, h8, h9⟩ := h
    have hl : (renR base old r).len = r.len := renR_len base old r
    simp only [renV, VR]
    exact ⟨a, off, c, len, base', cap', h1, h2, by rw [hl]; exact h3, h4, h5, by rw [hl]; exact h6, h7, h8, by rw [hl]; exact RR_ren hr r h9⟩
  | .nilsl, _, h => by simpa only [renV, VR] using h
  | .raw id n, _, h => by
    simp only [VR] at h
    obtain ⟨loc, cap', h1, h2⟩ := h
    simp only [renV]
    cases hn : newId base old id with
    | none => simp only [VR]
    | some j => simp only [VR]; exact ⟨loc, cap', hr _ _ _ hn h1, h2⟩
  | .map id, _, h => by
    simp only [VR] at h
    obtain ⟨loc, h1, h2⟩ := h
    simp only [renV]
    cases hn : newId base old id with
    | none => simp only [VR]
    | some j => simp only [VR]; exact ⟨loc, hr _ _ _ hn h1, h2⟩
  | .nilmap, _, h => by simpa only [renV, VR] using h
  | .fn (.yield l) first captured, _, h => by
    simp only [VR] at h
    obtain ⟨g, fs, cs, h1, ⟨loc, h2, h3⟩, h4, h5⟩ := h
    simp only [renV]
    cases hn : newId base old l with
    | none => simp only [VR]
    | some j => simp only [VR]; exact ⟨g, fs, cs, h1, ⟨loc, hr _ _ _ hn h2, h3⟩, LR_ren hr first h4, LR_ren hr captured h5⟩
  | .fn (.func f) first captured, _, h => by
    simp only [VR] at h
    obtain ⟨g, fs, cs, h1, h2, h4, h5⟩ := h
    simp only [renV, VR]
    exact ⟨g, fs, cs, h1, h2, LR_ren hr first h4, LR_ren hr captured h5⟩
  | .fn (.method f) first captured, _, h => by
    simp only [VR] at h
    obtain ⟨g, fs, cs, h1, h2, h4, h5⟩ := h
    simp only [renV, VR]
    exact ⟨g, fs, cs, h1, h2, LR_ren hr first h4, LR_ren hr captured h5⟩
  | .fn (.methodOf t f) first captured, _, h => by
    simp only [VR] at h
    obtain ⟨g, fs, cs, h1, h2, h4, h5⟩ := h
    simp only [renV, VR]
    exact ⟨g, fs, cs, h1, h2, LR_ren hr first h4, LR_ren hr captured h5⟩
  | .fn (.via t p f b) first captured, _, h => by
    simp only [VR] at h
    obtain ⟨g, fs, cs, h1, h2, h4, h5⟩ := h
    simp only [renV, VR]
    exact ⟨g, fs, cs, h1, h2, LR_ren hr first h4, LR_ren hr captured h5⟩
  | .nilfn, _, h => by simpa only [renV, VR] using h
  | .iface t x, _, h => by
    simp only [VR] at h
    obtain ⟨u, h1, h2⟩ := h
    simp only [renV, VR]
    exact ⟨u, h1, VR_ren hr x h2⟩
  | .nilif, _, h => by simpa only [renV, VR] using h
  | .agg r, _, h => by
    simp only [VR] at h
    obtain ⟨cs, h1, h2⟩ := h
    simp only [renV, VR]
    exact ⟨cs, h1, RR_ren hr r h2⟩
  | .tup l, _, h => by
    simp only [VR] at h
    obtain ⟨vs, h1, h2⟩ := h
    simp only [renV, VR]
    exact ⟨vs, h1, LR_ren hr l h2⟩
  | .far a, _, h => by simpa only [renV, VR] using h
  | .top, _, _ => by simp only [renV, VR]
theorem RR_ren {m m2 : MM} {base : Nat} {old : List Nat} (hr : RenOK m m2 base old) : ∀ (r : Row) {vs : List Value}, RR S r m F vs → RR S (renR base old r) m2 F vs
  | .vals l, _, h => by simp only [RR, renR] at h ⊢; exact ⟨LR_ren hr l h.1, h.2⟩
  | .ints k n z, _, h => by simpa only [RR, renR] using h
  | .rows k w n ls, _, h => by simpa only [RR, renR] using h
  | .pure n l, _, h => by simpa only [RR, renR] using h
theorem LR_ren {m m2 : MM} {base : Nat} {old : List Nat} (hr : RenOK m m2 base old) : ∀ (l : List AV) {vs : List Value}, LR S l m F vs → LR S (renL base old l) m2 F vs
  | [], _, h => by simpa only [LR, renL] using h
  | a :: l, _, h => by
    simp only [LR, renL] at h ⊢
    obtain ⟨v, vs', h1, h2, h3⟩ := h
    exact ⟨v, vs', h1, VR_ren hr a h2, LR_ren hr l h3⟩
end
theorem MRel_ren {m m2 : MM} {base : Nat} {old : List Nat} (hr : RenOK m m2 base old) : ∀ (l : List (AV × AV)) {es : List MapEntry}, MRel S l m F es → MRel S (l.map fun p => (renV base old p.1, renV base old p.2)) m2 F es
  | [], _, h => h
  | (k, v) :: l, _, h => by
    simp only [MRel, List.map_cons] at h ⊢
    obtain ⟨e, es', h1, h2, h3, h4⟩ := h
    exact ⟨e, es', h1, VR_ren hr k h2, VR_ren hr v h3, MRel_ren hr l h4⟩
theorem OR_ren {m m2 : MM} {base : Nat} {old : List Nat} (hr : RenOK m m2 base old) {id j : Nat} (hid : ∀ loc, m id = some loc → m2 j = some loc) {o : AO} (h : OR m S F w id o) : OR m2 S F w j (renO base old o) := by
  cases o with
  | cells r e =>
    obtain ⟨loc, c, fr, h1, h2, h3, h4, h5, h6, h7⟩ := h
    exact ⟨loc, c, fr, hid _ h1, h2, h3, h4, by rw [renR_len]; exact h5, h6, RR_ren hr r h7⟩
  | frozen r =>
    obtain ⟨loc, c, h1, h2, h3, h4, h5, h6⟩ := h
    exact ⟨loc, c, hid _ h1, h2, h3, by rw [renR_len]; exact h4, h5, RR_ren hr r h6⟩
  | map l =>
    obtain ⟨loc, es, clock, h1, h2, h3⟩ := h
    exact ⟨loc, es, clock, hid _ h1, h2, MRel_ren hr l h3⟩
  | loop st pend tm ps a b =>
    obtain ⟨loc, lp, h1, h2, h3, h4, h5, h6⟩ := h
    exact ⟨loc, lp, hid _ h1, h2, h3, h4, LR_ren hr tm h5, h6⟩
  | dead => trivial
theorem mutO_ren (base : Nat) (old : List Nat) (o : AO) : mutO (renO base old o) = mutO o := by cases o <;> rfl
theorem hget_map (f : AO → AO) (hf : f .dead = .dead) : ∀ (H : Heap) (i : Nat), hget (H.map f) i = f (hget H i)
  | [], _ => by simp [hget_nil, hget_zero, hget_succ, hf]
  | _ :: _, 0 => rfl
  | _ :: H, i + 1 => by simp only [List.map_cons, hget_nil, hget_zero, hget_succ]; exact hget_map f hf H i
theorem hget_append : ∀ (H H' : Heap) (i : Nat), hget (H ++ H') i = if i < H.length then hget H i else hget H' (i - H.length)
  | [], H', i => by simp
  | _ :: _, _, 0 => by simp [hget_nil, hget_zero, hget_succ]
  | _ :: H, H', i + 1 => by simp only [List.cons_append, hget_nil, hget_zero, hget_succ, List.length_cons, Nat.add_lt_add_iff_right, Nat.add_sub_add_right]; exact hget_append H H' i
theorem hget_takeH : ∀ (H : Heap) (n i : Nat), hget (takeH H n) i = if i < n then hget H i else .dead
  | [], n, i => by cases n <;> simp [takeH, hget_nil, hget_zero, hget_succ]
  | _ :: _, 0, i => by simp [takeH, hget_nil, hget_zero, hget_succ]
  | _ :: _, n + 1, 0 => by simp [takeH, hget_nil, hget_zero, hget_succ]
  | _ :: H, n + 1, i + 1 => by simp only [takeH, hget_nil, hget_zero, hget_succ, Nat.add_lt_add_iff_right]; exact hget_takeH H n i
theorem takeH_length : ∀ (H : Heap) (n : Nat), n ≤ H.length → (takeH H n).length = n
  | _, 0, _ => by simp [takeH]
  | [], n + 1, h => by simp at h
  | _ :: H, n + 1, h => by simp only [takeH, List.length_cons]; rw [takeH_length H n (by simpa using h)]
def renM (m : MM) (base : Nat) (old : List Nat) : MM := fun j => if j < base then m j else (old[j - base]?).bind m
theorem findIx_spec : ∀ (old : List Nat) (id n j : Nat), findIx id old n = some j → n ≤ j ∧ old[j - n]? = some id
  | [], _, _, _, h => by simp [findIx] at h
  | x :: old, id, n, j, h => by
    simp only [findIx] at h
    split at h
    · rename_i hx
      cases h
      have := Nat.eq_of_beq_eq_true hx
      subst this
      simp
    · obtain ⟨h1, h2⟩ := findIx_spec old id (n + 1) j h
      refine ⟨by omega, ?_⟩
      have : j - n = (j - (n + 1)) + 1 := by omega
      rw [this]; simpa using h2
theorem renOK_renM (m : MM) (base : Nat) (old : List Nat) : RenOK m (renM m base old) base old := by
  intro id j loc hn hm
  unfold newId at hn
  split at hn
  · rename_i hlt
    simp only [Option.some.injEq] at hn
    have hlt' : id < base := by simpa using hlt
    subst hn
    simp [renM, hlt', hm]
  · obtain ⟨h1, h2⟩ := findIx_spec old id base j hn
    simp [renM, Nat.not_lt.mpr h1, h2, hm]
theorem hget_compact (base : Nat) (h : Heap) (old : List Nat) (hb : base ≤ h.length) (i : Nat) : hget (compact base h old) i = if i < base then renO base old (hget h i) else match old[i - base]? with | some id => renO base old (hget h id) | none => .dead := by
  unfold compact
  rw [hget_append]
  simp only [List.length_map, takeH_length h base hb]
  split
  · rename_i hi
    rw [hget_map _ rfl, hget_takeH]; simp [hi]
  · have key : ∀ (l : List Nat) (k : Nat), hget (l.map fun id => renO base old (hget h id)) k = match l[k]? with | some id => renO base old (hget h id) | none => .dead := by
      intro l
      induction l with
      | nil => intro k; simp [hget_nil, hget_zero, hget_succ]
      | cons x l ih =>
        intro k
        cases k with
        | zero => simp [hget_nil, hget_zero, hget_succ]
        | succ k => simp only [List.map_cons, hget_nil, hget_zero, hget_succ, ih k, List.getElem?_cons_succ]
    exact key old _
theorem compact_sound (h : WR B m S F H w) {base : Nat} {old : List Nat} (hb : base ≤ H.length) (hnd : old.Nodup) (hge : ∀ x ∈ old, base ≤ x) : WR B (renM m base old) S F (compact base H old) w := by
  have hr := renOK_renM m base old
  -- where an object of the new heap lay
  have src : ∀ i, Mut (compact base H old) i → ∃ i', Mut H i' ∧ renM m base old i = m i' ∧ ((i < base ∧ i' = i) ∨ (base ≤ i ∧ old[i - base]? = some i')) := by
    intro i hi
    unfold Mut at hi
    rw [hget_compact base H old hb] at hi
    split at hi
    · rename_i hlt
      rw [mutO_ren] at hi
      exact ⟨i, hi, by simp [renM, hlt], .inl ⟨hlt, rfl⟩⟩
    · rename_i hlt
      cases ho : old[i - base]? with
      | none => rw [ho] at hi; cases hi
      | some id =>
        rw [ho] at hi; simp only [mutO_ren] at hi
        exact ⟨id, hi, by simp [renM, hlt, ho], .inr ⟨by omega, rfl⟩⟩
  exact {
    obj := fun i => by
      rw [hget_compact base H old hb]
      split
      · rename_i hlt
        exact OR_ren hr (fun loc hm => by simp [renM, hlt, hm]) (h.obj i)
      · rename_i hlt
        cases ho : old[i - base]? with
        | none => trivial
        | some id => exact OR_ren hr (fun loc hm => by simp [renM, hlt, ho, hm]) (h.obj id)
    inj := fun i j l l' hi hj hml hml' he => by
      obtain ⟨i', hi', e1, c1⟩ := src i hi
      obtain ⟨j', hj', e2, c2⟩ := src j hj
      rw [e1] at hml; rw [e2] at hml'
      have := h.inj i' j' l l' hi' hj' hml hml' he
      subst this
      rcases c1 with ⟨a1, a2⟩ | ⟨a1, a2⟩ <;> rcases c2 with ⟨b1, b2⟩ | ⟨b1, b2⟩
      · omega
      · have := hge _ (List.mem_of_getElem? b2); omega
      · have := hge _ (List.mem_of_getElem? a2); omega
      · have hlt : i - base < old.length := by
          rcases Nat.lt_or_ge (i - base) old.length with h' | h'
          · exact h'
          · rw [List.getElem?_eq_none h'] at a2; cases a2
        have := (List.getElem?_inj hlt hnd).mp (a2.trans b2.symm)
        omega
    stab := h.stab
    apart := fun i l hi hml => by
      obtain ⟨i', hi', e1, _⟩ := src i hi
      rw [e1] at hml
      exact h.apart i' l hi' hml
    size := h.size
    keep := h.keep
    own := fun i l hi hml => by
      obtain ⟨i', hi', e1, _⟩ := src i hi
      rw [e1] at hml
      exact h.own i' l hi' hml
    fresh := h.fresh
    os := h.os
    output := h.output
    tape := h.tape }
theorem memN_iff (n : Nat) : ∀ l : List Nat, memN n l = true ↔ n ∈ l
  | [] => by simp [memN]
  | x :: l => by simp [memN, memN_iff n l]
theorem nodupR {l : List Nat} (h : l.Nodup) : l.reverse.Nodup := by
  unfold List.Nodup at *; rw [List.pairwise_reverse]; exact h.imp fun h => Ne.symm h
theorem reach_spec (base : Nat) (h : Heap) : ∀ (k : Nat) (todo seen : List Nat), seen.Nodup → (∀ x ∈ seen, base ≤ x) → (reach base h k todo seen).Nodup ∧ ∀ x ∈ reach base h k todo seen, base ≤ x
  | 0, _, seen, h1, h2 => by simp only [reach]; exact ⟨nodupR h1, fun x hx => h2 x (List.mem_reverse.mp hx)⟩
  | _ + 1, [], seen, h1, h2 => by simp only [reach]; exact ⟨nodupR h1, fun x hx => h2 x (List.mem_reverse.mp hx)⟩
  | k + 1, id :: todo, seen, h1, h2 => by
    simp only [reach]
    split
    · exact reach_spec base h k todo seen h1 h2
    · rename_i hc
      simp only [Bool.or_eq_true, not_or, Nat.blt_eq, memN_iff] at hc
      refine reach_spec base h k _ _ (List.nodup_cons.mpr ⟨hc.2, h1⟩) (fun x hx => ?_)
      rcases List.mem_cons.mp hx with rfl | hx
      · omega
      · exact h2 x hx
theorem compact_length (base : Nat) (h : Heap) (old : List Nat) (hb : base ≤ h.length) : (compact base h old).length = base + old.length := by
  simp [compact, takeH_length h base hb]
def Cap (m : MM) (H : Heap) : Prop := ∀ i, H.length ≤ i → m i = none
theorem renM_cap (m : MM) {base : Nat} {h : Heap} {old : List Nat} (hb : base ≤ h.length) : Cap (renM m base old) (compact base h old) := by
  intro i hi
  rw [compact_length base h old hb] at hi
  simp [renM, show ¬ i < base by omega, List.getElem?_eq_none (show old.length ≤ i - base by omega)]
theorem keepL_sound (live : List Nat) : ∀ (l : List AV) (n : Nat) {vs : List Value}, LR S l m F vs → LR S (keepL live l n) m F vs
  | [], _, _, h => by simpa only [keepL, LR] using h
  | a :: l, n, _, h => by
    simp only [LR, keepL] at h ⊢
    obtain ⟨v, vs', h1, h2, h3⟩ := h
    refine ⟨v, vs', h1, ?_, keepL_sound live l (n + 1) h3⟩
    split
    · exact h2
    · simp only [VR]
theorem tidy_sound (h : WR B m S F H w) {base : Nat} (hb : base ≤ H.length) {live : List Nat} {tm : List AV} {vs : List Value} (ht : LR S tm m F vs) :
    ∃ m', WR B m' S F (tidy base live tm H).2 w ∧ LR S (tidy base live tm H).1 m' F vs ∧ Cap m' (tidy base live tm H).2 ∧ base ≤ (tidy base live tm H).2.length ∧ ∀ i, i < base → m' i = m i := by
  simp only [tidy]
  generalize hold : reach base H (hfuel H) (idsL (keepL live tm 0) ++ rootsH H base) [] = old
  have hsp := reach_spec base H (hfuel H) (idsL (keepL live tm 0) ++ rootsH H base) [] (by simp) (by simp)
  rw [hold] at hsp
  exact ⟨renM m base old, compact_sound h hb hsp.1 hsp.2, LR_ren (renOK_renM m base old) _ (keepL_sound live tm 0 ht), renM_cap m hb, by rw [compact_length base H old hb]; omega, fun i hi => by simp [renM, hi]⟩
theorem tidyV_sound (h : WR B m S F H w) {base : Nat} (hb : base ≤ H.length) {v : AV} {u : Value} (hv : VR S v m F u) :
    ∃ m', WR B m' S F (tidyV base v H).2 w ∧ VR S (tidyV base v H).1 m' F u ∧ Cap m' (tidyV base v H).2 ∧ base ≤ (tidyV base v H).2.length ∧ ∀ i, i < base → m' i = m i := by
  simp only [tidyV]
  generalize hold : reach base H (hfuel H) (idsV v ++ rootsH H base) [] = old
  have hsp := reach_spec base H (hfuel H) (idsV v ++ rootsH H base) [] (by simp) (by simp)
  rw [hold] at hsp
  exact ⟨renM m base old, compact_sound h hb hsp.1 hsp.2, VR_ren (renOK_renM m base old) v hv, renM_cap m hb, by rw [compact_length base H old hb]; omega, fun i hi => by simp [renM, hi]⟩
end Go.Abs
end

section
namespace Go.Abs
variable {P : Program} {B : Base} {m : MM} {S : SS} {F : FF} {H : Heap} {w : World}
/-! ### how long the heap is -/
theorem purify_length {H H' : Heap} {x y : AV} (h : purify H x = some (y, H')) : H'.length = H.length := by
  unfold purify at h
  repeat' split at h
  all_goals first
    | (cases h; done)
    | (simp only [Option.some.injEq, Prod.mk.injEq] at h; obtain ⟨_, rfl⟩ := h; simp [hset_length])
theorem purifyAll_length : ∀ {l l' : List AV} {H H' : Heap}, purifyAll H l = some (l', H') → H'.length = H.length
  | [], _, H, H', h => by simp only [purifyAll, Option.some.injEq, Prod.mk.injEq] at h; rw [h.2]
  | v :: l, _, H, H', h => by
    simp only [purifyAll] at h
    split at h
    · rename_i v' H1 h1
      split at h
      · rename_i l' H2 h2
        simp only [Option.some.injEq, Prod.mk.injEq] at h
        rw [← h.2, purifyAll_length h2, purify_length h1]
      · cases h
    · cases h
theorem contentOf_length {H H' : Heap} {r q : Row} {win : Option (Nat × Nat)} {e : Nat} (h : contentOf H r win e = some (q, H')) : H'.length = H.length := by
  unfold contentOf at h
  repeat' split at h
  all_goals first
    | (cases h; done)
    | (simp only [Option.some.injEq, Prod.mk.injEq] at h; rw [← h.2]; done)
    | (simp only [Option.map_eq_some_iff, Prod.mk.injEq] at h; obtain ⟨⟨a, b⟩, h1, _, rfl⟩ := h; exact purifyAll_length h1)
theorem tailOf_length {H H' : Heap} {x : AV} {q : Row} {e n : Nat} (h : tailOf H e x = some (q, n, H')) : H'.length = H.length := by
  unfold tailOf at h
  repeat' split at h
  all_goals first
    | (cases h; done)
    | (simp only [Option.some.injEq, Prod.mk.injEq] at h; rw [← h.2.2]; done)
    | (simp only [Option.map_eq_some_iff, Prod.mk.injEq] at h; obtain ⟨⟨a, b⟩, h1, _, _, rfl⟩ := h; exact contentOf_length h1)
theorem appendQ_length {H H' : Heap} {te b e y n : Nat} {s v : AV} {q : Row} (h : appendQ te e y H b s q n = some (v, H')) : H'.length = H.length := by
  unfold appendQ at h
  split at h
  · repeat' split at h
    all_goals first
      | (cases h; done)
      | (simp only [Option.some.injEq, Prod.mk.injEq] at h; rw [← h.2]; simp only [hset_length]; done)
      | (simp only [Option.some.injEq, Prod.mk.injEq] at h; rw [← h.2])
  · rename_i id win e' cap
    cases hg : hget H id with
    | cells r t =>
      rw [hg] at h; dsimp only at h
      split at h
      · split at h
        · split at h
          · simp only [Option.some.injEq, Prod.mk.injEq] at h; rw [← h.2]; simp only [hset_length]
          · cases h
        · cases hc : contentOf H r win e with
          | none => rw [hc] at h; cases h
          | some q0 =>
            obtain ⟨q0, H2⟩ := q0
            have l2 := contentOf_length hc
            rw [hc] at h; dsimp only at h
            split at h
            · cases ha : q0.app q with
              | none => rw [ha] at h; cases h
              | some q1 =>
                rw [ha] at h; dsimp only at h
                repeat' split at h
                all_goals first
                  | (cases h; done)
                  | (simp only [Option.some.injEq, Prod.mk.injEq] at h; rw [← h.2]; simp only [hset_length]; exact l2)
            · cases h
      · cases h
    | _ => rw [hg] at h; cases h
  · rename_i r win e'
    split at h
    · cases hc : contentOf H r win e with
      | none => rw [hc] at h; cases h
      | some q0 =>
        obtain ⟨q0, H2⟩ := q0
        have l2 := contentOf_length hc
        rw [hc] at h; dsimp only at h
        repeat' split at h
        all_goals first
          | (cases h; done)
          | (simp only [Option.some.injEq, Prod.mk.injEq] at h; rw [← h.2]; simp only [hset_length]; exact l2)
          | (simp only [Option.some.injEq, Prod.mk.injEq] at h; rw [← h.2]; exact l2)
    · cases h
  · cases h
theorem appendAV_length {H H' : Heap} {te b e y : Nat} {s x v : AV} (h : appendAV te e y H b s x = some (v, H')) : H'.length = H.length := by
  unfold appendAV at h
  split at h
  · repeat' split at h
    all_goals first
      | (cases h; done)
      | (simp only [Option.some.injEq, Prod.mk.injEq] at h; rw [← h.2])
  · cases ht : tailOf H e x with
    | none => rw [ht] at h; cases h
    | some q =>
      obtain ⟨q, n, H1⟩ := q
      rw [ht] at h
      exact (appendQ_length h).trans (tailOf_length ht)
theorem copyAV_length {H H' : Heap} {e : Nat} {d x v : AV} (h : copyAV e H d x = some (v, H')) : H'.length = H.length := by
  unfold copyAV at h
  split at h
  · repeat' split at h
    all_goals first
      | (cases h; done)
      | (simp only [Option.some.injEq, Prod.mk.injEq] at h; rw [← h.2])
  · cases ht : tailOf H e x with
    | none => rw [ht] at h; cases h
    | some q =>
      obtain ⟨q, n, H1⟩ := q
      have l1 := tailOf_length ht
      rw [ht] at h
      dsimp only at h
      repeat' split at h
      all_goals first
        | (cases h; done)
        | (simp only [Option.some.injEq, Prod.mk.injEq] at h; rw [← h.2]; simp only [hset_length]; exact l1)
        | (simp only [Option.some.injEq, Prod.mk.injEq] at h; rw [← h.2]; exact l1)
theorem convAV_length {E : Env} {H H' : Heap} {b : Nat} {s d : TypeId} {x v : AV} (h : convAV E s d H b x = some (v, H')) : H'.length = H.length := by
  unfold convAV at h
  repeat' split at h
  all_goals first
    | (cases h; done)
    | (simp only [Option.some.injEq, Prod.mk.injEq] at h; rw [← h.2]; simp only [hset_length]; done)
    | (simp only [Option.some.injEq, Prod.mk.injEq] at h; rw [← h.2]; done)
theorem storeAV_length {d : TD} {H H' : Heap} {x y : AV} (h : storeAV d H x y = some H') : H'.length = H.length := by
  unfold storeAV at h
  repeat' split at h
  all_goals first
    | (cases h; done)
    | (simp only [Option.map_eq_some_iff] at h; obtain ⟨r, _, rfl⟩ := h; simp [hset_length])
theorem evalOp_length {E : Env} {tm : List AV} {H H' : Heap} {b : Nat} {op : Op} {v : AV} (h : evalOp E tm H b op = some (v, H')) : H'.length = H.length := by
  cases op with
  | convert s d x => exact convAV_length h
  | store t x y =>
    simp only [evalOp, evMove, evPick, evAlloc, evBox, evBuild, evBuildSlice, evLoad, evStore, evNilCheck, evBinOp, evUnOp, evConvert, evMakeInterface, evMakeFunc, evMakeSlice, evSlice, evFieldAddr, evField, evIndexAddr, evIndex, evLookup, evMapUpdate, evTypeAssert, evExtract, evBuiltin] at h
    split at h
    · simp only [Option.map_eq_some_iff, Prod.mk.injEq] at h; obtain ⟨H1, h1, _, rfl⟩ := h; exact storeAV_length h1
    · cases h
  | call c =>
    obtain ⟨callee, args, argTypes⟩ := c
    cases callee with
    | builtin o =>
      simp only [evalOp, evMove, evPick, evAlloc, evBox, evBuild, evBuildSlice, evLoad, evStore, evNilCheck, evBinOp, evUnOp, evConvert, evMakeInterface, evMakeFunc, evMakeSlice, evSlice, evFieldAddr, evField, evIndexAddr, evIndex, evLookup, evMapUpdate, evTypeAssert, evExtract, evBuiltin] at h
      repeat' split at h
      all_goals first
        | (cases h; done)
        | (exact appendAV_length h)
        | (exact appendQ_length h)
        | (exact copyAV_length h)
        | (simp only [Option.some.injEq, Prod.mk.injEq] at h; rw [← h.2]; simp only [hset_length]; done)
        | (simp only [Option.some.injEq, Prod.mk.injEq] at h; rw [← h.2]; done)
        | (simp only [Option.map_eq_some_iff, Prod.mk.injEq] at h; obtain ⟨_, _, _, rfl⟩ := h; rfl)
    | _ => simp [evalOp, evMove, evPick, evAlloc, evBox, evBuild, evBuildSlice, evLoad, evStore, evNilCheck, evBinOp, evUnOp, evConvert, evMakeInterface, evMakeFunc, evMakeSlice, evSlice, evFieldAddr, evField, evIndexAddr, evIndex, evLookup, evMapUpdate, evTypeAssert, evExtract, evBuiltin] at h
  | makeMap t r =>
    cases r with
    | some _ => simp [evalOp, evMove, evPick, evAlloc, evBox, evBuild, evBuildSlice, evLoad, evStore, evNilCheck, evBinOp, evUnOp, evConvert, evMakeInterface, evMakeFunc, evMakeSlice, evSlice, evFieldAddr, evField, evIndexAddr, evIndex, evLookup, evMapUpdate, evTypeAssert, evExtract, evBuiltin] at h
    | none => simp only [evalOp, evMove, evPick, evAlloc, evBox, evBuild, evBuildSlice, evLoad, evStore, evNilCheck, evBinOp, evUnOp, evConvert, evMakeInterface, evMakeFunc, evMakeSlice, evSlice, evFieldAddr, evField, evIndexAddr, evIndex, evLookup, evMapUpdate, evTypeAssert, evExtract, evBuiltin, Option.some.injEq, Prod.mk.injEq] at h; rw [← h.2, hset_length]
  | _ =>
    simp only [evalOp, evMove, evPick, evAlloc, evBox, evBuild, evBuildSlice, evLoad, evStore, evNilCheck, evBinOp, evUnOp, evConvert, evMakeInterface, evMakeFunc, evMakeSlice, evSlice, evFieldAddr, evField, evIndexAddr, evIndex, evLookup, evMapUpdate, evTypeAssert, evExtract, evBuiltin] at h
    try (repeat' split at h)
    all_goals first
      | (cases h; done)
      | (simp only [Option.some.injEq, Prod.mk.injEq] at h; rw [← h.2]; simp only [hset_length]; done)
      | (simp only [Option.some.injEq, Prod.mk.injEq] at h; rw [← h.2]; done)
      | (simp only [Option.map_eq_some_iff, Prod.mk.injEq] at h; obtain ⟨_, _, _, rfl⟩ := h; first | rfl | exact hset_length _ _ _)
      | contradiction
/-! ### another base -/
def mutBlk (m : MM) (H : Heap) : Nat → Prop := fun b => ∃ i l, Mut H i ∧ m i = some l ∧ l.b = b
def rebase (m : MM) (S : SS) (H : Heap) (w : World) : Base := { w0 := w, D0 := mutBlk m H, S0 := S }
theorem WR.rebase (h : WR B m S F H w) : WR (rebase m S H w) m S F H w where
  obj := h.obj
  inj := h.inj
  stab := h.stab
  apart := h.apart
  size := Nat.le_refl _
  keep := fun _ _ _ => rfl
  own := fun i l hi hl => .inl ⟨i, l, hi, hl, rfl⟩
  fresh := fun b c hb => .inl hb
  os := rfl
  output := rfl
  tape := rfl
theorem WR.unbase {m' : MM} {S' : SS} {H' : Heap} {w' : World} (h : WR B m S F H w) (h' : WR (Go.Abs.rebase m S H w) m' S' F H' w') : WR B m' S' F H' w' where
  obj := h'.obj
  inj := h'.inj
  stab := h'.stab
  apart := h'.apart
  size := Nat.le_trans h.size h'.size
  keep := fun b hb hD => by
    have : ¬ mutBlk m H b := fun ⟨i, l, hi, hl, he⟩ => by
      rcases h.own i l hi hl with h1 | h1
      · exact hD (he ▸ h1)
      · rw [he] at h1; exact absurd hb (by omega)
    rw [h'.keep b (Nat.lt_of_lt_of_le hb h.size) this]
    exact h.keep b hb hD
  own := fun i l hi hl => by
    rcases h'.own i l hi hl with ⟨i', l', h1, h2, h3⟩ | h1
    · rw [← h3]; exact h.own i' l' h1 h2
    · exact .inr (Nat.le_trans h.size h1)
  fresh := fun b c hb => by
    rcases h'.fresh b c hb with h1 | ⟨i', l', h1, h2, h3⟩ | h1
    · exact h.fresh b c h1
    · rcases h.own i' l' h1 h2 with h4 | h4
      · exact .inr (.inl (h3 ▸ h4))
      · exact .inr (.inr (h3 ▸ h4))
    · exact .inr (.inr (Nat.le_trans h.size h1))
  os := h'.os.trans h.os
  output := h'.output.trans h.output
  tape := h'.tape.trans h.tape
/-! ### marks -/
def markD (r : Nat) : Deferred := { target := .collected r, args := #[] }
def MK (n0 : Nat) (m : MM) (H : Heap) (ds : List Deferred) (w : World) : Prop := (∀ d ∈ ds, ∃ r, d = markD r ∧ n0 ≤ r ∧ w.heap[r]? = some (.deferred (some [])) ∧ ¬ mutBlk m H r) ∧ ds.Nodup
theorem MK.step {n0 : Nat} {m' : MM} {S' : SS} {H' : Heap} {w' : World} {ds : List Deferred} (hm : MK n0 m H ds w) (h' : WR (Go.Abs.rebase m S H w) m' S' F H' w') : MK n0 m' H' ds w' := by
  refine ⟨fun d hd => ?_, hm.2⟩
  obtain ⟨r, h1, h0, h2, h3⟩ := hm.1 d hd
  have hlt : r < w.heap.size := by
    rcases Nat.lt_or_ge r w.heap.size with h' | h'
    · exact h'
    · rw [Array.getElem?_eq_none h'] at h2; cases h2
  refine ⟨r, h1, h0, by rw [h'.keep r hlt h3]; exact h2, fun ⟨i, l, hi, hl, he⟩ => ?_⟩
  rcases h'.own i l hi hl with h4 | h4
  · exact h3 (he ▸ h4)
  · rw [he] at h4; simp only [Go.Abs.rebase] at h4; omega
theorem MK.nil {n0 : Nat} {w : World} : MK n0 m H [] w := ⟨fun _ h => (by cases h), by simp⟩
def CallRes (B : Base) (F : FF) (m : MM) (S : SS) (lo : Nat) (y : AV) (H' : Heap) (e : Ending) (w' : World) : Prop :=
  ∃ u m' S', e = .returned u ∧ VR S' y m' F u ∧ WR B m' S' F H' w' ∧ S.le S' ∧ (∀ i, i < lo → m' i = m i) ∧ Cap m' H' ∧ lo ≤ H'.length
end Go.Abs
end

section
namespace Go.Abs
variable {P : Program} {B : Base} {m : MM} {S : SS} {F : FF} {H : Heap} {w : World}
/-- a function of the program that has a body -/
def Has (P : Program) (f : FuncId) : Prop := ∃ fn, P.funcs[f]? = some fn ∧ fn.body.isNone = false ∧ (fn.name == "runtime.NumGoroutine") = false
def InlOK (P : Program) (E : Env) (inl : Inl) : Prop := ∀ c args h y h', inl c args h = some (y, h') →
  ∀ B m S F w (vs : Array Value), GlobOK E.glob S → WR B m S F h w → Cap m h → LR S args m F vs.toList →
  match c with
  | .fn f => Has P f ∧ CallsIn Fence.wide 0 P f vs w (CallRes B F m S h.length y h')
  | .yield l => ∀ loc, m l = some loc → ∃ f tmps assign body w1, (Instr.yield loc.b vs).run P w = .ok (.round loc.b f tmps assign body) w1 ∧
      RoundIn Fence.wide 0 P loc.b f tmps assign body w1 (CallRes B F m S h.length y h')
def ConOK (P : Program) (E : Env) : Prop := ∀ f c, E.con f = some c → ∀ args h b y h', callCon c args h b = some (y, h') → h'.length = h.length ∧
  ∀ B m S F w (vs : Array Value), GlobOK E.glob S → WR B m S F h w → Fresh h m b c.fresh → LR S args m F vs.toList →
  Has P f ∧ CallsIn Fence.wide 0 P f vs w fun e w' => ∃ u m' S', e = .returned u ∧ VR S' y m' F u ∧ WR B m' S' F h' w' ∧ S.le S' ∧ ∀ i, (i < b ∨ b + c.fresh ≤ i) → m' i = m i
theorem run_callFunc {f : FuncId} (h : Has P f) (args : Array Value) (w : World) : (callFunc f args).run P w = .ok (.enter f args) w := by
  obtain ⟨fn, h1, h2, h3⟩ := h
  have h3' : fn.name ≠ "runtime.NumGoroutine" := by simpa using h3
  have h2' : fn.body ≠ none := fun h => by rw [h] at h2; cases h2
  simp [callFunc, h1, h2', h3']
theorem LR_toArray {l : List AV} {vs : List Value} (h : LR S l m F vs) : LR S l m F vs.toArray.toList := by simpa using h
theorem fence_ok {Fc : Fence} (hF : Fc = Fence.wide ∨ ∃ l, Fc = Fence.wide.inRound l) : (∀ f, Fc.fn f) ∧ (Fc.depth.isSome = true → False) ∧ ∀ k, Fc.room k := by
  rcases hF with rfl | ⟨l, rfl⟩
  · exact ⟨fun _ => trivial, fun h => by simp [Fence.wide] at h, room_wide⟩
  · exact ⟨fun _ => trivial, fun h => by simp [Fence.wide] at h, room_wide⟩
theorem callsIn_fence {Fc : Fence} (hF : Fc = Fence.wide ∨ ∃ l, Fc = Fence.wide.inRound l) {n k : Nat} {f : FuncId} {args : Array Value} {R : Ending → World → Prop} (h : CallsIn Fence.wide n P f args w R) : CallsIn Fc k P f args w R := by
  rcases hF with rfl | ⟨l, rfl⟩
  · exact ⟨h.1, fun cs _ => h.2 cs (room_wide _)⟩
  · exact ⟨h.1, fun cs _ => h.2 cs (room_wide _)⟩
theorem roundIn_fence {Fc : Fence} (hF : Fc = Fence.wide ∨ ∃ l, Fc = Fence.wide.inRound l) {n k l : Nat} {f : FuncId} {tmps : Array Value} {a b : Code} {R : Ending → World → Prop} (h : RoundIn Fence.wide n P l f tmps a b w R) : RoundIn Fc k P l f tmps a b w R := by
  rcases hF with rfl | ⟨l, rfl⟩
  · exact ⟨h.1, fun c cs _ => h.2 c cs (room_wide _)⟩
  · exact ⟨h.1, fun c cs _ => h.2 c cs (room_wide _)⟩
theorem noDefer {E : Env} {inl : Inl} {tm : List AV} {H : Heap} {b : Nat} {op : Op} {r : AV × Heap} (h : stepOp E inl tm H b op = some r) : ∀ c, op ≠ .defer c := by
  rintro c rfl
  simp [stepOp, evalOp] at h
theorem extAV_length {k : ExtK} {args : List AV} {H H' : Heap} {b : Nat} {y : AV} (h : extAV k args H b = some (y, H')) : H'.length = H.length := by
  unfold extAV at h
  repeat' split at h
  all_goals first
    | (cases h; done)
    | (simp only [Option.some.injEq, Prod.mk.injEq] at h; rw [← h.2]; simp only [hset_length]; done)
    | (simp only [Option.some.injEq, Prod.mk.injEq] at h; rw [← h.2]; done)
/-- one operation -/
theorem step_sound {E : Env} (hE : EnvOK P E) {inl : Inl} (hI : InlOK P E inl) (hC : ConOK P E) {Fc : Fence} (hF : Fc = Fence.wide ∨ ∃ l, Fc = Fence.wide.inRound l)
    (h : WR B m S F H w) (hG : GlobOK E.glob S) {tm : List AV} {a : Act} (ht : LR S tm m F a.tmps.toList) {b : Nat} {o : Oper} (hcap : Cap m H) (hf : Fresh H m b (freshOf E o.op)) {y : AV} {H' : Heap}
    (he : stepOp E inl tm H b o.op = some (y, H')) {n0 : Nat} (hk : MK n0 m H a.defers w) {next : Act → World → Prop} {Q : Exit → Act → World → Prop}
    (hn : ∀ u w' m' S', VR S' y m' F u → WR B m' S' F H' w' → S.le S' → (∀ i, i < H.length → (i < b ∨ b + freshOf E o.op ≤ i) → m' i = m i) → MK n0 m' H' a.defers w' → Cap m' H' → H.length ≤ H'.length → next (a.put o.dst u) w') :
    o.wpIn Fc 0 P a w next Q := by
  obtain ⟨f1, f2, f3⟩ := fence_ok hF
  refine ⟨fun f _ => f1 f, ?_⟩
  rw [Oper.semAt_eq _ _ _ (noDefer he)]
  have h0 := h.rebase
  have plain : ∀ (hop : evalOp E tm H b o.op = some (y, H')), o.uponIn Fc 0 P a next Q ((execOp a.eval o).run P w) := by
    intro hop
    obtain ⟨nx, u, w', m', S', hrun, hnx, hv, hw, hm, hs, hi⟩ := evalOp_sound hE h0 hG ht hf hop
    have hl := evalOp_length hop
    rw [hrun]
    have := hn u w' m' S' hv (WR.unbase h hw) hs (fun i _ hi' => hi i hi') (hk.step hw) (fun i hlen => by
      have hblt : b + freshOf E o.op ≤ H.length ∨ freshOf E o.op = 0 := by
        rcases Nat.eq_zero_or_pos (freshOf E o.op) with h' | h'
        · exact .inr h'
        · have := (hf (freshOf E o.op - 1) (by omega)).1
          exact .inl (by omega)
      rw [hi i (by omega)]
      exact hcap i (by omega)) (by omega)
    rcases hnx with rfl | ⟨rfl, rfl⟩
    · exact this
    · exact this
  unfold stepOp at he
  split at he
  · -- a call through a value
    rename_i fo args aty hop
    have hargs := LR_map hG ht args.toList
    have hfv := evalO_sound hG ht fo
    have hexec : execOp a.eval o = (do let d ← Deferred.ofValue (a.eval fo) (args.map a.eval); invoke d.target d.args) := by
      unfold execOp; rw [hop]; rfl
    unfold callAV at he
    split at he
    · rename_i g args' hc
      unfold callee at hc
      split at hc
      · rename_i g' first captured hfo
        simp only [Option.some.injEq, Prod.mk.injEq, Callee.fn.injEq] at hc
        obtain ⟨rfl, rfl⟩ := hc
        rw [hfo] at hfv
        simp only [VR] at hfv
        obtain ⟨gg, fs, cs, hv, hgg, hfs, hcs⟩ := hfv
        have hgg : gg = .func g' := hgg
        subst hgg
        have hall : LR S (first ++ args.toList.map (evalO E.glob tm) ++ captured) m F (fs ++ args.map a.eval ++ cs).toList := by
          simp only [Array.toList_append, Array.toList_map]
          exact LR_append (LR_append hfs hargs) hcs
        have hrun : ∀ w, Has P g' → (execOp a.eval o).run P w = .ok (.enter g' (fs ++ args.map a.eval ++ cs)) w := fun w hh => by
          rw [hexec, hv]
          simp [Deferred.ofValue, invoke, run_callFunc hh]
        have inlCase : inl (.fn g') (first ++ args.toList.map (evalO E.glob tm) ++ captured) H = some (y, H') → o.uponIn Fc 0 P a next Q ((execOp a.eval o).run P w) := by
          intro he
          obtain ⟨hhas, hcall⟩ := hI _ _ _ _ _ he _ _ _ _ _ _ hG h0 hcap hall
          rw [hrun w hhas]
          refine ⟨fun hd => (f2 hd).elim, callsIn_fence hF (hcall.mono fun e w' ⟨u, m', S', he', hv', hw', hs', hm', hcap', hlen'⟩ => ?_)⟩
          subst he'
          exact hn u w' m' S' hv' (WR.unbase h hw') hs' (fun i hi _ => hm' i hi) (hk.step hw') hcap' hlen'
        cases hext : E.ext g' with
        | some k =>
          simp only [hext] at he
          split at he
          · rename_i hfr
            have hfr := Nat.le_of_ble_eq_true hfr
            have hf0 : Fresh H m b (extFresh k) := fun j hj => hf j (by omega)
            obtain ⟨nx, u, w', m', S', hr, hnx, hv', hw', hm', hs', hi'⟩ := extAV_sound h0 (hE.ext g' k hext) hall hf0 he
            have hl := extAV_length he
            have hrun' : (execOp a.eval o).run P w = .ok nx w' := by
              rw [hexec, hv]
              simp only [Deferred.ofValue, invoke, Sem.run_bind, Sem.run_pure, Result.andThen_ok]
              exact hr
            rw [hrun']
            have := hn u w' m' S' hv' (WR.unbase h hw') hs' (fun i _ hi => hi' i (by omega)) (hk.step hw') (fun i hlen => by
              have hblt : b + extFresh k ≤ H.length ∨ extFresh k = 0 := by
                rcases Nat.eq_zero_or_pos (extFresh k) with h' | h'
                · exact .inr h'
                · have := (hf0 (extFresh k - 1) (by omega)).1
                  exact .inl (by omega)
              rw [hi' i (by omega)]
              exact hcap i (by omega)) (by omega)
            rcases hnx with rfl | ⟨rfl, rfl⟩
            · exact this
            · exact this
          · cases he
        | none =>
        simp only [hext] at he
        cases hcon : E.con g' with
        | some c =>
          simp only [hcon] at he
          split at he
          · rename_i hfr
            have hfr := Nat.le_of_ble_eq_true hfr
            obtain ⟨hlen, hcs'⟩ := hC g' c hcon _ _ _ _ _ he
            have hf0 : Fresh H m b c.fresh := fun j hj => hf j (by omega)
            obtain ⟨hhas, hcall⟩ := hcs' _ _ _ _ _ _ hG h0 hf0 hall
            rw [hrun w hhas]
            refine ⟨fun hd => (f2 hd).elim, callsIn_fence hF (hcall.mono fun e w' ⟨u, m', S', he', hv', hw', hs', hm'⟩ => ?_)⟩
            subst he'
            refine hn u w' m' S' hv' (WR.unbase h hw') hs' (fun i _ hi => hm' i (by omega)) (hk.step hw') (fun i hi => ?_) (by omega)
            rcases Nat.eq_zero_or_pos c.fresh with h' | h'
            · rw [hm' i (by omega)]; exact hcap i (by omega)
            · have := (hf0 (c.fresh - 1) (by omega)).1
              rw [hm' i (by omega)]; exact hcap i (by omega)
          · exact inlCase he
        | none =>
          simp only [hcon] at he
          exact inlCase he
      · cases hc
      · cases hc
    · rename_i l args' hc
      unfold callee at hc
      split at hc
      · cases hc
      · rename_i l' hfo
        simp only [Option.some.injEq, Prod.mk.injEq, Callee.yield.injEq] at hc
        obtain ⟨rfl, rfl⟩ := hc
        rw [hfo] at hfv
        simp only [VR, LR] at hfv
        obtain ⟨gg, fs, cs, hv, ⟨loc, hml, hgg⟩, hfs, hcs⟩ := hfv
        subst hgg
        have e1 : fs = #[] := by simpa using hfs
        have e2 : cs = #[] := by simpa using hcs
        subst e1; subst e2
        have hall : LR S (args.toList.map (evalO E.glob tm)) m F (args.map a.eval).toList := by
          rw [Array.toList_map]; exact hargs
        obtain ⟨f, tmps, assign, body, w1, hy, hround⟩ := hI _ _ _ _ _ he _ _ _ _ _ _ hG h0 hcap hall loc hml
        have hrun : (execOp a.eval o).run P w = .ok (.round loc.b f tmps assign body) w1 := by
          rw [hexec, hv]
          simp [Deferred.ofValue, invoke, hy]
        rw [hrun]
        refine ⟨fun hd => (f2 hd).elim, roundIn_fence hF (hround.mono fun e w' ⟨u, m', S', he', hv', hw', hs', hm', hcap', hlen'⟩ => ?_)⟩
        subst he'
        exact hn u w' m' S' hv' (WR.unbase h hw') hs' (fun i hi _ => hm' i hi) (hk.step hw') hcap' hlen'
      · cases hc
    · cases he
  · exact plain he
end Go.Abs
end

section
namespace Go.Abs
variable {P : Program} {B : Base} {m : MM} {S : SS} {F : FF} {H : Heap} {w : World}
def StR (B : Base) (F : FF) (base : Nat) (m0 : MM) (S0 : SS) (s : St) (a : Act) (w : World) : Prop :=
  ∃ m S, LR S s.tm m F a.tmps.toList ∧ WR B m S F s.hp w ∧ S0.le S ∧ (∀ i, i < base → m i = m0 i) ∧ Cap m s.hp ∧ base ≤ s.hp.length ∧ MK B.w0.heap.size m s.hp a.defers w
theorem dead_of_none (h : WR B m S F H w) {i : Nat} (hi : m i = none) : hget H i = .dead := by
  have ho := h.obj i
  cases hg : hget H i <;> rw [hg] at ho
  · obtain ⟨loc, c, fr, h1, _⟩ := ho; rw [hi] at h1; cases h1
  · obtain ⟨loc, c, h1, _⟩ := ho; rw [hi] at h1; cases h1
  · obtain ⟨loc, es, c, h1, _⟩ := ho; rw [hi] at h1; cases h1
  · obtain ⟨loc, es, h1, _⟩ := ho; rw [hi] at h1; cases h1
theorem LR_put {tm : List AV} {a : Act} {m : MM} {y : AV} {u : Value} (ht : LR S tm m F a.tmps.toList) (hu : VR S y m F u) (d : Option Tmp) : LR S (dstSet tm d y) m F (a.put d u).tmps.toList := by
  cases d with
  | none => exact ht
  | some d =>
    simp only [dstSet, Act.put, tset_eq, Array.toList_setIfInBounds]
    exact LR_set d ht hu
theorem LR_renew {tm : List AV} {m m' : MM} {S' : SS} {vs : List Value} (ht : LR S tm m F vs) (hS : S.le S') (hm : m.le m') : LR S' tm m' F vs := LR.mono hS tm hm (FF.le_refl _) ht
theorem put_defers (a : Act) (d : Option Tmp) (u : Value) : (a.put d u).defers = a.defers := by cases d <;> rfl
theorem guard_sound {ops : Array Oper} {tm : List AV} {a : Act} (ht : LR S tm m F a.tmps.toList) {o : Oper} {g : Bool} (hg : guardB ops tm o = some g) : Region.wanted o (yielded ops a.tmps) = g := by
  unfold guardB at hg
  unfold Region.wanted
  cases hgu : o.guard with
  | none => rw [hgu] at hg; simpa using hg
  | some q =>
    obtain ⟨j, want⟩ := q
    rw [hgu] at hg
    simp only [nthR_eq, Array.getElem?_toList] at hg ⊢
    cases hd : (ops[j]?).bind (·.dst) with
    | none => rw [hd] at hg; cases hg
    | some d =>
      rw [hd] at hg
      simp only at hg
      have hlen := LR_length ht
      -- the temporary lies in the row: else it were 'top'
      have hlt : d < tm.length := by
        rcases Nat.lt_or_ge d tm.length with h' | h'
        · exact h'
        · rw [tget_eq] at hg
          simp [List.getElem?_eq_none h'] at hg
      obtain ⟨v, hv, hr⟩ := LR_get d ht (by rw [hlen]; exact hlt)
      have hv' : a.tmps[d]? = some v := by simpa using hv
      rw [tget_eq] at hg
      unfold yielded
      rw [hd]
      simp only [Option.bind_some, hv']
      split at hg
      · rename_i b hb
        rw [hb] at hr; simp only [VR] at hr; subst hr
        simp only [Option.some.injEq] at hg
        rw [← hg]
        cases b <;> cases want <;> rfl
      · rename_i l hl
        rw [hl] at hr; simp only [VR] at hr
        obtain ⟨vs, rfl, _⟩ := hr
        simp only [Option.some.injEq] at hg
        rw [← hg]; rfl
      · cases hg
theorem runOps_sound {E : Env} (hE : EnvOK P E) {inl : Inl} (hI : InlOK P E inl) (hC : ConOK P E) {Fc : Fence} (hF : Fc = Fence.wide ∨ ∃ l, Fc = Fence.wide.inRound l) {ops : Array Oper} {base : Nat} {m0 : MM} {S0 : SS} (hG : GlobOK E.glob S0) {Q : Exit → Act → World → Prop} :
    ∀ (l : List Oper) (b : Nat) (s s' : St) (m : MM) (S : SS) (a : Act) (w : World), runOps E inl ops b l s = some s' → LR S s.tm m F a.tmps.toList → WR B m S F s.hp w → S0.le S → (∀ i, i < base → m i = m0 i) → Cap m s.hp → base ≤ b → base ≤ s.hp.length → MK B.w0.heap.size m s.hp a.defers w → Fresh s.hp m b (needs E l) →
    (∀ a' w', StR B F base m0 S0 s' a' w' → a'.defers = a.defers → Q .normal a' w') → wpListIn Fc 0 P ops Q l a w
  | [], b, s, s', m, S, a, w, hr, ht, hW, hS, hm, hc, hb, hbl, hk, hf, hQ => by
    simp only [runOps_nil, runOps_cons, Option.some.injEq] at hr
    subst hr
    exact hQ a w ⟨m, S, ht, hW, hS, hm, hc, hbl, hk⟩ rfl
  | o :: l, b, s, s', m, S, a, w, hr, ht, hW, hS, hm, hc, hb, hbl, hk, hf, hQ => by
    simp only [runOps_nil, runOps_cons] at hr
    split at hr
    · cases hr
    · rename_i g hg
      have hw := guard_sound ht hg
      unfold wpListIn
      rw [hw]
      simp only [needs] at hf
      cases g with
      | true =>
        simp only [if_true] at hr ⊢
        split at hr
        · cases hr
        · rename_i y H' hst
          refine step_sound hE hI hC hF hW (hG.mono hS) ht hc (fun j hj => hf j (by omega)) hst hk (fun u w' m' S' hv hW' hS' hm' hk' hc' hl' => ?_)
          have hle : m.le m' := fun i loc hi => by
            have hlt : i < s.hp.length := by
              rcases Nat.lt_or_ge i s.hp.length with h' | h'
              · exact h'
              · rw [hc i h'] at hi; cases hi
            have hout : i < b ∨ b + freshOf E o.op ≤ i := by
              rcases Nat.lt_or_ge i b with h' | h'
              · exact .inl h'
              · rcases Nat.lt_or_ge i (b + freshOf E o.op) with h'' | h''
                · have := (hf (i - b) (by omega)).2.2
                  rw [show b + (i - b) = i by omega] at this
                  rw [this] at hi; cases hi
                · exact .inr h''
            rw [hm' i hlt hout]; exact hi
          refine runOps_sound hE hI hC hF hG l (b + freshOf E o.op) { tm := dstSet s.tm o.dst y, hp := H' } s' m' S' (a.put o.dst u) w' hr ?_ hW' (SS.le_trans hS hS') (fun i hi => by rw [hm' i (by omega) (by omega)]; exact hm i hi) hc' (by omega) (by simp only; omega) (by rw [put_defers]; exact hk') ?_ (fun a' w'' hst' hd => hQ a' w'' hst' (by rw [hd, put_defers]))
          · exact LR_put (LR_renew ht hS' hle) hv _
          · intro j hj
            obtain ⟨q1, q2, q3⟩ := hf (freshOf E o.op + j) (by omega)
            have hmn : m' (b + freshOf E o.op + j) = none := by
              rw [hm' _ (by omega) (by omega), show b + freshOf E o.op + j = b + (freshOf E o.op + j) by omega]; exact q3
            exact ⟨by simp only; omega, dead_of_none hW' hmn, hmn⟩
      | false =>
        simp only [Bool.false_eq_true, if_false] at hr ⊢
        refine ⟨fun f _ => (fence_ok hF).1 f, ?_⟩
        have hu : VR S (.tup []) m F undef := by simp only [VR, LR]; exact ⟨#[], rfl, rfl⟩
        refine runOps_sound hE hI hC hF hG l (b + freshOf E o.op) { tm := dstSet s.tm o.dst (.tup []), hp := s.hp } s' m S (a.put o.dst undef) w hr (LR_put ht hu _) hW hS hm hc (by omega) hbl (by rw [put_defers]; exact hk) ?_ (fun a' w'' hst' hd => hQ a' w'' hst' (by rw [hd, put_defers]))
        intro j hj
        obtain ⟨q1, q2, q3⟩ := hf (freshOf E o.op + j) (by omega)
        rw [show b + freshOf E o.op + j = b + (freshOf E o.op + j) by omega]
        exact ⟨q1, q2, q3⟩
theorem pad_length : ∀ (n : Nat) (h : Heap), (pad h n).length = h.length + n
  | 0, h => rfl
  | n + 1, h => by simp only [pad]; rw [pad_length n]; simp; omega
theorem hget_pad : ∀ (n : Nat) (h : Heap) (i : Nat), hget (pad h n) i = hget h i
  | 0, h, i => rfl
  | n + 1, h, i => by
    simp only [pad]; rw [hget_pad n, hget_append]
    split
    · rfl
    · rename_i hi
      rw [hget_out h i (by omega)]
      cases i - h.length <;> rfl
theorem MK.congr {n0 : Nat} {ds : List Deferred} (h : MK n0 m H ds w) {H' : Heap} (hh : ∀ i, hget H' i = hget H i) : MK n0 m H' ds w := ⟨fun d hd => by
  obtain ⟨r, h1, h0, h2, h3⟩ := h.1 d hd
  exact ⟨r, h1, h0, h2, fun ⟨i, l, hi, hl⟩ => h3 ⟨i, l, by unfold Mut at *; rwa [hh i] at hi, hl⟩⟩, h.2⟩
/-- a region in the order of its text -/
theorem runReg_sound {E : Env} (hE : EnvOK P E) {inl : Inl} (hI : InlOK P E inl) (hC : ConOK P E) {Fc : Fence} (hF : Fc = Fence.wide ∨ ∃ l, Fc = Fence.wide.inRound l) {ops : Array Oper} {base : Nat} {m0 : MM} {S0 : SS} (hG : GlobOK E.glob S0) {Q : Exit → Act → World → Prop}
    {s s' : St} {a : Act} {w : World} {id : Nat} (hr : runReg E inl ops s = some s') (hst : StR B F base m0 S0 s a w) (hQ : ∀ a' w', StR B F base m0 S0 s' a' w' → a'.defers = a.defers → Q .normal a' w') : (Code.region id ops false).wpIn Fc 0 P Q a w := by
  obtain ⟨m, S, ht, hW, hS, hm, hc, hbl, hk⟩ := hst
  refine wpIn_region_list (runOps_sound hE hI hC hF hG ops.toList s.hp.length _ s' m S a w hr ht (hW.congr (hget_pad _ _)) hS hm (fun i hi => hc i (by simp only [pad_length] at hi; omega)) hbl (by simp only [pad_length]; omega) (hk.congr (hget_pad _ _)) (fun j hj => ⟨by simp only [pad_length]; omega, by rw [hget_pad]; exact hget_out _ _ (by omega), hc _ (by omega)⟩) hQ)
end Go.Abs
end
