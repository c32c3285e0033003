/- A certified abstract evaluator of the model's code (namespace Go.Abs), one part of it: what it answers holds of every run. Each theorem states its own conditions. -/
import Derived.Test.YtfbamgphngmglaaGreatDoorEngineA
import Derived.WalkKit
import Derived.LaidEql
set_option linter.unusedSimpArgs false
set_option linter.unusedVariables false
section
namespace Go.Abs
/-! ### what an abstract value tells -/
structure Loc where
  b : Nat
  sz : Nat
  n : Nat
abbrev MM := Nat → Option Loc
abbrev SS := Nat → Option (Array Value)
abbrev FF := AV → Value → Prop
def InB (e : Elt) (p : Pth) (n N : Nat) : Prop :=
  match e with
  | none => flatP p + n ≤ N
  | some (i, w) => flatP p + n ≤ w ∧ (i + 1) * w ≤ N
def winOk (win : Option (Nat × Nat)) (esz N len base : Nat) : Prop :=
  match win with
  | none => len * esz = N ∧ base = 0
  | some (b, l) => len = l ∧ base ≤ b ∧ (l = 0 ∨ base = b) ∧ (b + l) * esz ≤ N
def winEx (win : Option (Nat × Nat)) (esz N len base : Nat) : Prop :=
  match win with
  | none => len * esz = N ∧ base = 0
  | some (b, l) => len = l ∧ base = b ∧ (b + l) * esz ≤ N
theorem winOk_ex {win : Option (Nat × Nat)} {esz N len base : Nat} (h : winOk win esz N len base) : ∃ b, winEx win esz N len b ∧ (len = 0 ∨ b = base) ∧ base ≤ b := by
  cases win with
  | none => exact ⟨base, h, .inr rfl, Nat.le_refl _⟩
  | some x =>
    obtain ⟨b, l⟩ := x
    obtain ⟨rfl, h1, h2, h3⟩ := h
    exact ⟨b, ⟨rfl, rfl, h3⟩, h2.imp id Eq.symm, h1⟩
theorem winOk_le {win : Option (Nat × Nat)} {esz N len base : Nat} (h : winOk win esz N len base) : base * esz + len * esz ≤ N := by
  rw [← Nat.add_mul]
  cases win with
  | none => obtain ⟨h1, rfl⟩ := h; simp [h1]
  | some x =>
    obtain ⟨b, l⟩ := x
    obtain ⟨rfl, h1, h2, h3⟩ := h
    exact Nat.le_trans (Nat.mul_le_mul_right _ (by omega)) h3
def noM : MM := fun _ => none
def noF : FF := fun _ _ => False
mutual
def VR (S : SS) : AV → MM → FF → Value → Prop
  | .bool b, _, _, v => v = .bool b
  | .int k n, _, _, v => v = .int k n
  | .str s, _, _, v => v = .string s
  | .ptr id e p n, m, _, v => ∃ loc, m id = some loc ∧ InB e p n loc.n ∧ v = .pointer (some ⟨loc.b, cellOf e p, none⟩)
  | .vptr r e p n, m, F, v => ∃ a off c, v = .pointer (some ⟨a, off + cellOf e p, none⟩) ∧ S a = some c ∧ InB e p n r.len ∧ off + r.len ≤ c.size ∧ RR S r m F ((c.toList.drop off).take r.len)
  | .nilptr, _, _, v => v = .pointer none
  | .sl id win esz cap, m, _, v => ∃ loc len base cap', m id = some loc ∧ v = .slice (some ⟨loc.b, base * esz, none⟩) len cap' ∧ winOk win esz loc.n len base ∧ len ≤ cap' ∧ (base + cap') * esz ≤ loc.sz ∧ cap.holds cap' ∧ 0 < esz
  | .vs r win esz tight, m, F, v => ∃ a off c len base cap', v = .slice (some ⟨a, off + base * esz, none⟩) len cap' ∧ S a = some c ∧ winOk win esz r.len len base ∧ len ≤ cap' ∧ off + (base + cap') * esz ≤ c.size ∧ off + r.len ≤ c.size ∧ (tight = true → cap' = len) ∧ 0 < esz ∧ RR S r m F ((c.toList.drop off).take r.len)
  | .nilsl, _, _, v => v = .slice none 0 0
  | .map id, m, _, v => ∃ loc, m id = some loc ∧ v = .map (some loc.b)
  | .nilmap, _, _, v => v = .map none
  | .fn f first captured, m, F, v => ∃ g fs cs, v = .func g fs cs ∧ (match f with | .yield l => ∃ loc, m l = some loc ∧ g = .yield loc.b | f => g = f) ∧ LR S first m F fs.toList ∧ LR S captured m F cs.toList
  | .nilfn, _, _, v => v = .nilFunc
  | .iface t x, m, F, v => ∃ u, v = .iface t u ∧ VR S x m F u
  | .nilif, _, _, v => v = .nilIface
  | .agg r, m, F, v => ∃ cs, v = .agg cs ∧ RR S r m F cs.toList
  | .tup l, m, F, v => ∃ vs, v = .tuple vs ∧ LR S l m F vs.toList
  | .far a, _, F, v => F a v ∧ v.oneCell' = true
  | .raw id n, m, _, v => ∃ loc cap', m id = some loc ∧ v = .slice (some ⟨loc.b, 0, none⟩) n cap' ∧ n ≤ cap' ∧ cap' ≤ loc.sz
  | .top, _, _, _ => True
def RR (S : SS) : Row → MM → FF → List Value → Prop
  | .vals l, m, F, vs => LR S l m F vs ∧ ∀ v ∈ vs, v.oneCell' = true
  | .ints k n z, _, _, vs => z.length = n ∧ vs = z.map (Value.int k)
  | .rows k w n ls, _, _, vs => ls.length = n ∧ (∀ z ∈ ls, z.length = w) ∧ vs = (ls.map fun z => z.map (Value.int k)).flatten
  | .pure n l, _, _, vs => l.length = n ∧ LR S l noM noF vs ∧ ∀ v ∈ vs, v.oneCell' = true
def LR (S : SS) : List AV → MM → FF → List Value → Prop
  | [], _, _, vs => vs = []
  | a :: l, m, F, vs => ∃ v vs', vs = v :: vs' ∧ VR S a m F v ∧ LR S l m F vs'
end
def MM.le (m m' : MM) : Prop := ∀ id loc, m id = some loc → m' id = some loc
def SS.le (S S' : SS) : Prop := ∀ b c, S b = some c → S' b = some c
def FF.le (F F' : FF) : Prop := ∀ a v, F a v → F' a v
theorem MM.le_refl (m : MM) : m.le m := fun _ _ h => h
theorem SS.le_refl (m : SS) : m.le m := fun _ _ h => h
theorem FF.le_refl (m : FF) : m.le m := fun _ _ h => h
theorem MM.le_trans {a b c : MM} (h : a.le b) (h' : b.le c) : a.le c := fun _ _ x => h' _ _ (h _ _ x)
theorem SS.le_trans {a b c : SS} (h : a.le b) (h' : b.le c) : a.le c := fun _ _ x => h' _ _ (h _ _ x)
theorem noM_le (m : MM) : noM.le m := fun _ _ h => by cases h
theorem noF_le (F : FF) : noF.le F := fun _ _ h => h.elim
mutual
theorem VR.mono {S S' : SS} (hS : S.le S') : ∀ (a : AV) {m m' : MM} {F F' : FF} {v : Value}, m.le m' → F.le F' → VR S a m F v → VR S' a m' F' v
  | .bool b, _, _, _, _, _, _, _, h => by simpa only [VR] using h
  | .int k n, _, _, _, _, _, _, _, h => by simpa only [VR] using h
  | .str s, _, _, _, _, _, _, _, h => by simpa only [VR] using h
  | .ptr id e p n, _, _, _, _, _, hm, _, h => by
    simp only [VR] at h ⊢
    obtain ⟨loc, h1, h2, h3⟩ := h
    exact ⟨loc, hm _ _ h1, h2, h3⟩
  | .vptr r e p n, _, _, _, _, _, hm, hF, h => by
    simp only [VR] at h ⊢
    obtain ⟨a, off, c, h1, h2, h3, h4, h5⟩ := h
    exact ⟨a, off, c, h1, hS _ _ h2, h3, h4, RR.mono hS r hm hF h5⟩
  | .nilptr, _, _, _, _, _, _, _, h => by simpa only [VR] using h
  | .sl id win esz cap, _, _, _, _, _, hm, _, h => by
    simp only [VR] at h ⊢
    obtain ⟨loc, len, base, cap', h1, h2⟩ := h
    exact ⟨loc, len, base, cap', hm _ _ h1, h2⟩
  | .vs r win esz tight, _, _, _, _, _, hm, hF, h => by
    simp only [VR] at h ⊢
    obtain ⟨a, off, c, len, base, cap', h1, h2, h3, h4, h5, h6, h7, h8, h9⟩ := h
    exact ⟨a, off, c, len, base, cap', h1, hS _ _ h2, h3, h4, h5, h6, h7, h8, RR.mono hS r hm hF h9⟩
  | .nilsl, _, _, _, _, _, _, _, h => by simpa only [VR] using h
  | .map id, _, _, _, _, _, hm, _, h => by
    simp only [VR] at h ⊢
    obtain ⟨loc, h1, h2⟩ := h
    exact ⟨loc, hm _ _ h1, h2⟩
  | .nilmap, _, _, _, _, _, _, _, h => by simpa only [VR] using h
  | .fn f first captured, _, _, _, _, _, hm, hF, h => by
    simp only [VR] at h ⊢
    obtain ⟨g, fs, cs, h1, h2, h3, h4⟩ := h
    refine ⟨g, fs, cs, h1, ?_, LR.mono hS first hm hF h3, LR.mono hS captured hm hF h4⟩
    cases f with
    | yield l => obtain ⟨loc, h5, h6⟩ := h2; exact ⟨loc, hm _ _ h5, h6⟩
    | _ => exact h2
  | .nilfn, _, _, _, _, _, _, _, h => by simpa only [VR] using h
  | .iface t x, _, _, _, _, _, hm, hF, h => by
    simp only [VR] at h ⊢
    obtain ⟨u, h1, h2⟩ := h
    exact ⟨u, h1, VR.mono hS x hm hF h2⟩
  | .nilif, _, _, _, _, _, _, _, h => by simpa only [VR] using h
  | .agg r, _, _, _, _, _, hm, hF, h => by
    simp only [VR] at h ⊢
    obtain ⟨cs, h1, h2⟩ := h
    exact ⟨cs, h1, RR.mono hS r hm hF h2⟩
  | .tup l, _, _, _, _, _, hm, hF, h => by
    simp only [VR] at h ⊢
    obtain ⟨vs, h1, h2⟩ := h
    exact ⟨vs, h1, LR.mono hS l hm hF h2⟩
  | .far a, _, _, _, _, _, _, hF, h => by
    simp only [VR] at h ⊢
    exact ⟨hF _ _ h.1, h.2⟩
  | .raw id n, _, _, _, _, _, hm, _, h => by
    simp only [VR] at h ⊢
    obtain ⟨loc, cap', h1, h2⟩ := h
    exact ⟨loc, cap', hm _ _ h1, h2⟩
  | .top, _, _, _, _, _, _, _, _ => by simp only [VR]
theorem RR.mono {S S' : SS} (hS : S.le S') : ∀ (r : Row) {m m' : MM} {F F' : FF} {vs : List Value}, m.le m' → F.le F' → RR S r m F vs → RR S' r m' F' vs
  | .vals l, _, _, _, _, _, hm, hF, h => by simp only [RR] at h ⊢; exact ⟨LR.mono hS l hm hF h.1, h.2⟩
  | .ints k n z, _, _, _, _, _, _, _, h => by simpa only [RR] using h
  | .rows k w n ls, _, _, _, _, _, _, _, h => by simpa only [RR] using h
  | .pure n l, _, _, _, _, _, _, _, h => by
    simp only [RR] at h ⊢
    exact ⟨h.1, LR.mono hS l (MM.le_refl _) (FF.le_refl _) h.2.1, h.2.2⟩
theorem LR.mono {S S' : SS} (hS : S.le S') : ∀ (l : List AV) {m m' : MM} {F F' : FF} {vs : List Value}, m.le m' → F.le F' → LR S l m F vs → LR S' l m' F' vs
  | [], _, _, _, _, _, _, _, h => by simpa only [LR] using h
  | a :: l, _, _, _, _, _, hm, hF, h => by
    simp only [LR] at h ⊢
    obtain ⟨v, vs', h1, h2, h3⟩ := h
    exact ⟨v, vs', h1, VR.mono hS a hm hF h2, LR.mono hS l hm hF h3⟩
end
end Go.Abs
end

section
namespace Go.Abs
theorem mulW_eq (i w : Nat) : mulW i w = i * w := by
  unfold mulW; split <;> simp
theorem LR_length {S : SS} : ∀ {l : List AV} {m : MM} {F : FF} {vs : List Value}, LR S l m F vs → vs.length = l.length
  | [], _, _, _, h => by simp only [LR] at h; simp [h]
  | a :: l, _, _, _, h => by
    simp only [LR] at h
    obtain ⟨v, vs', rfl, _, h3⟩ := h
    simp [LR_length h3]
theorem LR_get {S : SS} : ∀ {l : List AV} {m : MM} {F : FF} {vs : List Value} (i : Nat), LR S l m F vs → i < vs.length → ∃ v, vs[i]? = some v ∧ VR S (l.getD i .top) m F v
  | [], _, _, _, i, h, hi => by simp only [LR] at h; simp [h] at hi
  | a :: l, _, _, _, i, h, hi => by
    simp only [LR] at h
    obtain ⟨v, vs', rfl, h2, h3⟩ := h
    cases i with
    | zero => exact ⟨v, by simp, by simpa using h2⟩
    | succ i =>
      obtain ⟨u, hu, hv⟩ := LR_get i h3 (by simpa using hi)
      exact ⟨u, by simpa using hu, by simpa using hv⟩
theorem LR_set {S : SS} : ∀ {l : List AV} {m : MM} {F : FF} {vs : List Value} (i : Nat) {a : AV} {v : Value}, LR S l m F vs → VR S a m F v → LR S (l.set i a) m F (vs.set i v)
  | [], _, _, _, i, _, _, h, _ => by simp only [LR] at h; subst h; simp [LR]
  | b :: l, _, _, _, i, _, _, h, ha => by
    simp only [LR] at h
    obtain ⟨u, vs', rfl, h2, h3⟩ := h
    cases i with
    | zero => simp only [List.set_cons_zero, LR]; exact ⟨_, _, rfl, ha, h3⟩
    | succ i => simp only [List.set_cons_succ, LR]; exact ⟨_, _, rfl, h2, LR_set i h3 ha⟩
theorem LR_append {S : SS} : ∀ {l l' : List AV} {m : MM} {F : FF} {vs vs' : List Value}, LR S l m F vs → LR S l' m F vs' → LR S (l ++ l') m F (vs ++ vs')
  | [], _, _, _, _, _, h, h' => by simp only [LR] at h; subst h; simpa using h'
  | b :: l, _, _, _, _, _, h, h' => by
    simp only [LR] at h
    obtain ⟨u, vs', rfl, h2, h3⟩ := h
    simp only [List.cons_append, LR]
    exact ⟨_, _, rfl, h2, LR_append h3 h'⟩
theorem LR_take {S : SS} : ∀ {l : List AV} {m : MM} {F : FF} {vs : List Value} (n : Nat), LR S l m F vs → LR S (l.take n) m F (vs.take n)
  | [], _, _, _, n, h => by simp only [LR] at h; subst h; simp [LR]
  | b :: l, _, _, _, 0, h => by simp [LR]
  | b :: l, _, _, _, n + 1, h => by
    simp only [LR] at h
    obtain ⟨u, vs', rfl, h2, h3⟩ := h
    simp only [List.take_succ_cons, LR]
    exact ⟨_, _, rfl, h2, LR_take n h3⟩
theorem LR_drop {S : SS} : ∀ {l : List AV} {m : MM} {F : FF} {vs : List Value} (n : Nat), LR S l m F vs → LR S (l.drop n) m F (vs.drop n)
  | [], _, _, _, n, h => by simp only [LR] at h; subst h; simp [LR]
  | b :: l, _, _, _, 0, h => by simpa using h
  | b :: l, _, _, _, n + 1, h => by
    simp only [LR] at h
    obtain ⟨u, vs', rfl, h2, h3⟩ := h
    simpa using LR_drop n h3
theorem flatten_length {ls : List (List Int)} {w : Nat} (k : IntKind) (h : ∀ z ∈ ls, z.length = w) : ((ls.map fun z => z.map (Value.int k)).flatten).length = ls.length * w := by
  induction ls with
  | nil => simp
  | cons z ls ih =>
    simp only [List.map_cons, List.flatten_cons, List.length_append, List.length_map, List.length_cons]
    rw [ih (fun z hz => h z (List.mem_cons_of_mem _ hz)), h z List.mem_cons_self, Nat.succ_mul]; omega
theorem RR_length {S : SS} {r : Row} {m : MM} {F : FF} {vs : List Value} (h : RR S r m F vs) : vs.length = r.len := by
  cases r with
  | vals l => simp only [RR] at h; exact LR_length h.1
  | ints k n z => simp only [RR] at h; obtain ⟨h1, rfl⟩ := h; simp [Row.len, h1]
  | rows k w n ls => simp only [RR] at h; obtain ⟨h1, h2, rfl⟩ := h; rw [flatten_length k h2, h1]; rfl
  | pure n l => simp only [RR] at h; rw [LR_length h.2.1, h.1]; rfl
theorem RR_one {S : SS} {r : Row} {m : MM} {F : FF} {vs : List Value} (h : RR S r m F vs) : ∀ v ∈ vs, v.oneCell' = true := by
  cases r with
  | vals l => simp only [RR] at h; exact h.2
  | ints k n z => simp only [RR] at h; obtain ⟨h1, rfl⟩ := h; intro v hv; simp at hv; obtain ⟨x, _, rfl⟩ := hv; rfl
  | rows k w n ls =>
    simp only [RR] at h; obtain ⟨h1, h2, rfl⟩ := h; intro v hv
    simp only [List.mem_flatten, List.mem_map] at hv
    obtain ⟨l, ⟨z, _, rfl⟩, hv⟩ := hv
    simp at hv; obtain ⟨x, _, rfl⟩ := hv; rfl
  | pure n l => simp only [RR] at h; exact h.2.2
theorem flatten_get {ls : List (List Int)} {w : Nat} (k : IntKind) (h : ∀ z ∈ ls, z.length = w) (i o : Nat) (hi : i < ls.length) (ho : o < w) :
    ((ls.map fun z => z.map (Value.int k)).flatten)[i * w + o]? = some (.int k ((ls.getD i []).getD o 0)) := by
  induction ls generalizing i with
  | nil => simp at hi
  | cons z ls ih =>
    have hz := h z List.mem_cons_self
    simp only [List.map_cons, List.flatten_cons]
    cases i with
    | zero =>
      rw [List.getElem?_append_left (by simp; omega)]
      simp [List.getElem?_eq_getElem (show o < z.length by omega)]
    | succ i =>
      rw [List.getElem?_append_right (by simp [Nat.succ_mul]; omega)]
      simp only [List.length_map, hz]
      have := ih (fun z hz => h z (List.mem_cons_of_mem _ hz)) i (by simpa using hi)
      rw [show (i + 1) * w + o - w = i * w + o by rw [Nat.succ_mul]; omega, this]
      simp
theorem cellOf_some (i w : Nat) (p : Pth) : cellOf (some (i, w)) p = i * w + flatP p := by
  unfold cellOf
  cases p with
  | nil => simp [mulW_eq, flatP]
  | cons q p => simp [mulW_eq]
theorem InB_lt {e : Elt} {p : Pth} {n N : Nat} (h : InB e p n N) : cellOf e p + n ≤ N := by
  cases e with
  | none => exact h
  | some x =>
    obtain ⟨i, w⟩ := x
    simp only [InB] at h
    rw [cellOf_some]
    have := h.2; rw [Nat.succ_mul] at this
    omega
theorem getD_int (z : List Int) (k : IntKind) (i : Nat) (h : i < z.length) : (z.map (Value.int k))[i]? = some (.int k (z.getD i 0)) := by
  simp [List.getElem?_eq_getElem h]
theorem rows_ix {ls : List (List Int)} {w i N : Nat} (hn : ls.length = N) (h : (i + 1) * w ≤ N * w) (hw : 0 < w) : i < ls.length := by
  rw [hn]; exact Nat.lt_of_succ_le (Nat.le_of_mul_le_mul_right h hw)
theorem RR_get {S : SS} {r : Row} {m : MM} {F : FF} {vs : List Value} {e : Elt} {p : Pth} {a : AV} (h : RR S r m F vs) (hb : InB e p 1 r.len) (hg : r.get e p = some a) :
    ∃ v, vs[cellOf e p]? = some v ∧ VR S a m F v ∧ v.oneCell' = true := by
  have hl := InB_lt hb
  rw [← RR_length h] at hl
  have key : ∀ v, vs[cellOf e p]? = some v → v.oneCell' = true := fun v hv => RR_one h v (List.mem_of_getElem? hv)
  cases r with
  | vals l =>
    simp only [RR] at h; simp only [Row.get, Option.some.injEq] at hg; subst hg
    obtain ⟨v, hv, h'⟩ := LR_get (cellOf e p) h.1 (by omega)
    exact ⟨v, hv, h', key v hv⟩
  | ints k n z =>
    simp only [RR] at h; obtain ⟨h1, rfl⟩ := h
    simp only [Row.get, Option.some.injEq] at hg; subst hg
    refine ⟨_, getD_int z k _ (by simp at hl; omega), by simp only [VR], rfl⟩
  | rows k w n ls =>
    simp only [RR] at h; obtain ⟨h1, h2, rfl⟩ := h
    cases e with
    | none => simp [Row.get] at hg
    | some x =>
      obtain ⟨i, u⟩ := x
      simp only [Row.get] at hg
      split at hg
      · rename_i hw
      -- element
        have hw' : u = w := Nat.eq_of_beq_eq_true hw
        subst hw'
        simp only [Option.some.injEq] at hg; subst hg
        simp only [InB, Row.len] at hb
        have hi := rows_ix h1 hb.2 (by omega)
        rw [cellOf_some]
        exact ⟨_, flatten_get k h2 i (flatP p) hi (by omega), by simp only [VR], rfl⟩
      · cases hg
  | pure n l =>
    simp only [RR] at h; simp only [Row.get, Option.some.injEq] at hg; subst hg
    obtain ⟨v, hv, h'⟩ := LR_get (cellOf e p) h.2.1 (by omega)
    exact ⟨v, hv, VR.mono (SS.le_refl _) _ (noM_le _) (noF_le _) h', key v hv⟩
theorem fromN_length (z : List Int) : ∀ (n o : Nat), (fromN z n o).length = n
  | 0, _ => rfl
  | n + 1, o => by simp [fromN, fromN_length z n]
theorem fromN_eq (z : List Int) : ∀ (n o : Nat), o + n ≤ z.length → fromN z n o = (z.drop o).take n
  | 0, _, _ => by simp [fromN]
  | n + 1, o, h => by
    have e : (z.drop o).take (n + 1) = z[o] :: (z.drop (o + 1)).take n := by
      rw [List.drop_eq_getElem_cons (i := o) (by omega), List.take_succ_cons]
    rw [fromN, fromN_eq z n (o + 1) (by omega), e]
    simp [List.getElem?_eq_getElem (show o < z.length by omega)]
theorem flatten_sub {ls : List (List Int)} {w : Nat} (k : IntKind) (h : ∀ z ∈ ls, z.length = w) (i o n : Nat) (hi : i < ls.length) (ho : o + n ≤ w) :
    (((ls.map fun z => z.map (Value.int k)).flatten).drop (i * w + o)).take n = (((ls.getD i []).drop o).take n).map (Value.int k) := by
  induction ls generalizing i with
  | nil => simp at hi
  | cons z ls ih =>
    have hz := h z List.mem_cons_self
    simp only [List.map_cons, List.flatten_cons]
    cases i with
    | zero =>
      simp only [Nat.zero_mul, Nat.zero_add, List.getD_cons_zero]
      rw [List.drop_append_of_le_length (by simp; omega), List.take_append_of_le_length (by simp; omega)]
      simp [List.map_take, List.map_drop]
    | succ i =>
      have e : (i + 1) * w + o = (z.map (Value.int k)).length + (i * w + o) := by simp [hz, Nat.succ_mul]; omega
      rw [e, List.drop_append]
      simp only [Nat.add_sub_cancel_left, List.getD_cons_succ]
      rw [List.drop_eq_nil_of_le (by omega), List.nil_append]
      exact ih (fun z hz => h z (List.mem_cons_of_mem _ hz)) i (by simpa using hi)
theorem RR_sub {S : SS} {r q : Row} {m : MM} {F : FF} {vs : List Value} {e : Elt} {p : Pth} {n : Nat} (h : RR S r m F vs) (hb : InB e p n r.len) (hg : r.sub e p n = some q) :
    RR S q m F ((vs.drop (cellOf e p)).take n) ∧ q.len = n := by
  have hl := InB_lt hb
  rw [← RR_length h] at hl
  have fin : ∀ q : Row, RR S q m F ((vs.drop (cellOf e p)).take n) → RR S q m F ((vs.drop (cellOf e p)).take n) ∧ q.len = n := fun q hq => ⟨hq, by rw [← RR_length hq]; simp; omega⟩
  cases r with
  | vals l =>
    simp only [Row.sub, Option.some.injEq] at hg; subst hg
    refine fin _ ?_
    simp only [RR] at h ⊢
    exact ⟨LR_take _ (LR_drop _ h.1), fun v hv => h.2 v (List.mem_of_mem_drop (List.mem_of_mem_take hv))⟩
  | ints k N z =>
    have hR := h
    simp only [RR] at h; obtain ⟨h1, rfl⟩ := h
    simp only [Row.sub, Option.some.injEq] at hg
    simp only [List.length_map] at hl
    refine fin _ ?_
    split at hg
    · subst hg; simp only [RR]; exact ⟨fromN_length _ _ _, by rw [fromN_eq _ _ _ hl]; simp [List.map_take, List.map_drop]⟩
    · split at hg
      · rename_i _ hn
        have hn' : n = N := Nat.eq_of_beq_eq_true hn
        subst hg
        have hc : cellOf e p = 0 := by omega
        rw [hc]; simp only [List.drop_zero]
        rw [List.take_of_length_le (by simp; omega)]
        exact hR
      · subst hg; simp only [RR]; exact ⟨by simp; omega, by simp [List.map_take, List.map_drop]⟩
  | rows k w N ls =>
    simp only [RR] at h; obtain ⟨h1, h2, rfl⟩ := h
    cases e with
    | none => simp [Row.sub] at hg
    | some x =>
      obtain ⟨i, u⟩ := x
      simp only [Row.sub] at hg
      split at hg
      · rename_i hw
        have hw' : u = w := Nat.eq_of_beq_eq_true hw
        subst hw'
        simp only [InB, Row.len] at hb
        by_cases hu : u = 0
        · subst hu
          have hn0 : n = 0 := by omega
          subst hn0
          simp only [Option.some.injEq] at hg
          subst hg
          simp only [List.take_zero]
          refine ⟨?_, by simp [Row.len]⟩
          simp only [Nat.beq, if_true, RR]
          have : ls.getD i [] = [] := by
            by_cases hi : i < ls.length
            · have hz := h2 (ls[i]) (List.getElem_mem _)
              simp [List.getElem?_eq_getElem hi]
              exact List.length_eq_zero_iff.mp hz
            · simp [List.getElem?_eq_none (show ls.length ≤ i by omega)]
          rw [this]; simp
        · have hi := rows_ix h1 hb.2 (by omega)
          have hz : (ls.getD i []).length = u := by simp [List.getElem?_eq_getElem hi]; exact h2 _ (List.getElem_mem _)
          have hs := flatten_sub k h2 i (flatP p) n hi hb.1
          rw [← cellOf_some] at hs
          refine fin _ ?_
          rw [hs]
          simp only [Option.some.injEq] at hg
          split at hg
          · rename_i hn
            have hn' : n = u := Nat.eq_of_beq_eq_true hn
            subst hg; simp only [RR]
            have h0 : flatP p = 0 := by omega
            refine ⟨hz, ?_⟩
            rw [h0, List.drop_zero, List.take_of_length_le (by omega)]
          · subst hg; simp only [RR]
            exact ⟨fromN_length _ _ _, by rw [fromN_eq _ _ _ (by omega)]⟩
      · cases hg
  | pure N l => simp [Row.sub] at hg

/-- 'us' in the place of as many from c on -/
def splice {α : Type} (vs : List α) (c : Nat) (us : List α) : List α := vs.take c ++ us ++ vs.drop (c + us.length)
theorem splice_length {α : Type} (vs : List α) (c : Nat) (us : List α) (h : c + us.length ≤ vs.length) : (splice vs c us).length = vs.length := by
  simp [splice]; omega
theorem splice_nil {α : Type} (vs : List α) (c : Nat) : splice vs c [] = vs := by simp [splice]
theorem splice_cons {α : Type} (vs : List α) (c : Nat) (u : α) (us : List α) (h : c < vs.length) : splice (vs.set c u) (c + 1) us = splice vs c (u :: us) := by
  simp only [splice, List.length_cons]
  rw [List.take_add_one, List.getElem?_set_self h, List.take_set_of_le (Nat.le_refl c)]
  rw [List.drop_set_of_lt (by omega)]
  simp only [Option.toList, List.append_assoc, List.singleton_append]
  rw [show c + 1 + us.length = c + (us.length + 1) by omega]
theorem splice_one {α : Type} (vs : List α) (c : Nat) (u : α) (h : c < vs.length) : splice vs c [u] = vs.set c u := by
  rw [← splice_cons vs c u [] h, splice_nil]
theorem splice_map {α β : Type} (f : α → β) (vs : List α) (c : Nat) (us : List α) : (splice vs c us).map f = splice (vs.map f) c (us.map f) := by
  simp [splice, List.map_take, List.map_drop]
theorem setN_eq : ∀ (us z : List Int) (o : Nat), o + us.length ≤ z.length → setN z us o = splice z o us
  | [], z, o, _ => by simp [setN, splice_nil]
  | x :: us, z, o, h => by
    simp only [List.length_cons] at h
    rw [setN, setN_eq us (z.set o x) (o + 1) (by simp; omega), splice_cons z o x us (by omega)]
theorem setV_eq : ∀ (us z : List AV) (o : Nat), o + us.length ≤ z.length → setV z us o = splice z o us
  | [], z, o, _ => by simp [setV, splice_nil]
  | x :: us, z, o, h => by
    simp only [List.length_cons] at h
    rw [setV, setV_eq us (z.set o x) (o + 1) (by simp; omega), splice_cons z o x us (by omega)]
theorem LR_splice {S : SS} {l l' : List AV} {m : MM} {F : FF} {vs us : List Value} (c : Nat) (h : LR S l m F vs) (h' : LR S l' m F us) : LR S (splice l c l') m F (splice vs c us) := by
  unfold splice
  rw [LR_length h']
  exact LR_append (LR_append (LR_take _ h) h') (LR_drop _ h)
theorem mem_splice {α : Type} {vs us : List α} {c : Nat} {v : α} (h : v ∈ splice vs c us) : v ∈ vs ∨ v ∈ us := by
  simp only [splice, List.mem_append] at h
  rcases h with (h | h) | h
  · exact .inl (List.mem_of_mem_take h)
  · exact .inr h
  · exact .inl (List.mem_of_mem_drop h)
theorem fromN_full (z : List Int) (n : Nat) (h : z.length = n) : fromN z n 0 = z := by
  rw [fromN_eq z n 0 (by omega), List.drop_zero, List.take_of_length_le (by omega)]
theorem LR_ints {S : SS} (k : IntKind) (m : MM) (F : FF) : ∀ z : List Int, LR S (z.map (AV.int k)) m F (z.map (Value.int k))
  | [] => by simp [LR]
  | x :: z => by simp only [List.map_cons, LR]; exact ⟨_, _, rfl, by simp only [VR], LR_ints k m F z⟩
theorem RR_cells {S : SS} {r : Row} {m : MM} {F : FF} {vs : List Value} (h : RR S r m F vs) : LR S r.cells m F vs := by
  cases r with
  | vals l => simp only [RR] at h; exact h.1
  | ints k n z =>
    simp only [RR] at h; obtain ⟨h1, rfl⟩ := h
    simp only [Row.cells, fromN_full z n h1]; exact LR_ints k m F z
  | rows k w n ls =>
    simp only [RR] at h; obtain ⟨h1, h2, rfl⟩ := h
    simp only [Row.cells]
    clear h1
    induction ls with
    | nil => simp [LR]
    | cons z ls ih =>
      simp only [List.map_cons, List.flatten_cons]
      rw [fromN_full z w (h2 z List.mem_cons_self)]
      exact LR_append (LR_ints k m F z) (ih (fun z hz => h2 z (List.mem_cons_of_mem _ hz)))
  | pure n l => simp only [RR] at h; exact LR.mono (SS.le_refl _) _ (noM_le _) (noF_le _) h.2.1
theorem kEq_eq {a b : IntKind} (h : kEq a b = true) : a = b := by
  cases a <;> cases b <;> first | rfl | (simp [kEq] at h)
theorem flatten_splice {ls : List (List Int)} {w : Nat} (k : IntKind) (h : ∀ z ∈ ls, z.length = w) (i o : Nat) (us : List Int) (hi : i < ls.length) (ho : o + us.length ≤ w) :
    (((ls.set i (splice (ls.getD i []) o us)).map fun z => z.map (Value.int k)).flatten) = splice ((ls.map fun z => z.map (Value.int k)).flatten) (i * w + o) (us.map (Value.int k)) := by
  induction ls generalizing i with
  | nil => simp at hi
  | cons z ls ih =>
    have hz := h z List.mem_cons_self
    cases i with
    | zero =>
      simp only [List.set_cons_zero, List.getD_cons_zero, List.map_cons, List.flatten_cons, Nat.zero_mul, Nat.zero_add]
      rw [splice_map]
      simp only [splice, List.length_map]
      rw [List.take_append_of_le_length (by simp; omega), List.drop_append_of_le_length (by simp; omega)]
      simp [List.append_assoc]
    | succ i =>
      simp only [List.set_cons_succ, List.getD_cons_succ, List.map_cons, List.flatten_cons]
      rw [ih (fun z hz => h z (List.mem_cons_of_mem _ hz)) i (by simpa using hi)]
      have e : (i + 1) * w + o = (z.map (Value.int k)).length + (i * w + o) := by simp [hz, Nat.succ_mul]; omega
      simp only [splice]
      rw [e, List.take_length_add_append, Nat.add_assoc (List.map (Value.int k) z).length, List.drop_length_add_append]
      simp [List.append_assoc]
theorem RR_set {S : SS} {r r' : Row} {m : MM} {F : FF} {vs : List Value} {e : Elt} {p : Pth} {a : AV} {v : Value} (h : RR S r m F vs) (hb : InB e p 1 r.len) (ha : VR S a m F v) (h1 : v.oneCell' = true)
    (hg : r.set e p a = some r') : RR S r' m F (vs.set (cellOf e p) v) ∧ r'.len = r.len := by
  have hl := InB_lt hb
  rw [← RR_length h] at hl
  have fin : ∀ q : Row, RR S q m F (vs.set (cellOf e p) v) → RR S q m F (vs.set (cellOf e p) v) ∧ q.len = r.len := fun q hq => ⟨hq, by rw [← RR_length hq, ← RR_length h]; simp⟩
  cases r with
  | vals l =>
    simp only [Row.set, Option.some.injEq] at hg; subst hg
    refine fin _ ?_
    simp only [RR] at h ⊢
    refine ⟨LR_set _ h.1 ha, fun u hu => ?_⟩
    rcases List.mem_or_eq_of_mem_set hu with hu | rfl
    · exact h.2 u hu
    · exact h1
  | ints k n z =>
    cases a with
    | int k' x =>
      simp only [Row.set] at hg
      split at hg
      · rename_i hk
        have := kEq_eq hk; subst this
        simp only [Option.some.injEq] at hg; subst hg
        refine fin _ ?_
        simp only [RR] at h ⊢; obtain ⟨h2, rfl⟩ := h
        simp only [VR] at ha; subst ha
        exact ⟨by simp [h2], by simp [List.map_set]⟩
      · cases hg
    | _ => simp [Row.set] at hg
  | rows k w n ls =>
    cases e with
    | none => cases a <;> simp [Row.set] at hg
    | some y =>
      obtain ⟨i, u⟩ := y
      cases a with
      | int k' x =>
        simp only [Row.set] at hg
        split at hg
        · rename_i hk
          simp only [Bool.and_eq_true] at hk
          have hk2 := kEq_eq hk.2; subst hk2
          have hw : u = w := Nat.eq_of_beq_eq_true hk.1
          subst hw
          simp only [Option.some.injEq] at hg; subst hg
          refine fin _ ?_
          simp only [RR] at h ⊢; obtain ⟨h2, h3, rfl⟩ := h
          simp only [VR] at ha; subst ha
          simp only [InB, Row.len] at hb
          have hi := rows_ix h2 hb.2 (by omega)
          have hz : (ls.getD i []).length = u := by simp [List.getElem?_eq_getElem hi]; exact h3 _ (List.getElem_mem _)
          refine ⟨by simp [h2], fun z hz' => ?_, ?_⟩
          · rcases List.mem_or_eq_of_mem_set hz' with hz' | rfl
            · exact h3 z hz'
            · rw [List.length_set]; exact hz
          · rw [← splice_one (ls.getD i []) (flatP p) x (by omega), flatten_splice k' h3 i (flatP p) [x] hi (by simpa using hb.1), cellOf_some]
            rw [List.map_singleton, splice_one _ _ _ (by rw [← cellOf_some]; omega)]
        · cases hg
      | _ => simp [Row.set] at hg
  | pure n l => cases a <;> simp [Row.set] at hg
theorem RR_setSub {S : SS} {r r' q : Row} {m : MM} {F : FF} {vs us : List Value} {e : Elt} {p : Pth} {n : Nat} (h : RR S r m F vs) (hb : InB e p n r.len) (hq : RR S q m F us) (hn : q.len = n)
    (hg : r.setSub e p n q = some r') : RR S r' m F (splice vs (cellOf e p) us) ∧ r'.len = r.len := by
  have hl := InB_lt hb
  rw [← RR_length h] at hl
  have hu : us.length = n := by rw [RR_length hq, hn]
  have fin : ∀ x : Row, RR S x m F (splice vs (cellOf e p) us) → RR S x m F (splice vs (cellOf e p) us) ∧ x.len = r.len := fun x hx => ⟨hx, by rw [← RR_length hx, ← RR_length h]; exact splice_length _ _ _ (by omega)⟩
  cases r with
  | vals l =>
    simp only [Row.setSub, Option.some.injEq] at hg; subst hg
    refine fin _ ?_
    have hq1 := RR_one hq
    have hqc := RR_cells hq
    simp only [RR] at h ⊢
    have hll := LR_length h.1
    have hcl := LR_length hqc
    rw [setV_eq _ _ _ (by omega)]
    refine ⟨LR_splice _ h.1 hqc, fun v hv => ?_⟩
    rcases mem_splice hv with hv | hv
    · exact h.2 v hv
    · exact hq1 v hv
  | ints k N z =>
    cases q with
    | ints k' n' z' =>
      simp only [Row.setSub] at hg
      split at hg
      · rename_i hk
        simp only [Bool.and_eq_true] at hk
        have hk1 := kEq_eq hk.1; subst hk1
        have hn' : n' = n := Nat.eq_of_beq_eq_true hk.2
        subst hn'
        simp only [RR] at h hq; obtain ⟨h2, rfl⟩ := h; obtain ⟨h3, rfl⟩ := hq
        simp only [List.length_map] at hl
        split at hg
        · rename_i hN
          have hN' : n' = N := Nat.eq_of_beq_eq_true hN
          subst hN'
          simp only [Option.some.injEq] at hg; subst hg
          refine fin _ ?_
          have hc : cellOf e p = 0 := by omega
          simp only [RR]; refine ⟨h3, ?_⟩
          rw [hc, splice, List.take_zero, List.nil_append, List.drop_eq_nil_of_le (by simp; omega), List.append_nil]
        · simp only [Option.some.injEq] at hg; subst hg
          refine fin _ ?_
          rw [fromN_full z' n' h3, setN_eq _ _ _ (by omega)]
          simp only [RR]
          exact ⟨by rw [splice_length _ _ _ (by omega)]; exact h2, by rw [splice_map]⟩
      · cases hg
    | _ => simp [Row.setSub] at hg
  | rows k w N ls =>
    cases e with
    | none => simp [Row.setSub] at hg
    | some y =>
      obtain ⟨i, u⟩ := y
      cases p with
      | cons _ _ => simp [Row.setSub] at hg
      | nil =>
        cases q with
        | ints k' n' z' =>
          simp only [Row.setSub] at hg
          split at hg
          · rename_i hk
            simp only [Bool.and_eq_true] at hk
            have hk2 := kEq_eq hk.2; subst hk2
            have hw : u = w := Nat.eq_of_beq_eq_true hk.1.1.1
            have hnw : n = w := Nat.eq_of_beq_eq_true hk.1.1.2
            have hn'w : n' = w := Nat.eq_of_beq_eq_true hk.1.2
            subst hw; subst hn'w
            simp only [Option.some.injEq] at hg; subst hg
            refine fin _ ?_
            simp only [RR] at h hq ⊢; obtain ⟨h2, h3, rfl⟩ := h; obtain ⟨h4, rfl⟩ := hq
            simp only [InB, Row.len, flatP] at hb
            by_cases hu0 : n' = 0
            · subst hu0
              have hz0 : z' = [] := List.length_eq_zero_iff.mp h4
              subst hz0
              refine ⟨by simp [h2], fun z hz' => ?_, ?_⟩
              · rcases List.mem_or_eq_of_mem_set hz' with hz' | rfl
                · exact h3 z hz'
                · rfl
              · simp only [List.map_nil, splice_nil]
                have e1 : ∀ l : List (List Int), (∀ z ∈ l, z.length = 0) → (l.map fun z => z.map (Value.int k')).flatten = [] := by
                  intro l hl'
                  induction l with
                  | nil => rfl
                  | cons a l ih =>
                    have := List.length_eq_zero_iff.mp (hl' a List.mem_cons_self)
                    subst this
                    simpa using ih (fun z hz => hl' z (List.mem_cons_of_mem _ hz))
                rw [e1 _ h3, e1]
                intro z hz'
                rcases List.mem_or_eq_of_mem_set hz' with hz' | rfl
                · exact h3 z hz'
                · rfl
            · have hi := rows_ix h2 hb.2 (by omega)
              have hz : (ls.getD i []).length = n' := by simp [List.getElem?_eq_getElem hi]; exact h3 _ (List.getElem_mem _)
              refine ⟨by simp [h2], fun z hz' => ?_, ?_⟩
              · rcases List.mem_or_eq_of_mem_set hz' with hz' | rfl
                · exact h3 z hz'
                · exact h4
              · have := flatten_splice k' h3 i 0 z' hi (by omega)
                have e2 : splice (ls.getD i []) 0 z' = z' := by
                  rw [splice, List.take_zero, List.nil_append, List.drop_eq_nil_of_le (by omega), List.append_nil]
                rw [e2] at this
                rw [this, cellOf_some]; rfl
          · cases hg
        | _ => simp [Row.setSub] at hg
  | pure N l => simp [Row.setSub] at hg
end Go.Abs
end

section
namespace Go.Abs
structure Base where
  w0 : World
  D0 : Nat → Prop
  S0 : SS
def Thaw (fr : Nat × Nat) (n : Nat) : Prop := fr.1 = fr.2 ∨ n ≤ fr.1
theorem Thaw.free {fr : Nat × Nat} {n : Nat} (h : Thaw fr n) : ∀ o, o < n → (fr.1 ≤ o && o < fr.2) = false := fun o ho => by
  rw [Bool.and_eq_false_iff]
  simp only [decide_eq_false_iff_not]
  rcases h with h | h <;> omega
def MRel (S : SS) : List (AV × AV) → MM → FF → List MapEntry → Prop
  | [], _, _, es => es = []
  | (k, v) :: l, m, F, es => ∃ e es', es = e :: es' ∧ VR S k m F e.key ∧ VR S v m F e.val ∧ MRel S l m F es'
def OR (m : MM) (S : SS) (F : FF) (w : World) (id : Nat) : AO → Prop
  | .cells r e => ∃ loc c fr, m id = some loc ∧ w.heap[loc.b]? = some (.cells c e fr) ∧ Thaw fr c.size ∧ c.size = loc.sz ∧ r.len = loc.n ∧ loc.n ≤ loc.sz ∧ RR S r m F (c.toList.take loc.n)
  | .frozen r => ∃ loc c, m id = some loc ∧ S loc.b = some c ∧ c.size = loc.sz ∧ r.len = loc.n ∧ loc.n ≤ loc.sz ∧ RR S r m F (c.toList.take loc.n)
  | .map l => ∃ loc es clock, m id = some loc ∧ w.heap[loc.b]? = some (.map es clock) ∧ MRel S l m F es.toList
  | .loop st pend tm ps a b => ∃ loc lp, m id = some loc ∧ w.heap[loc.b]? = some (.loop lp) ∧ lp.state = st ∧ lp.pending = pend ∧ LR S tm m F lp.tmps.toList ∧ lp.params.toList = ps ∧ lp.assign = a ∧ lp.body = b
  | .dead => True
def mutO : AO → Bool
  | .cells _ _ | .map _ | .loop .. => true
  | _ => false
def Mut (H : Heap) (i : Nat) : Prop := mutO (hget H i) = true
structure WR (B : Base) (m : MM) (S : SS) (F : FF) (H : Heap) (w : World) : Prop where
  obj : ∀ id, OR m S F w id (hget H id)
  inj : ∀ i j l l', Mut H i → Mut H j → m i = some l → m j = some l' → l.b = l'.b → i = j
  stab : ∀ b c, S b = some c → ∃ e fr, w.heap[b]? = some (.cells c e fr)
  apart : ∀ i l, Mut H i → m i = some l → S l.b = none
  size : B.w0.heap.size ≤ w.heap.size
  keep : ∀ b, b < B.w0.heap.size → ¬ B.D0 b → w.heap[b]? = B.w0.heap[b]?
  own : ∀ i l, Mut H i → m i = some l → B.D0 l.b ∨ B.w0.heap.size ≤ l.b
  fresh : ∀ b c, S b = some c → B.S0 b = some c ∨ B.D0 b ∨ B.w0.heap.size ≤ b
  os : w.os = B.w0.os
  output : w.output = B.w0.output
  tape : w.tape = B.w0.tape
theorem hget_hset_self : ∀ (H : Heap) (b : Nat) (o : AO), b < H.length → hget (hset H b o) b = o
  | [], b, o, h => by simp at h
  | _ :: _, 0, _, _ => rfl
  | _ :: H, b + 1, o, h => by simp only [hset_nil, hset_zero, hset_succ, hget_nil, hget_zero, hget_succ]; exact hget_hset_self H b o (by simpa using h)
theorem hget_hset_ne : ∀ (H : Heap) (b i : Nat) (o : AO), i ≠ b → hget (hset H b o) i = hget H i
  | [], b, i, o, _ => by simp [hset_nil, hset_zero, hset_succ]
  | _ :: _, 0, 0, _, h => absurd rfl h
  | _ :: _, 0, i + 1, _, _ => rfl
  | _ :: _, b + 1, 0, _, _ => rfl
  | _ :: H, b + 1, i + 1, o, h => by simp only [hset_nil, hset_zero, hset_succ, hget_nil, hget_zero, hget_succ]; exact hget_hset_ne H b i o (by omega)
theorem hset_length : ∀ (H : Heap) (b : Nat) (o : AO), (hset H b o).length = H.length
  | [], _, _ => rfl
  | _ :: _, 0, _ => rfl
  | _ :: H, b + 1, o => by simp [hset_nil, hset_zero, hset_succ, hset_length H b o]
theorem hget_out : ∀ (H : Heap) (i : Nat), H.length ≤ i → hget H i = .dead
  | [], _, _ => rfl
  | _ :: _, 0, h => by simp at h
  | _ :: H, i + 1, h => by simp only [hget_nil, hget_zero, hget_succ]; exact hget_out H i (by simpa using h)
theorem hget_lt {H : Heap} {i : Nat} (h : hget H i ≠ .dead) : i < H.length := by
  rcases Nat.lt_or_ge i H.length with h' | h'
  · exact h'
  · exact absurd (hget_out H i h') h
theorem MRel.mono {S S' : SS} (hS : S.le S') : ∀ (l : List (AV × AV)) {m m' : MM} {F F' : FF} {es : List MapEntry}, m.le m' → F.le F' → MRel S l m F es → MRel S' l m' F' es
  | [], _, _, _, _, _, _, _, h => h
  | (k, v) :: l, _, _, _, _, _, hm, hF, h => by
    obtain ⟨e, es', h1, h2, h3, h4⟩ := h
    exact ⟨e, es', h1, VR.mono hS k hm hF h2, VR.mono hS v hm hF h3, MRel.mono hS l hm hF h4⟩
/-- an object in a world in which its own block lies as it lay -/
theorem OR.mono {m m' : MM} {S S' : SS} {F : FF} {w w' : World} {id : Nat} {o : AO} (hm : m.le m') (hS : S.le S') (h : OR m S F w id o)
    (hw : ∀ l, mutO o = true → m id = some l → w'.heap[l.b]? = w.heap[l.b]?) : OR m' S' F w' id o := by
  cases o with
  | cells r e =>
    obtain ⟨loc, c, fr, h1, h2, h3, h4, h5, h6, h7⟩ := h
    exact ⟨loc, c, fr, hm _ _ h1, by rw [hw loc rfl h1]; exact h2, h3, h4, h5, h6, RR.mono hS r hm (FF.le_refl _) h7⟩
  | frozen r =>
    obtain ⟨loc, c, h1, h2, h3, h4, h5, h6⟩ := h
    exact ⟨loc, c, hm _ _ h1, hS _ _ h2, h3, h4, h5, RR.mono hS r hm (FF.le_refl _) h6⟩
  | map l =>
    obtain ⟨loc, es, clock, h1, h2, h3⟩ := h
    exact ⟨loc, es, clock, hm _ _ h1, by rw [hw loc rfl h1]; exact h2, MRel.mono hS l hm (FF.le_refl _) h3⟩
  | loop st pend tm ps a b =>
    obtain ⟨loc, lp, h1, h2, h3, h4, h5, h6⟩ := h
    exact ⟨loc, lp, hm _ _ h1, by rw [hw loc rfl h1]; exact h2, h3, h4, LR.mono hS tm hm (FF.le_refl _) h5, h6⟩
  | dead => trivial
theorem OR.block {m : MM} {S : SS} {F : FF} {w : World} {id : Nat} {o : AO} (hmut : mutO o = true) (h : OR m S F w id o) : ∃ l, m id = some l ∧ l.b < w.heap.size := by
  have lt : ∀ (b : Nat) (x : Obj), w.heap[b]? = some x → b < w.heap.size := fun b x hx => by
    rcases Nat.lt_or_ge b w.heap.size with h' | h'
    · exact h'
    · rw [Array.getElem?_eq_none h'] at hx; cases hx
  cases o with
  | cells r e => obtain ⟨loc, c, fr, h1, h2, _⟩ := h; exact ⟨loc, h1, lt _ _ h2⟩
  | map l => obtain ⟨loc, es, clock, h1, h2, _⟩ := h; exact ⟨loc, h1, lt _ _ h2⟩
  | loop st pend tm ps a b => obtain ⟨loc, lp, h1, h2, _⟩ := h; exact ⟨loc, h1, lt _ _ h2⟩
  | frozen r => cases hmut
  | dead => cases hmut
variable {B : Base} {m : MM} {S : SS} {F : FF} {H : Heap} {w : World}
theorem WR.block (h : WR B m S F H w) {i : Nat} (hi : Mut H i) : ∃ l, m i = some l ∧ l.b < w.heap.size := OR.block hi (h.obj i)
theorem WR.stab_lt (h : WR B m S F H w) {b : Nat} {c : Array Value} (hb : S b = some c) : b < w.heap.size := by
  obtain ⟨e, fr, hx⟩ := h.stab b c hb
  rcases Nat.lt_or_ge b w.heap.size with h' | h'
  · exact h'
  · rw [Array.getElem?_eq_none h'] at hx; cases hx
/-- another world with the same memory -/
theorem WR.same (h : WR B m S F H w) {w' : World} (hh : w'.heap = w.heap) (ho : w'.os = w.os) (hu : w'.output = w.output) (ht : w'.tape = w.tape) : WR B m S F H w' where
  obj id := OR.mono (MM.le_refl _) (SS.le_refl _) (h.obj id) (fun _ _ _ => by rw [hh])
  inj := h.inj
  stab b c hb := by rw [hh]; exact h.stab b c hb
  apart := h.apart
  size := by rw [hh]; exact h.size
  keep b h1 h2 := by rw [hh]; exact h.keep b h1 h2
  own := h.own
  fresh := h.fresh
  os := ho.trans h.os
  output := hu.trans h.output
  tape := ht.trans h.tape
/-- a block is given up -/
theorem WR.kill (h : WR B m S F H w) (id : Nat) : WR B m S F (hset H id .dead) w := by
  have hg : ∀ i, hget (hset H id .dead) i = hget H i ∨ hget (hset H id .dead) i = .dead := fun i => by
    by_cases hi : i = id
    · subst hi
      rcases Nat.lt_or_ge i H.length with hl | hl
      · exact .inr (hget_hset_self H i _ hl)
      · exact .inr (hget_out _ _ (by rw [hset_length]; exact hl))
    · exact .inl (hget_hset_ne H id i _ hi)
  have hm : ∀ i, Mut (hset H id .dead) i → Mut H i := fun i hi => by
    unfold Mut at *
    rcases hg i with h' | h' <;> rw [h'] at hi
    · exact hi
    · cases hi
  exact {
    obj := fun i => by
      rcases hg i with h' | h' <;> rw [h']
      · exact h.obj i
      · trivial
    inj := fun i j l l' hi hj => h.inj i j l l' (hm i hi) (hm j hj)
    stab := h.stab
    apart := fun i l hi => h.apart i l (hm i hi)
    size := h.size
    keep := h.keep
    own := fun i l hi => h.own i l (hm i hi)
    fresh := h.fresh
    os := h.os
    output := h.output
    tape := h.tape }
theorem WR.congr (h : WR B m S F H w) {H' : Heap} (hh : ∀ i, hget H' i = hget H i) : WR B m S F H' w := by
  have hm : ∀ i, Mut H' i → Mut H i := fun i hi => by unfold Mut at *; rwa [hh i] at hi
  exact { obj := fun i => by rw [hh i]; exact h.obj i, inj := fun i j l l' hi hj => h.inj i j l l' (hm i hi) (hm j hj), stab := h.stab, apart := fun i l hi => h.apart i l (hm i hi), size := h.size, keep := h.keep, own := fun i l hi => h.own i l (hm i hi), fresh := h.fresh, os := h.os, output := h.output, tape := h.tape }
def mput (m : MM) (b : Nat) (l : Loc) : MM := fun i => if i = b then some l else m i
theorem mput_self (m : MM) (b : Nat) (l : Loc) : mput m b l b = some l := by simp [mput]
theorem mput_ne (m : MM) (b : Nat) (l : Loc) {i : Nat} (h : i ≠ b) : mput m b l i = m i := by simp [mput, h]
theorem mput_le (m : MM) (b : Nat) (l : Loc) (h : m b = none) : m.le (mput m b l) := fun i loc hi => by
  by_cases hb : i = b
  · subst hb; rw [h] at hi; cases hi
  · rw [mput_ne m b l hb]; exact hi
/-- a new object at a free number -/
theorem WR.put (h : WR B m S F H w) {b : Nat} {o : AO} {loc : Loc} {w' : World} (hb : b < H.length) (hd : hget H b = .dead) (hm : m b = none)
    (hsz : w.heap.size ≤ w'.heap.size) (hk : ∀ x, x < w.heap.size → w'.heap[x]? = w.heap[x]?) (hl : w.heap.size ≤ loc.b)
    (ho : OR (mput m b loc) S F w' b o) (h1 : w'.os = w.os) (h2 : w'.output = w.output) (h3 : w'.tape = w.tape) : WR B (mput m b loc) S F (hset H b o) w' := by
  have hle := mput_le m b loc hm
  have hmut : ∀ i, i ≠ b → Mut (hset H b o) i → Mut H i := fun i hi hx => by unfold Mut at *; rwa [hget_hset_ne H b i o hi] at hx
  have lt : ∀ i l, i ≠ b → Mut (hset H b o) i → mput m b loc i = some l → m i = some l ∧ l.b < w.heap.size := fun i l hi hx hl => by
    obtain ⟨l', h', hlt⟩ := h.block (hmut i hi hx)
    rw [mput_ne m b loc hi] at hl
    rw [h'] at hl; cases hl
    exact ⟨h', hlt⟩
  exact {
    obj := fun i => by
      by_cases hi : i = b
      · subst hi; rw [hget_hset_self H i o hb]; exact ho
      · rw [hget_hset_ne H b i o hi]
        refine OR.mono hle (SS.le_refl _) (h.obj i) (fun l hmo hml => hk _ ?_)
        obtain ⟨l', h', hlt⟩ := h.block (i := i) hmo
        rw [hml] at h'; cases h'; exact hlt
    inj := fun i j l l' hi hj hml hml' he => by
      by_cases hib : i = b
      · subst hib
        by_cases hjb : j = i
        · exact hjb.symm
        · obtain ⟨_, hlt⟩ := lt j l' hjb hj hml'
          rw [mput_self] at hml; cases hml
          omega
      · obtain ⟨hmi, hlt⟩ := lt i l hib hi hml
        by_cases hjb : j = b
        · subst hjb; rw [mput_self] at hml'; cases hml'; omega
        · obtain ⟨hmj, _⟩ := lt j l' hjb hj hml'
          exact h.inj i j l l' (hmut i hib hi) (hmut j hjb hj) hmi hmj he
    stab := fun x c hx => by
      obtain ⟨e, fr, hc⟩ := h.stab x c hx
      exact ⟨e, fr, by rw [hk x (h.stab_lt hx)]; exact hc⟩
    apart := fun i l hi hml => by
      by_cases hib : i = b
      · subst hib; rw [mput_self] at hml; cases hml
        cases hs : S loc.b with
        | none => rfl
        | some c => have := h.stab_lt hs; omega
      · obtain ⟨hmi, _⟩ := lt i l hib hi hml
        exact h.apart i l (hmut i hib hi) hmi
    size := Nat.le_trans h.size hsz
    keep := fun x hx hD => by rw [hk x (Nat.lt_of_lt_of_le hx h.size)]; exact h.keep x hx hD
    own := fun i l hi hml => by
      by_cases hib : i = b
      · subst hib; rw [mput_self] at hml; cases hml
        exact .inr (Nat.le_trans h.size hl)
      · obtain ⟨hmi, _⟩ := lt i l hib hi hml
        exact h.own i l (hmut i hib hi) hmi
    fresh := h.fresh
    os := h1.trans h.os
    output := h2.trans h.output
    tape := h3.trans h.tape }
/-- an object is turned in its own block -/
theorem WR.turn (h : WR B m S F H w) {id : Nat} {o : AO} {loc : Loc} {w' : World} (hb : Mut H id) (hm : m id = some loc)
    (hsz : w'.heap.size = w.heap.size) (hk : ∀ x, x ≠ loc.b → w'.heap[x]? = w.heap[x]?)
    (ho : OR m S F w' id o) (h1 : w'.os = w.os) (h2 : w'.output = w.output) (h3 : w'.tape = w.tape) : WR B m S F (hset H id o) w' := by
  have hlt : id < H.length := hget_lt (fun hd => by unfold Mut at hb; rw [hd] at hb; cases hb)
  have hmut : ∀ i, Mut (hset H id o) i → Mut H i := fun i hx => by
    by_cases hi : i = id
    · subst hi; exact hb
    · unfold Mut at *; rwa [hget_hset_ne H id i o hi] at hx
  exact {
    obj := fun i => by
      by_cases hi : i = id
      · subst hi; rw [hget_hset_self H i o hlt]; exact ho
      · rw [hget_hset_ne H id i o hi]
        refine OR.mono (MM.le_refl _) (SS.le_refl _) (h.obj i) (fun l hmo hml => hk _ (fun he => hi ?_))
        exact h.inj i id l loc hmo hb hml hm he
    inj := fun i j l l' hi hj => h.inj i j l l' (hmut i hi) (hmut j hj)
    stab := fun x c hx => by
      obtain ⟨e, fr, hc⟩ := h.stab x c hx
      have hne : x ≠ loc.b := fun he => by rw [he, h.apart id loc hb hm] at hx; cases hx
      exact ⟨e, fr, by rw [hk x hne]; exact hc⟩
    apart := fun i l hi => h.apart i l (hmut i hi)
    size := by rw [hsz]; exact h.size
    keep := fun x hx hD => by
      by_cases he : x = loc.b
      · rcases h.own id loc hb hm with h' | h'
        · exact absurd (he ▸ h') hD
        · omega
      · rw [hk x he]; exact h.keep x hx hD
    own := fun i l hi => h.own i l (hmut i hi)
    fresh := h.fresh
    os := h1.trans h.os
    output := h2.trans h.output
    tape := h3.trans h.tape }
def sput (S : SS) (b : Nat) (c : Array Value) : SS := fun i => if i = b then some c else S i
theorem sput_le (S : SS) (b : Nat) (c : Array Value) (h : S b = none) : S.le (sput S b c) := fun i x hi => by
  unfold sput
  by_cases hb : i = b
  · subst hb; rw [h] at hi; cases hi
  · simpa [hb] using hi
/-- a row is written no more -/
theorem WR.freeze (h : WR B m S F H w) {id : Nat} {r : Row} {te : Nat} (hr : hget H id = .cells r te) :
    ∃ S', S.le S' ∧ WR B m S' F (hset H id (.frozen r)) w ∧ ∃ loc c, m id = some loc ∧ S' loc.b = some c ∧ r.len = loc.n ∧ loc.n ≤ loc.sz ∧ c.size = loc.sz ∧ RR S' r m F (c.toList.take loc.n) := by
  have ho := h.obj id
  rw [hr] at ho
  obtain ⟨loc, c, fr, h1, h2, h3, h4, h5, h6, h7⟩ := ho
  have hb : Mut H id := by unfold Mut; rw [hr]; rfl
  have hS := h.apart id loc hb h1
  have hle := sput_le S loc.b c hS
  have hlt : id < H.length := hget_lt (fun hd => by rw [hd] at hr; cases hr)
  have hmut : ∀ i, Mut (hset H id (.frozen r)) i → Mut H i ∧ i ≠ id := fun i hx => by
    by_cases hi : i = id
    · subst hi; unfold Mut at hx; rw [hget_hset_self H i _ hlt] at hx; cases hx
    · exact ⟨by unfold Mut at *; rwa [hget_hset_ne H id i _ hi] at hx, hi⟩
  have hself : sput S loc.b c loc.b = some c := by simp [sput]
  refine ⟨sput S loc.b c, hle, ?_, loc, c, h1, hself, h5, h6, h4, RR.mono hle r (MM.le_refl _) (FF.le_refl _) h7⟩
  exact {
    obj := fun i => by
      by_cases hi : i = id
      · subst hi; rw [hget_hset_self H i _ hlt]
        exact ⟨loc, c, h1, hself, h4, h5, h6, RR.mono hle r (MM.le_refl _) (FF.le_refl _) h7⟩
      · rw [hget_hset_ne H id i _ hi]
        exact OR.mono (MM.le_refl _) hle (h.obj i) (fun _ _ _ => rfl)
    inj := fun i j l l' hi hj => h.inj i j l l' (hmut i hi).1 (hmut j hj).1
    stab := fun x c' hx => by
      by_cases hxb : x = loc.b
      · subst hxb; rw [hself] at hx; cases hx; exact ⟨te, fr, h2⟩
      · simp only [sput, hxb, if_false] at hx; exact h.stab x c' hx
    apart := fun i l hi hml => by
      obtain ⟨hi1, hi2⟩ := hmut i hi
      have := h.apart i l hi1 hml
      by_cases hlb : l.b = loc.b
      · exact absurd (h.inj i id l loc hi1 hb hml h1 hlb) hi2
      · simpa [sput, hlb] using this
    size := h.size
    keep := h.keep
    own := fun i l hi => h.own i l (hmut i hi).1
    fresh := fun x c' hx => by
      by_cases hxb : x = loc.b
      · subst hxb; exact .inr (h.own id loc hb h1)
      · simp only [sput, hxb, if_false] at hx; exact h.fresh x c' hx
    os := h.os
    output := h.output
    tape := h.tape }
end Go.Abs
end
