/- A certified abstract evaluator of the model's code (namespace Go.Abs), one part of it: what it answers holds of every run. Each theorem states its own conditions. -/
import Derived.Test.YtfbamgphngmglaaGreatDoorEngineB
set_option linter.unusedSimpArgs false
set_option linter.unusedVariables false
section
namespace Go.Abs
/-! ### what is known of the program's types -/
def TKok (P : Program) (t : TypeId) : TK → Prop
  | .bool => P.underlying t = some .bool
  | .int k => P.underlying t = some (.int k)
  | .str => P.underlying t = some .string
  | .ptr e => P.underlying t = some (.pointer e) ∧ ∃ j, P.info? e = some j
  | .uptr => P.underlying t = some .unsafePointer
  | .slice e => P.underlying t = some (.slice e)
  | .array n e => P.underlying t = some (.array n e)
  | .struct fs => ∃ fields, P.underlying t = some (.struct fields) ∧ fields.toList.map (fun f => (f.offset, (P.info? f.type).map (·.size), f.type)) = fs.map fun f => (f.1, some f.2.1, f.2.2)
  | .map k e => P.underlying t = some (.map k e)
  | .func => ∃ a b c, P.underlying t = some (.func a b c)
  | .iface => ∃ ms, P.underlying t = some (.interface ms)
  | .tuple => ∃ ts, P.underlying t = some (.tuple ts)
  | .other => False
def TK.isAgg : TK → Bool
  | .struct _ | .array _ _ => true
  | _ => false
structure TDok (P : Program) (t : TypeId) (d : TD) : Prop where
  info : ∃ i z, P.info? t = some i ∧ i.size = d.size ∧ i.bytes = d.bytes ∧ i.zero = some z ∧ (d.agg = true → ∃ cs, z = .agg cs) ∧ (d.agg = false → z.oneCell' = true) ∧ ∀ S, RR S d.zero noM noF z.cells.toList
  tk : TKok P t d.tk
  agg : d.tk.isAgg = d.agg
  zlen : d.zero.len = d.size
def TTok (P : Program) (T : TT) : Prop := ∀ t d, T t = some d → TDok P t d
variable {P : Program}
theorem run_sizeOf' {t : TypeId} {d : TD} (h : TDok P t d) (w : World) : (sizeOf t).run P w = .ok d.size w := by
  obtain ⟨i, z, h1, h2, _⟩ := h.info
  simp [sizeOf, typeInfo, h1, h2]
theorem run_typeInfo' {t : TypeId} {d : TD} (h : TDok P t d) (w : World) : ∃ i, (typeInfo t).run P w = .ok i w ∧ i.size = d.size ∧ i.bytes = d.bytes := by
  obtain ⟨i, z, h1, h2, h3, _⟩ := h.info
  exact ⟨i, by simp [typeInfo, h1], h2, h3⟩
theorem run_zeroValue' {t : TypeId} {d : TD} (h : TDok P t d) (w : World) : ∃ z, (zeroValue t).run P w = .ok z w ∧ (d.agg = true → ∃ cs, z = .agg cs) ∧ (d.agg = false → z.oneCell' = true) ∧ ∀ S, RR S d.zero noM noF z.cells.toList := by
  obtain ⟨i, z, h1, h2, h3, h4, h5, h6, h7⟩ := h.info
  exact ⟨z, by simp [zeroValue, typeInfo, h1, h4], h5, h6, h7⟩
theorem tkU {t : TypeId} {d : TD} (h : TDok P t d) : ∃ u, P.underlying t = some u := by
  have := h.tk
  cases htk : d.tk <;> rw [htk] at this <;> simp only [TKok] at this
  all_goals first
    | exact ⟨_, this⟩
    | exact ⟨_, this.1⟩
    | (obtain ⟨_, hu, _⟩ := this; exact ⟨_, hu⟩)
    | (obtain ⟨_, hu⟩ := this; exact ⟨_, hu⟩)
    | (obtain ⟨_, _, _, hu⟩ := this; exact ⟨_, hu⟩)
    | exact this.elim
theorem run_isAgg' {t : TypeId} {d : TD} (h : TDok P t d) (w : World) : (isAgg t).run P w = .ok d.agg w := by
  have h1 := h.tk
  have h2 := h.agg
  cases htk : d.tk <;> rw [htk] at h1 h2 <;> simp only [TKok, TK.isAgg] at h1 h2
  all_goals first
    | (rw [← h2]; simp [isAgg, run_underlying h1]; done)
    | (rw [← h2]; simp [isAgg, run_underlying h1.1]; done)
    | (obtain ⟨_, hu, _⟩ := h1; rw [← h2]; simp [isAgg, run_underlying hu]; done)
    | (obtain ⟨_, hu⟩ := h1; rw [← h2]; simp [isAgg, run_underlying hu]; done)
    | (obtain ⟨_, _, _, hu⟩ := h1; rw [← h2]; simp [isAgg, run_underlying hu]; done)
    | exact h1.elim
/-! ### cells in a world -/
theorem cell_at {w : World} {b : Nat} {c : Array Value} {e : TypeId} {fr : Nat × Nat} (h : w.heap[b]? = some (.cells c e fr)) (o : Nat) : w.cell? ⟨b, o, none⟩ = c[o]? := by
  simp [World.cell?, h]
theorem addr_add (b o n : Nat) : (⟨b, o, none⟩ : Addr).add n = ⟨b, o + n, none⟩ := by
  unfold Addr.add; split <;> simp_all
theorem run_loadCells' {w : World} {b : Nat} {c : Array Value} {e : TypeId} {fr : Nat × Nat} (h : w.heap[b]? = some (.cells c e fr)) (o n : Nat) (hn : o + n ≤ c.size) :
    (loadCells ⟨b, o, none⟩ n).run P w = .ok ((c.toList.drop o).take n).toArray w := by
  have hl : ((c.toList.drop o).take n).length = n := by simp; omega
  have := run_loadCells_list (P := P) w ⟨b, o, none⟩ ((c.toList.drop o).take n) (fun j v hv => by
    rw [addr_add, cell_at h]
    rw [List.getElem?_take] at hv
    split at hv
    · rw [List.getElem?_drop] at hv; simpa using hv
    · cases hv)
  rwa [hl] at this
/-- what a world is after cells of one block were turned -/
structure Turned (w w' : World) (b : Nat) (c' : Array Value) (e : TypeId) (fr : Nat × Nat) : Prop where
  at_ : w'.heap[b]? = some (.cells c' e fr)
  size : w'.heap.size = w.heap.size
  other : ∀ x, x ≠ b → w'.heap[x]? = w.heap[x]?
  os : w'.os = w.os
  output : w'.output = w.output
  tape : w'.tape = w.tape
theorem setCell_turned {w : World} {b o : Nat} {c : Array Value} {e : TypeId} {fr : Nat × Nat} (v : Value) (h : w.heap[b]? = some (.cells c e fr)) : Turned w (w.setCell ⟨b, o, none⟩ v) b (c.setIfInBounds o v) e fr where
  at_ := by simp only [World.setCell, Array.getElem?_modify, h]; simp
  size := by simp [World.setCell]
  other x hx := by simp only [World.setCell, Array.getElem?_modify]; simp [Ne.symm hx]
  os := rfl
  output := rfl
  tape := rfl
theorem Turned.trans {w w' w'' : World} {b : Nat} {c c' : Array Value} {e : TypeId} {fr : Nat × Nat} (h : Turned w w' b c e fr) (h' : Turned w' w'' b c' e fr) : Turned w w'' b c' e fr where
  at_ := h'.at_
  size := h'.size.trans h.size
  other x hx := (h'.other x hx).trans (h.other x hx)
  os := h'.os.trans h.os
  output := h'.output.trans h.output
  tape := h'.tape.trans h.tape
theorem Turned.refl {w : World} {b : Nat} {c : Array Value} {e : TypeId} {fr : Nat × Nat} (h : w.heap[b]? = some (.cells c e fr)) : Turned w w b c e fr := ⟨h, rfl, fun _ _ => rfl, rfl, rfl, rfl⟩
theorem run_store' {w : World} {b o : Nat} {c : Array Value} {e : TypeId} {fr : Nat × Nat} {v : Value} (h : w.heap[b]? = some (.cells c e fr)) (ho : o < c.size) (ht : Thaw fr c.size) (hv : v.oneCell' = true) :
    (store ⟨b, o, none⟩ v).run P w = .ok () (w.setCell ⟨b, o, none⟩ v) := by
  rw [run_store P w _ v _ hv, cell_at h]
  have hf : w.frozen? ⟨b, o, none⟩ = false := by simp only [World.frozen?, h]; exact ht.free o ho
  simp [ho, hf]
theorem run_storeCells' {b o : Nat} {e : TypeId} {fr : Nat × Nat} : ∀ (vs : List Value) (i : Nat) (c : Array Value) (w : World), w.heap[b]? = some (.cells c e fr) → o + i + vs.length ≤ c.size → Thaw fr c.size → (∀ v ∈ vs, v.oneCell' = true) →
    ∃ w' c', (storeCells ⟨b, o, none⟩ vs i).run P w = .ok () w' ∧ Turned w w' b c' e fr ∧ c'.toList = splice c.toList (o + i) vs ∧ c'.size = c.size
  | [], i, c, w, h, _, _, _ => ⟨w, c, rfl, Turned.refl h, by rw [splice_nil], rfl⟩
  | v :: vs, i, c, w, h, hl, ht, h1 => by
    simp only [List.length_cons] at hl
    have hst := run_store' (P := P) (v := v) h (o := o + i) (by omega) ht (h1 v (by simp))
    have hT := setCell_turned (o := o + i) v h
    obtain ⟨w', c', hr, hT', hc, hs⟩ := run_storeCells' (b := b) (o := o) (e := e) (fr := fr) vs (i + 1) (c.setIfInBounds (o + i) v) (w.setCell ⟨b, o + i, none⟩ v) hT.at_ (by simp; omega) (by simpa using ht) (fun x hx => h1 x (by simp [hx]))
    refine ⟨w', c', ?_, hT.trans hT', ?_, by rw [hs]; simp⟩
    · simp only [storeCells, addr_add, Sem.run_bind, hst, Result.andThen_ok, hr]
    · rw [hc, Array.toList_setIfInBounds, show o + (i + 1) = (o + i) + 1 by omega, splice_cons _ _ _ _ (by simp; omega)]
variable {B : Base} {m : MM} {S : SS} {F : FF} {H : Heap} {w : World}
theorem readRow_sound (h : WR B m S F H w) {x : AV} {v : Value} {r : Row} {e : Elt} {p : Pth} {n : Nat} (hv : VR S x m F v) (hr : readRow H x = some (r, e, p, n)) :
    ∃ blk base c ee fr, v = .pointer (some ⟨blk, base + cellOf e p, none⟩) ∧ w.heap[blk]? = some (.cells c ee fr) ∧ base + r.len ≤ c.size ∧ InB e p n r.len ∧ RR S r m F ((c.toList.drop base).take r.len) := by
  cases x with
  | ptr id e' p' n' =>
    simp only [VR] at hv
    obtain ⟨loc, hm, hb, rfl⟩ := hv
    have ho := h.obj id
    simp only [readRow] at hr
    cases hg : hget H id with
    | cells r' ee =>
      rw [hg] at hr ho; simp only [Option.some.injEq, Prod.mk.injEq] at hr
      obtain ⟨rfl, rfl, rfl, rfl⟩ := hr
      obtain ⟨loc', c, fr, h1, h2, h3, h4, h5, h6, h7⟩ := ho
      rw [hm] at h1; cases h1
      exact ⟨loc.b, 0, c, ee, fr, by simp, h2, by omega, by rw [h5]; exact hb, by rw [List.drop_zero, h5]; exact h7⟩
    | frozen r' =>
      rw [hg] at hr ho; simp only [Option.some.injEq, Prod.mk.injEq] at hr
      obtain ⟨rfl, rfl, rfl, rfl⟩ := hr
      obtain ⟨loc', c, h1, h2, h3, h4, h5, h6⟩ := ho
      rw [hm] at h1; cases h1
      obtain ⟨ee, fr, hc⟩ := h.stab _ _ h2
      exact ⟨loc.b, 0, c, ee, fr, by simp, hc, by omega, by rw [h4]; exact hb, by rw [List.drop_zero, h4]; exact h6⟩
    | _ => rw [hg] at hr; cases hr
  | vptr r' e' p' n' =>
    simp only [VR] at hv
    simp only [readRow, Option.some.injEq, Prod.mk.injEq] at hr
    obtain ⟨rfl, rfl, rfl, rfl⟩ := hr
    obtain ⟨a, off, c, rfl, h2, h3, h4, h5⟩ := hv
    obtain ⟨ee, fr, hc⟩ := h.stab _ _ h2
    exact ⟨a, off, c, ee, fr, rfl, hc, h4, h3, h5⟩
  | _ => simp [readRow] at hr
theorem take_drop_take {α : Type} (l : List α) (a n b k : Nat) (h : b + k ≤ n) : (((l.drop a).take n).drop b).take k = (l.drop (a + b)).take k := by
  rw [List.drop_take, List.take_take, List.drop_drop]
  congr 1; omega
theorem load_sound (h : WR B m S F H w) {t : TypeId} {d : TD} (ht : TDok P t d) {x y : AV} {v : Value} (hv : VR S x m F v) (hl : loadAV d H x = some y) :
    ∃ u, (Instr.loadAt t v).run P w = .ok u w ∧ VR S y m F u ∧ (d.agg = false → u.oneCell' = true) := by
  unfold loadAV at hl
  cases hr : readRow H x with
  | none => simp [hr] at hl
  | some q =>
    obtain ⟨r, e, p, n⟩ := q
    rw [hr] at hl
    simp only [Option.bind_eq_bind, Option.bind_some] at hl
    obtain ⟨blk, base, c, ee, fr, rfl, hc, hsz, hb, hR⟩ := readRow_sound h hv hr
    split at hl
    · rename_i hle
      have hle' : d.size ≤ n := Nat.le_of_ble_eq_true hle
      have hb' : InB e p d.size r.len := by
        cases e with
        | none => simp only [InB] at hb ⊢; omega
        | some y => obtain ⟨i, w'⟩ := y; simp only [InB] at hb ⊢; omega
      have hlt := InB_lt hb'
      cases hagg : d.agg with
      | true =>
        rw [hagg] at hl
        simp only [if_true, Option.map_eq_some_iff] at hl
        obtain ⟨q, hq, rfl⟩ := hl
        obtain ⟨hR', _⟩ := RR_sub hR hb' hq
        rw [take_drop_take _ _ _ _ _ hlt] at hR'
        refine ⟨.agg ((c.toList.drop (base + cellOf e p)).take d.size).toArray, ?_, ?_, by simp⟩
        · simp only [Instr.loadAt, Instr.sureAddr, loadVar, Sem.run_bind, Sem.run_pure, Result.andThen_ok, run_isAgg' ht, hagg, if_true, run_sizeOf' ht, run_loadCells' hc _ _ (show base + cellOf e p + d.size ≤ c.size by omega)]
        · simp only [VR]; exact ⟨_, rfl, hR'⟩
      | false =>
        rw [hagg] at hl
        simp only [Bool.false_eq_true, if_false] at hl
        split at hl
        · rename_i h1
          have hd1 : d.size = 1 := Nat.eq_of_beq_eq_true h1
          rw [hd1] at hb' hlt
          obtain ⟨u, hu, hVR, hone⟩ := RR_get hR hb' hl
          rw [List.getElem?_take] at hu
          split at hu
          · rw [List.getElem?_drop] at hu
            refine ⟨u, ?_, hVR, fun _ => hone⟩
            have hcell : w.cell? ⟨blk, base + cellOf e p, none⟩ = some u := by rw [cell_at hc]; simpa using hu
            simp [Instr.loadAt, Instr.sureAddr, loadVar, run_isAgg' ht, hagg, hcell]
          · cases hu
        · cases hl
    · cases hl
theorem VR_one {x : AV} {v : Value} (h : VR S x m F v) (hx : cellB x = true) : v.oneCell' = true := by
  cases x <;> simp only [VR] at h
  case bool => subst h; rfl
  case int => subst h; rfl
  case str => subst h; rfl
  case ptr => obtain ⟨_, _, _, rfl⟩ := h; rfl
  case vptr => obtain ⟨_, _, _, rfl, _⟩ := h; rfl
  case nilptr => subst h; rfl
  case sl => obtain ⟨_, _, _, _, _, rfl, _⟩ := h; rfl
  case vs => obtain ⟨_, _, _, _, _, _, rfl, _⟩ := h; rfl
  case nilsl => subst h; rfl
  case map => obtain ⟨_, _, rfl⟩ := h; rfl
  case nilmap => subst h; rfl
  case fn => obtain ⟨_, _, _, rfl, _⟩ := h; rfl
  case nilfn => subst h; rfl
  case iface => obtain ⟨_, rfl, _⟩ := h; rfl
  case nilif => subst h; rfl
  case agg => cases hx
  case tup => cases hx
  case far => exact h.2
  case raw => obtain ⟨_, _, _, rfl, _⟩ := h; rfl
  case top => cases hx
end Go.Abs
end

section
namespace Go.Abs
variable {P : Program} {B : Base} {m : MM} {S : SS} {F : FF} {H : Heap} {w : World}
theorem take_splice {α : Type} (l us : List α) (c n : Nat) (h : c + us.length ≤ n) (hn : n ≤ l.length) : (splice l c us).take n = splice (l.take n) c us := by
  simp only [splice, List.append_assoc]
  rw [List.take_take, Nat.min_eq_left (by omega), List.take_append, List.take_of_length_le (by simp; omega)]
  congr 1
  rw [List.take_append, List.take_of_length_le (by simp; omega)]
  congr 1
  rw [List.drop_take]
  congr 1
  simp
  omega
/-- cells of a tracked row are turned -/
theorem storeCells_sound (h : WR B m S F H w) {id : Nat} {r r' : Row} {e : Nat} (hg : hget H id = .cells r e) {loc : Loc} (hm : m id = some loc) {c0 : Nat} {us : List Value}
    (hlt : c0 + us.length ≤ r.len) (hone : ∀ v ∈ us, v.oneCell' = true) (hR : ∀ vs, RR S r m F vs → RR S r' m F (splice vs c0 us)) (hlen : r'.len = r.len) :
    ∃ w', (storeCells ⟨loc.b, c0, none⟩ us).run P w = .ok () w' ∧ WR B m S F (hset H id (.cells r' e)) w' := by
  have ho := h.obj id
  rw [hg] at ho
  obtain ⟨loc', c, fr, h1, h2, h3, h4, h5, h6, h7⟩ := ho
  rw [hm] at h1; cases h1
  have hmut : Mut H id := by unfold Mut; rw [hg]; rfl
  obtain ⟨w', c', hr, hT, hc', hs⟩ := run_storeCells' (P := P) (b := loc.b) (o := c0) us 0 c w h2 (by omega) h3 hone
  refine ⟨w', hr, h.turn hmut hm hT.size hT.other ?_ hT.os hT.output hT.tape⟩
  refine ⟨loc, c', fr, hm, hT.at_, by rw [hs]; exact h3, by rw [hs]; exact h4, by rw [hlen]; exact h5, h6, ?_⟩
  rw [hc', Nat.add_zero, take_splice _ _ _ _ (by omega) (by simp; omega)]
  exact hR _ h7
theorem store_sound (h : WR B m S F H w) {t : TypeId} {d : TD} (ht : TDok P t d) {x y : AV} {v u : Value} (hv : VR S x m F v) (hu : VR S y m F u) {H' : Heap} (hl : storeAV d H x y = some H') :
    ∃ w', (Instr.storeAt t v u).run P w = .ok () w' ∧ WR B m S F H' w' := by
  cases x with
  | ptr id e p n =>
    cases hg : hget H id with
    | cells r ee =>
      simp only [storeAV, hg] at hl
      simp only [VR] at hv
      obtain ⟨loc, hm, hb, rfl⟩ := hv
      have ho := h.obj id
      rw [hg] at ho
      obtain ⟨loc', c, fr, h1, h2, h3, h4, h5, h6, h7⟩ := ho
      rw [hm] at h1; cases h1
      split at hl
      · rename_i hle
        have hle' : d.size ≤ n := Nat.le_of_ble_eq_true hle
        have hb' : InB e p d.size r.len := by
          rw [h5]
          cases e with
          | none => simp only [InB] at hb ⊢; omega
          | some y => obtain ⟨i, w'⟩ := y; simp only [InB] at hb ⊢; omega
        have hlt := InB_lt hb'
        have one : ∀ (_ : (if (cellB y && Nat.beq d.size 1) = true then (r.set e p y).map fun r' => hset H id (.cells r' ee) else none) = some H'),
            ∃ w', (Instr.storeAt t (.pointer (some ⟨loc.b, cellOf e p, none⟩)) u).run P w = .ok () w' ∧ WR B m S F H' w' := by
          intro hl
          split at hl
          · rename_i h1
            simp only [Bool.and_eq_true] at h1
            have hd1 : d.size = 1 := Nat.eq_of_beq_eq_true h1.2
            rw [hd1] at hb' hlt
            simp only [Option.map_eq_some_iff] at hl
            obtain ⟨r', hr', rfl⟩ := hl
            have hone := VR_one hu h1.1
            have hcells : u.cells = #[u] := by cases u <;> first | rfl | (simp [Value.oneCell'] at hone)
            obtain ⟨w', hrun, hW⟩ := storeCells_sound (P := P) h hg hm (r' := r') (us := [u]) (c0 := cellOf e p) (by simpa using hlt) (by simpa using hone)
              (fun vs hvs => by rw [splice_one _ _ _ (by rw [RR_length hvs]; omega)]; exact (RR_set hvs hb' hu hone hr').1) (RR_set h7 hb' hu hone hr').2
            refine ⟨w', ?_, hW⟩
            simp only [Instr.storeAt, Instr.sureAddr, storeVar, hcells, Sem.run_bind, Sem.run_pure, Result.andThen_ok, run_sizeOf' ht, hd1]
            simpa using hrun
          · cases hl
        cases y with
        | agg q =>
          simp only at hl
          split at hl
          · rename_i hq
            have hq' : q.len = d.size := Nat.eq_of_beq_eq_true hq
            simp only [Option.map_eq_some_iff] at hl
            obtain ⟨r', hr', rfl⟩ := hl
            simp only [VR] at hu
            obtain ⟨cs, rfl, hcs⟩ := hu
            have hcl := RR_length hcs
            obtain ⟨w', hrun, hW⟩ := storeCells_sound (P := P) h hg hm (r' := r') (us := cs.toList) (c0 := cellOf e p) (by rw [hcl, hq']; exact hlt) (RR_one hcs)
              (fun vs hvs => (RR_setSub hvs hb' hcs hq' hr').1) (RR_setSub h7 hb' hcs hq' hr').2
            refine ⟨w', ?_, hW⟩
            have hsz : cs.size = d.size := by rw [← hq', ← hcl]; simp
            simp only [Instr.storeAt, Instr.sureAddr, storeVar, Value.cells, Sem.run_bind, Sem.run_pure, Result.andThen_ok, run_sizeOf' ht, hsz]
            simpa using hrun
          · cases hl
        | _ => exact one hl
      · cases hl
    | _ => simp [storeAV, hg] at hl
  | _ => simp [storeAV] at hl
end Go.Abs
end

section
namespace Go.Abs
variable {P : Program} {B : Base} {m : MM} {S : SS} {F : FF} {H : Heap} {w : World}
theorem constScalar_sound {v : Value} {x : AV} (h : constScalar v = some x) : VR S x m F v ∧ v.oneCell' = true := by
  unfold constScalar at h
  split at h <;> (try (cases h)) <;> (try exact ⟨by simp only [VR], rfl⟩)
  rename_i fn first captured
  split at h
  · rename_i hc
    simp only [Bool.and_eq_true, Array.isEmpty_iff] at hc
    simp only [Option.some.injEq] at h; subst h
    obtain ⟨rfl, rfl⟩ := hc
    refine ⟨?_, rfl⟩
    simp only [VR]
    exact ⟨_, #[], #[], rfl, rfl, by simp [LR], by simp [LR]⟩
  · cases h
theorem intsOf_sound : ∀ {l : List Value} {k : IntKind} {z : List Int}, intsOf l = some (k, z) → l = z.map (Value.int k)
  | [], _, _, h => by simp [intsOf] at h
  | v :: l, k, z, h => by
    cases v with
    | int k0 n =>
      cases l with
      | nil => simp only [intsOf, Option.some.injEq, Prod.mk.injEq] at h; obtain ⟨rfl, rfl⟩ := h; rfl
      | cons u l =>
        simp only [intsOf] at h
        cases hi : intsOf (u :: l) with
        | none => rw [hi] at h; cases h
        | some q =>
          obtain ⟨k', z'⟩ := q
          rw [hi] at h; simp only at h
          split at h
          · rename_i hk
            have := kEq_eq hk; subst this
            simp only [Option.some.injEq, Prod.mk.injEq] at h; obtain ⟨rfl, rfl⟩ := h
            rw [intsOf_sound hi]; rfl
          · cases h
    | _ => cases l <;> simp [intsOf] at h
theorem scalarsOf_sound : ∀ {l : List Value} {as : List AV}, scalarsOf l = some as → LR S as m F l ∧ ∀ v ∈ l, v.oneCell' = true
  | [], _, h => by simp only [scalarsOf, Option.some.injEq] at h; subst h; simp [LR]
  | v :: l, as, h => by
    simp only [scalarsOf] at h
    cases h1 : constScalar v with
    | none => simp [h1] at h
    | some a =>
      cases h2 : scalarsOf l with
      | none => simp [h1, h2] at h
      | some as' =>
        simp only [h1, h2, Option.some.injEq] at h; subst h
        have hs := constScalar_sound (S := S) (m := m) (F := F) h1
        have hl := scalarsOf_sound h2
        refine ⟨by simp only [LR]; exact ⟨v, l, rfl, hs.1, hl.1⟩, fun u hu => ?_⟩
        rcases List.mem_cons.1 hu with rfl | hu
        · exact hs.2
        · exact hl.2 u hu
theorem constAV_sound {v : Value} {x : AV} (h : constAV v = some x) : VR S x m F v := by
  unfold constAV at h
  split at h
  · rename_i cs
    cases hi : intsOf cs.toList with
    | some q =>
      obtain ⟨k, z⟩ := q
      simp only [hi, Option.some.injEq] at h; subst h
      simp only [VR, RR]
      exact ⟨cs, rfl, trivial, intsOf_sound hi⟩
    | none =>
      simp only [hi, Option.map_eq_some_iff] at h
      obtain ⟨l, hl, rfl⟩ := h
      simp only [VR, RR]
      exact ⟨cs, rfl, scalarsOf_sound hl⟩
  · rename_i vs
    split at h
    · rename_i hv
      simp only [Option.some.injEq] at h; subst h
      simp only [Array.isEmpty_iff] at hv; subst hv
      simp only [VR]; exact ⟨#[], rfl, by simp [LR]⟩
    · cases h
  · exact (constScalar_sound h).1
def GlobOK (glob : Nat → Option (Row × Nat)) (S : SS) : Prop := ∀ g r n, glob g = some (r, n) → ∃ c, S g = some c ∧ r.len = n ∧ n = c.size ∧ RR S r noM noF (c.toList.take n)
theorem GlobOK.mono {glob : Nat → Option (Row × Nat)} {S S' : SS} (h : GlobOK glob S) (hS : S.le S') : GlobOK glob S' := fun g r n hg => by
  obtain ⟨c, h1, h2, h3, h4⟩ := h g r n hg
  exact ⟨c, hS _ _ h1, h2, h3, RR.mono hS r (MM.le_refl _) (FF.le_refl _) h4⟩
theorem tget_eq : ∀ (l : List AV) (n : Nat), tget l n = l.getD n .top
  | [], n => by simp [tget_nil, tget_zero, tget_succ]
  | v :: _, 0 => by simp [tget_nil, tget_zero, tget_succ]
  | _ :: l, n + 1 => by simp [tget_nil, tget_zero, tget_succ, tget_eq l n]
theorem tset_eq : ∀ (l : List AV) (n : Nat) (v : AV), tset l n v = l.set n v
  | [], n, v => by simp [tset_nil, tset_zero, tset_succ]
  | _ :: _, 0, v => by simp [tset_nil, tset_zero, tset_succ]
  | _ :: l, n + 1, v => by simp [tset_nil, tset_zero, tset_succ, tset_eq l n v]
theorem evalO_sound {glob : Nat → Option (Row × Nat)} (hG : GlobOK glob S) {tm : List AV} {a : Act} (ht : LR S tm m F a.tmps.toList) (o : Operand) : VR S (evalO glob tm o) m F (a.eval o) := by
  cases o with
  | tmp t =>
    simp only [evalO, Act.eval, tget_eq]
    rcases Nat.lt_or_ge t a.tmps.size with h | h
    · obtain ⟨v, hv, hr⟩ := LR_get t ht (by simpa using h)
      have : a.tmps.getD t undef = v := by
        have : a.tmps[t]? = some v := by simpa using hv
        simp [Array.getD_eq_getD_getElem?, this]
      rw [this]; exact hr
    · have : tm.getD t .top = .top := by
        have hl := LR_length ht
        simp only [Array.length_toList] at hl
        simp [List.getElem?_eq_none (show tm.length ≤ t by omega)]
      rw [this]; simp only [VR]
  | const v =>
    simp only [evalO, Act.eval]
    cases h : constAV v with
    | none => simp only [Option.getD_none, VR]
    | some x => exact constAV_sound h
  | global g =>
    simp only [evalO, Act.eval]
    cases h : glob g with
    | none => simp only [VR]
    | some q =>
      obtain ⟨r, n⟩ := q
      obtain ⟨c, h1, h2, h3, h4⟩ := hG g r n h
      simp only [VR]
      refine ⟨g, 0, c, by simp [cellOf, flatP], h1, by simp [InB, flatP, h2], by omega, ?_⟩
      rw [List.drop_zero, h2]
      exact RR.mono (SS.le_refl _) r (noM_le _) (noF_le _) h4
  | func f =>
    simp only [evalO, Act.eval, VR]
    exact ⟨.func f, #[], #[], rfl, rfl, by simp [LR], by simp [LR]⟩

/-! ### numbers -/
theorem intBin_sound {op : BinOp} {k : IntKind} {x y : Int} {r : AV} (h : intBin op k x y = some r) (t : TypeId) :
    ∃ u, (binOp op t (.int k x) (.int k y)).run P w = .ok u w ∧ VR S r m F u := by
  have key : ∀ v : Value, (binOp op t (.int k x) (.int k y)).run P w = .ok v w → VR S r m F v → ∃ u, (binOp op t (.int k x) (.int k y)).run P w = .ok u w ∧ VR S r m F u := fun v h1 h2 => ⟨v, h1, h2⟩
  cases op <;> simp only [intBin, bitsI, Option.map_some, Option.some.injEq] at h <;> (try (cases h; done))
  case quo =>
    split at h
    · cases h
    · rename_i hy; cases h; exact key (.int k (k.wrap (x.tdiv y))) (by simp [binOp, Op.intDiv, hy]) (by simp only [VR])
  case rem =>
    split at h
    · cases h
    · rename_i hy; cases h; exact key (.int k (x.tmod y)) (by simp [binOp, Op.intDiv, hy]) (by simp only [VR])
  case add => subst h; exact key (.int k (k.wrap (x + y))) (by simp [binOp, Op.intArith]) (by simp only [VR])
  case sub => subst h; exact key (.int k (k.wrap (x - y))) (by simp [binOp, Op.intArith]) (by simp only [VR])
  case mul => subst h; exact key (.int k (k.wrap (x * y))) (by simp [binOp, Op.intArith]) (by simp only [VR])
  case and => subst h; exact key _ (by simp only [binOp, ne_eq, not_true_eq_false, if_false, Op.intBits, Sem.run_pure]; rfl) (by simp only [VR])
  case or => subst h; exact key _ (by simp only [binOp, ne_eq, not_true_eq_false, if_false, Op.intBits, Sem.run_pure]; rfl) (by simp only [VR])
  case xor => subst h; exact key _ (by simp only [binOp, ne_eq, not_true_eq_false, if_false, Op.intBits, Sem.run_pure]; rfl) (by simp only [VR])
  case andNot => subst h; exact key _ (by simp only [binOp, ne_eq, not_true_eq_false, if_false, Op.intBits, Sem.run_pure]; rfl) (by simp only [VR])
  case eql => subst h; exact key (.bool (x == y)) (by simp [binOp, Op.intCmp]) (by simp only [VR])
  case neq => subst h; exact key (.bool (x != y)) (by simp [binOp, Op.intCmp]) (by simp only [VR])
  case lss => subst h; exact key (.bool (decide (x < y))) (by simp [binOp, Op.intCmp]) (by simp only [VR])
  case leq => subst h; exact key (.bool (decide (x ≤ y))) (by simp [binOp, Op.intCmp]) (by simp only [VR])
  case gtr => subst h; exact key (.bool (decide (x > y))) (by simp [binOp, Op.intCmp]) (by simp only [VR])
  case geq => subst h; exact key (.bool (decide (x ≥ y))) (by simp [binOp, Op.intCmp]) (by simp only [VR])
theorem ofL_app (x y : ByteArray) : ofL (appR (bytesL x) (bytesL y)) = x ++ y := by
  rw [appR_eq]
  apply ByteArray.ext
  simp [ofL, bytesL, ByteArray.data_append]
theorem eqB_iff (x y : ByteArray) : eqB x y = true ↔ x = y := by
  unfold eqB
  rw [eqR_iff]
  refine ⟨fun h => ?_, fun h => by rw [h]⟩
  apply ByteArray.ext
  exact Array.toList_inj.mp h
theorem eqB_eq (x y : ByteArray) : eqB x y = (x.toList == y.toList) := by
  rw [Bool.eq_iff_iff, eqB_iff, beq_iff_eq, ByteArray.toList_eq, ByteArray.toList_eq]
  exact ⟨fun h => by rw [h], fun h => ByteArray.ext (Array.toList_inj.mp h)⟩
theorem strBin_sound {op : BinOp} {x y : ByteArray} {r : AV} (h : strBin op x y = some r) (t : TypeId) :
    ∃ u, (binOp op t (.string x) (.string y)).run P w = .ok u w ∧ VR S r m F u := by
  have key : ∀ v : Value, (binOp op t (.string x) (.string y)).run P w = .ok v w → VR S r m F v → ∃ u, (binOp op t (.string x) (.string y)).run P w = .ok u w ∧ VR S r m F u := fun v h1 h2 => ⟨v, h1, h2⟩
  cases op <;> simp only [strBin] at h <;> (try (cases h; done))
  case add =>
    split at h
    · cases h
    · rename_i hy; cases h; exact key (.string (x ++ y)) (by simp only [binOp, Op.stringOp]; rw [if_neg hy]; rfl) (by simp only [VR, ofL_app])
  case eql => cases h; exact key (.bool (x.toList == y.toList)) rfl (by simp only [VR, eqB_eq])
  case neq => cases h; exact key (.bool !(x.toList == y.toList)) rfl (by simp only [VR, eqB_eq])
theorem unAV_sound {op : UnOp} {a : AV} {v : Value} {r : AV} (hv : VR S a m F v) (h : unAV op a = some r) :
    ∃ u, (Op.unary op v).run P w = .ok u w ∧ VR S r m F u := by
  unfold unAV at h
  split at h
  · rename_i k n; cases h; simp only [VR] at hv; subst hv
    exact ⟨.int k (k.wrap (0 - n)), by simp [Op.unary, Op.intArith], by simp only [VR]⟩
  · rename_i k n; simp only [bitsI, Option.map_some, Option.some.injEq] at h; subst h; simp only [VR] at hv; subst hv
    exact ⟨.int k _, by simp only [Op.unary, Op.intBits, Sem.run_pure]; rfl, by simp only [VR]⟩
  · rename_i b; cases h; simp only [VR] at hv; subst hv
    exact ⟨.bool !b, by simp [Op.unary], by simp only [VR]⟩
  · cases h
end Go.Abs
end

section
namespace Go.Abs
variable {P : Program} {B : Base} {m : MM} {S : SS} {F : FF} {H : Heap} {w : World}
def EqOK (P : Program) (T : TT) (eqT : TypeId → Bool) : Prop := ∀ t d, eqT t = true → T t = some d → ∀ (w : World) (k : IntKind) (xs ys : List Int), xs.length = d.size → ys.length = d.size →
  (P.eqGuardType P.depth t = false) ∧ (Op.equal t (.agg (xs.map (Value.int k)).toArray) (.agg (ys.map (Value.int k)).toArray)).run P w = .ok (xs == ys) w
theorem eqGuard_plain {op : BinOp} {t : TypeId} {x y : Operand} {a b : Value} (h1 : ¬ (a = .nilIface ∧ b = .nilIface)) (h2 : a.oneCell' = true ∨ b.oneCell' = true) : (eqGuard op t x y a b).run P w = .ok () w := by
  unfold eqGuard
  cases op <;> (try rfl)
  all_goals
    cases a <;> cases b <;> first | rfl | exact absurd ⟨rfl, rfl⟩ h1 | (rcases h2 with h2 | h2 <;> simp [Value.oneCell'] at h2)
theorem eqGuard_agg {op : BinOp} {t : TypeId} {x y : Operand} {a b : Array Value} (h : P.eqGuardType P.depth t = false) : (eqGuard op t x y (.agg a) (.agg b)).run P w = .ok () w := by
  unfold eqGuard
  cases op <;> first | rfl | simp [h]
theorem equal_of {t : TypeId} {a b : Value} {r : Bool} (h : ∀ d, (Op.equalIn (d + 1) t a b).run P w = .ok r w) : (Op.equal t a b).run P w = .ok r w := h 9999
theorem bin_of {t : TypeId} {a b : Value} {r : Bool} (hs : match a, b with | .int .., _ | _, .int .. | .float .., _ | .complex .., _ | .string _, _ => False | _, _ => True) (h : (Op.equal t a b).run P w = .ok r w) :
    (binOp .eql t a b).run P w = .ok (.bool r) w ∧ (binOp .neq t a b).run P w = .ok (.bool !r) w := by
  cases a <;> cases b <;> first | exact hs.elim | exact ⟨by simp only [binOp, Sem.run_bind, h, Result.andThen_ok, Sem.run_pure], by simp only [binOp, Sem.run_bind, h, Result.andThen_ok, Sem.run_pure]⟩
theorem told {t : TypeId} {a b : Value} {r : Bool} {op : BinOp} {x y : Operand} (hs : match a, b with | .int .., _ | _, .int .. | .float .., _ | .complex .., _ | .string _, _ => False | _, _ => True) (h1 : ¬ (a = .nilIface ∧ b = .nilIface)) (h2 : a.oneCell' = true ∨ b.oneCell' = true)
    (h : ∀ d, (Op.equalIn (d + 1) t a b).run P w = .ok r w) :
    (eqGuard op t x y a b).run P w = .ok () w ∧ (binOp .eql t a b).run P w = .ok (.bool r) w ∧ (binOp .neq t a b).run P w = .ok (.bool !r) w :=
  ⟨eqGuard_plain h1 h2, bin_of hs (equal_of h)⟩
def IntOK (P : Program) (iq : Nat → Bool) : Prop := ∀ t, iq t = true → ∃ i k, P.info? t = some i ∧ i.comparable = true ∧ P.underlying t = some (.int k)
theorem otherEq_sound {T : TT} {eqT : TypeId → Bool} (hE : EqOK P T eqT) {iq : Nat → Bool} (hI : IntOK P iq) {t : TypeId} {d : TD} (hT : T t = some d) (ht : TDok P t d) {a b : AV} {u v : Value} (hu : VR S a m F u) (hv : VR S b m F v) {r : Bool}
    (h : otherEq d (eqT t) iq a b = some r) (op : BinOp) (x y : Operand) :
    (eqGuard op t x y u v).run P w = .ok () w ∧ (binOp .eql t u v).run P w = .ok (.bool r) w ∧ (binOp .neq t u v).run P w = .ok (.bool !r) w := by
  have htk := ht.tk
  unfold otherEq at h
  split at h
  · rename_i hd
    rw [hd] at htk; simp only [TKok] at htk
    simp only [VR] at hu hv; subst hu; subst hv; cases h
    exact told trivial (by simp) (.inl rfl) (fun d => by simp [Op.equalIn, run_underlying htk])
  · rename_i hd
    rw [hd] at htk; simp only [TKok] at htk
    simp only [VR] at hu hv; subst hu; subst hv; cases h
    exact told trivial (by simp) (.inl rfl) (fun d => by simp [Op.equalIn, run_underlying htk.1])
  · rename_i hd
    rw [hd] at htk; simp only [TKok] at htk
    simp only [VR] at hu hv
    obtain ⟨loc, h1, h2, rfl⟩ := hu
    obtain ⟨loc', h3, h4, rfl⟩ := hv
    split at h
    · rename_i hc
      simp only [Option.some.injEq] at h; subst h
      simp only [Bool.and_eq_true] at hc
      have e1 := Nat.eq_of_beq_eq_true hc.1
      have e2 := Nat.eq_of_beq_eq_true hc.2
      subst e1
      rw [h1] at h3; cases h3
      rw [e2]
      obtain ⟨htk, j, hj⟩ := htk
      exact told trivial (by simp) (.inl rfl) (fun d => by simp [Op.equalIn, run_underlying htk, sizeOf, typeInfo, hj, run_sameAddr_same])
    · cases h
  · rename_i hd
    rw [hd] at htk; simp only [TKok] at htk
    simp only [VR] at hu hv; subst hu; obtain ⟨loc, _, _, rfl⟩ := hv; cases h
    exact told trivial (by simp) (.inl rfl) (fun d => by simp [Op.equalIn, run_underlying htk.1])
  · rename_i hd
    rw [hd] at htk; simp only [TKok] at htk
    simp only [VR] at hu hv; subst hv; obtain ⟨loc, _, _, rfl⟩ := hu; cases h
    exact told trivial (by simp) (.inl rfl) (fun d => by simp [Op.equalIn, run_underlying htk.1])
  · rename_i hd
    rw [hd] at htk; simp only [TKok] at htk
    simp only [VR] at hu hv; subst hu; subst hv; cases h
    exact told trivial (by simp) (.inl rfl) (fun d => by simp [Op.equalIn, run_underlying htk])
  · rename_i hd
    rw [hd] at htk; simp only [TKok] at htk
    simp only [VR] at hu hv; subst hu; obtain ⟨_, _, _, _, _, rfl, _⟩ := hv; cases h
    exact told trivial (by simp) (.inl rfl) (fun d => by simp [Op.equalIn, run_underlying htk])
  · rename_i hd
    rw [hd] at htk; simp only [TKok] at htk
    simp only [VR] at hu hv; subst hv; obtain ⟨_, _, _, _, _, rfl, _⟩ := hu; cases h
    exact told trivial (by simp) (.inl rfl) (fun d => by simp [Op.equalIn, run_underlying htk])
  · rename_i hd
    rw [hd] at htk; simp only [TKok] at htk
    simp only [VR] at hu hv; subst hu; obtain ⟨_, _, _, _, _, _, rfl, _⟩ := hv; cases h
    exact told trivial (by simp) (.inl rfl) (fun d => by simp [Op.equalIn, run_underlying htk])
  · rename_i hd
    rw [hd] at htk; simp only [TKok] at htk
    simp only [VR] at hu hv; subst hv; obtain ⟨_, _, _, _, _, _, rfl, _⟩ := hu; cases h
    exact told trivial (by simp) (.inl rfl) (fun d => by simp [Op.equalIn, run_underlying htk])
  · rename_i t1 k1 x1 t2 k2 y1 hd
    rw [hd] at htk; simp only [TKok] at htk
    obtain ⟨ms, htk⟩ := htk
    simp only [VR] at hu hv
    obtain ⟨_, rfl, rfl⟩ := hu
    obtain ⟨_, rfl, rfl⟩ := hv
    split at h
    · rename_i hc
      have hc := Nat.eq_of_beq_eq_true hc
      subst hc
      split at h
      · rename_i hq
        simp only [Bool.and_eq_true] at hq
        obtain ⟨i, kk, i1, i2, i3⟩ := hI _ hq.1
        have := kEq_eq hq.2
        subst this
        simp only [Option.some.injEq] at h; subst h
        have he : ∀ d, (Op.equalIn (d + 2) t (.iface t1 (.int k1 x1)) (.iface t1 (.int k1 y1))).run P w = .ok (x1 == y1) w := fun d => by
          simp [Op.equalIn, run_underlying htk, run_underlying i3, typeInfo, i1, i2]
        exact ⟨eqGuard_plain (by simp) (.inl rfl), bin_of trivial (he 9998)⟩
      · cases h
    · rename_i hc
      have hne : t1 ≠ t2 := fun he => hc (by rw [he]; exact Nat.beq_refl _)
      simp only [Option.some.injEq] at h; subst h
      exact told trivial (by simp) (.inl rfl) (fun d => by simp [Op.equalIn, run_underlying htk, hne])
  · rename_i hd
    rw [hd] at htk; simp only [TKok] at htk; obtain ⟨ms, htk⟩ := htk
    simp only [VR] at hu hv; subst hu; obtain ⟨_, rfl, _⟩ := hv; cases h
    exact told trivial (by simp) (.inl rfl) (fun d => by simp [Op.equalIn, run_underlying htk])
  · rename_i hd
    rw [hd] at htk; simp only [TKok] at htk; obtain ⟨ms, htk⟩ := htk
    simp only [VR] at hu hv; subst hv; obtain ⟨_, rfl, _⟩ := hu; cases h
    exact told trivial (by simp) (.inl rfl) (fun d => by simp [Op.equalIn, run_underlying htk])
  · rename_i k n xs k' n' ys
    split at h
    · rename_i hc
      simp only [Bool.and_eq_true] at hc
      obtain ⟨hq, hk, hn, hsz⟩ := hc
      have := kEq_eq hk; subst this
      have hn := Nat.eq_of_beq_eq_true hn; subst hn
      have hsz := Nat.eq_of_beq_eq_true hsz; subst hsz
      simp only [VR, RR] at hu hv
      obtain ⟨cs, rfl, hx, hcs⟩ := hu
      obtain ⟨ds, rfl, hy, hds⟩ := hv
      have ec : cs = (xs.map (Value.int k)).toArray := by rw [← hcs]
      have ed : ds = (ys.map (Value.int k)).toArray := by rw [← hds]
      subst ec; subst ed
      obtain ⟨h1, h2⟩ := hE t d hq hT w k xs ys hx hy
      simp only [Option.some.injEq] at h; subst h
      rw [intsEq, fromN_full _ _ hx, fromN_full _ _ hy]
      exact ⟨eqGuard_agg h1, bin_of trivial h2⟩
    · cases h
  · cases h
theorem binAV_sound {T : TT} {eqT : TypeId → Bool} (hT : TTok P T) (hE : EqOK P T eqT) {iq : Nat → Bool} (hI : IntOK P iq) {t : TypeId} {op : BinOp} {a b r : AV} {u v : Value} (hu : VR S a m F u) (hv : VR S b m F v)
    (h : binAV (T t) (eqT t) iq op a b = some r) (x y : Operand) :
    ∃ z, (do eqGuard op t x y u v; binOp op t u v : Sem Value).run P w = .ok z w ∧ VR S r m F z := by
  unfold binAV at h
  split at h
  · rename_i k x' k' y'
    split at h
    · cases h
    · rename_i hy
      cases h; simp only [VR] at hu hv; subst hu; subst hv
      exact ⟨.int k (k.wrap (x' * 2 ^ (min y'.toNat k.bits))), by simp [eqGuard, binOp, Op.shift, hy], by simp only [VR]⟩
  · rename_i k x' k' y'
    split at h
    · cases h
    · rename_i hy
      cases h; simp only [VR] at hu hv; subst hu; subst hv
      exact ⟨.int k (x'.fdiv (2 ^ (min y'.toNat k.bits))), by simp [eqGuard, binOp, Op.shift, hy], by simp only [VR]⟩
  · split at h
    · rename_i hk
      have := kEq_eq hk; subst this
      simp only [VR] at hu hv; subst hu; subst hv
      obtain ⟨z, hz, hR⟩ := intBin_sound (P := P) (w := w) (S := S) (m := m) (F := F) h t
      exact ⟨z, by simp only [Sem.run_bind, eqGuard_plain (show ¬ (Value.int _ _ = .nilIface ∧ Value.int _ _ = .nilIface) by simp) (.inl rfl), Result.andThen_ok, hz], hR⟩
    · cases h
  · simp only [VR] at hu hv; subst hu; subst hv
    obtain ⟨z, hz, hR⟩ := strBin_sound (P := P) (w := w) (S := S) (m := m) (F := F) h t
    exact ⟨z, by simp only [Sem.run_bind, eqGuard_plain (show ¬ (Value.string _ = .nilIface ∧ Value.string _ = .nilIface) by simp) (.inl rfl), Result.andThen_ok, hz], hR⟩
  · cases hd : T t with
    | none => simp [hd] at h
    | some d =>
      simp only [hd, Option.bind_some, Option.map_eq_some_iff] at h
      obtain ⟨q, hq, rfl⟩ := h
      obtain ⟨h1, h2, _⟩ := otherEq_sound (w := w) hE hI hd (hT t d hd) hu hv hq .eql x y
      exact ⟨.bool q, by simp only [Sem.run_bind, h1, Result.andThen_ok, h2], by simp only [VR]⟩
  · cases hd : T t with
    | none => simp [hd] at h
    | some d =>
      simp only [hd, Option.bind_some, Option.map_eq_some_iff] at h
      obtain ⟨q, hq, rfl⟩ := h
      obtain ⟨h1, _, h2⟩ := otherEq_sound (w := w) hE hI hd (hT t d hd) hu hv hq .neq x y
      exact ⟨.bool !q, by simp only [Sem.run_bind, h1, Result.andThen_ok, h2], by simp only [VR]⟩
  · cases h
end Go.Abs
end

section
namespace Go.Abs
variable {P : Program} {B : Base} {m : MM} {S : SS} {F : FF} {H : Heap} {w : World}
theorem inBb_ok {e : Elt} {p : Pth} {n N : Nat} (h : inBb e p n N = true) : InB e p n N := by
  cases e with
  | none => exact Nat.le_of_ble_eq_true h
  | some x =>
    obtain ⟨i, w⟩ := x
    simp only [inBb, Bool.and_eq_true] at h
    exact ⟨Nat.le_of_ble_eq_true h.1, Nat.le_of_ble_eq_true h.2⟩
theorem thaw0 (n : Nat) : Thaw (0, 0) n := .inl rfl
/-- a new row of cells -/
theorem newRow_sound (h : WR B m S F H w) {b : Nat} (hb : b < H.length) (hd : hget H b = .dead) (hm : m b = none) (e : TypeId) {r : Row} {cells : Array Value} {n : Nat} (hn : n ≤ cells.size) (hrn : r.len = n)
    (hR : RR S r m F (cells.toList.take n)) :
    ∃ w' loc, (newRow e cells).run P w = .ok ⟨loc.b, 0, none⟩ w' ∧ loc.sz = cells.size ∧ loc.n = n ∧ WR B (mput m b loc) S F (hset H b (.cells r e)) w' := by
  refine ⟨{ w with heap := w.heap.push (.cells cells e) }, ⟨w.heap.size, cells.size, n⟩, by simp [newRow], rfl, rfl, ?_⟩
  refine h.put hb hd hm (by simp) (fun x hx => by simp [Array.getElem?_push, Nat.ne_of_lt hx]) (Nat.le_refl _) ?_ rfl rfl rfl
  refine ⟨_, cells, (0, 0), mput_self _ _ _, by simp, thaw0 _, rfl, hrn, hn, ?_⟩
  exact RR.mono (SS.le_refl _) r (mput_le m b _ hm) (FF.le_refl _) hR
theorem rowOf_sound {d : TD} {x : AV} {u : Value} {r : Row} (hu : VR S x m F u) (h : rowOf d x = some r) : RR S r m F u.cells.toList ∧ r.len = d.size ∧ u.cells.size = d.size := by
  have fin : RR S r m F u.cells.toList → r.len = d.size → RR S r m F u.cells.toList ∧ r.len = d.size ∧ u.cells.size = d.size := fun h1 h2 => ⟨h1, h2, by rw [← h2, ← RR_length h1]; simp⟩
  have one : ∀ (_ : (if (cellB x && Nat.beq d.size 1 && !d.agg) = true then some (Row.vals [x]) else none) = some r), RR S r m F u.cells.toList ∧ r.len = d.size ∧ u.cells.size = d.size := by
    intro h
    split at h
    · rename_i hc
      simp only [Bool.and_eq_true] at hc
      cases h
      have hone := VR_one hu hc.1.1
      have hcells : u.cells = #[u] := by cases u <;> first | rfl | (simp [Value.oneCell'] at hone)
      refine fin ?_ (by simp [Row.len, Nat.eq_of_beq_eq_true hc.1.2])
      rw [hcells]; simp only [RR]
      exact ⟨by simp only [LR]; exact ⟨u, [], rfl, hu, rfl⟩, by simpa using hone⟩
    · cases h
  cases x with
  | agg q =>
    simp only [rowOf] at h
    split at h
    · rename_i hc
      simp only [Bool.and_eq_true] at hc
      cases h
      simp only [VR] at hu
      obtain ⟨cs, rfl, hcs⟩ := hu
      exact fin hcs (Nat.eq_of_beq_eq_true hc.2)
    · cases h
  | int k n =>
    simp only [rowOf] at h
    split at h
    · rename_i hc
      simp only [Bool.and_eq_true] at hc
      cases h
      simp only [VR] at hu; subst hu
      exact fin (by simp [RR, Value.cells]) (by simp [Row.len, Nat.eq_of_beq_eq_true hc.1])
    · cases h
  | _ => exact one h
theorem foldl_splice : ∀ (us : List Value) (cells : Array Value) (off j : Nat), off + j + us.length ≤ cells.size →
    ((us.zipIdx j).foldl (fun cs (c, i) => cs.setIfInBounds (off + i) c) cells).toList = splice cells.toList (off + j) us
  | [], cells, off, j, _ => by simp [splice_nil]
  | u :: us, cells, off, j, h => by
    simp only [List.length_cons] at h
    simp only [List.zipIdx_cons, List.foldl_cons]
    rw [foldl_splice us _ off (j + 1) (by simp; omega), Array.toList_setIfInBounds, show off + (j + 1) = off + j + 1 by omega, splice_cons _ _ _ _ (by simp; omega)]
theorem fill_fold (v cells : Array Value) (off : Nat) (h : off + v.size ≤ cells.size) : (v.zipIdx.foldl (fun cs (c, j) => cs.setIfInBounds (off + j) c) cells).toList = splice cells.toList off v.toList := by
  have := foldl_splice v.toList cells off 0 (by simpa using h)
  rw [← Array.foldl_toList, Array.toList_zipIdx]
  simpa using this
/-- parts laid into a row, as the model lays them into cells -/
theorem fillAV_sound {place : Nat → Option (Elt × Pth × Nat)} {pl : Nat → Option (Nat × Nat)} (hp : ∀ i e p n, place i = some (e, p, n) → pl i = some (cellOf e p, n)) :
    ∀ (parts : List (Nat × AV)) (vals : List (Nat × Value)) (r r' : Row) (cells : Array Value), parts.map (·.1) = vals.map (·.1) → LR S (parts.map (·.2)) m F (vals.map (·.2)) → RR S r m F cells.toList →
    fillAV r place parts = some r' → ∃ cells', Instr.fill pl cells vals = some cells' ∧ RR S r' m F cells'.toList ∧ r'.len = r.len
  | [], vals, r, r', cells, h1, h2, h3, h4 => by
    have : vals = [] := by simpa using h1.symm
    subst this
    simp only [fillAV, Option.some.injEq] at h4; subst h4
    exact ⟨cells, rfl, h3, rfl⟩
  | (i, x) :: parts, [], r, r', cells, h1, _, _, _ => by simp at h1
  | (i, x) :: parts, (i', v) :: vals, r, r', cells, h1, h2, h3, h4 => by
    simp only [List.map_cons, List.cons.injEq] at h1
    obtain ⟨rfl, h1⟩ := h1
    simp only [List.map_cons, LR] at h2
    obtain ⟨v', vs', he, hx, h2⟩ := h2
    simp only [List.cons.injEq] at he
    obtain ⟨rfl, rfl⟩ := he
    simp only [fillAV] at h4
    cases hpl : place i with
    | none => simp [hpl] at h4
    | some q =>
      obtain ⟨e, p, n⟩ := q
      simp only [hpl] at h4
      have hpl' := hp i e p n hpl
      split at h4
      · rename_i hin
        have hin' := inBb_ok hin
        have hlt := InB_lt hin'
        have hcl := RR_length h3
        simp only [Array.length_toList] at hcl
        have step : ∀ (r1 : Row) (us : Array Value), v.cells = us → us.size = n → RR S r1 m F (splice cells.toList (cellOf e p) us.toList) → r1.len = r.len → fillAV r1 place parts = some r' →
            ∃ cells', Instr.fill pl cells ((i, v) :: vals) = some cells' ∧ RR S r' m F cells'.toList ∧ r'.len = r.len := by
          intro r1 us hus hsz hR hlen hf
          have hfold := fill_fold us cells (cellOf e p) (by omega)
          obtain ⟨c', hc', hR', hl'⟩ := fillAV_sound hp parts vals r1 r' (us.zipIdx.foldl (fun cs (c, j) => cs.setIfInBounds (cellOf e p + j) c) cells) h1 h2 (by rw [hfold]; exact hR) hf
          refine ⟨c', ?_, hR', hl'.trans hlen⟩
          simp only [Instr.fill, hpl', hus]
          rw [if_neg (by simp [hsz]; omega)]
          exact hc'
        have one : ∀ (_ : (if (cellB x && Nat.beq n 1) = true then (match r.set e p x with | some r' => fillAV r' place parts | none => none) else none) = some r'),
            ∃ cells', Instr.fill pl cells ((i, v) :: vals) = some cells' ∧ RR S r' m F cells'.toList ∧ r'.len = r.len := by
          intro h5
          split at h5
          · rename_i hc
            simp only [Bool.and_eq_true] at hc
            have hn1 : n = 1 := Nat.eq_of_beq_eq_true hc.2
            subst hn1
            cases hs : r.set e p x with
            | none => simp [hs] at h5
            | some r1 =>
              simp only [hs] at h5
              have hone := VR_one hx hc.1
              have hcells : v.cells = #[v] := by cases v <;> first | rfl | (simp [Value.oneCell'] at hone)
              obtain ⟨hR, hl⟩ := RR_set h3 hin' hx hone hs
              exact step r1 #[v] hcells rfl (by rw [splice_one _ _ _ (by simp; omega)]; exact hR) hl h5
          · cases h5
        cases x with
        | agg q =>
          simp only at h4
          split at h4
          · rename_i hq
            have hq' : q.len = n := Nat.eq_of_beq_eq_true hq
            cases hs : r.setSub e p n q with
            | none => simp [hs] at h4
            | some r1 =>
              simp only [hs] at h4
              simp only [VR] at hx
              obtain ⟨cs, rfl, hcs⟩ := hx
              obtain ⟨hR, hl⟩ := RR_setSub h3 hin' hcs hq' hs
              have hcl' := RR_length hcs
              exact step r1 cs rfl (by rw [← hq', ← hcl']; simp) hR hl h4
          · cases h4
        | _ => exact one h4
      · cases h4
end Go.Abs
end

section
namespace Go.Abs
variable {P : Program} {B : Base} {m : MM} {S : SS} {F : FF} {H : Heap} {w : World}
def Fresh (H : Heap) (m : MM) (b n : Nat) : Prop := ∀ j, j < n → b + j < H.length ∧ hget H (b + j) = .dead ∧ m (b + j) = none
/-- what an operation comes to -/
def Out (P : Program) (B : Base) (F : FF) (sem : Sem Next) (w : World) (m : MM) (S : SS) (b n : Nat) (x : AV) (H' : Heap) : Prop :=
  ∃ nx u w' m' S', sem.run P w = .ok nx w' ∧ (nx = .value u ∨ (nx = .skip ∧ u = undef)) ∧ VR S' x m' F u ∧ WR B m' S' F H' w' ∧ m.le m' ∧ S.le S' ∧ ∀ i, (i < b ∨ b + n ≤ i) → m' i = m i
theorem Out.val {s : Sem Value} {u : Value} {x : AV} {b n : Nat} (hW : WR B m S F H w) (h : s.run P w = .ok u w) (hx : VR S x m F u) : Out P B F (do pure (.value (← s))) w m S b n x H :=
  ⟨.value u, u, w, m, S, by simp [h], .inl rfl, hx, hW, MM.le_refl _, SS.le_refl _, fun _ _ => rfl⟩
theorem Out.val' {s : Sem Value} {u : Value} {x : AV} {b n : Nat} {w' : World} {m' : MM} {S' : SS} {H' : Heap} (hW : WR B m' S' F H' w') (h : s.run P w = .ok u w') (hx : VR S' x m' F u) (hm : m.le m') (hS : S.le S')
    (hi : ∀ i, (i < b ∨ b + n ≤ i) → m' i = m i) : Out P B F (do pure (.value (← s))) w m S b n x H' :=
  ⟨.value u, u, w', m', S', by simp [h], .inl rfl, hx, hW, hm, hS, hi⟩
theorem Out.skip {s : Sem Unit} {b n : Nat} {w' : World} {m' : MM} {S' : SS} {H' : Heap} (hW : WR B m' S' F H' w') (h : s.run P w = .ok () w') (hm : m.le m') (hS : S.le S') (hi : ∀ i, (i < b ∨ b + n ≤ i) → m' i = m i) :
    Out P B F (do s; pure .skip) w m S b n .top H' :=
  ⟨.skip, undef, w', m', S', by simp [h], .inr ⟨rfl, rfl⟩, by simp only [VR], hW, hm, hS, hi⟩
theorem mput_other (m : MM) (b : Nat) (l : Loc) : ∀ i, (i < b ∨ b + 1 ≤ i) → mput m b l i = m i := fun i hi => mput_ne m b l (by omega)
theorem Fresh.one {b : Nat} (h : Fresh H m b 1) : b < H.length ∧ hget H b = .dead ∧ m b = none := by simpa using h 0 (by omega)
theorem alloc_sound (h : WR B m S F H w) {b : Nat} (hf : Fresh H m b 1) {t : TypeId} {d : TD} (ht : TDok P t d) : Out P B F (do pure (.value (← Instr.alloc t true (.tuple #[])))) w m S b 1 (.ptr b none [] d.size) (hset H b (.cells d.zero t)) := by
  obtain ⟨hb, hd, hm⟩ := hf.one
  obtain ⟨z, hz, h1, h2, h3⟩ := run_zeroValue' ht w
  have hl := RR_length (h3 S)
  simp only [Array.length_toList, ht.zlen] at hl
  obtain ⟨w', loc, hr, hsz, hn, hW⟩ := newRow_sound (P := P) h hb hd hm t (r := d.zero) (cells := z.cells) (n := d.size) (by omega) ht.zlen
    (by rw [List.take_of_length_le (by simp [hl])]; exact RR.mono (SS.le_refl _) _ (noM_le _) (noF_le _) (h3 S))
  refine Out.val' hW (u := .pointer (some ⟨loc.b, 0, none⟩)) ?_ ?_ (mput_le m b loc hm) (SS.le_refl _) (mput_other m b loc)
  · simp [Instr.alloc, hz, newVar, hr]
  · simp only [VR]; exact ⟨loc, mput_self _ _ _, by simp [InB, flatP, hn], by simp [cellOf, flatP]⟩
theorem box_sound (h : WR B m S F H w) {b : Nat} (hf : Fresh H m b 1) {t : TypeId} {d : TD} {x : AV} {u : Value} {r : Row} (hu : VR S x m F u) (hr : rowOf d x = some r) :
    Out P B F (do pure (.value (← Instr.box t u))) w m S b 1 (.ptr b none [] d.size) (hset H b (.cells r t)) := by
  obtain ⟨hb, hd, hm⟩ := hf.one
  obtain ⟨hR, hl, hs⟩ := rowOf_sound hu hr
  obtain ⟨w', loc, hrun, hsz, hn, hW⟩ := newRow_sound (P := P) h hb hd hm t (r := r) (cells := u.cells) (n := d.size) (by omega) hl
    (by rw [List.take_of_length_le (by simp [hs])]; exact hR)
  refine Out.val' hW (u := .pointer (some ⟨loc.b, 0, none⟩)) ?_ ?_ (mput_le m b loc hm) (SS.le_refl _) (mput_other m b loc)
  · simp [Instr.box, newVar, hrun]
  · simp only [VR]; exact ⟨loc, mput_self _ _ _, by simp [InB, flatP, hn], by simp [cellOf, flatP]⟩
theorem cellOf_addF (o : Nat) : cellOf none (addF [] o) = o := by
  unfold addF; split <;> simp [cellOf, flatP, mulW_eq]
theorem LR_map {glob : Nat → Option (Row × Nat)} (hG : GlobOK glob S) {tm : List AV} {a : Act} (ht : LR S tm m F a.tmps.toList) : ∀ l : List Operand, LR S (l.map (evalO glob tm)) m F (l.map a.eval)
  | [] => by simp [LR]
  | o :: l => by simp only [List.map_cons, LR]; exact ⟨_, _, rfl, evalO_sound hG ht o, LR_map hG ht l⟩
theorem LR_parts {glob : Nat → Option (Row × Nat)} (hG : GlobOK glob S) {tm : List AV} {a : Act} (ht : LR S tm m F a.tmps.toList) (l : List (Nat × Operand)) :
    LR S ((l.map fun p => (p.1, evalO glob tm p.2)).map (·.2)) m F ((l.map fun p => (p.1, a.eval p.2)).map (·.2)) := by
  simp only [List.map_map]
  have := LR_map hG ht (l.map (·.2))
  simpa [List.map_map, Function.comp_def] using this
theorem build_sound (h : WR B m S F H w) {glob : Nat → Option (Row × Nat)} (hG : GlobOK glob S) {tm : List AV} {a : Act} (hA : LR S tm m F a.tmps.toList) {b n : Nat} {T : TT} (hT : TTok P T) {t : TypeId} {d : TD} (hd : T t = some d) (parts : Array (Nat × Operand)) {r : Row}
    (hs : (match d.tk with
      | .struct fs => fillAV d.zero (placeStruct fs) (parts.toList.map fun p => (p.1, evalO glob tm p.2))
      | .array n e => match T e with
        | some de => fillAV d.zero (placeArr de.size n) (parts.toList.map fun p => (p.1, evalO glob tm p.2))
        | none => none
      | _ => none) = some r) :
    Out P B F (do pure (.value (← Instr.build t (parts.map fun (i, x) => (i, a.eval x))))) w m S b n (.agg r) H := by
  have ht := hT t d hd
  obtain ⟨z, hz, _, _, h3⟩ := run_zeroValue' ht w
  have htk := ht.tk
  have hparts : (parts.map fun (i, x) => (i, a.eval x)).toList = parts.toList.map fun p => (p.1, a.eval p.2) := by simp
  have hl := LR_parts hG hA parts.toList
  have hfst : (parts.toList.map fun p => (p.1, evalO glob tm p.2)).map (·.1) = (parts.toList.map fun p => (p.1, a.eval p.2)).map (·.1) := by simp [List.map_map, Function.comp_def]
  have hzero : RR S d.zero m F z.cells.toList := RR.mono (SS.le_refl _) _ (noM_le _) (noF_le _) (h3 S)
  cases hk : d.tk with
  | struct fs =>
    rw [hk] at hs htk; simp only [TKok] at htk hs
    obtain ⟨fields, hu, hf⟩ := htk
    -- the places of fields
    have hmap : ∀ w : World, ∃ places : Array (Nat × Nat), (fields.mapM fun f => do pure (f.offset, ← sizeOf f.type) : Sem _).run P w = .ok places w ∧ places.toList = fs.map fun f => (f.1, f.2.1) := by
      intro w
      have key : ∀ (l : List Field) (fs : List (Nat × Nat × Nat)), l.map (fun f => (f.offset, (P.info? f.type).map (·.size), f.type)) = fs.map (fun f => (f.1, some f.2.1, f.2.2)) →
          (l.mapM fun f => do pure (f.offset, ← sizeOf f.type) : Sem _).run P w = .ok (fs.map fun f => (f.1, f.2.1)) w := by
        intro l
        induction l with
        | nil => intro fs hfs; have : fs = [] := by simpa using hfs.symm
                 subst this; rfl
        | cons f l ih =>
          intro fs hfs
          cases fs with
          | nil => simp at hfs
          | cons g fs =>
            simp only [List.map_cons, List.cons.injEq, Prod.mk.injEq] at hfs
            obtain ⟨⟨h1, h2, _⟩, hr⟩ := hfs
            have hsz : (sizeOf f.type).run P w = .ok g.2.1 w := by
              cases hi : P.info? f.type with
              | none => simp [hi] at h2
              | some i => simp only [hi, Option.map_some, Option.some.injEq] at h2; simp [sizeOf, typeInfo, hi, h2]
            simp only [List.mapM_cons, Sem.run_bind, hsz, Result.andThen_ok, Sem.run_pure, ih fs hr, h1, List.map_cons]
      refine ⟨(fs.map fun f => (f.1, f.2.1)).toArray, ?_, rfl⟩
      have e1 : fields.toList.toArray = fields := Array.toArray_toList
      rw [← e1, List.mapM_toArray, Sem.run_map, key fields.toList fs hf]
      rfl
    obtain ⟨places, hpl, hple⟩ := hmap w
    obtain ⟨cells', hfill, hR, _⟩ := fillAV_sound (pl := (places[·]?)) (fun i e p n hi => by
        simp only [placeStruct, Option.map_eq_some_iff] at hi
        obtain ⟨f, hf', he⟩ := hi
        simp only [Prod.mk.injEq] at he
        obtain ⟨rfl, rfl, rfl⟩ := he
        rw [cellOf_addF, ← Array.getElem?_toList, hple]
        simp [hf']) _ _ _ _ z.cells hfst hl hzero hs
    refine Out.val h (u := .agg cells') ?_ (by simp only [VR]; exact ⟨_, rfl, hR⟩)
    simp only [Instr.build, Sem.run_bind, hz, Result.andThen_ok, run_underlying hu, hpl, hparts, hfill, Sem.run_pure]
  | array len e =>
    rw [hk] at hs htk; simp only [TKok] at htk hs
    cases he : T e with
    | none => simp [he] at hs
    | some de =>
      simp only [he] at hs
      obtain ⟨cells', hfill, hR, _⟩ := fillAV_sound (pl := fun i => some (i * de.size, de.size)) (fun i e p n hi => by
          simp only [placeArr] at hi
          split at hi
          · simp only [Option.some.injEq, Prod.mk.injEq] at hi
            obtain ⟨rfl, rfl, rfl⟩ := hi
            rw [cellOf_addF]
          · cases hi) _ _ _ _ z.cells hfst hl hzero hs
      refine Out.val h (u := .agg cells') ?_ (by simp only [VR]; exact ⟨_, rfl, hR⟩)
      simp only [Instr.build, Sem.run_bind, hz, Result.andThen_ok, run_underlying htk, run_sizeOf' (hT e de he), hparts, hfill, Sem.run_pure]
  | _ => rw [hk] at hs; cases hs
end Go.Abs
end
