/- A certified abstract evaluator of the model's code (namespace Go.Abs), one part of it: what it answers holds of every run. Each theorem states its own conditions. -/
import Derived.Test.YtfbamgphngmglaaGreatDoorEngineC
set_option linter.unusedSimpArgs false
set_option linter.unusedVariables false
section
namespace Go.Abs
variable {P : Program} {B : Base} {m : MM} {S : SS} {F : FF} {H : Heap} {w : World}
theorem range_map_mod (zs : Array Value) (n : Nat) : ((List.range (n * zs.size)).map (fun i => zs[i % zs.size]!)) = (List.replicate n zs.toList).flatten := by
  induction n with
  | zero => simp
  | succ n ih =>
    rw [Nat.succ_mul, List.range_add, List.map_append, ih, List.replicate_succ', List.flatten_append]
    congr 1
    simp only [List.flatten_cons, List.flatten_nil, List.append_nil, List.map_map]
    apply List.ext_getElem
    · simp
    · intro i h1 h2
      simp only [List.getElem_map, List.getElem_range, Function.comp]
      have hi : i < zs.size := by simpa using h1
      have : (n * zs.size + i) % zs.size = i := by rw [Nat.add_comm, Nat.add_mul_mod_self_right, Nat.mod_eq_of_lt hi]
      simp [this, hi]
theorem zero_cells (zs : Array Value) (n : Nat) : ((Array.range (n * zs.size)).map (zs[· % zs.size]!)).toList = (List.replicate n zs.toList).flatten := by
  rw [Array.toList_map, Array.toList_range]
  exact range_map_mod zs n
theorem flatten_rep_take {α : Type} (l : List α) (n c : Nat) (h : n ≤ c) : ((List.replicate c l).flatten).take (n * l.length) = (List.replicate n l).flatten := by
  obtain ⟨k, rfl⟩ : ∃ k, c = n + k := ⟨c - n, by omega⟩
  rw [← List.replicate_append_replicate, List.flatten_append, List.take_append_of_le_length (by simp), List.take_of_length_le (by simp)]
theorem LR_flat {l : List AV} {vs : List Value} (h : LR S l m F vs) : ∀ n, LR S (List.replicate n l).flatten m F (List.replicate n vs).flatten
  | 0 => by simp [LR]
  | n + 1 => by simp only [List.replicate_succ, List.flatten_cons]; exact LR_append h (LR_flat h n)
theorem rep_one {α : Type} (v : α) : ∀ n, (List.replicate n [v]).flatten = List.replicate n v
  | 0 => rfl
  | n + 1 => by rw [List.replicate_succ, List.flatten_cons, rep_one v n]; rfl
theorem zeroRows_sound {d : TD} {r : Row} {n : Nat} {zs : Array Value} (h : RR S d.zero m F zs.toList) (hr : zeroRows d n = some r) : RR S r m F (List.replicate n zs.toList).flatten ∧ r.len = n * d.zero.len := by
  have fin : RR S r m F (List.replicate n zs.toList).flatten → RR S r m F (List.replicate n zs.toList).flatten ∧ r.len = n * d.zero.len := fun hR => ⟨hR, by rw [← RR_length hR, ← RR_length h]; simp⟩
  refine fin ?_
  unfold zeroRows at hr
  cases hz : d.zero with
  | ints k w z =>
    rw [hz] at h hr; simp only at hr
    simp only [RR] at h; obtain ⟨h1, h2⟩ := h
    split at hr
    · rename_i hw
      have hw' : w = 1 := Nat.eq_of_beq_eq_true hw
      subst hw'
      simp only [Option.some.injEq] at hr; subst hr
      obtain ⟨x, rfl⟩ : ∃ x, z = [x] := List.length_eq_one_iff.mp h1
      rw [h2]; simp only [RR]
      refine ⟨by simp, ?_⟩
      simp only [List.map_cons, List.map_nil, List.getD_cons_zero]
      rw [rep_one, List.map_replicate]
    · simp only [Option.some.injEq] at hr; subst hr
      rw [h2]; simp only [RR]
      refine ⟨by simp, fun y hy => by rw [List.eq_of_mem_replicate hy]; exact h1, ?_⟩
      rw [List.map_replicate]
  | vals l =>
    rw [hz] at h hr; simp only [Option.some.injEq] at hr; subst hr
    simp only [RR] at h ⊢
    refine ⟨LR_flat h.1 n, fun v hv => ?_⟩
    simp only [List.mem_flatten] at hv
    obtain ⟨l', hl', hv⟩ := hv
    rw [List.eq_of_mem_replicate hl'] at hv
    exact h.2 v hv
  | _ => rw [hz] at hr; cases hr
theorem winOk_none (n esz : Nat) : winOk none esz (n * esz) n 0 := ⟨rfl, rfl⟩
theorem buildSlice_sound (h : WR B m S F H w) {b : Nat} (hf : Fresh H m b 1) {glob : Nat → Option (Row × Nat)} (hG : GlobOK glob S) {tm : List AV} {a : Act} (hA : LR S tm m F a.tmps.toList) {t : TypeId} {e : Nat} {de : TD} (hu : P.underlying t = some (.slice e)) (hde : TDok P e de)
    {n : Nat} (hn : Nat.ble (n * de.size) 16777216 = true) (hpos : 0 < de.size) (parts : Array (Nat × Operand)) {r0 r : Row} (h0 : zeroRows de n = some r0)
    (hs : fillAV r0 (placeSl de.size n) (parts.toList.map fun p => (p.1, evalO glob tm p.2)) = some r) :
    Out P B F (do pure (.value (← Instr.buildSlice t n (parts.map fun (i, x) => (i, a.eval x))))) w m S b 1 (.sl b none de.size (.is n)) (hset H b (.cells r e)) := by
  obtain ⟨hb, hd, hm⟩ := hf.one
  obtain ⟨z, hz, _, _, h3⟩ := run_zeroValue' hde w
  have hparts : (parts.map fun (i, x) => (i, a.eval x)).toList = parts.toList.map fun p => (p.1, a.eval p.2) := by simp
  have hl := LR_parts hG hA parts.toList
  have hfst : (parts.toList.map fun p => (p.1, evalO glob tm p.2)).map (·.1) = (parts.toList.map fun p => (p.1, a.eval p.2)).map (·.1) := by simp [List.map_map, Function.comp_def]
  have hzero : RR S de.zero m F z.cells.toList := RR.mono (SS.le_refl _) _ (noM_le _) (noF_le _) (h3 S)
  have hzs : z.cells.size = de.size := by rw [← hde.zlen, ← RR_length hzero]; simp
  obtain ⟨hR0, hl0⟩ := zeroRows_sound hzero h0
  have hc0 := zero_cells z.cells n
  rw [hzs] at hc0
  obtain ⟨cells', hfill, hR, hlen⟩ := fillAV_sound (pl := fun i => some (i * de.size, de.size)) (fun i e p k hi => by
      simp only [placeSl] at hi
      split at hi
      · simp only [Option.some.injEq, Prod.mk.injEq] at hi
        obtain ⟨rfl, rfl, rfl⟩ := hi
        rw [cellOf_some]; simp [flatP]
      · cases hi) _ _ _ _ ((Array.range (n * de.size)).map (z.cells[· % de.size]!)) hfst hl (by rw [hc0]; exact hR0) hs
  have hcs : cells'.size = n * de.size := by have := RR_length hR; rw [hlen, hl0, hde.zlen] at this; simpa using this
  obtain ⟨w', loc, hrun, hsz, hn', hW⟩ := newRow_sound (P := P) h hb hd hm e (r := r) (cells := cells') (n := n * de.size) (by omega) (by rw [hlen, hl0, hde.zlen])
    (by rw [List.take_of_length_le (by simp [hcs])]; exact hR)
  have hle : ¬ (n * de.size > 2 ^ 24) := by have := Nat.le_of_ble_eq_true hn; omega
  refine Out.val' hW (u := .slice (some ⟨loc.b, 0, none⟩) n n) ?_ ?_ (mput_le m b loc hm) (SS.le_refl _) (mput_other m b loc)
  · simp only [Instr.buildSlice, Sem.run_bind, run_underlying hu, Result.andThen_ok, run_sizeOf' hde, Sem.run_ite]
    rw [if_neg hle]
    by_cases h0' : n * de.size = 0
    · simp only [h0', if_true, Sem.run_pure, Result.andThen_ok, hparts]
      rw [h0'] at hfill
      have e0 : ∀ f : Nat → Value, (Array.range 0).map f = #[] := fun f => by simp
      rw [e0] at hfill
      simp only [e0, hfill, Sem.run_bind, hrun, Result.andThen_ok, Sem.run_pure]
    · simp only [h0', if_false, Sem.run_bind, hz, Result.andThen_ok, Sem.run_pure, hparts, hzs, hfill, hrun]
  · simp only [VR]
    refine ⟨loc, n, 0, n, mput_self _ _ _, by simp, ?_, Nat.le_refl _, ?_, rfl, hpos⟩
    · rw [hn']; exact winOk_none n de.size
    · rw [hsz, hcs]; simp
theorem wrap_i64 {x : Int} (h1 : 0 ≤ x) (h2 : x ≤ 9223372036854775807) : IntKind.i64.wrap x = x := by
  have e : x % (2 ^ IntKind.i64.bits : Int) = x := Int.emod_eq_of_lt h1 (by simp only [IntKind.bits]; omega)
  unfold IntKind.wrap
  rw [e]
  have : ¬ (x ≥ (2 ^ (IntKind.i64.bits - 1) : Int)) := by simp only [IntKind.bits]; omega
  simp [IntKind.signed, this]
theorem makeSlice_sound (h : WR B m S F H w) {b : Nat} (hf : Fresh H m b 1) {t : TypeId} {e : Nat} {de : TD} (hu : P.underlying t = some (.slice e)) (hde : TDok P e de) (hpos : 0 < de.size)
    {l c : Int} {kl kc : IntKind} (hlc : 0 ≤ l ∧ l ≤ c ∧ c.toNat * de.bytes ≤ most ∧ c ≤ 9223372036854775807) {r : Row} (h0 : zeroRows de l.toNat = some r) :
    Out P B F (do pure (.value (← Instr.makeSlice t (.int kl l) (.int kc c)))) w m S b 1 (.sl b none de.size (.is c.toNat)) (hset H b (.cells r e)) := by
  obtain ⟨hb, hd, hm⟩ := hf.one
  obtain ⟨z, hz, _, _, h3⟩ := run_zeroValue' hde w
  obtain ⟨i, hi, hi1, hi2⟩ := run_typeInfo' hde w
  obtain ⟨hl0, hlc, hmost, hmax⟩ := hlc
  have hzero : RR S de.zero m F z.cells.toList := RR.mono (SS.le_refl _) _ (noM_le _) (noF_le _) (h3 S)
  have hzs : z.cells.size = de.size := by rw [← hde.zlen, ← RR_length hzero]; simp
  obtain ⟨hR0, hlr⟩ := zeroRows_sound hzero h0
  have hc0 := zero_cells z.cells c.toNat
  rw [hzs] at hc0
  have hle : l.toNat ≤ c.toNat := Int.toNat_le_toNat hlc
  have hsz0 : ((Array.range (c.toNat * de.size)).map (z.cells[· % de.size]!)).size = c.toNat * de.size := by simp
  have hmul : l.toNat * de.size ≤ c.toNat * de.size := Nat.mul_le_mul_right _ hle
  obtain ⟨w', loc, hrun, hsz, hn', hW⟩ := newRow_sound (P := P) h hb hd hm e (r := r) (cells := (Array.range (c.toNat * de.size)).map (z.cells[· % de.size]!)) (n := l.toNat * de.size) (by omega) (by rw [hlr, hde.zlen])
    (by rw [hc0]
        have hzl : z.cells.toList.length = de.size := by simpa using hzs
        have := flatten_rep_take z.cells.toList l.toNat c.toNat hle
        rw [hzl] at this
        rw [this]; exact hR0)
  have hw : ∀ x : Int, 0 ≤ x → x ≤ 9223372036854775807 → IntKind.i64.wrap x = x := fun x h1 h2 => by
    exact wrap_i64 h1 h2
  have hcw := hw c (by omega) hmax
  have hlw := hw l hl0 (by omega)
  have hbytes : ¬ (i.bytes * c > 2 ^ 48) := by
    rw [hi2]
    have h1 : ((c.toNat * de.bytes : Nat) : Int) ≤ (most : Nat) := by exact_mod_cast hmost
    have h2 : ((c.toNat * de.bytes : Nat) : Int) = c * de.bytes := by rw [Int.natCast_mul, Int.toNat_of_nonneg (by omega)]
    rw [Int.mul_comm, ← h2]; unfold most at h1; omega
  refine Out.val' hW (u := .slice (some ⟨loc.b, 0, none⟩) l.toNat c.toNat) ?_ ?_ (mput_le m b loc hm) (SS.le_refl _) (mput_other m b loc)
  · simp only [Instr.makeSlice, asInt, asIntOf, Sem.run_bind, run_underlying hu, Result.andThen_ok, Sem.run_pure, hi, hcw, hlw, Sem.run_ite]
    rw [if_neg (by simp only [Bool.or_eq_true, decide_eq_true_eq, not_or]; exact ⟨⟨⟨by omega, hbytes⟩, by omega⟩, by omega⟩)]
    simp only [Sem.run_bind, run_askRoom, Result.andThen_ok, run_sizeOf' hde, Sem.run_ite]
    by_cases h0' : c.toNat * de.size = 0
    · simp only [h0', if_true, Sem.run_pure, Result.andThen_ok]
      have e0 : ∀ f : Nat → Value, (Array.range 0).map f = #[] := fun f => by simp
      rw [h0', e0] at hrun
      simp only [e0, Sem.run_bind, hrun, Result.andThen_ok, Sem.run_pure]
    · simp only [h0', if_false, Sem.run_bind, hz, Result.andThen_ok, Sem.run_pure, hzs, hrun]
  · simp only [VR]
    refine ⟨loc, l.toNat, 0, c.toNat, mput_self _ _ _, by simp, ?_, hle, ?_, rfl, hpos⟩
    · rw [hn']; exact winOk_none _ _
    · rw [hsz]; simp
end Go.Abs
end

section
namespace Go.Abs
variable {P : Program} {B : Base} {m : MM} {S : SS} {F : FF} {H : Heap} {w : World}
theorem divE_eq (n w : Nat) : divE n w = n / w := by
  unfold divE; split <;> simp
theorem count_eq {r : Row} {len esz : Nat} (h : len * esz = r.len) (hp : 0 < esz) : r.count esz = len := by
  have e : r.len / esz = len := by rw [← h]; exact Nat.mul_div_cancel _ hp
  cases r with
  | vals l => simp only [Row.count, divE_eq]; exact e
  | ints k n z => simp only [Row.count, divE_eq]; exact e
  | pure n l => simp only [Row.count, divE_eq]; exact e
  | rows k w n ls =>
    simp only [Row.count]
    split
    · rename_i hw
      have hw' : w = esz := Nat.eq_of_beq_eq_true hw
      subst hw'
      exact (Nat.eq_of_mul_eq_mul_right hp h).symm
    · rw [divE_eq]; exact e
theorem winLen_eq {r : Row} {win : Option (Nat × Nat)} {esz len base : Nat} (h : winOk win esz r.len len base) (hp : 0 < esz) : winLen r win esz = len := by
  cases win with
  | none => exact count_eq h.1 hp
  | some x => obtain ⟨b, l⟩ := x; exact h.1.symm
/-- what a slice lies over -/
theorem slOf_sound (h : WR B m S F H w) {x : AV} {v : Value} {r : Row} {win : Option (Nat × Nat)} {esz n : Nat} (hv : VR S x m F v) (hr : slOf H x = some (r, win, esz, n)) :
    ∃ blk off c ee fr base cap, v = .slice (some ⟨blk, off + base * esz, none⟩) n cap ∧ w.heap[blk]? = some (.cells c ee fr) ∧ off + r.len ≤ c.size ∧ RR S r m F ((c.toList.drop off).take r.len) ∧ winOk win esz r.len n base ∧ n ≤ cap ∧ off + (base + cap) * esz ≤ c.size ∧ 0 < esz := by
  cases x with
  | sl id win' esz' cap =>
    simp only [slOf, rowAt] at hr
    simp only [VR] at hv
    obtain ⟨loc, len, base, cap', hm, rfl, hwin, hlc, hcap, _, hpos⟩ := hv
    have ho := h.obj id
    cases hg : hget H id with
    | cells r' ee =>
      rw [hg] at ho; simp only [hg, Option.some.injEq, Prod.mk.injEq] at hr
      obtain ⟨rfl, rfl, rfl, rfl⟩ := hr
      obtain ⟨loc', c, fr, h1, h2, h3, h4, h5, h6, h7⟩ := ho
      rw [hm] at h1; cases h1
      rw [← h5] at hwin
      exact ⟨loc.b, 0, c, ee, fr, base, cap', by simp [winLen_eq hwin hpos], h2, by omega, by rw [List.drop_zero, h5]; exact h7, by rw [winLen_eq hwin hpos]; exact hwin, by rw [winLen_eq hwin hpos]; exact hlc, by omega, hpos⟩
    | frozen r' =>
      rw [hg] at ho; simp only [hg, Option.some.injEq, Prod.mk.injEq] at hr
      obtain ⟨rfl, rfl, rfl, rfl⟩ := hr
      obtain ⟨loc', c, h1, h2, h3, h4, h5, h6⟩ := ho
      rw [hm] at h1; cases h1
      obtain ⟨ee, fr, hc⟩ := h.stab _ _ h2
      rw [← h4] at hwin
      exact ⟨loc.b, 0, c, ee, fr, base, cap', by simp [winLen_eq hwin hpos], hc, by omega, by rw [List.drop_zero, h4]; exact h6, by rw [winLen_eq hwin hpos]; exact hwin, by rw [winLen_eq hwin hpos]; exact hlc, by omega, hpos⟩
    | _ => simp [hg] at hr
  | vs r' win' esz' tight =>
    simp only [slOf, Option.some.injEq, Prod.mk.injEq] at hr
    obtain ⟨rfl, rfl, rfl, rfl⟩ := hr
    simp only [VR] at hv
    obtain ⟨a, off, c, len, base, cap', rfl, h2, hwin, h4, h5, h6, h7, hpos, h9⟩ := hv
    obtain ⟨ee, fr, hc⟩ := h.stab _ _ h2
    exact ⟨a, off, c, ee, fr, base, cap', by rw [winLen_eq hwin hpos], hc, h6, h9, by rw [winLen_eq hwin hpos]; exact hwin, by rw [winLen_eq hwin hpos]; exact h4, h5, hpos⟩
  | _ => simp [slOf] at hr
def Row.plain : Row → Bool
  | .vals _ => false
  | _ => true
theorem RR_plain {r : Row} {vs : List Value} (hp : r.plain = true) (h : RR S r m F vs) (m' : MM) (F' : FF) : RR S r m' F' vs := by
  cases r with
  | vals l => cases hp
  | _ => simpa only [RR] using h
/-- nothing is turned but rows that are written no more -/
def Frz (H H' : Heap) : Prop := H'.length = H.length ∧ ∀ i, hget H' i = hget H i ∨ ∃ r t, hget H i = .cells r t ∧ hget H' i = .frozen r
theorem Frz.refl (H : Heap) : Frz H H := ⟨rfl, fun _ => .inl rfl⟩
theorem Frz.trans {a b c : Heap} (h : Frz a b) (h' : Frz b c) : Frz a c := ⟨h'.1.trans h.1, fun i => by
  rcases h'.2 i with h1 | ⟨r, t, h1, h2⟩
  · rcases h.2 i with h3 | ⟨r, t, h3, h4⟩
    · exact .inl (h1.trans h3)
    · exact .inr ⟨r, t, h3, h1.trans h4⟩
  · rcases h.2 i with h3 | ⟨r', t', h3, h4⟩
    · exact .inr ⟨r, t, h3 ▸ h1, h2⟩
    · rw [h4] at h1; cases h1⟩
theorem Frz.hset {H : Heap} {id : Nat} {r : Row} {t : Nat} (h : hget H id = .cells r t) : Frz H (hset H id (.frozen r)) := ⟨hset_length _ _ _, fun i => by
  by_cases hi : i = id
  · subst hi
    exact .inr ⟨r, t, h, hget_hset_self H i _ (hget_lt (fun hd => by rw [hd] at h; cases h))⟩
  · exact .inl (hget_hset_ne H id i _ hi)⟩
theorem Frz.dead {H H' : Heap} (h : Frz H H') {i : Nat} (hd : hget H i = .dead) : hget H' i = .dead := by
  rcases h.2 i with h1 | ⟨r, t, h1, _⟩
  · rw [h1]; exact hd
  · rw [hd] at h1; cases h1
theorem Frz.cells {H H' : Heap} (h : Frz H H') {i : Nat} {r : Row} {t : Nat} (hc : hget H' i = .cells r t) : hget H i = .cells r t := by
  rcases h.2 i with h1 | ⟨r', t', _, h2⟩
  · rw [← h1]; exact hc
  · rw [h2] at hc; cases hc
theorem Frz.fresh {H H' : Heap} (h : Frz H H') {b n : Nat} (hf : Fresh H m b n) : Fresh H' m b n := fun j hj => by
  obtain ⟨h1, h2, h3⟩ := hf j hj
  exact ⟨by rw [h.1]; exact h1, h.dead h2, h3⟩
theorem purify_sound (h : WR B m S F H w) {x x' : AV} {u : Value} {H' : Heap} (hu : VR S x m F u) (hp : purify H x = some (x', H')) :
    ∃ S', S.le S' ∧ WR B m S' F H' w ∧ Frz H H' ∧ VR S' x' noM noF u := by
  have sc : ∀ (_ : (if pureCell x = true then some (x, H) else none) = some (x', H')), ∃ S', S.le S' ∧ WR B m S' F H' w ∧ Frz H H' ∧ VR S' x' noM noF u := by
    intro hp
    split at hp
    · rename_i hc
      simp only [Option.some.injEq, Prod.mk.injEq] at hp
      obtain ⟨rfl, rfl⟩ := hp
      refine ⟨S, SS.le_refl _, h, Frz.refl _, ?_⟩
      cases x with
      | vs r win esz t =>
        simp only [VR] at hu ⊢
        obtain ⟨a, off, c, len, base, cap', h1, h2, h3, h4, h5, h6, h7, h8, h9⟩ := hu
        exact ⟨a, off, c, len, base, cap', h1, h2, h3, h4, h5, h6, h7, h8, RR_plain (by cases r <;> first | rfl | cases hc) h9 _ _⟩
      | _ => first | (simp only [VR] at hu ⊢; exact hu) | cases hc
    · cases hp
  cases x with
  | sl id win esz cap =>
    simp only [VR] at hu
    obtain ⟨loc, len, base, cap', hm, rfl, hwin, hlc, hcap, _, hpos⟩ := hu
    simp only [purify] at hp
    cases hg : hget H id with
    | cells r te =>
      have main : r.plain = true → some (AV.vs r win esz false, hset H id (.frozen r)) = some (x', H') → ∃ S', S.le S' ∧ WR B m S' F H' w ∧ Frz H H' ∧ VR S' x' noM noF (.slice (some ⟨loc.b, base * esz, none⟩) len cap') := by
        intro hpl he
        simp only [Option.some.injEq, Prod.mk.injEq] at he
        obtain ⟨rfl, rfl⟩ := he
        obtain ⟨S', hS, hW, loc', c, h1, h2, h3, h4, h5, h6⟩ := h.freeze hg
        rw [hm] at h1; cases h1
        refine ⟨S', hS, hW, Frz.hset hg, ?_⟩
        simp only [VR]
        refine ⟨loc.b, 0, c, len, base, cap', by simp, h2, by rw [h3]; exact hwin, hlc, by omega, by omega, by simp, hpos, ?_⟩
        rw [List.drop_zero, h3]
        exact RR_plain hpl h6 _ _
      rw [hg] at hp
      cases r <;> first | exact main rfl hp | cases hp
    | frozen r =>
      have main : r.plain = true → some (AV.vs r win esz false, H) = some (x', H') → ∃ S', S.le S' ∧ WR B m S' F H' w ∧ Frz H H' ∧ VR S' x' noM noF (.slice (some ⟨loc.b, base * esz, none⟩) len cap') := by
        intro hpl he
        simp only [Option.some.injEq, Prod.mk.injEq] at he
        obtain ⟨rfl, rfl⟩ := he
        have ho := h.obj id
        rw [hg] at ho
        obtain ⟨loc', c, h1, h2, h3, h4, h5, h6⟩ := ho
        rw [hm] at h1; cases h1
        refine ⟨S, SS.le_refl _, h, Frz.refl _, ?_⟩
        simp only [VR]
        refine ⟨loc.b, 0, c, len, base, cap', by simp, h2, by rw [h4]; exact hwin, hlc, by omega, by omega, by simp, hpos, ?_⟩
        rw [List.drop_zero, h4]
        exact RR_plain hpl h6 _ _
      rw [hg] at hp
      cases r <;> first | exact main rfl hp | cases hp
    | _ => rw [hg] at hp; cases hp
  | _ => exact sc hp
theorem purifyAll_sound : ∀ {l l' : List AV} {S : SS} {H H' : Heap} {us : List Value}, WR B m S F H w → LR S l m F us → purifyAll H l = some (l', H') →
    ∃ S', S.le S' ∧ WR B m S' F H' w ∧ Frz H H' ∧ LR S' l' noM noF us ∧ l'.length = l.length
  | [], l', S, H, H', us, h, hu, hp => by
    simp only [purifyAll, Option.some.injEq, Prod.mk.injEq] at hp
    obtain ⟨rfl, rfl⟩ := hp
    simp only [LR] at hu; subst hu
    exact ⟨S, SS.le_refl _, h, Frz.refl _, by simp [LR], rfl⟩
  | x :: l, l', S, H, H', us, h, hu, hp => by
    simp only [LR] at hu
    obtain ⟨u, us', rfl, hx, hl⟩ := hu
    simp only [purifyAll] at hp
    cases h1 : purify H x with
    | none => simp [h1] at hp
    | some q =>
      obtain ⟨x', H1⟩ := q
      simp only [h1] at hp
      obtain ⟨S1, hS1, hW1, hF1, hx1⟩ := purify_sound h hx h1
      cases h2 : purifyAll H1 l with
      | none => simp [h2] at hp
      | some q =>
        obtain ⟨l1, H2⟩ := q
        simp only [h2, Option.some.injEq, Prod.mk.injEq] at hp
        obtain ⟨rfl, rfl⟩ := hp
        obtain ⟨S2, hS2, hW2, hF2, hl2, hlen⟩ := purifyAll_sound hW1 (LR.mono hS1 l (MM.le_refl _) (FF.le_refl _) hl) h2
        refine ⟨S2, SS.le_trans hS1 hS2, hW2, hF1.trans hF2, ?_, by simp [hlen]⟩
        simp only [LR]
        exact ⟨u, us', rfl, VR.mono hS2 _ (MM.le_refl _) (FF.le_refl _) hx1, hl2⟩
theorem flatten_win {ls : List (List Int)} {w : Nat} (k : IntKind) (h : ∀ z ∈ ls, z.length = w) (b n : Nat) :
    (((ls.map fun z => z.map (Value.int k)).flatten).drop (b * w)).take (n * w) = (((ls.drop b).take n).map fun z => z.map (Value.int k)).flatten := by
  have hd : ∀ (ls : List (List Int)) (b : Nat), (∀ z ∈ ls, z.length = w) → ((ls.map fun z => z.map (Value.int k)).flatten).drop (b * w) = ((ls.drop b).map fun z => z.map (Value.int k)).flatten := by
    intro ls
    induction ls with
    | nil => intro b _; simp
    | cons z ls ih =>
      intro b h
      have hz := h z List.mem_cons_self
      cases b with
      | zero => simp
      | succ b =>
        simp only [List.map_cons, List.flatten_cons, List.drop_succ_cons]
        rw [show (b + 1) * w = (z.map (Value.int k)).length + b * w by simp [hz, Nat.succ_mul]; omega, List.drop_length_add_append]
        exact ih b (fun z hz => h z (List.mem_cons_of_mem _ hz))
  have ht : ∀ (ls : List (List Int)) (n : Nat), (∀ z ∈ ls, z.length = w) → ((ls.map fun z => z.map (Value.int k)).flatten).take (n * w) = ((ls.take n).map fun z => z.map (Value.int k)).flatten := by
    intro ls
    induction ls with
    | nil => intro n _; simp
    | cons z ls ih =>
      intro n h
      have hz := h z List.mem_cons_self
      cases n with
      | zero => simp
      | succ n =>
        simp only [List.map_cons, List.flatten_cons, List.take_succ_cons]
        rw [show (n + 1) * w = (z.map (Value.int k)).length + n * w by simp [hz, Nat.succ_mul]; omega, List.take_length_add_append]
        rw [ih n (fun z hz => h z (List.mem_cons_of_mem _ hz))]
  rw [hd ls b h, ht _ n (fun z hz => h z (List.mem_of_mem_drop hz))]
theorem contentOf_ex (h : WR B m S F H w) {r q : Row} {win : Option (Nat × Nat)} {esz n base : Nat} {H' : Heap} {vs : List Value} (hR : RR S r m F vs) (hwin : winEx win esz r.len n base) (hpos : 0 < esz) (hc : contentOf H r win esz = some (q, H')) :
    ∃ S', S.le S' ∧ WR B m S' F H' w ∧ Frz H H' ∧ RR S' q m F ((vs.drop (base * esz)).take (n * esz)) ∧ q.len = n * esz := by
  have hvl := RR_length hR
  have hbn : base * esz + n * esz ≤ vs.length := by
    rw [hvl]
    cases win with
    | none => obtain ⟨h1, rfl⟩ := hwin; omega
    | some x => obtain ⟨b, l⟩ := x; obtain ⟨rfl, rfl, h3⟩ := hwin; rw [← Nat.add_mul]; exact h3
  have fin : ∀ q' : Row, RR S q' m F ((vs.drop (base * esz)).take (n * esz)) → some (q', H) = some (q, H') → ∃ S', S.le S' ∧ WR B m S' F H' w ∧ Frz H H' ∧ RR S' q m F ((vs.drop (base * esz)).take (n * esz)) ∧ q.len = n * esz := by
    intro q' hq' he
    simp only [Option.some.injEq, Prod.mk.injEq] at he
    obtain ⟨rfl, rfl⟩ := he
    exact ⟨S, SS.le_refl _, h, Frz.refl _, hq', by rw [← RR_length hq']; simp; omega⟩
  cases r with
  | ints k N z =>
    simp only [contentOf] at hc
    have hR0 := hR
    simp only [RR] at hR; obtain ⟨h1, rfl⟩ := hR
    split at hc
    · rename_i he1
      have : esz = 1 := Nat.eq_of_beq_eq_true he1
      subst this
      refine fin _ ?_ hc
      cases win with
      | none =>
        obtain ⟨h2, rfl⟩ := hwin
        simp only [Nat.zero_mul, List.drop_zero]
        rw [List.take_of_length_le (by simp [Row.len] at h2; simp; omega)]
        exact hR0
      | some x =>
        obtain ⟨b, l⟩ := x; obtain ⟨rfl, rfl, h3⟩ := hwin
        simp only [RR, Nat.mul_one]
        simp only [List.length_map] at hbn
        exact ⟨by simp; omega, by simp [List.map_take, List.map_drop]⟩
    · split at hc
      · rename_i heN
        have : esz = N := Nat.eq_of_beq_eq_true heN
        subst this
        cases win with
        | some x => cases hc
        | none =>
          refine fin _ ?_ hc
          obtain ⟨h2, rfl⟩ := hwin
          simp only [Row.len] at h2
          have hn : n = 1 := Nat.eq_of_mul_eq_mul_right hpos (by rw [h2, Nat.one_mul])
          subst hn
          simp only [RR, Nat.zero_mul, List.drop_zero, Nat.one_mul]
          exact ⟨rfl, by simpa using h1, by rw [List.take_of_length_le (by simp [h1])]; simp⟩
      · cases hc
  | rows k w' N ls =>
    simp only [contentOf] at hc
    have hR0 := hR
    simp only [RR] at hR; obtain ⟨h1, h2, rfl⟩ := hR
    split at hc
    · rename_i he1
      have : esz = w' := Nat.eq_of_beq_eq_true he1
      subst this
      refine fin _ ?_ hc
      cases win with
      | none =>
        obtain ⟨h3, rfl⟩ := hwin
        simp only [Nat.zero_mul, List.drop_zero]
        rw [List.take_of_length_le (by rw [hvl]; omega)]
        exact hR0
      | some x =>
        obtain ⟨b, l⟩ := x; obtain ⟨rfl, rfl, h3⟩ := hwin
        simp only [RR]
        have : base + n ≤ ls.length := by rw [h1]; exact Nat.le_of_mul_le_mul_right h3 hpos
        exact ⟨by simp; omega, fun z hz => h2 z (List.mem_of_mem_drop (List.mem_of_mem_take hz)), flatten_win k h2 base n⟩
    · cases hc
  | vals l =>
    simp only [contentOf] at hc
    split at hc
    · rename_i he1
      have : esz = 1 := Nat.eq_of_beq_eq_true he1
      subst this
      simp only [Option.map_eq_some_iff] at hc
      obtain ⟨⟨l', H1⟩, hp, he⟩ := hc
      simp only [Prod.mk.injEq] at he
      obtain ⟨rfl, rfl⟩ := he
      simp only [RR] at hR
      have hwl : LR S (winTake win l) m F ((vs.drop (base * 1)).take (n * 1)) := by
        simp only [Nat.mul_one]
        cases win with
        | none =>
          obtain ⟨h3, rfl⟩ := hwin
          simp only [winTake, List.drop_zero]
          rw [List.take_of_length_le (by simp only [Nat.mul_one] at h3; omega)]
          exact hR.1
        | some x =>
          obtain ⟨b, k⟩ := x; obtain ⟨rfl, rfl, h3⟩ := hwin
          exact LR_take _ (LR_drop _ hR.1)
      obtain ⟨S', hS, hW, hF, hl, hlen⟩ := purifyAll_sound h hwl hp
      have hq : RR S' (.pure l'.length l') m F ((vs.drop (base * 1)).take (n * 1)) := by
        simp only [RR]
        exact ⟨trivial, hl, fun v hv => hR.2 v (List.mem_of_mem_drop (List.mem_of_mem_take hv))⟩
      exact ⟨S', hS, hW, hF, hq, by rw [← RR_length hq]; simp; omega⟩
    · cases hc
  | pure N l =>
    simp only [contentOf] at hc
    have hR0 := hR
    simp only [RR] at hR; obtain ⟨h1, h2, h3⟩ := hR
    split at hc
    · rename_i he1
      have : esz = 1 := Nat.eq_of_beq_eq_true he1
      subst this
      refine fin _ ?_ hc
      cases win with
      | none =>
        obtain ⟨h4, rfl⟩ := hwin
        simp only [Nat.zero_mul, List.drop_zero]
        rw [List.take_of_length_le (by rw [hvl]; omega)]
        exact hR0
      | some x =>
        obtain ⟨b, k⟩ := x; obtain ⟨rfl, rfl, h4⟩ := hwin
        simp only [RR, Nat.mul_one]
        have hll := LR_length h2
        refine ⟨by simp; omega, LR_take _ (LR_drop _ h2), fun v hv => h3 v (List.mem_of_mem_drop (List.mem_of_mem_take hv))⟩
    · cases hc
theorem contentOf_sound (h : WR B m S F H w) {r q : Row} {win : Option (Nat × Nat)} {esz n base : Nat} {H' : Heap} {vs : List Value} (hR : RR S r m F vs) (hwin : winOk win esz r.len n base) (hpos : 0 < esz) (hc : contentOf H r win esz = some (q, H')) :
    ∃ S', S.le S' ∧ WR B m S' F H' w ∧ Frz H H' ∧ RR S' q m F ((vs.drop (base * esz)).take (n * esz)) ∧ q.len = n * esz := by
  obtain ⟨b, h1, h2, _⟩ := winOk_ex hwin
  obtain ⟨S', k1, k2, k3, k4, k5⟩ := contentOf_ex h hR h1 hpos hc
  refine ⟨S', k1, k2, k3, ?_, k5⟩
  rcases h2 with rfl | rfl
  · simpa using k4
  · exact k4
end Go.Abs
end

section
namespace Go.Abs
variable {P : Program} {B : Base} {m : MM} {S : SS} {F : FF} {H : Heap} {w : World}
theorem RR_app {q0 q q1 : Row} {vs us : List Value} (h0 : RR S q0 m F vs) (h : RR S q m F us) (ha : q0.app q = some q1) : RR S q1 m F (vs ++ us) := by
  cases q0 <;> cases q <;> simp only [Row.app] at ha <;> (try (cases ha; done))
  case ints.ints k n z k' n' z' =>
    split at ha
    · rename_i hk
      have := kEq_eq hk; subst this
      cases ha
      simp only [RR] at h0 h ⊢
      obtain ⟨rfl, rfl⟩ := h0; obtain ⟨rfl, rfl⟩ := h
      exact ⟨by simp, by simp⟩
    · cases ha
  case rows.rows k w' n ls k' w'' n' ls' =>
    split at ha
    · rename_i hk
      simp only [Bool.and_eq_true] at hk
      have := kEq_eq hk.1; subst this
      have := Nat.eq_of_beq_eq_true hk.2; subst this
      cases ha
      simp only [RR] at h0 h ⊢
      obtain ⟨rfl, h2, rfl⟩ := h0; obtain ⟨rfl, h3, rfl⟩ := h
      refine ⟨by simp, fun z hz => ?_, by simp⟩
      rcases List.mem_append.1 hz with hz | hz
      · exact h2 z hz
      · exact h3 z hz
    · cases ha
  case pure.pure n l n' l' =>
    cases ha
    simp only [RR] at h0 h ⊢
    obtain ⟨rfl, h2, h3⟩ := h0; obtain ⟨rfl, h4, h5⟩ := h
    refine ⟨by simp, LR_append h2 h4, fun v hv => ?_⟩
    rcases List.mem_append.1 hv with hv | hv
    · exact h3 v hv
    · exact h5 v hv
/-- a row goes on under a new number, in its own block -/
theorem WR.reuse (h : WR B m S F H w) {id b : Nat} {o : AO} {loc loc' : Loc} {w' : World} (hid : Mut H id) (hmid : m id = some loc) (hb : b < H.length) (hd : hget H b = .dead) (hm : m b = none)
    (hl : loc'.b = loc.b) (hsz : w'.heap.size = w.heap.size) (hk : ∀ x, x ≠ loc.b → w'.heap[x]? = w.heap[x]?) (ho : OR (mput m b loc') S F w' b o) (h1 : w'.os = w.os) (h2 : w'.output = w.output) (h3 : w'.tape = w.tape) :
    WR B (mput m b loc') S F (hset (hset H id .dead) b o) w' := by
  have hne : id ≠ b := fun he => by subst he; rw [hmid] at hm; cases hm
  have hle := mput_le m b loc' hm
  have hg : ∀ i, i ≠ b → i ≠ id → hget (hset (hset H id .dead) b o) i = hget H i := fun i h1 h2 => by rw [hget_hset_ne _ _ _ _ h1, hget_hset_ne _ _ _ _ h2]
  have hgb : hget (hset (hset H id .dead) b o) b = o := hget_hset_self _ _ _ (by rw [hset_length]; exact hb)
  have hgid : hget (hset (hset H id .dead) b o) id = .dead := by rw [hget_hset_ne _ _ _ _ hne, hget_hset_self _ _ _ (hget_lt (fun hd => by unfold Mut at hid; rw [hd] at hid; cases hid))]
  have hmut : ∀ i, Mut (hset (hset H id .dead) b o) i → i = b ∨ (i ≠ b ∧ i ≠ id ∧ Mut H i) := fun i hi => by
    by_cases h1 : i = b
    · exact .inl h1
    · by_cases h2 : i = id
      · subst h2; unfold Mut at hi; rw [hgid] at hi; cases hi
      · exact .inr ⟨h1, h2, by unfold Mut at *; rwa [hg i h1 h2] at hi⟩
  exact {
    obj := fun i => by
      by_cases hib : i = b
      · subst hib; rw [hgb]; exact ho
      · by_cases hii : i = id
        · subst hii; rw [hgid]; trivial
        · rw [hg i hib hii]
          refine OR.mono hle (SS.le_refl _) (h.obj i) (fun l hmo hml => hk _ (fun he => hii ?_))
          exact h.inj i id l loc hmo hid hml hmid he
    inj := fun i j l l' hi hj hml hml' he => by
      rcases hmut i hi with rfl | ⟨hi1, hi2, hi3⟩ <;> rcases hmut j hj with rfl | ⟨hj1, hj2, hj3⟩
      · rfl
      · rw [mput_self] at hml; cases hml; rw [mput_ne _ _ _ hj1] at hml'
        exact absurd (h.inj j id l' loc hj3 hid hml' hmid (by rw [← he, hl])) hj2
      · rw [mput_self] at hml'; cases hml'; rw [mput_ne _ _ _ hi1] at hml
        exact absurd (h.inj i id l loc hi3 hid hml hmid (by rw [he, hl])) hi2
      · rw [mput_ne _ _ _ hi1] at hml; rw [mput_ne _ _ _ hj1] at hml'
        exact h.inj i j l l' hi3 hj3 hml hml' he
    stab := fun x c hx => by
      obtain ⟨e, fr, hc⟩ := h.stab x c hx
      have hxl : x ≠ loc.b := fun he => by rw [he, h.apart id loc hid hmid] at hx; cases hx
      exact ⟨e, fr, by rw [hk x hxl]; exact hc⟩
    apart := fun i l hi hml => by
      rcases hmut i hi with rfl | ⟨hi1, hi2, hi3⟩
      · rw [mput_self] at hml; cases hml; rw [hl]; exact h.apart id loc hid hmid
      · rw [mput_ne _ _ _ hi1] at hml; exact h.apart i l hi3 hml
    size := by rw [hsz]; exact h.size
    keep := fun x hx hD => by
      by_cases he : x = loc.b
      · rcases h.own id loc hid hmid with h' | h'
        · exact absurd (he ▸ h') hD
        · omega
      · rw [hk x he]; exact h.keep x hx hD
    own := fun i l hi hml => by
      rcases hmut i hi with rfl | ⟨hi1, hi2, hi3⟩
      · rw [mput_self] at hml; cases hml; rw [hl]; exact h.own id loc hid hmid
      · rw [mput_ne _ _ _ hi1] at hml; exact h.own i l hi3 hml
    fresh := h.fresh
    os := h1.trans h.os
    output := h2.trans h.output
    tape := h3.trans h.tape }
theorem bytes_map (s : ByteArray) : (s.data.map fun b => Value.int .u8 b.toNat).toList = (bytesZ s).map (Value.int .u8) := by
  simp [bytesZ, List.map_map, Function.comp_def]
theorem bytesZ_length (s : ByteArray) : (bytesZ s).length = s.size := by
  unfold bytesZ; rw [List.length_map, Array.length_toList]; rfl
theorem RR_bytes (s : ByteArray) : RR S (.ints .u8 s.size (bytesZ s)) m F ((bytesZ s).map (Value.int .u8)) := by
  simp only [RR]; exact ⟨bytesZ_length s, trivial⟩
/-- what is appended -/
theorem tailOf_sound (h : WR B m S F H w) {x : AV} {v : Value} {q : Row} {esz n : Nat} {H' : Heap} (hv : VR S x m F v) (ht : tailOf H esz x = some (q, n, H')) :
    ∃ S' us, S.le S' ∧ WR B m S' F H' w ∧ Frz H H' ∧ RR S' q m F us ∧ us.length = n * esz ∧ (Builtin.lenOf v).run P w = .ok n w ∧ ∀ n', n' ≤ n → ∀ w' : World, w'.heap = w.heap → (Builtin.firstCells esz n' v).run P w' = .ok (us.take (n' * esz)).toArray w' := by
  have sl : ∀ (r : Row) (win : Option (Nat × Nat)) (e n' : Nat), slOf H x = some (r, win, e, n') → (if Nat.beq e esz = true then (contentOf H r win e).map fun (q, h') => (q, n', h') else none) = some (q, n, H') →
      ∃ S' us, S.le S' ∧ WR B m S' F H' w ∧ Frz H H' ∧ RR S' q m F us ∧ us.length = n * esz ∧ (Builtin.lenOf v).run P w = .ok n w ∧ ∀ n', n' ≤ n → ∀ w' : World, w'.heap = w.heap → (Builtin.firstCells esz n' v).run P w' = .ok (us.take (n' * esz)).toArray w' := by
    intro r win e n' hs hi
    by_cases he : Nat.beq e esz = true
    · rw [if_pos he] at hi
      have : e = esz := Nat.eq_of_beq_eq_true he
      subst this
      rw [Option.map_eq_some_iff] at hi
      obtain ⟨⟨q', H1⟩, hc, he⟩ := hi
      simp only [Prod.mk.injEq] at he
      obtain ⟨rfl, rfl, rfl⟩ := he
      obtain ⟨blk, off, c, ee, fr, base, cap, rfl, hh, hsz, hR, hwin, hlc, hcap, hpos⟩ := slOf_sound h hv hs
      obtain ⟨S', hS, hW, hF, hq, hql⟩ := contentOf_sound h hR hwin hpos hc
      have hbn : base * e + n' * e ≤ r.len := by exact winOk_le hwin
      rw [take_drop_take _ _ _ _ _ hbn] at hq
      refine ⟨S', _, hS, hW, hF, hq, by rw [RR_length hq, hql], rfl, fun n2 hn2 w' hw' => ?_⟩
      simp only [Builtin.firstCells]
      have hmul := Nat.mul_le_mul_right e hn2
      rw [List.take_take, Nat.min_eq_left hmul]
      exact run_loadCells' (by rw [hw']; exact hh) _ _ (by omega)
    · rw [if_neg he] at hi; cases hi
  cases x with
  | str s =>
    simp only [tailOf] at ht
    split at ht
    · rename_i he
      have : esz = 1 := Nat.eq_of_beq_eq_true he
      subst this
      simp only [Option.some.injEq, Prod.mk.injEq] at ht
      obtain ⟨rfl, rfl, rfl⟩ := ht
      simp only [VR] at hv; subst hv
      refine ⟨S, (bytesZ s).map (Value.int .u8), SS.le_refl _, h, Frz.refl _, RR_bytes s, by rw [List.length_map, bytesZ_length, Nat.mul_one], rfl, fun n2 hn2 w' _ => ?_⟩
      simp only [Builtin.firstCells, Sem.run_pure]
      congr 1
      apply Array.ext'
      rw [bytes_map, Nat.mul_one, ← List.map_take]
      congr 1
      simp [bytesZ, ByteArray.extract, ByteArray.copySlice, List.map_take]
    · cases ht
  | _ =>
    simp only [tailOf] at ht
    split at ht
    · rename_i r win e n' hs; exact sl r win e n' hs ht
    · cases ht
/-- append's own run: there is room -/
theorem append_fits {sT xT ty e : TypeId} {de : TD} (hde : TDok P e de) (hu : P.underlying sT = some (.slice e)) (hx : (∃ e', P.underlying xT = some (.slice e')) ∨ P.underlying xT = some .string) {ao : Option Addr} {len cap n : Nat} {xv : Value} {new : Array Value} {w' : World}
    (hn : (Builtin.lenOf xv).run P w = .ok n w) (hc : len + n ≤ cap) (hf : (Builtin.firstCells de.size n xv).run P w = .ok new w)
    (hs : (match ao with | some a => storeCells (a.add (len * de.size)) new.toList | none => pure ()).run P w = .ok () w') :
    (Builtin.append_ #[sT, xT] ty #[.slice ao len cap, xv]).run P w = .ok (.slice ao (len + n) cap) w' := by
  have hsz := run_sizeOf' hde w
  rcases hx with ⟨e', hx⟩ | hx
  all_goals
    cases ao with
    | none =>
      simp only [Sem.run_pure, Result.ok.injEq] at hs
      obtain ⟨_, rfl⟩ := hs
      simp [Builtin.append_, run_underlying hu, run_underlying hx, hsz, hn, hc, hf]
    | some a =>
      simp only at hs
      simp [Builtin.append_, run_underlying hu, run_underlying hx, hsz, hn, hc, hf, hs]
/-- .. there is none: a new row -/
theorem append_grows {sT xT ty e : TypeId} {de : TD} (hde : TDok P e de) (hu : P.underlying sT = some (.slice e)) (hx : (∃ e', P.underlying xT = some (.slice e')) ∨ P.underlying xT = some .string) {ao : Option Addr} {len cap n : Nat} {xv : Value} {old new : Array Value}
    (hn : (Builtin.lenOf xv).run P w = .ok n w) (hc : ¬ (len + n ≤ cap)) (hm : (len + n) * de.bytes ≤ most) (hpos : 0 < de.bytes)
    (ho : ∀ w' : World, w'.heap = w.heap → (Builtin.firstCells de.size len (.slice ao len cap)).run P w' = .ok old w') (hf : ∀ w' : World, w'.heap = w.heap → (Builtin.firstCells de.size n xv).run P w' = .ok new w') :
    ∃ newCap rest w', (Builtin.append_ #[sT, xT] ty #[.slice ao len cap, xv]).run P w = .ok (.slice (some ⟨w.heap.size, 0, none⟩) (len + n) newCap) w' ∧ w'.heap = w.heap.push (.cells (old ++ new ++ rest) e) ∧ len + n ≤ newCap ∧ rest.size = (newCap - (len + n)) * de.size ∧ w'.os = w.os ∧ w'.output = w.output ∧ w'.tape = w.tape := by
  obtain ⟨i, z, h1, h2, h3, h4, _, _, h5⟩ := hde.info
  have hzs : z.cells.size = de.size := by rw [← hde.zlen, ← RR_length (h5 (fun _ => none))]; simp
  have hfit := growslice_fits (need := len + n) (old := cap) (bytes := de.bytes) (by omega) (by unfold most at hm; exact hm)
  have hnm : len + n ≤ 140737488355328 := by
    unfold most at hm
    exact Nat.le_trans (Nat.le_mul_of_pos_right _ hpos) hm
  have h63 : ¬ (((len + n : Nat) : Int) > IntKind.i64.max) := by simp only [IntKind.max, IntKind.signed, IntKind.bits]; simp; omega
  have h63' : ¬ (9223372036854775807 < ((len : Int) + (n : Int))) := by omega
  have h48 : ¬ (281474976710656 < Builtin.nextslicecap (len + n) cap * de.bytes) := by omega
  have hq : (Question.appendCap (len + n) cap e).forced = false := rfl
  have ho' := ho w.drew rfl
  have hf' := hf w.drew rfl
  refine ⟨(Question.appendCap (len + n) cap e).cut (w.tape w.drawn (.appendCap (len + n) cap e)), Builtin.zeroCells z.cells ((Question.appendCap (len + n) cap e).cut (w.tape w.drawn (.appendCap (len + n) cap e)) - (len + n)), w.drew.alloc (.cells (old ++ new ++ Builtin.zeroCells z.cells ((Question.appendCap (len + n) cap e).cut (w.tape w.drawn (.appendCap (len + n) cap e)) - (len + n))) e), ?_, rfl, ?_, ?_, rfl, rfl, rfl⟩
  · rcases hx with ⟨e', hx⟩ | hx
    all_goals
      simp [Builtin.append_, run_underlying hu, run_underlying hx, sizeOf, zeroValue, typeInfo, h1, h2, h3, h4, hn, hc, h63', h48, hq, ho', hf', newRow]
      try rfl
  · simp only [Question.cut]; omega
  · simp [Builtin.zeroCells, hzs]
/-- what append does with some cells -/
structure App (P : Program) (sT xT ty e : TypeId) (de : TD) (xv : Value) (n : Nat) (us : List Value) (w : World) : Prop where
  fits : ∀ (ao : Option Addr) (len cap : Nat) (w' : World), len + n ≤ cap → (match ao with | some a => storeCells (a.add (len * de.size)) us | none => pure ()).run P w = .ok () w' →
    (Builtin.append_ #[sT, xT] ty #[.slice ao len cap, xv]).run P w = .ok (.slice ao (len + n) cap) w'
  grows : ∀ (ao : Option Addr) (len cap : Nat) (old : Array Value), ¬ (len + n ≤ cap) → (len + n) * de.bytes ≤ most → (∀ w' : World, w'.heap = w.heap → (Builtin.firstCells de.size len (.slice ao len cap)).run P w' = .ok old w') →
    ∃ newCap rest w', (Builtin.append_ #[sT, xT] ty #[.slice ao len cap, xv]).run P w = .ok (.slice (some ⟨w.heap.size, 0, none⟩) (len + n) newCap) w' ∧ w'.heap = w.heap.push (.cells (old ++ us.toArray ++ rest) e) ∧ len + n ≤ newCap ∧ rest.size = (newCap - (len + n)) * de.size ∧ w'.os = w.os ∧ w'.output = w.output ∧ w'.tape = w.tape
theorem App.of {sT xT ty e : TypeId} {de : TD} (hde : TDok P e de) (hu : P.underlying sT = some (.slice e)) (hx : (∃ e', P.underlying xT = some (.slice e')) ∨ P.underlying xT = some .string) (hpos : 0 < de.bytes) {n : Nat} {xv : Value} {us : List Value}
    (hn : (Builtin.lenOf xv).run P w = .ok n w) (hf : ∀ w' : World, w'.heap = w.heap → (Builtin.firstCells de.size n xv).run P w' = .ok us.toArray w') : App P sT xT ty e de xv n us w where
  fits ao len cap w' hc hs := append_fits hde hu hx hn hc (hf w rfl) (by simpa using hs)
  grows ao len cap old hc hm ho := append_grows hde hu hx hn hc hm hpos ho hf
/-- so many noughts -/
theorem App.zeros {sT xT ty e : TypeId} {de : TD} (hde : TDok P e de) (hu : P.underlying sT = some (.slice e)) {k : IntKind} (hx : P.underlying xT = some (.int k)) (hpos : 0 < de.bytes) {N : Int} (h0 : 0 ≤ N) (hN : N.toNat * de.bytes ≤ most) {z : Value}
    (hz : ∀ w : World, (zeroValue e).run P w = .ok z w) (hzs : z.cells.size = de.size) :
    App P sT xT ty e de (.int .i64 N) N.toNat (List.replicate N.toNat z.cells.toList).flatten w := by
  obtain ⟨i, zz, h1, h2, h3, h4, _, _, h5⟩ := hde.info
  have hzz : zz = z := by
    have := hz w
    simp [zeroValue, typeInfo, h1, h4] at this
    exact this
  subst hzz
  have hNm : N.toNat ≤ 140737488355328 := by
    unfold most at hN
    exact Nat.le_trans (Nat.le_mul_of_pos_right _ hpos) hN
  have hw : IntKind.i64.wrap N = N := wrap_i64 h0 (by omega)
  have hb : ¬ (N * (i.bytes : Int) > 2 ^ 48) := by
    rw [h3]
    have e1 : ((N.toNat * de.bytes : Nat) : Int) ≤ (most : Nat) := by exact_mod_cast hN
    have e2 : ((N.toNat * de.bytes : Nat) : Int) = N * de.bytes := by rw [Int.natCast_mul, Int.toNat_of_nonneg h0]
    rw [← e2]; unfold most at e1; omega
  have hneg : ¬ (N < 0) := by omega
  have hb' : ¬ (281474976710656 < N * (i.bytes : Int)) := by omega
  have hb2 : ¬ (281474976710656 < N * (de.bytes : Int)) := by rw [← h3]; omega
  have hzc : (if N.toNat * de.size = 0 then (#[] : Array Value) else Builtin.zeroCells zz.cells N.toNat).toList = (List.replicate N.toNat zz.cells.toList).flatten := by
    have := zero_cells zz.cells N.toNat
    rw [hzs] at this
    split
    · rename_i hz0
      rw [hz0] at this
      simpa using this
    · simp only [Builtin.zeroCells, hzs]; exact this
  have hcells : ∀ w' : World, (if N.toNat * de.size = 0 then pure #[] else do pure (Builtin.zeroCells (← zeroValue e).cells N.toNat) : Sem (Array Value)).run P w' = .ok ((List.replicate N.toNat zz.cells.toList).flatten).toArray w' := by
    intro w'
    rw [← hzc]
    split
    · simp
    · simp [hz w']
  have hz0 : ∀ (w' : World), N.toNat * de.size = 0 → (List.replicate N.toNat zz.cells.toList).flatten = [] := fun w' h => by
    rw [← hzc, if_pos h]
  have hz1 : ¬ (N.toNat * de.size = 0) → Builtin.zeroCells zz.cells N.toNat = ((List.replicate N.toNat zz.cells.toList).flatten).toArray := fun h => by
    rw [← hzc, if_neg h]
  refine ⟨fun ao len cap w' hc hs => ?_, fun ao len cap old hc hm ho => ?_⟩
  · have hsz := run_sizeOf' hde w
    by_cases h00 : N.toNat * de.size = 0
    · cases ao with
      | none =>
        simp only [Sem.run_pure, Result.ok.injEq] at hs
        obtain ⟨_, rfl⟩ := hs
        simp only [Builtin.append_]
        simp [run_underlying hu, run_underlying hx, hsz, asInt, asIntOf, hw, hneg, typeInfo, h1, hb', hc, h00]
      | some a =>
        simp only [hz0 w h00] at hs
        simp only [Builtin.append_]
        simp [run_underlying hu, run_underlying hx, hsz, asInt, asIntOf, hw, hneg, typeInfo, h1, hb', hc, h00, hs]
    · cases ao with
      | none =>
        simp only [Sem.run_pure, Result.ok.injEq] at hs
        obtain ⟨_, rfl⟩ := hs
        simp only [Builtin.append_]
        simp [run_underlying hu, run_underlying hx, hsz, asInt, asIntOf, hw, hneg, typeInfo, h1, hb', hc, h00, hz]
      | some a =>
        simp only at hs
        simp only [Builtin.append_]
        simp [run_underlying hu, run_underlying hx, hsz, asInt, asIntOf, hw, hneg, typeInfo, h1, hb', hc, h00, hz, hz1 h00, hs]
  · have hfit := growslice_fits (need := len + N.toNat) (old := cap) (bytes := de.bytes) (by omega) (by unfold most at hm; exact hm)
    have hnm : len + N.toNat ≤ 140737488355328 := by
      unfold most at hm
      exact Nat.le_trans (Nat.le_mul_of_pos_right _ hpos) hm
    have h63' : ¬ (9223372036854775807 < ((len : Int) + (N.toNat : Int))) := by omega
    have h63'' : ¬ (9223372036854775807 < ((len : Int) + max N 0)) := by omega
    have h48 : ¬ (281474976710656 < Builtin.nextslicecap (len + N.toNat) cap * de.bytes) := by omega
    have hq : (Question.appendCap (len + N.toNat) cap e).forced = false := rfl
    have ho' := ho w.drew rfl
    have hsz := run_sizeOf' hde w
    refine ⟨(Question.appendCap (len + N.toNat) cap e).cut (w.tape w.drawn (.appendCap (len + N.toNat) cap e)), Builtin.zeroCells zz.cells ((Question.appendCap (len + N.toNat) cap e).cut (w.tape w.drawn (.appendCap (len + N.toNat) cap e)) - (len + N.toNat)), w.drew.alloc (.cells (old ++ ((List.replicate N.toNat zz.cells.toList).flatten).toArray ++ Builtin.zeroCells zz.cells ((Question.appendCap (len + N.toNat) cap e).cut (w.tape w.drawn (.appendCap (len + N.toNat) cap e)) - (len + N.toNat))) e), ?_, rfl, ?_, ?_, rfl, rfl, rfl⟩
    · by_cases h00 : N.toNat * de.size = 0
      · simp only [Builtin.append_]
        simp [run_underlying hu, run_underlying hx, sizeOf, asInt, asIntOf, hw, hneg, typeInfo, zeroValue, h1, h2, h3, h4, hb', hb2, hc, h00, hz0 w h00, h63', h63'', h48, hq, ho', newRow]
        try rfl
      · simp only [Builtin.append_]
        simp [run_underlying hu, run_underlying hx, sizeOf, asInt, asIntOf, hw, hneg, typeInfo, zeroValue, h1, h2, h3, h4, hb', hb2, hc, h00, hz1 h00, h63', h63'', h48, hq, ho', newRow]
        try rfl
    · simp only [Question.cut]; omega
    · simp [Builtin.zeroCells, hzs]
end Go.Abs
end
