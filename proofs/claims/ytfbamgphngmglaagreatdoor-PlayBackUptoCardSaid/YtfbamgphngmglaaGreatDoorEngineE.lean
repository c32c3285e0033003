/- A certified abstract evaluator of the model's code (namespace Go.Abs), one part of it: what it answers holds of every run. Each theorem states its own conditions. -/
import Derived.Test.YtfbamgphngmglaaGreatDoorEngineD
set_option linter.unusedSimpArgs false
set_option linter.unusedVariables false
section
namespace Go.Abs
variable {P : Program} {B : Base} {m : MM} {S : SS} {F : FF} {H : Heap} {w : World}
/-- a new row that an append laid -/
theorem grown_sound (h : WR B m S F H w) {b : Nat} (hf : Fresh H m b 1) {e : TypeId} {r : Row} {cs rest : Array Value} {w' : World} {n cap esz : Nat} (hpos : 0 < esz) (hh : w'.heap = w.heap.push (.cells (cs ++ rest) e)) (h1 : w'.os = w.os) (h2 : w'.output = w.output) (h3 : w'.tape = w.tape)
    (hR : RR S r m F cs.toList) (hl : r.len = n * esz) (hrest : rest.size = (cap - n) * esz) (hc : n ≤ cap) :
    ∃ m', m.le m' ∧ WR B m' S F (hset H b (.cells r e)) w' ∧ VR S (.sl b none esz .any) m' F (.slice (some ⟨w.heap.size, 0, none⟩) n cap) ∧ ∀ i, (i < b ∨ b + 1 ≤ i) → m' i = m i := by
  obtain ⟨hb, hd, hm⟩ := hf.one
  have hcs : cs.size = n * esz := by have := RR_length hR; rw [hl] at this; simpa using this
  have hmul : n * esz + (cap - n) * esz = cap * esz := by rw [← Nat.add_mul]; congr 1; omega
  refine ⟨mput m b ⟨w.heap.size, (cs ++ rest).size, n * esz⟩, mput_le m b _ hm, ?_, ?_, mput_other m b _⟩
  · refine h.put hb hd hm (by rw [hh]; simp) (fun x hx => by rw [hh]; simp [Array.getElem?_push, Nat.ne_of_lt hx]) (Nat.le_refl _) ?_ h1 h2 h3
    refine ⟨_, cs ++ rest, (0, 0), mput_self _ _ _, by rw [hh]; simp, thaw0 _, rfl, hl, by simp [hcs], ?_⟩
    rw [Array.toList_append, List.take_append_of_le_length (by simp [hcs]), List.take_of_length_le (by simp [hcs])]
    exact RR.mono (SS.le_refl _) r (mput_le m b _ hm) (FF.le_refl _) hR
  · simp only [VR]
    refine ⟨_, n, 0, cap, mput_self _ _ _, by simp, winOk_none _ _, hc, ?_, trivial, hpos⟩
    simp only [Nat.zero_add, Array.size_append, hcs, hrest]; omega
theorem Out.weak {sem : Sem Next} {S1 : SS} {b n : Nat} {x : AV} {H' : Heap} (h : Out P B F sem w m S1 b n x H') (hS : S.le S1) : Out P B F sem w m S b n x H' := by
  obtain ⟨nx, u, w', m', S', h1, h2, h3, h4, h5, h6, h7⟩ := h
  exact ⟨nx, u, w', m', S', h1, h2, h3, h4, h5, SS.le_trans hS h6, h7⟩
theorem flatten_drop {ls : List (List Int)} {w : Nat} (k : IntKind) (h : ∀ z ∈ ls, z.length = w) (b : Nat) : ((ls.map fun z => z.map (Value.int k)).flatten).drop (b * w) = ((ls.drop b).map fun z => z.map (Value.int k)).flatten := by
  induction ls generalizing b with
  | nil => simp
  | cons z ls ih =>
    have hz := h z List.mem_cons_self
    cases b with
    | zero => simp
    | succ b =>
      simp only [List.map_cons, List.flatten_cons, List.drop_succ_cons]
      rw [show (b + 1) * w = (z.map (Value.int k)).length + b * w by simp [hz, Nat.succ_mul]; omega, List.drop_length_add_append]
      exact ih (fun z hz => h z (List.mem_cons_of_mem _ hz)) b
theorem flatten_take {ls : List (List Int)} {w : Nat} (k : IntKind) (h : ∀ z ∈ ls, z.length = w) (b : Nat) : ((ls.map fun z => z.map (Value.int k)).flatten).take (b * w) = ((ls.take b).map fun z => z.map (Value.int k)).flatten := by
  induction ls generalizing b with
  | nil => simp
  | cons z ls ih =>
    have hz := h z List.mem_cons_self
    cases b with
    | zero => simp
    | succ b =>
      simp only [List.map_cons, List.flatten_cons, List.take_succ_cons]
      rw [show (b + 1) * w = (z.map (Value.int k)).length + b * w by simp [hz, Nat.succ_mul]; omega, List.take_length_add_append]
      rw [ih (fun z hz => h z (List.mem_cons_of_mem _ hz)) b]
theorem allInts_cons (k : IntKind) (v : AV) (l : List AV) : allInts k (v :: l) = consInt k v (allInts k l) := rfl
theorem allInts_sound {k : IntKind} : ∀ {l : List AV} {vs : List Value} {z : List Int}, LR S l m F vs → allInts k l = some z → z.length = l.length ∧ vs = z.map (Value.int k)
  | [], vs, z, h, hz => by
    simp only [LR] at h; subst h
    have : z = [] := (Option.some.inj hz).symm
    subst this; simp
  | a :: l, vs, z, h, hz => by
    simp only [LR] at h
    obtain ⟨v, vs', rfl, h1, h2⟩ := h
    rw [allInts_cons] at hz
    unfold consInt at hz
    split at hz
    · rename_i k' x
      split at hz
      · rename_i hk
        have hk := kEq_eq hk; subst hk
        split at hz
        · rename_i z' hz'
          obtain ⟨i1, i2⟩ := allInts_sound h2 hz'
          cases hz
          simp only [VR] at h1
          exact ⟨by simp [i1], by rw [h1, i2]; rfl⟩
        · cases hz
      · cases hz
    · cases hz
theorem allInts_len {k : IntKind} : ∀ {l : List AV} {z : List Int}, allInts k l = some z → z.length = l.length
  | [], z, hz => by
    have : z = [] := (Option.some.inj hz).symm
    subst this; rfl
  | a :: l, z, hz => by
    rw [allInts_cons] at hz
    unfold consInt at hz
    split at hz
    · split at hz
      · split at hz
        · rename_i hz'
          cases hz
          simp [allInts_len hz']
        · cases hz
      · cases hz
    · cases hz
theorem firstInts_sound {r : Row} {k : IntKind} {n : Nat} {vs : List Value} {z : List Int} (h : RR S r m F vs) (hz : r.firstInts k n = some z) : z.length = n ∧ vs.take n = z.map (Value.int k) ∧ n ≤ r.len := by
  unfold Row.firstInts at hz
  split at hz
  · rename_i k' m' z'
    split at hz
    · rename_i hc
      simp only [Bool.and_eq_true] at hc
      have hk := kEq_eq hc.1; subst hk
      have hle := Nat.le_of_ble_eq_true hc.2
      simp only [RR] at h
      obtain ⟨h1, rfl⟩ := h
      cases hz
      exact ⟨by simp; omega, by rw [List.map_take], hle⟩
    · cases hz
  · rename_i l
    split at hz
    · rename_i hc
      have hle := Nat.le_of_ble_eq_true hc
      simp only [RR] at h
      obtain ⟨i1, i2⟩ := allInts_sound (LR_take n h.1) hz
      exact ⟨by rw [i1]; simp; omega, i2, hle⟩
    · cases hz
  · cases hz
theorem putVals_sound {k : IntKind} {full : Bool} {l : List AV} {vs : List Value} (h : LR S l m F vs) (h' : ∀ v ∈ vs, v.oneCell' = true) : RR S (putVals k full l) m F vs ∧ (putVals k full l).len = l.length := by
  unfold putVals
  split
  · split
    · rename_i z hz
      obtain ⟨i1, i2⟩ := allInts_sound h hz
      exact ⟨by simp only [RR]; exact ⟨trivial, i2⟩, i1⟩
    · exact ⟨by simp only [RR]; exact ⟨h, h'⟩, rfl⟩
  · exact ⟨by simp only [RR]; exact ⟨h, h'⟩, rfl⟩
/-- elements laid over others -/
theorem putAt_sound {r q r' : Row} {esz o : Nat} {us : List Value} (hq : RR S q m F us) (hp : r.putAt esz o q = some r') :
    (∀ vs, RR S r m F vs → RR S r' m F (splice vs (o * esz) us)) ∧ r'.len = r.len ∧ o * esz + us.length ≤ r.len := by
  cases r with
  | ints k n z =>
    cases q with
    | ints k' n' z' =>
      simp only [Row.putAt] at hp
      split at hp
      · rename_i hc
        simp only [Bool.and_eq_true] at hc
        have hk := kEq_eq hc.1
        have he : esz = 1 := Nat.eq_of_beq_eq_true hc.2.1
        have hle := Nat.le_of_ble_eq_true hc.2.2
        subst hk; subst he
        simp only [Option.some.injEq] at hp; subst hp
        simp only [RR] at hq
        obtain ⟨hq1, rfl⟩ := hq
        refine ⟨fun vs hv => ?_, rfl, by simp only [Row.len, List.length_map, Nat.mul_one]; omega⟩
        simp only [RR] at hv ⊢
        obtain ⟨hv1, rfl⟩ := hv
        refine ⟨by simp; omega, ?_⟩
        simp only [splice, Nat.mul_one, List.map_append, List.map_take, List.map_drop, List.length_map, hq1, List.append_assoc]
      · cases hp
    | _ => simp [Row.putAt] at hp
  | rows k w n ls =>
    cases q with
    | rows k' w' n' ls' =>
      simp only [Row.putAt] at hp
      split at hp
      · rename_i hc
        simp only [Bool.and_eq_true] at hc
        have hk := kEq_eq hc.1
        have hw : w = w' := Nat.eq_of_beq_eq_true hc.2.1
        have he : esz = w := Nat.eq_of_beq_eq_true hc.2.2.1
        have hle := Nat.le_of_ble_eq_true hc.2.2.2
        subst hk; subst hw; subst he
        simp only [Option.some.injEq] at hp; subst hp
        simp only [RR] at hq
        obtain ⟨hq1, hq2, rfl⟩ := hq
        have hl := flatten_length k hq2
        refine ⟨fun vs hv => ?_, rfl, by rw [hl, hq1, ← Nat.add_mul]; simp only [Row.len]; exact Nat.mul_le_mul_right _ hle⟩
        simp only [RR] at hv ⊢
        obtain ⟨hv1, hv2, rfl⟩ := hv
        refine ⟨by simp; omega, fun z hz => ?_, ?_⟩
        · simp only [List.mem_append] at hz
          rcases hz with hz | hz | hz
          · exact hv2 z (List.mem_of_mem_take hz)
          · exact hq2 z hz
          · exact hv2 z (List.mem_of_mem_drop hz)
        · simp only [splice, hl, hq1]
          rw [← Nat.add_mul, flatten_take k hv2, flatten_drop k hv2]
          simp only [List.map_append, List.flatten_append, List.append_assoc]
      · cases hp
    | _ => simp [Row.putAt] at hp
  | vals l =>
    cases q with
    | ints k' n' z' =>
      simp only [Row.putAt] at hp
      split at hp
      · rename_i hc
        simp only [Bool.and_eq_true] at hc
        have he : esz = 1 := Nat.eq_of_beq_eq_true hc.1
        have hle := Nat.le_of_ble_eq_true hc.2
        subst he
        simp only [Option.some.injEq] at hp; subst hp
        simp only [RR] at hq
        obtain ⟨hq1, rfl⟩ := hq
        have hlen : ∀ full, (putVals k' full (l.take o ++ (z'.map (AV.int k') ++ l.drop (o + n')))).len = l.length := by
          intro full
          have hx : (l.take o ++ (z'.map (AV.int k') ++ l.drop (o + n'))).length = l.length := by simp; omega
          unfold putVals
          split
          · split
            · rename_i z hz
              have : z.length = _ := (allInts_len hz)
              simp only [Row.len]; omega
            · exact hx
          · exact hx
        refine ⟨fun vs hv => ?_, hlen _, by simp only [Row.len, List.length_map, Nat.mul_one]; omega⟩
        simp only [RR] at hv
        refine (putVals_sound (vs := splice vs (o * 1) (z'.map (Value.int k'))) ?_ ?_).1
        · simp only [splice, Nat.mul_one, List.length_map, hq1, List.append_assoc]
          exact LR_append (LR_take o hv.1) (LR_append (LR_ints k' _ _ z') (LR_drop (o + n') hv.1))
        · intro v hv'
          simp only [splice, List.mem_append] at hv'
          rcases hv' with (hv' | hv') | hv'
          · exact hv.2 v (List.mem_of_mem_take hv')
          · obtain ⟨x, _, rfl⟩ := List.mem_map.mp hv'; rfl
          · exact hv.2 v (List.mem_of_mem_drop hv')
      · cases hp
    | _ => simp [Row.putAt] at hp
  | _ => simp [Row.putAt] at hp
theorem CapI.fits_le {c : CapI} {n cap : Nat} (h : c.fits n = true) (hh : c.holds cap) : n ≤ cap := by
  cases c with
  | any => cases h
  | is c => simp only [CapI.fits, CapI.holds] at *; have := Nat.le_of_ble_eq_true h; omega
  | ge c => simp only [CapI.fits, CapI.holds] at *; have := Nat.le_of_ble_eq_true h; omega
theorem normWin_full {r : Row} {esz : Nat} {win : Option (Nat × Nat)} (h : normWin r esz win = none) {len base : Nat} (hw : winOk win esz r.len len base) : len * esz = r.len ∧ base = 0 := by
  cases win with
  | none => exact hw
  | some x =>
    obtain ⟨b0, l⟩ := x
    unfold normWin at h
    dsimp only at h
    cases hb : (Nat.beq b0 0 && Nat.beq (l * esz) r.len) with
    | false => rw [hb] at h; cases h
    | true =>
      simp only [Bool.and_eq_true] at hb
      have h0 := Nat.eq_of_beq_eq_true hb.1
      have h1 := Nat.eq_of_beq_eq_true hb.2
      obtain ⟨k1, k2, k3, k4⟩ := hw
      exact ⟨by rw [k1]; exact h1, by omega⟩
/-- append of a row -/
theorem appendQ_sound (hW1 : WR B m S F H w) {b : Nat} (hf : Fresh H m b 1) {sT xT ty e : TypeId} {de : TD} {xv : Value} {n : Nat} {us : List Value} (hApp : App P sT xT ty e de xv n us w) (hsp : 0 < de.size) {s y : AV} {q : Row} {sv : Value}
    (hs1 : VR S s m F sv) (hq : RR S q m F us) (hul : us.length = n * de.size) {H' : Heap} (ha : appendQ e de.size de.bytes H b s q n = some (y, H')) :
    Out P B F (do pure (.value (← Builtin.append_ #[sT, xT] ty #[sv, xv]))) w m S b 1 y H' := by
      have hql : q.len = n * de.size := by rw [← RR_length hq, hul]
      unfold appendQ at ha
      split at ha
      · -- onto nil
        simp only [VR] at hs1; subst hs1
        split at ha
        · rename_i hmost
          split at ha
          · rename_i hn0
            cases ha
            have hus : us = [] := List.length_eq_zero_iff.mp (by rw [hul]; simp)
            subst hus
            have := hApp.fits none 0 0 w (by omega) rfl
            exact Out.val' (w' := w) (m' := m) (S' := S) hW1 (u := .slice none 0 0) (by simpa using this) (by simp only [VR]) (MM.le_refl _) (SS.le_refl _) (fun _ _ => rfl)
          · rename_i hn0
            cases ha
            have hnp : 0 < n := Nat.pos_of_ne_zero (fun h0 => hn0 h0)
            obtain ⟨newCap, rest, w', hrun, hh, hc, hrest, h1, h2, h3⟩ := hApp.grows none 0 0 #[] (by omega) (by simpa using hmost) (fun _ _ => rfl)
            obtain ⟨m', hm', hW', hV, hi⟩ := grown_sound hW1 hf (esz := de.size) (n := n) (cap := newCap) hsp (r := q) (cs := us.toArray) (rest := rest) (by simpa using hh) h1 h2 h3 (by simpa using hq) hql (by simpa using hrest) (by omega)
            exact Out.val' hW' (u := .slice (some ⟨w.heap.size, 0, none⟩) n newCap) (by simpa using hrun) hV hm' (SS.le_refl _) hi
        · cases ha
      · -- onto a tracked row
        rename_i id win esz' cap
        split at ha
        · rename_i r te hg
          split at ha
          · rename_i hesz
            have : esz' = de.size := Nat.eq_of_beq_eq_true hesz
            subst this
            dsimp only at ha
            split at ha
            · -- over what lies there
              rename_i b0 hb0
              split at ha
              · rename_i r' hput
                cases ha
                cases win with
                | none => cases hb0
                | some x =>
                  obtain ⟨b1, l1⟩ := x
                  simp only at hb0
                  split at hb0
                  · rename_i hfit
                    cases hb0
                    simp only [Bool.and_eq_true, Bool.or_eq_true] at hfit
                    have hs1' := hs1
                    simp only [VR] at hs1'
                    obtain ⟨loc, len, base, cap', k1, rfl, k3, k4, k5, k6, k7⟩ := hs1'
                    obtain ⟨rfl, g2, g3, g4⟩ := k3
                    have hbase : base = b0 := by
                      rcases hfit.2 with h' | h'
                      · have := Nat.eq_of_beq_eq_true h'; omega
                      · have := Nat.blt_eq.mp h'; rcases g3 with g3 | g3
                        · simp only [winLen] at this; omega
                        · exact g3
                    subst hbase
                    have hcap := CapI.fits_le hfit.1 k6
                    simp only [winLen] at hcap hput ⊢
                    obtain ⟨p1, p2, p3⟩ := putAt_sound (S := S) (m := m) (F := F) hq hput
                    have ho := hW1.obj id
                    rw [hg] at ho
                    obtain ⟨loc', c, fr, o1, o2, o3, o4, o5, o6, o7⟩ := ho
                    rw [k1] at o1; cases o1
                    obtain ⟨w', hst, hW'⟩ := storeCells_sound (P := P) hW1 hg k1 (c0 := (base + len) * de.size) p3 (RR_one hq) p1 p2
                    have hrun := hApp.fits (some ⟨loc.b, base * de.size, none⟩) len cap' w' hcap (by simp only [addr_add, ← Nat.add_mul]; exact hst)
                    refine Out.val' hW' hrun ?_ (MM.le_refl _) (SS.le_refl _) (fun _ _ => rfl)
                    simp only [VR]
                    refine ⟨loc, len + n, base, cap', k1, rfl, ⟨rfl, Nat.le_refl _, .inr rfl, ?_⟩, hcap, k5, k6, k7⟩
                    rw [← o5, ← Nat.add_assoc, Nat.add_mul, ← hul]; exact p3
                  · cases hb0
              · cases ha
            · split at ha
              · cases ha
              · rename_i q0 H2 hc0
                split at ha
                · rename_i hmost
                  split at ha
                  · cases ha
                  · rename_i q1 happ
                    have hsl : slOf H (.sl id win de.size cap) = some (r, win, de.size, winLen r win de.size) := by simp [slOf, rowAt, hg]
                    obtain ⟨blk, off, c, ee, fr, base, cap', rfl, hh, hsz, hR, hwin, hlc, hcap, _⟩ := slOf_sound hW1 hs1 hsl
                    obtain ⟨S2, hS2, hW2, hF2, hq0, hq0l⟩ := contentOf_sound hW1 hR hwin hsp hc0
                    have hbn : base * de.size + winLen r win de.size * de.size ≤ r.len := by exact winOk_le hwin
                    rw [take_drop_take _ _ _ _ _ hbn] at hq0
                    have hq2 := RR.mono hS2 q (MM.le_refl _) (FF.le_refl _) hq
                    have hq1 := RR_app hq0 hq2 happ
                    have hf2 := hF2.fresh hf
                    have hq1l : q1.len = (winLen r win de.size + n) * de.size := by rw [← RR_length hq1, List.length_append, RR_length hq0, hq0l, hul, Nat.add_mul]
                    -- growing
                    have grow : ∀ (H3 : Heap) (_ : WR B m S2 F H3 w) (_ : Fresh H3 m b 1), ¬ (winLen r win de.size + n ≤ cap') → some (AV.sl b none de.size .any, hset H3 b (.cells q1 e)) = some (y, H') →
                        Out P B F (do pure (.value (← Builtin.append_ #[sT, xT] ty #[.slice (some ⟨blk, off + base * de.size, none⟩) (winLen r win de.size) cap', xv]))) w m S b 1 y H' := by
                      intro H3 hW3 hf3 hcap3 he
                      cases he
                      obtain ⟨newCap, rest, w', hrun, hh', hc', hrest, h1, h2, h3⟩ := hApp.grows (some ⟨blk, off + base * de.size, none⟩) (winLen r win de.size) cap'
                        (((c.toList.drop (off + base * de.size)).take (winLen r win de.size * de.size)).toArray) hcap3 hmost
                        (fun w'' hw'' => by simp only [Builtin.firstCells]; exact run_loadCells' (by rw [hw'']; exact hh) _ _ (by omega))
                      obtain ⟨m', hm', hW', hV, hi⟩ := grown_sound hW3 hf3 (esz := de.size) (n := winLen r win de.size + n) (cap := newCap) hsp (r := q1) (cs := ((c.toList.drop (off + base * de.size)).take (winLen r win de.size * de.size)).toArray ++ us.toArray) (rest := rest) hh' h1 h2 h3 (by simpa using hq1) hq1l hrest hc'
                      exact Out.val' hW' hrun hV hm' hS2 hi
                    -- in its own block
                    have place : ∀ (capo : CapI), normWin r de.size win = none → (∃ r2 t2, hget H2 id = .cells r2 t2) → winLen r win de.size + n ≤ cap' → capo.holds cap' → some (AV.sl b none de.size capo, hset (hset H2 id .dead) b (.cells q1 te)) = some (y, H') →
                        Out P B F (do pure (.value (← Builtin.append_ #[sT, xT] ty #[.slice (some ⟨blk, off + base * de.size, none⟩) (winLen r win de.size) cap', xv]))) w m S b 1 y H' := by
                      intro capo hwn hg2 hcap3 hcapo he
                      cases he
                      obtain ⟨r2, t2, hg2⟩ := hg2
                      obtain ⟨hw1, rfl⟩ := normWin_full hwn hwin
                      have hr2 := hF2.cells hg2
                      rw [hg] at hr2; cases hr2
                      have ho := hW2.obj id
                      rw [hg2] at ho
                      obtain ⟨loc, c2, fr2, g1, g2, g3, g4, g5, g6, g7⟩ := ho
                      have hsv := hs1
                      simp only [VR] at hsv
                      obtain ⟨loc', len', base', cap2, k1, k2, k3, k4, k5, _⟩ := hsv
                      rw [g1] at k1; cases k1
                      simp only [Value.slice.injEq, Option.some.injEq, Addr.mk.injEq] at k2
                      obtain ⟨⟨kb, ko, _⟩, kl, kc⟩ := k2
                      obtain ⟨k3a, rfl⟩ := normWin_full hwn (g5 ▸ k3)
                      have hoff : off = 0 := by omega
                      subst hoff; subst kb; subst kc
                      rw [hh] at g2; cases g2
                      have hmut : Mut H2 id := by unfold Mut; rw [hg2]; rfl
                      have hmn : winLen r win de.size * de.size = loc.n := by rw [hw1, g5]
                      have hle : (winLen r win de.size + n) * de.size ≤ loc.sz := by
                        have := Nat.mul_le_mul_right de.size hcap3
                        simp only [Nat.zero_add] at k5
                        omega
                      rw [Nat.add_mul] at hle
                      obtain ⟨w', c', hst, hT, hc', hcs⟩ := run_storeCells' (P := P) (b := loc.b) (o := winLen r win de.size * de.size) us 0 c w hh (by rw [hul]; omega) g3 (RR_one hq2)
                      have hb0 := hf2.one
                      have hrun := hApp.fits (some ⟨loc.b, 0 + 0 * de.size, none⟩) (winLen r win de.size) cap' w' hcap3 (by simpa [addr_add] using hst)
                      refine Out.val' (m' := mput m b ⟨loc.b, loc.sz, (winLen r win de.size + n) * de.size⟩) (S' := S2) ?_ hrun ?_ (mput_le m b _ hb0.2.2) hS2 (mput_other m b _)
                      · refine hW2.reuse hmut g1 hb0.1 hb0.2.1 hb0.2.2 rfl hT.size hT.other ?_ hT.os hT.output hT.tape
                        refine ⟨_, c', _, mput_self _ _ _, hT.at_, by rw [hcs]; exact g3, by rw [hcs]; exact g4, hq1l, by simp only [Nat.add_mul]; omega, ?_⟩
                        refine RR.mono (SS.le_refl _) q1 (mput_le m b _ hb0.2.2) (FF.le_refl _) ?_
                        have e1 : c'.toList.take ((winLen r win de.size + n) * de.size) = (c.toList.drop (0 + 0 * de.size)).take (winLen r win de.size * de.size) ++ us := by
                          rw [hc', Nat.add_zero, Nat.zero_mul, Nat.zero_add, List.drop_zero, splice, Nat.add_mul]
                          rw [List.take_append_of_le_length (by simp [hul]; omega), List.take_of_length_le (by simp [hul]; omega)]
                        simp only [e1]; exact hq1
                      · simp only [VR]
                        refine ⟨_, winLen r win de.size + n, 0, cap', mput_self _ _ _, by simp, winOk_none _ _, hcap3, by simpa using k5, hcapo, hsp⟩
                    split at ha
                    · rename_i r2 t2 hg2
                      have hsv := hs1
                      simp only [VR] at hsv
                      obtain ⟨_, _, _, cap2, _, k2, _, _, _, k6, _⟩ := hsv
                      simp only [Value.slice.injEq] at k2
                      have kc := k2.2.2
                      subst kc
                      split at ha
                      · rename_i c0 _
                        have hcc0 : cap' = c0 := k6
                        split at ha
                        · rename_i hcc
                          split at ha
                          · rename_i hnw
                            exact place (.is c0) hnw ⟨r2, t2, hg2⟩ (by omega) hcc0 ha
                          · cases ha
                        · rename_i hcc
                          exact grow _ hW2 hf2 (by omega) ha
                      · split at ha
                        · rename_i hnw
                          split at ha
                          · rename_i hte
                            have hte := Nat.eq_of_beq_eq_true hte
                            by_cases hcc : winLen r win de.size + n ≤ cap'
                            · exact place .any hnw ⟨r2, t2, hg2⟩ hcc trivial (by rw [hte]; exact ha)
                            · exact grow _ (hW2.kill id) (fun j hj => by
                                obtain ⟨f1, f2, f3⟩ := hf2 j hj
                                refine ⟨by rw [hset_length]; exact f1, ?_, f3⟩
                                by_cases hji : b + j = id
                                · rw [hji]; exact hget_hset_self _ _ _ (by rw [← hji]; exact f1)
                                · rw [hget_hset_ne _ _ _ _ hji]; exact f2) hcc ha
                          · cases ha
                        · cases ha
                    · cases ha
                · cases ha
          · cases ha
        · cases ha
      · -- onto a row that is written no more
        rename_i r win esz'
        split at ha
        · rename_i hesz
          have : esz' = de.size := Nat.eq_of_beq_eq_true hesz
          subst this
          split at ha
          · cases ha
          · rename_i q0 H2 hc0
            dsimp only at ha
            split at ha
            · rename_i hmost
              have hsl : slOf H (.vs r win de.size true) = some (r, win, de.size, winLen r win de.size) := rfl
              have hsv := hs1
              simp only [VR] at hsv
              obtain ⟨_, _, _, _, _, cap2, k2, _, _, _, _, _, k6, _⟩ := hsv
              obtain ⟨blk, off, c, ee, fr, base, cap', rfl, hh, hsz, hR, hwin, hlc, hcap, _⟩ := slOf_sound hW1 hs1 hsl
              simp only [Value.slice.injEq] at k2
              have hcl : cap' = winLen r win de.size := by rw [k2.2.2, k6 (by trivial), ← k2.2.1]
              obtain ⟨S2, hS2, hW2, hF2, hq0, hq0l⟩ := contentOf_sound hW1 hR hwin hsp hc0
              have hbn : base * de.size + winLen r win de.size * de.size ≤ r.len := by exact winOk_le hwin
              rw [take_drop_take _ _ _ _ _ hbn] at hq0
              have hq2 := RR.mono hS2 q (MM.le_refl _) (FF.le_refl _) hq
              have hf2 := hF2.fresh hf
              split at ha
              · cases ha
                have hus : us = [] := List.length_eq_zero_iff.mp (by rw [hul]; simp)
                subst hus
                have := hApp.fits (some ⟨blk, off + base * de.size, none⟩) (winLen r win de.size) cap' w (by omega) rfl
                exact Out.val' (w' := w) (m' := m) (S' := S2) hW2 (u := .slice (some ⟨blk, off + base * de.size, none⟩) (winLen r win de.size) cap') (by simpa using this) (VR.mono hS2 _ (MM.le_refl _) (FF.le_refl _) hs1) (MM.le_refl _) hS2 (fun _ _ => rfl)
              · rename_i hn0
                split at ha
                · cases ha
                · rename_i q1 happ
                  cases ha
                  have hnp : 0 < n := Nat.pos_of_ne_zero (fun h0 => hn0 h0)
                  have hq1 := RR_app hq0 hq2 happ
                  have hq1l : q1.len = (winLen r win de.size + n) * de.size := by rw [← RR_length hq1, List.length_append, RR_length hq0, hq0l, hul, Nat.add_mul]
                  obtain ⟨newCap, rest, w', hrun, hh', hc', hrest, h1, h2, h3⟩ := hApp.grows (some ⟨blk, off + base * de.size, none⟩) (winLen r win de.size) cap'
                    (((c.toList.drop (off + base * de.size)).take (winLen r win de.size * de.size)).toArray) (by omega) hmost
                    (fun w'' hw'' => by simp only [Builtin.firstCells]; exact run_loadCells' (by rw [hw'']; exact hh) _ _ (by omega))
                  obtain ⟨m', hm', hW', hV, hi⟩ := grown_sound hW2 hf2 (esz := de.size) (n := winLen r win de.size + n) (cap := newCap) hsp (r := q1) (cs := ((c.toList.drop (off + base * de.size)).take (winLen r win de.size * de.size)).toArray ++ us.toArray) (rest := rest) hh' h1 h2 h3 (by simpa using hq1) hq1l hrest hc'
                  exact Out.val' hW' hrun hV hm' hS2 hi
            · cases ha
        · cases ha
      · cases ha

/-- append's value and heap -/
theorem appendAV_sound (h : WR B m S F H w) {b : Nat} (hf : Fresh H m b 1) {sT xT ty e : TypeId} {de : TD} (hde : TDok P e de) (hu : P.underlying sT = some (.slice e)) (hx : (∃ e', P.underlying xT = some (.slice e')) ∨ P.underlying xT = some .string) (hsp : 0 < de.size) (hbp : 0 < de.bytes)
    {s x y : AV} {sv xv : Value} (hs : VR S s m F sv) (hxv : VR S x m F xv) {H' : Heap} (ha : appendAV e de.size de.bytes H b s x = some (y, H')) :
    Out P B F (do pure (.value (← Builtin.append_ #[sT, xT] ty #[sv, xv]))) w m S b 1 y H' := by
  unfold appendAV at ha
  split at ha
  · -- nothing is appended
    simp only [VR] at hxv; subst hxv
    have hn : (Builtin.lenOf (.slice none 0 0)).run P w = .ok 0 w := rfl
    have hfc : (Builtin.firstCells de.size 0 (.slice none 0 0)).run P w = .ok #[] w := rfl
    have same : ∀ (ao : Option Addr) (len cap : Nat), sv = .slice ao len cap → len ≤ cap → Out P B F (do pure (.value (← Builtin.append_ #[sT, xT] ty #[sv, .slice none 0 0]))) w m S b 1 s H := by
      intro ao len cap he hc
      subst he
      have := append_fits (P := P) (ty := ty) hde hu hx (ao := ao) (len := len) (cap := cap) hn (by omega) hfc (w' := w) (by cases ao <;> rfl)
      exact Out.val h this hs
    split at ha
    · cases ha
      have hs' := hs
      simp only [VR] at hs'
      obtain ⟨_, _, _, _, _, rfl, _, hlc, _⟩ := hs'
      exact same _ _ _ rfl hlc
    · cases ha
      have hs' := hs
      simp only [VR] at hs'
      obtain ⟨_, _, _, _, _, _, rfl, _, _, hlc, _⟩ := hs'
      exact same _ _ _ rfl hlc
    · cases ha
      have hs' := hs
      simp only [VR] at hs'; subst hs'
      exact same _ _ _ rfl (Nat.le_refl _)
    · cases ha
  · split at ha
    · cases ha
    · rename_i q n H1 htl
      obtain ⟨S1, us, hS1, hW1, hF1, hq, hul, hlen, hfirst⟩ := tailOf_sound (P := P) h hxv htl
      have hs1 := VR.mono hS1 s (MM.le_refl _) (FF.le_refl _) hs
      have hfull : ∀ w' : World, w'.heap = w.heap → (Builtin.firstCells de.size n xv).run P w' = .ok us.toArray w' := fun w' hw' => by
        have := hfirst n (Nat.le_refl _) w' hw'
        rw [← hul, List.take_length] at this; exact this
      exact (appendQ_sound hW1 (hF1.fresh hf) (App.of (ty := ty) hde hu hx hbp hlen hfull) hsp hs1 hq hul ha).weak hS1
/-- append of noughts -/
theorem appendZ_sound (h : WR B m S F H w) {b : Nat} (hf : Fresh H m b 1) {sT xT ty e : TypeId} {de : TD} (hde : TDok P e de) (hu : P.underlying sT = some (.slice e)) {k : IntKind} (hx : P.underlying xT = some (.int k)) (hsp : 0 < de.size) (hbp : 0 < de.bytes)
    {N : Int} (h0 : 0 ≤ N) (hN : N.toNat * de.bytes ≤ most) {q : Row} (hq : zeroRows de N.toNat = some q) {s y : AV} {sv : Value} (hs : VR S s m F sv) {H' : Heap} (ha : appendQ e de.size de.bytes H b s q N.toNat = some (y, H')) :
    Out P B F (do pure (.value (← Builtin.append_ #[sT, xT] ty #[sv, .int .i64 N]))) w m S b 1 y H' := by
  obtain ⟨z, hz, _, _, h3⟩ := run_zeroValue' hde w
  have hz' : ∀ w : World, (zeroValue e).run P w = .ok z w := fun w2 => by
    obtain ⟨z2, hz2, _⟩ := run_zeroValue' hde w2
    obtain ⟨i, zz, i1, i2, i3, i4, _⟩ := hde.info
    simp [zeroValue, typeInfo, i1, i4] at hz hz2
    simp [zeroValue, typeInfo, i1, i4, hz]
  have hzero : RR S de.zero m F z.cells.toList := RR.mono (SS.le_refl _) _ (noM_le _) (noF_le _) (h3 S)
  have hzs : z.cells.size = de.size := by rw [← hde.zlen, ← RR_length hzero]; simp
  obtain ⟨hR, hl⟩ := zeroRows_sound hzero hq
  refine appendQ_sound h hf (App.zeros (ty := ty) hde hu hx hbp h0 hN hz' hzs) hsp hs hR ?_ ha
  rw [RR_length hR, hl, hde.zlen]
theorem firstE_sound {q q' : Row} {esz k n : Nat} {us : List Value} (h0 : 0 < esz) (hq : RR S q m F us) (hn : us.length = n * esz) (hk : k ≤ n) (h : q.firstE esz k = some q') : RR S q' m F (us.take (k * esz)) := by
  cases q with
  | ints kk n' z =>
    simp only [Row.firstE] at h
    split at h
    · rename_i he
      have := Nat.eq_of_beq_eq_true he
      subst this
      simp only [Option.some.injEq] at h; subst h
      simp only [RR] at hq ⊢
      obtain ⟨h1, rfl⟩ := hq
      simp only [List.length_map, Nat.mul_one] at hn
      exact ⟨by rw [List.length_take]; omega, by rw [Nat.mul_one, List.map_take]⟩
    · cases h
  | rows kk w n' z =>
    simp only [Row.firstE] at h
    split at h
    · rename_i he
      have := Nat.eq_of_beq_eq_true he
      subst this
      simp only [Option.some.injEq] at h; subst h
      simp only [RR] at hq ⊢
      obtain ⟨h1, h2, rfl⟩ := hq
      refine ⟨?_, fun x hx => h2 x (List.mem_of_mem_take hx), flatten_take kk h2 k⟩
      rw [flatten_length kk h2, h1] at hn
      rw [List.length_take, h1]
      have := Nat.eq_of_mul_eq_mul_right h0 hn; omega
    · cases h
  | _ => simp [Row.firstE] at h
theorem copy_run {dT ty e : TypeId} {de : TD} (hde : TDok P e de) (hu : P.underlying dT = some (.slice e)) {at_ : Array TypeId} (ha : at_[0]? = some dT) {ao : Option Addr} {dl dc : Nat} {xv : Value} {n : Nat} {cs : Array Value} {w' : World}
    (hn : (Builtin.lenOf xv).run P w = .ok n w) (hf : (Builtin.firstCells de.size (Nat.min n dl) xv).run P w = .ok cs w) (hs : (match ao with | some a => storeCells a cs.toList | none => pure ()).run P w = .ok () w') :
    (Builtin.copy_ at_ ty #[.slice ao dl dc, xv]).run P w = .ok (.int .i64 (Nat.min n dl : Nat)) w' := by
  have hsz := run_sizeOf' hde w
  cases ao with
  | none =>
    simp only [Sem.run_pure, Result.ok.injEq] at hs
    obtain ⟨_, rfl⟩ := hs
    simp [Builtin.copy_, ha, run_underlying hu, hn, hsz, hf, goInt]
  | some a =>
    simp only at hs
    simp [Builtin.copy_, ha, run_underlying hu, hn, hsz, hf, hs, goInt]
theorem copyAV_sound (h : WR B m S F H w) {b k : Nat} {dT ty e : TypeId} {de : TD} (hde : TDok P e de) (hu : P.underlying dT = some (.slice e)) {at_ : Array TypeId} (hat : at_[0]? = some dT) (hsp : 0 < de.size)
    {d x y : AV} {dv xv : Value} (hd : VR S d m F dv) (hx : VR S x m F xv) {H' : Heap} (ha : copyAV de.size H d x = some (y, H')) :
    Out P B F (do pure (.value (← Builtin.copy_ at_ ty #[dv, xv]))) w m S b k y H' := by
  unfold copyAV at ha
  split at ha
  · simp only [VR] at hx; subst hx
    split at ha
    · cases ha
      simp only [VR] at hd; subst hd
      have := copy_run (P := P) (ty := ty) (w := w) (w' := w) hde hu hat (ao := none) (dl := 0) (dc := 0) (xv := .slice none 0 0) (n := 0) (cs := #[]) rfl rfl rfl
      exact Out.val h this (by simp [VR])
    · rename_i id0 win0 e0 cap0
      cases ha
      simp only [VR] at hd
      obtain ⟨loc, len, base, cap, _, rfl, _⟩ := hd
      have := copy_run (P := P) (ty := ty) (w := w) (w' := w) hde hu hat (ao := some ⟨loc.b, base * e0, none⟩) (dl := len) (dc := cap) (xv := .slice none 0 0) (n := 0) (cs := #[]) rfl (by simp [Builtin.firstCells]) (by rfl)
      exact Out.val h this (by simp [VR])
    · cases ha
  · split at ha
    · cases ha
    · rename_i q n H1 htl
      obtain ⟨S1, us, hS1, hW1, hF1, hq, hul, hlen, hfirst⟩ := tailOf_sound (P := P) h hx htl
      have hd1 := VR.mono hS1 d (MM.le_refl _) (FF.le_refl _) hd
      split at ha
      · cases ha
        simp only [VR] at hd1; subst hd1
        have h0 := hfirst 0 (Nat.zero_le _) w rfl
        have := copy_run (P := P) (ty := ty) (w := w) (w' := w) hde hu hat (ao := none) (dl := 0) (dc := 0) hlen (by simpa using h0) rfl
        exact Out.val' hW1 this (by simp [VR]) (MM.le_refl _) hS1 (fun _ _ => rfl)
      · rename_i id win e' cap
        split at ha
        · rename_i r te hg
          split at ha
          · rename_i he
            have := Nat.eq_of_beq_eq_true he
            subst this
            split at ha
            · rename_i q' hq'
              split at ha
              · rename_i b0 hb0
                split at ha
                · rename_i r' hput
                  cases ha
                  simp only [VR] at hd1
                  obtain ⟨loc, len, base, cap', k1, rfl, k3, k4, k5, k6, k7⟩ := hd1
                  have ho := hW1.obj id
                  rw [hg] at ho
                  obtain ⟨loc', c, fr, o1, o2, o3, o4, o5, o6, o7⟩ := ho
                  rw [k1] at o1; cases o1
                  rw [← o5] at k3
                  have hwl := winLen_eq k3 k7
                  have hbase : base = b0 := by
                    cases win with
                    | none =>
                      simp only [Option.some.injEq] at hb0
                      rw [k3.2]; exact hb0
                    | some z =>
                      obtain ⟨b1, l1⟩ := z
                      simp only at hb0
                      split at hb0
                      · rename_i hfit
                        simp only [Option.some.injEq] at hb0; subst hb0
                        simp only [Bool.or_eq_true] at hfit
                        obtain ⟨g1, g2, g3, g4⟩ := k3
                        rcases hfit with h' | h'
                        · have := Nat.eq_of_beq_eq_true h'; omega
                        · have := Nat.blt_eq.mp h'
                          rcases g3 with g3 | g3
                          · rw [hwl] at this; omega
                          · exact g3
                      · cases hb0
                  subst hbase
                  rw [hwl] at hq' ⊢
                  have hk : (if Nat.ble len n = true then len else n) = Nat.min n len := by
                    cases hb : Nat.ble len n with
                    | true => have := Nat.le_of_ble_eq_true hb; simp [Nat.min_def]; omega
                    | false => have : ¬ len ≤ n := fun h' => by rw [Nat.ble_eq.mpr h'] at hb; cases hb
                               simp [Nat.min_def]; omega
                  rw [hk] at hq' ⊢
                  have hle : Nat.min n len ≤ n := Nat.min_le_left _ _
                  have hR' := firstE_sound hsp hq hul hle hq'
                  have hlen' : (us.take (Nat.min n len * de.size)).length = Nat.min n len * de.size := by
                    rw [List.length_take, hul]; exact Nat.min_eq_left (Nat.mul_le_mul_right _ hle)
                  obtain ⟨p1, p2, p3⟩ := putAt_sound (S := S1) (m := m) (F := F) hR' hput
                  obtain ⟨w', hst, hW'⟩ := storeCells_sound (P := P) hW1 hg k1 (c0 := base * de.size) p3 (RR_one hR') p1 p2
                  have hrun := copy_run (P := P) (ty := ty) (w := w) (w' := w') hde hu hat (ao := some ⟨loc.b, base * de.size, none⟩) (dl := len) (dc := cap') hlen (hfirst _ hle w rfl) (by simpa using hst)
                  exact Out.val' hW' hrun (by simp only [VR]) (MM.le_refl _) hS1 (fun _ _ => rfl)
                · cases ha
              · cases ha
            · cases ha
          · cases ha
        · cases ha
      · cases ha
end Go.Abs
end

section
namespace Go.Abs
variable {P : Program} {B : Base} {m : MM} {S : SS} {F : FF} {H : Heap} {w : World}
theorem flatP_append : ∀ (p q : Pth), flatP (p ++ q) = flatP p + flatP q
  | [], q => by simp [flatP]
  | [(i, w)], q => by
    cases q with
    | nil => simp [flatP]
    | cons a q => obtain ⟨j, v⟩ := a; simp [flatP]
  | (i, w) :: (j, v) :: p, q => by
    have := flatP_append ((j, v) :: p) q
    simp only [List.cons_append] at this ⊢
    simp only [flatP]
    rw [this]; omega
theorem flatP_addF (p : Pth) (o : Nat) : flatP (addF p o) = flatP p + o := by
  unfold addF; split
  · rfl
  · rw [flatP_append]; simp [flatP, mulW_eq]
theorem cellOf_flat (e : Elt) (p : Pth) : cellOf e p = (match e with | none => 0 | some (i, w) => i * w) + flatP p := by
  cases e with
  | none => simp [cellOf]
  | some x => obtain ⟨i, w⟩ := x; rw [cellOf_some]
theorem cellOf_add {e : Elt} {p : Pth} (o : Nat) : cellOf e (addF p o) = cellOf e p + o := by
  rw [cellOf_flat, cellOf_flat, flatP_addF]; omega
theorem cellOf_ix {e : Elt} {p : Pth} (i w : Nat) : cellOf e (p ++ [(i, w)]) = cellOf e p + i * w := by
  rw [cellOf_flat, cellOf_flat, flatP_append]; simp [flatP, mulW_eq]; omega
theorem InB_mono {e : Elt} {p q : Pth} {n k N : Nat} (h : InB e p n N) (hq : flatP q + k ≤ flatP p + n) : InB e q k N := by
  cases e with
  | none => simp only [InB] at *; omega
  | some x => obtain ⟨i, w⟩ := x; simp only [InB] at *; exact ⟨by omega, h.2⟩
theorem InB_add {e : Elt} {p : Pth} {n N : Nat} (h : InB e p n N) {o k : Nat} (ho : o + k ≤ n) : InB e (addF p o) k N :=
  InB_mono h (by rw [flatP_addF]; omega)
theorem InB_ix {e : Elt} {p : Pth} {n N : Nat} (h : InB e p n N) {i w len : Nat} (hi : i < len) (ho : len * w ≤ n) : InB e (p ++ [(i, w)]) w N :=
  InB_mono h (by
    rw [flatP_append]; simp only [flatP, mulW_eq]
    have : (i + 1) * w ≤ len * w := Nat.mul_le_mul_right w hi
    rw [Nat.add_mul] at this; omega)
/-- a place's address, and a part of it -/
theorem fieldAddr_sound {H' : Heap} (h : WR B m S F H w) {T : TT} (hT : TTok P T) {t : TypeId} {d : TD} (hd : T t = some d) {fs : List (Nat × Nat × Nat)} (hk : d.tk = .struct fs) {f off size ft : Nat} (hf : fs[f]? = some (off, size, ft))
    {x y : AV} {u : Value} (hu : VR S x m F u) {b n : Nat}
    (hy : (match (generalizing := false) x with
      | .ptr id e p n => if Nat.blt 0 size && Nat.ble (off + size) n then some (AV.ptr id e (addF p off) size, H) else none
      | .vptr r e p n => if Nat.blt 0 size && Nat.ble (off + size) n then some (AV.vptr r e (addF p off) size, H) else none
      | _ => none) = some (y, H')) :
    Out P B F (do pure (.value (← Instr.fieldAt t u f))) w m S b n y H' := by
  have htk := (hT t d hd).tk
  rw [hk] at htk; simp only [TKok] at htk
  obtain ⟨fields, hund, hfs⟩ := htk
  have hfield : ∃ fd, fields[f]? = some fd ∧ fd.offset = off ∧ (P.info? fd.type).map (·.size) = some size := by
    have h1 : (fields.toList.map (fun f => (f.offset, (P.info? f.type).map (·.size), f.type)))[f]? = some (off, some size, ft) := by rw [hfs]; simp [hf]
    rw [List.getElem?_map, Option.map_eq_some_iff] at h1
    obtain ⟨fd, h2, h3⟩ := h1
    simp only [Prod.mk.injEq] at h3
    exact ⟨fd, by simpa using h2, h3.1, h3.2.1⟩
  obtain ⟨fd, h1, h2, h3⟩ := hfield
  have hsz : 0 < size → ∀ a o, (fieldPlace ⟨a, o, none⟩ fd).run P w = .ok ⟨a, o + off, none⟩ w := fun hp a o => by
    cases hi : P.info? fd.type with
    | none => simp [hi] at h3
    | some i =>
      simp only [hi, Option.map_some, Option.some.injEq] at h3
      simp [fieldPlace, sizeOf, typeInfo, hi, h3, h2, addr_add]; omega
  cases x with
  | ptr id e p k =>
    simp only at hy
    split at hy
    · rename_i hc
      simp only [Bool.and_eq_true] at hc
      have hp : 0 < size := by have := hc.1; simpa using this
      have hle := Nat.le_of_ble_eq_true hc.2
      cases hy
      simp only [VR] at hu
      obtain ⟨loc, k1, k2, rfl⟩ := hu
      refine Out.val h (u := .pointer (some ⟨loc.b, cellOf e p + off, none⟩)) ?_ ?_
      · simp [Instr.fieldAt, run_underlying hund, h1, Instr.sureAddr, hsz hp]
      · simp only [VR]; exact ⟨loc, k1, InB_add k2 hle, by rw [cellOf_add]⟩
    · cases hy
  | vptr r e p k =>
    simp only at hy
    split at hy
    · rename_i hc
      simp only [Bool.and_eq_true] at hc
      have hp : 0 < size := by have := hc.1; simpa using this
      have hle := Nat.le_of_ble_eq_true hc.2
      cases hy
      simp only [VR] at hu
      obtain ⟨a, o, c, rfl, k1, k2, k3, k4⟩ := hu
      refine Out.val h (u := .pointer (some ⟨a, o + cellOf e p + off, none⟩)) ?_ ?_
      · simp [Instr.fieldAt, run_underlying hund, h1, Instr.sureAddr, hsz hp]
      · simp only [VR]; exact ⟨a, o, c, by rw [cellOf_add, Nat.add_assoc], k1, InB_add k2 hle, k3, k4⟩
    · cases hy
  | _ => simp at hy
theorem part_sound {T : TT} (hT : TTok P T) {t : TypeId} {d : TD} (hd : T t = some d) {cs : Array Value} {r : Row} (hR : RR S r m F cs.toList) {p : Pth} (hle : flatP p + d.size ≤ r.len)
    {y : AV} (hy : (if d.agg then (r.sub none p d.size).map .agg else r.get none p) = some y) (h1 : d.agg = false → 0 < d.size) : ∃ u, (part t cs (flatP p)).run P w = .ok u w ∧ VR S y m F u := by
  have ht := hT t d hd
  have hl := RR_length hR
  have hc : cellOf none p = flatP p := by simp [cellOf]
  by_cases ha : d.agg = true
  · rw [if_pos ha, Option.map_eq_some_iff] at hy
    obtain ⟨q, hq, rfl⟩ := hy
    have := RR_sub hR (e := none) (p := p) (n := d.size) (by simp only [InB]; exact hle) hq
    refine ⟨.agg (cs.extract (flatP p) (flatP p + d.size)), by simp [part, run_isAgg' ht, ha, run_sizeOf' ht], ?_⟩
    simp only [VR]
    refine ⟨_, rfl, ?_⟩
    rw [hc] at this
    have h2 := this.1
    simpa [Array.toList_extract, List.extract_eq_take_drop] using h2
  · rw [if_neg ha] at hy
    have ha' : d.agg = false := by simpa using ha
    have hp := h1 ha'
    obtain ⟨v, hv, hr⟩ := RR_get hR (e := none) (p := p) (by simp only [InB]; omega) hy
    rw [hc] at hv
    have hv' : cs[flatP p]? = some v := by simpa using hv
    exact ⟨v, by simp [part, run_isAgg' ht, ha', hv'], hr.1⟩

theorem TDok.one {t : TypeId} {d : TD} (h : TDok P t d) (ha : d.agg = false) : d.size = 1 := by
  obtain ⟨i, z, _, _, _, _, _, h6, h7⟩ := h.info
  have h1 := RR_length (h7 (fun _ => none))
  have hone := h6 ha
  have hcells : z.cells = #[z] := by cases z <;> first | rfl | (simp [Value.oneCell'] at hone)
  rw [hcells, h.zlen] at h1
  simpa using h1.symm
theorem field_sound (h : WR B m S F H w) {T : TT} (hT : TTok P T) {t : TypeId} {d : TD} (hd : T t = some d) {fs : List (Nat × Nat × Nat)} (hk : d.tk = .struct fs) {f off size ft : Nat} (hf : fs[f]? = some (off, size, ft))
    {r : Row} {y : AV} {u : Value} (hu : VR S (.agg r) m F u) {b n : Nat} {df : TD} (hdf : T ft = some df) (hle : off + size ≤ r.len)
    (hy : (if df.agg then (r.sub none (addF [] off) size).map .agg else r.get none (addF [] off)) = some y) :
    Out P B F (do pure (.value (← Instr.field t u f))) w m S b n y H := by
  have htk := (hT t d hd).tk
  rw [hk] at htk; simp only [TKok] at htk
  obtain ⟨fields, hund, hfs⟩ := htk
  have hfield : ∃ fd, fields[f]? = some fd ∧ fd.offset = off ∧ (P.info? fd.type).map (·.size) = some size ∧ fd.type = ft := by
    have h1 : (fields.toList.map (fun f => (f.offset, (P.info? f.type).map (·.size), f.type)))[f]? = some (off, some size, ft) := by rw [hfs]; simp [hf]
    rw [List.getElem?_map, Option.map_eq_some_iff] at h1
    obtain ⟨fd, h2, h3⟩ := h1
    simp only [Prod.mk.injEq] at h3
    exact ⟨fd, by simpa using h2, h3.1, h3.2.1, h3.2.2⟩
  obtain ⟨fd, h1, h2, h3, h4⟩ := hfield
  have hdok := hT ft df hdf
  have hsz : df.size = size := by
    obtain ⟨i, z, k1, k2, _⟩ := hdok.info
    rw [h4, k1] at h3
    simp only [Option.map_some, Option.some.injEq] at h3
    omega
  simp only [VR] at hu
  obtain ⟨cs, rfl, hR⟩ := hu
  have hfl : flatP (addF [] off) = off := by rw [flatP_addF]; simp [flatP]
  obtain ⟨v, hv, hr⟩ := part_sound (w := w) hT hdf hR (p := addF [] off) (by rw [hfl, hsz]; exact hle) (by rw [hsz]; exact hy) (fun ha => by rw [hdok.one ha]; omega)
  rw [hfl] at hv
  refine Out.val h (u := v) ?_ hr
  simp [Instr.field, run_underlying hund, h1, asAgg, h4, h2, hv]
theorem asIntOf_VR {x : AV} {v : Value} {i : Int} (h : VR S x m F v) (hi : intOf x = some i) : ∃ k, v = .int k i := by
  cases x <;> simp only [intOf] at hi
  all_goals first
    | (cases hi; done)
    | (cases hi; simp only [VR] at h; exact ⟨_, h⟩)
theorem indexArr_sound {H' : Heap} (h : WR B m S F H w) {T : TT} (hT : TTok P T) {t : TypeId} {d : TD} (hd : T t = some d) {len e : Nat} (hk : d.tk = .array len e) {de : TD} (hde : T e = some de)
    {x y : AV} {u v : Value} {k : IntKind} {i : Int} (hu : VR S x m F u) (hv : v = .int k i) (hi : 0 ≤ i ∧ i < (len : Int)) {b n : Nat}
    (hy : (match (generalizing := false) x with
             | .ptr id e p n => if Nat.ble (len * de.size) n then some (AV.ptr id e (p ++ [(i.toNat, de.size)]) de.size, H) else none
             | .vptr r e p n => if Nat.ble (len * de.size) n then some (AV.vptr r e (p ++ [(i.toNat, de.size)]) de.size, H) else none
             | _ => none) = some (y, H')) :
    Out P B F (do pure (.value (← Instr.indexAt t u v))) w m S b n y H' := by
  subst hv
  have htk := (hT t d hd).tk
  rw [hk] at htk; simp only [TKok] at htk
  have hsz := run_sizeOf' (hT e de hde) w
  have hlt : i.toNat < len := by omega
  cases x with
  | ptr id e' p q =>
    simp only at hy
    split at hy
    · rename_i hc
      have hle := Nat.le_of_ble_eq_true hc
      cases hy
      simp only [VR] at hu
      obtain ⟨loc, k1, k2, rfl⟩ := hu
      refine Out.val h (u := .pointer (some ⟨loc.b, cellOf e' p + i.toNat * de.size, none⟩)) ?_ ?_
      · simp [Instr.indexAt, asIntOf, run_underlying htk, Instr.sureAddr, hi, hsz, addr_add]
      · simp only [VR]; exact ⟨loc, k1, InB_ix k2 hlt hle, by rw [cellOf_ix]⟩
    · cases hy
  | vptr r e' p q =>
    simp only at hy
    split at hy
    · rename_i hc
      have hle := Nat.le_of_ble_eq_true hc
      cases hy
      simp only [VR] at hu
      obtain ⟨a, o, c, rfl, k1, k2, k3, k4⟩ := hu
      refine Out.val h (u := .pointer (some ⟨a, o + cellOf e' p + i.toNat * de.size, none⟩)) ?_ ?_
      · simp [Instr.indexAt, asIntOf, run_underlying htk, Instr.sureAddr, hi, hsz, addr_add]
      · simp only [VR]; exact ⟨a, o, c, by rw [cellOf_ix, Nat.add_assoc], k1, InB_ix k2 hlt hle, k3, k4⟩
    · cases hy
  | _ => simp at hy
theorem winOk_at {win : Option (Nat × Nat)} {esz N len base i : Nat} (h : winOk win esz N len base) (hi : i < len) : InB (some (ixOf win i, esz)) [] esz N ∧ cellOf (some (ixOf win i, esz)) [] = (base + i) * esz := by
  have hc : cellOf (some (ixOf win i, esz)) [] = ixOf win i * esz := by simp [cellOf, mulW_eq]
  rw [hc]
  cases win with
  | none =>
    obtain ⟨h1, rfl⟩ := h
    have := Nat.mul_le_mul_right esz (show i + 1 ≤ len from hi)
    exact ⟨by simp only [InB, flatP, ixOf]; exact ⟨by omega, by omega⟩, by simp [ixOf]⟩
  | some x =>
    obtain ⟨q, l⟩ := x
    obtain ⟨h1, h0, h3, h2⟩ := h
    have : base = q := by omega
    subst this
    have := Nat.mul_le_mul_right esz (show base + i + 1 ≤ base + l by omega)
    exact ⟨by simp only [InB, flatP, ixOf]; exact ⟨by omega, by omega⟩, by simp [ixOf]⟩
end Go.Abs
end

section
namespace Go.Abs
variable {P : Program} {B : Base} {m : MM} {S : SS} {F : FF} {H : Heap} {w : World}
theorem indexSl_sound {H' : Heap} (h : WR B m S F H w) {T : TT} (hT : TTok P T) {t : TypeId} {d : TD} (hd : T t = some d) {e : Nat} (hk : d.tk = .slice e) {de : TD} (hde : T e = some de)
    {x y : AV} {u v : Value} {k : IntKind} {i : Int} (hu : VR S x m F u) (hv : v = .int k i) {r : Row} {win : Option (Nat × Nat)} {esz l : Nat} (hs : slOf H x = some (r, win, esz, l)) (he : esz = de.size) (hi : 0 ≤ i ∧ i < (l : Int)) {b n : Nat}
    (hy : (match (generalizing := false) x with
               | .sl id _ _ _ => some (AV.ptr id (some (ixOf win i.toNat, esz)) [] esz, H)
               | .vs r _ _ _ => some (AV.vptr r (some (ixOf win i.toNat, esz)) [] esz, H)
               | _ => none) = some (y, H')) :
    Out P B F (do pure (.value (← Instr.indexAt t u v))) w m S b n y H' := by
  subst hv
  have htk := (hT t d hd).tk
  rw [hk] at htk; simp only [TKok] at htk
  have hsz := run_sizeOf' (hT e de hde) w
  have hlt : i.toNat < l := by omega
  cases x with
  | sl id win' esz' cap =>
    simp only [slOf, rowAt] at hs
    simp only [VR] at hu
    obtain ⟨loc, len, base, cap', hm, rfl, hwin, hlc, hcap, _, hpos⟩ := hu
    have hlen : l = len ∧ win = win' ∧ esz = esz' := by
      have ho := h.obj id
      cases hg : hget H id with
      | cells r' te =>
        rw [hg] at ho; simp only [hg, Option.some.injEq, Prod.mk.injEq] at hs
        obtain ⟨rfl, rfl, rfl, rfl⟩ := hs
        obtain ⟨loc', c, fr, h1, h2, h3, h4, h5, h6, h7⟩ := ho
        rw [hm] at h1; cases h1
        rw [← h5] at hwin
        exact ⟨winLen_eq hwin hpos, rfl, rfl⟩
      | frozen r' =>
        rw [hg] at ho; simp only [hg, Option.some.injEq, Prod.mk.injEq] at hs
        obtain ⟨rfl, rfl, rfl, rfl⟩ := hs
        obtain ⟨loc', c, h1, h2, h3, h4, h5, h6⟩ := ho
        rw [hm] at h1; cases h1
        rw [← h4] at hwin
        exact ⟨winLen_eq hwin hpos, rfl, rfl⟩
      | _ => simp [hg] at hs
    obtain ⟨rfl, rfl, rfl⟩ := hlen
    simp only [Option.some.injEq, Prod.mk.injEq] at hy
    obtain ⟨rfl, rfl⟩ := hy
    obtain ⟨q1, q2⟩ := winOk_at hwin hlt
    refine Out.val h (u := .pointer (some ⟨loc.b, base * esz + i.toNat * de.size, none⟩)) ?_ ?_
    · simp [Instr.indexAt, asIntOf, run_underlying htk, hi, hsz, addr_add]
    · simp only [VR]; exact ⟨loc, hm, q1, by rw [q2, he, Nat.add_mul]⟩
  | vs r' win' esz' tight =>
    simp only [slOf, Option.some.injEq, Prod.mk.injEq] at hs
    obtain ⟨rfl, rfl, rfl, rfl⟩ := hs
    simp only [VR] at hu
    obtain ⟨a, off, c, len, base, cap', rfl, h2, hwin, h4, h5, h6, h7, hpos, h9⟩ := hu
    have hlen := winLen_eq hwin hpos
    rw [hlen] at hlt hi
    simp only [Option.some.injEq, Prod.mk.injEq] at hy
    obtain ⟨rfl, rfl⟩ := hy
    obtain ⟨q1, q2⟩ := winOk_at hwin hlt
    refine Out.val h (u := .pointer (some ⟨a, off + base * esz' + i.toNat * de.size, none⟩)) ?_ ?_
    · simp [Instr.indexAt, asIntOf, run_underlying htk, hi, hsz, addr_add]
    · simp only [VR]; exact ⟨a, off, c, by rw [q2, ← he, Nat.add_mul, Nat.add_assoc], h2, q1, h6, h9⟩
  | _ => simp [slOf] at hs
theorem nthB (s : ByteArray) (i : Nat) : nthR (bytesL s) i = s[i]? := by
  rw [nthR_eq]
  show s.data.toList[i]? = s[i]?
  rw [Array.getElem?_toList]
  rfl
theorem index_sound (h : WR B m S F H w) {T : TT} (hT : TTok P T) {t : TypeId} {d : TD} (hd : T t = some d) {x y : AV} {u v : Value} {k : IntKind} {i : Int} (hu : VR S x m F u) (hv : v = .int k i) {b n : Nat}
    (hy : (match (generalizing := false) d.tk, x with
      | .array len e, .agg r => match T e with
        | some de => if Nat.ble (len * de.size) r.len then
            (if 0 ≤ i ∧ i < (len : Int) then
              (if de.agg then (r.sub none [(i.toNat, de.size)] de.size).map fun q => (.agg q, H) else (r.get none [(i.toNat, de.size)]).map fun v => (v, H))
             else none)
          else none
        | none => none
      | .str, .str s => match (if 0 ≤ i then nthR (bytesL s) i.toNat else none) with
        | some c => some (.int .u8 c.toNat, H)
        | none => none
      | _, _ => none) = some (y, H)) :
    Out P B F (do pure (.value (← Instr.index t u v))) w m S b n y H := by
  subst hv
  have htk := (hT t d hd).tk
  cases hk : d.tk with
  | array len e =>
    rw [hk] at htk; simp only [TKok] at htk
    cases x with
    | agg r =>
      rw [hk] at hy
      simp only at hy
      cases hde : T e with
      | none => simp [hde] at hy
      | some de =>
        simp only [hde] at hy
        have hdok := hT e de hde
        split at hy
        · rename_i hle
          split at hy
          · rename_i hi
            have hlt : i.toNat < len := by omega
            have hle := Nat.le_of_ble_eq_true hle
            simp only [VR] at hu
            obtain ⟨cs, rfl, hR⟩ := hu
            have hfl : flatP [(i.toNat, de.size)] = i.toNat * de.size := by simp [flatP, mulW_eq]
            have hmul := Nat.mul_le_mul_right de.size (show i.toNat + 1 ≤ len from hlt)
            rw [Nat.add_mul] at hmul
            have hy' : (if de.agg then (r.sub none [(i.toNat, de.size)] de.size).map AV.agg else r.get none [(i.toNat, de.size)]) = some y := by
              cases ha : de.agg
              · rw [ha] at hy; simp only [Bool.false_eq_true, if_false] at hy ⊢
                cases hg : r.get none [(i.toNat, de.size)] with
                | none => rw [hg] at hy; cases hy
                | some q => rw [hg] at hy; simp only [Option.map_some, Option.some.injEq, Prod.mk.injEq] at hy; rw [hy.1]
              · rw [ha] at hy; simp only [if_true] at hy ⊢
                cases hg : r.sub none [(i.toNat, de.size)] de.size with
                | none => rw [hg] at hy; cases hy
                | some q => rw [hg] at hy; simp only [Option.map_some, Option.some.injEq, Prod.mk.injEq] at hy ⊢; exact hy.1
            obtain ⟨v, hv, hr⟩ := part_sound (w := w) hT hde hR (p := [(i.toNat, de.size)]) (by rw [hfl]; omega) hy' (fun ha => by rw [hdok.one ha]; omega)
            rw [hfl] at hv
            refine Out.val h (u := v) ?_ hr
            simp [Instr.index, asIntOf, run_underlying htk, hi, run_sizeOf' hdok, hv]
          · cases hy
        · cases hy
    | _ => rw [hk] at hy; simp at hy
  | str =>
    rw [hk] at htk; simp only [TKok] at htk
    cases x with
    | str s =>
      rw [hk] at hy
      simp only at hy
      simp only [VR] at hu; subst hu
      rw [nthB] at hy
      cases hc : (if 0 ≤ i then s[i.toNat]? else none) with
      | none => simp [hc] at hy
      | some c =>
        simp only [hc, Option.some.injEq, Prod.mk.injEq] at hy
        refine Out.val h (u := .int .u8 c.toNat) ?_ (by rw [← hy.1]; simp only [VR])
        simp [Instr.index, asIntOf, run_underlying htk, hc]
    | _ => rw [hk] at hy; simp at hy
  | _ => rw [hk] at hy; simp at hy
theorem extract_sound (h : WR B m S F H w) {l : List AV} {u : Value} {i : Nat} {y : AV} (hu : VR S (.tup l) m F u) (hy : l[i]? = some y) {b n : Nat} : Out P B F (do pure (.value (← Instr.extract u i))) w m S b n y H := by
  simp only [VR] at hu
  obtain ⟨vs, rfl, hl⟩ := hu
  have hlen := LR_length hl
  have hi : i < l.length := by
    rcases Nat.lt_or_ge i l.length with h' | h'
    · exact h'
    · rw [List.getElem?_eq_none h'] at hy; cases hy
  obtain ⟨v, hv, hr⟩ := LR_get i hl (by omega)
  have hv' : vs[i]? = some v := by simpa using hv
  have : l.getD i .top = y := by simp [hy]
  rw [this] at hr
  exact Out.val h (u := v) (by simp [Instr.extract, hv']) hr
theorem typeAssert_sound (h : WR B m S F H w) {T : TT} (hT : TTok P T) {t ty : TypeId} {d : TD} (hd : T t = some d) {x y : AV} {v : Value} {ok : Bool} (hu : VR S (.iface t x) m F v)
    (hk : d.tk ≠ .iface) (hy : (if ok then AV.tup [x, .bool true] else x) = y) {b n : Nat} : Out P B F (do pure (.value (← Instr.typeAssert v ty t ok))) w m S b n y H := by
  simp only [VR] at hu
  obtain ⟨u, rfl, hu⟩ := hu
  have htk := (hT t d hd).tk
  subst hy
  refine Out.val h (u := if ok then .tuple #[u, .bool true] else u) ?_ ?_
  · cases hk' : d.tk <;> rw [hk'] at htk <;> simp only [TKok] at htk
    case iface => exact absurd hk' hk
    all_goals first
      | (simp [Instr.typeAssert, run_underlying htk]; done)
      | (simp [Instr.typeAssert, run_underlying htk.1]; done)
      | (obtain ⟨_, htk, _⟩ := htk; simp [Instr.typeAssert, run_underlying htk]; done)
      | (obtain ⟨_, htk⟩ := htk; simp [Instr.typeAssert, run_underlying htk]; done)
      | (obtain ⟨_, _, _, htk⟩ := htk; simp [Instr.typeAssert, run_underlying htk]; done)
      | exact htk.elim
  · cases ok
    · simpa using hu
    · simp only [if_true, VR]
      exact ⟨_, rfl, by simp only [LR]; exact ⟨u, [.bool true], rfl, hu, .bool true, [], rfl, by simp only [VR], rfl⟩⟩
theorem makeInterface_sound (h : WR B m S F H w) {T : TT} (hT : TTok P T) {t : TypeId} {d : TD} (hd : T t = some d) {x : AV} {u : Value} (hu : VR S x m F u)
    (hk : d.tk ≠ .iface) {b n : Nat} : Out P B F (do pure (.value (← Instr.makeInterface t u))) w m S b n (.iface t x) H := by
  have htk := (hT t d hd).tk
  refine Out.val h (u := .iface t u) ?_ (by simp only [VR]; exact ⟨u, rfl, hu⟩)
  cases hk' : d.tk <;> rw [hk'] at htk <;> simp only [TKok] at htk
  case iface => exact absurd hk' hk
  all_goals first
    | (simp [Instr.makeInterface, run_underlying htk]; done)
    | (simp [Instr.makeInterface, run_underlying htk.1]; done)
    | (obtain ⟨_, htk, _⟩ := htk; simp [Instr.makeInterface, run_underlying htk]; done)
    | (obtain ⟨_, htk⟩ := htk; simp [Instr.makeInterface, run_underlying htk]; done)
    | (obtain ⟨_, _, _, htk⟩ := htk; simp [Instr.makeInterface, run_underlying htk]; done)
    | exact htk.elim
theorem makeMap_sound (h : WR B m S F H w) {b : Nat} (hf : Fresh H m b 1) {t : TypeId} : Out P B F (do pure (.value (← Instr.makeMap t none))) w m S b 1 (.map b) (hset H b (.map [])) := by
  obtain ⟨hb, hd, hm⟩ := hf.one
  have hW : WR B (mput m b ⟨w.heap.size, 0, 0⟩) S F (hset H b (.map [])) { w with heap := w.heap.push (.map #[] 0) } := by
    refine h.put hb hd hm (by simp) (fun x hx => by simp [Array.getElem?_push, Nat.ne_of_lt hx]) (Nat.le_refl _) ?_ rfl rfl rfl
    exact ⟨_, #[], 0, mput_self _ _ _, by simp, rfl⟩
  refine Out.val' hW (u := .map (some w.heap.size)) (by simp [Instr.makeMap]) (by simp only [VR]; exact ⟨_, mput_self _ _ _, rfl⟩) (mput_le m b _ hm) (SS.le_refl _) (mput_other m b _)
end Go.Abs
end
