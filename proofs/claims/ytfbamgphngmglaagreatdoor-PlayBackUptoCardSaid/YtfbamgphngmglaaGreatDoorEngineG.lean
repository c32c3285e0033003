/- A certified abstract evaluator of the model's code (namespace Go.Abs), one part of it: what it answers holds of every run. Each theorem states its own conditions. -/
import Derived.Test.YtfbamgphngmglaaGreatDoorEngineF
set_option linter.unusedSimpArgs false
set_option linter.unusedVariables false
section
namespace Go.Abs
variable {P : Program} {B : Base} {m : MM} {S : SS} {F : FF} {H : Heap} {w : World}
/-- another mark on what is written no more -/
theorem WR.frz (h : WR B m S F H w) {b : Nat} {c : Array Value} (hb : S b = some c) (hown : B.D0 b ∨ B.w0.heap.size ≤ b) {w' : World} (hsz : w'.heap.size = w.heap.size) (hx : ∀ x, x ≠ b → w'.heap[x]? = w.heap[x]?)
    (hat : ∃ e fr, w'.heap[b]? = some (.cells c e fr)) (h1 : w'.os = w.os) (h2 : w'.output = w.output) (h3 : w'.tape = w.tape) : WR B m S F H w' where
  obj i := OR.mono (MM.le_refl _) (SS.le_refl _) (h.obj i) (fun l hmo hml => hx _ (fun he => by have := h.apart i l hmo hml; rw [he, hb] at this; cases this))
  inj := h.inj
  stab x c' hc := by
    by_cases he : x = b
    · subst he; rw [hb] at hc; cases hc; exact hat
    · obtain ⟨e, fr, h'⟩ := h.stab x c' hc
      exact ⟨e, fr, by rw [hx x he]; exact h'⟩
  apart := h.apart
  size := by rw [hsz]; exact h.size
  keep x hlt hD := by
    by_cases he : x = b
    · subst he; rcases hown with h' | h'
      · exact absurd h' hD
      · omega
    · rw [hx x he]; exact h.keep x hlt hD
  own := h.own
  fresh := h.fresh
  os := h1.trans h.os
  output := h2.trans h.output
  tape := h3.trans h.tape
theorem allBytes_mem : ∀ {l : List Int}, allBytes l = true → ∀ x ∈ l, 0 ≤ x ∧ x ≤ 255
  | [], _, x, hx => by cases hx
  | y :: l, h, x, hx => by
    have h : Bool.rec false (Bool.rec false (allBytes l) (decide (y ≤ 255))) (decide (0 ≤ y)) = true := h
    cases h1 : decide (0 ≤ y) with
    | false => rw [h1] at h; cases h
    | true =>
      rw [h1] at h
      have h : Bool.rec false (allBytes l) (decide (y ≤ 255)) = true := h
      cases h2 : decide (y ≤ 255) with
      | false => rw [h2] at h; cases h
      | true =>
        rw [h2] at h
        rcases List.mem_cons.mp hx with rfl | hx
        · exact ⟨of_decide_eq_true h1, of_decide_eq_true h2⟩
        · exact allBytes_mem (show allBytes l = true from h) x hx
theorem lt_of_get' {b : Nat} {x : Obj} (h : w.heap[b]? = some x) : b < w.heap.size := by
  rcases Nat.lt_or_ge b w.heap.size with h' | h'
  · exact h'
  · rw [Array.getElem?_eq_none h'] at h; cases h
theorem run_loadBytes' {b : Nat} {c : Array Value} {e : TypeId} {fr : Nat × Nat} (h : w.heap[b]? = some (.cells c e fr)) : ∀ (l : List Int) (o : Nat) (acc : ByteArray), (c.toList.drop o).take l.length = l.map (Value.int .u8) →
    (loadBytes ⟨b, o, none⟩ acc l.length).run P w = .ok (l.foldl (fun r n => r.push n.toNat.toUInt8) acc) w
  | [], o, acc, _ => rfl
  | x :: l, o, acc, hc => by
    have hlt : o < c.size := by
      rcases Nat.lt_or_ge o c.size with h' | h'
      · exact h'
      · rw [List.drop_of_length_le (by simpa using h')] at hc; simp at hc
    have hd : c.toList.drop o = c[o] :: c.toList.drop (o + 1) := by
      rw [List.drop_eq_getElem_cons (by simpa using hlt)]; simp
    rw [hd] at hc
    simp only [List.length_cons, List.take_succ_cons, List.map_cons, List.cons.injEq] at hc
    have hcell : w.cell? ⟨b, o, none⟩ = some (.int .u8 x) := by rw [cell_at h, Array.getElem?_eq_getElem hlt, hc.1]
    have := run_loadBytes' h l (o + 1) (acc.push x.toNat.toUInt8) hc.2
    simp only [List.length_cons, loadBytes, Sem.run_bind, run_load, hcell, Result.andThen_ok, List.foldl_cons, addr_add]
    exact this
/-- functions without a body -/
def ExtOK (P : Program) (f : FuncId) : ExtK → Prop
  | .same => ∀ (x : Value) (w : World), (callFunc f #[x]).run P w = .ok (.value x) w
  | .count => ∀ (s : ByteArray) (c : Int) (w : World), (callFunc f #[.string s, .int .u8 c]).run P w = .ok (.value (.int .i64 (Lib.countByte s.data.toList c.toNat.toUInt8))) w
  | .index => ∀ (s : ByteArray) (c : Int) (w : World), (callFunc f #[.string s, .int .u8 c]).run P w = .ok (.value (.int .i64 (Lib.indexByte s.data.toList c.toNat.toUInt8))) w
  | .rawBytes t => ∀ (n : Nat) (w : World), n ≤ most → ∃ cs : Array Value, (callFunc f #[.int .i64 n]).run P w = .ok (.value (.slice (some ⟨w.heap.size, 0, none⟩) n cs.size)) (w.drew.drew.alloc (.cells cs t)) ∧ n ≤ cs.size ∧ ∀ v ∈ cs, v.oneCell' = true
theorem LR_unk : ∀ (vs : List Value), LR S (List.replicate vs.length .top) m F vs
  | [] => by simp [LR]
  | v :: vs => by simp only [List.length_cons, List.replicate_succ, LR]; exact ⟨v, vs, rfl, by simp only [VR], LR_unk vs⟩
theorem RR_unk {n : Nat} {cs : List Value} (h : n ≤ cs.length) (h' : ∀ v ∈ cs.take n, v.oneCell' = true) : RR S (.vals (List.replicate n .top)) m F (cs.take n) := by
  have := LR_unk (S := S) (m := m) (F := F) (cs.take n)
  rw [List.length_take, Nat.min_eq_left h] at this
  simp only [RR]; exact ⟨this, h'⟩
theorem toU8 (c : Int) (x : UInt8) : (x == c.toNat.toUInt8) = Nat.beq x.toNat (c.toNat % 256) := by
  rw [Bool.eq_iff_iff, beq_iff_eq, Nat.beq_eq]
  constructor
  · rintro rfl; simp
  · intro h; apply UInt8.toNat_inj.mp; rw [h]; simp
theorem cntZ_eq (c : Int) : ∀ (l : List UInt8) (n : Nat), cntZ (c.toNat % 256) l n = n + l.count c.toNat.toUInt8
  | [], n => rfl
  | x :: l, n => by
    show (Bool.rec (cntZ (c.toNat % 256) l n) (cntZ (c.toNat % 256) l (Nat.succ n)) (Nat.beq x.toNat (c.toNat % 256)) : Nat) = _
    rw [← toU8, List.count_cons]
    cases x == c.toNat.toUInt8 with
    | true => show cntZ _ _ _ = _; rw [cntZ_eq c l]; simp; omega
    | false => show cntZ _ _ _ = _; rw [cntZ_eq c l]; simp
theorem ixZ_eq (c : Int) : ∀ (l : List UInt8) (n : Nat), ixZ (c.toNat % 256) l n = if Lib.indexByte l c.toNat.toUInt8 == -1 then -1 else Lib.indexByte l c.toNat.toUInt8 + n
  | [], n => rfl
  | x :: l, n => by
    show (Bool.rec (ixZ (c.toNat % 256) l (Nat.succ n)) (n : Int) (Nat.beq x.toNat (c.toNat % 256)) : Int) = _
    rw [← toU8]
    have hg := Lib.indexByte_ge l c.toNat.toUInt8
    cases h : x == c.toNat.toUInt8 with
    | true => simp [Lib.indexByte, h]
    | false =>
      show ixZ _ _ _ = _
      rw [ixZ_eq c l]
      simp only [Lib.indexByte, h, Bool.false_eq_true, if_false, beq_iff_eq]
      split
      · simp
      · rename_i h1
        split
        · omega
        · rw [Nat.succ_eq_add_one]; omega
theorem extAV_sound (h : WR B m S F H w) {f : FuncId} {k : ExtK} (hk : ExtOK P f k) {args : List AV} {vs : Array Value} (ha : LR S args m F vs.toList) {b : Nat} (hf : Fresh H m b (extFresh k)) {y : AV} {H' : Heap} (he : extAV k args H b = some (y, H')) :
    Out P B F (callFunc f vs) w m S b (extFresh k) y H' := by
  unfold extAV at he
  split at he
  · simp only [LR] at ha
    obtain ⟨v, vs', h1, hx, rfl⟩ := ha
    have hvv : vs = #[v] := by rw [← Array.toArray_toList (xs := vs), h1]
    subst hvv
    simp only [Option.some.injEq, Prod.mk.injEq] at he
    obtain ⟨rfl, rfl⟩ := he
    exact ⟨.value v, v, w, m, S, hk v w, .inl rfl, hx, h, MM.le_refl _, SS.le_refl _, fun _ _ => rfl⟩
  · simp only [LR] at ha
    obtain ⟨v, vs', h1, hx, v', vs'', rfl, hx', rfl⟩ := ha
    have hvv : vs = #[v, v'] := by rw [← Array.toArray_toList (xs := vs), h1]
    subst hvv
    simp only [VR] at hx hx'; subst hx; subst hx'
    simp only [Option.some.injEq, Prod.mk.injEq] at he
    obtain ⟨rfl, rfl⟩ := he
    refine ⟨_, _, w, m, S, hk _ _ w, .inl rfl, ?_, h, MM.le_refl _, SS.le_refl _, fun _ _ => rfl⟩
    simp only [VR, cntZ_eq, Nat.zero_add]; rfl
  · simp only [LR] at ha
    obtain ⟨v, vs', h1, hx, v', vs'', rfl, hx', rfl⟩ := ha
    have hvv : vs = #[v, v'] := by rw [← Array.toArray_toList (xs := vs), h1]
    subst hvv
    simp only [VR] at hx hx'; subst hx; subst hx'
    simp only [Option.some.injEq, Prod.mk.injEq] at he
    obtain ⟨rfl, rfl⟩ := he
    refine ⟨_, _, w, m, S, hk _ _ w, .inl rfl, ?_, h, MM.le_refl _, SS.le_refl _, fun _ _ => rfl⟩
    simp only [VR, ixZ_eq, show ∀ s : ByteArray, bytesL s = s.data.toList from fun _ => rfl]
    split
    · rename_i h1; rw [eq_of_beq h1]
    · simp
  · simp only [LR] at ha
    obtain ⟨v, vs', h1, hx, rfl⟩ := ha
    have hvv : vs = #[v] := by rw [← Array.toArray_toList (xs := vs), h1]
    subst hvv
    rename_i t n
    split at he
    · rename_i hc
      simp only [Bool.and_eq_true, decide_eq_true_eq] at hc
      simp only [VR] at hx; subst hx
      simp only [Option.some.injEq, Prod.mk.injEq] at he
      obtain ⟨rfl, rfl⟩ := he
      obtain ⟨hb, hd, hm⟩ := hf.one
      obtain ⟨cs, hrun, hle, hones⟩ := hk n.toNat w hc.2
      rw [Int.toNat_of_nonneg hc.1] at hrun
      refine ⟨_, .slice (some ⟨w.heap.size, 0, none⟩) n.toNat cs.size, _, mput m b ⟨w.heap.size, cs.size, n.toNat⟩, S, hrun, .inl rfl, ?_, ?_, mput_le m b _ hm, SS.le_refl _, mput_other m b _⟩
      · simp only [VR]
        exact ⟨_, n.toNat, 0, cs.size, mput_self _ _ _, by simp, ⟨by simp, rfl⟩, hle, by simp, by simp only [CapI.holds]; omega, by decide⟩
      · refine h.put hb hd hm (by simp) (fun x hx => by show ((w.heap.push _)[x]?) = _; rw [Array.getElem?_push, if_neg (Nat.ne_of_lt hx)]) (Nat.le_refl _) ?_ rfl rfl rfl
        exact ⟨_, cs, (0, 0), mput_self _ _ _, by show ((w.heap.push _)[w.heap.size]?) = _; rw [Array.getElem?_push, if_pos rfl], thaw0 _, rfl, by simp [Row.len], hle, RR_unk (by rw [Array.length_toList]; exact hle) (fun v hv => hones v (by simpa using List.mem_of_mem_take hv))⟩
    · cases he
  · cases he
/-- what a program's environment must keep -/
structure EnvOK (P : Program) (E : Env) : Prop where
  T : TTok P E.T
  ext : ∀ f k, E.ext f = some k → ExtOK P f k
  eq : EqOK P E.T E.eqT
  eqI : IntOK P E.eqI
  mixed : P.follows .mixedOrders = true
theorem OptR_map {glob : Nat → Option (Row × Nat)} (hG : GlobOK glob S) {tm : List AV} {a : Act} (ht : LR S tm m F a.tmps.toList) (o : Option Operand) : OptR S m F (o.map (evalO glob tm)) (o.map a.eval) := by
  cases o with
  | none => trivial
  | some o => exact evalO_sound hG ht o
theorem Out.mono {s : Sem Next} {b n n' : Nat} {x : AV} {H' : Heap} (h : Out P B F s w m S b n x H') (hn : n ≤ n') : Out P B F s w m S b n' x H' := by
  obtain ⟨nx, u, w', m', S', h1, h2, h3, h4, h5, h6, h7⟩ := h
  exact ⟨nx, u, w', m', S', h1, h2, h3, h4, h5, h6, fun i hi => h7 i (by omega)⟩
theorem evalCall_sound {E : Env} (hE : EnvOK P E) (h : WR B m S F H w) (hG : GlobOK E.glob S) {tm : List AV} {a : Act} (ht : LR S tm m F a.tmps.toList) {b : Nat} {bi : Builtin} {args : Array Operand} {argTypes : Array TypeId} {ty : TypeId} {q : Op}
    (hq : q = .call { callee := .builtin bi, args, argTypes }) (hf : Fresh H m b (freshOf E q)) {y : AV} {H' : Heap} (he : evalOp E tm H b q = some (y, H')) (cs : Array Bool) :
    Out P B F (builtin bi argTypes ty cs (args.map a.eval)) w m S b (freshOf E q) y H' := by
  subst hq
  have hargs : LR S (args.toList.map (evalO E.glob tm)) m F (args.map a.eval).toList := by rw [Array.toList_map]; exact LR_map hG ht _
  generalize hvs : args.map a.eval = vs at hargs ⊢
  simp only [evalOp, evMove, evPick, evAlloc, evBox, evBuild, evBuildSlice, evLoad, evStore, evNilCheck, evBinOp, evUnOp, evConvert, evMakeInterface, evMakeFunc, evMakeSlice, evSlice, evFieldAddr, evField, evIndexAddr, evIndex, evLookup, evMapUpdate, evTypeAssert, evExtract, evBuiltin] at he
  generalize args.toList.map (evalO E.glob tm) = ls at hargs he
  split at he
  · -- len
    rename_i x
    simp only [LR] at hargs
    obtain ⟨v, vs', h1, hx, rfl⟩ := hargs
    have hvv : vs = #[v] := by rw [← Array.toArray_toList (xs := vs), h1]
    subst hvv
    cases hat : (argTypes[0]?) with
    | none => simp [hat] at he
    | some t =>
      simp only [hat, Option.bind_some] at he
      cases hd : E.T t with
      | none => simp [hd] at he
      | some d =>
        simp only [hd] at he
        have htk := (hE.T t d hd).tk
        split at he
        · rename_i s e1
          rw [e1] at htk; simp only [TKok] at htk
          simp only [Option.some.injEq, Prod.mk.injEq] at he
          obtain ⟨rfl, rfl⟩ := he
          simp only [VR] at hx; subst hx
          refine Out.val (s := Builtin.len_ argTypes ty #[.string s]) h (u := .int .i64 s.size) ?_ (by simp only [VR])
          simp [Builtin.len_, hat, run_underlying htk, goInt]
        · rename_i n _ e1
          rw [e1] at htk; simp only [TKok] at htk
          simp only [Option.some.injEq, Prod.mk.injEq] at he
          obtain ⟨rfl, rfl⟩ := he
          refine Out.val (s := Builtin.len_ argTypes ty #[v]) h (u := .int .i64 n) ?_ (by simp only [VR])
          simp [Builtin.len_, hat, run_underlying htk, goInt]
        · rename_i e1
          rw [e1] at htk; simp only [TKok] at htk
          simp only [Option.some.injEq, Prod.mk.injEq] at he
          obtain ⟨rfl, rfl⟩ := he
          simp only [VR] at hx; subst hx
          refine Out.val (s := Builtin.len_ argTypes ty #[.slice none 0 0]) h (u := .int .i64 0) ?_ (by simp only [VR])
          simp [Builtin.len_, hat, run_underlying htk, goInt]
        · rename_i e1 _
          rw [e1] at htk; simp only [TKok] at htk
          simp only [Option.map_eq_some_iff, Prod.mk.injEq] at he
          obtain ⟨q, hs, rfl, rfl⟩ := he
          obtain ⟨r, win, esz, n⟩ := q
          obtain ⟨blk, off, c, ee, fr, base, cap, rfl, _⟩ := slOf_sound h hx hs
          refine Out.val (s := Builtin.len_ argTypes ty #[.slice (some ⟨blk, off + base * esz, none⟩) n cap]) h (u := .int .i64 n) ?_ (by simp only [VR])
          simp [Builtin.len_, hat, run_underlying htk, goInt]
        · cases he
  · -- cap
    rename_i x
    simp only [LR] at hargs
    obtain ⟨v, vs', h1, hx, rfl⟩ := hargs
    have hvv : vs = #[v] := by rw [← Array.toArray_toList (xs := vs), h1]
    subst hvv
    cases hat : (argTypes[0]?) with
    | none => simp [hat] at he
    | some t =>
      simp only [hat, Option.bind_some] at he
      cases hd : E.T t with
      | none => simp [hd] at he
      | some d =>
        simp only [hd] at he
        have htk := (hE.T t d hd).tk
        split at he
        · rename_i e1
          rw [e1] at htk; simp only [TKok] at htk
          simp only [Option.some.injEq, Prod.mk.injEq] at he
          obtain ⟨rfl, rfl⟩ := he
          simp only [VR] at hx; subst hx
          refine Out.val (s := Builtin.cap_ argTypes ty #[.slice none 0 0]) h (u := .int .i64 0) ?_ (by simp only [VR])
          simp [Builtin.cap_, hat, run_underlying htk, goInt]
        · rename_i c e1
          rw [e1] at htk; simp only [TKok] at htk
          simp only [Option.some.injEq, Prod.mk.injEq] at he
          obtain ⟨rfl, rfl⟩ := he
          simp only [VR] at hx
          obtain ⟨loc, len, base, cap', hm, rfl, _, _, _, hc, _⟩ := hx
          have : cap' = c := hc
          subst this
          refine Out.val (s := Builtin.cap_ argTypes ty #[.slice _ len cap']) h (u := .int .i64 cap') ?_ (by simp only [VR])
          simp [Builtin.cap_, hat, run_underlying htk, goInt]
        · cases he
  · -- append
    rename_i s x
    simp only [LR] at hargs
    obtain ⟨v, vs', h1, hx, v', vs'', rfl, hx', rfl⟩ := hargs
    have hvv : vs = #[v, v'] := by rw [← Array.toArray_toList (xs := vs), h1]
    subst hvv
    split at he
    · rename_i sT xT hat
      have hat' : argTypes = #[sT, xT] := by rw [← Array.toArray_toList (xs := argTypes), hat]
      subst hat'
      split at he
      · rename_i d dx hd hdx
        have htk := (hE.T sT d hd).tk
        have htx := (hE.T xT dx hdx).tk
        split at he
        · rename_i e e1
          rw [e1] at htk; simp only [TKok] at htk
          split at he
          · rename_i de hde
            have key : ((∃ e', P.underlying xT = some (.slice e')) ∨ P.underlying xT = some .string) → (if (Nat.blt 0 de.size && Nat.blt 0 de.bytes) = true then appendAV e de.size de.bytes H b s x else none) = some (y, H') → Out P B F (builtin .append #[sT, xT] ty cs #[v, v']) w m S b (freshOf E (.call { callee := .builtin .append, args, argTypes := #[sT, xT] })) y H' := by
              intro hxu he
              split at he
              · rename_i hc
                simp only [Bool.and_eq_true, Nat.blt_eq] at hc
                exact appendAV_sound h hf (hE.T e de hde) htk hxu hc.1 hc.2 hx hx' he
              · cases he
            split at he
            · rename_i e' e2
              rw [e2] at htx; simp only [TKok] at htx
              exact key (.inl ⟨_, htx⟩) he
            · rename_i e2
              rw [e2] at htx; simp only [TKok] at htx
              exact key (.inr htx) he
            · rename_i k e2
              rw [e2] at htx; simp only [TKok] at htx
              split at he
              · rename_i N
                split at he
                · rename_i hc
                  simp only [Bool.and_eq_true, Nat.blt_eq, decide_eq_true_eq] at hc
                  split at he
                  · rename_i q hq
                    simp only [VR] at hx'; subst hx'
                    exact appendZ_sound h hf (hE.T e de hde) htk htx hc.1.1 hc.1.2 hc.2.1 hc.2.2 hq hx he
                  · cases he
                · cases he
              · cases he
            · cases he
          · cases he
        · cases he
      · cases he
    · cases he
  · -- copy
    rename_i d x
    simp only [LR] at hargs
    obtain ⟨v, vs', h1, hx, v', vs'', rfl, hx', rfl⟩ := hargs
    have hvv : vs = #[v, v'] := by rw [← Array.toArray_toList (xs := vs), h1]
    subst hvv
    cases hat : (argTypes[0]?) with
    | none => simp [hat] at he
    | some t =>
      simp only [hat, Option.bind_some] at he
      cases hd : E.T t with
      | none => simp [hd] at he
      | some dt =>
        simp only [hd] at he
        have htk := (hE.T t dt hd).tk
        split at he
        · rename_i e e1
          rw [e1] at htk; simp only [TKok] at htk
          split at he
          · rename_i de hde
            split at he
            · rename_i hc
              simp only [Nat.blt_eq] at hc
              exact copyAV_sound h (hE.T e de hde) htk hat hc hx hx' he
            · cases he
          · cases he
        · cases he
  · -- unsafe.SliceData of nil
    simp only [LR] at hargs
    obtain ⟨v, vs', h1, hx, rfl⟩ := hargs
    have hvv : vs = #[v] := by rw [← Array.toArray_toList (xs := vs), h1]
    subst hvv
    simp only [Option.some.injEq, Prod.mk.injEq] at he
    obtain ⟨rfl, rfl⟩ := he
    simp only [VR] at hx; subst hx
    exact Out.val (s := Builtin.unsafeSliceData_ argTypes ty #[.slice none 0 0]) h (u := .pointer none) rfl (by simp only [VR])
  · -- unsafe.SliceData
    rename_i id win esz cap
    simp only [LR] at hargs
    obtain ⟨v, vs', h1, hx, rfl⟩ := hargs
    have hvv : vs = #[v] := by rw [← Array.toArray_toList (xs := vs), h1]
    subst hvv
    split at he
    · rename_i r te hg
      split at he
      · rename_i hc
        simp only [Option.some.injEq, Prod.mk.injEq] at he
        obtain ⟨rfl, rfl⟩ := he
        simp only [VR] at hx
        obtain ⟨loc, len, base, cap', k1, rfl, k2, k3, k4, k5, k6⟩ := hx
        simp only [Bool.and_eq_true] at hc
        have hb0 : base = 0 := by
          cases win with
          | none => exact k2.2
          | some x => obtain ⟨b0, l0⟩ := x; have := Nat.eq_of_beq_eq_true hc.1; have := k2.2.1; omega
        subst hb0
        have ho := h.obj id
        rw [hg] at ho
        obtain ⟨loc', c, fr, o1, o2, o3, o4, o5, o6, o7⟩ := ho
        rw [k1] at o1; cases o1
        have hcap : cap' ≠ 0 := by
          replace hc := hc.2
          simp only [Bool.or_eq_true, Nat.blt_eq] at hc
          rcases hc with hc | hc
          · intro h0
            have h00 : len = 0 := by omega
            cases win with
            | none =>
              have k2 : len * esz = loc.n ∧ _ := k2
              rw [h00] at k2
              have := count_eq (r := r) (len := 0) (esz := esz) (by omega) k6
              simp only [winLen] at hc; omega
            | some x => obtain ⟨b0, l0⟩ := x; have := k2.1; simp only [winLen] at hc; omega
          · have := CapI.fits_le hc k5; omega
        have hrun : (Builtin.unsafeSliceData_ argTypes ty #[.slice (some ⟨loc.b, 0 * esz, none⟩) len cap']).run P w = .ok (.pointer (some ⟨loc.b, 0, none⟩)) w := by
          rw [Nat.zero_mul]; exact Lib.run_unsafeSliceData_row w _ _ _ _ _ hcap
        exact Out.val (s := Builtin.unsafeSliceData_ argTypes ty #[.slice (some ⟨loc.b, 0 * esz, none⟩) len cap']) h hrun (by
          simp only [VR]
          exact ⟨loc, k1, by simp only [InB, flatP]; omega, by simp [cellOf, flatP]⟩)
      · cases he
    · cases he
  · -- unsafe.String of nothing
    rename_i N
    simp only [LR] at hargs
    obtain ⟨v, vs', h1, hx, v', vs'', rfl, hx', rfl⟩ := hargs
    have hvv : vs = #[v, v'] := by rw [← Array.toArray_toList (xs := vs), h1]
    subst hvv
    split at he
    · rename_i pt it hat
      have hat : argTypes = #[pt, it] := by rw [← Array.toArray_toList (xs := argTypes), hat]
      subst hat
      split at he
      · rename_i hN
        have hN := of_decide_eq_true hN
        subst hN
        simp only [Option.some.injEq, Prod.mk.injEq] at he
        obtain ⟨rfl, rfl⟩ := he
        simp only [VR] at hx hx'; subst hx; subst hx'
        exact Out.val (s := Builtin.unsafeString_ #[pt, it] ty #[.pointer none, .int .i64 0]) h (u := .string .empty) (Lib.run_unsafeString_none w pt it ty none) (by simp only [VR])
      · cases he
    · cases he
  · -- unsafe.String
    rename_i id el n0 N
    simp only [LR] at hargs
    obtain ⟨v, vs', h1, hx, v', vs'', rfl, hx', rfl⟩ := hargs
    have hvv : vs = #[v, v'] := by rw [← Array.toArray_toList (xs := vs), h1]
    subst hvv
    split at he
    case h_2 => cases he
    rename_i pt it hat
    have hat : argTypes = #[pt, it] := by rw [← Array.toArray_toList (xs := argTypes), hat]
    subst hat
    cases hcl : Nat.beq (cellOf el []) 0 with
    | false => simp [hcl] at he
    | true =>
    have hcl := Nat.eq_of_beq_eq_true hcl
    have hcl' : Nat.beq (cellOf el []) 0 = true := by rw [hcl]; rfl
    simp only [hcl', if_true] at he
    cases hd : E.T pt with
    | none => simp [hd] at he
    | some d =>
        simp only [hd] at he
        have htk := (hE.T pt d hd).tk
        split at he
        · rename_i e r te e1 hg
          rw [e1] at htk; simp only [TKok] at htk
          simp only [VR] at hx hx'; subst hx'
          obtain ⟨loc, k1, k2, rfl⟩ := hx
          rw [hcl]
          have ho := h.obj id
          rw [hg] at ho
          obtain ⟨loc', c, fr, o1, o2, o3, o4, o5, o6, o7⟩ := ho
          rw [k1] at o1; cases o1
          split at he
          · rename_i hN
            have hN := of_decide_eq_true hN
            subst hN
            simp only [Option.some.injEq, Prod.mk.injEq] at he
            obtain ⟨rfl, rfl⟩ := he
            exact Out.val (s := Builtin.unsafeString_ #[pt, it] ty #[.pointer _, .int .i64 0]) h (u := .string .empty) (Lib.run_unsafeString_none w pt it ty _) (by simp only [VR])
          · rename_i hN0
            have hN0 : N ≠ 0 := fun h' => hN0 (decide_eq_true h')
            split at he
            · rename_i hc
              simp only [Bool.and_eq_true, decide_eq_true_eq] at hc
              obtain ⟨c0, c1, c2, c4⟩ := hc
              have c1 := Nat.eq_of_beq_eq_true c1
              subst c1
              cases hfi : r.firstInts .u8 N.toNat with
              | none => simp [hfi] at he
              | some z =>
              simp only [hfi] at he
              split at he
              case isFalse => cases he
              rename_i hbz
              have hbz := allBytes_mem hbz
              simp only [Option.some.injEq, Prod.mk.injEq] at he
              obtain ⟨rfl, rfl⟩ := he
              obtain ⟨hlen, o8, c3⟩ := firstInts_sound o7 hfi
              have hn1 : N.toNat ≤ loc.n := by rw [← o5]; exact c3
              rw [List.take_take, Nat.min_eq_left hn1] at o8
              have hsh : w.shape? loc.b = some (te, c.size) := by simp [World.shape?, o2]
              obtain ⟨dd, hdd⟩ := htk.2
              have hc1 : P.cellsOf te = 1 := by
                unfold oneB at c0
                split at c0
                · rename_i de hde
                  obtain ⟨i, zz, i1, i2, _⟩ := (hE.T te de hde).info
                  simp [Program.cellsOf, i1, i2, Nat.eq_of_beq_eq_true c0]
                · cases c0
              obtain ⟨S', hS, hW', loc2, c2', f1, f2, f3, f4, f5, f6⟩ := h.freeze hg
              rw [k1] at f1; cases f1
              have hown := h.own id loc (by unfold Mut; rw [hg]; rfl) k1
              have hlt := lt_of_get' o2
              have hcc : c2' = c := by
                obtain ⟨ee, ff, hx⟩ := hW'.stab _ _ f2
                rw [o2] at hx; cases hx; rfl
              subst hcc
              have hll : (z.map fun x => UInt8.ofNat x.toNat).length = N.toNat := by rw [List.length_map, hlen]
              have hNl : N = (((z.map fun x => UInt8.ofNat x.toNat).length : Nat) : Int) := by rw [hll]; omega
              have hW2 := hW'.frz f2 hown (w' := w.freeze ⟨loc.b, 0, none⟩ (z.map fun x => UInt8.ofNat x.toNat).length) (by simp only [World.freeze]; split <;> simp) (fun x hx => by
                  simp only [World.freeze]; split
                  · rfl
                  · simp [Array.getElem?_modify, Ne.symm hx])
                (by
                  simp only [World.freeze]; split
                  · exact ⟨_, _, o2⟩
                  · exact ⟨te, (if fr.1 == fr.2 then (0, 0 + (z.map fun x => UInt8.ofNat x.toNat).length) else (min fr.1 0, max fr.2 (0 + (z.map fun x => UInt8.ofNat x.toNat).length))), by obtain ⟨lo, hi⟩ := fr; simp [Array.getElem?_modify, o2]⟩) (by simp only [World.freeze]; split <;> rfl) (by simp only [World.freeze]; split <;> rfl) (by simp only [World.freeze]; split <;> rfl)
              have hrun := Lib.run_unsafeString_row (P := P) (w := w) pt it ty te htk.1 hc1 loc.b c2'.size hsh (z.map fun x => UInt8.ofNat x.toNat) (fun h0 => by rw [h0] at hll; simp at hll; omega) (by rw [hll]; omega) (by rw [hll]; omega)
                (fun j x hj => by
                  rw [List.getElem?_map] at hj
                  cases hz : z[j]? with
                  | none => rw [hz] at hj; cases hj
                  | some y =>
                    rw [hz] at hj
                    simp only [Option.map_some, Option.some.injEq] at hj
                    subst hj
                    have hy := hbz y (List.mem_of_getElem? hz)
                    have hju : (UInt8.ofNat y.toNat).toNat = y.toNat := by rw [UInt8.toNat_ofNat']; omega
                    have hjl : j < z.length := by
                      rcases Nat.lt_or_ge j z.length with h' | h'
                      · exact h'
                      · rw [List.getElem?_eq_none h'] at hz; cases hz
                    have : (c2'.toList.take N.toNat)[j]? = some (.int .u8 y) := by rw [o8, List.getElem?_map, hz]; rfl
                    rw [List.getElem?_take_of_lt (by omega)] at this
                    rw [hju, Int.toNat_of_nonneg hy.1]
                    have hadd : (⟨loc.b, 0, none⟩ : Addr).add j = ⟨loc.b, j, none⟩ := by
                      cases j with
                      | zero => rfl
                      | succ j => simp [Addr.add]
                    rw [hadd]
                    simp only [World.cell?, o2]
                    simpa using this)
              rw [hNl]
              exact Out.val' (s := Builtin.unsafeString_ #[pt, it] ty #[.pointer (some ⟨loc.b, 0, none⟩), .int .i64 _]) hW2 hrun (by simp only [VR]; rfl) (MM.le_refl _) hS (fun _ _ => rfl)
            · cases he
        · cases he
  · -- min
    rename_i k x k' z
    simp only [LR] at hargs
    obtain ⟨v, vs', h1, hx, v', vs'', rfl, hx', rfl⟩ := hargs
    have hvv : vs = #[v, v'] := by rw [← Array.toArray_toList (xs := vs), h1]
    subst hvv
    simp only [Option.some.injEq, Prod.mk.injEq] at he
    obtain ⟨rfl, rfl⟩ := he
    simp only [VR] at hx hx'; subst hx; subst hx'
    exact Out.val (s := Builtin.min_ argTypes ty #[.int k x, .int k' z]) h (u := .int k (if z < x then z else x)) (by simp [Builtin.min_, Builtin.min2]) (by simp only [VR])
  · -- max
    rename_i k x k' z
    simp only [LR] at hargs
    obtain ⟨v, vs', h1, hx, v', vs'', rfl, hx', rfl⟩ := hargs
    have hvv : vs = #[v, v'] := by rw [← Array.toArray_toList (xs := vs), h1]
    subst hvv
    simp only [Option.some.injEq, Prod.mk.injEq] at he
    obtain ⟨rfl, rfl⟩ := he
    simp only [VR] at hx hx'; subst hx; subst hx'
    exact Out.val (s := Builtin.max_ argTypes ty #[.int k x, .int k' z]) h (u := .int k (if z > x then z else x)) (by simp [Builtin.max_, Builtin.max2]) (by simp only [VR])
  · cases he
end Go.Abs
end

section
namespace Go.Abs
variable {P : Program} {B : Base} {m : MM} {S : SS} {F : FF} {H : Heap} {w : World}
theorem nilEq_sound {T : TT} (hT : TTok P T) {t : TypeId} {o : BinOp} {x y : Operand} {a b r : AV} {u v : Value} (hu : VR S a m F u) (hv : VR S b m F v) (h : nilEq (T t) o x y a b = some r) :
    ∃ z, (do eqGuard o t x y u v; binOp o t u v : Sem Value).run P w = .ok z w ∧ VR S r m F z := by
  unfold nilEq at h
  split at h
  · simp only [VR] at hu hv; subst hu; subst hv
    split at h
    · rename_i hc
      split at h
      · rename_i hk
        simp only [Option.map_eq_some_iff] at hk
        obtain ⟨d, hd, hk⟩ := hk
        have htk := (hT t d hd).tk
        rw [hk] at htk; simp only [TKok] at htk
        obtain ⟨ms, hund⟩ := htk
        have hg : (eqGuard o t x y .nilIface .nilIface).run P w = .ok () w := by
          unfold eqGuard
          simp only [Bool.or_eq_true] at hc
          rcases hc with hc | hc
          · cases x <;> simp only [isConstO] at hc <;> first | (cases hc; done) | (cases o <;> simp)
          · cases y <;> simp only [isConstO] at hc <;> first | (cases hc; done) | (cases o <;> simp)
        have he : (Op.equal t .nilIface .nilIface).run P w = .ok true w := equal_of (fun d => by simp [Op.equalIn, run_underlying hund])
        split at h
        · cases h
          exact ⟨.bool true, by simp only [Sem.run_bind, hg, Result.andThen_ok, binOp, he, Sem.run_pure], by simp only [VR]⟩
        · cases h
          exact ⟨.bool false, by simp only [Sem.run_bind, hg, Result.andThen_ok, binOp, he, Sem.run_pure]; rfl, by simp only [VR]⟩
        · cases h
      · cases h
    · cases h
  · cases h
/-- each operation but a call through a value -/
theorem evalOp_sound {E : Env} (hE : EnvOK P E) (h : WR B m S F H w) (hG : GlobOK E.glob S) {tm : List AV} {a : Act} (ht : LR S tm m F a.tmps.toList) {b : Nat} {o : Oper} (hf : Fresh H m b (freshOf E o.op)) {y : AV} {H' : Heap} (he : evalOp E tm H b o.op = some (y, H')) :
    Out P B F (execOp a.eval o) w m S b (freshOf E o.op) y H' := by
  obtain ⟨dst, op, ty, pos, after, guard⟩ := o
  simp only at hf he ⊢
  have ev := fun x => evalO_sound hG ht x
  cases op with
  | move x =>
    simp only [evalOp, evMove, evPick, evAlloc, evBox, evBuild, evBuildSlice, evLoad, evStore, evNilCheck, evBinOp, evUnOp, evConvert, evMakeInterface, evMakeFunc, evMakeSlice, evSlice, evFieldAddr, evField, evIndexAddr, evIndex, evLookup, evMapUpdate, evTypeAssert, evExtract, evBuiltin, Option.some.injEq, Prod.mk.injEq] at he
    obtain ⟨rfl, rfl⟩ := he
    exact ⟨.value (a.eval x), a.eval x, w, m, S, rfl, .inl rfl, ev x, h, MM.le_refl _, SS.le_refl _, fun _ _ => rfl⟩
  | assign x =>
    simp only [evalOp, evMove, evPick, evAlloc, evBox, evBuild, evBuildSlice, evLoad, evStore, evNilCheck, evBinOp, evUnOp, evConvert, evMakeInterface, evMakeFunc, evMakeSlice, evSlice, evFieldAddr, evField, evIndexAddr, evIndex, evLookup, evMapUpdate, evTypeAssert, evExtract, evBuiltin, Option.some.injEq, Prod.mk.injEq] at he
    obtain ⟨rfl, rfl⟩ := he
    exact ⟨.value (a.eval x), a.eval x, w, m, S, rfl, .inl rfl, ev x, h, MM.le_refl _, SS.le_refl _, fun _ _ => rfl⟩
  | pick c x y' =>
    simp only [evalOp, evMove, evPick, evAlloc, evBox, evBuild, evBuildSlice, evLoad, evStore, evNilCheck, evBinOp, evUnOp, evConvert, evMakeInterface, evMakeFunc, evMakeSlice, evSlice, evFieldAddr, evField, evIndexAddr, evIndex, evLookup, evMapUpdate, evTypeAssert, evExtract, evBuiltin] at he
    split at he
    · rename_i t hc
      simp only [Option.some.injEq, Prod.mk.injEq] at he
      obtain ⟨rfl, rfl⟩ := he
      have hcv := ev c
      rw [hc] at hcv; simp only [VR] at hcv
      refine ⟨.value (if t then a.eval x else a.eval y'), if t then a.eval x else a.eval y', w, m, S, ?_, .inl rfl, ?_, h, MM.le_refl _, SS.le_refl _, fun _ _ => rfl⟩
      · simp [execOp, hcv, asBool]
      · cases t
        · exact ev y'
        · exact ev x
    · cases he
  | alloc t =>
    simp only [evalOp, evMove, evPick, evAlloc, evBox, evBuild, evBuildSlice, evLoad, evStore, evNilCheck, evBinOp, evUnOp, evConvert, evMakeInterface, evMakeFunc, evMakeSlice, evSlice, evFieldAddr, evField, evIndexAddr, evIndex, evLookup, evMapUpdate, evTypeAssert, evExtract, evBuiltin] at he
    split at he
    · rename_i d hd
      simp only [Option.some.injEq, Prod.mk.injEq] at he
      obtain ⟨rfl, rfl⟩ := he
      exact alloc_sound h hf (hE.T t d hd)
    · cases he
  | box t x =>
    simp only [evalOp, evMove, evPick, evAlloc, evBox, evBuild, evBuildSlice, evLoad, evStore, evNilCheck, evBinOp, evUnOp, evConvert, evMakeInterface, evMakeFunc, evMakeSlice, evSlice, evFieldAddr, evField, evIndexAddr, evIndex, evLookup, evMapUpdate, evTypeAssert, evExtract, evBuiltin] at he
    split at he
    · rename_i d hd
      split at he
      · rename_i r hr
        simp only [Option.some.injEq, Prod.mk.injEq] at he
        obtain ⟨rfl, rfl⟩ := he
        exact box_sound h hf (ev x) hr
      · cases he
    · cases he
  | build t parts =>
    simp only [evalOp, evMove, evPick, evAlloc, evBox, evBuild, evBuildSlice, evLoad, evStore, evNilCheck, evBinOp, evUnOp, evConvert, evMakeInterface, evMakeFunc, evMakeSlice, evSlice, evFieldAddr, evField, evIndexAddr, evIndex, evLookup, evMapUpdate, evTypeAssert, evExtract, evBuiltin] at he
    split at he
    · rename_i d hd
      have key : ∀ r, (match d.tk with
          | .struct fs => fillAV d.zero (placeStruct fs) (parts.toList.map fun p => (p.1, evalO E.glob tm p.2))
          | .array n e => match E.T e with
            | some de => fillAV d.zero (placeArr de.size n) (parts.toList.map fun p => (p.1, evalO E.glob tm p.2))
            | none => none
          | _ => none) = some r → Out P B F (do pure (.value (← Instr.build t (parts.map fun (i, x) => (i, a.eval x))))) w m S b 0 (.agg r) H :=
        fun r hr => build_sound h hG ht hE.T hd parts hr
      split at he
      · rename_i fs hk
        simp only [Option.map_eq_some_iff, Prod.mk.injEq] at he
        obtain ⟨r, hr, rfl, rfl⟩ := he
        exact key r (by rw [hk]; exact hr)
      · rename_i n e hk
        split at he
        · rename_i de hde
          simp only [Option.map_eq_some_iff, Prod.mk.injEq] at he
          obtain ⟨r, hr, rfl, rfl⟩ := he
          exact key r (by rw [hk]; simp only [hde]; exact hr)
        · cases he
      · cases he
    · cases he
  | buildSlice t n parts =>
    simp only [evalOp, evMove, evPick, evAlloc, evBox, evBuild, evBuildSlice, evLoad, evStore, evNilCheck, evBinOp, evUnOp, evConvert, evMakeInterface, evMakeFunc, evMakeSlice, evSlice, evFieldAddr, evField, evIndexAddr, evIndex, evLookup, evMapUpdate, evTypeAssert, evExtract, evBuiltin] at he
    split at he
    · rename_i d hd
      have htk := (hE.T t d hd).tk
      split at he
      · rename_i e hk
        rw [hk] at htk; simp only [TKok] at htk
        split at he
        · rename_i de hde
          split at he
          · rename_i hc
            simp only [Bool.and_eq_true, Nat.blt_eq] at hc
            split at he
            · rename_i r0 h0
              split at he
              · rename_i r hr
                simp only [Option.some.injEq, Prod.mk.injEq] at he
                obtain ⟨rfl, rfl⟩ := he
                exact buildSlice_sound h hf hG ht htk (hE.T e de hde) hc.2 hc.1 parts h0 hr
              · cases he
            · cases he
          · cases he
        · cases he
      · cases he
    · cases he
  | load t x =>
    simp only [evalOp, evMove, evPick, evAlloc, evBox, evBuild, evBuildSlice, evLoad, evStore, evNilCheck, evBinOp, evUnOp, evConvert, evMakeInterface, evMakeFunc, evMakeSlice, evSlice, evFieldAddr, evField, evIndexAddr, evIndex, evLookup, evMapUpdate, evTypeAssert, evExtract, evBuiltin] at he
    split at he
    · rename_i d hd
      simp only [Option.map_eq_some_iff, Prod.mk.injEq] at he
      obtain ⟨y', hl, rfl, rfl⟩ := he
      obtain ⟨u, h1, h2, _⟩ := load_sound h (hE.T t d hd) (ev x) hl
      exact Out.val h h1 h2
    · cases he
  | store t x y' =>
    simp only [evalOp, evMove, evPick, evAlloc, evBox, evBuild, evBuildSlice, evLoad, evStore, evNilCheck, evBinOp, evUnOp, evConvert, evMakeInterface, evMakeFunc, evMakeSlice, evSlice, evFieldAddr, evField, evIndexAddr, evIndex, evLookup, evMapUpdate, evTypeAssert, evExtract, evBuiltin] at he
    split at he
    · rename_i d hd
      simp only [Option.map_eq_some_iff, Prod.mk.injEq] at he
      obtain ⟨H1, hl, rfl, rfl⟩ := he
      obtain ⟨w', h1, h2⟩ := store_sound h (hE.T t d hd) (ev x) (ev y') hl
      exact Out.skip h2 h1 (MM.le_refl _) (SS.le_refl _) (fun _ _ => rfl)
    · cases he
  | nilCheck x =>
    have hx := ev x
    simp only [evalOp, evMove, evPick, evAlloc, evBox, evBuild, evBuildSlice, evLoad, evStore, evNilCheck, evBinOp, evUnOp, evConvert, evMakeInterface, evMakeFunc, evMakeSlice, evSlice, evFieldAddr, evField, evIndexAddr, evIndex, evLookup, evMapUpdate, evTypeAssert, evExtract, evBuiltin] at he
    split at he
    · rename_i id e p n hc
      simp only [Option.some.injEq, Prod.mk.injEq] at he
      obtain ⟨rfl, rfl⟩ := he
      rw [hc] at hx
      have hx' := hx
      simp only [VR] at hx
      obtain ⟨loc, _, _, hv⟩ := hx
      exact ⟨.value (a.eval x), a.eval x, w, m, S, by simp [execOp, hv], .inl rfl, hx', h, MM.le_refl _, SS.le_refl _, fun _ _ => rfl⟩
    · rename_i r e p n hc
      simp only [Option.some.injEq, Prod.mk.injEq] at he
      obtain ⟨rfl, rfl⟩ := he
      rw [hc] at hx
      have hx' := hx
      simp only [VR] at hx
      obtain ⟨loc, off, c, hv, _⟩ := hx
      exact ⟨.value (a.eval x), a.eval x, w, m, S, by simp [execOp, hv], .inl rfl, hx', h, MM.le_refl _, SS.le_refl _, fun _ _ => rfl⟩
    · rename_i f l r hc
      simp only [Option.some.injEq, Prod.mk.injEq] at he
      obtain ⟨rfl, rfl⟩ := he
      rw [hc] at hx
      have hx' := hx
      simp only [VR] at hx
      obtain ⟨g, fs, cs, hv, rfl, _⟩ := hx
      exact ⟨.value (a.eval x), a.eval x, w, m, S, by simp [execOp, hv], .inl rfl, hx', h, MM.le_refl _, SS.le_refl _, fun _ _ => rfl⟩
    · rename_i f l r hc
      simp only [Option.some.injEq, Prod.mk.injEq] at he
      obtain ⟨rfl, rfl⟩ := he
      rw [hc] at hx
      have hx' := hx
      simp only [VR] at hx
      obtain ⟨g, fs, cs, hv, ⟨loc, _, rfl⟩, _⟩ := hx
      exact ⟨.value (a.eval x), a.eval x, w, m, S, by simp [execOp, hv], .inl rfl, hx', h, MM.le_refl _, SS.le_refl _, fun _ _ => rfl⟩
    · cases he
  | binOp o t x y' z =>
    simp only [evalOp, evMove, evPick, evAlloc, evBox, evBuild, evBuildSlice, evLoad, evStore, evNilCheck, evBinOp, evUnOp, evConvert, evMakeInterface, evMakeFunc, evMakeSlice, evSlice, evFieldAddr, evField, evIndexAddr, evIndex, evLookup, evMapUpdate, evTypeAssert, evExtract, evBuiltin, Option.map_eq_some_iff, Prod.mk.injEq] at he
    obtain ⟨r, hr, rfl, rfl⟩ := he
    split at hr
    · rename_i v hv
      simp only [Option.some.injEq] at hr; subst hr
      obtain ⟨u, h1, h2⟩ := nilEq_sound (w := w) hE.T (ev x) (ev y') hv
      exact Out.val h h1 h2
    · obtain ⟨u, h1, h2⟩ := binAV_sound (w := w) hE.T hE.eq hE.eqI (ev x) (ev y') hr x y'
      exact Out.val h h1 h2
  | unOp o t x =>
    simp only [evalOp, evMove, evPick, evAlloc, evBox, evBuild, evBuildSlice, evLoad, evStore, evNilCheck, evBinOp, evUnOp, evConvert, evMakeInterface, evMakeFunc, evMakeSlice, evSlice, evFieldAddr, evField, evIndexAddr, evIndex, evLookup, evMapUpdate, evTypeAssert, evExtract, evBuiltin, Option.map_eq_some_iff, Prod.mk.injEq] at he
    obtain ⟨r, hr, rfl, rfl⟩ := he
    obtain ⟨u, h1, h2⟩ := unAV_sound (w := w) (P := P) (ev x) hr
    exact Out.val h h1 h2
  | convert s d x =>
    simp only [evalOp, evMove, evPick, evAlloc, evBox, evBuild, evBuildSlice, evLoad, evStore, evNilCheck, evBinOp, evUnOp, evConvert, evMakeInterface, evMakeFunc, evMakeSlice, evSlice, evFieldAddr, evField, evIndexAddr, evIndex, evLookup, evMapUpdate, evTypeAssert, evExtract, evBuiltin] at he
    exact conv_sound hE.T h hf (ev x) he
  | makeInterface t x =>
    simp only [evalOp, evMove, evPick, evAlloc, evBox, evBuild, evBuildSlice, evLoad, evStore, evNilCheck, evBinOp, evUnOp, evConvert, evMakeInterface, evMakeFunc, evMakeSlice, evSlice, evFieldAddr, evField, evIndexAddr, evIndex, evLookup, evMapUpdate, evTypeAssert, evExtract, evBuiltin] at he
    split at he
    · rename_i d hd
      split at he
      · cases he
      · rename_i hk
        simp only [Option.some.injEq, Prod.mk.injEq] at he
        obtain ⟨rfl, rfl⟩ := he
        exact makeInterface_sound h hE.T hd (ev x) hk
    · cases he
  | makeFunc f first captured =>
    cases f with
    | yield l => simp [evalOp, evMove, evPick, evAlloc, evBox, evBuild, evBuildSlice, evLoad, evStore, evNilCheck, evBinOp, evUnOp, evConvert, evMakeInterface, evMakeFunc, evMakeSlice, evSlice, evFieldAddr, evField, evIndexAddr, evIndex, evLookup, evMapUpdate, evTypeAssert, evExtract, evBuiltin] at he
    | _ =>
      simp only [evalOp, evMove, evPick, evAlloc, evBox, evBuild, evBuildSlice, evLoad, evStore, evNilCheck, evBinOp, evUnOp, evConvert, evMakeInterface, evMakeFunc, evMakeSlice, evSlice, evFieldAddr, evField, evIndexAddr, evIndex, evLookup, evMapUpdate, evTypeAssert, evExtract, evBuiltin, Option.some.injEq, Prod.mk.injEq] at he
      obtain ⟨rfl, rfl⟩ := he
      refine Out.val (s := Instr.makeFunc _ (first.map a.eval) (captured.map a.eval)) h (u := .func _ (first.map a.eval) (captured.map a.eval)) rfl ?_
      simp only [VR]
      exact ⟨_, _, _, rfl, rfl, by rw [Array.toList_map]; exact LR_map hG ht _, by rw [Array.toList_map]; exact LR_map hG ht _⟩
  | makeMap t r =>
    cases r with
    | some _ => simp [evalOp, evMove, evPick, evAlloc, evBox, evBuild, evBuildSlice, evLoad, evStore, evNilCheck, evBinOp, evUnOp, evConvert, evMakeInterface, evMakeFunc, evMakeSlice, evSlice, evFieldAddr, evField, evIndexAddr, evIndex, evLookup, evMapUpdate, evTypeAssert, evExtract, evBuiltin] at he
    | none =>
      simp only [evalOp, evMove, evPick, evAlloc, evBox, evBuild, evBuildSlice, evLoad, evStore, evNilCheck, evBinOp, evUnOp, evConvert, evMakeInterface, evMakeFunc, evMakeSlice, evSlice, evFieldAddr, evField, evIndexAddr, evIndex, evLookup, evMapUpdate, evTypeAssert, evExtract, evBuiltin, Option.some.injEq, Prod.mk.injEq] at he
      obtain ⟨rfl, rfl⟩ := he
      exact makeMap_sound h hf
  | makeSlice t l c =>
    simp only [evalOp, evMove, evPick, evAlloc, evBox, evBuild, evBuildSlice, evLoad, evStore, evNilCheck, evBinOp, evUnOp, evConvert, evMakeInterface, evMakeFunc, evMakeSlice, evSlice, evFieldAddr, evField, evIndexAddr, evIndex, evLookup, evMapUpdate, evTypeAssert, evExtract, evBuiltin] at he
    split at he
    · rename_i d hd
      have htk := (hE.T t d hd).tk
      split at he
      · rename_i e hk
        rw [hk] at htk; simp only [TKok] at htk
        split at he
        · rename_i de _ ln _ cn hde hl hc
          split at he
          · rename_i hcond
            obtain ⟨hpos, hlc⟩ := hcond
            split at he
            · rename_i r hr
              simp only [Option.some.injEq, Prod.mk.injEq] at he
              obtain ⟨rfl, rfl⟩ := he
              have e1 := ev l
              have e2 := ev c
              rw [hl] at e1; rw [hc] at e2
              simp only [VR] at e1 e2
              have := fun kl kc => makeSlice_sound (kl := kl) (kc := kc) h hf htk (hE.T e de hde) (by simpa using hpos) hlc hr
              simp only [execOp, e1, e2]
              exact this _ _
            · cases he
          · cases he
        · cases he
      · cases he
    · cases he
  | slice t x lo hi mx =>
    simp only [evalOp, evMove, evPick, evAlloc, evBox, evBuild, evBuildSlice, evLoad, evStore, evNilCheck, evBinOp, evUnOp, evConvert, evMakeInterface, evMakeFunc, evMakeSlice, evSlice, evFieldAddr, evField, evIndexAddr, evIndex, evLookup, evMapUpdate, evTypeAssert, evExtract, evBuiltin] at he
    split at he
    · rename_i d hd
      have htk := (hE.T t d hd).tk
      split at he
      · rename_i n e hk
        split at he
        · rename_i de hde
          split at he
          · rename_i hpos
            simp only [Option.map_eq_some_iff, Prod.mk.injEq] at he
            obtain ⟨y', hr, rfl, rfl⟩ := he
            exact sliceArr_sound h hE.T hd hk hde (by simpa using hpos) (ev x) (OptR_map hG ht lo) (OptR_map hG ht hi) hr
          · cases he
        · cases he
      · rename_i e hk
        split at he
        · rename_i de hde
          simp only [Option.map_eq_some_iff, Prod.mk.injEq] at he
          obtain ⟨y', hr, rfl, rfl⟩ := he
          exact sliceAV_sound h hE.T hd hk hde (ev x) (OptR_map hG ht lo) (OptR_map hG ht hi) (OptR_map hG ht mx) hr
        · cases he
      · rename_i hk
        rw [hk] at htk; simp only [TKok] at htk
        split at he
        · rename_i s hs
          simp only [Option.map_eq_some_iff, Prod.mk.injEq] at he
          obtain ⟨y', hr, rfl, rfl⟩ := he
          have e1 := ev x
          rw [hs] at e1
          exact sliceStr_sound h htk e1 (OptR_map hG ht lo) (OptR_map hG ht hi) hr
        · cases he
      · cases he
    · cases he
  | fieldAddr t x f =>
    simp only [evalOp, evMove, evPick, evAlloc, evBox, evBuild, evBuildSlice, evLoad, evStore, evNilCheck, evBinOp, evUnOp, evConvert, evMakeInterface, evMakeFunc, evMakeSlice, evSlice, evFieldAddr, evField, evIndexAddr, evIndex, evLookup, evMapUpdate, evTypeAssert, evExtract, evBuiltin] at he
    split at he
    · rename_i d hd
      split at he
      · rename_i fs hk
        split at he
        · rename_i off size ft hf'
          exact fieldAddr_sound h hE.T hd hk hf' (ev x) he
        · cases he
      · cases he
    · cases he
  | field t x f =>
    simp only [evalOp, evMove, evPick, evAlloc, evBox, evBuild, evBuildSlice, evLoad, evStore, evNilCheck, evBinOp, evUnOp, evConvert, evMakeInterface, evMakeFunc, evMakeSlice, evSlice, evFieldAddr, evField, evIndexAddr, evIndex, evLookup, evMapUpdate, evTypeAssert, evExtract, evBuiltin] at he
    split at he
    · rename_i d hd
      split at he
      · rename_i fs hk
        split at he
        · rename_i off size ft r hf' hx
          split at he
          · rename_i df hdf
            split at he
            · rename_i hle
              have e1 := ev x
              rw [hx] at e1
              have : ∃ z, (if df.agg then (r.sub none (addF [] off) size).map .agg else r.get none (addF [] off)) = some z ∧ y = z ∧ H = H' := by
                cases ha : df.agg
                · rw [ha] at he; simp only [Bool.false_eq_true, if_false, Option.map_eq_some_iff, Prod.mk.injEq] at he ⊢
                  obtain ⟨q, h1, h2, h3⟩ := he
                  exact ⟨q, h1, h2.symm, h3⟩
                · rw [ha] at he; simp only [if_true, Option.map_eq_some_iff, Prod.mk.injEq] at he ⊢
                  obtain ⟨q, h1, h2, h3⟩ := he
                  exact ⟨.agg q, ⟨q, h1, rfl⟩, h2.symm, h3⟩
              obtain ⟨z, hz, rfl, rfl⟩ := this
              exact field_sound h hE.T hd hk hf' e1 hdf (Nat.le_of_ble_eq_true hle) hz
            · cases he
          · cases he
        · cases he
      · cases he
    · cases he
  | indexAddr t x i =>
    simp only [evalOp, evMove, evPick, evAlloc, evBox, evBuild, evBuildSlice, evLoad, evStore, evNilCheck, evBinOp, evUnOp, evConvert, evMakeInterface, evMakeFunc, evMakeSlice, evSlice, evFieldAddr, evField, evIndexAddr, evIndex, evLookup, evMapUpdate, evTypeAssert, evExtract, evBuiltin] at he
    split at he
    · rename_i d n hd hi
      obtain ⟨k, hv⟩ := asIntOf_VR (ev i) hi
      split at he
      · rename_i len e hk
        split at he
        · rename_i de hde
          split at he
          · rename_i hb
            exact indexArr_sound h hE.T hd hk hde (ev x) hv hb he
          · cases he
        · cases he
      · rename_i e hk
        split at he
        · rename_i de r win esz l hde hs
          split at he
          · rename_i hesz
            split at he
            · rename_i hb
              exact indexSl_sound h hE.T hd hk hde (ev x) hv hs (Nat.eq_of_beq_eq_true hesz) hb he
            · cases he
          · cases he
        · cases he
      · cases he
    · cases he
  | index t x i =>
    simp only [evalOp, evMove, evPick, evAlloc, evBox, evBuild, evBuildSlice, evLoad, evStore, evNilCheck, evBinOp, evUnOp, evConvert, evMakeInterface, evMakeFunc, evMakeSlice, evSlice, evFieldAddr, evField, evIndexAddr, evIndex, evLookup, evMapUpdate, evTypeAssert, evExtract, evBuiltin] at he
    split at he
    · rename_i d n hd hi
      obtain ⟨k, hv⟩ := asIntOf_VR (ev i) hi
      have hH : H' = H := by
        revert he
        repeat' split
        all_goals first
          | (intro he; cases he; done)
          | (intro he; simp only [Option.map_eq_some_iff, Prod.mk.injEq] at he; obtain ⟨_, _, _, h3⟩ := he; exact h3.symm)
          | (intro he; simp only [Option.some.injEq, Prod.mk.injEq] at he; exact he.2.symm)
      subst hH
      exact index_sound h hE.T hd (ev x) hv he
    · cases he
  | lookup t x i ok =>
    simp only [evalOp, evMove, evPick, evAlloc, evBox, evBuild, evBuildSlice, evLoad, evStore, evNilCheck, evBinOp, evUnOp, evConvert, evMakeInterface, evMakeFunc, evMakeSlice, evSlice, evFieldAddr, evField, evIndexAddr, evIndex, evLookup, evMapUpdate, evTypeAssert, evExtract, evBuiltin] at he
    split at he
    · rename_i d hd
      split at he
      · rename_i k e hk
        split at he
        · rename_i de hde hko
          simp only [Option.map_eq_some_iff] at hko
          obtain ⟨dk, hdk, hko⟩ := hko
          have key : ∀ o, (match (generalizing := false) evalO E.glob tm x with
            | .nilmap => some none
            | .map id => match hget H id with
              | .map l => findAV (evalO E.glob tm i) l
              | _ => none
            | _ => none) = some o → y = (match o with | some v => if ok then .tup [v, .bool true] else v | none => if ok then .tup [zeroAV de, .bool false] else zeroAV de) → H' = H →
              Out P B F (do pure (.value (← Instr.lookup t (a.eval x) (a.eval i) ok))) w m S b 0 y H' := by
            intro o ho hy hH
            subst hH
            exact lookup_sound h hE.T hd hk hde hdk (ev x) (ev i) hko ho hy
          split at he
          · rename_i v hfound
            simp only [Option.some.injEq, Prod.mk.injEq] at he
            exact key (some v) hfound he.1.symm he.2.symm
          · rename_i hfound
            simp only [Option.some.injEq, Prod.mk.injEq] at he
            exact key none hfound he.1.symm he.2.symm
          · cases he
        · cases he
      · cases he
    · cases he
  | mapUpdate t x k v =>
    simp only [evalOp, evMove, evPick, evAlloc, evBox, evBuild, evBuildSlice, evLoad, evStore, evNilCheck, evBinOp, evUnOp, evConvert, evMakeInterface, evMakeFunc, evMakeSlice, evSlice, evFieldAddr, evField, evIndexAddr, evIndex, evLookup, evMapUpdate, evTypeAssert, evExtract, evBuiltin] at he
    split at he
    · rename_i d hd
      split at he
      · rename_i kt et id hk hx
        split at he
        · rename_i l hg hko
          simp only [Option.map_eq_some_iff, Prod.mk.injEq] at he hko
          obtain ⟨l', hp, rfl, rfl⟩ := he
          obtain ⟨dk, hdk, hko⟩ := hko
          have e1 := ev x
          rw [hx] at e1
          exact mapUpdate_sound h hE.T hd hk hdk e1 (ev k) (ev v) hko hg hp
        · cases he
      · cases he
    · cases he
  | insert t x k v =>
    simp only [evalOp, evMove, evPick, evAlloc, evBox, evBuild, evBuildSlice, evLoad, evStore, evNilCheck, evBinOp, evUnOp, evConvert, evMakeInterface, evMakeFunc, evMakeSlice, evSlice, evFieldAddr, evField, evIndexAddr, evIndex, evLookup, evMapUpdate, evTypeAssert, evExtract, evBuiltin] at he
    split at he
    · rename_i d hd
      split at he
      · rename_i kt et id hk hx
        split at he
        · rename_i l hg hko
          simp only [Option.map_eq_some_iff, Prod.mk.injEq] at he hko
          obtain ⟨l', hp, rfl, rfl⟩ := he
          obtain ⟨dk, hdk, hko⟩ := hko
          have e1 := ev x
          rw [hx] at e1
          exact mapUpdate_sound h hE.T hd hk hdk e1 (ev k) (ev v) hko hg hp
        · cases he
      · cases he
    · cases he
  | typeAssert x ty' t ok =>
    simp only [evalOp, evMove, evPick, evAlloc, evBox, evBuild, evBuildSlice, evLoad, evStore, evNilCheck, evBinOp, evUnOp, evConvert, evMakeInterface, evMakeFunc, evMakeSlice, evSlice, evFieldAddr, evField, evIndexAddr, evIndex, evLookup, evMapUpdate, evTypeAssert, evExtract, evBuiltin] at he
    split at he
    · rename_i d u v hd hx
      split at he
      · cases he
      · rename_i hk
        split at he
        · rename_i hu
          have := Nat.eq_of_beq_eq_true hu
          subst this
          simp only [Option.some.injEq, Prod.mk.injEq] at he
          obtain ⟨he, rfl⟩ := he
          have e1 := ev x
          rw [hx] at e1
          exact typeAssert_sound h hE.T hd e1 hk he
        · cases he
    · cases he
  | extract t i =>
    simp only [evalOp, evMove, evPick, evAlloc, evBox, evBuild, evBuildSlice, evLoad, evStore, evNilCheck, evBinOp, evUnOp, evConvert, evMakeInterface, evMakeFunc, evMakeSlice, evSlice, evFieldAddr, evField, evIndexAddr, evIndex, evLookup, evMapUpdate, evTypeAssert, evExtract, evBuiltin] at he
    split at he
    · rename_i l hx
      simp only [Option.map_eq_some_iff, Prod.mk.injEq] at he
      obtain ⟨y', hr, rfl, rfl⟩ := he
      have e1 := ev t
      rw [hx] at e1
      exact extract_sound h e1 hr
    · cases he
  | call c =>
    obtain ⟨callee, args, argTypes⟩ := c
    cases callee with
    | builtin bi =>
      have key := evalCall_sound (ty := ty) hE h hG ht (q := .call { callee := .builtin bi, args, argTypes }) rfl hf he
      simp only [execOp, resolve, invoke, pure_bind]
      exact key _
    | _ => simp [evalOp, evMove, evPick, evAlloc, evBox, evBuild, evBuildSlice, evLoad, evStore, evNilCheck, evBinOp, evUnOp, evConvert, evMakeInterface, evMakeFunc, evMakeSlice, evSlice, evFieldAddr, evField, evIndexAddr, evIndex, evLookup, evMapUpdate, evTypeAssert, evExtract, evBuiltin] at he
  | _ => simp [evalOp, evMove, evPick, evAlloc, evBox, evBuild, evBuildSlice, evLoad, evStore, evNilCheck, evBinOp, evUnOp, evConvert, evMakeInterface, evMakeFunc, evMakeSlice, evSlice, evFieldAddr, evField, evIndexAddr, evIndex, evLookup, evMapUpdate, evTypeAssert, evExtract, evBuiltin] at he
end Go.Abs
end
