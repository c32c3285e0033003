/- A certified abstract evaluator of the model's code (namespace Go.Abs), one part of it: what it answers holds of every run. Each theorem states its own conditions. -/
import Derived.Test.YtfbamgphngmglaaGreatDoorEngineH
set_option linter.unusedSimpArgs false
set_option linter.unusedVariables false
section
namespace Go.Abs
variable {P : Program} {B : Base} {m : MM} {S : SS} {F : FF} {H : Heap} {w : World}
/-! ### what an operation reads -/
def unOps : Unit := ()
theorem evalO_congr_map {glob : Nat → Option (Row × Nat)} {tm tm' : List AV} : ∀ (l : List Operand), (∀ x ∈ l, evalO glob tm x = evalO glob tm' x) → l.map (evalO glob tm) = l.map (evalO glob tm')
  | [], _ => rfl
  | x :: l, h => by
    simp only [List.map_cons]
    rw [h x (by simp), evalO_congr_map l (fun y hy => h y (by simp [hy]))]
theorem parts_congr {glob : Nat → Option (Row × Nat)} {tm tm' : List AV} : ∀ (l : List (Nat × Operand)), (∀ x ∈ l.map (·.2), evalO glob tm x = evalO glob tm' x) → (l.map fun p => (p.1, evalO glob tm p.2)) = l.map fun p => (p.1, evalO glob tm' p.2)
  | [], _ => rfl
  | x :: l, h => by
    simp only [List.map_cons]
    rw [h x.2 (by simp), parts_congr l (fun y hy => h y (by simp at hy ⊢; exact .inr hy))]
theorem opt_congr {glob : Nat → Option (Row × Nat)} {tm tm' : List AV} (o : Option Operand) (h : ∀ x, o = some x → evalO glob tm x = evalO glob tm' x) : o.map (evalO glob tm) = o.map (evalO glob tm') := by
  cases o with
  | none => rfl
  | some x => simp only [Option.map_some]; rw [h x rfl]
theorem evalOp_congr {E : Env} {tm tm' : List AV} {h : Heap} {b : Nat} {op : Op} (hx : ∀ x ∈ op.operands, evalO E.glob tm x = evalO E.glob tm' x) : evalOp E tm h b op = evalOp E tm' h b op := by
  cases op with
  | build t parts =>
    have := parts_congr (glob := E.glob) (tm := tm) (tm' := tm') parts.toList (fun x hx' => hx x (by simpa [Op.operands] using hx'))
    simp only [evalOp, evBuild, this]
  | buildSlice t n parts =>
    have := parts_congr (glob := E.glob) (tm := tm) (tm' := tm') parts.toList (fun x hx' => hx x (by simpa [Op.operands] using hx'))
    simp only [evalOp, evBuildSlice, this]
  | makeFunc f first captured =>
    have h1 := evalO_congr_map (glob := E.glob) (tm := tm) (tm' := tm') first.toList (fun x hx' => hx x (by simp [Op.operands]; exact .inl (by simpa using hx')))
    have h2 := evalO_congr_map (glob := E.glob) (tm := tm) (tm' := tm') captured.toList (fun x hx' => hx x (by simp [Op.operands]; exact .inr (by simpa using hx')))
    simp only [evalOp, evMakeFunc, h1, h2]
  | slice t x lo hi mx =>
    have h0 := hx x (by simp [Op.operands])
    have h1 := opt_congr (glob := E.glob) (tm := tm) (tm' := tm') lo (fun y hy => hx y (by simp [Op.operands, hy]))
    have h2 := opt_congr (glob := E.glob) (tm := tm) (tm' := tm') hi (fun y hy => hx y (by simp [Op.operands, hy]))
    have h3 := opt_congr (glob := E.glob) (tm := tm) (tm' := tm') mx (fun y hy => hx y (by simp [Op.operands, hy]))
    simp only [evalOp, evSlice, h0, h1, h2, h3]
  | makeMap t r => cases r <;> simp [evalOp]
  | call c =>
    obtain ⟨callee, args, argTypes⟩ := c
    cases callee with
    | builtin o =>
      have h1 := evalO_congr_map (glob := E.glob) (tm := tm) (tm' := tm') args.toList (fun x hx' => hx x (by simp [Op.operands, Call.operands]; simpa using hx'))
      simp only [evalOp, evBuiltin, h1]
    | _ => simp [evalOp]
  | _ =>
    simp only [Op.operands, List.mem_toArray, List.mem_toArray] at hx
    try simp only [evalOp, evMove, evPick, evAlloc, evBox, evLoad, evStore, evNilCheck, evBinOp, evUnOp, evConvert, evMakeInterface, evMakeSlice, evFieldAddr, evField, evIndexAddr, evIndex, evLookup, evMapUpdate, evTypeAssert, evExtract]
    all_goals first
      | rfl
      | (simp at hx; simp only [hx]; done)
      | (simp at hx; obtain ⟨h1, h2⟩ := hx; simp only [h1, h2]; done)
      | (simp at hx; obtain ⟨h1, h2, h3⟩ := hx; simp only [h1, h2, h3]; done)
theorem stepOp_congr {E : Env} {inl : Inl} {tm tm' : List AV} {h : Heap} {b : Nat} {op : Op} (hx : ∀ x ∈ op.operands, evalO E.glob tm x = evalO E.glob tm' x) : stepOp E inl tm h b op = stepOp E inl tm' h b op := by
  have hplain := evalOp_congr (E := E) (h := h) (b := b) hx
  unfold stepOp
  split
  · rename_i f args aty
    have h0 := hx f (by simp [Op.operands, Call.operands])
    have h1 := evalO_congr_map (glob := E.glob) (tm := tm) (tm' := tm') args.toList (fun x hx' => hx x (by simp [Op.operands, Call.operands]; exact .inr (by simpa using hx')))
    simp only [h0, h1]
  · exact hplain
theorem evalO_dstSet {glob : Nat → Option (Row × Nat)} {tm : List AV} {d : Option Tmp} {v : AV} {x : Operand} (h : ∀ t, d = some t → x ≠ .tmp t) : evalO glob (dstSet tm d v) x = evalO glob tm x := by
  cases d with
  | none => rfl
  | some t =>
    cases x with
    | tmp u =>
      have hne : t ≠ u := fun e => h t rfl (e ▸ rfl)
      simp only [evalO, dstSet, tget_eq, tset_eq, List.getD_eq_getElem?_getD, List.getElem?_set_ne hne]
    | _ => rfl
/-- a temporary that an operation does not look at -/
def Unseen (ops : Array Oper) (o : Oper) (d : Option Tmp) : Prop := ∀ t, d = some t → t ∉ o.looksAt ops
theorem evalOp_unseen {ops : Array Oper} {o : Oper} {d : Option Tmp} (hu : Unseen ops o d) {E : Env} {tm : List AV} {v : AV} {h : Heap} {b : Nat} : evalOp E (dstSet tm d v) h b o.op = evalOp E tm h b o.op :=
  evalOp_congr fun x hx => evalO_dstSet fun t ht hxt => hu t ht (by
    subst hxt
    exact List.mem_append_left _ (List.mem_filterMap.2 ⟨.tmp t, by simpa using hx, rfl⟩))
theorem stepOp_unseen {ops : Array Oper} {o : Oper} {d : Option Tmp} (hu : Unseen ops o d) {E : Env} {inl : Inl} {tm : List AV} {v : AV} {h : Heap} {b : Nat} : stepOp E inl (dstSet tm d v) h b o.op = stepOp E inl tm h b o.op :=
  stepOp_congr fun x hx => evalO_dstSet fun t ht hxt => hu t ht (by
    subst hxt
    exact List.mem_append_left _ (List.mem_filterMap.2 ⟨.tmp t, by simpa using hx, rfl⟩))
theorem guardB_unseen {ops : Array Oper} {o : Oper} {d : Option Tmp} (hu : Unseen ops o d) {tm : List AV} {v : AV} : guardB ops (dstSet tm d v) o = guardB ops tm o := by
  cases d with
  | none => rfl
  | some t =>
    unfold guardB
    cases hg : o.guard with
    | none => rfl
    | some q =>
      obtain ⟨j, want⟩ := q
      simp only [nthR_eq, Array.getElem?_toList]
      cases hd : (ops[j]?).bind (·.dst) with
      | none => rfl
      | some u =>
        have hne : t ≠ u := fun e => hu t rfl (by subst e; simp [Oper.looksAt, hg, hd])
        simp only [dstSet, tget_eq, tset_eq, List.getD_eq_getElem?_getD, List.getElem?_set_ne hne]
/-! ### classes -/
theorem evalOp_pure {E : Env} {tm : List AV} {op : Op} (hc : clsOf E.T op = .pure) {v : AV} {h0 : Heap} (he : evalOp E tm [] 0 op = some (v, h0)) (h : Heap) (b : Nat) : evalOp E tm h b op = some (v, h) := by
  cases op with
  | indexAddr t x i =>
    simp only [clsOf] at hc
    cases ha : isArrT E.T t with
    | false => rw [ha] at hc; cases hc
    | true =>
      unfold isArrT at ha
      simp only [evalOp, evIndexAddr] at he ⊢
      split at he
      · rename_i d i' hd hi
        rw [hd] at ha
        simp only at ha
        split at he
        · rename_i len e hk
          repeat' split at he
          all_goals first
            | (cases he; done)
            | (simp only [Option.some.injEq, Prod.mk.injEq] at he; obtain ⟨rfl, _⟩ := he; simp_all)
        · rename_i e hk; rw [hk] at ha; cases ha
        · cases he
      · cases he
  | convert s d x =>
    simp only [evalOp, evConvert] at he ⊢
    simp only [clsOf, clsConv] at hc
    unfold convAV at he ⊢
    repeat' split at he
    all_goals first
      | (cases he; done)
      | (simp only [Option.some.injEq, Prod.mk.injEq] at he; obtain ⟨rfl, _⟩ := he; simp_all; done)
      | (simp_all; done)
  | call c =>
    obtain ⟨callee, args, argTypes⟩ := c
    cases callee with
    | builtin o =>
      cases o with
      | min =>
        simp only [evalOp, evBuiltin] at he ⊢
        split at he <;> simp_all
      | max =>
        simp only [evalOp, evBuiltin] at he ⊢
        split at he <;> simp_all
      | _ => simp [clsOf] at hc
    | _ => simp [clsOf] at hc
  | makeMap t r => cases r <;> simp [clsOf] at hc
  | move x => simp only [evalOp, evMove, Option.some.injEq, Prod.mk.injEq] at he ⊢; simp [he.1]
  | assign x => simp only [evalOp, evMove, Option.some.injEq, Prod.mk.injEq] at he ⊢; simp [he.1]
  | pick c x y => simp only [evalOp, evPick] at he ⊢; split at he <;> simp_all
  | build t parts =>
    simp only [evalOp, evBuild] at he ⊢
    repeat' split at he
    all_goals first
      | (cases he; done)
      | (simp only [Option.map_eq_some_iff, Prod.mk.injEq] at he; obtain ⟨r, h1, rfl, _⟩ := he; simp_all)
  | nilCheck x => simp only [evalOp, evNilCheck] at he ⊢; split at he <;> simp_all
  | binOp o t x y z =>
    simp only [evalOp, evBinOp, Option.map_eq_some_iff, Prod.mk.injEq] at he ⊢
    obtain ⟨a, h1, h2, _⟩ := he
    exact ⟨a, h1, by simp [h2]⟩
  | unOp o t x =>
    simp only [evalOp, evUnOp, Option.map_eq_some_iff, Prod.mk.injEq] at he ⊢
    obtain ⟨a, h1, h2, _⟩ := he
    exact ⟨a, h1, by simp [h2]⟩
  | makeInterface t x => simp only [evalOp, evMakeInterface] at he ⊢; repeat' split at he
                         all_goals simp_all
  | makeFunc f l r => simp only [evalOp, evMakeFunc] at he ⊢; split at he <;> simp_all
  | fieldAddr t x f =>
    simp only [evalOp, evFieldAddr] at he ⊢
    repeat' split at he
    all_goals first
      | (cases he; done)
      | (simp only [Option.some.injEq, Prod.mk.injEq] at he; obtain ⟨rfl, _⟩ := he; simp_all)
  | field t x f =>
    simp only [evalOp, evField] at he ⊢
    repeat' split at he
    all_goals first
      | (cases he; done)
      | (simp only [Option.map_eq_some_iff, Prod.mk.injEq] at he; obtain ⟨r, h1, rfl, _⟩ := he; simp_all)
  | index t x i =>
    simp only [evalOp, evIndex] at he ⊢
    repeat' split at he
    all_goals first
      | (cases he; done)
      | (simp only [Option.map_eq_some_iff, Prod.mk.injEq] at he; obtain ⟨r, h1, rfl, _⟩ := he; simp_all; done)
      | (simp only [Option.some.injEq, Prod.mk.injEq] at he; obtain ⟨rfl, _⟩ := he; simp_all)
  | typeAssert x t' t ok =>
    simp only [evalOp, evTypeAssert] at he ⊢
    repeat' split at he
    all_goals simp_all
  | extract t i =>
    simp only [evalOp, evExtract] at he ⊢
    split at he
    · simp only [Option.map_eq_some_iff, Prod.mk.injEq] at he ⊢
      obtain ⟨a, h1, h2, _⟩ := he
      exact ⟨a, h1, by simp [h2]⟩
    · cases he
  | _ => simp [clsOf] at hc
theorem evalOp_read {E : Env} {tm : List AV} {op : Op} (hc : clsOf E.T op = .read) {v : AV} {h h' : Heap} {b : Nat} (he : evalOp E tm h b op = some (v, h')) : h' = h := by
  cases op with
  | indexAddr t x i =>
    simp only [evalOp, evIndexAddr] at he
    repeat' split at he
    all_goals first
      | (cases he; done)
      | (simp only [Option.some.injEq, Prod.mk.injEq] at he; exact he.2.symm)
  | load t a =>
    simp only [evalOp, evLoad] at he
    split at he
    · simp only [Option.map_eq_some_iff, Prod.mk.injEq] at he; obtain ⟨_, _, _, rfl⟩ := he; rfl
    · cases he
  | slice t x lo hi mx =>
    simp only [evalOp, evSlice] at he
    repeat' split at he
    all_goals first
      | (cases he; done)
      | (simp only [Option.map_eq_some_iff, Prod.mk.injEq] at he; obtain ⟨_, _, _, rfl⟩ := he; rfl)
  | lookup t x i ok =>
    simp only [evalOp, evLookup] at he
    repeat' split at he
    all_goals first
      | (cases he; done)
      | (simp only [Option.some.injEq, Prod.mk.injEq] at he; exact he.2.symm)
  | convert s d x =>
    simp only [evalOp, evConvert] at he
    simp only [clsOf, clsConv] at hc
    unfold convAV at he
    repeat' split at he
    all_goals first
      | (cases he; done)
      | (simp only [Option.some.injEq, Prod.mk.injEq] at he; exact he.2.symm)
      | (simp_all; done)
  | call c =>
    obtain ⟨callee, args, argTypes⟩ := c
    cases callee with
    | builtin o =>
      cases o with
      | len =>
        simp only [evalOp, evBuiltin] at he
        repeat' split at he
        all_goals first
          | (cases he; done)
          | (simp only [Option.map_eq_some_iff, Prod.mk.injEq] at he; obtain ⟨_, _, _, rfl⟩ := he; rfl)
          | (simp only [Option.some.injEq, Prod.mk.injEq] at he; exact he.2.symm)
          | simp_all
      | cap =>
        simp only [evalOp, evBuiltin] at he
        repeat' split at he
        all_goals first
          | (cases he; done)
          | (simp only [Option.some.injEq, Prod.mk.injEq] at he; exact he.2.symm)
          | simp_all
      | _ => simp [clsOf] at hc
    | _ => simp [clsOf] at hc
  | makeMap t r => cases r <;> simp [clsOf] at hc
  | _ => simp [clsOf] at hc
theorem evalOp_make {E : Env} {tm : List AV} {op : Op} (hc : clsOf E.T op = .make) {v : AV} {h h' : Heap} {b : Nat} (he : evalOp E tm h b op = some (v, h')) : freshOf E op = 1 ∧ ∃ (c : AO) (vf : Nat → AV), vf b = v ∧ h' = hset h b c ∧ ∀ h2 b2, evalOp E tm h2 b2 op = some (vf b2, hset h2 b2 c) := by
  cases op with
  | alloc t =>
    refine ⟨rfl, ?_⟩
    simp only [evalOp, evAlloc] at he ⊢
    split at he
    · rename_i d hd
      simp only [Option.some.injEq, Prod.mk.injEq] at he
      obtain ⟨rfl, rfl⟩ := he
      exact ⟨_, fun b => .ptr b none [] d.size, rfl, rfl, fun h2 b2 => by simp only [hd]⟩
    · cases he
  | box t x =>
    refine ⟨rfl, ?_⟩
    simp only [evalOp, evBox] at he ⊢
    split at he
    · rename_i d hd
      split at he
      · rename_i r hr
        simp only [Option.some.injEq, Prod.mk.injEq] at he
        obtain ⟨rfl, rfl⟩ := he
        exact ⟨_, fun b => .ptr b none [] d.size, rfl, rfl, fun h2 b2 => by simp only [hd, hr]⟩
      · cases he
    · cases he
  | buildSlice t n parts =>
    refine ⟨rfl, ?_⟩
    simp only [evalOp, evBuildSlice] at he ⊢
    repeat' split at he
    all_goals first
      | (cases he; done)
      | (simp only [Option.some.injEq, Prod.mk.injEq] at he
         obtain ⟨rfl, rfl⟩ := he
         exact ⟨_, fun b => .sl b none _ _, rfl, rfl, fun h2 b2 => by simp_all⟩)
  | makeSlice t l c =>
    refine ⟨rfl, ?_⟩
    simp only [evalOp, evMakeSlice] at he ⊢
    repeat' split at he
    all_goals first
      | (cases he; done)
      | (simp only [Option.some.injEq, Prod.mk.injEq] at he
         obtain ⟨rfl, rfl⟩ := he
         exact ⟨_, fun b => .sl b none _ _, rfl, rfl, fun h2 b2 => by simp_all⟩)
  | makeMap t r =>
    cases r with
    | some _ => simp [clsOf] at hc
    | none =>
      refine ⟨rfl, ?_⟩
      simp only [evalOp, Option.some.injEq, Prod.mk.injEq] at he ⊢
      obtain ⟨rfl, rfl⟩ := he
      exact ⟨_, fun b => .map b, rfl, rfl, fun h2 b2 => by simp⟩
  | convert s d x =>
    refine ⟨rfl, ?_⟩
    simp only [evalOp, evConvert] at he ⊢
    simp only [clsOf, clsConv] at hc
    unfold convAV at he ⊢
    repeat' split at he
    all_goals first
      | (cases he; done)
      | (simp only [Option.some.injEq, Prod.mk.injEq] at he; obtain ⟨rfl, rfl⟩ := he; simp_all; done)
      | (simp only [Option.some.injEq, Prod.mk.injEq] at he; obtain ⟨rfl, rfl⟩ := he; exact ⟨_, fun b => .sl b none _ _, rfl, rfl, fun h2 b2 => rfl⟩)
      | (simp_all; done)
  | call c =>
    obtain ⟨callee, args, argTypes⟩ := c
    cases callee with
    | builtin o => cases o <;> simp [clsOf] at hc
    | _ => simp [clsOf] at hc
  | indexAddr t x i =>
    simp only [clsOf] at hc
    cases hb : isArrT E.T t <;> (rw [hb] at hc; cases hc)
  | _ => simp [clsOf] at hc
end Go.Abs
end

section
namespace Go.Abs
theorem dstSet_comm (tm : List AV) {d e : Option Tmp} (v u : AV) (h : ∀ t, d = some t → e ≠ some t) : dstSet (dstSet tm d v) e u = dstSet (dstSet tm e u) d v := by
  cases d with
  | none => rfl
  | some d =>
    cases e with
    | none => rfl
    | some e =>
      have hne : d ≠ e := fun he => h d rfl (he ▸ rfl)
      simp only [dstSet, tset_eq]
      exact List.set_comm _ _ hne
theorem getElem?_succ_set {α : Type} (a : α) (l : List α) (n i : Nat) (x : α) : (a :: l).set (n + 1) x = a :: l.set n x := rfl
/-- an entry that is not selected -/
theorem putF_set {sel : Nat → Bool} {blk : Nat → Nat} {c : AO} : ∀ (fl : List (Option AO)) (k n : Nat) (G : Heap), sel (k + n) = false → fl[n]? = some none → putF sel blk (fl.set n (some c)) k G = putF sel blk fl k G
  | [], _, _, _, _, h => by simp at h
  | x :: fl, k, 0, G, hs, h => by
    have hx : x = none := by simpa using h
    subst hx
    simp only [List.set_cons_zero, putF]
    rw [show sel k = false by simpa using hs]
    simp
  | none :: fl, k, n + 1, G, hs, h => by
    simp only [List.set_cons_succ, putF]
    exact putF_set fl (k + 1) n G (by rw [show k + 1 + n = k + (n + 1) by omega]; exact hs) (by simpa using h)
  | some y :: fl, k, n + 1, G, hs, h => by
    simp only [List.set_cons_succ, putF]
    exact putF_set fl (k + 1) n _ (by rw [show k + 1 + n = k + (n + 1) by omega]; exact hs) (by simpa using h)
theorem clearF_set {past : Nat} {c : AO} : ∀ (fl : List (Option AO)) (k n : Nat), memB past (k + n) = false → clearF past (fl.set n (some c)) k = (clearF past fl k).set n (some c)
  | [], _, _, _ => by simp [clearF]
  | none :: fl, k, 0, hs => by
    simp only [List.set_cons_zero, clearF]
    rw [show memB past k = false by simpa using hs]; simp
  | some y :: fl, k, 0, hs => by
    simp only [List.set_cons_zero, clearF]
    rw [show memB past k = false by simpa using hs]; simp
  | none :: fl, k, n + 1, hs => by
    simp only [List.set_cons_succ, clearF]
    rw [clearF_set fl (k + 1) n (by rw [show k + 1 + n = k + (n + 1) by omega]; exact hs)]
  | some y :: fl, k, n + 1, hs => by
    simp only [List.set_cons_succ, clearF]
    rw [clearF_set fl (k + 1) n (by rw [show k + 1 + n = k + (n + 1) by omega]; exact hs)]
theorem clearF_none {past : Nat} : ∀ (fl : List (Option AO)) (k n : Nat), fl[n]? = some none → (clearF past fl k)[n]? = some none
  | [], _, _, h => by simp at h
  | x :: fl, k, 0, h => by
    have hx : x = none := by simpa using h
    subst hx; simp [clearF]
  | none :: fl, k, n + 1, h => by simp only [clearF, List.getElem?_cons_succ]; exact clearF_none fl (k + 1) n (by simpa using h)
  | some y :: fl, k, n + 1, h => by simp only [clearF, List.getElem?_cons_succ]; exact clearF_none fl (k + 1) n (by simpa using h)
theorem clearF_length {past : Nat} : ∀ (fl : List (Option AO)) (k : Nat), (clearF past fl k).length = fl.length
  | [], _ => rfl
  | none :: fl, k => by simp [clearF, clearF_length fl]
  | some y :: fl, k => by simp [clearF, clearF_length fl]
theorem again_fl {blk : Nat → Nat} {G : Heap} {fl fl' : List (Option AO)} {past : Nat} : ∀ (rd : List (Option RdE)) (k : Nat), (∀ r, some r ∈ rd → putF (memB r.past) blk fl 0 G = putF (memB r.past) blk fl' 0 G) → again blk G fl past rd k = again blk G fl' past rd k
  | [], _, _ => rfl
  | none :: rd, k, h => by simp only [again]; exact again_fl rd (k + 1) (fun r hr => h r (by simp [hr]))
  | some r :: rd, k, h => by
    simp only [again]
    rw [again_fl rd (k + 1) (fun r hr => h r (by simp [hr])), h r (by simp)]
/-- one reader more -/
theorem again_set {blk : Nat → Nat} {G : Heap} {fl : List (Option AO)} {past : Nat} {r : RdE} : ∀ (rd : List (Option RdE)) (k n : Nat), rd[n]? = some none →
    again blk G fl past (rd.set n (some r)) k = ((memB past (k + n) || (match r.ask (putF (memB r.past) blk fl 0 G) with | some v => eqV v r.v | none => false)) && again blk G fl past rd k)
  | [], _, _, h => by simp at h
  | x :: rd, k, 0, h => by
    have hx : x = none := by simpa using h
    subst hx
    simp [again]
    rfl
  | none :: rd, k, n + 1, h => by
    simp only [List.set_cons_succ, again]
    rw [again_set rd (k + 1) n (by simpa using h), show k + 1 + n = k + (n + 1) by omega]
  | some y :: rd, k, n + 1, h => by
    simp only [List.set_cons_succ, again]
    rw [again_set rd (k + 1) n (by simpa using h), show k + 1 + n = k + (n + 1) by omega]
    cases (memB past k || (match y.ask (putF (memB y.past) blk fl 0 G) with | some v => eqV v y.v | none => false)) <;> cases (memB past (k + (n + 1)) || (match r.ask (putF (memB r.past) blk fl 0 G) with | some v => eqV v r.v | none => false)) <;> simp
theorem eqR_eq {x y : ByteArray} (h : eqB x y = true) : x = y := by
  have := (eqR_iff _ _).1 h
  unfold bytesL at this
  cases x with | mk a => cases y with | mk b =>
  cases a; cases b
  simp only at this
  rw [this]
mutual
theorem eqV_eq : ∀ {a b : AV}, eqV a b = true → a = b
  | .bool a, b, h => by cases b <;> simp only [eqV] at h <;> first | (cases h; done) | skip
                        rename_i b; cases a <;> cases b <;> first | rfl | (cases h)
  | .int k x, b, h => by cases b <;> simp only [eqV, Bool.and_eq_true] at h <;> first | (cases h; done) | skip
                         rw [kEq_eq h.1, eq_of_beq h.2]
  | .str s, b, h => by cases b <;> simp only [eqV] at h <;> first | (cases h; done) | skip
                       rw [eqR_eq h]
  | .ptr id e p n, b, h => by cases b <;> simp only [eqV, Bool.and_eq_true] at h <;> first | (cases h; done) | skip
                              obtain ⟨h1, h2, h3, h4⟩ := h
                              rw [Nat.eq_of_beq_eq_true h1, of_decide_eq_true h2, of_decide_eq_true h3, Nat.eq_of_beq_eq_true h4]
  | .vptr r e p n, b, h => by cases b <;> simp only [eqV, Bool.and_eq_true] at h <;> first | (cases h; done) | skip
                              obtain ⟨h1, h2, h3, h4⟩ := h
                              rw [eqRow_eq h1, of_decide_eq_true h2, of_decide_eq_true h3, Nat.eq_of_beq_eq_true h4]
  | .nilptr, b, h => by cases b <;> simp only [eqV] at h <;> first | rfl | (cases h)
  | .nilsl, b, h => by cases b <;> simp only [eqV] at h <;> first | rfl | (cases h)
  | .nilmap, b, h => by cases b <;> simp only [eqV] at h <;> first | rfl | (cases h)
  | .nilfn, b, h => by cases b <;> simp only [eqV] at h <;> first | rfl | (cases h)
  | .nilif, b, h => by cases b <;> simp only [eqV] at h <;> first | rfl | (cases h)
  | .top, b, h => by cases b <;> simp only [eqV] at h <;> first | rfl | (cases h)
  | .sl id w e c, b, h => by cases b <;> simp only [eqV, Bool.and_eq_true] at h <;> first | (cases h; done) | skip
                             obtain ⟨h1, h2, h3, h4⟩ := h
                             rw [Nat.eq_of_beq_eq_true h1, of_decide_eq_true h2, Nat.eq_of_beq_eq_true h3, of_decide_eq_true h4]
  | .vs r w e c, b, h => by cases b <;> simp only [eqV, Bool.and_eq_true] at h <;> first | (cases h; done) | skip
                            obtain ⟨h1, h2, h3, h4⟩ := h
                            rw [eqRow_eq h1, of_decide_eq_true h2, Nat.eq_of_beq_eq_true h3]
                            rename_i c'
                            cases c <;> cases c' <;> first | rfl | (cases h4)
  | .map id, b, h => by cases b <;> simp only [eqV] at h <;> first | (cases h; done) | skip
                        rw [Nat.eq_of_beq_eq_true h]
  | .raw id n, b, h => by cases b <;> simp only [eqV, Bool.and_eq_true] at h <;> first | (cases h; done) | skip
                          rw [Nat.eq_of_beq_eq_true h.1, Nat.eq_of_beq_eq_true h.2]
  | .iface t v, b, h => by cases b <;> simp only [eqV, Bool.and_eq_true] at h <;> first | (cases h; done) | skip
                           rw [Nat.eq_of_beq_eq_true h.1, eqV_eq h.2]
  | .agg r, b, h => by cases b <;> simp only [eqV] at h <;> first | (cases h; done) | skip
                       rw [eqRow_eq h]
  | .tup l, b, h => by cases b <;> simp only [eqV] at h <;> first | (cases h; done) | skip
                       rw [eqVL_eq h]
  | .far a, b, h => by cases b <;> simp only [eqV] at h <;> first | (cases h; done) | skip
                       rw [eqV_eq h]
  | .fn f l r, b, h => by
    cases b with
    | fn g l' r' =>
      cases f <;> cases g <;> simp only [eqV, Bool.and_eq_true] at h <;> first | (cases h; done) | skip
      obtain ⟨h1, h2, h3⟩ := h
      rw [Nat.eq_of_beq_eq_true h1, eqVL_eq h2, eqVL_eq h3]
    | _ => cases f <;> simp [eqV] at h
theorem eqRow_eq : ∀ {a b : Row}, eqRow a b = true → a = b
  | .vals l, b, h => by cases b <;> simp only [eqRow] at h <;> first | (cases h; done) | skip
                        rw [eqVL_eq h]
  | .ints k n z, b, h => by cases b <;> simp only [eqRow, Bool.and_eq_true] at h <;> first | (cases h; done) | skip
                            obtain ⟨h1, h2, h3⟩ := h
                            rw [kEq_eq h1, Nat.eq_of_beq_eq_true h2, of_decide_eq_true h3]
  | .rows k w n z, b, h => by cases b <;> simp only [eqRow, Bool.and_eq_true] at h <;> first | (cases h; done) | skip
                              obtain ⟨h1, h2, h3, h4⟩ := h
                              rw [kEq_eq h1, Nat.eq_of_beq_eq_true h2, Nat.eq_of_beq_eq_true h3, of_decide_eq_true h4]
  | .pure n l, b, h => by cases b <;> simp only [eqRow, Bool.and_eq_true] at h <;> first | (cases h; done) | skip
                          rw [Nat.eq_of_beq_eq_true h.1, eqVL_eq h.2]
theorem eqVL_eq : ∀ {a b : List AV}, eqVL a b = true → a = b
  | [], b, h => by cases b <;> simp only [eqVL] at h <;> first | rfl | (cases h)
  | x :: l, b, h => by cases b <;> simp only [eqVL, Bool.and_eq_true] at h <;> first | (cases h; done) | skip
                       rw [eqV_eq h.1, eqVL_eq h.2]
end
/-! ### two operations of a drawn region change places -/
structure Sep (ops : Array Oper) (p q : PS) : Prop where
  ne : p.i ≠ q.i
  pq : memB p.past q.i = false
  qp : memB q.past p.i = false
  up : Unseen ops q.o p.o.dst
  uq : Unseen ops p.o q.o.dst
  dn : ∀ t, p.o.dst = some t → q.o.dst ≠ some t
  cl : clsPair p.cls q.cls = true
structure Fut (p : PS) (fl : List (Option AO)) (rd : List (Option RdE)) : Prop where
  hfl : fl[p.i]? = some none
  hrd : rd[p.i]? = some none
  no : ∀ r : RdE, some r ∈ rd → memB r.past p.i = false
variable {E : Env} {inl : Inl} {ops : Array Oper} {blk : Nat → Nat} {mk : List Nat}
theorem stepV_unseen {p : PS} {d : Option Tmp} (hu : Unseen ops p.o d) {tm : List AV} {v : AV} {G : Heap} {fl : List (Option AO)} {rd : List (Option RdE)} : stepV E inl ops blk mk p (dstSet tm d v) G fl rd = stepV E inl ops blk mk p tm G fl rd := by
  unfold stepV
  rw [guardB_unseen hu]
  simp only [evalOp_unseen hu, stepOp_unseen hu]
/-- an operation that touches no memory -/
def Inert (E : Env) (inl : Inl) (ops : Array Oper) (blk : Nat → Nat) (mk : List Nat) (p : PS) (tm : List AV) (v : AV) : Prop := ∀ G fl rd, stepV E inl ops blk mk p tm G fl rd = some (v, G, fl, rd)
theorem stepV_cases {p : PS} {tm : List AV} {G G1 : Heap} {fl fl1 : List (Option AO)} {rd rd1 : List (Option RdE)} {v : AV} (h : stepV E inl ops blk mk p tm G fl rd = some (v, G1, fl1, rd1)) :
    (Inert E inl ops blk mk p tm v ∧ G = G1 ∧ fl = fl1 ∧ rd = rd1) ∨
    (p.cls = .make ∧ ∃ c, (∀ G fl rd, stepV E inl ops blk mk p tm G fl rd = some (v, G, fl.set p.i (some c), rd)) ∧ G = G1 ∧ fl1 = fl.set p.i (some c) ∧ rd = rd1) ∨
    (p.cls = .read ∧ ∃ ask : Heap → Option AV, (∀ G fl rd u, ask (putF (memB p.past) blk fl 0 G) = some u → stepV E inl ops blk mk p tm G fl rd = some (u, G, fl, rd.set p.i (some ⟨p.past, ask, u⟩))) ∧ ask (putF (memB p.past) blk fl 0 G) = some v ∧ G = G1 ∧ fl = fl1 ∧ rd1 = rd.set p.i (some ⟨p.past, ask, v⟩)) ∨
    (p.cls = .turn ∧ ∃ go : Heap → Option (AV × Heap), (∀ G fl rd G', go (putF (memB p.past) blk fl 0 G) = some (v, G') → hidB blk G' p.past mk = true → again blk G' (clearF p.past fl 0) p.past rd 0 = true → stepV E inl ops blk mk p tm G fl rd = some (v, G', clearF p.past fl 0, rd)) ∧
      go (putF (memB p.past) blk fl 0 G) = some (v, G1) ∧ hidB blk G1 p.past mk = true ∧ again blk G1 (clearF p.past fl 0) p.past rd 0 = true ∧ fl1 = clearF p.past fl 0 ∧ rd = rd1) := by
  unfold Inert
  unfold stepV at h ⊢
  cases hg : guardB ops tm p.o with
  | none => rw [hg] at h; cases h
  | some g =>
    rw [hg] at h
    cases g with
    | false =>
      simp only [Option.some.injEq, Prod.mk.injEq] at h
      obtain ⟨rfl, rfl, rfl, rfl⟩ := h
      exact .inl ⟨fun _ _ _ => rfl, rfl, rfl, rfl⟩
    | true =>
      simp only at h ⊢
      cases hc : p.cls with
      | pure =>
        rw [hc] at h
        simp only at h ⊢
        split at h
        · rename_i u h' hu
          simp only [Option.some.injEq, Prod.mk.injEq] at h
          obtain ⟨rfl, rfl, rfl, rfl⟩ := h
          exact .inl ⟨fun _ _ _ => by first | rfl | rw [hu], rfl, rfl, rfl⟩
        · cases h
      | make =>
        rw [hc] at h
        simp only at h ⊢
        split at h
        · rename_i u h' u' h'' hu hu'
          simp only [Option.some.injEq, Prod.mk.injEq] at h
          obtain ⟨rfl, rfl, rfl, rfl⟩ := h
          exact .inr (.inl ⟨trivial, _, fun _ _ _ => by first | rfl | rw [hu, hu'], rfl, rfl, rfl⟩)
        · cases h
      | read =>
        rw [hc] at h
        simp only at h ⊢
        split at h
        · rename_i u h' hu
          simp only [Option.some.injEq, Prod.mk.injEq] at h
          obtain ⟨rfl, rfl, rfl, rfl⟩ := h
          refine .inr (.inr (.inl ⟨trivial, fun h => (evalOp E tm h (blk p.i) p.o.op).map Prod.fst, fun G fl rd u hu => ?_, by simp only [hu]; rfl, rfl, rfl, rfl⟩))
          simp only [Option.map_eq_some_iff] at hu
          obtain ⟨⟨a, b⟩, h1, h2⟩ := hu
          simp only at h2; subst h2
          rw [h1]
        · cases h
      | turn =>
        rw [hc] at h
        simp only at h ⊢
        split at h
        · rename_i u G' hu
          split at h
          · rename_i hb
            simp only [Option.some.injEq, Prod.mk.injEq] at h
            obtain ⟨rfl, rfl, rfl, rfl⟩ := h
            simp only [Bool.and_eq_true] at hb
            refine .inr (.inr (.inr ⟨trivial, fun h => stepOp E inl tm h (blk p.i) p.o.op, fun G fl rd G' h1 h2 h3 => ?_, hu, hb.1, hb.2, rfl, rfl⟩))
            simp only [h1, h2, h3]
            rfl
          · cases h
        · cases h
theorem stepV_swap {p q : PS} {tm : List AV} {G G1 G2 : Heap} {fl fl1 fl2 : List (Option AO)} {rd rd1 rd2 : List (Option RdE)} {vp vq : AV} (hs : Sep ops p q) (hp : Fut p fl rd) (hq : Fut q fl rd)
    (h1 : stepV E inl ops blk mk p tm G fl rd = some (vp, G1, fl1, rd1)) (h2 : stepV E inl ops blk mk q tm G1 fl1 rd1 = some (vq, G2, fl2, rd2)) :
    ∃ G' fl' rd', stepV E inl ops blk mk q tm G fl rd = some (vq, G', fl', rd') ∧ stepV E inl ops blk mk p tm G' fl' rd' = some (vp, G2, fl2, rd2) := by
  have hcl := hs.cl
  rcases stepV_cases h1 with ⟨ip, rfl, rfl, rfl⟩ | ⟨cp, c, sp, rfl, rfl, rfl⟩ | ⟨cp, ask, sp, ap, rfl, rfl, rfl⟩ | ⟨cp, go, sp, gp, hp1, hp2, rfl, rfl⟩
  · exact ⟨_, _, _, h2, ip _ _ _⟩
  · -- a maker ahead
    rcases stepV_cases h2 with ⟨iq, rfl, rfl, rfl⟩ | ⟨cq, d, sq, rfl, rfl, rfl⟩ | ⟨cq, ask, sq, aq, rfl, rfl, rfl⟩ | ⟨cq, go, sq, gq, hq1, hq2, rfl, rfl⟩
    · exact ⟨_, _, _, iq _ _ _, h1⟩
    · exact ⟨_, _, _, sq _ _ _, by rw [sp, List.set_comm _ _ hs.ne]⟩
    · refine ⟨_, _, _, sq _ _ _ _ (by rw [← putF_set (c := c) fl 0 p.i G (by simpa using hs.qp) hp.hfl]; exact aq), sp _ _ _⟩
    · have e1 := putF_set (sel := memB q.past) (blk := blk) (c := c) fl 0 p.i G (by simpa using hs.qp) hp.hfl
      have e2 := clearF_set (past := q.past) (c := c) fl 0 p.i (by simpa using hs.qp)
      refine ⟨_, _, _, sq _ _ _ _ (by rw [← e1]; exact gq) hq1 ?_, by rw [sp, e2]⟩
      rw [← hq2, e2]
      exact (again_fl _ _ fun r hr => putF_set _ 0 p.i _ (by simpa using hp.no r hr) (clearF_none _ _ _ hp.hfl)).symm
  · -- a reader ahead
    rcases stepV_cases h2 with ⟨iq, rfl, rfl, rfl⟩ | ⟨cq, d, sq, rfl, rfl, rfl⟩ | ⟨cq, ask', sq, aq, rfl, rfl, rfl⟩ | ⟨cq, go, sq, gq, hq1, hq2, rfl, rfl⟩
    · exact ⟨_, _, _, iq _ _ _, h1⟩
    · exact ⟨_, _, _, sq _ _ _, sp _ _ _ _ (by rw [putF_set fl 0 q.i _ (by simpa using hs.pq) hq.hfl]; exact ap)⟩
    · exact ⟨_, _, _, sq _ _ _ _ aq, by rw [sp _ _ _ _ ap, List.set_comm _ _ hs.ne]⟩
    · rw [again_set rd 0 p.i hp.hrd] at hq2
      simp only [Nat.zero_add, hs.qp, Bool.false_or, Bool.and_eq_true] at hq2
      obtain ⟨k1, k2⟩ := hq2
      split at k1
      · rename_i u hu
        have := eqV_eq k1
        subst this
        exact ⟨_, _, _, sq _ _ _ _ gq hq1 k2, sp _ _ _ _ hu⟩
      · cases k1
  · -- a change ahead
    rcases stepV_cases h2 with ⟨iq, rfl, rfl, rfl⟩ | ⟨cq, d, sq, rfl, rfl, rfl⟩ | ⟨cq, ask', sq, aq, rfl, rfl, rfl⟩ | ⟨cq, go', sq, gq, hq1, hq2, rfl, rfl⟩
    · exact ⟨_, _, _, iq _ _ _, h1⟩
    · have e1 := putF_set (sel := memB p.past) (blk := blk) (c := d) fl 0 q.i G (by simpa using hs.pq) hq.hfl
      have e2 := clearF_set (past := p.past) (c := d) fl 0 q.i (by simpa using hs.pq)
      have h3 := sp G (fl.set q.i (some d)) rd G1 (by rw [e1]; exact gp) hp1 (by
        rw [← hp2, e2]
        exact again_fl _ _ fun r hr => putF_set _ 0 q.i _ (by simpa using hq.no r hr) (clearF_none _ _ _ hq.hfl))
      exact ⟨_, _, _, sq _ _ _, by rw [h3, e2]⟩
    · rw [cp, cq] at hcl; cases hcl
    · rw [cp, cq] at hcl; cases hcl
theorem Fut.step {p q : PS} {tm : List AV} {G G1 : Heap} {fl fl1 : List (Option AO)} {rd rd1 : List (Option RdE)} {v : AV} (hne : p.i ≠ q.i) (hpq : memB p.past q.i = false) (hq : Fut q fl rd)
    (h1 : stepV E inl ops blk mk p tm G fl rd = some (v, G1, fl1, rd1)) : Fut q fl1 rd1 := by
  rcases stepV_cases h1 with ⟨ip, rfl, rfl, rfl⟩ | ⟨cp, c, sp, rfl, rfl, rfl⟩ | ⟨cp, ask, sp, ap, rfl, rfl, rfl⟩ | ⟨cp, go, sp, gp, hp1, hp2, rfl, rfl⟩
  · exact hq
  · exact ⟨by rw [List.getElem?_set_ne hne]; exact hq.hfl, hq.hrd, hq.no⟩
  · refine ⟨hq.hfl, by rw [List.getElem?_set_ne hne]; exact hq.hrd, fun r hr => ?_⟩
    rcases List.mem_or_eq_of_mem_set hr with h | h
    · exact hq.no r h
    · cases h; exact hpq
  · exact ⟨clearF_none _ _ _ hq.hfl, hq.hrd, hq.no⟩
theorem stepD_eq {p : PS} {s : DS} : stepD E inl ops blk mk p s = match stepV E inl ops blk mk p s.tm s.G s.fl s.rd with
    | some (v, G, fl, rd) => some { tm := dstSet s.tm p.o.dst v, G, fl, rd }
    | none => none := by
  unfold stepD
  cases stepV E inl ops blk mk p s.tm s.G s.fl s.rd with
  | none => rfl
  | some q => obtain ⟨v, G, fl, rd⟩ := q; simp only [dstK_eq]
theorem stepD_swap {p q : PS} {s s1 s2 : DS} (hs : Sep ops p q) (hp : Fut p s.fl s.rd) (hq : Fut q s.fl s.rd) (h1 : stepD E inl ops blk mk p s = some s1) (h2 : stepD E inl ops blk mk q s1 = some s2) :
    ∃ s', stepD E inl ops blk mk q s = some s' ∧ stepD E inl ops blk mk p s' = some s2 := by
  rw [stepD_eq] at h1 h2
  split at h1
  · rename_i v G fl rd e1
    simp only [Option.some.injEq] at h1; subst h1
    simp only at h2
    rw [stepV_unseen hs.up] at h2
    split at h2
    · rename_i v' G' fl' rd' e2
      simp only [Option.some.injEq] at h2; subst h2
      obtain ⟨G3, fl3, rd3, k1, k2⟩ := stepV_swap hs hp hq e1 e2
      refine ⟨{ tm := dstSet s.tm q.o.dst v', G := G3, fl := fl3, rd := rd3 }, by rw [stepD_eq, k1], ?_⟩
      rw [stepD_eq]
      simp only
      rw [stepV_unseen hs.uq, k2]
      simp only [dstSet_comm s.tm v v' hs.dn]
    · cases h2
  · cases h1
theorem Fut.stepD {p q : PS} {s s1 : DS} (hne : p.i ≠ q.i) (hpq : memB p.past q.i = false) (hq : Fut q s.fl s.rd) (h1 : stepD E inl ops blk mk p s = some s1) : Fut q s1.fl s1.rd := by
  rw [stepD_eq] at h1
  split at h1
  · rename_i v G fl rd e1
    simp only [Option.some.injEq] at h1; subst h1
    exact hq.step hne hpq e1
  · cases h1
/-- the order of a plan: what is said of each pair -/
def Pairs (ops : Array Oper) : List PS → Prop
  | [] => True
  | p :: l => memB p.past p.i = false ∧ (∀ q ∈ l, p.i ≠ q.i ∧ memB p.past q.i = false ∧ (memB q.past p.i = true ∨ Sep ops p q)) ∧ Pairs ops l
theorem Pairs.drop {q : PS} {L2 : List PS} : ∀ (L1 : List PS), Pairs ops (L1 ++ q :: L2) → Pairs ops (L1 ++ L2)
  | [], h => h.2.2
  | p :: L1, h => ⟨h.1, fun x hx => h.2.1 x (List.mem_append.2 ((List.mem_append.1 hx).imp id (List.mem_cons_of_mem _))), Pairs.drop L1 h.2.2⟩
/-- an operation with nothing ahead of it is taken first -/
theorem runD_front {q : PS} {L2 : List PS} {sf : DS} : ∀ (L1 : List PS) {s : DS}, Pairs ops (L1 ++ q :: L2) → (∀ p ∈ L1, memB q.past p.i = false) → (∀ p ∈ L1 ++ q :: L2, Fut p s.fl s.rd) →
    runD E inl ops blk mk (L1 ++ q :: L2) s = some sf → runD E inl ops blk mk (q :: (L1 ++ L2)) s = some sf
  | [], s, _, _, _, h => h
  | p :: L1, s, hP, hn, hF, h => by
    simp only [List.cons_append, runD] at h
    split at h
    · rename_i s1 h1
      have hpq := hP.2.1 q (by simp)
      have hsep : Sep ops p q := hpq.2.2.resolve_left (by rw [hn p (by simp)]; simp)
      have := runD_front L1 (s := s1) hP.2.2 (fun x hx => hn x (by simp [hx])) (fun x hx => (hF x (List.mem_cons_of_mem _ hx)).stepD (hP.2.1 x hx).1 (hP.2.1 x hx).2.1 h1) h
      simp only [runD] at this
      split at this
      · rename_i s2 h2
        obtain ⟨s', k1, k2⟩ := stepD_swap hsep (hF p (by simp)) (hF q (by simp)) h1 h2
        simp only [runD, List.cons_append, k1, k2]
        exact this
      · cases this
    · cases h
end Go.Abs
end

section
namespace Go.Abs
variable {P : Program} {B : Base} {m : MM} {S : SS} {F : FF} {H : Heap} {w : World}
/-! ### masks and plans -/
theorem memB_eq (m i : Nat) : memB m i = m.testBit i := by
  unfold memB
  rw [Nat.testBit_eq_decide_div_mod_eq, show Nat.shiftRight m i = m >>> i from rfl, show Nat.land (m >>> i) 1 = (m >>> i) &&& 1 from rfl, Nat.and_one_is_mod, Nat.shiftRight_eq_div_pow]
  rw [Bool.eq_iff_iff]
  simp [Nat.beq_eq]
theorem memB_lor (a b i : Nat) : memB (Nat.lor a b) i = (memB a i || memB b i) := by
  simp only [memB_eq]
  exact Nat.testBit_or a b i
theorem memB_zero (i : Nat) : memB 0 i = false := by simp [memB_eq]
theorem memB_one {n i : Nat} (h : memB (Nat.shiftLeft 1 n) i = true) : n = i := by
  rw [memB_eq, show Nat.shiftLeft 1 n = 1 <<< n from rfl, Nat.shiftLeft_eq, Nat.one_mul, Nat.testBit_two_pow] at h
  simpa using h
theorem edgeMask_mem {pasts : List Nat} {k : Nat} : ∀ {l : List Edge}, memB (edgeMask pasts l) k = true → ∃ e ∈ l, Region.binds .any e = true ∧ (e.on = k ∨ memB (pasts.getD e.on 0) k = true)
  | [], h => by simp [edgeMask, memB_zero] at h
  | e :: l, h => by
    simp only [edgeMask] at h
    split at h
    · rename_i hb
      rw [memB_lor, memB_lor] at h
      simp only [Bool.or_eq_true] at h
      rcases h with (h | h) | h
      · exact ⟨e, by simp, hb, .inl (memB_one h)⟩
      · exact ⟨e, by simp, hb, .inr h⟩
      · obtain ⟨e', h1, h2⟩ := edgeMask_mem h; exact ⟨e', by simp [h1], h2⟩
    · obtain ⟨e', h1, h2⟩ := edgeMask_mem h; exact ⟨e', by simp [h1], h2⟩
theorem memB_shift (n : Nat) : memB (Nat.shiftLeft 1 n) n = true := by
  rw [memB_eq, show Nat.shiftLeft 1 n = 1 <<< n from rfl, Nat.shiftLeft_eq, Nat.one_mul, Nat.testBit_two_pow]; simp
theorem edgeMask_on {pasts : List Nat} {e : Edge} : ∀ {l : List Edge}, e ∈ l → Region.binds .any e = true → memB (edgeMask pasts l) e.on = true
  | [], h, _ => by simp at h
  | x :: l, h, hb => by
    simp only [edgeMask]
    simp only [List.mem_cons] at h
    rcases h with rfl | h
    · rw [if_pos hb, memB_lor, memB_lor, memB_shift]; simp
    · have := edgeMask_on (pasts := pasts) h hb
      split
      · rw [memB_lor, this]; simp
      · exact this
theorem mkItems_length {T : TT} : ∀ {l : List Oper} {pasts : List Nat} {items : List PS}, mkItems T l pasts = some items → items.length = l.length
  | [], _, _, h => by simp only [mkItems, Option.some.injEq] at h; subst h; rfl
  | o :: l, _, _, h => by
    simp only [mkItems] at h
    split at h
    · split at h
      · rename_i r hr
        simp only [Option.some.injEq] at h; subst h
        simp [mkItems_length hr]
      · cases h
    · cases h
theorem mkItems_get {T : TT} : ∀ {l : List Oper} {pasts : List Nat} {items : List PS}, mkItems T l pasts = some items → ∀ (j : Nat) (p : PS), items[j]? = some p →
    p.i = pasts.length + j ∧ l[j]? = some p.o ∧ p.cls = clsOf T p.o.op ∧ edgesLt p.i p.o.after.toList = true ∧ p.past = edgeMask (pasts ++ (items.take j).map PS.past) p.o.after.toList
  | [], _, _, h, j, p, hj => by simp only [mkItems, Option.some.injEq] at h; subst h; simp at hj
  | o :: l, pasts, _, h, j, p, hj => by
    simp only [mkItems] at h
    split at h
    · rename_i he
      split at h
      · rename_i r hr
        simp only [Option.some.injEq] at h; subst h
        cases j with
        | zero =>
          simp only [List.getElem?_cons_zero, Option.some.injEq] at hj; subst hj
          exact ⟨rfl, rfl, rfl, he, by simp⟩
        | succ j =>
          simp only [List.getElem?_cons_succ] at hj
          obtain ⟨h1, h2, h3, h4, h5⟩ := mkItems_get hr j p hj
          refine ⟨by rw [h1]; simp; omega, by simpa using h2, h3, h4, ?_⟩
          rw [h5]; simp
      · cases h
    · cases h
theorem edgeMask_congr {ps qs : List Nat} {i : Nat} (h : ∀ k, k < i → ps.getD k 0 = qs.getD k 0) : ∀ {l : List Edge}, edgesLt i l = true → edgeMask ps l = edgeMask qs l
  | [], _ => rfl
  | e :: l, hl => by
    simp only [edgesLt, List.all_cons, Bool.and_eq_true] at hl
    simp only [edgeMask]
    rw [edgeMask_congr h (l := l) (by simpa [edgesLt] using hl.2)]
    split
    · rename_i hb
      have : e.on < i := by
        have := hl.1
        rw [hb] at this
        simp only [Bool.not_true, Bool.false_or] at this
        exact Nat.blt_eq.mp this
      rw [h _ this]
    · rfl
/-- what a plan tells of the operations -/
structure Planned (T : TT) (ops : Array Oper) (l : List PS) : Prop where
  pairs : Pairs ops l
  all : ∀ i, i < ops.size → ∃ p ∈ l, p.i = i
  size : l.length = ops.size
  get : ∀ p ∈ l, ops[p.i]? = some p.o ∧ p.cls = clsOf T p.o.op
  on : ∀ p ∈ l, ∀ e ∈ p.o.after.toList, Region.binds .any e = true → memB p.past e.on = true ∧ e.on < ops.size
  gen : ∀ p ∈ l, ∀ k, memB p.past k = true → ∃ e ∈ p.o.after.toList, Region.binds .any e = true ∧ (e.on = k ∨ ∃ q ∈ l, q.i = e.on ∧ memB q.past k = true)
theorem ordFrom_sub {items turns : List PS} (ht : ∀ p ∈ turns, p ∈ items) : ∀ (n k : Nat), ∀ p ∈ ordFrom items turns n k, p ∈ items
  | 0, _, p, h => by simp [ordFrom] at h
  | n + 1, k, p, h => by
    simp only [ordFrom, List.mem_append, List.mem_filter] at h
    rcases h with h | h | h
    · exact h.1
    · exact ht p h.1
    · exact ordFrom_sub ht n (k + 1) p h
theorem notIn_unseen {ops : Array Oper} {o : Oper} {d : Option Tmp} (h : notIn d (o.looksAt ops) = true) : Unseen ops o d := by
  intro t ht hin
  subst ht
  simp only [notIn, Bool.not_eq_true'] at h
  rw [(memN_iff _ _).2 hin] at h; cases h
theorem pairB_sep {ops : Array Oper} {p q : PS} (h : pairB ops p q = true) : p.i ≠ q.i ∧ memB p.past q.i = false ∧ (memB q.past p.i = true ∨ Sep ops p q) := by
  simp only [pairB, Bool.and_eq_true, Bool.not_eq_true', Bool.or_eq_true] at h
  obtain ⟨h1, h2, h3⟩ := h
  have hne : p.i ≠ q.i := fun e => by rw [e, Nat.beq_refl] at h1; cases h1
  refine ⟨hne, h2, ?_⟩
  rcases h3 with h3 | ⟨h3, h4⟩
  · exact .inl h3
  · cases hq : memB q.past p.i with
    | true => exact .inl rfl
    | false =>
      simp only [apartB, Bool.and_eq_true] at h3
      refine .inr ⟨hne, h2, hq, notIn_unseen h3.1, notIn_unseen h3.2.1, fun t ht ht' => ?_, h4⟩
      have := h3.2.2
      rw [ht, ht'] at this
      simp [dstNe] at this
theorem pairsB_pairs {ops : Array Oper} : ∀ {l : List PS}, pairsB ops l = true → Pairs ops l
  | [], _ => trivial
  | p :: l, h => by
    simp only [pairsB, Bool.and_eq_true, Bool.not_eq_true', List.all_eq_true] at h
    exact ⟨h.1, fun q hq => pairB_sep (h.2.1 q hq), pairsB_pairs h.2.2⟩
theorem planOf_spec {T : TT} {ops : Array Oper} {l : List PS} (h : planOf T ops = some l) : Planned T ops l := by
  unfold planOf at h
  split at h
  · cases h
  · rename_i items hi
    simp only at h
    split at h
    · rename_i hb
      simp only [Option.some.injEq] at h; subst h
      simp only [Bool.and_eq_true, List.all_eq_true, List.any_eq_true] at hb
      obtain ⟨h1, h2, h3⟩ := hb
      have hlen := mkItems_length hi
      have hsub : ∀ p ∈ ordFrom items (items.filter isTurn) ((items.filter isTurn).length + 1) 0, p ∈ items := ordFrom_sub (fun p hp => (List.mem_filter.1 hp).1) _ _
      have hget := fun j p hj => mkItems_get hi j p hj
      simp only [List.length_nil, Nat.zero_add, List.nil_append] at hget
      have hmem : ∀ p ∈ items, items[p.i]? = some p ∧ ops[p.i]? = some p.o ∧ p.cls = clsOf T p.o.op ∧ edgesLt p.i p.o.after.toList = true ∧ p.past = edgeMask (items.map PS.past) p.o.after.toList := by
        intro p hp
        obtain ⟨j, hj⟩ := List.getElem?_of_mem hp
        obtain ⟨k1, k2, k3, k4, k5⟩ := hget j p hj
        subst k1
        refine ⟨hj, by simpa using k2, k3, k4, ?_⟩
        rw [k5]
        refine edgeMask_congr (i := p.i) (fun k hk => ?_) k4
        simp only [List.getD_eq_getElem?_getD, List.getElem?_map, List.getElem?_take, hk, if_true]
      refine ⟨pairsB_pairs h3, fun i hi' => ?_, ?_, fun p hp => ⟨(hmem p (hsub p hp)).2.1, (hmem p (hsub p hp)).2.2.1⟩, fun p hp e he hb => ?_, fun p hp k hk => ?_⟩
      · have hlt : i < items.length := by rw [hlen]; simpa using hi'
        obtain ⟨q, hq, he⟩ := h2 items[i] (List.getElem_mem hlt)
        refine ⟨q, hq, ?_⟩
        rw [Nat.eq_of_beq_eq_true he]
        exact (hget i _ (List.getElem?_eq_getElem hlt)).1
      · rw [Nat.eq_of_beq_eq_true h1, hlen]; simp
      · obtain ⟨k1, k2, k3, k4, k5⟩ := hmem p (hsub p hp)
        refine ⟨by rw [k5]; exact edgeMask_on he hb, ?_⟩
        simp only [edgesLt, List.all_eq_true] at k4
        have := k4 e he
        rw [hb] at this
        simp only [Bool.not_true, Bool.false_or] at this
        have h1 : e.on < p.i := Nat.blt_eq.mp this
        have h2 : p.i < ops.size := by
          rcases Nat.lt_or_ge p.i ops.size with h' | h'
          · exact h'
          · rw [Array.getElem?_eq_none h'] at k2; cases k2
        omega
      · obtain ⟨k1, k2, k3, k4, k5⟩ := hmem p (hsub p hp)
        rw [k5] at hk
        obtain ⟨e, he, hb, hc⟩ := edgeMask_mem hk
        refine ⟨e, he, hb, hc.imp id fun hc => ?_⟩
        simp only [List.getD_eq_getElem?_getD, List.getElem?_map] at hc
        cases hx : items[e.on]? with
        | none => rw [hx] at hc; simp [memB_zero] at hc
        | some x =>
          rw [hx] at hc
          simp only [Option.map_some, Option.getD_some] at hc
          have hxm := List.mem_of_getElem? hx
          obtain ⟨q, hq, he'⟩ := h2 x hxm
          have hxi := (hget e.on x hx).1
          have hqi := Nat.eq_of_beq_eq_true he'
          have : q = x := by
            have := (hmem q (hsub q hq)).1
            rw [hqi, hxi, hx] at this
            exact (Option.some.inj this).symm
          subst this
          exact ⟨q, hq, hxi, hc⟩
    · cases h
/-! ### a step with some blocks hidden -/
theorem WR.sub (h : WR B m S F H w) {Hk : Heap} (hs : ∀ i, hget Hk i = hget H i ∨ hget Hk i = .dead) : WR B m S F Hk w := by
  have hm : ∀ i, Mut Hk i → Mut H i := fun i hi => by
    unfold Mut at *
    rcases hs i with h' | h' <;> rw [h'] at hi
    · exact hi
    · cases hi
  exact {
    obj := fun i => by
      rcases hs i with h' | h' <;> rw [h']
      · exact h.obj i
      · trivial
    inj := fun i j l l' hi hj => h.inj i j l l' (hm i hi) (hm j hj)
    stab := h.stab
    apart := fun i l hi => h.apart i l (hm i hi)
    size := h.size
    keep := h.keep
    own := fun i l hi => h.own i l (hm i hi)
    fresh := h.fresh
    os := h.os
    output := h.output
    tape := h.tape }
theorem MK.sub {n0 : Nat} {ds : List Deferred} (h : MK n0 m H ds w) {Hk : Heap} (hs : ∀ i, hget Hk i = hget H i ∨ hget Hk i = .dead) : MK n0 m Hk ds w := by
  refine ⟨fun d hd => ?_, h.2⟩
  obtain ⟨r, h1, h0, h2, h3⟩ := h.1 d hd
  refine ⟨r, h1, h0, h2, fun ⟨i, l, hi, hl⟩ => h3 ⟨i, l, ?_, hl⟩⟩
  unfold Mut at *
  rcases hs i with h' | h' <;> rw [h'] at hi
  · exact hi
  · cases hi
theorem revive (h : WR B m S F H w) {Hk H' H'' : Heap} {m' : MM} {S' : SS} {w' : World} (hs : ∀ i, hget Hk i = hget H i ∨ hget Hk i = .dead) (hr : WR (Go.Abs.rebase m S Hk w) m' S' F H' w')
    (hS : S.le S') (hm : m.le m') (h1 : ∀ i, hget Hk i ≠ hget H i → hget H'' i = hget H i) (h2 : ∀ i, hget Hk i = hget H i → hget H'' i = hget H' i) :
    WR B m' S' F H'' w' := by
  have hk := h.sub hs
  have hu := WR.unbase hk hr
  have hid : ∀ i, hget Hk i ≠ hget H i → Mut H'' i → ∃ l, m i = some l ∧ m' i = some l ∧ l.b < w.heap.size ∧ ¬ mutBlk m Hk l.b ∧ w'.heap[l.b]? = w.heap[l.b]? ∧ Mut H i := by
    intro i hi hmu
    have hmH : Mut H i := by unfold Mut at *; rwa [h1 i hi] at hmu
    obtain ⟨l, hl, hlt⟩ := h.block hmH
    have hnb : ¬ mutBlk m Hk l.b := by
      rintro ⟨j, l', hj, hl', he⟩
      have hjH : Mut H j := by
        unfold Mut at *
        rcases hs j with h' | h' <;> rw [h'] at hj
        · exact hj
        · cases hj
      have : j = i := h.inj j i l' l hjH hmH hl' hl he
      subst this
      rcases hs j with h' | h'
      · exact hi h'
      · unfold Mut at hj; rw [h'] at hj; cases hj
    exact ⟨l, hl, hm _ _ hl, hlt, hnb, hr.keep _ hlt hnb, hmH⟩
  have hnot : ∀ i, hget Hk i = hget H i → Mut H'' i → Mut H' i := fun i hi hmu => by unfold Mut at *; rwa [h2 i hi] at hmu
  exact {
    obj := fun i => by
      by_cases hi : hget Hk i = hget H i
      · rw [h2 i hi]; exact hr.obj i
      · rw [h1 i hi]
        refine OR.mono hm hS (h.obj i) (fun l hmo hml => ?_)
        have hmu : Mut H'' i := by unfold Mut; rw [h1 i hi]; exact hmo
        obtain ⟨l', k1, k2, k3, k4, k5, _⟩ := hid i hi hmu
        rw [hml] at k1; cases k1
        exact k5
    inj := fun i j l l' hi hj hl hl' he => by
      by_cases hii : hget Hk i = hget H i
      · by_cases hjj : hget Hk j = hget H j
        · exact hr.inj i j l l' (hnot i hii hi) (hnot j hjj hj) hl hl' he
        · obtain ⟨l2, k1, k2, k3, k4, k5, _⟩ := hid j hjj hj
          rw [hl'] at k2; cases k2
          rcases hr.own i l (hnot i hii hi) hl with h' | h'
          · rw [he] at h'; exact (k4 h').elim
          · rw [he] at h'; simp only [Go.Abs.rebase] at h'; omega
      · obtain ⟨l1, k1, k2, k3, k4, k5, k6⟩ := hid i hii hi
        rw [hl] at k2; cases k2
        by_cases hjj : hget Hk j = hget H j
        · rcases hr.own j l' (hnot j hjj hj) hl' with h' | h'
          · rw [← he] at h'; exact (k4 h').elim
          · rw [← he] at h'; simp only [Go.Abs.rebase] at h'; omega
        · obtain ⟨l2, q1, q2, q3, q4, q5, q6⟩ := hid j hjj hj
          rw [hl'] at q2; cases q2
          exact h.inj i j _ _ k6 q6 k1 q1 he
    stab := hr.stab
    apart := fun i l hi hl => by
      by_cases hii : hget Hk i = hget H i
      · exact hr.apart i l (hnot i hii hi) hl
      · obtain ⟨l1, k1, k2, k3, k4, k5, k6⟩ := hid i hii hi
        rw [hl] at k2; cases k2
        cases hs' : S' l.b with
        | none => rfl
        | some c =>
          rcases hr.fresh _ _ hs' with h' | h' | h'
          · rw [show (Go.Abs.rebase m S Hk w).S0 = S from rfl, h.apart i l k6 k1] at h'; cases h'
          · exact (k4 h').elim
          · simp only [Go.Abs.rebase] at h'; omega
    size := hu.size
    keep := hu.keep
    own := fun i l hi hl => by
      by_cases hii : hget Hk i = hget H i
      · exact hu.own i l (hnot i hii hi) hl
      · obtain ⟨l1, k1, k2, k3, k4, k5, k6⟩ := hid i hii hi
        rw [hl] at k2; cases k2
        exact h.own i l k6 k1
    fresh := hu.fresh
    os := hu.os
    output := hu.output
    tape := hu.tape }
theorem revive_MK {n0 : Nat} {ds : List Deferred} {Hk H' H'' : Heap} {m' : MM} {S' : SS} {w' : World} (hk : MK n0 m H ds w) (hs : ∀ i, hget Hk i = hget H i ∨ hget Hk i = .dead) (hr : WR (Go.Abs.rebase m S Hk w) m' S' F H' w')
    (hmi : ∀ i, Mut H i → m' i = m i) (h1 : ∀ i, hget Hk i ≠ hget H i → hget H'' i = hget H i) (h2 : ∀ i, hget Hk i = hget H i → hget H'' i = hget H' i) : MK n0 m' H'' ds w' := by
  have h3 := (hk.sub hs).step hr
  refine ⟨fun d hd => ?_, hk.2⟩
  obtain ⟨r, k1, k0, k2, k3⟩ := h3.1 d hd
  obtain ⟨r', q1, q0, q2, q3⟩ := hk.1 d hd
  have hrr : r' = r := by rw [k1] at q1; simpa [markD] using q1.symm
  subst hrr
  refine ⟨r', k1, k0, k2, fun ⟨i, l, hi, hl, he⟩ => ?_⟩
  by_cases hii : hget Hk i = hget H i
  · exact k3 ⟨i, l, by unfold Mut at *; rwa [h2 i hii] at hi, hl, he⟩
  · have hmu : Mut H i := by unfold Mut at *; rwa [h1 i hii] at hi
    exact q3 ⟨i, l, hmu, by rw [← hmi i hmu]; exact hl, he⟩
theorem hid_step {E : Env} (hE : EnvOK P E) {inl : Inl} (hI : InlOK P E inl) (hC : ConOK P E) {Fc : Fence} (hF : Fc = Fence.wide ∨ ∃ l, Fc = Fence.wide.inRound l)
    (h : WR B m S F H w) (hG : GlobOK E.glob S) {tm : List AV} {a : Act} (ht : LR S tm m F a.tmps.toList) {b : Nat} {o : Oper} {Hk : Heap} (hlen : Hk.length = H.length) (hs : ∀ i, hget Hk i = hget H i ∨ hget Hk i = .dead)
    (hcap : Cap m H) (hf : Fresh Hk m b (freshOf E o.op)) {y : AV} {H' H'' : Heap} (he : stepOp E inl tm Hk b o.op = some (y, H')) {n0 : Nat} (hk : MK n0 m H a.defers w)
    (h1 : H.length ≤ H'.length → ∀ i, hget Hk i ≠ hget H i → hget H'' i = hget H i) (h2 : H.length ≤ H'.length → ∀ i, hget Hk i = hget H i → hget H'' i = hget H' i) {next : Act → World → Prop} {Q : Exit → Act → World → Prop}
    (hn : ∀ u w' m' S', VR S' y m' F u → WR B m' S' F H'' w' → WR B m' S' F H' w' → S.le S' → m.le m' → (∀ i, i < H.length → (i < b ∨ b + freshOf E o.op ≤ i) → m' i = m i) → MK n0 m' H'' a.defers w' → Cap m' H' → H.length ≤ H'.length → next (a.put o.dst u) w') :
    o.wpIn Fc 0 P a w next Q := by
  have hWk := h.sub hs
  refine step_sound hE hI hC hF hWk.rebase hG ht (fun i hi => hcap i (by omega)) hf he (hk.sub hs) (fun u w' m' S' hv hw' hS' hm' _ hc' hl' => ?_)
  have hle : m.le m' := fun i loc hi => by
    have hlt : i < Hk.length := by
      rcases Nat.lt_or_ge i Hk.length with h' | h'
      · exact h'
      · rw [hcap i (by omega)] at hi; cases hi
    have hout : i < b ∨ b + freshOf E o.op ≤ i := by
      rcases Nat.lt_or_ge i b with h' | h'
      · exact .inl h'
      · rcases Nat.lt_or_ge i (b + freshOf E o.op) with h'' | h''
        · have := (hf (i - b) (by omega)).2.2
          rw [show b + (i - b) = i by omega] at this
          rw [this] at hi; cases hi
        · exact .inr h''
    rw [hm' i hlt hout]; exact hi
  have hmi : ∀ i, Mut H i → m' i = m i := fun i hi => by
    obtain ⟨l, hl, _⟩ := h.block hi
    rw [hle _ _ hl, hl]
  exact hn u w' m' S' hv (revive h hs hw' hS' hle (h1 (by omega)) (h2 (by omega))) (WR.unbase hWk hw') hS' hle (fun i hi => hm' i (by omega)) (revive_MK hk hs hw' hmi (h1 (by omega)) (h2 (by omega))) hc' (by omega)
end Go.Abs
end
