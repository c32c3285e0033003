/- A certified abstract evaluator of the model's code (namespace Go.Abs), one part of it: what it answers holds of every run. Each theorem states its own conditions. -/
import Derived.Test.YtfbamgphngmglaaGreatDoorEngineK
import Derived.Laws.StructEq
import Derived.Laws.Externs
import Derived.Lib.Builder
import Derived.Lib.Bytealg
import Derived.Lib.MakeNoZero
import Derived.Lib.LaidTab
set_option linter.unusedSimpArgs false
set_option linter.unusedVariables false
section
namespace Go.Abs
/-! ### evaluation along told values: the Prop holds just of what is left to prove -/
inductive Ans where
  /-- the value is this one -/
  | val (v : AV)
  /-- the result is this one, the heap as before -/
  | res (v : AV)
  /-- the result is this one, and so is the heap behind it -/
  | all (v : AV) (h : Heap)
  /-- a contract's run, told: what it answers, and its new blocks -/
  | run (v : AV) (h : Heap)
  /-- what an operation asks of numbers is told as something to be proved -/
  | fit
  /-- rechecks of readers are told, not computed -/
  | chk
abbrev Orc := List (Nat × Ans)
abbrev KV := Orc → AV → Heap → Prop
abbrev InlP := Callee → List AV → Heap → Orc → KV → Prop
def plainK (r : Option (AV × Heap)) (k : AV → Heap → Prop) : Prop := match r with | some (v, h) => k v h | none => False
def ansP (a : Ans) (o : Orc) (r : Option (AV × Heap)) (h : Heap) (K : KV) : Prop :=
  match a with
  | .val v => plainK r fun v0 h0 => v0 = v ∧ K o v h0
  | .res v => r = some (v, h) ∧ K o v h
  | .all v h1 => r = some (v, h1) ∧ K o v h1
  | .run _ _ => plainK r (K o)
  | .fit => plainK r (K o)
  | .chk => plainK r (K o)
def askP (o : Orc) (r : Option (AV × Heap)) (h : Heap) (K : KV) : Prop :=
  match o with
  | [] => plainK r (K [])
  | (n, a) :: o => Bool.rec (plainK r (K ((Nat.pred n, a) :: o))) (ansP a o r h K) (Nat.beq n 0)
theorem plainK_sound {r : Option (AV × Heap)} {k : AV → Heap → Prop} (h : plainK r k) : ∃ v h', r = some (v, h') ∧ k v h' := by
  unfold plainK at h
  split at h
  · exact ⟨_, _, rfl, h⟩
  · exact h.elim
theorem ansP_sound {a : Ans} {o : Orc} {r : Option (AV × Heap)} {h : Heap} {K : KV} (hp : ansP a o r h K) : ∃ v h' o', r = some (v, h') ∧ K o' v h' := by
  unfold ansP at hp
  split at hp
  · obtain ⟨v, h', h1, h2, h3⟩ := plainK_sound hp
    subst h2; exact ⟨_, _, _, h1, h3⟩
  · exact ⟨_, _, _, hp.1, hp.2⟩
  · exact ⟨_, _, _, hp.1, hp.2⟩
  · obtain ⟨v, h', h1, h2⟩ := plainK_sound hp
    exact ⟨_, _, _, h1, h2⟩
  · obtain ⟨v, h', h1, h2⟩ := plainK_sound hp
    exact ⟨_, _, _, h1, h2⟩
  · obtain ⟨v, h', h1, h2⟩ := plainK_sound hp
    exact ⟨_, _, _, h1, h2⟩
theorem askP_sound {o : Orc} {r : Option (AV × Heap)} {h : Heap} {K : KV} (hp : askP o r h K) : ∃ v h' o', r = some (v, h') ∧ K o' v h' := by
  unfold askP at hp
  split at hp
  · obtain ⟨v, h', h1, h2⟩ := plainK_sound hp
    exact ⟨_, _, _, h1, h2⟩
  · rename_i n a o
    revert hp
    cases Nat.beq n 0 with
    | false =>
      intro hp
      obtain ⟨v, h', h1, h2⟩ := plainK_sound hp
      exact ⟨_, _, _, h1, h2⟩
    | true => exact ansP_sound
def InlPOK (inl : Inl) (inlP : InlP) : Prop := ∀ c args h o K, inlP c args h o K → ∃ y h' o', inl c args h = some (y, h') ∧ K o' y h'
/-- a call of a contract, its run told -/
def conP (c : Con) (args : List AV) (h : Heap) (b : Nat) (o : Orc) (K : KV) : Prop :=
  match o with
  | (0, .run v h2) :: o' => (match pureArgs h args with
    | some (args', h1) => c.run args' = some (v, h2) ∧ Bool.rec False (Bool.rec (K o' (shV b v) (putNew h1 b (h2.map (shO b)))) (K o' v h) (Nat.beq c.fresh 0 && scalarAV v)) (Nat.beq h2.length c.fresh)
    | none => False)
  | o => askP o (callCon c args h b) h K
theorem conP_sound {c : Con} {args : List AV} {h : Heap} {b : Nat} {o : Orc} {K : KV} (hp : conP c args h b o K) : ∃ v h' o', callCon c args h b = some (v, h') ∧ K o' v h' := by
  unfold conP at hp
  split at hp
  · split at hp
    · rename_i args' h1 ha
      obtain ⟨hr, hp⟩ := hp
      revert hp
      cases hl : Nat.beq _ c.fresh with
      | false => exact fun hp => hp.elim
      | true =>
        cases hs : (Nat.beq c.fresh 0 && scalarAV _) with
        | false => exact fun hp => ⟨_, _, _, by unfold callCon; simp only [ha, hr, hl, hs, if_true, Bool.false_eq_true, if_false], hp⟩
        | true => exact fun hp => ⟨_, _, _, by unfold callCon; simp only [ha, hr, hl, hs, if_true], hp⟩
    · exact hp.elim
  · exact askP_sound hp
def callP (E : Env) (inl : InlP) (n : Nat) (f : AV) (args : List AV) (h : Heap) (b : Nat) (o : Orc) (K : KV) : Prop :=
  match callee f args with
  | some (.fn g, args) => match E.ext g with
    | some k => Bool.rec False (askP o (extAV k args h b) h K) (Nat.ble (extFresh k) n)
    | none => match E.con g with
      | some c => Bool.rec (inl (.fn g) args h o K) (conP c args h b o K) (Nat.ble c.fresh n)
      | none => inl (.fn g) args h o K
  | some (.yield l, args) => inl (.yield l) args h o K
  | none => False
theorem callP_sound {E : Env} {inl : Inl} {inlP : InlP} (hI : InlPOK inl inlP) {n : Nat} {f : AV} {args : List AV} {h : Heap} {b : Nat} {o : Orc} {K : KV} (hp : callP E inlP n f args h b o K) :
    ∃ v h' o', callAV E inl n f args h b = some (v, h') ∧ K o' v h' := by
  unfold callP at hp
  unfold callAV
  split at hp
  · rename_i g args' hc
    rw [hc]
    dsimp only
    cases hx : E.ext g with
    | some k =>
      simp only [hx] at hp ⊢
      revert hp
      cases Nat.ble (extFresh k) n with
      | false => exact fun h => h.elim
      | true => exact fun hp => askP_sound hp
    | none =>
      simp only [hx] at hp ⊢
      cases hy : E.con g with
      | some c =>
        simp only [hy] at hp ⊢
        revert hp
        cases Nat.ble c.fresh n with
        | false => exact fun hp => hI _ _ _ _ _ hp
        | true => exact fun hp => conP_sound hp
      | none =>
        simp only [hy] at hp ⊢
        exact hI _ _ _ _ _ hp
  · rename_i l args' hc
    rw [hc]
    exact hI _ _ _ _ _ hp
  · exact hp.elim
/-- keys that are none of a map's -/
def missK (k : AV) : List (AV × AV) → Prop
  | [] => True
  | (q, _) :: l => keyEq k q = some false ∧ missK k l
theorem missK_sound {k : AV} : ∀ (l : List (AV × AV)), missK k l → findAV k l = some none
  | [], _ => rfl
  | (q, v) :: l, h => by
    unfold findAV
    rw [h.1]
    exact missK_sound l h.2
/-- what is to be proved of a told result: no heap in it -/
def resOb (E : Env) (tm : List AV) (h : Heap) (op : Op) (v : AV) : Prop :=
  match op with
  | .slice t x lo hi mx => (match E.T t with
    | some d => (match d.tk with
      | .str => (match mx, evalO E.glob tm x with
        | none, .str s => sliceStr s (lo.map (evalO E.glob tm)) (hi.map (evalO E.glob tm)) = some v
        | _, _ => False)
      | _ => False)
    | none => False)
  | .binOp o t x y _ => (match nilEq (E.T t) o x y (evalO E.glob tm x) (evalO E.glob tm y) with | some u => some u | none => binAV (E.T t) (E.eqT t) E.eqI o (evalO E.glob tm x) (evalO E.glob tm y)) = some v
  | .index t x i => (match E.T t, intOf (evalO E.glob tm i) with
    | some d, some i => (match d.tk, evalO E.glob tm x with
      | .str, .str s => (match (if 0 ≤ i then nthR (bytesL s) i.toNat else none) with
        | some c => some (AV.int .u8 c.toNat)
        | none => none) = some v
      | _, _ => False)
    | _, _ => False)
  | .lookup t x i ok => (match E.T t with
    | some d => (match d.tk with
      | .map k e => (match E.T e, (E.T k).map fun dk => keyOK dk.tk (evalO E.glob tm i) with
        | some de, some true => (match evalO E.glob tm x with
          | .map id => (match hget h id with
            | .map l => missK (evalO E.glob tm i) l ∧ (if ok then .tup [zeroAV de, .bool false] else zeroAV de) = v
            | _ => False)
          | _ => False)
        | _, _ => False)
      | _ => False)
    | none => False)
  | _ => False
theorem resOb_sound {E : Env} {tm : List AV} {h : Heap} {b : Nat} {op : Op} {v : AV} (hr : resOb E tm h op v) : evalOp E tm h b op = some (v, h) := by
  unfold resOb at hr
  split at hr
  · split at hr
    · rename_i d hd
      split at hr
      · rename_i hk
        split at hr
        · rename_i s hs
          simp only [evalOp, evSlice, hd, hk, hs, hr, Option.map_none, Option.map_some]
        · exact hr.elim
      · exact hr.elim
    · exact hr.elim
  · simp only [evalOp, evBinOp]
    exact congrArg (Option.map fun v => (v, h)) hr
  · split at hr
    · rename_i d i hd hi
      split at hr
      · rename_i s hk hs
        split at hr
        · rename_i c hc
          cases hr
          simp only [evalOp, evIndex, hd, hi, hk, hs, hc]
        · cases hr
      · exact hr.elim
    · exact hr.elim
  · split at hr
    · rename_i d hd
      split at hr
      · rename_i k e hk
        split at hr
        · rename_i de h1 h2
          split at hr
          · rename_i id hx
            split at hr
            · rename_i l hl
              simp only [evalOp, evLookup, hd, hk, h1, h2, hx, hl, missK_sound l hr.1]
              rw [hr.2]
            · exact hr.elim
          · exact hr.elim
        · exact hr.elim
      · exact hr.elim
    · exact hr.elim
  · exact hr.elim
/-- append, but for its bound on bytes -/
noncomputable def appendFit (te esz bytes : Nat) (h : Heap) (b : Nat) (s x : AV) : Option (AV × Heap × Prop) :=
  match tailOf h esz x with
  | none => none
  | some (q, n, h1) => match s with
    | .nilsl => (match n with
      | 0 => none
      | _ => some (.sl b none esz .any, hset h1 b (.cells q te), n * bytes ≤ most))
    | .sl id win e .any => (match hget h1 id with
      | .cells r t => (match Nat.beq e esz, contentOf h1 r win esz with
        | true, some (q0, h2) => (match q0.app q, hget h2 id, normWin r esz win, Nat.beq t te with
          | some q1, .cells _ _, none, true => some (.sl b none esz .any, hset (hset h2 id .dead) b (.cells q1 te), (winLen r win esz + n) * bytes ≤ most)
          | _, _, _, _ => none)
        | _, _ => none)
      | _ => none)
    | _ => none
theorem appendFit_sound {te esz bytes : Nat} {h : Heap} {b : Nat} {s x v : AV} {h' : Heap} {p : Prop} (hr : appendFit te esz bytes h b s x = some (v, h', p)) (hp : p) : appendAV te esz bytes h b s x = some (v, h') := by
  have hx : x ≠ .nilsl := fun hx => by subst hx; simp only [appendFit, tailOf, slOf] at hr; cases hr
  have e : ∀ q n h1, tailOf h esz x = some (q, n, h1) → appendAV te esz bytes h b s x = appendQ te esz bytes h1 b s q n := by
    intro q n h1 ht
    unfold appendAV
    split
    · exact absurd rfl hx
    · rw [ht]
  unfold appendFit at hr
  split at hr
  · cases hr
  · rename_i q n h1 ht
    rw [e q n h1 ht]
    split at hr
    · split at hr
      · cases hr
      · rename_i hn
        cases hr
        unfold appendQ
        dsimp only
        rw [if_pos hp]
        cases n with
        | zero => exact (hn rfl).elim
        | succ n => rfl
    · rename_i id win e
      split at hr
      · rename_i r t hg
        split at hr
        · rename_i q0 h2 he hc
          split at hr
          · rename_i q1 r2 t2 ha hg2 hw ht2
            cases hr
            unfold appendQ
            simp only [hg, he, if_true, hc, if_pos hp, ha, hg2, hw, ht2]
            cases win with
            | none => rfl
            | some w => obtain ⟨b0, l⟩ := w; rfl
          · cases hr
        · cases hr
      · cases hr
    · cases hr
/-- an operation, but for what it asks of numbers -/
noncomputable def fitOp (E : Env) (tm : List AV) (h : Heap) (b : Nat) (op : Op) : Option (AV × Heap × Prop) :=
  match op with
  | .indexAddr t x i => (match E.T t, intOf (evalO E.glob tm i) with
    | some d, some i => (match d.tk with
      | .slice e => (match E.T e, slOf h (evalO E.glob tm x) with
        | some de, some (_, win, esz, n) => (match Nat.beq esz de.size, evalO E.glob tm x with
          | true, .sl id _ _ _ => some (.ptr id (some (ixOf win i.toNat, esz)) [] esz, h, 0 ≤ i ∧ i < (n : Int))
          | true, .vs r _ _ _ => some (.vptr r (some (ixOf win i.toNat, esz)) [] esz, h, 0 ≤ i ∧ i < (n : Int))
          | _, _ => none)
        | _, _ => none)
      | _ => none)
    | _, _ => none)
  | .call { callee := .builtin .append, args, argTypes } => (match args.toList.map (evalO E.glob tm), argTypes.toList with
    | [s, x], [sT, xT] => (match E.T sT, E.T xT with
      | some d, some dx => (match d.tk with
        | .slice e => (match E.T e, dx.tk with
          | some de, .slice _ | some de, .str => (match Nat.blt 0 de.size && Nat.blt 0 de.bytes with
            | true => appendFit e de.size de.bytes h b s x
            | false => none)
          | _, _ => none)
        | _ => none)
      | _, _ => none)
    | _, _ => none)
  | _ => none
theorem fitOp_sound {E : Env} {tm : List AV} {h : Heap} {b : Nat} {op : Op} {v : AV} {h' : Heap} {p : Prop} (hr : fitOp E tm h b op = some (v, h', p)) (hp : p) : evalOp E tm h b op = some (v, h') := by
  unfold fitOp at hr
  split at hr
  · split at hr
    · rename_i d i hd hi
      split at hr
      · rename_i e hk
        split at hr
        · rename_i de r win esz n he hs
          split at hr
          · rename_i id w2 e2 c2 hb hx
            cases hr
            rw [hx] at hs
            simp only [evalOp, evIndexAddr, hd, hi, hk, he, hx, hs, hb, if_true, if_pos hp]
          · rename_i r2 w2 e2 c2 hb hx
            cases hr
            rw [hx] at hs
            simp only [evalOp, evIndexAddr, hd, hi, hk, he, hx, hs, hb, if_true, if_pos hp]
          · cases hr
        · cases hr
      · cases hr
    · cases hr
  · split at hr
    · rename_i s x sT xT hargs hty
      split at hr
      · rename_i d dx hd hdx
        split at hr
        · rename_i e hk
          split at hr
          · rename_i de _ he hkx
            split at hr
            · rename_i hb
              have := appendFit_sound hr hp
              simp only [evalOp, evBuiltin, hargs, hty, hd, hdx, hk, he, hkx, hb, if_true, this]
            · cases hr
          · rename_i de he hkx
            split at hr
            · rename_i hb
              have := appendFit_sound hr hp
              simp only [evalOp, evBuiltin, hargs, hty, hd, hdx, hk, he, hkx, hb, if_true, this]
            · cases hr
          · cases hr
        · cases hr
      · cases hr
    · cases hr
  · cases hr
def fitK (r : Option (AV × Heap × Prop)) (k : AV → Heap → Prop) : Prop := match r with | some (v, h, p) => p ∧ k v h | none => False
def askOp (E : Env) (tm : List AV) (h : Heap) (b : Nat) (op : Op) (o : Orc) (K : KV) : Prop :=
  match o with
  | (0, .res v) :: o' => resOb E tm h op v ∧ K o' v h
  | (0, .fit) :: o' => fitK (fitOp E tm h b op) (K o')
  | o => askP o (evalOp E tm h b op) h K
theorem askOp_sound {E : Env} {tm : List AV} {h : Heap} {b : Nat} {op : Op} {o : Orc} {K : KV} (hp : askOp E tm h b op o K) : ∃ v h' o', evalOp E tm h b op = some (v, h') ∧ K o' v h' := by
  unfold askOp at hp
  split at hp
  · exact ⟨_, _, _, resOb_sound hp.1, hp.2⟩
  · unfold fitK at hp
    split at hp
    · rename_i v h' p hf
      exact ⟨_, _, _, fitOp_sound hf hp.1, hp.2⟩
    · exact hp.elim
  · exact askP_sound hp
def stepP (E : Env) (inl : InlP) (tm : List AV) (h : Heap) (b : Nat) (op : Op) (o : Orc) (K : KV) : Prop :=
  match op with
  | .call { callee := .value f, args, .. } => callP E inl (freshOf E op) (evalO E.glob tm f) (args.toList.map (evalO E.glob tm)) h b o K
  | op => askOp E tm h b op o K
theorem stepP_sound {E : Env} {inl : Inl} {inlP : InlP} (hI : InlPOK inl inlP) {tm : List AV} {h : Heap} {b : Nat} {op : Op} {o : Orc} {K : KV} (hp : stepP E inlP tm h b op o K) :
    ∃ v h' o', stepOp E inl tm h b op = some (v, h') ∧ K o' v h' := by
  unfold stepP at hp
  unfold stepOp
  split at hp
  · exact callP_sound hI hp
  · rename_i hne
    obtain ⟨v, h', o', h1, h2⟩ := askOp_sound hp
    refine ⟨v, h', o', ?_, h2⟩
    split
    · exact (hne _ _ _ rfl).elim
    · exact h1
def runStepP (E : Env) (inl : InlP) (ops : Array Oper) (op : Oper) (b : Nat) (s : St) (o : Orc) (k : Nat → St → Orc → Prop) : Prop :=
  match guardB ops s.tm op with
  | none => False
  | some g => Bool.rec (dstK s.tm op.dst (.tup []) fun tm => k (b + freshOf E op.op) { s with tm } o)
      (stepP E inl s.tm s.hp b op.op o fun o v h => dstK s.tm op.dst v fun tm => k (b + freshOf E op.op) { tm, hp := h } o) g
def runOpsP (E : Env) (inl : InlP) (ops : Array Oper) (b : Nat) (l : List Oper) (s : St) (o : Orc) (K : Orc → St → Prop) : Prop :=
  List.rec (motive := fun _ => Nat → St → Orc → Prop) (fun _ s o => K o s) (fun op _ ih b s o => runStepP E inl ops op b s o ih) l b s o
theorem runOpsP_sound {E : Env} {inl : Inl} {inlP : InlP} (hI : InlPOK inl inlP) {ops : Array Oper} {K : Orc → St → Prop} : ∀ (l : List Oper) {b : Nat} {s : St} {o : Orc}, runOpsP E inlP ops b l s o K →
    ∃ s' o', runOps E inl ops b l s = some s' ∧ K o' s'
  | [], b, s, o, hp => ⟨s, o, rfl, hp⟩
  | op :: l, b, s, o, hp => by
    have hp : runStepP E inlP ops op b s o (fun b s o => runOpsP E inlP ops b l s o K) := hp
    rw [runOps_cons]
    unfold runStepP at hp
    split at hp
    · exact hp.elim
    · rename_i g hg
      rw [hg]
      cases g with
      | false =>
        replace hp : dstK s.tm op.dst (.tup []) (fun tm => runOpsP E inlP ops (b + freshOf E op.op) l { s with tm } o K) := hp
        rw [dstK_eq] at hp
        exact runOpsP_sound hI l hp
      | true =>
        replace hp : stepP E inlP s.tm s.hp b op.op o (fun o v h => dstK s.tm op.dst v fun tm => runOpsP E inlP ops (b + freshOf E op.op) l { tm, hp := h } o K) := hp
        obtain ⟨v, h', o', h1, h2⟩ := stepP_sound hI hp
        rw [dstK_eq] at h2
        simp only [h1, if_true]
        exact runOpsP_sound hI l h2
def runRegP (E : Env) (inl : InlP) (ops : Array Oper) (s : St) (o : Orc) (K : Orc → St → Prop) : Prop :=
  runOpsP E inl ops s.hp.length ops.toList { s with hp := pad s.hp (needs E ops.toList) } o K
/-! drawn regions -/
def plainV (r : Option AV) (k : AV → Prop) : Prop := match r with | some v => k v | none => False
def againP (blk : Nat → Nat) (G : Heap) (fl : List (Option AO)) (past : Nat) : List (Option RdE) → Nat → Prop
  | [], _ => True
  | none :: l, i => againP blk G fl past l (i + 1)
  | some r :: l, i => Bool.rec (plainV (r.ask (putF (memB r.past) blk fl 0 G)) (fun v => eqV v r.v = true) ∧ againP blk G fl past l (i + 1)) (againP blk G fl past l (i + 1)) (memB past i)
theorem againP_sound {blk : Nat → Nat} {G : Heap} {fl : List (Option AO)} {past : Nat} : ∀ (l : List (Option RdE)) (i : Nat), againP blk G fl past l i → again blk G fl past l i = true
  | [], _, _ => rfl
  | none :: l, i, h => againP_sound l (i + 1) h
  | some r :: l, i, h => by
    unfold again
    unfold againP at h
    revert h
    cases memB past i with
    | true => intro h; simp only [Bool.true_or, Bool.true_and]; exact againP_sound l (i + 1) h
    | false =>
      intro h
      obtain ⟨h1, h2⟩ := h
      simp only [Bool.false_or, Bool.and_eq_true]
      refine ⟨?_, againP_sound l (i + 1) h2⟩
      unfold plainV at h1
      split at h1
      · rename_i v hv; rw [hv]; exact h1
      · exact h1.elim
abbrev KD := Orc → AV → Heap → List (Option AO) → List (Option RdE) → Prop
def chkP (o : Orc) (b : Bool) (p : Prop) (k : Orc → Prop) : Prop :=
  match o with
  | (0, .chk) :: o => p ∧ k o
  | o => Bool.rec False (k o) b
def stepVP (E : Env) (inl : InlP) (ops : Array Oper) (blk : Nat → Nat) (mk : List Nat) (p : PS) (tm : List AV) (G : Heap) (fl : List (Option AO)) (rd : List (Option RdE)) (o : Orc) (K : KD) : Prop :=
  match guardB ops tm p.o with
  | none => False
  | some g => Bool.rec (K o (.tup []) G fl rd)
    (match p.cls with
    | .pure => askOp E tm [] 0 p.o.op o fun o v _ => K o v G fl rd
    | .make => match evalOp E tm [] (blk p.i) p.o.op, evalOp E tm [.dead] 0 p.o.op with
      | some (v, _), some (_, h) => K o v G (fl.set p.i (some (hget h 0))) rd
      | _, _ => False
    | .read => askOp E tm (putF (memB p.past) blk fl 0 G) (blk p.i) p.o.op o fun o v _ =>
        K o v G fl (rd.set p.i (some ⟨p.past, fun h => (evalOp E tm h (blk p.i) p.o.op).map Prod.fst, v⟩))
    | .turn => stepP E inl tm (putF (memB p.past) blk fl 0 G) (blk p.i) p.o.op o fun o v G' =>
        Bool.rec False (chkP o (again blk G' (clearF p.past fl 0) p.past rd 0) (againP blk G' (clearF p.past fl 0) p.past rd 0) fun o => K o v G' (clearF p.past fl 0) rd) (hidB blk G' p.past mk)) g
theorem chkP_sound {o : Orc} {b : Bool} {p : Prop} {k : Orc → Prop} (hb : p → b = true) (h : chkP o b p k) : b = true ∧ ∃ o', k o' := by
  unfold chkP at h
  split at h
  · exact ⟨hb h.1, _, h.2⟩
  · cases b with
    | false => exact False.elim h
    | true => exact ⟨rfl, _, h⟩
theorem stepVP_sound {E : Env} {inl : Inl} {inlP : InlP} (hI : InlPOK inl inlP) {ops : Array Oper} {blk : Nat → Nat} {mk : List Nat} {p : PS} {tm : List AV} {G : Heap} {fl : List (Option AO)} {rd : List (Option RdE)} {o : Orc} {K : KD}
    (hp : stepVP E inlP ops blk mk p tm G fl rd o K) : ∃ v G' fl' rd' o', stepV E inl ops blk mk p tm G fl rd = some (v, G', fl', rd') ∧ K o' v G' fl' rd' := by
  unfold stepVP at hp
  unfold stepV
  split at hp
  · exact hp.elim
  · rename_i g hg
    rw [hg]
    cases g with
    | false => exact ⟨_, _, _, _, _, rfl, hp⟩
    | true =>
      dsimp only at hp ⊢
      split at hp
      · rename_i hcl
        obtain ⟨v, h', o', h1, h2⟩ := askOp_sound hp
        simp only [hcl, h1]
        exact ⟨_, _, _, _, _, rfl, h2⟩
      · rename_i hcl
        split at hp
        · rename_i v _ _ h e1 e2
          simp only [hcl, e1, e2]
          exact ⟨_, _, _, _, _, rfl, hp⟩
        · exact hp.elim
      · rename_i hcl
        obtain ⟨v, h', o', h1, h2⟩ := askOp_sound hp
        simp only [hcl, h1]
        exact ⟨_, _, _, _, _, rfl, h2⟩
      · rename_i hcl
        obtain ⟨v, h', o', h1, h2⟩ := stepP_sound hI hp
        simp only [hcl, h1]
        revert h2
        cases hh : hidB blk h' p.past mk with
        | false => exact fun h => False.elim h
        | true =>
          intro h2
          obtain ⟨h3, o2, h4⟩ := chkP_sound (againP_sound _ _) h2
          simp only [h3, Bool.and_self, if_true]
          exact ⟨_, _, _, _, _, rfl, h4⟩
def runDP (E : Env) (inl : InlP) (ops : Array Oper) (blk : Nat → Nat) (mk : List Nat) (K : Orc → DS → Prop) : List PS → DS → Orc → Prop
  | [], s, o => K o s
  | p :: l, s, o => stepVP E inl ops blk mk p s.tm s.G s.fl s.rd o fun o v G fl rd => dstK s.tm p.o.dst v fun tm => runDP E inl ops blk mk K l { tm, G, fl, rd } o
theorem runDP_sound {E : Env} {inl : Inl} {inlP : InlP} (hI : InlPOK inl inlP) {ops : Array Oper} {blk : Nat → Nat} {mk : List Nat} {K : Orc → DS → Prop} : ∀ (l : List PS) {s : DS} {o : Orc}, runDP E inlP ops blk mk K l s o →
    ∃ s' o', runD E inl ops blk mk l s = some s' ∧ K o' s'
  | [], s, o, hp => ⟨s, o, rfl, hp⟩
  | p :: l, s, o, hp => by
    unfold runDP at hp
    obtain ⟨v, G', fl', rd', o', h1, h2⟩ := stepVP_sound hI hp
    rw [dstK_eq] at h2
    unfold runD stepD
    simp only [h1, dstK_eq]
    exact runDP_sound hI l h2
def runDrawP (E : Env) (inl : InlP) (ops : Array Oper) (s : St) (o : Orc) (K : Orc → St → Prop) : Prop :=
  match planOf E.T ops with
  | none => False
  | some l => runDP E inl ops (fun i => s.hp.length + offAt E ops.toList i) (makersOf l)
      (fun o d => K o { tm := d.tm, hp := putF (fun _ => true) (fun i => s.hp.length + offAt E ops.toList i) d.fl 0 d.G }) l
      { tm := s.tm, G := pad s.hp (needs E ops.toList), fl := List.replicate ops.size none, rd := List.replicate ops.size none } o
theorem runDrawP_sound {E : Env} {inl : Inl} {inlP : InlP} (hI : InlPOK inl inlP) {ops : Array Oper} {s : St} {o : Orc} {K : Orc → St → Prop} (hp : runDrawP E inlP ops s o K) :
    ∃ s' o', runDraw E inl ops s = some s' ∧ K o' s' := by
  unfold runDrawP at hp
  unfold runDraw
  split at hp
  · exact hp.elim
  · rename_i l hl
    obtain ⟨d, o', h1, h2⟩ := runDP_sound hI l hp
    simp only [hl, h1]
    exact ⟨_, _, rfl, h2⟩
/-! code -/
abbrev KE := Orc → Ex → St → Prop
abbrev BodyP := St → Orc → KE → Prop
def iterP (body : BodyP) (td : St → St) (n : Nat) (s : St) (o : Orc) (K : KE) : Prop :=
  Nat.rec (motive := fun _ => St → Orc → Prop) (fun _ _ => False) (fun _ ih s o => body s o fun o e s' => Ex.rec (ih (td s') o) (fun i => K o (.exit i) s') (K o .ret s') e) n s o
structure CxP where
  E : Env
  fn : FuncId
  base : Nat
  k : Nat
  inl : InlP
  round : Option Nat
def cRegionP (X : CxP) (ops : Array Oper) (draw : Bool) (s : St) (o : Orc) (K : KE) : Prop :=
  Bool.rec (runRegP X.E X.inl ops s o fun o s' => K o .normal s') (runDrawP X.E X.inl ops s o fun o s' => K o .normal s') draw
def cCondP (c : AV) (a b : Prop) : Prop :=
  match c with
  | .bool t => Bool.rec b a t
  | _ => False
def cRangeP (X : CxP) (f : Operand) (ps : Array Tmp) (assign body : Code) (s : St) (o : Orc) (K : KE) : Prop :=
    match evalO X.E.glob s.tm f with
    | .fn (.func g) first captured =>
      Bool.rec False
        (X.inl (.fn g) (first ++ [.fn (.yield s.hp.length) [] []] ++ captured) (s.hp ++ [.loop .ready none s.tm ps.toList assign body]) o fun o _ h => match hget h s.hp.length with
          | .loop .busy _ _ _ _ _ => False
          | .loop _ none _ _ _ _ => K o .normal { s with hp := hset h s.hp.length .dead }
          | .loop _ (some .ret) _ _ _ _ => K o .ret { s with hp := hset h s.hp.length .dead }
          | .loop _ (some (.exit id)) _ _ _ _ => K o (.exit id) { s with hp := hset h s.hp.length .dead }
          | _ => False) (roundOK X.round s.hp)
    | _ => False
def codeP (X : CxP) (c : Code) : BodyP :=
  Code.rec (motive := fun _ => BodyP)
    (fun s o K => K o .normal s)
    (fun _ ops draw s o K => cRegionP X ops draw s o K)
    (fun _ _ a b s o K => a s o fun o e s' => Ex.rec (b s' o K) (fun i => K o (.exit i) s') (K o .ret s') e)
    (fun c _ _ a b s o K => cCondP (evalO X.E.glob s.tm c) (a s o K) (b s o K))
    (fun id _ a s o K => a s o fun o e s' => Ex.rec (K o .normal s') (fun i => Bool.rec (K o (.exit i) s') (K o .normal s') (Nat.beq i id)) (K o .ret s') e)
    (fun c a s o K => iterP a (tdOf X.base (X.E.live X.fn (firstReg c))) X.k (tdOf X.base (X.E.live X.fn (firstReg c)) s) o K)
    (fun f ps assign body _ _ s o K => cRangeP X f ps assign body s o K)
    (fun id s o K => K o (.exit id) s)
    (fun _ _ _ _ _ => False)
    (fun _ s o K => K o .normal s)
    (fun _ _ _ _ => False)
    (fun s o K => K o .ret s)
    (fun _ _ _ _ => False) c
def BodyOK (body : St → Option (Ex × St)) (bodyP : BodyP) : Prop := ∀ s o K, bodyP s o K → ∃ e s' o', body s = some (e, s') ∧ K o' e s'
theorem iterP_sound {body : St → Option (Ex × St)} {bodyP : BodyP} (hb : BodyOK body bodyP) {td : St → St} {K : KE} : ∀ (n : Nat) {s : St} {o : Orc}, iterP bodyP td n s o K →
    ∃ e s' o', iter body td n s = some (e, s') ∧ K o' e s'
  | 0, s, o, h => False.elim h
  | n + 1, s, o, h => by
    have h : bodyP s o (fun o e s' => Ex.rec (iterP bodyP td n (td s') o K) (fun i => K o (.exit i) s') (K o .ret s') e) := h
    obtain ⟨e, s', o', h1, h2⟩ := hb _ _ _ h
    rw [iter_succ, h1]
    cases e with
    | normal => exact iterP_sound hb n h2
    | exit i => exact ⟨_, _, _, rfl, h2⟩
    | ret => exact ⟨_, _, _, rfl, h2⟩
def CxOK (X : Cx) (Y : CxP) : Prop := X.E = Y.E ∧ X.fn = Y.fn ∧ X.base = Y.base ∧ X.k = Y.k ∧ X.round = Y.round ∧ InlPOK X.inl Y.inl
theorem codeP_sound {X : Cx} {Y : CxP} (hX : CxOK X Y) : ∀ c, BodyOK (evalCode X c) (codeP Y c) := by
  obtain ⟨e1, e2, e3, e4, e5, hI⟩ := hX
  intro c
  induction c with
  | skip => intro s o K h; exact ⟨_, _, _, rfl, h⟩
  | label l => intro s o K h; exact ⟨_, _, _, rfl, h⟩
  | exit l => intro s o K h; exact ⟨_, _, _, rfl, h⟩
  | ret => intro s o K h; exact ⟨_, _, _, rfl, h⟩
  | goto l => intro s o K h; exact False.elim h
  | refuse l => intro s o K h; exact False.elim h
  | scope c ih => intro s o K h; exact False.elim h
  | region id ops draw =>
    intro s o K h
    rw [evalCode_region, e1]
    cases draw with
    | false =>
      obtain ⟨s', o', h1, h2⟩ := runOpsP_sound hI _ (show runOpsP Y.E Y.inl ops s.hp.length ops.toList _ o _ from h)
      refine ⟨_, _, _, ?_, h2⟩
      simp only [Bool.false_eq_true, if_false]
      unfold runReg; rw [h1]
    | true =>
      obtain ⟨s', o', h1, h2⟩ := runDrawP_sound hI (show runDrawP Y.E Y.inl ops s o _ from h)
      refine ⟨_, _, _, ?_, h2⟩
      simp only [if_true]; rw [h1]
  | seq a b iha ihb =>
    intro s o K h
    obtain ⟨e, s', o', h1, h2⟩ := iha _ _ _ h
    rw [evalCode_seq, h1]
    cases e with
    | normal => exact ihb _ _ _ h2
    | exit i => exact ⟨_, _, _, rfl, h2⟩
    | ret => exact ⟨_, _, _, rfl, h2⟩
  | cond c a b iha ihb =>
    intro s o K h
    have h : cCondP (evalO Y.E.glob s.tm c) (codeP Y a s o K) (codeP Y b s o K) := h
    rw [evalCode_cond, e1]
    unfold cCondP at h
    split at h
    · rename_i t ht
      rw [ht]
      cases t with
      | false => exact ihb _ _ _ h
      | true => exact iha _ _ _ h
    · exact h.elim
  | block id a iha =>
    intro s o K h
    obtain ⟨e, s', o', h1, h2⟩ := iha _ _ _ h
    rw [evalCode_block, h1]
    cases e with
    | normal => exact ⟨_, _, _, rfl, h2⟩
    | exit i =>
      revert h2
      dsimp only
      cases Nat.beq i id with
      | false => exact fun h2 => ⟨_, _, _, rfl, h2⟩
      | true => exact fun h2 => ⟨_, _, _, rfl, h2⟩
    | ret => exact ⟨_, _, _, rfl, h2⟩
  | loop c ih =>
    intro s o K h
    rw [evalCode_loop, e1, e2, e3, e4]
    exact iterP_sound ih _ h
  | rangeFunc f ps assign body iha ihb =>
    intro s o K h
    have h : cRangeP Y f ps assign body s o K := h
    rw [evalCode_range, e1, e5]
    unfold cRangeP at h
    split at h
    · rename_i g first captured hf
      rw [hf]
      dsimp only
      revert h
      cases roundOK Y.round s.hp with
      | false => exact fun h => False.elim h
      | true =>
        intro h
        obtain ⟨y, h', o', h1, h2⟩ := hI _ _ _ _ _ h
        simp only [if_true]
        rw [h1]
        dsimp only
        generalize hget h' s.hp.length = q at h2 ⊢
        cases q with
        | loop st p tm ps a b =>
          cases st <;> cases p with
          | none => first | exact ⟨_, _, _, rfl, h2⟩ | exact False.elim h2
          | some c => cases c <;> first | exact ⟨_, _, _, rfl, h2⟩ | exact False.elim h2
        | _ => exact False.elim h2
    · exact h.elim
/-! functions -/
def endP (E : Env) (fn : Func) (base : Nat) (s : St) (o : Orc) (K : KV) : Prop :=
  match resultsAV E fn s.tm s.hp with
  | some v => Prod.rec (fun v h => K o v h) (tidyV base v s.hp)
  | none => False
def evalFnP (E : Env) (k : Nat) (inl : InlP) (f : FuncId) (fn : Func) (args : List AV) (h : Heap) (o : Orc) (K : KV) : Prop :=
  match fn.body with
  | none => False
  | some c => codeP { E, fn := f, base := h.length, k, inl, round := none } c { tm := args ++ List.replicate (fn.ntmps - args.length) .top, hp := h } o
      fun o e s => Ex.rec (endP E fn h.length s o K) (fun _ => False) (endP E fn h.length s o K) e
theorem endP_sound {E : Env} {fn : Func} {base : Nat} {s : St} {o : Orc} {K : KV} (h : endP E fn base s o K) :
    ∃ v y h' o', resultsAV E fn s.tm s.hp = some v ∧ tidyV base v s.hp = (y, h') ∧ K o' y h' := by
  unfold endP at h
  split at h
  · rename_i v hv
    exact ⟨v, _, _, _, hv, rfl, h⟩
  · exact h.elim
theorem evalFnP_sound {E : Env} {k : Nat} {inl : Inl} {inlP : InlP} (hI : InlPOK inl inlP) {f : FuncId} {fn : Func} {args : List AV} {h : Heap} {o : Orc} {K : KV} (hp : evalFnP E k inlP f fn args h o K) :
    ∃ y h' o', evalFn E k inl f fn args h = some (y, h') ∧ K o' y h' := by
  unfold evalFnP at hp
  unfold evalFn
  cases hb : fn.body with
  | none => rw [hb] at hp; exact hp.elim
  | some c =>
    rw [hb] at hp
    dsimp only at hp ⊢
    obtain ⟨e, s', o', h1, h2⟩ := codeP_sound (X := { E, fn := f, base := h.length, k, inl, round := none }) (Y := { E, fn := f, base := h.length, k, inl := inlP, round := none }) ⟨rfl, rfl, rfl, rfl, rfl, hI⟩ c _ _ _ hp
    rw [h1]
    cases e with
    | normal =>
      obtain ⟨v, y, h', o2, r1, r2, r3⟩ := endP_sound h2
      dsimp only
      rw [r1]
      exact ⟨_, _, _, congrArg some r2, r3⟩
    | exit i => exact False.elim h2
    | ret =>
      obtain ⟨v, y, h', o2, r1, r2, r3⟩ := endP_sound h2
      dsimp only
      rw [r1]
      exact ⟨_, _, _, congrArg some r2, r3⟩
def yieldP (E : Env) (k : Nat) (inl : InlP) (l : Nat) (args : List AV) (h : Heap) (o : Orc) (K : KV) : Prop :=
  match hget h l with
    | .loop .ready none tm ps assign body => match setParams tm ps args with
      | none => False
      | some tm1 =>
        codeP { E, fn := 1000000, base := h.length, k, inl, round := some l } assign { tm := tm1, hp := h } o fun o e s => Ex.rec
          (match hget s.hp l with
          | .loop .ready p tm' ps' a' b' =>
            codeP { E, fn := 1000000, base := h.length, k, inl, round := some l } body { s with hp := hset s.hp l (.loop .busy p tm' ps' a' b') } o fun o e s =>
              match setLoop s.hp l (jumpOf e) with
              | some h' => Prod.rec (fun v h => K o v h) (tidyV h.length (.bool (jumpOf e).isNone) h')
              | none => False
          | _ => False) (fun _ => False) False e
    | _ => False
def evalNP (E : Env) (k : Nat) : Nat → InlP
  | 0, _, _, _, _, _ => False
  | n + 1, .fn f, args, h, o, K => match E.fns f with
    | some fn => evalFnP E k (evalNP E k n) f fn args h o K
    | none => False
  | n + 1, .yield l, args, h, o, K => yieldP E k (evalNP E k n) l args h o K
theorem evalNP_sound (E : Env) (k : Nat) : ∀ n, InlPOK (evalN E k n) (evalNP E k n)
  | 0 => fun c args h o K hp => by simp [evalNP] at hp
  | n + 1 => fun c args h o K hp => by
    have hI := evalNP_sound E k n
    cases c with
    | fn f =>
      simp only [evalNP] at hp
      simp only [evalN]
      split at hp
      · rename_i fn hfn
        simp only [hfn]
        exact evalFnP_sound hI hp
      · exact hp.elim
    | yield l =>
      simp only [evalNP] at hp
      simp only [evalN]
      unfold yieldP at hp
      split at hp
      · rename_i tm ps assign body h1
        rw [h1]
        dsimp only
        split at hp
        · exact hp.elim
        · rename_i tm1 h2
          rw [h2]
          dsimp only
          obtain ⟨e, s', o', q1, q2⟩ := codeP_sound (X := { E, fn := 1000000, base := h.length, k, inl := evalN E k n, round := some l }) (Y := { E, fn := 1000000, base := h.length, k, inl := evalNP E k n, round := some l }) ⟨rfl, rfl, rfl, rfl, rfl, hI⟩ _ _ _ _ hp
          rw [q1]
          cases e with
          | exit i => exact False.elim q2
          | ret => exact False.elim q2
          | normal =>
            dsimp only at q2 ⊢
            split at q2
            · rename_i p tm' ps' a' b' h3
              rw [h3]
              dsimp only
              obtain ⟨e, s2, o2, r1, r2⟩ := codeP_sound (X := { E, fn := 1000000, base := h.length, k, inl := evalN E k n, round := some l }) (Y := { E, fn := 1000000, base := h.length, k, inl := evalNP E k n, round := some l }) ⟨rfl, rfl, rfl, rfl, rfl, hI⟩ _ _ _ _ q2
              rw [r1]
              dsimp only
              split at r2
              · rename_i h' h4
                rw [h4]
                exact ⟨_, _, _, rfl, r2⟩
              · exact r2.elim
            · exact q2.elim
      · exact hp.elim
end Go.Abs
end

section
namespace Go.Abs
variable {P : Program}
/-! ### what an environment must keep, from what the kernel sees of a program -/
theorem ext_same {f : FuncId} {fn : Func} (hf : P.funcs[f]? = some fn) (hname : (fn.name == "runtime.NumGoroutine") = false) (hb : fn.body.isNone = true) (hn : Extern.findNext fn = none)
    (he : Extern.find fn = some Extern.AbiNoEscape.same) : ExtOK P f .same := fun x w => by
  rw [run_callFunc_extern hf hname hb hn he, Lib.run_noEscape]; rfl
theorem ext_count {f : FuncId} {fn : Func} (hf : P.funcs[f]? = some fn) (hname : (fn.name == "runtime.NumGoroutine") = false) (hb : fn.body.isNone = true) (hn : Extern.findNext fn = none)
    (he : Extern.find fn = some Extern.BytealgCount.count) : ExtOK P f .count := fun s c w => by
  rw [run_callFunc_extern hf hname hb hn he, Lib.run_countString]; rfl
theorem ext_index {f : FuncId} {fn : Func} (hf : P.funcs[f]? = some fn) (hname : (fn.name == "runtime.NumGoroutine") = false) (hb : fn.body.isNone = true) (hn : Extern.findNext fn = none)
    (he : Extern.find fn = some Extern.BytealgIndexByte.indexByte) : ExtOK P f .index := fun s c w => by
  rw [run_callFunc_extern hf hname hb hn he, Lib.run_indexByteString]; rfl
theorem digits_one : ∀ (n t : Nat) (acc : Array Value), (∀ v ∈ acc, v.oneCell' = true) → ∀ v ∈ Extern.BytealgMakeNoZero.digits n t acc, v.oneCell' = true
  | 0, _, _, h => h
  | n + 1, t, acc, h => digits_one n (t / 256) _ fun v hv => by
    rw [Array.mem_push] at hv
    rcases hv with hv | rfl
    · exact h v hv
    · rfl
theorem mk_at (motive : Array Value → Type) (n : Int) (h1 : ∀ n, motive #[.int .i64 n]) (h2 : ∀ x, motive x) : Extern.BytealgMakeNoZero.makeNoZero.match_3 motive #[.int .i64 n] h1 h2 = h1 n := rfl
theorem run_raw (w : World) (ps : Array TypeId) (t e : TypeId) (ht : P.underlying t = some (.slice e)) (n : Nat) (hn : n ≤ 281474976710656) :
    (Extern.BytealgMakeNoZero.makeNoZero ps #[t] #[.int .i64 n]).run P w = .ok (.slice (some ⟨w.heap.size, 0, none⟩) n (Extern.BytealgMakeNoZero.digits (grownCap w n 0 e) ((Question.extern "internal/bytealg.MakeNoZero.bytes" 0).cut (w.tape (w.drawn + 1) (.extern "internal/bytealg.MakeNoZero.bytes" 0))) #[]).size) (w.drew.drew.alloc (.cells (Extern.BytealgMakeNoZero.digits (grownCap w n 0 e) ((Question.extern "internal/bytealg.MakeNoZero.bytes" 0).cut (w.tape (w.drawn + 1) (.extern "internal/bytealg.MakeNoZero.bytes" 0))) #[]) e)) := by
  have h1 : ¬ (n : Int) < 0 := by omega
  have h2 : ¬ (281474976710656 : Int) < (n : Int) := by omega
  delta Extern.BytealgMakeNoZero.makeNoZero
  rw [mk_at]
  simp [run_underlying ht, h1, h2, Question.forced, newRow, Lib.size_digits, grownCap]
theorem run_rawBytes (w : World) (ps : Array TypeId) (t e : TypeId) (ht : P.underlying t = some (.slice e)) (n : Nat) (hn : n ≤ 281474976710656) :
    ∃ cs : Array Value, (Extern.BytealgMakeNoZero.makeNoZero ps #[t] #[.int .i64 n]).run P w = .ok (.slice (some ⟨w.heap.size, 0, none⟩) n cs.size) (w.drew.drew.alloc (.cells cs e)) ∧ n ≤ cs.size ∧ ∀ v ∈ cs, v.oneCell' = true := by
  refine ⟨_, run_raw w ps t e ht n hn, ?_, digits_one _ _ _ (by simp)⟩
  rw [Lib.size_digits]
  simpa using grownCap_ge w n 0 e
theorem ext_raw {f : FuncId} {fn : Func} {t r : TypeId} {ps : Array TypeId} (hf : P.funcs[f]? = some fn) (hname : (fn.name == "runtime.NumGoroutine") = false) (hb : fn.body.isNone = true) (hn : Extern.findNext fn = none)
    (he : Extern.find fn = some (Extern.BytealgMakeNoZero.makeNoZero ps #[r])) (ht : P.underlying r = some (.slice t)) : ExtOK P f (.rawBytes t) := fun n w hm => by
  obtain ⟨cs, h1, h2, h3⟩ := run_rawBytes (P := P) w ps r t ht n (by unfold most at hm; omega)
  exact ⟨cs, by rw [run_callFunc_extern hf hname hb hn he, h1]; rfl, h2, h3⟩
/-- fields, all whole numbers, one behind the other -/
def FlatI (P : Program) : List Field → Nat → Prop
  | [], _ => True
  | f :: fs, o => (f.name == "_") = false ∧ f.offset = o ∧ (∃ k, P.underlying f.type = some (.int k)) ∧ FlatI P fs (o + 1)
theorem run_part_int {t : TypeId} {k : IntKind} (ht : P.underlying t = some (.int k)) {cs : Array Value} {o : Nat} {v : Value} (h : cs[o]? = some v) (w : World) : (part t cs o).run P w = .ok v w := by
  simp [part, isAgg, run_underlying ht, h]
theorem eqFields_ints {k : IntKind} {xs ys : List Int} (hxy : xs.length = ys.length) (d : Nat) (w : World) : ∀ (fs : List Field) (o : Nat), FlatI P fs o → xs.length = o + fs.length →
    (Op.eqFields (d + 1) (xs.map (Value.int k)).toArray (ys.map (Value.int k)).toArray fs).run P w = .ok (xs.drop o == ys.drop o) w
  | [], o, _, hl => by
    rw [List.drop_of_length_le (by simp at hl; omega), List.drop_of_length_le (by simp at hl; omega)]
    rfl
  | f :: fs, o, hf, hl => by
    obtain ⟨h1, h2, ⟨k', h3⟩, h4⟩ := hf
    have h1 : f.name ≠ "_" := by simpa using h1
    have hx : o < xs.length := by simp at hl; omega
    have hy : o < ys.length := by omega
    have ih := eqFields_ints (k := k) hxy d w fs (o + 1) h4 (by simp at hl ⊢; omega)
    have e1 : ((xs.map (Value.int k)).toArray)[o]? = some (.int k xs[o]) := by simp [hx]
    have e2 : ((ys.map (Value.int k)).toArray)[o]? = some (.int k ys[o]) := by simp [hy]
    simp only [Op.eqFields, h1, ne_eq, not_false_eq_true, if_true, Sem.run_bind, h2, run_part_int h3 e1, run_part_int h3 e2, Result.andThen_ok, run_equalIn_int w d f.type k k' _ _ h3]
    rw [List.drop_eq_getElem_cons hx, List.drop_eq_getElem_cons hy, List.cons_beq_cons]
    cases hq : (xs[o] == ys[o]) with
    | false => simp
    | true => simpa using ih
theorem eq_struct {T : TT} {t : TypeId} {d : TD} (hT : T t = some d) (h0 : P.eqGuardType P.depth t = false) (hu : P.underlying t = some (.struct (P.fieldsOf t))) (hs : P.stoodInHeld t = false)
    (hf : FlatI P (P.fieldsOf t).toList 0) (hn : (P.fieldsOf t).toList.length = d.size) : ∀ d', T t = some d' → ∀ (w : World) (k : IntKind) (xs ys : List Int), xs.length = d'.size → ys.length = d'.size →
  (P.eqGuardType P.depth t = false) ∧ (Op.equal t (.agg (xs.map (Value.int k)).toArray) (.agg (ys.map (Value.int k)).toArray)).run P w = .ok (xs == ys) w := by
  intro d' hd w k xs ys hx hy
  rw [hT] at hd; cases hd
  refine ⟨h0, ?_⟩
  show (Op.equalIn (9999 + 1) t _ _).run P w = _
  rw [run_equalIn_struct w 9999 t _ _ hu hs]
  have := eqFields_ints (P := P) (k := k) (xs := xs) (ys := ys) (by omega) 9998 w _ 0 hf (by omega)
  simpa using this
/-- the functions of a program that have a body -/
noncomputable def fnsOf (P : Program) (f : FuncId) : Option Func :=
  match P.funcs[f]? with
  | some fn => Bool.rec (some fn) none (fn.body.isNone || (fn.name == "runtime.NumGoroutine"))
  | none => none
theorem fnsOf_ok {E : Env} (h : E.fns = fnsOf P) : FnsOK P E := by
  intro f fn hfn
  rw [h] at hfn
  unfold fnsOf at hfn
  split at hfn
  · rename_i fn' hf
    revert hfn
    cases hq : (fn'.body.isNone || (fn'.name == "runtime.NumGoroutine")) with
    | true => exact fun h => by cases h
    | false =>
      intro h
      have : fn' = fn := Option.some.inj h
      subst this
      rw [Bool.or_eq_false_iff] at hq
      exact ⟨hf, hq⟩
  · cases hfn
theorem conOK_none {E : Env} (h : ∀ f, E.con f = none) : ConOK P E := fun f c hc => by rw [h] at hc; cases hc
end Go.Abs
end

section
namespace Go.Abs
variable {P : Program} {B : Base} {m : MM} {S : SS} {F : FF} {H : Heap} {w : World}
theorem mutBlk_nil (m : MM) (b : Nat) : ¬ mutBlk m [] b := fun ⟨i, _, hi, _, _⟩ => by
  unfold Mut at hi; rw [hget_nil] at hi; cases hi
/-- a call that sees none of the own blocks starts so -/
theorem WR.alone (h : WR B m S F H w) : WR (Go.Abs.rebase noM S [] w) noM S F [] w where
  obj := fun id => by rw [hget_nil]; trivial
  inj := fun i j l l' _ _ hl => by cases hl
  stab := h.stab
  apart := fun i l _ hl => by cases hl
  size := Nat.le_refl _
  keep := fun _ _ _ => rfl
  own := fun i l _ hl => by cases hl
  fresh := fun b c hb => .inl hb
  os := rfl
  output := rfl
  tape := rfl
/-- .. and leaves the own blocks so -/
theorem WR.outside {m' : MM} {S' : SS} {F' : FF} {H' : Heap} {w' : World} (h : WR B m S F H w) (h' : WR (Go.Abs.rebase noM S [] w) m' S' F' H' w') (hS : S.le S') : WR B m S' F H w' := by
  have keep : ∀ b, b < w.heap.size → w'.heap[b]? = w.heap[b]? := fun b hb => h'.keep b hb (mutBlk_nil noM b)
  have blk : ∀ i l, Mut H i → m i = some l → l.b < w.heap.size := fun i l hi hl => by
    obtain ⟨l', h1, h2⟩ := OR.block hi (h.obj i)
    rw [hl] at h1; cases h1; exact h2
  exact {
    obj := fun id => OR.mono (MM.le_refl _) hS (h.obj id) fun l hmut hl => keep _ (blk id l hmut hl)
    inj := h.inj
    stab := h'.stab
    apart := fun i l hi hl => by
      cases hq : S' l.b with
      | none => rfl
      | some c =>
        rcases h'.fresh l.b c hq with h1 | h1 | h1
        · have h1 : S l.b = some c := h1
          rw [h.apart i l hi hl] at h1; cases h1
        · exact (mutBlk_nil noM _ h1).elim
        · have h1 : w.heap.size ≤ l.b := h1
          have := blk i l hi hl; omega
    size := Nat.le_trans h.size h'.size
    keep := fun b hb hD => by
      rw [keep b (Nat.lt_of_lt_of_le hb h.size)]
      exact h.keep b hb hD
    own := h.own
    fresh := fun b c hb => by
      rcases h'.fresh b c hb with h1 | h1 | h1
      · exact h.fresh b c h1
      · exact (mutBlk_nil noM _ h1).elim
      · exact .inr (.inr (Nat.le_trans h.size h1))
    os := h'.os.trans h.os
    output := h'.output.trans h.output
    tape := h'.tape.trans h.tape }
end Go.Abs
end

section
namespace Go.Abs
/-! ### from a reading to cells -/
def flatD {H : Type} : DataW H → List Value
  | .lit (.int k z) => [.int k z]
  | .agg ds => flatDs ds
  | _ => []
where flatDs {H : Type} : List (DataW H) → List Value
  | [] => []
  | d :: ds => flatD d ++ flatDs ds
def fieldsB (P : Program) (rec : TypeId → Bool) : List Field → Nat → Nat → Bool
  | [], o, tot => Nat.beq o tot
  | f :: fs, o, tot => Nat.beq f.offset o && (rec f.type && fieldsB P rec fs (o + P.cellsOf f.type) tot)
/-- types of whole numbers alone, laid one behind the other -/
def shapeB (P : Program) : Nat → TypeId → Bool
  | 0, _ => false
  | n + 1, t => match P.underlying t with
    | some (.int _) => Nat.beq (P.cellsOf t) 1
    | some (.array m e) => Nat.beq (P.cellsOf t) (m * P.cellsOf e) && shapeB P n e
    | some (.struct fs) => fieldsB P (shapeB P n) fs.toList 0 (P.cellsOf t)
    | _ => false
theorem mapM_flat {α : Type} {H : Type} {f : α → Option (DataW H × List MemPlace)} {g : α → List Value} : ∀ {l : List α} {xs : List (DataW H × List MemPlace)}, l.mapM f = some xs → (∀ a ∈ l, ∀ b, f a = some b → g a = flatD b.1) →
    l.flatMap g = flatD.flatDs (xs.map (·.1))
  | [], xs, h, _ => by
    simp at h; subst h; rfl
  | a :: l, xs, h, hg => by
    simp only [List.mapM_cons, Option.bind_eq_bind, Option.bind_eq_some_iff, Option.pure_def, Option.some.injEq] at h
    obtain ⟨b, hb, r', hr', rfl⟩ := h
    rw [List.flatMap_cons, hg a List.mem_cons_self b hb, mapM_flat hr' fun a' ha' => hg a' (List.mem_cons_of_mem _ ha')]
    rfl
theorem slices (c : Nat) : ∀ (n : Nat) (cs : List Value), cs.length = n * c → (List.range n).flatMap (fun i => (cs.drop (i * c)).take c) = cs
  | 0, cs, h => by
    have : cs = [] := List.eq_nil_of_length_eq_zero (by simpa using h)
    subst this; rfl
  | n + 1, cs, h => by
    rw [List.range_succ, List.flatMap_append]
    have h1 : (cs.take (n * c)).length = n * c := by rw [List.length_take, h, Nat.succ_mul]; omega
    have ih := slices c n (cs.take (n * c)) h1
    have hc : (List.range n).flatMap (fun i => (cs.drop (i * c)).take c) = (List.range n).flatMap (fun i => ((cs.take (n * c)).drop (i * c)).take c) := by
      rw [List.flatMap_def, List.flatMap_def]
      refine congrArg List.flatten (List.map_congr_left fun i hi => ?_)
      have hi : i < n := List.mem_range.mp hi
      rw [List.drop_take, List.take_take, Nat.min_eq_left]
      have : (i + 1) * c ≤ n * c := Nat.mul_le_mul_right _ hi
      rw [Nat.succ_mul] at this; omega
    rw [hc, ih]
    simp only [List.flatMap_cons, List.flatMap_nil, List.append_nil]
    rw [List.take_of_length_le (l := cs.drop (n * c)) (by rw [List.length_drop, h, Nat.succ_mul]; omega), List.take_append_drop]
variable {H : Type} {enc : TypeId × Value → H} {P : Program} {w : World} {base : Nat} {sp : Nat → Bool} {held : Bool}
theorem fields_flat {rec : TypeId → Bool} : ∀ (fs : List Field) (o tot : Nat) (cs : List Value), fieldsB P rec fs o tot = true → cs.length = tot →
    fs.flatMap (fun f => (cs.drop f.offset).take (P.cellsOf f.type)) = cs.drop o
  | [], o, tot, cs, h, hl => by
    have := Nat.eq_of_beq_eq_true h
    rw [List.drop_of_length_le (by omega)]; rfl
  | f :: fs, o, tot, cs, h, hl => by
    simp only [fieldsB, Bool.and_eq_true] at h
    have ho := Nat.eq_of_beq_eq_true h.1
    rw [List.flatMap_cons, fields_flat fs _ _ cs h.2.2 hl, ho, ← List.drop_drop, List.take_append_drop]
theorem fields_all {rec : TypeId → Bool} : ∀ (fs : List Field) (o tot : Nat), fieldsB P rec fs o tot = true → ∀ f ∈ fs, rec f.type = true
  | [], _, _, _, f, hf => by cases hf
  | f :: fs, o, tot, h, g, hg => by
    simp only [fieldsB, Bool.and_eq_true] at h
    rcases List.mem_cons.mp hg with rfl | hg
    · exact h.2.1
    · exact fields_all fs _ _ h.2.2 g hg
theorem flat_of_trod : ∀ (n : Nat) (t : TypeId), shapeB P n t = true → ∀ (fuel : Nat) (cs : List Value) (d : DataW H) (p : List MemPlace), DataW.trod enc P w base sp held fuel t cs = some (d, p) → cs = flatD d
  | 0, t, h => by cases h
  | n + 1, t, h => by
    intro fuel cs d p ht
    cases fuel with
    | zero => simp [DataW.trod] at ht
    | succ fuel =>
      simp only [shapeB] at h
      split at h
      · rename_i k hk
        obtain ⟨z, rfl, hx, _⟩ := DataW.trod_int hk ht
        simp only [Prod.mk.injEq] at hx
        obtain ⟨rfl, _⟩ := hx
        rfl
      · rename_i m e hk
        simp only [Bool.and_eq_true] at h
        have hc := Nat.eq_of_beq_eq_true h.1
        simp only [DataW.trod, hk] at ht
        split at ht
        · rename_i hl
          obtain ⟨xs, hm, hx⟩ := Option.map_eq_some_iff.1 ht
          simp only [Prod.mk.injEq] at hx
          obtain ⟨rfl, _⟩ := hx
          rw [← slices (P.cellsOf e) m cs (by rw [hl, hc])]
          exact mapM_flat hm fun i _ b hb => flat_of_trod n e h.2 fuel _ b.1 b.2 hb
        · cases ht
      · rename_i fs hk
        simp only [DataW.trod, hk] at ht
        split at ht
        · rename_i hl
          obtain ⟨xs, hm, hx⟩ := Option.map_eq_some_iff.1 ht
          simp only [Prod.mk.injEq] at hx
          obtain ⟨rfl, _⟩ := hx
          have := fields_flat _ _ _ cs h hl
          rw [List.drop_zero] at this
          rw [← this]
          exact mapM_flat hm fun f hf b hb => flat_of_trod n f.type (fields_all _ _ _ h f hf) fuel _ b.1 b.2 hb
        · cases ht
      · cases h
end Go.Abs
end

section
namespace Go.Abs
variable {P : Program} {w : World}
theorem laid_get : ∀ {laid : List (String × DataW Unit)} {ps : List MemPlace}, DataW.LaidVars P w laid ps → ∀ {name : String} {d : DataW Unit}, (name, d) ∈ laid → ∀ {g : Nat} {t : TypeId}, P.globalNamed name = some g → (P.globals[g]?).map (·.type) = some t →
    ∃ c e fr fuel p, w.heap[g]? = some (.cells c e fr) ∧ DataW.trod (fun _ => ()) P w 0 (fun _ => true) false fuel t c.toList = some (d, p)
  | [], _, _, _, _, hm, _, _ => by cases hm
  | (n, d') :: r, ps, h, name, d, hm, g, t => by
    intro hg ht
    obtain ⟨g', t', cs, fuel, p, q, h1, h2, h3, h4, h5, _⟩ := h
    rcases List.mem_cons.mp hm with he | hm
    · cases he
      obtain rfl := Option.some.inj (hg.symm.trans h1)
      obtain rfl := Option.some.inj (ht.symm.trans h2)
      unfold World.var? at h3
      rw [hg] at h3
      simp only [Option.bind_some] at h3
      split at h3
      · rename_i c e fr hh
        cases h3
        exact ⟨_, e, fr, fuel, p, hh, h4⟩
      · cases h3
    · exact laid_get h5 hm hg ht
theorem laid_flat {laid : List (String × DataW Unit)} {ps : List MemPlace} (h : DataW.LaidVars P w laid ps) {name : String} {d : DataW Unit} (hm : (name, d) ∈ laid) {g : Nat} {t : TypeId} (hg : P.globalNamed name = some g) (ht : (P.globals[g]?).map (·.type) = some t)
    {n : Nat} (hs : shapeB P n t = true) : ∃ c e fr, w.heap[g]? = some (.cells c e fr) ∧ c.toList = flatD d := by
  obtain ⟨c, e, fr, fuel, p, h1, h2⟩ := laid_get h hm hg ht
  exact ⟨c, e, fr, h1, flat_of_trod n t hs fuel _ d p h2⟩
end Go.Abs
end
