/- A certified abstract evaluator of the model's code (namespace Go.Abs), one part of it: what it answers holds of every run. Each theorem states its own conditions. -/
import Derived.Test.YtfbamgphngmglaaGreatDoorEngineJ
set_option linter.unusedSimpArgs false
set_option linter.unusedVariables false
section
namespace Go.Abs
variable {P : Program} {B : Base} {m : MM} {S : SS} {F : FF} {H : Heap} {w : World}
theorem mutBlk_sub {H' : Heap} (h : ∀ i, Mut H' i → Mut H i) {b : Nat} (hb : mutBlk m H' b) : mutBlk m H b := by
  obtain ⟨i, l, hi, hl⟩ := hb
  exact ⟨i, l, h i hi, hl⟩
/-- a loop's record is turned, or given up -/
theorem loop_turn (hW : WR B m S F H w) {id : Nat} {st : LoopState} {pend : Option Code} {tm : List AV} {ps : List Nat} {a b : Code} (hg : hget H id = .loop st pend tm ps a b) {n0 : Nat} {ds : List Deferred} (hk : MK n0 m H ds w) :
    ∃ loc lp, m id = some loc ∧ w.heap[loc.b]? = some (.loop lp) ∧ lp.state = st ∧ lp.pending = pend ∧ LR S tm m F lp.tmps.toList ∧ lp.params.toList = ps ∧ lp.assign = a ∧ lp.body = b ∧
      ∀ (st' : LoopState) (pend' : Option Code), let w' : World := { w with heap := w.heap.setIfInBounds loc.b (.loop { lp with state := st', pending := pend' }) }
        WR B m S F (hset H id (.loop st' pend' tm ps a b)) w' ∧ MK n0 m (hset H id (.loop st' pend' tm ps a b)) ds w' ∧
        WR B m S F (hset H id .dead) w' ∧ MK n0 m (hset H id .dead) ds w' := by
  have ho := hW.obj id
  rw [hg] at ho
  obtain ⟨loc, lp, h1, h2, h3, h4, h5, h6, h7, h8⟩ := ho
  have hlt := lt_of_get h2
  have hmut : Mut H id := by unfold Mut; rw [hg]; rfl
  have hidlt : id < H.length := hget_lt (fun hd => by rw [hd] at hg; cases hg)
  refine ⟨loc, lp, h1, h2, h3, h4, h5, h6, h7, h8, fun st' pend' => ?_⟩
  intro w'
  have hk1 : ∀ x, x ≠ loc.b → w'.heap[x]? = w.heap[x]? := fun x hx => by simp [w', Array.getElem?_setIfInBounds, Ne.symm hx]
  have hW1 : WR B m S F (hset H id (.loop st' pend' tm ps a b)) w' :=
    hW.turn hmut h1 (by simp [w']) hk1 ⟨loc, { lp with state := st', pending := pend' }, h1, by simp [w', hlt], rfl, rfl, h5, h6, h7, h8⟩ rfl rfl rfl
  have hsub : ∀ o, ∀ i, (mutO o = true ∨ True) → Mut (hset H id o) i → Mut H i := fun o i _ hi => by
    by_cases hii : i = id
    · subst hii; exact hmut
    · unfold Mut at *; rwa [hget_hset_ne H id i o hii] at hi
  have hmk : ∀ o, MK n0 m (hset H id o) ds w' := fun o => ⟨fun d hd => by
    obtain ⟨r, k1, k0, k2, k3⟩ := hk.1 d hd
    have hne : r ≠ loc.b := fun he => k3 ⟨id, loc, hmut, h1, he.symm⟩
    exact ⟨r, k1, k0, by rw [hk1 r hne]; exact k2, fun hb => k3 (mutBlk_sub (fun i hi => hsub o i (.inr trivial) hi) hb)⟩, hk.2⟩
  refine ⟨hW1, hmk _, ?_, hmk _⟩
  refine (hW1.kill id).congr fun i => ?_
  by_cases hii : i = id
  · subst hii; rw [hget_hset_self _ _ _ hidlt, hget_hset_self _ _ _ (by rw [hset_length]; exact hidlt)]
  · rw [hget_hset_ne _ _ _ _ hii, hget_hset_ne _ _ _ _ hii, hget_hset_ne _ _ _ _ hii]
theorem MM_le_of {m m' : MM} {n : Nat} (hc : ∀ i, n ≤ i → m i = none) (h : ∀ i, i < n → m' i = m i) : m.le m' := fun i loc hi => by
  rcases Nat.lt_or_ge i n with h' | h'
  · rw [h i h']; exact hi
  · rw [hc i h'] at hi; cases hi
theorem range_sound {X : Cx} (hI : InlOK P X.E X.inl) {Fc : Fence} {m0 : MM} {S0 : SS} (hF : FcOK X m0 Fc) (hG : GlobOK X.E.glob S0) {f : Operand} {ps : Array Tmp} {assign body : Code} {s s' : St} {e : Ex} {a : Act} {w : World} {Q : Exit → Act → World → Prop}
    (he : evalCode X (.rangeFunc f ps assign body) s = some (e, s')) (hst : StR B F X.base m0 S0 s a w) (hQ : ∀ a' w', StR B F X.base m0 S0 s' a' w' → Q (exitOf e) a' w') : (Code.rangeFunc f ps assign body).wpIn Fc 0 P Q a w := by
  obtain ⟨m, S, ht, hW, hS, hm, hc, hbl, hk⟩ := hst
  have f1 := (fence_ok hF.or).1
  have f2 := (fence_ok hF.or).2.1
  have hfv := evalO_sound (hG.mono hS) ht f
  simp only [evalCode_skip, evalCode_label, evalCode_exit, evalCode_ret, evalCode_goto, evalCode_refuse, evalCode_scope, evalCode_seq, evalCode_cond, evalCode_block, evalCode_loop, evalCode_region, evalCode_range] at he
  split at he
  · rename_i g first captured hfo
    rw [hfo] at hfv
    simp only [VR] at hfv
    obtain ⟨gg, fs, cs, hv, hgg, hfs, hcs⟩ := hfv
    have hgg : gg = .func g := hgg
    subst hgg
    split at he
    · rename_i hround
      cases hinl : X.inl (.fn g) (first ++ [.fn (.yield s.hp.length) [] []] ++ captured) (s.hp ++ [.loop .ready none s.tm ps.toList assign body]) with
      | none => rw [hinl] at he; cases he
      | some q =>
        obtain ⟨y, h⟩ := q
        rw [hinl] at he
        simp only at he
        refine wpIn_rangeFunc fun fn _ => ?_
        obtain ⟨l, mark, w1, hent, hW1, hk1⟩ := enter_sound hF hW hm hc hk hround ht fn ps assign body
        have hle1 : m.le (mput m s.hp.length ⟨l, 0, 0⟩) := mput_le m _ _ (hc _ (Nat.le_refl _))
        have hall : LR S (first ++ [.fn (.yield s.hp.length) [] []] ++ captured) (mput m s.hp.length ⟨l, 0, 0⟩) F (fs ++ #[Value.func (.yield l) #[] #[]] ++ cs).toList := by
          simp only [Array.toList_append]
          refine LR_append (LR_append (LR_renew hfs (SS.le_refl _) hle1) ?_) (LR_renew hcs (SS.le_refl _) hle1)
          simp only [LR, VR]
          exact ⟨_, [], rfl, ⟨.yield l, #[], #[], rfl, ⟨_, mput_self _ _ _, rfl⟩, rfl, rfl⟩, rfl⟩
        have hcap1 : Cap (mput m s.hp.length ⟨l, 0, 0⟩) (s.hp ++ [.loop .ready none s.tm ps.toList assign body]) := fun i hi => by
          simp only [List.length_append, List.length_cons, List.length_nil] at hi
          rw [mput_ne m _ _ (by omega)]; exact hc i (by omega)
        obtain ⟨hhas, hcall⟩ := hI _ _ _ _ _ hinl _ _ _ _ _ _ (hG.mono hS) hW1.rebase hcap1 hall
        refine ⟨l, mark, w1, { target := .fn (.func g) cs, args := fs ++ #[Value.func (.yield l) #[] #[]] }, w1, g, fs ++ #[Value.func (.yield l) #[] #[]] ++ cs, w1, hent, ?_, fun f' _ => f1 f', ?_, fun hd => (f2 hd).elim, ?_⟩
        · have : a.eval (.const (.func (.yield l) #[] #[])) = .func (.yield l) #[] #[] := rfl
          simp [resolve, rangeCall, hv, Deferred.ofValue, this]
        · simp [invoke, run_callFunc hhas]
        · refine callsIn_fence hF.or (hcall.mono fun e' w' ⟨u, m', S', he', hv', hw', hs', hm', hcap', hlen'⟩ => ?_)
          subst he'
          have hlt0 : s.hp.length < (s.hp ++ [AO.loop .ready none s.tm ps.toList assign body]).length := by simp
          have hmid : m' s.hp.length = some ⟨l, 0, 0⟩ := by rw [hm' _ hlt0, mput_self]
          have hle2 := MM_le_of (m := mput m s.hp.length ⟨l, 0, 0⟩) (m' := m') (n := (s.hp ++ [AO.loop .ready none s.tm ps.toList assign body]).length) (fun i hi => hcap1 i hi) hm'
          have key : ∀ st pend tm' ps' a' b', hget h s.hp.length = .loop st pend tm' ps' a' b' → st ≠ .busy → ∃ w4, (Instr.endLoop l).run P w' = .ok pend w4 ∧
              StR B F X.base m0 S0 { s with hp := hset h s.hp.length .dead } { a with defers := mark ++ a.defers } w4 := by
            intro st pend tm' ps' a' b' hg hst
            obtain ⟨loc, lp, q1, q2, q3, q4, q5, q6, q7, q8, q9⟩ := loop_turn (WR.unbase hW1 hw') hg (hk1.step hw')
            rw [hmid] at q1; cases q1
            obtain ⟨_, _, r3, r4⟩ := q9 .exhausted pend
            refine ⟨_, ?_, m', S', LR_renew ht hs' (MM.le_trans hle1 hle2), r3, SS.le_trans hS hs', fun i hi => ?_, fun i hi => hcap' i (by simpa [hset_length] using hi), by simp only [hset_length]; simp at hlen'; omega, r4⟩
            · have hb : (lp.state == .busy) = false := by rw [q3]; cases st <;> first | rfl | exact absurd rfl hst
              have hb' : lp.state ≠ .busy := fun hh => hst (by rw [← q3, hh])
              subst q4
              simp [Instr.endLoop, run_getLoop q2, hb', run_setLoop q2]
            · rw [hm' i (by simp; omega), mput_ne m _ _ (by omega)]; exact hm i hi
          simp only [rangePost]
          split at he
          · cases he
          · rename_i st _ _ _ _ hnb hg
            obtain ⟨w4, k1, k2⟩ := key _ _ _ _ _ _ hg (fun hh => hnb hh)
            simp only [Option.some.injEq, Prod.mk.injEq] at he
            obtain ⟨rfl, rfl⟩ := he
            exact ⟨none, w4, k1, hQ _ _ k2⟩
          · rename_i st _ _ _ _ hnb hg
            obtain ⟨w4, k1, k2⟩ := key _ _ _ _ _ _ hg (fun hh => hnb hh)
            simp only [Option.some.injEq, Prod.mk.injEq] at he
            obtain ⟨rfl, rfl⟩ := he
            exact ⟨some .ret, w4, k1, wpIn_ret (hQ _ _ k2)⟩
          · rename_i st id _ _ _ _ hnb hg
            obtain ⟨w4, k1, k2⟩ := key _ _ _ _ _ _ hg (fun hh => hnb hh)
            simp only [Option.some.injEq, Prod.mk.injEq] at he
            obtain ⟨rfl, rfl⟩ := he
            exact ⟨some (.exit id), w4, k1, wpIn_exit (hQ _ _ k2)⟩
          · cases he
    · cases he
  · cases he
theorem evalCode_sound {X : Cx} (hE : EnvOK P X.E) (hI : InlOK P X.E X.inl) (hC : ConOK P X.E) {Fc : Fence} {m0 : MM} {S0 : SS} (hF : FcOK X m0 Fc) (hG : GlobOK X.E.glob S0) :
    ∀ (c : Code) {s s' : St} {e : Ex} {a : Act} {w : World} {Q : Exit → Act → World → Prop}, evalCode X c s = some (e, s') → StR B F X.base m0 S0 s a w → (∀ a' w', StR B F X.base m0 S0 s' a' w' → Q (exitOf e) a' w') → c.wpIn Fc 0 P Q a w
  | .skip, s, s', e, a, w, Q, he, hst, hQ => by
    simp only [evalCode_skip, evalCode_label, evalCode_exit, evalCode_ret, evalCode_goto, evalCode_refuse, evalCode_scope, evalCode_seq, evalCode_cond, evalCode_block, evalCode_loop, evalCode_region, evalCode_range, Option.some.injEq, Prod.mk.injEq] at he
    obtain ⟨rfl, rfl⟩ := he
    exact wpIn_skip (hQ _ _ hst)
  | .label _, s, s', e, a, w, Q, he, hst, hQ => by
    simp only [evalCode_skip, evalCode_label, evalCode_exit, evalCode_ret, evalCode_goto, evalCode_refuse, evalCode_scope, evalCode_seq, evalCode_cond, evalCode_block, evalCode_loop, evalCode_region, evalCode_range, Option.some.injEq, Prod.mk.injEq] at he
    obtain ⟨rfl, rfl⟩ := he
    exact wpIn_label (hQ _ _ hst)
  | .exit id, s, s', e, a, w, Q, he, hst, hQ => by
    simp only [evalCode_skip, evalCode_label, evalCode_exit, evalCode_ret, evalCode_goto, evalCode_refuse, evalCode_scope, evalCode_seq, evalCode_cond, evalCode_block, evalCode_loop, evalCode_region, evalCode_range, Option.some.injEq, Prod.mk.injEq] at he
    obtain ⟨rfl, rfl⟩ := he
    exact wpIn_exit (hQ _ _ hst)
  | .ret, s, s', e, a, w, Q, he, hst, hQ => by
    simp only [evalCode_skip, evalCode_label, evalCode_exit, evalCode_ret, evalCode_goto, evalCode_refuse, evalCode_scope, evalCode_seq, evalCode_cond, evalCode_block, evalCode_loop, evalCode_region, evalCode_range, Option.some.injEq, Prod.mk.injEq] at he
    obtain ⟨rfl, rfl⟩ := he
    exact wpIn_ret (hQ _ _ hst)
  | .seq x y, s, s', e, a, w, Q, he, hst, hQ => by
    simp only [evalCode_skip, evalCode_label, evalCode_exit, evalCode_ret, evalCode_goto, evalCode_refuse, evalCode_scope, evalCode_seq, evalCode_cond, evalCode_block, evalCode_loop, evalCode_region, evalCode_range] at he
    split at he
    · rename_i s1 h1
      refine wpIn_seq (evalCode_sound hE hI hC hF hG x h1 hst fun a' w' hst' => ?_)
      exact evalCode_sound hE hI hC hF hG y he hst' hQ
    · rename_i r hne
      refine wpIn_seq (evalCode_sound hE hI hC hF hG x he hst fun a' w' hst' => ?_)
      cases e with
      | normal => exact absurd he (hne _)
      | exit id => exact hQ _ _ hst'
      | ret => exact hQ _ _ hst'
  | .cond c x y, s, s', e, a, w, Q, he, hst, hQ => by
    simp only [evalCode_skip, evalCode_label, evalCode_exit, evalCode_ret, evalCode_goto, evalCode_refuse, evalCode_scope, evalCode_seq, evalCode_cond, evalCode_block, evalCode_loop, evalCode_region, evalCode_range] at he
    split at he
    · rename_i t hc
      obtain ⟨m, S, ht, hW, hS, hrest⟩ := hst
      have hv := evalO_sound (hG.mono hS) ht c
      rw [hc] at hv; simp only [VR] at hv
      have hst : StR B F X.base m0 S0 s a w := ⟨m, S, ht, hW, hS, hrest⟩
      cases t with
      | true => exact wpIn_cond_true hv (evalCode_sound hE hI hC hF hG x he hst hQ)
      | false => exact wpIn_cond_false hv (evalCode_sound hE hI hC hF hG y he hst hQ)
    · cases he
  | .block id c, s, s', e, a, w, Q, he, hst, hQ => by
    simp only [evalCode_skip, evalCode_label, evalCode_exit, evalCode_ret, evalCode_goto, evalCode_refuse, evalCode_scope, evalCode_seq, evalCode_cond, evalCode_block, evalCode_loop, evalCode_region, evalCode_range] at he
    split at he
    · rename_i i s1 h1
      refine wpIn_block (evalCode_sound hE hI hC hF hG c h1 hst fun a' w' hst' => ?_)
      simp only [exitOf, Exit.inBlock]
      split at he
      · rename_i hi
        have := Nat.eq_of_beq_eq_true hi
        simp only [Option.some.injEq, Prod.mk.injEq] at he
        obtain ⟨rfl, rfl⟩ := he
        simp only [this, if_true]; exact hQ _ _ hst'
      · rename_i hi
        have : i ≠ id := fun h => hi (by rw [h]; exact Nat.beq_refl id)
        simp only [Option.some.injEq, Prod.mk.injEq] at he
        obtain ⟨rfl, rfl⟩ := he
        simp only [this, if_false]; exact hQ _ _ hst'
    · rename_i r hne
      refine wpIn_block (evalCode_sound hE hI hC hF hG c he hst fun a' w' hst' => ?_)
      cases e with
      | normal => exact hQ _ _ hst'
      | exit id => exact absurd he (hne _ _)
      | ret => exact hQ _ _ hst'
  | .loop c, s, s', e, a, w, Q, he, hst, hQ => by
    simp only [evalCode_skip, evalCode_label, evalCode_exit, evalCode_ret, evalCode_goto, evalCode_refuse, evalCode_scope, evalCode_seq, evalCode_cond, evalCode_block, evalCode_loop, evalCode_region, evalCode_range] at he
    generalize htd : tdOf X.base (X.E.live X.fn (firstReg c)) = td at he
    have htds : ∀ s a w, StR B F X.base m0 S0 s a w → StR B F X.base m0 S0 (td s) a w := by
      intro s a w hst
      subst htd
      unfold tdOf
      split
      · rename_i l _
        obtain ⟨m, S, ht, hW, hS, hm, hc, hbl, hk⟩ := hst
        obtain ⟨m', k1, k2, k3, k4, k5⟩ := tidy_sound hW.rebase hbl (live := l) ht
        exact ⟨m', S, k2, WR.unbase hW k1, hS, fun i hi => by rw [k5 i hi]; exact hm i hi, k3, k4, hk.step k1⟩
      · exact hst
    refine wpIn_loop_fuel (fun j a w => ∃ s, iter (evalCode X c) td j s = some (e, s') ∧ StR B F X.base m0 S0 s a w) X.k ⟨td s, he, htds _ _ _ hst⟩ ?_
    rintro j a w ⟨s, hj, hst⟩
    cases j with
    | zero => simp [iter_zero, iter_succ] at hj
    | succ j =>
      simp only [iter_zero, iter_succ] at hj
      split at hj
      · cases hj
      · rename_i s1 h1
        refine evalCode_sound hE hI hC hF hG c h1 hst fun a' w' hst' => ?_
        exact ⟨j, Nat.lt_succ_self j, td s1, hj, htds _ _ _ hst'⟩
      · rename_i e1 s1 hne h1
        simp only [Option.some.injEq, Prod.mk.injEq] at hj
        obtain ⟨rfl, rfl⟩ := hj
        refine evalCode_sound hE hI hC hF hG c h1 hst fun a' w' hst' => ?_
        cases e1 with
        | normal => exact absurd rfl (hne)
        | exit id => exact hQ _ _ hst'
        | ret => exact hQ _ _ hst'
  | .scope _, s, s', e, a, w, Q, he, _, _ => by simp [evalCode_goto, evalCode_refuse, evalCode_scope] at he
  | .region id ops draw, s, s', e, a, w, Q, he, hst, hQ => by
    simp only [evalCode_skip, evalCode_label, evalCode_exit, evalCode_ret, evalCode_goto, evalCode_refuse, evalCode_scope, evalCode_seq, evalCode_cond, evalCode_block, evalCode_loop, evalCode_region, evalCode_range] at he
    cases draw with
    | true =>
      simp only [if_true] at he
      split at he
      · rename_i s1 h1
        simp only [Option.some.injEq, Prod.mk.injEq] at he
        obtain ⟨rfl, rfl⟩ := he
        exact runDraw_sound hE hI hC hF.or hG h1 hst fun a' w' hst' _ => hQ _ _ hst'
      · cases he
    | false =>
      simp only [Bool.false_eq_true, if_false] at he
      split at he
      · rename_i s1 h1
        simp only [Option.some.injEq, Prod.mk.injEq] at he
        obtain ⟨rfl, rfl⟩ := he
        exact runReg_sound hE hI hC hF.or hG h1 hst fun a' w' hst' _ => hQ _ _ hst'
      · cases he
  | .rangeFunc f ps assign body, s, s', e, a, w, Q, he, hst, hQ => range_sound hI hF hG he hst hQ
  | .goto _, s, s', e, a, w, Q, he, _, _ => by simp [evalCode_goto, evalCode_refuse, evalCode_scope] at he
  | .refuse _, s, s', e, a, w, Q, he, _, _ => by simp [evalCode_goto, evalCode_refuse, evalCode_scope] at he
end Go.Abs
end

section
namespace Go.Abs
variable {P : Program} {B : Base} {m : MM} {S : SS} {F : FF} {H : Heap} {w : World}
theorem take_sound (hW : WR B m S F H w) {r : Nat} (h0 : B.w0.heap.size ≤ r) (h2 : w.heap[r]? = some (.deferred (some []))) (h3 : ¬ mutBlk m H r) :
    ∃ w', (Instr.takeDeferred r).run P w = .ok [] w' ∧ WR B m S F H w' ∧ ∀ x, x ≠ r → w'.heap[x]? = w.heap[x]? := by
  have hlt := lt_of_get h2
  have hne : ∀ x, x ≠ r → ({ w with heap := w.heap.setIfInBounds r (.deferred none) } : World).heap[x]? = w.heap[x]? := fun x hx => by simp [Array.getElem?_setIfInBounds, Ne.symm hx]
  refine ⟨{ w with heap := w.heap.setIfInBounds r (.deferred none) }, ?_, ?_, hne⟩
  · simp [Instr.takeDeferred, getObj, setObj, Sem.run, h2]
  · exact {
      obj := fun i => OR.mono (MM.le_refl _) (SS.le_refl _) (hW.obj i) (fun l hmo hml => hne _ (fun he => h3 ⟨i, l, hmo, hml, he⟩))
      inj := hW.inj
      stab := fun b c hb => by
        obtain ⟨e, fr, hx⟩ := hW.stab b c hb
        have : b ≠ r := fun he => by subst he; rw [h2] at hx; cases hx
        exact ⟨e, fr, by rw [hne b this]; exact hx⟩
      apart := hW.apart
      size := by simpa using hW.size
      keep := fun b hb hD => by rw [hne b (by omega)]; exact hW.keep b hb hD
      own := hW.own
      fresh := hW.fresh
      os := hW.os
      output := hW.output
      tape := hW.tape }
theorem leaves_sound {fn : Func} {tmps : Array Value} {R : Ending → World → Prop} : ∀ (ds : List Deferred) (w : World), WR B m S F H w → MK B.w0.heap.size m H ds w →
    (∀ w', WR B m S F H w' → LeavesIn Fence.wide 0 P fn tmps R [] .returning w') → LeavesInM Fence.wide 0 P fn tmps R ds .returning w
  | [], w, hW, _, hR => hR w hW
  | d :: ds, w, hW, hk, hR => by
    obtain ⟨r, rfl, h0, h2, h3⟩ := hk.1 d (by simp)
    obtain ⟨w', hrun, hW', hne⟩ := take_sound (P := P) hW h0 h2 h3
    refine ⟨by simp, .inl ⟨r, w', rfl, hrun, leaves_sound ds w' hW' ⟨fun d' hd' => ?_, (List.nodup_cons.mp hk.2).2⟩ hR⟩⟩
    obtain ⟨r', k1, k0, k2, k3⟩ := hk.1 d' (by simp [hd'])
    have : r' ≠ r := fun he => (List.nodup_cons.mp hk.2).1 (by rw [← he, ← k1]; exact hd')
    exact ⟨r', k1, k0, by rw [hne r' this]; exact k2, k3⟩
theorem results1_sound {E : Env} (hT : TTok P E.T) (hW : WR B m S F H w) {tm : List AV} {tmps : Array Value} (ht : LR S tm m F tmps.toList) {g : ResultVar → Sem Value} (g1 : ∀ t, g (.tmp t) = pure (tmps.getD t undef)) (g2 : ∀ a t, g (.cell a t) = (do loadVar t (← asAddr (tmps.getD a undef)))) : ∀ (l : List ResultVar) {ys : List AV}, results1 E tm H l = some ys →
    ∃ vs, (l.mapM g).run P w = .ok vs w ∧ LR S ys m F vs
  | [], ys, h => by
    simp only [results1, Option.some.injEq] at h
    subst h
    exact ⟨[], rfl, by simp [LR]⟩
  | .tmp t :: l, ys, h => by
    simp only [results1, Option.map_eq_some_iff] at h
    obtain ⟨ys', h', rfl⟩ := h
    obtain ⟨vs, hr, hl⟩ := results1_sound hT hW ht g1 g2 l h'
    have hv := evalO_sound (glob := fun _ => none) (fun _ _ _ h => by cases h) (a := { tmps := tmps, defers := [] }) ht (.tmp t)
    simp only [evalO, Act.eval] at hv
    refine ⟨tmps.getD t undef :: vs, by simp only [List.mapM_cons, g1, Sem.run_bind, Sem.run_pure, Result.andThen_ok, hr], by simp only [LR]; exact ⟨_, _, rfl, hv, hl⟩⟩
  | .cell a t :: l, ys, h => by
    simp only [results1] at h
    split at h
    · rename_i d hd
      split at h
      · rename_i v hld
        simp only [Option.map_eq_some_iff] at h
        obtain ⟨ys', h', rfl⟩ := h
        obtain ⟨vs, hr, hl⟩ := results1_sound hT hW ht g1 g2 l h'
        have hv := evalO_sound (glob := fun _ => none) (fun _ _ _ h => by cases h) (a := { tmps := tmps, defers := [] }) ht (.tmp a)
        simp only [evalO, Act.eval] at hv
        obtain ⟨u, h1, h2, _⟩ := load_sound (P := P) hW (hT t d hd) hv hld
        have hu : (do loadVar t (← asAddr (tmps.getD a undef)) : Sem Value).run P w = .ok u w := by
          generalize tmps.getD a undef = x at *
          cases x <;> simp only [Instr.loadAt, Instr.sureAddr, asAddr] at h1 ⊢
          all_goals first
            | (simp at h1; done)
            | (rename_i o; cases o <;> simp_all)
        have hu' := hu
        simp only [Sem.run_bind] at hu'
        refine ⟨u :: vs, by simp only [List.mapM_cons, g2, Sem.run_bind, hu', Result.andThen_ok, hr, Sem.run_pure], by simp only [LR]; exact ⟨_, _, rfl, h2, hl⟩⟩
      · cases h
    · cases h
theorem results_sound {E : Env} (hT : TTok P E.T) (hW : WR B m S F H w) {tm : List AV} {tmps : Array Value} (ht : LR S tm m F tmps.toList) {fn : Func} {y : AV} (h : resultsAV E fn tm H = some y) :
    ∃ u, (results fn tmps).run P w = .ok u w ∧ VR S y m F u := by
  simp only [resultsAV, Option.map_eq_some_iff] at h
  obtain ⟨ys, h1, rfl⟩ := h
  have e1 : fn.results.toList.toArray = fn.results := Array.toArray_toList
  obtain ⟨g, g1, g2, g3⟩ : ∃ g : ResultVar → Sem Value, (∀ t, g (.tmp t) = pure (tmps.getD t undef)) ∧ (∀ a t, g (.cell a t) = (do loadVar t (← asAddr (tmps.getD a undef)))) ∧
      results fn tmps = (do let vs ← fn.results.mapM g; pure (if h : vs.size = 1 then vs[0] else .tuple vs)) := ⟨_, fun _ => rfl, fun _ _ => rfl, rfl⟩
  obtain ⟨vs, hr, hl⟩ := results1_sound hT hW ht g1 g2 _ h1
  have hlen := LR_length hl
  rw [g3, ← e1, List.mapM_toArray]
  simp only [Sem.run_bind, Sem.run_map, hr, Result.andThen_ok, Sem.run_pure]
  refine ⟨_, rfl, ?_⟩
  cases ys with
  | nil =>
    simp only [LR] at hl; subst hl
    simp only [VR]; exact ⟨#[], by simp, by simp [LR]⟩
  | cons y ys =>
    cases ys with
    | nil =>
      simp only [LR] at hl
      obtain ⟨v, vs', rfl, hv, rfl⟩ := hl
      simpa using hv
    | cons y' ys =>
      have : vs.toArray.size ≠ 1 := by simp [hlen]
      simp only [VR]
      exact ⟨vs.toArray, by simp [hlen], by simpa using hl⟩
theorem LR_tops : ∀ (n : Nat) {vs : List Value}, vs.length = n → LR S (List.replicate n .top) m F vs
  | 0, vs, h => by have : vs = [] := by simpa using h
                   subst this; simp [LR]
  | n + 1, [], h => by simp at h
  | n + 1, v :: vs, h => by
    simp only [List.replicate_succ, LR]
    exact ⟨v, vs, rfl, by simp only [VR], LR_tops n (by simpa using h)⟩
theorem evalFn_sound {E : Env} (hE : EnvOK P E) (hC : ConOK P E) {inl : Inl} (hI : InlOK P E inl) {k : Nat} {f : FuncId} {fn : Func} (hfn : P.funcs[f]? = some fn) {args : List AV} {y : AV} {H' : Heap} (he : evalFn E k inl f fn args H = some (y, H'))
    {vs : Array Value} (hG : GlobOK E.glob S) (hW : WR B m S F H w) (hc : Cap m H) (ha : LR S args m F vs.toList) : CallsIn Fence.wide 0 P f vs w (CallRes B F m S H.length y H') := by
  unfold evalFn at he
  split at he
  · cases he
  · rename_i c hb
    refine callsIn_of_wp_marks hfn hb trivial ?_
    have hlen := LR_length ha
    simp only [Array.length_toList] at hlen
    have ht0 : LR S (args ++ List.replicate (fn.ntmps - args.length) .top) m F (vs ++ Array.replicate (fn.ntmps - vs.size) undef).toList := by
      simp only [Array.toList_append, Array.toList_replicate]
      exact LR_append ha (LR_tops _ (by simp [hlen]))
    have hst0 : StR B F H.length m S { tm := args ++ List.replicate (fn.ntmps - args.length) .top, hp := H } { tmps := vs ++ Array.replicate (fn.ntmps - vs.size) undef, defers := [] } w :=
      ⟨m, S, ht0, hW, SS.le_refl _, fun _ _ => rfl, hc, Nat.le_refl _, MK.nil⟩
    have key : ∀ e s, evalCode { E, fn := f, base := H.length, k, inl, round := none } c { tm := args ++ List.replicate (fn.ntmps - args.length) .top, hp := H } = some (e, s) →
        (match resultsAV E fn s.tm s.hp with | some v => some (tidyV H.length v s.hp) | none => none) = some (y, H') → (e = .normal ∨ e = .ret) →
        c.wpIn Fence.wide 0 P (bodyPostM Fence.wide 0 P fn (CallRes B F m S H.length y H')) { tmps := vs ++ Array.replicate (fn.ntmps - vs.size) undef, defers := [] } w := by
      intro e s hev hres hee
      refine evalCode_sound (X := { E, fn := f, base := H.length, k, inl, round := none }) (m0 := m) (S0 := S) hE hI hC (by simp [FcOK]) hG c hev hst0 fun a' w' hst => ?_
      have hl : LeavesInM Fence.wide 0 P fn a'.tmps (CallRes B F m S H.length y H') a'.defers .returning w' := by
        obtain ⟨m', S', ht, hW', hS, hm, hc', hbl, hk⟩ := hst
        refine leaves_sound a'.defers w' hW' hk fun w2 hW2 => ?_
        split at hres
        · rename_i v hv
          simp only [Option.some.injEq] at hres
          obtain ⟨u, hru, hvu⟩ := results_sound hE.T hW2 ht hv
          obtain ⟨m2, k1, k2, k3, k4, k5⟩ := tidyV_sound hW2 hbl hvu
          rw [hres] at k1 k2 k3 k4
          exact ⟨u, hru, u, m2, S', rfl, k2, k1, hS, fun i hi => by rw [k5 i hi]; exact hm i hi, k3, k4⟩
        · cases hres
      rcases hee with rfl | rfl <;> exact hl
    split at he
    · rename_i s hev
      exact key _ s hev he (.inl rfl)
    · rename_i s hev
      exact key _ s hev he (.inr rfl)
    · cases he
end Go.Abs
end

section
namespace Go.Abs
variable {P : Program} {B : Base} {m : MM} {S : SS} {F : FF} {H : Heap} {w : World}
theorem setParams_sound : ∀ (ps : List Nat) (args : List AV) (tm tm1 : List AV) (tmps : Array Value) (vs : List Value), setParams tm ps args = some tm1 → LR S tm m F tmps.toList → LR S args m F vs →
    ps.length = vs.length ∧ LR S tm1 m F (((ps.zip vs).foldl (fun (t : Array Value) (q : Nat × Value) => t.setIfInBounds q.1 q.2) tmps).toList)
  | [], [], tm, tm1, tmps, vs, h, ht, ha => by
    simp only [setParams, Option.some.injEq] at h
    subst h
    simp only [LR] at ha
    subst ha
    exact ⟨rfl, by simpa using ht⟩
  | [], _ :: _, _, _, _, _, h, _, _ => by simp [setParams] at h
  | _ :: _, [], _, _, _, _, h, _, _ => by simp [setParams] at h
  | p :: ps, x :: xs, tm, tm1, tmps, vs, h, ht, ha => by
    simp only [setParams] at h
    simp only [LR] at ha
    obtain ⟨v, vs', rfl, hv, ha⟩ := ha
    have ht' : LR S (tset tm p x) m F (tmps.setIfInBounds p v).toList := by
      rw [tset_eq, Array.toList_setIfInBounds]; exact LR_set p ht hv
    obtain ⟨h1, h2⟩ := setParams_sound ps xs _ _ _ _ h ht' ha
    exact ⟨by simp [h1], by simpa using h2⟩
theorem round_sound {E : Env} (hE : EnvOK P E) (hC : ConOK P E) {inl : Inl} (hI : InlOK P E inl) {k l : Nat} {args : List AV} {y : AV} {H' : Heap} {tm tm1 : List AV} {ps : List Nat} {assign body : Code} {s s2 : St} {p : Option Code} {tm' : List AV} {ps' : List Nat} {a' b' : Code} {e : Ex} {h' : Heap}
    (h1 : hget H l = .loop .ready none tm ps assign body) (h2 : setParams tm ps args = some tm1) (h3 : evalCode { E, fn := 1000000, base := H.length, k, inl, round := some l } assign { tm := tm1, hp := H } = some (.normal, s))
    (h4 : hget s.hp l = .loop .ready p tm' ps' a' b') (h5 : evalCode { E, fn := 1000000, base := H.length, k, inl, round := some l } body { s with hp := hset s.hp l (.loop .busy p tm' ps' a' b') } = some (e, s2))
    (h6 : setLoop s2.hp l (jumpOf e) = some h') (h7 : tidyV H.length (.bool (jumpOf e).isNone) h' = (y, H'))
    {vs : Array Value} (hG : GlobOK E.glob S) (hW : WR B m S F H w) (hc : Cap m H) (ha : LR S args m F vs.toList) {loc : Loc} (hml : m l = some loc) :
    ∃ f tmps assign body w1, (Instr.yield loc.b vs).run P w = .ok (.round loc.b f tmps assign body) w1 ∧ RoundIn Fence.wide 0 P loc.b f tmps assign body w1 (CallRes B F m S H.length y H') := by
  have ho := hW.obj l
  rw [h1] at ho
  obtain ⟨loc', lp, k1, k2, k3, k4, k5, k6, k7, k8⟩ := ho
  rw [hml] at k1; cases k1
  have hlt : l < H.length := hget_lt (fun hd => by rw [h1] at hd; cases hd)
  obtain ⟨q1, q2⟩ := setParams_sound ps args tm tm1 lp.tmps vs.toList h2 k5 ha
  subst k6 k7 k8
  have hsize : vs.size = lp.params.size := by simpa using q1.symm
  refine ⟨lp.fn, (lp.params.zip vs).foldl (fun tmps (t, a) => tmps.setIfInBounds t a) lp.tmps, lp.assign, lp.body, w, ?_, ?_⟩
  · simp [Instr.yield, run_getLoop k2, hsize]
  · have ht1 : LR S tm1 m F ((lp.params.zip vs).foldl (fun tmps (t, a) => tmps.setIfInBounds t a) lp.tmps).toList := by
      rw [← Array.foldl_toList, Array.toList_zip]
      exact q2
    have hFc : FcOK { E, fn := 1000000, base := H.length, k, inl, round := some l } m (Fence.wide.inRound loc.b) := ⟨hlt, loc, hml, rfl⟩
    refine roundIn_of_wpIn (F := Fence.wide) trivial ?_
    refine evalCode_sound (X := { E, fn := 1000000, base := H.length, k, inl, round := some l }) (m0 := m) (S0 := S) hE hI hC hFc hG lp.assign h3 ⟨m, S, ht1, hW, SS.le_refl _, fun _ _ => rfl, hc, Nat.le_refl _, MK.nil⟩ fun a1 w1 hst => ?_
    obtain ⟨m1, S1, t1, W1, e1, e2, e3, e4, e5⟩ := hst
    obtain ⟨loc1, lp1, r1, r2, r3, r4, r5, r6, r7, r8, r9⟩ := loop_turn W1 h4 e5
    have : loc1 = loc := by have := e2 l hlt; rw [r1, hml] at this; exact Option.some.inj this
    subst this
    obtain ⟨W2, K2, _, _⟩ := r9 .busy p
    refine ⟨{ w1 with heap := w1.heap.setIfInBounds loc1.b (.loop { lp1 with state := .busy, pending := p }) }, ?_, ?_⟩
    · subst r4
      simp [Instr.beginRound, run_getLoop r2, run_setLoop r2, r3]
    · refine evalCode_sound (X := { E, fn := 1000000, base := H.length, k, inl, round := some l }) (m0 := m) (S0 := S) hE hI hC hFc hG lp.body h5 ⟨m1, S1, t1, W2, e1, e2, fun i hi => e3 i (by simpa [hset_length] using hi), by simp only [hset_length]; exact e4, K2⟩ fun a2 w2 hst => ?_
      obtain ⟨m2, S2, t2, V2, f1, f2, f3, f4, f5⟩ := hst
      unfold setLoop at h6
      split at h6
      · rename_i st pend tm2 ps2 a2' b2' hg2
        simp only [Option.some.injEq] at h6
        obtain ⟨loc2, lp2, g1, g2, g3, g4, g5, g6, g7, g8, g9⟩ := loop_turn V2 hg2 f5
        have : loc2 = loc1 := by have := f2 l hlt; rw [g1, hml] at this; exact Option.some.inj this
        subst this
        obtain ⟨V3, _, _, _⟩ := g9 (if (jumpOf e).isNone then .ready else .done) (jumpOf e)
        rw [h6] at V3
        have hl3 : H.length ≤ h'.length := by rw [← h6, hset_length]; exact f4
        have hvb : VR S2 (.bool (jumpOf e).isNone) m2 F (.bool (jumpOf e).isNone) := by simp only [VR]
        obtain ⟨m4, u1, u2, u3, u4, u5⟩ := tidyV_sound V3 hl3 hvb
        rw [h7] at u1 u2 u3 u4
        have hend : (Instr.endRound loc2.b (jumpOf e)).run P w2 = .ok (.bool (jumpOf e).isNone) { w2 with heap := w2.heap.setIfInBounds loc2.b (.loop { lp2 with state := if (jumpOf e).isNone then .ready else .done, pending := jumpOf e }) } := by
          simp [Instr.endRound, run_getLoop g2, run_setLoop g2]
        have hfin : CallRes B F m S H.length y H' (.returned (.bool (jumpOf e).isNone)) { w2 with heap := w2.heap.setIfInBounds loc2.b (.loop { lp2 with state := if (jumpOf e).isNone then .ready else .done, pending := jumpOf e }) } :=
          ⟨_, m4, S2, rfl, u2, u1, f1, fun i hi => by rw [u5 i hi]; exact f2 i hi, u3, u4⟩
        cases e with
        | normal => exact ⟨_, _, hend, hfin⟩
        | ret => exact ⟨_, _, hend, hfin⟩
        | exit id => exact ⟨_, _, hend, hfin⟩
      · cases h6
def FnsOK (P : Program) (E : Env) : Prop := ∀ f fn, E.fns f = some fn → P.funcs[f]? = some fn ∧ fn.body.isNone = false ∧ (fn.name == "runtime.NumGoroutine") = false
theorem evalN_sound {E : Env} (hE : EnvOK P E) (hC : ConOK P E) (hN : FnsOK P E) (k : Nat) : ∀ n, InlOK P E (evalN E k n)
  | 0 => fun c args h y h' he => by simp [evalN] at he
  | n + 1 => fun c args h y h' he => by
    have hI := evalN_sound hE hC hN k n
    intro B m S F w vs hG hW hc ha
    cases c with
    | fn f =>
      simp only [evalN] at he
      split at he
      · rename_i fn hfn
        obtain ⟨h1, h2, h3⟩ := hN f fn hfn
        exact ⟨⟨fn, h1, h2, h3⟩, evalFn_sound hE hC hI h1 he hG hW hc ha⟩
      · cases he
    | yield l =>
      intro loc hml
      simp only [evalN] at he
      split at he
      · rename_i tm ps assign body h1
        split at he
        · cases he
        · rename_i tm1 h2
          split at he
          · rename_i s h3
            split at he
            · rename_i p tm' ps' a' b' h4
              split at he
              · rename_i e s2 h5
                split at he
                · rename_i hh h6
                  simp only [Option.some.injEq] at he
                  exact round_sound hE hC hI h1 h2 h3 h4 h5 h6 he hG hW hc ha hml
                · cases he
              · cases he
            · cases he
          · cases he
      · cases he
end Go.Abs
end

section
namespace Go.Abs
variable {P : Program}
/-! ### the table of types, read off the program -/
def zRow (cs : List Value) : Option Row :=
  match intsOf cs with
  | some (k, z) => some (if z.all (fun n => n == 0) then .ints k z.length (List.replicate z.length 0) else .ints k z.length z)
  | none => match scalarsOf cs with
    | some l => some (.vals l)
    | none => none
theorem all_zero : ∀ {z : List Int}, z.all (fun n => n == 0) = true → z = List.replicate z.length 0
  | [], _ => rfl
  | x :: z, h => by
    simp only [List.all_cons, Bool.and_eq_true] at h
    have := all_zero h.2
    simp only [List.length_cons, List.replicate_succ]
    rw [eq_of_beq h.1, ← this]
theorem zRow_sound {cs : List Value} {r : Row} (h : zRow cs = some r) (S : SS) : RR S r noM noF cs := by
  unfold zRow at h
  split at h
  · rename_i k z hz
    simp only [Option.some.injEq] at h; subst h
    have := intsOf_sound hz
    subst this
    split
    · rename_i ha
      simp only [RR]
      refine ⟨by simp, ?_⟩
      rw [← all_zero ha]
    · simp only [RR]; exact ⟨trivial, trivial⟩
  · split at h
    · rename_i l hl
      simp only [Option.some.injEq] at h; subst h
      simp only [RR]; exact scalarsOf_sound hl
    · cases h
def fieldsOf (P : Program) : List Field → Option (List (Nat × Nat × Nat))
  | [] => some []
  | f :: l => match P.info? f.type, fieldsOf P l with
    | some i, some r => some ((f.offset, i.size, f.type) :: r)
    | _, _ => none
def tkDesc (P : Program) (u : TypeDesc) : TK :=
  match u with
  | .bool => .bool
  | .int k => .int k
  | .string => .str
  | .pointer e => (match P.info? e with | some _ => .ptr e | none => .other)
  | .unsafePointer => .uptr
  | .slice e => .slice e
  | .array n e => .array n e
  | .struct fs => (match fieldsOf P fs.toList with | some l => .struct l | none => .other)
  | .map k e => .map k e
  | .func .. => .func
  | .interface _ => .iface
  | .tuple _ => .tuple
  | _ => .other
def tkOf (P : Program) (t : TypeId) : TK :=
  match P.underlying t with
  | some u => tkDesc P u
  | none => .other
def isOther : TK → Bool
  | .other => true
  | _ => false
def isAggV : Value → Bool
  | .agg _ => true
  | _ => false
def typeD (P : Program) (t : TypeId) : Option TD :=
  match P.info? t with
  | none => none
  | some i => match i.zero with
    | none => none
    | some z => match zRow z.cells.toList with
      | none => none
      | some r =>
        let k := tkOf P t
        if Nat.beq r.len i.size && !isOther k && (k.isAgg == isAggV z) && (isAggV z || z.oneCell') then some ⟨isAggV z, i.size, i.bytes, r, k⟩ else none
theorem fieldsOf_sound : ∀ {l : List Field} {fs : List (Nat × Nat × Nat)}, fieldsOf P l = some fs → l.map (fun f => (f.offset, (P.info? f.type).map (·.size), f.type)) = fs.map fun f => (f.1, some f.2.1, f.2.2)
  | [], _, h => by simp only [fieldsOf, Option.some.injEq] at h; subst h; rfl
  | f :: l, _, h => by
    simp only [fieldsOf] at h
    split at h
    · rename_i i r hi hr
      simp only [Option.some.injEq] at h; subst h
      simp [hi, fieldsOf_sound hr]
    · cases h
theorem tkOf_sound {t : TypeId} (h : isOther (tkOf P t) = false) : TKok P t (tkOf P t) := by
  cases hu : P.underlying t with
  | none => unfold tkOf at h; rw [hu] at h; cases h
  | some u =>
    have hk : tkOf P t = tkDesc P u := by unfold tkOf; rw [hu]
    rw [hk] at h ⊢
    cases u with
    | pointer e =>
      simp only [tkDesc] at h ⊢
      cases hi : P.info? e with
      | none => rw [hi] at h; simp only [isOther] at h; cases h
      | some i => simp only [TKok]; exact ⟨hu, i, hi⟩
    | struct fs =>
      simp only [tkDesc] at h ⊢
      cases hl : fieldsOf P fs.toList with
      | none => rw [hl] at h; simp only [isOther] at h; cases h
      | some l => simp only [TKok]; exact ⟨_, hu, fieldsOf_sound hl⟩
    | _ =>
      simp only [tkDesc] at h ⊢
      first
        | (simp only [isOther] at h; cases h; done)
        | (simp only [TKok]; first | exact hu | exact ⟨_, hu⟩ | exact ⟨_, _, _, hu⟩)
theorem typeD_sound {t : TypeId} {d : TD} (h : typeD P t = some d) : TDok P t d := by
  unfold typeD at h
  split at h
  · cases h
  · rename_i i hi
    split at h
    · cases h
    · rename_i z hz
      split at h
      · cases h
      · rename_i r hr
        simp only at h
        split at h
        · rename_i hc
          simp only [Option.some.injEq] at h; subst h
          simp only [Bool.and_eq_true, Bool.not_eq_true', Bool.or_eq_true] at hc
          obtain ⟨⟨⟨h1, h2⟩, h3⟩, h4⟩ := hc
          refine ⟨⟨i, z, hi, rfl, rfl, hz, fun ha => ?_, fun ha => ?_, fun S => zRow_sound hr S⟩, tkOf_sound h2, eq_of_beq h3, Nat.eq_of_beq_eq_true h1⟩
          · cases z <;> simp only [isAggV] at ha <;> first | (cases ha; done) | exact ⟨_, rfl⟩
          · rcases h4 with h4 | h4
            · simp only at ha; rw [h4] at ha; cases ha
            · exact h4
        · cases h
/-! ### trees, by numbers -/
inductive Tr (α : Type) where
  | leaf
  | node (k : Nat) (l r : Tr α) (v : α)
noncomputable def Tr.get {α : Type} (t : Tr α) : Nat → Option α := Tr.rec (motive := fun _ => Nat → Option α) (fun _ => none) (fun k _ _ v gl gr n => Bool.rec (Bool.rec (gr n) (gl n) (Nat.blt n k)) (some v) (Nat.beq n k)) t
def Tr.entries {α : Type} : Tr α → List (Nat × α)
  | .leaf => []
  | .node k l r v => l.entries ++ (k, v) :: r.entries
theorem Tr.get_mem {α : Type} : ∀ {t : Tr α} {n : Nat} {v : α}, t.get n = some v → (n, v) ∈ t.entries
  | .leaf, _, _, h => by cases h
  | .node k l r x, n, v, h => by
    have h : (Bool.rec (Bool.rec (r.get n) (l.get n) (Nat.blt n k)) (some x) (Nat.beq n k) : Option α) = some v := h
    simp only [Tr.entries, List.mem_append, List.mem_cons]
    cases hb : Nat.beq n k with
    | true =>
      rw [hb] at h
      simp only [Option.some.injEq] at h; subst h
      rw [Nat.eq_of_beq_eq_true hb]; simp
    | false =>
      rw [hb] at h
      cases hl : Nat.blt n k with
      | true => rw [hl] at h; exact .inl (Tr.get_mem h)
      | false => rw [hl] at h; exact .inr (.inr (Tr.get_mem h))
def tdsOf (P : Program) : List (Nat × TD) → List (Option TD)
  | [] => []
  | p :: l => typeD P p.1 :: tdsOf P l
def tdsIn : List (Nat × TD) → List (Option TD)
  | [] => []
  | p :: l => some p.2 :: tdsIn l
theorem tdsOf_mem : ∀ {l : List (Nat × TD)}, tdsOf P l = tdsIn l → ∀ p ∈ l, typeD P p.1 = some p.2
  | [], _, p, hp => by simp at hp
  | q :: l, h, p, hp => by
    simp only [tdsOf, tdsIn, List.cons.injEq] at h
    simp only [List.mem_cons] at hp
    rcases hp with rfl | hp
    · exact h.1
    · exact tdsOf_mem h.2 p hp
theorem ttok_of {t : Tr TD} (h : tdsOf P t.entries = tdsIn t.entries) : TTok P t.get := fun i d hd => typeD_sound (tdsOf_mem h (i, d) (Tr.get_mem hd))
end Go.Abs
end
