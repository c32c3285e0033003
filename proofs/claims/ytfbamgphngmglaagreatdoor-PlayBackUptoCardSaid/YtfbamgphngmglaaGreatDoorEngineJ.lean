/- A certified abstract evaluator of the model's code (namespace Go.Abs), one part of it: what it answers holds of every run. Each theorem states its own conditions. -/
import Derived.Test.YtfbamgphngmglaaGreatDoorEngineI
set_option linter.unusedSimpArgs false
set_option linter.unusedVariables false
section
namespace Go.Abs
variable {P : Program} {B : Base} {m : MM} {S : SS} {F : FF} {H : Heap} {w : World}
theorem putF_length {sel : Nat → Bool} {blk : Nat → Nat} : ∀ (fl : List (Option AO)) (k : Nat) (G : Heap), (putF sel blk fl k G).length = G.length
  | [], _, _ => rfl
  | none :: fl, k, G => putF_length fl (k + 1) G
  | some c :: fl, k, G => by
    simp only [putF]; rw [putF_length fl (k + 1)]
    split
    · exact hset_length _ _ _
    · rfl
theorem putF_get0 {sel : Nat → Bool} {blk : Nat → Nat} {id : Nat} : ∀ (fl : List (Option AO)) (k : Nat) (G : Heap), (∀ n c, fl[n]? = some (some c) → blk (k + n) < G.length) →
    (∃ n c, fl[n]? = some (some c) ∧ sel (k + n) = true ∧ blk (k + n) = id ∧ hget (putF sel blk fl k G) id = c) ∨ ((∀ n c, fl[n]? = some (some c) → sel (k + n) = true → blk (k + n) ≠ id) ∧ hget (putF sel blk fl k G) id = hget G id)
  | [], _, _, _ => .inr ⟨fun n c h => by simp at h, rfl⟩
  | none :: fl, k, G, hlt => by
    simp only [putF]
    rcases putF_get0 (sel := sel) (id := id) fl (k + 1) G (fun n c h => by rw [show k + 1 + n = k + (n + 1) by omega]; exact hlt (n + 1) c (by simpa using h)) with ⟨n, c, h1, h2, h3, h4⟩ | ⟨h1, h2⟩
    · exact .inl ⟨n + 1, c, by simpa using h1, by rw [show k + (n + 1) = k + 1 + n by omega]; exact h2, by rw [show k + (n + 1) = k + 1 + n by omega]; exact h3, h4⟩
    · refine .inr ⟨fun n c h hs => ?_, h2⟩
      cases n with
      | zero => simp at h
      | succ n => rw [show k + (n + 1) = k + 1 + n by omega] at hs ⊢; exact h1 n c (by simpa using h) hs
  | some d :: fl, k, G, hlt => by
    simp only [putF]
    have hb := hlt 0 d (by simp)
    simp only [Nat.add_zero] at hb
    have hl : (if sel k = true then hset G (blk k) d else G).length = G.length := by split <;> simp [hset_length]
    rcases putF_get0 (sel := sel) (id := id) fl (k + 1) (if sel k = true then hset G (blk k) d else G) (fun n c h => by rw [hl, show k + 1 + n = k + (n + 1) by omega]; exact hlt (n + 1) c (by simpa using h)) with ⟨n, c, h1, h2, h3, h4⟩ | ⟨h1, h2⟩
    · exact .inl ⟨n + 1, c, by simpa using h1, by rw [show k + (n + 1) = k + 1 + n by omega]; exact h2, by rw [show k + (n + 1) = k + 1 + n by omega]; exact h3, h4⟩
    · by_cases hh : sel k = true ∧ blk k = id
      · obtain ⟨hs, rfl⟩ := hh
        refine .inl ⟨0, d, by simp, by simpa using hs, rfl, ?_⟩
        rw [h2, if_pos hs, hget_hset_self _ _ _ hb]
      · refine .inr ⟨fun n c h hs => ?_, ?_⟩
        · cases n with
          | zero => intro he; exact hh ⟨by simpa using hs, by simpa using he⟩
          | succ n => rw [show k + (n + 1) = k + 1 + n by omega] at hs ⊢; exact h1 n c (by simpa using h) hs
        · rw [h2]
          split
          · rename_i hs
            rw [hget_hset_ne _ _ _ _ (fun he => hh ⟨hs, he.symm⟩)]
          · rfl
theorem putF_get {sel : Nat → Bool} {blk : Nat → Nat} (id : Nat) {fl : List (Option AO)} {G : Heap} (hlt : ∀ n c, fl[n]? = some (some c) → blk n < G.length) :
    (∃ n c, fl[n]? = some (some c) ∧ sel n = true ∧ blk n = id ∧ hget (putF sel blk fl 0 G) id = c) ∨ ((∀ n c, fl[n]? = some (some c) → sel n = true → blk n ≠ id) ∧ hget (putF sel blk fl 0 G) id = hget G id) := by
  have := putF_get0 (sel := sel) (blk := blk) (id := id) fl 0 G (fun n c h => by rw [Nat.zero_add]; exact hlt n c h)
  simpa only [Nat.zero_add] using this
theorem clearF_get {past : Nat} : ∀ (fl : List (Option AO)) (k n : Nat) (c : AO), (clearF past fl k)[n]? = some (some c) ↔ fl[n]? = some (some c) ∧ memB past (k + n) = false
  | [], _, _, _ => by simp [clearF]
  | x :: fl, k, 0, c => by
    cases x with
    | none => simp [clearF]
    | some d => simp only [clearF, List.getElem?_cons_zero, Option.some.injEq, Nat.add_zero]; split <;> simp_all
  | none :: fl, k, n + 1, c => by simp only [clearF, List.getElem?_cons_succ]; rw [clearF_get fl (k + 1) n c, show k + 1 + n = k + (n + 1) by omega]
  | some d :: fl, k, n + 1, c => by simp only [clearF, List.getElem?_cons_succ]; rw [clearF_get fl (k + 1) n c, show k + 1 + n = k + (n + 1) by omega]
theorem hidB_get {blk : Nat → Nat} {G : Heap} {past : Nat} : ∀ {mk : List Nat}, hidB blk G past mk = true → ∀ i ∈ mk, memB past i = false → hget G (blk i) = .dead
  | [], _, i, hi, _ => by simp at hi
  | j :: mk, h, i, hi, hm => by
    simp only [hidB, Bool.and_eq_true, Bool.or_eq_true] at h
    simp only [List.mem_cons] at hi
    rcases hi with rfl | hi
    · rcases h.1 with h' | h'
      · rw [hm] at h'; cases h'
      · cases hg : hget G (blk i) <;> rw [hg] at h' <;> first | rfl | (cases h')
    · exact hidB_get h.2 i hi hm
theorem mem_makersOf {p : PS} : ∀ {l : List PS}, p ∈ l → p.cls = .make → p.i ∈ makersOf l
  | [], h, _ => by simp at h
  | q :: l, h, hc => by
    simp only [List.mem_cons] at h
    simp only [makersOf]
    rcases h with rfl | h
    · rw [hc]; simp
    · have := mem_makersOf h hc
      split
      · exact List.mem_cons_of_mem _ this
      · exact this
theorem fresh_make {E : Env} {op : Op} (h : clsOf E.T op = .make) : freshOf E op = 1 := by
  cases op with
  | call c =>
    obtain ⟨callee, args, argTypes⟩ := c
    cases callee with
    | builtin o => cases o <;> simp [clsOf] at h
    | _ => simp [clsOf] at h
  | makeMap t r => cases r <;> first | rfl | simp [clsOf] at h
  | indexAddr t x i =>
    simp only [clsOf] at h
    cases hb : isArrT E.T t <;> (rw [hb] at h; cases h)
  | _ => first | rfl | simp [clsOf] at h
/-- how new blocks lie -/
structure Lay (E : Env) (blk : Nat → Nat) (base : Nat) (l : List PS) : Prop where
  dis : ∀ p ∈ l, ∀ q ∈ l, p.i ≠ q.i → ∀ j j', j < freshOf E p.o.op → j' < freshOf E q.o.op → blk p.i + j ≠ blk q.i + j'
  ge : ∀ i, base ≤ blk i
noncomputable def HD (blk : Nat → Nat) (s : DS) : Heap := putF (fun _ => true) blk s.fl 0 s.G
def DR (E : Env) (B : Base) (F : FF) (base : Nat) (m0 : MM) (S0 : SS) (blk : Nat → Nat) (l L : List PS) (s : DS) (a : Act) (w : World) : Prop :=
  ∃ m S, LR S s.tm m F a.tmps.toList ∧ WR B m S F (HD blk s) w ∧ S0.le S ∧ (∀ i, i < base → m i = m0 i) ∧ Cap m s.G ∧ base ≤ s.G.length ∧ MK B.w0.heap.size m (HD blk s) a.defers w ∧
    (∀ p ∈ L, Fresh s.G m (blk p.i) (freshOf E p.o.op)) ∧ (∀ n c, s.fl[n]? = some (some c) → (∃ p ∈ l, p.i = n ∧ p.cls = .make) ∧ blk n < s.G.length ∧ hget s.G (blk n) = .dead)
theorem stepOp_plain {E : Env} {inl : Inl} {tm : List AV} {h : Heap} {b : Nat} {op : Op} (hc : clsOf E.T op ≠ .turn) : stepOp E inl tm h b op = evalOp E tm h b op := by
  unfold stepOp
  split
  · simp [clsOf] at hc
  · rfl
theorem stepD_sound {E : Env} (hE : EnvOK P E) {inl : Inl} (hI : InlOK P E inl) (hC : ConOK P E) {Fc : Fence} (hF : Fc = Fence.wide ∨ ∃ l, Fc = Fence.wide.inRound l) {ops : Array Oper} {base : Nat} {m0 : MM} {S0 : SS} (hG : GlobOK E.glob S0) {Q : Exit → Act → World → Prop}
    {blk : Nat → Nat} {l L L' : List PS} (hL : Lay E blk base l) (hpl : Planned E.T ops l) {p : PS} (hp : p ∈ l) (hpL : p ∈ L) (hsub : ∀ q ∈ L', q ∈ L ∧ q ∈ l ∧ p.i ≠ q.i) {s s1 : DS} (hfut : Fut p s.fl s.rd) {a : Act} {w : World}
    (hst : DR E B F base m0 S0 blk l L s a w) (hd : stepD E inl ops blk (makersOf l) p s = some s1) {K : Act → World → Prop} (hK : ∀ a' w', DR E B F base m0 S0 blk l L' s1 a' w' → a'.defers = a.defers → K a' w') :
    wpOpIn Fc 0 P ops Q p.i K a w := by
  obtain ⟨m, S, ht, hW, hS, hm, hc, hbl, hk, hf, hfl⟩ := hst
  obtain ⟨hgetp, hcls⟩ := hpl.get p hp
  unfold wpOpIn
  rw [hgetp]
  simp only
  rw [stepD_eq] at hd
  split at hd
  · rename_i v G1 fl1 rd1 hv
    simp only [Option.some.injEq] at hd
    have hlt : ∀ n c, s.fl[n]? = some (some c) → blk n < s.G.length := fun n c h => (hfl n c h).2.1
    have hinj : ∀ n n' c c', s.fl[n]? = some (some c) → s.fl[n']? = some (some c') → blk n = blk n' → n = n' := fun n n' c c' h h' he => by
      obtain ⟨⟨q, hq, rfl, hqc⟩, _⟩ := hfl n c h
      obtain ⟨⟨q', hq', rfl, hqc'⟩, _⟩ := hfl n' c' h'
      rcases Nat.decEq q.i q'.i with hne | heq
      · have f1 := fresh_make (E := E) (op := q.o.op) (by rw [← (hpl.get q hq).2]; exact hqc)
        have f2 := fresh_make (E := E) (op := q'.o.op) (by rw [← (hpl.get q' hq').2]; exact hqc')
        exact absurd he (by simpa using hL.dis q hq q' hq' hne 0 0 (by omega) (by omega))
      · exact heq
    have hHl : (HD blk s).length = s.G.length := putF_length _ _ _
    have hcapD : Cap m (HD blk s) := fun i hi => hc i (by omega)
    have hfree : ∀ q ∈ L, q ∈ l → ∀ j, j < freshOf E q.o.op → ∀ n c, s.fl[n]? = some (some c) → n ≠ q.i → blk n ≠ blk q.i + j := fun q hq hql j hj n c h hne => by
      obtain ⟨⟨q', hq', rfl, hqc'⟩, _⟩ := hfl n c h
      have f2 := fresh_make (E := E) (op := q'.o.op) (by rw [← (hpl.get q' hq').2]; exact hqc')
      have := hL.dis q' hq' q hql hne 0 j (by omega) hj
      simpa using this
    have hnop : ∀ n c, s.fl[n]? = some (some c) → n ≠ p.i := fun n c h he => by rw [he, hfut.hfl] at h; simp at h
    -- a heap without some of the floats
    have hsubs : ∀ sel i, hget (putF sel blk s.fl 0 s.G) i = hget (HD blk s) i ∨ hget (putF sel blk s.fl 0 s.G) i = .dead := fun sel i => by
      rcases putF_get (sel := fun _ => true) (blk := blk) i (G := s.G) hlt with ⟨n, c, h1, h2, h3, h4⟩ | ⟨h1, h2⟩
      · rcases putF_get (sel := sel) (blk := blk) i (G := s.G) hlt with ⟨n', c', k1, k2, k3, k4⟩ | ⟨k1, k2⟩
        · have := hinj n n' c c' h1 k1 (by rw [h3, k3])
          subst this
          rw [h1] at k1; cases k1
          left; rw [k4]; exact h4.symm
        · right; rw [k2, ← h3]; exact (hfl n c h1).2.2
      · rcases putF_get (sel := sel) (blk := blk) i (G := s.G) hlt with ⟨n', c', k1, k2, k3, k4⟩ | ⟨k1, k2⟩
        · exact absurd k3 (h1 n' c' k1 rfl)
        · left; rw [k2]; exact h2.symm
    have hfreshSel : ∀ sel, Fresh (putF sel blk s.fl 0 s.G) m (blk p.i) (freshOf E p.o.op) := fun sel j hj => by
      obtain ⟨q1, q2, q3⟩ := hf p hpL j hj
      refine ⟨by rw [putF_length]; exact q1, ?_, q3⟩
      rcases putF_get (sel := sel) (blk := blk) (blk p.i + j) (G := s.G) hlt with ⟨n', c', k1, k2, k3, k4⟩ | ⟨k1, k2⟩
      · exact absurd k3 (hfree p hpL hp j hj n' c' k1 (hnop n' c' k1))
      · rw [k2]; exact q2
    have hGS := hG.mono hS
    -- what is left to say behind a step
    have fin : ∀ (u : Value) (w' : World) (m' : MM) (S' : SS) (s2 : DS) (v : AV), s2 = s1 → VR S' v m' F u → s2.tm = dstSet s.tm p.o.dst v → WR B m' S' F (HD blk s2) w' → S.le S' → m.le m' → (∀ i, i < (HD blk s).length → (i < blk p.i ∨ blk p.i + freshOf E p.o.op ≤ i) → m' i = m i) →
        MK B.w0.heap.size m' (HD blk s2) a.defers w' → Cap m' s2.G → s.G.length ≤ s2.G.length → (∀ i, m' i = none → hget s.G i = .dead → hget s2.G i = .dead) →
        (∀ n c, s2.fl[n]? = some (some c) → (∃ p ∈ l, p.i = n ∧ p.cls = .make) ∧ blk n < s2.G.length ∧ hget s2.G (blk n) = .dead) → K (a.put p.o.dst u) w' := by
      intro u w' m' S' s2 v hs2 hv htm hW' hS' hle hm' hk' hc' hl' hdead hfl'
      subst hs2
      refine hK _ _ ⟨m', S', ?_, hW', SS.le_trans hS hS', fun i hi => ?_, hc', by omega, by rw [put_defers]; exact hk', fun q hq j hj => ?_, hfl'⟩ (put_defers _ _ _)
      · rw [htm]; exact LR_put (LR_renew ht hS' hle) hv _
      · rw [hm' i (by omega) (.inl (by have := hL.ge p.i; omega))]; exact hm i hi
      · obtain ⟨hqL, hql, hne⟩ := hsub q hq
        obtain ⟨q1, q2, q3⟩ := hf q hqL j hj
        have hout : blk q.i + j < blk p.i ∨ blk p.i + freshOf E p.o.op ≤ blk q.i + j := by
          rcases Nat.lt_or_ge (blk q.i + j) (blk p.i) with h' | h'
          · exact .inl h'
          · rcases Nat.lt_or_ge (blk q.i + j) (blk p.i + freshOf E p.o.op) with h'' | h''
            · exact absurd (show blk p.i + (blk q.i + j - blk p.i) = blk q.i + j by omega) (hL.dis p hp q hql hne _ j (by omega) hj)
            · exact .inr h''
        have hn : m' (blk q.i + j) = none := by rw [hm' _ (by omega) hout]; exact q3
        exact ⟨by omega, hdead _ hn q2, hn⟩
    unfold stepV at hv
    cases hg : guardB ops s.tm p.o with
    | none => rw [hg] at hv; cases hv
    | some g =>
      rw [hg] at hv
      have hwant := guard_sound ht hg
      rw [hwant]
      cases g with
      | false =>
        simp only [Option.some.injEq, Prod.mk.injEq] at hv
        obtain ⟨rfl, rfl, rfl, rfl⟩ := hv
        simp only [Bool.false_eq_true, if_false]
        refine ⟨fun f _ => (fence_ok hF).1 f, ?_⟩
        have hu : VR S (.tup []) m F undef := by simp only [VR, LR]; exact ⟨#[], rfl, rfl⟩
        exact fin undef w m S { tm := dstSet s.tm p.o.dst (.tup []), G := s.G, fl := s.fl, rd := s.rd } (.tup []) hd hu rfl hW (SS.le_refl _) (MM.le_refl _) (fun _ _ _ => rfl) hk hc (Nat.le_refl _) (fun _ _ h => h) hfl
      | true =>
        simp only at hv
        simp only [if_true]
        cases hcl : p.cls with
        | pure =>
          rw [hcl] at hv hcls
          simp only at hv
          split at hv
          · rename_i u h0 hu
            simp only [Option.some.injEq, Prod.mk.injEq] at hv
            obtain ⟨rfl, rfl, rfl, rfl⟩ := hv
            have he : stepOp E inl s.tm (HD blk s) (blk p.i) p.o.op = some (u, HD blk s) := by
              rw [stepOp_plain (by rw [← hcls]; simp)]; exact evalOp_pure hcls.symm hu _ _
            refine hid_step hE hI hC hF hW hGS ht rfl (fun i => .inl rfl) hcapD (hfreshSel _) he hk (H'' := HD blk s) (fun _ i h => absurd rfl h) (fun _ _ _ => rfl) (fun u' w' m' S' hv' hw' hw'' hS' hle hm' hk' hc' hl' => ?_)
            exact fin u' w' m' S' { tm := dstSet s.tm p.o.dst u, G := s.G, fl := s.fl, rd := s.rd } u hd hv' rfl hw' hS' hle hm' hk' (fun i hi => hc' i (by rw [hHl]; exact hi)) (Nat.le_refl _) (fun _ _ h => h) hfl
          · cases hv
        | make =>
          rw [hcl] at hv hcls
          simp only at hv
          split at hv
          · rename_i u h0 u' h0' hu hu'
            simp only [Option.some.injEq, Prod.mk.injEq] at hv
            obtain ⟨rfl, rfl, rfl, rfl⟩ := hv
            obtain ⟨hfr, c, vf, hvf, _, hall⟩ := evalOp_make hcls.symm hu
            have h2 := hall [.dead] 0
            rw [hu'] at h2
            simp only [Option.some.injEq, Prod.mk.injEq] at h2
            have hcc : hget h0' 0 = c := by rw [h2.2]; rfl
            rw [hcc] at hd
            have he : stepOp E inl s.tm (HD blk s) (blk p.i) p.o.op = some (u, hset (HD blk s) (blk p.i) c) := by
              rw [stepOp_plain (by rw [← hcls]; simp), hall, hvf]
            obtain ⟨q1, q2, q3⟩ := hf p hpL 0 (by omega)
            simp only [Nat.add_zero] at q1 q2 q3
            have hlt' : ∀ n c', (s.fl.set p.i (some c))[n]? = some (some c') → blk n < s.G.length := fun n c' h => by
              by_cases hn : p.i = n
              · subst hn; exact q1
              · rw [List.getElem?_set_ne hn] at h; exact hlt n c' h
            have hpi : p.i < s.fl.length := by
              rcases Nat.lt_or_ge p.i s.fl.length with h' | h'
              · exact h'
              · have := hfut.hfl; rw [List.getElem?_eq_none h'] at this; cases this
            have hHD : ∀ i, hget (HD blk { tm := dstSet s.tm p.o.dst u, G := s.G, fl := s.fl.set p.i (some c), rd := s.rd }) i = hget (hset (HD blk s) (blk p.i) c) i := fun i => by
              unfold HD
              by_cases hi : i = blk p.i
              · subst hi
                rw [hget_hset_self _ _ _ (by rw [putF_length]; exact q1)]
                rcases putF_get (sel := fun _ => true) (blk := blk) (blk p.i) (G := s.G) hlt' with ⟨n, c', h1, h2, h3, h4⟩ | ⟨h1, h2⟩
                · by_cases hn : p.i = n
                  · subst hn
                    rw [List.getElem?_set_self hpi] at h1
                    simp only [Option.some.injEq] at h1; subst h1
                    exact h4
                  · rw [List.getElem?_set_ne hn] at h1
                    exact absurd h3 (by simpa using hfree p hpL hp 0 (by omega) n c' h1 (Ne.symm hn))
                · exact absurd rfl (h1 p.i c (List.getElem?_set_self hpi) rfl)
              · rw [hget_hset_ne _ _ _ _ hi]
                rcases putF_get (sel := fun _ => true) (blk := blk) i (G := s.G) hlt' with ⟨n, c', h1, h2, h3, h4⟩ | ⟨h1, h2⟩
                · have hn : p.i ≠ n := fun h => hi (by rw [h]; exact h3.symm)
                  rw [List.getElem?_set_ne hn] at h1
                  rcases putF_get (sel := fun _ => true) (blk := blk) i (G := s.G) hlt with ⟨n', c'', k1, k2, k3, k4⟩ | ⟨k1, k2⟩
                  · have := hinj n n' c' c'' h1 k1 (by rw [h3, k3])
                    subst this
                    rw [h1] at k1; cases k1
                    exact h4.trans k4.symm
                  · exact absurd h3 (k1 n c' h1 rfl)
                · rcases putF_get (sel := fun _ => true) (blk := blk) i (G := s.G) hlt with ⟨n', c'', k1, k2, k3, k4⟩ | ⟨k1, k2⟩
                  · exact absurd k3 (h1 n' c'' (by rw [List.getElem?_set_ne (hnop n' c'' k1).symm]; exact k1) rfl)
                  · exact h2.trans k2.symm
            refine hid_step hE hI hC hF hW hGS ht rfl (fun i => .inl rfl) hcapD (hfreshSel _) he hk (H'' := HD blk { tm := dstSet s.tm p.o.dst u, G := s.G, fl := s.fl.set p.i (some c), rd := s.rd }) (fun _ i h => absurd rfl h) (fun _ i _ => hHD i) (fun u' w' m' S' hv' hw' hw'' hS' hle hm' hk' hc' hl' => ?_)
            refine fin u' w' m' S' { tm := dstSet s.tm p.o.dst u, G := s.G, fl := s.fl.set p.i (some c), rd := s.rd } u hd hv' rfl hw' hS' hle hm' hk' (fun i hi => hc' i (by rw [hset_length]; simp only at hi; omega)) (Nat.le_refl _) (fun _ _ h => h) (fun n c' h => ?_)
            by_cases hn : p.i = n
            · subst hn; exact ⟨⟨p, hp, rfl, hcl⟩, q1, q2⟩
            · simp only at h; rw [List.getElem?_set_ne hn] at h; exact hfl n c' h
          · cases hv
        | read =>
          rw [hcl] at hv hcls
          simp only at hv
          split at hv
          · rename_i u h0 hu
            simp only [Option.some.injEq, Prod.mk.injEq] at hv
            obtain ⟨rfl, rfl, rfl, rfl⟩ := hv
            have := evalOp_read hcls.symm hu
            subst this
            have he : stepOp E inl s.tm (putF (memB p.past) blk s.fl 0 s.G) (blk p.i) p.o.op = some (u, putF (memB p.past) blk s.fl 0 s.G) := by
              rw [stepOp_plain (by rw [← hcls]; simp)]; exact hu
            refine hid_step hE hI hC hF hW hGS ht (by rw [putF_length, hHl]) (hsubs _) hcapD (hfreshSel _) he hk (H'' := HD blk s) (fun _ _ _ => rfl) (fun _ _ h => h.symm) (fun u' w' m' S' hv' hw' hw'' hS' hle hm' hk' hc' hl' => ?_)
            exact fin u' w' m' S' { tm := dstSet s.tm p.o.dst u, G := s.G, fl := s.fl, rd := _ } u hd hv' rfl hw' hS' hle hm' hk' (fun i hi => hc' i (by rw [putF_length]; exact hi)) (Nat.le_refl _) (fun _ _ h => h) hfl
          · cases hv
        | turn =>
          rw [hcl] at hv hcls
          simp only at hv
          split at hv
          · rename_i u G' hu
            split at hv
            · rename_i hb
              simp only [Option.some.injEq, Prod.mk.injEq] at hv
              obtain ⟨rfl, rfl, rfl, rfl⟩ := hv
              simp only [Bool.and_eq_true] at hb
              have hdeadF : ∀ n c, (clearF p.past s.fl 0)[n]? = some (some c) → hget G' (blk n) = .dead := fun n c h => by
                rw [clearF_get, Nat.zero_add] at h
                obtain ⟨⟨q, hq, rfl, hqc⟩, _⟩ := hfl n c h.1
                exact hidB_get hb.1 _ (mem_makersOf hq hqc) h.2
              have hHD : (HD blk s).length ≤ G'.length → ∀ i, (hget (putF (memB p.past) blk s.fl 0 s.G) i ≠ hget (HD blk s) i → hget (putF (fun _ => true) blk (clearF p.past s.fl 0) 0 G') i = hget (HD blk s) i) ∧
                  (hget (putF (memB p.past) blk s.fl 0 s.G) i = hget (HD blk s) i → hget (putF (fun _ => true) blk (clearF p.past s.fl 0) 0 G') i = hget G' i) := by
                intro hlen i
                have hlt' : ∀ n c', (clearF p.past s.fl 0)[n]? = some (some c') → blk n < G'.length := fun n c' h => by
                  rw [clearF_get] at h; have := hlt n c' h.1; omega
                rcases putF_get (sel := fun _ => true) (blk := blk) i (G := G') hlt' with ⟨n, c, h1, h2, h3, h4⟩ | ⟨h1, h2⟩
                · have h1' := h1
                  rw [clearF_get, Nat.zero_add] at h1'
                  have hc0 : hget (HD blk s) i = c := by
                    rcases putF_get (sel := fun _ => true) (blk := blk) i (G := s.G) hlt with ⟨n', c'', k1, k2, k3, k4⟩ | ⟨k1, k2⟩
                    · have := hinj n n' c c'' h1'.1 k1 (by rw [h3, k3])
                      subst this
                      rw [h1'.1] at k1; cases k1
                      exact k4
                    · exact absurd h3 (k1 n c h1'.1 rfl)
                  refine ⟨fun _ => by rw [h4, hc0], fun he => ?_⟩
                  -- the float's content is dead
                  have hkd : hget (putF (memB p.past) blk s.fl 0 s.G) i = .dead := by
                    rcases putF_get (sel := memB p.past) (blk := blk) i (G := s.G) hlt with ⟨n', c'', k1, k2, k3, k4⟩ | ⟨k1, k2⟩
                    · have := hinj n n' c c'' h1'.1 k1 (by rw [h3, k3])
                      subst this
                      rw [h1'.2] at k2; cases k2
                    · rw [k2, ← h3]; exact (hfl n c h1'.1).2.2
                  rw [h4, ← hc0, ← he, hkd, ← h3]
                  exact (hdeadF n c h1).symm
                · refine ⟨fun hne => ?_, fun _ => h2⟩
                  exfalso
                  apply hne
                  rcases putF_get (sel := fun _ => true) (blk := blk) i (G := s.G) hlt with ⟨n', c'', k1, k2, k3, k4⟩ | ⟨k1, k2⟩
                  · cases hmb : memB p.past n' with
                    | false => exact absurd k3 (h1 n' c'' (by rw [clearF_get, Nat.zero_add]; exact ⟨k1, hmb⟩) rfl)
                    | true =>
                      rcases putF_get (sel := memB p.past) (blk := blk) i (G := s.G) hlt with ⟨n2, c2, j1, j2, j3, j4⟩ | ⟨j1, j2⟩
                      · have := hinj n' n2 c'' c2 k1 j1 (by rw [k3, j3])
                        subst this
                        rw [k1] at j1; cases j1
                        exact j4.trans k4.symm
                      · exact absurd k3 (j1 n' c'' k1 hmb)
                  · rcases putF_get (sel := memB p.past) (blk := blk) i (G := s.G) hlt with ⟨n2, c2, j1, j2, j3, j4⟩ | ⟨j1, j2⟩
                    · exact absurd j3 (k1 n2 c2 j1 rfl)
                    · exact j2.trans k2.symm
              refine hid_step hE hI hC hF hW hGS ht (by rw [putF_length, hHl]) (hsubs _) hcapD (hfreshSel _) hu hk (H'' := putF (fun _ => true) blk (clearF p.past s.fl 0) 0 G') (fun hlen i => (hHD hlen i).1) (fun hlen i => (hHD hlen i).2) (fun u' w' m' S' hv' hw' hw'' hS' hle hm' hk' hc' hl' => ?_)
              refine fin u' w' m' S' { tm := dstSet s.tm p.o.dst u, G := G', fl := clearF p.past s.fl 0, rd := s.rd } u hd hv' rfl hw' hS' hle hm' hk' hc' (by simp only; omega) (fun i hi _ => dead_of_none hw'' hi) (fun n c h => ?_)
              have h' := h
              rw [clearF_get] at h'
              exact ⟨(hfl n c h'.1).1, by have := hlt n c h'.1; simp only; omega, hdeadF n c h⟩
            · cases hv
          · cases hv
  · cases hd
end Go.Abs
end

section
namespace Go.Abs
variable {P : Program} {B : Base} {m : MM} {S : SS} {F : FF} {H : Heap} {w : World}
theorem offAt_succ {E : Env} : ∀ (l : List Oper) (i : Nat) (o : Oper), l[i]? = some o → offAt E l (i + 1) = offAt E l i + freshOf E o.op
  | [], i, o, h => by simp at h
  | x :: l, 0, o, h => by
    simp only [List.getElem?_cons_zero, Option.some.injEq] at h; subst h
    cases l <;> simp [offAt]
  | x :: l, i + 1, o, h => by
    have := offAt_succ (E := E) l i o (by simpa using h)
    simp only [offAt] at this ⊢
    omega
theorem offAt_mono {E : Env} (l : List Oper) {i j : Nat} (h : i ≤ j) : offAt E l i ≤ offAt E l j := by
  induction l generalizing i j with
  | nil => cases i <;> cases j <;> simp [offAt]
  | cons x l ih =>
    cases i with
    | zero => simp [offAt]
    | succ i =>
      cases j with
      | zero => omega
      | succ j => simp only [offAt]; have := ih (i := i) (j := j) (by omega); omega
theorem offAt_needs {E : Env} : ∀ (l : List Oper) (i : Nat), offAt E l i ≤ needs E l
  | [], i => by cases i <;> simp [offAt]
  | x :: l, 0 => by simp [offAt]
  | x :: l, i + 1 => by simp only [offAt, needs]; have := offAt_needs (E := E) l i; omega
theorem lay_off {E : Env} {ops : Array Oper} {l : List PS} (hpl : Planned E.T ops l) {base b0 : Nat} (hb : base ≤ b0) : Lay E (fun i => b0 + offAt E ops.toList i) base l := by
  have key : ∀ p ∈ l, ∀ q ∈ l, p.i < q.i → ∀ j, j < freshOf E p.o.op → offAt E ops.toList p.i + j < offAt E ops.toList q.i := fun p hp q hq hlt j hj => by
    have h1 := offAt_succ (E := E) ops.toList p.i p.o (by simpa using (hpl.get p hp).1)
    have h2 := offAt_mono (E := E) ops.toList (show p.i + 1 ≤ q.i by omega)
    omega
  refine ⟨fun p hp q hq hne j j' hj hj' => ?_, fun i => by omega⟩
  rcases Nat.lt_or_gt_of_ne hne with h | h
  · have := key p hp q hq h j hj; omega
  · have := key q hq p hp h j' hj'; omega
theorem Pairs.inj {ops : Array Oper} : ∀ {l : List PS}, Pairs ops l → ∀ p ∈ l, ∀ q ∈ l, p.i = q.i → p = q
  | [], _, p, hp, _, _, _ => by simp at hp
  | x :: l, h, p, hp, q, hq, he => by
    simp only [List.mem_cons] at hp hq
    rcases hp with rfl | hp <;> rcases hq with rfl | hq
    · rfl
    · exact absurd he (h.2.1 q hq).1
    · exact absurd he.symm (h.2.1 p hp).1
    · exact Pairs.inj h.2.2 p hp q hq he
theorem mem_ready {md : Region.Mode} {ops : Array Oper} {listed : Array Bool} {i : Nat} : i ∈ Region.ready md ops listed ↔ ∃ o, ops[i]? = some o ∧ listed.getD i true = false ∧ ∀ e ∈ o.after.toList, Region.binds md e = true → listed.getD e.on false = true := by
  unfold Region.ready
  simp only [List.mem_filter, List.mem_range, Bool.and_eq_true, Bool.not_eq_true']
  constructor
  · rintro ⟨h1, h2, h3⟩
    have ho : ops[i]? = some ops[i] := Array.getElem?_eq_getElem h1
    rw [ho] at h3
    refine ⟨_, ho, h2, fun e he hb => ?_⟩
    simp only [Option.map_some, Option.getD_some, Array.all_eq_true_iff_forall_mem] at h3
    have := h3 e (by simpa using he)
    rw [hb] at this
    simpa using this
  · rintro ⟨o, h1, h2, h3⟩
    have hlt : i < ops.size := by
      rcases Nat.lt_or_ge i ops.size with h' | h'
      · exact h'
      · rw [Array.getElem?_eq_none h'] at h1; cases h1
    refine ⟨hlt, h2, ?_⟩
    rw [h1]
    simp only [Option.map_some, Option.getD_some, Array.all_eq_true_iff_forall_mem]
    intro e he
    cases hb : Region.binds md e with
    | false => rfl
    | true => simp only [Bool.not_true, Bool.false_or]; exact h3 e (by simpa using he) hb
theorem any_sound {E : Env} (hE : EnvOK P E) {inl : Inl} (hI : InlOK P E inl) (hC : ConOK P E) {Fc : Fence} (hF : Fc = Fence.wide ∨ ∃ l, Fc = Fence.wide.inRound l) {ops : Array Oper} {base : Nat} {m0 : MM} {S0 : SS} (hG : GlobOK E.glob S0) {Q : Exit → Act → World → Prop}
    {blk : Nat → Nat} {l : List PS} (hL : Lay E blk base l) (hpl : Planned E.T ops l) {sf : DS} {ds : List Deferred} (hQ : ∀ a' w', DR E B F base m0 S0 blk l [] sf a' w' → a'.defers = ds → Q .normal a' w') :
    ∀ (fuel : Nat) (L : List PS) (s : DS) (listed : Array Bool) (a : Act) (w : World), L.length ≤ fuel → (∀ p ∈ L, p ∈ l) → Pairs ops L → (∀ p ∈ l, (∀ q ∈ L, q.i ≠ p.i) → ∀ q ∈ L, memB p.past q.i = false) → (∀ p ∈ L, Fut p s.fl s.rd) →
      listed.size = ops.size → (∀ i, i < ops.size → (listed.getD i true = false ↔ ∃ p ∈ L, p.i = i)) → DR E B F base m0 S0 blk l L s a w → a.defers = ds → runD E inl ops blk (makersOf l) L s = some sf → wpAnyIn Fc 0 P .any ops Q fuel listed a w := by
  -- what is ready
  have hready : ∀ (L : List PS) (listed : Array Bool), (∀ p ∈ L, p ∈ l) → (∀ p ∈ l, (∀ q ∈ L, q.i ≠ p.i) → ∀ q ∈ L, memB p.past q.i = false) → listed.size = ops.size → (∀ i, i < ops.size → (listed.getD i true = false ↔ ∃ p ∈ L, p.i = i)) →
      ∀ i ∈ Region.ready .any ops listed, ∃ p ∈ L, p.i = i ∧ ∀ q ∈ L, memB p.past q.i = false := by
    intro L listed hLl hcl hsz hl i hi
    obtain ⟨o, h1, h2, h3⟩ := mem_ready.1 hi
    have hlt : i < ops.size := by
      rcases Nat.lt_or_ge i ops.size with h' | h'
      · exact h'
      · rw [Array.getElem?_eq_none h'] at h1; cases h1
    obtain ⟨p, hp, rfl⟩ := (hl i hlt).1 h2
    refine ⟨p, hp, rfl, fun q hq => ?_⟩
    cases hm : memB p.past q.i with
    | false => rfl
    | true =>
      exfalso
      obtain ⟨e, he, hb, hc⟩ := hpl.gen p (hLl p hp) q.i hm
      have ho : o = p.o := by
        have := (hpl.get p (hLl p hp)).1
        rw [h1] at this; exact Option.some.inj this
      subst ho
      have hon := h3 e he hb
      have honlt := (hpl.on p (hLl p hp) e he hb).2
      have honT : listed.getD e.on true = true := by
        have hs : e.on < listed.size := by omega
        simp only [Array.getD, hs, dif_pos] at hon ⊢
        exact hon
      have hnotL : ∀ x ∈ L, x.i ≠ e.on := fun x hx hxe => by
        have := (hl e.on honlt).2 ⟨x, hx, hxe⟩
        rw [honT] at this; cases this
      rcases hc with hc | ⟨q', hq', hqi, hqm⟩
      · exact hnotL q hq hc.symm
      · have := hcl q' hq' (fun x hx => by rw [hqi]; exact hnotL x hx) q hq
        rw [this] at hqm; cases hqm
  have hnil : ∀ (L : List PS) (listed : Array Bool), (∀ p ∈ L, p ∈ l) → Pairs ops L → (∀ p ∈ l, (∀ q ∈ L, q.i ≠ p.i) → ∀ q ∈ L, memB p.past q.i = false) → listed.size = ops.size → (∀ i, i < ops.size → (listed.getD i true = false ↔ ∃ p ∈ L, p.i = i)) →
      Region.ready .any ops listed = [] → L = [] := by
    intro L listed hLl hP hcl hsz hl hr
    cases L with
    | nil => rfl
    | cons p L =>
      exfalso
      have hpl' := hpl.get p (hLl p (by simp))
      have hplt : p.i < ops.size := by
        rcases Nat.lt_or_ge p.i ops.size with h' | h'
        · exact h'
        · rw [Array.getElem?_eq_none h'] at hpl'; cases hpl'.1
      have : p.i ∈ Region.ready .any ops listed := by
        refine mem_ready.2 ⟨p.o, hpl'.1, (hl p.i hplt).2 ⟨p, by simp, rfl⟩, fun e he hb => ?_⟩
        obtain ⟨h1, h2⟩ := hpl.on p (hLl p (by simp)) e he hb
        have hnot : ¬ ∃ q ∈ p :: L, q.i = e.on := by
          rintro ⟨q, hq, hqe⟩
          rw [← hqe] at h1
          simp only [List.mem_cons] at hq
          rcases hq with rfl | hq
          · rw [hP.1] at h1; cases h1
          · rw [(hP.2.1 q hq).2.1] at h1; cases h1
        have hT : listed.getD e.on true ≠ false := fun h => hnot ((hl e.on h2).1 h)
        have hs : e.on < listed.size := by omega
        simp only [Array.getD, hs, dif_pos] at hT ⊢
        simpa using hT
      rw [hr] at this
      simp at this
  intro fuel
  induction fuel with
  | zero =>
    intro L s listed a w hlen hLl hP hcl hfut hsz hl hst hds hrun
    have : L = [] := by cases L <;> simp_all
    subst this
    refine ⟨?_, ?_⟩
    · cases hr : Region.ready .any ops listed with
      | nil => rfl
      | cons i r =>
        obtain ⟨p, hp, _⟩ := hready [] listed hLl hcl hsz hl i (by rw [hr]; simp)
        simp at hp
    · simp only [runD, Option.some.injEq] at hrun; subst hrun
      exact hQ a w hst hds
  | succ fuel ih =>
    intro L s listed a w hlen hLl hP hcl hfut hsz hl hst hds hrun
    refine ⟨fun hr => ?_, fun i hi => ?_⟩
    · have := hnil L listed hLl hP hcl hsz hl hr
      subst this
      simp only [runD, Option.some.injEq] at hrun; subst hrun
      exact hQ a w hst hds
    · obtain ⟨p, hp, rfl, hpast⟩ := hready L listed hLl hcl hsz hl i hi
      obtain ⟨L1, L2, rfl⟩ := List.append_of_mem hp
      have hrun' := runD_front L1 hP (fun x hx => hpast x (by simp [hx])) hfut hrun
      simp only [runD] at hrun'
      split at hrun'
      · rename_i s1 hs1
        have hinj := Pairs.inj hP
        have hsub : ∀ q ∈ L1 ++ L2, q ∈ L1 ++ p :: L2 := fun q hq => by
          simp only [List.mem_append, List.mem_cons] at hq ⊢
          rcases hq with hq | hq <;> simp [hq]
        have hne : ∀ q ∈ L1 ++ L2, p.i ≠ q.i := by
          clear hrun' hrun hcl hfut hl hst hpast hlen hi ih hinj hsub hLl hp
          induction L1 with
          | nil => exact fun q hq => (hP.2.1 q hq).1
          | cons x L1 ih =>
            intro q hq
            simp only [List.cons_append, List.mem_cons] at hq
            rcases hq with rfl | hq
            · exact fun he => (hP.2.1 p (by simp)).1 he.symm
            · exact ih hP.2.2 q hq
        refine stepD_sound hE hI hC hF hG hL hpl (hLl p hp) hp (fun q hq => ⟨hsub q hq, hLl q (hsub q hq), hne q hq⟩) (hfut p hp) hst hs1 (fun a' w' hst' hd' => ?_)
        refine ih (L1 ++ L2) s1 _ a' w' (by simp at hlen ⊢; omega) (fun q hq => hLl q (hsub q hq)) (Pairs.drop L1 hP) (fun q hq hnq x hx => ?_) (fun q hq => (hfut q (hsub q hq)).stepD (hne q hq) (hpast q (hsub q hq)) hs1) (by simpa using hsz) (fun i hi' => ?_) hst' (hd'.trans hds) hrun'
        · by_cases hqp : q.i = p.i
          · have := Pairs.inj hpl.pairs q hq p (hLl p hp) hqp
            subst this
            exact hpast x (hsub x hx)
          · refine hcl q hq (fun y hy => ?_) x (hsub x hx)
            simp only [List.mem_append, List.mem_cons] at hy
            rcases hy with hy | rfl | hy
            · exact hnq y (by simp [hy])
            · exact fun h => hqp h.symm
            · exact hnq y (by simp [hy])
        · have hil : i < listed.size := by omega
          by_cases hip : p.i = i
          · subst hip
            have hT : (listed.setIfInBounds p.i true).getD p.i true = true := by simp [Array.getD, hil]
            rw [hT]
            exact ⟨fun h => (by cases h), fun ⟨q, hq, hqe⟩ => absurd hqe.symm (hne q hq)⟩
          · have hT : (listed.setIfInBounds p.i true).getD i true = listed.getD i true := by simp [Array.getD, hil, Array.getElem_setIfInBounds_ne, hip]
            rw [hT, hl i hi']
            constructor
            · rintro ⟨q, hq, rfl⟩
              refine ⟨q, ?_, rfl⟩
              simp only [List.mem_append, List.mem_cons] at hq ⊢
              rcases hq with hq | rfl | hq
              · exact .inl hq
              · exact absurd rfl hip
              · exact .inr hq
            · rintro ⟨q, hq, rfl⟩; exact ⟨q, hsub q hq, rfl⟩
      · cases hrun'
theorem putF_none {sel : Nat → Bool} {blk : Nat → Nat} : ∀ (n k : Nat) (G : Heap), putF sel blk (List.replicate n none) k G = G
  | 0, _, _ => rfl
  | n + 1, k, G => by simp only [List.replicate_succ, putF]; exact putF_none n (k + 1) G
/-- a region whose order is drawn -/
theorem runDraw_sound {E : Env} (hE : EnvOK P E) {inl : Inl} (hI : InlOK P E inl) (hC : ConOK P E) {Fc : Fence} (hF : Fc = Fence.wide ∨ ∃ l, Fc = Fence.wide.inRound l) {ops : Array Oper} {base : Nat} {m0 : MM} {S0 : SS} (hG : GlobOK E.glob S0) {Q : Exit → Act → World → Prop}
    {s s' : St} {a : Act} {w : World} {id : Nat} (hr : runDraw E inl ops s = some s') (hst : StR B F base m0 S0 s a w) (hQ : ∀ a' w', StR B F base m0 S0 s' a' w' → a'.defers = a.defers → Q .normal a' w') : (Code.region id ops true).wpIn Fc 0 P Q a w := by
  unfold runDraw at hr
  split at hr
  · cases hr
  · rename_i l hl
    have hpl := planOf_spec hl
    obtain ⟨m, S, ht, hW, hS, hm, hc, hbl, hk⟩ := hst
    simp only at hr
    split at hr
    · rename_i d hd
      simp only [Option.some.injEq] at hr; subst hr
      refine wpIn_region_any hE.mixed ?_
      refine any_sound (B := B) (F := F) (m0 := m0) hE hI hC hF hG (lay_off hpl hbl) hpl (ds := a.defers) (fun a' w' hst' hd' => hQ a' w' ?_ hd') ops.size l _ _ a _ (Nat.le_of_eq hpl.size) (fun p hp => hp) hpl.pairs (fun p hp hnot q hq => absurd rfl (hnot p hp)) (fun p hp => ?_) (by simp) (fun i hi => ?_) ?_ rfl hd
      · obtain ⟨m', S', k1, k2, k3, k4, k5, k6, k7, k8, k9⟩ := hst'
        exact ⟨m', S', k1, k2, k3, k4, fun i hi => k5 i (by simp only [putF_length] at hi; exact hi), by simp only [putF_length]; exact k6, k7⟩
      · have hplt : p.i < ops.size := by
          rcases Nat.lt_or_ge p.i ops.size with h' | h'
          · exact h'
          · have := (hpl.get p hp).1; rw [Array.getElem?_eq_none h'] at this; cases this
        exact ⟨by simp [hplt], by simp [hplt], fun r hr => by simp at hr⟩
      · refine ⟨fun _ => hpl.all i hi, fun _ => ?_⟩
        simp [Array.getD, hi]
      · refine ⟨m, S, ht, ?_, hS, hm, fun i hi => hc i (by simp only [pad_length] at hi; omega), by simp only [pad_length]; omega, ?_, fun p hp j hj => ?_, fun n c h => ?_⟩
        · unfold HD
          simp only [putF_none]
          exact (hW.congr (hget_pad _ _)).same rfl rfl rfl rfl
        · unfold HD
          simp only [putF_none]
          exact hk.congr (hget_pad _ _)
        · have h1 := offAt_succ (E := E) ops.toList p.i p.o (by simpa using (hpl.get p hp).1)
          have h2 := offAt_needs (E := E) ops.toList (p.i + 1)
          refine ⟨by simp only [pad_length]; omega, ?_, hc _ (by simp only; omega)⟩
          simp only [hget_pad]
          exact hget_out _ _ (by omega)
        · simp only [List.getElem?_replicate] at h
          split at h <;> simp at h
    · cases hr
end Go.Abs
end

section
namespace Go.Abs
variable {P : Program} {B : Base} {m : MM} {S : SS} {F : FF} {H : Heap} {w : World}
def exitOf : Ex → Exit
  | .normal => .normal
  | .exit id => .exit id
  | .ret => .ret
theorem wpIn_loop_fuel {Fc : Fence} {n : Nat} {Q : Exit → Act → World → Prop} {a : Act} {w : World} {c : Code} (J : Nat → Act → World → Prop) (j0 : Nat) (h₀ : J j0 a w)
    (round : ∀ j a w, J j a w → c.wpIn Fc n P (Exit.then (fun a' w' => ∃ j', j' < j ∧ J j' a' w') Q) a w) : (Code.loop c).wpIn Fc n P Q a w := by
  intro b k cs hro hb hr
  have key : ∀ j a w, J j a w →
      ∃ e a' w', Q e a' w' ∧ ArrivesIn (Machine.fenced P Fc) P (lone (b.atR a (.code c :: .inLoop c :: k)) cs w) b k cs e a' w' := by
    intro j
    induction j using Nat.strongRecOn with
    | _ j ih =>
      intro a w hI
      obtain ⟨e, a₁, w₁, hq, harr⟩ := round j a w hI b (.inLoop c :: k) cs hro hb hr
      cases e with
      | normal =>
        obtain ⟨j', hlt, hI₁⟩ := hq
        obtain ⟨e₂, a₂, w₂, hq₂, harr₂⟩ := ih j' hlt a₁ w₁ hI₁
        exact ⟨e₂, a₂, w₂, hq₂, .of_steps (StepsIn.trans harr (.one (fenced_calm hb hr rfl) stepR_inLoop)) harr₂⟩
      | exit id => exact ⟨_, a₁, w₁, hq, .pass (x := .inLoop c) rfl (fun _ _ => .inl (by simp)) harr⟩
      | goto l => exact ⟨_, a₁, w₁, hq, .pass (x := .inLoop c) rfl (fun _ _ => .inl (by simp)) harr⟩
      | ret => exact ⟨_, a₁, w₁, hq, .pass (x := .inLoop c) rfl (fun _ _ => .inl (by simp)) harr⟩
      | panic ch => exact ⟨_, a₁, w₁, hq, .pass (x := .inLoop c) rfl (fun _ _ => .inl (by simp)) harr⟩
      | outgrown => exact ⟨_, a₁, w₁, hq, .pass (x := .inLoop c) rfl (fun _ _ => .inl (by simp)) harr⟩
  obtain ⟨e, a', w', hq, harr⟩ := key j0 a w h₀
  exact ⟨e, a', w', hq, .of_steps (.one (fenced_calm hb hr rfl) stepR_loop) harr⟩
def FcOK (X : Cx) (m0 : MM) (Fc : Fence) : Prop := match X.round with
  | none => Fc = Fence.wide
  | some l => l < X.base ∧ ∃ loc, m0 l = some loc ∧ Fc = Fence.wide.inRound loc.b
theorem FcOK.or {X : Cx} {m0 : MM} {Fc : Fence} (h : FcOK X m0 Fc) : Fc = Fence.wide ∨ ∃ l, Fc = Fence.wide.inRound l := by
  unfold FcOK at h
  split at h
  · exact .inl h
  · obtain ⟨_, loc, _, h⟩ := h; exact .inr ⟨_, h⟩
theorem run_getLoop {r : Nat} {lp : Loop} (h : w.heap[r]? = some (.loop lp)) : (Instr.getLoop r).run P w = .ok lp w := by simp [Instr.getLoop, getObj, Sem.run, h]
theorem run_setLoop {r : Nat} {lp : Loop} (h : w.heap[r]? = some (.loop lp)) (o : Obj) : (setObj r o).run P w = .ok () { w with heap := w.heap.setIfInBounds r o } := by simp [setObj, Sem.run, h]
theorem lt_of_get {b : Nat} {x : Obj} (h : w.heap[b]? = some x) : b < w.heap.size := by
  rcases Nat.lt_or_ge b w.heap.size with h' | h'
  · exact h'
  · rw [Array.getElem?_eq_none h'] at h; cases h
/-- a new object at the heap's end -/
theorem WR.grow (h : WR B m S F H w) (hc : Cap m H) {o : AO} {loc : Loc} {w' : World} (hsz : w.heap.size ≤ w'.heap.size) (hk : ∀ x, x < w.heap.size → w'.heap[x]? = w.heap[x]?) (hl : w.heap.size ≤ loc.b)
    (ho : OR (mput m H.length loc) S F w' H.length o) (h1 : w'.os = w.os) (h2 : w'.output = w.output) (h3 : w'.tape = w.tape) : WR B (mput m H.length loc) S F (H ++ [o]) w' := by
  have hpad : WR B m S F (pad H 1) w := h.congr (hget_pad _ _)
  have := hpad.put (b := H.length) (by simp [pad_length]) (by rw [hget_pad]; exact hget_out _ _ (Nat.le_refl _)) (hc _ (Nat.le_refl _)) hsz hk hl ho h1 h2 h3
  refine this.congr fun i => ?_
  rcases Nat.lt_trichotomy i H.length with h' | h' | h'
  · rw [hget_hset_ne _ _ _ _ (by omega), hget_pad, hget_append]; simp [h']
  · subst h'; rw [hget_hset_self _ _ _ (by simp [pad_length]), hget_append]; simp [hget_nil, hget_zero, hget_succ]
  · rw [hget_hset_ne _ _ _ _ (by omega), hget_pad, hget_append, hget_out H i (by omega)]
    simp only [show ¬ i < H.length by omega, if_false]
    rw [hget_out]; simp; omega
theorem enter_sound {X : Cx} {m0 : MM} {Fc : Fence} (hF : FcOK X m0 Fc) (hW : WR B m S F H w) (hm : ∀ i, i < X.base → m i = m0 i) (hcap : Cap m H) {ds : List Deferred} (hk : MK B.w0.heap.size m H ds w)
    (hl : roundOK X.round H = true) {tm : List AV} {tmps : Array Value} (ht : LR S tm m F tmps.toList) (fn : FuncId) (ps : Array Tmp) (assign body : Code) :
    ∃ l mark w1, (Instr.enterLoop fn tmps ps assign body Fc.round).run P w = .ok (l, mark) w1 ∧ WR B (mput m H.length ⟨l, 0, 0⟩) S F (H ++ [.loop .ready none tm ps.toList assign body]) w1 ∧
      MK B.w0.heap.size (mput m H.length ⟨l, 0, 0⟩) (H ++ [.loop .ready none tm ps.toList assign body]) (mark ++ ds) w1 := by
  have mutS : ∀ (loc : Loc) (b : Nat), b < w.heap.size → w.heap.size ≤ loc.b → mutBlk (mput m H.length loc) (H ++ [.loop .ready none tm ps.toList assign body]) b → mutBlk m H b := by
    rintro loc b hb hlb ⟨i, l, hi, hml, he⟩
    by_cases hih : i = H.length
    · subst hih; rw [mput_self] at hml; cases hml; omega
    · rw [mput_ne m _ _ hih] at hml
      refine ⟨i, l, ?_, hml, he⟩
      have hlt : i < H.length := by
        rcases Nat.lt_or_ge i H.length with h' | h'
        · exact h'
        · rw [hcap i h'] at hml; cases hml
      unfold Mut at *
      rw [hget_append] at hi; simpa [hlt] using hi
  unfold FcOK at hF
  cases hr : X.round with
  | none =>
    rw [hr] at hF
    simp only at hF
    subst hF
    refine ⟨w.heap.size + 1, [markD w.heap.size], { w with heap := (w.heap.push (.deferred (some []))).push (.loop { state := .ready, pending := none, fn, tmps, params := ps, assign, body, defers := w.heap.size }) }, ?_, ?_, ?_⟩
    · simp [Instr.enterLoop, Fence.wide, markD]; rfl
    · refine hW.grow hcap (loc := ⟨w.heap.size + 1, 0, 0⟩) (by simp; omega) (fun x hx => ?_) (by simp) ?_ rfl rfl rfl
      · simp only [Array.getElem?_push, Array.size_push]
        simp [show x ≠ w.heap.size + 1 by omega, show x ≠ w.heap.size by omega]
      · refine ⟨⟨w.heap.size + 1, 0, 0⟩, { state := .ready, pending := none, fn, tmps, params := ps, assign, body, defers := w.heap.size }, mput_self _ _ _, ?_, rfl, rfl, LR_renew ht (SS.le_refl _) (mput_le m _ _ (hcap _ (Nat.le_refl _))), rfl, rfl, rfl⟩
        rw [Array.getElem?_push, if_pos (by simp)]
    · have hnot : markD w.heap.size ∉ ds := fun hin => by
        obtain ⟨r, h1, h0, h2, h3⟩ := hk.1 _ hin
        have : r = w.heap.size := by simpa [markD] using h1.symm
        subst this
        have := lt_of_get h2; omega
      refine ⟨fun d hd => ?_, by simpa using ⟨hnot, hk.2⟩⟩
      simp only [List.singleton_append, List.mem_cons] at hd
      rcases hd with rfl | hd
      · refine ⟨w.heap.size, rfl, hW.size, by simp [Array.getElem?_push], ?_⟩
        rintro ⟨i, l, hi, hml, he⟩
        by_cases hih : i = H.length
        · subst hih; rw [mput_self] at hml; cases hml; simp only at he; omega
        · rw [mput_ne m _ _ hih] at hml
          have hlt : i < H.length := by
            rcases Nat.lt_or_ge i H.length with h' | h'
            · exact h'
            · rw [hcap i h'] at hml; cases hml
          have hi' : Mut H i := by unfold Mut at *; rw [hget_append] at hi; simpa [hlt] using hi
          obtain ⟨l', h1, h2⟩ := hW.block hi'
          rw [hml] at h1; cases h1; omega
      · obtain ⟨r, h1, h0, h2, h3⟩ := hk.1 _ hd
        have hrl := lt_of_get h2
        refine ⟨r, h1, h0, ?_, fun hb => h3 (mutS _ r hrl (by simp) hb)⟩
        simp only [Array.getElem?_push, Array.size_push]
        simp [show r ≠ w.heap.size + 1 by omega, show r ≠ w.heap.size by omega, h2]
  | some r =>
    rw [hr] at hF hl
    obtain ⟨hlt, loc, hm0, rfl⟩ := hF
    simp only [roundOK] at hl
    have ho := hW.obj r
    have hml : m r = some loc := by rw [hm r hlt]; exact hm0
    cases hg : hget H r <;> rw [hg] at hl ho <;> simp only [isLoop] at hl
    all_goals first
      | (cases hl; done)
      | skip
    obtain ⟨loc', lp, h1, h2, _⟩ := ho
    rw [hml] at h1; cases h1
    refine ⟨w.heap.size, [], { w with heap := w.heap.push (.loop { state := .ready, pending := none, fn, tmps, params := ps, assign, body, defers := lp.defers }) }, ?_, ?_, ?_⟩
    · simp [Instr.enterLoop, run_getLoop h2]
    · refine hW.grow hcap (loc := ⟨w.heap.size, 0, 0⟩) (by simp) (fun x hx => ?_) (by simp) ?_ rfl rfl rfl
      · simp [Array.getElem?_push, show x ≠ w.heap.size by omega]
      · refine ⟨⟨w.heap.size, 0, 0⟩, { state := .ready, pending := none, fn, tmps, params := ps, assign, body, defers := lp.defers }, mput_self _ _ _, ?_, rfl, rfl, LR_renew ht (SS.le_refl _) (mput_le m _ _ (hcap _ (Nat.le_refl _))), rfl, rfl, rfl⟩
        simp
    · refine ⟨fun d hd => ?_, by simpa using hk.2⟩
      obtain ⟨r', h1, h0, h2', h3⟩ := hk.1 _ hd
      have hrl := lt_of_get h2'
      refine ⟨r', h1, h0, ?_, fun hb => h3 (mutS _ r' hrl (by simp) hb)⟩
      simp [Array.getElem?_push, show r' ≠ w.heap.size by omega, h2']
end Go.Abs
end
