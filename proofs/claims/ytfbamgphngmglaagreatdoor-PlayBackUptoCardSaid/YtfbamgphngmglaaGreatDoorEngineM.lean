/- A certified abstract evaluator of the model's code (namespace Go.Abs), one part of it: what it answers holds of every run. Each theorem states its own conditions. -/
import Derived.Test.YtfbamgphngmglaaGreatDoorEngineL
set_option linter.unusedSimpArgs false
set_option linter.unusedVariables false
section
namespace Go.Abs
variable {P : Program} {B : Base} {m : MM} {S : SS} {F : FF} {H : Heap} {w : World}
/-! ### contracts -/
def ShOK (m m2 : MM) (b : Nat) : Prop := ∀ j loc, m j = some loc → m2 (b + j) = some loc
theorem shL_len (b : Nat) : ∀ (l : List AV), (shL b l).length = l.length
  | [] => by simp only [shL]
  | a :: l => by simp only [shL, List.length_cons, shL_len b l]
theorem shR_len (b : Nat) (r : Row) : (shR b r).len = r.len := by
  cases r <;> simp only [shR, Row.len, shL_len]
mutual
theorem VR_sh {m m2 : MM} {b : Nat} (hr : ShOK m m2 b) : ∀ (a : AV) {v : Value}, VR S a m noF v → VR S (shV b a) m2 F v
  | .bool _, _, h => by simpa only [shV, VR] using h
  | .int _ _, _, h => by simpa only [shV, VR] using h
  | .str _, _, h => by simpa only [shV, VR] using h
  | .ptr id e p n, _, h => by
    simp only [VR] at h
    obtain ⟨loc, h1, h2⟩ := h
    simp only [shV, VR]; exact ⟨loc, hr _ _ h1, h2⟩
  | .vptr r e p n, _, h => by
    simp only [VR] at h
    obtain ⟨a, off, c, h1, h2, h3, h4, h5⟩ := h
    have hl : (shR b r).len = r.len := shR_len b r
    simp only [shV, VR]
    exact ⟨a, off, c, h1, h2, by rw [hl]; exact h3, by rw [hl]; exact h4, by rw [hl]; exact RR_sh hr r h5⟩
  | .nilptr, _, h => by simpa only [shV, VR] using h
  | .sl id win esz cap, _, h => by
    simp only [VR] at h
    obtain ⟨loc, len, base', cap', h1, h2⟩ := h
    simp only [shV, VR]; exact ⟨loc, len, base', cap', hr _ _ h1, h2⟩
  | .vs r win esz tight, _, h => by
    simp only [VR] at h
    obtain ⟨a, off, c, len, base', cap', h1, h2, h3, h4, h5, h6, h7, h8, h9⟩ := h
    have hl : (shR b r).len = r.len := shR_len b r
    simp only [shV, VR]
    exact ⟨a, off, c, len, base', cap', h1, h2, by rw [hl]; exact h3, h4, h5, by rw [hl]; exact h6, h7, h8, by rw [hl]; exact RR_sh hr r h9⟩
  | .nilsl, _, h => by simpa only [shV, VR] using h
  | .raw id n, _, _ => by simp only [shV, VR]
  | .map id, _, h => by
    simp only [VR] at h
    obtain ⟨loc, h1, h2⟩ := h
    simp only [shV, VR]; exact ⟨loc, hr _ _ h1, h2⟩
  | .nilmap, _, h => by simpa only [shV, VR] using h
  | .fn (.yield l) first captured, _, _ => by simp only [shV, VR]
  | .fn (.func f) first captured, _, h => by
    simp only [VR] at h
    obtain ⟨g, fs, cs, h1, h2, h4, h5⟩ := h
    simp only [shV, VR]
    exact ⟨g, fs, cs, h1, h2, LR_sh hr first h4, LR_sh hr captured h5⟩
  | .fn (.method f) first captured, _, h => by
    simp only [VR] at h
    obtain ⟨g, fs, cs, h1, h2, h4, h5⟩ := h
    simp only [shV, VR]
    exact ⟨g, fs, cs, h1, h2, LR_sh hr first h4, LR_sh hr captured h5⟩
  | .fn (.methodOf t f) first captured, _, h => by
    simp only [VR] at h
    obtain ⟨g, fs, cs, h1, h2, h4, h5⟩ := h
    simp only [shV, VR]
    exact ⟨g, fs, cs, h1, h2, LR_sh hr first h4, LR_sh hr captured h5⟩
  | .fn (.via t p f b') first captured, _, h => by
    simp only [VR] at h
    obtain ⟨g, fs, cs, h1, h2, h4, h5⟩ := h
    simp only [shV, VR]
    exact ⟨g, fs, cs, h1, h2, LR_sh hr first h4, LR_sh hr captured h5⟩
  | .nilfn, _, h => by simpa only [shV, VR] using h
  | .iface t x, _, h => by
    simp only [VR] at h
    obtain ⟨u, h1, h2⟩ := h
    simp only [shV, VR]
    exact ⟨u, h1, VR_sh hr x h2⟩
  | .nilif, _, h => by simpa only [shV, VR] using h
  | .agg r, _, h => by
    simp only [VR] at h
    obtain ⟨cs, h1, h2⟩ := h
    simp only [shV, VR]
    exact ⟨cs, h1, RR_sh hr r h2⟩
  | .tup l, _, h => by
    simp only [VR] at h
    obtain ⟨vs, h1, h2⟩ := h
    simp only [shV, VR]
    exact ⟨vs, h1, LR_sh hr l h2⟩
  | .far a, _, _ => by simp only [shV, VR]
  | .top, _, _ => by simp only [shV, VR]
theorem RR_sh {m m2 : MM} {b : Nat} (hr : ShOK m m2 b) : ∀ (r : Row) {vs : List Value}, RR S r m noF vs → RR S (shR b r) m2 F vs
  | .vals l, _, h => by simp only [RR, shR] at h ⊢; exact ⟨LR_sh hr l h.1, h.2⟩
  | .ints k n z, _, h => by simpa only [RR, shR] using h
  | .rows k w n ls, _, h => by simpa only [RR, shR] using h
  | .pure n l, _, h => by simpa only [RR, shR] using h
theorem LR_sh {m m2 : MM} {b : Nat} (hr : ShOK m m2 b) : ∀ (l : List AV) {vs : List Value}, LR S l m noF vs → LR S (shL b l) m2 F vs
  | [], _, h => by simpa only [LR, shL] using h
  | a :: l, _, h => by
    simp only [LR, shL] at h ⊢
    obtain ⟨v, vs', h1, h2, h3⟩ := h
    exact ⟨v, vs', h1, VR_sh hr a h2, LR_sh hr l h3⟩
end
theorem MRel_sh {m m2 : MM} {b : Nat} (hr : ShOK m m2 b) : ∀ (l : List (AV × AV)) {es : List MapEntry}, MRel S l m noF es → MRel S (l.map fun p => (shV b p.1, shV b p.2)) m2 F es
  | [], _, h => h
  | (k, v) :: l, _, h => by
    simp only [MRel, List.map_cons] at h ⊢
    obtain ⟨e, es', h1, h2, h3, h4⟩ := h
    exact ⟨e, es', h1, VR_sh hr k h2, VR_sh hr v h3, MRel_sh hr l h4⟩
theorem OR_sh {m m2 : MM} {b : Nat} (hr : ShOK m m2 b) {j : Nat} {o : AO} (h : OR m S noF w j o) : OR m2 S F w (b + j) (shO b o) := by
  cases o with
  | cells r e =>
    obtain ⟨loc, c, fr, h1, h2, h3, h4, h5, h6, h7⟩ := h
    exact ⟨loc, c, fr, hr _ _ h1, h2, h3, h4, by rw [shR_len]; exact h5, h6, RR_sh hr r h7⟩
  | frozen r =>
    obtain ⟨loc, c, h1, h2, h3, h4, h5, h6⟩ := h
    exact ⟨loc, c, hr _ _ h1, h2, h3, by rw [shR_len]; exact h4, h5, RR_sh hr r h6⟩
  | map l =>
    obtain ⟨loc, es, clock, h1, h2, h3⟩ := h
    exact ⟨loc, es, clock, hr _ _ h1, h2, MRel_sh hr l h3⟩
  | loop st pend tm ps a b => trivial
  | dead => trivial
theorem putNew_length : ∀ (os : List AO) (h : Heap) (b : Nat), (putNew h b os).length = h.length
  | [], _, _ => rfl
  | o :: os, h, b => by rw [putNew, putNew_length os, hset_length]
theorem hget_putNew : ∀ (os : List AO) (h : Heap) (b i : Nat), (∀ j, j < os.length → b + j < h.length) → hget (putNew h b os) i = if b ≤ i ∧ i < b + os.length then hget os (i - b) else hget h i
  | [], h, b, i, _ => by
    have : ¬ (b ≤ i ∧ i < b + ([] : List AO).length) := by simp only [List.length_nil]; omega
    rw [if_neg this]; rfl
  | o :: os, h, b, i, hb => by
    rw [putNew, hget_putNew os _ _ _ (fun j hj => by rw [hset_length]; have := hb (j + 1) (by simpa using hj); omega)]
    have h0 : b < h.length := by simpa using hb 0 (by simp)
    by_cases h1 : i = b
    · subst h1
      rw [if_neg (by omega), if_pos (by simp), hget_hset_self _ _ _ h0, Nat.sub_self]; rfl
    · rw [hget_hset_ne _ _ _ _ h1]
      by_cases h2 : b + 1 ≤ i ∧ i < b + 1 + os.length
      · rw [if_pos h2, if_pos (by simp only [List.length_cons]; omega)]
        have : i - b = (i - (b + 1)) + 1 := by omega
        rw [this]; rfl
      · rw [if_neg h2, if_neg (by simp only [List.length_cons]; omega)]
def mrg (m m' : MM) (b n : Nat) : MM := fun i => if b ≤ i ∧ i < b + n then m' (i - b) else m i
theorem mutO_sh (b : Nat) (o : AO) (h : mutO (shO b o) = true) : mutO o = true := by cases o <;> first | rfl | cases h
theorem pureArg_sound (h : WR B m S F H w) {x x' : AV} {u : Value} {H' : Heap} (hu : VR S x m F u) (hp : pureArg H x = some (x', H')) :
    ∃ S', S.le S' ∧ WR B m S' F H' w ∧ Frz H H' ∧ VR S' x' noM noF u := by
  unfold pureArg at hp
  split at hp
  · cases hp
    refine ⟨S, SS.le_refl _, h, Frz.refl _, ?_⟩
    simp only [VR, RR] at hu ⊢
    exact hu
  · rename_i k x l
    split at hp
    · rename_i z hz
      cases hp
      refine ⟨S, SS.le_refl _, h, Frz.refl _, ?_⟩
      simp only [VR, RR, LR] at hu ⊢
      obtain ⟨cs, rfl, ⟨v, vs', hcs, rfl, hl⟩, _⟩ := hu
      obtain ⟨h1, rfl⟩ := allInts_sound hl hz
      exact ⟨cs, rfl, rfl, by rw [hcs]; rfl⟩
    · cases hp
  · exact purify_sound h hu hp
theorem pureArg_length {H H' : Heap} {x x' : AV} (hp : pureArg H x = some (x', H')) : H'.length = H.length := by
  unfold pureArg at hp
  split at hp
  · cases hp; rfl
  · split at hp
    · cases hp; rfl
    · cases hp
  · exact purify_length hp
theorem pureArgs_sound : ∀ {l l' : List AV} {S : SS} {H H' : Heap} {us : List Value}, WR B m S F H w → LR S l m F us → pureArgs H l = some (l', H') →
    ∃ S', S.le S' ∧ WR B m S' F H' w ∧ Frz H H' ∧ LR S' l' noM noF us
  | [], _, S, H, _, _, h, hu, hp => by
    cases hp
    exact ⟨S, SS.le_refl _, h, Frz.refl _, by simpa only [LR] using hu⟩
  | x :: l, l', S, H, H', us, h, hu, hp => by
    simp only [LR] at hu
    obtain ⟨u, us', rfl, hu1, hu2⟩ := hu
    unfold pureArgs at hp
    split at hp
    · rename_i x' h1 hx
      split at hp
      · rename_i l1 h2 hl
        cases hp
        obtain ⟨S1, a1, a2, a3, a4⟩ := pureArg_sound h hu1 hx
        obtain ⟨S2, b1, b2, b3, b4⟩ := pureArgs_sound a2 (LR.mono a1 l (MM.le_refl _) (FF.le_refl _) hu2) hl
        refine ⟨S2, SS.le_trans a1 b1, b2, a3.trans b3, ?_⟩
        simp only [LR]
        exact ⟨u, us', rfl, VR.mono b1 x' (MM.le_refl _) (FF.le_refl _) a4, b4⟩
      · cases hp
    · cases hp
/-- of a function without arguments: one scalar -/
def runConst (v : AV) (args : List AV) : Option (AV × Heap) := match args with | [] => some (v, []) | _ => none
def conConst (v : AV) : Con where
  run := runConst v
  fresh := 0
theorem runConst_eq {v y : AV} {args : List AV} {h2 : Heap} (h : runConst v args = some (y, h2)) : args = [] ∧ y = v ∧ h2 = [] := by
  cases args with
  | nil => cases h; exact ⟨rfl, rfl, rfl⟩
  | cons a l => cases h
/-- what a contract is to hold of a function -/
def ConSpec (P : Program) (glob : Nat → Option (Row × Nat)) (c : Con) (f : FuncId) : Prop :=
  ∀ args v h2, c.run args = some (v, h2) → ∀ (S : SS) (w : World) (vs : Array Value), GlobOK glob S → (∀ b c, S b = some c → ∃ e fr, w.heap[b]? = some (.cells c e fr)) → LR S args noM noF vs.toList →
    Has P f ∧ CallsIn Fence.wide 0 P f vs w fun e w' => ∃ u m' S', e = .returned u ∧ VR S' v m' noF u ∧ WR (Go.Abs.rebase noM S [] w) m' S' noF h2 w' ∧ S.le S' ∧ Cap m' h2
theorem scalar_any {v : AV} {u : Value} {S' : SS} {m' : MM} {F' : FF} (hs : scalarAV v = true) (h : VR S v m F u) : VR S' v m' F' u := by
  cases v with
  | bool _ => simpa only [VR] using h
  | int _ _ => simpa only [VR] using h
  | str _ => simpa only [VR] using h
  | agg r =>
    cases r with
    | ints k n z => simpa only [VR, RR] using h
    | _ => cases hs
  | tup l =>
    simp only [VR] at h ⊢
    obtain ⟨vs, rfl, h⟩ := h
    refine ⟨vs, rfl, ?_⟩
    have key : ∀ (l : List AV) (us : List Value), (l.all fun | .bool _ | .int _ _ | .str _ | .agg (.ints ..) => true | _ => false) = true → LR S l m F us → LR S' l m' F' us := by
      intro l
      induction l with
      | nil => intro us _ h; simpa only [LR] using h
      | cons a l ih =>
        intro us hs h
        simp only [List.all_cons, Bool.and_eq_true] at hs
        simp only [LR] at h ⊢
        obtain ⟨u, us', rfl, h1, h2⟩ := h
        refine ⟨u, us', rfl, ?_, ih us' hs.2 h2⟩
        cases a with
        | bool _ => simpa only [VR] using h1
        | int _ _ => simpa only [VR] using h1
        | str _ => simpa only [VR] using h1
        | agg r =>
          cases r with
          | ints k n z => simpa only [VR, RR] using h1
          | _ => cases hs.1
        | _ => cases hs.1
    exact key l _ hs h
  | _ => cases hs
/-- nothing of the caller's was touched -/
theorem WR.still (h : WR B m S F H w) {w' : World} (hs : w.heap.size ≤ w'.heap.size) (keep : ∀ b, b < w.heap.size → w'.heap[b]? = w.heap[b]?) (h1 : w'.os = w.os) (h2 : w'.output = w.output) (h3 : w'.tape = w.tape) : WR B m S F H w' := by
  have lt : ∀ b x, w.heap[b]? = some x → b < w.heap.size := fun b x hb => by
    rcases Nat.lt_or_ge b w.heap.size with h' | h'
    · exact h'
    · rw [Array.getElem?_eq_none h'] at hb; cases hb
  have blk : ∀ i l, Mut H i → m i = some l → l.b < w.heap.size := fun i l hi hl => by
    obtain ⟨l', h1, h2⟩ := OR.block hi (h.obj i)
    rw [hl] at h1; cases h1; exact h2
  exact {
    obj := fun id => OR.mono (MM.le_refl _) (SS.le_refl _) (h.obj id) fun l hmut hl => keep _ (blk id l hmut hl)
    inj := h.inj
    stab := fun b c hb => by obtain ⟨e, fr, h1⟩ := h.stab b c hb; exact ⟨e, fr, by rw [keep b (lt _ _ h1)]; exact h1⟩
    apart := h.apart
    size := Nat.le_trans h.size hs
    keep := fun b hb hD => by
      rw [keep b (Nat.lt_of_lt_of_le hb h.size)]
      exact h.keep b hb hD
    own := h.own
    fresh := h.fresh
    os := h1.trans h.os
    output := h2.trans h.output
    tape := h3.trans h.tape }
theorem shOK_mrg {m' : MM} {h2 : Heap} (b : Nat) (hc : Cap m' h2) : ShOK m' (mrg m m' b h2.length) b := fun j loc hj => by
  have : j < h2.length := by
    rcases Nat.lt_or_ge j h2.length with h' | h'
    · exact h'
    · rw [hc j h'] at hj; cases hj
  unfold mrg
  rw [if_pos (by omega), Nat.add_sub_cancel_left]; exact hj
theorem mrg_le {m' : MM} {b n : Nat} (hf : Fresh H m b n) : m.le (mrg m m' b n) := fun i loc hi => by
  unfold mrg
  split
  · rename_i hb
    have := (hf (i - b) (by omega)).2.2
    rw [show b + (i - b) = i by omega, hi] at this; cases this
  · exact hi
/-- what a call laid lies beside the caller's own -/
theorem WR.merge {m' : MM} {S' : SS} {h2 : Heap} {w' : World} {b : Nat} (h : WR B m S F H w) (hf : Fresh H m b h2.length) (h' : WR (Go.Abs.rebase noM S [] w) m' S' noF h2 w') (hS : S.le S') (hc : Cap m' h2) :
    WR B (mrg m m' b h2.length) S' F (putNew H b (h2.map (shO b))) w' := by
  have h1 : WR B m S' F H w' := h.outside h' hS
  have hg : ∀ i, hget (putNew H b (h2.map (shO b))) i = if b ≤ i ∧ i < b + h2.length then shO b (hget h2 (i - b)) else hget H i := fun i => by
    rw [hget_putNew _ _ _ _ (fun j hj => (hf j (by simpa using hj)).1), List.length_map]
    split
    · rw [hget_map _ rfl]
    · rfl
  have new : ∀ i l, b ≤ i ∧ i < b + h2.length → Mut (putNew H b (h2.map (shO b))) i → mrg m m' b h2.length i = some l → Mut h2 (i - b) ∧ m' (i - b) = some l ∧ w.heap.size ≤ l.b := fun i l hb hi hl => by
    unfold Mut at hi
    rw [hg, if_pos hb] at hi
    have hi : Mut h2 (i - b) := mutO_sh b _ hi
    unfold mrg at hl
    rw [if_pos hb] at hl
    refine ⟨hi, hl, ?_⟩
    rcases h'.own _ _ hi hl with h3 | h3
    · exact (mutBlk_nil noM _ h3).elim
    · exact h3
  have old : ∀ i l, ¬ (b ≤ i ∧ i < b + h2.length) → Mut (putNew H b (h2.map (shO b))) i → mrg m m' b h2.length i = some l → Mut H i ∧ m i = some l ∧ l.b < w.heap.size := fun i l hb hi hl => by
    unfold Mut at hi
    rw [hg, if_neg hb] at hi
    unfold mrg at hl
    rw [if_neg hb] at hl
    obtain ⟨l', h3, h4⟩ := OR.block hi (h.obj i)
    rw [hl] at h3; cases h3
    exact ⟨hi, hl, h4⟩
  exact {
    obj := fun i => by
      rw [hg]
      split
      · rename_i hb
        have := OR_sh (F := F) (shOK_mrg (m := m) b hc) (h'.obj (i - b))
        rwa [show b + (i - b) = i by omega] at this
      · exact OR.mono (mrg_le hf) (SS.le_refl _) (h1.obj i) fun _ _ _ => rfl
    inj := fun i j l l' hi hj hl hl' he => by
      by_cases hbi : b ≤ i ∧ i < b + h2.length <;> by_cases hbj : b ≤ j ∧ j < b + h2.length
      · obtain ⟨a1, a2, _⟩ := new i l hbi hi hl
        obtain ⟨b1, b2, _⟩ := new j l' hbj hj hl'
        have := h'.inj _ _ _ _ a1 b1 a2 b2 he
        omega
      · obtain ⟨_, _, a3⟩ := new i l hbi hi hl
        obtain ⟨_, _, b3⟩ := old j l' hbj hj hl'
        omega
      · obtain ⟨_, _, a3⟩ := old i l hbi hi hl
        obtain ⟨_, _, b3⟩ := new j l' hbj hj hl'
        omega
      · obtain ⟨a1, a2, _⟩ := old i l hbi hi hl
        obtain ⟨b1, b2, _⟩ := old j l' hbj hj hl'
        exact h.inj _ _ _ _ a1 b1 a2 b2 he
    stab := h'.stab
    apart := fun i l hi hl => by
      by_cases hbi : b ≤ i ∧ i < b + h2.length
      · obtain ⟨a1, a2, _⟩ := new i l hbi hi hl
        exact h'.apart _ _ a1 a2
      · obtain ⟨a1, a2, _⟩ := old i l hbi hi hl
        exact h1.apart _ _ a1 a2
    size := h1.size
    keep := h1.keep
    own := fun i l hi hl => by
      by_cases hbi : b ≤ i ∧ i < b + h2.length
      · obtain ⟨_, _, a3⟩ := new i l hbi hi hl
        exact .inr (Nat.le_trans h.size a3)
      · obtain ⟨a1, a2, _⟩ := old i l hbi hi hl
        exact h1.own _ _ a1 a2
    fresh := h1.fresh
    os := h1.os
    output := h1.output
    tape := h1.tape }
theorem conOK_of {E : Env} (hs : ∀ f c, E.con f = some c → ConSpec P E.glob c f) : ConOK P E := by
  intro f c hc args h b y h' hr
  have spec := hs f c hc
  unfold callCon at hr
  split at hr
  · cases hr
  · rename_i args' h1 hp
    split at hr
    · cases hr
    · rename_i v h2 hrun
      have hfz : h1.length = h.length := by
        have key : ∀ (l l' : List AV) (H H' : Heap), pureArgs H l = some (l', H') → H'.length = H.length := by
          intro l
          induction l with
          | nil => intro l' H H' hq; cases hq; rfl
          | cons a l ih =>
            intro l' H H' hq
            unfold pureArgs at hq
            split at hq
            · rename_i x' H1 hx
              split at hq
              · rename_i l1 H2 hl
                cases hq
                exact (ih _ _ _ hl).trans (pureArg_length hx)
              · cases hq
            · cases hq
        exact key _ _ _ _ hp
      split at hr
      · rename_i hlen
        have hlen := Nat.eq_of_beq_eq_true hlen
        split at hr
        · rename_i hz
          rw [Bool.and_eq_true] at hz
          have hz0 := Nat.eq_of_beq_eq_true hz.1
          cases hr
          refine ⟨rfl, fun B m S F w vs hG hW hf ha => ?_⟩
          obtain ⟨S1, a1, a2, a3, a4⟩ := pureArgs_sound hW ha hp
          obtain ⟨hhas, hcall⟩ := spec _ _ _ hrun S1 w vs (hG.mono a1) a2.stab a4
          refine ⟨hhas, hcall.mono fun e w' ⟨u, m', S', he, hu, hw', hs', hc'⟩ => ?_⟩
          exact ⟨u, m, S, he, scalar_any hz.2 hu, hW.still hw'.size (fun b hb => hw'.keep b hb (mutBlk_nil noM b)) hw'.os hw'.output hw'.tape, SS.le_refl _, fun _ _ => rfl⟩
        · cases hr
          refine ⟨by rw [putNew_length]; exact hfz, fun B m S F w vs hG hW hf ha => ?_⟩
          obtain ⟨S1, a1, a2, a3, a4⟩ := pureArgs_sound hW ha hp
          obtain ⟨hhas, hcall⟩ := spec _ _ _ hrun S1 w vs (hG.mono a1) a2.stab a4
          refine ⟨hhas, hcall.mono fun e w' ⟨u, m', S', he, hu, hw', hs', hc'⟩ => ?_⟩
          have hf' : Fresh h1 m b h2.length := by rw [hlen]; exact a3.fresh hf
          refine ⟨u, mrg m m' b h2.length, S', he, VR.mono (SS.le_refl _) _ (MM.le_refl _) (noF_le F) (VR_sh (shOK_mrg b hc') v hu), a2.merge hf' hw' hs' hc', SS.le_trans a1 hs', fun i hi => ?_⟩
          unfold mrg
          rw [if_neg (by rw [hlen]; omega)]
      · cases hr
/-- a contract out of the evaluator's run on an empty heap -/
theorem conSpec_of_eval {E : Env} {inl : Inl} (hI : InlOK P E inl) {c : Con} {f : FuncId} (hr : ∀ args v h2, c.run args = some (v, h2) → inl (.fn f) args [] = some (v, h2)) {glob : Nat → Option (Row × Nat)} (hg : glob = E.glob) : ConSpec P glob c f := by
  intro args v h2 hrun S w vs hG hst ha
  have hW : WR (Go.Abs.rebase noM S [] w) noM S noF [] w := {
    obj := fun id => by rw [hget_nil]; trivial
    inj := fun i j l l' _ _ hl => by cases hl
    stab := hst
    apart := fun i l _ hl => by cases hl
    size := Nat.le_refl _
    keep := fun _ _ _ => rfl
    own := fun i l _ hl => by cases hl
    fresh := fun b c hb => .inl hb
    os := rfl
    output := rfl
    tape := rfl }
  obtain ⟨hhas, hcall⟩ := hI _ _ _ _ _ (hr _ _ _ hrun) _ _ S noF w vs (hg ▸ hG) hW (fun _ _ => rfl) ha
  refine ⟨hhas, hcall.mono fun e w' ⟨u, m', S', he, hu, hw', hs', _, hc', _⟩ => ⟨u, m', S', he, hu, hw', hs', hc'⟩⟩
/-- a contract whose result is a scalar, out of the evaluator's run on an empty heap -/
theorem conSpec_scalar {E : Env} {inl : Inl} (hI : InlOK P E inl) {c : Con} {f : FuncId} (hr : ∀ args v h2, c.run args = some (v, h2) → h2 = [] ∧ scalarAV v = true ∧ ∃ h3, inl (.fn f) args [] = some (v, h3)) {glob : Nat → Option (Row × Nat)} (hg : glob = E.glob) : ConSpec P glob c f := by
  intro args v h2 hrun S w vs hG hst ha
  obtain ⟨rfl, hsc, h3, hr⟩ := hr _ _ _ hrun
  have hW : WR (Go.Abs.rebase noM S [] w) noM S noF [] w := {
    obj := fun id => by rw [hget_nil]; trivial
    inj := fun i j l l' _ _ hl => by cases hl
    stab := hst
    apart := fun i l _ hl => by cases hl
    size := Nat.le_refl _
    keep := fun _ _ _ => rfl
    own := fun i l _ hl => by cases hl
    fresh := fun b c hb => .inl hb
    os := rfl
    output := rfl
    tape := rfl }
  obtain ⟨hhas, hcall⟩ := hI _ _ _ _ _ hr _ _ S noF w vs (hg ▸ hG) hW (fun _ _ => rfl) ha
  refine ⟨hhas, hcall.mono fun e w' ⟨u, m', S', he, hu, hw', hs', _, hc', _⟩ => ⟨u, noM, S', he, scalar_any hsc hu, ?_, hs', fun _ _ => rfl⟩⟩
  exact {
    obj := fun id => by rw [hget_nil]; trivial
    inj := fun i j l l' _ _ hl => by cases hl
    stab := hw'.stab
    apart := fun i l _ hl => by cases hl
    size := hw'.size
    keep := hw'.keep
    own := fun i l _ hl => by cases hl
    fresh := hw'.fresh
    os := hw'.os
    output := hw'.output
    tape := hw'.tape }
/-- a contract out of a walk: what was there is there as it was, and the result is a scalar -/
theorem conSpec_of_walk {c : Con} {f : FuncId} {glob : Nat → Option (Row × Nat)}
    (hr : ∀ args v h2, c.run args = some (v, h2) → h2 = [] ∧ scalarAV v = true ∧ ∀ (S : SS) (w : World) (vs : Array Value), GlobOK glob S → (∀ b c, S b = some c → ∃ e fr, w.heap[b]? = some (.cells c e fr)) → LR S args noM noF vs.toList →
      Has P f ∧ CallsIn Fence.wide 0 P f vs w fun e w' => ∃ u, e = .returned u ∧ VR S v noM noF u ∧ w.heap.size ≤ w'.heap.size ∧ (∀ b, b < w.heap.size → w'.heap[b]? = w.heap[b]?) ∧ w'.os = w.os ∧ w'.output = w.output ∧ w'.tape = w.tape) : ConSpec P glob c f := by
  intro args v h2 hrun S w vs hG hst ha
  obtain ⟨rfl, hsc, hr⟩ := hr _ _ _ hrun
  obtain ⟨hhas, hcall⟩ := hr S w vs hG hst ha
  have lt : ∀ b x, w.heap[b]? = some x → b < w.heap.size := fun b x hb => by
    rcases Nat.lt_or_ge b w.heap.size with h' | h'
    · exact h'
    · rw [Array.getElem?_eq_none h'] at hb; cases hb
  refine ⟨hhas, hcall.mono fun e w' ⟨u, he, hu, h1, h3, h4, h5, h6⟩ => ⟨u, noM, S, he, hu, ?_, SS.le_refl _, fun _ _ => rfl⟩⟩
  exact {
    obj := fun id => by rw [hget_nil]; trivial
    inj := fun i j l l' _ _ hl => by cases hl
    stab := fun b c hb => by obtain ⟨e, fr, h7⟩ := hst b c hb; exact ⟨e, fr, by rw [h3 b (lt _ _ h7)]; exact h7⟩
    apart := fun i l _ hl => by cases hl
    size := h1
    keep := fun b hb _ => h3 b hb
    own := fun i l _ hl => by cases hl
    fresh := fun b c hb => .inl hb
    os := h4
    output := h5
    tape := h6 }
end Go.Abs
end

section
namespace Go.Abs
variable {P : Program}
/-! ### a contract that is a function's own run on an empty heap -/
def padH (n : Nat) (h : Heap) : Heap := h ++ List.replicate (n - h.length) .dead
theorem hget_deads : ∀ (k i : Nat), hget (List.replicate k .dead) i = .dead
  | 0, i => hget_nil i
  | k + 1, 0 => rfl
  | k + 1, i + 1 => hget_deads k i
theorem hget_padH (n : Nat) (h : Heap) (i : Nat) : hget (padH n h) i = hget h i := by
  unfold padH
  rw [hget_append]
  split
  · rfl
  · rename_i hi
    rw [hget_deads, hget_out h i (by omega)]
theorem padH_le (n : Nat) (h : Heap) : h.length ≤ (padH n h).length := by
  unfold padH; rw [List.length_append]; omega
theorem WR.alike {B : Base} {m : MM} {S : SS} {F : FF} {H H' : Heap} {w : World} (h : WR B m S F H w) (he : ∀ i, hget H' i = hget H i) : WR B m S F H' w where
  obj i := by rw [he]; exact h.obj i
  inj i j l l' hi hj := h.inj i j l l' (by unfold Mut at *; rwa [← he]) (by unfold Mut at *; rwa [← he])
  stab := h.stab
  apart i l hi := h.apart i l (by unfold Mut at *; rwa [← he])
  size := h.size
  keep := h.keep
  own i l hi := h.own i l (by unfold Mut at *; rwa [← he])
  fresh := h.fresh
  os := h.os
  output := h.output
  tape := h.tape
def runEval (inl : Inl) (f : FuncId) (n : Nat) (args : List AV) : Option (AV × Heap) := match inl (.fn f) args [] with | some (v, h) => some (v, padH n h) | none => none
def conEval (inl : Inl) (f : FuncId) (n : Nat) : Con where
  run := runEval inl f n
  fresh := n
theorem runEval_eq {inl : Inl} {f : FuncId} (n : Nat) {args : List AV} {v : AV} {h h' : Heap} (hr : inl (.fn f) args [] = some (v, h)) (hp : padH n h = h') : (conEval inl f n).run args = some (v, h') := by
  show runEval inl f n args = _
  unfold runEval
  rw [hr, ← hp]
theorem conEval_ok {E : Env} {inl : Inl} (hI : InlOK P E inl) (f : FuncId) (n : Nat) {glob : Nat → Option (Row × Nat)} (hg : glob = E.glob) : ConSpec P glob (conEval inl f n) f := by
  intro args v h2 hrun S w vs hG hst ha
  replace hrun : runEval inl f n args = some (v, h2) := hrun
  unfold runEval at hrun
  split at hrun
  · rename_i v' h hr
    cases hrun
    obtain ⟨hhas, hcall⟩ := conSpec_of_eval (c := { run := fun args => inl (.fn f) args [], fresh := n }) hI (fun _ _ _ h => h) hg args v h hr S w vs hG hst ha
    refine ⟨hhas, hcall.mono fun e w' ⟨u, m', S', he, hu, hw', hs', hc'⟩ => ⟨u, m', S', he, hu, hw'.alike (hget_padH n h), hs', fun i hi => hc' i (Nat.le_trans (padH_le n h) hi)⟩⟩
  · cases hrun
/-- what a contract tells, out of its run -/
theorem callCon_new {c : Con} {args args' : List AV} {h h1 h2 : Heap} {v : AV} (b : Nat) (hp : pureArgs h args = some (args', h1)) (hr : c.run args' = some (v, h2)) (hl : Nat.beq h2.length c.fresh = true) (hs : (Nat.beq c.fresh 0 && scalarAV v) = false) :
    callCon c args h b = some (shV b v, putNew h1 b (h2.map (shO b))) := by
  unfold callCon
  simp only [hp, hr, hl, hs, if_true, Bool.false_eq_true, if_false]
theorem callCon_old {c : Con} {args args' : List AV} {h h1 : Heap} {v : AV} (b : Nat) (hp : pureArgs h args = some (args', h1)) (hr : c.run args' = some (v, [])) (hl : c.fresh = 0) (hs : scalarAV v = true) :
    callCon c args h b = some (v, h) := by
  unfold callCon
  simp only [hp, hr, hl, hs, List.length_nil, Nat.beq_refl, Bool.and_self, if_true]
end Go.Abs
end
