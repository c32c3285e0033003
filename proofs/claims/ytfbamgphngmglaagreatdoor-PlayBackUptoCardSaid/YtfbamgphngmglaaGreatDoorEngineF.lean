/- A certified abstract evaluator of the model's code (namespace Go.Abs), one part of it: what it answers holds of every run. Each theorem states its own conditions. -/
import Derived.Test.YtfbamgphngmglaaGreatDoorEngineE
import Derived.MapKept
import Derived.Laws.BytesArg
import Derived.Lib.Builder
import Derived.Lib.UnsafeStr
import Derived.Lib.Bytealg
import Derived.Lib.MakeNoZero
set_option linter.unusedSimpArgs false
set_option linter.unusedVariables false
section
namespace Go.Abs
variable {P : Program} {B : Base} {m : MM} {S : SS} {F : FF} {H : Heap} {w : World}
theorem bnd_sound {o : Option AV} {ov : Option Value} (h : match o, ov with | some a, some v => VR S a m F v | none, none => True | _, _ => False) {z l : Int} (hb : bnd o z = some l) :
    (o = none ∧ ov = none ∧ l = z) ∨ ∃ k, ov = some (.int k l) := by
  cases o with
  | none => cases ov with
    | none => simp only [bnd, Option.some.injEq] at hb; exact .inl ⟨rfl, rfl, hb.symm⟩
    | some _ => exact h.elim
  | some a => cases ov with
    | none => exact h.elim
    | some v =>
      cases a <;> simp only [bnd] at hb
      all_goals first
        | (cases hb; done)
        | (cases hb; simp only [VR] at h; exact .inr ⟨_, by rw [h]⟩)
theorem run_sliceBound {k : IntKind} {i : Int} {y : Nat} {code : BoundsCode} (h : 0 ≤ i ∧ i ≤ (y : Int)) : (Instr.sliceBound (.int k i) y code).run P w = .ok i.toNat w := by
  simp [Instr.sliceBound, asIntOf, h]
theorem addr_addz (a o n : Nat) (c : Prop) [Decidable c] (h : c → n = 0) : (if c then (⟨a, o, none⟩ : Addr) else (⟨a, o, none⟩ : Addr).add n) = ⟨a, o + n, none⟩ := by
  split
  · rename_i hc; rw [h hc]; rfl
  · rw [addr_add]

def OptR (S : SS) (m : MM) (F : FF) (o : Option AV) (ov : Option Value) : Prop := match o, ov with | some a, some v => VR S a m F v | none, none => True | _, _ => False
theorem bnd_run {o : Option AV} {ov : Option Value} (h : OptR S m F o ov) {z l : Int} (hb : bnd o z = some l) : (o = none ∧ ov = none ∧ l = z) ∨ ((∃ a, o = some a) ∧ ∃ k, ov = some (.int k l)) := by
  rcases bnd_sound h hb with ⟨rfl, rfl, h3⟩ | ⟨k, rfl⟩
  · exact .inl ⟨rfl, rfl, h3⟩
  · cases o with
    | none => exact h.elim
    | some a => exact .inr ⟨⟨a, rfl⟩, k, rfl⟩
/-- the bounds, worked out -/
theorem run_sliceBounds {isSlice : Bool} {n cap : Nat} {lo hi : Option AV} {lov hiv : Option Value} (hlo : OptR S m F lo lov) (hhi : OptR S m F hi hiv) {l u : Int} (h1 : bnd lo 0 = some l) (h2 : bnd hi n = some u) (h : 0 ≤ l ∧ l ≤ u ∧ u ≤ n) (hc : n ≤ cap) :
    (Instr.sliceBounds isSlice n cap lov hiv none).run P w = .ok (l.toNat, u.toNat, cap) w := by
  have hu : u.toNat ≤ n := by omega
  have e1 : ∀ (k : IntKind) (code : BoundsCode), (Instr.sliceBound (.int k u) cap code).run P w = .ok u.toNat w := fun k code => run_sliceBound (by omega)
  have e2 : ∀ (k : IntKind) (code : BoundsCode), (Instr.sliceBound (.int k l) u.toNat code).run P w = .ok l.toNat w := fun k code => run_sliceBound (by omega)
  rcases bnd_run hlo h1 with ⟨rfl, rfl, rfl⟩ | ⟨_, k, rfl⟩ <;> rcases bnd_run hhi h2 with ⟨rfl, rfl, rfl⟩ | ⟨_, k', rfl⟩ <;> simp [Instr.sliceBounds, e1, e2]
  have e3 := e2 k .sliceB
  simp only [Int.toNat_natCast] at e3
  simp [e3]
theorem run_sliceBounds3 {isSlice : Bool} {n cap : Nat} {lo hi mx : Option AV} {lov hiv mxv : Option Value} (hlo : OptR S m F lo lov) (hhi : OptR S m F hi hiv) (hmx : OptR S m F mx mxv) {l u q : Int} (h1 : bnd lo 0 = some l) (h2 : bnd hi n = some u) (h3 : bnd mx 0 = some q)
    (hh : ∃ a, hi = some a) (hm : ∃ a, mx = some a) (h : 0 ≤ l ∧ l ≤ u ∧ u ≤ n) (hq : u ≤ q ∧ q ≤ n) (hc : n ≤ cap) :
    (Instr.sliceBounds isSlice n cap lov hiv mxv).run P w = .ok (l.toNat, u.toNat, q.toNat) w := by
  have e0 : ∀ (k : IntKind) (code : BoundsCode), (Instr.sliceBound (.int k q) cap code).run P w = .ok q.toNat w := fun k code => run_sliceBound (by omega)
  have e1 : ∀ (k : IntKind) (code : BoundsCode), (Instr.sliceBound (.int k u) q.toNat code).run P w = .ok u.toNat w := fun k code => run_sliceBound (by omega)
  have e2 : ∀ (k : IntKind) (code : BoundsCode), (Instr.sliceBound (.int k l) u.toNat code).run P w = .ok l.toNat w := fun k code => run_sliceBound (by omega)
  obtain ⟨a, rfl⟩ := hh
  obtain ⟨b, rfl⟩ := hm
  rcases bnd_run hmx h3 with ⟨h', _⟩ | ⟨_, k1, rfl⟩
  · cases h'
  rcases bnd_run hhi h2 with ⟨h', _⟩ | ⟨_, k2, rfl⟩
  · cases h'
  rcases bnd_run hlo h1 with ⟨rfl, rfl, rfl⟩ | ⟨_, k, rfl⟩ <;> simp [Instr.sliceBounds, e0, e1, e2]
theorem subB_eq (s : ByteArray) (l u : Nat) : subB s l u = s.extract l u := by
  unfold subB
  rw [takeR_eq, dropR_eq]
  apply ByteArray.ext
  apply Array.toList_inj.mp
  simp [ofL, bytesL, ByteArray.data_extract, List.extract_eq_take_drop]
theorem sliceStr_sound (h : WR B m S F H w) {t : TypeId} (hund : P.underlying t = some .string) {s : ByteArray} {u : Value} (hu : VR S (.str s) m F u) {lo hi : Option AV} {lov hiv : Option Value} (hlo : OptR S m F lo lov) (hhi : OptR S m F hi hiv) {y : AV} (hy : sliceStr s lo hi = some y) {b n : Nat} :
    Out P B F (do pure (.value (← Instr.sliceAt t u lov hiv none))) w m S b n y H := by
  unfold sliceStr at hy
  split at hy
  · rename_i l q hl hq
    split at hy
    · rename_i hb
      cases hy
      simp only [VR] at hu; subst hu
      refine Out.val h (u := .string (s.extract l.toNat q.toNat)) ?_ (by simp only [VR, subB_eq])
      simp [Instr.sliceAt, Instr.slice, run_underlying hund, run_sliceBounds hlo hhi hl hq hb (Nat.le_refl _)]
    · cases hy
  · cases hy
theorem sliceWin_ok {win : Option (Nat × Nat)} {esz N len base : Nat} (h : winOk win esz N len base) {lo hi : Option AV} {l u : Int} (h1 : bnd lo 0 = some l) (h2 : bnd hi len = some u) (hb : 0 ≤ l ∧ l ≤ u ∧ u ≤ len) (z : Nat) (hz : z = l.toNat ∨ (z = 0 ∧ u = l)) :
    winOk (sliceWin win lo hi l.toNat u.toNat) esz N (u.toNat - l.toNat) (base + z) := by
  have hne : winOk (some (ixOf win l.toNat, u.toNat - l.toNat)) esz N (u.toNat - l.toNat) (base + z) := by
    cases win with
    | none =>
      obtain ⟨k1, rfl⟩ := h
      refine ⟨rfl, by simp only [ixOf]; omega, by simp only [ixOf]; omega, ?_⟩
      rw [← k1]; exact Nat.mul_le_mul_right _ (by simp only [ixOf]; omega)
    | some x =>
      obtain ⟨q, k⟩ := x
      obtain ⟨rfl, k1, k2, k3⟩ := h
      refine ⟨rfl, by simp only [ixOf]; omega, by simp only [ixOf]; omega, ?_⟩
      exact Nat.le_trans (Nat.mul_le_mul_right _ (by simp only [ixOf]; omega)) k3
  cases lo with
  | some _ => exact hne
  | none => cases hi with
    | some _ => exact hne
    | none =>
      simp only [bnd, Option.some.injEq] at h1 h2
      subst h1; subst h2
      have : z = 0 := by rcases hz with h' | h' <;> simp_all
      subst this
      simpa [sliceWin] using h
theorem sliceAV_sound (h : WR B m S F H w) {T : TT} (hT : TTok P T) {t : TypeId} {d : TD} (hd : T t = some d) {e : Nat} (hk : d.tk = .slice e) {de : TD} (hde : T e = some de)
    {x y : AV} {u : Value} (hu : VR S x m F u) {lo hi mx : Option AV} {lov hiv mxv : Option Value} (hlo : OptR S m F lo lov) (hhi : OptR S m F hi hiv) (hmx : OptR S m F mx mxv) (hy : sliceAV de.size H x lo hi mx = some y) {b n : Nat} :
    Out P B F (do pure (.value (← Instr.sliceAt t u lov hiv mxv))) w m S b n y H := by
  have htk := (hT t d hd).tk
  rw [hk] at htk; simp only [TKok] at htk
  have hsz := run_sizeOf' (hT e de hde) w
  cases x with
  | raw id k =>
    simp only [sliceAV] at hy
    split at hy
    · rename_i hl hg
      split at hy
      · rename_i he
        have he : de.size = 1 := Nat.eq_of_beq_eq_true he
        cases hy
        have : mxv = none := by cases mxv with | none => rfl | some _ => exact hmx.elim
        subst this
        simp only [VR] at hu
        obtain ⟨loc, cap', hm, rfl, h1, h2⟩ := hu
        have ho := h.obj id
        rw [hg] at ho
        obtain ⟨loc', c, fr, o1, o2, o3, o4, o5, o6, o7⟩ := ho
        rw [hm] at o1; cases o1
        have hrun := run_sliceBounds (P := P) (w := w) (isSlice := true) (n := k) (cap := cap') hlo hhi hl (u := 0) rfl (by omega) h1
        refine Out.val h (u := .slice (some ⟨loc.b, 0, none⟩) 0 cap') ?_ ?_
        · simp [Instr.sliceAt, Instr.slice, run_underlying htk, hrun, hsz, addr_add]
        · simp only [VR]
          refine ⟨loc, 0, 0, cap', hm, rfl, ⟨by rw [← o5]; rfl, rfl⟩, Nat.zero_le _, by omega, h1, by omega⟩
      · cases hy
    · cases hy
  | nilsl =>
    simp only [sliceAV] at hy
    split at hy
    · rename_i _ hl hq
      cases hy
      have : mxv = none := by cases mxv with | none => rfl | some _ => exact hmx.elim
      subst this
      simp only [VR] at hu; subst hu
      refine Out.val h (u := .slice none 0 0) ?_ (by simp only [VR])
      have := run_sliceBounds (P := P) (w := w) (isSlice := true) (n := 0) (cap := 0) hlo hhi hl hq (by simp) (Nat.le_refl _)
      simp [Instr.sliceAt, Instr.slice, run_underlying htk, this, hsz]
    · cases hy
  | sl id win' esz' cap =>
    simp only [sliceAV] at hy
    split at hy
    · cases hy
    · rename_i r win e' k hs
      split at hy
      · rename_i he
        have he : e' = de.size := Nat.eq_of_beq_eq_true he
        split at hy
        · rename_i l q hl hq
          split at hy
          · rename_i hb
            simp only [VR] at hu
            obtain ⟨loc, len, base, cap', hm, rfl, hwin, hlc, hcap, hcc, hpos⟩ := hu
            have hlen : k = len ∧ win = win' ∧ e' = esz' := by
              simp only [slOf, rowAt] at hs
              have ho := h.obj id
              cases hg : hget H id with
              | cells r' te =>
                rw [hg] at ho; simp only [hg, Option.some.injEq, Prod.mk.injEq] at hs
                obtain ⟨rfl, rfl, rfl, rfl⟩ := hs
                obtain ⟨loc', c, fr, h1, h2, h3, h4, h5, h6, h7⟩ := ho
                rw [hm] at h1; cases h1
                rw [← h5] at hwin
                exact ⟨winLen_eq hwin hpos, rfl, rfl⟩
              | frozen r' =>
                rw [hg] at ho; simp only [hg, Option.some.injEq, Prod.mk.injEq] at hs
                obtain ⟨rfl, rfl, rfl, rfl⟩ := hs
                obtain ⟨loc', c, h1, h2, h3, h4, h5, h6⟩ := ho
                rw [hm] at h1; cases h1
                rw [← h4] at hwin
                exact ⟨winLen_eq hwin hpos, rfl, rfl⟩
              | _ => simp [hg] at hs
            obtain ⟨rfl, rfl, rfl⟩ := hlen
            have key : ∀ M : Nat, q.toNat ≤ M → M ≤ cap' → ∀ co : CapI, co.holds (M - l.toNat) → (Instr.sliceBounds true k cap' lov hiv mxv).run P w = .ok (l.toNat, q.toNat, M) w → y = .sl id (sliceWin win lo hi l.toNat q.toNat) e' co →
                Out P B F (do pure (.value (← Instr.sliceAt t (.slice (some ⟨loc.b, base * e', none⟩) k cap') lov hiv mxv))) w m S b n y H := by
              intro M hM1 hM2 co hco hrun hyy
              subst hyy
              by_cases hml : M = l.toNat
              · have w0 := sliceWin_ok hwin hl hq hb 0 (.inr ⟨rfl, by omega⟩)
                rw [Nat.add_zero] at w0
                refine Out.val h (u := .slice (some ⟨loc.b, base * e', none⟩) (q.toNat - l.toNat) (M - l.toNat)) ?_ ?_
                · simp [Instr.sliceAt, Instr.slice, run_underlying htk, hrun, hsz, hml]
                · simp only [VR]
                  refine ⟨loc, _, base, M - l.toNat, hm, rfl, w0, by omega, ?_, hco, hpos⟩
                  exact Nat.le_trans (Nat.mul_le_mul_right _ (by omega)) hcap
              · have w0 := sliceWin_ok hwin hl hq hb l.toNat (.inl rfl)
                refine Out.val h (u := .slice (some ⟨loc.b, (base + l.toNat) * e', none⟩) (q.toNat - l.toNat) (M - l.toNat)) ?_ ?_
                · simp [Instr.sliceAt, Instr.slice, run_underlying htk, hrun, hsz, hml, addr_add, he, Nat.add_mul]
                · simp only [VR]
                  refine ⟨loc, _, base + l.toNat, M - l.toNat, hm, rfl, w0, by omega, ?_, hco, hpos⟩
                  exact Nat.le_trans (Nat.mul_le_mul_right _ (by omega)) hcap
            cases mx with
            | none =>
              have : mxv = none := by cases mxv with | none => rfl | some _ => exact hmx.elim
              subst this
              simp only [Option.some.injEq] at hy
              exact key cap' (by omega) (Nat.le_refl _) _ (by
                cases cap with
                | any => simp only [CapI.less, CapI.holds]; omega
                | is c => simp only [CapI.less, CapI.holds] at hcc ⊢; omega
                | ge c => simp only [CapI.less, CapI.holds] at hcc ⊢; omega) (run_sliceBounds hlo hhi hl hq hb hlc) hy.symm
            | some mxa =>
              simp only at hy
              split at hy
              · rename_i M hiA hM
                split at hy
                · rename_i hMb
                  simp only [Option.some.injEq] at hy
                  exact key M.toNat (by omega) (by omega) (.is (M.toNat - l.toNat)) rfl (run_sliceBounds3 hlo hhi hmx hl hq hM ⟨_, rfl⟩ ⟨_, rfl⟩ hb hMb hlc) hy.symm
                · cases hy
              · cases hy
          · cases hy
        · cases hy
      · cases hy
  | vs r' win' esz' tight =>
    simp only [sliceAV, slOf] at hy
    split at hy
    · rename_i he
      have he : esz' = de.size := Nat.eq_of_beq_eq_true he
      split at hy
      · rename_i l q hl hq
        split at hy
        · rename_i hb
          simp only [VR] at hu
          obtain ⟨a, off, c, len, base, cap', rfl, h2, hwin, h4, h5, h6, h7, hpos, h9⟩ := hu
          have hlen := winLen_eq hwin hpos
          rw [hlen] at hq hb
          have key : ∀ M : Nat, q.toNat ≤ M → M ≤ cap' → ∀ tg : Bool, (tg = true → M = q.toNat) → (Instr.sliceBounds true len cap' lov hiv mxv).run P w = .ok (l.toNat, q.toNat, M) w → y = .vs r' (sliceWin win' lo hi l.toNat q.toNat) esz' tg →
              Out P B F (do pure (.value (← Instr.sliceAt t (.slice (some ⟨a, off + base * esz', none⟩) len cap') lov hiv mxv))) w m S b n y H := by
            intro M hM1 hM2 tg hco hrun hyy
            subst hyy
            by_cases hml : M = l.toNat
            · have w0 := sliceWin_ok hwin hl hq hb 0 (.inr ⟨rfl, by omega⟩)
              rw [Nat.add_zero] at w0
              refine Out.val h (u := .slice (some ⟨a, off + base * esz', none⟩) (q.toNat - l.toNat) (M - l.toNat)) ?_ ?_
              · simp [Instr.sliceAt, Instr.slice, run_underlying htk, hrun, hsz, hml]
              · simp only [VR]
                refine ⟨a, off, c, _, base, M - l.toNat, rfl, h2, w0, by omega, ?_, h6, fun ht => by rw [hco ht], hpos, h9⟩
                exact Nat.le_trans (Nat.add_le_add_left (Nat.mul_le_mul_right _ (by omega)) _) h5
            · have w0 := sliceWin_ok hwin hl hq hb l.toNat (.inl rfl)
              refine Out.val h (u := .slice (some ⟨a, off + (base + l.toNat) * esz', none⟩) (q.toNat - l.toNat) (M - l.toNat)) ?_ ?_
              · simp [Instr.sliceAt, Instr.slice, run_underlying htk, hrun, hsz, hml, addr_add, he, Nat.add_mul, Nat.add_assoc]
              · simp only [VR]
                refine ⟨a, off, c, _, base + l.toNat, M - l.toNat, rfl, h2, w0, by omega, ?_, h6, fun ht => by rw [hco ht], hpos, h9⟩
                exact Nat.le_trans (Nat.add_le_add_left (Nat.mul_le_mul_right _ (by omega)) _) h5
          rw [hlen] at hy
          cases mx with
          | none =>
            have : mxv = none := by cases mxv with | none => rfl | some _ => exact hmx.elim
            subst this
            simp only [Option.some.injEq] at hy
            refine key cap' (by omega) (Nat.le_refl _) _ (fun ht => ?_) (run_sliceBounds hlo hhi hl hq hb h4) hy.symm
            cases hi with
            | some _ => cases ht
            | none =>
              simp only [bnd, Option.some.injEq] at hq
              rw [h7 ht]; omega
          | some mxa =>
            simp only at hy
            split at hy
            · rename_i M hiA hM
              split at hy
              · rename_i hMb
                split at hy
                · rename_i hMu
                  simp only [Option.some.injEq] at hy
                  exact key M.toNat (by omega) (by omega) _ (fun ht => by rw [hMu]) (run_sliceBounds3 hlo hhi hmx hl hq hM ⟨_, rfl⟩ ⟨_, rfl⟩ hb hMb h4) hy.symm
                · cases hy
              · cases hy
            · cases hy
        · cases hy
      · cases hy
    · cases hy
  | _ => simp [sliceAV, slOf] at hy
theorem sliceArr_sound (h : WR B m S F H w) {T : TT} (hT : TTok P T) {t : TypeId} {d : TD} (hd : T t = some d) {e k : Nat} (hk : d.tk = .array k e) {de : TD} (hde : T e = some de) (hpos : 0 < de.size)
    {x y : AV} {u : Value} (hu : VR S x m F u) {lo hi : Option AV} {lov hiv : Option Value} (hlo : OptR S m F lo lov) (hhi : OptR S m F hi hiv) (hy : sliceArr H k de.size x lo hi = some y) {b n : Nat} :
    Out P B F (do pure (.value (← Instr.sliceAt t u lov hiv none))) w m S b n y H := by
  have htk := (hT t d hd).tk
  rw [hk] at htk; simp only [TKok] at htk
  have hsz := run_sizeOf' (hT e de hde) w
  cases x with
  | ptr id e' p q =>
    cases e' with
    | some _ => simp [sliceArr] at hy
    | none => cases p with
      | cons _ _ => simp [sliceArr] at hy
      | nil =>
        simp only [sliceArr] at hy
        simp only [VR] at hu
        obtain ⟨loc, hm, hin, rfl⟩ := hu
        have hrow : ∀ r, rowAt H id = some r → r.len = loc.n ∧ loc.n ≤ loc.sz := fun r hr => by
          have ho := h.obj id
          unfold rowAt at hr
          cases hg : hget H id with
          | cells r' te =>
            rw [hg] at ho hr; cases hr
            obtain ⟨loc', c, fr, h1, h2, h3, h4, h5, h6, h7⟩ := ho
            rw [hm] at h1; cases h1
            exact ⟨h5, h6⟩
          | frozen r' =>
            rw [hg] at ho hr; cases hr
            obtain ⟨loc', c, h1, h2, h3, h4, h5, h6⟩ := ho
            rw [hm] at h1; cases h1
            exact ⟨h4, h5⟩
          | _ => simp [hg] at hr
        cases hr : rowAt H id with
        | none => simp [hr] at hy
        | some r =>
          obtain ⟨k1, k2⟩ := hrow r hr
          simp only [hr] at hy
          split at hy
          · rename_i hc
            simp only [Bool.and_eq_true] at hc
            have h1 := Nat.eq_of_beq_eq_true hc.1
            have h2 := Nat.eq_of_beq_eq_true hc.2
            split at hy
            · rename_i l q hl hq
              split at hy
              · rename_i hb
                cases hy
                have hwin : winOk none de.size loc.n k 0 := ⟨by omega, rfl⟩
                have hrun := run_sliceBounds (P := P) (w := w) (isSlice := false) (cap := k) hlo hhi hl hq hb (Nat.le_refl _)
                by_cases hml : k = l.toNat
                · have w0 := sliceWin_ok hwin hl hq hb 0 (.inr ⟨rfl, by omega⟩)
                  refine Out.val h (u := .slice (some ⟨loc.b, 0, none⟩) (q.toNat - l.toNat) (k - l.toNat)) ?_ ?_
                  · simp [Instr.sliceAt, run_underlying htk, Instr.sureAddr, hrun, hsz, cellOf, flatP, ← hml]
                  · simp only [VR]
                    refine ⟨loc, q.toNat - l.toNat, 0, k - l.toNat, hm, by simp, by simpa using w0, by omega, ?_, rfl, hpos⟩
                    rw [Nat.zero_add]
                    exact Nat.le_trans (Nat.mul_le_mul_right _ (Nat.sub_le _ _)) (by omega)
                · have w0 := sliceWin_ok hwin hl hq hb l.toNat (.inl rfl)
                  refine Out.val h (u := .slice (some ⟨loc.b, l.toNat * de.size, none⟩) (q.toNat - l.toNat) (k - l.toNat)) ?_ ?_
                  · simp [Instr.sliceAt, run_underlying htk, Instr.sureAddr, hrun, hsz, cellOf, flatP, hml, addr_add]
                  · simp only [VR]
                    refine ⟨loc, q.toNat - l.toNat, l.toNat, k - l.toNat, hm, by simp, by simpa using w0, by omega, ?_, rfl, hpos⟩
                    rw [show l.toNat + (k - l.toNat) = k by omega]; omega
              · cases hy
            · cases hy
          · cases hy
  | _ => simp [sliceArr] at hy
end Go.Abs
end

section
namespace Go.Abs
variable {P : Program} {B : Base} {m : MM} {S : SS} {F : FF} {H : Heap} {w : World}
theorem run_getMap {r : Nat} {es : Array MapEntry} {c : Nat} (h : w.heap[r]? = some (.map es c)) : (getObj r).run P w = .ok (.map es c) w := by simp [getObj, Sem.run, h]
theorem run_setMap {r : Nat} {es : Array MapEntry} {c : Nat} (h : w.heap[r]? = some (.map es c)) (o : Obj) : (setObj r o).run P w = .ok () { w with heap := w.heap.setIfInBounds r o } := by simp [setObj, Sem.run, h]
/-- kinds of key types -/
def descOf : TK → TypeDesc
  | .int k => .int k
  | .str => .string
  | _ => .bool
theorem keyOK_und {t : TypeId} {d : TD} (ht : TDok P t d) {k : AV} (hk : keyOK d.tk k = true) : P.underlying t = some (descOf d.tk) := by
  have := ht.tk
  cases htk : d.tk <;> rw [htk] at this hk <;> simp only [TKok] at this <;> simp only [keyOK] at hk
  all_goals first
    | exact this
    | (cases hk; done)
theorem keyEq_same {tk : TK} {k q : AV} {kv qv : Value} (hk : keyOK tk k = true) (h1 : VR S k m F kv) (h2 : VR S q m F qv) {t : Bool} (he : keyEq k q = some t) : Instr.sameNow (descOf tk) kv qv = some t ∧ (t = true → qv = kv) := by
  cases k <;> cases tk <;> simp only [keyOK] at hk
  all_goals first
    | (cases hk; done)
    | skip
  all_goals cases q <;> simp only [keyEq] at he
  all_goals first
    | (cases he; done)
    | skip
  all_goals (simp only [VR] at h1 h2; subst h1; subst h2)
  · simp only [Option.some.injEq] at he; subst he; simp [Instr.sameNow, descOf]; exact fun h => h.symm
  · split at he
    · rename_i hke
      simp only [Option.some.injEq] at he; subst he
      have := kEq_eq hke; subst this
      simp [Instr.sameNow, descOf]; exact fun h => h.symm
    · cases he
  · simp only [Option.some.injEq] at he; subst he; simp [Instr.sameNow, descOf]; exact ⟨by rw [Bool.eq_iff_iff, MapKept.bytes_beq, eqB_iff], fun h => ((eqB_iff _ _).mp h).symm⟩
theorem findNow_spec {tk : TK} {k : AV} {kv : Value} (hk : keyOK tk k = true) (h1 : VR S k m F kv) : ∀ (l : List (AV × AV)) (es : List MapEntry) (i : Nat) (o : Option AV), MRel S l m F es → findAV k l = some o →
    (o = none ∧ Instr.findNow (descOf tk) kv es i = some none) ∨ (∃ j v e, o = some v ∧ Instr.findNow (descOf tk) kv es i = some (some (i + j, e.val)) ∧ es[j]? = some e ∧ e.key = kv ∧ VR S v m F e.val)
  | [], es, i, o, hr, hf => by
    simp only [MRel] at hr; subst hr
    simp only [findAV, Option.some.injEq] at hf; subst hf
    exact .inl ⟨rfl, rfl⟩
  | (q, x) :: l, es, i, o, hr, hf => by
    simp only [MRel] at hr
    obtain ⟨e, es', rfl, hq, hx, hr⟩ := hr
    simp only [findAV] at hf
    split at hf
    · rename_i t ht
      obtain ⟨hs, he⟩ := keyEq_same hk h1 hq ht
      cases t with
      | true =>
        simp only [if_true, Option.some.injEq] at hf; subst hf
        exact .inr ⟨0, x, e, rfl, by simp [Instr.findNow, hs], rfl, he rfl, hx⟩
      | false =>
        simp only [Bool.false_eq_true, if_false] at hf
        rcases findNow_spec hk h1 l es' (i + 1) o hr hf with ⟨k1, k2⟩ | ⟨j, v, e', k1, k2, k3, k4, k5⟩
        · exact .inl ⟨k1, by simp [Instr.findNow, hs, k2]⟩
        · exact .inr ⟨j + 1, v, e', k1, by simp [Instr.findNow, hs, k2]; omega, by simpa using k3, k4, k5⟩
    · cases hf
theorem put_find {k v : AV} : ∀ {l l' : List (AV × AV)}, putAV k v l = some l' → ∃ o, findAV k l = some o
  | [], l', h => ⟨none, rfl⟩
  | (q, x) :: l, l', h => by
    simp only [putAV] at h
    split at h
    · rename_i t ht
      cases t with
      | true => exact ⟨some x, by simp [findAV, ht]⟩
      | false =>
        simp only [Bool.false_eq_true, if_false, Option.map_eq_some_iff] at h
        obtain ⟨l'', h1, _⟩ := h
        obtain ⟨o, ho⟩ := put_find h1
        exact ⟨o, by simp [findAV, ht, ho]⟩
    · cases h
/-- a put, on the entries -/
theorem put_spec {tk : TK} {k v : AV} {kv vv : Value} (hk : keyOK tk k = true) (h1 : VR S k m F kv) (h2 : VR S v m F vv) : ∀ (l l' : List (AV × AV)) (es : List MapEntry) (i : Nat), MRel S l m F es → putAV k v l = some l' →
    (Instr.findNow (descOf tk) kv es i = some none ∧ ∀ b, MRel S l' m F (es ++ [{ key := kv, val := vv, born := b }])) ∨
    (∃ j e, Instr.findNow (descOf tk) kv es i = some (some (i + j, e.val)) ∧ es[j]? = some e ∧ e.key = kv ∧ MRel S l' m F (es.modify j fun e => { e with key := kv, val := vv }))
  | [], l', es, i, hr, hf => by
    simp only [MRel] at hr; subst hr
    simp only [putAV, Option.some.injEq] at hf; subst hf
    exact .inl ⟨rfl, fun b => by simp only [MRel, List.nil_append]; exact ⟨_, _, rfl, h1, h2, rfl⟩⟩
  | (q, x) :: l, l', es, i, hr, hf => by
    simp only [MRel] at hr
    obtain ⟨e, es', rfl, hq, hx, hr⟩ := hr
    simp only [putAV] at hf
    split at hf
    · rename_i t ht
      obtain ⟨hs, he⟩ := keyEq_same hk h1 hq ht
      cases t with
      | true =>
        simp only [if_true, Option.some.injEq] at hf; subst hf
        exact .inr ⟨0, e, by simp [Instr.findNow, hs], rfl, he rfl, by simp only [MRel, List.modify_zero_cons]; exact ⟨_, _, rfl, h1, h2, hr⟩⟩
      | false =>
        simp only [Bool.false_eq_true, if_false, Option.map_eq_some_iff] at hf
        obtain ⟨l'', hp, rfl⟩ := hf
        rcases put_spec hk h1 h2 l l'' es' (i + 1) hr hp with ⟨k1, k2⟩ | ⟨j, e', k2, k3, k4, k5⟩
        · exact .inl ⟨by simp [Instr.findNow, hs, k1], fun b => by simp only [List.cons_append, MRel]; exact ⟨_, _, rfl, hq, hx, k2 b⟩⟩
        · exact .inr ⟨j + 1, e', by simp [Instr.findNow, hs, k2]; omega, by simpa using k3, k4, by simp only [List.modify_succ_cons, MRel]; exact ⟨_, _, rfl, hq, hx, k5⟩⟩
    · cases hf
theorem run_checkKey {t : TypeId} {tk : TK} (hu : P.underlying t = some (descOf tk)) (b : Bool) (v : Value) : (Instr.checkKey b 10000 t v).run P w = .ok () w := by
  have : (10000 : Nat) = 9999 + 1 := rfl
  rw [this, Instr.checkKey]
  cases tk <;> simp [run_underlying hu, descOf]
theorem sameBits_refl {tk : TK} {k : AV} {kv : Value} (hk : keyOK tk k = true) (h1 : VR S k m F kv) : Instr.sameBits 10000 kv kv = true := by
  cases k <;> cases tk <;> simp only [keyOK] at hk
  all_goals first
    | (cases hk; done)
    | (simp only [VR] at h1; subst h1; simp [Instr.sameBits]; done)
    | (simp only [VR] at h1; subst h1; simp only [Instr.sameBits]; exact (MapKept.bytes_beq _ _).mpr rfl)
theorem zeroAV_sound {t : TypeId} {d : TD} (ht : TDok P t d) : ∃ z, (zeroValue t).run P w = .ok z w ∧ VR S (zeroAV d) m F z := by
  obtain ⟨z, hz, h1, h2, h3⟩ := run_zeroValue' ht w
  refine ⟨z, hz, ?_⟩
  have hR : RR S d.zero m F z.cells.toList := RR.mono (SS.le_refl _) _ (noM_le _) (noF_le _) (h3 S)
  unfold zeroAV
  cases ha : d.agg with
  | true =>
    obtain ⟨cs, rfl⟩ := h1 ha
    simp only [if_true, VR]
    exact ⟨cs, rfl, hR⟩
  | false =>
    have hone := h2 ha
    have hcells : z.cells = #[z] := by cases z <;> first | rfl | (simp [Value.oneCell'] at hone)
    simp only [Bool.false_eq_true, if_false]
    cases hg : d.zero.get none [] with
    | none => simp only [Option.getD_none, VR]
    | some y =>
      have hl := RR_length hR
      obtain ⟨v, k1, k2, _⟩ := RR_get hR (e := none) (p := []) (by simp only [InB, flatP]; rw [← hl, hcells]; simp) hg
      rw [hcells] at k1
      simp only [cellOf, flatP, List.getElem?_cons_zero, Option.some.injEq] at k1
      subst k1
      exact k2
theorem lookup_sound (h : WR B m S F H w) {T : TT} (hT : TTok P T) {t : TypeId} {d : TD} (hd : T t = some d) {k e : Nat} (hk : d.tk = .map k e) {de dk : TD} (hde : T e = some de) (hdk : T k = some dk) {x i y : AV} {u v : Value} (hu : VR S x m F u) (hv : VR S i m F v)
    (hko : keyOK dk.tk i = true) {ok : Bool} {o : Option AV} (hf : (match (generalizing := false) x with
            | .nilmap => some none
            | .map id => match hget H id with
              | .map l => findAV i l
              | _ => none
            | _ => none) = some o) (hy : y = (match (generalizing := false) o with | some v => if ok then .tup [v, .bool true] else v | none => if ok then .tup [zeroAV de, .bool false] else zeroAV de)) {b n : Nat} :
    Out P B F (do pure (.value (← Instr.lookup t u v ok))) w m S b n y H := by
  have htk := (hT t d hd).tk
  rw [hk] at htk; simp only [TKok] at htk
  have hund := keyOK_und (hT k dk hdk) hko
  obtain ⟨z, hz, hzr⟩ := zeroAV_sound (S := S) (m := m) (F := F) (w := w) (hT e de hde)
  have hck := fun b => run_checkKey (w := w) hund b v
  have fin : ∀ (g : Value) (y' : AV) (fl : Bool), VR S y' m F g → (Instr.lookup t u v ok).run P w = .ok (if ok then .tuple #[g, .bool fl] else g) w → y = (if ok then .tup [y', .bool fl] else y') → Out P B F (do pure (.value (← Instr.lookup t u v ok))) w m S b n y H := by
    intro g y' fl hg hrun hy
    refine Out.val h hrun ?_
    subst hy
    cases ok with
    | false => simpa using hg
    | true => simp only [if_true, VR]; exact ⟨_, rfl, by simp only [LR]; exact ⟨g, [.bool fl], rfl, hg, .bool fl, [], rfl, by simp only [VR], rfl⟩⟩
  cases x with
  | nilmap =>
    simp only [Option.some.injEq] at hf; subst hf
    simp only [VR] at hu; subst hu
    refine fin z _ false hzr ?_ hy
    simp [Instr.lookup, run_underlying htk, hck, Instr.findKey, run_underlying hund, Instr.findNow, hz]
  | map id =>
    simp only at hf
    cases hg : hget H id with
    | map l =>
      simp only [hg] at hf
      have ho := h.obj id
      rw [hg] at ho
      obtain ⟨loc, es, clock, h1, h2, h3⟩ := ho
      simp only [VR] at hu
      obtain ⟨loc', k1, rfl⟩ := hu
      rw [k1] at h1; cases h1
      rcases findNow_spec hko hv l es.toList 0 o h3 hf with ⟨q1, q2⟩ | ⟨j, v', e', q1, q2, q3, q4, q5⟩
      · subst q1
        refine fin z _ false hzr ?_ hy
        simp [Instr.lookup, run_underlying htk, hck, Instr.findKey, run_underlying hund, q2, hz, run_getMap h2]
      · subst q1
        refine fin e'.val _ true q5 ?_ hy
        simp [Instr.lookup, run_underlying htk, hck, Instr.findKey, run_underlying hund, q2, run_getMap h2]
    | _ => simp [hg] at hf
  | _ => simp at hf
theorem mapUpdate_sound (h : WR B m S F H w) {T : TT} (hT : TTok P T) {t : TypeId} {d : TD} (hd : T t = some d) {k e id : Nat} (hk : d.tk = .map k e) {dk : TD} (hdk : T k = some dk) {i x : AV} {u v q : Value} (hu : VR S (.map id) m F u) (hv : VR S i m F v) (hq : VR S x m F q)
    (hko : keyOK dk.tk i = true) {l l' : List (AV × AV)} (hg : hget H id = .map l) (hp : putAV i x l = some l') {b n : Nat} :
    Out P B F (do Instr.mapUpdate t u v q; pure .skip) w m S b n .top (hset H id (.map l')) := by
  have htk := (hT t d hd).tk
  rw [hk] at htk; simp only [TKok] at htk
  have hund := keyOK_und (hT k dk hdk) hko
  have ho := h.obj id
  rw [hg] at ho
  obtain ⟨loc, es, clock, h1, h2, h3⟩ := ho
  simp only [VR] at hu
  obtain ⟨loc', k1, rfl⟩ := hu
  rw [k1] at h1; cases h1
  have hlt : loc.b < w.heap.size := by
    rcases Nat.lt_or_ge loc.b w.heap.size with h' | h'
    · exact h'
    · rw [Array.getElem?_eq_none h'] at h2; cases h2
  have fin : ∀ (es' : Array MapEntry) (c : Nat), MRel S l' m F es'.toList → (Instr.mapUpdate t (.map (some loc.b)) v q).run P w = .ok () { w with heap := w.heap.setIfInBounds loc.b (.map es' c) } →
      Out P B F (do Instr.mapUpdate t (.map (some loc.b)) v q; pure .skip) w m S b n .top (hset H id (.map l')) := by
    intro es' c hm hrun
    refine Out.skip (WR.turn (w' := { w with heap := w.heap.setIfInBounds loc.b (.map es' c) }) h (loc := loc) (by unfold Mut; rw [hg]; rfl) k1 (by simp) (fun x hx => by simp [Array.getElem?_setIfInBounds, Ne.symm hx]) ⟨loc, es', c, k1, by simp [hlt], hm⟩ rfl rfl rfl) hrun (MM.le_refl _) (SS.le_refl _) (fun _ _ => rfl)
  rcases put_spec hko hv hq l l' es.toList 0 h3 hp with ⟨q1, q2⟩ | ⟨j, e', q1, q2, q3, q4⟩
  · refine fin (es.push { key := v, val := q, born := clock }) (clock + 1) (by simpa using q2 clock) ?_
    simp [Instr.mapUpdate, run_underlying htk, run_getMap h2, run_checkKey hund, Instr.findKey, run_underlying hund, q1, run_setMap h2]
  · refine fin (es.modify j fun e => { e with key := v, val := q }) clock (by simpa using q4) ?_
    have q2' : es[j]? = some e' := by simpa using q2
    simp [Instr.mapUpdate, run_underlying htk, run_getMap h2, run_checkKey hund, Instr.findKey, run_underlying hund, q1, run_setMap h2, q2', q3, Instr.keyThatStays, sameBits_refl hko hv]
end Go.Abs
end

section
namespace Go.Abs
variable {P : Program} {B : Base} {m : MM} {S : SS} {F : FF} {H : Heap} {w : World}
theorem run_toBytes (e : TypeId) (s : ByteArray) (w : World) : ∃ (rest : Array Value) (cap : Nat) (w' : World), (Conv.stringToBytes e s).run P w = .ok (.slice (some ⟨w.heap.size, 0, none⟩) s.size cap) w' ∧ s.size ≤ cap ∧ rest.size = cap - s.size ∧
    (∃ fr, w'.heap = w.heap.push (.cells ((s.data.map fun b => Value.int .u8 b.toNat) ++ rest) e fr) ∧ Thaw fr (s.size + rest.size)) ∧ w'.os = w.os ∧ w'.output = w.output ∧ w'.tape = w.tape := by
  let cap := (Question.appendCap s.size 0 e).cut (w.tape w.drawn (.appendCap s.size 0 e))
  have hcap : s.size ≤ cap := by show s.size ≤ s.size + _; omega
  have hsz : s.data.size = s.size := rfl
  have hq : (Question.appendCap s.size 0 e).forced = false := rfl
  let w1 : World := { w with drawn := w.drawn + 1 }
  let c : Array Value := (s.data.map fun b => Value.int .u8 b.toNat) ++ Array.replicate (cap - s.size) (.int .u8 0)
  let w2 : World := { w1 with heap := w1.heap.push (.cells c e) }
  have hsh : w2.shape? w.heap.size = some (e, c.size) := by simp [w2, w1, World.shape?]
  refine ⟨Array.replicate (cap - s.size) (.int .u8 0), cap, w2.freeze ⟨w.heap.size, c.size, none⟩ 1, ?_, hcap, by simp, ⟨(c.size, c.size + 1), ?_, ?_⟩, ?_, ?_, ?_⟩
  · have hrow : (newRow e c).run P w1 = .ok ⟨w.heap.size, 0, none⟩ w2 := by simp [newRow, w1, w2]
    simp only [Conv.stringToBytes, Sem.run_bind, run_choose, hq, Bool.false_eq_true, if_false, Result.andThen_ok]
    have hrow' : (newRow e ((s.data.map fun b => Value.int .u8 b.toNat) ++ Array.replicate ((Question.appendCap s.size 0 e).cut (w.tape w.drawn (.appendCap s.size 0 e)) - s.size) (.int .u8 0))).run P { w with drawn := w.drawn + 1 } = .ok ⟨w.heap.size, 0, none⟩ w2 := hrow
    rw [hrow']
    simp only [Result.andThen_ok, markStringish, Sem.run_bind, run_shape, hsh, run_freeze, Sem.run_pure]
    rfl
  · apply Array.ext_getElem?
    intro i
    simp only [World.freeze, w2, w1, c]
    simp only [Nat.succ_ne_zero, if_false, Array.getElem?_modify, Array.getElem?_push]
    by_cases hi : i = w.heap.size
    · subst hi; simp
    · simp [hi, Ne.symm hi]
  · right
    simp only [c, Array.size_append, Array.size_replicate, Array.size_map, hsz]
    exact Nat.le_refl _
  · simp [World.freeze, w2, w1]
  · simp [World.freeze, w2, w1]
  · simp [World.freeze, w2, w1]
theorem toBytes_sound (h : WR B m S F H w) {b : Nat} (hf : Fresh H m b 1) {src dst e : TypeId} (hs : P.underlying src = some .string) (hd : P.underlying dst = some (.slice e)) (he : P.underlying e = some (.int .u8)) (s : ByteArray) :
    Out P B F (do pure (.value (← convert src dst (.string s)))) w m S b 1 (.sl b none 1 .any) (hset H b (.cells (.ints .u8 s.size (bytesZ s)) e)) := by
  obtain ⟨hb, hdd, hm⟩ := hf.one
  obtain ⟨rest, cap, w', hrun, hcap, hrest, ⟨fr, hh, hth⟩, h1, h2, h3⟩ := run_toBytes (P := P) e s w
  have hsz0 : s.data.size = s.size := rfl
  have hsz : (s.data.map fun b => Value.int .u8 b.toNat).size = s.size := by simp [hsz0]
  have hl := mput_le m b ⟨w.heap.size, s.size + rest.size, s.size⟩ hm
  have hW : WR B (mput m b ⟨w.heap.size, s.size + rest.size, s.size⟩) S F (hset H b (.cells (.ints .u8 s.size (bytesZ s)) e)) w' := by
    refine h.put hb hdd hm (by rw [hh]; simp) (fun x hx => by rw [hh]; simp [Array.getElem?_push, Nat.ne_of_lt hx]) (Nat.le_refl _) ?_ h1 h2 h3
    refine ⟨_, (s.data.map fun b => Value.int .u8 b.toNat) ++ rest, fr, mput_self _ _ _, by rw [hh]; simp, by rw [Array.size_append, hsz]; exact hth, by rw [Array.size_append, hsz], rfl, by simp, ?_⟩
    rw [Array.toList_append, List.take_append_of_le_length (by rw [Array.length_toList, hsz]; exact Nat.le_refl _), List.take_of_length_le (by rw [Array.length_toList, hsz]; exact Nat.le_refl _), bytes_map]
    exact RR_bytes s
  refine Out.val' hW (u := .slice (some ⟨w.heap.size, 0, none⟩) s.size cap) ?_ ?_ hl (SS.le_refl _) (mput_other m b _)
  · simp [convert, run_underlying hs, run_underlying hd, run_underlying he, hrun]
  · simp only [VR]
    refine ⟨_, s.size, 0, cap, mput_self _ _ _, by simp, ⟨by simp, rfl⟩, hcap, by simp; omega, trivial, by omega⟩
/-- a mark behind a row's end turns nothing -/
theorem mark_sound (h : WR B m S F H w) {id : Nat} {r : Row} {te : Nat} (hg : hget H id = .cells r te) {loc : Loc} (hm : m id = some loc) (off : Nat) :
    ∃ w', (markStringish ⟨loc.b, off, none⟩).run P w = .ok () w' ∧ WR B m S F H w' := by
  have ho := h.obj id
  rw [hg] at ho
  obtain ⟨loc', c, fr, h1, h2, h3, h4, h5, h6, h7⟩ := ho
  rw [hm] at h1; cases h1
  have hmut : Mut H id := by unfold Mut; rw [hg]; rfl
  have hlt : loc.b < w.heap.size := by
    rcases Nat.lt_or_ge loc.b w.heap.size with h' | h'
    · exact h'
    · rw [Array.getElem?_eq_none h'] at h2; cases h2
  have hsh : w.shape? loc.b = some (te, c.size) := by simp [World.shape?, h2]
  have hidlt : id < H.length := hget_lt (fun hd => by rw [hd] at hg; cases hg)
  obtain ⟨lo, hi⟩ := fr
  have hat : (w.freeze ⟨loc.b, c.size, none⟩ 1).heap[loc.b]? = some (.cells c te (if lo == hi then (c.size, c.size + 1) else (min lo c.size, max hi (c.size + 1)))) := by
    simp [World.freeze, Array.getElem?_modify, h2]
  have hoth : ∀ x, x ≠ loc.b → (w.freeze ⟨loc.b, c.size, none⟩ 1).heap[x]? = w.heap[x]? := fun x hx => by
    simp [World.freeze, Array.getElem?_modify, Ne.symm hx]
  have hW := h.turn hmut hm (o := .cells r te) (w' := w.freeze ⟨loc.b, c.size, none⟩ 1) (by simp [World.freeze]) hoth ⟨loc, c, _, hm, hat, ?_, h4, h5, h6, h7⟩ (by simp [World.freeze]) (by simp [World.freeze]) (by simp [World.freeze])
  · refine ⟨_, ?_, hW.congr fun i => ?_⟩
    · simp [markStringish, hsh]
    · by_cases hi' : i = id
      · subst hi'; rw [hget_hset_self _ _ _ hidlt, hg]
      · rw [hget_hset_ne _ _ _ _ hi']
  · right
    split
    · simp
    · rename_i hne
      simp only [beq_iff_eq] at hne
      rcases h3 with h3 | h3
      · exact absurd h3 hne
      · simp only at h3 ⊢; omega
/-- variables at a row's head -/
theorem liesAt_whole {e : TypeId} (hc : 0 < P.cellsOf e) (count n : Nat) (hn : n ≤ count) : liesAt P P.depth e count 0 e n = true := by
  have hd : P.depth = (2 * (P.types.size + Made.depth) + 1) + 1 := rfl
  rw [hd]
  simp only [liesAt, Bool.or_eq_true]
  left
  rw [hd]
  have hne : P.cellsOf e ≠ 0 := by omega
  have hsame : sameLayout P (2 * (P.types.size + Made.depth) + 1 + 1) e e = true := by
    rw [sameLayout]; simp
  rw [Go.rowAt]
  simp only [hne, if_false, Nat.zero_div, Nat.zero_mod, Nat.zero_add, hsame]
  simp [hn]
theorem conv_sound {E : Env} (hT : TTok P E.T) (h : WR B m S F H w) {b : Nat} (hf : Fresh H m b 1) {src dst : TypeId} {x y : AV} {u : Value} (hu : VR S x m F u) {H' : Heap} (hc : convAV E src dst H b x = some (y, H')) :
    Out P B F (do pure (.value (← convert src dst u))) w m S b 1 y H' := by
  unfold convAV at hc
  split at hc
  · rename_i s d hs hd
    have h1 := (hT src s hs).tk
    have h2 := (hT dst d hd).tk
    split at hc
    · rename_i k1 k2 _ n e1 e2
      rw [e1] at h1; rw [e2] at h2; simp only [TKok] at h1 h2
      simp only [Option.some.injEq, Prod.mk.injEq] at hc
      obtain ⟨rfl, rfl⟩ := hc
      simp only [VR] at hu; subst hu
      refine Out.val h (u := .int k2 (k2.wrap n)) ?_ (by simp only [VR])
      simp [convert, run_underlying h1, run_underlying h2, Conv.intToInt]
    · rename_i v e1 e2
      rw [e1] at h1; rw [e2] at h2; simp only [TKok] at h1 h2
      simp only [Option.some.injEq, Prod.mk.injEq] at hc
      obtain ⟨rfl, rfl⟩ := hc
      simp only [VR] at hu; subst hu
      refine Out.val h (u := .string v) ?_ (by simp only [VR])
      simp [convert, run_underlying h1, run_underlying h2]
    · rename_i e e1 e2
      rw [e1] at h1; rw [e2] at h2; simp only [TKok] at h1 h2
      cases hte : (E.T e).map TD.tk with
      | none => simp [hte] at hc
      | some te =>
        simp only [hte] at hc
        split at hc
        · rename_i hk
          simp only [Option.some.injEq] at hk
          subst hk
          simp only [Option.some.injEq, Prod.mk.injEq] at hc
          obtain ⟨rfl, rfl⟩ := hc
          simp only [Option.map_eq_some_iff] at hte
          obtain ⟨de, hde, htk⟩ := hte
          have h3 := (hT e de hde).tk
          rw [htk] at h3; simp only [TKok] at h3
          simp only [VR] at hu; subst hu
          refine Out.val h (u := .string .empty) ?_ (by simp only [VR])
          simp [convert, run_underlying h1, run_underlying h2, run_underlying h3, Conv.bytesToString]
        · cases hc
    · rename_i e e1 e2 _
      rw [e1] at h1; rw [e2] at h2; simp only [TKok] at h1 h2
      split at hc
      · rename_i r win esz n hte hsl
        simp only [Option.map_eq_some_iff] at hte
        obtain ⟨de, hde, htk⟩ := hte
        have h3 := (hT e de hde).tk
        rw [htk] at h3; simp only [TKok] at h3
        have hsize : de.size = 1 := by
          have ha := (hT e de hde).agg
          rw [htk] at ha
          exact (hT e de hde).one (by rw [← ha]; rfl)
        cases hcont : contentOf H r win esz with
        | none => simp [hcont] at hc
        | some q =>
          obtain ⟨q, H1⟩ := q
          rw [hcont] at hc
          split at hc
          · rename_i z H2 hz
            simp only [Option.some.injEq, Prod.mk.injEq] at hz
            obtain ⟨rfl, rfl⟩ := hz
            split at hc
            · rename_i he1
              have he1 : esz = 1 := Nat.eq_of_beq_eq_true he1
              simp only [Option.some.injEq, Prod.mk.injEq] at hc
              obtain ⟨rfl, rfl⟩ := hc
              obtain ⟨blk, off, c, ee, fr, base, cap, rfl, hh, hsz, hR, hwin, hlc, hcap, hpos⟩ := slOf_sound h hu hsl
              obtain ⟨S', hS, hW, hF, hq, hql⟩ := contentOf_sound h hR hwin hpos hcont
              have hbn := winOk_le hwin
              rw [take_drop_take _ _ _ _ _ hbn] at hq
              simp only [RR] at hq
              have hload := run_loadCells' (P := P) hh (off + base * esz) (n * esz) (by omega)
              rw [hq.2, he1, Nat.mul_one] at hload
              refine Out.val h (u := .string (z.foldl (fun r n => r.push (UInt8.ofNat n.toNat)) ByteArray.empty)) ?_ ?_
              · simp only [convert, run_underlying h1, run_underlying h2, run_underlying h3, Sem.run_bind, Result.andThen_ok, Sem.run_pure]
                rw [run_bytesToString w _ n cap z (by simpa [he1] using hload)]
              · simp only [VR]; rw [foldl_push_bytes]; simp
            · cases hc
          · cases hc
      · cases hc
    · rename_i e v e1 e2
      rw [e1] at h1; rw [e2] at h2; simp only [TKok] at h1 h2
      split at hc
      · rename_i hte
        simp only [Option.map_eq_some_iff] at hte
        obtain ⟨de, hde, htk⟩ := hte
        have h3 := (hT e de hde).tk
        rw [htk] at h3; simp only [TKok] at h3
        simp only [Option.some.injEq, Prod.mk.injEq] at hc
        obtain ⟨rfl, rfl⟩ := hc
        simp only [VR] at hu; subst hu
        exact toBytes_sound h hf h1 h2 h3 v
      · cases hc
    · rename_i e id n e1 e2
      rw [e1] at h1; rw [e2] at h2; simp only [TKok] at h1 h2
      split at hc
      · rename_i de r te hde hg
        split at hc
        · rename_i hcc
          simp only [Bool.and_eq_true, Nat.blt_eq] at hcc
          simp only [Option.some.injEq, Prod.mk.injEq] at hc
          obtain ⟨rfl, rfl⟩ := hc
          have hu' := hu
          simp only [VR] at hu'
          obtain ⟨loc, k1, k2, rfl⟩ := hu'
          have ho := h.obj id
          rw [hg] at ho
          obtain ⟨loc', c, fr, o1, o2, o3, o4, o5, o6, o7⟩ := ho
          rw [k1] at o1; cases o1
          obtain ⟨i, z, i1, i2, _⟩ := (hT e de hde).info
          have hsh : w.shape? loc.b = some (te, c.size) := by simp [World.shape?, o2]
          refine Out.val h (Lib.run_to_unsafe w ⟨loc.b, cellOf none [], none⟩ h1.1 h2 i1 (by omega) hsh (by simp [cellOf, flatP]; omega)) hu
        · cases hc
      · cases hc
    · rename_i e id n e1 e2
      rw [e1] at h1; rw [e2] at h2; simp only [TKok] at h1 h2
      split at hc
      · rename_i de r te hde hg
        split at hc
        · rename_i hcc
          simp only [Bool.and_eq_true, Nat.blt_eq] at hcc
          simp only [Option.some.injEq, Prod.mk.injEq] at hc
          obtain ⟨rfl, rfl⟩ := hc
          have hte := Nat.eq_of_beq_eq_true hcc.1
          subst hte
          have hle := Nat.le_of_ble_eq_true hcc.2.2
          have hu' := hu
          simp only [VR] at hu'
          obtain ⟨loc, k1, k2, rfl⟩ := hu'
          have ho := h.obj id
          rw [hg] at ho
          obtain ⟨loc', c, fr, o1, o2, o3, o4, o5, o6, o7⟩ := ho
          rw [k1] at o1; cases o1
          obtain ⟨i, z, i1, i2, _⟩ := (hT te de hde).info
          have hsh : w.shape? loc.b = some (te, c.size) := by simp [World.shape?, o2]
          have hco : P.cellsOf te = de.size := by simp [Program.cellsOf, i1, i2]
          refine Out.val h (Lib.run_from_unsafe w ⟨loc.b, cellOf none [], none⟩ h1 h2.1 i1 hsh ?_) hu
          have hpos : 1 ≤ c.size / P.cellsOf te := by rw [hco]; exact (Nat.le_div_iff_mul_le hcc.2.1).2 (by omega)
          exact liesAt_whole (by rw [hco]; exact hcc.2.1) _ 1 hpos
        · cases hc
      · cases hc
    · rename_i e e' id win esz cap e1 e2
      rw [e1] at h1; rw [e2] at h2; simp only [TKok] at h1 h2
      split at hc
      · rename_i k n z te hte hg
        split at hc
        · rename_i hsd
          have hsd := Nat.eq_of_beq_eq_true hsd
          subst hsd
          simp only [Option.some.injEq, Prod.mk.injEq] at hc
          obtain ⟨rfl, rfl⟩ := hc
          rw [h1] at h2; cases h2
          simp only [Option.map_eq_some_iff] at hte
          obtain ⟨de, hde, htk⟩ := hte
          have h3 := (hT e de hde).tk
          rw [htk] at h3; simp only [TKok] at h3
          have hu' := hu
          simp only [VR] at hu'
          obtain ⟨loc, len, base, cap', k1, rfl, k3⟩ := hu'
          obtain ⟨w', hrun, hW⟩ := mark_sound (P := P) h hg k1 (base * esz)
          refine Out.val' hW (u := .slice (some ⟨loc.b, base * esz, none⟩) len cap') ?_ hu (MM.le_refl _) (SS.le_refl _) (fun _ _ => rfl)
          simp [convert, run_underlying h1, run_underlying h3, hrun]
        · cases hc
      · cases hc
    · cases hc
  · cases hc
end Go.Abs
end
