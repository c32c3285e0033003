/- A part of a proof about a statement of cyanotypelaw22: a step that the closing text imports. Each theorem states its own conditions. -/
import Derived.Test.YtfbamgphngmglaaGreatDoorFlatN
set_option linter.unusedSimpArgs false
set_option linter.unusedVariables false
section
namespace Go.Proofs.YtfbamgphngmglaaGreatDoor
open Go Go.Abs
set_option maxRecDepth 100000
/-! ### Picture of kind 0, up to its loop -/
noncomputable def td13 : St → St := tdOf 0 (E3.live 13 (firstReg l13))
def zimg : AO := .cells (.vals [.int .i64 0, .int .i64 0, .bool false, .nilsl]) 34
def img (w h : Int) (rgb : Bool) (p : AV) : AO := .cells (.vals [.int .i64 w, .int .i64 h, .bool rgb, p]) 34
def seedB (s : Int) : AO := .cells (.ints .i64 1 [s]) 3
/-- at the loop's head, nothing laid -/
noncomputable def sp0 (w h : Int) (rgb : Bool) (n s : Int) : St := ⟨List.replicate 6 .top ++ [.ptr 0 none [] 4, .top, .top, .ptr 1 none [] 4, .top, .fn (.func 23) [] [.ptr 2 none [] 1]] ++ List.replicate 48 .top ++ [.int .i64 n, .int .i64 0] ++ List.replicate 13 .top, [zimg, img w h rgb .nilsl, seedB s]⟩
/-- at the loop's head, bytes laid -/
noncomputable def sp1 (w h : Int) (rgb : Bool) (n s : Int) (i : Nat) (z : List Int) : St := ⟨List.replicate 6 .top ++ [.ptr 0 none [] 4, .top, .top, .ptr 1 none [] 4, .top, .fn (.func 23) [] [.ptr 3 none [] 1]] ++ List.replicate 48 .top ++ [.int .i64 n, .int .i64 (i : Int)] ++ List.replicate 13 .top, [zimg, img w h rgb (.sl 2 none 1 .any), .cells (.ints .u8 i z) 5, seedB s]⟩
def wr64 (x : Int) : Int := IntKind.wrap .i64 x
def ceilZ (x d : Int) : Int := wr64 ((wr64 (wr64 (x + d) - 1)).tdiv d)
def clampS (s : Int) : Int := if (if (2147483647 : Int) < s then 2147483647 else s) > 0 then (if (2147483647 : Int) < s then 2147483647 else s) else 0
/-- what is asked of the numbers ahead of the loop -/
def preOb (w h s n0 : Int) (d : Int) (p : Prop) : Prop :=
  AV.bool (decide (w ≥ 1)) = .bool true ∧ AV.bool (decide (w ≤ 65535)) = .bool true ∧ AV.bool (decide (h ≥ 1)) = .bool true ∧ AV.bool (decide (h ≤ 65535)) = .bool true ∧
  AV.bool (decide (w < 0)) = .bool false ∧ AV.bool (decide (w > 1099511627776)) = .bool false ∧ (eqV (.int .i64 h) (.int .i64 h) = true ∧ True) ∧
  AV.bool (decide (h < 0)) = .bool false ∧ AV.bool (decide (h > 1099511627776)) = .bool false ∧
  AV.bool (ceilZ w d == 0) = .bool false ∧ AV.bool (decide (wr64 (w * h) > 4096)) = .bool false ∧ AV.int .i64 (wr64 (w * h)) = .int .i64 n0 ∧ p
theorem pic1 (w h q i c s n : Int) : codeP Y13 (seqs (pre13 ++ [a13]) .skip) (st13 w h 1 q i c 0 s) [(49, .val (.bool true)), (2, .val (.bool true)), (9, .val (.bool true)), (2, .val (.bool true)), (12, .val (.bool false)), (2, .val (.bool false)), (16, .chk), (2, .val (.bool false)), (2, .val (.bool false)), (24, .val (.bool false)), (6, .val (.bool false)), (15, .val (.int .i64 n)), (5, .val (.int .i64 s))] (fun _ e st => e = .normal ∧ td13 st = sp0 w h false n s) =
    preOb w h s n 8 (AV.int .i64 (clampS s) = .int .i64 s ∧ Ex.normal = .normal ∧ sp0 w h false n s = sp0 w h false n s) := by kernel_rfl
theorem pic2 (w h q i c s n0 n : Int) : codeP Y13 (seqs (pre13 ++ [a13]) .skip) (st13 w h 2 q i c 0 s) [(53, .val (.bool true)), (2, .val (.bool true)), (9, .val (.bool true)), (2, .val (.bool true)), (12, .val (.bool false)), (2, .val (.bool false)), (16, .chk), (2, .val (.bool false)), (2, .val (.bool false)), (24, .val (.bool false)), (6, .val (.bool false)), (15, .val (.int .i64 n0)), (4, .val (.int .i64 n)), (3, .val (.int .i64 s))] (fun _ e st => e = .normal ∧ td13 st = sp0 w h true n s) =
    preOb w h s n0 8 (AV.int .i64 (wr64 (n0 * 3)) = .int .i64 n ∧ AV.int .i64 (clampS s) = .int .i64 s ∧ Ex.normal = .normal ∧ sp0 w h true n s = sp0 w h true n s) := by kernel_rfl
theorem pic3 (w h q i c s n0 n : Int) : codeP Y13 (seqs (pre13 ++ [a13]) .skip) (st13 w h 3 q i c 0 s) [(55, .val (.bool true)), (2, .val (.bool true)), (9, .val (.bool true)), (2, .val (.bool true)), (12, .val (.bool false)), (2, .val (.bool false)), (16, .chk), (2, .val (.bool false)), (2, .val (.bool false)), (24, .val (.bool false)), (6, .val (.bool false)), (15, .val (.int .i64 n0)), (4, .val (.int .i64 n)), (3, .val (.int .i64 s))] (fun _ e st => e = .normal ∧ td13 st = sp0 w h true n s) =
    preOb w h s n0 16 (AV.int .i64 (wr64 (n0 * 3)) = .int .i64 n ∧ AV.int .i64 (clampS s) = .int .i64 s ∧ Ex.normal = .normal ∧ sp0 w h true n s = sp0 w h true n s) := by kernel_rfl
theorem pic4 (w h q i c s n0 n : Int) : codeP Y13 (seqs (pre13 ++ [a13]) .skip) (st13 w h 4 q i c 0 s) [(57, .val (.bool true)), (2, .val (.bool true)), (9, .val (.bool true)), (2, .val (.bool true)), (12, .val (.bool false)), (2, .val (.bool false)), (16, .chk), (2, .val (.bool false)), (2, .val (.bool false)), (24, .val (.bool false)), (6, .val (.bool false)), (15, .val (.int .i64 n0)), (4, .val (.int .i64 n)), (3, .val (.int .i64 s))] (fun _ e st => e = .normal ∧ td13 st = sp0 w h true n s) =
    preOb w h s n0 16 (AV.int .i64 (wr64 (n0 * 3)) = .int .i64 n ∧ AV.int .i64 (clampS s) = .int .i64 s ∧ Ex.normal = .normal ∧ sp0 w h true n s = sp0 w h true n s) := by kernel_rfl
end Go.Proofs.YtfbamgphngmglaaGreatDoor
end

section
namespace Go.Proofs.YtfbamgphngmglaaGreatDoor
open Go Go.Abs
set_option maxRecDepth 100000
/-! ### Picture of kind 0: its loop, its end -/
def w8 (s : Int) : Int := IntKind.wrap .u8 s
theorem round0 (w h n s : Int) (rgb : Bool) : codeP Y13 l13 (sp0 w h rgb n s) [(0, .val (.bool true))] (fun _ e st => e = .normal ∧ td13 st = sp1 w h rgb n s 1 [w8 s]) =
    (AV.bool (decide ((0 : Int) < n)) = .bool true ∧ Ex.normal = .normal ∧ sp1 w h rgb n s 1 [w8 s] = sp1 w h rgb n s 1 [w8 s]) := by kernel_rfl
theorem round1 (w h n s : Int) (rgb : Bool) (i : Nat) (z : List Int) : codeP Y13 l13 (sp1 w h rgb n s i z) [(0, .val (.bool true)), (10, .fit), (2, .val (.int .i64 ((i + 1 : Nat) : Int)))] (fun _ e st => e = .normal ∧ td13 st = sp1 w h rgb n s (i + 1) (z ++ [w8 s])) =
    (AV.bool (decide ((i : Int) < n)) = .bool true ∧ (i + 1) * 1 ≤ most ∧ AV.int .i64 (IntKind.wrap .i64 ((i : Int) + 1)) = .int .i64 ((i + 1 : Nat) : Int) ∧ Ex.normal = .normal ∧ sp1 w h rgb n s (i + 1) (z ++ [w8 s]) = sp1 w h rgb n s (i + 1) (z ++ [w8 s])) := by kernel_rfl
/-- behind the loop -/
noncomputable def sp2 (w h : Int) (rgb : Bool) (n s : Int) (i : Nat) (z : List Int) : St := ⟨List.replicate 6 .top ++ [.ptr 0 none [] 4, .top, .top, .ptr 1 none [] 4, .top, .fn (.func 23) [] [.ptr 3 none [] 1]] ++ List.replicate 48 .top ++ [.int .i64 n, .int .i64 (i : Int), .bool false] ++ List.replicate 12 .top, [zimg, img w h rgb (.sl 2 none 1 .any), .cells (.ints .u8 i z) 5, seedB s]⟩
theorem exit1 (w h n s : Int) (rgb : Bool) (i : Nat) (z : List Int) : codeP Y13 l13 (sp1 w h rgb n s i z) [(0, .val (.bool false))] (fun _ e st => e = .exit 1 ∧ st = sp2 w h rgb n s i z) =
    (AV.bool (decide ((i : Int) < n)) = .bool false ∧ Ex.exit 1 = .exit 1 ∧ sp2 w h rgb n s i z = sp2 w h rgb n s i z) := by kernel_rfl
def picV (w h : Int) (rgb : Bool) : AV := .agg (.vals [.int .i64 w, .int .i64 h, .bool rgb, .sl 0 none 1 .any])
def picH (n : Nat) (z : List Int) : Heap := [.cells (.ints .u8 n z) 5]
noncomputable def fin13 (st : St) : Option (AV × Heap) := match resultsAV E3 Tryz.f13 st.tm st.hp with | some v => some (tidyV 0 v st.hp) | none => none
theorem end1 (w h n s : Int) (rgb : Bool) (i : Nat) (z : List Int) : codeP Y13 r13 (sp2 w h rgb n s i z) [] (fun _ e st => e = .ret ∧ fin13 st = some (picV w h rgb, picH i z)) =
    (Ex.ret = .ret ∧ some (picV w h rgb, picH i z) = some (picV w h rgb, picH i z)) := by kernel_rfl
theorem run13 {c : Code} {s : St} {o : Orc} {Q : Ex → St → Prop} (h : codeP Y13 c s o (fun _ e s => Q e s)) : ∃ e s', evalCode X13 c s = some (e, s') ∧ Q e s' := by
  obtain ⟨e, s', _, h1, h2⟩ := codeP_sound XY13 c _ _ _ h
  exact ⟨e, s', h1, h2⟩
theorem wr1 (n : Nat) (h : n + 1 ≤ 9223372036854775807) : AV.int .i64 (IntKind.wrap .i64 ((n : Int) + 1)) = .int .i64 ((n + 1 : Nat) : Int) := by
  rw [wrap_i64 (by omega) (by omega)]; rfl
theorem loop13 (w h s : Int) (rgb : Bool) (N : Nat) (hN : N ≤ most) : ∀ (r i k : Nat) (z : List Int), i + r = N → r < k → iter (evalCode X13 l13) td13 k (sp1 w h rgb N s i z) = some (.exit 1, sp2 w h rgb N s N (z ++ List.replicate r (w8 s)))
  | _, _, 0, _, _, hk => absurd hk (Nat.not_lt_zero _)
  | 0, i, k + 1, z, hi, _ => by
    have hi : i = N := by omega
    subst hi
    obtain ⟨e, s', h1, rfl, rfl⟩ := run13 (Q := fun e st => e = .exit 1 ∧ st = sp2 w h rgb i s i z) ((exit1 w h i s rgb i z).mpr ⟨by rw [decide_eq_false (by omega)], rfl, rfl⟩)
    rw [iter_succ, h1, List.replicate_zero, List.append_nil]
  | r + 1, i, k + 1, z, hi, hk => by
    have hm : most = 140737488355328 := rfl
    obtain ⟨e, s', h1, rfl, h2⟩ := run13 (Q := fun e st => e = .normal ∧ td13 st = sp1 w h rgb N s (i + 1) (z ++ [w8 s])) ((round1 w h N s rgb i z).mpr ⟨by rw [decide_eq_true (by omega)], by omega, wr1 i (by omega), rfl, rfl⟩)
    rw [iter_succ, h1]
    simp only [h2]
    rw [loop13 w h s rgb N hN r (i + 1) k (z ++ [w8 s]) (by omega) (by omega), List.append_assoc]
    rfl
theorem fns13 : E3.fns 13 = some Tryz.f13 := by kernel_rfl
theorem ntmps13 : Tryz.f13.ntmps = 75 := by kernel_rfl
theorem fuelF_eq : fuelF = 2097152 := rfl
theorem seqs_snoc {X : Cx} {a : Code} {s1 : St} : ∀ (l : List Code) (s : St), evalCode X (seqs (l ++ [a]) .skip) s = some (.normal, s1) → ∃ s', evalCode X (seqs l .skip) s = some (.normal, s') ∧ evalCode X a s' = some (.normal, s1)
  | [], s, h => by
    have h : evalCode X (.seq a .skip) s = some (.normal, s1) := h
    rw [evalCode_seq] at h
    refine ⟨s, rfl, ?_⟩
    cases ha : evalCode X a s with
    | none => rw [ha] at h; cases h
    | some q =>
      obtain ⟨e, sa⟩ := q
      rw [ha] at h
      cases e with
      | normal => exact h
      | exit i => cases h
      | ret => cases h
  | b :: l, s, h => by
    have h : evalCode X (.seq b (seqs (l ++ [a]) .skip)) s = some (.normal, s1) := h
    rw [evalCode_seq] at h
    cases ha : evalCode X b s with
    | none => rw [ha] at h; cases h
    | some q =>
      obtain ⟨e, sa⟩ := q
      rw [ha] at h
      cases e with
      | normal =>
        obtain ⟨s', h3, h4⟩ := seqs_snoc l sa h
        refine ⟨s', ?_, h4⟩
        show evalCode X (.seq b (seqs l .skip)) s = _
        rw [evalCode_seq, ha]
        exact h3
      | exit i => cases h
      | ret => cases h
/-- a picture of kind 0 -/
theorem pic_of {args : List AV} (ha : args.length = 3) {w h s : Int} {rgb : Bool} {N : Nat} (hN : N < 1048576) (h0 : 0 < N) {s1 : St} (h1 : evalCode X13 (seqs (pre13 ++ [a13]) .skip) { tm := args ++ List.replicate 72 .top, hp := [] } = some (.normal, s1)) (h2 : td13 s1 = sp0 w h rgb N s) :
    evalN E3 fuelF 141 (.fn 13) args [] = some (picV w h rgb, picH N (List.replicate N (w8 s))) := by
  obtain ⟨s', h3, h4⟩ := seqs_snoc _ _ h1
  have hm : most = 140737488355328 := rfl
  obtain ⟨e, s2, h5, rfl, h6⟩ := run13 (Q := fun e st => e = .normal ∧ td13 st = sp1 w h rgb N s 1 [w8 s]) ((round0 w h N s rgb).mpr ⟨by rw [decide_eq_true (by omega)], rfl, rfl⟩)
  have hl := loop13 w h s rgb N (by omega) (N - 1) 1 2097151 [w8 s] (by omega) (by omega)
  have hz : [w8 s] ++ List.replicate (N - 1) (w8 s) = List.replicate N (w8 s) := by
    obtain ⟨M, rfl⟩ : ∃ M, N = M + 1 := ⟨N - 1, by omega⟩
    rw [Nat.add_sub_cancel, List.replicate_succ]; rfl
  rw [hz] at hl
  have hb : evalCode X13 (.block 1 (.loop l13)) s1 = some (.normal, sp2 w h rgb N s N (List.replicate N (w8 s))) := by
    rw [evalCode_block, evalCode_loop]
    have hk : iter (evalCode X13 l13) (tdOf X13.base (X13.E.live X13.fn (firstReg l13))) X13.k (tdOf X13.base (X13.E.live X13.fn (firstReg l13)) s1) = iter (evalCode X13 l13) td13 (2097151 + 1) (sp0 w h rgb N s) := by rw [← h2]; rfl
    rw [hk, iter_succ, h5]
    simp only [h6]
    rw [hl]
    rfl
  obtain ⟨e, s3, h7, rfl, h8⟩ := run13 (Q := fun e st => e = .ret ∧ fin13 st = some (picV w h rgb, picH N (List.replicate N (w8 s)))) ((end1 w h N s rgb N (List.replicate N (w8 s))).mpr ⟨rfl, rfl⟩)
  have hall : evalCode X13 (seqs pre13 (.seq (.seq a13 (.block 1 (.loop l13))) r13)) { tm := args ++ List.replicate 72 .top, hp := [] } = some (.ret, s3) := by
    rw [seqs_split _ _ h3, loop_split h4, hb]
    exact h7
  show (match E3.fns 13 with | some fn => evalFn E3 fuelF (evalN E3 fuelF 140) 13 fn args [] | none => none) = _
  rw [fns13]
  simp only [evalFn, shape13, ntmps13, List.length_nil, ha]
  have hall' : evalCode { E := E3, fn := 13, base := 0, k := fuelF, inl := evalN E3 fuelF 140, round := none } (seqs pre13 (.seq (.seq a13 (.block 1 (.loop l13))) r13)) { tm := args ++ List.replicate (75 - 3) .top, hp := [] } = some (.ret, s3) := hall
  rw [hall']
  exact h8
end Go.Proofs.YtfbamgphngmglaaGreatDoor
end

section
namespace Go.Proofs.YtfbamgphngmglaaGreatDoor
open Go Go.Abs
set_option maxRecDepth 100000
/-! ### Picture of kind 0: the numbers -/
theorem wr64_id {x : Int} (h0 : 0 ≤ x) (h1 : x ≤ 9223372036854775807) : wr64 x = x := wrap_i64 h0 h1
theorem ceil_pos (w : Nat) (d : Int) (hw : 1 ≤ w) (hw2 : w ≤ 60) (hd : d = 8 ∨ d = 16) : (ceilZ (w : Int) d == 0) = false := by
  obtain ⟨D, rfl, hd0, hd1⟩ : ∃ D : Nat, d = (D : Int) ∧ 8 ≤ D ∧ D ≤ 16 := by
    rcases hd with rfl | rfl
    · exact ⟨8, rfl, by omega, by omega⟩
    · exact ⟨16, rfl, by omega, by omega⟩
  unfold ceilZ
  rw [wr64_id (x := (w : Int) + D) (by omega) (by omega), wr64_id (x := (w : Int) + D - 1) (by omega) (by omega)]
  have e : ((w : Int) + D - 1).tdiv D = (((w + D - 1) / D : Nat) : Int) := by
    rw [Int.tdiv_eq_ediv_of_nonneg (by omega)]
    have : (w : Int) + D - 1 = ((w + D - 1 : Nat) : Int) := by omega
    rw [this]; rfl
  have hq : 1 ≤ (w + D - 1) / D := (Nat.one_le_div_iff (by omega)).mpr (by omega)
  have hq2 : (w + D - 1) / D ≤ w + D - 1 := Nat.div_le_self _ _
  rw [e, wr64_id (by omega) (by omega)]
  have : (((w + D - 1) / D : Nat) : Int) ≠ 0 := by omega
  simpa using this
theorem area {w h : Nat} (hw : w ≤ 60) (hh : h ≤ 60) : w * h ≤ 3600 := Nat.mul_le_mul hw hh
theorem area_pos {w h : Nat} (hw : 1 ≤ w) (hh : 1 ≤ h) : 0 < w * h := Nat.mul_pos hw hh
theorem preOb_ok (w h s : Nat) (d : Int) (hw : 1 ≤ w) (hw2 : w ≤ 60) (hh : 1 ≤ h) (hh2 : h ≤ 60) (hd : d = 8 ∨ d = 16) {p : Prop} (hp : p) : preOb (w : Int) (h : Int) (s : Int) ((w * h : Nat) : Int) d p := by
  have ha := area hw2 hh2
  have hm : wr64 ((w : Int) * (h : Int)) = ((w * h : Nat) : Int) := by
    rw [← Int.natCast_mul]; exact wr64_id (by omega) (by omega)
  refine ⟨by rw [decide_eq_true (by omega)], by rw [decide_eq_true (by omega)], by rw [decide_eq_true (by omega)], by rw [decide_eq_true (by omega)], by rw [decide_eq_false (by omega)], by rw [decide_eq_false (by omega)], ⟨?_, trivial⟩,
    by rw [decide_eq_false (by omega)], by rw [decide_eq_false (by omega)], by rw [ceil_pos w d hw hw2 hd], by rw [hm, decide_eq_false (by omega)], by rw [hm], hp⟩
  simp [eqV, kEq]
theorem clamp_ok (s : Nat) (hs : s ≤ 255) : clampS (s : Int) = (s : Int) := by
  unfold clampS
  rw [if_neg (show ¬ (2147483647 : Int) < (s : Int) by omega)]
  split <;> omega
theorem w8_ok (s : Nat) (hs : s ≤ 255) : w8 (s : Int) = (s : Int) := by
  unfold w8
  simp [IntKind.wrap, IntKind.bits, IntKind.signed]
  omega
theorem run_eq {c : Code} {s : St} {o : Orc} {Q : Ex → St → Prop} {b : Prop} (h : codeP Y13 c s o (fun _ e s => Q e s) = b) (hb : b) : ∃ e s', evalCode X13 c s = some (e, s') ∧ Q e s' := run13 (h.symm ▸ hb)
def pargs (w h m q i c : Int) (k s : Int) : List AV := [.agg (.ints .i64 6 [w, h, m, q, i, c]), .int .i64 k, .int .i64 s]
def many (m w h : Nat) : Nat := if m = 1 then w * h else w * h * 3
theorem pic_flat1 (w h s : Nat) (q i c : Int) (hw : 1 ≤ w) (hw2 : w ≤ 60) (hh : 1 ≤ h) (hh2 : h ≤ 60) (hs : s ≤ 255) :
    evalN E3 fuelF 141 (.fn 13) (pargs w h 1 q i c 0 s) [] = some (picV w h false, picH (w * h) (List.replicate (w * h) (w8 s))) := by
  have ha := area hw2 hh2
  have hc := clamp_ok s hs
  have hob : preOb w h s ((w * h : Nat) : Int) 8 (AV.int .i64 (clampS s) = .int .i64 s ∧ Ex.normal = .normal ∧ sp0 w h false ((w * h : Nat) : Int) s = sp0 w h false ((w * h : Nat) : Int) s) :=
    preOb_ok w h s 8 hw hw2 hh hh2 (.inl rfl) ⟨congrArg (AV.int .i64) hc, rfl, rfl⟩
  obtain ⟨e, s1, h1, rfl, h2⟩ := run_eq (Q := fun e st => e = .normal ∧ td13 st = sp0 w h false ((w * h : Nat) : Int) s) (pic1 w h q i c s ((w * h : Nat) : Int)) hob
  exact pic_of (args := pargs w h 1 q i c 0 s) rfl (by omega) (area_pos hw hh) h1 h2
theorem pic_flat2 (w h s : Nat) (q i c : Int) (hw : 1 ≤ w) (hw2 : w ≤ 60) (hh : 1 ≤ h) (hh2 : h ≤ 60) (hs : s ≤ 255) :
    evalN E3 fuelF 141 (.fn 13) (pargs w h 2 q i c 0 s) [] = some (picV w h true, picH (w * h * 3) (List.replicate (w * h * 3) (w8 s))) := by
  have ha := area hw2 hh2
  have h0 := area_pos hw hh
  have hc := clamp_ok s hs
  have three : AV.int .i64 (wr64 (((w * h : Nat) : Int) * 3)) = .int .i64 ((w * h * 3 : Nat) : Int) := by
    rw [wr64_id (by omega) (by omega)]; rfl
  have hob : preOb w h s ((w * h : Nat) : Int) 8 (AV.int .i64 (wr64 (((w * h : Nat) : Int) * 3)) = .int .i64 ((w * h * 3 : Nat) : Int) ∧ AV.int .i64 (clampS s) = .int .i64 s ∧ Ex.normal = .normal ∧ sp0 w h true ((w * h * 3 : Nat) : Int) s = sp0 w h true ((w * h * 3 : Nat) : Int) s) :=
    preOb_ok w h s 8 hw hw2 hh hh2 (.inl rfl) ⟨three, congrArg (AV.int .i64) hc, rfl, rfl⟩
  obtain ⟨e, s1, h1, rfl, h2⟩ := run_eq (Q := fun e st => e = .normal ∧ td13 st = sp0 w h true ((w * h * 3 : Nat) : Int) s) (pic2 w h q i c s ((w * h : Nat) : Int) ((w * h * 3 : Nat) : Int)) hob
  exact pic_of (args := pargs w h 2 q i c 0 s) rfl (by omega) (by omega) h1 h2
theorem pic_flat3 (w h s : Nat) (q i c : Int) (hw : 1 ≤ w) (hw2 : w ≤ 60) (hh : 1 ≤ h) (hh2 : h ≤ 60) (hs : s ≤ 255) :
    evalN E3 fuelF 141 (.fn 13) (pargs w h 3 q i c 0 s) [] = some (picV w h true, picH (w * h * 3) (List.replicate (w * h * 3) (w8 s))) := by
  have ha := area hw2 hh2
  have h0 := area_pos hw hh
  have hc := clamp_ok s hs
  have three : AV.int .i64 (wr64 (((w * h : Nat) : Int) * 3)) = .int .i64 ((w * h * 3 : Nat) : Int) := by
    rw [wr64_id (by omega) (by omega)]; rfl
  have hob : preOb w h s ((w * h : Nat) : Int) 16 (AV.int .i64 (wr64 (((w * h : Nat) : Int) * 3)) = .int .i64 ((w * h * 3 : Nat) : Int) ∧ AV.int .i64 (clampS s) = .int .i64 s ∧ Ex.normal = .normal ∧ sp0 w h true ((w * h * 3 : Nat) : Int) s = sp0 w h true ((w * h * 3 : Nat) : Int) s) :=
    preOb_ok w h s 16 hw hw2 hh hh2 (.inr rfl) ⟨three, congrArg (AV.int .i64) hc, rfl, rfl⟩
  obtain ⟨e, s1, h1, rfl, h2⟩ := run_eq (Q := fun e st => e = .normal ∧ td13 st = sp0 w h true ((w * h * 3 : Nat) : Int) s) (pic3 w h q i c s ((w * h : Nat) : Int) ((w * h * 3 : Nat) : Int)) hob
  exact pic_of (args := pargs w h 3 q i c 0 s) rfl (by omega) (by omega) h1 h2
theorem pic_flat4 (w h s : Nat) (q i c : Int) (hw : 1 ≤ w) (hw2 : w ≤ 60) (hh : 1 ≤ h) (hh2 : h ≤ 60) (hs : s ≤ 255) :
    evalN E3 fuelF 141 (.fn 13) (pargs w h 4 q i c 0 s) [] = some (picV w h true, picH (w * h * 3) (List.replicate (w * h * 3) (w8 s))) := by
  have ha := area hw2 hh2
  have h0 := area_pos hw hh
  have hc := clamp_ok s hs
  have three : AV.int .i64 (wr64 (((w * h : Nat) : Int) * 3)) = .int .i64 ((w * h * 3 : Nat) : Int) := by
    rw [wr64_id (by omega) (by omega)]; rfl
  have hob : preOb w h s ((w * h : Nat) : Int) 16 (AV.int .i64 (wr64 (((w * h : Nat) : Int) * 3)) = .int .i64 ((w * h * 3 : Nat) : Int) ∧ AV.int .i64 (clampS s) = .int .i64 s ∧ Ex.normal = .normal ∧ sp0 w h true ((w * h * 3 : Nat) : Int) s = sp0 w h true ((w * h * 3 : Nat) : Int) s) :=
    preOb_ok w h s 16 hw hw2 hh hh2 (.inr rfl) ⟨three, congrArg (AV.int .i64) hc, rfl, rfl⟩
  obtain ⟨e, s1, h1, rfl, h2⟩ := run_eq (Q := fun e st => e = .normal ∧ td13 st = sp0 w h true ((w * h * 3 : Nat) : Int) s) (pic4 w h q i c s ((w * h : Nat) : Int) ((w * h * 3 : Nat) : Int)) hob
  exact pic_of (args := pargs w h 4 q i c 0 s) rfl (by omega) (by omega) h1 h2
/-- Picture of kind 0 -/
theorem pic_flat (w h s : Nat) (m q i c : Int) (hw : 1 ≤ w) (hw2 : w ≤ 60) (hh : 1 ≤ h) (hh2 : h ≤ 60) (hm : m = 1 ∨ m = 2 ∨ m = 3 ∨ m = 4) (hs : s ≤ 255) :
    ∃ (rgb : Bool) (N : Nat), w * h ≤ N ∧ N ≤ 10800 ∧ evalN E3 fuelF 141 (.fn 13) (pargs w h m q i c 0 s) [] = some (picV w h rgb, picH N (List.replicate N (s : Int))) := by
  have ha := area hw2 hh2
  have e8 := w8_ok s hs
  rcases hm with rfl | rfl | rfl | rfl
  · exact ⟨false, w * h, by omega, by omega, by rw [pic_flat1 w h s q i c hw hw2 hh hh2 hs, e8]⟩
  · exact ⟨true, w * h * 3, by omega, by omega, by rw [pic_flat2 w h s q i c hw hw2 hh hh2 hs, e8]⟩
  · exact ⟨true, w * h * 3, by omega, by omega, by rw [pic_flat3 w h s q i c hw hw2 hh hh2 hs, e8]⟩
  · exact ⟨true, w * h * 3, by omega, by omega, by rw [pic_flat4 w h s q i c hw hw2 hh hh2 hs, e8]⟩
end Go.Proofs.YtfbamgphngmglaaGreatDoor
end
