/- A part of a proof about a statement of cyanotypelaw22: a step that the closing text imports. Each theorem states its own conditions. -/
import Derived.Test.YtfbamgphngmglaaGreatDoorFlatV
set_option linter.unusedSimpArgs false
set_option linter.unusedVariables false
section
namespace Go.Proofs.YtfbamgphngmglaaGreatDoor
open Go Go.Abs
set_option maxRecDepth 100000
theorem split6 (a b c d e f : List UInt8) : evalNP E0 fuelF 100 (.fn 19) [.str (ofL (joinS [a, b, c, d, e, f])), .str (ofL [32])] [] (orcS [a, b, c, d, e, f])
      (fun _ y hp => y = .sl 0 (some (0, 6)) 1 (.is 6) ∧ hp = wordsV [a, b, c, d, e, f]) =
    headOb 6 (joinS [a, b, c, d, e, f]) (splitOb [a, b, c, d, e, f] (AV.sl 0 (some (0, 6)) 1 (.is 6) = .sl 0 (some (0, 6)) 1 (.is 6) ∧ wordsV [a, b, c, d, e, f] = wordsV [a, b, c, d, e, f])) := by kernel_rfl
theorem split6_run (a b c d e f : List UInt8) (hw : ∀ w ∈ [a, b, c, d, e, f], plainW w ∧ w.length ≤ 1000) : evalN E0 fuelF 100 (.fn 19) [.str (ofL (joinS [a, b, c, d, e, f])), .str (ofL [32])] [] = some (.sl 0 (some (0, 6)) 1 (.is 6), wordsV [a, b, c, d, e, f]) := by
  have hlen : (joinS [a, b, c, d, e, f]).length ≤ 1000000 := by
    have := fun w hx => (hw w hx).2
    simp only [List.mem_cons, List.not_mem_nil, or_false, forall_eq_or_imp, forall_eq] at this
    simp only [joinS, List.length_append, List.length_cons]
    omega
  have hob : headOb 6 (joinS [a, b, c, d, e, f]) (splitOb [a, b, c, d, e, f] (AV.sl 0 (some (0, 6)) 1 (.is 6) = .sl 0 (some (0, 6)) 1 (.is 6) ∧ wordsV [a, b, c, d, e, f] = wordsV [a, b, c, d, e, f])) :=
    headOb_ok [a, b, c, d, e, f] (fun w hx => (hw w hx).1) hlen (by simp) (splitOb_ok _ (fun w hx => ⟨(hw w hx).1, by have := (hw w hx).2; omega⟩) ⟨rfl, rfl⟩)
  rw [← split6] at hob
  obtain ⟨y, h', o', h1, h2, h3⟩ := evalNP_sound E0 fuelF 100 _ _ _ _ _ hob
  rw [h1, h2, h3]
end Go.Proofs.YtfbamgphngmglaaGreatDoor
end

section
namespace Go.Proofs.YtfbamgphngmglaaGreatDoor
open Go Go.Abs
set_option maxRecDepth 100000
noncomputable def con8 (f : Nat) : Option Con := cond (Nat.beq f 60) (some (conEval (evalN E0 fuelF 100) 60 0)) none
noncomputable def E8 : Env := { E0 with con := con8 }
noncomputable def con9 (f : Nat) : Option Con := cond (Nat.beq f 21) (some (conEval (evalN E8 fuelF 110) 21 0)) (con5 f)
noncomputable def E9 : Env := { E0 with con := con9, live := liveF }
end Go.Proofs.YtfbamgphngmglaaGreatDoor
end

section
namespace Go.Proofs.YtfbamgphngmglaaGreatDoor
open Go Go.Abs
set_option maxRecDepth 100000
/-! ### Picture of any kind -/
noncomputable def sg0 (F : Nat) (w h : Int) (rgb : Bool) (n s : Int) : St := ⟨List.replicate 6 .top ++ [.ptr 0 none [] 4, .top, .top, .ptr 1 none [] 4, .top, .fn (.func F) [] [.ptr 2 none [] 1]] ++ List.replicate 48 .top ++ [.int .i64 n, .int .i64 0] ++ List.replicate 13 .top, [zimg, img w h rgb .nilsl, seedB s]⟩
noncomputable def sg1 (F : Nat) (w h : Int) (rgb : Bool) (n s : Int) (i : Nat) (z : List Int) : St := ⟨List.replicate 6 .top ++ [.ptr 0 none [] 4, .top, .top, .ptr 1 none [] 4, .top, .fn (.func F) [] [.ptr 3 none [] 1]] ++ List.replicate 48 .top ++ [.int .i64 n, .int .i64 (i : Int)] ++ List.replicate 13 .top, [zimg, img w h rgb (.sl 2 none 1 .any), .cells (.ints .u8 i z) 5, seedB s]⟩
noncomputable def sg2 (F : Nat) (w h : Int) (rgb : Bool) (n s : Int) (i : Nat) (z : List Int) : St := ⟨List.replicate 6 .top ++ [.ptr 0 none [] 4, .top, .top, .ptr 1 none [] 4, .top, .fn (.func F) [] [.ptr 3 none [] 1]] ++ List.replicate 48 .top ++ [.int .i64 n, .int .i64 (i : Int), .bool false] ++ List.replicate 12 .top, [zimg, img w h rgb (.sl 2 none 1 .any), .cells (.ints .u8 i z) 5, seedB s]⟩
end Go.Proofs.YtfbamgphngmglaaGreatDoor
end

section
namespace Go.Proofs.YtfbamgphngmglaaGreatDoor
open Go Go.Abs
set_option maxRecDepth 100000
def endOb (F : Nat) (w h : Int) (rgb : Bool) (n s : Int) (i : Nat) (z : List Int) : Prop := (i + 1) * 1 ≤ most ∧ AV.int .i64 (IntKind.wrap .i64 ((i : Int) + 1)) = .int .i64 ((i + 1 : Nat) : Int) ∧ Ex.normal = .normal ∧ sg1 F w h rgb n s (i + 1) z = sg1 F w h rgb n s (i + 1) z
def andB (x : Int) : Int := IntKind.wrap .i64 ((BitVec.ofInt (IntKind.bits .i64) x &&& BitVec.ofInt (IntKind.bits .i64) 2147483647).toNat : Int)
def shB (x : Int) : Int := Int.fdiv x (2 ^ (min (16 : Int).toNat (IntKind.bits .i64)))
theorem rd23 (w h n s v : Int) (rgb : Bool) (i : Nat) (z : List Int) : codeP Y13 l13 (sg1 23 w h rgb n s i z) [(0, .val (.bool true)), (9, .val (.int .u8 v)), (0, .fit), (2, .val (.int .i64 ((i + 1 : Nat) : Int)))] (fun _ e st => e = .normal ∧ td13 st = sg1 23 w h rgb n s (i + 1) (z ++ [v])) =
    (AV.bool (decide ((i : Int) < n)) = .bool true ∧ AV.int .u8 (IntKind.wrap .u8 s) = .int .u8 v ∧ endOb 23 w h rgb n s i (z ++ [v])) := by kernel_rfl
theorem rd24 (w h n s a v : Int) (rgb : Bool) (i : Nat) (z : List Int) : codeP Y13 l13 (sg1 24 w h rgb n s i z) [(0, .val (.bool true)), (9, .val (.int .i64 a)), (1, .val (.int .u8 v)), (0, .fit), (2, .val (.int .i64 ((i + 1 : Nat) : Int)))] (fun _ e st => e = .normal ∧ td13 st = sg1 24 w h rgb n s (i + 1) (z ++ [v])) =
    (AV.bool (decide ((i : Int) < n)) = .bool true ∧ AV.int .i64 (IntKind.wrap .i64 ((i : Int) * s)) = .int .i64 a ∧ AV.int .u8 (IntKind.wrap .u8 a) = .int .u8 v ∧ endOb 24 w h rgb n s i (z ++ [v])) := by kernel_rfl
theorem rd25 (w h n s a b c v : Int) (rgb : Bool) (i : Nat) (z : List Int) : codeP Y13 l13 (sg1 25 w h rgb n s i z) [(0, .val (.bool true)), (8, .val (.int .i64 a)), (0, .val (.int .i64 b)), (1, .val (.int .i64 c)), (1, .val (.int .u8 v)), (0, .fit), (2, .val (.int .i64 ((i + 1 : Nat) : Int)))] (fun _ e st => e = .normal ∧ td13 st = sg1 25 w h rgb n s (i + 1) (z ++ [v])) =
    (AV.bool (decide ((i : Int) < n)) = .bool true ∧ AV.int .i64 (IntKind.wrap .i64 ((i : Int).tdiv 8)) = .int .i64 a ∧ AV.int .i64 (IntKind.wrap .i64 (a * 37)) = .int .i64 b ∧ AV.int .i64 (IntKind.wrap .i64 (b + s)) = .int .i64 c ∧ AV.int .u8 (IntKind.wrap .u8 c) = .int .u8 v ∧ endOb 25 w h rgb n s i (z ++ [v])) := by kernel_rfl
theorem rd26 (w h n s a b c d v : Int) (rgb : Bool) (i : Nat) (z : List Int) : codeP Y13 l13 (sg1 26 w h rgb n s i z) [(0, .val (.bool true)), (8, .val (.int .i64 a)), (0, .val (.int .i64 b)), (0, .val (.int .i64 c)), (2, .val (.int .i64 d)), (1, .val (.int .u8 v)), (0, .fit), (2, .val (.int .i64 ((i + 1 : Nat) : Int)))] (fun _ e st => e = .normal ∧ td13 st = sg1 26 w h rgb n c (i + 1) (z ++ [v])) =
    (AV.bool (decide ((i : Int) < n)) = .bool true ∧ AV.int .i64 (IntKind.wrap .i64 (1103515245 * s)) = .int .i64 a ∧ AV.int .i64 (IntKind.wrap .i64 (a + 12345)) = .int .i64 b ∧ AV.int .i64 (andB b) = .int .i64 c ∧ AV.int .i64 (shB c) = .int .i64 d ∧ AV.int .u8 (IntKind.wrap .u8 d) = .int .u8 v ∧ endOb 26 w h rgb n c i (z ++ [v])) := by kernel_rfl
/-- a round, of whatever kind -/
theorem round_any (F : Nat) (hF : F = 23 ∨ F = 24 ∨ F = 25 ∨ F = 26) (w h s : Int) (rgb : Bool) (N i : Nat) (hi : i < N) (hN : N ≤ 1000000) (z : List Int) :
    ∃ st', evalCode X13 l13 (sg1 F w h rgb N s i z) = some (.normal, st') ∧ ∃ s' v, td13 st' = sg1 F w h rgb N s' (i + 1) (z ++ [v]) := by
  have hm : most = 140737488355328 := rfl
  have hd : AV.bool (decide ((i : Int) < (N : Int))) = .bool true := by rw [decide_eq_true (by omega)]
  have he : ∀ F s z, endOb F w h rgb N s i z := fun F s z => ⟨by omega, wr1 i (by omega), rfl, rfl⟩
  rcases hF with rfl | rfl | rfl | rfl
  · obtain ⟨e, st', h1, rfl, h2⟩ := run_eq (Q := fun e st => e = .normal ∧ td13 st = sg1 23 w h rgb N s (i + 1) (z ++ [IntKind.wrap .u8 s])) (rd23 w h N s _ rgb i z) ⟨hd, rfl, he _ _ _⟩
    exact ⟨st', h1, _, _, h2⟩
  · obtain ⟨e, st', h1, rfl, h2⟩ := run_eq (Q := fun e st => e = .normal ∧ td13 st = sg1 24 w h rgb N s (i + 1) (z ++ [IntKind.wrap .u8 (IntKind.wrap .i64 ((i : Int) * s))])) (rd24 w h N s _ _ rgb i z) ⟨hd, rfl, rfl, he _ _ _⟩
    exact ⟨st', h1, _, _, h2⟩
  · obtain ⟨e, st', h1, rfl, h2⟩ := run_eq (Q := fun e st => e = .normal ∧ td13 st = sg1 25 w h rgb N s (i + 1) (z ++ [IntKind.wrap .u8 (IntKind.wrap .i64 (IntKind.wrap .i64 (IntKind.wrap .i64 ((i : Int).tdiv 8) * 37) + s))])) (rd25 w h N s _ _ _ _ rgb i z) ⟨hd, rfl, rfl, rfl, rfl, he _ _ _⟩
    exact ⟨st', h1, _, _, h2⟩
  · obtain ⟨e, st', h1, rfl, h2⟩ := run_eq (Q := fun e st => e = .normal ∧ td13 st = sg1 26 w h rgb N (andB (IntKind.wrap .i64 (IntKind.wrap .i64 (1103515245 * s) + 12345))) (i + 1) (z ++ [IntKind.wrap .u8 (shB (andB (IntKind.wrap .i64 (IntKind.wrap .i64 (1103515245 * s) + 12345))))])) (rd26 w h N s _ _ _ _ _ rgb i z) ⟨hd, rfl, rfl, rfl, rfl, rfl, he _ _ _⟩
    exact ⟨st', h1, _, _, h2⟩
theorem exitg (F : Nat) (w h n s : Int) (rgb : Bool) (i : Nat) (z : List Int) : codeP Y13 l13 (sg1 F w h rgb n s i z) [(0, .val (.bool false))] (fun _ e st => e = .exit 1 ∧ st = sg2 F w h rgb n s i z) =
    (AV.bool (decide ((i : Int) < n)) = .bool false ∧ Ex.exit 1 = .exit 1 ∧ sg2 F w h rgb n s i z = sg2 F w h rgb n s i z) := by kernel_rfl
theorem endg (F : Nat) (w h n s : Int) (rgb : Bool) (i : Nat) (z : List Int) : codeP Y13 r13 (sg2 F w h rgb n s i z) [] (fun _ e st => e = .ret ∧ fin13 st = some (picV w h rgb, picH i z)) =
    (Ex.ret = .ret ∧ some (picV w h rgb, picH i z) = some (picV w h rgb, picH i z)) := by kernel_rfl
end Go.Proofs.YtfbamgphngmglaaGreatDoor
end

section
namespace Go.Proofs.YtfbamgphngmglaaGreatDoor
open Go Go.Abs
set_option maxRecDepth 100000
def startOb (F : Nat) (w h : Int) (rgb : Bool) (n s v : Int) : Prop := Ex.normal = .normal ∧ sg1 F w h rgb n s 1 [v] = sg1 F w h rgb n s 1 [v]
theorem sd23 (w h n s v : Int) (rgb : Bool) : codeP Y13 l13 (sg0 23 w h rgb n s) [(0, .val (.bool true)), (9, .val (.int .u8 v))] (fun _ e st => e = .normal ∧ td13 st = sg1 23 w h rgb n s 1 [v]) =
    (AV.bool (decide ((0 : Int) < n)) = .bool true ∧ AV.int .u8 (IntKind.wrap .u8 s) = .int .u8 v ∧ startOb 23 w h rgb n s v) := by kernel_rfl
theorem sd24 (w h n s a v : Int) (rgb : Bool) : codeP Y13 l13 (sg0 24 w h rgb n s) [(0, .val (.bool true)), (9, .val (.int .i64 a)), (1, .val (.int .u8 v))] (fun _ e st => e = .normal ∧ td13 st = sg1 24 w h rgb n s 1 [v]) =
    (AV.bool (decide ((0 : Int) < n)) = .bool true ∧ AV.int .i64 (IntKind.wrap .i64 (0 * s)) = .int .i64 a ∧ AV.int .u8 (IntKind.wrap .u8 a) = .int .u8 v ∧ startOb 24 w h rgb n s v) := by kernel_rfl
theorem sd25 (w h n s a v : Int) (rgb : Bool) : codeP Y13 l13 (sg0 25 w h rgb n s) [(0, .val (.bool true)), (11, .val (.int .i64 a)), (1, .val (.int .u8 v))] (fun _ e st => e = .normal ∧ td13 st = sg1 25 w h rgb n s 1 [v]) =
    (AV.bool (decide ((0 : Int) < n)) = .bool true ∧ AV.int .i64 (IntKind.wrap .i64 (0 + s)) = .int .i64 a ∧ AV.int .u8 (IntKind.wrap .u8 a) = .int .u8 v ∧ startOb 25 w h rgb n s v) := by kernel_rfl
theorem sd26 (w h n s a b c d v : Int) (rgb : Bool) : codeP Y13 l13 (sg0 26 w h rgb n s) [(0, .val (.bool true)), (8, .val (.int .i64 a)), (0, .val (.int .i64 b)), (0, .val (.int .i64 c)), (2, .val (.int .i64 d)), (1, .val (.int .u8 v))] (fun _ e st => e = .normal ∧ td13 st = sg1 26 w h rgb n c 1 [v]) =
    (AV.bool (decide ((0 : Int) < n)) = .bool true ∧ AV.int .i64 (IntKind.wrap .i64 (1103515245 * s)) = .int .i64 a ∧ AV.int .i64 (IntKind.wrap .i64 (a + 12345)) = .int .i64 b ∧ AV.int .i64 (andB b) = .int .i64 c ∧ AV.int .i64 (shB c) = .int .i64 d ∧ AV.int .u8 (IntKind.wrap .u8 d) = .int .u8 v ∧ startOb 26 w h rgb n c v) := by kernel_rfl
theorem start_any (F : Nat) (hF : F = 23 ∨ F = 24 ∨ F = 25 ∨ F = 26) (w h s : Int) (rgb : Bool) (N : Nat) (h0 : 0 < N) :
    ∃ st', evalCode X13 l13 (sg0 F w h rgb N s) = some (.normal, st') ∧ ∃ s' v, td13 st' = sg1 F w h rgb N s' 1 [v] := by
  have hd : AV.bool (decide ((0 : Int) < (N : Int))) = .bool true := by rw [decide_eq_true (by omega)]
  rcases hF with rfl | rfl | rfl | rfl
  · obtain ⟨e, st', h1, rfl, h2⟩ := run_eq (Q := fun e st => e = .normal ∧ td13 st = sg1 23 w h rgb N s 1 [IntKind.wrap .u8 s]) (sd23 w h N s _ rgb) ⟨hd, rfl, rfl, rfl⟩
    exact ⟨st', h1, _, _, h2⟩
  · obtain ⟨e, st', h1, rfl, h2⟩ := run_eq (Q := fun e st => e = .normal ∧ td13 st = sg1 24 w h rgb N s 1 [IntKind.wrap .u8 (IntKind.wrap .i64 (0 * s))]) (sd24 w h N s _ _ rgb) ⟨hd, rfl, rfl, rfl, rfl⟩
    exact ⟨st', h1, _, _, h2⟩
  · obtain ⟨e, st', h1, rfl, h2⟩ := run_eq (Q := fun e st => e = .normal ∧ td13 st = sg1 25 w h rgb N s 1 [IntKind.wrap .u8 (IntKind.wrap .i64 (0 + s))]) (sd25 w h N s _ _ rgb) ⟨hd, rfl, rfl, rfl, rfl⟩
    exact ⟨st', h1, _, _, h2⟩
  · obtain ⟨e, st', h1, rfl, h2⟩ := run_eq (Q := fun e st => e = .normal ∧ td13 st = sg1 26 w h rgb N (andB (IntKind.wrap .i64 (IntKind.wrap .i64 (1103515245 * s) + 12345))) 1 [IntKind.wrap .u8 (shB (andB (IntKind.wrap .i64 (IntKind.wrap .i64 (1103515245 * s) + 12345))))]) (sd26 w h N s _ _ _ _ _ rgb) ⟨hd, rfl, rfl, rfl, rfl, rfl, rfl, rfl⟩
    exact ⟨st', h1, _, _, h2⟩
theorem loop_any (F : Nat) (hF : F = 23 ∨ F = 24 ∨ F = 25 ∨ F = 26) (w h : Int) (rgb : Bool) (N : Nat) (hN : N ≤ 1000000) : ∀ (r i k : Nat) (s : Int) (z : List Int), i + r = N → r < k → ∃ s' z', iter (evalCode X13 l13) td13 k (sg1 F w h rgb N s i z) = some (.exit 1, sg2 F w h rgb N s' N z')
  | _, _, 0, _, _, _, hk => absurd hk (Nat.not_lt_zero _)
  | 0, i, k + 1, s, z, hi, _ => by
    have hi : i = N := by omega
    subst hi
    obtain ⟨e, s', h1, rfl, rfl⟩ := run_eq (Q := fun e st => e = .exit 1 ∧ st = sg2 F w h rgb i s i z) (exitg F w h i s rgb i z) ⟨by rw [decide_eq_false (by omega)], rfl, rfl⟩
    exact ⟨s, z, by rw [iter_succ, h1]⟩
  | r + 1, i, k + 1, s, z, hi, hk => by
    obtain ⟨st', h1, s', v, h2⟩ := round_any F hF w h s rgb N i (by omega) hN z
    obtain ⟨s2, z2, h3⟩ := loop_any F hF w h rgb N hN r (i + 1) k s' (z ++ [v]) (by omega) (by omega)
    refine ⟨s2, z2, ?_⟩
    rw [iter_succ, h1]
    simp only [h2]
    exact h3
theorem pic_of_any (F : Nat) (hF : F = 23 ∨ F = 24 ∨ F = 25 ∨ F = 26) {args : List AV} (ha : args.length = 3) {w h s : Int} {rgb : Bool} {N : Nat} (hN : N ≤ 1000000) (h0 : 0 < N) {s1 : St} (h1 : evalCode X13 (seqs (pre13 ++ [a13]) .skip) { tm := args ++ List.replicate 72 .top, hp := [] } = some (.normal, s1)) (h2 : td13 s1 = sg0 F w h rgb N s) :
    ∃ z, evalN E3 fuelF 141 (.fn 13) args [] = some (picV w h rgb, picH N z) := by
  obtain ⟨s', h3, h4⟩ := seqs_snoc _ _ h1
  obtain ⟨s2, h5, sa, v, h6⟩ := start_any F hF w h s rgb N h0
  obtain ⟨sb, z, hl⟩ := loop_any F hF w h rgb N hN (N - 1) 1 2097151 sa [v] (by omega) (by omega)
  have hb : evalCode X13 (.block 1 (.loop l13)) s1 = some (.normal, sg2 F w h rgb N sb N z) := by
    rw [evalCode_block, evalCode_loop]
    have hk : iter (evalCode X13 l13) (tdOf X13.base (X13.E.live X13.fn (firstReg l13))) X13.k (tdOf X13.base (X13.E.live X13.fn (firstReg l13)) s1) = iter (evalCode X13 l13) td13 (2097151 + 1) (sg0 F w h rgb N s) := by rw [← h2]; rfl
    rw [hk, iter_succ, h5]
    simp only [h6]
    rw [hl]
    rfl
  obtain ⟨e, s3, h7, rfl, h8⟩ := run_eq (Q := fun e st => e = .ret ∧ fin13 st = some (picV w h rgb, picH N z)) (endg F w h N sb rgb N z) ⟨rfl, rfl⟩
  have hall : evalCode X13 (seqs pre13 (.seq (.seq a13 (.block 1 (.loop l13))) r13)) { tm := args ++ List.replicate 72 .top, hp := [] } = some (.ret, s3) := by
    rw [seqs_split _ _ h3, loop_split h4, hb]
    exact h7
  refine ⟨z, ?_⟩
  show (match E3.fns 13 with | some fn => evalFn E3 fuelF (evalN E3 fuelF 140) 13 fn args [] | none => none) = _
  rw [fns13]
  simp only [evalFn, shape13, ntmps13, List.length_nil, ha]
  have hall' : evalCode { E := E3, fn := 13, base := 0, k := fuelF, inl := evalN E3 fuelF 140, round := none } (seqs pre13 (.seq (.seq a13 (.block 1 (.loop l13))) r13)) { tm := args ++ List.replicate (75 - 3) .top, hp := [] } = some (.ret, s3) := hall
  rw [hall']
  exact h8
theorem preOb_okI (w h : Nat) (s d : Int) (hw : 1 ≤ w) (hw2 : w ≤ 60) (hh : 1 ≤ h) (hh2 : h ≤ 60) (hd : d = 8 ∨ d = 16) {p : Prop} (hp : p) : preOb (w : Int) (h : Int) s ((w * h : Nat) : Int) d p := preOb_ok w h 0 d hw hw2 hh hh2 hd hp
theorem pk10 (w h q i c s s2 n : Int) : codeP Y13 (seqs (pre13 ++ [a13]) .skip) (st13 w h 1 q i c 0 s) [(49, .val (.bool true)), (2, .val (.bool true)), (9, .val (.bool true)), (2, .val (.bool true)), (12, .val (.bool false)), (2, .val (.bool false)), (16, .chk), (2, .val (.bool false)), (2, .val (.bool false)), (24, .val (.bool false)), (6, .val (.bool false)), (15, .val (.int .i64 n)), (5, .val (.int .i64 s2))] (fun _ e st => e = .normal ∧ td13 st = sg0 23 w h false n s2) =
    preOb w h s n 8 (AV.int .i64 (clampS s) = .int .i64 s2 ∧ Ex.normal = .normal ∧ sg0 23 w h false n s2 = sg0 23 w h false n s2) := by kernel_rfl
theorem pk11 (w h q i c s s2 n : Int) : codeP Y13 (seqs (pre13 ++ [a13]) .skip) (st13 w h 1 q i c 1 s) [(49, .val (.bool true)), (2, .val (.bool true)), (9, .val (.bool true)), (2, .val (.bool true)), (12, .val (.bool false)), (2, .val (.bool false)), (16, .chk), (2, .val (.bool false)), (2, .val (.bool false)), (24, .val (.bool false)), (6, .val (.bool false)), (15, .val (.int .i64 n)), (5, .val (.int .i64 s2))] (fun _ e st => e = .normal ∧ td13 st = sg0 24 w h false n s2) =
    preOb w h s n 8 (AV.int .i64 (clampS s) = .int .i64 s2 ∧ Ex.normal = .normal ∧ sg0 24 w h false n s2 = sg0 24 w h false n s2) := by kernel_rfl
theorem pk12 (w h q i c s s2 n : Int) : codeP Y13 (seqs (pre13 ++ [a13]) .skip) (st13 w h 1 q i c 2 s) [(49, .val (.bool true)), (2, .val (.bool true)), (9, .val (.bool true)), (2, .val (.bool true)), (12, .val (.bool false)), (2, .val (.bool false)), (16, .chk), (2, .val (.bool false)), (2, .val (.bool false)), (24, .val (.bool false)), (6, .val (.bool false)), (15, .val (.int .i64 n)), (5, .val (.int .i64 s2))] (fun _ e st => e = .normal ∧ td13 st = sg0 25 w h false n s2) =
    preOb w h s n 8 (AV.int .i64 (clampS s) = .int .i64 s2 ∧ Ex.normal = .normal ∧ sg0 25 w h false n s2 = sg0 25 w h false n s2) := by kernel_rfl
theorem pk13 (w h q i c s s2 n : Int) : codeP Y13 (seqs (pre13 ++ [a13]) .skip) (st13 w h 1 q i c 3 s) [(49, .val (.bool true)), (2, .val (.bool true)), (9, .val (.bool true)), (2, .val (.bool true)), (12, .val (.bool false)), (2, .val (.bool false)), (16, .chk), (2, .val (.bool false)), (2, .val (.bool false)), (24, .val (.bool false)), (6, .val (.bool false)), (15, .val (.int .i64 n)), (5, .val (.int .i64 s2))] (fun _ e st => e = .normal ∧ td13 st = sg0 26 w h false n s2) =
    preOb w h s n 8 (AV.int .i64 (clampS s) = .int .i64 s2 ∧ Ex.normal = .normal ∧ sg0 26 w h false n s2 = sg0 26 w h false n s2) := by kernel_rfl
theorem pk14 (w h q i c s s2 n : Int) : codeP Y13 (seqs (pre13 ++ [a13]) .skip) (st13 w h 1 q i c 4 s) [(49, .val (.bool true)), (2, .val (.bool true)), (9, .val (.bool true)), (2, .val (.bool true)), (12, .val (.bool false)), (2, .val (.bool false)), (16, .chk), (2, .val (.bool false)), (2, .val (.bool false)), (24, .val (.bool false)), (6, .val (.bool false)), (15, .val (.int .i64 n)), (5, .val (.int .i64 s2))] (fun _ e st => e = .normal ∧ td13 st = sg0 26 w h false n s2) =
    preOb w h s n 8 (AV.int .i64 (clampS s) = .int .i64 s2 ∧ Ex.normal = .normal ∧ sg0 26 w h false n s2 = sg0 26 w h false n s2) := by kernel_rfl
theorem pk20 (w h q i c s s2 n0 n : Int) : codeP Y13 (seqs (pre13 ++ [a13]) .skip) (st13 w h 2 q i c 0 s) [(53, .val (.bool true)), (2, .val (.bool true)), (9, .val (.bool true)), (2, .val (.bool true)), (12, .val (.bool false)), (2, .val (.bool false)), (16, .chk), (2, .val (.bool false)), (2, .val (.bool false)), (24, .val (.bool false)), (6, .val (.bool false)), (15, .val (.int .i64 n0)), (4, .val (.int .i64 n)), (3, .val (.int .i64 s2))] (fun _ e st => e = .normal ∧ td13 st = sg0 23 w h true n s2) =
    preOb w h s n0 8 (AV.int .i64 (wr64 (n0 * 3)) = .int .i64 n ∧ AV.int .i64 (clampS s) = .int .i64 s2 ∧ Ex.normal = .normal ∧ sg0 23 w h true n s2 = sg0 23 w h true n s2) := by kernel_rfl
theorem pk21 (w h q i c s s2 n0 n : Int) : codeP Y13 (seqs (pre13 ++ [a13]) .skip) (st13 w h 2 q i c 1 s) [(53, .val (.bool true)), (2, .val (.bool true)), (9, .val (.bool true)), (2, .val (.bool true)), (12, .val (.bool false)), (2, .val (.bool false)), (16, .chk), (2, .val (.bool false)), (2, .val (.bool false)), (24, .val (.bool false)), (6, .val (.bool false)), (15, .val (.int .i64 n0)), (4, .val (.int .i64 n)), (3, .val (.int .i64 s2))] (fun _ e st => e = .normal ∧ td13 st = sg0 24 w h true n s2) =
    preOb w h s n0 8 (AV.int .i64 (wr64 (n0 * 3)) = .int .i64 n ∧ AV.int .i64 (clampS s) = .int .i64 s2 ∧ Ex.normal = .normal ∧ sg0 24 w h true n s2 = sg0 24 w h true n s2) := by kernel_rfl
theorem pk22 (w h q i c s s2 n0 n : Int) : codeP Y13 (seqs (pre13 ++ [a13]) .skip) (st13 w h 2 q i c 2 s) [(53, .val (.bool true)), (2, .val (.bool true)), (9, .val (.bool true)), (2, .val (.bool true)), (12, .val (.bool false)), (2, .val (.bool false)), (16, .chk), (2, .val (.bool false)), (2, .val (.bool false)), (24, .val (.bool false)), (6, .val (.bool false)), (15, .val (.int .i64 n0)), (4, .val (.int .i64 n)), (3, .val (.int .i64 s2))] (fun _ e st => e = .normal ∧ td13 st = sg0 25 w h true n s2) =
    preOb w h s n0 8 (AV.int .i64 (wr64 (n0 * 3)) = .int .i64 n ∧ AV.int .i64 (clampS s) = .int .i64 s2 ∧ Ex.normal = .normal ∧ sg0 25 w h true n s2 = sg0 25 w h true n s2) := by kernel_rfl
theorem pk23 (w h q i c s s2 n0 n : Int) : codeP Y13 (seqs (pre13 ++ [a13]) .skip) (st13 w h 2 q i c 3 s) [(53, .val (.bool true)), (2, .val (.bool true)), (9, .val (.bool true)), (2, .val (.bool true)), (12, .val (.bool false)), (2, .val (.bool false)), (16, .chk), (2, .val (.bool false)), (2, .val (.bool false)), (24, .val (.bool false)), (6, .val (.bool false)), (15, .val (.int .i64 n0)), (4, .val (.int .i64 n)), (3, .val (.int .i64 s2))] (fun _ e st => e = .normal ∧ td13 st = sg0 26 w h true n s2) =
    preOb w h s n0 8 (AV.int .i64 (wr64 (n0 * 3)) = .int .i64 n ∧ AV.int .i64 (clampS s) = .int .i64 s2 ∧ Ex.normal = .normal ∧ sg0 26 w h true n s2 = sg0 26 w h true n s2) := by kernel_rfl
theorem pk24 (w h q i c s s2 n0 n : Int) : codeP Y13 (seqs (pre13 ++ [a13]) .skip) (st13 w h 2 q i c 4 s) [(53, .val (.bool true)), (2, .val (.bool true)), (9, .val (.bool true)), (2, .val (.bool true)), (12, .val (.bool false)), (2, .val (.bool false)), (16, .chk), (2, .val (.bool false)), (2, .val (.bool false)), (24, .val (.bool false)), (6, .val (.bool false)), (15, .val (.int .i64 n0)), (4, .val (.int .i64 n)), (3, .val (.int .i64 s2))] (fun _ e st => e = .normal ∧ td13 st = sg0 26 w h true n s2) =
    preOb w h s n0 8 (AV.int .i64 (wr64 (n0 * 3)) = .int .i64 n ∧ AV.int .i64 (clampS s) = .int .i64 s2 ∧ Ex.normal = .normal ∧ sg0 26 w h true n s2 = sg0 26 w h true n s2) := by kernel_rfl
theorem pk30 (w h q i c s s2 n0 n : Int) : codeP Y13 (seqs (pre13 ++ [a13]) .skip) (st13 w h 3 q i c 0 s) [(55, .val (.bool true)), (2, .val (.bool true)), (9, .val (.bool true)), (2, .val (.bool true)), (12, .val (.bool false)), (2, .val (.bool false)), (16, .chk), (2, .val (.bool false)), (2, .val (.bool false)), (24, .val (.bool false)), (6, .val (.bool false)), (15, .val (.int .i64 n0)), (4, .val (.int .i64 n)), (3, .val (.int .i64 s2))] (fun _ e st => e = .normal ∧ td13 st = sg0 23 w h true n s2) =
    preOb w h s n0 16 (AV.int .i64 (wr64 (n0 * 3)) = .int .i64 n ∧ AV.int .i64 (clampS s) = .int .i64 s2 ∧ Ex.normal = .normal ∧ sg0 23 w h true n s2 = sg0 23 w h true n s2) := by kernel_rfl
theorem pk31 (w h q i c s s2 n0 n : Int) : codeP Y13 (seqs (pre13 ++ [a13]) .skip) (st13 w h 3 q i c 1 s) [(55, .val (.bool true)), (2, .val (.bool true)), (9, .val (.bool true)), (2, .val (.bool true)), (12, .val (.bool false)), (2, .val (.bool false)), (16, .chk), (2, .val (.bool false)), (2, .val (.bool false)), (24, .val (.bool false)), (6, .val (.bool false)), (15, .val (.int .i64 n0)), (4, .val (.int .i64 n)), (3, .val (.int .i64 s2))] (fun _ e st => e = .normal ∧ td13 st = sg0 24 w h true n s2) =
    preOb w h s n0 16 (AV.int .i64 (wr64 (n0 * 3)) = .int .i64 n ∧ AV.int .i64 (clampS s) = .int .i64 s2 ∧ Ex.normal = .normal ∧ sg0 24 w h true n s2 = sg0 24 w h true n s2) := by kernel_rfl
theorem pk32 (w h q i c s s2 n0 n : Int) : codeP Y13 (seqs (pre13 ++ [a13]) .skip) (st13 w h 3 q i c 2 s) [(55, .val (.bool true)), (2, .val (.bool true)), (9, .val (.bool true)), (2, .val (.bool true)), (12, .val (.bool false)), (2, .val (.bool false)), (16, .chk), (2, .val (.bool false)), (2, .val (.bool false)), (24, .val (.bool false)), (6, .val (.bool false)), (15, .val (.int .i64 n0)), (4, .val (.int .i64 n)), (3, .val (.int .i64 s2))] (fun _ e st => e = .normal ∧ td13 st = sg0 25 w h true n s2) =
    preOb w h s n0 16 (AV.int .i64 (wr64 (n0 * 3)) = .int .i64 n ∧ AV.int .i64 (clampS s) = .int .i64 s2 ∧ Ex.normal = .normal ∧ sg0 25 w h true n s2 = sg0 25 w h true n s2) := by kernel_rfl
theorem pk33 (w h q i c s s2 n0 n : Int) : codeP Y13 (seqs (pre13 ++ [a13]) .skip) (st13 w h 3 q i c 3 s) [(55, .val (.bool true)), (2, .val (.bool true)), (9, .val (.bool true)), (2, .val (.bool true)), (12, .val (.bool false)), (2, .val (.bool false)), (16, .chk), (2, .val (.bool false)), (2, .val (.bool false)), (24, .val (.bool false)), (6, .val (.bool false)), (15, .val (.int .i64 n0)), (4, .val (.int .i64 n)), (3, .val (.int .i64 s2))] (fun _ e st => e = .normal ∧ td13 st = sg0 26 w h true n s2) =
    preOb w h s n0 16 (AV.int .i64 (wr64 (n0 * 3)) = .int .i64 n ∧ AV.int .i64 (clampS s) = .int .i64 s2 ∧ Ex.normal = .normal ∧ sg0 26 w h true n s2 = sg0 26 w h true n s2) := by kernel_rfl
theorem pk34 (w h q i c s s2 n0 n : Int) : codeP Y13 (seqs (pre13 ++ [a13]) .skip) (st13 w h 3 q i c 4 s) [(55, .val (.bool true)), (2, .val (.bool true)), (9, .val (.bool true)), (2, .val (.bool true)), (12, .val (.bool false)), (2, .val (.bool false)), (16, .chk), (2, .val (.bool false)), (2, .val (.bool false)), (24, .val (.bool false)), (6, .val (.bool false)), (15, .val (.int .i64 n0)), (4, .val (.int .i64 n)), (3, .val (.int .i64 s2))] (fun _ e st => e = .normal ∧ td13 st = sg0 26 w h true n s2) =
    preOb w h s n0 16 (AV.int .i64 (wr64 (n0 * 3)) = .int .i64 n ∧ AV.int .i64 (clampS s) = .int .i64 s2 ∧ Ex.normal = .normal ∧ sg0 26 w h true n s2 = sg0 26 w h true n s2) := by kernel_rfl
theorem pk40 (w h q i c s s2 n0 n : Int) : codeP Y13 (seqs (pre13 ++ [a13]) .skip) (st13 w h 4 q i c 0 s) [(57, .val (.bool true)), (2, .val (.bool true)), (9, .val (.bool true)), (2, .val (.bool true)), (12, .val (.bool false)), (2, .val (.bool false)), (16, .chk), (2, .val (.bool false)), (2, .val (.bool false)), (24, .val (.bool false)), (6, .val (.bool false)), (15, .val (.int .i64 n0)), (4, .val (.int .i64 n)), (3, .val (.int .i64 s2))] (fun _ e st => e = .normal ∧ td13 st = sg0 23 w h true n s2) =
    preOb w h s n0 16 (AV.int .i64 (wr64 (n0 * 3)) = .int .i64 n ∧ AV.int .i64 (clampS s) = .int .i64 s2 ∧ Ex.normal = .normal ∧ sg0 23 w h true n s2 = sg0 23 w h true n s2) := by kernel_rfl
theorem pk41 (w h q i c s s2 n0 n : Int) : codeP Y13 (seqs (pre13 ++ [a13]) .skip) (st13 w h 4 q i c 1 s) [(57, .val (.bool true)), (2, .val (.bool true)), (9, .val (.bool true)), (2, .val (.bool true)), (12, .val (.bool false)), (2, .val (.bool false)), (16, .chk), (2, .val (.bool false)), (2, .val (.bool false)), (24, .val (.bool false)), (6, .val (.bool false)), (15, .val (.int .i64 n0)), (4, .val (.int .i64 n)), (3, .val (.int .i64 s2))] (fun _ e st => e = .normal ∧ td13 st = sg0 24 w h true n s2) =
    preOb w h s n0 16 (AV.int .i64 (wr64 (n0 * 3)) = .int .i64 n ∧ AV.int .i64 (clampS s) = .int .i64 s2 ∧ Ex.normal = .normal ∧ sg0 24 w h true n s2 = sg0 24 w h true n s2) := by kernel_rfl
theorem pk42 (w h q i c s s2 n0 n : Int) : codeP Y13 (seqs (pre13 ++ [a13]) .skip) (st13 w h 4 q i c 2 s) [(57, .val (.bool true)), (2, .val (.bool true)), (9, .val (.bool true)), (2, .val (.bool true)), (12, .val (.bool false)), (2, .val (.bool false)), (16, .chk), (2, .val (.bool false)), (2, .val (.bool false)), (24, .val (.bool false)), (6, .val (.bool false)), (15, .val (.int .i64 n0)), (4, .val (.int .i64 n)), (3, .val (.int .i64 s2))] (fun _ e st => e = .normal ∧ td13 st = sg0 25 w h true n s2) =
    preOb w h s n0 16 (AV.int .i64 (wr64 (n0 * 3)) = .int .i64 n ∧ AV.int .i64 (clampS s) = .int .i64 s2 ∧ Ex.normal = .normal ∧ sg0 25 w h true n s2 = sg0 25 w h true n s2) := by kernel_rfl
theorem pk43 (w h q i c s s2 n0 n : Int) : codeP Y13 (seqs (pre13 ++ [a13]) .skip) (st13 w h 4 q i c 3 s) [(57, .val (.bool true)), (2, .val (.bool true)), (9, .val (.bool true)), (2, .val (.bool true)), (12, .val (.bool false)), (2, .val (.bool false)), (16, .chk), (2, .val (.bool false)), (2, .val (.bool false)), (24, .val (.bool false)), (6, .val (.bool false)), (15, .val (.int .i64 n0)), (4, .val (.int .i64 n)), (3, .val (.int .i64 s2))] (fun _ e st => e = .normal ∧ td13 st = sg0 26 w h true n s2) =
    preOb w h s n0 16 (AV.int .i64 (wr64 (n0 * 3)) = .int .i64 n ∧ AV.int .i64 (clampS s) = .int .i64 s2 ∧ Ex.normal = .normal ∧ sg0 26 w h true n s2 = sg0 26 w h true n s2) := by kernel_rfl
theorem pk44 (w h q i c s s2 n0 n : Int) : codeP Y13 (seqs (pre13 ++ [a13]) .skip) (st13 w h 4 q i c 4 s) [(57, .val (.bool true)), (2, .val (.bool true)), (9, .val (.bool true)), (2, .val (.bool true)), (12, .val (.bool false)), (2, .val (.bool false)), (16, .chk), (2, .val (.bool false)), (2, .val (.bool false)), (24, .val (.bool false)), (6, .val (.bool false)), (15, .val (.int .i64 n0)), (4, .val (.int .i64 n)), (3, .val (.int .i64 s2))] (fun _ e st => e = .normal ∧ td13 st = sg0 26 w h true n s2) =
    preOb w h s n0 16 (AV.int .i64 (wr64 (n0 * 3)) = .int .i64 n ∧ AV.int .i64 (clampS s) = .int .i64 s2 ∧ Ex.normal = .normal ∧ sg0 26 w h true n s2 = sg0 26 w h true n s2) := by kernel_rfl
theorem pic_any1 (w h k : Nat) (q i c s : Int) (hw : 1 ≤ w) (hw2 : w ≤ 60) (hh : 1 ≤ h) (hh2 : h ≤ 60) (hk : k < 5) :
    ∃ z, evalN E3 fuelF 141 (.fn 13) (pargs w h 1 q i c (k : Int) s) [] = some (picV w h false, picH (w * h) z) := by
  have ha := area hw2 hh2
  have h0 := area_pos hw hh
  have hob : ∀ {p : Prop}, p → preOb (w : Int) (h : Int) s ((w * h : Nat) : Int) 8 p := fun hp => preOb_okI w h s 8 hw hw2 hh hh2 (.inl rfl) hp
  rcases (show k = 0 ∨ k = 1 ∨ k = 2 ∨ k = 3 ∨ k = 4 by omega) with rfl | rfl | rfl | rfl | rfl
  · obtain ⟨e, s1, h1, rfl, h2⟩ := run_eq (Q := fun e st => e = .normal ∧ td13 st = sg0 23 w h false ((w * h : Nat) : Int) (clampS s)) (pk10 w h q i c s (clampS s) ((w * h : Nat) : Int)) (hob ⟨rfl, rfl, rfl⟩)
    exact pic_of_any 23 (.inl rfl) (args := pargs w h 1 q i c 0 s) rfl (by omega) (by omega) h1 h2
  · obtain ⟨e, s1, h1, rfl, h2⟩ := run_eq (Q := fun e st => e = .normal ∧ td13 st = sg0 24 w h false ((w * h : Nat) : Int) (clampS s)) (pk11 w h q i c s (clampS s) ((w * h : Nat) : Int)) (hob ⟨rfl, rfl, rfl⟩)
    exact pic_of_any 24 (.inr (.inl rfl)) (args := pargs w h 1 q i c 1 s) rfl (by omega) (by omega) h1 h2
  · obtain ⟨e, s1, h1, rfl, h2⟩ := run_eq (Q := fun e st => e = .normal ∧ td13 st = sg0 25 w h false ((w * h : Nat) : Int) (clampS s)) (pk12 w h q i c s (clampS s) ((w * h : Nat) : Int)) (hob ⟨rfl, rfl, rfl⟩)
    exact pic_of_any 25 (.inr (.inr (.inl rfl))) (args := pargs w h 1 q i c 2 s) rfl (by omega) (by omega) h1 h2
  · obtain ⟨e, s1, h1, rfl, h2⟩ := run_eq (Q := fun e st => e = .normal ∧ td13 st = sg0 26 w h false ((w * h : Nat) : Int) (clampS s)) (pk13 w h q i c s (clampS s) ((w * h : Nat) : Int)) (hob ⟨rfl, rfl, rfl⟩)
    exact pic_of_any 26 (.inr (.inr (.inr rfl))) (args := pargs w h 1 q i c 3 s) rfl (by omega) (by omega) h1 h2
  · obtain ⟨e, s1, h1, rfl, h2⟩ := run_eq (Q := fun e st => e = .normal ∧ td13 st = sg0 26 w h false ((w * h : Nat) : Int) (clampS s)) (pk14 w h q i c s (clampS s) ((w * h : Nat) : Int)) (hob ⟨rfl, rfl, rfl⟩)
    exact pic_of_any 26 (.inr (.inr (.inr rfl))) (args := pargs w h 1 q i c 4 s) rfl (by omega) (by omega) h1 h2
theorem pic_any2 (w h k : Nat) (q i c s : Int) (hw : 1 ≤ w) (hw2 : w ≤ 60) (hh : 1 ≤ h) (hh2 : h ≤ 60) (hk : k < 5) :
    ∃ z, evalN E3 fuelF 141 (.fn 13) (pargs w h 2 q i c (k : Int) s) [] = some (picV w h true, picH (w * h * 3) z) := by
  have ha := area hw2 hh2
  have h0 := area_pos hw hh
  have three : AV.int .i64 (wr64 (((w * h : Nat) : Int) * 3)) = .int .i64 ((w * h * 3 : Nat) : Int) := by
    rw [wr64_id (by omega) (by omega)]; rfl
  have hob : ∀ {p : Prop}, p → preOb (w : Int) (h : Int) s ((w * h : Nat) : Int) 8 p := fun hp => preOb_okI w h s 8 hw hw2 hh hh2 (.inl rfl) hp
  rcases (show k = 0 ∨ k = 1 ∨ k = 2 ∨ k = 3 ∨ k = 4 by omega) with rfl | rfl | rfl | rfl | rfl
  · obtain ⟨e, s1, h1, rfl, h2⟩ := run_eq (Q := fun e st => e = .normal ∧ td13 st = sg0 23 w h true ((w * h * 3 : Nat) : Int) (clampS s)) (pk20 w h q i c s (clampS s) ((w * h : Nat) : Int) ((w * h * 3 : Nat) : Int)) (hob ⟨three, rfl, rfl, rfl⟩)
    exact pic_of_any 23 (.inl rfl) (args := pargs w h 2 q i c 0 s) rfl (by omega) (by omega) h1 h2
  · obtain ⟨e, s1, h1, rfl, h2⟩ := run_eq (Q := fun e st => e = .normal ∧ td13 st = sg0 24 w h true ((w * h * 3 : Nat) : Int) (clampS s)) (pk21 w h q i c s (clampS s) ((w * h : Nat) : Int) ((w * h * 3 : Nat) : Int)) (hob ⟨three, rfl, rfl, rfl⟩)
    exact pic_of_any 24 (.inr (.inl rfl)) (args := pargs w h 2 q i c 1 s) rfl (by omega) (by omega) h1 h2
  · obtain ⟨e, s1, h1, rfl, h2⟩ := run_eq (Q := fun e st => e = .normal ∧ td13 st = sg0 25 w h true ((w * h * 3 : Nat) : Int) (clampS s)) (pk22 w h q i c s (clampS s) ((w * h : Nat) : Int) ((w * h * 3 : Nat) : Int)) (hob ⟨three, rfl, rfl, rfl⟩)
    exact pic_of_any 25 (.inr (.inr (.inl rfl))) (args := pargs w h 2 q i c 2 s) rfl (by omega) (by omega) h1 h2
  · obtain ⟨e, s1, h1, rfl, h2⟩ := run_eq (Q := fun e st => e = .normal ∧ td13 st = sg0 26 w h true ((w * h * 3 : Nat) : Int) (clampS s)) (pk23 w h q i c s (clampS s) ((w * h : Nat) : Int) ((w * h * 3 : Nat) : Int)) (hob ⟨three, rfl, rfl, rfl⟩)
    exact pic_of_any 26 (.inr (.inr (.inr rfl))) (args := pargs w h 2 q i c 3 s) rfl (by omega) (by omega) h1 h2
  · obtain ⟨e, s1, h1, rfl, h2⟩ := run_eq (Q := fun e st => e = .normal ∧ td13 st = sg0 26 w h true ((w * h * 3 : Nat) : Int) (clampS s)) (pk24 w h q i c s (clampS s) ((w * h : Nat) : Int) ((w * h * 3 : Nat) : Int)) (hob ⟨three, rfl, rfl, rfl⟩)
    exact pic_of_any 26 (.inr (.inr (.inr rfl))) (args := pargs w h 2 q i c 4 s) rfl (by omega) (by omega) h1 h2
theorem pic_any3 (w h k : Nat) (q i c s : Int) (hw : 1 ≤ w) (hw2 : w ≤ 60) (hh : 1 ≤ h) (hh2 : h ≤ 60) (hk : k < 5) :
    ∃ z, evalN E3 fuelF 141 (.fn 13) (pargs w h 3 q i c (k : Int) s) [] = some (picV w h true, picH (w * h * 3) z) := by
  have ha := area hw2 hh2
  have h0 := area_pos hw hh
  have three : AV.int .i64 (wr64 (((w * h : Nat) : Int) * 3)) = .int .i64 ((w * h * 3 : Nat) : Int) := by
    rw [wr64_id (by omega) (by omega)]; rfl
  have hob : ∀ {p : Prop}, p → preOb (w : Int) (h : Int) s ((w * h : Nat) : Int) 16 p := fun hp => preOb_okI w h s 16 hw hw2 hh hh2 (.inr rfl) hp
  rcases (show k = 0 ∨ k = 1 ∨ k = 2 ∨ k = 3 ∨ k = 4 by omega) with rfl | rfl | rfl | rfl | rfl
  · obtain ⟨e, s1, h1, rfl, h2⟩ := run_eq (Q := fun e st => e = .normal ∧ td13 st = sg0 23 w h true ((w * h * 3 : Nat) : Int) (clampS s)) (pk30 w h q i c s (clampS s) ((w * h : Nat) : Int) ((w * h * 3 : Nat) : Int)) (hob ⟨three, rfl, rfl, rfl⟩)
    exact pic_of_any 23 (.inl rfl) (args := pargs w h 3 q i c 0 s) rfl (by omega) (by omega) h1 h2
  · obtain ⟨e, s1, h1, rfl, h2⟩ := run_eq (Q := fun e st => e = .normal ∧ td13 st = sg0 24 w h true ((w * h * 3 : Nat) : Int) (clampS s)) (pk31 w h q i c s (clampS s) ((w * h : Nat) : Int) ((w * h * 3 : Nat) : Int)) (hob ⟨three, rfl, rfl, rfl⟩)
    exact pic_of_any 24 (.inr (.inl rfl)) (args := pargs w h 3 q i c 1 s) rfl (by omega) (by omega) h1 h2
  · obtain ⟨e, s1, h1, rfl, h2⟩ := run_eq (Q := fun e st => e = .normal ∧ td13 st = sg0 25 w h true ((w * h * 3 : Nat) : Int) (clampS s)) (pk32 w h q i c s (clampS s) ((w * h : Nat) : Int) ((w * h * 3 : Nat) : Int)) (hob ⟨three, rfl, rfl, rfl⟩)
    exact pic_of_any 25 (.inr (.inr (.inl rfl))) (args := pargs w h 3 q i c 2 s) rfl (by omega) (by omega) h1 h2
  · obtain ⟨e, s1, h1, rfl, h2⟩ := run_eq (Q := fun e st => e = .normal ∧ td13 st = sg0 26 w h true ((w * h * 3 : Nat) : Int) (clampS s)) (pk33 w h q i c s (clampS s) ((w * h : Nat) : Int) ((w * h * 3 : Nat) : Int)) (hob ⟨three, rfl, rfl, rfl⟩)
    exact pic_of_any 26 (.inr (.inr (.inr rfl))) (args := pargs w h 3 q i c 3 s) rfl (by omega) (by omega) h1 h2
  · obtain ⟨e, s1, h1, rfl, h2⟩ := run_eq (Q := fun e st => e = .normal ∧ td13 st = sg0 26 w h true ((w * h * 3 : Nat) : Int) (clampS s)) (pk34 w h q i c s (clampS s) ((w * h : Nat) : Int) ((w * h * 3 : Nat) : Int)) (hob ⟨three, rfl, rfl, rfl⟩)
    exact pic_of_any 26 (.inr (.inr (.inr rfl))) (args := pargs w h 3 q i c 4 s) rfl (by omega) (by omega) h1 h2
theorem pic_any4 (w h k : Nat) (q i c s : Int) (hw : 1 ≤ w) (hw2 : w ≤ 60) (hh : 1 ≤ h) (hh2 : h ≤ 60) (hk : k < 5) :
    ∃ z, evalN E3 fuelF 141 (.fn 13) (pargs w h 4 q i c (k : Int) s) [] = some (picV w h true, picH (w * h * 3) z) := by
  have ha := area hw2 hh2
  have h0 := area_pos hw hh
  have three : AV.int .i64 (wr64 (((w * h : Nat) : Int) * 3)) = .int .i64 ((w * h * 3 : Nat) : Int) := by
    rw [wr64_id (by omega) (by omega)]; rfl
  have hob : ∀ {p : Prop}, p → preOb (w : Int) (h : Int) s ((w * h : Nat) : Int) 16 p := fun hp => preOb_okI w h s 16 hw hw2 hh hh2 (.inr rfl) hp
  rcases (show k = 0 ∨ k = 1 ∨ k = 2 ∨ k = 3 ∨ k = 4 by omega) with rfl | rfl | rfl | rfl | rfl
  · obtain ⟨e, s1, h1, rfl, h2⟩ := run_eq (Q := fun e st => e = .normal ∧ td13 st = sg0 23 w h true ((w * h * 3 : Nat) : Int) (clampS s)) (pk40 w h q i c s (clampS s) ((w * h : Nat) : Int) ((w * h * 3 : Nat) : Int)) (hob ⟨three, rfl, rfl, rfl⟩)
    exact pic_of_any 23 (.inl rfl) (args := pargs w h 4 q i c 0 s) rfl (by omega) (by omega) h1 h2
  · obtain ⟨e, s1, h1, rfl, h2⟩ := run_eq (Q := fun e st => e = .normal ∧ td13 st = sg0 24 w h true ((w * h * 3 : Nat) : Int) (clampS s)) (pk41 w h q i c s (clampS s) ((w * h : Nat) : Int) ((w * h * 3 : Nat) : Int)) (hob ⟨three, rfl, rfl, rfl⟩)
    exact pic_of_any 24 (.inr (.inl rfl)) (args := pargs w h 4 q i c 1 s) rfl (by omega) (by omega) h1 h2
  · obtain ⟨e, s1, h1, rfl, h2⟩ := run_eq (Q := fun e st => e = .normal ∧ td13 st = sg0 25 w h true ((w * h * 3 : Nat) : Int) (clampS s)) (pk42 w h q i c s (clampS s) ((w * h : Nat) : Int) ((w * h * 3 : Nat) : Int)) (hob ⟨three, rfl, rfl, rfl⟩)
    exact pic_of_any 25 (.inr (.inr (.inl rfl))) (args := pargs w h 4 q i c 2 s) rfl (by omega) (by omega) h1 h2
  · obtain ⟨e, s1, h1, rfl, h2⟩ := run_eq (Q := fun e st => e = .normal ∧ td13 st = sg0 26 w h true ((w * h * 3 : Nat) : Int) (clampS s)) (pk43 w h q i c s (clampS s) ((w * h : Nat) : Int) ((w * h * 3 : Nat) : Int)) (hob ⟨three, rfl, rfl, rfl⟩)
    exact pic_of_any 26 (.inr (.inr (.inr rfl))) (args := pargs w h 4 q i c 3 s) rfl (by omega) (by omega) h1 h2
  · obtain ⟨e, s1, h1, rfl, h2⟩ := run_eq (Q := fun e st => e = .normal ∧ td13 st = sg0 26 w h true ((w * h * 3 : Nat) : Int) (clampS s)) (pk44 w h q i c s (clampS s) ((w * h : Nat) : Int) ((w * h * 3 : Nat) : Int)) (hob ⟨three, rfl, rfl, rfl⟩)
    exact pic_of_any 26 (.inr (.inr (.inr rfl))) (args := pargs w h 4 q i c 4 s) rfl (by omega) (by omega) h1 h2
end Go.Proofs.YtfbamgphngmglaaGreatDoor
end
