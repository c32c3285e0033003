/- A part of a proof about a statement of cyanotypelaw22: a step that the closing text imports. Each theorem states its own conditions. -/
import Derived.Test.YtfbamgphngmglaaGreatDoorFlatV
set_option linter.unusedSimpArgs false
set_option linter.unusedVariables false
section
namespace Go.Proofs.YtfbamgphngmglaaGreatDoor
open Go Go.Abs
set_option maxRecDepth 100000
/-! ### PlayFlat -/
noncomputable def con6 (f : Nat) : Option Con := cond (Nat.beq f 29) (some (conEval (evalN E5 fuelF 150) 29 0)) (con5 f)
noncomputable def E6 : Env := { E0 with con := con6, live := liveF }
theorem envOK6 : EnvOK Tryz.prog E6 where
  T := ttok
  ext := extOK
  eq := eqOK
  eqI := intOK
  mixed := by kernel_rfl
theorem conSpec5 : ∀ f c, con5 f = some c → ConSpec Tryz.prog E0.glob c f := fun f c hc => by
  rcases beqE hc with ⟨rfl, rfl⟩ | hc
  · exact conEval_ok (evalOK3 fuelF 141) 13 1 rfl
  rcases beqE hc with ⟨rfl, rfl⟩ | hc
  · exact itoa_spec
  rcases beqE hc with ⟨rfl, rfl⟩ | hc
  · exact conEval_ok (evalOK fuelF 100) 19 1 rfl
  rcases beqE hc with ⟨rfl, rfl⟩ | hc
  · exact join_spec
  rcases beqE hc with ⟨rfl, rfl⟩ | hc
  · exact conEval_ok (evalOK4 fuelF 100) 37 0 rfl
  rcases beqE hc with ⟨rfl, rfl⟩ | hc
  · exact conEval_ok (evalOK fuelF 100) 66 0 rfl
  · obtain ⟨rfl, rfl⟩ := beqD hc
    exact known_spec rfl
theorem evalOK6 (k n : Nat) : InlOK Tryz.prog E6 (evalN E6 k n) := evalN_sound envOK6 (conOK_of fun f c hc => by
  rcases beqE hc with ⟨rfl, rfl⟩ | hc
  · exact conEval_ok (evalOK5 fuelF 150) 29 0 rfl
  · exact conSpec5 f c hc) (fnsOf_ok rfl) k n
noncomputable def c5 : Code := (Tryz.f5.body).getD .skip
noncomputable def pre5 : List Code := tks 3 c5
noncomputable def cut5 : Code := sqL (drp 3 c5)
noncomputable def a5 : Code := sqL cut5
noncomputable def l5 : Code := loopC (blkC (sqR cut5))
noncomputable def r5 : Code := sqR (drp 3 c5)
theorem shape5 : Tryz.f5.body = some (seqs pre5 (.seq (.seq a5 (.block 0 (.loop l5))) r5)) := by kernel_rfl
noncomputable def X5 : Cx := { E := E6, fn := 5, base := 0, k := fuelF, inl := evalN E6 fuelF 160, round := none }
noncomputable def Y5 : CxP := { E := E6, fn := 5, base := 0, k := fuelF, inl := evalNP E6 fuelF 160, round := none }
theorem XY5 : CxOK X5 Y5 := ⟨rfl, rfl, rfl, rfl, rfl, evalNP_sound E6 fuelF 160⟩
noncomputable def td5 : St → St := tdOf 0 (E6.live 5 (firstReg l5))
end Go.Proofs.YtfbamgphngmglaaGreatDoor
end

section
namespace Go.Proofs.YtfbamgphngmglaaGreatDoor
open Go Go.Abs
set_option maxRecDepth 100000
/-- at the loop's head -/
noncomputable def st5 (w h m q s : Int) (rgb : Bool) (N : Nat) (z : List Int) (i : Nat) : St := ⟨[.top, .top, .top, .int .u8 s, .top, .top, .top, .top, .top, .top, .bool false, .ptr 0 none [] 6, .ptr 1 none [] 4, .int .i64 (i : Int)] ++ List.replicate 64 .top,
  [.cells (.ints .i64 6 [w, h, m, q, 1, 0]) 23, .cells (.vals [.int .i64 w, .int .i64 h, .bool rgb, .sl 2 none 1 .any]) 34, .cells (.ints .u8 N z) 5]⟩
/-- behind the loop -/
noncomputable def stE5 (w h m q s : Int) (rgb : Bool) (N : Nat) (z : List Int) (i : Nat) : St := ⟨[.top, .top, .top, .int .u8 s, .top, .top, .top, .top, .top, .top, .bool false, .ptr 0 none [] 6, .ptr 1 none [] 4, .int .i64 (i : Int)] ++ List.replicate 21 .top ++ [.int .i64 (i : Int), .ptr 1 none [(3, 1)] 1, .sl 2 none 1 .any, .int .i64 (N : Int), .bool false] ++ List.replicate 38 .top,
  [.cells (.ints .i64 6 [w, h, m, q, 1, 0]) 23, .cells (.vals [.int .i64 w, .int .i64 h, .bool rgb, .sl 2 none 1 .any]) 34, .cells (.ints .u8 N z) 5]⟩
end Go.Proofs.YtfbamgphngmglaaGreatDoor
end

section
namespace Go.Proofs.YtfbamgphngmglaaGreatDoor
open Go Go.Abs
set_option maxRecDepth 100000
noncomputable def in5 (w0 h0 m0 s q0 : Int) : St := { tm := [.int .u8 w0, .int .u8 h0, .int .u8 m0, .int .u8 s, .int .u16 q0] ++ List.replicate 73 .top, hp := [] }
theorem pre5_eq (w0 h0 m0 s q0 u1 w1 w u2 h1 h u3 m1 m q1 q s1 : Int) (rgb : Bool) (N : Nat) (z : List Int) : codeP Y5 (seqs (pre5 ++ [a5]) .skip) (in5 w0 h0 m0 s q0)
    [(2, .val (.int .u8 u1)), (0, .val (.int .i64 w1)), (0, .val (.int .i64 w)), (1, .val (.int .u8 u2)), (0, .val (.int .i64 h1)), (0, .val (.int .i64 h)), (1, .val (.int .u8 u3)), (0, .val (.int .i64 m1)), (0, .val (.int .i64 m)), (1, .val (.int .i64 q1)), (0, .val (.int .i64 q)), (5, .val (.int .i64 s1)), (0, .run (picV w h rgb) (picH N z))]
    (fun _ e st => e = .normal ∧ td5 st = st5 w h m q s rgb N z 0) =
    (AV.int .u8 (w0.tmod 60) = .int .u8 u1 ∧ AV.int .i64 (IntKind.wrap .i64 u1) = .int .i64 w1 ∧ AV.int .i64 (IntKind.wrap .i64 (1 + w1)) = .int .i64 w ∧
     AV.int .u8 (h0.tmod 60) = .int .u8 u2 ∧ AV.int .i64 (IntKind.wrap .i64 u2) = .int .i64 h1 ∧ AV.int .i64 (IntKind.wrap .i64 (1 + h1)) = .int .i64 h ∧
     AV.int .u8 (m0.tmod 4) = .int .u8 u3 ∧ AV.int .i64 (IntKind.wrap .i64 u3) = .int .i64 m1 ∧ AV.int .i64 (IntKind.wrap .i64 (1 + m1)) = .int .i64 m ∧
     AV.int .i64 (IntKind.wrap .i64 q0) = .int .i64 q1 ∧ AV.int .i64 (IntKind.wrap .i64 (101 + q1)) = .int .i64 q ∧ AV.int .i64 (IntKind.wrap .i64 s) = .int .i64 s1 ∧
     (conEval (evalN E3 fuelF 141) 13 1).run (pargs w h m q 1 0 0 s1) = some (picV w h rgb, picH N z) ∧ Ex.normal = .normal ∧ st5 w h m q s rgb N z 0 = st5 w h m q s rgb N z 0) := by kernel_rfl
theorem round5 (w h m q s v j : Int) (rgb : Bool) (N : Nat) (z : List Int) (i : Nat) : codeP Y5 l5 (st5 w h m q s rgb N z i) [(4, .val (.bool true)), (3, .fit), (0, .val (.int .u8 v)), (1, .val (.bool false)), (1, .val (.int .i64 ((i + 1 : Nat) : Int)))]
    (fun _ e st => e = .normal ∧ td5 st = st5 w h m q s rgb N z (i + 1)) =
    (AV.bool (decide ((i : Int) < (N : Int))) = .bool true ∧ (0 ≤ (i : Int) ∧ (i : Int) < (N : Int)) ∧ AV.int .u8 (z.getD i 0) = .int .u8 v ∧ AV.bool (v != s) = .bool false ∧ AV.int .i64 (IntKind.wrap .i64 ((i : Int) + 1)) = .int .i64 ((i + 1 : Nat) : Int) ∧
     Ex.normal = .normal ∧ st5 w h m q s rgb N z (i + 1) = st5 w h m q s rgb N z (i + 1)) := by kernel_rfl
theorem exit5 (w h m q s : Int) (rgb : Bool) (N : Nat) (z : List Int) (i : Nat) : codeP Y5 l5 (st5 w h m q s rgb N z i) [(4, .val (.bool false))] (fun _ e st => e = .exit 0 ∧ st = stE5 w h m q s rgb N z i) =
    (AV.bool (decide ((i : Int) < (N : Int))) = .bool false ∧ Ex.exit 0 = .exit 0 ∧ stE5 w h m q s rgb N z i = stE5 w h m q s rgb N z i) := by kernel_rfl
def strA (l : List UInt8) : Ans := .run (.str (ofL l)) []
def itoaOb (n : Int) (d : List UInt8) : Prop := conItoa.run [.int .i64 n] = some (.str (ofL d), [])
theorem rest5_eq (w h m q s l b1 l4 : Int) (rgb : Bool) (N : Nat) (z : List Int) (i : Nat) (P R d1 d2 d3 d4 : List UInt8) : codeP Y5 r5 (stE5 w h m q s rgb N z i)
    [(27, strA d1), (11, strA d2), (11, strA d3), (11, strA d4), (31, strA P), (2, .res (.str (ofL (szL P)))), (0, .res (.str (ofL (szL R)))), (8, .val (.int .i64 l)), (0, .val (.bool true)), (8, .val (.int .i64 (-1))), (20, .val (.int .i64 l)), (2, .val (.bool true)), (3, .val (.int .i64 l)), (2, .val (.int .i64 l4)),
     (0, .res (.str (ofL [48]))), (7, strA err12), (61, .val (.int .i64 b1)), (0, .val (.bool true))]
    (fun _ e st => e = .ret ∧ tget st.tm 10 = .bool true) =
    (itoaOb w d1 ∧ itoaOb h d2 ∧ itoaOb m d3 ∧ itoaOb q d4 ∧ conJoin.run [.vs (.pure 6 [.str (ofL d1), .str (ofL d2), .str (ofL d3), .str (ofL d4), .str (ofL (Lib.itoa 1)), .str (ofL (Lib.itoa 0))]) none 1 false, .str (ofL [32])] = some (.str (ofL P), []) ∧
     strBin .add (ofL [115, 105, 122, 101, 32]) (ofL P) = some (.str (ofL (szL P))) ∧ strBin .add (ofL (szL P)) (ofL [32, 48, 32, 48]) = some (.str (ofL (szL R))) ∧
     AV.int .i64 ((ofL (szL R)).size : Int) = .int .i64 l ∧ AV.bool (decide (l > 0)) = .bool true ∧ AV.int .i64 (ixZ 10 (bytesL (ofL (szL R))) 0) = .int .i64 (-1) ∧ AV.int .i64 ((ofL (szL R)).size : Int) = .int .i64 l ∧ AV.bool (decide (l ≥ 1)) = .bool true ∧
     AV.int .i64 ((ofL (szL R)).size : Int) = .int .i64 l ∧ AV.int .i64 (IntKind.wrap .i64 (l - 1)) = .int .i64 l4 ∧ sliceStr (ofL (szL R)) (some (.int .i64 l4)) none = some (.str (ofL [48])) ∧
     (conEval (evalN E5 fuelF 150) 29 0).run [.str (ofL (szL R))] = some (.str (ofL err12), []) ∧ AV.int .i64 (IntKind.wrap .i64 (w * h)) = .int .i64 b1 ∧ AV.bool (decide ((N : Int) ≥ b1)) = .bool true ∧ Ex.ret = .ret ∧ AV.bool true = .bool true) := by kernel_rfl
end Go.Proofs.YtfbamgphngmglaaGreatDoor
end

section
namespace Go.Proofs.YtfbamgphngmglaaGreatDoor
open Go Go.Abs
set_option maxRecDepth 100000
theorem run5 {c : Code} {s : St} {o : Orc} {Q : Ex → St → Prop} {b : Prop} (h : codeP Y5 c s o (fun _ e s => Q e s) = b) (hb : b) : ∃ e s', evalCode X5 c s = some (e, s') ∧ Q e s' := by
  obtain ⟨e, s', _, h1, h2⟩ := codeP_sound XY5 c _ _ _ (h.symm ▸ hb)
  exact ⟨e, s', h1, h2⟩
theorem intercalate_join : ∀ (ws : List (List UInt8)), Lib.join ws [32] = joinS ws
  | [] => rfl
  | [w] => by rw [Lib.join_one]; rfl
  | w :: w' :: r => by
    have := intercalate_join (w' :: r)
    rw [Lib.join_cons] at this ⊢
    show w ++ Lib.joinTail [32] (w' :: r) = w ++ 32 :: joinS (w' :: r)
    rw [← this]
    simp [Lib.joinTail]
theorem mem_joinS {y : UInt8} : ∀ {ws : List (List UInt8)}, y ∈ joinS ws → y.toNat = 32 ∨ ∃ w ∈ ws, y ∈ w
  | [], h => by cases h
  | [w], h => .inr ⟨w, List.mem_cons_self, h⟩
  | w :: w' :: r, h => by
    have h : y ∈ w ++ 32 :: joinS (w' :: r) := h
    rcases List.mem_append.mp h with h | h
    · exact .inr ⟨w, List.mem_cons_self, h⟩
    · rcases List.mem_cons.mp h with rfl | h
      · exact .inl rfl
      · rcases mem_joinS h with h | ⟨x, hx, h⟩
        · exact .inl h
        · exact .inr ⟨x, List.mem_cons_of_mem _ hx, h⟩
theorem ix_none : ∀ (L : List UInt8) (n : Nat), (∀ y ∈ L, y.toNat ≠ 10) → ixZ 10 L n = -1
  | [], _, _ => rfl
  | y :: L, n, h => by
    have hy : Nat.beq y.toNat 10 = false := by rw [← Bool.not_eq_true, Nat.beq_eq]; exact h y List.mem_cons_self
    show (Bool.rec (ixZ 10 L (Nat.succ n)) (n : Int) (Nat.beq y.toNat 10) : Int) = _
    rw [hy]
    exact ix_none L _ fun z hz => h z (List.mem_cons_of_mem _ hz)
theorem joinS_more (a b c d : List UInt8) : joinS [a, b, c, d, [49], [48], [48], [48]] = joinS [a, b, c, d, [49], [48]] ++ [32, 48, 32, 48] := by
  simp [joinS]
theorem itoaOb_dec (u : Nat) (hu : u < 1000000000) : itoaOb (u : Int) (Lib.decDigits u) := by
  show runItoa [.int .i64 (u : Int)] = _
  unfold runItoa
  simp only
  rw [if_pos ⟨by omega, by omega⟩, itoa_dec]
theorem wz (n : Nat) (h : n ≤ 9223372036854775807) : AV.int .i64 (IntKind.wrap .i64 (n : Int)) = .int .i64 (n : Int) := by rw [wrN n h]
theorem wz1 (a n : Nat) (h : a + n ≤ 9223372036854775807) : AV.int .i64 (IntKind.wrap .i64 ((a : Int) + (n : Int))) = .int .i64 ((a + n : Nat) : Int) := by
  have : (a : Int) + (n : Int) = ((a + n : Nat) : Int) := by omega
  rw [this, wrN _ h]
theorem tmodN (a b : Nat) : ((a : Nat) : Int).tmod (b : Int) = ((a % b : Nat) : Int) := by
  rw [Int.tmod_eq_emod_of_nonneg (by omega)]; rfl
theorem loop5 (w h m q s : Int) (rgb : Bool) (N : Nat) (hN : N ≤ 1000000) : ∀ (r i k : Nat), i + r = N → r < k → iter (evalCode X5 l5) td5 k (st5 w h m q s rgb N (List.replicate N s) i) = some (.exit 0, stE5 w h m q s rgb N (List.replicate N s) N)
  | _, _, 0, _, hk => absurd hk (Nat.not_lt_zero _)
  | 0, i, k + 1, hi, _ => by
    have hi : i = N := by omega
    subst hi
    obtain ⟨e, s', h1, rfl, rfl⟩ := run5 (Q := fun e st => e = .exit 0 ∧ st = stE5 w h m q s rgb i (List.replicate i s) i) (exit5 w h m q s rgb i (List.replicate i s) i) ⟨by rw [decide_eq_false (by omega)], rfl, rfl⟩
    rw [iter_succ, h1]
  | r + 1, i, k + 1, hi, hk => by
    have hg : (List.replicate N s).getD i 0 = s := by
      rw [List.getD_eq_getElem?_getD, List.getElem?_replicate, if_pos (by omega)]; rfl
    obtain ⟨e, s', h1, rfl, h2⟩ := run5 (Q := fun e st => e = .normal ∧ td5 st = st5 w h m q s rgb N (List.replicate N s) (i + 1)) (round5 w h m q s s 0 rgb N (List.replicate N s) i)
      ⟨by rw [decide_eq_true (by omega)], ⟨by omega, by omega⟩, by rw [hg], by simp, wr1 i (by omega), rfl, rfl⟩
    rw [iter_succ, h1]
    simp only [h2]
    exact loop5 w h m q s rgb N hN r (i + 1) k (by omega) (by omega)
theorem fns5 : E6.fns 5 = some Tryz.f5 := by kernel_rfl
theorem ntmps5 : Tryz.f5.ntmps = 78 := by kernel_rfl
theorem res5 : Tryz.f5.results.toList = [.tmp 10] := by kernel_rfl
def args5 (w0 h0 m0 s q0 : Nat) : List AV := [.int .u8 (w0 : Int), .int .u8 (h0 : Int), .int .u8 (m0 : Int), .int .u8 (s : Int), .int .u16 (q0 : Int)]
theorem flat_run (w0 h0 m0 s q0 : Nat) (hs : s ≤ 255) (hq : q0 ≤ 65535) : ∃ hp, evalN E6 fuelF 161 (.fn 5) (args5 w0 h0 m0 s q0) [] = some (.bool true, hp) := by
  have bw : w0 % 60 < 60 := Nat.mod_lt _ (by decide)
  have bh : h0 % 60 < 60 := Nat.mod_lt _ (by decide)
  have bm : m0 % 4 < 4 := Nat.mod_lt _ (by decide)
  have hm : 1 + m0 % 4 = 1 ∨ 1 + m0 % 4 = 2 ∨ 1 + m0 % 4 = 3 ∨ 1 + m0 % 4 = 4 := by omega
  have hmI : ((1 + m0 % 4 : Nat) : Int) = 1 ∨ ((1 + m0 % 4 : Nat) : Int) = 2 ∨ ((1 + m0 % 4 : Nat) : Int) = 3 ∨ ((1 + m0 % 4 : Nat) : Int) = 4 := by omega
  obtain ⟨rgb, N, hN1, hN2, hp⟩ := pic_flat (1 + w0 % 60) (1 + h0 % 60) s ((1 + m0 % 4 : Nat) : Int) ((101 + q0 : Nat) : Int) 1 0 (by omega) (by omega) (by omega) (by omega) hmI hs
  obtain ⟨e, s1, h1, rfl, h2⟩ := run5 (Q := fun e st => e = .normal ∧ td5 st = st5 ((1 + w0 % 60 : Nat) : Int) ((1 + h0 % 60 : Nat) : Int) ((1 + m0 % 4 : Nat) : Int) ((101 + q0 : Nat) : Int) (s : Int) rgb N (List.replicate N (s : Int)) 0)
    (pre5_eq w0 h0 m0 s q0 ((w0 % 60 : Nat) : Int) ((w0 % 60 : Nat) : Int) ((1 + w0 % 60 : Nat) : Int) ((h0 % 60 : Nat) : Int) ((h0 % 60 : Nat) : Int) ((1 + h0 % 60 : Nat) : Int) ((m0 % 4 : Nat) : Int) ((m0 % 4 : Nat) : Int) ((1 + m0 % 4 : Nat) : Int) (q0 : Int) ((101 + q0 : Nat) : Int) (s : Int) rgb N (List.replicate N (s : Int)))
    ⟨congrArg _ (tmodN w0 60), wz _ (by omega), wz1 1 _ (by omega), congrArg _ (tmodN h0 60), wz _ (by omega), wz1 1 _ (by omega), congrArg _ (tmodN m0 4), wz _ (by omega), wz1 1 _ (by omega), wz _ (by omega), wz1 101 _ (by omega), wz _ (by omega), runEval_eq 1 hp rfl, rfl, rfl⟩
  obtain ⟨s', h3, h4⟩ := seqs_snoc _ _ h1
  have hl := loop5 ((1 + w0 % 60 : Nat) : Int) ((1 + h0 % 60 : Nat) : Int) ((1 + m0 % 4 : Nat) : Int) ((101 + q0 : Nat) : Int) (s : Int) rgb N (by omega) N 0 fuelF (by omega) (by unfold fuelF; omega)
  have hb : evalCode X5 (.block 0 (.loop l5)) s1 = some (.normal, stE5 ((1 + w0 % 60 : Nat) : Int) ((1 + h0 % 60 : Nat) : Int) ((1 + m0 % 4 : Nat) : Int) ((101 + q0 : Nat) : Int) (s : Int) rgb N (List.replicate N (s : Int)) N) := by
    rw [evalCode_block, evalCode_loop]
    have hk : iter (evalCode X5 l5) (tdOf X5.base (X5.E.live X5.fn (firstReg l5))) X5.k (tdOf X5.base (X5.E.live X5.fn (firstReg l5)) s1) = iter (evalCode X5 l5) td5 fuelF (st5 ((1 + w0 % 60 : Nat) : Int) ((1 + h0 % 60 : Nat) : Int) ((1 + m0 % 4 : Nat) : Int) ((101 + q0 : Nat) : Int) (s : Int) rgb N (List.replicate N (s : Int)) 0) := by rw [← h2]; rfl
    rw [hk, hl]
    rfl
  have hone := one_flat (1 + w0 % 60) (1 + h0 % 60) (1 + m0 % 4) (101 + q0) (by omega) (by omega) (by omega) (by omega) hm (by omega) (by omega)
  have l1 : ∀ u, u < 10 ^ 9 → (Lib.decDigits u).length ≤ 9 := fun u hu => dec_len 8 u hu
  have hl1 := l1 (1 + w0 % 60) (by omega)
  have hl2 := l1 (1 + h0 % 60) (by omega)
  have hl3 := l1 (1 + m0 % 4) (by omega)
  have hl4 := l1 (101 + q0) (by omega)
  have hP : (joinS [Lib.decDigits (1 + w0 % 60), Lib.decDigits (1 + h0 % 60), Lib.decDigits (1 + m0 % 4), Lib.decDigits (101 + q0), [49], [48]]).length ≤ 100 := by
    simp only [joinS, List.length_append, List.length_cons, List.length_nil]; omega
  have hR : joinS (words8 (1 + w0 % 60) (1 + h0 % 60) (1 + m0 % 4) (101 + q0)) = joinS [Lib.decDigits (1 + w0 % 60), Lib.decDigits (1 + h0 % 60), Lib.decDigits (1 + m0 % 4), Lib.decDigits (101 + q0), [49], [48]] ++ [32, 48, 32, 48] := joinS_more _ _ _ _
  have hno : ∀ y ∈ szL (joinS (words8 (1 + w0 % 60) (1 + h0 % 60) (1 + m0 % 4) (101 + q0))), y.toNat ≠ 10 := by
    intro y hy
    unfold szL at hy
    simp only [List.mem_cons] at hy
    rcases hy with rfl | rfl | rfl | rfl | rfl | hy
    · decide
    · decide
    · decide
    · decide
    · decide
    · rcases mem_joinS hy with h | ⟨x, hx, h⟩
      · omega
      · simp only [words8, List.mem_cons, List.not_mem_nil, or_false] at hx
        rcases hx with rfl | rfl | rfl | rfl | rfl | rfl | rfl | rfl
        · have := dec_digit _ y h; omega
        · have := dec_digit _ y h; omega
        · have := dec_digit _ y h; omega
        · have := dec_digit _ y h; omega
        all_goals
          simp only [List.mem_cons, List.not_mem_nil, or_false] at h
          subst h
          decide
  have hLP : (szL (joinS [Lib.decDigits (1 + w0 % 60), Lib.decDigits (1 + h0 % 60), Lib.decDigits (1 + m0 % 4), Lib.decDigits (101 + q0), [49], [48]])).length ≤ 105 := by
    unfold szL; simp only [List.length_cons]; omega
  have hS : szL (joinS (words8 (1 + w0 % 60) (1 + h0 % 60) (1 + m0 % 4) (101 + q0))) = szL (joinS [Lib.decDigits (1 + w0 % 60), Lib.decDigits (1 + h0 % 60), Lib.decDigits (1 + m0 % 4), Lib.decDigits (101 + q0), [49], [48]]) ++ [32, 48, 32, 48] := by
    unfold szL; rw [hR]; rfl
  generalize hPd : joinS [Lib.decDigits (1 + w0 % 60), Lib.decDigits (1 + h0 % 60), Lib.decDigits (1 + m0 % 4), Lib.decDigits (101 + q0), [49], [48]] = PP at *
  generalize hRd : joinS (words8 (1 + w0 % 60) (1 + h0 % 60) (1 + m0 % 4) (101 + q0)) = RR at *
  have hlen : (szL RR).length = (szL PP).length + 4 := by rw [hS, List.length_append]; rfl
  have hsz : ((ofL (szL RR)).size : Int) = (((szL RR).length : Nat) : Int) := rfl
  have hd : (szL RR).drop ((szL RR).length - 1) = [48] := by
    rw [hlen, hS, List.drop_append, List.drop_of_length_le (by omega), show (szL PP).length + 4 - 1 - (szL PP).length = 3 by omega]; rfl
  have ha := area (w := 1 + w0 % 60) (h := 1 + h0 % 60) (by omega) (by omega)
  obtain ⟨e, s2, h5, rfl, h6⟩ := run5 (Q := fun e st => e = .ret ∧ tget st.tm 10 = .bool true)
    (rest5_eq ((1 + w0 % 60 : Nat) : Int) ((1 + h0 % 60 : Nat) : Int) ((1 + m0 % 4 : Nat) : Int) ((101 + q0 : Nat) : Int) (s : Int) (((szL RR).length : Nat) : Int) (((1 + w0 % 60) * (1 + h0 % 60) : Nat) : Int) (((szL RR).length - 1 : Nat) : Int) rgb N (List.replicate N (s : Int)) N
      PP RR (Lib.decDigits (1 + w0 % 60)) (Lib.decDigits (1 + h0 % 60)) (Lib.decDigits (1 + m0 % 4)) (Lib.decDigits (101 + q0)))
    (by
      refine ⟨itoaOb_dec _ (by omega), itoaOb_dec _ (by omega), itoaOb_dec _ (by omega), itoaOb_dec _ (by omega), ?_, add_str [115, 105, 122, 101, 32] PP (by simp only [List.length_cons, List.length_nil]; unfold szL at hLP; simp only [List.length_cons] at hLP; omega), ?_,
     rfl, by rw [decide_eq_true (by omega)], by rw [bytesL', ix_none _ 0 hno], rfl, by rw [decide_eq_true (by omega)], rfl, ?_, ?_, runEval_eq 0 hone rfl, ?_, by rw [decide_eq_true (by omega)], rfl, rfl⟩
      · show runJoin [.vs (.pure 6 [.str (ofL (Lib.decDigits (1 + w0 % 60))), .str (ofL (Lib.decDigits (1 + h0 % 60))), .str (ofL (Lib.decDigits (1 + m0 % 4))), .str (ofL (Lib.decDigits (101 + q0))), .str (ofL (Lib.itoa 1)), .str (ofL (Lib.itoa 0))]) none 1 false, .str (ofL [32])] = some (.str (ofL PP), [])
        have h49 : Lib.itoa 1 = [49] := (itoa_dec 1).trans (dec1 1 (by omega))
        have h48 : Lib.itoa 0 = [48] := (itoa_dec 0).trans (dec1 0 (by omega))
        have hj : joinB [ofL (Lib.decDigits (1 + w0 % 60)), ofL (Lib.decDigits (1 + h0 % 60)), ofL (Lib.decDigits (1 + m0 % 4)), ofL (Lib.decDigits (101 + q0)), ofL [49], ofL [48]] (ofL [32]) = PP := by
          rw [← hPd]
          exact intercalate_join _
        rw [h49, h48]
        simp only [runJoin, strsOf, Option.map_some, hj]
        have hPP : PP.length ≤ 100 := hP
        rw [if_pos ⟨by simp, by omega⟩]
      · rw [add_str (szL PP) [32, 48, 32, 48] (by simp only [List.length_cons, List.length_nil]; omega), hS]
      · have : (((szL RR).length : Nat) : Int) - 1 = (((szL RR).length - 1 : Nat) : Int) := by omega
        rw [this, wrN _ (by omega)]
      · exact (sl_lo' _ _ (by omega)).trans (by rw [hd])
      · have : ((1 + w0 % 60 : Nat) : Int) * ((1 + h0 % 60 : Nat) : Int) = (((1 + w0 % 60) * (1 + h0 % 60) : Nat) : Int) := rfl
        rw [this, wrN _ (by omega)])
  have hall : evalCode X5 (seqs pre5 (.seq (.seq a5 (.block 0 (.loop l5))) r5)) (in5 w0 h0 m0 s q0) = some (.ret, s2) := by
    rw [seqs_split _ _ h3, loop_split h4, hb]
    exact h5
  show ∃ hp, (match E6.fns 5 with | some fn => evalFn E6 fuelF (evalN E6 fuelF 160) 5 fn (args5 w0 h0 m0 s q0) [] | none => none) = _
  rw [fns5]
  simp only [evalFn, shape5, ntmps5, List.length_nil]
  have hall' : evalCode { E := E6, fn := 5, base := 0, k := fuelF, inl := evalN E6 fuelF 160, round := none } (seqs pre5 (.seq (.seq a5 (.block 0 (.loop l5))) r5)) { tm := args5 w0 h0 m0 s q0 ++ List.replicate (78 - (args5 w0 h0 m0 s q0).length) .top, hp := [] } = some (.ret, s2) := hall
  rw [hall']
  simp only [resultsAV, res5, results1, Option.map_some, h6]
  exact ⟨_, rfl⟩
end Go.Proofs.YtfbamgphngmglaaGreatDoor
end

section
namespace Go.Proofs.YtfbamgphngmglaaGreatDoor
open Go Go.Abs
/-- what was there is there as it was -/
structure Kept (w w' : World) : Prop where
  os : w'.os = w.os
  output : w'.output = w.output
  tape : w'.tape = w.tape
  size : w.heap.size ≤ w'.heap.size
  old : ∀ b, b < w.heap.size → w'.heap[b]? = w.heap[b]?
/-- the walk -/
theorem playFlat_calls (S : SS) (w : World) (w0 h0 m0 s q0 : Nat) (_ : w0 ≤ 255) (_ : h0 ≤ 255) (_ : m0 ≤ 255) (hs : s ≤ 255) (hq : q0 ≤ 65535) (hG : GlobOK GTr.get S) (hst : ∀ b c, S b = some c → ∃ e fr, w.heap[b]? = some (.cells c e fr)) :
    Calls Tryz.prog 5 #[.int .u8 (w0 : Int), .int .u8 (h0 : Int), .int .u8 (m0 : Int), .int .u8 (s : Int), .int .u16 (q0 : Int)] w fun e w' => e = .returned (.bool true) ∧ Kept w w' := by
  have hW : WR (Go.Abs.rebase noM S [] w) noM S noF [] w := {
    obj := fun id => by rw [hget_nil]; trivial
    inj := fun i j l l' _ _ hl => by cases hl
    stab := hst
    apart := fun i l _ hl => by cases hl
    size := Nat.le_refl _
    keep := fun _ _ _ => rfl
    own := fun i l _ hl => by cases hl
    fresh := fun b c hb => .inl hb
    os := rfl
    output := rfl
    tape := rfl }
  obtain ⟨h', hr⟩ := flat_run w0 h0 m0 s q0 hs hq
  obtain ⟨_, hc⟩ := evalOK6 fuelF 161 _ _ _ _ _ hr _ _ S noF w #[.int .u8 (w0 : Int), .int .u8 (h0 : Int), .int .u8 (m0 : Int), .int .u8 (s : Int), .int .u16 (q0 : Int)] hG hW (fun _ _ => rfl) (by simp only [args5, LR, VR]; exact ⟨_, _, rfl, rfl, _, _, rfl, rfl, _, _, rfl, rfl, _, _, rfl, rfl, _, _, rfl, rfl, rfl⟩)
  refine callsIn_wide.mp (hc.mono fun e w' ⟨u, m', S', he, hu, hw', _⟩ => ?_)
  simp only [VR] at hu
  subst hu
  exact ⟨he, hw'.os, hw'.output, hw'.tape, hw'.size, fun b hb => hw'.keep b hb (mutBlk_nil noM b)⟩
end Go.Proofs.YtfbamgphngmglaaGreatDoor
end
