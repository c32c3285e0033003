/- A part of a proof about a statement of cyanotypelaw22: a step that the closing text imports. Each theorem states its own conditions. -/
import Derived.Test.YtfbamgphngmglaaGreatDoorFlatG3
import Derived.Test.YtfbamgphngmglaaGreatDoorFlatW
set_option linter.unusedSimpArgs false
set_option linter.unusedVariables false
section
namespace Go.Proofs.YtfbamgphngmglaaGreatDoor
open Go Go.Abs
set_option maxRecDepth 100000
/-! ### PlayBack -/
theorem neI (x : Int) : AV.bool (x != x) = .bool false := by simp
theorem join6 (a b c d e f : List UInt8) (h : (joinS [a, b, c, d, e, f]).length ≤ 1000) : conJoin.run [.vs (.pure 6 [.str (ofL a), .str (ofL b), .str (ofL c), .str (ofL d), .str (ofL e), .str (ofL f)]) none 1 false, .str (ofL [32])] = some (.str (ofL (joinS [a, b, c, d, e, f])), []) := by
  show runJoin [.vs (.pure 6 [.str (ofL a), .str (ofL b), .str (ofL c), .str (ofL d), .str (ofL e), .str (ofL f)]) none 1 false, .str (ofL [32])] = _
  have hj : joinB [ofL a, ofL b, ofL c, ofL d, ofL e, ofL f] (ofL [32]) = joinS [a, b, c, d, e, f] := intercalate_join _
  simp only [runJoin, strsOf, Option.map_some, hj]
  rw [if_pos ⟨by simp, by omega⟩]
def ceilOb (n d a : Int) : Prop := (conEval (evalN E0 fuelF 100) 60 0).run [.int .i64 n, .int .i64 d] = some (.int .i64 a, [])
theorem ce8t (n i1 i2 i3 : Int) : evalNP E0 fuelF 100 (.fn 60) [.int .i64 n, .int .i64 8] [] [(2, .val (.bool false)), (2, .val (.bool false)), (11, .val (.int .i64 i1)), (3, .val (.int .i64 i2)), (1, .val (.bool true)), (1, .val (.int .i64 i3))] (fun _ y hp => y = .int .i64 i3 ∧ hp = []) =
    (AV.bool (decide (n < 0)) = .bool false ∧ AV.bool (decide (n > 1099511627776)) = .bool false ∧ AV.int .i64 (IntKind.wrap .i64 (n.tdiv 8)) = .int .i64 i1 ∧ AV.int .i64 (IntKind.wrap .i64 (i1 * 8)) = .int .i64 i2 ∧ AV.bool (decide (i2 < n)) = .bool true ∧ AV.int .i64 (IntKind.wrap .i64 (i1 + 1)) = .int .i64 i3 ∧ AV.int .i64 i3 = .int .i64 i3 ∧ ([] : Heap) = []) := by kernel_rfl
theorem ce8f (n i1 i2 : Int) : evalNP E0 fuelF 100 (.fn 60) [.int .i64 n, .int .i64 8] [] [(2, .val (.bool false)), (2, .val (.bool false)), (11, .val (.int .i64 i1)), (3, .val (.int .i64 i2)), (1, .val (.bool false))] (fun _ y hp => y = .int .i64 i1 ∧ hp = []) =
    (AV.bool (decide (n < 0)) = .bool false ∧ AV.bool (decide (n > 1099511627776)) = .bool false ∧ AV.int .i64 (IntKind.wrap .i64 (n.tdiv 8)) = .int .i64 i1 ∧ AV.int .i64 (IntKind.wrap .i64 (i1 * 8)) = .int .i64 i2 ∧ AV.bool (decide (i2 < n)) = .bool false ∧ AV.int .i64 i1 = .int .i64 i1 ∧ ([] : Heap) = []) := by kernel_rfl
theorem ceil8 (n : Nat) (hn : 1 ≤ n) (hn2 : n ≤ 60) : ∃ a : Nat, 1 ≤ a ∧ a ≤ 100 ∧ ceilOb (n : Int) 8 (a : Int) := by
  have ht : AV.int .i64 (IntKind.wrap .i64 ((n : Int).tdiv 8)) = .int .i64 ((n / 8 : Nat) : Int) := wv (by rw [Int.tdiv_eq_ediv_of_nonneg (by omega)]; rfl) (by omega) (by omega)
  by_cases hc : n / 8 * 8 < n
  · exact ⟨n / 8 + 1, by omega, by omega, runEval_eq 0 (ev_of (ce8t n ((n / 8 : Nat) : Int) ((n / 8 * 8 : Nat) : Int) ((n / 8 + 1 : Nat) : Int)) ⟨by rw [decide_eq_false (by omega)], by rw [decide_eq_false (by omega)], ht, wv (by omega) (by omega) (by omega), by rw [decide_eq_true (by omega)], wv (by omega) (by omega) (by omega), rfl, rfl⟩) rfl⟩
  · exact ⟨n / 8, by omega, by omega, runEval_eq 0 (ev_of (ce8f n ((n / 8 : Nat) : Int) ((n / 8 * 8 : Nat) : Int)) ⟨by rw [decide_eq_false (by omega)], by rw [decide_eq_false (by omega)], ht, wv (by omega) (by omega) (by omega), by rw [decide_eq_false (by omega)], rfl, rfl⟩) rfl⟩
theorem ce16t (n i1 i2 i3 : Int) : evalNP E0 fuelF 100 (.fn 60) [.int .i64 n, .int .i64 16] [] [(2, .val (.bool false)), (2, .val (.bool false)), (11, .val (.int .i64 i1)), (3, .val (.int .i64 i2)), (1, .val (.bool true)), (1, .val (.int .i64 i3))] (fun _ y hp => y = .int .i64 i3 ∧ hp = []) =
    (AV.bool (decide (n < 0)) = .bool false ∧ AV.bool (decide (n > 1099511627776)) = .bool false ∧ AV.int .i64 (IntKind.wrap .i64 (n.tdiv 16)) = .int .i64 i1 ∧ AV.int .i64 (IntKind.wrap .i64 (i1 * 16)) = .int .i64 i2 ∧ AV.bool (decide (i2 < n)) = .bool true ∧ AV.int .i64 (IntKind.wrap .i64 (i1 + 1)) = .int .i64 i3 ∧ AV.int .i64 i3 = .int .i64 i3 ∧ ([] : Heap) = []) := by kernel_rfl
theorem ce16f (n i1 i2 : Int) : evalNP E0 fuelF 100 (.fn 60) [.int .i64 n, .int .i64 16] [] [(2, .val (.bool false)), (2, .val (.bool false)), (11, .val (.int .i64 i1)), (3, .val (.int .i64 i2)), (1, .val (.bool false))] (fun _ y hp => y = .int .i64 i1 ∧ hp = []) =
    (AV.bool (decide (n < 0)) = .bool false ∧ AV.bool (decide (n > 1099511627776)) = .bool false ∧ AV.int .i64 (IntKind.wrap .i64 (n.tdiv 16)) = .int .i64 i1 ∧ AV.int .i64 (IntKind.wrap .i64 (i1 * 16)) = .int .i64 i2 ∧ AV.bool (decide (i2 < n)) = .bool false ∧ AV.int .i64 i1 = .int .i64 i1 ∧ ([] : Heap) = []) := by kernel_rfl
theorem ceil16 (n : Nat) (hn : 1 ≤ n) (hn2 : n ≤ 60) : ∃ a : Nat, 1 ≤ a ∧ a ≤ 100 ∧ ceilOb (n : Int) 16 (a : Int) := by
  have ht : AV.int .i64 (IntKind.wrap .i64 ((n : Int).tdiv 16)) = .int .i64 ((n / 16 : Nat) : Int) := wv (by rw [Int.tdiv_eq_ediv_of_nonneg (by omega)]; rfl) (by omega) (by omega)
  by_cases hc : n / 16 * 16 < n
  · exact ⟨n / 16 + 1, by omega, by omega, runEval_eq 0 (ev_of (ce16t n ((n / 16 : Nat) : Int) ((n / 16 * 16 : Nat) : Int) ((n / 16 + 1 : Nat) : Int)) ⟨by rw [decide_eq_false (by omega)], by rw [decide_eq_false (by omega)], ht, wv (by omega) (by omega) (by omega), by rw [decide_eq_true (by omega)], wv (by omega) (by omega) (by omega), rfl, rfl⟩) rfl⟩
  · exact ⟨n / 16, by omega, by omega, runEval_eq 0 (ev_of (ce16f n ((n / 16 : Nat) : Int) ((n / 16 * 16 : Nat) : Int)) ⟨by rw [decide_eq_false (by omega)], by rw [decide_eq_false (by omega)], ht, wv (by omega) (by omega) (by omega), by rw [decide_eq_false (by omega)], rfl, rfl⟩) rfl⟩
theorem rt1 (w h a b i1 : Int) : evalNP E8 fuelF 110 (.fn 21) [.agg (.ints .i64 6 [w, h, 1, 0, 0, 0])] [] [(44, .val (.bool false)), (4, .val (.bool false)), (4, .val (.bool false)), (4, .val (.bool false)), (7, .run (.int .i64 a) []), (0, .chk), (0, .run (.int .i64 b) []), (8, .val (.bool true)), (5, .val (.int .i64 i1)), (0, .val (.bool true))] (fun _ y hp => y = .bool true ∧ hp = []) =
    (AV.bool (decide (w < 1)) = .bool false ∧ AV.bool (decide (w > 65535)) = .bool false ∧ AV.bool (decide (h < 1)) = .bool false ∧ AV.bool (decide (h > 65535)) = .bool false ∧ ceilOb w 8 a ∧ (eqV (.int .i64 h) (.int .i64 h) = true ∧ True) ∧ ceilOb h 8 b ∧
     AV.bool (decide (a > 0)) = .bool true ∧ AV.int .i64 (IntKind.wrap .i64 (w * h)) = .int .i64 i1 ∧ AV.bool (decide (i1 ≤ 1048576)) = .bool true ∧ AV.bool true = .bool true ∧ ([] : Heap) = []) := by kernel_rfl
theorem right1 (w h : Nat) (hw : 1 ≤ w) (hw2 : w ≤ 60) (hh : 1 ≤ h) (hh2 : h ≤ 60) : evalN E8 fuelF 110 (.fn 21) [.agg (.ints .i64 6 [(w : Int), (h : Int), 1, 0, 0, 0])] [] = some (.bool true, []) := by
  have ha := area hw2 hh2
  obtain ⟨a, a1, a2, hca⟩ := ceil8 w hw hw2
  obtain ⟨b, b1, b2, hcb⟩ := ceil8 h hh hh2
  exact ev_of (rt1 w h a b ((w * h : Nat) : Int)) ⟨by rw [decide_eq_false (by omega)], by rw [decide_eq_false (by omega)], by rw [decide_eq_false (by omega)], by rw [decide_eq_false (by omega)], hca, ⟨eqI _ _, trivial⟩, hcb, by rw [decide_eq_true (by omega)], wv rfl (by omega) (by omega), by rw [decide_eq_true (by omega)], rfl, rfl⟩
theorem rt2 (w h a b i1 : Int) : evalNP E8 fuelF 110 (.fn 21) [.agg (.ints .i64 6 [w, h, 2, 0, 0, 0])] [] [(48, .val (.bool false)), (4, .val (.bool false)), (4, .val (.bool false)), (4, .val (.bool false)), (7, .run (.int .i64 a) []), (0, .chk), (0, .run (.int .i64 b) []), (8, .val (.bool true)), (5, .val (.int .i64 i1)), (0, .val (.bool true))] (fun _ y hp => y = .bool true ∧ hp = []) =
    (AV.bool (decide (w < 1)) = .bool false ∧ AV.bool (decide (w > 65535)) = .bool false ∧ AV.bool (decide (h < 1)) = .bool false ∧ AV.bool (decide (h > 65535)) = .bool false ∧ ceilOb w 8 a ∧ (eqV (.int .i64 h) (.int .i64 h) = true ∧ True) ∧ ceilOb h 8 b ∧
     AV.bool (decide (a > 0)) = .bool true ∧ AV.int .i64 (IntKind.wrap .i64 (w * h)) = .int .i64 i1 ∧ AV.bool (decide (i1 ≤ 1048576)) = .bool true ∧ AV.bool true = .bool true ∧ ([] : Heap) = []) := by kernel_rfl
theorem right2 (w h : Nat) (hw : 1 ≤ w) (hw2 : w ≤ 60) (hh : 1 ≤ h) (hh2 : h ≤ 60) : evalN E8 fuelF 110 (.fn 21) [.agg (.ints .i64 6 [(w : Int), (h : Int), 2, 0, 0, 0])] [] = some (.bool true, []) := by
  have ha := area hw2 hh2
  obtain ⟨a, a1, a2, hca⟩ := ceil8 w hw hw2
  obtain ⟨b, b1, b2, hcb⟩ := ceil8 h hh hh2
  exact ev_of (rt2 w h a b ((w * h : Nat) : Int)) ⟨by rw [decide_eq_false (by omega)], by rw [decide_eq_false (by omega)], by rw [decide_eq_false (by omega)], by rw [decide_eq_false (by omega)], hca, ⟨eqI _ _, trivial⟩, hcb, by rw [decide_eq_true (by omega)], wv rfl (by omega) (by omega), by rw [decide_eq_true (by omega)], rfl, rfl⟩
theorem rt3 (w h a b i1 : Int) : evalNP E8 fuelF 110 (.fn 21) [.agg (.ints .i64 6 [w, h, 3, 0, 0, 0])] [] [(50, .val (.bool false)), (4, .val (.bool false)), (4, .val (.bool false)), (4, .val (.bool false)), (7, .run (.int .i64 a) []), (0, .chk), (0, .run (.int .i64 b) []), (8, .val (.bool true)), (5, .val (.int .i64 i1)), (0, .val (.bool true))] (fun _ y hp => y = .bool true ∧ hp = []) =
    (AV.bool (decide (w < 1)) = .bool false ∧ AV.bool (decide (w > 65535)) = .bool false ∧ AV.bool (decide (h < 1)) = .bool false ∧ AV.bool (decide (h > 65535)) = .bool false ∧ ceilOb w 16 a ∧ (eqV (.int .i64 h) (.int .i64 h) = true ∧ True) ∧ ceilOb h 8 b ∧
     AV.bool (decide (a > 0)) = .bool true ∧ AV.int .i64 (IntKind.wrap .i64 (w * h)) = .int .i64 i1 ∧ AV.bool (decide (i1 ≤ 1048576)) = .bool true ∧ AV.bool true = .bool true ∧ ([] : Heap) = []) := by kernel_rfl
theorem right3 (w h : Nat) (hw : 1 ≤ w) (hw2 : w ≤ 60) (hh : 1 ≤ h) (hh2 : h ≤ 60) : evalN E8 fuelF 110 (.fn 21) [.agg (.ints .i64 6 [(w : Int), (h : Int), 3, 0, 0, 0])] [] = some (.bool true, []) := by
  have ha := area hw2 hh2
  obtain ⟨a, a1, a2, hca⟩ := ceil16 w hw hw2
  obtain ⟨b, b1, b2, hcb⟩ := ceil8 h hh hh2
  exact ev_of (rt3 w h a b ((w * h : Nat) : Int)) ⟨by rw [decide_eq_false (by omega)], by rw [decide_eq_false (by omega)], by rw [decide_eq_false (by omega)], by rw [decide_eq_false (by omega)], hca, ⟨eqI _ _, trivial⟩, hcb, by rw [decide_eq_true (by omega)], wv rfl (by omega) (by omega), by rw [decide_eq_true (by omega)], rfl, rfl⟩
theorem rt4 (w h a b i1 : Int) : evalNP E8 fuelF 110 (.fn 21) [.agg (.ints .i64 6 [w, h, 4, 0, 0, 0])] [] [(52, .val (.bool false)), (4, .val (.bool false)), (4, .val (.bool false)), (4, .val (.bool false)), (7, .run (.int .i64 a) []), (0, .chk), (0, .run (.int .i64 b) []), (8, .val (.bool true)), (5, .val (.int .i64 i1)), (0, .val (.bool true))] (fun _ y hp => y = .bool true ∧ hp = []) =
    (AV.bool (decide (w < 1)) = .bool false ∧ AV.bool (decide (w > 65535)) = .bool false ∧ AV.bool (decide (h < 1)) = .bool false ∧ AV.bool (decide (h > 65535)) = .bool false ∧ ceilOb w 16 a ∧ (eqV (.int .i64 h) (.int .i64 h) = true ∧ True) ∧ ceilOb h 16 b ∧
     AV.bool (decide (a > 0)) = .bool true ∧ AV.int .i64 (IntKind.wrap .i64 (w * h)) = .int .i64 i1 ∧ AV.bool (decide (i1 ≤ 1048576)) = .bool true ∧ AV.bool true = .bool true ∧ ([] : Heap) = []) := by kernel_rfl
theorem right4 (w h : Nat) (hw : 1 ≤ w) (hw2 : w ≤ 60) (hh : 1 ≤ h) (hh2 : h ≤ 60) : evalN E8 fuelF 110 (.fn 21) [.agg (.ints .i64 6 [(w : Int), (h : Int), 4, 0, 0, 0])] [] = some (.bool true, []) := by
  have ha := area hw2 hh2
  obtain ⟨a, a1, a2, hca⟩ := ceil16 w hw hw2
  obtain ⟨b, b1, b2, hcb⟩ := ceil16 h hh hh2
  exact ev_of (rt4 w h a b ((w * h : Nat) : Int)) ⟨by rw [decide_eq_false (by omega)], by rw [decide_eq_false (by omega)], by rw [decide_eq_false (by omega)], by rw [decide_eq_false (by omega)], hca, ⟨eqI _ _, trivial⟩, hcb, by rw [decide_eq_true (by omega)], wv rfl (by omega) (by omega), by rw [decide_eq_true (by omega)], rfl, rfl⟩
theorem bk1 (a b c d e f k ua na ub nb uc nc ud nd ue ne uf nf u1 w1 w u2 h1 h u3 m1 uk kk dd i1 i2 : Int) (da db dc dd0 de df P : List UInt8) (N : Nat) (z : List Int) : evalNP E9 fuelF 160 (.fn 4) [.int .u32 a, .int .u32 b, .int .u32 c, .int .u32 d, .int .u32 e, .int .u32 f, .int .u8 k] [] [(2, .val (.int .u32 ua)), (0, .val (.int .i64 na)), (1, .val (.int .u32 ub)), (0, .val (.int .i64 nb)), (1, .val (.int .u32 uc)), (0, .val (.int .i64 nc)), (1, .val (.int .u32 ud)), (0, .val (.int .i64 nd)), (1, .val (.int .u32 ue)), (0, .val (.int .i64 ne)), (1, .val (.int .u32 uf)), (0, .val (.int .i64 nf)), (30, strA da), (11, strA db), (11, strA dc), (11, strA dd0), (11, strA de), (11, strA df), (7, strA P), (5, .run (.sl 0 (some (0, 6)) 1 (.is 6)) (wordsV [da, db, dc, dd0, de, df])), (11, numA na), (19, numA nb), (19, numA nc), (19, numA nd), (19, numA ne), (19, numA nf), (61, .val (.int .u32 u1)), (0, .val (.int .i64 w1)), (0, .val (.int .i64 w)), (1, .val (.int .u32 u2)), (0, .val (.int .i64 h1)), (0, .val (.int .i64 h)), (1, .val (.int .u32 u3)), (0, .val (.int .i64 m1)), (0, .val (.int .i64 1)), (10, .val (.bool true)), (5, .val (.int .u8 uk)), (0, .val (.int .i64 kk)), (1, .val (.int .i64 dd)), (0, .run (picV w h false) (picH N z)), (0, .chk), (4, .run (.bool true) []), (6, .val (.bool false)), (6, .val (.bool false)), (13, .val (.int .i64 i1)), (7, .val (.bool true))] (fun _ y hp => y = .bool true ∧ hp = []) =
    (AV.int .u32 (a.tmod 1000000000) = .int .u32 ua ∧
      AV.int .i64 (IntKind.wrap .i64 ua) = .int .i64 na ∧
      AV.int .u32 (b.tmod 1000000000) = .int .u32 ub ∧
      AV.int .i64 (IntKind.wrap .i64 ub) = .int .i64 nb ∧
      AV.int .u32 (c.tmod 1000000000) = .int .u32 uc ∧
      AV.int .i64 (IntKind.wrap .i64 uc) = .int .i64 nc ∧
      AV.int .u32 (d.tmod 1000000000) = .int .u32 ud ∧
      AV.int .i64 (IntKind.wrap .i64 ud) = .int .i64 nd ∧
      AV.int .u32 (e.tmod 1000000000) = .int .u32 ue ∧
      AV.int .i64 (IntKind.wrap .i64 ue) = .int .i64 ne ∧
      AV.int .u32 (f.tmod 1000000000) = .int .u32 uf ∧
      AV.int .i64 (IntKind.wrap .i64 uf) = .int .i64 nf ∧
      itoaOb na da ∧
      itoaOb nb db ∧
      itoaOb nc dc ∧
      itoaOb nd dd0 ∧
      itoaOb ne de ∧
      itoaOb nf df ∧
      conJoin.run [.vs (.pure 6 [.str (ofL da), .str (ofL db), .str (ofL dc), .str (ofL dd0), .str (ofL de), .str (ofL df)]) none 1 false, .str (ofL [32])] = some (.str (ofL P), []) ∧
      (conEval (evalN E0 fuelF 100) 19 1).run [.str (ofL P), .str (ofL [32])] = some (.sl 0 (some (0, 6)) 1 (.is 6), wordsV [da, db, dc, dd0, de, df]) ∧
      numOb da na ∧
      numOb db nb ∧
      numOb dc nc ∧
      numOb dd0 nd ∧
      numOb de ne ∧
      numOb df nf ∧
      AV.int .u32 (a.tmod 40) = .int .u32 u1 ∧
      AV.int .i64 (IntKind.wrap .i64 u1) = .int .i64 w1 ∧
      AV.int .i64 (IntKind.wrap .i64 (1 + w1)) = .int .i64 w ∧
      AV.int .u32 (b.tmod 40) = .int .u32 u2 ∧
      AV.int .i64 (IntKind.wrap .i64 u2) = .int .i64 h1 ∧
      AV.int .i64 (IntKind.wrap .i64 (1 + h1)) = .int .i64 h ∧
      AV.int .u32 (c.tmod 4) = .int .u32 u3 ∧
      AV.int .i64 (IntKind.wrap .i64 u3) = .int .i64 m1 ∧
      AV.int .i64 (IntKind.wrap .i64 (1 + m1)) = .int .i64 1 ∧
      AV.bool (intsEq [na, nb, nc, nd, ne, nf] [na, nb, nc, nd, ne, nf] 6) = .bool true ∧
      AV.int .u8 (k.tmod 5) = .int .u8 uk ∧
      AV.int .i64 (IntKind.wrap .i64 uk) = .int .i64 kk ∧
      AV.int .i64 (IntKind.wrap .i64 d) = .int .i64 dd ∧
      (conEval (evalN E3 fuelF 141) 13 1).run (pargs w h 1 0 0 0 kk dd) = some (picV w h false, picH N z) ∧
      (eqV (.agg (.ints .i64 6 [w, h, 1, 0, 0, 0])) (.agg (.ints .i64 6 [w, h, 1, 0, 0, 0])) = true ∧ True) ∧
      (conEval (evalN E8 fuelF 110) 21 0).run [.agg (.ints .i64 6 [w, h, 1, 0, 0, 0])] = some (.bool true, []) ∧
      AV.bool (w != w) = .bool false ∧
      AV.bool (h != h) = .bool false ∧
      AV.int .i64 (IntKind.wrap .i64 (w * h)) = .int .i64 i1 ∧
      AV.bool ((N : Int) == i1) = .bool true ∧
      AV.bool true = .bool true ∧
      ([] : Heap) = []) := by kernel_rfl
theorem bk2 (a b c d e f k ua na ub nb uc nc ud nd ue ne uf nf u1 w1 w u2 h1 h u3 m1 uk kk dd i1 i2 : Int) (da db dc dd0 de df P : List UInt8) (N : Nat) (z : List Int) : evalNP E9 fuelF 160 (.fn 4) [.int .u32 a, .int .u32 b, .int .u32 c, .int .u32 d, .int .u32 e, .int .u32 f, .int .u8 k] [] [(2, .val (.int .u32 ua)), (0, .val (.int .i64 na)), (1, .val (.int .u32 ub)), (0, .val (.int .i64 nb)), (1, .val (.int .u32 uc)), (0, .val (.int .i64 nc)), (1, .val (.int .u32 ud)), (0, .val (.int .i64 nd)), (1, .val (.int .u32 ue)), (0, .val (.int .i64 ne)), (1, .val (.int .u32 uf)), (0, .val (.int .i64 nf)), (30, strA da), (11, strA db), (11, strA dc), (11, strA dd0), (11, strA de), (11, strA df), (7, strA P), (5, .run (.sl 0 (some (0, 6)) 1 (.is 6)) (wordsV [da, db, dc, dd0, de, df])), (11, numA na), (19, numA nb), (19, numA nc), (19, numA nd), (19, numA ne), (19, numA nf), (61, .val (.int .u32 u1)), (0, .val (.int .i64 w1)), (0, .val (.int .i64 w)), (1, .val (.int .u32 u2)), (0, .val (.int .i64 h1)), (0, .val (.int .i64 h)), (1, .val (.int .u32 u3)), (0, .val (.int .i64 m1)), (0, .val (.int .i64 2)), (10, .val (.bool true)), (5, .val (.int .u8 uk)), (0, .val (.int .i64 kk)), (1, .val (.int .i64 dd)), (0, .run (picV w h true) (picH N z)), (0, .chk), (4, .run (.bool true) []), (6, .val (.bool false)), (6, .val (.bool false)), (13, .val (.int .i64 i1)), (4, .val (.int .i64 i2)), (5, .val (.bool true))] (fun _ y hp => y = .bool true ∧ hp = []) =
    (AV.int .u32 (a.tmod 1000000000) = .int .u32 ua ∧
      AV.int .i64 (IntKind.wrap .i64 ua) = .int .i64 na ∧
      AV.int .u32 (b.tmod 1000000000) = .int .u32 ub ∧
      AV.int .i64 (IntKind.wrap .i64 ub) = .int .i64 nb ∧
      AV.int .u32 (c.tmod 1000000000) = .int .u32 uc ∧
      AV.int .i64 (IntKind.wrap .i64 uc) = .int .i64 nc ∧
      AV.int .u32 (d.tmod 1000000000) = .int .u32 ud ∧
      AV.int .i64 (IntKind.wrap .i64 ud) = .int .i64 nd ∧
      AV.int .u32 (e.tmod 1000000000) = .int .u32 ue ∧
      AV.int .i64 (IntKind.wrap .i64 ue) = .int .i64 ne ∧
      AV.int .u32 (f.tmod 1000000000) = .int .u32 uf ∧
      AV.int .i64 (IntKind.wrap .i64 uf) = .int .i64 nf ∧
      itoaOb na da ∧
      itoaOb nb db ∧
      itoaOb nc dc ∧
      itoaOb nd dd0 ∧
      itoaOb ne de ∧
      itoaOb nf df ∧
      conJoin.run [.vs (.pure 6 [.str (ofL da), .str (ofL db), .str (ofL dc), .str (ofL dd0), .str (ofL de), .str (ofL df)]) none 1 false, .str (ofL [32])] = some (.str (ofL P), []) ∧
      (conEval (evalN E0 fuelF 100) 19 1).run [.str (ofL P), .str (ofL [32])] = some (.sl 0 (some (0, 6)) 1 (.is 6), wordsV [da, db, dc, dd0, de, df]) ∧
      numOb da na ∧
      numOb db nb ∧
      numOb dc nc ∧
      numOb dd0 nd ∧
      numOb de ne ∧
      numOb df nf ∧
      AV.int .u32 (a.tmod 40) = .int .u32 u1 ∧
      AV.int .i64 (IntKind.wrap .i64 u1) = .int .i64 w1 ∧
      AV.int .i64 (IntKind.wrap .i64 (1 + w1)) = .int .i64 w ∧
      AV.int .u32 (b.tmod 40) = .int .u32 u2 ∧
      AV.int .i64 (IntKind.wrap .i64 u2) = .int .i64 h1 ∧
      AV.int .i64 (IntKind.wrap .i64 (1 + h1)) = .int .i64 h ∧
      AV.int .u32 (c.tmod 4) = .int .u32 u3 ∧
      AV.int .i64 (IntKind.wrap .i64 u3) = .int .i64 m1 ∧
      AV.int .i64 (IntKind.wrap .i64 (1 + m1)) = .int .i64 2 ∧
      AV.bool (intsEq [na, nb, nc, nd, ne, nf] [na, nb, nc, nd, ne, nf] 6) = .bool true ∧
      AV.int .u8 (k.tmod 5) = .int .u8 uk ∧
      AV.int .i64 (IntKind.wrap .i64 uk) = .int .i64 kk ∧
      AV.int .i64 (IntKind.wrap .i64 d) = .int .i64 dd ∧
      (conEval (evalN E3 fuelF 141) 13 1).run (pargs w h 2 0 0 0 kk dd) = some (picV w h true, picH N z) ∧
      (eqV (.agg (.ints .i64 6 [w, h, 2, 0, 0, 0])) (.agg (.ints .i64 6 [w, h, 2, 0, 0, 0])) = true ∧ True) ∧
      (conEval (evalN E8 fuelF 110) 21 0).run [.agg (.ints .i64 6 [w, h, 2, 0, 0, 0])] = some (.bool true, []) ∧
      AV.bool (w != w) = .bool false ∧
      AV.bool (h != h) = .bool false ∧
      AV.int .i64 (IntKind.wrap .i64 (w * h)) = .int .i64 i1 ∧
      AV.int .i64 (IntKind.wrap .i64 (3 * i1)) = .int .i64 i2 ∧
      AV.bool ((N : Int) == i2) = .bool true ∧
      AV.bool true = .bool true ∧
      ([] : Heap) = []) := by kernel_rfl
theorem bk3 (a b c d e f k ua na ub nb uc nc ud nd ue ne uf nf u1 w1 w u2 h1 h u3 m1 uk kk dd i1 i2 : Int) (da db dc dd0 de df P : List UInt8) (N : Nat) (z : List Int) : evalNP E9 fuelF 160 (.fn 4) [.int .u32 a, .int .u32 b, .int .u32 c, .int .u32 d, .int .u32 e, .int .u32 f, .int .u8 k] [] [(2, .val (.int .u32 ua)), (0, .val (.int .i64 na)), (1, .val (.int .u32 ub)), (0, .val (.int .i64 nb)), (1, .val (.int .u32 uc)), (0, .val (.int .i64 nc)), (1, .val (.int .u32 ud)), (0, .val (.int .i64 nd)), (1, .val (.int .u32 ue)), (0, .val (.int .i64 ne)), (1, .val (.int .u32 uf)), (0, .val (.int .i64 nf)), (30, strA da), (11, strA db), (11, strA dc), (11, strA dd0), (11, strA de), (11, strA df), (7, strA P), (5, .run (.sl 0 (some (0, 6)) 1 (.is 6)) (wordsV [da, db, dc, dd0, de, df])), (11, numA na), (19, numA nb), (19, numA nc), (19, numA nd), (19, numA ne), (19, numA nf), (61, .val (.int .u32 u1)), (0, .val (.int .i64 w1)), (0, .val (.int .i64 w)), (1, .val (.int .u32 u2)), (0, .val (.int .i64 h1)), (0, .val (.int .i64 h)), (1, .val (.int .u32 u3)), (0, .val (.int .i64 m1)), (0, .val (.int .i64 3)), (10, .val (.bool true)), (5, .val (.int .u8 uk)), (0, .val (.int .i64 kk)), (1, .val (.int .i64 dd)), (0, .run (picV w h true) (picH N z)), (0, .chk), (4, .run (.bool true) []), (6, .val (.bool false)), (6, .val (.bool false)), (13, .val (.int .i64 i1)), (4, .val (.int .i64 i2)), (5, .val (.bool true))] (fun _ y hp => y = .bool true ∧ hp = []) =
    (AV.int .u32 (a.tmod 1000000000) = .int .u32 ua ∧
      AV.int .i64 (IntKind.wrap .i64 ua) = .int .i64 na ∧
      AV.int .u32 (b.tmod 1000000000) = .int .u32 ub ∧
      AV.int .i64 (IntKind.wrap .i64 ub) = .int .i64 nb ∧
      AV.int .u32 (c.tmod 1000000000) = .int .u32 uc ∧
      AV.int .i64 (IntKind.wrap .i64 uc) = .int .i64 nc ∧
      AV.int .u32 (d.tmod 1000000000) = .int .u32 ud ∧
      AV.int .i64 (IntKind.wrap .i64 ud) = .int .i64 nd ∧
      AV.int .u32 (e.tmod 1000000000) = .int .u32 ue ∧
      AV.int .i64 (IntKind.wrap .i64 ue) = .int .i64 ne ∧
      AV.int .u32 (f.tmod 1000000000) = .int .u32 uf ∧
      AV.int .i64 (IntKind.wrap .i64 uf) = .int .i64 nf ∧
      itoaOb na da ∧
      itoaOb nb db ∧
      itoaOb nc dc ∧
      itoaOb nd dd0 ∧
      itoaOb ne de ∧
      itoaOb nf df ∧
      conJoin.run [.vs (.pure 6 [.str (ofL da), .str (ofL db), .str (ofL dc), .str (ofL dd0), .str (ofL de), .str (ofL df)]) none 1 false, .str (ofL [32])] = some (.str (ofL P), []) ∧
      (conEval (evalN E0 fuelF 100) 19 1).run [.str (ofL P), .str (ofL [32])] = some (.sl 0 (some (0, 6)) 1 (.is 6), wordsV [da, db, dc, dd0, de, df]) ∧
      numOb da na ∧
      numOb db nb ∧
      numOb dc nc ∧
      numOb dd0 nd ∧
      numOb de ne ∧
      numOb df nf ∧
      AV.int .u32 (a.tmod 40) = .int .u32 u1 ∧
      AV.int .i64 (IntKind.wrap .i64 u1) = .int .i64 w1 ∧
      AV.int .i64 (IntKind.wrap .i64 (1 + w1)) = .int .i64 w ∧
      AV.int .u32 (b.tmod 40) = .int .u32 u2 ∧
      AV.int .i64 (IntKind.wrap .i64 u2) = .int .i64 h1 ∧
      AV.int .i64 (IntKind.wrap .i64 (1 + h1)) = .int .i64 h ∧
      AV.int .u32 (c.tmod 4) = .int .u32 u3 ∧
      AV.int .i64 (IntKind.wrap .i64 u3) = .int .i64 m1 ∧
      AV.int .i64 (IntKind.wrap .i64 (1 + m1)) = .int .i64 3 ∧
      AV.bool (intsEq [na, nb, nc, nd, ne, nf] [na, nb, nc, nd, ne, nf] 6) = .bool true ∧
      AV.int .u8 (k.tmod 5) = .int .u8 uk ∧
      AV.int .i64 (IntKind.wrap .i64 uk) = .int .i64 kk ∧
      AV.int .i64 (IntKind.wrap .i64 d) = .int .i64 dd ∧
      (conEval (evalN E3 fuelF 141) 13 1).run (pargs w h 3 0 0 0 kk dd) = some (picV w h true, picH N z) ∧
      (eqV (.agg (.ints .i64 6 [w, h, 3, 0, 0, 0])) (.agg (.ints .i64 6 [w, h, 3, 0, 0, 0])) = true ∧ True) ∧
      (conEval (evalN E8 fuelF 110) 21 0).run [.agg (.ints .i64 6 [w, h, 3, 0, 0, 0])] = some (.bool true, []) ∧
      AV.bool (w != w) = .bool false ∧
      AV.bool (h != h) = .bool false ∧
      AV.int .i64 (IntKind.wrap .i64 (w * h)) = .int .i64 i1 ∧
      AV.int .i64 (IntKind.wrap .i64 (3 * i1)) = .int .i64 i2 ∧
      AV.bool ((N : Int) == i2) = .bool true ∧
      AV.bool true = .bool true ∧
      ([] : Heap) = []) := by kernel_rfl
theorem bk4 (a b c d e f k ua na ub nb uc nc ud nd ue ne uf nf u1 w1 w u2 h1 h u3 m1 uk kk dd i1 i2 : Int) (da db dc dd0 de df P : List UInt8) (N : Nat) (z : List Int) : evalNP E9 fuelF 160 (.fn 4) [.int .u32 a, .int .u32 b, .int .u32 c, .int .u32 d, .int .u32 e, .int .u32 f, .int .u8 k] [] [(2, .val (.int .u32 ua)), (0, .val (.int .i64 na)), (1, .val (.int .u32 ub)), (0, .val (.int .i64 nb)), (1, .val (.int .u32 uc)), (0, .val (.int .i64 nc)), (1, .val (.int .u32 ud)), (0, .val (.int .i64 nd)), (1, .val (.int .u32 ue)), (0, .val (.int .i64 ne)), (1, .val (.int .u32 uf)), (0, .val (.int .i64 nf)), (30, strA da), (11, strA db), (11, strA dc), (11, strA dd0), (11, strA de), (11, strA df), (7, strA P), (5, .run (.sl 0 (some (0, 6)) 1 (.is 6)) (wordsV [da, db, dc, dd0, de, df])), (11, numA na), (19, numA nb), (19, numA nc), (19, numA nd), (19, numA ne), (19, numA nf), (61, .val (.int .u32 u1)), (0, .val (.int .i64 w1)), (0, .val (.int .i64 w)), (1, .val (.int .u32 u2)), (0, .val (.int .i64 h1)), (0, .val (.int .i64 h)), (1, .val (.int .u32 u3)), (0, .val (.int .i64 m1)), (0, .val (.int .i64 4)), (10, .val (.bool true)), (5, .val (.int .u8 uk)), (0, .val (.int .i64 kk)), (1, .val (.int .i64 dd)), (0, .run (picV w h true) (picH N z)), (0, .chk), (4, .run (.bool true) []), (6, .val (.bool false)), (6, .val (.bool false)), (13, .val (.int .i64 i1)), (4, .val (.int .i64 i2)), (5, .val (.bool true))] (fun _ y hp => y = .bool true ∧ hp = []) =
    (AV.int .u32 (a.tmod 1000000000) = .int .u32 ua ∧
      AV.int .i64 (IntKind.wrap .i64 ua) = .int .i64 na ∧
      AV.int .u32 (b.tmod 1000000000) = .int .u32 ub ∧
      AV.int .i64 (IntKind.wrap .i64 ub) = .int .i64 nb ∧
      AV.int .u32 (c.tmod 1000000000) = .int .u32 uc ∧
      AV.int .i64 (IntKind.wrap .i64 uc) = .int .i64 nc ∧
      AV.int .u32 (d.tmod 1000000000) = .int .u32 ud ∧
      AV.int .i64 (IntKind.wrap .i64 ud) = .int .i64 nd ∧
      AV.int .u32 (e.tmod 1000000000) = .int .u32 ue ∧
      AV.int .i64 (IntKind.wrap .i64 ue) = .int .i64 ne ∧
      AV.int .u32 (f.tmod 1000000000) = .int .u32 uf ∧
      AV.int .i64 (IntKind.wrap .i64 uf) = .int .i64 nf ∧
      itoaOb na da ∧
      itoaOb nb db ∧
      itoaOb nc dc ∧
      itoaOb nd dd0 ∧
      itoaOb ne de ∧
      itoaOb nf df ∧
      conJoin.run [.vs (.pure 6 [.str (ofL da), .str (ofL db), .str (ofL dc), .str (ofL dd0), .str (ofL de), .str (ofL df)]) none 1 false, .str (ofL [32])] = some (.str (ofL P), []) ∧
      (conEval (evalN E0 fuelF 100) 19 1).run [.str (ofL P), .str (ofL [32])] = some (.sl 0 (some (0, 6)) 1 (.is 6), wordsV [da, db, dc, dd0, de, df]) ∧
      numOb da na ∧
      numOb db nb ∧
      numOb dc nc ∧
      numOb dd0 nd ∧
      numOb de ne ∧
      numOb df nf ∧
      AV.int .u32 (a.tmod 40) = .int .u32 u1 ∧
      AV.int .i64 (IntKind.wrap .i64 u1) = .int .i64 w1 ∧
      AV.int .i64 (IntKind.wrap .i64 (1 + w1)) = .int .i64 w ∧
      AV.int .u32 (b.tmod 40) = .int .u32 u2 ∧
      AV.int .i64 (IntKind.wrap .i64 u2) = .int .i64 h1 ∧
      AV.int .i64 (IntKind.wrap .i64 (1 + h1)) = .int .i64 h ∧
      AV.int .u32 (c.tmod 4) = .int .u32 u3 ∧
      AV.int .i64 (IntKind.wrap .i64 u3) = .int .i64 m1 ∧
      AV.int .i64 (IntKind.wrap .i64 (1 + m1)) = .int .i64 4 ∧
      AV.bool (intsEq [na, nb, nc, nd, ne, nf] [na, nb, nc, nd, ne, nf] 6) = .bool true ∧
      AV.int .u8 (k.tmod 5) = .int .u8 uk ∧
      AV.int .i64 (IntKind.wrap .i64 uk) = .int .i64 kk ∧
      AV.int .i64 (IntKind.wrap .i64 d) = .int .i64 dd ∧
      (conEval (evalN E3 fuelF 141) 13 1).run (pargs w h 4 0 0 0 kk dd) = some (picV w h true, picH N z) ∧
      (eqV (.agg (.ints .i64 6 [w, h, 4, 0, 0, 0])) (.agg (.ints .i64 6 [w, h, 4, 0, 0, 0])) = true ∧ True) ∧
      (conEval (evalN E8 fuelF 110) 21 0).run [.agg (.ints .i64 6 [w, h, 4, 0, 0, 0])] = some (.bool true, []) ∧
      AV.bool (w != w) = .bool false ∧
      AV.bool (h != h) = .bool false ∧
      AV.int .i64 (IntKind.wrap .i64 (w * h)) = .int .i64 i1 ∧
      AV.int .i64 (IntKind.wrap .i64 (3 * i1)) = .int .i64 i2 ∧
      AV.bool ((N : Int) == i2) = .bool true ∧
      AV.bool true = .bool true ∧
      ([] : Heap) = []) := by kernel_rfl
def args4 (a b c d e f k : Nat) : List AV := [.int .u32 (a : Int), .int .u32 (b : Int), .int .u32 (c : Int), .int .u32 (d : Int), .int .u32 (e : Int), .int .u32 (f : Int), .int .u8 (k : Int)]
theorem back1 (a b c d e f k : Nat) (ha : a ≤ 4294967295) (hb : b ≤ 4294967295) (hd : d ≤ 4294967295) (hc : c % 4 = 0) : evalN E9 fuelF 160 (.fn 4) (args4 a b c d e f k) [] = some (.bool true, []) := by
  have b1 : a % 40 < 40 := Nat.mod_lt _ (by decide)
  have b2 : b % 40 < 40 := Nat.mod_lt _ (by decide)
  have b3 : k % 5 < 5 := Nat.mod_lt _ (by decide)
  obtain ⟨z, hp⟩ := pic_any1 (1 + a % 40) (1 + b % 40) (k % 5) 0 0 0 (d : Int) (by omega) (by omega) (by omega) (by omega) b3
  have hr := right1 (1 + a % 40) (1 + b % 40) (by omega) (by omega) (by omega) (by omega)
  have har := area (w := (1 + a % 40)) (h := (1 + b % 40)) (by omega) (by omega)
  have l1 : ∀ u, (Lib.decDigits (u % 1000000000)).length ≤ 9 := fun u => dec_len 8 _ (Nat.mod_lt _ (by decide))
  have q1 := l1 a
  have q2 := l1 b
  have q3 := l1 c
  have q4 := l1 d
  have q5 := l1 e
  have q6 := l1 f
  have hlen : (joinS [Lib.decDigits (a % 1000000000), Lib.decDigits (b % 1000000000), Lib.decDigits (c % 1000000000), Lib.decDigits (d % 1000000000), Lib.decDigits (e % 1000000000), Lib.decDigits (f % 1000000000)]).length ≤ 1000 := by
    simp only [joinS, List.length_append, List.length_cons]; omega
  have hs := split6_run (Lib.decDigits (a % 1000000000)) (Lib.decDigits (b % 1000000000)) (Lib.decDigits (c % 1000000000)) (Lib.decDigits (d % 1000000000)) (Lib.decDigits (e % 1000000000)) (Lib.decDigits (f % 1000000000)) (by
    intro x hx
    simp only [List.mem_cons, List.not_mem_nil, or_false] at hx
    rcases hx with rfl | rfl | rfl | rfl | rfl | rfl <;> exact ⟨plain_dec _, by omega⟩)
  exact ev_of (bk1 a b c d e f k ((a % 1000000000 : Nat) : Int) ((a % 1000000000 : Nat) : Int) ((b % 1000000000 : Nat) : Int) ((b % 1000000000 : Nat) : Int) ((c % 1000000000 : Nat) : Int) ((c % 1000000000 : Nat) : Int) ((d % 1000000000 : Nat) : Int) ((d % 1000000000 : Nat) : Int) ((e % 1000000000 : Nat) : Int) ((e % 1000000000 : Nat) : Int) ((f % 1000000000 : Nat) : Int) ((f % 1000000000 : Nat) : Int) ((a % 40 : Nat) : Int) ((a % 40 : Nat) : Int) ((1 + a % 40 : Nat) : Int) ((b % 40 : Nat) : Int) ((b % 40 : Nat) : Int) ((1 + b % 40 : Nat) : Int) 0 0 ((k % 5 : Nat) : Int) ((k % 5 : Nat) : Int) (d : Int) (((1 + a % 40) * (1 + b % 40) : Nat) : Int) ((3 * ((1 + a % 40) * (1 + b % 40)) : Nat) : Int) _ _ _ _ _ _ _ _ z)
    ⟨congrArg _ (tmodN a 1000000000),
      wz _ (by omega),
      congrArg _ (tmodN b 1000000000),
      wz _ (by omega),
      congrArg _ (tmodN c 1000000000),
      wz _ (by omega),
      congrArg _ (tmodN d 1000000000),
      wz _ (by omega),
      congrArg _ (tmodN e 1000000000),
      wz _ (by omega),
      congrArg _ (tmodN f 1000000000),
      wz _ (by omega),
      itoaOb_dec _ (by omega),
      itoaOb_dec _ (by omega),
      itoaOb_dec _ (by omega),
      itoaOb_dec _ (by omega),
      itoaOb_dec _ (by omega),
      itoaOb_dec _ (by omega),
      join6 _ _ _ _ _ _ hlen,
      runEval_eq 1 hs rfl,
      numOb_dec _ (by omega),
      numOb_dec _ (by omega),
      numOb_dec _ (by omega),
      numOb_dec _ (by omega),
      numOb_dec _ (by omega),
      numOb_dec _ (by omega),
      congrArg _ (tmodN a 40),
      wz _ (by omega),
      wz1 1 _ (by omega),
      congrArg _ (tmodN b 40),
      wz _ (by omega),
      wz1 1 _ (by omega),
      congrArg _ ((tmodN c 4).trans (by rw [hc]; rfl)),
      rfl,
      rfl,
      by simp [intsEq],
      congrArg _ (tmodN k 5),
      wz _ (by omega),
      wz _ (by omega),
      runEval_eq 1 hp rfl,
      ⟨eqA _ _, trivial⟩,
      runEval_eq 0 hr rfl,
      neI _,
      neI _,
      wv rfl (by omega) (by omega),
      by simp,
      rfl,
      rfl⟩
theorem back2 (a b c d e f k : Nat) (ha : a ≤ 4294967295) (hb : b ≤ 4294967295) (hd : d ≤ 4294967295) (hc : c % 4 = 1) : evalN E9 fuelF 160 (.fn 4) (args4 a b c d e f k) [] = some (.bool true, []) := by
  have b1 : a % 40 < 40 := Nat.mod_lt _ (by decide)
  have b2 : b % 40 < 40 := Nat.mod_lt _ (by decide)
  have b3 : k % 5 < 5 := Nat.mod_lt _ (by decide)
  obtain ⟨z, hp⟩ := pic_any2 (1 + a % 40) (1 + b % 40) (k % 5) 0 0 0 (d : Int) (by omega) (by omega) (by omega) (by omega) b3
  have hr := right2 (1 + a % 40) (1 + b % 40) (by omega) (by omega) (by omega) (by omega)
  have har := area (w := (1 + a % 40)) (h := (1 + b % 40)) (by omega) (by omega)
  have l1 : ∀ u, (Lib.decDigits (u % 1000000000)).length ≤ 9 := fun u => dec_len 8 _ (Nat.mod_lt _ (by decide))
  have q1 := l1 a
  have q2 := l1 b
  have q3 := l1 c
  have q4 := l1 d
  have q5 := l1 e
  have q6 := l1 f
  have hlen : (joinS [Lib.decDigits (a % 1000000000), Lib.decDigits (b % 1000000000), Lib.decDigits (c % 1000000000), Lib.decDigits (d % 1000000000), Lib.decDigits (e % 1000000000), Lib.decDigits (f % 1000000000)]).length ≤ 1000 := by
    simp only [joinS, List.length_append, List.length_cons]; omega
  have hs := split6_run (Lib.decDigits (a % 1000000000)) (Lib.decDigits (b % 1000000000)) (Lib.decDigits (c % 1000000000)) (Lib.decDigits (d % 1000000000)) (Lib.decDigits (e % 1000000000)) (Lib.decDigits (f % 1000000000)) (by
    intro x hx
    simp only [List.mem_cons, List.not_mem_nil, or_false] at hx
    rcases hx with rfl | rfl | rfl | rfl | rfl | rfl <;> exact ⟨plain_dec _, by omega⟩)
  exact ev_of (bk2 a b c d e f k ((a % 1000000000 : Nat) : Int) ((a % 1000000000 : Nat) : Int) ((b % 1000000000 : Nat) : Int) ((b % 1000000000 : Nat) : Int) ((c % 1000000000 : Nat) : Int) ((c % 1000000000 : Nat) : Int) ((d % 1000000000 : Nat) : Int) ((d % 1000000000 : Nat) : Int) ((e % 1000000000 : Nat) : Int) ((e % 1000000000 : Nat) : Int) ((f % 1000000000 : Nat) : Int) ((f % 1000000000 : Nat) : Int) ((a % 40 : Nat) : Int) ((a % 40 : Nat) : Int) ((1 + a % 40 : Nat) : Int) ((b % 40 : Nat) : Int) ((b % 40 : Nat) : Int) ((1 + b % 40 : Nat) : Int) 1 1 ((k % 5 : Nat) : Int) ((k % 5 : Nat) : Int) (d : Int) (((1 + a % 40) * (1 + b % 40) : Nat) : Int) ((3 * ((1 + a % 40) * (1 + b % 40)) : Nat) : Int) _ _ _ _ _ _ _ _ z)
    ⟨congrArg _ (tmodN a 1000000000),
      wz _ (by omega),
      congrArg _ (tmodN b 1000000000),
      wz _ (by omega),
      congrArg _ (tmodN c 1000000000),
      wz _ (by omega),
      congrArg _ (tmodN d 1000000000),
      wz _ (by omega),
      congrArg _ (tmodN e 1000000000),
      wz _ (by omega),
      congrArg _ (tmodN f 1000000000),
      wz _ (by omega),
      itoaOb_dec _ (by omega),
      itoaOb_dec _ (by omega),
      itoaOb_dec _ (by omega),
      itoaOb_dec _ (by omega),
      itoaOb_dec _ (by omega),
      itoaOb_dec _ (by omega),
      join6 _ _ _ _ _ _ hlen,
      runEval_eq 1 hs rfl,
      numOb_dec _ (by omega),
      numOb_dec _ (by omega),
      numOb_dec _ (by omega),
      numOb_dec _ (by omega),
      numOb_dec _ (by omega),
      numOb_dec _ (by omega),
      congrArg _ (tmodN a 40),
      wz _ (by omega),
      wz1 1 _ (by omega),
      congrArg _ (tmodN b 40),
      wz _ (by omega),
      wz1 1 _ (by omega),
      congrArg _ ((tmodN c 4).trans (by rw [hc]; rfl)),
      rfl,
      rfl,
      by simp [intsEq],
      congrArg _ (tmodN k 5),
      wz _ (by omega),
      wz _ (by omega),
      runEval_eq 1 hp rfl,
      ⟨eqA _ _, trivial⟩,
      runEval_eq 0 hr rfl,
      neI _,
      neI _,
      wv rfl (by omega) (by omega),
      wv rfl (by omega) (by omega),
      by rw [Nat.mul_comm 3]; simp,
      rfl,
      rfl⟩
theorem back3 (a b c d e f k : Nat) (ha : a ≤ 4294967295) (hb : b ≤ 4294967295) (hd : d ≤ 4294967295) (hc : c % 4 = 2) : evalN E9 fuelF 160 (.fn 4) (args4 a b c d e f k) [] = some (.bool true, []) := by
  have b1 : a % 40 < 40 := Nat.mod_lt _ (by decide)
  have b2 : b % 40 < 40 := Nat.mod_lt _ (by decide)
  have b3 : k % 5 < 5 := Nat.mod_lt _ (by decide)
  obtain ⟨z, hp⟩ := pic_any3 (1 + a % 40) (1 + b % 40) (k % 5) 0 0 0 (d : Int) (by omega) (by omega) (by omega) (by omega) b3
  have hr := right3 (1 + a % 40) (1 + b % 40) (by omega) (by omega) (by omega) (by omega)
  have har := area (w := (1 + a % 40)) (h := (1 + b % 40)) (by omega) (by omega)
  have l1 : ∀ u, (Lib.decDigits (u % 1000000000)).length ≤ 9 := fun u => dec_len 8 _ (Nat.mod_lt _ (by decide))
  have q1 := l1 a
  have q2 := l1 b
  have q3 := l1 c
  have q4 := l1 d
  have q5 := l1 e
  have q6 := l1 f
  have hlen : (joinS [Lib.decDigits (a % 1000000000), Lib.decDigits (b % 1000000000), Lib.decDigits (c % 1000000000), Lib.decDigits (d % 1000000000), Lib.decDigits (e % 1000000000), Lib.decDigits (f % 1000000000)]).length ≤ 1000 := by
    simp only [joinS, List.length_append, List.length_cons]; omega
  have hs := split6_run (Lib.decDigits (a % 1000000000)) (Lib.decDigits (b % 1000000000)) (Lib.decDigits (c % 1000000000)) (Lib.decDigits (d % 1000000000)) (Lib.decDigits (e % 1000000000)) (Lib.decDigits (f % 1000000000)) (by
    intro x hx
    simp only [List.mem_cons, List.not_mem_nil, or_false] at hx
    rcases hx with rfl | rfl | rfl | rfl | rfl | rfl <;> exact ⟨plain_dec _, by omega⟩)
  exact ev_of (bk3 a b c d e f k ((a % 1000000000 : Nat) : Int) ((a % 1000000000 : Nat) : Int) ((b % 1000000000 : Nat) : Int) ((b % 1000000000 : Nat) : Int) ((c % 1000000000 : Nat) : Int) ((c % 1000000000 : Nat) : Int) ((d % 1000000000 : Nat) : Int) ((d % 1000000000 : Nat) : Int) ((e % 1000000000 : Nat) : Int) ((e % 1000000000 : Nat) : Int) ((f % 1000000000 : Nat) : Int) ((f % 1000000000 : Nat) : Int) ((a % 40 : Nat) : Int) ((a % 40 : Nat) : Int) ((1 + a % 40 : Nat) : Int) ((b % 40 : Nat) : Int) ((b % 40 : Nat) : Int) ((1 + b % 40 : Nat) : Int) 2 2 ((k % 5 : Nat) : Int) ((k % 5 : Nat) : Int) (d : Int) (((1 + a % 40) * (1 + b % 40) : Nat) : Int) ((3 * ((1 + a % 40) * (1 + b % 40)) : Nat) : Int) _ _ _ _ _ _ _ _ z)
    ⟨congrArg _ (tmodN a 1000000000),
      wz _ (by omega),
      congrArg _ (tmodN b 1000000000),
      wz _ (by omega),
      congrArg _ (tmodN c 1000000000),
      wz _ (by omega),
      congrArg _ (tmodN d 1000000000),
      wz _ (by omega),
      congrArg _ (tmodN e 1000000000),
      wz _ (by omega),
      congrArg _ (tmodN f 1000000000),
      wz _ (by omega),
      itoaOb_dec _ (by omega),
      itoaOb_dec _ (by omega),
      itoaOb_dec _ (by omega),
      itoaOb_dec _ (by omega),
      itoaOb_dec _ (by omega),
      itoaOb_dec _ (by omega),
      join6 _ _ _ _ _ _ hlen,
      runEval_eq 1 hs rfl,
      numOb_dec _ (by omega),
      numOb_dec _ (by omega),
      numOb_dec _ (by omega),
      numOb_dec _ (by omega),
      numOb_dec _ (by omega),
      numOb_dec _ (by omega),
      congrArg _ (tmodN a 40),
      wz _ (by omega),
      wz1 1 _ (by omega),
      congrArg _ (tmodN b 40),
      wz _ (by omega),
      wz1 1 _ (by omega),
      congrArg _ ((tmodN c 4).trans (by rw [hc]; rfl)),
      rfl,
      rfl,
      by simp [intsEq],
      congrArg _ (tmodN k 5),
      wz _ (by omega),
      wz _ (by omega),
      runEval_eq 1 hp rfl,
      ⟨eqA _ _, trivial⟩,
      runEval_eq 0 hr rfl,
      neI _,
      neI _,
      wv rfl (by omega) (by omega),
      wv rfl (by omega) (by omega),
      by rw [Nat.mul_comm 3]; simp,
      rfl,
      rfl⟩
theorem back4 (a b c d e f k : Nat) (ha : a ≤ 4294967295) (hb : b ≤ 4294967295) (hd : d ≤ 4294967295) (hc : c % 4 = 3) : evalN E9 fuelF 160 (.fn 4) (args4 a b c d e f k) [] = some (.bool true, []) := by
  have b1 : a % 40 < 40 := Nat.mod_lt _ (by decide)
  have b2 : b % 40 < 40 := Nat.mod_lt _ (by decide)
  have b3 : k % 5 < 5 := Nat.mod_lt _ (by decide)
  obtain ⟨z, hp⟩ := pic_any4 (1 + a % 40) (1 + b % 40) (k % 5) 0 0 0 (d : Int) (by omega) (by omega) (by omega) (by omega) b3
  have hr := right4 (1 + a % 40) (1 + b % 40) (by omega) (by omega) (by omega) (by omega)
  have har := area (w := (1 + a % 40)) (h := (1 + b % 40)) (by omega) (by omega)
  have l1 : ∀ u, (Lib.decDigits (u % 1000000000)).length ≤ 9 := fun u => dec_len 8 _ (Nat.mod_lt _ (by decide))
  have q1 := l1 a
  have q2 := l1 b
  have q3 := l1 c
  have q4 := l1 d
  have q5 := l1 e
  have q6 := l1 f
  have hlen : (joinS [Lib.decDigits (a % 1000000000), Lib.decDigits (b % 1000000000), Lib.decDigits (c % 1000000000), Lib.decDigits (d % 1000000000), Lib.decDigits (e % 1000000000), Lib.decDigits (f % 1000000000)]).length ≤ 1000 := by
    simp only [joinS, List.length_append, List.length_cons]; omega
  have hs := split6_run (Lib.decDigits (a % 1000000000)) (Lib.decDigits (b % 1000000000)) (Lib.decDigits (c % 1000000000)) (Lib.decDigits (d % 1000000000)) (Lib.decDigits (e % 1000000000)) (Lib.decDigits (f % 1000000000)) (by
    intro x hx
    simp only [List.mem_cons, List.not_mem_nil, or_false] at hx
    rcases hx with rfl | rfl | rfl | rfl | rfl | rfl <;> exact ⟨plain_dec _, by omega⟩)
  exact ev_of (bk4 a b c d e f k ((a % 1000000000 : Nat) : Int) ((a % 1000000000 : Nat) : Int) ((b % 1000000000 : Nat) : Int) ((b % 1000000000 : Nat) : Int) ((c % 1000000000 : Nat) : Int) ((c % 1000000000 : Nat) : Int) ((d % 1000000000 : Nat) : Int) ((d % 1000000000 : Nat) : Int) ((e % 1000000000 : Nat) : Int) ((e % 1000000000 : Nat) : Int) ((f % 1000000000 : Nat) : Int) ((f % 1000000000 : Nat) : Int) ((a % 40 : Nat) : Int) ((a % 40 : Nat) : Int) ((1 + a % 40 : Nat) : Int) ((b % 40 : Nat) : Int) ((b % 40 : Nat) : Int) ((1 + b % 40 : Nat) : Int) 3 3 ((k % 5 : Nat) : Int) ((k % 5 : Nat) : Int) (d : Int) (((1 + a % 40) * (1 + b % 40) : Nat) : Int) ((3 * ((1 + a % 40) * (1 + b % 40)) : Nat) : Int) _ _ _ _ _ _ _ _ z)
    ⟨congrArg _ (tmodN a 1000000000),
      wz _ (by omega),
      congrArg _ (tmodN b 1000000000),
      wz _ (by omega),
      congrArg _ (tmodN c 1000000000),
      wz _ (by omega),
      congrArg _ (tmodN d 1000000000),
      wz _ (by omega),
      congrArg _ (tmodN e 1000000000),
      wz _ (by omega),
      congrArg _ (tmodN f 1000000000),
      wz _ (by omega),
      itoaOb_dec _ (by omega),
      itoaOb_dec _ (by omega),
      itoaOb_dec _ (by omega),
      itoaOb_dec _ (by omega),
      itoaOb_dec _ (by omega),
      itoaOb_dec _ (by omega),
      join6 _ _ _ _ _ _ hlen,
      runEval_eq 1 hs rfl,
      numOb_dec _ (by omega),
      numOb_dec _ (by omega),
      numOb_dec _ (by omega),
      numOb_dec _ (by omega),
      numOb_dec _ (by omega),
      numOb_dec _ (by omega),
      congrArg _ (tmodN a 40),
      wz _ (by omega),
      wz1 1 _ (by omega),
      congrArg _ (tmodN b 40),
      wz _ (by omega),
      wz1 1 _ (by omega),
      congrArg _ ((tmodN c 4).trans (by rw [hc]; rfl)),
      rfl,
      rfl,
      by simp [intsEq],
      congrArg _ (tmodN k 5),
      wz _ (by omega),
      wz _ (by omega),
      runEval_eq 1 hp rfl,
      ⟨eqA _ _, trivial⟩,
      runEval_eq 0 hr rfl,
      neI _,
      neI _,
      wv rfl (by omega) (by omega),
      wv rfl (by omega) (by omega),
      by rw [Nat.mul_comm 3]; simp,
      rfl,
      rfl⟩
theorem back_run (a b c d e f k : Nat) (ha : a ≤ 4294967295) (hb : b ≤ 4294967295) (hd : d ≤ 4294967295) : evalN E9 fuelF 160 (.fn 4) (args4 a b c d e f k) [] = some (.bool true, []) := by
  have h4 : c % 4 < 4 := Nat.mod_lt _ (by decide)
  rcases (show c % 4 = 0 ∨ c % 4 = 1 ∨ c % 4 = 2 ∨ c % 4 = 3 by omega) with h | h | h | h
  · exact back1 a b c d e f k ha hb hd h
  · exact back2 a b c d e f k ha hb hd h
  · exact back3 a b c d e f k ha hb hd h
  · exact back4 a b c d e f k ha hb hd h
end Go.Proofs.YtfbamgphngmglaaGreatDoor
end

section
namespace Go.Proofs.YtfbamgphngmglaaGreatDoor
open Go Go.Abs
set_option maxRecDepth 100000
theorem envOK8 : EnvOK Tryz.prog E8 where
  T := ttok
  ext := extOK
  eq := eqOK
  eqI := intOK
  mixed := by kernel_rfl
theorem evalOK8 (k n : Nat) : InlOK Tryz.prog E8 (evalN E8 k n) := evalN_sound envOK8 (conOK_of fun f c hc => by
  obtain ⟨rfl, rfl⟩ := beqD hc
  exact conEval_ok (evalOK fuelF 100) 60 0 rfl) (fnsOf_ok rfl) k n
theorem envOK9 : EnvOK Tryz.prog E9 where
  T := ttok
  ext := extOK
  eq := eqOK
  eqI := intOK
  mixed := by kernel_rfl
theorem evalOK9 (k n : Nat) : InlOK Tryz.prog E9 (evalN E9 k n) := evalN_sound envOK9 (conOK_of fun f c hc => by
  rcases beqE hc with ⟨rfl, rfl⟩ | hc
  · exact conEval_ok (evalOK8 fuelF 110) 21 0 rfl
  · exact conSpec5 f c hc) (fnsOf_ok rfl) k n
/-- the walk -/
theorem playBack_calls (S : SS) (w : World) (a b c d e f k : Nat) (ha : a ≤ 4294967295) (hb : b ≤ 4294967295) (_ : c ≤ 4294967295) (hd : d ≤ 4294967295) (_ : e ≤ 4294967295) (_ : f ≤ 4294967295) (_ : k ≤ 255) (hG : GlobOK GTr.get S) (hst : ∀ b c, S b = some c → ∃ e fr, w.heap[b]? = some (.cells c e fr)) :
    Calls Tryz.prog 4 #[.int .u32 (a : Int), .int .u32 (b : Int), .int .u32 (c : Int), .int .u32 (d : Int), .int .u32 (e : Int), .int .u32 (f : Int), .int .u8 (k : Int)] w fun e w' => e = .returned (.bool true) ∧ Kept w w' := by
  have hW : WR (Go.Abs.rebase noM S [] w) noM S noF [] w := {
    obj := fun id => by rw [hget_nil]; trivial
    inj := fun i j l l' _ _ hl => by cases hl
    stab := hst
    apart := fun i l _ hl => by cases hl
    size := Nat.le_refl _
    keep := fun _ _ _ => rfl
    own := fun i l _ hl => by cases hl
    fresh := fun b c hb => .inl hb
    os := rfl
    output := rfl
    tape := rfl }
  have hr := back_run a b c d e f k ha hb hd
  obtain ⟨_, hc⟩ := evalOK9 fuelF 160 _ _ _ _ _ hr _ _ S noF w #[.int .u32 (a : Int), .int .u32 (b : Int), .int .u32 (c : Int), .int .u32 (d : Int), .int .u32 (e : Int), .int .u32 (f : Int), .int .u8 (k : Int)] hG hW (fun _ _ => rfl)
    (by simp only [args4, LR, VR]; exact ⟨_, _, rfl, rfl, _, _, rfl, rfl, _, _, rfl, rfl, _, _, rfl, rfl, _, _, rfl, rfl, _, _, rfl, rfl, _, _, rfl, rfl, rfl⟩)
  refine callsIn_wide.mp (hc.mono fun e w' ⟨u, m', S', he, hu, hw', _⟩ => ?_)
  simp only [VR] at hu
  subst hu
  exact ⟨he, hw'.os, hw'.output, hw'.tape, hw'.size, fun b hb => hw'.keep b hb (mutBlk_nil noM b)⟩
end Go.Proofs.YtfbamgphngmglaaGreatDoor
end
