/- A part of a proof about a statement of cyanotypelaw22: a step that the closing text imports. Each theorem states its own conditions. -/
import Derived.Test.YtfbamgphngmglaaGreatDoorFlatL
set_option linter.unusedSimpArgs false
set_option linter.unusedVariables false
namespace Go.Proofs.YtfbamgphngmglaaGreatDoor
open Go Go.Abs
set_option maxRecDepth 100000
/-! ### slot.Check of a quality above 100 -/
theorem eqI (k : IntKind) (x : Int) : eqV (.int k x) (.int k x) = true := by cases k <;> simp [eqV, kEq]
theorem eqA (n : Nat) (z : List Int) : eqV (.agg (.ints .i64 n z)) (.agg (.ints .i64 n z)) = true := by simp [eqV, eqRow, kEq]
theorem wv {e : Int} {v : Int} (h : e = v) (h0 : 0 ≤ v) (h1 : v ≤ 9223372036854775807) : AV.int .i64 (IntKind.wrap .i64 e) = .int .i64 v := by rw [h, wrap_i64 h0 h1]
theorem ev_of {E : Env} {k n : Nat} {f : FuncId} {args : List AV} {o : Orc} {y : AV} {hp : Heap} {b : Prop} (h : evalNP E k n (.fn f) args [] o (fun _ v h => v = y ∧ h = hp) = b) (hb : b) : evalN E k n (.fn f) args [] = some (y, hp) := by
  obtain ⟨v, h', o', h1, h2, h3⟩ := evalNP_sound E k n _ _ _ _ _ (h.symm ▸ hb)
  rw [h1, h2, h3]
theorem beq0 {c : Nat} (h : 1 ≤ c) : ((c : Int) == 0) = false := by
  have : (c : Int) ≠ 0 := by omega
  simpa using this
theorem ceilN (w e : Nat) (hw : 1 ≤ w) (hw2 : w ≤ 60) (he : 7 ≤ e) (he2 : e ≤ 15) : 1 ≤ (w + e) / (e + 1) ∧ (w + e) / (e + 1) ≤ 10 ∧ ((w + e : Nat) : Int).tdiv ((e + 1 : Nat) : Int) = (((w + e) / (e + 1) : Nat) : Int) := by
  refine ⟨(Nat.one_le_div_iff (by omega)).mpr (by omega), ?_, ?_⟩
  · have : (w + e) / (e + 1) < 11 := (Nat.div_lt_iff_lt_mul (by omega)).mpr (by omega)
    omega
  · rw [Int.tdiv_eq_ediv_of_nonneg (by omega)]; rfl
theorem chk1 (w h q i1 i2 i3 i4 i5 i6 i7 i8 i9 i10 i11 i12 i13 i14 i15 i16 i17 i18 i19 i20 i21 i22 i23 i24 i25 i26 i27 i28 i29 i30 i31 i32 i33 i34 i35 : Int) : evalNP E0 fuelF 100 (.fn 66) [.agg (.ints .i64 6 [w, h, 1, q, 1, 0])] [] [(8, .val (.int .i64 i1)), (0, .val (.bool true)), (14, .val (.bool true)), (3, .val (.bool true)), (2, .chk), (6, .val (.bool true)), (3, .val (.bool true)), (2, .chk), (12, .chk), (4, .val (.bool true)), (3, .val (.bool false)), (2, .chk), (11, .chk), (11, .chk), (73, .val (.bool true)), (2, .val (.bool true)), (9, .val (.bool true)), (2, .val (.bool true)), (12, .val (.bool false)), (2, .val (.bool false)), (11, .val (.int .i64 i2)), (0, .val (.int .i64 i3)), (1, .val (.int .i64 i4)), (1, .chk), (2, .val (.bool false)), (2, .val (.bool false)), (11, .val (.int .i64 i5)), (0, .val (.int .i64 i6)), (1, .val (.int .i64 i7)), (10, .val (.int .i64 i8)), (3, .val (.bool false)), (2, .val (.bool false)), (11, .val (.int .i64 i9)), (0, .val (.int .i64 i10)), (1, .val (.int .i64 i11)), (2, .val (.bool false)), (68, .val (.bool true)), (2, .val (.bool true)), (9, .val (.bool true)), (2, .val (.bool true)), (12, .val (.bool false)), (2, .val (.bool false)), (11, .val (.int .i64 i12)), (0, .val (.int .i64 i13)), (1, .val (.int .i64 i14)), (1, .chk), (2, .val (.bool false)), (2, .val (.bool false)), (11, .val (.int .i64 i15)), (0, .val (.int .i64 i16)), (1, .val (.int .i64 i17)), (10, .val (.int .i64 i18)), (1, .val (.int .i64 i19)), (43, .val (.int .i64 i20)), (9, .chk), (0, .val (.int .i64 i21)), (2, .val (.bool false)), (2, .val (.bool false)), (11, .val (.int .i64 i22)), (0, .val (.int .i64 i23)), (1, .val (.int .i64 i24)), (1, .val (.int .i64 i25)), (7, .chk), (0, .val (.int .i64 i26)), (2, .val (.bool false)), (2, .val (.bool false)), (11, .val (.int .i64 i27)), (0, .val (.int .i64 i28)), (1, .val (.int .i64 i29)), (1, .val (.int .i64 i30)), (8, .val (.int .i64 i31)), (0, .val (.int .i64 i32)), (0, .val (.int .i64 i33)), (0, .val (.int .i64 i34)), (3, .val (.bool true)), (1, .val (.int .i64 i35)), (1, .chk)] (fun _ y hp => y = .int .u16 12 ∧ hp = []) =
    (AV.int .i64 (IntKind.wrap .i64 ((w * h))) = .int .i64 i1 ∧
      AV.bool (decide (i1 ≤ 67108864)) = .bool true ∧
      AV.bool (decide (w ≥ 1)) = .bool true ∧
      AV.bool (decide (w ≤ 65535)) = .bool true ∧
      ((eqV (.int .i64 w) (.int .i64 w) = true ∧ (eqV (.int .i64 h) (.int .i64 h) = true ∧ (eqV (.int .i64 1) (.int .i64 1) = true ∧ (eqV (.int .i64 q) (.int .i64 q) = true ∧ (eqV (.int .i64 1) (.int .i64 1) = true ∧ (eqV (.int .i64 0) (.int .i64 0) = true ∧ (eqV (.agg (.ints .i64 6 [w, h, 1, q, 1, 0])) (.agg (.ints .i64 6 [w, h, 1, q, 1, 0])) = true ∧ True)))))))) ∧
      AV.bool (decide (h ≥ 1)) = .bool true ∧
      AV.bool (decide (h ≤ 65535)) = .bool true ∧
      ((eqV (.int .i64 w) (.int .i64 w) = true ∧ (eqV (.int .i64 h) (.int .i64 h) = true ∧ (eqV (.int .i64 1) (.int .i64 1) = true ∧ (eqV (.int .i64 q) (.int .i64 q) = true ∧ (eqV (.int .i64 1) (.int .i64 1) = true ∧ (eqV (.int .i64 0) (.int .i64 0) = true ∧ (eqV (.agg (.ints .i64 6 [w, h, 1, q, 1, 0])) (.agg (.ints .i64 6 [w, h, 1, q, 1, 0])) = true ∧ True)))))))) ∧
      ((eqV (.int .i64 w) (.int .i64 w) = true ∧ (eqV (.int .i64 h) (.int .i64 h) = true ∧ (eqV (.int .i64 q) (.int .i64 q) = true ∧ (eqV (.int .i64 1) (.int .i64 1) = true ∧ (eqV (.int .i64 0) (.int .i64 0) = true ∧ (eqV (.agg (.ints .i64 6 [w, h, 1, q, 1, 0])) (.agg (.ints .i64 6 [w, h, 1, q, 1, 0])) = true ∧ True))))))) ∧
      AV.bool (decide (q ≥ 1)) = .bool true ∧
      AV.bool (decide (q ≤ 100)) = .bool false ∧
      ((eqV (.int .i64 w) (.int .i64 w) = true ∧ (eqV (.int .i64 h) (.int .i64 h) = true ∧ (eqV (.int .i64 1) (.int .i64 1) = true ∧ (eqV (.int .i64 0) (.int .i64 0) = true ∧ (eqV (.agg (.ints .i64 6 [w, h, 1, q, 1, 0])) (.agg (.ints .i64 6 [w, h, 1, q, 1, 0])) = true ∧ True)))))) ∧
      ((eqV (.int .i64 w) (.int .i64 w) = true ∧ (eqV (.int .i64 h) (.int .i64 h) = true ∧ (eqV (.int .i64 0) (.int .i64 0) = true ∧ (eqV (.agg (.ints .i64 6 [w, h, 1, q, 1, 0])) (.agg (.ints .i64 6 [w, h, 1, q, 1, 0])) = true ∧ True))))) ∧
      ((eqV (.int .i64 w) (.int .i64 w) = true ∧ (eqV (.int .i64 h) (.int .i64 h) = true ∧ (eqV (.agg (.ints .i64 6 [w, h, 1, q, 1, 0])) (.agg (.ints .i64 6 [w, h, 1, q, 1, 0])) = true ∧ True)))) ∧
      AV.bool (decide (w ≥ 1)) = .bool true ∧
      AV.bool (decide (w ≤ 65535)) = .bool true ∧
      AV.bool (decide (h ≥ 1)) = .bool true ∧
      AV.bool (decide (h ≤ 65535)) = .bool true ∧
      AV.bool (decide (w < 0)) = .bool false ∧
      AV.bool (decide (w > 1099511627776)) = .bool false ∧
      AV.int .i64 (IntKind.wrap .i64 ((w + 8))) = .int .i64 i2 ∧
      AV.int .i64 (IntKind.wrap .i64 ((i2 - 1))) = .int .i64 i3 ∧
      AV.int .i64 (IntKind.wrap .i64 ((i3).tdiv (8))) = .int .i64 i4 ∧
      ((eqV (.int .i64 h) (.int .i64 h) = true ∧ True)) ∧
      AV.bool (decide (h < 0)) = .bool false ∧
      AV.bool (decide (h > 1099511627776)) = .bool false ∧
      AV.int .i64 (IntKind.wrap .i64 ((h + 8))) = .int .i64 i5 ∧
      AV.int .i64 (IntKind.wrap .i64 ((i5 - 1))) = .int .i64 i6 ∧
      AV.int .i64 (IntKind.wrap .i64 ((i6).tdiv (8))) = .int .i64 i7 ∧
      AV.int .i64 (IntKind.wrap .i64 ((i4 * i7))) = .int .i64 i8 ∧
      AV.bool (decide (i8 < 0)) = .bool false ∧
      AV.bool (decide (i8 > 1099511627776)) = .bool false ∧
      AV.int .i64 (IntKind.wrap .i64 ((i8 + 1))) = .int .i64 i9 ∧
      AV.int .i64 (IntKind.wrap .i64 ((i9 - 1))) = .int .i64 i10 ∧
      AV.int .i64 (IntKind.wrap .i64 ((i10).tdiv (1))) = .int .i64 i11 ∧
      AV.bool ((i11 == 0)) = .bool false ∧
      AV.bool (decide (w ≥ 1)) = .bool true ∧
      AV.bool (decide (w ≤ 65535)) = .bool true ∧
      AV.bool (decide (h ≥ 1)) = .bool true ∧
      AV.bool (decide (h ≤ 65535)) = .bool true ∧
      AV.bool (decide (w < 0)) = .bool false ∧
      AV.bool (decide (w > 1099511627776)) = .bool false ∧
      AV.int .i64 (IntKind.wrap .i64 ((w + 8))) = .int .i64 i12 ∧
      AV.int .i64 (IntKind.wrap .i64 ((i12 - 1))) = .int .i64 i13 ∧
      AV.int .i64 (IntKind.wrap .i64 ((i13).tdiv (8))) = .int .i64 i14 ∧
      ((eqV (.int .i64 h) (.int .i64 h) = true ∧ True)) ∧
      AV.bool (decide (h < 0)) = .bool false ∧
      AV.bool (decide (h > 1099511627776)) = .bool false ∧
      AV.int .i64 (IntKind.wrap .i64 ((h + 8))) = .int .i64 i15 ∧
      AV.int .i64 (IntKind.wrap .i64 ((i15 - 1))) = .int .i64 i16 ∧
      AV.int .i64 (IntKind.wrap .i64 ((i16).tdiv (8))) = .int .i64 i17 ∧
      AV.int .i64 (IntKind.wrap .i64 ((i14 * i17))) = .int .i64 i18 ∧
      AV.int .i64 ((if i18 < 1 then i18 else 1)) = .int .i64 i19 ∧
      AV.int .i64 (IntKind.wrap .i64 ((i19 * 1))) = .int .i64 i20 ∧
      ((eqV (.int .i64 i20) (.int .i64 i20) = true ∧ True)) ∧
      AV.int .i64 (IntKind.wrap .i64 ((i20 * 24))) = .int .i64 i21 ∧
      AV.bool (decide (i21 < 0)) = .bool false ∧
      AV.bool (decide (i21 > 1099511627776)) = .bool false ∧
      AV.int .i64 (IntKind.wrap .i64 ((i21 + 8))) = .int .i64 i22 ∧
      AV.int .i64 (IntKind.wrap .i64 ((i22 - 1))) = .int .i64 i23 ∧
      AV.int .i64 (IntKind.wrap .i64 ((i23).tdiv (8))) = .int .i64 i24 ∧
      AV.int .i64 (IntKind.wrap .i64 ((2 * i24))) = .int .i64 i25 ∧
      ((eqV (.int .i64 i20) (.int .i64 i20) = true ∧ True)) ∧
      AV.int .i64 (IntKind.wrap .i64 ((i20 * 1662))) = .int .i64 i26 ∧
      AV.bool (decide (i26 < 0)) = .bool false ∧
      AV.bool (decide (i26 > 1099511627776)) = .bool false ∧
      AV.int .i64 (IntKind.wrap .i64 ((i26 + 8))) = .int .i64 i27 ∧
      AV.int .i64 (IntKind.wrap .i64 ((i27 - 1))) = .int .i64 i28 ∧
      AV.int .i64 (IntKind.wrap .i64 ((i28).tdiv (8))) = .int .i64 i29 ∧
      AV.int .i64 (IntKind.wrap .i64 ((2 * i29))) = .int .i64 i30 ∧
      AV.int .i64 (IntKind.wrap .i64 ((i30 - i25))) = .int .i64 i31 ∧
      AV.int .i64 (IntKind.wrap .i64 ((0 * i31))) = .int .i64 i32 ∧
      AV.int .i64 (IntKind.wrap .i64 ((i32).tdiv (3))) = .int .i64 i33 ∧
      AV.int .i64 (IntKind.wrap .i64 ((i25 + i33))) = .int .i64 i34 ∧
      AV.bool (decide (i34 > 0)) = .bool true ∧
      AV.int .i64 (IntKind.wrap .i64 ((i34 + 2))) = .int .i64 i35 ∧
      ((eqV (.int .i64 w) (.int .i64 w) = true ∧ (eqV (.int .i64 h) (.int .i64 h) = true ∧ True))) ∧ AV.int .u16 12 = .int .u16 12 ∧ ([] : Heap) = []) := by kernel_rfl
theorem check1' (w h q n a b c : Nat) (hw : 1 ≤ w) (hw2 : w ≤ 60) (hh : 1 ≤ h) (hh2 : h ≤ 60) (hq : 101 ≤ q) (hq2 : q ≤ 1000000) (hn : (w : Int) * (h : Int) = (n : Int)) (hn2 : n ≤ 3600) (ha : ((w + 7 : Nat) : Int).tdiv 8 = (a : Int)) (hb : ((h + 7 : Nat) : Int).tdiv 8 = (b : Int))
    (hc : (a : Int) * (b : Int) = (c : Int)) (hc1 : 1 ≤ c) (hc2 : c ≤ 100) (ha2 : a ≤ 100) (hb2 : b ≤ 100) : evalN E0 fuelF 100 (.fn 66) [.agg (.ints .i64 6 [(w : Int), (h : Int), 1, (q : Int), 1, 0])] [] = some (.int .u16 12, []) :=
  ev_of (chk1 w h q (n : Int) ((w + 8 : Nat) : Int) ((w + 7 : Nat) : Int) (a : Int) ((h + 8 : Nat) : Int) ((h + 7 : Nat) : Int) (b : Int) (c : Int) ((c + 1 : Nat) : Int) (c : Int) (c : Int) ((w + 8 : Nat) : Int) ((w + 7 : Nat) : Int) (a : Int) ((h + 8 : Nat) : Int) ((h + 7 : Nat) : Int) (b : Int) (c : Int) 1 1 24 32 31 3 6 1662 1670 1669 208 416 410 0 0 6 8)
    ⟨wv hn (by omega) (by omega),
      by rw [decide_eq_true (by omega)],
      by rw [decide_eq_true (by omega)],
      by rw [decide_eq_true (by omega)],
      ⟨eqI _ _, eqI _ _, eqI _ _, eqI _ _, eqI _ _, eqI _ _, eqA _ _, trivial⟩,
      by rw [decide_eq_true (by omega)],
      by rw [decide_eq_true (by omega)],
      ⟨eqI _ _, eqI _ _, eqI _ _, eqI _ _, eqI _ _, eqI _ _, eqA _ _, trivial⟩,
      ⟨eqI _ _, eqI _ _, eqI _ _, eqI _ _, eqI _ _, eqA _ _, trivial⟩,
      by rw [decide_eq_true (by omega)],
      by rw [decide_eq_false (by omega)],
      ⟨eqI _ _, eqI _ _, eqI _ _, eqI _ _, eqA _ _, trivial⟩,
      ⟨eqI _ _, eqI _ _, eqI _ _, eqA _ _, trivial⟩,
      ⟨eqI _ _, eqI _ _, eqA _ _, trivial⟩,
      by rw [decide_eq_true (by omega)],
      by rw [decide_eq_true (by omega)],
      by rw [decide_eq_true (by omega)],
      by rw [decide_eq_true (by omega)],
      by rw [decide_eq_false (by omega)],
      by rw [decide_eq_false (by omega)],
      wv (by omega) (by omega) (by omega),
      wv (by omega) (by omega) (by omega),
      wv ha (by omega) (by omega),
      ⟨eqI _ _, trivial⟩,
      by rw [decide_eq_false (by omega)],
      by rw [decide_eq_false (by omega)],
      wv (by omega) (by omega) (by omega),
      wv (by omega) (by omega) (by omega),
      wv hb (by omega) (by omega),
      wv hc (by omega) (by omega),
      by rw [decide_eq_false (by omega)],
      by rw [decide_eq_false (by omega)],
      wv (by omega) (by omega) (by omega),
      wv (by omega) (by omega) (by omega),
      wv (Int.tdiv_one _) (by omega) (by omega),
      by rw [beq0 hc1],
      by rw [decide_eq_true (by omega)],
      by rw [decide_eq_true (by omega)],
      by rw [decide_eq_true (by omega)],
      by rw [decide_eq_true (by omega)],
      by rw [decide_eq_false (by omega)],
      by rw [decide_eq_false (by omega)],
      wv (by omega) (by omega) (by omega),
      wv (by omega) (by omega) (by omega),
      wv ha (by omega) (by omega),
      ⟨eqI _ _, trivial⟩,
      by rw [decide_eq_false (by omega)],
      by rw [decide_eq_false (by omega)],
      wv (by omega) (by omega) (by omega),
      wv (by omega) (by omega) (by omega),
      wv hb (by omega) (by omega),
      wv hc (by omega) (by omega),
      by rw [if_neg (by omega)],
      rfl,
      ⟨eqI _ _, trivial⟩,
      rfl,
      by rw [decide_eq_false (by omega)],
      by rw [decide_eq_false (by omega)],
      rfl,
      rfl,
      rfl,
      rfl,
      ⟨eqI _ _, trivial⟩,
      rfl,
      by rw [decide_eq_false (by omega)],
      by rw [decide_eq_false (by omega)],
      rfl,
      rfl,
      rfl,
      rfl,
      rfl,
      rfl,
      rfl,
      rfl,
      by rw [decide_eq_true (by omega)],
      rfl,
      ⟨eqI _ _, eqI _ _, trivial⟩, rfl, rfl⟩
theorem chk2 (w h q i1 i2 i3 i4 i5 i6 i7 i8 i9 i10 i11 i12 i13 i14 i15 i16 i17 i18 i19 i20 i21 i22 i23 i24 i25 i26 i27 i28 i29 i30 i31 i32 i33 i34 i35 : Int) : evalNP E0 fuelF 100 (.fn 66) [.agg (.ints .i64 6 [w, h, 2, q, 1, 0])] [] [(8, .val (.int .i64 i1)), (0, .val (.bool true)), (14, .val (.bool true)), (3, .val (.bool true)), (2, .chk), (6, .val (.bool true)), (3, .val (.bool true)), (2, .chk), (12, .chk), (4, .val (.bool true)), (3, .val (.bool false)), (2, .chk), (11, .chk), (11, .chk), (77, .val (.bool true)), (2, .val (.bool true)), (9, .val (.bool true)), (2, .val (.bool true)), (12, .val (.bool false)), (2, .val (.bool false)), (11, .val (.int .i64 i2)), (0, .val (.int .i64 i3)), (1, .val (.int .i64 i4)), (1, .chk), (2, .val (.bool false)), (2, .val (.bool false)), (11, .val (.int .i64 i5)), (0, .val (.int .i64 i6)), (1, .val (.int .i64 i7)), (10, .val (.int .i64 i8)), (3, .val (.bool false)), (2, .val (.bool false)), (11, .val (.int .i64 i9)), (0, .val (.int .i64 i10)), (1, .val (.int .i64 i11)), (2, .val (.bool false)), (72, .val (.bool true)), (2, .val (.bool true)), (9, .val (.bool true)), (2, .val (.bool true)), (12, .val (.bool false)), (2, .val (.bool false)), (11, .val (.int .i64 i12)), (0, .val (.int .i64 i13)), (1, .val (.int .i64 i14)), (1, .chk), (2, .val (.bool false)), (2, .val (.bool false)), (11, .val (.int .i64 i15)), (0, .val (.int .i64 i16)), (1, .val (.int .i64 i17)), (10, .val (.int .i64 i18)), (1, .val (.int .i64 i19)), (95, .val (.int .i64 i20)), (9, .chk), (0, .val (.int .i64 i21)), (2, .val (.bool false)), (2, .val (.bool false)), (11, .val (.int .i64 i22)), (0, .val (.int .i64 i23)), (1, .val (.int .i64 i24)), (1, .val (.int .i64 i25)), (7, .chk), (0, .val (.int .i64 i26)), (2, .val (.bool false)), (2, .val (.bool false)), (11, .val (.int .i64 i27)), (0, .val (.int .i64 i28)), (1, .val (.int .i64 i29)), (1, .val (.int .i64 i30)), (8, .val (.int .i64 i31)), (0, .val (.int .i64 i32)), (0, .val (.int .i64 i33)), (0, .val (.int .i64 i34)), (3, .val (.bool true)), (1, .val (.int .i64 i35)), (1, .chk)] (fun _ y hp => y = .int .u16 12 ∧ hp = []) =
    (AV.int .i64 (IntKind.wrap .i64 ((w * h))) = .int .i64 i1 ∧
      AV.bool (decide (i1 ≤ 67108864)) = .bool true ∧
      AV.bool (decide (w ≥ 1)) = .bool true ∧
      AV.bool (decide (w ≤ 65535)) = .bool true ∧
      ((eqV (.int .i64 w) (.int .i64 w) = true ∧ (eqV (.int .i64 h) (.int .i64 h) = true ∧ (eqV (.int .i64 2) (.int .i64 2) = true ∧ (eqV (.int .i64 q) (.int .i64 q) = true ∧ (eqV (.int .i64 1) (.int .i64 1) = true ∧ (eqV (.int .i64 0) (.int .i64 0) = true ∧ (eqV (.agg (.ints .i64 6 [w, h, 2, q, 1, 0])) (.agg (.ints .i64 6 [w, h, 2, q, 1, 0])) = true ∧ True)))))))) ∧
      AV.bool (decide (h ≥ 1)) = .bool true ∧
      AV.bool (decide (h ≤ 65535)) = .bool true ∧
      ((eqV (.int .i64 w) (.int .i64 w) = true ∧ (eqV (.int .i64 h) (.int .i64 h) = true ∧ (eqV (.int .i64 2) (.int .i64 2) = true ∧ (eqV (.int .i64 q) (.int .i64 q) = true ∧ (eqV (.int .i64 1) (.int .i64 1) = true ∧ (eqV (.int .i64 0) (.int .i64 0) = true ∧ (eqV (.agg (.ints .i64 6 [w, h, 2, q, 1, 0])) (.agg (.ints .i64 6 [w, h, 2, q, 1, 0])) = true ∧ True)))))))) ∧
      ((eqV (.int .i64 w) (.int .i64 w) = true ∧ (eqV (.int .i64 h) (.int .i64 h) = true ∧ (eqV (.int .i64 q) (.int .i64 q) = true ∧ (eqV (.int .i64 1) (.int .i64 1) = true ∧ (eqV (.int .i64 0) (.int .i64 0) = true ∧ (eqV (.agg (.ints .i64 6 [w, h, 2, q, 1, 0])) (.agg (.ints .i64 6 [w, h, 2, q, 1, 0])) = true ∧ True))))))) ∧
      AV.bool (decide (q ≥ 1)) = .bool true ∧
      AV.bool (decide (q ≤ 100)) = .bool false ∧
      ((eqV (.int .i64 w) (.int .i64 w) = true ∧ (eqV (.int .i64 h) (.int .i64 h) = true ∧ (eqV (.int .i64 1) (.int .i64 1) = true ∧ (eqV (.int .i64 0) (.int .i64 0) = true ∧ (eqV (.agg (.ints .i64 6 [w, h, 2, q, 1, 0])) (.agg (.ints .i64 6 [w, h, 2, q, 1, 0])) = true ∧ True)))))) ∧
      ((eqV (.int .i64 w) (.int .i64 w) = true ∧ (eqV (.int .i64 h) (.int .i64 h) = true ∧ (eqV (.int .i64 0) (.int .i64 0) = true ∧ (eqV (.agg (.ints .i64 6 [w, h, 2, q, 1, 0])) (.agg (.ints .i64 6 [w, h, 2, q, 1, 0])) = true ∧ True))))) ∧
      ((eqV (.int .i64 w) (.int .i64 w) = true ∧ (eqV (.int .i64 h) (.int .i64 h) = true ∧ (eqV (.agg (.ints .i64 6 [w, h, 2, q, 1, 0])) (.agg (.ints .i64 6 [w, h, 2, q, 1, 0])) = true ∧ True)))) ∧
      AV.bool (decide (w ≥ 1)) = .bool true ∧
      AV.bool (decide (w ≤ 65535)) = .bool true ∧
      AV.bool (decide (h ≥ 1)) = .bool true ∧
      AV.bool (decide (h ≤ 65535)) = .bool true ∧
      AV.bool (decide (w < 0)) = .bool false ∧
      AV.bool (decide (w > 1099511627776)) = .bool false ∧
      AV.int .i64 (IntKind.wrap .i64 ((w + 8))) = .int .i64 i2 ∧
      AV.int .i64 (IntKind.wrap .i64 ((i2 - 1))) = .int .i64 i3 ∧
      AV.int .i64 (IntKind.wrap .i64 ((i3).tdiv (8))) = .int .i64 i4 ∧
      ((eqV (.int .i64 h) (.int .i64 h) = true ∧ True)) ∧
      AV.bool (decide (h < 0)) = .bool false ∧
      AV.bool (decide (h > 1099511627776)) = .bool false ∧
      AV.int .i64 (IntKind.wrap .i64 ((h + 8))) = .int .i64 i5 ∧
      AV.int .i64 (IntKind.wrap .i64 ((i5 - 1))) = .int .i64 i6 ∧
      AV.int .i64 (IntKind.wrap .i64 ((i6).tdiv (8))) = .int .i64 i7 ∧
      AV.int .i64 (IntKind.wrap .i64 ((i4 * i7))) = .int .i64 i8 ∧
      AV.bool (decide (i8 < 0)) = .bool false ∧
      AV.bool (decide (i8 > 1099511627776)) = .bool false ∧
      AV.int .i64 (IntKind.wrap .i64 ((i8 + 1))) = .int .i64 i9 ∧
      AV.int .i64 (IntKind.wrap .i64 ((i9 - 1))) = .int .i64 i10 ∧
      AV.int .i64 (IntKind.wrap .i64 ((i10).tdiv (1))) = .int .i64 i11 ∧
      AV.bool ((i11 == 0)) = .bool false ∧
      AV.bool (decide (w ≥ 1)) = .bool true ∧
      AV.bool (decide (w ≤ 65535)) = .bool true ∧
      AV.bool (decide (h ≥ 1)) = .bool true ∧
      AV.bool (decide (h ≤ 65535)) = .bool true ∧
      AV.bool (decide (w < 0)) = .bool false ∧
      AV.bool (decide (w > 1099511627776)) = .bool false ∧
      AV.int .i64 (IntKind.wrap .i64 ((w + 8))) = .int .i64 i12 ∧
      AV.int .i64 (IntKind.wrap .i64 ((i12 - 1))) = .int .i64 i13 ∧
      AV.int .i64 (IntKind.wrap .i64 ((i13).tdiv (8))) = .int .i64 i14 ∧
      ((eqV (.int .i64 h) (.int .i64 h) = true ∧ True)) ∧
      AV.bool (decide (h < 0)) = .bool false ∧
      AV.bool (decide (h > 1099511627776)) = .bool false ∧
      AV.int .i64 (IntKind.wrap .i64 ((h + 8))) = .int .i64 i15 ∧
      AV.int .i64 (IntKind.wrap .i64 ((i15 - 1))) = .int .i64 i16 ∧
      AV.int .i64 (IntKind.wrap .i64 ((i16).tdiv (8))) = .int .i64 i17 ∧
      AV.int .i64 (IntKind.wrap .i64 ((i14 * i17))) = .int .i64 i18 ∧
      AV.int .i64 ((if i18 < 1 then i18 else 1)) = .int .i64 i19 ∧
      AV.int .i64 (IntKind.wrap .i64 ((i19 * 3))) = .int .i64 i20 ∧
      ((eqV (.int .i64 i20) (.int .i64 i20) = true ∧ True)) ∧
      AV.int .i64 (IntKind.wrap .i64 ((i20 * 24))) = .int .i64 i21 ∧
      AV.bool (decide (i21 < 0)) = .bool false ∧
      AV.bool (decide (i21 > 1099511627776)) = .bool false ∧
      AV.int .i64 (IntKind.wrap .i64 ((i21 + 8))) = .int .i64 i22 ∧
      AV.int .i64 (IntKind.wrap .i64 ((i22 - 1))) = .int .i64 i23 ∧
      AV.int .i64 (IntKind.wrap .i64 ((i23).tdiv (8))) = .int .i64 i24 ∧
      AV.int .i64 (IntKind.wrap .i64 ((2 * i24))) = .int .i64 i25 ∧
      ((eqV (.int .i64 i20) (.int .i64 i20) = true ∧ True)) ∧
      AV.int .i64 (IntKind.wrap .i64 ((i20 * 1662))) = .int .i64 i26 ∧
      AV.bool (decide (i26 < 0)) = .bool false ∧
      AV.bool (decide (i26 > 1099511627776)) = .bool false ∧
      AV.int .i64 (IntKind.wrap .i64 ((i26 + 8))) = .int .i64 i27 ∧
      AV.int .i64 (IntKind.wrap .i64 ((i27 - 1))) = .int .i64 i28 ∧
      AV.int .i64 (IntKind.wrap .i64 ((i28).tdiv (8))) = .int .i64 i29 ∧
      AV.int .i64 (IntKind.wrap .i64 ((2 * i29))) = .int .i64 i30 ∧
      AV.int .i64 (IntKind.wrap .i64 ((i30 - i25))) = .int .i64 i31 ∧
      AV.int .i64 (IntKind.wrap .i64 ((0 * i31))) = .int .i64 i32 ∧
      AV.int .i64 (IntKind.wrap .i64 ((i32).tdiv (3))) = .int .i64 i33 ∧
      AV.int .i64 (IntKind.wrap .i64 ((i25 + i33))) = .int .i64 i34 ∧
      AV.bool (decide (i34 > 0)) = .bool true ∧
      AV.int .i64 (IntKind.wrap .i64 ((i34 + 2))) = .int .i64 i35 ∧
      ((eqV (.int .i64 w) (.int .i64 w) = true ∧ (eqV (.int .i64 h) (.int .i64 h) = true ∧ True))) ∧ AV.int .u16 12 = .int .u16 12 ∧ ([] : Heap) = []) := by kernel_rfl
theorem check2' (w h q n a b c : Nat) (hw : 1 ≤ w) (hw2 : w ≤ 60) (hh : 1 ≤ h) (hh2 : h ≤ 60) (hq : 101 ≤ q) (hq2 : q ≤ 1000000) (hn : (w : Int) * (h : Int) = (n : Int)) (hn2 : n ≤ 3600) (ha : ((w + 7 : Nat) : Int).tdiv 8 = (a : Int)) (hb : ((h + 7 : Nat) : Int).tdiv 8 = (b : Int))
    (hc : (a : Int) * (b : Int) = (c : Int)) (hc1 : 1 ≤ c) (hc2 : c ≤ 100) (ha2 : a ≤ 100) (hb2 : b ≤ 100) : evalN E0 fuelF 100 (.fn 66) [.agg (.ints .i64 6 [(w : Int), (h : Int), 2, (q : Int), 1, 0])] [] = some (.int .u16 12, []) :=
  ev_of (chk2 w h q (n : Int) ((w + 8 : Nat) : Int) ((w + 7 : Nat) : Int) (a : Int) ((h + 8 : Nat) : Int) ((h + 7 : Nat) : Int) (b : Int) (c : Int) ((c + 1 : Nat) : Int) (c : Int) (c : Int) ((w + 8 : Nat) : Int) ((w + 7 : Nat) : Int) (a : Int) ((h + 8 : Nat) : Int) ((h + 7 : Nat) : Int) (b : Int) (c : Int) 1 3 72 80 79 9 18 4986 4994 4993 624 1248 1230 0 0 18 20)
    ⟨wv hn (by omega) (by omega),
      by rw [decide_eq_true (by omega)],
      by rw [decide_eq_true (by omega)],
      by rw [decide_eq_true (by omega)],
      ⟨eqI _ _, eqI _ _, eqI _ _, eqI _ _, eqI _ _, eqI _ _, eqA _ _, trivial⟩,
      by rw [decide_eq_true (by omega)],
      by rw [decide_eq_true (by omega)],
      ⟨eqI _ _, eqI _ _, eqI _ _, eqI _ _, eqI _ _, eqI _ _, eqA _ _, trivial⟩,
      ⟨eqI _ _, eqI _ _, eqI _ _, eqI _ _, eqI _ _, eqA _ _, trivial⟩,
      by rw [decide_eq_true (by omega)],
      by rw [decide_eq_false (by omega)],
      ⟨eqI _ _, eqI _ _, eqI _ _, eqI _ _, eqA _ _, trivial⟩,
      ⟨eqI _ _, eqI _ _, eqI _ _, eqA _ _, trivial⟩,
      ⟨eqI _ _, eqI _ _, eqA _ _, trivial⟩,
      by rw [decide_eq_true (by omega)],
      by rw [decide_eq_true (by omega)],
      by rw [decide_eq_true (by omega)],
      by rw [decide_eq_true (by omega)],
      by rw [decide_eq_false (by omega)],
      by rw [decide_eq_false (by omega)],
      wv (by omega) (by omega) (by omega),
      wv (by omega) (by omega) (by omega),
      wv ha (by omega) (by omega),
      ⟨eqI _ _, trivial⟩,
      by rw [decide_eq_false (by omega)],
      by rw [decide_eq_false (by omega)],
      wv (by omega) (by omega) (by omega),
      wv (by omega) (by omega) (by omega),
      wv hb (by omega) (by omega),
      wv hc (by omega) (by omega),
      by rw [decide_eq_false (by omega)],
      by rw [decide_eq_false (by omega)],
      wv (by omega) (by omega) (by omega),
      wv (by omega) (by omega) (by omega),
      wv (Int.tdiv_one _) (by omega) (by omega),
      by rw [beq0 hc1],
      by rw [decide_eq_true (by omega)],
      by rw [decide_eq_true (by omega)],
      by rw [decide_eq_true (by omega)],
      by rw [decide_eq_true (by omega)],
      by rw [decide_eq_false (by omega)],
      by rw [decide_eq_false (by omega)],
      wv (by omega) (by omega) (by omega),
      wv (by omega) (by omega) (by omega),
      wv ha (by omega) (by omega),
      ⟨eqI _ _, trivial⟩,
      by rw [decide_eq_false (by omega)],
      by rw [decide_eq_false (by omega)],
      wv (by omega) (by omega) (by omega),
      wv (by omega) (by omega) (by omega),
      wv hb (by omega) (by omega),
      wv hc (by omega) (by omega),
      by rw [if_neg (by omega)],
      rfl,
      ⟨eqI _ _, trivial⟩,
      rfl,
      by rw [decide_eq_false (by omega)],
      by rw [decide_eq_false (by omega)],
      rfl,
      rfl,
      rfl,
      rfl,
      ⟨eqI _ _, trivial⟩,
      rfl,
      by rw [decide_eq_false (by omega)],
      by rw [decide_eq_false (by omega)],
      rfl,
      rfl,
      rfl,
      rfl,
      rfl,
      rfl,
      rfl,
      rfl,
      by rw [decide_eq_true (by omega)],
      rfl,
      ⟨eqI _ _, eqI _ _, trivial⟩, rfl, rfl⟩
theorem chk3 (w h q i1 i2 i3 i4 i5 i6 i7 i8 i9 i10 i11 i12 i13 i14 i15 i16 i17 i18 i19 i20 i21 i22 i23 i24 i25 i26 i27 i28 i29 i30 i31 i32 i33 i34 i35 : Int) : evalNP E0 fuelF 100 (.fn 66) [.agg (.ints .i64 6 [w, h, 3, q, 1, 0])] [] [(8, .val (.int .i64 i1)), (0, .val (.bool true)), (14, .val (.bool true)), (3, .val (.bool true)), (2, .chk), (6, .val (.bool true)), (3, .val (.bool true)), (2, .chk), (12, .chk), (4, .val (.bool true)), (3, .val (.bool false)), (2, .chk), (11, .chk), (11, .chk), (79, .val (.bool true)), (2, .val (.bool true)), (9, .val (.bool true)), (2, .val (.bool true)), (12, .val (.bool false)), (2, .val (.bool false)), (11, .val (.int .i64 i2)), (0, .val (.int .i64 i3)), (1, .val (.int .i64 i4)), (1, .chk), (2, .val (.bool false)), (2, .val (.bool false)), (11, .val (.int .i64 i5)), (0, .val (.int .i64 i6)), (1, .val (.int .i64 i7)), (10, .val (.int .i64 i8)), (3, .val (.bool false)), (2, .val (.bool false)), (11, .val (.int .i64 i9)), (0, .val (.int .i64 i10)), (1, .val (.int .i64 i11)), (2, .val (.bool false)), (74, .val (.bool true)), (2, .val (.bool true)), (9, .val (.bool true)), (2, .val (.bool true)), (12, .val (.bool false)), (2, .val (.bool false)), (11, .val (.int .i64 i12)), (0, .val (.int .i64 i13)), (1, .val (.int .i64 i14)), (1, .chk), (2, .val (.bool false)), (2, .val (.bool false)), (11, .val (.int .i64 i15)), (0, .val (.int .i64 i16)), (1, .val (.int .i64 i17)), (10, .val (.int .i64 i18)), (1, .val (.int .i64 i19)), (105, .val (.int .i64 i20)), (9, .chk), (0, .val (.int .i64 i21)), (2, .val (.bool false)), (2, .val (.bool false)), (11, .val (.int .i64 i22)), (0, .val (.int .i64 i23)), (1, .val (.int .i64 i24)), (1, .val (.int .i64 i25)), (7, .chk), (0, .val (.int .i64 i26)), (2, .val (.bool false)), (2, .val (.bool false)), (11, .val (.int .i64 i27)), (0, .val (.int .i64 i28)), (1, .val (.int .i64 i29)), (1, .val (.int .i64 i30)), (8, .val (.int .i64 i31)), (0, .val (.int .i64 i32)), (0, .val (.int .i64 i33)), (0, .val (.int .i64 i34)), (3, .val (.bool true)), (1, .val (.int .i64 i35)), (1, .chk)] (fun _ y hp => y = .int .u16 12 ∧ hp = []) =
    (AV.int .i64 (IntKind.wrap .i64 ((w * h))) = .int .i64 i1 ∧
      AV.bool (decide (i1 ≤ 67108864)) = .bool true ∧
      AV.bool (decide (w ≥ 1)) = .bool true ∧
      AV.bool (decide (w ≤ 65535)) = .bool true ∧
      ((eqV (.int .i64 w) (.int .i64 w) = true ∧ (eqV (.int .i64 h) (.int .i64 h) = true ∧ (eqV (.int .i64 3) (.int .i64 3) = true ∧ (eqV (.int .i64 q) (.int .i64 q) = true ∧ (eqV (.int .i64 1) (.int .i64 1) = true ∧ (eqV (.int .i64 0) (.int .i64 0) = true ∧ (eqV (.agg (.ints .i64 6 [w, h, 3, q, 1, 0])) (.agg (.ints .i64 6 [w, h, 3, q, 1, 0])) = true ∧ True)))))))) ∧
      AV.bool (decide (h ≥ 1)) = .bool true ∧
      AV.bool (decide (h ≤ 65535)) = .bool true ∧
      ((eqV (.int .i64 w) (.int .i64 w) = true ∧ (eqV (.int .i64 h) (.int .i64 h) = true ∧ (eqV (.int .i64 3) (.int .i64 3) = true ∧ (eqV (.int .i64 q) (.int .i64 q) = true ∧ (eqV (.int .i64 1) (.int .i64 1) = true ∧ (eqV (.int .i64 0) (.int .i64 0) = true ∧ (eqV (.agg (.ints .i64 6 [w, h, 3, q, 1, 0])) (.agg (.ints .i64 6 [w, h, 3, q, 1, 0])) = true ∧ True)))))))) ∧
      ((eqV (.int .i64 w) (.int .i64 w) = true ∧ (eqV (.int .i64 h) (.int .i64 h) = true ∧ (eqV (.int .i64 q) (.int .i64 q) = true ∧ (eqV (.int .i64 1) (.int .i64 1) = true ∧ (eqV (.int .i64 0) (.int .i64 0) = true ∧ (eqV (.agg (.ints .i64 6 [w, h, 3, q, 1, 0])) (.agg (.ints .i64 6 [w, h, 3, q, 1, 0])) = true ∧ True))))))) ∧
      AV.bool (decide (q ≥ 1)) = .bool true ∧
      AV.bool (decide (q ≤ 100)) = .bool false ∧
      ((eqV (.int .i64 w) (.int .i64 w) = true ∧ (eqV (.int .i64 h) (.int .i64 h) = true ∧ (eqV (.int .i64 1) (.int .i64 1) = true ∧ (eqV (.int .i64 0) (.int .i64 0) = true ∧ (eqV (.agg (.ints .i64 6 [w, h, 3, q, 1, 0])) (.agg (.ints .i64 6 [w, h, 3, q, 1, 0])) = true ∧ True)))))) ∧
      ((eqV (.int .i64 w) (.int .i64 w) = true ∧ (eqV (.int .i64 h) (.int .i64 h) = true ∧ (eqV (.int .i64 0) (.int .i64 0) = true ∧ (eqV (.agg (.ints .i64 6 [w, h, 3, q, 1, 0])) (.agg (.ints .i64 6 [w, h, 3, q, 1, 0])) = true ∧ True))))) ∧
      ((eqV (.int .i64 w) (.int .i64 w) = true ∧ (eqV (.int .i64 h) (.int .i64 h) = true ∧ (eqV (.agg (.ints .i64 6 [w, h, 3, q, 1, 0])) (.agg (.ints .i64 6 [w, h, 3, q, 1, 0])) = true ∧ True)))) ∧
      AV.bool (decide (w ≥ 1)) = .bool true ∧
      AV.bool (decide (w ≤ 65535)) = .bool true ∧
      AV.bool (decide (h ≥ 1)) = .bool true ∧
      AV.bool (decide (h ≤ 65535)) = .bool true ∧
      AV.bool (decide (w < 0)) = .bool false ∧
      AV.bool (decide (w > 1099511627776)) = .bool false ∧
      AV.int .i64 (IntKind.wrap .i64 ((w + 16))) = .int .i64 i2 ∧
      AV.int .i64 (IntKind.wrap .i64 ((i2 - 1))) = .int .i64 i3 ∧
      AV.int .i64 (IntKind.wrap .i64 ((i3).tdiv (16))) = .int .i64 i4 ∧
      ((eqV (.int .i64 h) (.int .i64 h) = true ∧ True)) ∧
      AV.bool (decide (h < 0)) = .bool false ∧
      AV.bool (decide (h > 1099511627776)) = .bool false ∧
      AV.int .i64 (IntKind.wrap .i64 ((h + 8))) = .int .i64 i5 ∧
      AV.int .i64 (IntKind.wrap .i64 ((i5 - 1))) = .int .i64 i6 ∧
      AV.int .i64 (IntKind.wrap .i64 ((i6).tdiv (8))) = .int .i64 i7 ∧
      AV.int .i64 (IntKind.wrap .i64 ((i4 * i7))) = .int .i64 i8 ∧
      AV.bool (decide (i8 < 0)) = .bool false ∧
      AV.bool (decide (i8 > 1099511627776)) = .bool false ∧
      AV.int .i64 (IntKind.wrap .i64 ((i8 + 1))) = .int .i64 i9 ∧
      AV.int .i64 (IntKind.wrap .i64 ((i9 - 1))) = .int .i64 i10 ∧
      AV.int .i64 (IntKind.wrap .i64 ((i10).tdiv (1))) = .int .i64 i11 ∧
      AV.bool ((i11 == 0)) = .bool false ∧
      AV.bool (decide (w ≥ 1)) = .bool true ∧
      AV.bool (decide (w ≤ 65535)) = .bool true ∧
      AV.bool (decide (h ≥ 1)) = .bool true ∧
      AV.bool (decide (h ≤ 65535)) = .bool true ∧
      AV.bool (decide (w < 0)) = .bool false ∧
      AV.bool (decide (w > 1099511627776)) = .bool false ∧
      AV.int .i64 (IntKind.wrap .i64 ((w + 16))) = .int .i64 i12 ∧
      AV.int .i64 (IntKind.wrap .i64 ((i12 - 1))) = .int .i64 i13 ∧
      AV.int .i64 (IntKind.wrap .i64 ((i13).tdiv (16))) = .int .i64 i14 ∧
      ((eqV (.int .i64 h) (.int .i64 h) = true ∧ True)) ∧
      AV.bool (decide (h < 0)) = .bool false ∧
      AV.bool (decide (h > 1099511627776)) = .bool false ∧
      AV.int .i64 (IntKind.wrap .i64 ((h + 8))) = .int .i64 i15 ∧
      AV.int .i64 (IntKind.wrap .i64 ((i15 - 1))) = .int .i64 i16 ∧
      AV.int .i64 (IntKind.wrap .i64 ((i16).tdiv (8))) = .int .i64 i17 ∧
      AV.int .i64 (IntKind.wrap .i64 ((i14 * i17))) = .int .i64 i18 ∧
      AV.int .i64 ((if i18 < 1 then i18 else 1)) = .int .i64 i19 ∧
      AV.int .i64 (IntKind.wrap .i64 ((i19 * 4))) = .int .i64 i20 ∧
      ((eqV (.int .i64 i20) (.int .i64 i20) = true ∧ True)) ∧
      AV.int .i64 (IntKind.wrap .i64 ((i20 * 24))) = .int .i64 i21 ∧
      AV.bool (decide (i21 < 0)) = .bool false ∧
      AV.bool (decide (i21 > 1099511627776)) = .bool false ∧
      AV.int .i64 (IntKind.wrap .i64 ((i21 + 8))) = .int .i64 i22 ∧
      AV.int .i64 (IntKind.wrap .i64 ((i22 - 1))) = .int .i64 i23 ∧
      AV.int .i64 (IntKind.wrap .i64 ((i23).tdiv (8))) = .int .i64 i24 ∧
      AV.int .i64 (IntKind.wrap .i64 ((2 * i24))) = .int .i64 i25 ∧
      ((eqV (.int .i64 i20) (.int .i64 i20) = true ∧ True)) ∧
      AV.int .i64 (IntKind.wrap .i64 ((i20 * 1662))) = .int .i64 i26 ∧
      AV.bool (decide (i26 < 0)) = .bool false ∧
      AV.bool (decide (i26 > 1099511627776)) = .bool false ∧
      AV.int .i64 (IntKind.wrap .i64 ((i26 + 8))) = .int .i64 i27 ∧
      AV.int .i64 (IntKind.wrap .i64 ((i27 - 1))) = .int .i64 i28 ∧
      AV.int .i64 (IntKind.wrap .i64 ((i28).tdiv (8))) = .int .i64 i29 ∧
      AV.int .i64 (IntKind.wrap .i64 ((2 * i29))) = .int .i64 i30 ∧
      AV.int .i64 (IntKind.wrap .i64 ((i30 - i25))) = .int .i64 i31 ∧
      AV.int .i64 (IntKind.wrap .i64 ((0 * i31))) = .int .i64 i32 ∧
      AV.int .i64 (IntKind.wrap .i64 ((i32).tdiv (3))) = .int .i64 i33 ∧
      AV.int .i64 (IntKind.wrap .i64 ((i25 + i33))) = .int .i64 i34 ∧
      AV.bool (decide (i34 > 0)) = .bool true ∧
      AV.int .i64 (IntKind.wrap .i64 ((i34 + 2))) = .int .i64 i35 ∧
      ((eqV (.int .i64 w) (.int .i64 w) = true ∧ (eqV (.int .i64 h) (.int .i64 h) = true ∧ True))) ∧ AV.int .u16 12 = .int .u16 12 ∧ ([] : Heap) = []) := by kernel_rfl
theorem check3' (w h q n a b c : Nat) (hw : 1 ≤ w) (hw2 : w ≤ 60) (hh : 1 ≤ h) (hh2 : h ≤ 60) (hq : 101 ≤ q) (hq2 : q ≤ 1000000) (hn : (w : Int) * (h : Int) = (n : Int)) (hn2 : n ≤ 3600) (ha : ((w + 15 : Nat) : Int).tdiv 16 = (a : Int)) (hb : ((h + 7 : Nat) : Int).tdiv 8 = (b : Int))
    (hc : (a : Int) * (b : Int) = (c : Int)) (hc1 : 1 ≤ c) (hc2 : c ≤ 100) (ha2 : a ≤ 100) (hb2 : b ≤ 100) : evalN E0 fuelF 100 (.fn 66) [.agg (.ints .i64 6 [(w : Int), (h : Int), 3, (q : Int), 1, 0])] [] = some (.int .u16 12, []) :=
  ev_of (chk3 w h q (n : Int) ((w + 16 : Nat) : Int) ((w + 15 : Nat) : Int) (a : Int) ((h + 8 : Nat) : Int) ((h + 7 : Nat) : Int) (b : Int) (c : Int) ((c + 1 : Nat) : Int) (c : Int) (c : Int) ((w + 16 : Nat) : Int) ((w + 15 : Nat) : Int) (a : Int) ((h + 8 : Nat) : Int) ((h + 7 : Nat) : Int) (b : Int) (c : Int) 1 4 96 104 103 12 24 6648 6656 6655 831 1662 1638 0 0 24 26)
    ⟨wv hn (by omega) (by omega),
      by rw [decide_eq_true (by omega)],
      by rw [decide_eq_true (by omega)],
      by rw [decide_eq_true (by omega)],
      ⟨eqI _ _, eqI _ _, eqI _ _, eqI _ _, eqI _ _, eqI _ _, eqA _ _, trivial⟩,
      by rw [decide_eq_true (by omega)],
      by rw [decide_eq_true (by omega)],
      ⟨eqI _ _, eqI _ _, eqI _ _, eqI _ _, eqI _ _, eqI _ _, eqA _ _, trivial⟩,
      ⟨eqI _ _, eqI _ _, eqI _ _, eqI _ _, eqI _ _, eqA _ _, trivial⟩,
      by rw [decide_eq_true (by omega)],
      by rw [decide_eq_false (by omega)],
      ⟨eqI _ _, eqI _ _, eqI _ _, eqI _ _, eqA _ _, trivial⟩,
      ⟨eqI _ _, eqI _ _, eqI _ _, eqA _ _, trivial⟩,
      ⟨eqI _ _, eqI _ _, eqA _ _, trivial⟩,
      by rw [decide_eq_true (by omega)],
      by rw [decide_eq_true (by omega)],
      by rw [decide_eq_true (by omega)],
      by rw [decide_eq_true (by omega)],
      by rw [decide_eq_false (by omega)],
      by rw [decide_eq_false (by omega)],
      wv (by omega) (by omega) (by omega),
      wv (by omega) (by omega) (by omega),
      wv ha (by omega) (by omega),
      ⟨eqI _ _, trivial⟩,
      by rw [decide_eq_false (by omega)],
      by rw [decide_eq_false (by omega)],
      wv (by omega) (by omega) (by omega),
      wv (by omega) (by omega) (by omega),
      wv hb (by omega) (by omega),
      wv hc (by omega) (by omega),
      by rw [decide_eq_false (by omega)],
      by rw [decide_eq_false (by omega)],
      wv (by omega) (by omega) (by omega),
      wv (by omega) (by omega) (by omega),
      wv (Int.tdiv_one _) (by omega) (by omega),
      by rw [beq0 hc1],
      by rw [decide_eq_true (by omega)],
      by rw [decide_eq_true (by omega)],
      by rw [decide_eq_true (by omega)],
      by rw [decide_eq_true (by omega)],
      by rw [decide_eq_false (by omega)],
      by rw [decide_eq_false (by omega)],
      wv (by omega) (by omega) (by omega),
      wv (by omega) (by omega) (by omega),
      wv ha (by omega) (by omega),
      ⟨eqI _ _, trivial⟩,
      by rw [decide_eq_false (by omega)],
      by rw [decide_eq_false (by omega)],
      wv (by omega) (by omega) (by omega),
      wv (by omega) (by omega) (by omega),
      wv hb (by omega) (by omega),
      wv hc (by omega) (by omega),
      by rw [if_neg (by omega)],
      rfl,
      ⟨eqI _ _, trivial⟩,
      rfl,
      by rw [decide_eq_false (by omega)],
      by rw [decide_eq_false (by omega)],
      rfl,
      rfl,
      rfl,
      rfl,
      ⟨eqI _ _, trivial⟩,
      rfl,
      by rw [decide_eq_false (by omega)],
      by rw [decide_eq_false (by omega)],
      rfl,
      rfl,
      rfl,
      rfl,
      rfl,
      rfl,
      rfl,
      rfl,
      by rw [decide_eq_true (by omega)],
      rfl,
      ⟨eqI _ _, eqI _ _, trivial⟩, rfl, rfl⟩
theorem chk4 (w h q i1 i2 i3 i4 i5 i6 i7 i8 i9 i10 i11 i12 i13 i14 i15 i16 i17 i18 i19 i20 i21 i22 i23 i24 i25 i26 i27 i28 i29 i30 i31 i32 i33 i34 i35 : Int) : evalNP E0 fuelF 100 (.fn 66) [.agg (.ints .i64 6 [w, h, 4, q, 1, 0])] [] [(8, .val (.int .i64 i1)), (0, .val (.bool true)), (14, .val (.bool true)), (3, .val (.bool true)), (2, .chk), (6, .val (.bool true)), (3, .val (.bool true)), (2, .chk), (12, .chk), (4, .val (.bool true)), (3, .val (.bool false)), (2, .chk), (11, .chk), (11, .chk), (81, .val (.bool true)), (2, .val (.bool true)), (9, .val (.bool true)), (2, .val (.bool true)), (12, .val (.bool false)), (2, .val (.bool false)), (11, .val (.int .i64 i2)), (0, .val (.int .i64 i3)), (1, .val (.int .i64 i4)), (1, .chk), (2, .val (.bool false)), (2, .val (.bool false)), (11, .val (.int .i64 i5)), (0, .val (.int .i64 i6)), (1, .val (.int .i64 i7)), (10, .val (.int .i64 i8)), (3, .val (.bool false)), (2, .val (.bool false)), (11, .val (.int .i64 i9)), (0, .val (.int .i64 i10)), (1, .val (.int .i64 i11)), (2, .val (.bool false)), (76, .val (.bool true)), (2, .val (.bool true)), (9, .val (.bool true)), (2, .val (.bool true)), (12, .val (.bool false)), (2, .val (.bool false)), (11, .val (.int .i64 i12)), (0, .val (.int .i64 i13)), (1, .val (.int .i64 i14)), (1, .chk), (2, .val (.bool false)), (2, .val (.bool false)), (11, .val (.int .i64 i15)), (0, .val (.int .i64 i16)), (1, .val (.int .i64 i17)), (10, .val (.int .i64 i18)), (1, .val (.int .i64 i19)), (123, .val (.int .i64 i20)), (9, .chk), (0, .val (.int .i64 i21)), (2, .val (.bool false)), (2, .val (.bool false)), (11, .val (.int .i64 i22)), (0, .val (.int .i64 i23)), (1, .val (.int .i64 i24)), (1, .val (.int .i64 i25)), (7, .chk), (0, .val (.int .i64 i26)), (2, .val (.bool false)), (2, .val (.bool false)), (11, .val (.int .i64 i27)), (0, .val (.int .i64 i28)), (1, .val (.int .i64 i29)), (1, .val (.int .i64 i30)), (8, .val (.int .i64 i31)), (0, .val (.int .i64 i32)), (0, .val (.int .i64 i33)), (0, .val (.int .i64 i34)), (3, .val (.bool true)), (1, .val (.int .i64 i35)), (1, .chk)] (fun _ y hp => y = .int .u16 12 ∧ hp = []) =
    (AV.int .i64 (IntKind.wrap .i64 ((w * h))) = .int .i64 i1 ∧
      AV.bool (decide (i1 ≤ 67108864)) = .bool true ∧
      AV.bool (decide (w ≥ 1)) = .bool true ∧
      AV.bool (decide (w ≤ 65535)) = .bool true ∧
      ((eqV (.int .i64 w) (.int .i64 w) = true ∧ (eqV (.int .i64 h) (.int .i64 h) = true ∧ (eqV (.int .i64 4) (.int .i64 4) = true ∧ (eqV (.int .i64 q) (.int .i64 q) = true ∧ (eqV (.int .i64 1) (.int .i64 1) = true ∧ (eqV (.int .i64 0) (.int .i64 0) = true ∧ (eqV (.agg (.ints .i64 6 [w, h, 4, q, 1, 0])) (.agg (.ints .i64 6 [w, h, 4, q, 1, 0])) = true ∧ True)))))))) ∧
      AV.bool (decide (h ≥ 1)) = .bool true ∧
      AV.bool (decide (h ≤ 65535)) = .bool true ∧
      ((eqV (.int .i64 w) (.int .i64 w) = true ∧ (eqV (.int .i64 h) (.int .i64 h) = true ∧ (eqV (.int .i64 4) (.int .i64 4) = true ∧ (eqV (.int .i64 q) (.int .i64 q) = true ∧ (eqV (.int .i64 1) (.int .i64 1) = true ∧ (eqV (.int .i64 0) (.int .i64 0) = true ∧ (eqV (.agg (.ints .i64 6 [w, h, 4, q, 1, 0])) (.agg (.ints .i64 6 [w, h, 4, q, 1, 0])) = true ∧ True)))))))) ∧
      ((eqV (.int .i64 w) (.int .i64 w) = true ∧ (eqV (.int .i64 h) (.int .i64 h) = true ∧ (eqV (.int .i64 q) (.int .i64 q) = true ∧ (eqV (.int .i64 1) (.int .i64 1) = true ∧ (eqV (.int .i64 0) (.int .i64 0) = true ∧ (eqV (.agg (.ints .i64 6 [w, h, 4, q, 1, 0])) (.agg (.ints .i64 6 [w, h, 4, q, 1, 0])) = true ∧ True))))))) ∧
      AV.bool (decide (q ≥ 1)) = .bool true ∧
      AV.bool (decide (q ≤ 100)) = .bool false ∧
      ((eqV (.int .i64 w) (.int .i64 w) = true ∧ (eqV (.int .i64 h) (.int .i64 h) = true ∧ (eqV (.int .i64 1) (.int .i64 1) = true ∧ (eqV (.int .i64 0) (.int .i64 0) = true ∧ (eqV (.agg (.ints .i64 6 [w, h, 4, q, 1, 0])) (.agg (.ints .i64 6 [w, h, 4, q, 1, 0])) = true ∧ True)))))) ∧
      ((eqV (.int .i64 w) (.int .i64 w) = true ∧ (eqV (.int .i64 h) (.int .i64 h) = true ∧ (eqV (.int .i64 0) (.int .i64 0) = true ∧ (eqV (.agg (.ints .i64 6 [w, h, 4, q, 1, 0])) (.agg (.ints .i64 6 [w, h, 4, q, 1, 0])) = true ∧ True))))) ∧
      ((eqV (.int .i64 w) (.int .i64 w) = true ∧ (eqV (.int .i64 h) (.int .i64 h) = true ∧ (eqV (.agg (.ints .i64 6 [w, h, 4, q, 1, 0])) (.agg (.ints .i64 6 [w, h, 4, q, 1, 0])) = true ∧ True)))) ∧
      AV.bool (decide (w ≥ 1)) = .bool true ∧
      AV.bool (decide (w ≤ 65535)) = .bool true ∧
      AV.bool (decide (h ≥ 1)) = .bool true ∧
      AV.bool (decide (h ≤ 65535)) = .bool true ∧
      AV.bool (decide (w < 0)) = .bool false ∧
      AV.bool (decide (w > 1099511627776)) = .bool false ∧
      AV.int .i64 (IntKind.wrap .i64 ((w + 16))) = .int .i64 i2 ∧
      AV.int .i64 (IntKind.wrap .i64 ((i2 - 1))) = .int .i64 i3 ∧
      AV.int .i64 (IntKind.wrap .i64 ((i3).tdiv (16))) = .int .i64 i4 ∧
      ((eqV (.int .i64 h) (.int .i64 h) = true ∧ True)) ∧
      AV.bool (decide (h < 0)) = .bool false ∧
      AV.bool (decide (h > 1099511627776)) = .bool false ∧
      AV.int .i64 (IntKind.wrap .i64 ((h + 16))) = .int .i64 i5 ∧
      AV.int .i64 (IntKind.wrap .i64 ((i5 - 1))) = .int .i64 i6 ∧
      AV.int .i64 (IntKind.wrap .i64 ((i6).tdiv (16))) = .int .i64 i7 ∧
      AV.int .i64 (IntKind.wrap .i64 ((i4 * i7))) = .int .i64 i8 ∧
      AV.bool (decide (i8 < 0)) = .bool false ∧
      AV.bool (decide (i8 > 1099511627776)) = .bool false ∧
      AV.int .i64 (IntKind.wrap .i64 ((i8 + 1))) = .int .i64 i9 ∧
      AV.int .i64 (IntKind.wrap .i64 ((i9 - 1))) = .int .i64 i10 ∧
      AV.int .i64 (IntKind.wrap .i64 ((i10).tdiv (1))) = .int .i64 i11 ∧
      AV.bool ((i11 == 0)) = .bool false ∧
      AV.bool (decide (w ≥ 1)) = .bool true ∧
      AV.bool (decide (w ≤ 65535)) = .bool true ∧
      AV.bool (decide (h ≥ 1)) = .bool true ∧
      AV.bool (decide (h ≤ 65535)) = .bool true ∧
      AV.bool (decide (w < 0)) = .bool false ∧
      AV.bool (decide (w > 1099511627776)) = .bool false ∧
      AV.int .i64 (IntKind.wrap .i64 ((w + 16))) = .int .i64 i12 ∧
      AV.int .i64 (IntKind.wrap .i64 ((i12 - 1))) = .int .i64 i13 ∧
      AV.int .i64 (IntKind.wrap .i64 ((i13).tdiv (16))) = .int .i64 i14 ∧
      ((eqV (.int .i64 h) (.int .i64 h) = true ∧ True)) ∧
      AV.bool (decide (h < 0)) = .bool false ∧
      AV.bool (decide (h > 1099511627776)) = .bool false ∧
      AV.int .i64 (IntKind.wrap .i64 ((h + 16))) = .int .i64 i15 ∧
      AV.int .i64 (IntKind.wrap .i64 ((i15 - 1))) = .int .i64 i16 ∧
      AV.int .i64 (IntKind.wrap .i64 ((i16).tdiv (16))) = .int .i64 i17 ∧
      AV.int .i64 (IntKind.wrap .i64 ((i14 * i17))) = .int .i64 i18 ∧
      AV.int .i64 ((if i18 < 1 then i18 else 1)) = .int .i64 i19 ∧
      AV.int .i64 (IntKind.wrap .i64 ((i19 * 6))) = .int .i64 i20 ∧
      ((eqV (.int .i64 i20) (.int .i64 i20) = true ∧ True)) ∧
      AV.int .i64 (IntKind.wrap .i64 ((i20 * 24))) = .int .i64 i21 ∧
      AV.bool (decide (i21 < 0)) = .bool false ∧
      AV.bool (decide (i21 > 1099511627776)) = .bool false ∧
      AV.int .i64 (IntKind.wrap .i64 ((i21 + 8))) = .int .i64 i22 ∧
      AV.int .i64 (IntKind.wrap .i64 ((i22 - 1))) = .int .i64 i23 ∧
      AV.int .i64 (IntKind.wrap .i64 ((i23).tdiv (8))) = .int .i64 i24 ∧
      AV.int .i64 (IntKind.wrap .i64 ((2 * i24))) = .int .i64 i25 ∧
      ((eqV (.int .i64 i20) (.int .i64 i20) = true ∧ True)) ∧
      AV.int .i64 (IntKind.wrap .i64 ((i20 * 1662))) = .int .i64 i26 ∧
      AV.bool (decide (i26 < 0)) = .bool false ∧
      AV.bool (decide (i26 > 1099511627776)) = .bool false ∧
      AV.int .i64 (IntKind.wrap .i64 ((i26 + 8))) = .int .i64 i27 ∧
      AV.int .i64 (IntKind.wrap .i64 ((i27 - 1))) = .int .i64 i28 ∧
      AV.int .i64 (IntKind.wrap .i64 ((i28).tdiv (8))) = .int .i64 i29 ∧
      AV.int .i64 (IntKind.wrap .i64 ((2 * i29))) = .int .i64 i30 ∧
      AV.int .i64 (IntKind.wrap .i64 ((i30 - i25))) = .int .i64 i31 ∧
      AV.int .i64 (IntKind.wrap .i64 ((0 * i31))) = .int .i64 i32 ∧
      AV.int .i64 (IntKind.wrap .i64 ((i32).tdiv (3))) = .int .i64 i33 ∧
      AV.int .i64 (IntKind.wrap .i64 ((i25 + i33))) = .int .i64 i34 ∧
      AV.bool (decide (i34 > 0)) = .bool true ∧
      AV.int .i64 (IntKind.wrap .i64 ((i34 + 2))) = .int .i64 i35 ∧
      ((eqV (.int .i64 w) (.int .i64 w) = true ∧ (eqV (.int .i64 h) (.int .i64 h) = true ∧ True))) ∧ AV.int .u16 12 = .int .u16 12 ∧ ([] : Heap) = []) := by kernel_rfl
theorem check4' (w h q n a b c : Nat) (hw : 1 ≤ w) (hw2 : w ≤ 60) (hh : 1 ≤ h) (hh2 : h ≤ 60) (hq : 101 ≤ q) (hq2 : q ≤ 1000000) (hn : (w : Int) * (h : Int) = (n : Int)) (hn2 : n ≤ 3600) (ha : ((w + 15 : Nat) : Int).tdiv 16 = (a : Int)) (hb : ((h + 15 : Nat) : Int).tdiv 16 = (b : Int))
    (hc : (a : Int) * (b : Int) = (c : Int)) (hc1 : 1 ≤ c) (hc2 : c ≤ 100) (ha2 : a ≤ 100) (hb2 : b ≤ 100) : evalN E0 fuelF 100 (.fn 66) [.agg (.ints .i64 6 [(w : Int), (h : Int), 4, (q : Int), 1, 0])] [] = some (.int .u16 12, []) :=
  ev_of (chk4 w h q (n : Int) ((w + 16 : Nat) : Int) ((w + 15 : Nat) : Int) (a : Int) ((h + 16 : Nat) : Int) ((h + 15 : Nat) : Int) (b : Int) (c : Int) ((c + 1 : Nat) : Int) (c : Int) (c : Int) ((w + 16 : Nat) : Int) ((w + 15 : Nat) : Int) (a : Int) ((h + 16 : Nat) : Int) ((h + 15 : Nat) : Int) (b : Int) (c : Int) 1 6 144 152 151 18 36 9972 9980 9979 1247 2494 2458 0 0 36 38)
    ⟨wv hn (by omega) (by omega),
      by rw [decide_eq_true (by omega)],
      by rw [decide_eq_true (by omega)],
      by rw [decide_eq_true (by omega)],
      ⟨eqI _ _, eqI _ _, eqI _ _, eqI _ _, eqI _ _, eqI _ _, eqA _ _, trivial⟩,
      by rw [decide_eq_true (by omega)],
      by rw [decide_eq_true (by omega)],
      ⟨eqI _ _, eqI _ _, eqI _ _, eqI _ _, eqI _ _, eqI _ _, eqA _ _, trivial⟩,
      ⟨eqI _ _, eqI _ _, eqI _ _, eqI _ _, eqI _ _, eqA _ _, trivial⟩,
      by rw [decide_eq_true (by omega)],
      by rw [decide_eq_false (by omega)],
      ⟨eqI _ _, eqI _ _, eqI _ _, eqI _ _, eqA _ _, trivial⟩,
      ⟨eqI _ _, eqI _ _, eqI _ _, eqA _ _, trivial⟩,
      ⟨eqI _ _, eqI _ _, eqA _ _, trivial⟩,
      by rw [decide_eq_true (by omega)],
      by rw [decide_eq_true (by omega)],
      by rw [decide_eq_true (by omega)],
      by rw [decide_eq_true (by omega)],
      by rw [decide_eq_false (by omega)],
      by rw [decide_eq_false (by omega)],
      wv (by omega) (by omega) (by omega),
      wv (by omega) (by omega) (by omega),
      wv ha (by omega) (by omega),
      ⟨eqI _ _, trivial⟩,
      by rw [decide_eq_false (by omega)],
      by rw [decide_eq_false (by omega)],
      wv (by omega) (by omega) (by omega),
      wv (by omega) (by omega) (by omega),
      wv hb (by omega) (by omega),
      wv hc (by omega) (by omega),
      by rw [decide_eq_false (by omega)],
      by rw [decide_eq_false (by omega)],
      wv (by omega) (by omega) (by omega),
      wv (by omega) (by omega) (by omega),
      wv (Int.tdiv_one _) (by omega) (by omega),
      by rw [beq0 hc1],
      by rw [decide_eq_true (by omega)],
      by rw [decide_eq_true (by omega)],
      by rw [decide_eq_true (by omega)],
      by rw [decide_eq_true (by omega)],
      by rw [decide_eq_false (by omega)],
      by rw [decide_eq_false (by omega)],
      wv (by omega) (by omega) (by omega),
      wv (by omega) (by omega) (by omega),
      wv ha (by omega) (by omega),
      ⟨eqI _ _, trivial⟩,
      by rw [decide_eq_false (by omega)],
      by rw [decide_eq_false (by omega)],
      wv (by omega) (by omega) (by omega),
      wv (by omega) (by omega) (by omega),
      wv hb (by omega) (by omega),
      wv hc (by omega) (by omega),
      by rw [if_neg (by omega)],
      rfl,
      ⟨eqI _ _, trivial⟩,
      rfl,
      by rw [decide_eq_false (by omega)],
      by rw [decide_eq_false (by omega)],
      rfl,
      rfl,
      rfl,
      rfl,
      ⟨eqI _ _, trivial⟩,
      rfl,
      by rw [decide_eq_false (by omega)],
      by rw [decide_eq_false (by omega)],
      rfl,
      rfl,
      rfl,
      rfl,
      rfl,
      rfl,
      rfl,
      rfl,
      by rw [decide_eq_true (by omega)],
      rfl,
      ⟨eqI _ _, eqI _ _, trivial⟩, rfl, rfl⟩
theorem check1 (w h q : Nat) (hw : 1 ≤ w) (hw2 : w ≤ 60) (hh : 1 ≤ h) (hh2 : h ≤ 60) (hq : 101 ≤ q) (hq2 : q ≤ 1000000) : evalN E0 fuelF 100 (.fn 66) [.agg (.ints .i64 6 [(w : Int), (h : Int), 1, (q : Int), 1, 0])] [] = some (.int .u16 12, []) := by
  obtain ⟨ha1, ha2, ha⟩ := ceilN w 7 hw hw2 (by omega) (by omega)
  obtain ⟨hb1, hb2, hb⟩ := ceilN h 7 hh hh2 (by omega) (by omega)
  exact check1' w h q (w * h) ((w + 7) / 8) ((h + 7) / 8) ((w + 7) / 8 * ((h + 7) / 8)) hw hw2 hh hh2 hq hq2 rfl (Nat.mul_le_mul hw2 hh2) ha hb rfl (Nat.mul_le_mul ha1 hb1) (Nat.le_trans (Nat.mul_le_mul ha2 hb2) (by decide)) (by omega) (by omega)
theorem check2 (w h q : Nat) (hw : 1 ≤ w) (hw2 : w ≤ 60) (hh : 1 ≤ h) (hh2 : h ≤ 60) (hq : 101 ≤ q) (hq2 : q ≤ 1000000) : evalN E0 fuelF 100 (.fn 66) [.agg (.ints .i64 6 [(w : Int), (h : Int), 2, (q : Int), 1, 0])] [] = some (.int .u16 12, []) := by
  obtain ⟨ha1, ha2, ha⟩ := ceilN w 7 hw hw2 (by omega) (by omega)
  obtain ⟨hb1, hb2, hb⟩ := ceilN h 7 hh hh2 (by omega) (by omega)
  exact check2' w h q (w * h) ((w + 7) / 8) ((h + 7) / 8) ((w + 7) / 8 * ((h + 7) / 8)) hw hw2 hh hh2 hq hq2 rfl (Nat.mul_le_mul hw2 hh2) ha hb rfl (Nat.mul_le_mul ha1 hb1) (Nat.le_trans (Nat.mul_le_mul ha2 hb2) (by decide)) (by omega) (by omega)
theorem check3 (w h q : Nat) (hw : 1 ≤ w) (hw2 : w ≤ 60) (hh : 1 ≤ h) (hh2 : h ≤ 60) (hq : 101 ≤ q) (hq2 : q ≤ 1000000) : evalN E0 fuelF 100 (.fn 66) [.agg (.ints .i64 6 [(w : Int), (h : Int), 3, (q : Int), 1, 0])] [] = some (.int .u16 12, []) := by
  obtain ⟨ha1, ha2, ha⟩ := ceilN w 15 hw hw2 (by omega) (by omega)
  obtain ⟨hb1, hb2, hb⟩ := ceilN h 7 hh hh2 (by omega) (by omega)
  exact check3' w h q (w * h) ((w + 15) / 16) ((h + 7) / 8) ((w + 15) / 16 * ((h + 7) / 8)) hw hw2 hh hh2 hq hq2 rfl (Nat.mul_le_mul hw2 hh2) ha hb rfl (Nat.mul_le_mul ha1 hb1) (Nat.le_trans (Nat.mul_le_mul ha2 hb2) (by decide)) (by omega) (by omega)
theorem check4 (w h q : Nat) (hw : 1 ≤ w) (hw2 : w ≤ 60) (hh : 1 ≤ h) (hh2 : h ≤ 60) (hq : 101 ≤ q) (hq2 : q ≤ 1000000) : evalN E0 fuelF 100 (.fn 66) [.agg (.ints .i64 6 [(w : Int), (h : Int), 4, (q : Int), 1, 0])] [] = some (.int .u16 12, []) := by
  obtain ⟨ha1, ha2, ha⟩ := ceilN w 15 hw hw2 (by omega) (by omega)
  obtain ⟨hb1, hb2, hb⟩ := ceilN h 15 hh hh2 (by omega) (by omega)
  exact check4' w h q (w * h) ((w + 15) / 16) ((h + 15) / 16) ((w + 15) / 16 * ((h + 15) / 16)) hw hw2 hh hh2 hq hq2 rfl (Nat.mul_le_mul hw2 hh2) ha hb rfl (Nat.mul_le_mul ha1 hb1) (Nat.le_trans (Nat.mul_le_mul ha2 hb2) (by decide)) (by omega) (by omega)
end Go.Proofs.YtfbamgphngmglaaGreatDoor
