/- A part of a proof about a statement of cyanotypelaw22: a step that the closing text imports. Each theorem states its own conditions. -/
import Derived.Test.YtfbamgphngmglaaGreatDoorKnownC
import Derived.Test.YtfbamgphngmglaaGreatDoorShelfP
set_option linter.unusedSimpArgs false
set_option linter.unusedVariables false
namespace Go.Proofs.YtfbamgphngmglaaGreatDoor
open Go Go.Abs Go.RowKit
set_option maxRecDepth 100000
/-! ### what the library's functions tell, as contracts -/
theorem below_grow (w : World) (k : Nat) (os : Array Obj) : Below w.heap.size w (Go.Sort.grow (w.drewN k) os) where
  os := rfl
  tape := rfl
  output := rfl
  size := by simp [Go.Sort.grow, World.drewN]
  block := fun b hb => by simp only [Go.Sort.grow, World.drewN]; rw [Array.getElem?_append_left hb]
abbrev Stab (S : SS) (w : World) : Prop := ∀ b c, S b = some c → ∃ e fr, w.heap[b]? = some (.cells c e fr)
theorem heap_lt {w : World} {b : Nat} {x : Obj} (hb : w.heap[b]? = some x) : b < w.heap.size := by
  rcases Nat.lt_or_ge b w.heap.size with h' | h'
  · exact h'
  · rw [Array.getElem?_eq_none h'] at hb; cases hb
theorem glob0 : GTr.get 0 = some (.ints .u64 20 Lib.pow10Tab, 20) := by kernel_rfl
theorem named0 : Tryz.prog.globalNamed "internal/strconv.uint64pow10" = some 0 := by kernel_rfl
theorem tab_of {S : SS} {w : World} (hG : GlobOK GTr.get S) (hst : Stab S w) : Lib.TabIs Tryz.prog w "internal/strconv.uint64pow10" .u64 Lib.pow10Tab := by
  obtain ⟨c, h1, _, h3, h4⟩ := hG 0 _ _ glob0
  obtain ⟨e, fr, h5⟩ := hst 0 c h1
  simp only [RR] at h4
  unfold Lib.TabIs World.var?
  rw [named0]
  simp only [Option.bind_some, h5, Option.some.injEq]
  rw [← h4.2, List.take_of_length_le (by rw [Array.length_toList]; omega), Array.toArray_toList]
def isIf : AV → Bool | .iface _ _ => true | _ => false
def cellIf (r : Option (Row × Nat)) : Bool := match r with | some (.vals [v], 1) => isIf v | _ => false
theorem var_of {S : SS} {w : World} (hG : GlobOK GTr.get S) (hst : Stab S w) {g : Nat} {name : String} (hn : Tryz.prog.globalNamed name = some g) (hc : cellIf (GTr.get g) = true) : ∃ tp p, w.var? Tryz.prog name = some #[.iface tp p] := by
  cases hr : GTr.get g with
  | none => rw [hr] at hc; cases hc
  | some q =>
    obtain ⟨r, n⟩ := q
    rw [hr] at hc
    obtain ⟨c, h1, h2, h3, h4⟩ := hG g r n hr
    obtain ⟨e, fr, h5⟩ := hst g c h1
    cases r with
    | vals l =>
      match l, n, hc with
      | [v], 1, hv =>
        have hv : isIf v = true := hv
        cases v with
        | iface t x =>
          simp only [RR, LR, VR] at h4
          obtain ⟨⟨v, vs', he, ⟨u, rfl, _⟩, rfl⟩, _⟩ := h4
          refine ⟨t, u, ?_⟩
          unfold World.var?
          rw [hn]
          simp only [Option.bind_some, h5, Option.some.injEq]
          rw [List.take_of_length_le (by rw [Array.length_toList]; omega)] at he
          rw [← Array.toArray_toList (xs := c), he]
        | _ => cases hv
    | _ => cases hc
theorem wr_dead {S : SS} {w w' : World} (hst : Stab S w) (h : Below w.heap.size w w') {H : Heap} (hH : ∀ i, hget H i = .dead) : WR (Go.Abs.rebase noM S [] w) noM S noF H w' where
  obj := fun id => by rw [hH]; trivial
  inj := fun i j l l' _ _ hl => by cases hl
  stab := fun b c hb => by obtain ⟨e, fr, h7⟩ := hst b c hb; exact ⟨e, fr, by rw [h.block b (heap_lt h7)]; exact h7⟩
  apart := fun i l _ hl => by cases hl
  size := h.size
  keep := fun b hb _ => h.block b hb
  own := fun i l _ hl => by cases hl
  fresh := fun b c hb => .inl hb
  os := h.os
  output := h.output
  tape := h.tape
/-! strconv.Itoa -/
def runItoa (args : List AV) : Option (AV × Heap) :=
  match args with
  | [.int .i64 n] => if -9223372036854775808 ≤ n ∧ n ≤ 9223372036854775807 then some (.str (ofL (Lib.itoa n)), []) else none
  | _ => none
def conItoa : Con := { run := runItoa, fresh := 0 }
theorem has15 : Has Tryz.prog 15 := ⟨Tryz.f15, by kernel_rfl, by kernel_rfl, by kernel_rfl⟩
theorem itoa_spec : ConSpec Tryz.prog GTr.get conItoa 15 := by
  intro args v h2 hr S w vs hG hst ha
  replace hr : runItoa args = some (v, h2) := hr
  unfold runItoa at hr
  split at hr
  · rename_i n
    split at hr
    · rename_i hn
      cases hr
      simp only [LR, VR] at ha
      obtain ⟨u, us, hvs, rfl, rfl⟩ := ha
      have hvs : vs = #[.int .i64 n] := by rw [← Array.toArray_toList (xs := vs), hvs]
      subst hvs
      refine ⟨has15, callsIn_wide.mpr ((Tryz.strconv_Itoa n hn.1 hn.2 w (tab_of hG hst)).mono fun e w' ⟨he, k, os, hw⟩ => ?_)⟩
      subst hw
      exact ⟨_, noM, S, he, by simp only [VR]; rfl, wr_dead hst (below_grow w k os) (fun i => hget_nil i), SS.le_refl _, fun _ _ => rfl⟩
    · cases hr
  · cases hr
/-! strconv.Atoi -/
def runAtoi (args : List AV) : Option (AV × Heap) :=
  match args with
  | [.str s] => if s.size ≤ 281474976710656 then (match Lib.atoiAll s.data.toList with
    | .ok v => some (.tup [.int .i64 v, .nilif], [.dead])
    | .range => some (.tup [.int .i64 (Lib.atoiSat s.data.toList), .iface 152 (.ptr 0 none [] 3)], [.cells (.vals [.top, .top, .top]) 191])
    | _ => some (.tup [.int .i64 0, .iface 152 (.ptr 0 none [] 3)], [.cells (.vals [.top, .top, .top]) 191])) else none
  | _ => none
def conAtoi : Con := { run := runAtoi, fresh := 1 }
theorem has55 : Has Tryz.prog 55 := ⟨Tryz.f55, by kernel_rfl, by kernel_rfl, by kernel_rfl⟩
def oneM (N : Nat) : MM := fun i => if i = 0 then some ⟨N, 3, 3⟩ else none
theorem wr_one {S : SS} {w w' : World} (hst : Stab S w) (h : Below w.heap.size w w') {N : Nat} (hN : w.heap.size ≤ N) {a b c : Value} (ha : a.oneCell' = true) (hb : b.oneCell' = true) (hc : c.oneCell' = true) {e : TypeId} (hh : w'.heap[N]? = some (.cells #[a, b, c] e (0, 0))) :
    WR (Go.Abs.rebase noM S [] w) (oneM N) S noF [.cells (.vals [.top, .top, .top]) e] w' where
  obj := fun id => by
    cases id with
    | zero =>
      refine ⟨⟨N, 3, 3⟩, #[a, b, c], (0, 0), rfl, hh, .inl rfl, rfl, rfl, Nat.le_refl _, ?_⟩
      simp only [RR, LR, VR]
      refine ⟨⟨a, [b, c], rfl, trivial, b, [c], rfl, trivial, c, [], rfl, trivial, rfl⟩, fun v hv => ?_⟩
      have hv : v ∈ [a, b, c] := hv
      simp only [List.mem_cons, List.not_mem_nil, or_false] at hv
      rcases hv with rfl | rfl | rfl <;> assumption
    | succ id => rw [hget_succ, hget_nil]; trivial
  inj := fun i j l l' hi hj hl hl' _ => by
    have h1 : i = 0 := by
      unfold oneM at hl
      split at hl
      · assumption
      · cases hl
    have h2 : j = 0 := by
      unfold oneM at hl'
      split at hl'
      · assumption
      · cases hl'
    omega
  stab := fun b c hb => by obtain ⟨e, fr, h7⟩ := hst b c hb; exact ⟨e, fr, by rw [h.block b (heap_lt h7)]; exact h7⟩
  apart := fun i l _ hl => by
    unfold oneM at hl
    split at hl
    · cases hl
      cases hq : S N with
      | none => rfl
      | some c => obtain ⟨e, fr, h7⟩ := hst N c hq; have := heap_lt h7; omega
    · cases hl
  size := h.size
  keep := fun b hb _ => h.block b hb
  own := fun i l _ hl => by
    unfold oneM at hl
    split at hl
    · cases hl; exact .inr hN
    · cases hl
  fresh := fun b c hb => .inl hb
  os := h.os
  output := h.output
  tape := h.tape
theorem named2 : Tryz.prog.globalNamed "strconv.ErrSyntax" = some 2 := by kernel_rfl
theorem named3 : Tryz.prog.globalNamed "strconv.ErrRange" = some 3 := by kernel_rfl
theorem atoi_spec : ConSpec Tryz.prog GTr.get conAtoi 55 := by
  intro args v h2 hr S w vs hG hst ha
  replace hr : runAtoi args = some (v, h2) := hr
  unfold runAtoi at hr
  split at hr
  · rename_i s
    split at hr
    · rename_i hs
      simp only [LR, VR] at ha
      obtain ⟨u, us, hvs, rfl, rfl⟩ := ha
      have hvs : vs = #[.string s] := by rw [← Array.toArray_toList (xs := vs), hvs]
      subst hvs
      have err : ∀ (n : Int) (e : Ending) (w' : World) (tp : TypeId) (p : Value), (∃ N, e = .returned (.tuple #[.int .i64 n, .iface 152 (.pointer (some ⟨N, 0, none⟩))]) ∧ w.heap.size ≤ N ∧ w'.heap[N]? = some (.cells #[.string ⟨#[65, 116, 111, 105]⟩, .string s, .iface tp p] 191 (0, 0)) ∧ Below w.heap.size w w') →
          ∃ u m' S', e = .returned u ∧ VR S' (.tup [.int .i64 n, .iface 152 (.ptr 0 none [] 3)]) m' noF u ∧ WR (Go.Abs.rebase noM S [] w) m' S' noF [.cells (.vals [.top, .top, .top]) 191] w' ∧ S.le S' ∧ Cap m' [.cells (.vals [.top, .top, .top]) 191] := by
        rintro n e w' tp p ⟨N, he, hN, hh, hb⟩
        refine ⟨_, oneM N, S, he, ?_, wr_one hst hb hN rfl rfl rfl hh, SS.le_refl _, fun i hi => ?_⟩
        · simp only [VR, LR]
          refine ⟨_, rfl, _, _, rfl, rfl, _, _, rfl, ⟨_, rfl, ⟨N, 3, 3⟩, rfl, ?_, rfl⟩, rfl⟩
          show 0 + 3 ≤ 3
          omega
        · have hi : 1 ≤ i := hi
          unfold oneM
          rw [if_neg (by omega)]
      refine ⟨has55, callsIn_wide.mpr ?_⟩
      cases hk : Lib.atoiAll s.data.toList with
      | ok n =>
        rw [hk] at hr
        cases hr
        refine (Tryz.strconv_Atoi_ok s (by omega) n hk w).mono fun e w' ⟨he, hw⟩ => ?_
        have hb : Below w.heap.size w w' := by
          rcases hw with rfl | ⟨t, rfl⟩
          · exact Below.refl _ _
          · exact Lib.bytesWorld_below w 5 t
        refine ⟨_, noM, S, he, ?_, wr_dead hst hb (fun i => by cases i <;> rfl), SS.le_refl _, fun _ _ => rfl⟩
        simp only [VR, LR]
        exact ⟨_, rfl, _, _, rfl, rfl, _, _, rfl, rfl, rfl⟩
      | range =>
        rw [hk] at hr
        cases hr
        obtain ⟨tp, p, hv⟩ := var_of hG hst named3 (by kernel_rfl)
        exact (Tryz.strconv_Atoi_range_var s hs hk tp p w hv).mono fun e w' h => err _ e w' tp p h
      | _ =>
        rw [hk] at hr
        cases hr
        obtain ⟨tp, p, hv⟩ := var_of hG hst named2 (by kernel_rfl)
        exact (Tryz.strconv_Atoi_syntax_var s hs hk tp p w hv).mono fun e w' h => err 0 e w' tp p h
    · cases hr
  · cases hr
/-! strings.Join -/
def strsOf : List AV → Option (List ByteArray)
  | [] => some []
  | .str s :: l => (strsOf l).map (s :: ·)
  | _ :: _ => none
def joinB (xs : List ByteArray) (sep : ByteArray) : List UInt8 := Lib.join (xs.map (·.data.toList)) sep.data.toList
def runJoin (args : List AV) : Option (AV × Heap) :=
  match args with
  | [.vs (.pure n l) none 1 _, .str sep] => (match strsOf l with
    | some xs => if xs.length ≤ 140737488355328 ∧ (joinB xs sep).length ≤ 140737488355328 then some (.str (ofL (joinB xs sep)), []) else none
    | none => none)
  | _ => none
def conJoin : Con := { run := runJoin, fresh := 0 }
theorem has36 : Has Tryz.prog 36 := ⟨Tryz.f36, by kernel_rfl, by kernel_rfl, by kernel_rfl⟩
theorem strsOf_sound {S : SS} {m : MM} {F : FF} : ∀ {l : List AV} {xs : List ByteArray} {vs : List Value}, strsOf l = some xs → LR S l m F vs → vs = xs.map Value.string
  | [], xs, vs, h, hl => by
    cases h
    simp only [LR] at hl
    rw [hl]; rfl
  | a :: l, xs, vs, h, hl => by
    simp only [LR] at hl
    obtain ⟨v, vs', rfl, h1, h2⟩ := hl
    cases a with
    | str s =>
      unfold strsOf at h
      cases hq : strsOf l with
      | none => rw [hq] at h; cases h
      | some ys =>
        rw [hq] at h
        have h : s :: ys = xs := Option.some.inj h
        subst h
        simp only [VR] at h1
        rw [strsOf_sound hq h2, h1]; rfl
    | _ => cases h
theorem join_spec : ConSpec Tryz.prog GTr.get conJoin 36 := by
  intro args v h2 hr S w vs hG hst ha
  replace hr : runJoin args = some (v, h2) := hr
  unfold runJoin at hr
  split at hr
  · rename_i n l t sep
    cases hs : strsOf l with
    | none => rw [hs] at hr; cases hr
    | some xs =>
      rw [hs] at hr
      simp only at hr
      split at hr
      · rename_i hn
        cases hr
        simp only [LR, VR] at ha
        obtain ⟨u, us, hvs, hu, u2, us2, rfl, rfl, rfl⟩ := ha
        obtain ⟨a, off, c, len, base, cap', rfl, h1, h3, h4, h5, h6, _, _, h9⟩ := hu
        have hvs : vs = #[.slice (some ⟨a, off + base * 1, none⟩) len cap', .string sep] := by rw [← Array.toArray_toList (xs := vs), hvs]
        subst hvs
        obtain ⟨h7, h8⟩ := h3
        subst h8
        have hlen : len = n := by simpa [Row.len] using h7
        subst hlen
        simp only [RR, Row.len] at h9 h6
        obtain ⟨h10, h11, _⟩ := h9
        have hc := strsOf_sound hs h11
        have hxl : xs.length = len := by
          have := congrArg List.length hc
          rw [List.length_take, List.length_drop, List.length_map, Array.length_toList] at this
          omega
        subst hxl
        obtain ⟨e, fr, hh⟩ := hst a c h1
        rw [Nat.zero_mul, Nat.add_zero]
        refine ⟨has36, callsIn_wide.mpr ((Tryz.strings_Join a off cap' xs sep w (fun j x hj => ?_) (heap_lt hh) hn.1 h4 hn.2).mono fun e w' ⟨he, hb⟩ => ?_)⟩
        · have h12 : ((c.toList.drop off).take xs.length)[j]? = some (.string x) := by rw [hc, List.getElem?_map, hj]; rfl
          have hjl : j < xs.length := by
            rcases Nat.lt_or_ge j xs.length with h' | h'
            · exact h'
            · rw [List.getElem?_eq_none h'] at hj; cases hj
          rw [List.getElem?_take_of_lt hjl, List.getElem?_drop] at h12
          simp only [World.cell?, hh]
          simpa using h12
        · exact ⟨_, noM, S, he, by simp only [VR]; rfl, wr_dead hst hb (fun i => hget_nil i), SS.le_refl _, fun _ _ => rfl⟩
      · cases hr
  · cases hr
end Go.Proofs.YtfbamgphngmglaaGreatDoor
