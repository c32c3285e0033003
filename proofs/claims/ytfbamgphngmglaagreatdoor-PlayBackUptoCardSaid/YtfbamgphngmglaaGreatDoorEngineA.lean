/- A certified abstract evaluator of the model's code (namespace Go.Abs), one part of it: what it answers holds of every run. Each theorem states its own conditions. -/
import Derived.OrdersIn
set_option linter.unusedSimpArgs false
set_option linter.unusedVariables false
namespace Go.Abs
noncomputable section

/-- a place inside a row: indexes, each with the width of what it counts -/
abbrev Pth := List (Nat × Nat)
def mulW (i w : Nat) : Nat := match w with | 1 => i | w => i * w
def flatP : Pth → Nat
  | [] => 0
  | [(i, w)] => mulW i w
  | (i, w) :: p => mulW i w + flatP p
/-- an element of a row of elements -/
abbrev Elt := Option (Nat × Nat)
def cellOf (e : Elt) (p : Pth) : Nat :=
  match e with
  | none => flatP p
  | some (i, w) => match p with
    | [] => mulW i w
    | p => mulW i w + flatP p
def addF (p : Pth) (o : Nat) : Pth := match o with | 0 => p | o => p ++ [(o, 1)]
/-- an element's number in the row, of a window's -/
def ixOf (win : Option (Nat × Nat)) (i : Nat) : Nat := match win with | none => i | some (b, _) => b + i
def kEq : IntKind → IntKind → Bool
  | .i8, .i8 | .i16, .i16 | .i32, .i32 | .i64, .i64 | .u8, .u8 | .u16, .u16 | .u32, .u32 | .u64, .u64 => true
  | _, _ => false

/-- what is known of a slice's capacity -/
inductive CapI where
  | any
  | is (c : Nat)
  | ge (c : Nat)
deriving DecidableEq
def CapI.holds : CapI → Nat → Prop
  | .any, _ => True
  | .is c, n => n = c
  | .ge c, n => c ≤ n
/-- have so many elements room for sure? -/
def CapI.fits : CapI → Nat → Bool
  | .any, _ => false
  | .is c, n => Nat.ble n c
  | .ge c, n => Nat.ble n c
def CapI.less (c : CapI) (l n : Nat) : CapI :=
  match c with
  | .is c => .is (c - l)
  | .ge c => .ge (c - l)
  | .any => .ge (n - l)
mutual
inductive AV where
  | bool (b : Bool)
  | int (k : IntKind) (n : Int)
  | str (s : ByteArray)
  | ptr (id : Nat) (e : Elt) (p : Pth) (n : Nat)
  | vptr (r : Row) (e : Elt) (p : Pth) (n : Nat)
  | nilptr
  | sl (id : Nat) (win : Option (Nat × Nat)) (esz : Nat) (cap : CapI)
  | vs (r : Row) (win : Option (Nat × Nat)) (esz : Nat) (tight : Bool)
  | nilsl
  | map (id : Nat)
  | nilmap
  | fn (f : Fn) (first captured : List AV)
  | nilfn
  | iface (t : TypeId) (v : AV)
  | nilif
  | agg (r : Row)
  | tup (l : List AV)
  | far (a : AV)
  /-- n bytes of a new row, of which nothing is known -/
  | raw (id : Nat) (n : Nat)
  | top
inductive Row where
  | vals (l : List AV)
  | ints (k : IntKind) (n : Nat) (z : List Int)
  | rows (k : IntKind) (w n : Nat) (ls : List (List Int))
  | pure (n : Nat) (l : List AV)
end
instance : Inhabited AV := ⟨.top⟩
instance : Inhabited Row := ⟨.vals []⟩

inductive TK where
  | bool | int (k : IntKind) | str | ptr (e : Nat) | slice (e : Nat) | array (len e : Nat) | struct (fs : List (Nat × Nat × Nat))
  | map (k e : Nat) | func | iface | tuple | uptr | other
structure TD where
  agg : Bool
  size : Nat
  bytes : Nat
  zero : Row
  tk : TK
abbrev TT := Nat → Option TD

inductive AO where
  | cells (r : Row) (t : Nat)
  | frozen (r : Row)
  | map (l : List (AV × AV))
  | loop (st : LoopState) (pending : Option Code) (tm : List AV) (params : List Nat) (assign body : Code)
  | dead
abbrev Heap := List AO
/- accesses by plain recursors: the kernel walks these fast -/
noncomputable def hget (l : Heap) : Nat → AO := List.rec (motive := fun _ => Nat → AO) (fun _ => .dead) (fun v _ ih n => Bool.rec (ih (Nat.pred n)) v (Nat.beq n 0)) l
noncomputable def hset (l : Heap) : Nat → AO → Heap := List.rec (motive := fun _ => Nat → AO → Heap) (fun _ _ => []) (fun v l ih n o => Bool.rec (v :: ih (Nat.pred n) o) (o :: l) (Nat.beq n 0)) l
noncomputable def tget (l : List AV) : Nat → AV := List.rec (motive := fun _ => Nat → AV) (fun _ => .top) (fun v _ ih n => Bool.rec (ih (Nat.pred n)) v (Nat.beq n 0)) l
noncomputable def tset (l : List AV) : Nat → AV → List AV := List.rec (motive := fun _ => Nat → AV → List AV) (fun _ _ => []) (fun v l ih n o => Bool.rec (v :: ih (Nat.pred n) o) (o :: l) (Nat.beq n 0)) l
theorem hget_nil (n : Nat) : hget [] n = .dead := rfl
theorem hget_zero (o : AO) (h : Heap) : hget (o :: h) 0 = o := rfl
theorem hget_succ (o : AO) (h : Heap) (n : Nat) : hget (o :: h) (n + 1) = hget h n := rfl
theorem hset_nil (n : Nat) (x : AO) : hset [] n x = [] := rfl
theorem hset_zero (o x : AO) (h : Heap) : hset (o :: h) 0 x = x :: h := rfl
theorem hset_succ (o x : AO) (h : Heap) (n : Nat) : hset (o :: h) (n + 1) x = o :: hset h n x := rfl
theorem tget_nil (n : Nat) : tget [] n = .top := rfl
theorem tget_zero (o : AV) (h : List AV) : tget (o :: h) 0 = o := rfl
theorem tget_succ (o : AV) (h : List AV) (n : Nat) : tget (o :: h) (n + 1) = tget h n := rfl
theorem tset_nil (n : Nat) (x : AV) : tset [] n x = [] := rfl
theorem tset_zero (o x : AV) (h : List AV) : tset (o :: h) 0 x = x :: h := rfl
theorem tset_succ (o x : AV) (h : List AV) (n : Nat) : tset (o :: h) (n + 1) x = o :: tset h n x := rfl

/-- bytes, as lists; by plain recursors -/
def dropR {α : Type} (l : List α) : Nat → List α := List.rec (motive := fun _ => Nat → List α) (fun _ => []) (fun v l ih n => Bool.rec (ih (Nat.pred n)) (v :: l) (Nat.beq n 0)) l
def takeR {α : Type} (l : List α) : Nat → List α := List.rec (motive := fun _ => Nat → List α) (fun _ => []) (fun v _ ih n => Bool.rec (v :: ih (Nat.pred n)) [] (Nat.beq n 0)) l
def appR {α : Type} (l r : List α) : List α := List.rec (motive := fun _ => List α) r (fun v _ ih => v :: ih) l
def eqR (l : List UInt8) : List UInt8 → Bool := List.rec (motive := fun _ => List UInt8 → Bool) (fun r => List.rec (motive := fun _ => Bool) true (fun _ _ _ => false) r)
  (fun v _ ih r => List.rec (motive := fun _ => Bool) false (fun x r _ => Bool.rec false (ih r) (Nat.beq v.toNat x.toNat)) r) l
def nthR {α : Type} (l : List α) : Nat → Option α := List.rec (motive := fun _ => Nat → Option α) (fun _ => none) (fun v _ ih n => Bool.rec (ih (Nat.pred n)) (some v) (Nat.beq n 0)) l
theorem dropR_eq {α : Type} : ∀ (l : List α) (n : Nat), dropR l n = l.drop n
  | [], n => by cases n <;> rfl
  | _ :: _, 0 => rfl
  | _ :: l, n + 1 => dropR_eq l n
theorem takeR_eq {α : Type} : ∀ (l : List α) (n : Nat), takeR l n = l.take n
  | [], n => by cases n <;> rfl
  | _ :: _, 0 => rfl
  | v :: l, n + 1 => congrArg (v :: ·) (takeR_eq l n)
theorem appR_eq {α : Type} : ∀ (l r : List α), appR l r = l ++ r
  | [], _ => rfl
  | v :: l, r => congrArg (v :: ·) (appR_eq l r)
theorem nthR_eq {α : Type} : ∀ (l : List α) (n : Nat), nthR l n = l[n]?
  | [], n => by cases n <;> rfl
  | _ :: _, 0 => rfl
  | _ :: l, n + 1 => by rw [List.getElem?_cons_succ]; exact nthR_eq l n
theorem eqR_iff : ∀ (l r : List UInt8), eqR l r = true ↔ l = r
  | [], [] => ⟨fun _ => rfl, fun _ => rfl⟩
  | [], _ :: _ => ⟨fun h => Bool.noConfusion h, fun h => by cases h⟩
  | _ :: _, [] => ⟨fun h => Bool.noConfusion h, fun h => by cases h⟩
  | v :: l, x :: r => by
    show Bool.rec false (eqR l r) (Nat.beq v.toNat x.toNat) = true ↔ _
    cases h : Nat.beq v.toNat x.toNat with
    | false =>
      refine ⟨fun h' => Bool.noConfusion h', fun h' => ?_⟩
      cases h'
      rw [Nat.beq_refl] at h; exact Bool.noConfusion h
    | true =>
      have hv : v = x := UInt8.toNat_inj.mp (Nat.eq_of_beq_eq_true h)
      subst hv
      show eqR l r = true ↔ _
      rw [eqR_iff l r]
      exact ⟨fun h => by rw [h], fun h => by cases h; rfl⟩
def bytesL (s : ByteArray) : List UInt8 := s.data.toList
def ofL (l : List UInt8) : ByteArray := ⟨⟨l⟩⟩
def eqB (x y : ByteArray) : Bool := eqR (bytesL x) (bytesL y)
def subB (s : ByteArray) (l u : Nat) : ByteArray := ofL (takeR (dropR (bytesL s) l) (u - l))
/-! ### rows -/
def zget : List Int → Nat → Int
  | [], _ => 0
  | x :: _, 0 => x
  | _ :: l, n + 1 => zget l n
def fromN (z : List Int) : Nat → Nat → List Int
  | 0, _ => []
  | n + 1, o => z.getD o 0 :: fromN z n (o + 1)
def setN (z : List Int) : List Int → Nat → List Int
  | [], _ => z
  | x :: l, o => setN (z.set o x) l (o + 1)
def Row.len : Row → Nat
  | .vals l => l.length
  | .ints _ n _ => n
  | .rows _ w n _ => n * w
  | .pure n _ => n
/-- the cells of a row, one by one -/
def Row.cells : Row → List AV
  | .vals l => l
  | .ints k n z => (fromN z n 0).map (.int k)
  | .rows k w _ ls => (ls.map fun z => (fromN z w 0).map (AV.int k)).flatten
  | .pure _ l => l
def Row.get (r : Row) (e : Elt) (p : Pth) : Option AV :=
  match r with
  | .vals l => some (l.getD (cellOf e p) .top)
  | .ints k _ z => some (.int k (z.getD (cellOf e p) 0))
  | .rows k w _ ls => match e with
    | some (i, v) => if Nat.beq v w then some (.int k ((ls.getD i []).getD (flatP p) 0)) else none
    | none => none
  | .pure _ l => some (l.getD (cellOf e p) .top)
def Row.sub (r : Row) (e : Elt) (p : Pth) (n : Nat) : Option Row :=
  match r with
  | .vals l => some (.vals ((l.drop (cellOf e p)).take n))
  | .ints k m z => some (if Nat.ble n 8 then .ints k n (fromN z n (cellOf e p)) else if Nat.beq n m then r else .ints k n ((z.drop (cellOf e p)).take n))
  | .rows k w _ ls => match e with
    | some (i, v) => if Nat.beq v w then some (if Nat.beq n w then .ints k w (ls.getD i []) else .ints k n (fromN (ls.getD i []) n (flatP p))) else none
    | none => none
  | .pure _ _ => none
def Row.set (r : Row) (e : Elt) (p : Pth) (v : AV) : Option Row :=
  match r with
  | .vals l => some (.vals (l.set (cellOf e p) v))
  | .ints k m z => match v with
    | .int k' x => if kEq k' k then some (.ints k m (z.set (cellOf e p) x)) else none
    | _ => none
  | .rows k w m ls => match e, v with
    | some (i, u), .int k' x => if Nat.beq u w && kEq k' k then some (.rows k w m (ls.set i ((ls.getD i []).set (flatP p) x))) else none
    | _, _ => none
  | .pure _ _ => none
def setV (l : List AV) : List AV → Nat → List AV
  | [], _ => l
  | x :: r, o => setV (l.set o x) r (o + 1)
def Row.setSub (r : Row) (e : Elt) (p : Pth) (n : Nat) (q : Row) : Option Row :=
  match r with
  | .vals l => some (.vals (setV l q.cells (cellOf e p)))
  | .ints k m z => match q with
    | .ints k' n' z' => if kEq k' k && Nat.beq n' n then (if Nat.beq n m then some (.ints k m z') else some (.ints k m (setN z (fromN z' n 0) (cellOf e p)))) else none
    | _ => none
  | .rows k w m ls => match e, p, q with
    | some (i, u), [], .ints k' n' z' => if Nat.beq u w && Nat.beq n w && Nat.beq n' w && kEq k' k then some (.rows k w m (ls.set i z')) else none
    | _, _, _ => none
  | .pure _ _ => none

/-! ### loads and stores -/
/-- may it lie in one cell? -/
def cellB : AV → Bool
  | .agg _ | .tup _ | .top => false
  | _ => true
def readRow (h : Heap) (a : AV) : Option (Row × Elt × Pth × Nat) :=
  match a with
  | .ptr id e p n => match hget h id with
    | .cells r _ => some (r, e, p, n)
    | .frozen r => some (r, e, p, n)
    | _ => none
  | .vptr r e p n => some (r, e, p, n)
  | _ => none
def loadAV (d : TD) (h : Heap) (a : AV) : Option AV := do
  let (r, e, p, n) ← readRow h a
  if Nat.ble d.size n then
    if d.agg then (r.sub e p d.size).map .agg else if Nat.beq d.size 1 then r.get e p else none
  else none
def storeAV (d : TD) (h : Heap) (a v : AV) : Option Heap :=
  match a with
  | .ptr id e p n =>
    match hget h id with
    | .cells r t =>
      if Nat.ble d.size n then
        match v with
        | .agg q => if Nat.beq q.len d.size then (r.setSub e p d.size q).map fun r' => hset h id (.cells r' t) else none
        | v => if cellB v && Nat.beq d.size 1 then (r.set e p v).map fun r' => hset h id (.cells r' t) else none
      else none
    | _ => none
  | _ => none

/-! ### scalars -/
def bitsI (op : BinOp) (k : IntKind) (x y : Int) : Option Int :=
  match op with
  | .and => some (k.wrap (BitVec.ofInt k.bits x &&& BitVec.ofInt k.bits y).toNat)
  | .or => some (k.wrap (BitVec.ofInt k.bits x ||| BitVec.ofInt k.bits y).toNat)
  | .xor => some (k.wrap (BitVec.ofInt k.bits x ^^^ BitVec.ofInt k.bits y).toNat)
  | .andNot => some (k.wrap (BitVec.ofInt k.bits x &&& ~~~ BitVec.ofInt k.bits y).toNat)
  | _ => none
def intBin (op : BinOp) (k : IntKind) (x y : Int) : Option AV :=
  match op with
  | .add => some (.int k (k.wrap (x + y)))
  | .sub => some (.int k (k.wrap (x - y)))
  | .mul => some (.int k (k.wrap (x * y)))
  | .quo => if y = 0 then none else some (.int k (k.wrap (x.tdiv y)))
  | .rem => if y = 0 then none else some (.int k (x.tmod y))
  | .and | .or | .xor | .andNot => (bitsI op k x y).map (.int k)
  | .eql => some (.bool (x == y))
  | .neq => some (.bool (x != y))
  | .lss => some (.bool (decide (x < y)))
  | .leq => some (.bool (decide (x ≤ y)))
  | .gtr => some (.bool (decide (x > y)))
  | .geq => some (.bool (decide (x ≥ y)))
  | _ => none
def strBin (op : BinOp) (x y : ByteArray) : Option AV :=
  match op with
  | .add => if ((x.size + y.size : Nat) : Int) > IntKind.i64.max then none else some (.str (ofL (appR (bytesL x) (bytesL y))))
  | .eql => some (.bool (eqB x y))
  | .neq => some (.bool !(eqB x y))
  | _ => none
def intsEq : List Int → List Int → Nat → Bool
  | x, y, n => fromN x n 0 == fromN y n 0
/-- '==' of what is no number and no string; none: not told. 'q': may structs of this type be compared so? -/
def otherEq (d : TD) (q : Bool) (iq : Nat → Bool) (a b : AV) : Option Bool :=
  match d.tk, a, b with
  | .bool, .bool x, .bool y => some (x == y)
  | .ptr _, .nilptr, .nilptr => some true
  | .ptr _, .ptr id e p _, .ptr id' e' p' _ => if Nat.beq id id' && Nat.beq (cellOf e p) (cellOf e' p') then some true else none
  | .ptr _, .nilptr, .ptr .. | .ptr _, .ptr .., .nilptr => some false
  | .slice _, .nilsl, .nilsl => some true
  | .slice _, .nilsl, .sl .. | .slice _, .sl .., .nilsl | .slice _, .nilsl, .vs .. | .slice _, .vs .., .nilsl => some false
  | .iface, .iface t (.int k x), .iface u (.int k' y) => if Nat.beq t u then (if iq t && kEq k k' then some (x == y) else none) else some false
  | .iface, .nilif, .iface _ _ | .iface, .iface _ _, .nilif => some false
  | _, .agg (.ints k n x), .agg (.ints k' n' y) => if q && (kEq k k' && (Nat.beq n n' && Nat.beq n d.size)) then some (intsEq x y n) else none
  | _, _, _ => none
def binAV (d : Option TD) (q : Bool) (iq : Nat → Bool) (op : BinOp) (a b : AV) : Option AV :=
  match op, a, b with
  | .shl, .int k x, .int _ y => if y < 0 then none else some (.int k (k.wrap (x * 2 ^ (min y.toNat k.bits))))
  | .shr, .int k x, .int _ y => if y < 0 then none else some (.int k (x.fdiv (2 ^ (min y.toNat k.bits))))
  | op, .int k x, .int k' y => if kEq k k' then intBin op k x y else none
  | op, .str x, .str y => strBin op x y
  | .eql, a, b => d.bind fun d => (otherEq d q iq a b).map .bool
  | .neq, a, b => d.bind fun d => (otherEq d q iq a b).map fun t => .bool !t
  | _, _, _ => none
def unAV (op : UnOp) (a : AV) : Option AV :=
  match op, a with
  | .neg, .int k n => some (.int k (k.wrap (0 - n)))
  | .xor, .int k n => (bitsI .xor k (if k.signed then -1 else k.max) n).map (.int k)
  | .not, .bool b => some (.bool !b)
  | _, _ => none
def constScalar : Value → Option AV
  | .bool b => some (.bool b)
  | .int k n => some (.int k n)
  | .string s => some (.str s)
  | .pointer none => some .nilptr
  | .slice none 0 0 => some .nilsl
  | .map none => some .nilmap
  | .nilFunc => some .nilfn
  | .nilIface => some .nilif
  | .func (.func f) first captured => if first.isEmpty && captured.isEmpty then some (.fn (.func f) [] []) else none
  | _ => none
def intsOf : List Value → Option (IntKind × List Int)
  | [.int k n] => some (k, [n])
  | .int k n :: l => match intsOf l with
    | some (k', z) => if kEq k k' then some (k, n :: z) else none
    | none => none
  | _ => none
def scalarsOf : List Value → Option (List AV)
  | [] => some []
  | v :: l => match constScalar v, scalarsOf l with
    | some a, some as => some (a :: as)
    | _, _ => none
def constAV : Value → Option AV
  | .agg cs => match intsOf cs.toList with
    | some (k, z) => some (.agg (.ints k z.length z))
    | none => (scalarsOf cs.toList).map fun l => .agg (.vals l)
  | .tuple vs => if vs.isEmpty then some (.tup []) else none
  | v => constScalar v
def evalO (glob : Nat → Option (Row × Nat)) (tm : List AV) : Operand → AV
  | .tmp t => tget tm t
  | .const v => (constAV v).getD .top
  | .global g => match glob g with | some (r, n) => .vptr r none [] n | none => .top
  | .func f => .fn (.func f) [] []
/-! ### slices -/
def divE (n w : Nat) : Nat := match w with | 1 => n | w => n / w
/-- how many elements of so many cells -/
def Row.count (r : Row) (esz : Nat) : Nat :=
  match r with
  | .vals l => divE l.length esz
  | .ints _ n _ => divE n esz
  | .rows _ w n _ => if Nat.beq w esz then n else divE (n * w) esz
  | .pure n _ => divE n esz
def winLen (r : Row) (win : Option (Nat × Nat)) (esz : Nat) : Nat := match win with | none => r.count esz | some (_, l) => l
def rowAt (h : Heap) (id : Nat) : Option Row :=
  match hget h id with
  | .cells r _ => some r
  | .frozen r => some r
  | _ => none
/-- a slice's row, window, element size, how many elements -/
def slOf (h : Heap) (s : AV) : Option (Row × Option (Nat × Nat) × Nat × Nat) :=
  match s with
  | .sl id win esz _ => match rowAt h id with
    | some r => some (r, win, esz, winLen r win esz)
    | none => none
  | .vs r win esz _ => some (r, win, esz, winLen r win esz)
  | _ => none
def pureCell : AV → Bool
  | .bool _ | .int _ _ | .str _ | .nilptr | .nilsl | .nilmap | .nilfn | .nilif => true
  | .vs (.vals _) _ _ _ => false
  | .vs .. => true
  | _ => false
/-- a cell without places: a slice's row is frozen for it -/
def purify (h : Heap) (v : AV) : Option (AV × Heap) :=
  match v with
  | .sl id win esz _ => match hget h id with
    | .cells (.vals _) _ => none
    | .cells r _ => some (.vs r win esz false, hset h id (.frozen r))
    | .frozen (.vals _) => none
    | .frozen r => some (.vs r win esz false, h)
    | _ => none
  | v => if pureCell v then some (v, h) else none
def purifyAll (h : Heap) : List AV → Option (List AV × Heap)
  | [] => some ([], h)
  | v :: l => match purify h v with
    | some (v', h') => match purifyAll h' l with
      | some (l', h'') => some (v' :: l', h'')
      | none => none
    | none => none
def winTake {α : Type} (win : Option (Nat × Nat)) (l : List α) : List α := match win with | none => l | some (b, n) => (l.drop b).take n
/-- what a slice holds, as a row of its own -/
def contentOf (h : Heap) (r : Row) (win : Option (Nat × Nat)) (esz : Nat) : Option (Row × Heap) :=
  match r with
  | .ints k n z => if Nat.beq esz 1 then some (match win with | none => .ints k n z | some (b, m) => .ints k m ((z.drop b).take m), h)
    else if Nat.beq esz n then (match win with | none => some (.rows k n 1 [z], h) | some _ => none) else none
  | .rows k w n ls => if Nat.beq esz w then some (match win with | none => .rows k w n ls | some (b, m) => .rows k w m ((ls.drop b).take m), h) else none
  | .vals l => if Nat.beq esz 1 then (purifyAll h (winTake win l)).map fun (l', h') => (.pure l'.length l', h') else none
  | .pure n l => if Nat.beq esz 1 then some (match win with | none => .pure n l | some (b, m) => .pure m ((l.drop b).take m), h) else none
def Row.app (a b : Row) : Option Row :=
  match a, b with
  | .ints k n z, .ints k' n' z' => if kEq k k' then some (.ints k (n + n') (z ++ z')) else none
  | .rows k w n z, .rows k' w' n' z' => if kEq k k' && Nat.beq w w' then some (.rows k w (n + n') (z ++ z')) else none
  | .pure n l, .pure n' l' => some (.pure (n + n') (l ++ l'))
  | _, _ => none
def bytesZ (s : ByteArray) : List Int := s.data.toList.map fun b => (b.toNat : Int)
def most : Nat := 140737488355328
/-- what is appended, as a row; how many elements -/
def tailOf (h : Heap) (esz : Nat) (x : AV) : Option (Row × Nat × Heap) :=
  match x with
  | .str s => if Nat.beq esz 1 then some (.ints .u8 s.size (bytesZ s), s.size, h) else none
  | x => match slOf h x with
    | some (r, win, e, n) => if Nat.beq e esz then (contentOf h r win e).map fun (q, h') => (q, n, h') else none
    | none => none
def atZero (win : Option (Nat × Nat)) : Bool := match win with | none => true | some (b0, _) => Nat.beq b0 0
def consInt (k : IntKind) (v : AV) (r : Option (List Int)) : Option (List Int) :=
  match v with
  | .int k' x => if kEq k k' then (match r with | some z => some (x :: z) | none => none) else none
  | _ => none
/-- are all cells whole numbers of one kind? -/
noncomputable def allInts (k : IntKind) (l : List AV) : Option (List Int) := List.rec (motive := fun _ => Option (List Int)) (some []) (fun v _ ih => consInt k v ih) l
/-- are all numbers bytes? -/
noncomputable def allBytes (l : List Int) : Bool := List.rec (motive := fun _ => Bool) true (fun x _ ih => Bool.rec false (Bool.rec false ih (decide (x ≤ 255))) (decide (0 ≤ x))) l
/-- numbers in a row's first cells -/
noncomputable def Row.firstInts (r : Row) (k : IntKind) (n : Nat) : Option (List Int) :=
  match r with
  | .ints k' m z => if kEq k k' && Nat.ble n m then some (z.take n) else none
  | .vals l => if Nat.ble n l.length then allInts k (l.take n) else none
  | _ => none
noncomputable def putVals (k : IntKind) (full : Bool) (l : List AV) : Row := match full with
  | true => (match allInts k l with | some z => .ints k z.length z | none => .vals l)
  | false => .vals l
/-- elements laid over those from the o-th on -/
noncomputable def Row.putAt (r : Row) (esz o : Nat) (q : Row) : Option Row :=
  match r, q with
  | .ints k n z, .ints k' n' z' => if kEq k k' && (Nat.beq esz 1 && Nat.ble (o + n') n) then some (.ints k n (z.take o ++ (z' ++ z.drop (o + n')))) else none
  | .rows k w n z, .rows k' w' n' z' => if kEq k k' && (Nat.beq w w' && (Nat.beq esz w && Nat.ble (o + n') n)) then some (.rows k w n (z.take o ++ (z' ++ z.drop (o + n')))) else none
  | .vals l, .ints k n' z' => if Nat.beq esz 1 && Nat.ble (o + n') l.length then some (putVals k (Nat.beq (o + n') l.length) (l.take o ++ (z'.map (AV.int k) ++ l.drop (o + n')))) else none
  | _, _ => none
/-- a window over all of a row is none -/
def normWin (r : Row) (esz : Nat) (win : Option (Nat × Nat)) : Option (Nat × Nat) :=
  match win with
  | some (b0, m) => Bool.rec (some (b0, m)) none (Nat.beq b0 0 && Nat.beq (m * esz) r.len)
  | none => none
/-- append of a row of n elements; the new row lies at b -/
def appendQ (te esz bytes : Nat) (h1 : Heap) (b : Nat) (s : AV) (q : Row) (n : Nat) : Option (AV × Heap) :=
      match s with
      | .nilsl =>
        if n * bytes ≤ most then
          (match n with
           | 0 => some (.nilsl, h1)
           | _ => some (.sl b none esz .any, hset h1 b (.cells q te)))
        else none
      | .sl id win e cap =>
        match hget h1 id with
        | .cells r t =>
          if Nat.beq e esz then
            let m := winLen r win esz
            match (match win with | some (b0, _) => if cap.fits (m + n) && (Nat.beq b0 0 || Nat.blt 0 m) then some b0 else none | none => none) with
            | some b0 =>
              (match r.putAt esz (b0 + m) q with
               | some r' => some (.sl id (some (b0, m + n)) e cap, hset h1 id (.cells r' t))
               | none => none)
            | none =>
            match contentOf h1 r win esz with
            | none => none
            | some (q0, h2) =>
              if (m + n) * bytes ≤ most then
                match q0.app q with
                | none => none
                | some q1 =>
                  match hget h2 id with
                  | .cells _ _ =>
                    match cap with
                    | .is c =>
                      if m + n ≤ c then (match normWin r esz win with
                        | none => some (.sl b none esz (.is c), hset (hset h2 id .dead) b (.cells q1 t))
                        | some _ => none)
                      else some (.sl b none esz .any, hset h2 b (.cells q1 te))
                    | _ => match normWin r esz win with
                      | none => if Nat.beq t te then some (.sl b none esz .any, hset (hset h2 id .dead) b (.cells q1 te)) else none
                      | some _ => none
                  | _ => none
              else none
          else none
        | _ => none
      | .vs r win e true =>
        if Nat.beq e esz then
          match contentOf h1 r win esz with
          | none => none
          | some (q0, h2) =>
            let m := winLen r win esz
            if (m + n) * bytes ≤ most then
              (match n with
               | 0 => some (s, h2)
               | _ => match q0.app q with
                 | none => none
                 | some q1 => some (.sl b none esz .any, hset h2 b (.cells q1 te)))
            else none
        else none
      | _ => none
def appendAV (te esz bytes : Nat) (h : Heap) (b : Nat) (s x : AV) : Option (AV × Heap) :=
  match x with
  | .nilsl => match s with
    | .sl .. | .vs .. | .nilsl => some (s, h)
    | _ => none
  | x =>
    match tailOf h esz x with
    | none => none
    | some (q, n, h1) => appendQ te esz bytes h1 b s q n
def Row.firstE (r : Row) (esz n : Nat) : Option Row :=
  match r with
  | .ints k _ z => if Nat.beq esz 1 then some (.ints k n (z.take n)) else none
  | .rows k w _ z => if Nat.beq esz w then some (.rows k w n (z.take n)) else none
  | _ => none
/-- 'copy' -/
def copyAV (esz : Nat) (h : Heap) (d x : AV) : Option (AV × Heap) :=
  match x with
  | .nilsl => match d with
    | .nilsl | .sl .. => some (.int .i64 0, h)
    | _ => none
  | x => match tailOf h esz x with
    | none => none
    | some (q, n, h1) => match d with
      | .nilsl => some (.int .i64 0, h1)
      | .sl id win e _ => match hget h1 id with
        | .cells r t => if Nat.beq e esz then
            (match q.firstE esz (if Nat.ble (winLen r win esz) n then winLen r win esz else n) with
             | some q' => match (match win with | some (b0, _) => if Nat.beq b0 0 || Nat.blt 0 (winLen r win esz) then some b0 else none | none => some 0) with
               | some b0 => (match r.putAt esz b0 q' with
                 | some r' => some (.int .i64 ((if Nat.ble (winLen r win esz) n then winLen r win esz else n : Nat) : Int), hset h1 id (.cells r' t))
                 | none => none)
               | none => none
             | none => none) else none
        | _ => none
      | _ => none
/-- a bound's number -/
def bnd (o : Option AV) (z : Int) : Option Int := match o with | some (.int _ n) => some n | none => some z | _ => none
def sliceStr (s : ByteArray) (lo hi : Option AV) : Option AV :=
  match bnd lo 0, bnd hi s.size with
  | some l, some u => if 0 ≤ l ∧ l ≤ u ∧ u ≤ s.size then some (.str (subB s l.toNat u.toNat)) else none
  | _, _ => none
def sliceWin (win : Option (Nat × Nat)) (lo hi : Option AV) (l u : Nat) : Option (Nat × Nat) :=
  match lo, hi with
  | none, none => win
  | _, _ => some (ixOf win l, u - l)
def sliceAV (es : Nat) (h : Heap) (x : AV) (lo hi mx : Option AV) : Option AV :=
  match x with
  | .raw id n => match bnd lo 0, hi, mx, hget h id with
    | some 0, some (.int _ 0), none, .cells (.ints _ 0 _) _ => if Nat.beq es 1 then some (.sl id none 1 (.ge n)) else none
    | _, _, _, _ => none
  | .nilsl => match bnd lo 0, bnd hi 0, mx with
    | some 0, some 0, none => some .nilsl
    | _, _, _ => none
  | x => match slOf h x with
    | none => none
    | some (_, win, e, n) =>
      if Nat.beq e es then
        match bnd lo 0, bnd hi n with
        | some l, some u =>
          if 0 ≤ l ∧ l ≤ u ∧ u ≤ n then
            let w := sliceWin win lo hi l.toNat u.toNat
            match mx with
            | none => match x with
              | .sl id _ e cap => some (.sl id w e (cap.less l.toNat n))
              | .vs r _ e t => some (.vs r w e (match hi with | none => t | _ => false))
              | _ => none
            | some mx => match bnd (some mx) 0, hi with
              | some m, some _ =>
                if u ≤ m ∧ m ≤ n then (match x with
                  | .sl id _ e _ => some (.sl id w e (.is (m.toNat - l.toNat)))
                  | .vs r _ e _ => if m = u then some (.vs r w e true) else none
                  | _ => none)
                else none
              | _, _ => none
          else none
        | _, _ => none
      else none
/-- a slice of an array -/
def sliceArr (h : Heap) (n esz : Nat) (x : AV) (lo hi : Option AV) : Option AV :=
  match x with
  | .ptr id none [] m => match rowAt h id with
    | some r => if Nat.beq m (n * esz) && Nat.beq r.len m then
        (match bnd lo 0, bnd hi n with
         | some l, some u => if 0 ≤ l ∧ l ≤ u ∧ u ≤ n then some (.sl id (sliceWin none lo hi l.toNat u.toNat) esz (.is (n - l.toNat))) else none
         | _, _ => none) else none
    | none => none
  | _ => none

/-! ### maps -/
def keyEq : AV → AV → Option Bool
  | .int k x, .int k' y => if kEq k k' then some (x == y) else none
  | .str x, .str y => some (eqB x y)
  | .bool x, .bool y => some (x == y)
  | _, _ => none
def findAV (k : AV) : List (AV × AV) → Option (Option AV)
  | [] => some none
  | (q, v) :: l => match keyEq k q with
    | some t => if t then some (some v) else findAV k l
    | none => none
def putAV (k v : AV) : List (AV × AV) → Option (List (AV × AV))
  | [] => some [(k, v)]
  | (q, x) :: l => match keyEq k q with
    | some t => if t then some ((k, v) :: l) else (putAV k v l).map fun l' => (q, x) :: l'
    | none => none
def keyOK (k : TK) (v : AV) : Bool :=
  match k, v with
  | .int _, .int _ _ | .str, .str _ | .bool, .bool _ => true
  | _, _ => false
def zeroAV (d : TD) : AV := if d.agg then .agg d.zero else (d.zero.get none []).getD .top

/-! ### rows that are made -/
def rowOf (d : TD) (v : AV) : Option Row :=
  match v with
  | .agg q => if d.agg && Nat.beq q.len d.size then some q else none
  | .int k n => if Nat.beq d.size 1 && !d.agg then some (.ints k 1 [n]) else none
  | v => if cellB v && Nat.beq d.size 1 && !d.agg then some (.vals [v]) else none
def zeroRows (d : TD) (n : Nat) : Option Row :=
  match d.zero with
  | .ints k w z => if Nat.beq w 1 then some (.ints k n (List.replicate n (z.getD 0 0))) else some (.rows k w n (List.replicate n z))
  | .vals l => some (.vals (List.flatten (List.replicate n l)))
  | _ => none
def inBb (e : Elt) (p : Pth) (n N : Nat) : Bool :=
  match e with
  | none => Nat.ble (flatP p + n) N
  | some (i, w) => Nat.ble (flatP p + n) w && Nat.ble ((i + 1) * w) N
def fillAV (r : Row) (place : Nat → Option (Elt × Pth × Nat)) : List (Nat × AV) → Option Row
  | [] => some r
  | (i, v) :: rest => match place i with
    | none => none
    | some (e, p, n) =>
      if inBb e p n r.len then
        match v with
        | .agg q => if Nat.beq q.len n then (match r.setSub e p n q with | some r' => fillAV r' place rest | none => none) else none
        | v => if cellB v && Nat.beq n 1 then (match r.set e p v with | some r' => fillAV r' place rest | none => none) else none
      else none
def placeStruct (fs : List (Nat × Nat × Nat)) (i : Nat) : Option (Elt × Pth × Nat) := (fs[i]?).map fun f => (none, addF [] f.1, f.2.1)
def placeArr (esz n : Nat) (i : Nat) : Option (Elt × Pth × Nat) := if Nat.blt i n then some (none, addF [] (i * esz), esz) else none
def placeSl (esz n : Nat) (i : Nat) : Option (Elt × Pth × Nat) := if Nat.blt i n then some (some (i, esz), [], esz) else none

/-! ### operations -/
/-- a contract: what a call tells of arguments without places of their own, and the new blocks that it lays -/
structure Con where
  run : List AV → Option (AV × Heap)
  /-- how many blocks are new -/
  fresh : Nat
def oneB (T : TT) (e : Nat) : Bool := match T e with | some de => Nat.beq de.size 1 | none => false
/-- functions without a body -/
inductive ExtK where
  | same | count | index
  | rawBytes (t : Nat)
structure Env where
  T : TT
  ext : FuncId → Option ExtK
  glob : Nat → Option (Row × Nat)
  con : FuncId → Option Con
  /-- struct and array types whose values are compared, all of whole numbers -/
  eqT : TypeId → Bool
  /-- types of whole numbers, compared inside interface values -/
  eqI : TypeId → Bool
  fns : FuncId → Option Func
  /-- temporaries that a loop's round needs: by function, the first region's number in its body -/
  live : FuncId → Nat → Option (List Nat)

def extFresh : ExtK → Nat
  | .rawBytes _ => 1
  | _ => 0
/-- how many new blocks an operation lays (a call through a value: none) -/
def freshOf (E : Env) : Op → Nat
  | .alloc _ | .box _ _ | .buildSlice _ _ _ | .makeMap _ _ | .makeSlice _ _ _ => 1
  | .convert _ _ _ => 1
  | .call { callee := .builtin .append, .. } => 1
  | .call { callee := .value (.func f), .. } => match E.ext f with
    | some k => extFresh k
    | none => match E.con f with | some c => c.fresh | none => 0
  | _ => 0
def intOf : AV → Option Int
  | .int _ n => some n
  | _ => none
def convAV (E : Env) (src dst : TypeId) (h : Heap) (b : Nat) (x : AV) : Option (AV × Heap) :=
  match E.T src, E.T dst with
  | some s, some d =>
    match s.tk, d.tk, x with
    | .int _, .int k, .int _ n => some (.int k (k.wrap n), h)
    | .str, .str, .str v => some (.str v, h)
    | .slice e, .str, .nilsl => match (E.T e).map TD.tk with
      | some (.int .u8) => some (.str .empty, h)
      | _ => none
    | .slice e, .str, x => match (E.T e).map TD.tk, slOf h x with
      | some (.int .u8), some (r, win, esz, _) => match contentOf h r win esz with
        | some (.ints .u8 _ z, _) => if Nat.beq esz 1 then some (.str ⟨(z.map fun n => UInt8.ofNat n.toNat).toArray⟩, h) else none
        | _ => none
      | _, _ => none
    | .str, .slice e, .str v => match (E.T e).map TD.tk with
      | some (.int .u8) => some (.sl b none 1 .any, hset h b (.cells (.ints .u8 v.size (bytesZ v)) e))
      | _ => none
    | .ptr e, .uptr, .ptr id none [] n => match E.T e, hget h id with
      | some de, .cells r _ => if Nat.blt 0 de.size && Nat.blt 0 r.len then some (.ptr id none [] n, h) else none
      | _, _ => none
    | .uptr, .ptr e, .ptr id none [] n => match E.T e, hget h id with
      | some de, .cells r t => if Nat.beq t e && (Nat.blt 0 de.size && Nat.ble de.size r.len) then some (.ptr id none [] n, h) else none
      | _, _ => none
    | .slice e, .slice _, .sl id win esz cap => match (E.T e).map TD.tk, hget h id with
      | some (.int .u8), .cells (.ints k n z) _ => if Nat.beq src dst then some (.sl id win esz cap, h) else none
      | _, _ => none
    | _, _, _ => none
  | _, _ => none
def isConstO : Operand → Bool
  | .const _ => true
  | _ => false
/-- two nil interface values, one of them the literal nil -/
def nilEq (d : Option TD) (o : BinOp) (x y : Operand) (a b : AV) : Option AV :=
  match a, b with
  | .nilif, .nilif => if isConstO x || isConstO y then (match d.map TD.tk with
    | some .iface => match o with
      | .eql => some (.bool true)
      | .neq => some (.bool false)
      | _ => none
    | _ => none) else none
  | _, _ => none
def evMove (E : Env) (tm : List AV) (h : Heap) (b : Nat) (x : Operand) : Option (AV × Heap) :=
  let ρ := evalO E.glob tm
  some (ρ x, h)
def evPick (E : Env) (tm : List AV) (h : Heap) (b : Nat) (c : Operand) (x : Operand) (y : Operand) : Option (AV × Heap) :=
  let ρ := evalO E.glob tm
  match ρ c with
    | .bool t => some (if t then ρ x else ρ y, h)
    | _ => none
def evAlloc (E : Env) (tm : List AV) (h : Heap) (b : Nat) (t : TypeId) : Option (AV × Heap) :=
  let ρ := evalO E.glob tm
  match E.T t with
    | some d => some (.ptr b none [] d.size, hset h b (.cells d.zero t))
    | none => none
def evBox (E : Env) (tm : List AV) (h : Heap) (b : Nat) (t : TypeId) (x : Operand) : Option (AV × Heap) :=
  let ρ := evalO E.glob tm
  match E.T t with
    | some d => match rowOf d (ρ x) with
      | some r => some (.ptr b none [] d.size, hset h b (.cells r t))
      | none => none
    | none => none
def evBuild (E : Env) (tm : List AV) (h : Heap) (b : Nat) (t : TypeId) (parts : Array (Nat × Operand)) : Option (AV × Heap) :=
  let ρ := evalO E.glob tm
  match E.T t with
    | some d => match d.tk with
      | .struct fs => (fillAV d.zero (placeStruct fs) (parts.toList.map fun p => (p.1, ρ p.2))).map fun r => (.agg r, h)
      | .array n e => match E.T e with
        | some de => (fillAV d.zero (placeArr de.size n) (parts.toList.map fun p => (p.1, ρ p.2))).map fun r => (.agg r, h)
        | none => none
      | _ => none
    | none => none
def evBuildSlice (E : Env) (tm : List AV) (h : Heap) (b : Nat) (t : TypeId) (n : Nat) (parts : Array (Nat × Operand)) : Option (AV × Heap) :=
  let ρ := evalO E.glob tm
  match E.T t with
    | some d => match d.tk with
      | .slice e => match E.T e with
        | some de => if Nat.blt 0 de.size && Nat.ble (n * de.size) 16777216 then
            (match zeroRows de n with
             | some r0 => match fillAV r0 (placeSl de.size n) (parts.toList.map fun p => (p.1, ρ p.2)) with
               | some r => some (.sl b none de.size (.is n), hset h b (.cells r e))
               | none => none
             | none => none)
          else none
        | none => none
      | _ => none
    | none => none
def evLoad (E : Env) (tm : List AV) (h : Heap) (b : Nat) (t : TypeId) (a : Operand) : Option (AV × Heap) :=
  let ρ := evalO E.glob tm
  match E.T t with
    | some d => (loadAV d h (ρ a)).map fun v => (v, h)
    | none => none
def evStore (E : Env) (tm : List AV) (h : Heap) (b : Nat) (t : TypeId) (a : Operand) (x : Operand) : Option (AV × Heap) :=
  let ρ := evalO E.glob tm
  match E.T t with
    | some d => (storeAV d h (ρ a) (ρ x)).map fun h' => (.top, h')
    | none => none
def evNilCheck (E : Env) (tm : List AV) (h : Heap) (b : Nat) (x : Operand) : Option (AV × Heap) :=
  let ρ := evalO E.glob tm
  match ρ x with
    | .ptr id e p n => some (.ptr id e p n, h)
    | .vptr r e p n => some (.vptr r e p n, h)
    | .fn (.func f) l r => some (.fn (.func f) l r, h)
    | .fn (.yield f) l r => some (.fn (.yield f) l r, h)
    | _ => none
def evBinOp (E : Env) (tm : List AV) (h : Heap) (b : Nat) (o : BinOp) (t : TypeId) (x : Operand) (y : Operand) : Option (AV × Heap) :=
  let ρ := evalO E.glob tm
  (match nilEq (E.T t) o x y (ρ x) (ρ y) with | some v => some v | none => binAV (E.T t) (E.eqT t) E.eqI o (ρ x) (ρ y)).map fun v => (v, h)
def evUnOp (E : Env) (tm : List AV) (h : Heap) (b : Nat) (o : UnOp) (x : Operand) : Option (AV × Heap) :=
  let ρ := evalO E.glob tm
  (unAV o (ρ x)).map fun v => (v, h)
def evConvert (E : Env) (tm : List AV) (h : Heap) (b : Nat) (s : TypeId) (d : TypeId) (x : Operand) : Option (AV × Heap) :=
  let ρ := evalO E.glob tm
  convAV E s d h b (ρ x)
def evMakeInterface (E : Env) (tm : List AV) (h : Heap) (b : Nat) (t : TypeId) (x : Operand) : Option (AV × Heap) :=
  let ρ := evalO E.glob tm
  match E.T t with
    | some d => match d.tk with
      | .iface => none
      | _ => some (.iface t (ρ x), h)
    | none => none
def evMakeFunc (E : Env) (tm : List AV) (h : Heap) (b : Nat) (f : Fn) (first : Array Operand) (captured : Array Operand) : Option (AV × Heap) :=
  let ρ := evalO E.glob tm
  match f with
    | .yield _ => none
    | f => some (.fn f (first.toList.map ρ) (captured.toList.map ρ), h)
def evMakeSlice (E : Env) (tm : List AV) (h : Heap) (b : Nat) (t : TypeId) (l : Operand) (c : Operand) : Option (AV × Heap) :=
  let ρ := evalO E.glob tm
  match E.T t with
    | some d => match d.tk with
      | .slice e => match E.T e, ρ l, ρ c with
        | some de, .int _ l, .int _ c =>
          if Nat.blt 0 de.size ∧ 0 ≤ l ∧ l ≤ c ∧ c.toNat * de.bytes ≤ most ∧ c ≤ 9223372036854775807 then
            (match zeroRows de l.toNat with
             | some r => some (.sl b none de.size (.is c.toNat), hset h b (.cells r e))
             | none => none)
          else none
        | _, _, _ => none
      | _ => none
    | none => none
def evSlice (E : Env) (tm : List AV) (h : Heap) (b : Nat) (t : TypeId) (x : Operand) (lo : Option Operand) (hi : Option Operand) (mx : Option Operand) : Option (AV × Heap) :=
  let ρ := evalO E.glob tm
  match E.T t with
    | some d => match d.tk with
      | .array n e => match E.T e, mx with
        | some de, none => if Nat.blt 0 de.size then (sliceArr h n de.size (ρ x) (lo.map ρ) (hi.map ρ)).map fun v => (v, h) else none
        | _, _ => none
      | .slice e => match E.T e with
        | some de => (sliceAV de.size h (ρ x) (lo.map ρ) (hi.map ρ) (mx.map ρ)).map fun v => (v, h)
        | none => none
      | .str => match mx, ρ x with
        | none, .str s => (sliceStr s (lo.map ρ) (hi.map ρ)).map fun v => (v, h)
        | _, _ => none
      | _ => none
    | none => none
def evFieldAddr (E : Env) (tm : List AV) (h : Heap) (b : Nat) (t : TypeId) (x : Operand) (f : Nat) : Option (AV × Heap) :=
  let ρ := evalO E.glob tm
  match E.T t with
    | some d => match d.tk with
      | .struct fs => match fs[f]? with
        | some (off, size, _) => match ρ x with
          | .ptr id e p n => if Nat.blt 0 size && Nat.ble (off + size) n then some (.ptr id e (addF p off) size, h) else none
          | .vptr r e p n => if Nat.blt 0 size && Nat.ble (off + size) n then some (.vptr r e (addF p off) size, h) else none
          | _ => none
        | none => none
      | _ => none
    | none => none
def evField (E : Env) (tm : List AV) (h : Heap) (b : Nat) (t : TypeId) (x : Operand) (f : Nat) : Option (AV × Heap) :=
  let ρ := evalO E.glob tm
  match E.T t with
    | some d => match d.tk with
      | .struct fs => match fs[f]?, ρ x with
        | some (off, size, ft), .agg r => match E.T ft with
          | some df => if Nat.ble (off + size) r.len then
              (if df.agg then (r.sub none (addF [] off) size).map fun q => (.agg q, h) else (r.get none (addF [] off)).map fun v => (v, h))
            else none
          | none => none
        | _, _ => none
      | _ => none
    | none => none
def evIndexAddr (E : Env) (tm : List AV) (h : Heap) (b : Nat) (t : TypeId) (x : Operand) (i : Operand) : Option (AV × Heap) :=
  let ρ := evalO E.glob tm
  match E.T t, intOf (ρ i) with
    | some d, some i => match d.tk with
      | .array len e => match E.T e with
        | some de => if 0 ≤ i ∧ i < (len : Int) then
            (match ρ x with
             | .ptr id e p n => if Nat.ble (len * de.size) n then some (.ptr id e (p ++ [(i.toNat, de.size)]) de.size, h) else none
             | .vptr r e p n => if Nat.ble (len * de.size) n then some (.vptr r e (p ++ [(i.toNat, de.size)]) de.size, h) else none
             | _ => none)
          else none
        | none => none
      | .slice e => match E.T e, slOf h (ρ x) with
        | some de, some (_, win, esz, n) =>
          if Nat.beq esz de.size then
            (if 0 ≤ i ∧ i < (n : Int) then
              (match ρ x with
               | .sl id _ _ _ => some (.ptr id (some (ixOf win i.toNat, esz)) [] esz, h)
               | .vs r _ _ _ => some (.vptr r (some (ixOf win i.toNat, esz)) [] esz, h)
               | _ => none)
             else none)
          else none
        | _, _ => none
      | _ => none
    | _, _ => none
def evIndex (E : Env) (tm : List AV) (h : Heap) (b : Nat) (t : TypeId) (x : Operand) (i : Operand) : Option (AV × Heap) :=
  let ρ := evalO E.glob tm
  match E.T t, intOf (ρ i) with
    | some d, some i => match d.tk, ρ x with
      | .array len e, .agg r => match E.T e with
        | some de => if Nat.ble (len * de.size) r.len then
            (if 0 ≤ i ∧ i < (len : Int) then
              (if de.agg then (r.sub none [(i.toNat, de.size)] de.size).map fun q => (.agg q, h) else (r.get none [(i.toNat, de.size)]).map fun v => (v, h))
             else none)
          else none
        | none => none
      | .str, .str s => match (if 0 ≤ i then nthR (bytesL s) i.toNat else none) with
        | some c => some (.int .u8 c.toNat, h)
        | none => none
      | _, _ => none
    | _, _ => none
def evLookup (E : Env) (tm : List AV) (h : Heap) (b : Nat) (t : TypeId) (x : Operand) (i : Operand) (ok : Bool) : Option (AV × Heap) :=
  let ρ := evalO E.glob tm
  match E.T t with
    | some d => match d.tk with
      | .map k e => match E.T e, (E.T k).map fun dk => keyOK dk.tk (ρ i) with
        | some de, some true =>
          let found : Option (Option AV) := match ρ x with
            | .nilmap => some none
            | .map id => match hget h id with
              | .map l => findAV (ρ i) l
              | _ => none
            | _ => none
          match found with
          | some (some v) => some (if ok then .tup [v, .bool true] else v, h)
          | some none => some (if ok then .tup [zeroAV de, .bool false] else zeroAV de, h)
          | none => none
        | _, _ => none
      | _ => none
    | none => none
def evMapUpdate (E : Env) (tm : List AV) (h : Heap) (b : Nat) (t : TypeId) (m : Operand) (k : Operand) (v : Operand) : Option (AV × Heap) :=
  let ρ := evalO E.glob tm
  match E.T t with
    | some d => match d.tk, ρ m with
      | .map kt _, .map id => match hget h id, (E.T kt).map fun dk => keyOK dk.tk (ρ k) with
        | .map l, some true => (putAV (ρ k) (ρ v) l).map fun l' => (.top, hset h id (.map l'))
        | _, _ => none
      | _, _ => none
    | none => none
def evTypeAssert (E : Env) (tm : List AV) (h : Heap) (b : Nat) (x : Operand) (t : TypeId) (ok : Bool) : Option (AV × Heap) :=
  let ρ := evalO E.glob tm
  match E.T t, ρ x with
    | some d, .iface u v => match d.tk with
      | .iface => none
      | _ => if Nat.beq u t then some (if ok then .tup [v, .bool true] else v, h) else none
    | _, _ => none
def evExtract (E : Env) (tm : List AV) (h : Heap) (b : Nat) (t : Operand) (i : Nat) : Option (AV × Heap) :=
  let ρ := evalO E.glob tm
  match ρ t with
    | .tup l => (l[i]?).map fun v => (v, h)
    | _ => none
def evBuiltin (E : Env) (tm : List AV) (h : Heap) (b : Nat) (o : Builtin) (args : Array Operand) (argTypes : Array TypeId) : Option (AV × Heap) :=
  let ρ := evalO E.glob tm

    match o, args.toList.map ρ with
    | .len, [x] => match (argTypes[0]?).bind E.T with
      | some d => match d.tk, x with
        | .str, .str s => some (.int .i64 s.size, h)
        | .array n _, _ => some (.int .i64 n, h)
        | .slice _, .nilsl => some (.int .i64 0, h)
        | .slice _, x => (slOf h x).map fun q => (.int .i64 q.2.2.2, h)
        | _, _ => none
      | none => none
    | .cap, [x] => match (argTypes[0]?).bind E.T with
      | some d => match d.tk, x with
        | .slice _, .nilsl => some (.int .i64 0, h)
        | .slice _, .sl _ _ _ (.is c) => some (.int .i64 c, h)
        | _, _ => none
      | none => none
    | .append, [s, x] => match argTypes.toList with
      | [sT, xT] => match E.T sT, E.T xT with
        | some d, some dx => match d.tk with
          | .slice e => match E.T e with
            | some de => match dx.tk with
              | .slice _ | .str => if Nat.blt 0 de.size && Nat.blt 0 de.bytes then appendAV e de.size de.bytes h b s x else none
              | .int _ => match x with
                | .int .i64 n => if Nat.blt 0 de.size && Nat.blt 0 de.bytes && (decide (0 ≤ n) && decide (n.toNat * de.bytes ≤ most)) then (match zeroRows de n.toNat with
                  | some q => appendQ e de.size de.bytes h b s q n.toNat
                  | none => none) else none
                | _ => none
              | _ => none
            | none => none
          | _ => none
        | _, _ => none
      | _ => none
    | .copy, [d, x] => match (argTypes[0]?).bind E.T with
      | some t => match t.tk with
        | .slice e => match E.T e with
          | some de => if Nat.blt 0 de.size then copyAV de.size h d x else none
          | none => none
        | _ => none
      | none => none
    | .unsafeSliceData, [.nilsl] => some (.nilptr, h)
    | .unsafeSliceData, [.sl id win esz cap] => match hget h id with
      | .cells r _ => if atZero win && (Nat.blt 0 (winLen r win esz) || cap.fits 1) then some (.ptr id none [] r.len, h) else none
      | _ => none
    | .unsafeString, [.nilptr, .int .i64 n] => match argTypes.toList with
      | [_, _] => if decide (n = 0) then some (.str .empty, h) else none
      | _ => none
    | .unsafeString, [.ptr id el [] _, .int .i64 n] => match argTypes.toList with
      | [pt, _] => match (if Nat.beq (cellOf el []) 0 then E.T pt else none) with
        | some d => match d.tk, hget h id with
          | .ptr e, .cells r t => if decide (n = 0) then some (.str .empty, h) else
            if oneB E.T e && (Nat.beq t e && (decide (0 ≤ n) && decide (n ≤ 9223372036854775807))) then
              (match r.firstInts .u8 n.toNat with
               | some z => if allBytes z then some (.str (ofL (z.map fun x => UInt8.ofNat x.toNat)), hset h id (.frozen r)) else none
               | none => none)
            else none
          | _, _ => none
        | none => none
      | _ => none
    | .min, [.int k x, .int _ y] => some (.int k (if y < x then y else x), h)
    | .max, [.int k x, .int _ y] => some (.int k (if y > x then y else x), h)
    | _, _ => none
def ixZ (c : Nat) (l : List UInt8) : Nat → Int := List.rec (motive := fun _ => Nat → Int) (fun _ => -1) (fun x _ ih n => Bool.rec (ih (Nat.succ n)) (n : Int) (Nat.beq x.toNat c)) l
def cntZ (c : Nat) (l : List UInt8) : Nat → Nat := List.rec (motive := fun _ => Nat → Nat) (fun n => n) (fun x _ ih n => Bool.rec (ih n) (ih (Nat.succ n)) (Nat.beq x.toNat c)) l
def extAV (k : ExtK) (args : List AV) (h : Heap) (b : Nat) : Option (AV × Heap) :=
  match k, args with
  | .same, [x] => some (x, h)
  | .count, [.str s, .int .u8 c] => some (.int .i64 (cntZ (c.toNat % 256) (bytesL s) 0), h)
  | .index, [.str s, .int .u8 c] => some (.int .i64 (ixZ (c.toNat % 256) (bytesL s) 0), h)
  | .rawBytes t, [.int .i64 n] => if decide (0 ≤ n) && decide (n.toNat ≤ most) then some (.sl b none 1 (.ge n.toNat), hset h b (.cells (.vals (List.replicate n.toNat .top)) t)) else none
  | _, _ => none
def evalOp (E : Env) (tm : List AV) (h : Heap) (b : Nat) (op : Op) : Option (AV × Heap) :=
  match op with
  | .move x | .assign x => evMove E tm h b x
  | .pick c x y => evPick E tm h b c x y
  | .alloc t => evAlloc E tm h b t
  | .box t x => evBox E tm h b t x
  | .build t parts => evBuild E tm h b t parts
  | .buildSlice t n parts => evBuildSlice E tm h b t n parts
  | .load t a => evLoad E tm h b t a
  | .store t a x => evStore E tm h b t a x
  | .nilCheck x => evNilCheck E tm h b x
  | .binOp o t x y _ => evBinOp E tm h b o t x y
  | .unOp o _ x => evUnOp E tm h b o x
  | .convert s d x => evConvert E tm h b s d x
  | .makeInterface t x => evMakeInterface E tm h b t x
  | .makeFunc f first captured => evMakeFunc E tm h b f first captured
  | .makeMap t none => some (.map b, hset h b (.map []))
  | .makeSlice t l c => evMakeSlice E tm h b t l c
  | .slice t x lo hi mx => evSlice E tm h b t x lo hi mx
  | .fieldAddr t x f => evFieldAddr E tm h b t x f
  | .field t x f => evField E tm h b t x f
  | .indexAddr t x i => evIndexAddr E tm h b t x i
  | .index t x i => evIndex E tm h b t x i
  | .lookup t x i ok => evLookup E tm h b t x i ok
  | .mapUpdate t m k v | .insert t m k v => evMapUpdate E tm h b t m k v
  | .typeAssert x _ t ok => evTypeAssert E tm h b x t ok
  | .extract t i => evExtract E tm h b t i
  | .call { callee := .builtin o, args, argTypes } => evBuiltin E tm h b o args argTypes
  | _ => none
/-! ### collecting -/
mutual
def idsV : AV → List Nat
  | .ptr id _ _ _ => [id]
  | .sl id _ _ _ => [id]
  | .raw id _ => [id]
  | .map id => [id]
  | .fn (.yield l) first captured => l :: (idsL first ++ idsL captured)
  | .fn _ first captured => idsL first ++ idsL captured
  | .iface _ v => idsV v
  | .vptr r _ _ _ => idsR r
  | .vs r _ _ _ => idsR r
  | .agg r => idsR r
  | .tup l => idsL l
  | _ => []
def idsR : Row → List Nat
  | .vals l => idsL l
  | _ => []
def idsL : List AV → List Nat
  | [] => []
  | v :: l => idsV v ++ idsL l
end
def idsO : AO → List Nat
  | .cells r _ => idsR r
  | .frozen r => idsR r
  | .map l => (l.map fun p => idsV p.1 ++ idsV p.2).flatten
  | .loop _ _ tm _ _ _ => idsL tm
  | .dead => []
def memN (n : Nat) : List Nat → Bool
  | [] => false
  | m :: l => Nat.beq n m || memN n l
def isDead : AO → Bool
  | .dead => true
  | _ => false
/-- the blocks from 'base' on that can be reached, in the order in which they are met -/
def reach (base : Nat) (h : Heap) : Nat → List Nat → List Nat → List Nat
  | 0, _, seen => seen.reverse
  | _ + 1, [], seen => seen.reverse
  | k + 1, id :: todo, seen =>
    if Nat.blt id base || memN id seen then reach base h k todo seen
    else reach base h k (idsO (hget h id) ++ todo) (id :: seen)
def findIx (id : Nat) : List Nat → Nat → Option Nat
  | [], _ => none
  | m :: l, n => if Nat.beq id m then some n else findIx id l (n + 1)
def newId (base : Nat) (old : List Nat) (id : Nat) : Option Nat := if Nat.blt id base then some id else findIx id old base
mutual
def renV (base : Nat) (old : List Nat) : AV → AV
  | .ptr id e p n => match newId base old id with | some j => .ptr j e p n | none => .top
  | .sl id w e c => match newId base old id with | some j => .sl j w e c | none => .top
  | .raw id n => match newId base old id with | some j => .raw j n | none => .top
  | .map id => match newId base old id with | some j => .map j | none => .top
  | .fn (.yield l) first captured => match newId base old l with | some j => .fn (.yield j) (renL base old first) (renL base old captured) | none => .top
  | .fn f first captured => .fn f (renL base old first) (renL base old captured)
  | .iface t v => .iface t (renV base old v)
  | .vptr r e p n => .vptr (renR base old r) e p n
  | .vs r w e t => .vs (renR base old r) w e t
  | .agg r => .agg (renR base old r)
  | .tup l => .tup (renL base old l)
  | v => v
def renR (base : Nat) (old : List Nat) : Row → Row
  | .vals l => .vals (renL base old l)
  | r => r
def renL (base : Nat) (old : List Nat) : List AV → List AV
  | [] => []
  | v :: l => renV base old v :: renL base old l
end
def renO (base : Nat) (old : List Nat) : AO → AO
  | .cells r t => .cells (renR base old r) t
  | .frozen r => .frozen (renR base old r)
  | .map l => .map (l.map fun p => (renV base old p.1, renV base old p.2))
  | .loop s c tm ps a b => .loop s c (renL base old tm) ps a b
  | .dead => .dead
def hfuel (h : Heap) : Nat := 16 * (h.length + 64)
def keepL (live : List Nat) : List AV → Nat → List AV
  | [], _ => []
  | v :: l, n => (if memN n live then v else .top) :: keepL live l (n + 1)
def takeH : Heap → Nat → Heap
  | _, 0 => []
  | [], _ => []
  | o :: h, n + 1 => o :: takeH h n
def rootsH (h : Heap) (base : Nat) : List Nat := ((takeH h base).map idsO).flatten
def compact (base : Nat) (h : Heap) (old : List Nat) : Heap :=
  (takeH h base).map (renO base old) ++ old.map fun id => renO base old (hget h id)
/-- at a loop's head: live temporaries alone, the heap that they reach -/
def tidy (base : Nat) (live : List Nat) (tm : List AV) (h : Heap) : List AV × Heap :=
  let tm1 := keepL live tm 0
  let old := reach base h (hfuel h) (idsL tm1 ++ rootsH h base) []
  (renL base old tm1, compact base h old)
/-- at a call's end -/
def tidyV (base : Nat) (v : AV) (h : Heap) : AV × Heap :=
  let old := reach base h (hfuel h) (idsV v ++ rootsH h base) []
  (renV base old v, compact base h old)

/-! ### code -/
inductive Ex where
  | normal
  | exit (id : Nat)
  | ret
structure St where
  tm : List AV
  hp : Heap
inductive Callee where
  | fn (f : FuncId)
  | yield (l : Nat)
abbrev Inl := Callee → List AV → Heap → Option (AV × Heap)
mutual
/-- a call's own new blocks, as the caller numbers them -/
def shV (b : Nat) : AV → AV
  | .ptr j e p n => .ptr (b + j) e p n
  | .sl j w e c => .sl (b + j) w e c
  | .raw _ _ => .top
  | .map j => .map (b + j)
  | .fn (.yield _) _ _ => .top
  | .fn f first captured => .fn f (shL b first) (shL b captured)
  | .iface t v => .iface t (shV b v)
  | .vptr r e p n => .vptr (shR b r) e p n
  | .vs r w e t => .vs (shR b r) w e t
  | .agg r => .agg (shR b r)
  | .tup l => .tup (shL b l)
  | .far _ => .top
  | v => v
def shR (b : Nat) : Row → Row
  | .vals l => .vals (shL b l)
  | r => r
def shL (b : Nat) : List AV → List AV
  | [] => []
  | v :: l => shV b v :: shL b l
end
def shO (b : Nat) : AO → AO
  | .cells r t => .cells (shR b r) t
  | .frozen r => .frozen (shR b r)
  | .map l => .map (l.map fun p => (shV b p.1, shV b p.2))
  | _ => .dead
def scalarAV : AV → Bool
  | .bool _ | .int _ _ | .str _ | .agg (.ints ..) => true
  | .tup l => l.all fun | .bool _ | .int _ _ | .str _ | .agg (.ints ..) => true | _ => false
  | _ => false
def putNew (h : Heap) : Nat → List AO → Heap
  | _, [] => h
  | b, o :: os => putNew (hset h b o) (b + 1) os
/-- an argument without places of its own -/
def pureArg (h : Heap) (v : AV) : Option (AV × Heap) :=
  match v with
  | .agg (.ints k n z) => some (.agg (.ints k n z), h)
  | .agg (.vals (.int k x :: l)) => (match allInts k l with | some z => some (.agg (.ints k (z.length + 1) (x :: z)), h) | none => none)
  | v => purify h v
def pureArgs (h : Heap) : List AV → Option (List AV × Heap)
  | [] => some ([], h)
  | v :: l => match pureArg h v with
    | some (v', h') => match pureArgs h' l with
      | some (l', h'') => some (v' :: l', h'')
      | none => none
    | none => none
def callCon (c : Con) (args : List AV) (h : Heap) (b : Nat) : Option (AV × Heap) :=
  match pureArgs h args with
  | none => none
  | some (args, h1) => match c.run args with
    | none => none
    | some (v, h2) =>
      if Nat.beq h2.length c.fresh then
        (if Nat.beq c.fresh 0 && scalarAV v then some (v, h) else some (shV b v, putNew h1 b (h2.map (shO b))))
      else none
def callee (f : AV) (args : List AV) : Option (Callee × List AV) :=
  match f with
  | .fn (.func g) first captured => some (.fn g, first ++ args ++ captured)
  | .fn (.yield l) [] [] => some (.yield l, args)
  | _ => none
def callAV (E : Env) (inl : Inl) (n : Nat) (f : AV) (args : List AV) (h : Heap) (b : Nat) : Option (AV × Heap) :=
  match callee f args with
  | some (.fn g, args) => match E.ext g with
    | some k => if Nat.ble (extFresh k) n then extAV k args h b else none
    | none => match E.con g with
    | some c => if Nat.ble c.fresh n then callCon c args h b else inl (.fn g) args h
    | none => inl (.fn g) args h
  | some (.yield l, args) => inl (.yield l) args h
  | none => none
def dstSet (tm : List AV) (d : Option Tmp) (v : AV) : List AV := match d with | some d => tset tm d v | none => tm
def guardB (ops : Array Oper) (tm : List AV) (o : Oper) : Option Bool :=
  match o.guard with
  | none => some true
  | some (j, want) => match (nthR ops.toList j).bind (·.dst) with
    | some d => match tget tm d with
      | .bool b => some (b == want)
      | .tup _ => some false
      | _ => none
    | none => none
def pad (h : Heap) : Nat → Heap
  | 0 => h
  | n + 1 => pad (h ++ [.dead]) n
def stepOp (E : Env) (inl : Inl) (tm : List AV) (h : Heap) (b : Nat) (op : Op) : Option (AV × Heap) :=
  match op with
  | .call { callee := .value f, args, .. } => callAV E inl (freshOf E op) (evalO E.glob tm f) (args.toList.map (evalO E.glob tm)) h b
  | op => evalOp E tm h b op
/-- a list with one place set, handed on spelled out (the kernel is lazy: else sets pile up) -/
def tsetK {R : Type} (l : List AV) : Nat → AV → (List AV → R) → R :=
  List.rec (motive := fun _ => Nat → AV → (List AV → R) → R) (fun _ _ k => k []) (fun x l ih n v k => Bool.rec (ih (Nat.pred n) v fun l' => k (x :: l')) (k (v :: l)) (Nat.beq n 0)) l
theorem tsetK_eq {R : Type} : ∀ (l : List AV) (n : Nat) (v : AV) (k : List AV → R), tsetK l n v k = k (tset l n v)
  | [], _, _, _ => rfl
  | _ :: _, 0, _, _ => rfl
  | x :: l, n + 1, v, k => tsetK_eq l n v fun l' => k (x :: l')
def dstK {R : Type} (tm : List AV) (d : Option Tmp) (v : AV) (k : List AV → R) : R := Option.rec (k tm) (fun d => tsetK tm d v k) d
theorem dstK_eq {R : Type} (tm : List AV) (d : Option Tmp) (v : AV) (k : List AV → R) : dstK tm d v k = k (dstSet tm d v) := by
  cases d with
  | none => rfl
  | some d => exact tsetK_eq tm d v k
def runStep (E : Env) (inl : Inl) (ops : Array Oper) (o : Oper) (b : Nat) (s : St) (k : Nat → St → Option St) : Option St :=
  match guardB ops s.tm o with
  | none => none
  | some g => Bool.rec (dstK s.tm o.dst (.tup []) fun tm => k (b + freshOf E o.op) { s with tm })
      (match stepOp E inl s.tm s.hp b o.op with
       | none => none
       | some (v, h) => dstK s.tm o.dst v fun tm => k (b + freshOf E o.op) { tm, hp := h }) g
def runOps (E : Env) (inl : Inl) (ops : Array Oper) (b : Nat) (l : List Oper) (s : St) : Option St :=
  List.rec (motive := fun _ => Nat → St → Option St) (fun _ s => some s) (fun o _ ih b s => runStep E inl ops o b s ih) l b s
theorem runOps_nil (E : Env) (inl : Inl) (ops : Array Oper) (b : Nat) (s : St) : runOps E inl ops b [] s = some s := rfl
theorem runOps_cons (E : Env) (inl : Inl) (ops : Array Oper) (b : Nat) (o : Oper) (l : List Oper) (s : St) : runOps E inl ops b (o :: l) s =
    match guardB ops s.tm o with
    | none => none
    | some g =>
      if g then
        match stepOp E inl s.tm s.hp b o.op with
        | none => none
        | some (v, h) => runOps E inl ops (b + freshOf E o.op) l { tm := dstSet s.tm o.dst v, hp := h }
      else runOps E inl ops (b + freshOf E o.op) l { s with tm := dstSet s.tm o.dst (.tup []) } := by
  show runStep E inl ops o b s _ = _
  unfold runStep
  cases guardB ops s.tm o with
  | none => rfl
  | some g =>
    cases g with
    | false => exact dstK_eq _ _ _ _
    | true =>
      show (match stepOp E inl s.tm s.hp b o.op with | none => none | some (v, h) => _) = _
      cases stepOp E inl s.tm s.hp b o.op with
      | none => rfl
      | some q => obtain ⟨v, h⟩ := q; exact dstK_eq _ _ _ _
def needs (E : Env) : List Oper → Nat
  | [] => 0
  | o :: l => freshOf E o.op + needs E l
def runReg (E : Env) (inl : Inl) (ops : Array Oper) (s : St) : Option St :=
  runOps E inl ops s.hp.length ops.toList { s with hp := pad s.hp (needs E ops.toList) }
/-! ### a region whose order is drawn -/
inductive Cls where
  | pure | make | read | turn
def isArrT (T : TT) (t : TypeId) : Bool := match T t with | some d => (match d.tk with | .array _ _ => true | _ => false) | none => false
def clsConv (T : TT) (s d : TypeId) : Cls :=
  match T s, T d with
  | some x, some y => match x.tk, y.tk with
    | .slice _, .str => .read
    | .str, .slice _ => .make
    | .slice _, .slice _ | .ptr _, .uptr | .uptr, .ptr _ => .read
    | _, _ => .pure
  | _, _ => .turn
def clsOf (T : TT) (op : Op) : Cls :=
  match op with
  | .move _ | .assign _ | .pick _ _ _ | .build _ _ | .nilCheck _ | .binOp _ _ _ _ _ | .unOp _ _ _ | .makeInterface _ _ | .makeFunc _ _ _ | .fieldAddr _ _ _ | .field _ _ _ | .index _ _ _ | .typeAssert _ _ _ _ | .extract _ _ => .pure
  | .indexAddr t _ _ => Bool.rec .read .pure (isArrT T t)
  | .load _ _ | .slice _ _ _ _ _ | .lookup _ _ _ _ => .read
  | .call { callee := .builtin .len, .. } | .call { callee := .builtin .cap, .. } => .read
  | .call { callee := .builtin .min, .. } | .call { callee := .builtin .max, .. } => .pure
  | .alloc _ | .box _ _ | .buildSlice _ _ _ | .makeSlice _ _ _ | .makeMap _ none => .make
  | .convert s d _ => clsConv T s d
  | _ => .turn
def memB (m i : Nat) : Bool := Nat.beq (Nat.land (Nat.shiftRight m i) 1) 1
structure PS where
  i : Nat
  o : Oper
  past : Nat
  cls : Cls
def edgeMask (pasts : List Nat) : List Edge → Nat
  | [] => 0
  | e :: l => if Region.binds .any e then Nat.lor (Nat.lor (Nat.shiftLeft 1 e.on) (pasts.getD e.on 0)) (edgeMask pasts l) else edgeMask pasts l
def edgesLt (i : Nat) (l : List Edge) : Bool := l.all fun e => !Region.binds .any e || Nat.blt e.on i
def mkItems (T : TT) : List Oper → List Nat → Option (List PS)
  | [], _ => some []
  | o :: l, pasts =>
    if edgesLt pasts.length o.after.toList then
      (let m := edgeMask pasts o.after.toList
       match mkItems T l (pasts ++ [m]) with
       | some r => some (⟨pasts.length, o, m, clsOf T o.op⟩ :: r)
       | none => none)
    else none
def isTurn (p : PS) : Bool := match p.cls with | .turn => true | _ => false
def lvl (turns : List PS) (p : PS) : Nat := List.rec 0 (fun t _ ih => Bool.rec ih (Nat.succ ih) (memB p.past t.i)) turns
/-- the readers of each level ahead of its change -/
def ordFrom (items turns : List PS) : Nat → Nat → List PS
  | 0, _ => []
  | n + 1, k => (items.filter fun p => !isTurn p && Nat.beq (lvl turns p) k) ++ ((turns.filter fun p => Nat.beq (lvl turns p) k) ++ ordFrom items turns n (k + 1))
def clsPair : Cls → Cls → Bool
  | .turn, .turn | .turn, .read => false
  | _, _ => true
def notIn (d : Option Tmp) (l : List Tmp) : Bool := match d with | some d => !memN d l | none => true
def dstNe (d e : Option Tmp) : Bool := match d, e with | some d, some e => !Nat.beq d e | _, _ => true
def apartB (ops : Array Oper) (x y : Oper) : Bool := notIn x.dst (y.looksAt ops) && (notIn y.dst (x.looksAt ops) && dstNe x.dst y.dst)
def pairB (ops : Array Oper) (p q : PS) : Bool := !Nat.beq p.i q.i && (!memB p.past q.i && (memB q.past p.i || (apartB ops p.o q.o && clsPair p.cls q.cls)))
def pairsB (ops : Array Oper) : List PS → Bool
  | [] => true
  | p :: l => !memB p.past p.i && (l.all (pairB ops p) && pairsB ops l)
def planOf (T : TT) (ops : Array Oper) : Option (List PS) :=
  match mkItems T ops.toList [] with
  | none => none
  | some items =>
    let turns := items.filter isTurn
    let l := ordFrom items turns (turns.length + 1) 0
    if Nat.beq l.length items.length && ((items.all fun p => l.any fun q => Nat.beq q.i p.i) && pairsB ops l) then some l else none
structure RdE where
  past : Nat
  ask : Heap → Option AV
  v : AV
structure DS where
  tm : List AV
  G : Heap
  fl : List (Option AO)
  rd : List (Option RdE)
/-- the new blocks of makers, laid into the heap -/
def putF (sel : Nat → Bool) (blk : Nat → Nat) : List (Option AO) → Nat → Heap → Heap
  | [], _, G => G
  | none :: l, i, G => putF sel blk l (i + 1) G
  | some c :: l, i, G => putF sel blk l (i + 1) (if sel i then hset G (blk i) c else G)
def clearF (past : Nat) : List (Option AO) → Nat → List (Option AO)
  | [], _ => []
  | none :: l, i => none :: clearF past l (i + 1)
  | some c :: l, i => (if memB past i then none else some c) :: clearF past l (i + 1)
/-- the blocks of makers that are not ahead of a change lie dead behind it -/
def hidB (blk : Nat → Nat) (G : Heap) (past : Nat) : List Nat → Bool
  | [] => true
  | i :: l => (memB past i || isDead (hget G (blk i))) && hidB blk G past l
mutual
def eqV : AV → AV → Bool
  | .bool a, .bool b => Bool.rec (!b) b a
  | .int k x, .int k' y => kEq k k' && (x == y)
  | .str s, .str t => eqB s t
  | .ptr id e p n, .ptr id' e' p' n' => Nat.beq id id' && (decide (e = e') && (decide (p = p') && Nat.beq n n'))
  | .vptr r e p n, .vptr r' e' p' n' => eqRow r r' && (decide (e = e') && (decide (p = p') && Nat.beq n n'))
  | .nilptr, .nilptr | .nilsl, .nilsl | .nilmap, .nilmap | .nilfn, .nilfn | .nilif, .nilif => true
  | .sl id w e c, .sl id' w' e' c' => Nat.beq id id' && (decide (w = w') && (Nat.beq e e' && decide (c = c')))
  | .vs r w e c, .vs r' w' e' c' => eqRow r r' && (decide (w = w') && (Nat.beq e e' && Bool.rec (!c') c' c))
  | .map id, .map id' => Nat.beq id id'
  | .raw id n, .raw id' n' => Nat.beq id id' && Nat.beq n n'
  | .iface t v, .iface t' v' => Nat.beq t t' && eqV v v'
  | .agg r, .agg r' => eqRow r r'
  | .tup l, .tup l' => eqVL l l'
  | .far a, .far b => eqV a b
  | .fn (.func f) l r, .fn (.func g) l' r' => Nat.beq f g && (eqVL l l' && eqVL r r')
  | .top, .top => true
  | _, _ => false
def eqRow : Row → Row → Bool
  | .vals l, .vals l' => eqVL l l'
  | .ints k n z, .ints k' n' z' => kEq k k' && (Nat.beq n n' && decide (z = z'))
  | .rows k w n z, .rows k' w' n' z' => kEq k k' && (Nat.beq w w' && (Nat.beq n n' && decide (z = z')))
  | .pure n l, .pure n' l' => Nat.beq n n' && eqVL l l'
  | _, _ => false
def eqVL : List AV → List AV → Bool
  | [], [] => true
  | a :: l, b :: r => eqV a b && eqVL l r
  | _, _ => false
end
/-- readers that may come behind a change tell the same behind it -/
def again (blk : Nat → Nat) (G : Heap) (fl : List (Option AO)) (past : Nat) : List (Option RdE) → Nat → Bool
  | [], _ => true
  | none :: l, i => again blk G fl past l (i + 1)
  | some r :: l, i => (memB past i || (match r.ask (putF (memB r.past) blk fl 0 G) with | some v => eqV v r.v | none => false)) && again blk G fl past l (i + 1)
def stepV (E : Env) (inl : Inl) (ops : Array Oper) (blk : Nat → Nat) (mk : List Nat) (p : PS) (tm : List AV) (G : Heap) (fl : List (Option AO)) (rd : List (Option RdE)) : Option (AV × Heap × List (Option AO) × List (Option RdE)) :=
  match guardB ops tm p.o with
  | none => none
  | some false => some (.tup [], G, fl, rd)
  | some true =>
    match p.cls with
    | .pure => match evalOp E tm [] 0 p.o.op with
      | some (v, _) => some (v, G, fl, rd)
      | none => none
    | .make => match evalOp E tm [] (blk p.i) p.o.op, evalOp E tm [.dead] 0 p.o.op with
      | some (v, _), some (_, h) => some (v, G, fl.set p.i (some (hget h 0)), rd)
      | _, _ => none
    | .read => match evalOp E tm (putF (memB p.past) blk fl 0 G) (blk p.i) p.o.op with
      | some (v, _) => some (v, G, fl, rd.set p.i (some ⟨p.past, fun h => (evalOp E tm h (blk p.i) p.o.op).map Prod.fst, v⟩))
      | none => none
    | .turn => match stepOp E inl tm (putF (memB p.past) blk fl 0 G) (blk p.i) p.o.op with
      | some (v, G') => if hidB blk G' p.past mk && again blk G' (clearF p.past fl 0) p.past rd 0 then some (v, G', clearF p.past fl 0, rd) else none
      | none => none
def stepD (E : Env) (inl : Inl) (ops : Array Oper) (blk : Nat → Nat) (mk : List Nat) (p : PS) (s : DS) : Option DS :=
  match stepV E inl ops blk mk p s.tm s.G s.fl s.rd with
  | some (v, G, fl, rd) => dstK s.tm p.o.dst v fun tm => some { tm, G, fl, rd }
  | none => none
def runD (E : Env) (inl : Inl) (ops : Array Oper) (blk : Nat → Nat) (mk : List Nat) : List PS → DS → Option DS
  | [], s => some s
  | p :: l, s => match stepD E inl ops blk mk p s with
    | some s' => runD E inl ops blk mk l s'
    | none => none
def makersOf : List PS → List Nat
  | [] => []
  | p :: l => match p.cls with
    | .make => p.i :: makersOf l
    | _ => makersOf l
def offAt (E : Env) : List Oper → Nat → Nat
  | _, 0 => 0
  | [], _ => 0
  | o :: l, i + 1 => freshOf E o.op + offAt E l i
def runDraw (E : Env) (inl : Inl) (ops : Array Oper) (s : St) : Option St :=
  match planOf E.T ops with
  | none => none
  | some l =>
    let blk := fun i => s.hp.length + offAt E ops.toList i
    match runD E inl ops blk (makersOf l) l { tm := s.tm, G := pad s.hp (needs E ops.toList), fl := List.replicate ops.size none, rd := List.replicate ops.size none } with
    | some d => some { tm := d.tm, hp := putF (fun _ => true) blk d.fl 0 d.G }
    | none => none
def firstReg : Code → Nat
  | .region id _ _ => id
  | .seq a _ => firstReg a
  | .block _ c => firstReg c
  | _ => 0
def iterStep (r : Option (Ex × St)) (k : St → Option (Ex × St)) : Option (Ex × St) :=
  match r with
  | none => none
  | some (.normal, s') => k s'
  | some (e, s') => some (e, s')
def iter (body : St → Option (Ex × St)) (td : St → St) (n : Nat) (s : St) : Option (Ex × St) :=
  Nat.rec (motive := fun _ => St → Option (Ex × St)) (fun _ => none) (fun _ ih s => iterStep (body s) fun s' => ih (td s')) n s
theorem iter_zero (body : St → Option (Ex × St)) (td : St → St) (s : St) : iter body td 0 s = none := rfl
theorem iter_succ (body : St → Option (Ex × St)) (td : St → St) (k : Nat) (s : St) : iter body td (k + 1) s =
    match body s with
    | none => none
    | some (.normal, s') => iter body td k (td s')
    | some (e, s') => some (e, s') := rfl
structure Cx where
  E : Env
  fn : FuncId
  base : Nat
  k : Nat
  inl : Inl
  /-- the loop whose round runs -/
  round : Option Nat
def isLoop : AO → Bool
  | .loop .. => true
  | _ => false
def roundOK (r : Option Nat) (h : Heap) : Bool := match r with | none => true | some r => isLoop (hget h r)
def tidyS (base : Nat) (l : List Nat) (s : St) : St := let q := tidy base l s.tm s.hp; ⟨q.1, q.2⟩
def tdOf (base : Nat) (live : Option (List Nat)) (s : St) : St := match live with | some l => tidyS base l s | none => s
def cSeq (r : Option (Ex × St)) (k : St → Option (Ex × St)) : Option (Ex × St) :=
  match r with
  | some (.normal, s') => k s'
  | r => r
def cCond (c : AV) (a b : Option (Ex × St)) : Option (Ex × St) :=
  match c with
  | .bool t => Bool.rec b a t
  | _ => none
def cBlock (id : Nat) (r : Option (Ex × St)) : Option (Ex × St) :=
  match r with
  | some (.exit i, s') => if Nat.beq i id then some (.normal, s') else some (.exit i, s')
  | r => r
def cRange (X : Cx) (f : Operand) (ps : Array Tmp) (assign body : Code) (s : St) : Option (Ex × St) :=
    match evalO X.E.glob s.tm f with
    | .fn (.func g) first captured =>
      if roundOK X.round s.hp then
        match X.inl (.fn g) (first ++ [.fn (.yield s.hp.length) [] []] ++ captured) (s.hp ++ [.loop .ready none s.tm ps.toList assign body]) with
        | none => none
        | some (_, h) => match hget h s.hp.length with
          | .loop .busy _ _ _ _ _ => none
          | .loop _ none _ _ _ _ => some (.normal, { s with hp := hset h s.hp.length .dead })
          | .loop _ (some .ret) _ _ _ _ => some (.ret, { s with hp := hset h s.hp.length .dead })
          | .loop _ (some (.exit id)) _ _ _ _ => some (.exit id, { s with hp := hset h s.hp.length .dead })
          | _ => none
      else none
    | _ => none
def cRegion (X : Cx) (ops : Array Oper) (draw : Bool) (s : St) : Option (Ex × St) := match (if draw then runDraw X.E X.inl ops s else runReg X.E X.inl ops s) with | some s' => some (.normal, s') | none => none
def cLoop (X : Cx) (c : Code) (body : St → Option (Ex × St)) (s : St) : Option (Ex × St) := iter body (tdOf X.base (X.E.live X.fn (firstReg c))) X.k (tdOf X.base (X.E.live X.fn (firstReg c)) s)
def evalCode (X : Cx) (c : Code) : St → Option (Ex × St) :=
  Code.rec (motive := fun _ => St → Option (Ex × St))
    (fun s => some (.normal, s))
    (fun _ ops draw s => cRegion X ops draw s)
    (fun _ _ a b s => cSeq (a s) b)
    (fun c _ _ a b s => cCond (evalO X.E.glob s.tm c) (a s) (b s))
    (fun id _ a s => cBlock id (a s))
    (fun c a s => cLoop X c a s)
    (fun f ps assign body _ _ s => cRange X f ps assign body s)
    (fun id s => some (.exit id, s))
    (fun _ _ _ => none)
    (fun _ s => some (.normal, s))
    (fun _ _ => none)
    (fun s => some (.ret, s))
    (fun _ _ => none) c
theorem evalCode_skip (X : Cx) (s : St) : evalCode X .skip s = some (.normal, s) := rfl
theorem evalCode_label (X : Cx) (l : Nat) (s : St) : evalCode X (.label l) s = some (.normal, s) := rfl
theorem evalCode_exit (X : Cx) (l : Nat) (s : St) : evalCode X (.exit l) s = some (.exit l, s) := rfl
theorem evalCode_ret (X : Cx) (s : St) : evalCode X .ret s = some (.ret, s) := rfl
theorem evalCode_goto (X : Cx) (l : Nat) (s : St) : evalCode X (.goto l) s = none := rfl
theorem evalCode_refuse (X : Cx) (l : String) (s : St) : evalCode X (.refuse l) s = none := rfl
theorem evalCode_scope (X : Cx) (c : Code) (s : St) : evalCode X (.scope c) s = none := rfl
theorem evalCode_seq (X : Cx) (a b : Code) (s : St) : evalCode X (.seq a b) s = match evalCode X a s with
    | some (.normal, s') => evalCode X b s'
    | r => r := rfl
theorem evalCode_cond (X : Cx) (c : Operand) (a b : Code) (s : St) : evalCode X (.cond c a b) s = match evalO X.E.glob s.tm c with
    | .bool t => if t then evalCode X a s else evalCode X b s
    | _ => none := by
  show cCond _ _ _ = _
  unfold cCond
  cases evalO X.E.glob s.tm c with
  | bool t => cases t <;> rfl
  | _ => rfl
theorem evalCode_block (X : Cx) (id : Nat) (c : Code) (s : St) : evalCode X (.block id c) s = match evalCode X c s with
    | some (.exit i, s') => if Nat.beq i id then some (.normal, s') else some (.exit i, s')
    | r => r := rfl
theorem evalCode_loop (X : Cx) (c : Code) (s : St) : evalCode X (.loop c) s = iter (evalCode X c) (tdOf X.base (X.E.live X.fn (firstReg c))) X.k (tdOf X.base (X.E.live X.fn (firstReg c)) s) := rfl
theorem evalCode_region (X : Cx) (id : Nat) (ops : Array Oper) (draw : Bool) (s : St) : evalCode X (.region id ops draw) s = match (if draw then runDraw X.E X.inl ops s else runReg X.E X.inl ops s) with | some s' => some (.normal, s') | none => none := rfl
theorem evalCode_range (X : Cx) (f : Operand) (ps : Array Tmp) (assign body : Code) (s : St) : evalCode X (.rangeFunc f ps assign body) s =
    match evalO X.E.glob s.tm f with
    | .fn (.func g) first captured =>
      if roundOK X.round s.hp then
        match X.inl (.fn g) (first ++ [.fn (.yield s.hp.length) [] []] ++ captured) (s.hp ++ [.loop .ready none s.tm ps.toList assign body]) with
        | none => none
        | some (_, h) => match hget h s.hp.length with
          | .loop .busy _ _ _ _ _ => none
          | .loop _ none _ _ _ _ => some (.normal, { s with hp := hset h s.hp.length .dead })
          | .loop _ (some .ret) _ _ _ _ => some (.ret, { s with hp := hset h s.hp.length .dead })
          | .loop _ (some (.exit id)) _ _ _ _ => some (.exit id, { s with hp := hset h s.hp.length .dead })
          | _ => none
      else none
    | _ => none := rfl
def setParams (tm : List AV) : List Nat → List AV → Option (List AV)
  | [], [] => some tm
  | t :: ts, v :: vs => setParams (tset tm t v) ts vs
  | _, _ => none
def results1 (E : Env) (tm : List AV) (h : Heap) : List ResultVar → Option (List AV)
  | [] => some []
  | .tmp t :: l => (results1 E tm h l).map fun r => tget tm t :: r
  | .cell a t :: l => match E.T t with
    | some d => match loadAV d h (tget tm a) with
      | some v => (results1 E tm h l).map fun r => v :: r
      | none => none
    | none => none
def resultsAV (E : Env) (fn : Func) (tm : List AV) (h : Heap) : Option AV :=
  (results1 E tm h fn.results.toList).map fun l => match l with | [v] => v | l => .tup l
def evalFn (E : Env) (k : Nat) (inl : Inl) (f : FuncId) (fn : Func) (args : List AV) (h : Heap) : Option (AV × Heap) :=
  match fn.body with
  | none => none
  | some c =>
    match evalCode { E, fn := f, base := h.length, k, inl, round := none } c { tm := args ++ List.replicate (fn.ntmps - args.length) .top, hp := h } with
    | some (.normal, s) | some (.ret, s) => match resultsAV E fn s.tm s.hp with
      | some v => some (tidyV h.length v s.hp)
      | none => none
    | _ => none
def jumpOf : Ex → Option Code
  | .normal => none
  | .ret => some .ret
  | .exit id => some (.exit id)
def setLoop (h : Heap) (l : Nat) (j : Option Code) : Option Heap :=
  match hget h l with
  | .loop _ _ tm ps a b => some (hset h l (.loop (if j.isNone then .ready else .done) j tm ps a b))
  | _ => none
def evalN (E : Env) (k : Nat) : Nat → Inl
  | 0, _, _, _ => none
  | n + 1, .fn f, args, h => match E.fns f with
    | some fn => evalFn E k (evalN E k n) f fn args h
    | none => none
  | n + 1, .yield l, args, h => match hget h l with
    | .loop .ready none tm ps assign body => match setParams tm ps args with
      | none => none
      | some tm1 =>
        match evalCode { E, fn := 1000000, base := h.length, k, inl := evalN E k n, round := some l } assign { tm := tm1, hp := h } with
        | some (.normal, s) => match hget s.hp l with
          | .loop .ready p tm' ps' a' b' =>
            match evalCode { E, fn := 1000000, base := h.length, k, inl := evalN E k n, round := some l } body { s with hp := hset s.hp l (.loop .busy p tm' ps' a' b') } with
            | some (e, s) => match setLoop s.hp l (jumpOf e) with
              | some h' => some (tidyV h.length (.bool (jumpOf e).isNone) h')
              | none => none
            | none => none
          | _ => none
        | _ => none
    | _ => none
end
end Go.Abs
