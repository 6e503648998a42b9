/- The abstract values, the evaluator and the compiler into it. -/
import GoSem.Dispatch
import Derived.Orders
/- The abstract values, the abstract heap and the instructions of a small evaluator for Go functions, and what each instruction does. No program is looked at here. -/
set_option autoImplicit false
namespace Ev
open Go

/-! ### Names of blocks -/
inductive Pos where
  | one
  | b0 (p : Pos)
  | b1 (p : Pos)
  deriving Inhabited

def Pos.beq : Pos → Pos → Bool
  | .one, .one => true
  | .b0 p, .b0 q => p.beq q
  | .b1 p, .b1 q => p.beq q
  | _, _ => false

def Pos.succ : Pos → Pos
  | .one => .b0 .one
  | .b0 p => .b1 p
  | .b1 p => .b0 p.succ

def Pos.ofNat : Nat → Pos
  | 0 => .one
  | n + 1 => (Pos.ofNat n).succ

/-- The name of a package variable's block. -/
def gpos (n : Nat) : Pos := .b0 (Pos.ofNat n)

theorem Pos.beq_eq {p q : Pos} : p.beq q = true ↔ p = q := by
  induction p generalizing q with
  | one => cases q <;> simp [Pos.beq]
  | b0 p ih => cases q <;> simp [Pos.beq, ih]
  | b1 p ih => cases q <;> simp [Pos.beq, ih]

instance : DecidableEq Pos := fun p q => decidable_of_iff (p.beq q = true) Pos.beq_eq

/-! ### A map from names -/
inductive PT (α : Type) where
  | leaf
  | node (v : Option α) (l r : PT α)

def PT.get {α : Type} : PT α → Pos → Option α
  | .leaf, _ => none
  | .node v _ _, .one => v
  | .node _ l _, .b0 p => l.get p
  | .node _ _ r, .b1 p => r.get p

def PT.single {α : Type} (v : α) : Pos → PT α
  | .one => .node (some v) .leaf .leaf
  | .b0 p => .node none (PT.single v p) .leaf
  | .b1 p => .node none .leaf (PT.single v p)

def PT.set {α : Type} (v : α) : PT α → Pos → PT α
  | .leaf, p => PT.single v p
  | .node _ l r, .one => .node (some v) l r
  | .node u l r, .b0 p => .node u (l.set v p) r
  | .node u l r, .b1 p => .node u l (r.set v p)

theorem PT.get_single {α : Type} (v : α) (p q : Pos) : (PT.single v p).get q = if p = q then some v else none := by
  induction p generalizing q with
  | one => cases q <;> simp [PT.single, PT.get]
  | b0 p ih => cases q <;> simp [PT.single, PT.get, ih]
  | b1 p ih => cases q <;> simp [PT.single, PT.get, ih]

theorem PT.get_set {α : Type} (v : α) (t : PT α) (p q : Pos) : (t.set v p).get q = if p = q then some v else t.get q := by
  induction t generalizing p q with
  | leaf => simp [PT.set, PT.get_single, PT.get]
  | node u l r ihl ihr =>
    cases p <;> cases q <;> simp [PT.set, PT.get, ihl, ihr]

/-! ### Abstract values -/
inductive AV where
  | any
  | bool (b : Bool)
  | int (k : IntKind) (n : Int)
  | str (s : List UInt8)
  | nilp
  | ptr (id : Pos) (g i : Nat)
  | nils
  | slice (id : Pos) (g i len : Nat) (cap : Option Nat) (sz : Nat)
  | func (f : Nat) (first captured : List AV)
  | nilFunc
  | iface (t : Nat) (v : AV)
  | nilIface
  | agg (cells : List AV)
  | tup (vs : List AV)
  | handle (t : Nat)
  deriving Inhabited

def AV.cells : AV → Option (List AV)
  | .any => none
  | .tup _ => none
  | .agg cs => some cs
  | v => some [v]

def AV.one : AV → Bool
  | .any => false
  | .tup _ => false
  | .agg _ => false
  | _ => true

/-- A block: its cells, each with the first generation that it stands in; the last generation; its elements' type; whether the call made it. -/
structure VB where
  cells : List (AV × Nat)
  gen : Nat
  elem : Nat
  own : Bool

structure Hp where
  m : PT VB
  next : Pos

def Hp.get (H : Hp) (p : Pos) : Option VB := H.m.get p
def Hp.set (H : Hp) (p : Pos) (b : VB) : Hp := ⟨H.m.set b p, H.next⟩

theorem Hp.get_set (H : Hp) (p q : Pos) (b : VB) : (H.set p b).get q = if p = q then some b else H.get q := by
  simp [Hp.set, Hp.get, PT.get_set]

/-! ### Lists -/
def nth {α : Type} : List α → Nat → Option α
  | [], _ => none
  | a :: _, 0 => some a
  | _ :: l, n + 1 => nth l n

theorem nth_eq {α : Type} (l : List α) (n : Nat) : nth l n = l[n]? := by
  induction l generalizing n with
  | nil => simp [nth]
  | cons a l ih => cases n <;> simp [nth, ih]

def putAt {α : Type} : List α → Nat → α → List α
  | [], _, _ => []
  | _ :: l, 0, v => v :: l
  | a :: l, n + 1, v => a :: putAt l n v

theorem putAt_eq {α : Type} (l : List α) (n : Nat) (v : α) : putAt l n v = l.set n v := by
  induction l generalizing n with
  | nil => simp [putAt]
  | cons a l ih => cases n <;> simp [putAt, ih]

def bytesEq : List UInt8 → List UInt8 → Bool
  | [], [] => true
  | a :: x, b :: y => Nat.beq a.toNat b.toNat && bytesEq x y
  | _, _ => false

theorem bytesEq_iff (x y : List UInt8) : bytesEq x y = true ↔ x = y := by
  induction x generalizing y with
  | nil => cases y <;> simp [bytesEq]
  | cons a x ih =>
    cases y with
    | nil => simp [bytesEq]
    | cons b y =>
      simp only [bytesEq, Bool.and_eq_true, ih, List.cons.injEq, Nat.beq_eq]
      constructor
      · rintro ⟨h, rfl⟩; exact ⟨UInt8.toNat_inj.1 h, rfl⟩
      · rintro ⟨rfl, rfl⟩; exact ⟨rfl, rfl⟩

/-! ### Instructions -/
inductive IArg where
  | t (n : Nat)
  | c (v : AV)
  | g (n : Nat)
  deriving Inhabited

/-- What '==' compares. -/
inductive FK where
  | int | str | bool
  deriving DecidableEq, Inhabited

inductive EK where
  | bool | iface | ifaceL | ptr | slice | func
  | struct (fs : List (Nat × FK))
  deriving Inhabited

inductive IOp where
  | mv (x : IArg)
  | pick (c a b : IArg)
  | build (zero : List AV) (parts : List (Nat × Nat × IArg))
  | nilchk (x : IArg)
  | bin (op : BinOp) (x y : IArg)
  | eql (neg : Bool) (k : EK) (x y : IArg)
  | neg (x : IArg)
  | com (x : IArg)
  | not (x : IArg)
  | conv (k : IntKind) (x : IArg)
  | idm (x : IArg)
  | mki (t : Nat) (x : IArg)
  | mkf (f : Nat) (first captured : List IArg)
  | slice (sz : Nat) (x : IArg) (lo hi mx : Option IArg)
  | sslice (x : IArg) (lo hi : Option IArg)
  | fld (off : Nat) (x : IArg)
  | fldv (off : Nat) (n : Option Nat) (x : IArg)
  | idx (sz : Nat) (x i : IArg)
  | sidx (x i : IArg)
  | len (x : IArg)
  | slen (x : IArg)
  | mx (x : IArg) (xs : List IArg)
  | mn (x : IArg) (xs : List IArg)
  | ext (i : Nat) (x : IArg)
  | tass (t : Nat) (zero : AV) (x : IArg)
  | tassI (ts : List (Nat × Bool)) (zero : AV) (x : IArg)
  -- these read
  | load1 (x : IArg)
  | loadN (n : Nat) (x : IArg)
  | b2s (x : IArg)
  -- these make or write
  | alloc (e : Nat) (zero : List AV)
  | box (e : Nat) (x : IArg)
  | bslice (e sz len : Nat) (zeros : List AV) (parts : List (Nat × Nat × IArg))
  | mkslice (e sz bytes : Nat) (zero : List AV) (l c : IArg)
  | store (n : Nat) (a v : IArg)
  | append (e sz bytes : Nat) (s x : IArg)
  -- these leave the function
  | callf (f : Nat) (args : List IArg)
  | callv (x : IArg) (args : List IArg)
  | inv (ms : List (Nat × Nat)) (x : IArg) (args : List IArg)
  | panic (x : IArg)
  -- these ask whether something is as it was
  | again (d : Nat) (o : IOp)
  deriving Inhabited

structure Ins where
  dst : Option Nat
  guard : Option (Nat × Bool)
  op : IOp

/-! ### What they do -/
abbrev Ev := IArg → AV

def cellsOfList (ev : Ev) : List (Nat × Nat × IArg) → List AV → Option (List AV)
  | [], cs => some cs
  | (off, sz, x) :: rest, cs =>
    match (ev x).cells with
    | some vs => if vs.length = sz ∧ off + sz ≤ cs.length then cellsOfList ev rest (cs.take off ++ vs ++ cs.drop (off + sz)) else none
    | none => none

def asNat? : Int → Option Nat
  | .ofNat n => some n
  | .negSucc _ => none

def inr : AV → Option Nat
  | .int _ (.ofNat n) => some n
  | _ => none

def binInt (op : BinOp) (k : IntKind) (a b : Int) : Option AV :=
  match op with
  | .add => some (.int k (k.wrap (a + b)))
  | .sub => some (.int k (k.wrap (a - b)))
  | .mul => some (.int k (k.wrap (a * b)))
  | .quo => if b = 0 then none else some (.int k (k.wrap (a.tdiv b)))
  | .rem => if b = 0 then none else some (.int k (a.tmod b))
  | .and => some (.int k (k.wrap ((BitVec.ofInt k.bits a &&& BitVec.ofInt k.bits b).toNat)))
  | .or => some (.int k (k.wrap ((BitVec.ofInt k.bits a ||| BitVec.ofInt k.bits b).toNat)))
  | .xor => some (.int k (k.wrap ((BitVec.ofInt k.bits a ^^^ BitVec.ofInt k.bits b).toNat)))
  | .eql => some (.bool (a == b))
  | .neq => some (.bool (a != b))
  | .lss => some (.bool (a < b))
  | .leq => some (.bool (a ≤ b))
  | .gtr => some (.bool (a > b))
  | .geq => some (.bool (a ≥ b))
  | _ => none

def binStr (op : BinOp) (a b : List UInt8) : Option AV :=
  match op with
  | .add => if a.length + b.length ≤ 9223372036854775807 then some (.str (a ++ b)) else none
  | .eql => some (.bool (bytesEq a b))
  | .neq => some (.bool (!bytesEq a b))
  | .lss => some (.bool (Op.bytesLess a b))
  | .leq => some (.bool (Op.bytesLess a b || bytesEq a b))
  | .gtr => some (.bool (!(Op.bytesLess a b || bytesEq a b)))
  | .geq => some (.bool (!Op.bytesLess a b))
  | _ => none

def abin (op : BinOp) (x y : AV) : Option AV :=
  match x, y with
  | .int k a, .int k' b =>
    match op with
    | .shl => if b < 0 then none else some (.int k (k.wrap (a * 2 ^ (min b.toNat k.bits))))
    | .shr => if b < 0 then none else some (.int k (a.fdiv (2 ^ (min b.toNat k.bits))))
    | _ => if k = k' then binInt op k a b else none
  | .str a, .str b => binStr op a b
  | _, _ => none

def fieldsEq (xs ys : List AV) : List (Nat × FK) → Option Bool
  | [] => some true
  | (off, k) :: rest =>
    match k, nth xs off, nth ys off with
    | .int, some (.int k a), some (.int k' b) => if k = k' then (if a = b then fieldsEq xs ys rest else some false) else none
    | .str, some (.str a), some (.str b) => if bytesEq a b then fieldsEq xs ys rest else some false
    | .bool, some (.bool a), some (.bool b) => if a == b then fieldsEq xs ys rest else some false
    | _, _, _ => none

def aeql (k : EK) (x y : AV) : Option Bool :=
  match k, x, y with
  | .bool, .bool a, .bool b => some (a == b)
  | .iface, .nilIface, .iface _ _ => some false
  | .iface, .iface _ _, .nilIface => some false
  | .ifaceL, .nilIface, .nilIface => some true
  | .ifaceL, .nilIface, .iface _ _ => some false
  | .ifaceL, .iface _ _, .nilIface => some false
  | .ptr, .nilp, .nilp => some true
  | .ptr, .nilp, .ptr _ _ _ => some false
  | .ptr, .ptr _ _ _, .nilp => some false
  | .slice, .nils, .nils => some true
  | .slice, .nils, .slice _ _ _ _ _ _ => some false
  | .slice, .slice _ _ _ _ _ _, .nils => some false
  | .func, .nilFunc, .nilFunc => some true
  | .func, .nilFunc, .func _ _ _ => some false
  | .func, .func _ _ _, .nilFunc => some false
  | .struct fs, .agg xs, .agg ys => fieldsEq xs ys fs
  | _, _, _ => none

def bound (ev : Ev) (d : Nat) : Option IArg → Option Nat
  | none => some d
  | some x => inr (ev x)

def aslice (ev : Ev) (sz : Nat) (x : AV) (lo hi mx : Option IArg) : Option AV :=
  match x with
  | .nils =>
    match bound ev 0 lo, bound ev 0 hi, bound ev 0 mx with
    | some 0, some 0, some 0 => some .nils
    | _, _, _ => none
  | .slice id g i len cap sz' =>
    if sz = sz' then
      match cap with
      | some c =>
        match bound ev 0 lo, bound ev len hi, bound ev c mx with
        | some l, some h, some m =>
          if l ≤ h ∧ h ≤ m ∧ m ≤ c then some (.slice id g (if m = l then i else i + l * sz) (h - l) (some (m - l)) sz) else none
        | _, _, _ => none
      | none =>
        match bound ev 0 lo, bound ev len hi, mx with
        | some l, some h, none =>
          if l ≤ h ∧ h ≤ len ∧ (l < h ∨ l = 0) then some (.slice id g (i + l * sz) (h - l) none sz) else none
        | some l, some h, some x =>
          match inr (ev x) with
          | some m => if l ≤ h ∧ h ≤ m ∧ m ≤ len then some (.slice id g (if m = l then i else i + l * sz) (h - l) (some (m - l)) sz) else none
          | none => none
        | _, _, _ => none
    else none
  | _ => none

def asslice (ev : Ev) (x : AV) (lo hi : Option IArg) : Option AV :=
  match x with
  | .str s =>
    match bound ev 0 lo, bound ev s.length hi with
    | some l, some h => if l ≤ h ∧ h ≤ s.length then some (.str ((s.drop l).take (h - l))) else none
    | _, _ => none
  | _ => none

def amax : Int → List AV → IntKind → Option Int
  | a, [], _ => some a
  | a, .int k' b :: rest, k => if k = k' then amax (if b > a then b else a) rest k else none
  | _, _, _ => none
def amin : Int → List AV → IntKind → Option Int
  | a, [], _ => some a
  | a, .int k' b :: rest, k => if k = k' then amin (if b < a then b else a) rest k else none
  | _, _, _ => none

def natMem (t : Nat) : List (Nat × Bool) → Option Bool
  | [] => none
  | (a, b) :: l => if a = t then some b else natMem t l

/-- The operations that only reckon. -/
def xpure (ev : Ev) : IOp → Option AV
  | .mv x => some (ev x)
  | .pick c a b => match ev c with
    | .bool true => some (ev a)
    | .bool false => some (ev b)
    | _ => none
  | .build zero parts => (cellsOfList ev parts zero).map .agg
  | .nilchk x => match ev x with
    | .ptr id g i => some (.ptr id g i)
    | .iface t v => some (.iface t v)
    | .func f a c => some (.func f a c)
    | _ => none
  | .bin op x y => abin op (ev x) (ev y)
  | .eql neg k x y => (aeql k (ev x) (ev y)).map fun b => .bool (if neg then !b else b)
  | .neg x => match ev x with
    | .int k n => some (.int k (k.wrap (0 - n)))
    | _ => none
  | .com x => match ev x with
    | .int k n => some (.int k (k.wrap ((BitVec.ofInt k.bits (if k.signed then -1 else k.max) ^^^ BitVec.ofInt k.bits n).toNat)))
    | _ => none
  | .not x => match ev x with
    | .bool b => some (.bool !b)
    | _ => none
  | .conv k x => match ev x with
    | .int _ n => some (.int k (k.wrap n))
    | _ => none
  | .idm x => match ev x with
    | .str s => some (.str s)
    | _ => none
  | .mki t x => some (.iface t (ev x))
  | .mkf f first cap => some (.func f (first.map ev) (cap.map ev))
  | .slice sz x lo hi mx => aslice ev sz (ev x) lo hi mx
  | .sslice x lo hi => asslice ev (ev x) lo hi
  | .fld off x => match ev x with
    | .ptr id g i => some (.ptr id g (i + off))
    | _ => none
  | .fldv off n x => match ev x with
    | .agg cs => match n with
      | some n => if off + n ≤ cs.length then some (.agg ((cs.drop off).take n)) else none
      | none => nth cs off
    | _ => none
  | .idx sz x i => match ev x, inr (ev i) with
    | .slice id g b len _ sz', some k => if sz = sz' then (if k < len then some (.ptr id g (b + k * sz)) else none) else none
    | _, _ => none
  | .sidx x i => match ev x, inr (ev i) with
    | .str s, some k => (nth s k).map fun b => .int .u8 b.toNat
    | _, _ => none
  | .slen x => match ev x with
    | .str s => some (.int .i64 s.length)
    | _ => none
  | .len x => match ev x with
    | .slice _ _ _ n _ _ => some (.int .i64 n)
    | .nils => some (.int .i64 0)
    | _ => none
  | .mx x xs => match ev x with
    | .int k a => (amax a (xs.map ev) k).map (.int k)
    | _ => none
  | .mn x xs => match ev x with
    | .int k a => (amin a (xs.map ev) k).map (.int k)
    | _ => none
  | .ext i x => match ev x with
    | .tup vs => nth vs i
    | _ => none
  | .tass t zero x => match ev x with
    | .iface t' v => if t' = t then some (.tup [v, .bool true]) else some (.tup [zero, .bool false])
    | .nilIface => some (.tup [zero, .bool false])
    | _ => none
  | .tassI ts zero x => match ev x with
    | .iface t' v => match natMem t' ts with
      | some true => some (.tup [.iface t' v, .bool true])
      | some false => some (.tup [zero, .bool false])
      | none => none
    | .nilIface => some (.tup [zero, .bool false])
    | _ => none
  | _ => none

/-! ### Memory -/
def takeCells (g : Nat) : Nat → List (AV × Nat) → Option (List AV)
  | 0, _ => some []
  | n + 1, (v, m) :: l => if m ≤ g then (takeCells g n l).map (v :: ·) else none
  | _ + 1, [] => none

def Hp.load (H : Hp) (id : Pos) (g i n : Nat) : Option (List AV) :=
  match H.get id with
  | some b => takeCells g n (b.cells.drop i)
  | none => none

def bytesOf : List AV → Option (List UInt8)
  | [] => some []
  | .int .u8 n :: l => (bytesOf l).map (UInt8.ofNat n.toNat :: ·)
  | _ => none

def xload (ev : Ev) (H : Hp) : IOp → Option AV
  | .load1 x => match ev x with
    | .ptr id g i => match H.load id g i 1 with
      | some [v] => some v
      | _ => none
    | _ => none
  | .loadN n x => match ev x with
    | .ptr id g i => (H.load id g i n).map .agg
    | _ => none
  | .b2s x => match ev x with
    | .nils => some (.str [])
    | .slice id g i len _ sz => if sz = 1 then ((H.load id g i len).bind bytesOf).map .str else none
    | _ => none
  | _ => none

def Hp.new (H : Hp) (e : Nat) (cells : List AV) : Option (Pos × Hp) :=
  match H.get (.b1 H.next) with
  | some _ => none
  | none => some (.b1 H.next, ⟨H.m.set ⟨cells.map (·, 0), 0, e, true⟩ (.b1 H.next), H.next.succ⟩)

def allOne : List AV → Bool
  | [] => true
  | v :: l => v.one && allOne l

def Hp.store (H : Hp) (id : Pos) (g i : Nat) (vs : List AV) : Option Hp :=
  match H.get id with
  | some b =>
    if b.own = true ∧ b.gen = g ∧ i + vs.length ≤ b.cells.length ∧ allOne vs = true then
      some (H.set id { b with cells := b.cells.take i ++ vs.map (·, g) ++ b.cells.drop (i + vs.length) })
    else none
  | none => none

/-- The cells of what is appended, and how many elements they are. -/
def appended (H : Hp) (sz : Nat) : AV → Option (List AV × Nat)
  | .nils => some ([], 0)
  | .slice id g i len _ sz' => if sz = sz' then (H.load id g i (len * sz)).map (·, len) else none
  | .str s => if sz = 1 then some (s.map fun b => .int .u8 b.toNat, s.length) else none
  | _ => none

def small (n bytes : Nat) : Bool := Nat.ble n 1099511627776 && Nat.ble (n * bytes) 1099511627776

def xappend (H : Hp) (e sz bytes : Nat) (s x : AV) : Option (AV × Hp) :=
  match appended H sz x with
  | none => none
  | some (news, n) =>
    if n = 0 then
      match s with
      | .nils => some (.nils, H)
      | .slice id g i len cap sz' => if sz = sz' then some (.slice id g i len cap sz', H) else none
      | _ => none
    else if allOne news = false ∨ sz = 0 then none else
    match s with
    | .nils =>
      if small n bytes then
        match H.new e news with
        | some (id, H') => some (.slice id 0 0 n none sz, H')
        | none => none
      else none
    | .slice id g i len cap sz' =>
      if sz = sz' ∧ small (len + n) bytes = true then
        match H.load id g i (len * sz) with
        | none => none
        | some olds =>
          if allOne olds = false then none else
          match cap with
          | some c =>
            if len + n ≤ c then
              match H.store id g (i + len * sz) news with
              | some H' => some (.slice id g i (len + n) (some c) sz, H')
              | none => none
            else
              match H.new e (olds ++ news) with
              | some (id', H') => some (.slice id' 0 0 (len + n) none sz, H')
              | none => none
          | none =>
            if i = 0 then
              match H.get id with
              | some b =>
                if b.own = true ∧ b.elem = e then
                  some (.slice id (b.gen + 1) 0 (len + n) none sz,
                    H.set id { b with cells := b.cells.take (len * sz) ++ news.map (·, b.gen + 1), gen := b.gen + 1 })
                else none
              | none => none
            else none
      else none
    | _ => none

def zerosOf (zero : List AV) : Nat → List AV
  | 0 => []
  | n + 1 => zero ++ zerosOf zero n

/-- A new block: its elements' type, its cells, and what is handed back of its name. -/
def xmake (ev : Ev) : IOp → Option (Nat × List AV × (Pos → AV))
  | .alloc e zero => some (e, zero, fun id => .ptr id 0 0)
  | .box e x => match (ev x).cells with
    | some cs => if allOne cs = true then some (e, cs, fun id => .ptr id 0 0) else none
    | none => none
  | .bslice e sz len zeros parts =>
    match cellsOfList ev parts zeros with
    | some cs => if allOne cs = true then some (e, cs, fun id => .slice id 0 0 len (some len) sz) else none
    | none => none
  | .mkslice e sz bytes zero l c =>
    match inr (ev l), inr (ev c) with
    | some l, some c =>
      if l ≤ c ∧ small c bytes = true then some (e, zerosOf zero c, fun id => .slice id 0 0 l (some c) sz) else none
    | _, _ => none
  | _ => none

def xwrite (ev : Ev) (H : Hp) : IOp → Option (AV × Hp)
  | .store n a v =>
    match ev a, (ev v).cells with
    | .ptr id g i, some vs => if vs.length = n then (H.store id g i vs).map fun H' => (.any, H') else none
    | _, _ => none
  | .append e sz bytes s x => xappend H e sz bytes (ev s) (ev x)
  | _ => none

def xeff (ev : Ev) (H : Hp) (i : IOp) : Option (AV × Hp) :=
  match xmake ev i with
  | some (e, cells, f) => match H.new e cells with
    | some (id, H') => some (f id, H')
    | none => none
  | none => xwrite ev H i

/-! ### Is a value the same again? -/
def same1 : AV → AV → Bool
  | .bool a, .bool b => a == b
  | .int k a, .int k' b => decide (k = k') && decide (a = b)
  | .str a, .str b => bytesEq a b
  | .nilp, .nilp => true
  | .ptr a b c, .ptr d e f => a.beq d && Nat.beq b e && Nat.beq c f
  | .nils, .nils => true
  | .slice a b c d (some x) e, .slice a' b' c' d' (some x') e' => a.beq a' && Nat.beq b b' && Nat.beq c c' && Nat.beq d d' && Nat.beq x x' && Nat.beq e e'
  | .slice a b c d none e, .slice a' b' c' d' none e' => a.beq a' && Nat.beq b b' && Nat.beq c c' && Nat.beq d d' && Nat.beq e e' && !Nat.beq e 0
  | .nilFunc, .nilFunc => true
  | .nilIface, .nilIface => true
  | _, _ => false

def sameL : List AV → List AV → Bool
  | [], [] => true
  | a :: x, b :: y => same1 a b && sameL x y
  | _, _ => false

def same : AV → AV → Bool
  | .agg x, .agg y => sameL x y
  | a, b => same1 a b

end Ev

/- The evaluator of code and of calls, and the compiler from the model's code into the evaluator's. -/
set_option autoImplicit false
namespace Ev
open Go

/-! ### Code -/
inductive PC where
  | skip
  | exit (id : Nat)
  | ret
  | seq (a b : PC)
  | cond (c : IArg) (a b : PC)
  | block (id : Nat) (c : PC)
  | loop (c : PC)
  | scope (c : PC)
  | ops (l : List Ins)
  deriving Inhabited

inductive IRes where
  | tmp (t : Nat)
  | cell1 (t : Nat)
  | cellN (n t : Nat)

structure IFn where
  ntmps : Nat
  results : List IRes
  body : PC

inductive CR where
  | ret (v : AV)
  | pan (v : AV)

abbrev Call := Nat → List AV → Hp → Option (CR × Hp)

inductive Ex where
  | norm
  | exit (id : Nat)
  | ret

inductive Out where
  | go (x : Ex) (T : List AV) (H : Hp)
  | pan (v : AV) (H : Hp)

def evArg (T : List AV) : IArg → AV
  | .t n => (nth T n).getD .any
  | .c v => v
  | .g n => .ptr (gpos n) 0 0

def put (T : List AV) (d : Option Nat) (v : AV) : List AV :=
  match d with
  | some d => putAt T d v
  | none => T

def wantedA (T : List AV) : Option (Nat × Bool) → Option Bool
  | none => some true
  | some (t, b) => match nth T t with
    | some (.bool c) => some (c == b)
    | some .any => none
    | some _ => some false
    | none => none

def natFind (t : Nat) : List (Nat × Nat) → Option Nat
  | [] => none
  | (a, b) :: l => if a = t then some b else natFind t l

def nameOf : AV → Option Pos
  | .ptr id _ _ => some id
  | .slice id _ _ _ _ _ => some id
  | _ => none

/-- One operation: what it leaves in its temporary, and the heap; or a panic. -/
def xstep (call : Call) (T : List AV) (H : Hp) (o : IOp) : Option (CR × Hp) :=
  match o with
  | .callf f args => call f (args.map (evArg T)) H
  | .callv x args => match evArg T x with
    | .func f first cap => call f (first ++ args.map (evArg T) ++ cap) H
    | _ => none
  | .inv ms x args => match evArg T x with
    | .iface t v => match natFind t ms with
      | some f => call f (v :: args.map (evArg T)) H
      | none => none
    | _ => none
  | .panic x => match evArg T x with
    | .iface t v => some (.pan (.iface t v), H)
    | _ => none
  | .again d o =>
    match xmake (evArg T) o with
    | some (e, cells, _) =>
      match (nth T d).bind nameOf with
      | some id => match H.get id with
        | some b => if Nat.beq b.gen 0 && Nat.beq b.elem e && b.own && sameL (b.cells.map (·.1)) cells && b.cells.all (fun c => Nat.beq c.2 0) then some (.ret .any, H) else none
        | none => none
      | none => none
    | none =>
      match xload (evArg T) H o, nth T d with
      | some v, some u => if same v u then some (.ret .any, H) else none
      | _, _ => none
  | o => match xpure (evArg T) o with
    | some v => some (.ret v, H)
    | none => match xload (evArg T) H o with
      | some v => some (.ret v, H)
      | none => match xeff (evArg T) H o with
        | some (v, H') => some (.ret v, H')
        | none => none

def runIns (call : Call) : List Ins → List AV → Hp → Option Out
  | [], T, H => some (.go .norm T H)
  | i :: rest, T, H =>
    match wantedA T i.guard with
    | none => none
    | some false => runIns call rest (put T i.dst (.tup [])) H
    | some true =>
      match xstep call T H i.op with
      | some (.ret v, H') => runIns call rest (put T i.dst v) H'
      | some (.pan v, H') => some (.pan v H')
      | none => none

def iter (f : List AV → Hp → Option Out) : Nat → List AV → Hp → Option Out
  | 0, _, _ => none
  | n + 1, T, H =>
    match f T H with
    | some (.go .norm T' H') => iter f n T' H'
    | r => r

def run (call : Call) (lf : Nat) : PC → List AV → Hp → Option Out
  | .skip, T, H => some (.go .norm T H)
  | .exit id, T, H => some (.go (.exit id) T H)
  | .ret, T, H => some (.go .ret T H)
  | .seq a b, T, H =>
    match run call lf a T H with
    | some (.go .norm T' H') => run call lf b T' H'
    | r => r
  | .cond c a b, T, H =>
    match evArg T c with
    | .bool true => run call lf a T H
    | .bool false => run call lf b T H
    | _ => none
  | .block id c, T, H =>
    match run call lf c T H with
    | some (.go (.exit j) T' H') => some (.go (if j = id then .norm else .exit j) T' H')
    | r => r
  | .loop c, T, H => iter (run call lf c) lf T H
  | .scope c, T, H => run call lf c T H
  | .ops l, T, H => runIns call l T H

def resOne (T : List AV) (H : Hp) : IRes → Option AV
  | .tmp t => nth T t
  | .cell1 t => xload (evArg T) H (.load1 (.t t))
  | .cellN n t => xload (evArg T) H (.loadN n (.t t))

def resAll (T : List AV) (H : Hp) : List IRes → Option (List AV)
  | [] => some []
  | r :: rest => match resOne T H r with
    | some v => match resAll T H rest with
      | some vs => some (v :: vs)
      | none => none
    | none => none

def resOf (T : List AV) (H : Hp) (rs : List IRes) : Option AV :=
  match resAll T H rs with
  | some [v] => some v
  | some vs => some (.tup vs)
  | none => none

abbrev Prim := Call → List AV → Hp → Option (CR × Hp)

def pad (args : List AV) (n : Nat) : List AV := args ++ List.replicate (n - args.length) .any

def body (call : Call) (lf : Nat) (fn : IFn) (args : List AV) (H : Hp) : Option (CR × Hp) :=
  match run call lf fn.body (pad args fn.ntmps) H with
  | some (.go (.exit _) _ _) => none
  | some (.go _ T H') => (resOf T H' fn.results).map fun v => (.ret v, H')
  | some (.pan v H') => some (.pan v, H')
  | none => none

def evalF (fns : Nat → Option IFn) (prim : Nat → Option Prim) (lf : Nat) : Nat → Call
  | 0, _, _, _ => none
  | n + 1, f, args, H =>
    match prim f with
    | some p => p (evalF fns prim lf n) args H
    | none => match fns f with
      | some fn => body (evalF fns prim lf n) lf fn args H
      | none => none

/-! ### The compiler -/
def ofConst1 : Value → AV
  | .bool b => .bool b
  | .int k n => .int k n
  | .string s => .str s.data.toList
  | .pointer none => .nilp
  | .slice none 0 0 => .nils
  | .nilFunc => .nilFunc
  | .nilIface => .nilIface
  | .func (.func f) first cap => if first.isEmpty && cap.isEmpty then .func f [] [] else .any
  | _ => .any

def ofConst : Value → AV
  | .agg cs => .agg (cs.toList.map ofConst1)
  | v => ofConst1 v

def cArg (P : Program) : Operand → IArg
  | .tmp t => .t t
  | .const v => .c (ofConst v)
  | .global g => if g < P.globals.size then .g g else .c .any
  | .func f => .c (.func f [] [])

def zeroOf (P : Program) (t : TypeId) : Option AV := ((P.info? t).bind (·.zero)).map ofConst
def zeroCellsOf (P : Program) (t : TypeId) : Option (List AV) :=
  match (zeroOf P t).bind AV.cells with
  | some cs => if allOne cs && cs.length == P.cellsOf t then some cs else none
  | none => none

def isAggD : TypeDesc → Bool
  | .struct _ => true
  | .array _ _ => true
  | _ => false

/-- Is a type one of structs or arrays; and its cells. -/
def aggT (P : Program) (t : TypeId) : Option (Bool × Nat) :=
  match P.underlying t, P.info? t with
  | some d, some i => some (isAggD d, i.size)
  | _, _ => none

def fkOf (P : Program) (t : TypeId) : Option FK :=
  match P.underlying t with
  | some (.int _) => some .int
  | some .string => some .str
  | some .bool => some .bool
  | _ => none

def partsAt (P : Program) (f : Nat → Option (Nat × Nat)) : List (Nat × Operand) → Option (List (Nat × Nat × IArg))
  | [] => some []
  | (i, x) :: rest => do
    let (off, sz) ← f i
    let r ← partsAt P f rest
    pure ((off, sz, cArg P x) :: r)

def fieldsFK (P : Program) : List Field → Option (List (Nat × FK))
  | [] => some []
  | f :: rest => do
    if f.name == "_" then none
    let k ← fkOf P f.type
    if P.cellsOf f.type == 1 then pure () else none
    let r ← fieldsFK P rest
    pure ((f.offset, k) :: r)

def isConstOp : Operand → Bool
  | .const _ => true
  | _ => false

def ekOf (P : Program) (t : TypeId) (x y : Operand) : Option EK :=
  match P.underlying t with
  | some .bool => some .bool
  | some (.pointer _) => some .ptr
  | some (.slice _) => some .slice
  | some (.func ..) => some .func
  | some (.interface _) => some (if isConstOp x || isConstOp y then .ifaceL else .iface)
  | some (.struct fs) => if P.stoodInHeld t || P.eqGuardType P.depth t then none else (fieldsFK P fs.toList).map .struct
  | _ => none

def methodRow (P : Program) (name : String) (t : Nat) : Option (Nat × Nat) :=
  match P.info? t with
  | some i => match i.methods.find? (·.name == name) with
    | some m => match m.path.isEmpty, m.func, P.underlying t with
      | true, some (f, true), some (.pointer _) => some (t, f)
      | true, some (_, false), some (.pointer _) => none
      | true, some (f, false), some _ => some (t, f)
      | _, _, _ => none
    | none => none
  | none => none

def methodRows (P : Program) (name : String) : List (Nat × Nat) := (List.range P.types.size).filterMap (methodRow P name)

def holdsRows (P : Program) (want : Array (String × TypeId)) : List (Nat × Bool) :=
  (List.range P.types.size).filterMap fun t => (P.info? t).map fun i => (t, want.toList.all fun w => i.methods.any fun m => m.name == w.1 && m.sig == w.2)


def cOp (P : Program) (o : Op) : Option IOp :=
  match o with
  | .move x | .assign x => some (.mv (cArg P x))
  | .pick c a b => some (.pick (cArg P c) (cArg P a) (cArg P b))
  | .alloc e => (zeroCellsOf P e).map fun z => .alloc e z
  | .box e x => some (.box e (cArg P x))
  | .build t parts => do
    let z ← zeroCellsOf P t
    match P.underlying t with
    | some (.struct fs) => if fs.toList.all (fun f => (P.info? f.type).isSome) then (partsAt P (fun i => ((fs.toList.map fun f => (f.offset, P.cellsOf f.type)).toArray)[i]?) parts.toList).map (.build z) else none
    | some (.array _ e) => do
      let n ← P.info? e
      (partsAt P (fun i => some (i * n.size, n.size)) parts.toList).map (.build z)
    | _ => none
  | .buildSlice t len parts =>
    match P.underlying t with
    | some (.slice e) => do
      let n ← P.info? e
      let z ← zeroCellsOf P e
      if len * n.size ≤ 16777216 ∧ 0 < n.size then
        (partsAt P (fun i => some (i * n.size, n.size)) parts.toList).map (.bslice e n.size len (zerosOf z len))
      else none
    | _ => none
  | .load t x => match aggT P t with
    | some (true, n) => some (.loadN n (cArg P x))
    | some (false, _) => some (.load1 (cArg P x))
    | none => none
  | .store t a v => (P.info? t).map fun i => .store i.size (cArg P a) (cArg P v)
  | .nilCheck x => some (.nilchk (cArg P x))
  | .binOp op t x y _ =>
    match P.underlying t with
    | some (.int _) => some (.bin op (cArg P x) (cArg P y))
    | some .string => some (.bin op (cArg P x) (cArg P y))
    | _ => match op with
      | .eql => (ekOf P t x y).map fun k => .eql false k (cArg P x) (cArg P y)
      | .neq => (ekOf P t x y).map fun k => .eql true k (cArg P x) (cArg P y)
      | _ => none
  | .unOp .neg _ x => some (.neg (cArg P x))
  | .unOp .not _ x => some (.not (cArg P x))
  | .unOp .xor _ x => some (.com (cArg P x))
  | .convert s d x =>
    match P.underlying s, P.underlying d with
    | some (.int _), some (.int k) => some (.conv k (cArg P x))
    | some .string, some .string => some (.idm (cArg P x))
    | some (.slice e), some .string => match P.underlying e, P.info? e with
      | some (.int .u8), some i => if i.size = 1 then some (.b2s (cArg P x)) else none
      | _, _ => none
    | _, _ => none
  | .makeInterface t x => match P.underlying t with
    | some (.interface _) => none
    | some _ => some (.mki t (cArg P x))
    | none => none
  | .makeFunc (.func f) first cap => some (.mkf f (first.toList.map (cArg P)) (cap.toList.map (cArg P)))
  | .makeSlice t l c =>
    match P.underlying t with
    | some (.slice e) => do
      let n ← P.info? e
      let z ← zeroCellsOf P e
      if 0 < n.size then some (.mkslice e n.size n.bytes z (cArg P l) (cArg P c)) else none
    | _ => none
  | .slice t x lo hi mx =>
    match P.underlying t with
    | some .string => if mx.isNone then some (.sslice (cArg P x) (lo.map (cArg P)) (hi.map (cArg P))) else none
    | some (.slice e) => if mx.isSome && hi.isNone then none else (P.info? e).map fun n => .slice n.size (cArg P x) (lo.map (cArg P)) (hi.map (cArg P)) (mx.map (cArg P))
    | _ => none
  | .fieldAddr s x f =>
    match P.underlying s with
    | some (.struct fs) => match fs[f]? with
      | some f => match P.info? f.type with
        | some i => if i.size = 0 then none else some (.fld f.offset (cArg P x))
        | none => none
      | none => none
    | _ => none
  | .field s x f =>
    match P.underlying s with
    | some (.struct fs) => match fs[f]? with
      | some f => match aggT P f.type with
        | some (true, n) => some (.fldv f.offset (some n) (cArg P x))
        | some (false, _) => some (.fldv f.offset none (cArg P x))
        | none => none
      | none => none
    | _ => none
  | .indexAddr t x i =>
    match P.underlying t with
    | some (.slice e) => (P.info? e).map fun n => .idx n.size (cArg P x) (cArg P i)
    | _ => none
  | .index t x i =>
    match P.underlying t with
    | some .string => some (.sidx (cArg P x) (cArg P i))
    | _ => none
  | .typeAssert x _ t true =>
    match P.underlying t, zeroOf P t with
    | some (.interface want), some z => some (.tassI (holdsRows P want) z (cArg P x))
    | some _, some z => some (.tass t z (cArg P x))
    | _, _ => none
  | .extract x i => some (.ext i (cArg P x))
  | .panic x => some (.panic (cArg P x))
  | .call c =>
    match c.callee with
    | .value (.func f) => some (.callf f (c.args.toList.map (cArg P)))
    | .value x => some (.callv (cArg P x) (c.args.toList.map (cArg P)))
    | .invoke r name => some (.inv (methodRows P name) (cArg P r) (c.args.toList.map (cArg P)))
    | .builtin .len =>
      match c.args.toList, (c.argTypes[0]?).bind P.underlying with
      | [x], some .string => some (.slen (cArg P x))
      | [x], some (.slice _) => some (.len (cArg P x))
      | _, _ => none
    | .builtin .max => match c.args.toList with
      | x :: xs => some (.mx (cArg P x) (xs.map (cArg P)))
      | _ => none
    | .builtin .min => match c.args.toList with
      | x :: xs => some (.mn (cArg P x) (xs.map (cArg P)))
      | _ => none
    | .builtin .append =>
      match c.args.toList, c.argTypes.toList with
      | [s, x], [t, u] =>
        match P.underlying t with
        | some (.slice e) => do
          let n ← P.info? e
          let z ← zeroCellsOf P e
          match P.underlying u with
          | some (.slice _) => some (.append e z.length n.bytes (cArg P s) (cArg P x))
          | some .string => some (.append e z.length n.bytes (cArg P s) (cArg P x))
          | _ => none
        | _ => none
      | _, _ => none
    | _ => none
  | _ => none

def cGuard (ops : Array Oper) : Option (Nat × Bool) → Option (Option (Nat × Bool))
  | none => some none
  | some (j, b) => match (ops[j]?).bind (·.dst) with
    | some d => some (some (d, b))
    | none => none

def cIns (P : Program) (ops : Array Oper) (o : Oper) : Option Ins := do
  let op ← cOp P o.op
  let g ← cGuard ops o.guard
  pure ⟨o.dst, g, op⟩

def cList (P : Program) (ops : Array Oper) : List Oper → Option (List Ins)
  | [] => some []
  | o :: rest => do
    let i ← cIns P ops o
    let r ← cList P ops rest
    pure (i :: r)

/-! Regions that draw their order -/
def isPureI : IOp → Bool
  | .load1 _ | .loadN .. | .b2s _ | .alloc .. | .box .. | .bslice .. | .mkslice .. | .store .. | .append .. | .callf .. | .callv .. | .inv .. | .panic _ | .again .. => false
  | _ => true
def isLoadI : IOp → Bool
  | .load1 _ | .loadN .. | .b2s _ => true
  | _ => false
/-- It makes a block and touches no other. -/
def isMakeI : IOp → Bool
  | .alloc .. | .box .. | .bslice .. | .mkslice .. => true
  | _ => false

def argTmp : IArg → List Nat
  | .t n => [n]
  | _ => []

def optArg : Option IArg → List IArg
  | some x => [x]
  | none => []

def partArgs : List (Nat × Nat × IArg) → List IArg
  | [] => []
  | (_, _, x) :: l => x :: partArgs l

def iargs : IOp → List IArg
  | .mv x | .nilchk x | .neg x | .com x | .not x | .conv _ x | .idm x | .mki _ x | .fld _ x | .fldv _ _ x | .len x | .slen x | .ext _ x | .tass _ _ x | .tassI _ _ x
  | .load1 x | .loadN _ x | .b2s x | .box _ x | .panic x => [x]
  | .pick c a b => [c, a, b]
  | .build _ ps => partArgs ps
  | .bin _ x y | .eql _ _ x y | .idx _ x y | .sidx x y | .mkslice _ _ _ _ x y | .store _ x y | .append _ _ _ x y => [x, y]
  | .mkf _ xs ys => xs ++ ys
  | .slice _ x a b c => x :: (optArg a ++ optArg b ++ optArg c)
  | .sslice x a b => x :: (optArg a ++ optArg b)
  | .mx x xs | .mn x xs | .callv x xs | .inv _ x xs => x :: xs
  | .alloc .. => []
  | .bslice _ _ _ _ ps => partArgs ps
  | .callf _ xs => xs
  | .again _ o => iargs o

def ilooks (c : Ins) : List Nat :=
  (iargs c.op).flatMap argTmp ++ (match c.guard with | some (t, _) => [t] | none => [])

/-- Which operations an operation waits for, one through another: bit 'l' of entry 'j'. -/
def ancOf (ops : Array Oper) : List Nat :=
  (ops.foldl (init := (#[] : Array Nat)) fun acc o =>
    acc.push (o.after.foldl (fun s e => if Region.binds .any e then s ||| 2 ^ e.on ||| acc.getD e.on 0 else s) 0)).toList

def ancBit (anc : List Nat) (j l : Nat) : Bool := ((nth anc j).getD 0).testBit l

/-- The table says no more than the edges. -/
def ancOk (ops : Array Oper) (anc : List Nat) : Bool :=
  (List.range ops.size).all fun j => (List.range ops.size).all fun l =>
    !ancBit anc j l || match ops[j]? with
      | some o => o.after.any fun e => Region.binds .any e && (e.on == l || ancBit anc e.on l)
      | none => false

def dstOf (cs : List Ins) (i : Nat) : Option Nat := (nth cs i).bind (·.dst)
def looksOf (cs : List Ins) (i : Nat) : List Nat := match nth cs i with | some c => ilooks c | none => []

def writesInto (cs : List Ins) (i j : Nat) : Bool :=
  match dstOf cs i with
  | some d => (looksOf cs j).contains d
  | none => false

/-- It may be carried out ahead, and be caught up with later. -/
def soft (cs : List Ins) (anc : List Nat) (i : Nat) : Bool :=
  (match nth cs i with
   | some c => isPureI c.op || (isLoadI c.op && c.dst.isSome) || (isMakeI c.op && c.guard.isNone && c.dst.isSome)
   | none => false) &&
  (List.range cs.length).all fun j => j == i || !writesInto cs i j || ancBit anc j i

def planGo (ops : Array Oper) (cs : List Ins) (anc : List Nat) : Nat → Array Bool → List Nat → List Nat
  | 0, _, acc => acc
  | fuel + 1, listed, acc =>
    let ready := Region.ready .any ops listed
    match ready.find? (soft cs anc) with
    | some i => planGo ops cs anc fuel (listed.setIfInBounds i true) (acc ++ [i])
    | none => match ready with
      | [] => acc
      | i :: _ => planGo ops cs anc fuel (listed.setIfInBounds i true) (acc ++ [i])

/-- Is what an operation waits for ahead of it? -/
def topOk (ops : Array Oper) (done : List Nat) (i : Nat) : Bool :=
  match ops[i]? with
  | some o => o.after.all fun e => !Region.binds .any e || done.contains e.on
  | none => false

def orderOk (ops : Array Oper) (cs : List Ins) (anc : List Nat) : List Nat → List Nat → Bool
  | _, [] => true
  | done, i :: rest =>
    !done.contains i && topOk ops done i && (soft cs anc i || rest.all fun j => ancBit anc j i) && orderOk ops cs anc (done ++ [i]) rest

def writesOk (cs : List Ins) (anc : List Nat) : Bool :=
  (List.range cs.length).all fun i => (List.range cs.length).all fun j =>
    (if i == j then !writesInto cs i i else (match dstOf cs i, dstOf cs j with | some d, some e => d != e | _, _ => true) &&
      (!writesInto cs i j || ancBit anc j i || (!soft cs anc i && ancBit anc i j)))

def againOf (cs : List Ins) (i : Nat) : Option Ins :=
  match nth cs i with
  | some c => match c.dst with
    | some d => if isLoadI c.op || isMakeI c.op then some ⟨none, c.guard, .again d c.op⟩ else none
    | none => none
  | none => none

def checks (cs : List Ins) (anc : List Nat) (e : Nat) (done : List Nat) : List Ins :=
  (done.filter fun l => soft cs anc l && !ancBit anc e l).filterMap (againOf cs)

def emit (cs : List Ins) (anc : List Nat) : List Nat → List Nat → List Ins
  | _, [] => []
  | done, i :: rest =>
    match nth cs i with
    | none => []
    | some c => c :: ((if soft cs anc i || isMakeI c.op then [] else checks cs anc i done) ++ emit cs anc (done ++ [i]) rest)

def cDraw (P : Program) (ops : Array Oper) : Option (List Ins) :=
  match cList P ops ops.toList with
  | none => none
  | some cs =>
    let anc := ancOf ops
    let order := planGo ops cs anc ops.size (Array.replicate ops.size false) []
    if ancOk ops anc && orderOk ops cs anc [] order && writesOk cs anc && (List.range ops.size).all fun i => order.contains i then
      some (emit cs anc [] order)
    else none

def cCode (P : Program) : Code → Option PC
  | .skip => some .skip
  | .label _ => some .skip
  | .exit id => some (.exit id)
  | .ret => some .ret
  | .seq a b => do
    let a ← cCode P a
    let b ← cCode P b
    pure (.seq a b)
  | .cond c a b => do
    let a ← cCode P a
    let b ← cCode P b
    pure (.cond (cArg P c) a b)
  | .block id c => (cCode P c).map (.block id)
  | .loop c => (cCode P c).map .loop
  | .scope c => (cCode P c).map .scope
  | .region _ ops false => (cList P ops ops.toList).map .ops
  | .region _ ops true => (cDraw P ops).map .ops
  | _ => none

def cRes (P : Program) : ResultVar → Option IRes
  | .tmp t => some (.tmp t)
  | .cell a t => match aggT P t with
    | some (true, n) => some (.cellN n a)
    | some (false, _) => some (.cell1 a)
    | none => none

def cResL (P : Program) : List ResultVar → Option (List IRes)
  | [] => some []
  | r :: rest => do
    let a ← cRes P r
    let b ← cResL P rest
    pure (a :: b)

def cFn (P : Program) (f : Func) : Option IFn := do
  let c ← f.body
  let b ← cCode P c
  let r ← cResL P f.results.toList
  pure ⟨f.ntmps, r, b⟩

end Ev
