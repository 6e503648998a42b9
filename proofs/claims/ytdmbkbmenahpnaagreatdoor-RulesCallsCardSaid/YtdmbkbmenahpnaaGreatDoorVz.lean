/- The evaluator over tries. -/
import Derived.Test.YtdmbkbmenahpnaaGreatDoorVp
import Derived.Test.YtdmbkbmenahpnaaGreatDoorVo
/- The evaluator again, over tries: for the kernel. -/
set_option autoImplicit false
set_option linter.unusedVariables false
namespace Ev
open Go

/-! ### Tries -/
noncomputable def PT.fget {α : Type} (t : PT α) (p : Pos) : Option α :=
  @Pos.rec (fun _ => PT α → Option α) (fun t => @PT.rec α (fun _ => Option α) none (fun v _ _ _ _ => v) t)
    (fun _ ih t => @PT.rec α (fun _ => Option α) none (fun _ l _ _ _ => ih l) t)
    (fun _ ih t => @PT.rec α (fun _ => Option α) none (fun _ _ r _ _ => ih r) t) p t

noncomputable def PT.fset {α : Type} (v : α) (t : PT α) (p : Pos) : PT α :=
  @Pos.rec (fun _ => PT α → PT α) (fun t => @PT.rec α (fun _ => PT α) (.node (some v) .leaf .leaf) (fun _ l r _ _ => .node (some v) l r) t)
    (fun _ ih t => @PT.rec α (fun _ => PT α) (.node none (ih .leaf) .leaf) (fun u l r _ _ => .node u (ih l) r) t)
    (fun _ ih t => @PT.rec α (fun _ => PT α) (.node none .leaf (ih .leaf)) (fun u l r _ _ => .node u l (ih r)) t) p t

/-- Where there is a value already. -/
noncomputable def PT.fupd {α : Type} (v : α) (t : PT α) (p : Pos) : PT α :=
  @Pos.rec (fun _ => PT α → PT α) (fun t => @PT.rec α (fun _ => PT α) .leaf (fun u l r _ _ => .node (@Option.rec α (fun _ => Option α) none (fun _ => some v) u) l r) t)
    (fun _ ih t => @PT.rec α (fun _ => PT α) .leaf (fun u l r _ _ => .node u (ih l) r) t)
    (fun _ ih t => @PT.rec α (fun _ => PT α) .leaf (fun u l r _ _ => .node u l (ih r)) t) p t

def posB : Nat → Nat → Pos
  | 0, _ => .one
  | f + 1, n => match Nat.beq n 0 with
    | true => .one
    | false => match Nat.beq (n % 2) 1 with
      | true => .b0 (posB f (n / 2))
      | false => .b1 (posB f (n / 2 - 1))
def posN (n : Nat) : Pos := posB n n

noncomputable def fill {α : Type} (l : List α) (t : PT α) (i : Nat) : PT α :=
  @List.rec α (fun _ => PT α → Nat → PT α) (fun t _ => t) (fun v _ ih t i => ih (t.fset v (posN i)) (i + 1)) l t i

/-! ### Frames -/
noncomputable def ev2 (T : PT AV) : IArg → AV
  | .t n => @Option.rec AV (fun _ => AV) .any (fun v => v) (T.fget (posN n))
  | .c v => v
  | .g n => .ptr (gpos n) 0 0

noncomputable def put2 (T : PT AV) (d : Option Nat) (v : AV) : PT AV :=
  match d with
  | some d => T.fupd v (posN d)
  | none => T

noncomputable def wanted2 (T : PT AV) : Option (Nat × Bool) → Option Bool
  | none => some true
  | some (t, b) => match T.fget (posN t) with
    | some (.bool c) => some (c == b)
    | some .any => none
    | some _ => some false
    | none => none

/-! ### Memory -/
structure VB2 where
  cells : PT (AV × Nat)
  cnt : Nat
  gen : Nat
  elem : Nat
  own : Bool

structure Hp2 where
  m : PT VB2
  next : Pos

noncomputable def takeN (cells : PT (AV × Nat)) (g n i : Nat) : Option (List AV) :=
  @Nat.rec (fun _ => Nat → Option (List AV)) (fun _ => some []) (fun _ ih i => match cells.fget (posN i) with
    | some (v, m) => match Nat.ble m g with
      | true => match ih (i + 1) with
        | some r => some (v :: r)
        | none => none
      | false => none
    | none => none) n i

noncomputable def Hp2.load (H : Hp2) (id : Pos) (g i n : Nat) : Option (List AV) :=
  match H.m.fget id with
  | some b => match Nat.ble (i + n) b.cnt with
    | true => takeN b.cells g n i
    | false => none
  | none => none

noncomputable def Hp2.new (H : Hp2) (e : Nat) (cells : List AV) : Option (Pos × Hp2) :=
  match H.m.fget (.b1 H.next) with
  | some _ => none
  | none => some (.b1 H.next, ⟨H.m.fset ⟨fill (cells.map (·, 0)) .leaf 0, cells.length, 0, e, true⟩ (.b1 H.next), H.next.succ⟩)

noncomputable def Hp2.store (H : Hp2) (id : Pos) (g i : Nat) (vs : List AV) : Option Hp2 :=
  match H.m.fget id with
  | some b =>
    match b.own && Nat.beq b.gen g && Nat.ble (i + vs.length) b.cnt && allOne vs with
    | true => some ⟨H.m.fset ⟨fill (vs.map (·, g)) b.cells i, b.cnt, b.gen, b.elem, b.own⟩ id, H.next⟩
    | false => none
  | none => none

noncomputable def Hp2.grow (H : Hp2) (id : Pos) (e k : Nat) (news : List AV) : Option (Nat × Hp2) :=
  match H.m.fget id with
  | some b =>
    match b.own && Nat.beq b.elem e && Nat.ble k b.cnt with
    | true => some (b.gen + 1, ⟨H.m.fset ⟨fill (news.map (·, b.gen + 1)) b.cells k, k + news.length, b.gen + 1, b.elem, b.own⟩ id, H.next⟩)
    | false => none
  | none => none

noncomputable def xload2 (ev : Ev) (H : Hp2) : IOp → Option AV
  | .load1 x => match ev x with
    | .ptr id g i => match H.load id g i 1 with
      | some [v] => some v
      | _ => none
    | _ => none
  | .loadN n x => match ev x with
    | .ptr id g i => match H.load id g i n with
      | some l => some (.agg l)
      | none => none
    | _ => none
  | .b2s x => match ev x with
    | .nils => some (.str [])
    | .slice id g i len _ sz => match Nat.beq sz 1 with
      | true => match H.load id g i len with
        | some l => match bytesOf l with
          | some s => some (.str s)
          | none => none
        | none => none
      | false => none
    | _ => none
  | _ => none

noncomputable def appended2 (H : Hp2) (sz : Nat) : AV → Option (List AV × Nat)
  | .nils => some ([], 0)
  | .slice id g i len _ sz' => match Nat.beq sz sz' with
    | true => match H.load id g i (len * sz) with
      | some l => some (l, len)
      | none => none
    | false => none
  | .str s => match Nat.beq sz 1 with
    | true => some (s.map fun b => .int .u8 b.toNat, s.length)
    | false => none
  | _ => none

noncomputable def xappend2 (H : Hp2) (e sz bytes : Nat) (s x : AV) : Option (AV × Hp2) :=
  match appended2 H sz x with
  | none => none
  | some (news, n) =>
    match Nat.beq n 0 with
    | true =>
      match s with
      | .nils => some (.nils, H)
      | .slice id g i len cap sz' => match Nat.beq sz sz' with
        | true => some (.slice id g i len cap sz', H)
        | false => none
      | _ => none
    | false =>
      match allOne news && !Nat.beq sz 0 with
      | false => none
      | true =>
        match s with
        | .nils =>
          match small n bytes with
          | true => match H.new e news with
            | some (id, H') => some (.slice id 0 0 n none sz, H')
            | none => none
          | false => none
        | .slice id g i len cap sz' =>
          match Nat.beq sz sz' && small (len + n) bytes with
          | true =>
            match H.load id g i (len * sz) with
            | none => none
            | some olds =>
              match allOne olds with
              | false => none
              | true =>
                match cap with
                | some c =>
                  match Nat.ble (len + n) c with
                  | true =>
                    match H.store id g (i + len * sz) news with
                    | some H' => some (.slice id g i (len + n) (some c) sz, H')
                    | none => none
                  | false =>
                    match H.new e (olds ++ news) with
                    | some (id', H') => some (.slice id' 0 0 (len + n) none sz, H')
                    | none => none
                | none =>
                  match Nat.beq i 0 with
                  | true =>
                    match H.grow id e (len * sz) news with
                    | some (g', H') => some (.slice id g' 0 (len + n) none sz, H')
                    | none => none
                  | false => none
          | false => none
        | _ => none

noncomputable def xeff2 (ev : Ev) (H : Hp2) (i : IOp) : Option (AV × Hp2) :=
  match xmake ev i with
  | some (e, cells, f) => match H.new e cells with
    | some (id, H') => some (f id, H')
    | none => none
  | none => match i with
    | .store n a v =>
      match ev a, (ev v).cells with
      | .ptr id g i, some vs => match Nat.beq vs.length n with
        | true => match H.store id g i vs with
          | some H' => some (.any, H')
          | none => none
        | false => none
      | _, _ => none
    | .append e sz bytes s x => xappend2 H e sz bytes (ev s) (ev x)
    | _ => none

/-! ### Code and calls -/
abbrev Call2 := Nat → List AV → Hp2 → Option (CR × Hp2)

inductive Out2 where
  | go (x : Ex) (T : PT AV) (H : Hp2)
  | pan (v : AV) (H : Hp2)

noncomputable def xstep2 (call : Call2) (T : PT AV) (H : Hp2) (o : IOp) : Option (CR × Hp2) :=
  match o with
  | .callf f args => call f (args.map (ev2 T)) H
  | .callv x args => match ev2 T x with
    | .func f first cap => call f (first ++ args.map (ev2 T) ++ cap) H
    | _ => none
  | .inv ms x args => match ev2 T x with
    | .iface t v => match natFind t ms with
      | some f => call f (v :: args.map (ev2 T)) H
      | none => none
    | _ => none
  | .panic x => match ev2 T x with
    | .iface t v => some (.pan (.iface t v), H)
    | _ => none
  | .again d o =>
    match xmake (ev2 T) o with
    | some (e, cells, _) =>
      match T.fget (posN d) with
      | some v => match nameOf v with
        | some id => match H.m.fget id with
          | some b => match Nat.beq b.gen 0 && Nat.beq b.elem e && b.own && Nat.beq b.cnt cells.length with
            | true => match takeN b.cells 0 b.cnt 0 with
              | some l => match sameL l cells with
                | true => some (.ret .any, H)
                | false => none
              | none => none
            | false => none
          | none => none
        | none => none
      | none => none
    | none =>
      match xload2 (ev2 T) H o, T.fget (posN d) with
      | some v, some u => match same v u with
        | true => some (.ret .any, H)
        | false => none
      | _, _ => none
  | o => match xpure (ev2 T) o with
    | some v => some (.ret v, H)
    | none => match xload2 (ev2 T) H o with
      | some v => some (.ret v, H)
      | none => match xeff2 (ev2 T) H o with
        | some (v, H') => some (.ret v, H')
        | none => none

noncomputable def runIns2 (call : Call2) (l : List Ins) (T : PT AV) (H : Hp2) : Option Out2 :=
  @List.rec Ins (fun _ => PT AV → Hp2 → Option Out2) (fun T H => some (.go .norm T H)) (fun i _ ih T H =>
    match wanted2 T i.guard with
    | none => none
    | some false => ih (put2 T i.dst (.tup [])) H
    | some true =>
      match xstep2 call T H i.op with
      | some (.ret v, H') => ih (put2 T i.dst v) H'
      | some (.pan v, H') => some (.pan v H')
      | none => none) l T H

noncomputable def iter2 (f : PT AV → Hp2 → Option Out2) (n : Nat) (T : PT AV) (H : Hp2) : Option Out2 :=
  @Nat.rec (fun _ => PT AV → Hp2 → Option Out2) (fun _ _ => none) (fun _ ih T H =>
    match f T H with
    | some (.go .norm T' H') => ih T' H'
    | r => r) n T H

noncomputable def run2 (call : Call2) (lf : Nat) (c : PC) (T : PT AV) (H : Hp2) : Option Out2 :=
  @PC.rec (fun _ => PT AV → Hp2 → Option Out2)
    (fun T H => some (.go .norm T H))
    (fun id T H => some (.go (.exit id) T H))
    (fun T H => some (.go .ret T H))
    (fun _ _ iha ihb T H => match iha T H with
      | some (.go .norm T' H') => ihb T' H'
      | r => r)
    (fun c _ _ iha ihb T H => match ev2 T c with
      | .bool true => iha T H
      | .bool false => ihb T H
      | _ => none)
    (fun id _ ih T H => match ih T H with
      | some (.go (.exit j) T' H') => match Nat.beq j id with
        | true => some (.go .norm T' H')
        | false => some (.go (.exit j) T' H')
      | r => r)
    (fun _ ih T H => iter2 ih lf T H)
    (fun _ ih T H => ih T H)
    (fun l T H => runIns2 call l T H) c T H

noncomputable def resOne2 (T : PT AV) (H : Hp2) : IRes → Option AV
  | .tmp t => T.fget (posN t)
  | .cell1 t => xload2 (ev2 T) H (.load1 (.t t))
  | .cellN n t => xload2 (ev2 T) H (.loadN n (.t t))

noncomputable def resAll2 (T : PT AV) (H : Hp2) : List IRes → Option (List AV)
  | [] => some []
  | r :: rest => match resOne2 T H r with
    | some v => match resAll2 T H rest with
      | some vs => some (v :: vs)
      | none => none
    | none => none

noncomputable def resOf2 (T : PT AV) (H : Hp2) (rs : List IRes) : Option AV :=
  match resAll2 T H rs with
  | some [v] => some v
  | some vs => some (.tup vs)
  | none => none

abbrev Prim2 := Call2 → List AV → Hp2 → Option (CR × Hp2)

noncomputable def blank (n : Nat) : PT AV := fill (List.replicate n .any) .leaf 0

noncomputable def body2 (call : Call2) (lf : Nat) (fn : IFn) (args : List AV) (H : Hp2) : Option (CR × Hp2) :=
  match Nat.ble args.length fn.ntmps with
  | true =>
    match run2 call lf fn.body (fill args (blank fn.ntmps) 0) H with
    | some (.go (.exit _) _ _) => none
    | some (.go _ T H') => match resOf2 T H' fn.results with
      | some v => some (.ret v, H')
      | none => none
    | some (.pan v H') => some (.pan v, H')
    | none => none
  | false => none

noncomputable def evalF2 (fns : Nat → Option IFn) (prim : Nat → Option Prim2) (lf n : Nat) : Call2 :=
  @Nat.rec (fun _ => Call2) (fun _ _ _ => none) (fun _ ih f args H =>
    match prim f with
    | some p => p ih args H
    | none => match fns f with
      | some fn => body2 ih lf fn args H
      | none => none) n

/-! ### Contracts -/
noncomputable def findPrim2 (off : Nat) : Prim2 := fun _ args H =>
  match args with
  | [.ptr id g i, .str s] =>
    match H.load id g (i + off) 1 with
    | some [.nils] => some (.ret (findRes none), H)
    | some [.slice id' g' i' n _ sz] =>
      match Nat.beq sz 6 with
      | true =>
        match H.load id' g' i' (n * 6) with
        | some cells => match lastHit s cells none with
          | some r => some (.ret (findRes r), H)
          | none => none
        | none => none
      | false => none
    | _ => none
  | _ => none

noncomputable def inOldPrim2 (eb : Nat) : Prim2 := fun _ args H =>
  match args with
  | [.slice id g i n _ sz] =>
    match Nat.beq sz 7 && Nat.ble n 1099511627776 with
    | true =>
      match H.load id g i (n * 7) with
      | some cells =>
        match nodesOk cells with
        | true =>
          match H.new eb (anys n) with
          | some (id', H') => some (.ret (.slice id' 0 0 n (some n) 1), H')
          | none => none
        | false => none
      | none => none
    | false => none
  | [.nils] =>
    match H.new eb [] with
    | some (id', H') => some (.ret (.slice id' 0 0 0 (some 0) 1), H')
    | none => none
  | _ => none

noncomputable def asPrim2 (tTarget tWrap tFault : Nat) : Prim2 := fun _ args H =>
  match args with
  | [.nilIface, _] => some (.ret (.bool false), H)
  | [.iface t (.ptr id g i), .iface t' (.ptr id' g' i')] =>
    match Nat.beq t tWrap && Nat.beq t' tTarget with
    | true =>
      match H.load id g (i + 1) 1 with
      | some [.iface t2 (.ptr a b c)] =>
        match Nat.beq t2 tFault with
        | true =>
          match H.store id' g' i' [.ptr a b c] with
          | some H' => some (.ret (.bool true), H')
          | none => none
        | false => none
      | _ => none
    | false => none
  | _ => none

end Ev

/- What the evaluator over tries says the first evaluator says too. -/
set_option autoImplicit false
set_option linter.unusedSimpArgs false
set_option linter.unusedVariables false
namespace Ev
open Go

theorem fget_eq {α : Type} (t : PT α) (p : Pos) : t.fget p = t.get p := by
  induction p generalizing t with
  | one => cases t <;> rfl
  | b0 p ih => cases t with
    | leaf => rfl
    | node v l r => exact ih l
  | b1 p ih => cases t with
    | leaf => rfl
    | node v l r => exact ih r

theorem fset_get {α : Type} (v : α) (t : PT α) (p q : Pos) : (t.fset v p).get q = if p = q then some v else t.get q := by
  induction p generalizing t q with
  | one => cases t <;> cases q <;> simp [PT.fset, PT.get]
  | b0 p ih =>
    have ih' : ∀ t q, PT.get (PT.fset v t p) q = if p = q then some v else t.get q := fun t q => ih t q
    cases t with
    | leaf =>
      show (PT.node none (PT.fset v .leaf p) .leaf).get q = _
      cases q <;> simp [PT.get, ih']
    | node u l r =>
      show (PT.node u (PT.fset v l p) r).get q = _
      cases q <;> simp [PT.get, ih']
  | b1 p ih =>
    have ih' : ∀ t q, PT.get (PT.fset v t p) q = if p = q then some v else t.get q := fun t q => ih t q
    cases t with
    | leaf =>
      show (PT.node none .leaf (PT.fset v .leaf p)).get q = _
      cases q <;> simp [PT.get, ih']
    | node u l r =>
      show (PT.node u l (PT.fset v r p)).get q = _
      cases q <;> simp [PT.get, ih']

theorem fupd_get {α : Type} (v : α) (t : PT α) (p q : Pos) : (t.fupd v p).get q = if p = q then (t.get q).map (fun _ => v) else t.get q := by
  induction p generalizing t q with
  | one =>
    cases t with
    | leaf => cases q <;> simp [PT.fupd, PT.get]
    | node u l r => cases u <;> cases q <;> simp [PT.fupd, PT.get]
  | b0 p ih =>
    have ih' : ∀ t q, PT.get (PT.fupd v t p) q = if p = q then (t.get q).map (fun _ => v) else t.get q := fun t q => ih t q
    cases t with
    | leaf => cases q <;> simp [PT.fupd, PT.get]
    | node u l r =>
      show (PT.node u (PT.fupd v l p) r).get q = _
      cases q <;> simp [PT.get, ih']
  | b1 p ih =>
    have ih' : ∀ t q, PT.get (PT.fupd v t p) q = if p = q then (t.get q).map (fun _ => v) else t.get q := fun t q => ih t q
    cases t with
    | leaf => cases q <;> simp [PT.fupd, PT.get]
    | node u l r =>
      show (PT.node u l (PT.fupd v r p)).get q = _
      cases q <;> simp [PT.get, ih']

def Pos.num : Pos → Nat
  | .one => 0
  | .b0 p => 2 * p.num + 1
  | .b1 p => 2 * p.num + 2

theorem posB_num : ∀ (f n : Nat), n ≤ f → (posB f n).num = n
  | 0, n, h => by simp [posB, Pos.num]; omega
  | f + 1, n, h => by
    unfold posB
    cases h0 : Nat.beq n 0 with
    | true => simp only [Pos.num]; exact (Nat.beq_eq.mp h0).symm
    | false =>
      have hn : n ≠ 0 := fun e => by rw [e] at h0; cases h0
      cases h1 : Nat.beq (n % 2) 1 with
      | true =>
        have := Nat.beq_eq.mp h1
        simp only [Pos.num]
        rw [posB_num f (n / 2) (by omega)]
        omega
      | false =>
        have : n % 2 ≠ 1 := fun e => by rw [e] at h1; cases h1
        simp only [Pos.num]
        rw [posB_num f (n / 2 - 1) (by omega)]
        omega

theorem posN_inj {a b : Nat} : posN a = posN b ↔ a = b := by
  constructor
  · intro h
    have := congrArg Pos.num h
    unfold posN at this
    rwa [posB_num a a (Nat.le_refl _), posB_num b b (Nat.le_refl _)] at this
  · rintro rfl; rfl

theorem fill_get {α : Type} : ∀ (l : List α) (t : PT α) (i k : Nat), (fill l t i).get (posN k) = if i ≤ k ∧ k < i + l.length then l[k - i]? else t.get (posN k)
  | [], t, i, k => by
    have : ¬ (i ≤ k ∧ k < i + ([] : List α).length) := by simp
    rw [if_neg this]
    rfl
  | v :: l, t, i, k => by
    show (fill l (t.fset v (posN i)) (i + 1)).get (posN k) = _
    rw [fill_get l _ (i + 1) k]
    by_cases h1 : i + 1 ≤ k ∧ k < i + 1 + l.length
    · rw [if_pos h1, if_pos (by simp; omega)]
      have : k - i = (k - (i + 1)) + 1 := by omega
      rw [this, List.getElem?_cons_succ]
    · rw [if_neg h1, fset_get]
      by_cases h2 : i = k
      · subst h2
        rw [if_pos rfl, if_pos (by simp)]
        simp
      · rw [if_neg (fun e => h2 (posN_inj.1 e)), if_neg (by simp; omega)]

/-! ### Frames -/
def SimT (T1 : List AV) (T2 : PT AV) : Prop := ∀ n, T2.get (posN n) = T1[n]?

theorem ev2_eq {T1 : List AV} {T2 : PT AV} (h : SimT T1 T2) (x : IArg) : ev2 T2 x = evArg T1 x := by
  cases x with
  | t n =>
    simp only [ev2, evArg, fget_eq, h n, nth_eq]
    cases T1[n]? <;> rfl
  | _ => rfl

theorem ev2_fun {T1 : List AV} {T2 : PT AV} (h : SimT T1 T2) : ev2 T2 = evArg T1 := funext (ev2_eq h)

theorem put2_sim {T1 : List AV} {T2 : PT AV} (h : SimT T1 T2) (d : Option Nat) (v : AV) : SimT (put T1 d v) (put2 T2 d v) := by
  cases d with
  | none => exact h
  | some d =>
    intro n
    simp only [put2, put, putAt_eq, fupd_get, h n]
    rw [List.getElem?_set]
    by_cases hd : d = n
    · subst hd
      simp only [if_true]
      by_cases hl : d < T1.length
      · simp [hl]
      · simp [hl]
    · rw [if_neg (fun e => hd (posN_inj.1 e)), if_neg hd]

theorem wanted2_eq {T1 : List AV} {T2 : PT AV} (h : SimT T1 T2) (g : Option (Nat × Bool)) : wanted2 T2 g = wantedA T1 g := by
  cases g with
  | none => rfl
  | some tb =>
    obtain ⟨t, b⟩ := tb
    simp only [wanted2, wantedA, fget_eq, h t, nth_eq]
    cases T1[t]? with
    | none => rfl
    | some x => cases x <;> rfl

/-! ### Memory -/
structure SimB (b1 : VB) (b2 : VB2) : Prop where
  gen : b2.gen = b1.gen
  elem : b2.elem = b1.elem
  own : b2.own = b1.own
  cnt : b2.cnt = b1.cells.length
  get : ∀ i, i < b1.cells.length → b2.cells.get (posN i) = b1.cells[i]?

structure SimH (H1 : Hp) (H2 : Hp2) : Prop where
  next : H2.next = H1.next
  no : ∀ p, H1.get p = none → H2.m.get p = none
  yes : ∀ p b1, H1.get p = some b1 → ∃ b2, H2.m.get p = some b2 ∧ SimB b1 b2

variable {H1 : Hp} {H2 : Hp2}

theorem SimH.back (S : SimH H1 H2) {p : Pos} {b2 : VB2} (h : H2.m.get p = some b2) : ∃ b1, H1.get p = some b1 ∧ SimB b1 b2 := by
  cases h1 : H1.get p with
  | none => rw [S.no p h1] at h; cases h
  | some b1 =>
    obtain ⟨b2', h2, hs⟩ := S.yes p b1 h1
    rw [h] at h2
    injection h2 with h2
    subst h2
    exact ⟨b1, rfl, hs⟩

theorem takeN_eq {b1 : VB} {b2 : VB2} (S : SimB b1 b2) {g : Nat} : ∀ (n i : Nat) (l : List AV), i + n ≤ b1.cells.length → takeN b2.cells g n i = some l → takeCells g n (b1.cells.drop i) = some l := by
  intro n
  induction n with
  | zero =>
    intro i l _ h
    have h' : (some [] : Option (List AV)) = some l := h
    simpa [takeCells] using h'
  | succ n ih =>
    intro i l hi h
    have h' : (match b2.cells.fget (posN i) with
      | some (v, m) => match Nat.ble m g with
        | true => match takeN b2.cells g n (i + 1) with
          | some r => some (v :: r)
          | none => none
        | false => none
      | none => none) = some l := h
    rw [fget_eq, S.get i (by omega)] at h'
    have hd : b1.cells.drop i = b1.cells[i] :: b1.cells.drop (i + 1) := List.drop_eq_getElem_cons (by omega)
    rw [List.getElem?_eq_getElem (by omega)] at h'
    rw [hd]
    generalize b1.cells[i] = c at h' ⊢
    obtain ⟨v, m⟩ := c
    simp only at h'
    split at h'
    · rename_i hm
      have hm' : m ≤ g := Nat.ble_eq.mp hm
      split at h'
      · rename_i r hr
        injection h' with h'
        subst h'
        simp only [takeCells, if_pos hm']
        rw [ih (i + 1) r (by omega) hr]
        simp
      · cases h'
    · cases h'

theorem load2_sim (S : SimH H1 H2) {id : Pos} {g i n : Nat} {l : List AV} (h : H2.load id g i n = some l) : H1.load id g i n = some l := by
  unfold Hp2.load at h
  rw [fget_eq] at h
  split at h
  · rename_i b2 hb2
    obtain ⟨b1, hb1, SB⟩ := S.back hb2
    split at h
    · rename_i hle
      have hle' := Nat.ble_eq.mp hle
      rw [SB.cnt] at hle'
      unfold Hp.load
      rw [hb1]
      exact takeN_eq SB n i l hle' h
    · cases h
  · cases h

theorem SimH.set (S : SimH H1 H2) {p : Pos} {b1 : VB} {b2 : VB2} (hs : SimB b1 b2) {n1 : Pos} {n2 : Pos} (hn : n2 = n1) : SimH ⟨H1.m.set b1 p, n1⟩ ⟨H2.m.fset b2 p, n2⟩ := by
  refine ⟨hn, fun q hq => ?_, fun q c1 hq => ?_⟩
  · simp only [Hp.get, PT.get_set] at hq
    simp only [fset_get]
    split at hq
    · cases hq
    · rename_i hne
      rw [if_neg hne]
      exact S.no q hq
  · simp only [Hp.get, PT.get_set] at hq
    simp only [fset_get]
    split at hq
    · rename_i he
      injection hq with hq
      subst hq
      exact ⟨b2, by rw [if_pos he], hs⟩
    · rename_i hne
      rw [if_neg hne]
      exact S.yes q c1 hq

theorem new2_sim (S : SimH H1 H2) {e : Nat} {cells : List AV} {id : Pos} {H2' : Hp2} (h : H2.new e cells = some (id, H2')) : ∃ H1', H1.new e cells = some (id, H1') ∧ SimH H1' H2' := by
  unfold Hp2.new at h
  rw [fget_eq] at h
  split at h
  · cases h
  · rename_i hn
    injection h with h
    injection h with h1 h2
    subst h1; subst h2
    have hn1 : H1.get (.b1 H1.next) = none := by
      cases hg : H1.get (.b1 H1.next) with
      | none => rfl
      | some b1 =>
        obtain ⟨b2, hb2, _⟩ := S.yes _ _ hg
        rw [S.next] at hn
        rw [hn] at hb2
        cases hb2
    refine ⟨⟨H1.m.set ⟨cells.map (·, 0), 0, e, true⟩ (.b1 H1.next), H1.next.succ⟩, ?_, ?_⟩
    · unfold Hp.new
      rw [hn1]
      rw [S.next]
    · rw [S.next]
      refine S.set ⟨rfl, rfl, rfl, by simp, fun i hi => ?_⟩ rfl
      rw [fill_get]
      simp only [List.length_map] at hi
      rw [if_pos (by simp; omega)]
      simp

theorem store2_sim (S : SimH H1 H2) {id : Pos} {g i : Nat} {vs : List AV} {H2' : Hp2} (h : H2.store id g i vs = some H2') : ∃ H1', H1.store id g i vs = some H1' ∧ SimH H1' H2' := by
  unfold Hp2.store at h
  rw [fget_eq] at h
  split at h
  · rename_i b2 hb2
    obtain ⟨b1, hb1, SB⟩ := S.back hb2
    split at h
    · rename_i hc
      simp only [Bool.and_eq_true, Nat.beq_eq] at hc
      obtain ⟨⟨⟨c1, c2⟩, c3⟩, c4⟩ := hc
      have c3' := Nat.ble_eq.mp c3
      rw [SB.cnt] at c3'
      rw [SB.own] at c1
      rw [SB.gen] at c2
      injection h with h
      subst h
      refine ⟨H1.set id { b1 with cells := b1.cells.take i ++ vs.map (·, g) ++ b1.cells.drop (i + vs.length) }, ?_, ?_⟩
      · unfold Hp.store
        rw [hb1]
        simp only
        rw [if_pos ⟨c1, c2, c3', c4⟩]
      · refine SimH.set (b1 := { b1 with cells := b1.cells.take i ++ vs.map (·, g) ++ b1.cells.drop (i + vs.length) }) (b2 := ⟨fill (vs.map (·, g)) b2.cells i, b2.cnt, b2.gen, b2.elem, b2.own⟩) S ⟨SB.gen, SB.elem, SB.own, ?_, fun k hk => ?_⟩ S.next
        · rw [SB.cnt]; simp; omega
        · have hlen : (b1.cells.take i ++ vs.map (·, g) ++ b1.cells.drop (i + vs.length)).length = b1.cells.length := by simp; omega
          simp only [] at hk
          rw [hlen] at hk
          rw [fill_get, List.length_map]
          have hti : (b1.cells.take i).length = i := by simp; omega
          by_cases hk1 : k < i
          · rw [if_neg (by omega), SB.get k hk, List.append_assoc, List.getElem?_append_left (by omega), List.getElem?_take_of_lt hk1]
          · by_cases hk2 : k < i + vs.length
            · rw [if_pos ⟨by omega, hk2⟩, List.getElem?_append_left (by simp; omega), List.getElem?_append_right (by omega), hti]
            · rw [if_neg (by omega), SB.get k hk, List.getElem?_append_right (by simp; omega), List.length_append, hti, List.length_map, List.getElem?_drop]
              congr 1
              omega
    · cases h
  · cases h

theorem xload2_sim (S : SimH H1 H2) {ev : Ev} {i : IOp} {v : AV} (h : xload2 ev H2 i = some v) : xload ev H1 i = some v := by
  cases i <;> (try (simp [xload2] at h; done)) <;> simp only [xload2] at h <;> simp only [xload]
  case load1 x =>
    split at h <;> (try (cases h; done))
    rename_i id g k hx
    split at h <;> (try (cases h; done))
    rename_i u hu
    rw [hx]
    simp only [load2_sim S hu]
    exact h
  case loadN n x =>
    split at h <;> (try (cases h; done))
    rename_i id g k hx
    split at h <;> (try (cases h; done))
    rename_i l hl
    rw [hx]
    simp only [load2_sim S hl]
    exact h
  case b2s x =>
    split at h
    · rename_i hx
      rw [hx]
      exact h
    · rename_i id g k len cap sz hx
      split at h <;> (try (cases h; done))
      rename_i hsz
      have hsz' := Nat.beq_eq.mp hsz
      split at h <;> (try (cases h; done))
      rename_i l hl
      split at h <;> (try (cases h; done))
      rename_i s hs
      rw [hx]
      simp only [if_pos hsz', load2_sim S hl, Option.bind_some, hs]
      exact h
    · cases h

end Ev

/- What the evaluator over tries says the first evaluator says too: operations, code, calls. -/
set_option autoImplicit false
set_option linter.unusedSimpArgs false
set_option linter.unusedVariables false
namespace Ev
open Go

variable {H1 : Hp} {H2 : Hp2}

theorem appended2_sim (S : SimH H1 H2) {sz : Nat} {x : AV} {r : List AV × Nat} (h : appended2 H2 sz x = some r) : appended H1 sz x = some r := by
  cases x <;> simp only [appended2] at h <;> simp only [appended] <;> (try (exact h)) <;> (try (cases h; done))
  case slice id g i len cap sz' =>
    split at h <;> (try (cases h; done))
    rename_i hsz
    have hsz' := Nat.beq_eq.mp hsz
    split at h <;> (try (cases h; done))
    rename_i l hl
    rw [if_pos hsz', load2_sim S hl]
    exact h
  case str s =>
    split at h <;> (try (cases h; done))
    rename_i hsz
    rw [if_pos (Nat.beq_eq.mp hsz)]
    exact h

theorem grow2_sim (S : SimH H1 H2) {id : Pos} {e k g' : Nat} {news : List AV} {H2' : Hp2} (h : H2.grow id e k news = some (g', H2')) :
    ∃ b, H1.get id = some b ∧ b.own = true ∧ b.elem = e ∧ g' = b.gen + 1 ∧ SimH (H1.set id { b with cells := b.cells.take k ++ news.map (·, b.gen + 1), gen := b.gen + 1 }) H2' := by
  unfold Hp2.grow at h
  rw [fget_eq] at h
  split at h
  · rename_i b2 hb2
    obtain ⟨b1, hb1, SB⟩ := S.back hb2
    split at h
    · rename_i hc
      simp only [Bool.and_eq_true, Nat.beq_eq] at hc
      obtain ⟨⟨c1, c2⟩, c3⟩ := hc
      have c3' := Nat.ble_eq.mp c3
      rw [SB.cnt] at c3'
      rw [SB.own] at c1
      rw [SB.elem] at c2
      injection h with h
      injection h with h1 h2
      subst h1; subst h2
      refine ⟨b1, hb1, c1, c2, by rw [SB.gen], ?_⟩
      refine SimH.set (b1 := { b1 with cells := b1.cells.take k ++ news.map (·, b1.gen + 1), gen := b1.gen + 1 }) (b2 := ⟨fill (news.map (·, b2.gen + 1)) b2.cells k, k + news.length, b2.gen + 1, b2.elem, b2.own⟩) S
        ⟨by rw [SB.gen], SB.elem, SB.own, by simp; omega, fun j hj => ?_⟩ S.next
      have htk : (b1.cells.take k).length = k := by simp; omega
      simp only [List.length_append, htk, List.length_map] at hj
      rw [fill_get, List.length_map, SB.gen]
      by_cases hj1 : j < k
      · rw [if_neg (by omega), SB.get j (by omega), List.getElem?_append_left (by omega), List.getElem?_take_of_lt hj1]
      · rw [if_pos ⟨by omega, by omega⟩, List.getElem?_append_right (by omega), htk]
    · cases h
  · cases h

theorem xappend2_sim (S : SimH H1 H2) {e sz bytes : Nat} {s x v : AV} {H2' : Hp2} (h : xappend2 H2 e sz bytes s x = some (v, H2')) : ∃ H1', xappend H1 e sz bytes s x = some (v, H1') ∧ SimH H1' H2' := by
  unfold xappend2 at h
  split at h
  · cases h
  · rename_i news n hnews
    have hn1 := appended2_sim S hnews
    unfold xappend
    rw [hn1]
    simp only
    split at h
    · rename_i hn0
      rw [if_pos (Nat.beq_eq.mp hn0)]
      split at h
      · injection h with h; injection h with h1 h2; subst h1; subst h2
        exact ⟨H1, rfl, S⟩
      · rename_i id g i len cap sz'
        split at h
        · rename_i hsz
          injection h with h; injection h with h1 h2; subst h1; subst h2
          dsimp only
          rw [if_pos (Nat.beq_eq.mp hsz)]
          exact ⟨H1, rfl, S⟩
        · cases h
      · cases h
    · rename_i hn0
      have hn0' : n ≠ 0 := fun e => by rw [e] at hn0; cases hn0
      rw [if_neg hn0']
      split at h
      · cases h
      · rename_i hone
        simp only [Bool.and_eq_true, Bool.not_eq_true'] at hone
        have hsz0 : sz ≠ 0 := fun e => by rw [e] at hone; exact absurd hone.2 (by simp)
        rw [if_neg (by rintro (h | h); · rw [hone.1] at h; cases h
                       · exact hsz0 h)]
        split at h
        · split at h
          · rename_i hsm
            split at h
            · rename_i id H' hnew
              injection h with h; injection h with h1 h2; subst h1; subst h2
              obtain ⟨H1', q1, q2⟩ := new2_sim S hnew
              refine ⟨H1', ?_, q2⟩
              simp only [hsm, if_true, q1]
            · cases h
          · cases h
        · rename_i id g i len cap sz'
          split at h
          · rename_i hc
            simp only [Bool.and_eq_true, Nat.beq_eq] at hc
            split at h
            · cases h
            · rename_i olds holds
              split at h
              · cases h
              · rename_i hao
                have ho1 := load2_sim S holds
                simp only [if_pos hc, ho1, hao, Bool.true_eq_false, if_false]
                split at h
                · rename_i c
                  split at h
                  · rename_i hle
                    split at h
                    · rename_i H' hst
                      injection h with h; injection h with h1 h2; subst h1; subst h2
                      obtain ⟨H1', q1, q2⟩ := store2_sim S hst
                      refine ⟨H1', ?_, q2⟩
                      simp only [if_pos (Nat.ble_eq.mp hle), q1]
                    · cases h
                  · rename_i hle
                    have hle' : ¬ (len + n ≤ c) := fun e => by rw [Nat.ble_eq.mpr e] at hle; cases hle
                    split at h
                    · rename_i id' H' hnew
                      injection h with h; injection h with h1 h2; subst h1; subst h2
                      obtain ⟨H1', q1, q2⟩ := new2_sim S hnew
                      refine ⟨H1', ?_, q2⟩
                      simp only [if_neg hle', q1]
                    · cases h
                · split at h
                  · rename_i hi0
                    split at h
                    · rename_i g' H' hgr
                      injection h with h; injection h with h1 h2; subst h1; subst h2
                      obtain ⟨b, q1, q2, q3, q4, q5⟩ := grow2_sim S hgr
                      refine ⟨_, ?_, q5⟩
                      simp only [if_pos (Nat.beq_eq.mp hi0), q1, q2, q3, and_self, if_true, q4]
                    · cases h
                  · cases h
          · cases h
        · cases h

theorem xeff2_sim (S : SimH H1 H2) {ev : Ev} {i : IOp} {v : AV} {H2' : Hp2} (h : xeff2 ev H2 i = some (v, H2')) : ∃ H1', xeff ev H1 i = some (v, H1') ∧ SimH H1' H2' := by
  unfold xeff2 at h
  unfold xeff
  split at h
  · rename_i e cells f hm
    rw [hm]
    split at h
    · rename_i id H' hnew
      injection h with h; injection h with h1 h2; subst h1; subst h2
      obtain ⟨H1', q1, q2⟩ := new2_sim S hnew
      exact ⟨H1', by simp only [q1], q2⟩
    · cases h
  · rename_i hm
    rw [hm]
    split at h
    · rename_i n a w
      split at h
      · rename_i id g k vs ha hw
        split at h
        · rename_i hlen
          split at h
          · rename_i H' hst
            injection h with h; injection h with h1 h2; subst h1; subst h2
            obtain ⟨H1', q1, q2⟩ := store2_sim S hst
            refine ⟨H1', ?_, q2⟩
            simp only [xwrite, ha, hw, if_pos (Nat.beq_eq.mp hlen), q1, Option.map_some]
          · cases h
        · cases h
      · cases h
    · exact xappend2_sim S h
    · cases h

/-! ### Steps -/
def CallSim (c1 : Call) (c2 : Call2) : Prop :=
  ∀ (f : Nat) (args : List AV) (H1 : Hp) (H2 : Hp2) (r : CR) (H2' : Hp2), SimH H1 H2 → c2 f args H2 = some (r, H2') → ∃ H1', c1 f args H1 = some (r, H1') ∧ SimH H1' H2'

theorem takeCells_zero : ∀ (l : List (AV × Nat)) (r : List AV), takeCells 0 l.length l = some r → r = l.map (·.1) ∧ l.all (fun c => Nat.beq c.2 0) = true
  | [], r, h => by simp [takeCells] at h; subst h; simp
  | (v, m) :: l, r, h => by
    simp only [List.length_cons, takeCells] at h
    split at h
    · rename_i hm
      obtain ⟨r', hr, rfl⟩ := Option.map_eq_some_iff.1 h
      obtain ⟨h1, h2⟩ := takeCells_zero l r' hr
      have hm0 : m = 0 := by omega
      subst hm0
      exact ⟨by simp [h1], by simpa using h2⟩
    · cases h

theorem xstep2_sim {c1 : Call} {c2 : Call2} (C : CallSim c1 c2) (S : SimH H1 H2) {T1 : List AV} {T2 : PT AV} (hT : SimT T1 T2) {o : IOp} {r : CR} {H2' : Hp2} (h : xstep2 c2 T2 H2 o = some (r, H2')) :
    ∃ H1', xstep c1 T1 H1 o = some (r, H1') ∧ SimH H1' H2' := by
  have hev := ev2_fun hT
  have plain : isCallI o = false → (match xpure (ev2 T2) o with
      | some v => some (CR.ret v, H2)
      | none => match xload2 (ev2 T2) H2 o with
        | some v => some (CR.ret v, H2)
        | none => match xeff2 (ev2 T2) H2 o with
          | some (v, H') => some (CR.ret v, H')
          | none => none) = some (r, H2') → ∃ H1', xstep c1 T1 H1 o = some (r, H1') ∧ SimH H1' H2' := by
    intro hc h
    rw [xstep_plain c1 T1 H1 hc]
    rw [hev] at h
    cases hp : xpure (evArg T1) o with
    | some v =>
      rw [hp] at h
      injection h with h; injection h with h1 h2; subst h1; subst h2
      exact ⟨H1, rfl, S⟩
    | none =>
      rw [hp] at h
      simp only at h ⊢
      cases hl : xload2 (evArg T1) H2 o with
      | some v =>
        rw [hl] at h
        injection h with h; injection h with h1 h2; subst h1; subst h2
        rw [xload2_sim S hl]
        exact ⟨H1, rfl, S⟩
      | none =>
        rw [hl] at h
        simp only at h
        split at h
        · rename_i v H' he
          injection h with h; injection h with h1 h2; subst h1; subst h2
          obtain ⟨H1', q1, q2⟩ := xeff2_sim S he
          cases hl1 : xload (evArg T1) H1 o with
          | some u =>
            exfalso
            revert hl1 he
            cases o <;> first
              | (intro hl1; simp [xload] at hl1; done)
              | (intro hl1 he; simp [xeff2, xmake] at he; done)
              | (intro he hl1; simp [xeff2, xmake] at he; done)
              | (intro he hl1; simp [xload] at hl1; done)
          | none => exact ⟨H1', by simp only [q1], q2⟩
        · cases h
  cases hc : isCallI o with
  | false =>
    refine plain hc ?_
    revert hc
    cases o <;> first
      | (intro hc; exact h)
      | (intro hc; simp [isCallI] at hc; done)
  | true =>
    cases o <;> simp [isCallI] at hc
    case callf f args =>
      simp only [xstep2, hev] at h
      exact C f _ H1 H2 r H2' S h
    case callv x args =>
      simp only [xstep2, hev] at h
      simp only [xstep]
      split at h
      · rename_i f first cap hx
        rw [hx]
        exact C f _ H1 H2 r H2' S h
      · cases h
    case inv ms x args =>
      simp only [xstep2, hev] at h
      simp only [xstep]
      split at h
      · rename_i t v hx
        rw [hx]
        simp only
        split at h
        · rename_i f hf
          rw [hf]
          exact C f _ H1 H2 r H2' S h
        · cases h
      · cases h
    case panic x =>
      simp only [xstep2, hev] at h
      simp only [xstep]
      split at h
      · rename_i t v hx
        rw [hx]
        injection h with h; injection h with h1 h2; subst h1; subst h2
        exact ⟨H1, rfl, S⟩
      · cases h
    case again d o =>
      simp only [xstep2, hev, fget_eq] at h
      simp only [xstep]
      split at h
      · rename_i e cells f hm
        rw [hm]
        simp only
        split at h <;> (try (cases h; done))
        rename_i v hv
        rw [hT d] at hv
        split at h <;> (try (cases h; done))
        rename_i id hid
        split at h <;> (try (cases h; done))
        rename_i b2 hb2
        obtain ⟨b1, hb1, SB⟩ := S.back hb2
        split at h <;> (try (cases h; done))
        rename_i hcnd
        simp only [Bool.and_eq_true, Nat.beq_eq] at hcnd
        obtain ⟨⟨⟨k1, k2⟩, k3⟩, k4⟩ := hcnd
        split at h <;> (try (cases h; done))
        rename_i l hl
        split at h <;> (try (cases h; done))
        rename_i hsame
        injection h with h; injection h with h1 h2; subst h1; subst h2
        have ht := takeN_eq SB b2.cnt 0 l (by rw [SB.cnt]; omega) hl
        rw [SB.cnt, List.drop_zero] at ht
        obtain ⟨q1, q2⟩ := takeCells_zero _ _ ht
        rw [nth_eq, hv]
        simp only [Option.bind_some, hid, hb1]
        rw [SB.gen] at k1
        rw [SB.elem] at k2
        rw [SB.own] at k3
        rw [q1] at hsame
        refine ⟨H1, ?_, S⟩
        rw [if_pos]
        simp only [k1, k2, k3, hsame, q2, Nat.beq_refl, Bool.and_self]
      · rename_i hm
        rw [hm]
        simp only
        split at h <;> (try (cases h; done))
        rename_i v u hv hu
        rw [hT d] at hu
        split at h <;> (try (cases h; done))
        rename_i hs
        injection h with h; injection h with h1 h2; subst h1; subst h2
        rw [xload2_sim S hv, nth_eq, hu]
        simp only [hs, if_true]
        exact ⟨H1, rfl, S⟩

end Ev

/- What the evaluator over tries says the first evaluator says too: code and calls. -/
set_option autoImplicit false
set_option linter.unusedSimpArgs false
set_option linter.unusedVariables false
namespace Ev
open Go

def OutSim : Out → Out2 → Prop
  | .go x1 T1 H1, .go x2 T2 H2 => x1 = x2 ∧ SimT T1 T2 ∧ SimH H1 H2
  | .pan v1 H1, .pan v2 H2 => v1 = v2 ∧ SimH H1 H2
  | _, _ => False

theorem runIns2_sim {c1 : Call} {c2 : Call2} (C : CallSim c1 c2) : ∀ (l : List Ins) {T1 : List AV} {T2 : PT AV} {H1 : Hp} {H2 : Hp2} {o2 : Out2}, SimT T1 T2 → SimH H1 H2 → runIns2 c2 l T2 H2 = some o2 →
    ∃ o1, runIns c1 l T1 H1 = some o1 ∧ OutSim o1 o2
  | [], T1, T2, H1, H2, o2, hT, S, h => by
    have h' : some (Out2.go .norm T2 H2) = some o2 := h
    injection h' with h'
    subst h'
    exact ⟨_, rfl, rfl, hT, S⟩
  | i :: l, T1, T2, H1, H2, o2, hT, S, h => by
    have h' : (match wanted2 T2 i.guard with
      | none => none
      | some false => runIns2 c2 l (put2 T2 i.dst (.tup [])) H2
      | some true =>
        match xstep2 c2 T2 H2 i.op with
        | some (.ret v, H') => runIns2 c2 l (put2 T2 i.dst v) H'
        | some (.pan v, H') => some (.pan v H')
        | none => none) = some o2 := h
    rw [wanted2_eq hT] at h'
    simp only [runIns]
    cases hw : wantedA T1 i.guard with
    | none => rw [hw] at h'; cases h'
    | some b =>
      rw [hw] at h'
      cases b with
      | false =>
        simp only at h' ⊢
        exact runIns2_sim C l (put2_sim hT _ _) S h'
      | true =>
        simp only at h' ⊢
        split at h'
        · rename_i v H' hs
          obtain ⟨H1', q1, q2⟩ := xstep2_sim C S hT hs
          rw [q1]
          exact runIns2_sim C l (put2_sim hT _ _) q2 h'
        · rename_i v H' hs
          obtain ⟨H1', q1, q2⟩ := xstep2_sim C S hT hs
          rw [q1]
          injection h' with h'
          subst h'
          exact ⟨_, rfl, rfl, q2⟩
        · cases h'

theorem iter2_sim {f1 : List AV → Hp → Option Out} {f2 : PT AV → Hp2 → Option Out2} (hf : ∀ {T1 : List AV} {T2 : PT AV} {H1 : Hp} {H2 : Hp2} {o2 : Out2}, SimT T1 T2 → SimH H1 H2 → f2 T2 H2 = some o2 → ∃ o1, f1 T1 H1 = some o1 ∧ OutSim o1 o2) :
    ∀ (n : Nat) {T1 : List AV} {T2 : PT AV} {H1 : Hp} {H2 : Hp2} {o2 : Out2}, SimT T1 T2 → SimH H1 H2 → iter2 f2 n T2 H2 = some o2 → ∃ o1, iter f1 n T1 H1 = some o1 ∧ OutSim o1 o2
  | 0, T1, T2, H1, H2, o2, hT, S, h => by
    have h' : (none : Option Out2) = some o2 := h
    cases h'
  | n + 1, T1, T2, H1, H2, o2, hT, S, h => by
    have h' : (match f2 T2 H2 with
      | some (.go .norm T' H') => iter2 f2 n T' H'
      | r => r) = some o2 := h
    simp only [iter]
    cases h2 : f2 T2 H2 with
    | none => rw [h2] at h'; cases h'
    | some o =>
      rw [h2] at h'
      obtain ⟨o1, q1, q2⟩ := hf hT S h2
      rw [q1]
      cases o with
      | go x T' H' =>
        cases o1 with
        | go x1 T1' H1' =>
          obtain ⟨rfl, q3, q4⟩ := q2
          cases x1 with
          | norm => exact iter2_sim hf n q3 q4 h'
          | _ =>
            injection h' with h'
            subst h'
            exact ⟨_, rfl, rfl, q3, q4⟩
        | pan v H => exact q2.elim
      | pan v H' =>
        cases o1 with
        | go x1 T1' H1' => exact q2.elim
        | pan v1 H1' =>
          injection h' with h'
          subst h'
          exact ⟨_, rfl, q2⟩

theorem run2_sim {c1 : Call} {c2 : Call2} (C : CallSim c1 c2) (lf : Nat) : ∀ (c : PC) {T1 : List AV} {T2 : PT AV} {H1 : Hp} {H2 : Hp2} {o2 : Out2}, SimT T1 T2 → SimH H1 H2 → run2 c2 lf c T2 H2 = some o2 →
    ∃ o1, run c1 lf c T1 H1 = some o1 ∧ OutSim o1 o2 := by
  intro c
  induction c with
  | skip =>
    intro T1 T2 H1 H2 o2 hT S h
    have h' : some (Out2.go .norm T2 H2) = some o2 := h
    injection h' with h'; subst h'
    exact ⟨_, rfl, rfl, hT, S⟩
  | exit id =>
    intro T1 T2 H1 H2 o2 hT S h
    have h' : some (Out2.go (.exit id) T2 H2) = some o2 := h
    injection h' with h'; subst h'
    exact ⟨_, rfl, rfl, hT, S⟩
  | ret =>
    intro T1 T2 H1 H2 o2 hT S h
    have h' : some (Out2.go .ret T2 H2) = some o2 := h
    injection h' with h'; subst h'
    exact ⟨_, rfl, rfl, hT, S⟩
  | seq a b iha ihb =>
    intro T1 T2 H1 H2 o2 hT S h
    have h' : (match run2 c2 lf a T2 H2 with
      | some (.go .norm T' H') => run2 c2 lf b T' H'
      | r => r) = some o2 := h
    simp only [run]
    cases h2 : run2 c2 lf a T2 H2 with
    | none => rw [h2] at h'; cases h'
    | some o =>
      rw [h2] at h'
      obtain ⟨o1, q1, q2⟩ := iha hT S h2
      rw [q1]
      cases o with
      | go x T' H' =>
        cases o1 with
        | go x1 T1' H1' =>
          obtain ⟨rfl, q3, q4⟩ := q2
          cases x1 with
          | norm => exact ihb q3 q4 h'
          | _ =>
            injection h' with h'
            subst h'
            exact ⟨_, rfl, rfl, q3, q4⟩
        | pan v H => exact q2.elim
      | pan v H' =>
        cases o1 with
        | go x1 T1' H1' => exact q2.elim
        | pan v1 H1' =>
          injection h' with h'
          subst h'
          exact ⟨_, rfl, q2⟩
  | cond x a b iha ihb =>
    intro T1 T2 H1 H2 o2 hT S h
    have h' : (match ev2 T2 x with
      | .bool true => run2 c2 lf a T2 H2
      | .bool false => run2 c2 lf b T2 H2
      | _ => none) = some o2 := h
    rw [ev2_eq hT] at h'
    simp only [run]
    split at h'
    · rename_i hx; rw [hx]; exact iha hT S h'
    · rename_i hx; rw [hx]; exact ihb hT S h'
    · cases h'
  | block id c ih =>
    intro T1 T2 H1 H2 o2 hT S h
    have h' : (match run2 c2 lf c T2 H2 with
      | some (.go (.exit j) T' H') => match Nat.beq j id with
        | true => some (.go .norm T' H')
        | false => some (.go (.exit j) T' H')
      | r => r) = some o2 := h
    simp only [run]
    cases h2 : run2 c2 lf c T2 H2 with
    | none => rw [h2] at h'; cases h'
    | some o =>
      rw [h2] at h'
      obtain ⟨o1, q1, q2⟩ := ih hT S h2
      rw [q1]
      cases o with
      | go x T' H' =>
        cases o1 with
        | go x1 T1' H1' =>
          obtain ⟨rfl, q3, q4⟩ := q2
          cases x1 with
          | exit j =>
            simp only at h' ⊢
            split at h'
            · rename_i hj
              injection h' with h'; subst h'
              rw [if_pos (Nat.beq_eq.mp hj)]
              exact ⟨_, rfl, rfl, q3, q4⟩
            · rename_i hj
              injection h' with h'; subst h'
              rw [if_neg (fun e => by rw [Nat.beq_eq.mpr e] at hj; cases hj)]
              exact ⟨_, rfl, rfl, q3, q4⟩
          | _ =>
            injection h' with h'
            subst h'
            exact ⟨_, rfl, rfl, q3, q4⟩
        | pan v H => exact q2.elim
      | pan v H' =>
        cases o1 with
        | go x1 T1' H1' => exact q2.elim
        | pan v1 H1' =>
          injection h' with h'
          subst h'
          exact ⟨_, rfl, q2⟩
  | loop c ih =>
    intro T1 T2 H1 H2 o2 hT S h
    have h' : iter2 (run2 c2 lf c) lf T2 H2 = some o2 := h
    simp only [run]
    exact iter2_sim (fun hT S h => ih hT S h) lf hT S h'
  | scope c ih =>
    intro T1 T2 H1 H2 o2 hT S h
    have h' : run2 c2 lf c T2 H2 = some o2 := h
    simp only [run]
    exact ih hT S h'
  | ops l =>
    intro T1 T2 H1 H2 o2 hT S h
    have h' : runIns2 c2 l T2 H2 = some o2 := h
    simp only [run]
    exact runIns2_sim C l hT S h'

theorem resAll2_sim {T1 : List AV} {T2 : PT AV} {H1 : Hp} {H2 : Hp2} (hT : SimT T1 T2) (S : SimH H1 H2) : ∀ (rs : List IRes) {vs : List AV}, resAll2 T2 H2 rs = some vs → resAll T1 H1 rs = some vs
  | [], vs, h => h
  | r :: rs, vs, h => by
    simp only [resAll2] at h
    split at h <;> (try (cases h; done))
    rename_i v hv
    split at h <;> (try (cases h; done))
    rename_i ws hws
    have h1 : resOne T1 H1 r = some v := by
      cases r <;> simp only [resOne2] at hv <;> simp only [resOne]
      · rw [fget_eq, hT] at hv
        rw [nth_eq]; exact hv
      · rw [ev2_fun hT] at hv
        exact xload2_sim S hv
      · rw [ev2_fun hT] at hv
        exact xload2_sim S hv
    simp only [resAll, h1, resAll2_sim hT S rs hws]
    exact h

theorem resOf2_sim {T1 : List AV} {T2 : PT AV} {H1 : Hp} {H2 : Hp2} (hT : SimT T1 T2) (S : SimH H1 H2) {rs : List IRes} {v : AV} (h : resOf2 T2 H2 rs = some v) : resOf T1 H1 rs = some v := by
  unfold resOf2 at h
  cases h2 : resAll2 T2 H2 rs with
  | none => rw [h2] at h; cases h
  | some vs =>
    rw [h2] at h
    unfold resOf
    rw [resAll2_sim hT S rs h2]
    match vs, h with
    | [], h => exact h
    | [x], h => exact h
    | x :: y :: l, h => exact h

theorem frame_sim {args : List AV} {n : Nat} (h : args.length ≤ n) : SimT (pad args n) (fill args (blank n) 0) := by
  intro k
  rw [fill_get]
  unfold pad blank
  by_cases hk : k < args.length
  · rw [if_pos ⟨by omega, by omega⟩, List.getElem?_append_left hk, Nat.sub_zero]
  · rw [if_neg (by omega), fill_get, List.getElem?_append_right (by omega)]
    by_cases hk2 : k < n
    · rw [if_pos ⟨by omega, by simp; omega⟩]
      rw [List.getElem?_replicate, List.getElem?_replicate, if_pos (by omega), if_pos (by omega)]
    · rw [if_neg (by simp; omega), List.getElem?_replicate, if_neg (by omega)]
      rfl

theorem body2_sim {c1 : Call} {c2 : Call2} (C : CallSim c1 c2) {lf : Nat} {fn : IFn} {args : List AV} {H1 : Hp} {H2 : Hp2} {r : CR} {H2' : Hp2} (S : SimH H1 H2) (h : body2 c2 lf fn args H2 = some (r, H2')) :
    ∃ H1', body c1 lf fn args H1 = some (r, H1') ∧ SimH H1' H2' := by
  unfold body2 at h
  split at h
  · rename_i hle
    have hT := frame_sim (Nat.ble_eq.mp hle)
    cases h2 : run2 c2 lf fn.body (fill args (blank fn.ntmps) 0) H2 with
    | none => rw [h2] at h; cases h
    | some o =>
      rw [h2] at h
      obtain ⟨o1, q1, q2⟩ := run2_sim C lf fn.body hT S h2
      unfold body
      rw [q1]
      cases o with
      | go x T' H' =>
        cases o1 with
        | go x1 T1' H1' =>
          obtain ⟨rfl, q3, q4⟩ := q2
          cases x1 with
          | exit j => cases h
          | norm =>
            simp only at h ⊢
            split at h <;> (try (cases h; done))
            rename_i v hv
            injection h with h; injection h with h1 h2; subst h1; subst h2
            rw [resOf2_sim q3 q4 hv]
            exact ⟨_, rfl, q4⟩
          | ret =>
            simp only at h ⊢
            split at h <;> (try (cases h; done))
            rename_i v hv
            injection h with h; injection h with h1 h2; subst h1; subst h2
            rw [resOf2_sim q3 q4 hv]
            exact ⟨_, rfl, q4⟩
        | pan v H => exact q2.elim
      | pan v H' =>
        cases o1 with
        | go x1 T1' H1' => exact q2.elim
        | pan v1 H1' =>
          obtain ⟨rfl, q3⟩ := q2
          injection h with h; injection h with h1 h2; subst h1; subst h2
          exact ⟨_, rfl, q3⟩
  · cases h

def PrimSim (p1 : Prim) (p2 : Prim2) : Prop := ∀ (c1 : Call) (c2 : Call2), CallSim c1 c2 → ∀ (args : List AV) (H1 : Hp) (H2 : Hp2) (r : CR) (H2' : Hp2), SimH H1 H2 → p2 c2 args H2 = some (r, H2') →
  ∃ H1', p1 c1 args H1 = some (r, H1') ∧ SimH H1' H2'

/-- **The evaluator over tries says nothing that the first does not say.** -/
theorem evalF2_sim {fns : Nat → Option IFn} {prim : Nat → Option Prim} {prim2 : Nat → Option Prim2} (hp : ∀ f p2, prim2 f = some p2 → ∃ p1, prim f = some p1 ∧ PrimSim p1 p2) (hn : ∀ f, prim2 f = none → prim f = none) (lf : Nat) :
    ∀ n, CallSim (evalF fns prim lf n) (evalF2 fns prim2 lf n)
  | 0 => fun f args H1 H2 r H2' S h => by
    have h' : (none : Option (CR × Hp2)) = some (r, H2') := h
    cases h'
  | n + 1 => fun f args H1 H2 r H2' S h => by
    have ih := evalF2_sim (fns := fns) hp hn lf n
    have h' : (match prim2 f with
      | some p => p (evalF2 fns prim2 lf n) args H2
      | none => match fns f with
        | some fn => body2 (evalF2 fns prim2 lf n) lf fn args H2
        | none => none) = some (r, H2') := h
    simp only [evalF]
    cases h2 : prim2 f with
    | some p2 =>
      rw [h2] at h'
      obtain ⟨p1, q1, q2⟩ := hp f p2 h2
      rw [q1]
      exact q2 _ _ ih args H1 H2 r H2' S h'
    | none =>
      rw [h2] at h'
      rw [hn f h2]
      simp only at h' ⊢
      cases hf : fns f with
      | none => rw [hf] at h'; cases h'
      | some fn =>
        rw [hf] at h'
        exact body2_sim ih S h'

end Ev

/- The contracts over tries say what the first ones say. -/
set_option autoImplicit false
set_option linter.unusedSimpArgs false
set_option linter.unusedVariables false
namespace Ev
open Go

theorem find2_sim (off : Nat) : PrimSim (findPrim off) (findPrim2 off) := by
  intro c1 c2 C args H1 H2 r H2' S h
  unfold findPrim2 at h
  split at h
  · rename_i id g i s
    unfold findPrim
    split at h
    · rename_i hl
      injection h with h; injection h with h1 h2; subst h1; subst h2
      refine ⟨H1, ?_, S⟩
      simp only [load2_sim S hl]
    · rename_i id' g' i' n cap sz hl
      split at h <;> (try (cases h; done))
      rename_i hsz
      split at h <;> (try (cases h; done))
      rename_i cells hc
      split at h <;> (try (cases h; done))
      rename_i res hres
      injection h with h; injection h with h1 h2; subst h1; subst h2
      refine ⟨H1, ?_, S⟩
      simp only [load2_sim S hl, if_pos (Nat.beq_eq.mp hsz), load2_sim S hc, hres, Option.map_some]
    · cases h
  · cases h

theorem inOld2_sim (eb : Nat) : PrimSim (inOldPrim eb) (inOldPrim2 eb) := by
  intro c1 c2 C args H1 H2 r H2' S h
  unfold inOldPrim2 at h
  split at h
  · rename_i id g i n cap sz
    unfold inOldPrim
    split at h <;> (try (cases h; done))
    rename_i hcnd
    simp only [Bool.and_eq_true, Nat.beq_eq] at hcnd
    split at h <;> (try (cases h; done))
    rename_i cells hc
    split at h <;> (try (cases h; done))
    rename_i hok
    split at h <;> (try (cases h; done))
    rename_i id' H' hnew
    injection h with h; injection h with h1 h2; subst h1; subst h2
    obtain ⟨H1', q1, q2⟩ := new2_sim S hnew
    refine ⟨H1', ?_, q2⟩
    simp only [if_pos hcnd, load2_sim S hc, hok, if_true, q1]
  · split at h <;> (try (cases h; done))
    rename_i id' H' hnew
    injection h with h; injection h with h1 h2; subst h1; subst h2
    obtain ⟨H1', q1, q2⟩ := new2_sim S hnew
    refine ⟨H1', ?_, q2⟩
    simp only [inOldPrim, q1]
  · cases h

theorem as2_sim (a b c : Nat) : PrimSim (asPrim a b c) (asPrim2 a b c) := by
  intro c1 c2 C args H1 H2 r H2' S h
  unfold asPrim2 at h
  split at h
  · injection h with h; injection h with h1 h2; subst h1; subst h2
    exact ⟨H1, rfl, S⟩
  · rename_i t id g i t' id' g' i'
    split at h <;> (try (cases h; done))
    rename_i hcnd
    simp only [Bool.and_eq_true, Nat.beq_eq] at hcnd
    split at h <;> (try (cases h; done))
    rename_i t2 x y z hl
    split at h <;> (try (cases h; done))
    rename_i ht2
    split at h <;> (try (cases h; done))
    rename_i H' hst
    injection h with h; injection h with h1 h2; subst h1; subst h2
    obtain ⟨H1', q1, q2⟩ := store2_sim S hst
    refine ⟨H1', ?_, q2⟩
    simp only [asPrim, if_pos hcnd, load2_sim S hl, if_pos (Nat.beq_eq.mp ht2), q1]
  · cases h

/-- awake: true. -/
def truePrim : Prim := fun _ args H => match args with
  | [] => some (.ret (.bool true), H)
  | _ => none
def truePrim2 : Prim2 := fun _ args H => match args with
  | [] => some (.ret (.bool true), H)
  | _ => none
theorem true2_sim : PrimSim truePrim truePrim2 := by
  intro c1 c2 C args H1 H2 r H2' S h
  unfold truePrim2 at h
  split at h
  · injection h with h; injection h with h1 h2; subst h1; subst h2
    exact ⟨H1, rfl, S⟩
  · cases h

end Ev
