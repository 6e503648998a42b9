/- How abstract values and heaps stand for the model's, and operations without memory. -/
import Derived.Test.YtdmbkbmenahpnaaGreatDoorVa
import Derived.Laws.Append
import Derived.Laws.Entries
import Derived.Laws.CopyRow
import Derived.Laws.Rows
import Derived.Laws.AppendOwn
import Derived.Laws.StructEq
/- What the evaluator's values and heap stand for in the model, and that what it reckons without memory is what the model reckons. -/
set_option autoImplicit false
namespace Ev
open Go

structure Loc where
  blk : Nat
  base : Nat
  size : Nat

abbrev Mu := Pos → Nat → Option Loc

mutual
inductive VR (G : Nat) (μ : Mu) : AV → Value → Prop
  | any (v : Value) : VR G μ .any v
  | bool (b : Bool) : VR G μ (.bool b) (.bool b)
  | int (k : IntKind) (n : Int) : VR G μ (.int k n) (.int k n)
  | str (b : ByteArray) : VR G μ (.str b.data.toList) (.string b)
  | nilp : VR G μ .nilp (.pointer none)
  | ptr {id : Pos} {g i : Nat} {L : Loc} (h : μ id g = some L) : VR G μ (.ptr id g i) (.pointer (some ⟨L.blk, L.base + i, none⟩))
  | nils : VR G μ .nils (.slice none 0 0)
  | slice {id : Pos} {g i len sz : Nat} {cap : Option Nat} {L : Loc} (c : Nat) (h : μ id g = some L) (hl : len ≤ c) (hm : c ≤ maxLen)
      (hr : i + c * sz ≤ L.size) (hc : ∀ k, cap = some k → c = k) (hn : cap = none → i + c * sz = L.size) :
      VR G μ (.slice id g i len cap sz) (.slice (some ⟨L.blk, L.base + i, none⟩) len c)
  | func {f : Nat} {xs ys : List AV} {us vs : Array Value} (h1 : VRs G μ xs us.toList) (h2 : VRs G μ ys vs.toList) : VR G μ (.func f xs ys) (.func (.func f) us vs)
  | nilFunc : VR G μ .nilFunc .nilFunc
  | iface {t : Nat} {x : AV} {v : Value} (h : VR G μ x v) : VR G μ (.iface t x) (.iface t v)
  | nilIface : VR G μ .nilIface .nilIface
  | agg {xs : List AV} {vs : Array Value} (h : VRs G μ xs vs.toList) : VR G μ (.agg xs) (.agg vs)
  | tup {xs : List AV} {vs : Array Value} (h : VRs G μ xs vs.toList) : VR G μ (.tup xs) (.tuple vs)
  | handle (t : Nat) : VR G μ (.handle t) (.pointer (some ⟨G, t, none⟩))
inductive VRs (G : Nat) (μ : Mu) : List AV → List Value → Prop
  | nil : VRs G μ [] []
  | cons {x : AV} {v : Value} {xs : List AV} {vs : List Value} (h : VR G μ x v) (hs : VRs G μ xs vs) : VRs G μ (x :: xs) (v :: vs)
end

def Ext (μ μ' : Mu) : Prop := ∀ id g L, μ id g = some L → μ' id g = some L

theorem Ext.refl (μ : Mu) : Ext μ μ := fun _ _ _ h => h
theorem Ext.trans {μ μ' μ'' : Mu} (h : Ext μ μ') (h' : Ext μ' μ'') : Ext μ μ'' := fun id g L e => h' _ _ _ (h id g L e)

mutual
theorem VR.ext {G : Nat} {μ μ' : Mu} (e : Ext μ μ') : ∀ {x : AV} {v : Value}, VR G μ x v → VR G μ' x v
  | _, _, .any v => .any v
  | _, _, .bool b => .bool b
  | _, _, .int k n => .int k n
  | _, _, .str b => .str b
  | _, _, .nilp => .nilp
  | _, _, .ptr h => .ptr (e _ _ _ h)
  | _, _, .nils => .nils
  | _, _, .slice c h hl hm hr hc hn => .slice c (e _ _ _ h) hl hm hr hc hn
  | _, _, .func h1 h2 => .func (h1.ext e) (h2.ext e)
  | _, _, .nilFunc => .nilFunc
  | _, _, .iface h => .iface (h.ext e)
  | _, _, .nilIface => .nilIface
  | _, _, .agg h => .agg (h.ext e)
  | _, _, .tup h => .tup (h.ext e)
  | _, _, .handle t => .handle t
theorem VRs.ext {G : Nat} {μ μ' : Mu} (e : Ext μ μ') : ∀ {x : List AV} {v : List Value}, VRs G μ x v → VRs G μ' x v
  | _, _, .nil => .nil
  | _, _, .cons h hs => .cons (h.ext e) (hs.ext e)
end

section lists
variable {G : Nat} {μ : Mu}

theorem VRs.length {xs : List AV} {vs : List Value} (h : VRs G μ xs vs) : xs.length = vs.length := by
  induction xs generalizing vs with
  | nil => cases h; rfl
  | cons x xs ih => cases h with | cons h hs => simp [ih hs]

theorem VRs.get {xs : List AV} {vs : List Value} (h : VRs G μ xs vs) {i : Nat} {x : AV} (hx : xs[i]? = some x) : ∃ v, vs[i]? = some v ∧ VR G μ x v := by
  induction xs generalizing vs i with
  | nil => simp at hx
  | cons y xs ih =>
    cases h with
    | cons h hs =>
      cases i with
      | zero => simp at hx; subst hx; exact ⟨_, rfl, h⟩
      | succ i => simpa using ih hs (by simpa using hx)

theorem VRs.of_get {xs : List AV} {vs : List Value} (hl : xs.length = vs.length) (h : ∀ (i : Nat) (x : AV) (v : Value), xs[i]? = some x → vs[i]? = some v → VR G μ x v) : VRs G μ xs vs := by
  induction xs generalizing vs with
  | nil => cases vs with | nil => exact .nil | cons => simp at hl
  | cons x xs ih =>
    cases vs with
    | nil => simp at hl
    | cons v vs => exact .cons (h 0 x v rfl rfl) (ih (by simpa using hl) fun i y u hy hu => h (i + 1) y u (by simpa using hy) (by simpa using hu))

theorem VRs.append {xs ys : List AV} {us vs : List Value} (h : VRs G μ xs us) (h' : VRs G μ ys vs) : VRs G μ (xs ++ ys) (us ++ vs) := by
  induction xs generalizing us with
  | nil => cases h; simpa using h'
  | cons x xs ih => cases h with | cons h hs => exact .cons h (ih hs)

theorem VRs.take {xs : List AV} {us : List Value} (h : VRs G μ xs us) (n : Nat) : VRs G μ (xs.take n) (us.take n) := by
  induction xs generalizing us n with
  | nil => cases h; simp; exact .nil
  | cons x xs ih => cases h with | cons h hs => cases n with
    | zero => simp; exact .nil
    | succ n => simpa using VRs.cons h (ih hs n)

theorem VRs.drop {xs : List AV} {us : List Value} (h : VRs G μ xs us) (n : Nat) : VRs G μ (xs.drop n) (us.drop n) := by
  induction xs generalizing us n with
  | nil => cases h; simp; exact .nil
  | cons x xs ih => cases h with | cons h hs => cases n with
    | zero => simpa using VRs.cons h hs
    | succ n => simpa using ih hs n

end lists

/-! ### Constants -/
theorem ofConst1_vr (G : Nat) (μ : Mu) (v : Value) : VR G μ (ofConst1 v) v := by
  unfold ofConst1
  split
  · exact .bool _
  · exact .int _ _
  · exact .str _
  · exact .nilp
  · exact .nils
  · exact .nilFunc
  · exact .nilIface
  · rename_i f first cap
    split
    · rename_i h
      simp at h
      rw [h.1, h.2]
      exact .func .nil .nil
    · exact .any _
  · exact .any _

theorem ofConst1s_vr (G : Nat) (μ : Mu) (l : List Value) : VRs G μ (l.map ofConst1) l := by
  induction l with
  | nil => exact .nil
  | cons v l ih => exact .cons (ofConst1_vr G μ v) ih

theorem ofConst_vr (G : Nat) (μ : Mu) (v : Value) : VR G μ (ofConst v) v := by
  unfold ofConst
  split
  · exact .agg (ofConst1s_vr G μ _)
  · exact ofConst1_vr G μ _

/-! ### One cell -/
theorem AV.one_cells {G : Nat} {μ : Mu} {x : AV} {v : Value} (h : VR G μ x v) (ho : x.one = true) : v.oneCell' = true ∧ v.cells = #[v] ∧ x.cells = some [x] := by
  cases h <;> simp_all [AV.one, Value.oneCell', Value.cells, AV.cells]

theorem allOne_get {xs : List AV} (h : allOne xs = true) {x : AV} (hx : x ∈ xs) : x.one = true := by
  induction xs with
  | nil => cases hx
  | cons y xs ih =>
    simp [allOne] at h
    cases hx with
    | head => exact h.1
    | tail _ hx => exact ih h.2 hx

theorem cells_vr {G : Nat} {μ : Mu} {x : AV} {v : Value} (h : VR G μ x v) {cs : List AV} (hc : x.cells = some cs) : VRs G μ cs v.cells.toList := by
  cases h <;> simp [AV.cells] at hc <;> (try subst hc) <;> simp [Value.cells] <;> first
    | assumption
    | exact .cons (by constructor <;> assumption) .nil

/-! ### Frames -/
def TR (G : Nat) (μ : Mu) (T : List AV) (tmps : Array Value) : Prop :=
  T.length ≤ tmps.size ∧ ∀ (i : Nat) (x : AV), T[i]? = some x → VR G μ x (tmps.getD i undef)

theorem TR.ext {G : Nat} {μ μ' : Mu} (e : Ext μ μ') {T : List AV} {tmps : Array Value} (h : TR G μ T tmps) : TR G μ' T tmps :=
  ⟨h.1, fun i x hx => (h.2 i x hx).ext e⟩

theorem TR.put {G : Nat} {μ : Mu} {T : List AV} {a : Act} (h : TR G μ T a.tmps) {x : AV} {v : Value} (hx : VR G μ x v) (d : Option Nat) : TR G μ (put T d x) (a.put d v).tmps := by
  cases d with
  | none => exact h
  | some d =>
    simp only [Ev.put, putAt_eq, Act.put]
    refine ⟨by simpa using h.1, fun i y hy => ?_⟩
    rw [List.getElem?_set] at hy
    by_cases hd : d = i
    · subst hd
      simp at hy
      obtain ⟨hlt, rfl⟩ := hy
      have : d < a.tmps.size := Nat.lt_of_lt_of_le hlt h.1
      simp [this]
      exact hx
    · simp [hd] at hy
      have := h.2 i y hy
      simpa [Array.getElem?_setIfInBounds_ne hd] using this

/-- The package variables' blocks are where they are. -/
def Glob (P : Program) (μ : Mu) : Prop := ∀ n, n < P.globals.size → ∃ s, μ (gpos n) 0 = some ⟨n, 0, s⟩

theorem Glob.ext {P : Program} {μ μ' : Mu} (e : Ext μ μ') (h : Glob P μ) : Glob P μ' := fun n hn => let ⟨s, hs⟩ := h n hn; ⟨s, e _ _ _ hs⟩

theorem arg_vr {P : Program} {μ : Mu} {T : List AV} {a : Act} (hG : Glob P μ) (h : TR P.globals.size μ T a.tmps) (x : Operand) :
    VR P.globals.size μ (evArg T (cArg P x)) (a.eval x) := by
  cases x with
  | tmp t =>
    simp only [cArg, evArg, nth_eq]
    cases ht : T[t]? with
    | none => exact .any _
    | some y => exact h.2 t y ht
  | const v => exact ofConst_vr _ _ v
  | global g =>
    simp only [cArg]
    split
    · rename_i hg
      obtain ⟨s, hs⟩ := hG g hg
      have := VR.ptr (G := P.globals.size) (i := 0) hs
      simpa [evArg, Act.eval] using this
    · exact .any _
  | func f => exact .func .nil .nil

theorem args_vr {P : Program} {μ : Mu} {T : List AV} {a : Act} (hG : Glob P μ) (h : TR P.globals.size μ T a.tmps) (xs : List Operand) :
    VRs P.globals.size μ ((xs.map (cArg P)).map (evArg T)) (xs.map a.eval) := by
  induction xs with
  | nil => exact .nil
  | cons x xs ih => exact .cons (arg_vr hG h x) ih

end Ev

/- What the evaluator reckons without memory is what the model's operations reckon, in any world. -/
set_option autoImplicit false
set_option linter.unusedSimpArgs false
set_option linter.unusedVariables false
namespace Ev
open Go

/-- In every world the operation leaves one value, which stands for 'x'. -/
def Still (P : Program) (μ : Mu) (a : Act) (o : Oper) (x : AV) : Prop :=
  ∃ v, (∀ w, (execOp a.eval o).run P w = .ok (.value v) w) ∧ VR P.globals.size μ x v

section
variable {P : Program} {μ : Mu} {T : List AV} {a : Act}

theorem inr_vr {G : Nat} {x : AV} {v : Value} {n : Nat} (h : VR G μ x v) (hn : inr x = some n) : ∃ k, v = .int k (n : Int) := by
  unfold inr at hn
  split at hn
  · cases h
    injection hn with hn
    subst hn
    exact ⟨_, rfl⟩
  · cases hn

theorem info_some {P : Program} {t : TypeId} {i : TypeInfo} (h : P.info? t = some i) (w : World) : (typeInfo t).run P w = .ok i w := by
  simp [typeInfo, h]

theorem und_some {P : Program} {t : TypeId} {d : TypeDesc} (h : P.underlying t = some d) (w : World) : (underlying t).run P w = .ok d w := by
  simp [underlying, h]

theorem ps_move (hG : Glob P μ) (hT : TR P.globals.size μ T a.tmps) {o : Oper} {x : Operand} (ho : o.op = .move x ∨ o.op = .assign x) : Still P μ a o (evArg T (cArg P x)) := by
  refine ⟨a.eval x, fun w => ?_, arg_vr hG hT x⟩
  rcases ho with ho | ho <;> simp [execOp, ho]

theorem ps_pick (hG : Glob P μ) (hT : TR P.globals.size μ T a.tmps) {o : Oper} {c x y : Operand} (ho : o.op = .pick c x y) {r : AV}
    (h : xpure (evArg T) (.pick (cArg P c) (cArg P x) (cArg P y)) = some r) : Still P μ a o r := by
  have hc := arg_vr hG hT c
  simp only [xpure] at h
  split at h
  · rename_i hb
    rw [hb] at hc
    injection h with h; subst h
    refine ⟨a.eval x, fun w => ?_, arg_vr hG hT x⟩
    generalize hv : a.eval c = v at hc
    cases hc
    simp [execOp, ho, hv, asBool]
  · rename_i hb
    rw [hb] at hc
    injection h with h; subst h
    refine ⟨a.eval y, fun w => ?_, arg_vr hG hT y⟩
    generalize hv : a.eval c = v at hc
    cases hc
    simp [execOp, ho, hv, asBool]
  · cases h

theorem ps_nilchk (hG : Glob P μ) (hT : TR P.globals.size μ T a.tmps) {o : Oper} {x : Operand} (ho : o.op = .nilCheck x) {r : AV}
    (h : xpure (evArg T) (.nilchk (cArg P x)) = some r) : Still P μ a o r := by
  have hc := arg_vr hG hT x
  simp only [xpure] at h
  split at h <;> (try cases h)
  all_goals
    rename_i hb
    rw [hb] at hc
    refine ⟨a.eval x, fun w => ?_, hc⟩
    generalize hv : a.eval x = v at hc
    cases hc
    simp [execOp, ho, hv]

theorem ps_neg (hG : Glob P μ) (hT : TR P.globals.size μ T a.tmps) {o : Oper} {t : TypeId} {x : Operand} (ho : o.op = .unOp .neg t x) {r : AV}
    (h : xpure (evArg T) (.neg (cArg P x)) = some r) : Still P μ a o r := by
  have hc := arg_vr hG hT x
  simp only [xpure] at h
  split at h <;> (try cases h)
  rename_i hb
  rw [hb] at hc
  generalize hv : a.eval x = v at hc
  cases hc
  exact ⟨_, fun w => by simp [execOp, ho, hv, Op.unary, Op.intArith]; rfl, by simpa using VR.int _ _⟩

theorem ps_com (hG : Glob P μ) (hT : TR P.globals.size μ T a.tmps) {o : Oper} {t : TypeId} {x : Operand} (ho : o.op = .unOp .xor t x) {r : AV}
    (h : xpure (evArg T) (.com (cArg P x)) = some r) : Still P μ a o r := by
  have hc := arg_vr hG hT x
  simp only [xpure] at h
  split at h <;> (try cases h)
  rename_i hb
  rw [hb] at hc
  generalize hv : a.eval x = v at hc
  cases hc
  exact ⟨_, fun w => by simp [execOp, ho, hv, Op.unary, Op.intBits], VR.int _ _⟩

theorem ps_not (hG : Glob P μ) (hT : TR P.globals.size μ T a.tmps) {o : Oper} {t : TypeId} {x : Operand} (ho : o.op = .unOp .not t x) {r : AV}
    (h : xpure (evArg T) (.not (cArg P x)) = some r) : Still P μ a o r := by
  have hc := arg_vr hG hT x
  simp only [xpure] at h
  split at h <;> (try cases h)
  rename_i hb
  rw [hb] at hc
  generalize hv : a.eval x = v at hc
  cases hc
  exact ⟨_, fun w => by simp [execOp, ho, hv, Op.unary], VR.bool _⟩

theorem ps_conv (hG : Glob P μ) (hT : TR P.globals.size μ T a.tmps) {o : Oper} {s d : TypeId} {k k' : IntKind} {x : Operand} (ho : o.op = .convert s d x)
    (hs : P.underlying s = some (.int k')) (hd : P.underlying d = some (.int k)) {r : AV}
    (h : xpure (evArg T) (.conv k (cArg P x)) = some r) : Still P μ a o r := by
  have hc := arg_vr hG hT x
  simp only [xpure] at h
  split at h <;> (try cases h)
  rename_i hb
  rw [hb] at hc
  generalize hv : a.eval x = v at hc
  cases hc
  exact ⟨_, fun w => by simp [execOp, ho, hv, convert, und_some hs, und_some hd, Conv.intToInt], VR.int _ _⟩

theorem ps_idm (hG : Glob P μ) (hT : TR P.globals.size μ T a.tmps) {o : Oper} {s d : TypeId} {x : Operand} (ho : o.op = .convert s d x)
    (hs : P.underlying s = some .string) (hd : P.underlying d = some .string) {r : AV}
    (h : xpure (evArg T) (.idm (cArg P x)) = some r) : Still P μ a o r := by
  have hc := arg_vr hG hT x
  simp only [xpure] at h
  split at h <;> (try cases h)
  rename_i hb
  rw [hb] at hc
  refine ⟨a.eval x, fun w => ?_, hc⟩
  generalize hv : a.eval x = v at hc
  cases hc
  simp [execOp, ho, hv, convert, und_some hs, und_some hd]

theorem ps_mki (hG : Glob P μ) (hT : TR P.globals.size μ T a.tmps) {o : Oper} {t : TypeId} {x : Operand} {d : TypeDesc} (ho : o.op = .makeInterface t x)
    (hd : P.underlying t = some d) (hni : ∀ ms, d ≠ .interface ms) : Still P μ a o (.iface t (evArg T (cArg P x))) := by
  refine ⟨.iface t (a.eval x), fun w => ?_, .iface (arg_vr hG hT x)⟩
  simp only [execOp, ho, Instr.makeInterface, Sem.run_bind, und_some hd, Result.andThen_ok]
  cases d <;> simp at hni ⊢

theorem ps_mkf (hG : Glob P μ) (hT : TR P.globals.size μ T a.tmps) {o : Oper} {f : Nat} {xs ys : Array Operand} (ho : o.op = .makeFunc (.func f) xs ys) :
    Still P μ a o (.func f ((xs.toList.map (cArg P)).map (evArg T)) ((ys.toList.map (cArg P)).map (evArg T))) := by
  refine ⟨.func (.func f) (xs.map a.eval) (ys.map a.eval), fun w => ?_, .func ?_ ?_⟩
  · simp [execOp, ho, Instr.makeFunc]
  · simpa using args_vr hG hT xs.toList
  · simpa using args_vr hG hT ys.toList

theorem ps_ext (hG : Glob P μ) (hT : TR P.globals.size μ T a.tmps) {o : Oper} {i : Nat} {x : Operand} (ho : o.op = .extract x i) {r : AV}
    (h : xpure (evArg T) (.ext i (cArg P x)) = some r) : Still P μ a o r := by
  have hc := arg_vr hG hT x
  simp only [xpure] at h
  split at h <;> (try cases h)
  rename_i vs hb
  rw [hb] at hc
  rw [nth_eq] at h
  generalize hv : a.eval x = v at hc
  cases hc
  rename_i us hu
  obtain ⟨v, hv', hvr⟩ := hu.get h
  refine ⟨v, fun w => ?_, hvr⟩
  have : us[i]? = some v := by simpa using hv'
  simp [execOp, ho, hv, Instr.extract, this]

theorem ps_slen (hG : Glob P μ) (hT : TR P.globals.size μ T a.tmps) {o : Oper} {x : Operand} {c : Go.Call} (ho : o.op = .call c) (hcal : c.callee = .builtin .len)
    (hargs : c.args.toList = [x]) {t : TypeId} (ht : c.argTypes[0]? = some t) (hu : P.underlying t = some .string) {r : AV}
    (h : xpure (evArg T) (.slen (cArg P x)) = some r) : Still P μ a o r := by
  have hc := arg_vr hG hT x
  have hargs' : c.args = #[x] := by apply Array.ext'; simpa using hargs
  simp only [xpure] at h
  split at h <;> (try cases h)
  rename_i hb
  rw [hb] at hc
  generalize hv : a.eval x = v at hc
  cases hc
  refine ⟨_, fun w => ?_, VR.int _ _⟩
  simp [execOp, ho, resolve, hcal, invoke, builtin, Builtin.len_, hargs', ht, und_some hu, hv, goInt]

theorem ps_len (hG : Glob P μ) (hT : TR P.globals.size μ T a.tmps) {o : Oper} {x : Operand} {c : Go.Call} (ho : o.op = .call c) (hcal : c.callee = .builtin .len)
    (hargs : c.args.toList = [x]) {t e : TypeId} (ht : c.argTypes[0]? = some t) (hu : P.underlying t = some (.slice e)) {r : AV}
    (h : xpure (evArg T) (.len (cArg P x)) = some r) : Still P μ a o r := by
  have hc := arg_vr hG hT x
  have hargs' : c.args = #[x] := by apply Array.ext'; simpa using hargs
  simp only [xpure] at h
  split at h <;> (try cases h)
  all_goals
    rename_i hb
    rw [hb] at hc
    generalize hv : a.eval x = v at hc
    cases hc
    refine ⟨_, fun w => ?_, VR.int _ _⟩
    simp [execOp, ho, resolve, hcal, invoke, builtin, Builtin.len_, hargs', ht, und_some hu, hv, goInt]

theorem sizeOf_some {t : TypeId} {i : TypeInfo} (h : P.info? t = some i) (w : World) : (Go.sizeOf t).run P w = .ok i.size w := by
  simp [Go.sizeOf, info_some h]

theorem isAgg_some {t : TypeId} {b : Bool} {n : Nat} (h : aggT P t = some (b, n)) (w : World) :
    (isAgg t).run P w = .ok b w ∧ (Go.sizeOf t).run P w = .ok n w := by
  unfold aggT at h
  split at h
  · rename_i d i hd hi
    injection h with h
    injection h with h1 h2
    subst h1; subst h2
    refine ⟨?_, sizeOf_some hi w⟩
    simp only [isAgg, Sem.run_bind, und_some hd, Result.andThen_ok]
    cases d <;> rfl
  · cases h

theorem ps_fld (hG : Glob P μ) (hT : TR P.globals.size μ T a.tmps) {o : Oper} {s : TypeId} {x : Operand} {f : Nat} (ho : o.op = .fieldAddr s x f)
    {fs : Array Field} {fd : Field} {i : TypeInfo} (hs : P.underlying s = some (.struct fs)) (hf : fs[f]? = some fd) (hi : P.info? fd.type = some i) (hz : i.size ≠ 0) {r : AV}
    (h : xpure (evArg T) (.fld fd.offset (cArg P x)) = some r) : Still P μ a o r := by
  have hc := arg_vr hG hT x
  simp only [xpure] at h
  split at h <;> (try cases h)
  rename_i hb
  rw [hb] at hc
  generalize hv : a.eval x = v at hc
  cases hc
  rename_i L hL
  refine ⟨_, fun w => ?_, VR.ptr hL⟩
  simp [execOp, ho, hv, Instr.fieldAt, und_some hs, hf, Instr.sureAddr, fieldPlace, sizeOf_some hi, hz, Addr.add_lit, Nat.add_assoc]

theorem ps_fldv1 (hG : Glob P μ) (hT : TR P.globals.size μ T a.tmps) {o : Oper} {s : TypeId} {x : Operand} {f : Nat} (ho : o.op = .field s x f)
    {fs : Array Field} {fd : Field} {n : Nat} (hs : P.underlying s = some (.struct fs)) (hf : fs[f]? = some fd) (hi : aggT P fd.type = some (false, n)) {r : AV}
    (h : xpure (evArg T) (.fldv fd.offset none (cArg P x)) = some r) : Still P μ a o r := by
  have hc := arg_vr hG hT x
  simp only [xpure] at h
  split at h <;> (try cases h)
  rename_i cs hb
  rw [hb] at hc
  generalize hv : a.eval x = v at hc
  cases hc
  rename_i us hu
  rw [nth_eq] at h
  obtain ⟨u, hu', hvr⟩ := hu.get h
  refine ⟨u, fun w => ?_, hvr⟩
  have hu2 : us[fd.offset]? = some u := by simpa using hu'
  simp [execOp, ho, hv, Instr.field, und_some hs, hf, asAgg, part, (isAgg_some hi _).1, hu2]

theorem ps_fldvN (hG : Glob P μ) (hT : TR P.globals.size μ T a.tmps) {o : Oper} {s : TypeId} {x : Operand} {f : Nat} (ho : o.op = .field s x f)
    {fs : Array Field} {fd : Field} {n : Nat} (hs : P.underlying s = some (.struct fs)) (hf : fs[f]? = some fd) (hi : aggT P fd.type = some (true, n)) {r : AV}
    (h : xpure (evArg T) (.fldv fd.offset (some n) (cArg P x)) = some r) : Still P μ a o r := by
  have hc := arg_vr hG hT x
  simp only [xpure] at h
  split at h <;> (try cases h)
  rename_i cs hb
  rw [hb] at hc
  generalize hv : a.eval x = v at hc
  cases hc
  rename_i us hu
  split at h <;> (try cases h)
  refine ⟨.agg (us.extract fd.offset (fd.offset + n)), fun w => ?_, .agg ?_⟩
  · simp [execOp, ho, hv, Instr.field, und_some hs, hf, asAgg, part, (isAgg_some hi _).1, (isAgg_some hi _).2]
  · have := (hu.drop fd.offset).take n
    simpa [Array.toList_extract, List.extract] using this

theorem ps_idx (hG : Glob P μ) (hT : TR P.globals.size μ T a.tmps) {o : Oper} {t e : TypeId} {x y : Operand} (ho : o.op = .indexAddr t x y)
    {i : TypeInfo} (ht : P.underlying t = some (.slice e)) (hi : P.info? e = some i) {r : AV}
    (h : xpure (evArg T) (.idx i.size (cArg P x) (cArg P y)) = some r) : Still P μ a o r := by
  have hc := arg_vr hG hT x
  have hd := arg_vr hG hT y
  simp only [xpure] at h
  split at h <;> (try cases h)
  rename_i id g b len cap sz k hb hk
  split at h <;> (try cases h)
  rename_i hsz
  split at h <;> (try cases h)
  rename_i hlt
  obtain ⟨kk, hkk⟩ := inr_vr hd hk
  rw [hb] at hc
  generalize hv : a.eval x = v at hc
  cases hc
  rename_i L c hm hL hl hcc hr hn
  refine ⟨_, fun w => ?_, VR.ptr hL⟩
  subst hsz
  simp [execOp, ho, hv, hkk, Instr.indexAt, asIntOf, und_some ht, sizeOf_some hi, hlt, Addr.add_lit, Nat.add_assoc]

theorem ps_sidx (hG : Glob P μ) (hT : TR P.globals.size μ T a.tmps) {o : Oper} {t : TypeId} {x y : Operand} (ho : o.op = .index t x y)
    (ht : P.underlying t = some .string) {r : AV}
    (h : xpure (evArg T) (.sidx (cArg P x) (cArg P y)) = some r) : Still P μ a o r := by
  have hc := arg_vr hG hT x
  have hd := arg_vr hG hT y
  simp only [xpure] at h
  split at h <;> (try cases h)
  rename_i s k hb hk
  obtain ⟨kk, hkk⟩ := inr_vr hd hk
  rw [hb] at hc
  generalize hv : a.eval x = v at hc
  cases hc
  rename_i bs
  rw [nth_eq] at h
  cases hg : bs.data.toList[k]? with
  | none => simp [hg] at h
  | some c =>
    simp [hg] at h
    subst h
    refine ⟨_, fun w => ?_, VR.int _ _⟩
    have hg' : bs[k]? = some c := by
      have h1 : bs.data[k]? = some c := by simpa using hg
      obtain ⟨h2, h3⟩ := Array.getElem?_eq_some_iff.1 h1
      rw [getElem?_pos bs k h2]
      exact congrArg some h3
    simp [execOp, ho, hv, hkk, Instr.index, asIntOf, und_some ht, hg']

end
end Ev

/- The rest of what the evaluator reckons without memory. -/
set_option autoImplicit false
set_option linter.unusedSimpArgs false
set_option linter.unusedVariables false
namespace Ev
open Go

section
variable {P : Program} {μ : Mu} {T : List AV} {a : Act}

theorem bin_int (t : TypeId) (op : BinOp) (k k' : IntKind) (m n : Int) (r : AV) (h : abin op (.int k m) (.int k' n) = some r) :
    ∃ v, (∀ w, (binOp op t (.int k m) (.int k' n)).run P w = .ok v w) ∧ VR P.globals.size μ r v := by
  cases op <;> simp only [abin] at h
  case shl =>
    split at h <;> (try cases h)
    rename_i hn
    exact ⟨_, fun w => by simp [binOp, Op.shift, hn], VR.int _ _⟩
  case shr =>
    split at h <;> (try cases h)
    rename_i hn
    exact ⟨_, fun w => by simp [binOp, Op.shift, hn], VR.int _ _⟩
  all_goals
    split at h
    case isFalse => cases h
    rename_i hk
    subst hk
    simp only [binInt] at h
  case quo =>
    split at h <;> (try cases h)
    rename_i hn
    exact ⟨_, fun w => by simp [binOp, Op.intDiv, hn], VR.int _ _⟩
  case rem =>
    split at h <;> (try cases h)
    rename_i hn
    exact ⟨_, fun w => by simp [binOp, Op.intDiv, hn], VR.int _ _⟩
  case and => injection h with h; subst h; exact ⟨_, fun w => by simp only [binOp, ne_eq, not_true_eq_false, if_false, Op.intBits, Sem.run_pure], VR.int _ _⟩
  case or => injection h with h; subst h; exact ⟨_, fun w => by simp only [binOp, ne_eq, not_true_eq_false, if_false, Op.intBits, Sem.run_pure], VR.int _ _⟩
  case xor => injection h with h; subst h; exact ⟨_, fun w => by simp only [binOp, ne_eq, not_true_eq_false, if_false, Op.intBits, Sem.run_pure], VR.int _ _⟩
  case add => injection h with h; subst h; exact ⟨_, fun w => by simp [binOp, Op.intArith], VR.int _ _⟩
  case sub => injection h with h; subst h; exact ⟨_, fun w => by simp [binOp, Op.intArith], VR.int _ _⟩
  case mul => injection h with h; subst h; exact ⟨_, fun w => by simp [binOp, Op.intArith], VR.int _ _⟩
  case eql => injection h with h; subst h; exact ⟨_, fun w => by simp only [binOp, ne_eq, not_true_eq_false, if_false, Op.intCmp, Sem.run_pure], VR.bool _⟩
  case neq => injection h with h; subst h; exact ⟨_, fun w => by simp only [binOp, ne_eq, not_true_eq_false, if_false, Op.intCmp, Sem.run_pure], VR.bool _⟩
  case lss => injection h with h; subst h; exact ⟨_, fun w => by simp only [binOp, ne_eq, not_true_eq_false, if_false, Op.intCmp, Sem.run_pure], VR.bool _⟩
  case leq => injection h with h; subst h; exact ⟨_, fun w => by simp only [binOp, ne_eq, not_true_eq_false, if_false, Op.intCmp, Sem.run_pure], VR.bool _⟩
  case gtr => injection h with h; subst h; exact ⟨_, fun w => by simp only [binOp, ne_eq, not_true_eq_false, if_false, Op.intCmp, Sem.run_pure], VR.bool _⟩
  case geq => injection h with h; subst h; exact ⟨_, fun w => by simp only [binOp, ne_eq, not_true_eq_false, if_false, Op.intCmp, Sem.run_pure], VR.bool _⟩
  all_goals cases h

theorem bytes_eq (b c : ByteArray) : (b.toList == c.toList) = bytesEq b.data.toList c.data.toList := by
  rw [ByteArray.toList_eq, ByteArray.toList_eq]
  rw [Bool.eq_iff_iff, beq_iff_eq, bytesEq_iff]

theorem bin_str (t : TypeId) (op : BinOp) (b c : ByteArray) (r : AV) (h : abin op (.str b.data.toList) (.str c.data.toList) = some r) :
    ∃ v, (∀ w, (binOp op t (.string b) (.string c)).run P w = .ok v w) ∧ VR P.globals.size μ r v := by
  cases op <;> simp only [abin, binStr] at h
  case add =>
    split at h <;> (try cases h)
    rename_i hn
    have hn' : ¬ (9223372036854775807 < (b.size : Int) + (c.size : Int)) := by
      simp only [Array.length_toList] at hn
      have h1 : b.data.size = b.size := rfl
      have h2 : c.data.size = c.size := rfl
      omega
    refine ⟨.string (b ++ c), fun w => by simp [binOp, Op.stringOp, hn'], ?_⟩
    have := VR.str (G := P.globals.size) (μ := μ) (b ++ c)
    simpa using this
  case eql => injection h with h; subst h; rw [← bytes_eq]; exact ⟨_, fun w => by simp only [binOp, Op.stringOp, Sem.run_pure], VR.bool _⟩
  case neq => injection h with h; subst h; rw [← bytes_eq]; exact ⟨_, fun w => by simp only [binOp, Op.stringOp, Sem.run_pure], VR.bool _⟩
  case lss => injection h with h; subst h; rw [← ByteArray.toList_eq, ← ByteArray.toList_eq]; exact ⟨_, fun w => by simp only [binOp, Op.stringOp, Sem.run_pure], VR.bool _⟩
  case leq => injection h with h; subst h; rw [← bytes_eq, ← ByteArray.toList_eq, ← ByteArray.toList_eq]; exact ⟨_, fun w => by simp only [binOp, Op.stringOp, Sem.run_pure], VR.bool _⟩
  case gtr => injection h with h; subst h; rw [← bytes_eq, ← ByteArray.toList_eq, ← ByteArray.toList_eq]; exact ⟨_, fun w => by simp only [binOp, Op.stringOp, Sem.run_pure], VR.bool _⟩
  case geq => injection h with h; subst h; rw [← ByteArray.toList_eq, ← ByteArray.toList_eq]; exact ⟨_, fun w => by simp only [binOp, Op.stringOp, Sem.run_pure], VR.bool _⟩
  all_goals cases h

theorem abin_kinds {op : BinOp} {x y r : AV} (h : abin op x y = some r) : (∃ k a k' b, x = .int k a ∧ y = .int k' b) ∨ (∃ s u, x = .str s ∧ y = .str u) := by
  unfold abin at h
  split at h
  · exact .inl ⟨_, _, _, _, rfl, rfl⟩
  · exact .inr ⟨_, _, rfl, rfl⟩
  · cases h

theorem ps_bin (hG : Glob P μ) (hT : TR P.globals.size μ T a.tmps) {o : Oper} {op : BinOp} {t u : TypeId} {x y : Operand} (ho : o.op = .binOp op t x y u) {r : AV}
    (h : xpure (evArg T) (.bin op (cArg P x) (cArg P y)) = some r) : Still P μ a o r := by
  have hc := arg_vr hG hT x
  have hd := arg_vr hG hT y
  simp only [xpure] at h
  rcases abin_kinds h with ⟨k, m, k', n, hx, hy⟩ | ⟨s, s', hx, hy⟩
  · rw [hx] at hc h; rw [hy] at hd h
    generalize hv : a.eval x = v at hc
    generalize hu : a.eval y = v' at hd
    cases hc; cases hd
    obtain ⟨v, h1, h2⟩ := bin_int (P := P) (μ := μ) t op k k' m n r h
    exact ⟨v, fun w => by simp [execOp, ho, hv, hu, eqGuard_at_int, h1], h2⟩
  · rw [hx] at hc h; rw [hy] at hd h
    generalize hv : a.eval x = v at hc
    generalize hu : a.eval y = v' at hd
    cases hc; cases hd
    obtain ⟨v, h1, h2⟩ := bin_str (P := P) (μ := μ) t op _ _ r h
    exact ⟨v, fun w => by simp [execOp, ho, hv, hu, eqGuard_at_string, h1], h2⟩

/-! ### '==' -/
theorem fk_spec {t : TypeId} {k : FK} (h : fkOf P t = some k) : (k = .int ∧ ∃ i, P.underlying t = some (.int i)) ∨ (k = .str ∧ P.underlying t = some .string) ∨ (k = .bool ∧ P.underlying t = some .bool) := by
  unfold fkOf at h
  split at h <;> simp_all

theorem part_one {t : TypeId} {d : TypeDesc} (hd : P.underlying t = some d) (hn : isAggD d = false) {xs : Array Value} {off : Nat} {v : Value} (hv : xs[off]? = some v) (w : World) :
    (part t xs off).run P w = .ok v w := by
  have : (isAgg t).run P w = .ok false w := by
    simp only [isAgg, Sem.run_bind, und_some hd, Result.andThen_ok]
    cases d <;> simp_all [isAggD]
  simp [part, this, hv]

theorem eqFields_run {xs ys : Array Value} {as bs : List AV} (hx : VRs P.globals.size μ as xs.toList) (hy : VRs P.globals.size μ bs ys.toList) (d : Nat) :
    ∀ (fs : List Field) (l : List (Nat × FK)) (r : Bool), fieldsFK P fs = some l → fieldsEq as bs l = some r → ∀ w, (Op.eqFields (d + 1) xs ys fs).run P w = .ok r w := by
  intro fs
  induction fs with
  | nil =>
    intro l r hl hr w
    simp [fieldsFK] at hl
    subst hl
    simp [fieldsEq] at hr
    subst hr
    simp [Op.eqFields]
  | cons f fs ih =>
    intro l r hl hr w
    simp only [fieldsFK] at hl
    by_cases hname : f.name = "_"
    · simp [hname] at hl
    simp only [hname, beq_iff_eq, if_false, Option.pure_def, Option.bind_eq_bind, Option.bind_some] at hl
    cases hk : fkOf P f.type with
    | none => simp [hk] at hl
    | some k =>
      by_cases hsz : P.cellsOf f.type = 1
      · cases hr' : fieldsFK P fs with
        | none => simp [hk, hsz, hr'] at hl
        | some l' =>
          simp [hk, hsz, hr'] at hl
          subst hl
          simp only [Op.eqFields, ne_eq, hname, not_false_eq_true, if_true, Sem.run_bind]
          simp only [fieldsEq, nth_eq] at hr
          split at hr
          · rename_i kk m kk' n h1 h2
            obtain ⟨v1, e1, r1⟩ := hx.get h1
            obtain ⟨v2, e2, r2⟩ := hy.get h2
            cases r1; cases r2
            rcases fk_spec hk with ⟨_, i, hu⟩ | ⟨h, _⟩ | ⟨h, _⟩ <;> try cases h
            have p1 := part_one (w := w) hu rfl (by simpa using e1)
            have p2 := part_one (w := w) hu rfl (by simpa using e2)
            split at hr
            · rename_i hkk
              subst hkk
              simp only [p1, p2, Result.andThen_ok, run_equalIn_int w d _ _ _ _ _ hu]
              split at hr
              · rename_i hmn
                subst hmn
                simpa using ih l' r hr' hr w
              · rename_i hmn
                injection hr with hr; subst hr
                simp [hmn]
            · cases hr
          · rename_i s1 s2 h1 h2
            obtain ⟨v1, e1, r1⟩ := hx.get h1
            obtain ⟨v2, e2, r2⟩ := hy.get h2
            cases r1; cases r2
            rcases fk_spec hk with ⟨h, _⟩ | ⟨_, hu⟩ | ⟨h, _⟩ <;> try cases h
            have p1 := part_one (w := w) hu rfl (by simpa using e1)
            have p2 := part_one (w := w) hu rfl (by simpa using e2)
            simp only [p1, p2, Result.andThen_ok, run_equalIn_string w d _ _ _ hu, bytes_eq]
            split at hr
            · rename_i hb
              simpa [hb] using ih l' r hr' hr w
            · rename_i hb
              injection hr with hr; subst hr
              simp [hb]
          · rename_i b1 b2 h1 h2
            obtain ⟨v1, e1, r1⟩ := hx.get h1
            obtain ⟨v2, e2, r2⟩ := hy.get h2
            cases r1; cases r2
            rcases fk_spec hk with ⟨h, _⟩ | ⟨h, _⟩ | ⟨_, hu⟩ <;> try cases h
            have p1 := part_one (w := w) hu rfl (by simpa using e1)
            have p2 := part_one (w := w) hu rfl (by simpa using e2)
            simp only [p1, p2, Result.andThen_ok, run_equalIn_bool' w d _ _ _ hu]
            split at hr
            · rename_i hb
              simpa [hb] using ih l' r hr' hr w
            · rename_i hb
              injection hr with hr; subst hr
              simp [hb]
          · cases hr
      · simp [hk, hsz] at hl

/-- A value to which '==' comes by its type. -/
def byType : Value → Bool
  | .bool _ | .pointer none | .slice .. | .func .. | .nilFunc | .iface .. | .nilIface | .agg _ => true
  | _ => false

theorem eq_of_equalIn {t : TypeId} {u v : Value} {b : Bool} (hb : ∀ w, (Op.equalIn 10000 t u v).run P w = .ok b w) (h : byType u = true ∨ byType v = true) (w : World) :
    (binOp .eql t u v).run P w = .ok (.bool b) w ∧ (binOp .neq t u v).run P w = .ok (.bool !b) w := by
  have hb' : ∀ w, (Op.equal t u v).run P w = .ok b w := hb
  have e1 : binOp .eql t u v = (do pure (.bool (← Op.equal t u v))) := by
    rcases h with h | h
    · cases u <;> simp [byType] at h <;> rfl
    · cases u <;> cases v <;> simp [byType] at h <;> rfl
  have e2 : binOp .neq t u v = (do pure (.bool (!(← Op.equal t u v)))) := by
    rcases h with h | h
    · cases u <;> simp [byType] at h <;> rfl
    · cases u <;> cases v <;> simp [byType] at h <;> rfl
  rw [e1, e2]
  simp [hb']

theorem equalIn_of {t : TypeId} {k : EK} {x y : Operand} (hk : ekOf P t x y = some k) {ax ay : AV} {r : Bool} (h : aeql k ax ay = some r) (hs : ∀ l, k ≠ .struct l)
    {u v : Value} (hu : VR P.globals.size μ ax u) (hv : VR P.globals.size μ ay v) (d : Nat) (w : World) : (Op.equalIn (d + 1) t u v).run P w = .ok r w ∧ (byType u = true ∨ byType v = true) := by
  unfold ekOf at hk
  split at hk
  · rename_i ht
    injection hk with hk; subst hk
    cases ax <;> cases ay <;> simp [aeql] at h
    subst h
    cases hu; cases hv
    simp [Op.equalIn, und_some ht, byType]
  · rename_i ht
    injection hk with hk; subst hk
    cases ax <;> cases ay <;> simp [aeql] at h <;> subst h <;> cases hu <;> cases hv <;> simp [Op.equalIn, und_some ht, byType]
  · rename_i ht
    injection hk with hk; subst hk
    cases ax <;> cases ay <;> simp [aeql] at h <;> subst h <;> cases hu <;> cases hv <;> simp [Op.equalIn, und_some ht, byType]
  · rename_i ht
    injection hk with hk; subst hk
    cases ax <;> cases ay <;> simp [aeql] at h <;> subst h <;> cases hu <;> cases hv <;> simp [Op.equalIn, und_some ht, byType]
  · rename_i ht
    injection hk with hk
    split at hk <;> subst hk <;>
      (cases ax <;> cases ay <;> simp [aeql] at h <;> subst h <;> cases hu <;> cases hv <;> simp [Op.equalIn, und_some ht, byType])
  · rename_i ht
    split at hk
    · cases hk
    · cases hl : fieldsFK P _ with
      | none => rw [hl] at hk; cases hk
      | some l => rw [hl] at hk; injection hk with hk; exact absurd hk.symm (hs l)
  · cases hk

theorem guard_of {t : TypeId} {k : EK} {x y : Operand} (hk : ekOf P t x y = some k) {ax ay : AV} {r : Bool} (h : aeql k ax ay = some r) (hs : ∀ l, k ≠ .struct l)
    {u v : Value} (hu : VR P.globals.size μ ax u) (hv : VR P.globals.size μ ay v) (op : BinOp) : eqGuard op t x y u v = pure () := by
  have hc : k = .ifaceL → isConstOp x = true ∨ isConstOp y = true := by
    intro e
    unfold ekOf at hk
    split at hk <;> (try cases hk; done)
    all_goals (try (injection hk with hk; subst hk; cases e; done))
    · injection hk with hk
      split at hk
      · rename_i h'; simpa using h'
      · subst hk; cases e
    · split at hk
      · cases hk
      · cases hl : fieldsFK P _ with
        | none => rw [hl] at hk; cases hk
        | some l => rw [hl] at hk; injection hk with hk; exact absurd hk.symm (hs l)
  cases k <;> cases ax <;> cases ay <;> simp only [aeql] at h <;> (try cases h; done) <;> cases hu <;> cases hv <;> first
    | exact eqGuard_at_bool ..
    | exact eqGuard_at_pointer ..
    | exact eqGuard_at_slice ..
    | exact eqGuard_at_func ..
    | exact eqGuard_at_nilFunc ..
    | exact eqGuard_at_iface ..
    | exact eqGuard_nil_iface ..
    | (rcases hc rfl with hc | hc
       · cases x <;> simp [isConstOp] at hc
         exact eqGuard_nil_constL ..
       · cases y <;> simp [isConstOp] at hc
         exact eqGuard_nil_constR ..)
    | exact absurd rfl (hs _)

/-- What '==' (or '!=') of other kinds asks. -/
theorem eql_run {t : TypeId} {x y : Operand} {k : EK} (hk : ekOf P t x y = some k) {ax ay : AV} {r : Bool} (h : aeql k ax ay = some r)
    {u v : Value} (hu : VR P.globals.size μ ax u) (hv : VR P.globals.size μ ay v) (op : BinOp) :
    ∀ w, (eqGuard op t x y u v).run P w = .ok () w ∧ (binOp .eql t u v).run P w = .ok (.bool r) w ∧ (binOp .neq t u v).run P w = .ok (.bool !r) w := by
  intro w
  by_cases hs : ∀ l, k ≠ .struct l
  · have he := eq_of_equalIn (fun w => (equalIn_of hk h hs hu hv 9999 w).1) (equalIn_of hk h hs hu hv 9999 w).2 w
    refine ⟨?_, he.1, he.2⟩
    rw [guard_of hk h hs hu hv op]
    rfl
  · simp only [ne_eq, Classical.not_forall, Classical.not_not] at hs
    obtain ⟨l, rfl⟩ := hs
    unfold ekOf at hk
    split at hk <;> (try cases hk; done)
    · split at hk <;> cases hk
    · rename_i fs ht
      split at hk
      · cases hk
      · rename_i hno
        simp only [Bool.or_eq_true, not_or, Bool.not_eq_true] at hno
        cases hl : fieldsFK P fs.toList with
        | none => simp [hl] at hk
        | some l' =>
          simp [hl] at hk
          subst hk
          cases ax <;> cases ay <;> simp only [aeql] at h <;> (try cases h; done)
          cases hu; cases hv
          rename_i xs ys us hus vs hvs
          have hf : P.fieldsOf t = fs := by simp [Program.fieldsOf, ht]
          have hr := eqFields_run (P := P) (μ := μ) hus hvs 9998 fs.toList l' r hl h w
          have he := run_equalIn_struct (P := P) w 9999 t us vs (by rw [hf]; exact ht) hno.1
          rw [hf, hr] at he
          refine ⟨run_eqGuard_agg w op t x y us vs hno.2, ?_, ?_⟩
          · rw [run_eql_struct, he]; rfl
          · rw [run_neq_struct, he]; rfl

theorem ps_eql (hG : Glob P μ) (hT : TR P.globals.size μ T a.tmps) {o : Oper} {op : BinOp} {neg : Bool} {t u : TypeId} {x y : Operand} (ho : o.op = .binOp op t x y u)
    (hop : (op = .eql ∧ neg = false) ∨ (op = .neq ∧ neg = true)) {k : EK} (hk : ekOf P t x y = some k) {r : AV}
    (h : xpure (evArg T) (.eql neg k (cArg P x) (cArg P y)) = some r) : Still P μ a o r := by
  have hc := arg_vr hG hT x
  have hd := arg_vr hG hT y
  simp only [xpure] at h
  cases hb : aeql k (evArg T (cArg P x)) (evArg T (cArg P y)) with
  | none => simp [hb] at h
  | some b =>
    simp [hb] at h
    subst h
    rcases hop with ⟨rfl, rfl⟩ | ⟨rfl, rfl⟩
    · refine ⟨_, fun w => ?_, VR.bool _⟩
      obtain ⟨h1, h2, h3⟩ := eql_run hk hb hc hd .eql w
      simp [execOp, ho, h1, h2]
    · refine ⟨_, fun w => ?_, VR.bool _⟩
      obtain ⟨h1, h2, h3⟩ := eql_run hk hb hc hd .neq w
      simp [execOp, ho, h1, h3]

end
end Ev
