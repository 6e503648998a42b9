/- What stands in for functions that the evaluator does not run. -/
import Derived.Test.YtdmbkbmenahpnaaGreatDoorVa
import Derived.Test.YtdmbkbmenahpnaaGreatDoorVv
/- What stands in for the functions of the rules' layer that the evaluator can't run. -/
set_option autoImplicit false
namespace Ev
open Go

/-- The last of some rows of six cells whose first cell is the text 's'. -/
def lastHit (s : List UInt8) : List AV → Option (List AV) → Option (Option (List AV))
  | [], acc => some acc
  | .str t :: .int .i64 a :: .int .i64 b :: .bool c :: .bool d :: .int .i64 e :: rest, acc =>
    lastHit s rest (if bytesEq t s then some [.str t, .int .i64 a, .int .i64 b, .bool c, .bool d, .int .i64 e] else acc)
  | _, _ => none

def findRes : Option (List AV) → AV
  | none => .tup [.agg [.str [], .int .i64 0, .int .i64 0, .bool false, .bool false, .int .i64 0], .bool false]
  | some x => .tup [.agg x, .bool true]

/-- (*rules.checker).find: 'off': where the names are. -/
def findPrim (off : Nat) : Prim := fun _ args H =>
  match args with
  | [.ptr id g i, .str s] =>
    match H.load id g (i + off) 1 with
    | some [.nils] => some (.ret (findRes none), H)
    | some [.slice id' g' i' n _ sz] =>
      if sz = 6 then
        match H.load id' g' i' (n * 6) with
        | some cells => (lastHit s cells none).map fun r => (.ret (findRes r), H)
        | none => none
      else none
    | _ => none
  | _ => none

/-- Rows of seven cells, as nodes are. -/
def nodesOk : List AV → Bool
  | [] => true
  | .int .i64 _ :: .int .i64 _ :: .int .i64 _ :: .str _ :: .int .i64 _ :: .int .i64 _ :: .int .i64 _ :: rest => nodesOk rest
  | _ => false

def anys : Nat → List AV
  | 0 => []
  | n + 1 => .any :: anys n

/-- rules.inOld: a new slice of bools, one for each node; of what they are nothing is said. 'eb': the bools' type. -/
def inOldPrim (eb : Nat) : Prim := fun _ args H =>
  match args with
  | [.slice id g i n _ sz] =>
    if sz = 7 ∧ Nat.ble n 1099511627776 = true then
      match H.load id g i (n * 7) with
      | some cells =>
        if nodesOk cells = true then
          match H.new eb (anys n) with
          | some (id', H') => some (.ret (.slice id' 0 0 n (some n) 1), H')
          | none => none
        else none
      | none => none
    else none
  | [.nils] =>
    match H.new eb [] with
    | some (id', H') => some (.ret (.slice id' 0 0 0 (some 0) 1), H')
    | none => none
  | _ => none

/-- errors.As at a target of type **fault, of no error or of a *wrap that wraps a *fault. -/
def asPrim (tTarget tWrap tFault : Nat) : Prim := fun _ args H =>
  match args with
  | [.nilIface, _] => some (.ret (.bool false), H)
  | [.iface t (.ptr id g i), .iface t' (.ptr id' g' i')] =>
    if t = tWrap ∧ t' = tTarget then
      match H.load id g (i + 1) 1 with
      | some [.iface t2 (.ptr a b c)] =>
        if t2 = tFault then
          match H.store id' g' i' [.ptr a b c] with
          | some H' => some (.ret (.bool true), H')
          | none => none
        else none
      | _ => none
    else none
  | _ => none

end Ev

/- What a hand-made contract of a function needs. -/
set_option autoImplicit false
set_option linter.unusedSimpArgs false
set_option linter.unusedVariables false
namespace Ev
open Go

section
variable {P : Program} {w0 : World} {μ : Mu} {H : Hp} {w : World}

/-- A block that the evaluator does not know of. -/
theorem Rel.alloc (R : Rel P w0 μ H w) (o : Obj) : Rel P w0 μ H (w.alloc o) := by
  have hheap : ∀ b, b < w.heap.size → (w.alloc o).heap[b]? = w.heap[b]? := fun b hb => heap_alloc_old w _ b hb
  refine ⟨fun b hb => ?_, ?_, R.os, R.tape, R.output, ?_, R.apart, R.glob⟩
  · rw [hheap b (Nat.lt_of_lt_of_le hb R.size)]
    exact R.old b hb
  · have := R.size
    simp
    omega
  · intro id g L h
    obtain ⟨vb, cur, e, fr, h1, h2, h3, h4⟩ := R.place id g L h
    exact ⟨vb, cur, e, fr, h1, h2, by rw [hheap _ (R.blk_lt h)]; exact h3, h4⟩

/-- One cell that can be written. -/
theorem Rel.setOne (R : Rel P w0 μ H w) {id : Pos} {g i : Nat} {x : AV} {H' : Hp} (h : H.store id g i [x] = some H') {L : Loc} (hL : μ id g = some L) {v : Value} (hv : VR P.globals.size μ x v) :
    (∃ old, w.cell? ⟨L.blk, L.base + i, none⟩ = some old) ∧ w.frozen? ⟨L.blk, L.base + i, none⟩ = false ∧ Rel P w0 μ H' (w.setCell ⟨L.blk, L.base + i, none⟩ v) := by
  obtain ⟨cur, e, c1, c2, c3, c4, c5⟩ := R.store h hL (.cons hv .nil)
  have hlt : i < cur.size := by simp at c3; omega
  have hcell : w.cell? ⟨L.blk, L.base + i, none⟩ = some cur[i] := by simp [World.cell?, c1, c2, hlt]
  have hfz : w.frozen? ⟨L.blk, L.base + i, none⟩ = false := by simp [World.frozen?, c1]
  refine ⟨⟨_, hcell⟩, hfz, ?_⟩
  have h1 := run_storeCells_at (P := P) L.blk (L.base + i) e [v] 0 cur w c1 (by simp [c2]; omega) c4
  have h2 : (storeCells ⟨L.blk, L.base + i, none⟩ [v] 0).run P w = .ok () (w.setCell ⟨L.blk, L.base + i, none⟩ v) := by
    simp only [storeCells, Sem.run_bind, addr_add_zero]
    rw [run_store P w _ v _ (c4 v (by simp)), hcell]
    simp [hfz]
  rw [h1] at h2
  injection h2 with _ h2
  rw [← h2]
  simp only [Nat.add_zero, c2, Nat.zero_add]
  exact c5

theorem Rel.cell (R : Rel P w0 μ H w) {id : Pos} {g i : Nat} {x : AV} (h : H.load id g i 1 = some [x]) {L : Loc} (hL : μ id g = some L) : ∃ v, w.cell? ⟨L.blk, L.base + i, none⟩ = some v ∧ VR P.globals.size μ x v := by
  obtain ⟨vs, hvs, hlen, hcell⟩ := load_list R h hL
  cases hvs with
  | cons hh ht =>
    cases ht
    have h0 := hcell 0 _ rfl
    rw [addr_add_zero] at h0
    exact ⟨_, h0, hh⟩

theorem FuncAt.of_calls {f : Nat} {fn : Func} {c : Code} (hf : P.funcs[f]? = some fn) (hb : fn.body = some c) (hn : (fn.name == "runtime.NumGoroutine") = false) {args : Array Value} {Q : Ending → World → Prop}
    (h : Calls P f args w Q) : FuncAt P f args w Q := by
  unfold FuncAt
  rw [callFunc_enter hf hb hn]
  exact h

theorem World.cell_old {w0 w : World} (h : ∀ b, b < w0.heap.size → w.heap[b]? = w0.heap[b]?) {a : Addr} {v : Value} (hc : w0.cell? a = some v) : w.cell? a = some v := by
  have hlt : a.block < w0.heap.size := by
    rcases Nat.lt_or_ge a.block w0.heap.size with h' | h'
    · exact h'
    · simp [World.cell?, Array.getElem?_eq_none h'] at hc
  unfold World.cell? at hc ⊢
  rw [h _ hlt]
  exact hc

end
end Ev

/- Rows of names: the last that fits. -/
set_option autoImplicit false
set_option linter.unusedSimpArgs false
set_option linter.unusedVariables false
namespace Ev
open Go

structure NRow where
  nm : ByteArray
  ty : Int
  sz : Int
  gl : Bool
  pa : Bool
  dp : Int
  deriving Inhabited

def NRow.cell (r : NRow) : Nat → Value
  | 0 => .string r.nm
  | 1 => .int .i64 r.ty
  | 2 => .int .i64 r.sz
  | 3 => .bool r.gl
  | 4 => .bool r.pa
  | _ => .int .i64 r.dp
def NRow.vals (r : NRow) : List Value := [.string r.nm, .int .i64 r.ty, .int .i64 r.sz, .bool r.gl, .bool r.pa, .int .i64 r.dp]
def NRow.av (r : NRow) : List AV := [.str r.nm.data.toList, .int .i64 r.ty, .int .i64 r.sz, .bool r.gl, .bool r.pa, .int .i64 r.dp]
def NRow.hit (s : List UInt8) (r : NRow) : Bool := bytesEq r.nm.data.toList s

def lastRow (s : List UInt8) : List NRow → Option (List AV) → Option (List AV)
  | [], acc => acc
  | r :: rs, acc => lastRow s rs (if r.hit s then some r.av else acc)

def rowVals : List NRow → List Value
  | [] => []
  | r :: rs => r.vals ++ rowVals rs

theorem lastHit_rows {G : Nat} {μ : Mu} {s : List UInt8} : ∀ {cells : List AV} {acc res : Option (List AV)} {vs : List Value}, lastHit s cells acc = some res → VRs G μ cells vs →
    ∃ rows, vs = rowVals rows ∧ res = lastRow s rows acc := by
  intro cells acc
  induction cells, acc using lastHit.induct s with
  | case1 acc =>
    intro res vs h hv
    cases hv
    simp only [lastHit, Option.some.injEq] at h
    exact ⟨[], rfl, h.symm⟩
  | case2 acc t a b c d e rest ih =>
    intro res vs h hv
    simp only [lastHit] at h
    cases hv with
    | cons h0 hv =>
      cases hv with
      | cons h1 hv =>
        cases hv with
        | cons h2 hv =>
          cases hv with
          | cons h3 hv =>
            cases hv with
            | cons h4 hv =>
              cases hv with
              | cons h5 hv =>
                obtain ⟨rows, rfl, hr⟩ := ih h hv
                cases h1; cases h2; cases h3; cases h4; cases h5
                cases h0
                rename_i bb
                exact ⟨⟨bb, _, _, _, _, _⟩ :: rows, rfl, hr⟩
  | case3 l acc h1 h2 =>
    intro res vs h hv
    unfold lastHit at h
    split at h
    · exact absurd rfl h1
    · exact absurd rfl (h2 _ _ _ _ _ _ _)
    · cases h

theorem rowVals_len : ∀ (rows : List NRow), (rowVals rows).length = rows.length * 6
  | [] => rfl
  | r :: rs => by simp only [rowVals, List.length_append, rowVals_len rs, List.length_cons, NRow.vals, List.length_nil]; omega

theorem rowVals_get : ∀ (rows : List NRow) (k j : Nat), k < rows.length → j < 6 → (rowVals rows)[k * 6 + j]? = some ((rows.getD k default).cell j)
  | [], k, j, hk, _ => by simp at hk
  | r :: rs, 0, j, _, hj => by
    simp only [rowVals, Nat.zero_mul, Nat.zero_add]
    rw [List.getElem?_append_left (by simp [NRow.vals]; omega)]
    match j, hj with
    | 0, _ => rfl
    | 1, _ => rfl
    | 2, _ => rfl
    | 3, _ => rfl
    | 4, _ => rfl
    | 5, _ => rfl
    | n + 6, h => omega
  | r :: rs, k + 1, j, hk, hj => by
    simp only [rowVals]
    rw [List.getElem?_append_right (by simp [NRow.vals]; omega)]
    have : (k + 1) * 6 + j - r.vals.length = k * 6 + j := by simp [NRow.vals]; omega
    rw [this, rowVals_get rs k j (by simpa using hk) hj]
    simp

theorem lastRow_spec {s : List UInt8} : ∀ (rows : List NRow) (acc : Option (List AV)),
    (lastRow s rows acc = acc ∧ ∀ k, k < rows.length → (rows.getD k default).hit s = false) ∨
    (∃ k, k < rows.length ∧ lastRow s rows acc = some (rows.getD k default).av ∧ (rows.getD k default).hit s = true ∧ ∀ j, k < j → j < rows.length → (rows.getD j default).hit s = false)
  | [], acc => .inl ⟨rfl, fun k hk => by simp at hk⟩
  | r :: rs, acc => by
    simp only [lastRow]
    rcases lastRow_spec rs (if r.hit s then some r.av else acc) with ⟨h1, h2⟩ | ⟨k, h1, h2, h3, h4⟩
    · rw [h1]
      cases hr : r.hit s with
      | false =>
        left
        refine ⟨by simp, fun k hk => ?_⟩
        cases k with
        | zero => simpa using hr
        | succ k => simpa using h2 k (by simpa using hk)
      | true =>
        right
        refine ⟨0, by simp, by simp, by simpa using hr, fun j hj hjl => ?_⟩
        cases j with
        | zero => omega
        | succ j => simpa using h2 j (by simpa using hjl)
    · right
      refine ⟨k + 1, by simpa using h1, by simpa using h2, by simpa using h3, fun j hj hjl => ?_⟩
      cases j with
      | zero => omega
      | succ j => simpa using h4 j (by omega) (by simpa using hjl)

theorem NRow.av_vr {G : Nat} {μ : Mu} (r : NRow) : VRs G μ r.av [r.cell 0, r.cell 1, r.cell 2, r.cell 3, r.cell 4, r.cell 5] :=
  .cons (.str _) (.cons (.int _ _) (.cons (.int _ _) (.cons (.bool _) (.cons (.bool _) (.cons (.int _ _) .nil)))))

end Ev
