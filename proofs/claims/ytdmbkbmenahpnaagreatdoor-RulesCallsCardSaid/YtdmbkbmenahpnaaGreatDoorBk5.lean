/- A part of the proof: Bk5. -/
import Derived.RangeFuncNested
import Derived.RangeFuncBound
import Derived.RangeFuncCalls
import Derived.RangeFuncLeaves
import Derived.Shelf.Abstract
import Derived.Shelf.RegionOpen
import Derived.WalkKit
import Derived.OwnWalkIn
import Derived.TacticsInMore
import Derived.LoopNIn
import Derived.LoopIn
import Derived.Test.YtdmbkbmenahpnaaGreatDoorProg
namespace Go.Proofs.YtdmbkbmenahpnaaGreatDoor
open Go.RowKit Go.Shelf
attribute [local go_sem] Oper.semAt_some

/-- What has come when k rounds are over, from the last of 'len' to the first. -/
def downto (len : Nat) (k : Nat) : List Nat := (List.range k).map fun j => len - 1 - j
theorem downto_succ (len k : Nat) : downto len (k + 1) = downto len k ++ [len - 1 - k] := by simp [downto, List.range_succ]
theorem downto_length (len k : Nat) : (downto len k).length = k := by simp [downto]

def nameOf6 (cs : Nat → Nat → Value) (k : Nat) : Value := .agg #[cs k 0, cs k 1, cs k 2, cs k 3, cs k 4, cs k 5]

set_option maxRecDepth 100000 in
set_option maxHeartbeats 2000000 in
theorem back131 (F : Fence) (n : Nat) (hf : F.fn 131) (hro : F.round = none) (hn : 1 ≤ n) (l Bs n₀ b off len cap : Nat) (cs : Nat → Nat → Value) (hlen : len ≤ 9223372036854775807) (hb : b < n₀) (J Jx : List Nat → World → Prop)
    (hY : ∀ (pre : List Nat) (x : Nat) W, J pre W → pre.length < len → YieldAt F (n - 1) Tryz.prog l #[.int .i64 (x : Int), nameOf6 cs x] W fun e W' =>
      (e = .returned (.bool true) ∧ J (pre ++ [x]) W' ∧ Below n₀ W W') ∨ (e = .returned (.bool false) ∧ Jx (pre ++ [x]) W'))
    (W : World) (hBs : Bs < n₀) (hBsc : W.cell? ⟨Bs, 0, none⟩ = some (.slice (some ⟨b, off, none⟩) len cap)) (hc : ∀ k j, k < len → j < 6 → W.cell? ⟨b, off + k * 6 + j, none⟩ = some (cs k j)) (h0 : J [] W) :
    CallsIn F n Tryz.prog 131 #[.func (.yield l) #[] #[], .pointer (some ⟨Bs, 0, none⟩)] W fun e W' => (∃ v, e = .returned v) ∧
      ((∃ ys, ys = downto len len ∧ J ys W') ∨ (∃ pre, (∃ k, k < len ∧ pre = downto len (k + 1)) ∧ Jx pre W')) := by
  refine callsIn_of_wp Tryz.func131 rfl hf ?_ hro
  simp only [Tryz.ntmps131, List.size_toArray, List.length_cons, List.length_nil, Nat.reduceAdd, Nat.reduceSub, Array.replicate_succ, Array.replicate_zero, List.push_toArray, List.append_toArray, List.nil_append, List.cons_append]
  gi_wp2
  gi_loopw [3] (fun i wr => ∃ k : Nat, k ≤ len ∧ i = .int .i64 ((len : Int) - 1 - k) ∧ J (downto len k) wr ∧ Below n₀ W wr)
    (fun i _ => (intOf i + 1).toNat)
  case atStart => exact ⟨0, by omega, by simp, by simpa [downto] using h0, Below.refl _ _⟩
  case round =>
    obtain ⟨k, hk, rfl, hJs, hnx⟩ := hrel
    have hBsc' := (hnx.cell (p := ⟨Bs, 0, none⟩) hBs).trans hBsc
    by_cases hlt : k < len
    · obtain ⟨m, hm⟩ : ∃ m, m = len - 1 - k := ⟨_, rfl⟩
      have hml : m < len := by omega
      have hmi : (len : Int) - 1 - k = (m : Int) := by omega
      rw [hmi]
      have hc0 : wr.cell? ⟨b, off + m * 6, none⟩ = some (cs m 0) := (hnx.cell (p := ⟨b, off + m * 6 + 0, none⟩) hb).trans (hc m 0 hml (by omega))
      have hc1 := (hnx.cell (p := ⟨b, off + m * 6 + 1, none⟩) hb).trans (hc m 1 hml (by omega))
      have hc2 := (hnx.cell (p := ⟨b, off + m * 6 + 2, none⟩) hb).trans (hc m 2 hml (by omega))
      have hc3 := (hnx.cell (p := ⟨b, off + m * 6 + 3, none⟩) hb).trans (hc m 3 hml (by omega))
      have hc4 := (hnx.cell (p := ⟨b, off + m * 6 + 4, none⟩) hb).trans (hc m 4 hml (by omega))
      have hc5 := (hnx.cell (p := ⟨b, off + m * 6 + 5, none⟩) hb).trans (hc m 5 hml (by omega))
      obtain ⟨fn, tmps, assign, body, hy, hR⟩ := hY _ m wr hJs (by rw [downto_length]; exact hlt)
      unfold nameOf6 at hy
      have hdt : downto len k ++ [m] = downto len (k + 1) := by rw [downto_succ, hm]
      rw [hdt] at hR
      clear hmi
      have hmi : (len : Int) - 1 - (k + 1 : Nat) = (m : Int) - 1 := by omega
      clear hm
      gi_wp2
      refine hR.mono ?_
      rintro e W3 (⟨rfl, hJ3, hk3⟩ | ⟨rfl, hJx3⟩)
      · gi_wp2
        go_roundw
        case rel => exact ⟨k + 1, by omega, by rw [hmi], hJ3, hnx.trans hk3⟩
        case measure => simp [intOf]
      · gi_wp2
        refine bodyPost_ret (results_none rfl _ _ _) rfl ?_
        exact ⟨⟨_, rfl⟩, .inr ⟨_, ⟨k, hlt, rfl⟩, hJx3⟩⟩
    · obtain rfl : k = len := by omega
      gi_wp2
      go_end0
      exact ⟨⟨_, rfl⟩, .inl ⟨_, rfl, hJs⟩⟩

set_option maxRecDepth 100000 in
set_option maxHeartbeats 1000000 in
theorem back131_nil (F : Fence) (n : Nat) (hf : F.fn 131) (hro : F.round = none) (l Bs : Nat) (J : List Nat → World → Prop) (W : World) (hBsc : W.cell? ⟨Bs, 0, none⟩ = some (.slice none 0 0)) (h0 : J [] W) :
    CallsIn F n Tryz.prog 131 #[.func (.yield l) #[] #[], .pointer (some ⟨Bs, 0, none⟩)] W fun e W' => (∃ v, e = .returned v) ∧ J [] W' := by
  refine callsIn_of_wp Tryz.func131 rfl hf ?_ hro
  simp only [Tryz.ntmps131, List.size_toArray, List.length_cons, List.length_nil, Nat.reduceAdd, Nat.reduceSub, Array.replicate_succ, Array.replicate_zero, List.push_toArray, List.append_toArray, List.nil_append, List.cons_append]
  gi_wp2
  gi_loopw [3] (fun i wr => i = .int .i64 (-1) ∧ J [] wr) (fun _ _ => 0)
  case atStart => exact ⟨rfl, h0⟩
  case round =>
    obtain ⟨rfl, hJs⟩ := hrel
    gi_wp2
    go_end0
    exact ⟨⟨_, rfl⟩, hJs⟩

set_option maxHeartbeats 1000000 in
theorem backward108 (F : Fence) (n : Nat) (hf : F.fn 108) (hro : F.round = none) (a : Option Addr) (len cap : Nat) (w : World) :
    CallsIn F n Tryz.prog 108 #[.slice a len cap] w fun e w' => e = .returned (.func (.func 131) #[] #[.pointer (some ⟨w.heap.size, 0, none⟩)]) ∧ w' = w.alloc (.cells #[.slice a len cap] 116) := by
  refine callsIn_of_wp Tryz.func108 rfl hf ?_ hro
  simp only [Tryz.ntmps108, List.size_toArray, List.length_cons, List.length_nil, Nat.reduceAdd, Nat.reduceSub, Array.replicate_succ, Array.replicate_zero, List.push_toArray, List.append_toArray, List.nil_append, List.cons_append]
  gi_wp2
  go_ret
  exact ⟨rfl, rfl⟩

/-- The elements of a slice of names: none, or in a block below n₀. -/
def Names (n₀ : Nat) (W : World) (a : Option Addr) (len : Nat) (cs : Nat → Nat → Value) : Prop :=
  (a = none ∧ len = 0) ∨ ∃ b off, a = some ⟨b, off, none⟩ ∧ b < n₀ ∧ ∀ k j, k < len → j < 6 → W.cell? ⟨b, off + k * 6 + j, none⟩ = some (cs k j)
theorem Names.below {n₀ : Nat} {A B : World} (h : Below n₀ A B) {a : Option Addr} {len : Nat} {cs : Nat → Nat → Value} : Names n₀ A a len cs → Names n₀ B a len cs
  | .inl e => .inl e
  | .inr ⟨b, off, e, hb, hc⟩ => .inr ⟨b, off, e, hb, fun k j hk hj => (h.cell (p := ⟨b, off + k * 6 + j, none⟩) hb).trans (hc k j hk hj)⟩

theorem back_stops (F : Fence) (n : Nat) (hf : F.fn 131) (hro : F.round = none) (hn : 1 ≤ n) (Bs n₀ : Nat) (a : Option Addr) (len cap : Nat) (hlen : len ≤ 9223372036854775807) (cs : Nat → Nat → Value) (w : World) (hBs : Bs < n₀) (hn₀ : n₀ ≤ w.heap.size)
    (hca : a = none → cap = 0)
    (hc : w.cell? ⟨Bs, 0, none⟩ = some (.slice a len cap)) (hI : Names n₀ w a len cs) :
    SeqStopsK F n Tryz.prog 131 #[.pointer (some ⟨Bs, 0, none⟩)] (fun x : Nat => #[Value.int .i64 (x : Int), nameOf6 cs x]) (Below n₀) (fun ys => ys = downto len len) (fun pre => ∃ k, k < len ∧ pre = downto len (k + 1)) len w := fun l J Jx W hW hJ _ hY h0 => by
  have hc' := (hW.cell (p := ⟨Bs, 0, none⟩) (Nat.lt_of_lt_of_le hBs hn₀)).trans hc
  rcases hI.below (hW.mono hn₀) with ⟨rfl, rfl⟩ | ⟨b, off, rfl, hb, hcs⟩
  · rw [hca rfl] at hc'
    exact (back131_nil F n hf hro l Bs J W hc' h0).mono fun e W' ⟨he, hj⟩ => ⟨he, .inl ⟨[], rfl, hj⟩⟩
  · exact back131 F n hf hro hn l Bs n₀ b off len cap cs hlen hb J Jx hY W hBs hc' hcs h0

/-- Six cells of a block. -/
def Six (W : World) (B : Nat) (v0 v1 v2 v3 v4 v5 : Value) : Prop :=
  W.cell? ⟨B, 0, none⟩ = some v0 ∧ W.cell? ⟨B, 1, none⟩ = some v1 ∧ W.cell? ⟨B, 2, none⟩ = some v2 ∧ W.cell? ⟨B, 3, none⟩ = some v3 ∧ W.cell? ⟨B, 4, none⟩ = some v4 ∧ W.cell? ⟨B, 5, none⟩ = some v5
theorem Six.own {β : Type} (B : Nat) (v0 v1 v2 v3 v4 v5 : Value) : Own (fun (_ : β) W => Six W B v0 v1 v2 v3 v4 v5) := fun s X Y row hs hg hr => by
  obtain ⟨h0, h1, h2, h3, h4, h5⟩ := hs
  exact ⟨cell_kept h0 hg hr, cell_kept h1 hg hr, cell_kept h2 hg hr, cell_kept h3 hg hr, cell_kept h4 hg hr, cell_kept h5 hg hr⟩
def Open6 (W : World) (B : Nat) : Prop := W.frozen? ⟨B, 0, none⟩ = false ∧ W.frozen? ⟨B, 1, none⟩ = false ∧ W.frozen? ⟨B, 2, none⟩ = false ∧ W.frozen? ⟨B, 3, none⟩ = false ∧ W.frozen? ⟨B, 4, none⟩ = false ∧ W.frozen? ⟨B, 5, none⟩ = false
theorem Six.alloc {W : World} {B : Nat} {v0 v1 v2 v3 v4 v5 : Value} (h : Six W B v0 v1 v2 v3 v4 v5) (o : Obj) : Six (W.alloc o) B v0 v1 v2 v3 v4 v5 :=
  Six.own B v0 v1 v2 v3 v4 v5 () W _ none h (World.grownBy_alloc W o none) (fun r e => by cases e)

theorem one_of {W : World} {B t : Nat} {v : Value} (h : W.heap[B]? = some (.cells #[v] t (0, 0))) : W.cell? ⟨B, 0, none⟩ = some v ∧ W.frozen? ⟨B, 0, none⟩ = false := by
  constructor <;> simp [World.cell?, World.frozen?, h]
theorem cell_al {W : World} {p : Addr} {v : Value} (h : W.cell? p = some v) (o : Obj) : (W.alloc o).cell? p = some v := cell_kept h (World.grownBy_alloc W o none) (fun r e => by cases e)
theorem fz_al {W : World} {p : Addr} {v : Value} (h : W.cell? p = some v) (hf : W.frozen? p = false) (o : Obj) : (W.alloc o).frozen? p = false := (frozen_kept h (World.grownBy_alloc W o none) (fun r e => by cases e)).trans hf
theorem Open6.alloc {W : World} {B : Nat} {v0 v1 v2 v3 v4 v5 : Value} (h : Six W B v0 v1 v2 v3 v4 v5) (hf : Open6 W B) (o : Obj) : Open6 (W.alloc o) B :=
  ⟨fz_al h.1 hf.1 o, fz_al h.2.1 hf.2.1 o, fz_al h.2.2.1 hf.2.2.1 o, fz_al h.2.2.2.1 hf.2.2.2.1 o, fz_al h.2.2.2.2.1 hf.2.2.2.2.1 o, fz_al h.2.2.2.2.2 hf.2.2.2.2.2 o⟩
theorem Six.far {W : World} {B : Nat} {v0 v1 v2 v3 v4 v5 : Value} (h : Six W B v0 v1 v2 v3 v4 v5) {p : Addr} (hp : p.block ≠ B) (u : Value) : Six (W.setCell p u) B v0 v1 v2 v3 v4 v5 := by
  have far : ∀ (q : Addr), q.block = B → (W.setCell p u).cell? q = W.cell? q := fun q hq => World.cell?_setCell_other _ _ _ _ (fun e => hp (by rw [e]; exact hq))
  exact ⟨(far _ rfl).trans h.1, (far _ rfl).trans h.2.1, (far _ rfl).trans h.2.2.1, (far _ rfl).trans h.2.2.2.1, (far _ rfl).trans h.2.2.2.2.1, (far _ rfl).trans h.2.2.2.2.2⟩
theorem six_set {W : World} {B : Nat} {v0 v1 v2 v3 v4 v5 u0 u1 u2 u3 u4 u5 : Value} (h0 : W.cell? ⟨B, 0, none⟩ = some v0) (h1 : W.cell? ⟨B, 1, none⟩ = some v1) (h2 : W.cell? ⟨B, 2, none⟩ = some v2) (h3 : W.cell? ⟨B, 3, none⟩ = some v3)
    (h4 : W.cell? ⟨B, 4, none⟩ = some v4) (h5 : W.cell? ⟨B, 5, none⟩ = some v5) :
    Six ((((((W.setCell ⟨B, 0, none⟩ u0).setCell ⟨B, 1, none⟩ u1).setCell ⟨B, 2, none⟩ u2).setCell ⟨B, 3, none⟩ u3).setCell ⟨B, 4, none⟩ u4).setCell ⟨B, 5, none⟩ u5) B u0 u1 u2 u3 u4 u5 := by
  have other : ∀ (X : World) (i j : Nat) (u : Value), i ≠ j → (X.setCell ⟨B, i, none⟩ u).cell? ⟨B, j, none⟩ = X.cell? ⟨B, j, none⟩ := fun X i j u hij => World.cell?_setCell_other _ _ _ _ (fun e => hij (by injection e))
  refine ⟨?_, ?_, ?_, ?_, ?_, ?_⟩
  · rw [other _ _ _ _ (by decide), other _ _ _ _ (by decide), other _ _ _ _ (by decide), other _ _ _ _ (by decide), other _ _ _ _ (by decide)]; exact World.cell?_setCell_same _ _ _ h0
  · rw [other _ _ _ _ (by decide), other _ _ _ _ (by decide), other _ _ _ _ (by decide), other _ _ _ _ (by decide)]; exact World.cell?_setCell_same _ _ _ (by rw [other _ _ _ _ (by decide)]; exact h1)
  · rw [other _ _ _ _ (by decide), other _ _ _ _ (by decide), other _ _ _ _ (by decide)]; exact World.cell?_setCell_same _ _ _ (by rw [other _ _ _ _ (by decide), other _ _ _ _ (by decide)]; exact h2)
  · rw [other _ _ _ _ (by decide), other _ _ _ _ (by decide)]; exact World.cell?_setCell_same _ _ _ (by rw [other _ _ _ _ (by decide), other _ _ _ _ (by decide), other _ _ _ _ (by decide)]; exact h3)
  · rw [other _ _ _ _ (by decide)]; exact World.cell?_setCell_same _ _ _ (by rw [other _ _ _ _ (by decide), other _ _ _ _ (by decide), other _ _ _ _ (by decide), other _ _ _ _ (by decide)]; exact h4)
  · exact World.cell?_setCell_same _ _ _ (by rw [other _ _ _ _ (by decide), other _ _ _ _ (by decide), other _ _ _ _ (by decide), other _ _ _ _ (by decide), other _ _ _ _ (by decide)]; exact h5)
theorem far6 {W : World} {B : Nat} {p : Addr} {v u0 u1 u2 u3 u4 u5 : Value} (h : W.cell? p = some v) (hp : B ≠ p.block) :
    ((((((W.setCell ⟨B, 0, none⟩ u0).setCell ⟨B, 1, none⟩ u1).setCell ⟨B, 2, none⟩ u2).setCell ⟨B, 3, none⟩ u3).setCell ⟨B, 4, none⟩ u4).setCell ⟨B, 5, none⟩ u5).cell? p = some v := by
  have far : ∀ (X : World) (i : Nat) (u : Value), (X.setCell ⟨B, i, none⟩ u).cell? p = X.cell? p := fun X i u => World.cell?_setCell_other _ _ _ _ (fun e => hp (by rw [← e]))
  rw [far, far, far, far, far, far]; exact h
theorem six_of {W : World} {B t : Nat} {v0 v1 v2 v3 v4 v5 : Value} (h : W.heap[B]? = some (.cells #[v0, v1, v2, v3, v4, v5] t (0, 0))) : Six W B v0 v1 v2 v3 v4 v5 ∧ Open6 W B := by
  refine ⟨⟨?_, ?_, ?_, ?_, ?_, ?_⟩, ⟨?_, ?_, ?_, ?_, ?_, ?_⟩⟩ <;> simp [World.cell?, World.frozen?, h]

theorem size130 (w : World) : (sizeOf 130).run Tryz.prog w = .ok 6 w := by kernel_rfl
theorem agg130 (w : World) : (isAgg 130).run Tryz.prog w = .ok true w := by kernel_rfl
theorem agg4 (w : World) : (isAgg 4).run Tryz.prog w = .ok false w := by kernel_rfl
theorem results75 {W : World} {tmps : Array Value} {B B' : Nat} {v0 v1 v2 v3 v4 v5 u : Value} (h4 : tmps.getD 4 undef = .pointer (some ⟨B, 0, none⟩)) (h5 : tmps.getD 5 undef = .pointer (some ⟨B', 0, none⟩))
    (h : Six W B v0 v1 v2 v3 v4 v5) (hu : W.cell? ⟨B', 0, none⟩ = some u) : (results Tryz.f75 tmps).run Tryz.prog W = .ok (.tuple #[.agg #[v0, v1, v2, v3, v4, v5], u]) W := by
  have hr : Tryz.f75.results = #[.cell 4 130, .cell 5 4] := rfl
  obtain ⟨z0, z1, z2, z3, z4, z5⟩ := h
  have hl := run_loadCells_list (P := Tryz.prog) W ⟨B, 0, none⟩ [v0, v1, v2, v3, v4, v5] (by
    intro j v hj
    match j with
    | 0 => simp at hj; subst hj; simpa [Addr.add] using z0
    | 1 => simp at hj; subst hj; simpa [Addr.add] using z1
    | 2 => simp at hj; subst hj; simpa [Addr.add] using z2
    | 3 => simp at hj; subst hj; simpa [Addr.add] using z3
    | 4 => simp at hj; subst hj; simpa [Addr.add] using z4
    | 5 => simp at hj; subst hj; simpa [Addr.add] using z5
    | n + 6 => simp at hj)
  simp only [List.length_cons, List.length_nil, Nat.reduceAdd] at hl
  simp only [results, hr]
  simp only [Array.mapM_eq_mapM_toList, List.mapM_cons, List.mapM_nil, Sem.run_bind, Sem.run_pure, Result.andThen_ok, h4, h5, asAddr, loadVar, agg130, agg4, size130, if_true, hl, map_eq_pure_bind]
  simp [hu]

set_option maxRecDepth 100000 in
set_option maxHeartbeats 4000000 in
theorem find_in (F : Fence) (n : Nat) (h75 : F.fn 75) (h108 : F.fn 108) (h131 : F.fn 131) (hro : F.round = none) (hn : 4 ≤ n) (cb co : Nat) (s : ByteArray) (a : Option Addr) (len cap : Nat) (hlen : len ≤ 9223372036854775807) (cs : Nat → Nat → Value) (nm : Nat → ByteArray) (ty sz : Nat → Int) (gl pa : Nat → Bool) (dp : Nat → Int) (w : World)
    (e0 : ∀ k, cs k 0 = .string (nm k)) (e1 : ∀ k, cs k 1 = .int .i64 (ty k)) (e2 : ∀ k, cs k 2 = .int .i64 (sz k)) (e3 : ∀ k, cs k 3 = .bool (gl k)) (e4 : ∀ k, cs k 4 = .bool (pa k)) (e5 : ∀ k, cs k 5 = .int .i64 (dp k)) (hca : a = none → cap = 0)
    (hc : w.cell? ⟨cb, co + 11, none⟩ = some (.slice a len cap)) (hI : Names w.heap.size w a len cs) :
    CallsIn F n Tryz.prog 75 #[.pointer (some ⟨cb, co, none⟩), .string s] w fun e W' => Below w.heap.size w W' ∧
      ((∃ k pre, (∃ k, k < len ∧ pre = downto len (k + 1)) ∧ (∃ pre', pre = pre' ++ [k] ∧ ∀ j ∈ pre', ((nm j).toList == s.toList) = false) ∧ ((nm k).toList == s.toList) = true ∧ e = .returned (.tuple #[nameOf6 cs k, .bool true])) ∨
       ((∀ j ∈ downto len len, ((nm j).toList == s.toList) = false) ∧ e = .returned (.tuple #[.agg #[.string .empty, .int .i64 0, .int .i64 0, .bool false, .bool false, .int .i64 0], .bool false]))) := by
  have h1 : 1 ≤ n := by omega
  have hcl : cb < w.heap.size := by
    rcases Nat.lt_or_ge cb w.heap.size with h | h
    · exact h
    · simp [World.cell?, Array.getElem?_eq_none h] at hc
  have hc3 : (((w.alloc (.cells #[.string s] 9)).alloc (.cells #[.string ⟨#[]⟩, .int .i64 0, .int .i64 0, .bool false, .bool false, .int .i64 0] 130)).alloc (.cells #[.bool false] 4)).cell? ⟨cb, co + 11, none⟩ = some (.slice a len cap) := by
    rw [World.cell?_alloc_lt _ _ _ (by simp; omega), World.cell?_alloc_lt _ _ _ (by simp; omega), World.cell?_alloc_lt _ _ _ hcl]; exact hc
  refine callsIn_of_wp_marks Tryz.func75 rfl h75 ?_ hro
  simp only [Tryz.ntmps75, List.size_toArray, List.length_cons, List.length_nil, Nat.reduceAdd, Nat.reduceSub, Array.replicate_succ, Array.replicate_zero, List.push_toArray, List.append_toArray, List.nil_append, List.cons_append]
  gi_wp2_with (gi_at_call 108; refine (backward108 F (n - 1) h108 hro _ _ _ _).mono ?_; rintro e w' ⟨rfl, rfl⟩)
  have c3 : ((((w.alloc (.cells #[.string s] 9)).alloc (.cells #[.string ⟨#[]⟩, .int .i64 0, .int .i64 0, .bool false, .bool false, .int .i64 0] 130)).alloc (.cells #[.bool false] 4)).alloc (.cells #[.slice a len cap] 116)).cell? ⟨w.heap.size, 0, none⟩ = some (.string s) :=
    cell_al (cell_al (cell_al (one_of (World.alloc_heap_new w _)).1 _) _) _
  obtain ⟨c4, f4⟩ : Six ((((w.alloc (.cells #[.string s] 9)).alloc (.cells #[.string ⟨#[]⟩, .int .i64 0, .int .i64 0, .bool false, .bool false, .int .i64 0] 130)).alloc (.cells #[.bool false] 4)).alloc (.cells #[.slice a len cap] 116)) (w.heap.size + 1) (.string ⟨#[]⟩) (.int .i64 0) (.int .i64 0) (.bool false) (.bool false) (.int .i64 0) ∧ Open6 ((((w.alloc (.cells #[.string s] 9)).alloc (.cells #[.string ⟨#[]⟩, .int .i64 0, .int .i64 0, .bool false, .bool false, .int .i64 0] 130)).alloc (.cells #[.bool false] 4)).alloc (.cells #[.slice a len cap] 116)) (w.heap.size + 1) := by
    refine six_of (t := 130) ?_
    rw [Below.heap_alloc _ _ _ (by simp), Below.heap_alloc _ _ _ (by simp)]
    have := World.alloc_heap_new (w.alloc (.cells #[.string s] 9)) (.cells #[.string ⟨#[]⟩, .int .i64 0, .int .i64 0, .bool false, .bool false, .int .i64 0] 130)
    rwa [World.size_alloc] at this
  obtain ⟨c5, f5⟩ : ((((w.alloc (.cells #[.string s] 9)).alloc (.cells #[.string ⟨#[]⟩, .int .i64 0, .int .i64 0, .bool false, .bool false, .int .i64 0] 130)).alloc (.cells #[.bool false] 4)).alloc (.cells #[.slice a len cap] 116)).cell? ⟨w.heap.size + 1 + 1, 0, none⟩ = some (.bool false) ∧ ((((w.alloc (.cells #[.string s] 9)).alloc (.cells #[.string ⟨#[]⟩, .int .i64 0, .int .i64 0, .bool false, .bool false, .int .i64 0] 130)).alloc (.cells #[.bool false] 4)).alloc (.cells #[.slice a len cap] 116)).frozen? ⟨w.heap.size + 1 + 1, 0, none⟩ = false := by
    have := one_of (World.alloc_heap_new ((w.alloc (.cells #[.string s] 9)).alloc (.cells #[.string ⟨#[]⟩, .int .i64 0, .int .i64 0, .bool false, .bool false, .int .i64 0] 130)) (.cells #[.bool false] 4))
    simp only [World.size_alloc] at this
    exact ⟨cell_al this.1 _, fz_al this.1 this.2 _⟩
  have cS : ((((w.alloc (.cells #[.string s] 9)).alloc (.cells #[.string ⟨#[]⟩, .int .i64 0, .int .i64 0, .bool false, .bool false, .int .i64 0] 130)).alloc (.cells #[.bool false] 4)).alloc (.cells #[.slice a len cap] 116)).cell? ⟨w.heap.size + 1 + 1 + 1, 0, none⟩ = some (.slice a len cap) := by
    have := one_of (World.alloc_heap_new (((w.alloc (.cells #[.string s] 9)).alloc (.cells #[.string ⟨#[]⟩, .int .i64 0, .int .i64 0, .bool false, .bool false, .int .i64 0] 130)).alloc (.cells #[.bool false] 4)) (.cells #[.slice a len cap] 116))
    simp only [World.size_alloc] at this
    exact this.1
  have hB0 : Below w.heap.size w ((((w.alloc (.cells #[.string s] 9)).alloc (.cells #[.string ⟨#[]⟩, .int .i64 0, .int .i64 0, .bool false, .bool false, .int .i64 0] 130)).alloc (.cells #[.bool false] 4)).alloc (.cells #[.slice a len cap] 116)) := ((((Below.refl _ w).alloc (Nat.le_refl _) _).alloc (by simp) _).alloc (by simp; omega) _).alloc (by simp; omega) _
  have hsz : ((((w.alloc (.cells #[.string s] 9)).alloc (.cells #[.string ⟨#[]⟩, .int .i64 0, .int .i64 0, .bool false, .bool false, .int .i64 0] 130)).alloc (.cells #[.bool false] 4)).alloc (.cells #[.slice a len cap] 116)).heap.size = w.heap.size + 4 := by simp
  obtain ⟨W0, hW0⟩ : ∃ W0, ((((w.alloc (.cells #[.string s] 9)).alloc (.cells #[.string ⟨#[]⟩, .int .i64 0, .int .i64 0, .bool false, .bool false, .int .i64 0] 130)).alloc (.cells #[.bool false] 4)).alloc (.cells #[.slice a len cap] 116)) = W0 := ⟨_, rfl⟩
  rw [hW0] at c3 c4 f4 c5 f5 cS hB0 hsz ⊢
  clear hW0
  refine wpIn_rangeFunc_ownH hro h1 (gf := 131) (lb := #[.pointer (some ⟨w.heap.size + 1 + 1 + 1, 0, none⟩)]) rfl h131 (enters_of Tryz.func131 (by kernel_rfl) rfl)
    (back_stops F (n - 1) h131 hro (by omega) (w.heap.size + 1 + 1 + 1) W0.heap.size a len cap hlen cs W0 (by omega) (Nat.le_refl _) hca cS
      (by rcases hI.below hB0 with h | ⟨b, off, h, hb, hx⟩
          · exact .inl h
          · exact .inr ⟨b, off, h, by omega, hx⟩)) belowK_t (belowK_b (Nat.le_refl _)) (Below.refl _ _) (fun _ => rfl)
    (fun pre W => (W.cell? ⟨w.heap.size, 0, none⟩ = some (.string s) ∧ Six W (w.heap.size + 1) (.string ⟨#[]⟩) (.int .i64 0) (.int .i64 0) (.bool false) (.bool false) (.int .i64 0) ∧ Open6 W (w.heap.size + 1) ∧
        W.cell? ⟨w.heap.size + 1 + 1, 0, none⟩ = some (.bool false) ∧ W.frozen? ⟨w.heap.size + 1 + 1, 0, none⟩ = false) ∧ (∀ j ∈ pre, ((nm j).toList == s.toList) = false) ∧ Below w.heap.size w W ∧ W0.heap.size ≤ W.heap.size)
    (fun c pre W => c = .ret ∧ ∃ k pre', pre = pre' ++ [k] ∧ (∀ j ∈ pre', ((nm j).toList == s.toList) = false) ∧ ((nm k).toList == s.toList) = true ∧ Six W (w.heap.size + 1) (.string (nm k)) (.int .i64 (ty k)) (.int .i64 (sz k)) (.bool (gl k)) (.bool (pa k)) (.int .i64 (dp k)) ∧
        W.cell? ⟨w.heap.size + 1 + 1, 0, none⟩ = some (.bool true) ∧ Below w.heap.size w W)
    (fun p X Y row hs hg hr => by
      obtain ⟨⟨a1, a2, ⟨b0, b1, b2, b3, b4, b5⟩, a4, a5⟩, a6, a7, a8⟩ := hs
      have hr' : ∀ r, row = some r → ∃ o : Obj, X.heap[r]? = some o ∧ o.isCells = false := fun r e => (hr r e).2
      obtain ⟨z0, z1, z2, z3, z4, z5⟩ := a2
      exact ⟨⟨cell_kept a1 hg hr', Six.own (β := Unit) _ _ _ _ _ _ _ () X Y row ⟨z0, z1, z2, z3, z4, z5⟩ hg hr', ⟨(frozen_kept z0 hg hr').trans b0, (frozen_kept z1 hg hr').trans b1, (frozen_kept z2 hg hr').trans b2, (frozen_kept z3 hg hr').trans b3, (frozen_kept z4 hg hr').trans b4, (frozen_kept z5 hg hr').trans b5⟩, cell_kept a4 hg hr', (frozen_kept a4 hg hr').trans a5⟩, a6,
        ownFrom_below (β := Unit) (Nat.le_refl _) (by omega) () X Y row a7 hg hr, Nat.le_trans a8 hg.size⟩)
    (fun c p X Y row hs hg hr => by
      obtain ⟨a1, k, pre', a2, a3, a4, a5, a6, a7⟩ := hs
      have hr' : ∀ r, row = some r → ∃ o : Obj, X.heap[r]? = some o ∧ o.isCells = false := fun r e => (hr r e).2
      exact ⟨a1, k, pre', a2, a3, a4, Six.own (β := Unit) _ _ _ _ _ _ _ () X Y row a5 hg hr', cell_kept a6 hg hr', ownFrom_below (β := Unit) (Nat.le_refl _) (by omega) () X Y row a7 hg hr⟩)
    ⟨⟨c3, c4, f4, c5, f5⟩, (fun j hj => by cases hj), hB0, Nat.le_refl _⟩
    (fun x a' W => ∃ Bx, w.heap.size + 3 < Bx ∧ Six W Bx (.string (nm x)) (.int .i64 (ty x)) (.int .i64 (sz x)) (.bool (gl x)) (.bool (pa x)) (.int .i64 (dp x)) ∧ a' = { tmps := #[.pointer (some ⟨cb, co, none⟩), .string s, undef, .pointer (some ⟨w.heap.size, 0, none⟩), .pointer (some ⟨w.heap.size + 1, 0, none⟩), .pointer (some ⟨w.heap.size + 1 + 1, 0, none⟩), undef, .pointer (some ⟨Bx, 0, none⟩),
      .pointer (some ⟨cb, co, none⟩), .pointer (some ⟨cb, co, none⟩), .pointer (some ⟨cb, co + 11, none⟩), .slice a len cap, .func (.func 131) #[] #[.pointer (some ⟨w.heap.size + 1 + 1 + 1, 0, none⟩)], .int .i64 x, .agg #[.string (nm x), .int .i64 (ty x), .int .i64 (sz x), .bool (gl x), .bool (pa x), .int .i64 (dp x)], undef, undef, undef, undef, undef, undef], defers := [] })
    (fun x a' _ X Y row hs hg hr => by
      obtain ⟨Bx, q1, q2, q3⟩ := hs
      exact ⟨Bx, q1, Six.own (β := Unit) _ _ _ _ _ _ _ () X Y row q2 hg (fun r e => (hr r e).2), q3⟩)
    ?assign ?body ?done ?stop
  case assign =>
    rintro l pre x W K ⟨⟨a1, a2, a3, a4, a5⟩, a6, a7, a8⟩ hK
    unfold nameOf6
    simp only [e0, e1, e2, e3, e4, e5]
    gi_wp2
    have hWs := a7.size
    exact hK _ _ ((KeepsOthers.alloc _ _).from _) ((Below.refl _ W).alloc a8 _) ⟨⟨cell_al a1 _, a2.alloc _, a3.alloc a2 _, cell_al a4 _, fz_al a4 a5 _⟩, a6, a7.alloc hWs _, by simp; omega⟩ ⟨W.heap.size, by omega, (six_of (World.alloc_heap_new W _)).1, rfl⟩
  case body =>
    rintro l pre x a' W hl ⟨r, hr⟩ ⟨⟨a1, a2, a3, a4, a5⟩, a6, a7, a8⟩ ⟨Bx, hBx, ⟨b0, b1, b2, b3, b4, b5⟩, rfl⟩ hlt
    obtain ⟨z0, z1, z2, z3, z4, z5⟩ := a2
    obtain ⟨f0, f1, f2, f3, f4, f5⟩ := a3
    gi_wp2
    · rename_i hq
      refine ⟨?_, rfl, x, pre, rfl, a6, hq, ?_, ?_, ?_⟩
      · exact ((((((KeepsOthers.setCell _ _ _).trans (KeepsOthers.setCell _ _ _)).trans (KeepsOthers.setCell _ _ _)).trans (KeepsOthers.setCell _ _ _)).trans (KeepsOthers.setCell _ _ _)).trans (KeepsOthers.setCell _ _ _)).trans (KeepsOthers.setCell _ _ _) |>.from _
      · exact (six_set z0 z1 z2 z3 z4 z5).far (by simp) _
      · exact World.cell?_setCell_same _ _ _ (far6 a4 (by simp))
      · exact ((((((a7.setCell (p := ⟨w.heap.size + 1, 0, none⟩) (by simp) _).setCell (p := ⟨w.heap.size + 1, 1, none⟩) (by simp) _).setCell (p := ⟨w.heap.size + 1, 2, none⟩) (by simp) _).setCell (p := ⟨w.heap.size + 1, 3, none⟩) (by simp) _).setCell (p := ⟨w.heap.size + 1, 4, none⟩) (by simp) _).setCell (p := ⟨w.heap.size + 1, 5, none⟩) (by simp) _).setCell (p := ⟨w.heap.size + 1 + 1, 0, none⟩) (by simp; omega) _
    · rename_i hq
      refine ⟨KeepsFrom.refl _ _, Below.refl _ _, ⟨a1, ⟨z0, z1, z2, z3, z4, z5⟩, ⟨f0, f1, f2, f3, f4, f5⟩, a4, a5⟩, ?_, a7, a8⟩
      intro j hj
      rcases List.mem_append.1 hj with h | h
      · exact a6 j h
      · simp at h; subst h; exact hq
  case done =>
    rintro D ys W hD rfl ⟨⟨a1, a2, a3, a4, a5⟩, a6, a7, a8⟩ hK
    obtain ⟨z0, z1, z2, z3, z4, z5⟩ := a2
    obtain ⟨f0, f1, f2, f3, f4, f5⟩ := a3
    gi_wp2
    have hKs := ((((((KeepsOthers.setCell W ⟨w.heap.size + 1, 0, none⟩ (Value.string { data := #[] })).trans (KeepsOthers.setCell _ ⟨w.heap.size + 1, 1, none⟩ (Value.int IntKind.i64 0))).trans (KeepsOthers.setCell _ ⟨w.heap.size + 1, 2, none⟩ (Value.int IntKind.i64 0))).trans (KeepsOthers.setCell _ ⟨w.heap.size + 1, 3, none⟩ (Value.bool false))).trans (KeepsOthers.setCell _ ⟨w.heap.size + 1, 4, none⟩ (Value.bool false))).trans (KeepsOthers.setCell _ ⟨w.heap.size + 1, 5, none⟩ (Value.int IntKind.i64 0))).trans (KeepsOthers.setCell _ ⟨w.heap.size + 1 + 1, 0, none⟩ (Value.bool false))
    have hK' := hKs.same D _ hK rfl
    refine ⟨by simp, .inl ⟨_, _, rfl, run_takeDeferred hK', ?_⟩⟩
    have hsz6 := six_set (u0 := Value.string { data := #[] }) (u1 := .int .i64 0) (u2 := .int .i64 0) (u3 := .bool false) (u4 := .bool false) (u5 := .int .i64 0) z0 z1 z2 z3 z4 z5
    have hr' : ∀ r, some D = some r → ∃ o : Obj, (((((((W.setCell ⟨w.heap.size + 1, 0, none⟩ (Value.string { data := #[] })).setCell ⟨w.heap.size + 1, 1, none⟩ (.int .i64 0)).setCell ⟨w.heap.size + 1, 2, none⟩ (.int .i64 0)).setCell ⟨w.heap.size + 1, 3, none⟩ (.bool false)).setCell ⟨w.heap.size + 1, 4, none⟩ (.bool false)).setCell ⟨w.heap.size + 1, 5, none⟩ (.int .i64 0)).setCell ⟨w.heap.size + 1 + 1, 0, none⟩ (.bool false)).heap[r]? = some o ∧ o.isCells = false :=
      fun r e => by cases e; exact ⟨_, hK', rfl⟩
    have hs1 := Six.own (β := Unit) _ _ _ _ _ _ _ () _ _ (some D) (hsz6.far (p := ⟨w.heap.size + 1 + 1, 0, none⟩) (by simp) (.bool false)) (grownBy_putObj' _ D (.deferred none)) hr'
    have hs2 := cell_kept (World.cell?_setCell_same _ _ (.bool false) (far6 (B := w.heap.size + 1) (u0 := Value.string { data := #[] }) (u1 := .int .i64 0) (u2 := .int .i64 0) (u3 := .bool false) (u4 := .bool false) (u5 := .int .i64 0) a4 (by simp))) (grownBy_putObj' _ D (.deferred none)) hr'
    have hB7 := ((((((a7.setCell (p := ⟨w.heap.size + 1, 0, none⟩) (by simp) (Value.string { data := #[] })).setCell (p := ⟨w.heap.size + 1, 1, none⟩) (by simp) (.int .i64 0)).setCell (p := ⟨w.heap.size + 1, 2, none⟩) (by simp) (.int .i64 0)).setCell (p := ⟨w.heap.size + 1, 3, none⟩) (by simp) (.bool false)).setCell (p := ⟨w.heap.size + 1, 4, none⟩) (by simp) (.bool false)).setCell (p := ⟨w.heap.size + 1, 5, none⟩) (by simp) (.int .i64 0)).setCell (p := ⟨w.heap.size + 1 + 1, 0, none⟩) (by simp; omega) (.bool false)
    exact ⟨_, results75 rfl rfl hs1 hs2, hB7.trans (belowK_b (w := w) (Nat.le_refl _) _ D _ _ (by omega) hK' rfl rfl), .inr ⟨a6, rfl⟩⟩
  case stop =>
    rintro D c pre W hD hpre ⟨rfl, k, pre', q1, q2, q3, q4, q5, q6⟩ hK
    gi_wp2
    refine ⟨by simp, .inl ⟨_, _, rfl, run_takeDeferred hK, ?_⟩⟩
    have hr' : ∀ r, some D = some r → ∃ o : Obj, W.heap[r]? = some o ∧ o.isCells = false := fun r e => by cases e; exact ⟨_, hK, rfl⟩
    have hs1 := Six.own (β := Unit) _ _ _ _ _ _ _ () _ _ (some D) q4 (grownBy_putObj' _ D (.deferred none)) hr'
    have hs2 := cell_kept q5 (grownBy_putObj' _ D (.deferred none)) hr'
    exact ⟨_, results75 rfl rfl hs1 hs2, q6.trans (belowK_b (w := w) (Nat.le_refl _) _ D _ _ (by omega) hK rfl rfl), .inl ⟨k, pre, hpre, ⟨pre', q1, q2⟩, q3, by unfold nameOf6; rw [e0, e1, e2, e3, e4, e5]⟩⟩
end Go.Proofs.YtdmbkbmenahpnaaGreatDoor
