/- A part of the proof: Io5. -/
import Derived.Test.YtdmbkbmenahpnaaGreatDoorBk5
namespace Go.Proofs.YtdmbkbmenahpnaaGreatDoor
open Go.RowKit Go.Shelf
attribute [local go_sem] Oper.semAt_some

/-- Below n₀ all is as it was but one block. -/
structure But (n₀ ex : Nat) (A B : World) : Prop where
  size : A.heap.size ≤ B.heap.size
  same : ∀ k, k < n₀ → k ≠ ex → B.heap[k]? = A.heap[k]?
theorem But.refl (n₀ ex : Nat) (A : World) : But n₀ ex A A := ⟨Nat.le_refl _, fun _ _ _ => rfl⟩
theorem But.trans {n₀ ex : Nat} {A B C : World} (h : But n₀ ex A B) (k : But n₀ ex B C) : But n₀ ex A C := ⟨Nat.le_trans h.size k.size, fun i h1 h2 => (k.same i h1 h2).trans (h.same i h1 h2)⟩
theorem But.cell {n₀ ex : Nat} {A B : World} (h : But n₀ ex A B) {p : Addr} (h1 : p.block < n₀) (h2 : p.block ≠ ex) : B.cell? p = A.cell? p := by
  simp only [World.cell?, h.same _ h1 h2]
theorem But.of_below {n₀ ex : Nat} {A B : World} (h : Below n₀ A B) : But n₀ ex A B := ⟨h.size, fun k h1 _ => h.block k h1⟩
theorem butK_b {n₀ ex : Nat} {w : World} (hn : n₀ ≤ w.heap.size) (W : World) (l : Nat) (o o' : Obj) (hl : w.heap.size ≤ l) (h : W.heap[l]? = some o) (h1 : o.isCells = false) (h2 : o.isWalk = false) : But n₀ ex W (W.putObj l o') :=
  .of_below (belowK_b hn W l o o' hl h h1 h2)

def node7 (cs : Nat → Nat → Value) (k : Nat) : Value := .agg #[cs k 0, cs k 1, cs k 2, cs k 3, cs k 4, cs k 5, cs k 6]

set_option maxRecDepth 100000 in
set_option maxHeartbeats 2000000 in
theorem back170 (F : Fence) (n : Nat) (hf : F.fn 170) (hro : F.round = none) (hn : 1 ≤ n) (l Bs n₀ ex b off len cap : Nat) (cs : Nat → Nat → Value) (hlen : len ≤ 9223372036854775807) (hb : b < n₀) (hbx : b ≠ ex) (hBx : Bs ≠ ex) (J Jx : List Nat → World → Prop)
    (hY : ∀ (pre : List Nat) (x : Nat) W, J pre W → pre.length < len → YieldAt F (n - 1) Tryz.prog l #[.int .i64 ((len - 1 - x : Nat) : Int), node7 cs (len - 1 - x)] W fun e W' =>
      (e = .returned (.bool true) ∧ J (pre ++ [x]) W' ∧ But n₀ ex W W') ∨ (e = .returned (.bool false) ∧ Jx (pre ++ [x]) W'))
    (W : World) (hBs : Bs < n₀) (hBsc : W.cell? ⟨Bs, 0, none⟩ = some (.slice (some ⟨b, off, none⟩) len cap)) (hc : ∀ k j, k < len → j < 7 → W.cell? ⟨b, off + k * 7 + j, none⟩ = some (cs k j)) (h0 : J [] W) :
    CallsIn F n Tryz.prog 170 #[.func (.yield l) #[] #[], .pointer (some ⟨Bs, 0, none⟩)] W fun e W' => (∃ v, e = .returned v) ∧
      ((∃ ys, ys = List.range len ∧ J ys W') ∨ (∃ pre, (∃ k, k < len ∧ pre = List.range (k + 1)) ∧ Jx pre W')) := by
  refine callsIn_of_wp Tryz.func170 rfl hf ?_ hro
  simp only [Tryz.ntmps170, List.size_toArray, List.length_cons, List.length_nil, Nat.reduceAdd, Nat.reduceSub, Array.replicate_succ, Array.replicate_zero, List.push_toArray, List.append_toArray, List.nil_append, List.cons_append]
  gi_wp2
  gi_loopw [3] (fun i wr => ∃ k : Nat, k ≤ len ∧ i = .int .i64 ((len : Int) - 1 - k) ∧ J (List.range k) wr ∧ But n₀ ex W wr)
    (fun i _ => (intOf i + 1).toNat)
  case atStart => exact ⟨0, by omega, by simp, by simpa using h0, But.refl _ _ _⟩
  case round =>
    obtain ⟨k, hk, rfl, hJs, hnx⟩ := hrel
    have hBsc' := (hnx.cell (p := ⟨Bs, 0, none⟩) hBs hBx).trans hBsc
    by_cases hlt : k < len
    · obtain ⟨m, hm⟩ : ∃ m, m = len - 1 - k := ⟨_, rfl⟩
      have hml : m < len := by omega
      have hmi : (len : Int) - 1 - k = (m : Int) := by omega
      rw [hmi]
      have hc0 : wr.cell? ⟨b, off + m * 7, none⟩ = some (cs m 0) := (hnx.cell (p := ⟨b, off + m * 7 + 0, none⟩) hb hbx).trans (hc m 0 hml (by omega))
      have hc1 := (hnx.cell (p := ⟨b, off + m * 7 + 1, none⟩) hb hbx).trans (hc m 1 hml (by omega))
      have hc2 := (hnx.cell (p := ⟨b, off + m * 7 + 2, none⟩) hb hbx).trans (hc m 2 hml (by omega))
      have hc3 := (hnx.cell (p := ⟨b, off + m * 7 + 3, none⟩) hb hbx).trans (hc m 3 hml (by omega))
      have hc4 := (hnx.cell (p := ⟨b, off + m * 7 + 4, none⟩) hb hbx).trans (hc m 4 hml (by omega))
      have hc5 := (hnx.cell (p := ⟨b, off + m * 7 + 5, none⟩) hb hbx).trans (hc m 5 hml (by omega))
      have hc6 := (hnx.cell (p := ⟨b, off + m * 7 + 6, none⟩) hb hbx).trans (hc m 6 hml (by omega))
      obtain ⟨fn, tmps, assign, body, hy, hR⟩ := hY _ k wr hJs (by rw [List.length_range]; exact hlt)
      rw [← hm] at hy
      unfold node7 at hy
      have hdt : List.range k ++ [k] = List.range (k + 1) := by rw [List.range_succ]
      rw [hdt] at hR
      clear hmi
      have hmi : (len : Int) - 1 - (k + 1 : Nat) = (m : Int) - 1 := by omega
      clear hm
      gi_wp2
      refine hR.mono ?_
      rintro e W3 (⟨rfl, hJ3, hk3⟩ | ⟨rfl, hJx3⟩)
      · gi_wp2
        go_roundw
        case rel => exact ⟨k + 1, by omega, by rw [hmi], hJ3, hnx.trans hk3⟩
        case measure => simp [intOf]
      · gi_wp2
        refine bodyPost_ret (results_none rfl _ _ _) rfl ?_
        exact ⟨⟨_, rfl⟩, .inr ⟨_, ⟨k, hlt, rfl⟩, hJx3⟩⟩
    · obtain rfl : k = len := by omega
      gi_wp2
      go_end0
      exact ⟨⟨_, rfl⟩, .inl ⟨_, rfl, hJs⟩⟩

set_option maxRecDepth 100000 in
set_option maxHeartbeats 1000000 in
theorem back170_nil (F : Fence) (n : Nat) (hf : F.fn 170) (hro : F.round = none) (l Bs : Nat) (J : List Nat → World → Prop) (W : World) (hBsc : W.cell? ⟨Bs, 0, none⟩ = some (.slice none 0 0)) (h0 : J [] W) :
    CallsIn F n Tryz.prog 170 #[.func (.yield l) #[] #[], .pointer (some ⟨Bs, 0, none⟩)] W fun e W' => (∃ v, e = .returned v) ∧ J [] W' := by
  refine callsIn_of_wp Tryz.func170 rfl hf ?_ hro
  simp only [Tryz.ntmps170, List.size_toArray, List.length_cons, List.length_nil, Nat.reduceAdd, Nat.reduceSub, Array.replicate_succ, Array.replicate_zero, List.push_toArray, List.append_toArray, List.nil_append, List.cons_append]
  gi_wp2
  gi_loopw [3] (fun i wr => i = .int .i64 (-1) ∧ J [] wr) (fun _ _ => 0)
  case atStart => exact ⟨rfl, h0⟩
  case round =>
    obtain ⟨rfl, hJs⟩ := hrel
    gi_wp2
    go_end0
    exact ⟨⟨_, rfl⟩, hJs⟩

set_option maxHeartbeats 1000000 in
theorem backward161 (F : Fence) (n : Nat) (hf : F.fn 161) (hro : F.round = none) (a : Option Addr) (len cap : Nat) (w : World) :
    CallsIn F n Tryz.prog 161 #[.slice a len cap] w fun e w' => e = .returned (.func (.func 170) #[] #[.pointer (some ⟨w.heap.size, 0, none⟩)]) ∧ w' = w.alloc (.cells #[.slice a len cap] 55) := by
  refine callsIn_of_wp Tryz.func161 rfl hf ?_ hro
  simp only [Tryz.ntmps161, List.size_toArray, List.length_cons, List.length_nil, Nat.reduceAdd, Nat.reduceSub, Array.replicate_succ, Array.replicate_zero, List.push_toArray, List.append_toArray, List.nil_append, List.cons_append]
  gi_wp2
  go_ret
  exact ⟨rfl, rfl⟩

/-- The elements of a slice of nodes: none, or in a block below n₀. -/
def Nodes (n₀ : Nat) (W : World) (a : Option Addr) (len : Nat) (cs : Nat → Nat → Value) : Prop :=
  (a = none ∧ len = 0) ∨ ∃ b off, a = some ⟨b, off, none⟩ ∧ b < n₀ ∧ ∀ k j, k < len → j < 7 → W.cell? ⟨b, off + k * 7 + j, none⟩ = some (cs k j)
theorem Nodes.below {n₀ : Nat} {A B : World} (h : Below n₀ A B) {a : Option Addr} {len : Nat} {cs : Nat → Nat → Value} : Nodes n₀ A a len cs → Nodes n₀ B a len cs
  | .inl e => .inl e
  | .inr ⟨b, off, e, hb, hc⟩ => .inr ⟨b, off, e, hb, fun k j hk hj => (h.cell (p := ⟨b, off + k * 7 + j, none⟩) hb).trans (hc k j hk hj)⟩

theorem nodes_stops (F : Fence) (n : Nat) (hf : F.fn 170) (hro : F.round = none) (hn : 1 ≤ n) (Bs n₀ ex : Nat) (a : Option Addr) (len cap : Nat) (hlen : len ≤ 9223372036854775807) (cs : Nat → Nat → Value) (w : World) (hBs : Bs < n₀) (hBx : Bs ≠ ex) (hex : ex < n₀) (hn₀ : n₀ ≤ w.heap.size)
    (hca : a = none → cap = 0)
    (hc : w.cell? ⟨Bs, 0, none⟩ = some (.slice a len cap)) (hI : Nodes ex w a len cs) :
    SeqStopsK F n Tryz.prog 170 #[.pointer (some ⟨Bs, 0, none⟩)] (fun x : Nat => #[Value.int .i64 ((len - 1 - x : Nat) : Int), node7 cs (len - 1 - x)]) (But n₀ ex) (fun ys => ys = List.range len) (fun pre => ∃ k, k < len ∧ pre = List.range (k + 1)) len w := fun l J Jx W hW hJ _ hY h0 => by
  have hc' := (hW.cell (p := ⟨Bs, 0, none⟩) (Nat.lt_of_lt_of_le hBs hn₀)).trans hc
  rcases hI.below (hW.mono (Nat.le_trans (Nat.le_of_lt hex) hn₀)) with ⟨rfl, rfl⟩ | ⟨b, off, rfl, hb, hcs⟩
  · rw [hca rfl] at hc'
    exact (back170_nil F n hf hro l Bs J W hc' h0).mono fun e W' ⟨he, hj⟩ => ⟨he, .inl ⟨[], rfl, hj⟩⟩
  · exact back170 F n hf hro hn l Bs n₀ ex b off len cap cs hlen (Nat.lt_trans hb hex) (Nat.ne_of_lt hb) hBx J Jx hY W hBs hc' hcs h0
end Go.Proofs.YtdmbkbmenahpnaaGreatDoor
