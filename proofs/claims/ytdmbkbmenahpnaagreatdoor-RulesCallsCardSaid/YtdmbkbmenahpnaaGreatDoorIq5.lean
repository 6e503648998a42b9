/- A part of the proof: Iq5. -/
import Derived.Test.YtdmbkbmenahpnaaGreatDoorIo5
import Derived.Test.YtdmbkbmenahpnaaGreatDoorSt
namespace Go.Proofs.YtdmbkbmenahpnaaGreatDoor
open Go.RowKit Go.Shelf
attribute [local go_sem] Oper.semAt_some

/-- A block of bools. -/
def Bools (W : World) (B n : Nat) : Prop := ∃ arr : Array Value, arr.size = n ∧ (∀ i, i < n → ∃ b : Bool, arr[i]? = some (.bool b)) ∧ W.heap[B]? = some (.cells arr 4 (0, 0))
theorem Bools.kept {W W' : World} {row : Option Nat} {B n : Nat} (h : Bools W B n) (hg : W.grownBy W' row) (hrow : ∀ r, row = some r → ∃ o : Obj, W.heap[r]? = some o ∧ o.isCells = false) : Bools W' B n := by
  obtain ⟨arr, h1, h2, h3⟩ := h
  refine ⟨arr, h1, h2, ?_⟩
  rw [hg.block B (Array.getElem?_eq_some_iff.1 h3).1 (fun e => by
    obtain ⟨o, ho, hc⟩ := hrow B e.symm
    rw [h3] at ho
    cases ho
    cases hc)]
  exact h3
theorem Bools.alloc {W : World} {B n : Nat} (h : Bools W B n) (o : Obj) : Bools (W.alloc o) B n := h.kept (World.grownBy_alloc W o none) (fun r e => by cases e)
theorem Bools.cell {W : World} {B n : Nat} (h : Bools W B n) {i : Nat} (hi : i < n) : (∃ b : Bool, W.cell? ⟨B, i, none⟩ = some (.bool b)) ∧ W.frozen? ⟨B, i, none⟩ = false := by
  obtain ⟨arr, h1, h2, h3⟩ := h
  obtain ⟨b, hb⟩ := h2 i hi
  exact ⟨⟨b, by simp [World.cell?, h3, hb]⟩, by simp [World.frozen?, h3]⟩
theorem Bools.set {W : World} {B n : Nat} (h : Bools W B n) (i : Nat) (b : Bool) : Bools (W.setCell ⟨B, i, none⟩ (.bool b)) B n := by
  obtain ⟨arr, h1, h2, h3⟩ := h
  refine ⟨arr.setIfInBounds i (.bool b), by simpa using h1, fun j hj => ?_, ?_⟩
  · obtain ⟨c, hc⟩ := h2 j hj
    by_cases e : i = j
    · subst e; exact ⟨b, by rw [Array.getElem?_setIfInBounds_self]; simp [h1, hj]⟩
    · exact ⟨c, by rw [Array.getElem?_setIfInBounds_ne e]; exact hc⟩
  · simp only [World.setCell, Array.getElem?_modify, if_true, h3]
    rfl
theorem Bools.drew {W : World} {B n : Nat} (h : Bools W B n) : Bools W.drew B n := h

def Seven (W : World) (B : Nat) (v0 v1 v2 v3 v4 v5 v6 : Value) : Prop :=
  W.cell? ⟨B, 0, none⟩ = some v0 ∧ W.cell? ⟨B, 1, none⟩ = some v1 ∧ W.cell? ⟨B, 2, none⟩ = some v2 ∧ W.cell? ⟨B, 3, none⟩ = some v3 ∧ W.cell? ⟨B, 4, none⟩ = some v4 ∧ W.cell? ⟨B, 5, none⟩ = some v5 ∧ W.cell? ⟨B, 6, none⟩ = some v6
theorem Seven.own {β : Type} (B : Nat) (v0 v1 v2 v3 v4 v5 v6 : Value) : Own (fun (_ : β) W => Seven W B v0 v1 v2 v3 v4 v5 v6) := fun s X Y row hs hg hr => by
  obtain ⟨h0, h1, h2, h3, h4, h5, h6⟩ := hs
  exact ⟨cell_kept h0 hg hr, cell_kept h1 hg hr, cell_kept h2 hg hr, cell_kept h3 hg hr, cell_kept h4 hg hr, cell_kept h5 hg hr, cell_kept h6 hg hr⟩
theorem seven_of {W : World} {B t : Nat} {v0 v1 v2 v3 v4 v5 v6 : Value} (h : W.heap[B]? = some (.cells #[v0, v1, v2, v3, v4, v5, v6] t (0, 0))) : Seven W B v0 v1 v2 v3 v4 v5 v6 := by
  refine ⟨?_, ?_, ?_, ?_, ?_, ?_, ?_⟩ <;> simp [World.cell?, h]

theorem two_of {W : World} {B t : Nat} {v0 v1 : Value} (h : W.heap[B]? = some (.cells #[v0, v1] t (0, 0))) : W.cell? ⟨B, 0, none⟩ = some v0 ∧ W.cell? ⟨B, 1, none⟩ = some v1 := by
  refine ⟨?_, ?_⟩ <;> simp [World.cell?, h]

theorem info4 : (Tryz.prog.info? 4).map (fun i => (i.zero, i.size, i.bytes)) = some (some (.bool false), 1, 1) := by kernel_rfl

theorem setRnd {w W W0 wr : World} {Bx len : Nat} {k0 : Int} {v : Nat} {b : Bool} (hsz : W0.heap.size = w.heap.size + 3) (hW : W0.heap.size ≤ W.heap.size) (hBx : w.heap.size + 2 < Bx)
    (h : ((∃ u, wr.cell? ⟨W.heap.size, 0, none⟩ = some (.int .i64 u)) ∧ (∃ u, wr.cell? ⟨W.heap.size, 1, none⟩ = some (.int .i64 u)) ∧ wr.cell? ⟨Bx, 0, none⟩ = some (.int .i64 k0)) ∧
        wr.cell? ⟨w.heap.size + 1, 0, none⟩ = some (.slice (some ⟨w.heap.size, 0, none⟩) len len) ∧ Bools wr w.heap.size len ∧ Below w.heap.size W wr ∧ KeepsFrom W0.heap.size W wr ∧ But W0.heap.size w.heap.size W wr) :
    let wn := (wr.setCell ⟨w.heap.size, v, none⟩ (.bool b)).drew
    ((∃ u, wn.cell? ⟨W.heap.size, 0, none⟩ = some (.int .i64 u)) ∧ (∃ u, wn.cell? ⟨W.heap.size, 1, none⟩ = some (.int .i64 u)) ∧ wn.cell? ⟨Bx, 0, none⟩ = some (.int .i64 k0)) ∧
        wn.cell? ⟨w.heap.size + 1, 0, none⟩ = some (.slice (some ⟨w.heap.size, 0, none⟩) len len) ∧ Bools wn w.heap.size len ∧ Below w.heap.size W wn ∧ KeepsFrom W0.heap.size W wn ∧ But W0.heap.size w.heap.size W wn := by
  obtain ⟨⟨⟨u0, h0⟩, ⟨u1, h1⟩, h2⟩, h3, h4, h5, h6, h7⟩ := h
  have far : ∀ (q : Addr) (x : Value), q.block ≠ w.heap.size → wr.cell? q = some x → (wr.setCell ⟨w.heap.size, v, none⟩ (.bool b)).drew.cell? q = some x := fun q x hq hx =>
    (World.cell?_setCell_other wr _ q _ (fun e => hq (by rw [← e]))).trans hx
  have hne : W.heap.size ≠ w.heap.size := by omega
  have hnx : Bx ≠ w.heap.size := by omega
  refine ⟨⟨⟨u0, far _ _ hne h0⟩, ⟨u1, far _ _ hne h1⟩, far _ _ hnx h2⟩, far _ _ (by simp) h3, (h4.set v b).drew, (h5.setCell (p := ⟨w.heap.size, v, none⟩) (Nat.le_refl _) _).drew,
    h6.trans (((KeepsOthers.setCell _ _ _).trans (KeepsOthers.drew _)).from _), h7.trans ⟨?_, fun k hk hkx => ?_⟩⟩
  · show wr.heap.size ≤ (wr.heap.modify _ _).size
    rw [Array.size_modify]
    exact Nat.le_refl _
  · exact Below.heap_setCell wr ⟨w.heap.size, v, none⟩ (.bool b) k hkx

set_option maxRecDepth 100000 in
set_option maxHeartbeats 4000000 in
theorem inOld_in (F : Fence) (hFt : ∀ f, F.fn f) (n : Nat) (h151 : F.fn 151) (h161 : F.fn 161) (h170 : F.fn 170) (hro : F.round = none) (hn : 4 ≤ n) (a : Option Addr) (len cap : Nat) (hlen : len ≤ 281474976710656) (cs : Nat → Nat → Value)
    (kd nu ty : Nat → Int) (nm : Nat → ByteArray) (ea eb ap : Nat → Int) (w : World)
    (e0 : ∀ k, cs k 0 = .int .i64 (kd k)) (e1 : ∀ k, cs k 1 = .int .i64 (nu k)) (e2 : ∀ k, cs k 2 = .int .i64 (ty k)) (e3 : ∀ k, cs k 3 = .string (nm k)) (e4 : ∀ k, cs k 4 = .int .i64 (ea k)) (e5 : ∀ k, cs k 5 = .int .i64 (eb k)) (e6 : ∀ k, cs k 6 = .int .i64 (ap k)) (hca : a = none → cap = 0)
    (hI : Nodes w.heap.size w a len cs) :
    CallsIn F n Tryz.prog 151 #[.slice a len cap] w fun e W' => Below w.heap.size w W' ∧ Bools W' w.heap.size len ∧ e = .returned (.slice (some ⟨w.heap.size, 0, none⟩) len len) := by
  have h1 : 1 ≤ n := by omega
  obtain ⟨i0, hi, hz0, hz1, hz2⟩ := info_parts info4
  have hmk : ∀ u : World, (Instr.makeSlice 208 (.int .i64 (len : Int)) (.int .i64 (len : Int))).run Tryz.prog u = .ok (.slice (some ⟨u.heap.size, 0, none⟩) len len) (u.alloc (.cells (madeCells #[.bool false] len) 4)) := fun u => by
    have := run_make (P := Tryz.prog) u 208 4 i0 (.bool false) Tryz.underlying208 hi hz0 .i64 .i64 len len (by omega) (Int.le_refl _) (by rw [hz2]; omega) (by omega)
    simpa [hz1, Value.cells] using this
  refine callsIn_of_wp_marks Tryz.func151 rfl h151 ?_ hro
  simp only [Tryz.ntmps151, List.size_toArray, List.length_cons, List.length_nil, Nat.reduceAdd, Nat.reduceSub, Array.replicate_succ, Array.replicate_zero, List.push_toArray, List.append_toArray, List.nil_append, List.cons_append]
  gi_wp2_with (gi_at_call 161; refine (backward161 F (n - 1) h161 hro _ _ _ _).mono ?_; rintro e w' ⟨rfl, rfl⟩)
  have cO : Bools (((w.alloc (.cells (madeCells #[.bool false] len) 4)).alloc (.cells #[.slice (some ⟨w.heap.size, 0, none⟩) len len] 208)).alloc (.cells #[.slice a len cap] 55)) w.heap.size len := by
    refine Bools.alloc (Bools.alloc ⟨madeCells #[.bool false] len, size_madeCells _ _, fun i hi => ⟨false, ?_⟩, World.alloc_heap_new w _⟩ _) _
    simp [madeCells, hi, Nat.mod_one]
  have c3 : (((w.alloc (.cells (madeCells #[.bool false] len) 4)).alloc (.cells #[.slice (some ⟨w.heap.size, 0, none⟩) len len] 208)).alloc (.cells #[.slice a len cap] 55)).cell? ⟨w.heap.size + 1, 0, none⟩ = some (.slice (some ⟨w.heap.size, 0, none⟩) len len) := by
    have := one_of (World.alloc_heap_new (w.alloc (.cells (madeCells #[.bool false] len) 4)) (.cells #[.slice (some ⟨w.heap.size, 0, none⟩) len len] 208))
    simp only [World.size_alloc] at this
    exact cell_al this.1 _
  have cS : (((w.alloc (.cells (madeCells #[.bool false] len) 4)).alloc (.cells #[.slice (some ⟨w.heap.size, 0, none⟩) len len] 208)).alloc (.cells #[.slice a len cap] 55)).cell? ⟨w.heap.size + 1 + 1, 0, none⟩ = some (.slice a len cap) := by
    have := one_of (World.alloc_heap_new ((w.alloc (.cells (madeCells #[.bool false] len) 4)).alloc (.cells #[.slice (some ⟨w.heap.size, 0, none⟩) len len] 208)) (.cells #[.slice a len cap] 55))
    simp only [World.size_alloc] at this
    exact this.1
  have hB0 : Below w.heap.size w (((w.alloc (.cells (madeCells #[.bool false] len) 4)).alloc (.cells #[.slice (some ⟨w.heap.size, 0, none⟩) len len] 208)).alloc (.cells #[.slice a len cap] 55)) := (((Below.refl _ w).alloc (Nat.le_refl _) _).alloc (by simp) _).alloc (by simp; omega) _
  have hsz : (((w.alloc (.cells (madeCells #[.bool false] len) 4)).alloc (.cells #[.slice (some ⟨w.heap.size, 0, none⟩) len len] 208)).alloc (.cells #[.slice a len cap] 55)).heap.size = w.heap.size + 3 := by simp
  obtain ⟨W0, hW0⟩ : ∃ W0, (((w.alloc (.cells (madeCells #[.bool false] len) 4)).alloc (.cells #[.slice (some ⟨w.heap.size, 0, none⟩) len len] 208)).alloc (.cells #[.slice a len cap] 55)) = W0 := ⟨_, rfl⟩
  rw [hW0] at c3 cO cS hB0 hsz ⊢
  clear hW0
  refine wpIn_rangeFunc_ownH hro h1 (gf := 170) (lb := #[.pointer (some ⟨w.heap.size + 1 + 1, 0, none⟩)]) rfl h170 (enters_of Tryz.func170 (by kernel_rfl) rfl)
    (nodes_stops F (n - 1) h170 hro (by omega) (w.heap.size + 1 + 1) W0.heap.size w.heap.size a len cap (by omega) cs W0 (by omega) (by omega) (by omega) (Nat.le_refl _) hca cS (hI.below hB0)) But.trans (butK_b (Nat.le_refl _)) (Below.refl _ _) (fun _ => rfl)
    (fun pre W => W.cell? ⟨w.heap.size + 1, 0, none⟩ = some (.slice (some ⟨w.heap.size, 0, none⟩) len len) ∧ Bools W w.heap.size len ∧ Below w.heap.size w W ∧ W0.heap.size ≤ W.heap.size)
    (fun _ _ _ => False)
    (fun p X Y row hs hg hr => by
      obtain ⟨a1, a2, a3, a4⟩ := hs
      have hr' : ∀ r, row = some r → ∃ o : Obj, X.heap[r]? = some o ∧ o.isCells = false := fun r e => (hr r e).2
      exact ⟨cell_kept a1 hg hr', a2.kept hg hr', ownFrom_below (β := Unit) (Nat.le_refl _) (by omega) () X Y row a3 hg hr, Nat.le_trans a4 hg.size⟩)
    (fun _ _ _ _ _ hs _ _ => hs)
    ⟨c3, cO, hB0, Nat.le_refl _⟩
    (fun x a' W => ∃ Bx, w.heap.size + 2 < Bx ∧ Seven W Bx (.int .i64 (kd (len - 1 - x))) (.int .i64 (nu (len - 1 - x))) (.int .i64 (ty (len - 1 - x))) (.string (nm (len - 1 - x))) (.int .i64 (ea (len - 1 - x))) (.int .i64 (eb (len - 1 - x))) (.int .i64 (ap (len - 1 - x))) ∧ a' = { tmps := #[.slice a len cap, undef, .slice none 0 0, .pointer (some ⟨w.heap.size + 1, 0, none⟩), .int .i64 ((len - 1 - x : Nat) : Int), .pointer (some ⟨Bx, 0, none⟩), undef, undef,
      .slice a len cap, .int .i64 len, .slice (some ⟨w.heap.size, 0, none⟩) len len, .slice a len cap, .func (.func 170) #[] #[.pointer (some ⟨w.heap.size + 1 + 1, 0, none⟩)], .int .i64 ((len - 1 - x : Nat) : Int), .agg #[.int .i64 (kd (len - 1 - x)), .int .i64 (nu (len - 1 - x)), .int .i64 (ty (len - 1 - x)), .string (nm (len - 1 - x)), .int .i64 (ea (len - 1 - x)), .int .i64 (eb (len - 1 - x)), .int .i64 (ap (len - 1 - x))], undef, undef, undef, undef, undef, undef, undef, undef, undef, undef, undef, undef, undef, undef, undef, undef, undef, undef, undef, undef, undef, undef, undef, undef, undef, undef, undef, undef, undef, undef, undef], defers := [] })
    (fun x a' _ X Y row hs hg hr => by
      obtain ⟨Bx, q1, q2, q3⟩ := hs
      exact ⟨Bx, q1, Seven.own (β := Unit) _ _ _ _ _ _ _ _ () X Y row q2 hg (fun r e => (hr r e).2), q3⟩)
    ?assign ?body ?done ?stop
  case assign =>
    rintro l pre x W K ⟨a1, a2, a3, a4⟩ hK
    unfold node7
    simp only [e0, e1, e2, e3, e4, e5, e6]
    gi_wp2
    have hWs := a3.size
    exact hK _ _ ((KeepsOthers.alloc _ _).from _) (.of_below ((Below.refl _ W).alloc a4 _)) ⟨cell_al a1 _, a2.alloc _, a3.alloc hWs _, by simp; omega⟩ ⟨W.heap.size, by omega, seven_of (World.alloc_heap_new W _), rfl⟩
  case body =>
    rintro l pre x a' W hl ⟨r, hr⟩ ⟨a1, a2, a3, a4⟩ ⟨Bx, hBx, ⟨b0, b1, b2, b3, b4, b5, b6⟩, rfl⟩ hlt
    have hsz0 := hsz
    have hsz := a3.size
    obtain ⟨m, hm⟩ : ∃ m, m = len - 1 - x := ⟨_, rfl⟩
    rw [← hm] at b0 b1 b2 b3 b4 b5 b6 ⊢
    have hml : m < len := by omega
    clear hm
    gi_wp2
    gi_loopw [21] (fun i wr => ∃ q : Nat, q ≤ 2 ∧ i = .int .i64 q ∧ ((∃ u, wr.cell? ⟨W.heap.size, 0, none⟩ = some (.int .i64 u)) ∧ (∃ u, wr.cell? ⟨W.heap.size, 1, none⟩ = some (.int .i64 u)) ∧ wr.cell? ⟨Bx, 0, none⟩ = some (.int .i64 (kd m))) ∧
        wr.cell? ⟨w.heap.size + 1, 0, none⟩ = some (.slice (some ⟨w.heap.size, 0, none⟩) len len) ∧ Bools wr w.heap.size len ∧ Below w.heap.size W wr ∧ KeepsFrom W0.heap.size W wr ∧ But W0.heap.size w.heap.size W wr)
      (fun i _ => (2 - intOf i).toNat)
    case atStart =>
      have hnew := World.alloc_heap_new W (.cells #[.int .i64 (ea m), .int .i64 (eb m)] 3)
      exact ⟨0, by omega, rfl, ⟨⟨ea m, (two_of hnew).1⟩, ⟨eb m, (two_of hnew).2⟩, cell_al b0 _⟩, cell_al a1 _, a2.alloc _, (Below.refl _ W).alloc hsz _, (KeepsOthers.alloc _ _).from _, .of_below ((Below.refl _ W).alloc a4 _)⟩
    case round =>
      obtain ⟨q, hq, rfl, ⟨⟨u0, hu0⟩, ⟨u1, hu1⟩, hkd⟩, r1, r2, r3, r4, r5⟩ := hrel
      by_cases hq2 : q < 2
      · obtain ⟨u, hu⟩ : ∃ u, wr.cell? ⟨W.heap.size, q, none⟩ = some (.int .i64 u) := by
          rcases Nat.lt_or_ge q 1 with h | h
          · obtain rfl : q = 0 := by omega
            exact ⟨u0, hu0⟩
          · obtain rfl : q = 1 := by omega
            exact ⟨u1, hu1⟩
        obtain ⟨⟨bm, hbm⟩, hfm⟩ := r2.cell hml
        by_cases hu2 : 0 ≤ u ∧ u < (m : Int)
        · obtain ⟨v, rfl⟩ : ∃ v : Nat, u = v := ⟨u.toNat, by omega⟩
          have hvl : v < len := by omega
          have hvm : (v : Int) < m := hu2.2
          obtain ⟨⟨bv, hbv⟩, hfv⟩ := r2.cell hvl
          clear hu2
          have d1 : wr.drew.cell? ⟨w.heap.size + 1, 0, none⟩ = some (.slice (some ⟨w.heap.size, 0, none⟩) len len) := r1
          have d2 : wr.drew.cell? ⟨w.heap.size, m, none⟩ = some (.bool bm) := hbm
          have d3 : wr.drew.cell? ⟨Bx, 0, none⟩ = some (.int .i64 (kd m)) := hkd
          have d4 : wr.drew.cell? ⟨w.heap.size, v, none⟩ = some (.bool bv) := hbv
          have d5 : wr.drew.frozen? ⟨w.heap.size, v, none⟩ = false := hfv
          cases bm
          · gi_wp2
            refine Ev.wpIn_region_puts (F := F.inRound l) (last := 12) (fun f => hFt f) (by kernel_rfl) (by kernel_rfl) [(32, .slice (some ⟨w.heap.size, 0, none⟩) len len), (33, .int .i64 v), (34, .slice (some ⟨w.heap.size, 0, none⟩) len len), (35, .int .i64 m), (36, .pointer (some ⟨w.heap.size, m, none⟩)),
              (37, .bool false), (38, .bool false), (39, .pointer (some ⟨Bx, 0, none⟩)), (40, .int .i64 (kd m)), (41, .bool (kd m == 4)), (42, .bool (kd m == 4)), (43, .pointer (some ⟨w.heap.size, v, none⟩))] ?_ ?_ ?_
            · intro p hp
              simp only [List.mem_cons, List.not_mem_nil, or_false] at hp
              rcases hp with rfl | rfl | rfl | rfl | rfl | rfl | rfl | rfl | rfl | rfl | rfl | rfl
              · exact ⟨0, _, by decide, rfl, rfl⟩
              · exact ⟨1, _, by decide, rfl, rfl⟩
              · exact ⟨2, _, by decide, rfl, rfl⟩
              · exact ⟨3, _, by decide, rfl, rfl⟩
              · exact ⟨4, _, by decide, rfl, rfl⟩
              · exact ⟨5, _, by decide, rfl, rfl⟩
              · exact ⟨6, _, by decide, rfl, rfl⟩
              · exact ⟨7, _, by decide, rfl, rfl⟩
              · exact ⟨8, _, by decide, rfl, rfl⟩
              · exact ⟨9, _, by decide, rfl, rfl⟩
              · exact ⟨10, _, by decide, rfl, rfl⟩
              · exact ⟨11, _, by decide, rfl, rfl⟩
            · intro i o hi ho
              obtain h | h | h | h | h | h | h | h | h | h | h | h : i = 0 ∨ i = 1 ∨ i = 2 ∨ i = 3 ∨ i = 4 ∨ i = 5 ∨ i = 6 ∨ i = 7 ∨ i = 8 ∨ i = 9 ∨ i = 10 ∨ i = 11 := by omega
              all_goals subst h
              all_goals (simp only [List.getElem?_toArray, List.getElem?_cons_zero, List.getElem?_cons_succ, Option.some.injEq] at ho; subst ho)
              all_goals simp [Ev.StillAtFin, Ev.puts, Act.put, Region.wanted, yielded, go_sem, d1, d2, d3]
              all_goals (intro h; omega)
            · intro o ho
              simp only [List.getElem?_toArray, List.getElem?_cons_zero, List.getElem?_cons_succ, Option.some.injEq] at ho
              subst ho
              simp [Ev.puts, Act.put, Region.wanted, Oper.wpIn, go_sem, Oper.semAt, d4, d5]
              gi_wp2
              exact ⟨⟨q + 1, by omega, by simp, setRnd hsz0 a4 hBx ⟨⟨⟨u0, hu0⟩, ⟨u1, hu1⟩, hkd⟩, r1, r2, r3, r4, r5⟩⟩, by simp [intOf]; omega⟩
          · gi_wp2
            refine Ev.wpIn_region_puts (F := F.inRound l) (last := 12) (fun f => hFt f) (by kernel_rfl) (by kernel_rfl) [(32, .slice (some ⟨w.heap.size, 0, none⟩) len len), (33, .int .i64 v), (34, .slice (some ⟨w.heap.size, 0, none⟩) len len), (35, .int .i64 m), (36, .pointer (some ⟨w.heap.size, m, none⟩)),
              (37, .bool true), (38, .bool true), (39, undef), (40, undef), (41, undef), (42, .bool true), (43, .pointer (some ⟨w.heap.size, v, none⟩))] ?_ ?_ ?_
            · intro p hp
              simp only [List.mem_cons, List.not_mem_nil, or_false] at hp
              rcases hp with rfl | rfl | rfl | rfl | rfl | rfl | rfl | rfl | rfl | rfl | rfl | rfl
              · exact ⟨0, _, by decide, rfl, rfl⟩
              · exact ⟨1, _, by decide, rfl, rfl⟩
              · exact ⟨2, _, by decide, rfl, rfl⟩
              · exact ⟨3, _, by decide, rfl, rfl⟩
              · exact ⟨4, _, by decide, rfl, rfl⟩
              · exact ⟨5, _, by decide, rfl, rfl⟩
              · exact ⟨6, _, by decide, rfl, rfl⟩
              · exact ⟨7, _, by decide, rfl, rfl⟩
              · exact ⟨8, _, by decide, rfl, rfl⟩
              · exact ⟨9, _, by decide, rfl, rfl⟩
              · exact ⟨10, _, by decide, rfl, rfl⟩
              · exact ⟨11, _, by decide, rfl, rfl⟩
            · intro i o hi ho
              obtain h | h | h | h | h | h | h | h | h | h | h | h : i = 0 ∨ i = 1 ∨ i = 2 ∨ i = 3 ∨ i = 4 ∨ i = 5 ∨ i = 6 ∨ i = 7 ∨ i = 8 ∨ i = 9 ∨ i = 10 ∨ i = 11 := by omega
              all_goals subst h
              all_goals (simp only [List.getElem?_toArray, List.getElem?_cons_zero, List.getElem?_cons_succ, Option.some.injEq] at ho; subst ho)
              all_goals simp [Ev.StillAtFin, Ev.puts, Act.put, Region.wanted, yielded, go_sem, d1, d2]
              all_goals (intro h; omega)
            · intro o ho
              simp only [List.getElem?_toArray, List.getElem?_cons_zero, List.getElem?_cons_succ, Option.some.injEq] at ho
              subst ho
              simp [Ev.puts, Act.put, Region.wanted, Oper.wpIn, go_sem, Oper.semAt, d4, d5]
              gi_wp2
              exact ⟨⟨q + 1, by omega, by simp, setRnd hsz0 a4 hBx ⟨⟨⟨u0, hu0⟩, ⟨u1, hu1⟩, hkd⟩, r1, r2, r3, r4, r5⟩⟩, by simp [intOf]; omega⟩
        · gi_wp2
          all_goals exact ⟨⟨q + 1, by omega, by simp, ⟨⟨u0, hu0⟩, ⟨u1, hu1⟩, hkd⟩, r1, r2, r3, r4, r5⟩, by simp [intOf]; omega⟩
      · obtain rfl : q = 2 := by omega
        gi_wp2
        exact ⟨r4, r5, r1, r2, a3.trans r3, Nat.le_trans a4 r5.size⟩
  case done =>
    rintro D ys W hD rfl ⟨a1, a2, a3, a4⟩ hK
    gi_wp2
    have hr' : ∀ r, some D = some r → ∃ o : Obj, W.heap[r]? = some o ∧ o.isCells = false := fun r e => by cases e; exact ⟨_, hK, rfl⟩
    refine ⟨by simp, .inl ⟨_, _, rfl, run_takeDeferred hK, ?_⟩⟩
    exact ⟨_, results_tmp rfl _ _ _, a3.trans (belowK_b (w := w) (Nat.le_refl _) _ D _ _ (by omega) hK rfl rfl), a2.kept (grownBy_putObj' _ D (.deferred none)) hr', rfl⟩
  case stop =>
    rintro D c pre W _ _ h _
    exact h.elim
end Go.Proofs.YtdmbkbmenahpnaaGreatDoor
