/- Operations with memory. -/
import Derived.Test.YtdmbkbmenahpnaaGreatDoorVf
import Derived.IntWalk
/- A row of cells grows: in its place or in a new one. -/
set_option autoImplicit false
set_option linter.unusedSimpArgs false
set_option linter.unusedVariables false
namespace Ev
open Go

section
variable {P : Program} {w0 : World} {μ : Mu} {H : Hp} {w : World}

/-- The row as it stands behind an append. -/
def grownVB (b : VB) (k : Nat) (news : List AV) : VB := { b with cells := b.cells.take k ++ news.map (·, b.gen + 1), gen := b.gen + 1 }

theorem grown_get {b : VB} {k : Nat} {news : List AV} (hk : k ≤ b.cells.length) {j : Nat} {av : AV} {m : Nat} (h : (grownVB b k news).cells[j]? = some (av, m)) :
    (j < k ∧ b.cells[j]? = some (av, m)) ∨ (k ≤ j ∧ news[j - k]? = some av ∧ m = b.gen + 1) := by
  have ht : (b.cells.take k).length = k := by simp; omega
  simp only [grownVB] at h
  by_cases hj : j < k
  · left
    rw [List.getElem?_append_left (by omega), List.getElem?_take_of_lt hj] at h
    exact ⟨hj, h⟩
  · right
    rw [List.getElem?_append_right (by omega), ht, List.getElem?_map] at h
    cases hx : news[j - k]? with
    | none => rw [hx] at h; simp at h
    | some x =>
      rw [hx] at h
      simp at h
      exact ⟨by omega, by rw [h.1], h.2.symm⟩

theorem load_len {id : Pos} {g n : Nat} {cs : List AV} {b : VB} (hb : H.get id = some b) (h : H.load id g 0 n = some cs) :
    cs.length = n ∧ n ≤ b.cells.length ∧ ∀ j, j < n → ∃ x m, b.cells[j]? = some (x, m) ∧ m ≤ g := by
  unfold Hp.load at h
  rw [hb] at h
  simp only [List.drop_zero] at h
  obtain ⟨h1, h2⟩ := takeCells_spec h
  have h3 : ∀ j, j < n → ∃ x m, b.cells[j]? = some (x, m) ∧ m ≤ g := fun j hj => by
    obtain ⟨m, hm, hmg⟩ := h2 j cs[j] (List.getElem?_eq_getElem (by omega))
    exact ⟨_, m, hm, hmg⟩
  refine ⟨h1, ?_, h3⟩
  rcases Nat.eq_zero_or_pos n with h0 | h0
  · omega
  · obtain ⟨x, m, hm, _⟩ := h3 (n - 1) (by omega)
    have := (List.getElem?_eq_some_iff.1 hm).1
    omega

theorem Rel.place_row (R : Rel P w0 μ H w) {id : Pos} {g : Nat} {L : Loc} (hL : μ id g = some L) {b : VB} (hb : H.get id = some b) (hown : b.own = true) :
    ∃ cur, w.heap[L.blk]? = some (.cells cur b.elem (0, 0)) ∧ L.base = 0 ∧ cur.size = L.size ∧ w0.heap.size ≤ L.blk ∧ g ≤ b.gen ∧
      (∀ (i : Nat) (av : AV) (m : Nat), b.cells[i]? = some (av, m) → m ≤ b.gen) ∧
      (∀ (i : Nat) (av : AV) (m : Nat), b.cells[i]? = some (av, m) → m ≤ g → i < L.size ∧ ∃ v, cur[i]? = some v ∧ VR P.globals.size μ av v) := by
  obtain ⟨vb, cur, e, fr, h1, h2, h3, h4, h5, h6, h6', h7⟩ := R.place id g L hL
  rw [hb] at h1
  injection h1 with h1
  subst h1
  obtain ⟨k1, rfl, k2, rfl, k4⟩ := h5 hown
  refine ⟨cur, h3, k2, k4, k1, h2, h6', fun i av m hm hmg => ?_⟩
  obtain ⟨a1, v, a2, a3⟩ := h7 i av m hm hmg
  exact ⟨a1, v, by rw [k2, Nat.zero_add] at a2; exact a2, a3⟩

/-- In its place. -/
theorem Rel.grow_here (R : Rel P w0 μ H w) {id : Pos} {g k : Nat} {olds news : List AV} {b : VB} (hb : H.get id = some b) (hown : b.own = true) {L : Loc} (hL : μ id g = some L)
    (hold : H.load id g 0 k = some olds) {nvs : List Value} (hn : VRs P.globals.size μ news nvs) (hfit : k + nvs.length ≤ L.size) :
    ∃ cur, w.heap[L.blk]? = some (.cells cur b.elem (0, 0)) ∧ L.base = 0 ∧ cur.size = L.size ∧ Ext μ (μ.add id (b.gen + 1) L) ∧ NewIds H μ (μ.add id (b.gen + 1) L) ∧
      Rel P w0 (μ.add id (b.gen + 1) L) (H.set id (grownVB b k news)) (w.setRow L.blk (cur.toList.take k ++ nvs ++ cur.toList.drop (k + nvs.length)).toArray) := by
  obtain ⟨cur, h3, hbase, hsz, hge, hgen, h6', h7⟩ := R.place_row hL hb hown
  obtain ⟨l1, l2, l3⟩ := load_len hb hold
  have hnone : μ id (b.gen + 1) = none := by
    cases hm : μ id (b.gen + 1) with
    | none => rfl
    | some L' =>
      obtain ⟨vb', _, _, _, q1, q2, _⟩ := R.place id _ L' hm
      rw [hb] at q1
      injection q1 with q1
      subst q1
      omega
  have hext : Ext μ (μ.add id (b.gen + 1) L) := Mu.add_ext hnone
  have hlen := hn.length
  refine ⟨cur, h3, hbase, hsz, hext, ?_, ?_⟩
  · intro id' g' L' h'
    unfold Mu.add at h'
    split at h'
    · rename_i hc
      rw [hc.1]
      exact .inl ⟨g, L, hL⟩
    · exact .inl ⟨g', L', h'⟩
  let cs : Array Value := (cur.toList.take k ++ nvs ++ cur.toList.drop (k + nvs.length)).toArray
  have hcsz : cs.size = cur.size := by simp [cs]; omega
  have hget1 : ∀ j, j < k → cs[j]? = cur[j]? := by
    intro j hj
    simp only [cs, List.getElem?_toArray]
    rw [List.append_assoc, List.getElem?_append_left (by simp; omega), List.getElem?_take_of_lt hj]
    simp
  have hget2 : ∀ j, k ≤ j → j < k + nvs.length → cs[j]? = nvs[j - k]? := by
    intro j hj1 hj2
    have hti : (cur.toList.take k).length = k := by simp; omega
    simp only [cs, List.getElem?_toArray]
    rw [List.getElem?_append_left (by simp; omega), List.getElem?_append_right (by omega), hti]
  have hrow : (w.setRow L.blk cs).heap[L.blk]? = some (.cells cs b.elem (0, 0)) := setRow_heap w L.blk cur cs b.elem (0, 0) h3
  have hother : ∀ k, k ≠ L.blk → (w.setRow L.blk cs).heap[k]? = w.heap[k]? := fun k hk => setRow_other w L.blk k cs hk
  have hsize : (w.setRow L.blk cs).heap.size = w.heap.size := by simp [World.setRow]
  have hmle : ∀ (j : Nat) (av : AV) (m : Nat), (grownVB b k news).cells[j]? = some (av, m) → m ≤ b.gen + 1 := by
    intro j av m hm
    rcases grown_get l2 hm with ⟨_, hm'⟩ | ⟨_, _, rfl⟩
    · have := h6' j av m hm'; omega
    · omega
  refine ⟨fun j hj => ?_, by rw [hsize]; exact R.size, R.os, R.tape, R.output, ?_, ?_, R.glob.ext hext⟩
  · rw [hother j (by omega)]
    exact R.old j hj
  · intro id' g' L' h'
    unfold Mu.add at h'
    split at h'
    · rename_i hc
      obtain ⟨rfl, rfl⟩ := hc
      injection h' with h'
      subst h'
      refine ⟨grownVB b k news, cs, b.elem, (0, 0), by simp [Hp.get_set], Nat.le_refl _, hrow, by rw [hcsz, hbase]; omega, fun _ => ⟨hge, rfl, hbase, rfl, by rw [hcsz]; exact hsz⟩, fun hf => by simp [grownVB, hown] at hf, hmle, ?_⟩
      intro j av m hm _
      rw [hbase, Nat.zero_add]
      rcases grown_get l2 hm with ⟨hj, hm'⟩ | ⟨hj, hx, rfl⟩
      · obtain ⟨x, m', hm'', hmg⟩ := l3 j hj
        rw [hm'] at hm''
        injection hm'' with hm''
        injection hm'' with e1 e2
        subst e1; subst e2
        obtain ⟨a1, v, a2, a3⟩ := h7 j av m hm' hmg
        exact ⟨a1, v, by rw [hget1 j hj]; exact a2, a3.ext hext⟩
      · have hjn := (List.getElem?_eq_some_iff.1 hx).1
        obtain ⟨v, hv, hvr⟩ := hn.get hx
        exact ⟨by omega, v, by rw [hget2 j hj (by omega)]; exact hv, hvr.ext hext⟩
    · by_cases hid : id' = id
      · subst hid
        obtain ⟨cur', q3, qbase, qsz, qge, qgen, q6', q7⟩ := R.place_row h' hb hown
        by_cases hblk : L'.blk = L.blk
        · rw [hblk, h3] at q3
          injection q3 with q3
          injection q3 with q3
          subst q3
          refine ⟨grownVB b k news, cs, b.elem, (0, 0), by simp [Hp.get_set], by simp [grownVB]; omega, by rw [hblk]; exact hrow, by rw [hcsz, qbase]; omega, fun _ => ⟨qge, rfl, qbase, rfl, by rw [hcsz]; exact qsz⟩, fun hf => by simp [grownVB, hown] at hf, hmle, ?_⟩
          intro j av m hm hmg
          rw [qbase, Nat.zero_add]
          rcases grown_get l2 hm with ⟨hj, hm'⟩ | ⟨_, _, rfl⟩
          · obtain ⟨a1, v, a2, a3⟩ := q7 j av m hm' hmg
            exact ⟨a1, v, by rw [hget1 j hj]; exact a2, a3.ext hext⟩
          · omega
        · refine ⟨grownVB b k news, cur', b.elem, (0, 0), by simp [Hp.get_set], by simp [grownVB]; omega, by rw [hother _ hblk]; exact q3, by rw [qbase]; omega, fun _ => ⟨qge, rfl, qbase, rfl, qsz⟩, fun hf => by simp [grownVB, hown] at hf, hmle, ?_⟩
          intro j av m hm hmg
          rw [qbase, Nat.zero_add]
          rcases grown_get l2 hm with ⟨hj, hm'⟩ | ⟨_, _, rfl⟩
          · obtain ⟨a1, v, a2, a3⟩ := q7 j av m hm' hmg
            exact ⟨a1, v, a2, a3.ext hext⟩
          · omega
      · obtain ⟨vb', cur', e', fr', q1, q2, q3, q4, q5, q6, q6', q7⟩ := R.place id' g' L' h'
        have hblk : L'.blk ≠ L.blk := fun e => hid (R.apart _ _ _ _ _ _ h' hL e (by omega))
        refine ⟨vb', cur', e', fr', by rw [Hp.get_set, if_neg (fun e => hid e.symm)]; exact q1, q2, by rw [hother _ hblk]; exact q3, q4, q5, q6, q6', ?_⟩
        intro j av m hm hmg
        obtain ⟨a1, v, a2, a3⟩ := q7 j av m hm hmg
        exact ⟨a1, v, a2, a3.ext hext⟩
  · intro id1 g1 L1 id2 g2 L2 h1 h2 hbk hg0
    unfold Mu.add at h1 h2
    split at h1
    · rename_i hc1
      injection h1 with h1; subst h1
      split at h2
      · rename_i hc2
        rw [hc1.1, hc2.1]
      · rw [hc1.1]
        exact R.apart _ _ _ _ _ _ hL h2 hbk hg0
    · split at h2
      · rename_i hc2
        injection h2 with h2; subst h2
        rw [hc2.1]
        exact R.apart _ _ _ _ _ _ h1 hL hbk hg0
      · exact R.apart _ _ _ _ _ _ h1 h2 hbk hg0

/-- In a new one. -/
theorem Rel.grow_new (R : Rel P w0 μ H w) {id : Pos} {g k : Nat} {olds news : List AV} {b : VB} (hb : H.get id = some b) (hown : b.own = true) {L : Loc} (hL : μ id g = some L)
    (hold : H.load id g 0 k = some olds) {ovs nvs : List Value} (ho : VRs P.globals.size μ olds ovs) (hn : VRs P.globals.size μ news nvs) (zs : Array Value) :
    let L' : Loc := ⟨w.heap.size, 0, (ovs.toArray ++ nvs.toArray ++ zs).size⟩
    Ext μ (μ.add id (b.gen + 1) L') ∧ NewIds H μ (μ.add id (b.gen + 1) L') ∧
      Rel P w0 (μ.add id (b.gen + 1) L') (H.set id (grownVB b k news)) (w.alloc (.cells (ovs.toArray ++ nvs.toArray ++ zs) b.elem)) := by
  intro Ln
  obtain ⟨cur, h3, hbase, hsz, hge, hgen, h6', h7⟩ := R.place_row hL hb hown
  obtain ⟨l1, l2, l3⟩ := load_len hb hold
  have hnone : μ id (b.gen + 1) = none := by
    cases hm : μ id (b.gen + 1) with
    | none => rfl
    | some L' =>
      obtain ⟨vb', _, _, _, q1, q2, _⟩ := R.place id _ L' hm
      rw [hb] at q1
      injection q1 with q1
      subst q1
      omega
  have hext : Ext μ (μ.add id (b.gen + 1) Ln) := Mu.add_ext hnone
  have hlen := hn.length
  have hleno := ho.length
  refine ⟨hext, ?_, ?_⟩
  · intro id' g' L' h'
    unfold Mu.add at h'
    split at h'
    · rename_i hc
      rw [hc.1]
      exact .inl ⟨g, L, hL⟩
    · exact .inl ⟨g', L', h'⟩
  let cs : Array Value := ovs.toArray ++ nvs.toArray ++ zs
  have hcs : cs.toList = ovs ++ nvs ++ zs.toList := by simp [cs]
  have hget1 : ∀ j, j < k → cs[j]? = ovs[j]? := by
    intro j hj
    rw [← Array.getElem?_toList, hcs, List.append_assoc, List.getElem?_append_left (by omega)]
  have hget2 : ∀ j, k ≤ j → j < k + nvs.length → cs[j]? = nvs[j - k]? := by
    intro j hj1 hj2
    rw [← Array.getElem?_toList, hcs, List.getElem?_append_left (by simp; omega), List.getElem?_append_right (by omega)]
    congr 1
    omega
  have hrow : (w.alloc (.cells cs b.elem)).heap[w.heap.size]? = some (.cells cs b.elem (0, 0)) := heap_alloc_new w _
  have hheap : ∀ j, j < w.heap.size → (w.alloc (.cells cs b.elem)).heap[j]? = w.heap[j]? := fun j hj => heap_alloc_old w _ j hj
  have hmle : ∀ (j : Nat) (av : AV) (m : Nat), (grownVB b k news).cells[j]? = some (av, m) → m ≤ b.gen + 1 := by
    intro j av m hm
    rcases grown_get l2 hm with ⟨_, hm'⟩ | ⟨_, _, rfl⟩
    · have := h6' j av m hm'; omega
    · omega
  refine ⟨fun j hj => ?_, ?_, R.os, R.tape, R.output, ?_, ?_, R.glob.ext hext⟩
  · rw [hheap j (Nat.lt_of_lt_of_le hj R.size)]
    exact R.old j hj
  · have := R.size
    simp
    omega
  · intro id' g' L' h'
    unfold Mu.add at h'
    split at h'
    · rename_i hc
      obtain ⟨rfl, rfl⟩ := hc
      injection h' with h'
      subst h'
      refine ⟨grownVB b k news, cs, b.elem, (0, 0), by simp [Hp.get_set], Nat.le_refl _, hrow, by simp [Ln, cs]; omega, fun _ => ⟨R.size, rfl, rfl, rfl, rfl⟩, fun hf => by simp [grownVB, hown] at hf, hmle, ?_⟩
      intro j av m hm _
      have hLs : Ln.size = ovs.length + nvs.length + zs.size := by simp [Ln]
      rw [show Ln.base = 0 from rfl, Nat.zero_add]
      rcases grown_get l2 hm with ⟨hj, hm'⟩ | ⟨hj, hx, rfl⟩
      · have hjo : j < olds.length := by omega
        have hxo := List.getElem?_eq_getElem hjo
        have hav : olds[j] = av := by
          have h := hold
          unfold Hp.load at h
          rw [hb] at h
          simp only [List.drop_zero] at h
          obtain ⟨_, h2⟩ := takeCells_spec h
          obtain ⟨m', hm2, _⟩ := h2 j _ hxo
          rw [hm'] at hm2
          injection hm2 with hm2
          injection hm2 with e1 _
          exact e1.symm
        rw [hav] at hxo
        obtain ⟨v, hv, hvr⟩ := ho.get hxo
        exact ⟨by omega, v, by rw [hget1 j hj]; exact hv, hvr.ext hext⟩
      · have hjn := (List.getElem?_eq_some_iff.1 hx).1
        obtain ⟨v, hv, hvr⟩ := hn.get hx
        exact ⟨by omega, v, by rw [hget2 j hj (by omega)]; exact hv, hvr.ext hext⟩
    · have hlt := R.blk_lt h'
      by_cases hid : id' = id
      · subst hid
        obtain ⟨cur', q3, qbase, qsz, qge, qgen, q6', q7⟩ := R.place_row h' hb hown
        refine ⟨grownVB b k news, cur', b.elem, (0, 0), by simp [Hp.get_set], by simp [grownVB]; omega, by rw [hheap _ hlt]; exact q3, by rw [qbase]; omega, fun _ => ⟨qge, rfl, qbase, rfl, qsz⟩, fun hf => by simp [grownVB, hown] at hf, hmle, ?_⟩
        intro j av m hm hmg
        rw [qbase, Nat.zero_add]
        rcases grown_get l2 hm with ⟨hj, hm'⟩ | ⟨_, _, rfl⟩
        · obtain ⟨a1, v, a2, a3⟩ := q7 j av m hm' hmg
          exact ⟨a1, v, a2, a3.ext hext⟩
        · omega
      · obtain ⟨vb', cur', e', fr', q1, q2, q3, q4, q5, q6, q6', q7⟩ := R.place id' g' L' h'
        refine ⟨vb', cur', e', fr', by rw [Hp.get_set, if_neg (fun e => hid e.symm)]; exact q1, q2, by rw [hheap _ hlt]; exact q3, q4, q5, q6, q6', ?_⟩
        intro j av m hm hmg
        obtain ⟨a1, v, a2, a3⟩ := q7 j av m hm hmg
        exact ⟨a1, v, a2, a3.ext hext⟩
  · intro id1 g1 L1 id2 g2 L2 h1 h2 hbk hg0
    unfold Mu.add at h1 h2
    split at h1
    · rename_i hc1
      injection h1 with h1; subst h1
      split at h2
      · rename_i hc2
        rw [hc1.1, hc2.1]
      · have := R.blk_lt h2
        have : w.heap.size = L2.blk := hbk
        omega
    · split at h2
      · rename_i hc2
        injection h2 with h2; subst h2
        have := R.blk_lt h1
        have : L1.blk = w.heap.size := hbk
        omega
      · exact R.apart _ _ _ _ _ _ h1 h2 hbk hg0

end
end Ev

/- What is made and written is what the model's operations make and write. -/
set_option autoImplicit false
set_option linter.unusedSimpArgs false
set_option linter.unusedVariables false
namespace Ev
open Go

/-- In this world the operation leaves a value that stands for 'x', and a world for which 'H'' stands. -/
def EffAt (P : Program) (w0 : World) (μ : Mu) (H : Hp) (a : Act) (o : Oper) (w : World) (x : AV) (H' : Hp) : Prop :=
  ∃ v w' μ', ((execOp a.eval o).run P w = .ok (.value v) w' ∨ ((execOp a.eval o).run P w = .ok .skip w' ∧ v = undef)) ∧
    Ext μ μ' ∧ NewIds H μ μ' ∧ Rel P w0 μ' H' w' ∧ VR P.globals.size μ' x v

/-- In every world the operation makes one new block of these cells, and hands back what its place says. -/
def MakeAt (P : Program) (μ : Mu) (a : Act) (o : Oper) (e : Nat) (cells : List AV) (f : Pos → AV) : Prop :=
  ∃ (vs : List Value) (val : Nat → Value), VRs P.globals.size μ cells vs ∧ (∀ w, (execOp a.eval o).run P w = .ok (.value (val w.heap.size)) (w.alloc (.cells vs.toArray e))) ∧
    ∀ (μ' : Mu) (id : Pos) (blk : Nat), μ' id 0 = some ⟨blk, 0, vs.length⟩ → VR P.globals.size μ' (f id) (val blk)

section
variable {P : Program} {w0 : World} {μ : Mu} {H : Hp} {w : World} {T : List AV} {a : Act}

theorem new_vrs (R : Rel P w0 μ H w) {e : Nat} {cells : List AV} {id : Pos} {H' : Hp} (h : H.new e cells = some (id, H')) {vs : List Value} (hvs : VRs P.globals.size μ cells vs) :
    Ext μ (μ.add id 0 ⟨w.heap.size, 0, vs.length⟩) ∧ NewIds H μ (μ.add id 0 ⟨w.heap.size, 0, vs.length⟩) ∧
      Rel P w0 (μ.add id 0 ⟨w.heap.size, 0, vs.length⟩) H' (w.alloc (.cells vs.toArray e)) := by
  have := R.new h (cur := vs.toArray) (by simp [hvs.length]) (fun i x hx => by
    obtain ⟨v, hv, hvr⟩ := hvs.get hx
    exact ⟨v, by simpa using hv, hvr⟩)
  simpa using this

theorem es_alloc {o : Oper} {e : TypeId} (ho : o.op = .alloc e) {z : List AV} (hz : zeroCellsOf P e = some z) {e' : Nat} {cells : List AV} {f : Pos → AV}
    (h : xmake (evArg T) (.alloc e z) = some (e', cells, f)) : MakeAt P μ a o e' cells f := by
  simp only [xmake, Option.some.injEq, Prod.mk.injEq] at h
  obtain ⟨rfl, rfl, rfl⟩ := h
  obtain ⟨i, v, hi, hiz, hone, hlen, hzv, hsz⟩ := zeroCells_spec (μ := μ) hz
  refine ⟨v.cells.toList, fun b => .pointer (some ⟨b, 0, none⟩), hzv, fun w => ?_, fun μ' id blk hm => ?_⟩
  · simp [execOp, ho, Instr.alloc, zero_some hi hiz, newVar, newRow]
  · have := VR.ptr (G := P.globals.size) (i := 0) hm
    simpa using this

theorem es_box (hG : Glob P μ) (hT : TR P.globals.size μ T a.tmps) {o : Oper} {e : TypeId} {y : Operand} (ho : o.op = .box e y) {e' : Nat} {cells : List AV} {f : Pos → AV}
    (h : xmake (evArg T) (.box e (cArg P y)) = some (e', cells, f)) : MakeAt P μ a o e' cells f := by
  simp only [xmake] at h
  split at h
  case h_2 => cases h
  rename_i cs hcs
  split at h
  case isFalse => cases h
  rename_i hone
  simp only [Option.some.injEq, Prod.mk.injEq] at h
  obtain ⟨rfl, rfl, rfl⟩ := h
  have hvr := cells_vr (arg_vr hG hT y) hcs
  refine ⟨(a.eval y).cells.toList, fun b => .pointer (some ⟨b, 0, none⟩), hvr, fun w => ?_, fun μ' id blk hm => ?_⟩
  · simp [execOp, ho, Instr.box, newVar, newRow]
  · have := VR.ptr (G := P.globals.size) (i := 0) hm
    simpa using this

theorem zeros_vr {G : Nat} {z : List AV} {v : Array Value} (hz : VRs G μ z v.toList) : ∀ n, VRs G μ (zerosOf z n) (List.replicate n v.toList).flatten
  | 0 => by simp [zerosOf]; exact .nil
  | n + 1 => by simp only [zerosOf, List.replicate_succ, List.flatten_cons]; exact hz.append (zeros_vr hz n)

theorem range_zeros (v : Array Value) (n : Nat) (hv : 0 < v.size) : ((Array.range (n * v.size)).map (fun i => v[i % v.size]!)) = (List.replicate n v.toList).flatten.toArray := by
  apply Array.ext'
  simp only [Array.toList_map, Array.toList_range]
  induction n with
  | zero => simp
  | succ n ih =>
    rw [List.replicate_succ', List.flatten_append, ← ih, Nat.succ_mul, List.range_add, List.map_append]
    congr 1
    simp only [List.map_map, List.flatten_cons, List.flatten_nil, List.append_nil]
    apply List.ext_getElem
    · simp
    · intro i h1 h2
      have hi : i < v.size := by simpa using h1
      have hm : (n * v.size + i) % v.size = i := by rw [Nat.add_comm, Nat.add_mul_mod_self_right, Nat.mod_eq_of_lt hi]
      simp [hm, hi]

theorem cellsOfList_len {ev : Ev} : ∀ {l : List (Nat × Nat × IArg)} {zs cs : List AV}, cellsOfList ev l zs = some cs → cs.length = zs.length := by
  intro l
  induction l with
  | nil => intro zs cs h; simp [cellsOfList] at h; subst h; rfl
  | cons p l ih =>
    intro zs cs h
    obtain ⟨off, sz, x⟩ := p
    simp only [cellsOfList] at h
    split at h
    · rename_i vs hvs
      split at h
      · rename_i hc
        rw [ih h]
        simp
        omega
      · cases h
    · cases h

theorem zerosOf_len (z : List AV) : ∀ n, (zerosOf z n).length = n * z.length
  | 0 => by simp [zerosOf]
  | n + 1 => by simp [zerosOf, zerosOf_len z n, Nat.succ_mul, Nat.add_comm]

theorem es_bslice (hG : Glob P μ) (hT : TR P.globals.size μ T a.tmps) {o : Oper} {t e : TypeId} {n : Nat} {parts : Array (Nat × Operand)} (ho : o.op = .buildSlice t n parts)
    (ht : P.underlying t = some (.slice e)) {i : TypeInfo} (hi : P.info? e = some i) {z : List AV} (hz : zeroCellsOf P e = some z) (hbig : n * i.size ≤ 16777216) (hpos : 0 < i.size)
    {l : List (Nat × Nat × IArg)} (hl : partsAt P (fun k => some (k * i.size, i.size)) parts.toList = some l) {e' : Nat} {cells : List AV} {f : Pos → AV}
    (h : xmake (evArg T) (.bslice e i.size n (zerosOf z n) l) = some (e', cells, f)) : MakeAt P μ a o e' cells f := by
  simp only [xmake] at h
  split at h
  case h_2 => cases h
  rename_i cs hcs
  split at h
  case isFalse => cases h
  rename_i hone
  simp only [Option.some.injEq, Prod.mk.injEq] at h
  obtain ⟨rfl, rfl, rfl⟩ := h
  obtain ⟨i', v, hi', hiz, _, hzl, hzv, hsz⟩ := zeroCells_spec (μ := μ) hz
  rw [hi] at hi'
  injection hi' with hi'
  subst hi'
  have hzs : VRs P.globals.size μ (zerosOf z n) (List.replicate n v.cells.toList).flatten.toArray.toList := by simpa using zeros_vr hzv n
  obtain ⟨cc, f1, f2⟩ := fill_run hG hT hl hzs hcs
  have hcl : cs.length = n * i.size := by
    rw [cellsOfList_len hcs, zerosOf_len, hzl]
  refine ⟨cc.toList, fun b => .slice (some ⟨b, 0, none⟩) n n, f2, fun w => ?_, fun μ' id blk hm => ?_⟩
  · have hb : ¬ (16777216 < n * i.size) := by omega
    by_cases h0 : n * i.size = 0
    · have hn0 : n = 0 := by
        rcases Nat.mul_eq_zero.1 h0 with h | h
        · exact h
        · omega
      subst hn0
      have e0 : (List.replicate 0 v.cells.toList).flatten.toArray = #[] := by simp
      rw [e0] at f1
      have f1' : Instr.fill (fun k => some (k * i.size, i.size)) #[] (List.map (fun x => (x.fst, a.eval x.snd)) parts.toList) = some cc := f1
      have e1 : ∀ (g : Nat → Value), Array.map g (Array.range 0) = #[] := fun g => by rw [Array.range_zero']; simp
      simp only [execOp, ho, Instr.buildSlice, Sem.run_bind, und_some ht, Result.andThen_ok, sizeOf_some hi, Nat.zero_mul, gt_iff_lt, Nat.not_lt_zero, if_false, if_true, Sem.run_pure, e1, Array.toList_map, f1', newRow, run_newObj, Sem.run_map, Sem.run_ite, ↓reduceIte]
      rfl
    · have hfill := range_zeros v.cells n (by omega)
      rw [hsz] at hfill
      have f1' : Instr.fill (fun k => some (k * i.size, i.size)) ((Array.range (n * i.size)).map (fun j => v.cells[j % i.size]!)) (List.map (fun x => (x.fst, a.eval x.snd)) parts.toList) = some cc := by rw [hfill]; exact f1
      simp [execOp, ho, Instr.buildSlice, und_some ht, sizeOf_some hi, h0, hb, zero_some hi hiz, hsz, f1', newRow]
  · have hlen := f2.length
    have hn : n ≤ n * i.size := Nat.le_mul_of_pos_right n hpos
    have := VR.slice (G := P.globals.size) (i := 0) (len := n) (sz := i.size) (cap := some n) n hm (Nat.le_refl _) (by unfold maxLen; omega)
      (by simp only [Nat.zero_add]; omega) (fun k hk => by injection hk) (fun hk => by cases hk)
    simpa using this

theorem es_store (R : Rel P w0 μ H w) (hT : TR P.globals.size μ T a.tmps) {o : Oper} {t : TypeId} {y z : Operand} (ho : o.op = .store t y z) {i : TypeInfo} (hi : P.info? t = some i) {x : AV} {H' : Hp}
    (h : xwrite (evArg T) H (.store i.size (cArg P y) (cArg P z)) = some (x, H')) : EffAt P w0 μ H a o w x H' := by
  simp only [xwrite] at h
  split at h
  case h_2 => cases h
  rename_i id g k vs hy hz
  split at h
  case isFalse => cases h
  rename_i hlen
  obtain ⟨H1, hs, hx⟩ := Option.map_eq_some_iff.1 h
  injection hx with hx1 hx2
  subst hx1; subst hx2
  have hc := arg_vr R.glob hT y
  rw [hy] at hc
  generalize hv : a.eval y = v at hc
  cases hc
  rename_i L hL
  have hvr := cells_vr (arg_vr R.glob hT z) hz
  obtain ⟨cur, e, c1, c2, c3, c4, c5⟩ := R.store hs hL hvr
  have hl := hvr.length
  have hsz : (a.eval z).cells.size = i.size := by simp at hl; omega
  refine ⟨undef, _, μ, .inr ⟨?_, rfl⟩, Ext.refl μ, NewIds.refl H μ, c5, .any _⟩
  have hrun := run_storeCells_at P L.blk (L.base + k) e (a.eval z).cells.toList 0 cur w c1 (by simpa [c2] using c3) c4
  simp only [Nat.add_zero] at hrun
  simp only [execOp, ho, hv, Instr.storeAt, Instr.sureAddr, storeVar, Sem.run_bind, Sem.run_pure, Result.andThen_ok, sizeOf_some hi, hsz, ne_eq, not_true_eq_false, if_false, hrun]
  rw [c2, Nat.zero_add]

theorem inr_int {ev : Ev} {x : IArg} {n : Nat} (h : inr (ev x) = some n) : True := trivial

theorem small_spec {n b : Nat} (h : small n b = true) : n ≤ 1099511627776 ∧ n * b ≤ 1099511627776 := by
  unfold small at h
  rw [Bool.and_eq_true] at h
  exact ⟨Nat.ble_eq.mp h.1, Nat.ble_eq.mp h.2⟩

theorem es_mkslice (hG : Glob P μ) (hT : TR P.globals.size μ T a.tmps) {o : Oper} {t e : TypeId} {y z : Operand} (ho : o.op = .makeSlice t y z)
    (ht : P.underlying t = some (.slice e)) {i : TypeInfo} (hi : P.info? e = some i) {zs : List AV} (hz : zeroCellsOf P e = some zs) (hpos : 0 < i.size) {e' : Nat} {cells : List AV} {f : Pos → AV}
    (h : xmake (evArg T) (.mkslice e i.size i.bytes zs (cArg P y) (cArg P z)) = some (e', cells, f)) : MakeAt P μ a o e' cells f := by
  simp only [xmake] at h
  split at h
  case h_2 => cases h
  rename_i l c hl hc
  split at h
  case isFalse => cases h
  rename_i hcond
  obtain ⟨hlc, hsm⟩ := hcond
  obtain ⟨hs1, hs2⟩ := small_spec hsm
  simp only [Option.some.injEq, Prod.mk.injEq] at h
  obtain ⟨rfl, rfl, rfl⟩ := h
  obtain ⟨kl, el⟩ := inr_vr (arg_vr hG hT y) hl
  obtain ⟨kc, ec⟩ := inr_vr (arg_vr hG hT z) hc
  obtain ⟨i', v, hi', hiz, _, hzl, hzv, hsz⟩ := zeroCells_spec (μ := μ) hz
  rw [hi] at hi'
  injection hi' with hi'
  subst hi'
  have hflat : ((List.replicate c v.cells.toList).flatten).length = c * i.size := by rw [← (zeros_vr hzv c).length, zerosOf_len, hzl]
  refine ⟨(List.replicate c v.cells.toList).flatten, fun b => .slice (some ⟨b, 0, none⟩) l c, zeros_vr hzv c, fun w => ?_, fun μ' id blk hm => ?_⟩
  · have wl : IntKind.i64.wrap (l : Int) = l := IntWalk.i64_in _ (by omega)
    have wc : IntKind.i64.wrap (c : Int) = c := IntWalk.i64_in _ (by omega)
    have hb : ¬ (281474976710656 < (i.bytes : Int) * (c : Int)) := by
      have : ((c * i.bytes : Nat) : Int) ≤ ((1099511627776 : Nat) : Int) := Int.ofNat_le.2 hs2
      rw [Int.mul_comm, ← Int.natCast_mul]
      omega
    have hlc' : ¬ ((c : Int) < (l : Int)) := by omega
    by_cases h0 : c * i.size = 0
    · have hn0 : c = 0 := by
        rcases Nat.mul_eq_zero.1 h0 with h | h
        · exact h
        · omega
      subst hn0
      have hl0 : l = 0 := by omega
      subst hl0
      have e1 : ∀ (g : Nat → Value), Array.map g (Array.range 0) = #[] := fun g => by rw [Array.range_zero']; simp
      have wz : IntKind.i64.wrap 0 = 0 := IntWalk.i64_in 0 (by omega)
      simp [execOp, ho, Instr.makeSlice, und_some ht, info_some hi, sizeOf_some hi, el, ec, asInt, asIntOf, wz, newRow, e1]
    · have hfill := range_zeros v.cells c (by omega)
      rw [hsz] at hfill
      simp [execOp, ho, Instr.makeSlice, und_some ht, info_some hi, sizeOf_some hi, el, ec, asInt, asIntOf, wl, wc, hb, hlc', h0, zero_some hi hiz, hsz, hfill, newRow]
      intro hh
      exfalso
      omega
  · have := VR.slice (G := P.globals.size) (i := 0) (len := l) (sz := i.size) (cap := some c) c hm hlc (by unfold maxLen; omega)
      (by simp only [Nat.zero_add]; omega) (fun k hk => by injection hk) (fun hk => by cases hk)
    simpa using this

end
end Ev

/- An append is what the model's append does, whether the row moves or not. -/
set_option autoImplicit false
set_option linter.unusedSimpArgs false
set_option linter.unusedVariables false
namespace Ev
open Go

section
variable {P : Program} {w0 : World} {μ : Mu} {H : Hp} {w : World} {T : List AV} {a : Act}

/-- What is appended. -/
structure Src (P : Program) (μ : Mu) (w : World) (sz : Nat) (v : Value) (news : List AV) (n : Nat) where
  vs : List Value
  vr : VRs P.globals.size μ news vs
  len : vs.length = n * sz
  lenOf : ∀ w', (Builtin.lenOf v).run P w' = .ok n w'
  first : ∀ w' : World, w'.heap = w.heap → (Builtin.firstCells sz n v).run P w' = .ok vs.toArray w'

theorem cell_of_heap {w w' : World} (h : w'.heap = w.heap) (a : Addr) : w'.cell? a = w.cell? a := by simp [World.cell?, h]

theorem src_of (R : Rel P w0 μ H w) {sz : Nat} {x : AV} {v : Value} (hv : VR P.globals.size μ x v) {news : List AV} {n : Nat} (h : appended H sz x = some (news, n)) : Nonempty (Src P μ w sz v news n) := by
  unfold appended at h
  split at h
  · injection h with h; injection h with h1 h2; subst h1; subst h2
    cases hv
    exact ⟨⟨[], .nil, by simp, fun w' => by simp [Builtin.lenOf], fun w' _ => by simp [Builtin.firstCells]⟩⟩
  · split at h
    · rename_i hsz
      subst hsz
      obtain ⟨cs, hcs, he⟩ := Option.map_eq_some_iff.1 h
      injection he with h1 h2; subst h1; subst h2
      cases hv
      rename_i L c hm hL hl hcap hr hn
      obtain ⟨vs, hvs, hlen, hcell⟩ := load_list R hcs hL
      refine ⟨⟨vs, hvs, hlen, fun w' => by simp [Builtin.lenOf], fun w' hw' => ?_⟩⟩
      exact run_firstCells_some (P := P) w' _ _ _ _ _ vs hlen (fun j u hu => by rw [cell_of_heap hw']; exact hcell j u hu)
    · cases h
  · split at h
    · rename_i hsz
      subst hsz
      injection h with h; injection h with h1 h2; subst h1; subst h2
      cases hv
      rename_i bs
      refine ⟨⟨bs.data.toList.map fun b => Value.int .u8 b.toNat, ?_, by simp, fun w' => by simp [Builtin.lenOf], fun w' _ => ?_⟩⟩
      · generalize bs.data.toList = l
        induction l with
        | nil => exact .nil
        | cons b l ih => exact .cons (.int _ _) ih
      · have hl : bs.data.toList.length = bs.size := by simp
        have hx : bs.extract 0 bs.size = bs := by
          have : (bs.extract 0 bs.size).data = bs.data := by
            rw [ByteArray.data_extract]
            show bs.data.extract 0 bs.data.size = bs.data
            exact Array.extract_size
          cases bs with
          | mk d => cases hh : (ByteArray.extract ⟨d⟩ 0 (ByteArray.mk d).size) with
            | mk d' => rw [hh] at this; simp at this; rw [this]
        simp only [Builtin.firstCells, hl, hx, Sem.run_pure]
        congr 1
        apply Array.ext'
        simp
    · cases h
  · cases h

/-- The two types of an append: a slice's, and a slice's or a string's. -/
structure AppT (P : Program) (t u e : TypeId) (i : TypeInfo) (z : Value) : Prop where
  ht : P.underlying t = some (.slice e)
  hu : (∃ e', P.underlying u = some (.slice e')) ∨ P.underlying u = some .string
  hi : P.info? e = some i
  hz : i.zero = some z

theorem app_nothing {t u e ty : TypeId} {i : TypeInfo} {z : Value} (A : AppT P t u e i z) {v : Value} {news : List AV} (S : Src P μ w i.size v news 0) (b : Option Addr) (len cap : Nat) (hc : len ≤ cap) :
    (Builtin.append_ #[t, u] ty #[.slice b len cap, v]).run P w = .ok (.slice b len cap) w := by
  have hvs : S.vs = [] := List.eq_nil_of_length_eq_zero (by rw [S.len]; simp)
  have hf := S.first w rfl
  rw [hvs] at hf
  rcases A.hu with ⟨e', hu⟩ | hu <;> cases b <;> simp [Builtin.append_, und_some A.ht, und_some hu, sizeOf_some A.hi, S.lenOf, hc, hf, storeCells]

theorem app_room {t u e ty : TypeId} {i : TypeInfo} {z : Value} (A : AppT P t u e i z) {v : Value} {news : List AV} {n : Nat} (S : Src P μ w i.size v news n) (b : Addr) (len cap : Nat) (hc : len + n ≤ cap) {w2 : World}
    (hst : (storeCells (b.add (len * i.size)) S.vs).run P w = .ok () w2) :
    (Builtin.append_ #[t, u] ty #[.slice (some b) len cap, v]).run P w = .ok (.slice (some b) (len + n) cap) w2 := by
  have hf := S.first w rfl
  rcases A.hu with ⟨e', hu⟩ | hu <;> simp [Builtin.append_, und_some A.ht, und_some hu, sizeOf_some A.hi, S.lenOf, hc, hf, hst]

theorem app_grow {t u e ty : TypeId} {i : TypeInfo} {z : Value} (A : AppT P t u e i z) {v : Value} {news : List AV} {n : Nat} (S : Src P μ w i.size v news n) (b : Option Addr) (len cap : Nat) (hc : cap < len + n)
    (hs : small (len + n) i.bytes = true) {olds : List Value} (ho : ∀ w' : World, w'.heap = w.heap → (Builtin.firstCells i.size len (.slice b len cap)).run P w' = .ok olds.toArray w') :
    (Builtin.append_ #[t, u] ty #[.slice b len cap, v]).run P w =
      .ok (.slice (some ⟨w.heap.size, 0, none⟩) (len + n) (grownCap w (len + n) cap e))
        (w.drew.alloc (.cells (olds.toArray ++ S.vs.toArray ++ Builtin.zeroCells z.cells (grownCap w (len + n) cap e - (len + n))) e)) := by
  obtain ⟨s1, s2⟩ := small_spec hs
  have h1 : ¬ (len + n ≤ cap) := by omega
  have h63 : ¬ (9223372036854775807 < ((len : Int) + (n : Int))) := by omega
  have h48 : ¬ (281474976710656 < Builtin.nextslicecap (len + n) cap * i.bytes) := by
    have := growslice_fits (need := len + n) (old := cap) (bytes := i.bytes) (by omega) (by omega)
    omega
  have hf := S.first w.drew rfl
  have hfo := ho w.drew rfl
  rcases A.hu with ⟨e', hu⟩ | hu <;>
    (simp [Builtin.append_, und_some A.ht, und_some hu, sizeOf_some A.hi, info_some A.hi, zero_some A.hi A.hz, S.lenOf, h1, h63, h48, Question.forced, hf, hfo, newRow, grownCap]
     congr 2
     apply Array.ext'
     simp [List.append_assoc])

theorem grown_size (z : Value) (i : TypeInfo) (hz : z.cells.size = i.size) (olds nvs : List Value) (need c : Nat) (ho : olds.length + nvs.length = need * i.size) (hc : need ≤ c) :
    (olds.toArray ++ nvs.toArray ++ Builtin.zeroCells z.cells (c - need)).size = c * i.size := by
  simp only [Array.size_append, List.size_toArray, size_zeroCells, hz]
  rw [ho, ← Nat.add_mul]
  congr 1
  omega

/-- **An append.** -/
theorem append_sound (R : Rel P w0 μ H w) {t u e ty : TypeId} {i : TypeInfo} {zv : Value} (A : AppT P t u e i zv) (hzc : zv.cells.size = i.size) {xs xx : AV} {vs vx : Value}
    (hs : VR P.globals.size μ xs vs) (hx : VR P.globals.size μ xx vx) {r : AV} {H' : Hp} (h : xappend H e i.size i.bytes xs xx = some (r, H')) :
    ∃ v w' μ', (Builtin.append_ #[t, u] ty #[vs, vx]).run P w = .ok v w' ∧ Ext μ μ' ∧ NewIds H μ μ' ∧ Rel P w0 μ' H' w' ∧ VR P.globals.size μ' r v := by
  unfold xappend at h
  split at h
  · cases h
  rename_i news n hnews
  obtain ⟨S⟩ := src_of R hx hnews
  split at h
  · -- nothing
    rename_i hn
    subst hn
    split at h
    · injection h with h; injection h with h1 h2; subst h1; subst h2
      cases hs
      exact ⟨_, w, μ, app_nothing A S none 0 0 (Nat.le_refl _), Ext.refl μ, NewIds.refl H μ, R, .nils⟩
    · split at h
      · rename_i hsz
        subst hsz
        injection h with h; injection h with h1 h2; subst h1; subst h2
        cases hs
        rename_i L c hm hL hl hcap hr hn
        exact ⟨_, w, μ, app_nothing A S _ _ c hl, Ext.refl μ, NewIds.refl H μ, R, .slice c hL hl hm hr hcap hn⟩
      · cases h
    · cases h
  · rename_i hn
    split at h
    · cases h
    rename_i hcond
    simp only [not_or, Bool.not_eq_false] at hcond
    obtain ⟨hone, hszp⟩ := hcond
    split at h
    · -- onto nil
      split at h
      case isFalse => cases h
      rename_i hsm
      split at h
      case h_2 => cases h
      rename_i id H1 hnew
      injection h with h; injection h with h1 h2; subst h1; subst h2
      cases hs
      have hrun := app_grow (ty := ty) A S none 0 0 (by omega) (by simpa using hsm) (olds := []) (fun w' _ => by simp [Builtin.firstCells])
      simp only [Nat.zero_add] at hrun
      obtain ⟨s1, s2⟩ := small_spec hsm
      have hge := grownCap_ge w n 0 e
      have hle := grownCap_le_maxLen w n 0 e (by unfold maxLen; omega)
      have hsize := grown_size zv i hzc [] S.vs n (grownCap w n 0 e) (by simpa using S.len) hge
      have hslen := S.vr.length
      obtain ⟨k1, k2, k3⟩ := R.drew.new hnew (cur := ([] : List Value).toArray ++ S.vs.toArray ++ Builtin.zeroCells zv.cells (grownCap w n 0 e - n))
        (by rw [hsize, hslen, S.len]; exact Nat.mul_le_mul_right _ hge) (fun j x hj => by
          obtain ⟨v, hv, hvr⟩ := S.vr.get hj
          refine ⟨v, ?_, hvr⟩
          have hjl := (List.getElem?_eq_some_iff.1 hv).1
          rw [← Array.getElem?_toList]
          simp only [Array.toList_append, List.nil_append]
          rw [List.getElem?_append_left (by simpa using hjl)]
          exact hv)
      rw [hsize] at k1 k2 k3
      refine ⟨_, _, _, hrun, k1, k2, k3, ?_⟩
      have := VR.slice (G := P.globals.size) (i := 0) (len := n) (sz := i.size) (cap := none) (grownCap w n 0 e) (Mu.add_self μ id 0 ⟨w.drew.heap.size, 0, grownCap w n 0 e * i.size⟩) hge hle
        (by simp) (fun k hk => by cases hk) (fun _ => by simp)
      simpa using this
    · rename_i id g k len cap sz'
      split at h
      case isFalse => cases h
      rename_i hsm
      obtain ⟨hsz, hsm⟩ := hsm
      subst hsz
      obtain ⟨s1, s2⟩ := small_spec hsm
      split at h
      · cases h
      rename_i olds holds
      split at h
      · cases h
      rename_i hone'
      cases hs
      rename_i L c hm hL hl hcap hr hcn
      obtain ⟨ovs, hovs, holen, hocell⟩ := load_list R holds hL
      have hfo : ∀ w' : World, w'.heap = w.heap → (Builtin.firstCells i.size len (.slice (some ⟨L.blk, L.base + k, none⟩) len c)).run P w' = .ok ovs.toArray w' := fun w' hw' =>
        run_firstCells_some (P := P) w' _ _ _ _ _ ovs holen (fun j u hu => by rw [cell_of_heap hw']; exact hocell j u hu)
      split at h
      · -- the capacity is known
        rename_i c'
        have hcc := hcap c' rfl
        subst hcc
        split at h
        · -- there is room
          rename_i hroom
          split at h
          case h_2 => cases h
          rename_i H1 hst
          injection h with h; injection h with h1 h2; subst h1; subst h2
          obtain ⟨cur, e', c1, c2, c3, c4, c5⟩ := R.store hst hL S.vr
          have hrun := run_storeCells_at P L.blk (L.base + k + len * i.size) e' S.vs 0 cur w c1 (by rw [c2]; simpa [Nat.add_assoc] using c3) c4
          simp only [Nat.add_zero] at hrun
          have happ := app_room (ty := ty) A S ⟨L.blk, L.base + k, none⟩ len c hroom (w2 := _) (by rw [Addr.add_lit]; exact hrun)
          refine ⟨_, _, μ, happ, Ext.refl μ, NewIds.refl H μ, ?_, .slice c hL hroom hm hr (fun q hq => by injection hq) (fun hq => by cases hq)⟩
          rw [c2]
          simpa [Nat.add_assoc] using c5
        · rename_i hroom
          split at h
          case h_2 => cases h
          rename_i id' H1 hnew
          injection h with h; injection h with h1 h2; subst h1; subst h2
          have hrun := app_grow (ty := ty) A S (some ⟨L.blk, L.base + k, none⟩) len c (by omega) hsm hfo
          have hge := grownCap_ge w (len + n) c e
          have hle := grownCap_le_maxLen w (len + n) c e (by unfold maxLen; omega)
          have hsize := grown_size zv i hzc ovs S.vs (len + n) (grownCap w (len + n) c e) (by rw [holen, S.len, Nat.add_mul]) hge
          have hslen := S.vr.length
          have holen' := hovs.length
          have hboth := hovs.append S.vr
          obtain ⟨k1, k2, k3⟩ := R.drew.new hnew (cur := ovs.toArray ++ S.vs.toArray ++ Builtin.zeroCells zv.cells (grownCap w (len + n) c e - (len + n)))
            (by
              rw [hsize, List.length_append, hslen, holen', S.len, holen, ← Nat.add_mul]
              exact Nat.mul_le_mul_right _ hge) (fun j x hj => by
              obtain ⟨v, hv, hvr⟩ := hboth.get hj
              refine ⟨v, ?_, hvr⟩
              have hjl := (List.getElem?_eq_some_iff.1 hv).1
              rw [← Array.getElem?_toList]
              simp only [Array.toList_append]
              rw [List.getElem?_append_left (by simpa using hjl)]
              exact hv)
          rw [hsize] at k1 k2 k3
          refine ⟨_, _, _, hrun, k1, k2, k3, ?_⟩
          have := VR.slice (G := P.globals.size) (i := 0) (len := len + n) (sz := i.size) (cap := none) (grownCap w (len + n) c e) (Mu.add_self μ id' 0 ⟨w.drew.heap.size, 0, grownCap w (len + n) c e * i.size⟩) hge hle
            (by simp) (fun k hk => by cases hk) (fun _ => by simp)
          simpa using this
      · -- it is not
        split at h
        case isFalse => cases h
        rename_i hk0
        subst hk0
        split at h
        case h_2 => cases h
        rename_i b hb
        split at h
        case isFalse => cases h
        rename_i hbo
        obtain ⟨hown, he⟩ := hbo
        subst he
        injection h with h; injection h with h1 h2; subst h1; subst h2
        have hcn' := hcn rfl
        simp only [Nat.zero_add] at hcn' hr
        have hH : H.set id { b with cells := b.cells.take (len * i.size) ++ news.map (·, b.gen + 1), gen := b.gen + 1 } = H.set id (grownVB b (len * i.size) news) := rfl
        have hslen := S.vr.length
        by_cases hroom : len + n ≤ c
        · have hfit : len * i.size + S.vs.length ≤ L.size := by
            rw [S.len, ← Nat.add_mul, ← hcn']
            exact Nat.mul_le_mul_right _ hroom
          obtain ⟨cur, c1, c2, c3, c4, c5, c6⟩ := R.grow_here hb hown hL holds S.vr hfit
          have hvone : ∀ v ∈ S.vs, v.oneCell' = true := by
            intro v hv
            obtain ⟨j, hj, rfl⟩ := List.getElem_of_mem hv
            have hjx : j < news.length := by omega
            obtain ⟨q, hq, hvr⟩ := S.vr.get (List.getElem?_eq_getElem hjx)
            rw [List.getElem?_eq_getElem hj] at hq
            injection hq with hq
            rw [hq]
            exact (AV.one_cells hvr (allOne_get hone (List.getElem_mem hjx))).1
          have hrun := run_storeCells_at P L.blk (L.base + 0 + len * i.size) b.elem S.vs 0 cur w c1 (by rw [c2, c3]; simpa using hfit) hvone
          simp only [Nat.add_zero] at hrun
          have happ := app_room (ty := ty) A S ⟨L.blk, L.base + 0, none⟩ len c hroom (w2 := _) (by rw [Addr.add_lit]; simpa using hrun)
          refine ⟨_, _, _, happ, c4, c5, ?_, ?_⟩
          · rw [hH, c2]
            simpa using c6
          · exact .slice c (Mu.add_self μ id (b.gen + 1) L) hroom hm (by simpa using hr) (fun q hq => by cases hq) (fun _ => by simpa using hcn')
        · have hrun := app_grow (ty := ty) A S (some ⟨L.blk, L.base + 0, none⟩) len c (by omega) hsm hfo
          have hge := grownCap_ge w (len + n) c b.elem
          have hle := grownCap_le_maxLen w (len + n) c b.elem (by unfold maxLen; omega)
          have hsize := grown_size zv i hzc ovs S.vs (len + n) (grownCap w (len + n) c b.elem) (by rw [holen, S.len, Nat.add_mul]) hge
          obtain ⟨k1, k2, k3⟩ := R.drew.grow_new hb hown hL holds hovs S.vr (Builtin.zeroCells zv.cells (grownCap w (len + n) c b.elem - (len + n)))
          rw [hsize] at k1 k2 k3
          refine ⟨_, _, _, hrun, k1, k2, k3, ?_⟩
          have := VR.slice (G := P.globals.size) (i := 0) (len := len + n) (sz := i.size) (cap := none) (grownCap w (len + n) c b.elem) (Mu.add_self μ id (b.gen + 1) ⟨w.drew.heap.size, 0, grownCap w (len + n) c b.elem * i.size⟩) hge hle
            (by simp) (fun k hk => by cases hk) (fun _ => by simp)
          simpa using this
    · cases h

end
end Ev

/- One operation, calls too: what it leaves. -/
set_option autoImplicit false
set_option linter.unusedSimpArgs false
set_option linter.unusedVariables false
namespace Ev
open Go

section
variable {P : Program} {w0 : World} {μ : Mu} {H : Hp} {w : World} {T : List AV} {a : Act}

/-- **What is made is what the model makes.** -/
theorem make_sound (hG : Glob P μ) (hT : TR P.globals.size μ T a.tmps) {o : Oper} {i : IOp} (hc : cOp P o.op = some i) {e' : Nat} {cells : List AV} {f : Pos → AV} (h : xmake (evArg T) i = some (e', cells, f)) :
    MakeAt P μ a o e' cells f := by
  cases hop : o.op
  case alloc e =>
    rw [hop] at hc
    simp only [cOp] at hc
    obtain ⟨z, hz, rfl⟩ := Option.map_eq_some_iff.1 hc
    exact es_alloc hop hz h
  case box e y =>
    rw [hop] at hc
    simp only [cOp, Option.some.injEq] at hc
    subst hc
    exact es_box hG hT hop h
  case buildSlice t n parts =>
    rw [hop] at hc
    simp only [cOp] at hc
    split at hc
    · rename_i e ht
      simp only [Option.bind_eq_bind] at hc
      obtain ⟨i', hi, hc⟩ := Option.bind_eq_some_iff.1 hc
      obtain ⟨z, hz, hc⟩ := Option.bind_eq_some_iff.1 hc
      split at hc
      · rename_i hcond
        obtain ⟨l, hl, rfl⟩ := Option.map_eq_some_iff.1 hc
        exact es_bslice hG hT hop ht hi hz hcond.1 hcond.2 hl h
      · cases hc
    · cases hc
  case makeSlice t y z =>
    rw [hop] at hc
    simp only [cOp] at hc
    split at hc
    · rename_i e ht
      simp only [Option.bind_eq_bind] at hc
      obtain ⟨i', hi, hc⟩ := Option.bind_eq_some_iff.1 hc
      obtain ⟨zs, hz, hc⟩ := Option.bind_eq_some_iff.1 hc
      split at hc
      · rename_i hpos
        injection hc with hc; subst hc
        exact es_mkslice hG hT hop ht hi hz hpos h
      · cases hc
    · cases hc
  all_goals
    exfalso
    have hno : (∀ e z, i ≠ .alloc e z) ∧ (∀ e y, i ≠ .box e y) ∧ (∀ e s n z l, i ≠ .bslice e s n z l) ∧ (∀ e s b z l c, i ≠ .mkslice e s b z l c) := by
      rw [hop] at hc
      revert hc
      clear h hop
      simp only [cOp]
      (repeat' split) <;> intro hc <;> refine ⟨?_, ?_, ?_, ?_⟩ <;> intros <;> intro hi <;> subst hi <;>
        first
          | contradiction
          | (simp [Option.map_eq_some_iff, Option.bind_eq_some_iff, Option.bind_eq_bind] at hc; done)
    obtain ⟨n1, n2, n3, n4⟩ := hno
    cases i <;> (try (simp [xmake] at h; done))
    · exact n1 _ _ rfl
    · exact n2 _ _ rfl
    · exact n3 _ _ _ _ _ rfl
    · exact n4 _ _ _ _ _ _ rfl

/-- **What is written is what the model writes.** -/
theorem write_sound (R : Rel P w0 μ H w) (hT : TR P.globals.size μ T a.tmps) {o : Oper} {i : IOp} (hc : cOp P o.op = some i) {x : AV} {H' : Hp} (h : xwrite (evArg T) H i = some (x, H')) :
    EffAt P w0 μ H a o w x H' := by
  cases hop : o.op
  case store t y z =>
    rw [hop] at hc
    simp only [cOp] at hc
    obtain ⟨i', hi, rfl⟩ := Option.map_eq_some_iff.1 hc
    exact es_store R hT hop hi h
  case call c =>
    rw [hop] at hc
    simp only [cOp] at hc
    split at hc
    case h_7 => 
      rename_i hcal
      split at hc
      · rename_i s y t u hargs htys
        split at hc
        · rename_i e ht
          simp only [Option.bind_eq_bind] at hc
          obtain ⟨i', hi, hc⟩ := Option.bind_eq_some_iff.1 hc
          obtain ⟨z, hz, hc⟩ := Option.bind_eq_some_iff.1 hc
          obtain ⟨i2, zv, hi2, hiz, _, hzl, _, hzs⟩ := zeroCells_spec (μ := μ) hz
          rw [hi] at hi2
          injection hi2 with hi2
          subst hi2
          have hu : (∃ e', P.underlying u = some (.slice e')) ∨ P.underlying u = some .string := by
            split at hc
            · rename_i e' he'; exact .inl ⟨e', he'⟩
            · rename_i he'; exact .inr he'
            · cases hc
          have hi' : i = .append e z.length i'.bytes (cArg P s) (cArg P y) := by
            split at hc <;> first | (injection hc with hc; exact hc.symm) | cases hc
          subst hi'
          simp only [xwrite] at h
          rw [hzl] at h
          obtain ⟨v, w', μ', q1, q2, q3, q4, q5⟩ := append_sound (ty := o.type) R ⟨ht, hu, hi, hiz⟩ hzs (arg_vr R.glob hT s) (arg_vr R.glob hT y) h
          refine ⟨v, w', μ', .inl ?_, q2, q3, q4, q5⟩
          have ha : c.args = #[s, y] := by apply Array.ext'; simpa using hargs
          have ht' : c.argTypes = #[t, u] := by apply Array.ext'; simpa using htys
          simp [execOp, hop, resolve, hcal, invoke, builtin, ha, ht', q1]
        · cases hc
      · cases hc
    all_goals
      exfalso
      (repeat' split at hc) <;> first
        | cases hc; done
        | (injection hc with hc; subst hc; simp [xwrite] at h; done)
  all_goals
    exfalso
    have hno : (∀ n y z, i ≠ .store n y z) ∧ (∀ e s b y z, i ≠ .append e s b y z) := by
      rw [hop] at hc
      revert hc
      clear h hop
      simp only [cOp]
      (repeat' split) <;> intro hc <;> refine ⟨?_, ?_⟩ <;> intros <;> intro hi <;> subst hi <;>
        first
          | contradiction
          | (simp [Option.map_eq_some_iff, Option.bind_eq_some_iff, Option.bind_eq_bind] at hc; done)
    obtain ⟨n5, n6⟩ := hno
    cases i <;> (try (simp [xwrite] at h; done))
    · exact n5 _ _ _ rfl
    · exact n6 _ _ _ _ _ rfl

theorem eff_sound (R : Rel P w0 μ H w) (hT : TR P.globals.size μ T a.tmps) {o : Oper} {i : IOp} (hc : cOp P o.op = some i) {x : AV} {H' : Hp} (h : xeff (evArg T) H i = some (x, H')) :
    EffAt P w0 μ H a o w x H' := by
  unfold xeff at h
  split at h
  · rename_i e cells f hm
    split at h
    · rename_i id H1 hn
      injection h with h; injection h with h1 h2; subst h1; subst h2
      obtain ⟨vs, val, hvs, hrun, hval⟩ := make_sound R.glob hT hc hm
      obtain ⟨h1, h2, h3⟩ := new_vrs R hn hvs
      exact ⟨_, _, _, .inl (hrun w), h1, h2, h3, hval _ _ _ (Mu.add_self _ _ _ _)⟩
    · cases h
  · exact write_sound R hT hc h

end

/-! ### Calls -/

/-- What is asked of a call that the evaluator says leaves 'r' and 'H''. -/
def CPost (P : Program) (w0 : World) (μ : Mu) (H : Hp) (r : CR) (H' : Hp) (e : Ending) (w' : World) : Prop :=
  ∃ μ', Ext μ μ' ∧ NewIds H μ μ' ∧ Rel P w0 μ' H' w' ∧
    match r, e with
    | .ret x, .returned v => VR P.globals.size μ' x v
    | .pan x, .panicked ch => ∃ v, ch = [{ v, recovered := false }] ∧ VR P.globals.size μ' x v
    | _, _ => False

/-- A function called with these arguments: its Go body, or what stands in for one. -/
def FuncAt (P : Program) (f : Nat) (args : Array Value) (w : World) (R : Ending → World → Prop) : Prop :=
  match (callFunc f args).run P w with
  | .ok (.enter g as) w' => Calls P g as w' R
  | .ok (.value v) w' => R (.returned v) w'
  | _ => False

def CallOk (P : Program) (w0 : World) (call : Call) : Prop :=
  ∀ (f : Nat) (args : List AV) (H : Hp) (r : CR) (H' : Hp), call f args H = some (r, H') →
    ∀ (μ : Mu) (w : World) (vs : List Value), Rel P w0 μ H w → VRs P.globals.size μ args vs → FuncAt P f vs.toArray w (CPost P w0 μ H r H')

section
variable {P : Program} {w0 : World} {μ : Mu} {H : Hp} {w : World} {T : List AV} {a : Act}

/-- What has to be shown behind an operation. -/
structure After (P : Program) (w0 : World) (μ : Mu) (H : Hp) (a : Act) (o : Oper) (r : CR) (H' : Hp) (K : Act → World → Prop) (Q : Exit → Act → World → Prop) : Prop where
  ret : ∀ x, r = .ret x → ∀ μ' w' v, Ext μ μ' → NewIds H μ μ' → Rel P w0 μ' H' w' → VR P.globals.size μ' x v → K (a.put o.dst v) w'
  pan : ∀ x, r = .pan x → ∀ μ' w' v, Ext μ μ' → NewIds H μ μ' → Rel P w0 μ' H' w' → VR P.globals.size μ' x v → Q (.panic [{ v, recovered := false }]) a w'

theorem upon_func {o : Oper} {K : Act → World → Prop} {Q : Exit → Act → World → Prop} {r : CR} {H' : Hp} (A : After P w0 μ H a o r H' K Q) {f : Nat} {args : Array Value}
    (h : FuncAt P f args w (CPost P w0 μ H r H')) (hrun : (execOp a.eval o).run P w = (callFunc f args).run P w) : o.wp P a w K Q := by
  unfold FuncAt at h
  unfold Oper.wp
  rw [hrun]
  split at h
  · rename_i g as w1 hr
    rw [hr]
    refine Calls.mono h fun e w' hp => ?_
    obtain ⟨μ', h1, h2, h3, h4⟩ := hp
    cases r <;> cases e <;> simp only at h4
    · exact A.ret _ rfl μ' w' _ h1 h2 h3 h4
    · obtain ⟨v, rfl, hv⟩ := h4
      exact A.pan _ rfl μ' w' v h1 h2 h3 hv
  · rename_i v w1 hr
    rw [hr]
    obtain ⟨μ', h1, h2, h3, h4⟩ := h
    cases r <;> simp only at h4
    exact A.ret _ rfl μ' _ _ h1 h2 h3 h4
  · exact h.elim

theorem natFind_mem {t f : Nat} : ∀ {l : List (Nat × Nat)}, natFind t l = some f → (t, f) ∈ l
  | [], h => by simp [natFind] at h
  | (c, d) :: l, h => by
    simp only [natFind] at h
    split at h
    · rename_i hc
      injection h with h
      subst h; subst hc
      exact List.mem_cons_self ..
    · exact List.mem_cons_of_mem _ (natFind_mem h)

theorem method_run {name : String} {t f : Nat} (h : natFind t (methodRows P name) = some f) (v : Value) (w : World) (n : Nat) : (method (n + 1) t v name).run P w = .ok (f, v) w := by
  have hm := natFind_mem h
  unfold methodRows at hm
  obtain ⟨t', _, ht'⟩ := List.mem_filterMap.1 hm
  unfold methodRow at ht'
  split at ht' <;> (try cases ht'; done)
  rename_i i hi
  split at ht' <;> (try cases ht'; done)
  rename_i m hfm
  split at ht' <;> (try cases ht'; done)
  · rename_i f' e hp hf hu
    injection ht' with ht'; injection ht' with e1 e2; subst e1; subst e2
    have hp' : m.path.toList = [] := by simpa using hp
    simp [method, info_some hi, hfm, hp', follow, hf, receiverAt, und_some hu, Place.get]
  · rename_i f' d hno hp hf hu
    injection ht' with ht'; injection ht' with e1 e2; subst e1; subst e2
    have hp' : m.path.toList = [] := by simpa using hp
    simp only [method, Sem.run_bind, info_some hi, Result.andThen_ok, hfm, hp', follow, Sem.run_pure, hf, receiverAt, und_some hu]
    cases d <;> first
      | exact absurd hu (by simpa using hno _ _ hp hf)
      | simp [Place.get]

theorem plain_sound (R : Rel P w0 μ H w) (hT : TR P.globals.size μ T a.tmps) {o : Oper} {i : IOp} (hc : cOp P o.op = some i) {r : CR} {H' : Hp}
    (h : (match xpure (evArg T) i with
      | some v => some (CR.ret v, H)
      | none => match xload (evArg T) H i with
        | some v => some (CR.ret v, H)
        | none => match xeff (evArg T) H i with
          | some (v, H') => some (CR.ret v, H')
          | none => none) = some (r, H')) {K : Act → World → Prop} {Q : Exit → Act → World → Prop} (A : After P w0 μ H a o r H' K Q) : o.wp P a w K Q := by
  unfold Oper.wp
  split at h
  · rename_i x hx
    injection h with h; injection h with h1 h2; subst h1; subst h2
    obtain ⟨v, hv, hvr⟩ := pure_sound R.glob hT hc hx
    rw [hv w]
    exact A.ret x rfl μ w v (Ext.refl μ) (NewIds.refl H μ) R hvr
  · split at h
    · rename_i x hx
      injection h with h; injection h with h1 h2; subst h1; subst h2
      obtain ⟨v, hv, hvr⟩ := load_sound R hT hc hx
      rw [hv]
      exact A.ret x rfl μ w v (Ext.refl μ) (NewIds.refl H μ) R hvr
    · split at h
      · rename_i x H1 hx
        injection h with h; injection h with h1 h2; subst h1; subst h2
        obtain ⟨v, w', μ', hv, h1, h2, h3, h4⟩ := eff_sound R hT hc hx
        rcases hv with hv | ⟨hv, rfl⟩
        · rw [hv]
          exact A.ret x rfl μ' w' v h1 h2 h3 h4
        · rw [hv]
          exact A.ret x rfl μ' w' undef h1 h2 h3 h4
      · cases h

theorem step_sound {call : Call} (hok : CallOk P w0 call) (R : Rel P w0 μ H w) (hT : TR P.globals.size μ T a.tmps) {o : Oper} {i : IOp} (hc : cOp P o.op = some i) {r : CR} {H' : Hp}
    (h : xstep call T H i = some (r, H')) {K : Act → World → Prop} {Q : Exit → Act → World → Prop} (A : After P w0 μ H a o r H' K Q) : o.wp P a w K Q := by
  cases hop : o.op
  case call c =>
    rw [hop] at hc
    simp only [cOp] at hc
    split at hc
    · -- a function by its name
      rename_i f hcal
      injection hc with hc; subst hc
      simp only [xstep] at h
      have hvs := args_vr R.glob hT c.args.toList
      refine upon_func A (hok _ _ _ _ _ h μ w _ R hvs) ?_
      have ha : (c.args.toList.map a.eval).toArray = c.args.map a.eval := by apply Array.ext'; simp
      rw [ha]
      simp [execOp, hop, resolve, hcal, Act.eval, Deferred.ofValue, invoke]
    · -- a function's value
      rename_i y hno hcal
      injection hc with hc; subst hc
      simp only [xstep] at h
      split at h <;> (try cases h; done)
      rename_i f first cap hy
      have hcv := arg_vr R.glob hT y
      rw [hy] at hcv
      generalize hv : a.eval y = v at hcv
      cases hcv
      rename_i us vs h1 h2
      have hvs := (h1.append (args_vr R.glob hT c.args.toList)).append h2
      refine upon_func A (hok _ _ _ _ _ h μ w _ R hvs) ?_
      have ha : (us.toList ++ c.args.toList.map a.eval ++ vs.toList).toArray = us ++ c.args.map a.eval ++ vs := by apply Array.ext'; simp
      rw [ha]
      simp [execOp, hop, resolve, hcal, hv, Deferred.ofValue, invoke]
    · -- a method
      rename_i y name hcal
      injection hc with hc; subst hc
      simp only [xstep] at h
      split at h <;> (try cases h; done)
      rename_i t x hy
      split at h <;> (try cases h; done)
      rename_i f hf
      have hcv := arg_vr R.glob hT y
      rw [hy] at hcv
      generalize hv : a.eval y = v at hcv
      cases hcv
      rename_i u hu
      have hvs : VRs P.globals.size μ (x :: (c.args.toList.map (cArg P)).map (evArg T)) (u :: c.args.toList.map a.eval) := .cons hu (args_vr R.glob hT c.args.toList)
      refine upon_func A (hok _ _ _ _ _ h μ w _ R hvs) ?_
      have ha : (u :: c.args.toList.map a.eval).toArray = #[u] ++ c.args.map a.eval := by apply Array.ext'; simp
      rw [ha]
      have hm := fun w => method_run hf u w (P.types.size + 99)
      have hd : P.types.size + Made.depth = P.types.size + 99 + 1 := rfl
      have hx : (#[Value.iface t u] ++ c.args.map a.eval).extract 1 (#[Value.iface t u] ++ c.args.map a.eval).size = c.args.map a.eval := by
        apply Array.ext'
        simp only [Array.toList_extract, Array.toList_append, List.extract, Array.size_append]
        simp [List.take_of_length_le]
      have h0 : (#[Value.iface t u] ++ c.args.map a.eval)[0]? = some (Value.iface t u) := by
        rw [Array.getElem?_append_left (by simp)]; rfl
      simp only [execOp, hop, resolve, hcal, hv, Sem.run_bind, Sem.run_pure, Result.andThen_ok, invoke, h0, hx, callMethod, run_program, hd, hm]
    all_goals
      have hno : (∀ f l, i ≠ .callf f l) ∧ (∀ f l, i ≠ .callv f l) ∧ (∀ s f l, i ≠ .inv s f l) ∧ (∀ y, i ≠ .panic y) ∧ (∀ d y, i ≠ .again d y) := by
        clear h
        revert hc
        (repeat' split) <;> intro hc <;> refine ⟨?_, ?_, ?_, ?_, ?_⟩ <;> intros <;> intro hi <;> subst hi <;>
          first
            | contradiction
            | (simp [Option.map_eq_some_iff, Option.bind_eq_some_iff, Option.bind_eq_bind] at hc; done)
      obtain ⟨n1, n2, n3, n4, n5⟩ := hno
      have hnc : xstep call T H i = (match xpure (evArg T) i with
        | some v => some (CR.ret v, H)
        | none => match xload (evArg T) H i with
          | some v => some (CR.ret v, H)
          | none => match xeff (evArg T) H i with
            | some (v, H') => some (CR.ret v, H')
            | none => none) := by
        cases i <;> first
          | rfl
          | exact absurd rfl (n1 _ _)
          | exact absurd rfl (n2 _ _)
          | exact absurd rfl (n3 _ _ _)
          | exact absurd rfl (n4 _)
          | exact absurd rfl (n5 _ _)
      rw [hnc] at h
      refine plain_sound R hT ?_ h A
      rw [hop]
      simp only [cOp, *]
  case panic y =>
    rw [hop] at hc
    simp only [cOp, Option.some.injEq] at hc
    subst hc
    simp only [xstep] at h
    split at h <;> (try cases h; done)
    rename_i t x hy
    injection h with h; injection h with h1 h2; subst h1; subst h2
    have hcv := arg_vr R.glob hT y
    rw [hy] at hcv
    generalize hv : a.eval y = v at hcv
    cases hcv
    rename_i u hu
    unfold Oper.wp
    have hrun : (execOp a.eval o).run P w = .halt (.panic (.iface t u)) w := by simp [execOp, hop, hv, Instr.panic]
    rw [hrun]
    exact A.pan _ rfl μ w _ (Ext.refl μ) (NewIds.refl H μ) R (.iface hu)
  all_goals
    have hnc : xstep call T H i = (match xpure (evArg T) i with
      | some v => some (CR.ret v, H)
      | none => match xload (evArg T) H i with
        | some v => some (CR.ret v, H)
        | none => match xeff (evArg T) H i with
          | some (v, H') => some (CR.ret v, H')
          | none => none) := by
      have hno : (∀ f l, i ≠ .callf f l) ∧ (∀ f l, i ≠ .callv f l) ∧ (∀ s f l, i ≠ .inv s f l) ∧ (∀ y, i ≠ .panic y) ∧ (∀ d y, i ≠ .again d y) := by
        rw [hop] at hc
        revert hc
        clear h hop
        simp only [cOp]
        (repeat' split) <;> intro hc <;> refine ⟨?_, ?_, ?_, ?_, ?_⟩ <;> intros <;> intro hi <;> subst hi <;>
          first
            | contradiction
            | (simp [Option.map_eq_some_iff, Option.bind_eq_some_iff, Option.bind_eq_bind] at hc; done)
      obtain ⟨n1, n2, n3, n4, n5⟩ := hno
      cases i <;> first
        | rfl
        | exact absurd rfl (n1 _ _)
        | exact absurd rfl (n2 _ _)
        | exact absurd rfl (n3 _ _ _)
        | exact absurd rfl (n4 _)
        | exact absurd rfl (n5 _ _)
    rw [hnc] at h
    exact plain_sound R hT hc h A

end
end Ev
