/- A part of the proof: Ip5. -/
import Derived.Test.YtdmbkbmenahpnaaGreatDoorIq5
import Derived.Test.YtdmbkbmenahpnaaGreatDoorFd5
set_option linter.unusedVariables false
set_option maxRecDepth 100000
namespace Go.Proofs.YtdmbkbmenahpnaaGreatDoor
open Ev Go.RowKit Go.Shelf

structure ERow where
  kd : Int
  nu : Int
  ty : Int
  nm : ByteArray
  ea : Int
  eb : Int
  ap : Int
  deriving Inhabited

def ERow.cell (r : ERow) : Nat → Value
  | 0 => .int .i64 r.kd
  | 1 => .int .i64 r.nu
  | 2 => .int .i64 r.ty
  | 3 => .string r.nm
  | 4 => .int .i64 r.ea
  | 5 => .int .i64 r.eb
  | _ => .int .i64 r.ap
def ERow.vals (r : ERow) : List Value := [.int .i64 r.kd, .int .i64 r.nu, .int .i64 r.ty, .string r.nm, .int .i64 r.ea, .int .i64 r.eb, .int .i64 r.ap]
def erows : List ERow → List Value
  | [] => []
  | r :: rs => r.vals ++ erows rs

theorem nodes_rows {G : Nat} {μ : Mu} : ∀ {cells : List AV} {vs : List Value}, nodesOk cells = true → VRs G μ cells vs → ∃ rows, vs = erows rows := by
  intro cells
  induction cells using nodesOk.induct with
  | case1 =>
    intro vs h hv
    cases hv
    exact ⟨[], rfl⟩
  | case2 a b c d e f g rest ih =>
    intro vs h hv
    simp only [nodesOk] at h
    cases hv with
    | cons h0 hv =>
      cases hv with
      | cons h1 hv =>
        cases hv with
        | cons h2 hv =>
          cases hv with
          | cons h3 hv =>
            cases hv with
            | cons h4 hv =>
              cases hv with
              | cons h5 hv =>
                cases hv with
                | cons h6 hv =>
                  obtain ⟨rows, rfl⟩ := ih h hv
                  cases h0; cases h1; cases h2; cases h4; cases h5; cases h6
                  cases h3
                  rename_i bb
                  exact ⟨⟨_, _, _, bb, _, _, _⟩ :: rows, rfl⟩
  | case3 l h1 h2 =>
    intro vs h hv
    unfold nodesOk at h
    split at h
    · exact absurd rfl h1
    · exact absurd rfl (h2 _ _ _ _ _ _ _ _)
    · cases h

theorem erows_len : ∀ (rows : List ERow), (erows rows).length = rows.length * 7
  | [] => rfl
  | r :: rs => by simp only [erows, List.length_append, erows_len rs, List.length_cons, ERow.vals, List.length_nil]; omega

theorem erows_get : ∀ (rows : List ERow) (k j : Nat), k < rows.length → j < 7 → (erows rows)[k * 7 + j]? = some ((rows.getD k default).cell j)
  | [], k, j, hk, _ => by simp at hk
  | r :: rs, 0, j, _, hj => by
    simp only [erows, Nat.zero_mul, Nat.zero_add]
    rw [List.getElem?_append_left (by simp [ERow.vals]; omega)]
    match j, hj with
    | 0, _ => rfl
    | 1, _ => rfl
    | 2, _ => rfl
    | 3, _ => rfl
    | 4, _ => rfl
    | 5, _ => rfl
    | 6, _ => rfl
    | n + 7, h => omega
  | r :: rs, k + 1, j, hk, hj => by
    simp only [erows]
    rw [List.getElem?_append_right (by simp [ERow.vals]; omega)]
    have : (k + 1) * 7 + j - r.vals.length = k * 7 + j := by simp [ERow.vals]; omega
    rw [this, erows_get rs k j (by simpa using hk) hj]
    simp

theorem anys_len : ∀ n, (anys n).length = n
  | 0 => rfl
  | n + 1 => by simp [anys, anys_len n]
theorem anys_any : ∀ (n i : Nat) (x : AV), (anys n)[i]? = some x → x = .any
  | 0, i, x, h => by simp [anys] at h
  | n + 1, 0, x, h => by simp [anys] at h; exact h.symm
  | n + 1, i + 1, x, h => anys_any n i x (by simpa [anys] using h)

/-- A new block that a function has made and filled. -/
theorem Rel.made {P : Program} {w0 : World} {μ : Mu} {H : Hp} {w w' : World} (R : Rel P w0 μ H w) (hB : Below w.heap.size w w') {n e : Nat} (arr : Array Value) (hsz : arr.size = n) (hblk : w'.heap[w.heap.size]? = some (.cells arr e (0, 0)))
    {id : Pos} {H' : Hp} (h : H.new e (anys n) = some (id, H')) : Ext μ (μ.add id 0 ⟨w.heap.size, 0, n⟩) ∧ NewIds H μ (μ.add id 0 ⟨w.heap.size, 0, n⟩) ∧ Rel P w0 (μ.add id 0 ⟨w.heap.size, 0, n⟩) H' w' := by
  obtain ⟨h1, h2, h3⟩ := R.new h (cur := arr) (by rw [anys_len, hsz]; exact Nat.le_refl _) (fun i x hx => by
    have hi : i < arr.size := by
      have := (List.getElem?_eq_some_iff.1 hx).1
      rw [anys_len] at this
      omega
    rw [anys_any n i x hx]
    exact ⟨arr[i], by simp [hi], .any _⟩)
  rw [hsz] at h1 h2 h3
  refine ⟨h1, h2, Rel.of_below h3 ⟨hB.os, hB.tape, hB.output, ?_, fun k hk => ?_⟩⟩
  · have := (Array.getElem?_eq_some_iff.1 hblk).1
    rw [World.size_alloc]
    omega
  · rw [World.size_alloc] at hk
    rcases Nat.lt_or_ge k w.heap.size with hlt | hge
    · rw [hB.block k hlt, Below.heap_alloc _ _ _ hlt]
    · have : k = w.heap.size := by omega
      subst this
      rw [hblk, World.alloc_heap_new]

/-- What inOld leaves. -/
theorem inOld_ok {w0 : World} : PrimOk Tryz.prog w0 151 (inOldPrim 4) := by
  intro call _ _ args H r H' h
  obtain ⟨c, hb⟩ : ∃ c, (Tryz.f151).body = some c := ⟨_, rfl⟩
  have enter := fun {w : World} {args : Array Value} {Q : Ending → World → Prop} (hq : Calls Tryz.prog 151 args w Q) => FuncAt.of_calls Tryz.func151 hb (by kernel_rfl) hq
  unfold inOldPrim at h
  split at h
  · rename_i id g i n cap sz
    split at h
    case isFalse => cases h
    rename_i hcond
    obtain ⟨rfl, hn⟩ := hcond
    have hn' : n ≤ 1099511627776 := Nat.ble_eq.mp hn
    split at h
    case h_2 => cases h
    rename_i cells hcells
    split at h
    case isFalse => cases h
    rename_i hok
    split at h
    case h_2 => cases h
    rename_i id' H1 hnew
    injection h with h; injection h with h1 h2; subst h1; subst h2
    refine ⟨Dom.new hnew, fun μ w vs R hvs => ?_⟩
    cases hvs with
    | cons ha hvs =>
      cases hvs
      cases ha
      rename_i L c2 hm hL hlen hcap hfit hnc
      obtain ⟨us, hus, hul, hcell⟩ := load_list R hcells hL
      obtain ⟨rows, rfl⟩ := nodes_rows hok hus
      rw [erows_len] at hul
      have hrl : rows.length = n := by omega
      have hblk := R.blk_lt hL
      refine enter (callsIn_wide (n := 4) |>.1 ?_)
      refine CallsIn.mono (inOld_in _ (fun _ => trivial) 4 trivial trivial trivial rfl (by omega) (some ⟨L.blk, L.base + i, none⟩) n c2 (by omega) (fun k j => (rows.getD k default).cell j) (fun k => (rows.getD k default).kd) (fun k => (rows.getD k default).nu) (fun k => (rows.getD k default).ty)
        (fun k => (rows.getD k default).nm) (fun k => (rows.getD k default).ea) (fun k => (rows.getD k default).eb) (fun k => (rows.getD k default).ap) w (fun _ => rfl) (fun _ => rfl) (fun _ => rfl) (fun _ => rfl) (fun _ => rfl) (fun _ => rfl) (fun _ => rfl) (fun h => by cases h)
        (.inr ⟨L.blk, L.base + i, rfl, hblk, fun k j hk hj => ?_⟩)) ?_
      · have := hcell (k * 7 + j) _ (erows_get rows k j (by omega) hj)
        rw [Addr.add_lit] at this
        rw [Nat.add_assoc]
        exact this
      · rintro e w' ⟨hB, ⟨arr, hsz, _, hbk⟩, rfl⟩
        obtain ⟨h1, h2, h3⟩ := Rel.made R hB arr hsz hbk hnew
        refine ⟨_, h1, h2, h3, ?_⟩
        have := VR.slice (G := Tryz.prog.globals.size) (i := 0) (len := n) (sz := 1) (cap := some n) n (Mu.add_self μ id' 0 ⟨w.heap.size, 0, n⟩) (Nat.le_refl _) (by unfold maxLen; omega) (by simp) (fun k hk => by injection hk) (fun hk => by cases hk)
        simpa using this
  · split at h
    case h_2 => cases h
    rename_i id' H1 hnew
    injection h with h; injection h with h1 h2; subst h1; subst h2
    refine ⟨Dom.new hnew, fun μ w vs R hvs => ?_⟩
    cases hvs with
    | cons ha hvs =>
      cases hvs
      cases ha
      refine enter (callsIn_wide (n := 4) |>.1 ?_)
      refine CallsIn.mono (inOld_in _ (fun _ => trivial) 4 trivial trivial trivial rfl (by omega) none 0 0 (by omega) (fun k j => (default : ERow).cell j) (fun k => (default : ERow).kd) (fun k => (default : ERow).nu) (fun k => (default : ERow).ty)
        (fun k => (default : ERow).nm) (fun k => (default : ERow).ea) (fun k => (default : ERow).eb) (fun k => (default : ERow).ap) w (fun _ => rfl) (fun _ => rfl) (fun _ => rfl) (fun _ => rfl) (fun _ => rfl) (fun _ => rfl) (fun _ => rfl) (fun h => rfl)
        (.inl ⟨rfl, rfl⟩)) ?_
      rintro e w' ⟨hB, ⟨arr, hsz, _, hbk⟩, rfl⟩
      obtain ⟨h1, h2, h3⟩ := Rel.made R hB arr hsz hbk hnew
      refine ⟨_, h1, h2, h3, ?_⟩
      have := VR.slice (G := Tryz.prog.globals.size) (i := 0) (len := 0) (sz := 1) (cap := some 0) 0 (Mu.add_self μ id' 0 ⟨w.heap.size, 0, 0⟩) (Nat.le_refl _) (by unfold maxLen; omega) (by simp) (fun k hk => by injection hk) (fun hk => by cases hk)
      simpa using this
  · cases h
end Go.Proofs.YtdmbkbmenahpnaaGreatDoor
