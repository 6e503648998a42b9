/- A part of the proof: Fd5. -/
import Derived.Test.YtdmbkbmenahpnaaGreatDoorBk5
import Derived.Test.YtdmbkbmenahpnaaGreatDoorVp
set_option linter.unusedVariables false
set_option maxRecDepth 100000
namespace Go.Proofs.YtdmbkbmenahpnaaGreatDoor
open Ev Go.RowKit Go.Shelf

theorem Rel.of_below {P : Program} {w0 : World} {μ : Mu} {H : Hp} {w w' : World} (R : Rel P w0 μ H w) (h : Below w.heap.size w w') : Rel P w0 μ H w' := by
  refine ⟨fun b hb => ?_, Nat.le_trans R.size h.size, h.os.trans R.os, h.tape.trans R.tape, h.output.trans R.output, ?_, R.apart, R.glob⟩
  · rw [h.block b (Nat.lt_of_lt_of_le hb R.size)]; exact R.old b hb
  · intro id g L hL
    obtain ⟨vb, cur, e, fr, h1, h2, h3, h4⟩ := R.place id g L hL
    exact ⟨vb, cur, e, fr, h1, h2, by rw [h.block _ (R.blk_lt hL)]; exact h3, h4⟩

theorem findRes_none_vr {G : Nat} {μ : Mu} : VR G μ (findRes none) (.tuple #[.agg #[.string .empty, .int .i64 0, .int .i64 0, .bool false, .bool false, .int .i64 0], .bool false]) := by
  refine .tup (.cons (.agg ?_) (.cons (.bool _) .nil))
  have h0 := VR.str (G := G) (μ := μ) ByteArray.empty
  exact .cons h0 (.cons (.int _ _) (.cons (.int _ _) (.cons (.bool _) (.cons (.bool _) (.cons (.int _ _) .nil)))))

theorem hit_eq (s : ByteArray) (r : NRow) : (r.nm.toList == s.toList) = r.hit s.data.toList := bytes_eq r.nm s

/-- What find leaves. -/
theorem find_ok {w0 : World} : PrimOk Tryz.prog w0 75 (findPrim 11) := by
  intro call _ _ args H r H' h
  obtain ⟨c, hb⟩ : ∃ c, (Tryz.f75).body = some c := ⟨_, rfl⟩
  have enter := fun {w : World} {args : Array Value} {Q : Ending → World → Prop} (hq : Calls Tryz.prog 75 args w Q) => FuncAt.of_calls Tryz.func75 hb (by kernel_rfl) hq
  unfold findPrim at h
  split at h
  case h_2 => cases h
  rename_i id g i s
  split at h
  · -- no names
    rename_i hl
    injection h with h; injection h with h1 h2; subst h1; subst h2
    refine ⟨Dom.refl _, fun μ w vs R hvs => ?_⟩
    cases hvs with
    | cons ha hvs =>
      cases hvs with
      | cons hx hvs =>
        cases hvs
        cases ha
        rename_i L hL
        cases hx
        rename_i b
        obtain ⟨u, hu, hur⟩ := R.cell hl hL
        cases hur
        refine enter (callsIn_wide (n := 4) |>.1 ?_)
        refine CallsIn.mono (find_in _ 4 trivial trivial trivial rfl (by omega) L.blk (L.base + i) b none 0 0 (by omega) (fun k j => (default : NRow).cell j) (fun _ => (default : NRow).nm) (fun _ => (default : NRow).ty) (fun _ => (default : NRow).sz) (fun _ => (default : NRow).gl)
          (fun _ => (default : NRow).pa) (fun _ => (default : NRow).dp) w (fun _ => rfl) (fun _ => rfl) (fun _ => rfl) (fun _ => rfl) (fun _ => rfl) (fun _ => rfl) (fun _ => rfl) (by rw [Nat.add_assoc]; exact hu) (.inl ⟨rfl, rfl⟩)) ?_
        rintro e w' ⟨hB, ⟨k, pre, ⟨k', hk', _⟩, _⟩ | ⟨_, rfl⟩⟩
        · omega
        · exact ⟨μ, Ext.refl μ, NewIds.refl H μ, Rel.of_below R hB, findRes_none_vr⟩
  · rename_i id' g' i' n cap sz hl
    split at h
    case isFalse => cases h
    rename_i hsz
    subst hsz
    split at h
    case h_2 => cases h
    rename_i cells hcells
    obtain ⟨res, hres, he⟩ := Option.map_eq_some_iff.1 h
    injection he with h1 h2; subst h1; subst h2
    refine ⟨Dom.refl _, fun μ w vs R hvs => ?_⟩
    cases hvs with
    | cons ha hvs =>
      cases hvs with
      | cons hx hvs =>
        cases hvs
        cases ha
        rename_i L hL
        cases hx
        rename_i b
        obtain ⟨u, hu, hur⟩ := R.cell hl hL
        cases hur
        rename_i L2 c2 hm hL2 hlen hcap hfit hnc
        obtain ⟨us, hus, hul, hcell⟩ := load_list R hcells hL2
        obtain ⟨rows, rfl, rfl⟩ := lastHit_rows hres hus
        rw [rowVals_len] at hul
        have hrl : rows.length = n := by omega
        have hblk := R.blk_lt hL2
        refine enter (callsIn_wide (n := 4) |>.1 ?_)
        refine CallsIn.mono (find_in _ 4 trivial trivial trivial rfl (by omega) L.blk (L.base + i) b (some ⟨L2.blk, L2.base + i', none⟩) n c2 (by unfold maxLen at hm; omega) (fun k j => (rows.getD k default).cell j) (fun k => (rows.getD k default).nm) (fun k => (rows.getD k default).ty) (fun k => (rows.getD k default).sz)
          (fun k => (rows.getD k default).gl) (fun k => (rows.getD k default).pa) (fun k => (rows.getD k default).dp) w (fun _ => rfl) (fun _ => rfl) (fun _ => rfl) (fun _ => rfl) (fun _ => rfl) (fun _ => rfl) (fun h => by cases h) (by rw [Nat.add_assoc]; exact hu)
          (.inr ⟨L2.blk, L2.base + i', rfl, hblk, fun k j hk hj => ?_⟩)) ?_
        · have := hcell (k * 6 + j) _ (rowVals_get rows k j (by omega) hj)
          rw [Addr.add_lit] at this
          rw [Nat.add_assoc]
          exact this
        · have hdown : ∀ (m k j : Nat), k < m → (j ∈ downto n m ↔ ∃ i, i < m ∧ j = n - 1 - i) := by
            intro m k j _
            unfold downto
            rw [List.mem_map]
            constructor
            · rintro ⟨i, hi, rfl⟩; exact ⟨i, List.mem_range.1 hi, rfl⟩
            · rintro ⟨i, hi, rfl⟩; exact ⟨i, List.mem_range.2 hi, rfl⟩
          rintro e w' ⟨hB, ⟨k, pre, ⟨k', hk', hpre⟩, ⟨pre', hpre', hmiss⟩, hhit, rfl⟩ | ⟨hmiss, rfl⟩⟩
          · rw [hpre, downto_succ] at hpre'
            obtain ⟨hp1, hp2⟩ := List.append_inj' hpre' rfl
            have hk0 : k = n - 1 - k' := by injection hp2 with h; exact h.symm
            subst hp1
            have hmiss' : ∀ j, k < j → j < n → (rows.getD j default).hit b.data.toList = false := by
              intro j hj hjn
              rw [← hit_eq]
              refine hmiss j ?_
              unfold downto
              exact List.mem_map.2 ⟨n - 1 - j, List.mem_range.2 (by omega), by omega⟩
            rw [hit_eq] at hhit
            refine ⟨μ, Ext.refl μ, NewIds.refl H μ, Rel.of_below R hB, ?_⟩
            rcases lastRow_spec (s := b.data.toList) rows none with ⟨_, q2⟩ | ⟨k1, q1, q2, q3, q4⟩
            · have := q2 k (by omega)
              rw [this] at hhit
              cases hhit
            · have hkk : k1 = k := by
                rcases Nat.lt_trichotomy k1 k with h | h | h
                · have := q4 k h (by omega)
                  rw [this] at hhit; cases hhit
                · exact h
                · have := hmiss' k1 h (by omega)
                  rw [this] at q3; cases q3
              rw [q2, hkk]
              exact .tup (.cons (.agg (NRow.av_vr _)) (.cons (.bool _) .nil))
          · refine ⟨μ, Ext.refl μ, NewIds.refl H μ, Rel.of_below R hB, ?_⟩
            have hmiss' : ∀ j, j < n → (rows.getD j default).hit b.data.toList = false := by
              intro j hjn
              rw [← hit_eq]
              refine hmiss j ?_
              unfold downto
              exact List.mem_map.2 ⟨n - 1 - j, List.mem_range.2 (by omega), by omega⟩
            rcases lastRow_spec (s := b.data.toList) rows none with ⟨q1, _⟩ | ⟨k1, q1, q2, q3, q4⟩
            · rw [q1]
              exact findRes_none_vr
            · have := hmiss' k1 (by omega)
              rw [this] at q3; cases q3
  · cases h
end Go.Proofs.YtdmbkbmenahpnaaGreatDoor
