/- Operations without memory, on. -/
import Derived.Test.YtdmbkbmenahpnaaGreatDoorVc
import Derived.Laws.Slices
import Derived.Laws.BytesString
/- What the evaluator reckons without memory: parts, slices, the greatest and the least, assertions. -/
set_option autoImplicit false
set_option linter.unusedSimpArgs false
set_option linter.unusedVariables false
namespace Ev
open Go

theorem splice_list (off : Nat) : ∀ (vs : List Value) (k : Nat) (cells : Array Value), off + k + vs.length ≤ cells.size →
    ((vs.zipIdx k).foldl (fun (cs : Array Value) (p : Value × Nat) => cs.setIfInBounds (off + p.2) p.1) cells).toList =
      cells.toList.take (off + k) ++ vs ++ cells.toList.drop (off + k + vs.length)
  | [], k, cells, _ => by simp
  | v :: vs, k, cells, h => by
    have h1 : off + k < cells.size := by simp at h; omega
    have h2 : off + (k + 1) + vs.length ≤ (cells.setIfInBounds (off + k) v).size := by simp at h ⊢; omega
    rw [List.zipIdx_cons, List.foldl_cons, splice_list off vs (k + 1) _ h2]
    have e1 : (cells.toList.set (off + k) v).take (off + (k + 1)) = cells.toList.take (off + k) ++ [v] := by
      rw [show off + (k + 1) = off + k + 1 by omega, List.take_add_one, List.getElem?_set_self (by simpa using h1), List.take_set_of_le (Nat.le_refl _)]
      rfl
    have e2 : (cells.toList.set (off + k) v).drop (off + (k + 1) + vs.length) = cells.toList.drop (off + (k + 1) + vs.length) := List.drop_set_of_lt (by omega)
    have e3 : off + (k + 1) + vs.length = off + k + (vs.length + 1) := by omega
    rw [e3] at e2
    simp only [Array.toList_setIfInBounds, e1, e3, e2, List.length_cons, List.append_assoc, List.singleton_append, List.cons_append, List.nil_append]

section
variable {P : Program} {μ : Mu} {T : List AV} {a : Act}

theorem partsAt_spec {f : Nat → Option (Nat × Nat)} : ∀ {parts : List (Nat × Operand)} {l : List (Nat × Nat × IArg)}, partsAt P f parts = some l →
    l.length = parts.length ∧ ∀ (i : Nat) (p : Nat × Operand), parts[i]? = some p → ∃ off sz, f p.1 = some (off, sz) ∧ l[i]? = some (off, sz, cArg P p.2) := by
  intro parts
  induction parts with
  | nil => intro l h; simp [partsAt] at h; subst h; simp
  | cons q parts ih =>
    intro l h
    obtain ⟨j, x⟩ := q
    simp only [partsAt, Option.bind_eq_bind, Option.pure_def] at h
    cases hf : f j with
    | none => simp [hf] at h
    | some os =>
      obtain ⟨off, sz⟩ := os
      cases hr : partsAt P f parts with
      | none => simp [hf, hr] at h
      | some r =>
        simp [hf, hr] at h
        subst h
        obtain ⟨h1, h2⟩ := ih hr
        refine ⟨by simp [h1], fun i p hp => ?_⟩
        cases i with
        | zero => simp at hp; subst hp; exact ⟨off, sz, hf, rfl⟩
        | succ i => simpa using h2 i p (by simpa using hp)

theorem fill_run (hG : Glob P μ) (hT : TR P.globals.size μ T a.tmps) {f : Nat → Option (Nat × Nat)} :
    ∀ {parts : List (Nat × Operand)} {l : List (Nat × Nat × IArg)}, partsAt P f parts = some l → ∀ {zs cs : List AV} {zc : Array Value}, VRs P.globals.size μ zs zc.toList →
    cellsOfList (evArg T) l zs = some cs → ∃ cc, Instr.fill f zc (parts.map fun p => (p.1, a.eval p.2)) = some cc ∧ VRs P.globals.size μ cs cc.toList := by
  intro parts
  induction parts with
  | nil =>
    intro l h zs cs zc hz hc
    simp [partsAt] at h
    subst h
    simp [cellsOfList] at hc
    subst hc
    exact ⟨zc, rfl, hz⟩
  | cons q parts ih =>
    intro l h zs cs zc hz hc
    obtain ⟨j, x⟩ := q
    simp only [partsAt, Option.bind_eq_bind, Option.pure_def] at h
    cases hf : f j with
    | none => simp [hf] at h
    | some os =>
      obtain ⟨off, sz⟩ := os
      cases hr : partsAt P f parts with
      | none => simp [hf, hr] at h
      | some r =>
        simp [hf, hr] at h
        subst h
        simp only [cellsOfList] at hc
        cases hv : (evArg T (cArg P x)).cells with
        | none => simp [hv] at hc
        | some vs =>
          simp only [hv] at hc
          split at hc
          · rename_i hcond
            have hvr := cells_vr (arg_vr hG hT x) hv
            have hlen := hvr.length
            have hzl := hz.length
            have hsz : (a.eval x).cells.size = sz := by rw [← hcond.1, hlen]; simp
            have hfit : off + (a.eval x).cells.size ≤ zc.size := by
              have : zs.length = zc.size := by simpa using hzl
              omega
            have hsp := splice_list off (a.eval x).cells.toList 0 zc (by simpa using hfit)
            simp only [Nat.add_zero] at hsp
            let zc' := (a.eval x).cells.zipIdx.foldl (fun cs (p : Value × Nat) => cs.setIfInBounds (off + p.2) p.1) zc
            have hz' : VRs P.globals.size μ (zs.take off ++ vs ++ zs.drop (off + sz)) zc'.toList := by
              have e : zc'.toList = zc.toList.take off ++ (a.eval x).cells.toList ++ zc.toList.drop (off + (a.eval x).cells.toList.length) := by
                rw [← hsp]
                show ((a.eval x).cells.zipIdx.foldl _ zc).toList = _
                rw [← Array.foldl_toList, Array.toList_zipIdx]
              rw [e]
              have hl2 : (a.eval x).cells.toList.length = sz := by simpa using hsz
              rw [hl2]
              exact ((hz.take off).append hvr).append (hz.drop (off + sz))
            obtain ⟨cc, h1, h2⟩ := ih hr hz' hc
            refine ⟨cc, ?_, h2⟩
            simp only [List.map_cons, Instr.fill, hf]
            have hno : ((a.eval x).cells.size ≠ sz || off + (a.eval x).cells.size > zc.size) = false := by simp [hsz]; omega
            rw [hno]
            simp only [Bool.false_eq_true, if_false]
            exact h1
          · cases hc

/-- The zero of a type, cell by cell. -/
theorem zeroCells_spec {t : TypeId} {z : List AV} (h : zeroCellsOf P t = some z) :
    ∃ i v, P.info? t = some i ∧ i.zero = some v ∧ allOne z = true ∧ z.length = i.size ∧ VRs P.globals.size μ z v.cells.toList ∧ v.cells.size = i.size := by
  unfold zeroCellsOf zeroOf at h
  split at h
  · rename_i cs hcs
    split at h
    · rename_i hok
      injection h with h; subst h
      simp only [Bool.and_eq_true, beq_iff_eq] at hok
      cases hi : P.info? t with
      | none => simp [hi] at hcs
      | some i =>
        cases hz : i.zero with
        | none => simp [hi, hz] at hcs
        | some v =>
          simp [hi, hz] at hcs
          have hvr := cells_vr (ofConst_vr P.globals.size μ v) hcs
          have hsz : P.cellsOf t = i.size := by simp [Program.cellsOf, hi]
          refine ⟨i, v, rfl, hz, hok.1, by rw [hok.2, hsz], hvr, ?_⟩
          have := hvr.length
          simp at this
          omega
    · cases h
  · cases h

theorem zero_some {t : TypeId} {i : TypeInfo} {v : Value} (h : P.info? t = some i) (hz : i.zero = some v) (w : World) : (zeroValue t).run P w = .ok v w := by
  simp [zeroValue, info_some h, hz]

theorem mapM_places (fs : List Field) (hfs : ∀ f ∈ fs, ∃ i, P.info? f.type = some i) (w : World) :
    (fs.mapM fun f => (do pure (f.offset, ← Go.sizeOf f.type) : Sem (Nat × Nat))).run P w = .ok (fs.map fun f => (f.offset, P.cellsOf f.type)) w := by
  induction fs with
  | nil => simp
  | cons f fs ih =>
    obtain ⟨i, hi⟩ := hfs f (List.mem_cons_self ..)
    have hc : P.cellsOf f.type = i.size := by simp [Program.cellsOf, hi]
    have ih' := ih (fun g hg => hfs g (List.mem_cons_of_mem _ hg))
    rw [List.mapM_cons]
    simp only [Sem.run_bind, sizeOf_some hi, Result.andThen_ok, Sem.run_pure, ih', List.map_cons, hc]

theorem ps_build (hG : Glob P μ) (hT : TR P.globals.size μ T a.tmps) {o : Oper} {t : TypeId} {parts : Array (Nat × Operand)} (ho : o.op = .build t parts) {z : List AV} (hz : zeroCellsOf P t = some z)
    {l : List (Nat × Nat × IArg)} {r : AV}
    (hp : (∃ fs, P.underlying t = some (.struct fs) ∧ (fs.toList.all fun f => (P.info? f.type).isSome) = true ∧ partsAt P (fun i => ((fs.toList.map fun f => (f.offset, P.cellsOf f.type)).toArray)[i]?) parts.toList = some l) ∨
      (∃ n e i, P.underlying t = some (.array n e) ∧ P.info? e = some i ∧ partsAt P (fun k => some (k * i.size, i.size)) parts.toList = some l))
    (h : xpure (evArg T) (.build z l) = some r) : Still P μ a o r := by
  obtain ⟨i, v, hi, hiz, _, _, hzv, _⟩ := zeroCells_spec (μ := μ) hz
  simp only [xpure] at h
  cases hc : cellsOfList (evArg T) l z with
  | none => simp [hc] at h
  | some cs =>
    simp [hc] at h
    subst h
    rcases hp with ⟨fs, hu, hall, hpa⟩ | ⟨n, e, ie, hu, hie, hpa⟩
    · obtain ⟨cc, h1, h2⟩ := fill_run hG hT hpa hzv hc
      refine ⟨.agg cc, fun w => ?_, .agg h2⟩
      have hm := mapM_places (P := P) fs.toList (fun f hf => by
        have := List.all_eq_true.1 hall f hf
        exact Option.isSome_iff_exists.1 this) w
      have hm' : (fs.mapM fun f => (do pure (f.offset, ← Go.sizeOf f.type) : Sem (Nat × Nat))).run P w = .ok (fs.toList.map fun f => (f.offset, P.cellsOf f.type)).toArray w := by
        rw [Array.mapM_eq_mapM_toList]
        simp only [Sem.run_map, hm, Result.andThen_ok]
      have h1' : Instr.fill (fun x => ((fs.toList.map fun f => (f.offset, P.cellsOf f.type)).toArray)[x]?) v.cells (parts.map fun p => (p.1, a.eval p.2)).toList = some cc := by simpa using h1
      simp only [execOp, ho, Instr.build, Sem.run_bind, zero_some hi hiz, Result.andThen_ok, und_some hu, hm', h1', Sem.run_pure]
    · obtain ⟨cc, h1, h2⟩ := fill_run hG hT hpa hzv hc
      refine ⟨.agg cc, fun w => ?_, .agg h2⟩
      have h1' : Instr.fill (fun k => some (k * ie.size, ie.size)) v.cells (parts.map fun p => (p.1, a.eval p.2)).toList = some cc := by simpa using h1
      simp only [execOp, ho, Instr.build, Sem.run_bind, zero_some hi hiz, Result.andThen_ok, und_some hu, sizeOf_some hie, h1', Sem.run_pure]

/-! ### Slices -/
theorem bound_vr (hG : Glob P μ) (hT : TR P.globals.size μ T a.tmps) {d n : Nat} {ox : Option Operand} (h : bound (evArg T) d (ox.map (cArg P)) = some n) :
    (ox = none ∧ n = d) ∨ ∃ x k, ox = some x ∧ a.eval x = .int k (n : Int) := by
  cases ox with
  | none => simp [bound] at h; exact .inl ⟨rfl, h.symm⟩
  | some x =>
    simp [bound] at h
    obtain ⟨k, hk⟩ := inr_vr (arg_vr hG hT x) h
    exact .inr ⟨x, k, rfl, hk⟩

theorem sb_run {k : IntKind} {n y : Nat} (h : n ≤ y) (c : BoundsCode) (w : World) : (Instr.sliceBound (.int k (n : Int)) y c).run P w = .ok n w := by
  have := run_sliceBound (P := P) w k (n : Int) y c (by omega) (by omega)
  simpa using this

theorem bounds_run (hG : Glob P μ) (hT : TR P.globals.size μ T a.tmps) {isSlice : Bool} {len cap l h m : Nat} {lo hi mx : Option Operand}
    (hl : bound (evArg T) 0 (lo.map (cArg P)) = some l) (hh : bound (evArg T) len (hi.map (cArg P)) = some h) (hm : bound (evArg T) cap (mx.map (cArg P)) = some m)
    (h1 : l ≤ h) (h2 : h ≤ m) (h3 : m ≤ cap) (hmx : mx.isSome = true → hi.isSome = true) (w : World) :
    (Instr.sliceBounds isSlice len cap (lo.map a.eval) (hi.map a.eval) (mx.map a.eval)).run P w = .ok (l, h, m) w := by
  rcases bound_vr hG hT hl with ⟨rfl, rfl⟩ | ⟨x, kx, rfl, ex⟩ <;>
  rcases bound_vr hG hT hh with ⟨rfl, rfl⟩ | ⟨y, ky, rfl, ey⟩ <;>
  rcases bound_vr hG hT hm with ⟨rfl, rfl⟩ | ⟨z, kz, rfl, ez⟩ <;>
  first
    | (simp at hmx; done)
    | simp [Instr.sliceBounds, *, sb_run]

theorem ps_slice (hG : Glob P μ) (hT : TR P.globals.size μ T a.tmps) {o : Oper} {t e : TypeId} {x : Operand} {lo hi mx : Option Operand} (ho : o.op = .slice t x lo hi mx)
    (ht : P.underlying t = some (.slice e)) {i : TypeInfo} (hie : P.info? e = some i) (hmx : mx.isSome = true → hi.isSome = true) {r : AV}
    (h : xpure (evArg T) (.slice i.size (cArg P x) (lo.map (cArg P)) (hi.map (cArg P)) (mx.map (cArg P))) = some r) : Still P μ a o r := by
  have hc := arg_vr hG hT x
  simp only [xpure, aslice] at h
  have fin : ∀ (b : Option Addr) (len cap l hh m : Nat) (av : AV), a.eval x = .slice b len cap →
      bound (evArg T) 0 (lo.map (cArg P)) = some l → bound (evArg T) len (hi.map (cArg P)) = some hh → bound (evArg T) cap (mx.map (cArg P)) = some m →
      l ≤ hh → hh ≤ m → m ≤ cap →
      VR P.globals.size μ av (.slice (if m = l then b else b.map (·.add (l * i.size))) (hh - l) (m - l)) → Still P μ a o av := by
    intro b len cap l hh m av hv h1 h2 h3 h4 h5 h6 hvr
    refine ⟨_, fun w => ?_, hvr⟩
    have hb := bounds_run (isSlice := true) hG hT h1 h2 h3 h4 h5 h6 hmx w
    simp [execOp, ho, Instr.sliceAt, und_some ht, Instr.slice, hv, hb, sizeOf_some hie]
  split at h
  · -- nil
    rename_i hb
    rw [hb] at hc
    split at h <;> (try cases h)
    rename_i h1 h2 h3
    generalize hv : a.eval x = v at hc
    cases hc
    exact fin none 0 0 0 0 0 .nils hv h1 h2 h3 (Nat.le_refl _) (Nat.le_refl _) (Nat.le_refl _) (by simpa using VR.nils)
  · rename_i id g b len cap sz hb
    rw [hb] at hc
    generalize hv : a.eval x = v at hc
    cases hc
    rename_i L c hm hL hl hcap hr hn
    split at h <;> (try cases h)
    rename_i hsz
    subst hsz
    have base : ∀ k, (({ block := L.blk, off := L.base + b, spot := none } : Addr).add k) = ⟨L.blk, L.base + (b + k), none⟩ := by
      intro k; rw [Addr.add_lit, Nat.add_assoc]
    split at h
    · -- the capacity is known
      rename_i c'
      have hcc := hcap c' rfl
      subst hcc
      split at h <;> (try cases h)
      rename_i l hh m e1 e2 e3
      split at h <;> (try cases h)
      rename_i hcond
      have hmul : b + l * i.size + (m - l) * i.size ≤ L.size := by
        have hle : m * i.size ≤ c * i.size := Nat.mul_le_mul_right _ hcond.2.2
        have : l * i.size + (m - l) * i.size = m * i.size := by rw [← Nat.add_mul]; congr 1; omega
        omega
      refine fin _ len c l hh m _ hv e1 e2 e3 hcond.1 hcond.2.1 hcond.2.2 ?_
      by_cases hml : m = l
      · simp only [hml, if_true]
        have e0 : l - l = 0 := Nat.sub_self l
        have e1 : hh - l = 0 := by omega
        rw [e0, e1]
        exact VR.slice 0 hL (Nat.zero_le _) (Nat.zero_le _) (by simp; omega) (fun k hk => by injection hk) (fun hk => by cases hk)
      · simp only [hml, if_false, Option.map_some, base]
        exact VR.slice (m - l) hL (by omega) (by omega) hmul (fun k hk => by injection hk) (fun hk => by cases hk)
    · -- it is not
      have hn' := hn rfl
      split at h
      · rename_i l hh e1 e2 e3
        split at h <;> (try cases h)
        rename_i hcond
        have e3' : bound (evArg T) c (mx.map (cArg P)) = some c := by rw [e3]; rfl
        have hlc : l ≤ c := by omega
        have hmul : b + l * i.size + (c - l) * i.size = L.size := by
          have : l * i.size + (c - l) * i.size = c * i.size := by rw [← Nat.add_mul]; congr 1; omega
          omega
        refine fin _ len c l hh c _ hv e1 e2 e3' hcond.1 (by omega) (Nat.le_refl _) ?_
        by_cases hml : c = l
        · have hl0 : l = 0 := by omega
          subst hl0
          simp only [hml, if_true, Nat.zero_mul, Nat.add_zero]
          subst hml
          exact VR.slice 0 hL (by omega) (Nat.zero_le _) (by simp at hmul ⊢; omega) (fun k hk => by cases hk) (fun _ => by simpa using hmul)
        · simp only [hml, if_false, Option.map_some, base]
          exact VR.slice (c - l) hL (by omega) (by omega) (by omega) (fun k hk => by cases hk) (fun _ => hmul)
      · rename_i l hh y e1 e2 e3
        split at h <;> (try cases h)
        rename_i m em
        split at h <;> (try cases h)
        rename_i hcond
        have e3' : bound (evArg T) c (mx.map (cArg P)) = some m := by rw [e3]; exact em
        have hmul : b + l * i.size + (m - l) * i.size ≤ L.size := by
          have hle : m * i.size ≤ c * i.size := Nat.mul_le_mul_right _ (by omega)
          have : l * i.size + (m - l) * i.size = m * i.size := by rw [← Nat.add_mul]; congr 1; omega
          omega
        refine fin _ len c l hh m _ hv e1 e2 e3' hcond.1 hcond.2.1 (by omega) ?_
        by_cases hml : m = l
        · simp only [hml, if_true]
          have e0 : l - l = 0 := Nat.sub_self l
          have e1 : hh - l = 0 := by omega
          rw [e0, e1]
          exact VR.slice 0 hL (Nat.zero_le _) (Nat.zero_le _) (by simp; omega) (fun k hk => by injection hk) (fun hk => by cases hk)
        · simp only [hml, if_false, Option.map_some, base]
          exact VR.slice (m - l) hL (by omega) (by omega) hmul (fun k hk => by injection hk) (fun hk => by cases hk)
      · cases h
  · cases h

theorem ps_sslice (hG : Glob P μ) (hT : TR P.globals.size μ T a.tmps) {o : Oper} {t : TypeId} {x : Operand} {lo hi : Option Operand} (ho : o.op = .slice t x lo hi none)
    (ht : P.underlying t = some .string) {r : AV}
    (h : xpure (evArg T) (.sslice (cArg P x) (lo.map (cArg P)) (hi.map (cArg P))) = some r) : Still P μ a o r := by
  have hc := arg_vr hG hT x
  simp only [xpure, asslice] at h
  split at h <;> (try cases h)
  rename_i s hb
  rw [hb] at hc
  generalize hv : a.eval x = v at hc
  cases hc
  rename_i bs
  split at h <;> (try cases h)
  rename_i l hh e1 e2
  split at h <;> (try cases h)
  rename_i hcond
  have hlen : bs.data.toList.length = bs.size := by simp
  rw [hlen] at e2 hcond
  refine ⟨.string (bs.extract l hh), fun w => ?_, ?_⟩
  · have hbr := bounds_run (isSlice := false) (mx := none) hG hT e1 e2 (show bound (evArg T) bs.size _ = some bs.size from rfl) hcond.1 hcond.2 (Nat.le_refl _) (by simp) w
    simp only [Option.map_none] at hbr
    simp [execOp, ho, Instr.sliceAt, und_some ht, Instr.slice, hv, hbr]
  · have := VR.str (G := P.globals.size) (μ := μ) (bs.extract l hh)
    have e : (bs.extract l hh).data.toList = (bs.data.toList.drop l).take (hh - l) := by
      simp [ByteArray.data_extract, Array.toList_extract, List.extract]
    rwa [e] at this

end
end Ev

/- All that is reckoned without memory: one theorem. -/
set_option autoImplicit false
set_option linter.unusedSimpArgs false
set_option linter.unusedVariables false
namespace Ev
open Go

section
variable {P : Program} {μ : Mu} {T : List AV} {a : Act}

theorem max_run {G : Nat} : ∀ {xs : List AV} {vs : List Value} {m r : Int} {k : IntKind}, VRs G μ xs vs → amax m xs k = some r → ∀ w : World,
    (vs.foldlM Builtin.max2 (.int k m)).run P w = .ok (.int k r) w
  | _, _, m, r, k, .nil, h, w => by simp [amax] at h; subst h; simp
  | x :: xs, v :: vs, m, r, k, .cons hx hs, h, w => by
    cases hx <;> simp only [amax] at h <;> (try cases h; done)
    split at h <;> (try cases h)
    rename_i hk
    subst hk
    have := max_run hs h w
    simp only [List.foldlM_cons, Builtin.max2, Sem.run_bind, Sem.run_pure, Result.andThen_ok]
    exact this

theorem min_run {G : Nat} : ∀ {xs : List AV} {vs : List Value} {m r : Int} {k : IntKind}, VRs G μ xs vs → amin m xs k = some r → ∀ w : World,
    (vs.foldlM Builtin.min2 (.int k m)).run P w = .ok (.int k r) w
  | _, _, m, r, k, .nil, h, w => by simp [amin] at h; subst h; simp
  | x :: xs, v :: vs, m, r, k, .cons hx hs, h, w => by
    cases hx <;> simp only [amin] at h <;> (try cases h; done)
    split at h <;> (try cases h)
    rename_i hk
    subst hk
    have := min_run hs h w
    simp only [List.foldlM_cons, Builtin.min2, Sem.run_bind, Sem.run_pure, Result.andThen_ok]
    exact this

theorem ps_mx (hG : Glob P μ) (hT : TR P.globals.size μ T a.tmps) {o : Oper} {x : Operand} {xs : List Operand} {c : Go.Call} (ho : o.op = .call c) (hcal : c.callee = .builtin .max)
    (hargs : c.args.toList = x :: xs) {r : AV} (h : xpure (evArg T) (.mx (cArg P x) (xs.map (cArg P))) = some r) : Still P μ a o r := by
  have hc := arg_vr hG hT x
  have hcs := args_vr hG hT xs
  simp only [xpure] at h
  split at h <;> (try cases h)
  rename_i k m hb
  rw [hb] at hc
  generalize hv : a.eval x = v at hc
  cases hc
  cases hm : amax m ((xs.map (cArg P)).map (evArg T)) k with
  | none => rw [hm] at h; simp at h
  | some q =>
    rw [hm] at h
    simp at h
    subst h
    refine ⟨.int k q, fun w => ?_, VR.int _ _⟩
    have hr := max_run (P := P) hcs hm w
    have hl : (c.args.map a.eval).toList = .int k m :: xs.map a.eval := by simp [hargs, hv]
    simp only [execOp, ho, resolve, hcal, Sem.run_bind, Sem.run_pure, Result.andThen_ok, invoke, builtin, Builtin.max_, hl, hr]

theorem ps_mn (hG : Glob P μ) (hT : TR P.globals.size μ T a.tmps) {o : Oper} {x : Operand} {xs : List Operand} {c : Go.Call} (ho : o.op = .call c) (hcal : c.callee = .builtin .min)
    (hargs : c.args.toList = x :: xs) {r : AV} (h : xpure (evArg T) (.mn (cArg P x) (xs.map (cArg P))) = some r) : Still P μ a o r := by
  have hc := arg_vr hG hT x
  have hcs := args_vr hG hT xs
  simp only [xpure] at h
  split at h <;> (try cases h)
  rename_i k m hb
  rw [hb] at hc
  generalize hv : a.eval x = v at hc
  cases hc
  cases hm : amin m ((xs.map (cArg P)).map (evArg T)) k with
  | none => rw [hm] at h; simp at h
  | some q =>
    rw [hm] at h
    simp at h
    subst h
    refine ⟨.int k q, fun w => ?_, VR.int _ _⟩
    have hr := min_run (P := P) hcs hm w
    have hl : (c.args.map a.eval).toList = .int k m :: xs.map a.eval := by simp [hargs, hv]
    simp only [execOp, ho, resolve, hcal, Sem.run_bind, Sem.run_pure, Result.andThen_ok, invoke, builtin, Builtin.min_, hl, hr]

theorem zeroOf_spec {t : TypeId} {z : AV} (h : zeroOf P t = some z) : ∃ i v, P.info? t = some i ∧ i.zero = some v ∧ VR P.globals.size μ z v := by
  unfold zeroOf at h
  cases hi : P.info? t with
  | none => simp [hi] at h
  | some i =>
    cases hz : i.zero with
    | none => simp [hi, hz] at h
    | some v =>
      simp [hi, hz] at h
      subst h
      exact ⟨i, v, rfl, hz, ofConst_vr _ _ v⟩

theorem pair_vr {G : Nat} {x : AV} {v : Value} (h : VR G μ x v) (b : Bool) : VR G μ (.tup [x, .bool b]) (.tuple #[v, .bool b]) :=
  .tup (.cons h (.cons (.bool b) .nil))

theorem ps_tass (hG : Glob P μ) (hT : TR P.globals.size μ T a.tmps) {o : Oper} {t u : TypeId} {x : Operand} (ho : o.op = .typeAssert x u t true)
    {d : TypeDesc} (hd : P.underlying t = some d) (hni : ∀ ms, d ≠ .interface ms) {z : AV} (hz : zeroOf P t = some z) {r : AV}
    (h : xpure (evArg T) (.tass t z (cArg P x)) = some r) : Still P μ a o r := by
  have hc := arg_vr hG hT x
  obtain ⟨i, v, hi, hiz, hzv⟩ := zeroOf_spec (μ := μ) hz
  simp only [xpure] at h
  split at h <;> (try cases h)
  · rename_i t' av hb
    rw [hb] at hc
    generalize hv : a.eval x = v at hc
    cases hc
    rename_i u' hu'
    split at h
    · rename_i htt
      injection h with h; subst h; subst htt
      refine ⟨_, fun w => ?_, pair_vr hu' true⟩
      cases d <;> first
        | exact absurd rfl (hni _)
        | simp [execOp, ho, Instr.typeAssert, und_some hd, hv]
    · rename_i htt
      injection h with h; subst h
      refine ⟨_, fun w => ?_, pair_vr hzv false⟩
      cases d <;> first
        | exact absurd rfl (hni _)
        | simp [execOp, ho, Instr.typeAssert, und_some hd, hv, htt, zero_some hi hiz]
  · rename_i hb
    rw [hb] at hc
    generalize hv : a.eval x = v at hc
    cases hc
    refine ⟨_, fun w => ?_, pair_vr hzv false⟩
    cases d <;> first
      | exact absurd rfl (hni _)
      | simp [execOp, ho, Instr.typeAssert, und_some hd, hv, zero_some hi hiz]

theorem missing_none (want : Array (String × TypeId)) (got : Array Method) :
    (want.toList.all fun w => got.any fun m => m.name == w.1 && m.sig == w.2) = true → Instr.missingMethod want got = none := by
  intro h
  have hm : (want.toList.filter fun (p : String × TypeId) => !got.any fun m => m.name == p.1 && m.sig == p.2) = [] := by
    rw [List.filter_eq_nil_iff]
    intro p hp
    have := List.all_eq_true.1 h p hp
    simp [this]
  unfold Instr.missingMethod
  have hm' : (List.filter (fun x => match x with | (name, sig) => !got.any fun m => m.name == name && m.sig == sig) want.toList) = [] := hm
  simp only [hm']
  rfl

theorem least_some : ∀ (l : List String), l ≠ [] → ∃ m, Instr.least l = some m
  | [], h => absurd rfl h
  | s :: r, _ => ⟨_, rfl⟩

theorem least_parts (q : String → Bool) (g : String → String) (l : List String) (hne : l ≠ []) :
    ∃ m, (Instr.least (l.partition q).2 <|> Instr.least ((l.partition q).1.map g)) = some m := by
  have hp : (l.partition q).1 = l.filter q ∧ (l.partition q).2 = l.filter (fun x => !q x) := by
    rw [List.partition_eq_filter_filter]; exact ⟨rfl, rfl⟩
  cases h1 : Instr.least (l.partition q).2 with
  | some m => exact ⟨m, rfl⟩
  | none =>
    have e2 : (l.partition q).2 = [] := by
      rcases Classical.em ((l.partition q).2 = []) with h | h
      · exact h
      · obtain ⟨m, hm⟩ := least_some _ h
        rw [hm] at h1; cases h1
    have e1 : (l.partition q).1 ≠ [] := by
      intro e1
      rw [hp.1] at e1
      rw [hp.2] at e2
      rw [List.filter_eq_nil_iff] at e1 e2
      cases l with
      | nil => exact hne rfl
      | cons s l =>
        have a1 := e1 s (List.mem_cons_self ..)
        have a2 := e2 s (List.mem_cons_self ..)
        cases hq : q s <;> simp [hq] at a1 a2
    obtain ⟨m, hm⟩ := least_some ((l.partition q).1.map g) (by simpa using e1)
    exact ⟨m, by simp only [hm]; rfl⟩

theorem missing_some (want : Array (String × TypeId)) (got : Array Method) :
    (want.toList.all fun w => got.any fun m => m.name == w.1 && m.sig == w.2) = false → ∃ m, Instr.missingMethod want got = some m := by
  intro h
  have hne : (List.filter (fun x => match x with | (name, sig) => !got.any fun m => m.name == name && m.sig == sig) want.toList).map (·.1) ≠ [] := by
    intro he
    have he' := List.map_eq_nil_iff.1 he
    rw [List.filter_eq_nil_iff] at he'
    have : (want.toList.all fun w => got.any fun m => m.name == w.1 && m.sig == w.2) = true := by
      rw [List.all_eq_true]
      intro p hp
      have := he' p hp
      simpa using this
    rw [this] at h
    cases h
  exact least_parts _ _ _ hne

theorem holds_spec {want : Array (String × TypeId)} {t : Nat} {b : Bool} (h : natMem t (holdsRows P want) = some b) :
    ∃ i, P.info? t = some i ∧ (b = true → Instr.missingMethod want i.methods = none) ∧ (b = false → ∃ m, Instr.missingMethod want i.methods = some m) := by
  have key : ∀ (l : List (Nat × Bool)), (∀ p ∈ l, ∃ i, P.info? p.1 = some i ∧ p.2 = (want.toList.all fun w => i.methods.any fun m => m.name == w.1 && m.sig == w.2)) →
      natMem t l = some b → ∃ i, P.info? t = some i ∧ b = (want.toList.all fun w => i.methods.any fun m => m.name == w.1 && m.sig == w.2) := by
    intro l
    induction l with
    | nil => intro _ h; simp [natMem] at h
    | cons p l ih =>
      intro hp h
      obtain ⟨c, d⟩ := p
      simp only [natMem] at h
      split at h
      · rename_i hc
        injection h with h; subst h; subst hc
        exact hp (c, d) (List.mem_cons_self ..)
      · exact ih (fun q hq => hp q (List.mem_cons_of_mem _ hq)) h
  obtain ⟨i, hi, hb⟩ := key (holdsRows P want) (fun p hp => by
    unfold holdsRows at hp
    obtain ⟨t', _, ht'⟩ := List.mem_filterMap.1 hp
    cases hi : P.info? t' with
    | none => simp [hi] at ht'
    | some i =>
      simp [hi] at ht'
      subst ht'
      exact ⟨i, hi, by simp⟩) h
  exact ⟨i, hi, fun e => missing_none _ _ (hb ▸ e), fun e => missing_some _ _ (hb ▸ e)⟩

theorem ps_tassI (hG : Glob P μ) (hT : TR P.globals.size μ T a.tmps) {o : Oper} {t u : TypeId} {x : Operand} (ho : o.op = .typeAssert x u t true)
    {want : Array (String × TypeId)} (hd : P.underlying t = some (.interface want)) {z : AV} (hz : zeroOf P t = some z) {r : AV}
    (h : xpure (evArg T) (.tassI (holdsRows P want) z (cArg P x)) = some r) : Still P μ a o r := by
  have hc := arg_vr hG hT x
  obtain ⟨i, v, hi, hiz, hzv⟩ := zeroOf_spec (μ := μ) hz
  simp only [xpure] at h
  split at h <;> (try cases h)
  · rename_i t' av hb
    rw [hb] at hc
    generalize hv : a.eval x = v at hc
    cases hc
    rename_i u' hu'
    split at h <;> (try cases h)
    · rename_i hm
      obtain ⟨i', hi', h1, _⟩ := holds_spec hm
      refine ⟨_, fun w => ?_, pair_vr (.iface hu') true⟩
      simp [execOp, ho, Instr.typeAssert, und_some hd, hv, info_some hi', h1 rfl]
    · rename_i hm
      obtain ⟨i', hi', _, h2⟩ := holds_spec hm
      obtain ⟨m, hm'⟩ := h2 rfl
      refine ⟨_, fun w => ?_, pair_vr hzv false⟩
      simp [execOp, ho, Instr.typeAssert, und_some hd, hv, info_some hi', hm', zero_some hi hiz]
  · rename_i hb
    rw [hb] at hc
    generalize hv : a.eval x = v at hc
    cases hc
    refine ⟨_, fun w => ?_, pair_vr hzv false⟩
    simp [execOp, ho, Instr.typeAssert, und_some hd, hv, zero_some hi hiz]

/-- **What an operation reckons without memory is what the model's operation does, in every world.** -/
theorem pure_sound (hG : Glob P μ) (hT : TR P.globals.size μ T a.tmps) {o : Oper} {i : IOp} (hc : cOp P o.op = some i) {r : AV} (h : xpure (evArg T) i = some r) : Still P μ a o r := by
  cases hop : o.op with
  | move x =>
    rw [hop] at hc; simp only [cOp, Option.some.injEq] at hc; subst hc
    simp only [xpure, Option.some.injEq] at h; subst h
    exact ps_move hG hT (.inl hop)
  | assign x =>
    rw [hop] at hc; simp only [cOp, Option.some.injEq] at hc; subst hc
    simp only [xpure, Option.some.injEq] at h; subst h
    exact ps_move hG hT (.inr hop)
  | pick c x y =>
    rw [hop] at hc; simp only [cOp, Option.some.injEq] at hc; subst hc
    exact ps_pick hG hT hop h
  | build t parts =>
    rw [hop] at hc; simp only [cOp] at hc
    cases hz : zeroCellsOf P t with
    | none => rw [hz] at hc; simp at hc
    | some z =>
      rw [hz] at hc
      simp only [Option.bind_eq_bind, Option.bind_some] at hc
      split at hc
      · rename_i fs hu
        split at hc
        · rename_i hall
          obtain ⟨l, hl, rfl⟩ := Option.map_eq_some_iff.1 hc
          exact ps_build hG hT hop hz (.inl ⟨fs, hu, hall, hl⟩) h
        · cases hc
      · rename_i n e hu
        cases hie : P.info? e with
        | none => rw [hie] at hc; simp at hc
        | some ie =>
          rw [hie] at hc
          simp only [Option.bind_some] at hc
          obtain ⟨l, hl, rfl⟩ := Option.map_eq_some_iff.1 hc
          exact ps_build hG hT hop hz (.inr ⟨n, e, ie, hu, hie, hl⟩) h
      · cases hc
  | nilCheck x =>
    rw [hop] at hc; simp only [cOp, Option.some.injEq] at hc; subst hc
    exact ps_nilchk hG hT hop h
  | binOp op t x y u =>
    rw [hop] at hc; simp only [cOp] at hc
    split at hc
    · injection hc with hc; subst hc; exact ps_bin hG hT hop h
    · injection hc with hc; subst hc; exact ps_bin hG hT hop h
    · split at hc
      · obtain ⟨k, hk, rfl⟩ := Option.map_eq_some_iff.1 hc
        exact ps_eql hG hT hop (.inl ⟨rfl, rfl⟩) hk h
      · obtain ⟨k, hk, rfl⟩ := Option.map_eq_some_iff.1 hc
        exact ps_eql hG hT hop (.inr ⟨rfl, rfl⟩) hk h
      · cases hc
  | unOp u t x =>
    rw [hop] at hc
    cases u <;> simp only [cOp, Option.some.injEq] at hc <;> (try cases hc; done) <;> subst hc
    · exact ps_neg hG hT hop h
    · exact ps_com hG hT hop h
    · exact ps_not hG hT hop h
  | convert s d x =>
    rw [hop] at hc; simp only [cOp] at hc
    split at hc
    · rename_i k' k hs hd
      injection hc with hc; subst hc; exact ps_conv hG hT hop hs hd h
    · rename_i hs hd
      injection hc with hc; subst hc; exact ps_idm hG hT hop hs hd h
    · split at hc
      · split at hc
        · injection hc with hc; subst hc; simp [xpure] at h
        · cases hc
      · cases hc
    · cases hc
  | makeInterface t x =>
    rw [hop] at hc; simp only [cOp] at hc
    split at hc
    · cases hc
    · rename_i d hd hni
      injection hc with hc; subst hc
      simp only [xpure, Option.some.injEq] at h; subst h
      exact ps_mki hG hT hop hni hd
    · cases hc
  | makeFunc fn xs ys =>
    rw [hop] at hc
    cases fn <;> simp only [cOp] at hc <;> (try cases hc; done)
    injection hc with hc; subst hc
    simp only [xpure, Option.some.injEq] at h; subst h
    exact ps_mkf hG hT hop
  | slice t x lo hi mx =>
    rw [hop] at hc; simp only [cOp] at hc
    split at hc
    · rename_i ht
      split at hc
      · rename_i hm
        have hm' : mx = none := by simpa using hm
        subst hm'
        injection hc with hc; subst hc
        exact ps_sslice hG hT hop ht h
      · cases hc
    · rename_i e ht
      split at hc
      · cases hc
      · rename_i hno
        obtain ⟨n, hn, rfl⟩ := Option.map_eq_some_iff.1 hc
        exact ps_slice hG hT hop ht hn (fun hm => by cases hi with | none => simp [hm] at hno | some y => rfl) h
    · cases hc
  | fieldAddr s x f =>
    rw [hop] at hc; simp only [cOp] at hc
    split at hc <;> (try cases hc; done)
    rename_i fs hs
    split at hc <;> (try cases hc; done)
    rename_i fd hf
    split at hc <;> (try cases hc; done)
    rename_i i hi
    split at hc <;> (try cases hc; done)
    rename_i hz
    injection hc with hc; subst hc
    exact ps_fld hG hT hop hs hf hi hz h
  | field s x f =>
    rw [hop] at hc; simp only [cOp] at hc
    split at hc <;> (try cases hc; done)
    rename_i fs hs
    split at hc <;> (try cases hc; done)
    rename_i fd hf
    split at hc <;> (try cases hc; done)
    · rename_i n hi
      injection hc with hc; subst hc
      exact ps_fldvN hG hT hop hs hf hi h
    · rename_i n hi
      injection hc with hc; subst hc
      exact ps_fldv1 hG hT hop hs hf hi h
  | indexAddr t x y =>
    rw [hop] at hc; simp only [cOp] at hc
    split at hc <;> (try cases hc; done)
    rename_i e ht
    obtain ⟨n, hn, rfl⟩ := Option.map_eq_some_iff.1 hc
    exact ps_idx hG hT hop ht hn h
  | index t x y =>
    rw [hop] at hc; simp only [cOp] at hc
    split at hc <;> (try cases hc; done)
    rename_i ht
    injection hc with hc; subst hc
    exact ps_sidx hG hT hop ht h
  | typeAssert x u t ok =>
    rw [hop] at hc
    cases ok <;> simp only [cOp] at hc <;> (try cases hc; done)
    split at hc
    · rename_i want z hd hz
      injection hc with hc; subst hc
      exact ps_tassI hG hT hop hd hz h
    · rename_i d z hni hd hz
      injection hc with hc; subst hc
      exact ps_tass hG hT hop hd (fun ms e => by subst e; exact hni ms rfl) hz h
    · cases hc
  | extract x k =>
    rw [hop] at hc; simp only [cOp, Option.some.injEq] at hc; subst hc
    exact ps_ext hG hT hop h
  | call c =>
    rw [hop] at hc; simp only [cOp] at hc
    split at hc
    · injection hc with hc; subst hc; simp [xpure] at h
    · injection hc with hc; subst hc; simp [xpure] at h
    · injection hc with hc; subst hc; simp [xpure] at h
    · rename_i hcal
      split at hc
      · rename_i x hx hu
        injection hc with hc; subst hc
        obtain ⟨t, ht, htu⟩ := Option.bind_eq_some_iff.1 hu
        exact ps_slen hG hT hop hcal hx ht htu h
      · rename_i x e hx hu
        injection hc with hc; subst hc
        obtain ⟨t, ht, htu⟩ := Option.bind_eq_some_iff.1 hu
        exact ps_len hG hT hop hcal hx ht htu h
      · cases hc
    · rename_i hcal
      split at hc
      · rename_i x xs hx
        injection hc with hc; subst hc
        exact ps_mx hG hT hop hcal hx h
      · cases hc
    · rename_i hcal
      split at hc
      · rename_i x xs hx
        injection hc with hc; subst hc
        exact ps_mn hG hT hop hcal hx h
      · cases hc
    · split at hc
      · split at hc
        · simp only [Option.bind_eq_bind] at hc
          obtain ⟨n, _, hc⟩ := Option.bind_eq_some_iff.1 hc
          obtain ⟨z, _, hc⟩ := Option.bind_eq_some_iff.1 hc
          split at hc <;> (try cases hc; done) <;> (injection hc with hc; subst hc; simp [xpure] at h)
        · cases hc
      · cases hc
    · cases hc
  | alloc e =>
    rw [hop] at hc; simp only [cOp] at hc
    obtain ⟨z, _, rfl⟩ := Option.map_eq_some_iff.1 hc
    simp [xpure] at h
  | box e x => rw [hop] at hc; simp only [cOp, Option.some.injEq] at hc; subst hc; simp [xpure] at h
  | buildSlice t n parts =>
    rw [hop] at hc; simp only [cOp] at hc
    split at hc <;> (try cases hc; done)
    simp only [Option.bind_eq_bind] at hc
    obtain ⟨n, _, hc⟩ := Option.bind_eq_some_iff.1 hc
    obtain ⟨z, _, hc⟩ := Option.bind_eq_some_iff.1 hc
    split at hc <;> (try cases hc; done)
    obtain ⟨l, _, rfl⟩ := Option.map_eq_some_iff.1 hc
    simp [xpure] at h
  | load t x =>
    rw [hop] at hc; simp only [cOp] at hc
    split at hc <;> (try cases hc; done) <;> (injection hc with hc; subst hc; simp [xpure] at h)
  | store t x v =>
    rw [hop] at hc; simp only [cOp] at hc
    obtain ⟨z, _, rfl⟩ := Option.map_eq_some_iff.1 hc
    simp [xpure] at h
  | makeSlice t l c =>
    rw [hop] at hc; simp only [cOp] at hc
    split at hc <;> (try cases hc; done)
    simp only [Option.bind_eq_bind] at hc
    obtain ⟨n, _, hc⟩ := Option.bind_eq_some_iff.1 hc
    obtain ⟨z, _, hc⟩ := Option.bind_eq_some_iff.1 hc
    split at hc <;> (try cases hc; done)
    injection hc with hc; subst hc; simp [xpure] at h
  | panic x => rw [hop] at hc; simp only [cOp, Option.some.injEq] at hc; subst hc; simp [xpure] at h
  | _ => rw [hop] at hc; simp [cOp] at hc

end
end Ev

/- The heap: what it stands for, and that what is read from it is what the model reads. -/
set_option autoImplicit false
set_option linter.unusedSimpArgs false
set_option linter.unusedVariables false
namespace Ev
open Go

/-- The heap 'H' stands for the world 'w', which has come of 'w0' by nothing but new blocks. -/
structure Rel (P : Program) (w0 : World) (μ : Mu) (H : Hp) (w : World) : Prop where
  old : ∀ b, b < w0.heap.size → w.heap[b]? = w0.heap[b]?
  size : w0.heap.size ≤ w.heap.size
  os : w.os = w0.os
  tape : w.tape = w0.tape
  output : w.output = w0.output
  place : ∀ id g L, μ id g = some L → ∃ vb cur e fr, H.get id = some vb ∧ g ≤ vb.gen ∧ w.heap[L.blk]? = some (.cells cur e fr) ∧ L.base + L.size ≤ cur.size ∧
    (vb.own = true → w0.heap.size ≤ L.blk ∧ fr = (0, 0) ∧ L.base = 0 ∧ e = vb.elem ∧ cur.size = L.size) ∧
    (vb.own = false → L.blk < w0.heap.size) ∧
    (∀ (i : Nat) (av : AV) (m : Nat), vb.cells[i]? = some (av, m) → m ≤ vb.gen) ∧
    (∀ (i : Nat) (av : AV) (m : Nat), vb.cells[i]? = some (av, m) → m ≤ g → i < L.size ∧ ∃ v, cur[L.base + i]? = some v ∧ VR P.globals.size μ av v)
  apart : ∀ id g L id' g' L', μ id g = some L → μ id' g' = some L' → L.blk = L'.blk → w0.heap.size ≤ L.blk → id = id'
  glob : Glob P μ

theorem takeCells_spec {g : Nat} : ∀ {n : Nat} {l : List (AV × Nat)} {cs : List AV}, takeCells g n l = some cs →
    cs.length = n ∧ ∀ (j : Nat) (x : AV), cs[j]? = some x → ∃ m, l[j]? = some (x, m) ∧ m ≤ g := by
  intro n
  induction n with
  | zero => intro l cs h; simp [takeCells] at h; subst h; simp
  | succ n ih =>
    intro l cs h
    cases l with
    | nil => simp [takeCells] at h
    | cons p l =>
      obtain ⟨v, m⟩ := p
      simp only [takeCells] at h
      split at h
      · rename_i hm
        obtain ⟨r, hr, rfl⟩ := Option.map_eq_some_iff.1 h
        obtain ⟨h1, h2⟩ := ih hr
        refine ⟨by simp [h1], fun j x hx => ?_⟩
        cases j with
        | zero => simp at hx; subst hx; exact ⟨m, rfl, hm⟩
        | succ j => simpa using h2 j x (by simpa using hx)
      · cases h

section
variable {P : Program} {w0 : World} {μ : Mu} {H : Hp} {w : World}

/-- Cells that are read, as the model has them. -/
theorem load_list (R : Rel P w0 μ H w) {id : Pos} {g i n : Nat} {cs : List AV} (h : H.load id g i n = some cs) {L : Loc} (hL : μ id g = some L) :
    ∃ vs : List Value, VRs P.globals.size μ cs vs ∧ vs.length = n ∧ ∀ (j : Nat) (v : Value), vs[j]? = some v → w.cell? ((⟨L.blk, L.base + i, none⟩ : Addr).add j) = some v := by
  obtain ⟨vb, cur, e, fr, hg, hgen, hblk, hfit, hown, hold, hgens, hcells⟩ := R.place id g L hL
  unfold Hp.load at h
  rw [hg] at h
  simp only at h
  obtain ⟨h1, h2⟩ := takeCells_spec h
  have key : ∀ j x, cs[j]? = some x → ∃ v, cur[L.base + i + j]? = some v ∧ VR P.globals.size μ x v := by
    intro j x hx
    obtain ⟨m, hm, hmg⟩ := h2 j x hx
    rw [List.getElem?_drop] at hm
    obtain ⟨_, v, hv, hvr⟩ := hcells (i + j) x m hm hmg
    exact ⟨v, by rw [Nat.add_assoc]; exact hv, hvr⟩
  refine ⟨(List.range n).map fun j => (cur[L.base + i + j]?).getD undef, ?_, by simp, ?_⟩
  · refine VRs.of_get (by simp [h1]) fun j x v hx hv => ?_
    obtain ⟨u, hu, hvr⟩ := key j x hx
    have hj : j < n := by rw [← h1]; exact (List.getElem?_eq_some_iff.1 hx).1
    simp [List.getElem?_map, List.getElem?_range hj, hu] at hv
    subst hv
    exact hvr
  · intro j v hv
    have hj : j < n := by
      have := (List.getElem?_eq_some_iff.1 hv).1
      simpa using this
    have hjc : j < cs.length := by omega
    obtain ⟨u, hu, _⟩ := key j cs[j] (List.getElem?_eq_getElem hjc)
    simp [List.getElem?_map, List.getElem?_range hj, hu] at hv
    subst hv
    rw [Addr.add_lit, cell_of_row w L.blk _ cur e fr hblk]
    exact hu

end

section
variable {P : Program} {w0 : World} {μ : Mu} {H : Hp} {w : World} {T : List AV} {a : Act}

/-- A load: in this world the operation leaves one value and changes nothing. -/
def StillAt (P : Program) (μ : Mu) (a : Act) (o : Oper) (x : AV) (w : World) : Prop :=
  ∃ v, (execOp a.eval o).run P w = .ok (.value v) w ∧ VR P.globals.size μ x v

theorem addr_add_zero (b o : Nat) : (⟨b, o, none⟩ : Addr).add 0 = ⟨b, o, none⟩ := by simp [Addr.add]

theorem ls_load1 (R : Rel P w0 μ H w) (hT : TR P.globals.size μ T a.tmps) {o : Oper} {t : TypeId} {n : Nat} {x : Operand} (ho : o.op = .load t x) (ht : aggT P t = some (false, n)) {r : AV}
    (h : xload (evArg T) H (.load1 (cArg P x)) = some r) : StillAt P μ a o r w := by
  have hc := arg_vr R.glob hT x
  simp only [xload] at h
  split at h <;> (try cases h)
  rename_i id g i hb
  rw [hb] at hc
  generalize hv : a.eval x = v at hc
  cases hc
  rename_i L hL
  split at h <;> (try cases h)
  rename_i hl
  obtain ⟨vs, hvs, hlen, hcell⟩ := load_list R hl hL
  cases hvs with
  | cons hh ht' =>
    cases ht'
    rename_i v'
    have h0 := hcell 0 v' rfl
    rw [addr_add_zero] at h0
    refine ⟨v', ?_, hh⟩
    simp [execOp, ho, hv, Instr.loadAt, Instr.sureAddr, loadVar, (isAgg_some ht _).1, h0]

theorem ls_loadN (R : Rel P w0 μ H w) (hT : TR P.globals.size μ T a.tmps) {o : Oper} {t : TypeId} {n : Nat} {x : Operand} (ho : o.op = .load t x) (ht : aggT P t = some (true, n)) {r : AV}
    (h : xload (evArg T) H (.loadN n (cArg P x)) = some r) : StillAt P μ a o r w := by
  have hc := arg_vr R.glob hT x
  simp only [xload] at h
  split at h <;> (try cases h)
  rename_i id g i hb
  rw [hb] at hc
  generalize hv : a.eval x = v at hc
  cases hc
  rename_i L hL
  obtain ⟨cs, hcs, rfl⟩ := Option.map_eq_some_iff.1 h
  obtain ⟨vs, hvs, hlen, hcell⟩ := load_list R hcs hL
  refine ⟨.agg vs.toArray, ?_, .agg (by simpa using hvs)⟩
  have hr := run_loadCells_list (P := P) w ⟨L.blk, L.base + i, none⟩ vs hcell
  rw [hlen] at hr
  simp [execOp, ho, hv, Instr.loadAt, Instr.sureAddr, loadVar, (isAgg_some ht _).1, (isAgg_some ht _).2, hr]

theorem bytesOf_spec {G : Nat} : ∀ {cs : List AV} {vs : List Value} {bs : List UInt8}, VRs G μ cs vs → bytesOf cs = some bs →
    ∃ ns : List Int, vs = ns.map (Value.int .u8) ∧ bs = ns.map fun n => UInt8.ofNat n.toNat
  | _, _, _, .nil, h => by simp [bytesOf] at h; subst h; exact ⟨[], rfl, rfl⟩
  | _, _, bs, .cons (x := x) (xs := xs) hx hs, h => by
    cases hx <;> (try (simp [bytesOf] at h; done))
    rename_i k n
    cases k <;> (try (simp [bytesOf] at h; done))
    simp only [bytesOf] at h
    obtain ⟨r, hr, rfl⟩ := Option.map_eq_some_iff.1 h
    obtain ⟨ns, rfl, rfl⟩ := bytesOf_spec hs hr
    exact ⟨n :: ns, rfl, rfl⟩

theorem foldl_push (ns : List Int) : ∀ (b : ByteArray), (ns.foldl (fun r n => r.push (UInt8.ofNat n.toNat)) b).data.toList = b.data.toList ++ ns.map fun n => UInt8.ofNat n.toNat := by
  induction ns with
  | nil => intro b; simp
  | cons n ns ih => intro b; rw [List.foldl_cons, ih]; simp [ByteArray.push]

theorem ls_b2s (R : Rel P w0 μ H w) (hT : TR P.globals.size μ T a.tmps) {o : Oper} {s d e : TypeId} {ie : TypeInfo} {x : Operand} (ho : o.op = .convert s d x)
    (hs : P.underlying s = some (.slice e)) (hd : P.underlying d = some .string) (he : P.underlying e = some (.int .u8)) (hie : P.info? e = some ie) (h1 : ie.size = 1) {r : AV}
    (h : xload (evArg T) H (.b2s (cArg P x)) = some r) : StillAt P μ a o r w := by
  have hc := arg_vr R.glob hT x
  simp only [xload] at h
  split at h
  · rename_i hb
    rw [hb] at hc
    injection h with h; subst h
    generalize hv : a.eval x = v at hc
    cases hc
    refine ⟨.string .empty, ?_, ?_⟩
    · simp [execOp, ho, hv, convert, und_some hs, und_some hd, und_some he, Conv.bytesToString]
    · exact VR.str ByteArray.empty
  · rename_i id g i len cap sz hb
    rw [hb] at hc
    split at h
    · rename_i hsz
      subst hsz
      generalize hv : a.eval x = v at hc
      cases hc
      rename_i L c hm hL hl hcap hr hn
      obtain ⟨bs, hbs, rfl⟩ := Option.map_eq_some_iff.1 h
      obtain ⟨cs, hcs, hbs⟩ := Option.bind_eq_some_iff.1 hbs
      obtain ⟨vs, hvs, hlen, hcell⟩ := load_list R hcs hL
      obtain ⟨ns, rfl, rfl⟩ := bytesOf_spec hvs hbs
      have hlr := run_loadCells_list (P := P) w ⟨L.blk, L.base + i, none⟩ _ hcell
      rw [hlen] at hlr
      have hrun := run_bytesToString (P := P) w ⟨L.blk, L.base + i, none⟩ len c ns hlr
      refine ⟨.string (ns.foldl (fun r n => r.push (UInt8.ofNat n.toNat)) ByteArray.empty), ?_, ?_⟩
      · simp only [execOp, ho, hv, Sem.run_bind]
        rw [run_convert_bytes_string w s d e _ len c hs he hd, hrun]
        rfl
      · have := VR.str (G := P.globals.size) (μ := μ) (ns.foldl (fun r n => r.push (UInt8.ofNat n.toNat)) ByteArray.empty)
        rw [foldl_push] at this
        simpa using this
    · cases h
  · cases h

/-- **What is read is what the model reads.** -/
theorem load_sound (R : Rel P w0 μ H w) (hT : TR P.globals.size μ T a.tmps) {o : Oper} {i : IOp} (hc : cOp P o.op = some i) {r : AV} (h : xload (evArg T) H i = some r) : StillAt P μ a o r w := by
  cases hop : o.op
  case load t x =>
    rw [hop] at hc
    simp only [cOp] at hc
    split at hc
    · rename_i n ht
      injection hc with hc; subst hc
      exact ls_loadN R hT hop ht h
    · rename_i n ht
      injection hc with hc; subst hc
      exact ls_load1 R hT hop ht h
    · cases hc
  case convert s d x =>
    rw [hop] at hc
    simp only [cOp] at hc
    split at hc
    · injection hc with hc; subst hc; simp [xload] at h
    · injection hc with hc; subst hc; simp [xload] at h
    · rename_i e hs hd
      split at hc
      · rename_i ie he hie
        split at hc
        · rename_i h1
          injection hc with hc; subst hc
          exact ls_b2s R hT hop hs hd he hie h1 h
        · cases hc
      · cases hc
    · cases hc
  all_goals
    exfalso
    have hno : (∀ y, i ≠ .load1 y) ∧ (∀ n y, i ≠ .loadN n y) ∧ (∀ y, i ≠ .b2s y) := by
      rw [hop] at hc
      revert hc
      clear h hop
      simp only [cOp]
      (repeat' split) <;> intro hc <;> refine ⟨?_, ?_, ?_⟩ <;> intros <;> intro hi <;> subst hi <;>
        first
          | contradiction
          | (simp [Option.map_eq_some_iff, Option.bind_eq_some_iff, Option.bind_eq_bind] at hc; done)
    cases i <;> (try (simp [xload] at h; done))
    · exact hno.1 _ rfl
    · exact hno.2.1 _ _ rfl
    · exact hno.2.2 _ rfl

end
end Ev

/- New blocks and writes: the heap goes on standing for the world. -/
set_option autoImplicit false
set_option linter.unusedSimpArgs false
set_option linter.unusedVariables false
namespace Ev
open Go

def Mu.add (μ : Mu) (id : Pos) (g : Nat) (L : Loc) : Mu := fun id' g' => if id' = id ∧ g' = g then some L else μ id' g'

theorem Mu.add_self (μ : Mu) (id : Pos) (g : Nat) (L : Loc) : (μ.add id g L) id g = some L := by simp [Mu.add]

theorem Mu.add_ext {μ : Mu} {id : Pos} {g : Nat} {L : Loc} (h : μ id g = none) : Ext μ (μ.add id g L) := by
  intro id' g' L' h'
  unfold Mu.add
  split
  · rename_i hc
    rw [hc.1, hc.2, h] at h'
    cases h'
  · exact h'

/-- Names that are new were in no heap before. -/
def NewIds (H : Hp) (μ μ' : Mu) : Prop := ∀ id g L, μ' id g = some L → (∃ g' L', μ id g' = some L') ∨ H.get id = none

theorem NewIds.refl (H : Hp) (μ : Mu) : NewIds H μ μ := fun id g L h => .inl ⟨g, L, h⟩

section
variable {P : Program} {w0 : World} {μ : Mu} {H : Hp} {w : World}

theorem Rel.of_heap (R : Rel P w0 μ H w) {w' : World} (hh : w'.heap = w.heap) (ho : w'.os = w.os) (ht : w'.tape = w.tape) (hu : w'.output = w.output) : Rel P w0 μ H w' :=
  ⟨fun b hb => by rw [hh]; exact R.old b hb, by rw [hh]; exact R.size, ho.trans R.os, ht.trans R.tape, hu.trans R.output, fun id g L h => by rw [hh]; exact R.place id g L h, R.apart, R.glob⟩

theorem Rel.drew (R : Rel P w0 μ H w) : Rel P w0 μ H w.drew := R.of_heap rfl rfl rfl rfl

theorem Rel.unmapped (R : Rel P w0 μ H w) {id : Pos} (h : H.get id = none) (g : Nat) : μ id g = none := by
  cases hm : μ id g with
  | none => rfl
  | some L =>
    obtain ⟨vb, _, _, _, hg, _⟩ := R.place id g L hm
    rw [h] at hg
    cases hg

theorem Rel.blk_lt (R : Rel P w0 μ H w) {id : Pos} {g : Nat} {L : Loc} (h : μ id g = some L) : L.blk < w.heap.size := by
  obtain ⟨vb, cur, e, fr, _, _, hb, _⟩ := R.place id g L h
  exact (Array.getElem?_eq_some_iff.1 hb).1

theorem new_spec {e : Nat} {cells : List AV} {id : Pos} {H' : Hp} (h : H.new e cells = some (id, H')) :
    H.get id = none ∧ H'.get id = some ⟨cells.map (·, 0), 0, e, true⟩ ∧ ∀ q, q ≠ id → H'.get q = H.get q := by
  unfold Hp.new at h
  split at h
  · cases h
  · rename_i hn
    injection h with h
    injection h with h1 h2
    subst h1; subst h2
    refine ⟨hn, ?_, fun q hq => ?_⟩
    · simp [Hp.get, PT.get_set]
    · simp only [Hp.get, PT.get_set]
      rw [if_neg (fun e => hq e.symm)]

/-- A new block. -/
theorem Rel.new (R : Rel P w0 μ H w) {e : Nat} {cells : List AV} {id : Pos} {H' : Hp} (h : H.new e cells = some (id, H')) {cur : Array Value} (hlen : cells.length ≤ cur.size)
    (hcur : ∀ (i : Nat) (x : AV), cells[i]? = some x → ∃ v, cur[i]? = some v ∧ VR P.globals.size μ x v) :
    Ext μ (μ.add id 0 ⟨w.heap.size, 0, cur.size⟩) ∧ NewIds H μ (μ.add id 0 ⟨w.heap.size, 0, cur.size⟩) ∧
      Rel P w0 (μ.add id 0 ⟨w.heap.size, 0, cur.size⟩) H' (w.alloc (.cells cur e)) := by
  obtain ⟨hn, hs, ho⟩ := new_spec h
  have hext : Ext μ (μ.add id 0 ⟨w.heap.size, 0, cur.size⟩) := Mu.add_ext (R.unmapped hn 0)
  refine ⟨hext, ?_, ?_⟩
  · intro id' g' L' h'
    unfold Mu.add at h'
    split at h'
    · rename_i hc
      rw [hc.1]
      exact .inr hn
    · exact .inl ⟨g', L', h'⟩
  · have hheap : ∀ b, b < w.heap.size → (w.alloc (.cells cur e)).heap[b]? = w.heap[b]? := fun b hb => heap_alloc_old w _ b hb
    refine ⟨fun b hb => ?_, ?_, R.os, R.tape, R.output, ?_, ?_, R.glob.ext hext⟩
    · rw [hheap b (Nat.lt_of_lt_of_le hb R.size)]
      exact R.old b hb
    · have := R.size
      simp
      omega
    · intro id' g' L' h'
      unfold Mu.add at h'
      split at h'
      · rename_i hc
        injection h' with h'
        subst h'
        rw [hc.1, hc.2]
        refine ⟨_, cur, e, (0, 0), hs, Nat.zero_le _, heap_alloc_new w _, by simp, fun _ => ⟨R.size, rfl, rfl, rfl, rfl⟩, fun hf => by simp at hf, ?_, ?_⟩
        · intro i av m hm
          rw [List.getElem?_map] at hm
          cases hx : cells[i]? with
          | none => rw [hx] at hm; simp at hm
          | some x => rw [hx] at hm; simp at hm; simp [hm.2]
        intro i av m hm _
        rw [List.getElem?_map] at hm
        cases hx : cells[i]? with
        | none => rw [hx] at hm; simp at hm
        | some x =>
          rw [hx] at hm
          simp at hm
          obtain ⟨rfl, rfl⟩ := hm
          obtain ⟨v, hv, hvr⟩ := hcur i x hx
          refine ⟨?_, v, by simpa using hv, hvr.ext hext⟩
          have := (List.getElem?_eq_some_iff.1 hx).1
          show i < cur.size
          omega
      · obtain ⟨vb, cur', e', fr, h1, h2, h3, h4, h5, h6, h6', h7⟩ := R.place id' g' L' h'
        have hlt := R.blk_lt h'
        have hne : id' ≠ id := fun e => by rw [e, hn] at h1; cases h1
        refine ⟨vb, cur', e', fr, by rw [ho id' hne]; exact h1, h2, by rw [hheap _ hlt]; exact h3, h4, h5, h6, h6', ?_⟩
        intro i av m hm hmg
        obtain ⟨q1, v, q2, q3⟩ := h7 i av m hm hmg
        exact ⟨q1, v, q2, q3.ext hext⟩
    · intro id1 g1 L1 id2 g2 L2 h1 h2 hb hge
      unfold Mu.add at h1 h2
      split at h1
      · rename_i hc1
        split at h2
        · rename_i hc2
          rw [hc1.1, hc2.1]
        · injection h1 with h1; subst h1
          have := R.blk_lt h2
          simp at hb
          omega
      · split at h2
        · injection h2 with h2; subst h2
          have := R.blk_lt h1
          simp at hb
          omega
        · exact R.apart _ _ _ _ _ _ h1 h2 hb hge

/-- A world in which one block's cells are others. -/
theorem setRow_other' (w : World) (g k : Nat) (cs : Array Value) (h : k ≠ g) : (w.setRow g cs).heap[k]? = w.heap[k]? := setRow_other w g k cs h

/-- Cells are written. -/
theorem Rel.store (R : Rel P w0 μ H w) {id : Pos} {g i : Nat} {xs : List AV} {H' : Hp} (h : H.store id g i xs = some H') {L : Loc} (hL : μ id g = some L)
    {vs : List Value} (hvs : VRs P.globals.size μ xs vs) :
    ∃ cur e, w.heap[L.blk]? = some (.cells cur e (0, 0)) ∧ L.base = 0 ∧ i + vs.length ≤ cur.size ∧ (∀ v ∈ vs, v.oneCell' = true) ∧
      Rel P w0 μ H' (w.setRow L.blk (cur.toList.take i ++ vs ++ cur.toList.drop (i + vs.length)).toArray) := by
  unfold Hp.store at h
  split at h
  case h_2 => cases h
  rename_i b hb
  split at h
  case isFalse => cases h
  rename_i hcond
  obtain ⟨hown, hgen, hfit, hone⟩ := hcond
  injection h with h
  subst h
  obtain ⟨vb, cur, e, fr, h1, h2, h3, h4, h5, h6, h6', h7⟩ := R.place id g L hL
  rw [hb] at h1
  injection h1 with h1
  subst h1
  obtain ⟨k1, rfl, k2, k3, k4⟩ := h5 hown
  have hlen := hvs.length
  have hall : ∀ j, j < b.cells.length → j < L.size := by
    intro j hj
    have hm := List.getElem?_eq_getElem hj
    exact (h7 j _ _ hm (hgen ▸ h6' j _ _ hm)).1
  have hin : i + xs.length ≤ cur.size := by
    rcases Nat.eq_zero_or_pos (i + xs.length) with h0 | hpos
    · omega
    · have := hall (i + xs.length - 1) (by omega)
      omega
  have hvone : ∀ v ∈ vs, v.oneCell' = true := by
    intro v hv
    obtain ⟨j, hj, rfl⟩ := List.getElem_of_mem hv
    have hjx : j < xs.length := by omega
    obtain ⟨u, hu, hvr⟩ := hvs.get (List.getElem?_eq_getElem hjx)
    rw [List.getElem?_eq_getElem hj] at hu
    injection hu with hu
    rw [hu]
    exact (AV.one_cells hvr (allOne_get hone (List.getElem_mem hjx))).1
  refine ⟨cur, e, h3, k2, by omega, hvone, ?_⟩
  let cs : Array Value := (cur.toList.take i ++ vs ++ cur.toList.drop (i + vs.length)).toArray
  have hsz : cs.size = cur.size := by simp [cs]; omega
  have hget : ∀ j, cs[j]? = if j < i then cur[j]? else if j < i + vs.length then vs[j - i]? else cur[j]? := by
    intro j
    simp only [cs, List.getElem?_toArray]
    by_cases hj1 : j < i
    · rw [if_pos hj1, List.append_assoc, List.getElem?_append_left (by simp; omega), List.getElem?_take_of_lt hj1]
      simp
    · rw [if_neg hj1]
      have hti : (cur.toList.take i).length = i := by simp; omega
      by_cases hj2 : j < i + vs.length
      · rw [if_pos hj2, List.getElem?_append_left (by simp; omega), List.getElem?_append_right (by omega), hti]
      · rw [if_neg hj2, List.getElem?_append_right (by simp; omega), List.length_append, hti, List.getElem?_drop]
        have : i + vs.length + (j - (i + vs.length)) = j := by omega
        rw [this]
        simp
  have hrow : (w.setRow L.blk cs).heap[L.blk]? = some (.cells cs e (0, 0)) := setRow_heap w L.blk cur cs e (0, 0) h3
  have hother : ∀ k, k ≠ L.blk → (w.setRow L.blk cs).heap[k]? = w.heap[k]? := fun k hk => setRow_other w L.blk k cs hk
  have hsize : (w.setRow L.blk cs).heap.size = w.heap.size := by simp [World.setRow]
  let nb : VB := { b with cells := b.cells.take i ++ xs.map (·, g) ++ b.cells.drop (i + xs.length) }
  have hnget : ∀ (j : Nat) (av : AV) (m : Nat), nb.cells[j]? = some (av, m) →
      (i ≤ j ∧ j < i + xs.length ∧ xs[j - i]? = some av ∧ m = g) ∨ ((j < i ∨ i + xs.length ≤ j) ∧ b.cells[j]? = some (av, m)) := by
    intro j av m hm
    have hti : (b.cells.take i).length = i := by simp; omega
    by_cases hj1 : j < i
    · right
      refine ⟨.inl hj1, ?_⟩
      simp only [nb] at hm
      rwa [List.append_assoc, List.getElem?_append_left (by simp; omega), List.getElem?_take_of_lt hj1] at hm
    · by_cases hj2 : j < i + xs.length
      · left
        simp only [nb] at hm
        rw [List.getElem?_append_left (by simp; omega), List.getElem?_append_right (by omega), hti, List.getElem?_map] at hm
        cases hx : xs[j - i]? with
        | none => rw [hx] at hm; simp at hm
        | some x =>
          rw [hx] at hm
          simp at hm
          exact ⟨by omega, hj2, by rw [hm.1], hm.2.symm⟩
      · right
        refine ⟨.inr (by omega), ?_⟩
        simp only [nb] at hm
        rw [List.getElem?_append_right (by simp; omega), List.length_append, hti, List.length_map, List.getElem?_drop] at hm
        have : i + xs.length + (j - (i + xs.length)) = j := by omega
        rwa [this] at hm
  refine ⟨fun k hk => ?_, by rw [hsize]; exact R.size, R.os, R.tape, R.output, ?_, R.apart, R.glob⟩
  · rw [hother k (by omega)]
    exact R.old k hk
  · intro id' g' L' h'
    by_cases hid : id' = id
    · subst hid
      obtain ⟨vb', cur', e', fr', q1, q2, q3, q4, q5, q6, q6', q7⟩ := R.place id' g' L' h'
      rw [hb] at q1
      injection q1 with q1
      subst q1
      obtain ⟨j1, rfl, j2, j3, j4⟩ := q5 hown
      have hmle : ∀ (j : Nat) (av : AV) (m : Nat), nb.cells[j]? = some (av, m) → m ≤ b.gen := by
        intro j av m hm
        rcases hnget j av m hm with ⟨_, _, _, rfl⟩ | ⟨_, hm'⟩
        · omega
        · exact h6' j av m hm'
      by_cases hblk : L'.blk = L.blk
      · rw [hblk] at q3
        rw [h3] at q3
        injection q3 with q3
        injection q3 with q3a q3b
        subst q3a
        refine ⟨nb, cs, e, (0, 0), by simp [Hp.get_set, nb], q2, by rw [hblk]; exact hrow, by rw [hsz]; exact q4, fun _ => ⟨j1, rfl, j2, k3, by rw [hsz]; exact j4⟩, fun hf => by simp [nb, hown] at hf, hmle, ?_⟩
        intro j av m hm hmg
        rcases hnget j av m hm with ⟨a1, a2, a3, rfl⟩ | ⟨a1, hm'⟩
        · have hbnd : j < b.cells.length := by omega
          obtain ⟨v, hv, hvr⟩ := hvs.get a3
          refine ⟨?_, v, ?_, hvr⟩
          · have := hall j hbnd
            omega
          · rw [j2, Nat.zero_add, hget j, if_neg (by omega), if_pos (by omega)]
            exact hv
        · obtain ⟨b1, v, b2, b3⟩ := q7 j av m hm' hmg
          refine ⟨b1, v, ?_, b3⟩
          rw [j2, Nat.zero_add] at b2 ⊢
          rw [hget j]
          rcases a1 with a1 | a1
          · rw [if_pos a1]; exact b2
          · rw [if_neg (by omega), if_neg (by omega)]; exact b2
      · refine ⟨nb, cur', e', (0, 0), by simp [Hp.get_set, nb], q2, by rw [hother _ hblk]; exact q3, q4, fun _ => ⟨j1, rfl, j2, j3, j4⟩, fun hf => by simp [nb, hown] at hf, hmle, ?_⟩
        intro j av m hm hmg
        rcases hnget j av m hm with ⟨a1, a2, a3, rfl⟩ | ⟨a1, hm'⟩
        · exfalso
          -- the last generation is at 'L' alone
          have hgg : g' = m := by omega
          subst hgg
          rw [hL] at h'
          injection h' with h'
          exact hblk (by rw [h'])
        · exact q7 j av m hm' hmg
    · obtain ⟨vb', cur', e', fr', q1, q2, q3, q4, q5, q6, q6', q7⟩ := R.place id' g' L' h'
      have hblk : L'.blk ≠ L.blk := fun e => hid (R.apart _ _ _ _ _ _ h' hL e (by omega))
      exact ⟨vb', cur', e', fr', by rw [Hp.get_set, if_neg (fun e => hid e.symm)]; exact q1, q2, by rw [hother _ hblk]; exact q3, q4, q5, q6, q6', q7⟩

end
end Ev
