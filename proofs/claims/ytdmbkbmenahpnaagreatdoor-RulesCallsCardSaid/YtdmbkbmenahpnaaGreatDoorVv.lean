/- Drawn regions, code and calls: what the evaluator says is so. -/
import Derived.Test.YtdmbkbmenahpnaaGreatDoorVo
import Derived.LoopN
import Derived.Scope
/- A region that draws its order: any order. -/
set_option autoImplicit false
set_option linter.unusedSimpArgs false
set_option linter.unusedVariables false
namespace Ev
open Go

theorem Act.put_size (a : Act) (d : Option Nat) (v : Value) : (a.put d v).tmps.size = a.tmps.size := by
  cases d <;> simp [Act.put]

theorem Act.put_get_ne (a : Act) {d : Option Nat} (v : Value) {t : Nat} (h : d ≠ some t) : (a.put d v).tmps.getD t undef = a.tmps.getD t undef := by
  cases d with
  | none => rfl
  | some n =>
    have hn : n ≠ t := fun e => h (by rw [e])
    simp [Act.put, Array.getElem?_setIfInBounds_ne hn]

theorem Act.put_get_self (a : Act) {d : Nat} (v : Value) (h : d < a.tmps.size) : (a.put (some d) v).tmps.getD d undef = v := by
  simp [Act.put, h]

section
variable {P : Program} {w0 : World} {ops : Array Oper} {cs : List Ins} {anc : List Nat} {μ0 : Mu} {H0 : Hp} {ds : List Deferred} {done : List Nat} {T : List AV} {H : Hp} {listed : Array Bool} {a : Act} {w : World} {μ : Mu} {pid : Nat → Pos}

theorem ready_lt {listed : Array Bool} {j : Nat} (hj : j ∈ Region.ready .any ops listed) : j < ops.size := by
  obtain ⟨_, o, ho, _⟩ := mem_ready.1 hj
  exact (Array.getElem?_eq_some_iff.1 ho).1

theorem ready_unl {listed : Array Bool} {j : Nat} (hj : j ∈ Region.ready .any ops listed) : listed.getD j false = false := getD_true (mem_ready.1 hj).1

/-- An operation that was carried out ahead has been caught up with. -/
theorem Inv.list (B : PlanOk P ops cs anc) (I : Inv P w0 ops cs anc μ0 H0 ds done T H listed a w μ pid) {j : Nat} (hj : j ∈ Region.ready .any ops listed) (hd : j ∈ done) {c : Ins} (hc : cs[j]? = some c)
    {μ' : Mu} {w' : World} {v : Value} (hrel : Rel P w0 μ' H w') (hext : Ext μ μ') (hnew : NewIds H0 μ0 μ')
    (hv : ∀ d, c.dst = some d → ∀ x, T[d]? = some x → VR P.globals.size μ' x v)
    (hmk : ∀ i ∈ done, i ≠ j → listed.getD i false = false → isMakeAt cs i = true → (∀ g, μ (pid i) g = none) → ∀ g, μ' (pid i) g = none) :
    Inv P w0 ops cs anc μ0 H0 ds done T H (listed.setIfInBounds j true) (a.put c.dst v) w' μ' pid := by
  have hjs := ready_lt hj
  have hls : ∀ i, (listed.setIfInBounds j true).getD i false = (if i = j then true else listed.getD i false) := fun i => listed_set (by rw [I.lsz]; exact hjs)
  have hdj : dstOf cs j = c.dst := by simp [dstOf, nth_eq, hc]
  have hun : ∀ i, (listed.setIfInBounds j true).getD i false = false → i ≠ j ∧ listed.getD i false = false := by
    intro i hi
    rw [hls] at hi
    split at hi
    · cases hi
    · rename_i hne; exact ⟨hne, hi⟩
  refine ⟨hrel, I.ext.trans hext, hnew, I.dom, by rw [Act.put_defers']; exact I.defs, by simpa using I.lsz, ?_, ?_, I.rng, I.doneDown, ?_, by rw [Act.put_size]; exact I.tl, ?_, ?_, ?_, ?_⟩
  · intro i hi
    rw [hls] at hi
    split at hi
    · rename_i he; rw [he]; exact hd
    · exact I.sub i hi
  · intro i hi hs
    rw [hls]
    split
    · rfl
    · exact I.hard i hi hs
  · intro m hm l hl hb
    rw [hls] at hm
    split at hm
    · rename_i he
      subst he
      exact getD_set_true (ready_anc B I hj hl hb)
    · exact getD_set_true (I.down m hm l hl hb)
  · intro t x hx
    by_cases hdt : c.dst = some t
    · right
      have hlt : t < a.tmps.size := Nat.lt_of_lt_of_le (List.getElem?_eq_some_iff.1 hx).1 I.tl
      rw [hdt, Act.put_get_self a v hlt]
      exact hv t hdt x hx
    · rw [Act.put_get_ne a v hdt]
      rcases I.tmps t x hx with ⟨i, hi, hu, hdi⟩ | h
      · left
        refine ⟨i, hi, ?_, hdi⟩
        rw [hls, if_neg ?_]
        · exact hu
        · intro e
          rw [e, hdj] at hdi
          exact hdt hdi
      · exact .inr (h.ext hext)
  · intro i hi hu
    obtain ⟨hne, hu'⟩ := hun i hu
    refine (I.pend i hi hu').keep (fun ci hci => ⟨fun _ _ => rfl, rfl, fun _ _ => rfl⟩) (fun _ _ _ _ _ _ _ hx => hx) ?_
    intro ci e cells f u hci _ _ _ _ hx hb hm
    refine ⟨hb, hmk i hi hne hu' ?_ hm⟩
    unfold isMakeAt
    rw [hci]
    exact make_isMake hx
  · intro i hi hu hm
    exact I.fresh i hi (hun i hu).2 hm
  · intro i hi k hk hui huk hmi hmk'
    exact I.inj i hi k hk (hun i hui).2 (hun k huk).2 hmi hmk'

theorem wpOp_some {Q : Exit → Act → World → Prop} {K : Act → World → Prop} {j : Nat} {o : Oper} (ho : ops[j]? = some o) (h : if Region.wanted o (yielded ops a.tmps) then o.wp P a w K Q else K (a.put o.dst undef) w) :
    wpOp P ops Q j K a w := by
  unfold wpOp
  rw [ho]
  simp only
  split
  · rename_i hw; rw [if_pos hw] at h; exact .inl h
  · rename_i hw; rw [if_neg hw] at h; exact h

/-- **The model catches up.** -/
theorem Inv.catch (B : PlanOk P ops cs anc) (I : Inv P w0 ops cs anc μ0 H0 ds done T H listed a w μ pid) {j : Nat} (hj : j ∈ Region.ready .any ops listed) (hd : j ∈ done)
    {K : Act → World → Prop} {Q : Exit → Act → World → Prop}
    (hK : ∀ a' w' μ', Inv P w0 ops cs anc μ0 H0 ds done T H (listed.setIfInBounds j true) a' w' μ' pid → K a' w') : wpOp P ops Q j K a w := by
  obtain ⟨_, o, ho, _⟩ := mem_ready.1 hj
  have hu := ready_unl hj
  obtain ⟨c, hc, hop, hg, hdst⟩ := B.get j o ho
  have hT := I.maskTR
  obtain ⟨l1, l2⟩ := looks_args hc
  have hev : ∀ x ∈ iargs c.op, evArg (mask (waits cs done listed) 0 T) x = evArg T x := fun x hx => mask_ev fun t ht => ready_clean B I hj (l1 x hx t ht)
  have hwa : wantedA (mask (waits cs done listed) 0 T) c.guard = wantedA T c.guard := mask_wanted fun t b h => ready_clean B I hj (l2 t b h)
  have hnm : ∀ i ∈ done, i ≠ j → listed.getD i false = false → isMakeAt cs i = true → (∀ g, μ (pid i) g = none) → ∀ g, μ (pid i) g = none := fun _ _ _ _ _ h => h
  refine wpOp_some ho ?_
  cases I.pend j hd hu with
  | skip c' hc' hgw ht =>
    rw [hc] at hc'; injection hc' with hc'; subst hc'
    rw [guard_spec hT hg (hwa.trans hgw)]
    simp only [Bool.false_eq_true, if_false]
    rw [← hdst]
    exact hK _ _ _ (I.list B hj hd hc I.rel (Ext.refl μ) I.new (fun d hd x hx => by rw [ht d hd x hx]; exact .tup (vs := #[]) .nil) hnm)
  | pure c' hc' hgw v ht hv =>
    rw [hc] at hc'; injection hc' with hc'; subst hc'
    rw [guard_spec hT hg (hwa.trans hgw)]
    simp only [if_true]
    obtain ⟨u, hr, hvr⟩ := pure_sound I.rel.glob hT hop ((xpure_congr hev).trans hv)
    unfold Oper.wp
    rw [hr w, Oper.upon_value, ← hdst]
    exact hK _ _ _ (I.list B hj hd hc I.rel (Ext.refl μ) I.new (fun d hd x hx => by rw [ht d hd x hx]; exact hvr) hnm)
  | load c' hc' hgw v ht hv hi hds =>
    rw [hc] at hc'; injection hc' with hc'; subst hc'
    rw [guard_spec hT hg (hwa.trans hgw)]
    simp only [if_true]
    obtain ⟨u, hr, hvr⟩ := load_sound I.rel hT hop ((xload_congr hev).trans hv)
    unfold Oper.wp
    rw [hr, Oper.upon_value, ← hdst]
    exact hK _ _ _ (I.list B hj hd hc I.rel (Ext.refl μ) I.new (fun d hd x hx => by rw [ht d hd x hx]; exact hvr) hnm)
  | make c' hc' hgn v ht e cells f hv hf hn hb hm hds =>
    rw [hc] at hc'; injection hc' with hc'; subst hc'
    have hgw : wantedA T c.guard = some true := by rw [hgn]; rfl
    have hmk : isMakeAt cs j = true := by unfold isMakeAt; rw [hc]; exact make_isMake hv
    rw [guard_spec hT hg (hwa.trans hgw)]
    simp only [if_true]
    obtain ⟨vs, val, hvs, hr, hval⟩ := make_sound I.rel.glob hT hop ((xmake_congr hev).trans hv)
    unfold Oper.wp
    rw [hr w, Oper.upon_value, ← hdst]
    obtain ⟨hext, hrel⟩ := I.rel.realize hb hm hvs
    refine hK _ _ _ (I.list B hj hd hc hrel hext ?_ ?_ ?_)
    · intro id' g' L' h'
      unfold Mu.add at h'
      split at h'
      · rename_i he
        rw [he.1]
        exact .inr (I.fresh j hd hu hmk)
      · exact I.new id' g' L' h'
    · intro d hd' x hx
      rw [ht d hd' x hx, hf]
      exact hval _ _ _ (Mu.add_self _ _ _ _)
    · intro i hi hij hui hmi hmm g
      unfold Mu.add
      rw [if_neg ?_]
      · exact hmm g
      · rintro ⟨e, _⟩
        exact hij (I.inj i hi j hd hui hu hmi hmk e)

/-! ### One that isn't carried out ahead -/

/-- What waits goes on waiting. -/
theorem Inv.hardstep (B : PlanOk P ops cs anc) (I : Inv P w0 ops cs anc μ0 H0 ds done T H listed a w μ pid) {e : Nat} (he : e ∈ Region.ready .any ops listed) (hnd : e ∉ done) {c : Ins} (hc : cs[e]? = some c)
    (htop : ∀ l, l < ops.size → ancBit anc e l = true → l ∈ done)
    {μ' : Mu} {w' : World} {H1 : Hp} {x : AV} {v : Value} (hrel : Rel P w0 μ' H1 w') (hext : Ext μ μ') (hnew : NewIds H μ μ') (hdom : Dom H H1) (hv : VR P.globals.size μ' x v)
    (hp : ∀ i ∈ done, listed.getD i false = false → PInv cs i (put T c.dst x) H1 μ' (pid i)) :
    Inv P w0 ops cs anc μ0 H0 ds (done ++ [e]) (put T c.dst x) H1 (listed.setIfInBounds e true) (a.put c.dst v) w' μ' pid := by
  have hjs := ready_lt he
  have hls : ∀ i, (listed.setIfInBounds e true).getD i false = (if i = e then true else listed.getD i false) := fun i => listed_set (by rw [I.lsz]; exact hjs)
  have hdj : dstOf cs e = c.dst := by simp [dstOf, nth_eq, hc]
  have hun : ∀ i, i ∈ done ++ [e] → (listed.setIfInBounds e true).getD i false = false → i ∈ done ∧ listed.getD i false = false := by
    intro i hi hu
    rw [hls] at hu
    split at hu
    · cases hu
    · rename_i hne
      rcases List.mem_append.1 hi with h | h
      · exact ⟨h, hu⟩
      · simp at h; exact absurd h hne
  refine ⟨hrel, I.ext.trans hext, I.new.trans I.dom hnew, I.dom.trans hdom, by rw [Act.put_defers']; exact I.defs, by simpa using I.lsz, ?_, ?_, ?_, ?_, ?_, by rw [Act.put_size, put_len]; exact I.tl, ?_, ?_, ?_, ?_⟩
  · intro i hi
    rw [hls] at hi
    split at hi
    · rename_i h; rw [h]; simp
    · exact List.mem_append_left _ (I.sub i hi)
  · intro i hi hs
    rw [hls]
    split
    · rfl
    · rename_i hne
      rcases List.mem_append.1 hi with h | h
      · exact I.hard i h hs
      · simp at h; exact absurd h hne
  · intro i hi
    rcases List.mem_append.1 hi with h | h
    · exact I.rng i h
    · simp at h; rw [h]; exact hjs
  · intro m hm l hl hb
    rcases List.mem_append.1 hm with h | h
    · exact List.mem_append_left _ (I.doneDown m h l hl hb)
    · simp at h; rw [h] at hb; exact List.mem_append_left _ (htop l hl hb)
  · intro m hm l hl hb
    rw [hls] at hm
    split at hm
    · rename_i h
      subst h
      exact getD_set_true (ready_anc B I he hl hb)
    · exact getD_set_true (I.down m hm l hl hb)
  · intro t y hy
    by_cases hdt : c.dst = some t
    · right
      have hlt : t < a.tmps.size := by
        have := (List.getElem?_eq_some_iff.1 hy).1
        rw [put_len] at this
        exact Nat.lt_of_lt_of_le this I.tl
      rw [hdt] at hy
      rw [hdt, Act.put_get_self a v hlt, put_self hy]
      exact hv
    · rw [put_ne hdt] at hy
      rw [Act.put_get_ne a v hdt]
      rcases I.tmps t y hy with ⟨i, hi, hu, hdi⟩ | h
      · left
        refine ⟨i, List.mem_append_left _ hi, ?_, hdi⟩
        rw [hls, if_neg (show ¬ i = e from fun h => hnd (h ▸ hi))]
        exact hu
      · exact .inr (h.ext hext)
  · intro i hi hu
    obtain ⟨h1, h2⟩ := hun i hi hu
    exact hp i h1 h2
  · intro i hi hu hm
    obtain ⟨h1, h2⟩ := hun i hi hu
    exact I.fresh i h1 h2 hm
  · intro i hi k hk hui huk hmi hmk
    obtain ⟨h1, h2⟩ := hun i hi hui
    obtain ⟨h3, h4⟩ := hun k hk huk
    exact I.inj i h1 k h3 h2 h4 hmi hmk

/-- Checks that let pass. -/
theorem checks_pass {call : Call} {rest : List Ins} {T : List AV} {H : Hp} {out : Out} : ∀ {l : List Ins}, (∀ i ∈ l, i.dst = none ∧ ∃ d o, i.op = .again d o) → runIns call (l ++ rest) T H = some out →
    runIns call rest T H = some out ∧ ∀ i ∈ l, wantedA T i.guard = some true → ∃ v, xstep call T H i.op = some (.ret v, H) := by
  intro l
  induction l with
  | nil => intro _ h; exact ⟨h, fun i hi => by cases hi⟩
  | cons i l ih =>
    intro hl h
    obtain ⟨hd, d, o, ho⟩ := hl i (List.mem_cons_self ..)
    have hl' := fun k hk => hl k (List.mem_cons_of_mem _ hk)
    simp only [List.cons_append, runIns] at h
    split at h
    · cases h
    · rename_i hg
      rw [hd] at h
      obtain ⟨h1, h2⟩ := ih hl' h
      refine ⟨h1, fun k hk hw => ?_⟩
      rcases List.mem_cons.1 hk with rfl | hk
      · rw [hg] at hw; cases hw
      · exact h2 k hk hw
    · rename_i hg
      split at h
      · rename_i v H1 hs
        have hH : H1 = H := by
          rw [ho] at hs
          simp only [xstep] at hs
          (repeat' split at hs) <;> first
            | (cases hs; done)
            | (injection hs with hs; injection hs with h1 h2; exact h2.symm)
        subst hH
        rw [hd] at h
        obtain ⟨h1, h2⟩ := ih hl' h
        refine ⟨h1, fun k hk hw => ?_⟩
        rcases List.mem_cons.1 hk with rfl | hk
        · exact ⟨v, hs⟩
        · exact h2 k hk hw
      · rename_i v H1 hs
        exfalso
        rw [ho] at hs
        simp only [xstep] at hs
        (repeat' split at hs) <;> first
          | (cases hs; done)
          | (injection hs with hs; injection hs with h1 h2; cases h1)
      · cases h

theorem checks_form {e : Nat} : ∀ i ∈ checks cs anc e done, i.dst = none ∧ ∃ d o, i.op = .again d o := by
  intro i hi
  unfold checks at hi
  obtain ⟨l, _, hl⟩ := List.mem_filterMap.1 hi
  unfold againOf at hl
  (repeat' split at hl) <;> first
    | (cases hl; done)
    | (injection hl with hl; subst hl; exact ⟨rfl, _, _, rfl⟩)

theorem checks_mem {e l : Nat} {c : Ins} {d : Nat} (hl : l ∈ done) (hs : soft cs anc l = true) (ha : ancBit anc e l = false) (hc : cs[l]? = some c) (hd : c.dst = some d) (hk : isLoadI c.op = true ∨ isMakeI c.op = true) :
    ⟨none, c.guard, .again d c.op⟩ ∈ checks cs anc e done := by
  unfold checks
  refine List.mem_filterMap.2 ⟨l, List.mem_filter.2 ⟨hl, by simp [hs, ha]⟩, ?_⟩
  unfold againOf
  rw [nth_eq, hc]
  simp only [hd]
  rw [if_pos (by simpa using hk)]

theorem zip_zero : ∀ {l : List (AV × Nat)}, l.all (fun c => Nat.beq c.2 0) = true → l = (l.map (·.1)).map (·, 0)
  | [], _ => rfl
  | (v, m) :: l, h => by
    simp only [List.all_cons, Bool.and_eq_true, Nat.beq_eq] at h
    simp only [List.map_cons]
    rw [← zip_zero h.2, h.1]

theorem again_spec {call : Call} {T : List AV} {H : Hp} {d : Nat} {o : IOp} {r : CR × Hp} (h : xstep call T H (.again d o) = some r) :
    (∃ e cells f id, xmake (evArg T) o = some (e, cells, f) ∧ (T[d]?).bind nameOf = some id ∧ H.get id = some ⟨cells.map (·, 0), 0, e, true⟩) ∨
    (xmake (evArg T) o = none ∧ ∃ v, xload (evArg T) H o = some v ∧ T[d]? = some v) := by
  simp only [xstep, nth_eq] at h
  split at h
  · rename_i e cells f hm
    split at h
    · rename_i id hid
      split at h
      · rename_i b hb
        split at h
        · rename_i hcond
          simp only [Bool.and_eq_true, Nat.beq_eq] at hcond
          obtain ⟨⟨⟨⟨h1, h2⟩, h3⟩, h4⟩, h5⟩ := hcond
          left
          refine ⟨e, cells, f, id, hm, hid, ?_⟩
          rw [hb]
          have h6 := zip_zero h5
          rw [sameL_eq h4] at h6
          obtain ⟨bc, bg, be, bo⟩ := b
          simp only at h1 h2 h3 h6
          rw [h1, h2, h3, h6]
        · cases h
      · cases h
    · cases h
  · rename_i hm
    split at h
    · rename_i v u hv hu
      split at h
      · rename_i hs
        right
        rw [same_eq hs] at hv
        exact ⟨hm, u, hv, hu⟩
      · cases h
    · cases h

/-- What waits is as it was, the checks say. -/
theorem Inv.keepAll {call : Call} (B : PlanOk P ops cs anc) (I : Inv P w0 ops cs anc μ0 H0 ds done T H listed a w μ pid) {e : Nat} (he : e ∈ Region.ready .any ops listed) (hnd : e ∉ done) {c : Ins} (hc : cs[e]? = some c)
    {H1 : Hp} {μ' : Mu} (hnew : NewIds H μ μ') (x : AV)
    (hk : (isMakeI c.op = true ∧ (H1 = H ∨ ∃ e cells id, H.new e cells = some (id, H1))) ∨
      ∀ i ∈ checks cs anc e done, wantedA (put T c.dst x) i.guard = some true → ∃ v, xstep call (put T c.dst x) H1 i.op = some (.ret v, H1)) :
    ∀ i ∈ done, listed.getD i false = false → PInv cs i (put T c.dst x) H1 μ' (pid i) := by
  intro i hi hu
  have hes := ready_lt he
  have his := I.rng i hi
  have hne : e ≠ i := fun h => hnd (h ▸ hi)
  have hs := I.soft_of hi hu
  have hna : ancBit anc e i = false := by
    cases h : ancBit anc e i with
    | false => rfl
    | true => rw [ready_anc B I he his h] at hu; cases hu
  have hclean : writesInto cs e i = false := by
    cases h : writesInto cs e i with
    | false => rfl
    | true =>
      rcases B.into e i hes his hne h with h | ⟨_, h⟩
      · exact absurd (I.doneDown i hi e hes h) hnd
      · rw [hna] at h; cases h
  have hev := fun (ci : Ins) (hci : cs[i]? = some ci) => keep_ev (T := T) (done := done) (fun _ _ => trivial) hc hci hclean (fun d hd => B.dst e i hes his hne d hd) x
  have unm : ∀ {b : VB}, H.get (pid i) = some b → (∀ g, μ (pid i) g = none) → ∀ g, μ' (pid i) g = none := by
    intro b hb hm g
    cases h : μ' (pid i) g with
    | none => rfl
    | some L =>
      rcases hnew _ _ _ h with ⟨g', L', h'⟩ | h'
      · rw [hm g'] at h'; cases h'
      · rw [hb] at h'; cases h'
  refine (I.pend i hi hu).keep hev ?_ ?_
  · intro ci v hci hl hds ht hg hx
    rw [xload_congr (hev ci hci).1]
    rcases hk with ⟨_, rfl | ⟨e', cells, id, hn⟩⟩ | hk
    · exact hx
    · exact xload_new hn hx
    · obtain ⟨d, hd⟩ := Option.isSome_iff_exists.1 hds
      obtain ⟨u, hu'⟩ := hk _ (checks_mem hi hs hna hci hd (.inl hl)) (by rw [(hev ci hci).2.1]; exact hg)
      rcases again_spec hu' with ⟨e', cells, f, id, hm, _⟩ | ⟨_, v', hv', hd'⟩
      · exfalso
        have := make_isMake hm
        revert this hl
        cases ci.op <;> simp [isLoadI, isMakeI]
      · rw [(hev ci hci).2.2 d hd] at hd'
        rw [← ht d hd v' hd']
        rw [xload_congr (hev ci hci).1] at hv'
        exact hv'
  · intro ci e' cells f v hci hg hds ht hn hx hb hm
    refine ⟨?_, unm hb hm⟩
    rcases hk with ⟨_, rfl | ⟨e2, cells2, id, hn2⟩⟩ | hk
    · exact hb
    · obtain ⟨n1, n2, n3⟩ := new_spec hn2
      rw [n3 _ (fun e => by rw [e, n1] at hb; cases hb)]
      exact hb
    · obtain ⟨d, hd⟩ := Option.isSome_iff_exists.1 hds
      obtain ⟨u, hu'⟩ := hk _ (checks_mem hi hs hna hci hd (.inr (make_isMake hx))) (by rw [hg]; rfl)
      rcases again_spec hu' with ⟨e3, cells3, f3, id, hm3, hid, hb3⟩ | ⟨hm3, _⟩
      · rw [xmake_congr (hev ci hci).1, hx] at hm3
        injection hm3 with hm3
        injection hm3 with h1 h2
        injection h2 with h2 h3
        subst h1; subst h2
        rw [(hev ci hci).2.2 d hd] at hid
        obtain ⟨y, hy, hny⟩ := Option.bind_eq_some_iff.1 hid
        rw [ht d hd y hy, hn] at hny
        injection hny with hny
        rw [hny]
        exact hb3
      · rw [xmake_congr (hev ci hci).1, hx] at hm3
        cases hm3

end
end Ev

/- A region that draws its order leaves what the evaluator says. -/
set_option autoImplicit false
set_option linter.unusedSimpArgs false
set_option linter.unusedVariables false
namespace Ev
open Go

theorem cOp_not_again {P : Program} {o : Op} {i : IOp} (hc : cOp P o = some i) : ∀ d y, i ≠ .again d y := by
  intro d y hi
  subst hi
  revert hc
  unfold cOp
  (repeat' split) <;> intro hc <;>
    first
      | contradiction
      | (simp [Option.map_eq_some_iff, Option.bind_eq_some_iff, Option.bind_eq_bind] at hc; done)
      | (simp only [Option.map_eq_some_iff, Option.bind_eq_some_iff, Option.bind_eq_bind] at hc
         obtain ⟨_, _, _, _, hc⟩ := hc
         (repeat' split at hc) <;> cases hc)

section
variable {P : Program} {w0 : World} {ops : Array Oper} {cs : List Ins} {anc : List Nat} {μ0 : Mu} {H0 : Hp} {ds : List Deferred}

/-- How many are not listed. -/
def unl (ops : Array Oper) (listed : Array Bool) : Nat := (List.range ops.size).countP fun i => !listed.getD i false

theorem countP_lt {α : Type} {p q : α → Bool} : ∀ {l : List α}, (∀ x ∈ l, q x = true → p x = true) → (∃ x ∈ l, p x = true ∧ q x = false) → l.countP q < l.countP p
  | [], _, ⟨x, hx, _⟩ => by cases hx
  | y :: l, h, ⟨x, hx, hp, hq⟩ => by
    have hle : l.countP q ≤ l.countP p := List.countP_mono_left fun z hz => h z (List.mem_cons_of_mem _ hz)
    rcases List.mem_cons.1 hx with rfl | hx
    · simp [List.countP_cons, hp, hq]; omega
    · have := countP_lt (l := l) (fun z hz => h z (List.mem_cons_of_mem _ hz)) ⟨x, hx, hp, hq⟩
      have hy := h y (List.mem_cons_self ..)
      simp only [List.countP_cons]
      cases hqy : q y
      · simp; omega
      · rw [hy hqy]; simp; omega

theorem unl_set {listed : Array Bool} (hs : listed.size = ops.size) {i : Nat} (hi : i < ops.size) (hu : listed.getD i false = false) : unl ops (listed.setIfInBounds i true) < unl ops listed := by
  unfold unl
  refine countP_lt (fun x _ h => ?_) ⟨i, List.mem_range.2 hi, by simp [hu], ?_⟩
  · have := listed_set (listed := listed) (i := i) (j := x) (by omega)
    rw [this] at h
    split at h
    · simp at h
    · exact h
  · rw [listed_set (by omega)]
    simp

theorem unl_zero {listed : Array Bool} (h : unl ops listed = 0) : ∀ i, i < ops.size → listed.getD i false = true := by
  intro i hi
  unfold unl at h
  rw [List.countP_eq_zero] at h
  have := h i (List.mem_range.2 hi)
  simpa using this

/-- Where nothing is ready all is listed. -/
theorem all_listed {listed : Array Bool} (hs : listed.size = ops.size) (hr : Region.ready .any ops listed = []) : ∀ {rest done : List Nat}, orderOk ops cs anc done rest = true → (∀ i ∈ done, listed.getD i false = true) →
    ∀ i ∈ rest, listed.getD i false = true
  | [], _, _, _ => fun i hi => by cases hi
  | r :: rest, done, ho, hd => by
    simp only [orderOk, Bool.and_eq_true] at ho
    obtain ⟨⟨⟨_, h2⟩, _⟩, h4⟩ := ho
    have hr' : listed.getD r false = true := by
      unfold topOk at h2
      cases hor : ops[r]? with
      | none => rw [hor] at h2; cases h2
      | some o =>
        rw [hor] at h2
        simp only [Array.all_eq_true_iff_forall_mem, Bool.or_eq_true, Bool.not_eq_true'] at h2
        cases hl : listed.getD r false with
        | true => rfl
        | false =>
          exfalso
          have hlt : r < listed.size := by rw [hs]; exact (Array.getElem?_eq_some_iff.1 hor).1
          have : r ∈ Region.ready .any ops listed := mem_ready.2 ⟨by simp [hlt] at hl ⊢; exact hl, o, hor, fun e he hb => by
            rcases h2 e he with h | h
            · rw [hb] at h; cases h
            · exact hd _ (List.contains_iff_mem.1 h)⟩
          rw [hr] at this
          cases this
    intro i hi
    refine (List.mem_cons.1 hi).elim (fun h => h ▸ hr') fun hi => ?_
    refine all_listed hs hr h4 (fun j hj => ?_) i hi
    rcases List.mem_append.1 hj with h | h
    · exact hd j h
    · simp at h; rw [h]; exact hr'

theorem top_anc (B : PlanOk P ops cs anc) {done : List Nat} (hdd : ∀ m ∈ done, ∀ l, l < ops.size → ancBit anc m l = true → l ∈ done) {i : Nat} (hi : i < ops.size) (ht : topOk ops done i = true) :
    ∀ l, l < ops.size → ancBit anc i l = true → l ∈ done := by
  intro l hl hb
  obtain ⟨o, ho, e, he, hbe, hon⟩ := B.ancS i l hi hl hb
  unfold topOk at ht
  rw [ho] at ht
  simp only [Array.all_eq_true_iff_forall_mem, Bool.or_eq_true, Bool.not_eq_true'] at ht
  have hed : e.on ∈ done := by
    rcases ht e he with h | h
    · rw [hbe] at h; cases h
    · exact List.contains_iff_mem.1 h
  rcases hon with rfl | hon
  · exact hed
  · exact hdd _ hed l hl hon

theorem top_lt {done : List Nat} {i : Nat} (ht : topOk ops done i = true) : i < ops.size := by
  unfold topOk at ht
  split at ht
  · rename_i o ho; exact (Array.getElem?_eq_some_iff.1 ho).1
  · cases ht

/-- The evaluator goes ahead through soft operations. -/
theorem go_ahead {call : Call} (B : PlanOk P ops cs anc) {listed : Array Bool} {a : Act} {w : World} {μ : Mu} {out : Out} {i : Nat} (hi : i ∈ Region.ready .any ops listed) :
    ∀ {rest done : List Nat} {T : List AV} {H : Hp} {pid : Nat → Pos}, Inv P w0 ops cs anc μ0 H0 ds done T H listed a w μ pid → orderOk ops cs anc done rest = true → i ∈ rest →
      runIns call (emit cs anc done rest) T H = some out →
      ∃ done' rest' T' H' pid', Inv P w0 ops cs anc μ0 H0 ds done' T' H' listed a w μ pid' ∧ orderOk ops cs anc done' rest' = true ∧ done' ++ rest' = done ++ rest ∧
        runIns call (emit cs anc done' rest') T' H' = some out ∧ (i ∈ done' ∨ ∃ r, rest' = i :: r ∧ soft cs anc i = false)
  | [], _, _, _, _, _, _, hr, _ => by cases hr
  | r :: rest, done, T, H, pid, I, ho, hir, hrun => by
    have ho' := ho
    simp only [orderOk, Bool.and_eq_true, Bool.not_eq_true', Bool.or_eq_true] at ho
    obtain ⟨⟨⟨h1, h2⟩, h3⟩, h4⟩ := ho
    have hnd : r ∉ done := fun h => by
      rw [List.contains_iff_mem.2 h] at h1
      cases h1
    have hrs := top_lt h2
    by_cases hsoft : soft cs anc r = true
    · have hrl : r < cs.length := by rw [B.len]; exact hrs
      have hcr : cs[r]? = some cs[r] := List.getElem?_eq_getElem hrl
      have hrun' := hrun
      simp only [emit, nth_eq, hcr, hsoft, Bool.true_or, if_true, List.nil_append] at hrun'
      obtain ⟨T1, H1, pid1, I1, hr1⟩ := I.advance B hrs hnd hsoft (top_anc B I.doneDown hrs h2) hcr hrun'
      by_cases hri : r = i
      · exact ⟨done ++ [r], rest, T1, H1, pid1, I1, h4, by simp, hr1, .inl (by simp [hri])⟩
      · have hir' : i ∈ rest := (List.mem_cons.1 hir).resolve_left fun h => hri h.symm
        obtain ⟨d', r', T', H', pid', q1, q2, q3, q4, q5⟩ := go_ahead B hi I1 h4 hir' hr1
        exact ⟨d', r', T', H', pid', q1, q2, by rw [q3]; simp, q4, q5⟩
    · have hsoft' : soft cs anc r = false := by simpa using hsoft
      by_cases hri : r = i
      · subst hri
        exact ⟨done, r :: rest, T, H, pid, I, ho', rfl, hrun, .inr ⟨rest, rfl, hsoft'⟩⟩
      · exfalso
        have hir' : i ∈ rest := (List.mem_cons.1 hir).resolve_left fun h => hri h.symm
        rcases h3 with h3 | h3
        · exact hsoft h3
        · rw [List.all_eq_true] at h3
          have := ready_anc B I hi hrs (h3 i hir')
          exact hnd (I.sub r this)

theorem step_make {call : Call} {T : List AV} {H : Hp} {i : IOp} {r : CR} {H1 : Hp} (hm : isMakeI i = true) (h : xstep call T H i = some (r, H1)) : ∃ e cells id, H.new e cells = some (id, H1) := by
  have hn : isCallI i = false := by revert hm; cases i <;> simp [isMakeI, isCallI]
  rw [xstep_plain call T H hn] at h
  have hp : xpure (evArg T) i = none := by revert hm; cases i <;> simp [isMakeI, xpure]
  have hl : xload (evArg T) H i = none := by revert hm; cases i <;> simp [isMakeI, xload]
  have hw : xwrite (evArg T) H i = none := by revert hm; cases i <;> simp [isMakeI, xwrite]
  rw [hp, hl] at h
  simp only [xeff, hw] at h
  split at h
  · rename_i v H' hx
    injection h with h; injection h with h1 h2; subst h2
    split at hx
    · rename_i e cells f _
      split at hx
      · rename_i id H2 hnw
        injection hx with hx; injection hx with hx1 hx2; subst hx2
        exact ⟨e, cells, id, hnw⟩
      · cases hx
    · cases hx
  · cases h

theorem any_sound {call : Call} (hok : CallOk P w0 call) (hdom : CallDom call) (B : PlanOk P ops cs anc) {order : List Nat} (hord : orderOk ops cs anc [] order = true) (hcov : ∀ i, i < ops.size → i ∈ order)
    {Q : Exit → Act → World → Prop} {out : Out} (hQ : ∀ e a' w', ORel P w0 μ0 H0 ds out e a' w' → Q e a' w') :
    ∀ (n : Nat) {done rest : List Nat} {T : List AV} {H : Hp} {listed : Array Bool} {a : Act} {w : World} {μ : Mu} {pid : Nat → Pos}, Inv P w0 ops cs anc μ0 H0 ds done T H listed a w μ pid →
      done ++ rest = order → orderOk ops cs anc done rest = true → runIns call (emit cs anc done rest) T H = some out → unl ops listed ≤ n → wpAny P .any ops Q n listed a w := by
  have fin : ∀ {done rest : List Nat} {T : List AV} {H : Hp} {listed : Array Bool} {a : Act} {w : World} {μ : Mu} {pid : Nat → Pos}, Inv P w0 ops cs anc μ0 H0 ds done T H listed a w μ pid →
      done ++ rest = order → orderOk ops cs anc done rest = true → runIns call (emit cs anc done rest) T H = some out → (∀ i, i < ops.size → listed.getD i false = true) → Q .normal a w := by
    intro done rest T H listed a w μ pid I _ ho hrun hall
    have hrest : rest = [] := by
      cases rest with
      | nil => rfl
      | cons r rest =>
        exfalso
        simp only [orderOk, Bool.and_eq_true, Bool.not_eq_true'] at ho
        obtain ⟨⟨⟨h1, h2⟩, _⟩, _⟩ := ho
        have := I.sub r (hall r (top_lt h2))
        rw [List.contains_iff_mem.2 this] at h1
        cases h1
    subst hrest
    simp only [emit, runIns, Option.some.injEq] at hrun
    subst hrun
    refine hQ _ _ _ ⟨μ, I.ext, I.new, I.defs, I.rel, ⟨I.tl, fun t x hx => ?_⟩, rfl⟩
    rcases I.tmps t x hx with ⟨i, hi, hu, _⟩ | h
    · rw [hall i (I.rng i hi)] at hu; cases hu
    · exact h
  intro n
  induction n with
  | zero =>
    intro done rest T H listed a w μ pid I hdr ho hrun hn
    have hall := unl_zero (ops := ops) (listed := listed) (by omega)
    refine ⟨?_, fin I hdr ho hrun hall⟩
    cases hr : Region.ready .any ops listed with
    | nil => rfl
    | cons i l =>
      exfalso
      have hi : i ∈ Region.ready .any ops listed := by rw [hr]; exact List.mem_cons_self ..
      have h1 := ready_unl hi
      rw [hall i (ready_lt hi)] at h1
      cases h1
  | succ n ih =>
    intro done rest T H listed a w μ pid I hdr ho hrun hn
    refine ⟨fun hr => fin I hdr ho hrun fun i hi => all_listed I.lsz hr hord (fun j hj => by cases hj) i (hcov i hi), fun i hi => ?_⟩
    have his := ready_lt hi
    have hiu := ready_unl hi
    have hlt : unl ops (listed.setIfInBounds i true) ≤ n := by
      have := unl_set I.lsz his hiu
      omega
    by_cases hid : i ∈ done
    · exact I.catch B hi hid fun a' w' μ' I' => ih I' hdr ho hrun hlt
    · have hir : i ∈ rest := by
        have := hcov i his
        rw [← hdr] at this
        exact (List.mem_append.1 this).resolve_left hid
      obtain ⟨d', r', T', H', pid', I', ho', hdr', hrun', hcase⟩ := go_ahead B hi I ho hir hrun
      have hdr'' := hdr'.trans hdr
      by_cases hid' : i ∈ d'
      · exact I'.catch B hi hid' fun a' w' μ' I'' => ih I'' hdr'' ho' hrun' hlt
      · rcases hcase with h | ⟨r, rfl, hs⟩
        · exact absurd h hid'
        · -- it isn't soft
          obtain ⟨_, o, hoo, _⟩ := mem_ready.1 hi
          obtain ⟨c, hc, hop, hg, hdst⟩ := B.get i o hoo
          have hT := I'.maskTR
          obtain ⟨l1, l2⟩ := looks_args hc
          have hev : ∀ x ∈ iargs c.op, evArg (mask (waits cs d' listed) 0 T') x = evArg T' x := fun x hx => mask_ev fun t ht => ready_clean B I' hi (l1 x hx t ht)
          have hwa : wantedA (mask (waits cs d' listed) 0 T') c.guard = wantedA T' c.guard := mask_wanted fun t b h => ready_clean B I' hi (l2 t b h)
          have ho'' := ho'
          simp only [orderOk, Bool.and_eq_true, Bool.not_eq_true'] at ho''
          obtain ⟨⟨⟨_, ht⟩, _⟩, h4⟩ := ho''
          have htop := top_anc B I'.doneDown his ht
          simp only [emit, nth_eq, hc, hs, Bool.false_or] at hrun'
          -- what the checks say
          have hchk : ∀ (x : AV) (H1 : Hp) (μ' : Mu), NewIds H' μ μ' → runIns call ((if isMakeI c.op = true then [] else checks cs anc i d') ++ emit cs anc (d' ++ [i]) r) (put T' c.dst x) H1 = some out →
              (isMakeI c.op = true → H1 = H' ∨ ∃ e cells id, H'.new e cells = some (id, H1)) →
              runIns call (emit cs anc (d' ++ [i]) r) (put T' c.dst x) H1 = some out ∧ ∀ j ∈ d', listed.getD j false = false → PInv cs j (put T' c.dst x) H1 μ' (pid' j) := by
            intro x H1 μ' hnew hr hmk
            by_cases hm : isMakeI c.op = true
            · rw [if_pos hm] at hr
              exact ⟨hr, I'.keepAll B hi hid' hc hnew x (.inl ⟨hm, hmk hm⟩) (call := call)⟩
            · rw [if_neg hm] at hr
              obtain ⟨hr1, hr2⟩ := checks_pass checks_form hr
              exact ⟨hr1, I'.keepAll B hi hid' hc hnew x (.inr hr2)⟩
          refine wpOp_some hoo ?_
          simp only [runIns] at hrun'
          split at hrun'
          · cases hrun'
          · rename_i hgw
            rw [guard_spec hT hg (hwa.trans hgw)]
            simp only [Bool.false_eq_true, if_false]
            obtain ⟨k1, k2⟩ := hchk (.tup []) H' μ (NewIds.refl _ _) hrun' (fun _ => .inl rfl)
            rw [← hdst]
            exact ih (I'.hardstep B hi hid' hc htop I'.rel (Ext.refl μ) (NewIds.refl _ _) (Dom.refl _) (.tup (vs := #[]) .nil) k2) (by rw [← hdr'']; simp) h4 k1 hlt
          · rename_i hgw
            rw [guard_spec hT hg (hwa.trans hgw)]
            simp only [if_true]
            have hna := cOp_not_again hop
            split at hrun'
            · rename_i x H1 hst
              have hst' := (xstep_congr (call := call) (H := H') hna hev).trans hst
              refine step_sound hok I'.rel hT hop hst' ⟨?_, fun y hy => by cases hy⟩
              intro y hy μ' w' u he hn' R' hv
              injection hy with hy
              subst hy
              have hd1 := step_dom hdom hst
              obtain ⟨k1, k2⟩ := hchk x H1 μ' hn' hrun' (fun hm => .inr (step_make hm hst))
              rw [← hdst]
              exact ih (I'.hardstep B hi hid' hc htop R' he hn' hd1 hv k2) (by rw [← hdr'']; simp) h4 k1 hlt
            · rename_i x H1 hst
              injection hrun' with hrun'
              subst hrun'
              have hst' := (xstep_congr (call := call) (H := H') hna hev).trans hst
              refine step_sound hok I'.rel hT hop hst' ⟨fun y hy => (by cases hy), ?_⟩
              intro y hy μ' w' u he hn' R' hv
              injection hy with hy
              subst hy
              exact hQ _ _ _ ⟨μ', I'.ext.trans he, I'.new.trans I'.dom hn', I'.defs, R', u, rfl, hv⟩
            · cases hrun'

/-- **A region that draws its order.** -/
theorem draw_sound (hmix : P.follows .mixedOrders = true) {call : Call} (hok : CallOk P w0 call) (hdom : CallDom call) {id : Nat} {ins : List Ins} (hc : cDraw P ops = some ins) {out : Out}
    {μ : Mu} {H : Hp} {w : World} {T : List AV} {a : Act} (R : Rel P w0 μ H w) (hT : TR P.globals.size μ T a.tmps) (hr : runIns call ins T H = some out) :
    (Code.region id ops true).wp P (ORel P w0 μ H a.defers out) a w := by
  unfold cDraw at hc
  split at hc
  · cases hc
  · rename_i cs hcs
    simp only at hc
    split at hc
    · rename_i hcond
      injection hc with hc
      subst hc
      simp only [Bool.and_eq_true] at hcond
      obtain ⟨⟨⟨h1, h2⟩, h3⟩, h4⟩ := hcond
      have B := planOk_of hcs h1 h3
      rw [List.all_eq_true] at h4
      refine wp_region_any hmix ?_
      have hl0 : ∀ i, (Array.replicate ops.size false).getD i false = false := by
        intro i
        by_cases hi : i < ops.size <;> simp [hi]
      refine any_sound hok hdom B h2 (fun i hi => List.contains_iff_mem.1 (h4 i (List.mem_range.2 hi))) (fun _ _ _ h => h) ops.size (done := []) (pid := fun _ => .one) (μ := μ)
        ⟨R.of_heap rfl rfl rfl rfl, Ext.refl μ, NewIds.refl H μ, Dom.refl H, rfl, by simp, fun i hi => ?_, fun i hi => absurd hi List.not_mem_nil, fun i hi => absurd hi List.not_mem_nil,
          fun i hi => absurd hi List.not_mem_nil, fun i hi => ?_, hT.1, fun t x hx => .inr (hT.2 t x hx), fun i hi => absurd hi List.not_mem_nil, fun i hi => absurd hi List.not_mem_nil, fun i hi => absurd hi List.not_mem_nil⟩ rfl h2 hr ?_
      · rw [hl0] at hi; cases hi
      · rw [hl0] at hi; cases hi
      · unfold unl
        exact Nat.le_trans List.countP_le_length (by simp)
    · cases hc

end
end Ev

/- Code, bodies and calls: what the evaluator says is what the model does. -/
set_option autoImplicit false
set_option linter.unusedSimpArgs false
set_option linter.unusedVariables false
namespace Ev
open Go

/-! ### No name is lost -/
def OutDom (H : Hp) : Out → Prop
  | .go _ _ H' => Dom H H'
  | .pan _ H' => Dom H H'

theorem OutDom.trans {H H1 : Hp} {out : Out} (h : Dom H H1) (h' : OutDom H1 out) : OutDom H out := by
  cases out <;> exact h.trans h'

theorem runIns_dom {call : Call} (hd : CallDom call) : ∀ {l : List Ins} {T : List AV} {H : Hp} {out : Out}, runIns call l T H = some out → OutDom H out
  | [], T, H, out, h => by simp only [runIns, Option.some.injEq] at h; subst h; exact Dom.refl _
  | i :: l, T, H, out, h => by
    simp only [runIns] at h
    split at h
    · cases h
    · exact runIns_dom hd h
    · split at h
      · rename_i hs
        exact OutDom.trans (step_dom hd hs) (runIns_dom hd h)
      · rename_i hs
        injection h with h
        subst h
        exact step_dom hd hs
      · cases h

theorem iter_dom {f : List AV → Hp → Option Out} (hf : ∀ T H out, f T H = some out → OutDom H out) : ∀ {n : Nat} {T : List AV} {H : Hp} {out : Out}, iter f n T H = some out → OutDom H out
  | 0, _, _, _, h => by simp [iter] at h
  | n + 1, T, H, out, h => by
    simp only [iter] at h
    split at h
    · rename_i hs
      exact OutDom.trans (hf _ _ _ hs) (iter_dom hf h)
    · exact hf _ _ _ h

theorem run_dom {call : Call} (hd : CallDom call) {lf : Nat} : ∀ {c : PC} {T : List AV} {H : Hp} {out : Out}, run call lf c T H = some out → OutDom H out
  | .skip, T, H, out, h => by simp only [run, Option.some.injEq] at h; subst h; exact Dom.refl _
  | .exit _, T, H, out, h => by simp only [run, Option.some.injEq] at h; subst h; exact Dom.refl _
  | .ret, T, H, out, h => by simp only [run, Option.some.injEq] at h; subst h; exact Dom.refl _
  | .seq a b, T, H, out, h => by
    simp only [run] at h
    split at h
    · rename_i hs
      exact OutDom.trans (run_dom hd (c := a) hs) (run_dom hd (c := b) h)
    · exact run_dom hd (c := a) h
  | .cond c a b, T, H, out, h => by
    simp only [run] at h
    split at h
    · exact run_dom hd (c := a) h
    · exact run_dom hd (c := b) h
    · cases h
  | .block id c, T, H, out, h => by
    simp only [run] at h
    split at h
    · rename_i hs
      injection h with h
      subst h
      have := run_dom hd (c := c) hs
      exact this
    · exact run_dom hd (c := c) h
  | .loop c, T, H, out, h => by
    simp only [run] at h
    exact iter_dom (fun T H out h => run_dom hd (c := c) h) h
  | .scope c, T, H, out, h => by
    simp only [run] at h
    exact run_dom hd (c := c) h
  | .ops l, T, H, out, h => by
    simp only [run] at h
    exact runIns_dom hd h

section
variable {P : Program} {w0 : World}

theorem exit_then {μ : Mu} {H : Hp} {ds : List Deferred} {out : Out} {K : Act → World → Prop} {Q : Exit → Act → World → Prop}
    (hn : ∀ T1 H1, out = .go .norm T1 H1 → ∀ μ1 a1 w1, Ext μ μ1 → NewIds H μ μ1 → a1.defers = ds → Rel P w0 μ1 H1 w1 → TR P.globals.size μ1 T1 a1.tmps → K a1 w1)
    (ho : (∀ T1 H1, out ≠ .go .norm T1 H1) → ∀ e a1 w1, ORel P w0 μ H ds out e a1 w1 → e ≠ .normal → Q e a1 w1) :
    ∀ e a1 w1, ORel P w0 μ H ds out e a1 w1 → Exit.then K Q e a1 w1 := by
  intro e a1 w1 h
  have h0 := h
  obtain ⟨μ1, h1, h2, h3, h4⟩ := h
  cases out with
  | go x T1 H1 =>
    obtain ⟨h5, h6, h7⟩ := h4
    cases x with
    | norm =>
      simp only at h7
      subst h7
      exact hn T1 H1 rfl μ1 a1 w1 h1 h2 h3 h5 h6
    | exit i =>
      simp only at h7
      subst h7
      exact ho (fun _ _ h => by cases h) _ a1 w1 h0 (by intro h; cases h)
    | ret =>
      simp only at h7
      subst h7
      exact ho (fun _ _ h => by cases h) _ a1 w1 h0 (by intro h; cases h)
  | pan v H1 =>
    obtain ⟨h5, u, rfl, h7⟩ := h4
    exact ho (fun _ _ h => by cases h) _ a1 w1 h0 (by intro h; cases h)

theorem rounds_mono {P : Program} {c : Code} {Q Q' : Exit → Act → World → Prop} (hq : ∀ e a w, Q e a w → Q' e a w) : ∀ {n : Nat} {a : Act} {w : World}, Code.rounds P c Q n a w → Code.rounds P c Q' n a w
  | 0, _, _, h => h.elim
  | n + 1, a, w, h => by
    rw [rounds_succ] at h ⊢
    refine Go.wp_mono h fun e a1 w1 hh => ?_
    cases e with
    | normal => exact rounds_mono hq hh
    | _ => exact hq _ _ _ hh

theorem code_sound (hmix : P.follows .mixedOrders = true) {call : Call} (hok : CallOk P w0 call) (hdom : CallDom call) {lf : Nat} :
    ∀ (c : Code) (pc : PC), cCode P c = some pc → ∀ {μ : Mu} {H : Hp} {w : World} {T : List AV} {a : Act} {out : Out}, Rel P w0 μ H w → TR P.globals.size μ T a.tmps →
      run call lf pc T H = some out → c.wp P (ORel P w0 μ H a.defers out) a w := by
  intro c
  induction c with
  | skip =>
    intro pc hc μ H w T a out R hT hr
    simp only [cCode, Option.some.injEq] at hc
    subst hc
    simp only [run, Option.some.injEq] at hr
    subst hr
    exact wp_skip ⟨μ, Ext.refl μ, NewIds.refl H μ, rfl, R, hT, rfl⟩
  | label l =>
    intro pc hc μ H w T a out R hT hr
    simp only [cCode, Option.some.injEq] at hc
    subst hc
    simp only [run, Option.some.injEq] at hr
    subst hr
    exact wp_label ⟨μ, Ext.refl μ, NewIds.refl H μ, rfl, R, hT, rfl⟩
  | exit id =>
    intro pc hc μ H w T a out R hT hr
    simp only [cCode, Option.some.injEq] at hc
    subst hc
    simp only [run, Option.some.injEq] at hr
    subst hr
    exact wp_exit ⟨μ, Ext.refl μ, NewIds.refl H μ, rfl, R, hT, rfl⟩
  | ret =>
    intro pc hc μ H w T a out R hT hr
    simp only [cCode, Option.some.injEq] at hc
    subst hc
    simp only [run, Option.some.injEq] at hr
    subst hr
    exact wp_ret ⟨μ, Ext.refl μ, NewIds.refl H μ, rfl, R, hT, rfl⟩
  | region id ops draw =>
    intro pc hc μ H w T a out R hT hr
    cases draw with
    | false =>
      simp only [cCode] at hc
      obtain ⟨l, hl, rfl⟩ := Option.map_eq_some_iff.1 hc
      simp only [run] at hr
      exact region_sound hok hdom hl R hT hr
    | true =>
      simp only [cCode] at hc
      obtain ⟨l, hl, rfl⟩ := Option.map_eq_some_iff.1 hc
      simp only [run] at hr
      exact draw_sound hmix hok hdom hl R hT hr
  | seq x y ihx ihy =>
    intro pc hc μ H w T a out R hT hr
    simp only [cCode, Option.bind_eq_bind, Option.pure_def] at hc
    obtain ⟨px, hx, hc⟩ := Option.bind_eq_some_iff.1 hc
    obtain ⟨py, hy, hc⟩ := Option.bind_eq_some_iff.1 hc
    injection hc with hc
    subst hc
    simp only [run] at hr
    cases hrx : run call lf px T H with
    | none => rw [hrx] at hr; cases hr
    | some ox =>
      refine wp_seq (wp_mono (ihx px hx R hT hrx) (exit_then ?_ ?_))
      · rintro T1 H1 rfl μ1 a1 w1 he hn hd R1 hT1
        rw [hrx] at hr
        simp only at hr
        refine wp_mono (ihy py hy R1 hT1 hr) fun e a' w' h => ?_
        rw [hd] at h
        exact h.after he hn (run_dom hdom hrx)
      · intro hne e a1 w1 h _
        rw [hrx] at hr
        have : ox = out := by
          revert hr
          split
          · rename_i h'; injection h' with h'; exact absurd h' (hne _ _)
          · intro h; injection h
        rw [← this]
        exact h
  | cond x y z ihy ihz =>
    intro pc hc μ H w T a out R hT hr
    simp only [cCode, Option.bind_eq_bind, Option.pure_def] at hc
    obtain ⟨py, hy, hc⟩ := Option.bind_eq_some_iff.1 hc
    obtain ⟨pz, hz, hc⟩ := Option.bind_eq_some_iff.1 hc
    injection hc with hc
    subst hc
    simp only [run] at hr
    have hv := arg_vr R.glob hT x
    split at hr
    · rename_i hb
      rw [hb] at hv
      generalize hu : a.eval x = u at hv
      cases hv
      exact wp_cond_true hu (ihy py hy R hT hr)
    · rename_i hb
      rw [hb] at hv
      generalize hu : a.eval x = u at hv
      cases hv
      exact wp_cond_false hu (ihz pz hz R hT hr)
    · cases hr
  | block id c ih =>
    intro pc hc μ H w T a out R hT hr
    simp only [cCode] at hc
    obtain ⟨p, hp, rfl⟩ := Option.map_eq_some_iff.1 hc
    simp only [run] at hr
    cases hrc : run call lf p T H with
    | none => rw [hrc] at hr; cases hr
    | some oc =>
      rw [hrc] at hr
      refine wp_block (wp_mono (ih p hp R hT hrc) fun e a1 w1 h => ?_)
      obtain ⟨μ1, h1, h2, h3, h4⟩ := h
      cases oc with
      | go x T1 H1 =>
        obtain ⟨h5, h6, h7⟩ := h4
        cases x with
        | norm =>
          simp only [Option.some.injEq] at hr h7
          subst hr; subst h7
          exact ⟨μ1, h1, h2, h3, h5, h6, rfl⟩
        | ret =>
          simp only [Option.some.injEq] at hr h7
          subst hr; subst h7
          exact ⟨μ1, h1, h2, h3, h5, h6, rfl⟩
        | exit j =>
          simp only [Option.some.injEq] at hr h7
          subst hr; subst h7
          simp only [Exit.inBlock]
          split
          · rename_i hj
            exact ⟨μ1, h1, h2, h3, h5, h6, rfl⟩
          · rename_i hj
            exact ⟨μ1, h1, h2, h3, h5, h6, rfl⟩
      | pan v H1 =>
        simp only [Option.some.injEq] at hr
        subst hr
        obtain ⟨h5, u, rfl, h7⟩ := h4
        exact ⟨μ1, h1, h2, h3, h5, u, rfl, h7⟩
  | loop c ih =>
    intro pc hc μ H w T a out R hT hr
    simp only [cCode] at hc
    obtain ⟨p, hp, rfl⟩ := Option.map_eq_some_iff.1 hc
    simp only [run] at hr
    have key : ∀ (n : Nat) {μ : Mu} {H : Hp} {w : World} {T : List AV} {a : Act}, Rel P w0 μ H w → TR P.globals.size μ T a.tmps → iter (run call lf p) n T H = some out →
        Code.rounds P c (ORel P w0 μ H a.defers out) n a w := by
      intro n
      induction n with
      | zero => intro μ H w T a _ _ h; simp [iter] at h
      | succ n ihn =>
        intro μ H w T a R hT h
        simp only [iter] at h
        cases hrc : run call lf p T H with
        | none => rw [hrc] at h; cases h
        | some oc =>
          rw [hrc] at h
          rw [rounds_succ]
          refine wp_mono (ih p hp R hT hrc) (exit_then ?_ ?_)
          · rintro T1 H1 rfl μ1 a1 w1 he hn hd R1 hT1
            simp only at h
            have := ihn R1 hT1 h
            refine rounds_mono (fun e a' w' h => ?_) this
            rw [hd] at h
            exact h.after he hn (run_dom hdom hrc)
          · intro hne e a1 w1 hh _
            have : oc = out := by
              revert h
              split
              · rename_i h'; injection h' with h'; exact absurd h' (hne _ _)
              · intro h; injection h
            rw [← this]
            exact hh
    exact wp_loop_rounds lf (key lf R hT hr)
  | scope c ih =>
    intro pc hc μ H w T a out R hT hr
    simp only [cCode] at hc
    obtain ⟨p, hp, rfl⟩ := Option.map_eq_some_iff.1 hc
    simp only [run] at hr
    refine wp_scope_straight (wp_mono (ih p hp R hT hr) fun e a1 w1 h => ?_)
    cases e with
    | goto l =>
      obtain ⟨μ1, h1, h2, h3, h4⟩ := h
      cases out with
      | go x T1 H1 =>
        obtain ⟨h5, h6, h7⟩ := h4
        cases x <;> simp only at h7 <;> cases h7
      | pan v H1 =>
        obtain ⟨h5, u, h6, h7⟩ := h4
        cases h6
    | _ => exact h
  | rangeFunc _ _ _ _ _ _ => intro pc hc; simp [cCode] at hc
  | goto _ => intro pc hc; simp [cCode] at hc
  | refuse _ => intro pc hc; simp [cCode] at hc

end
end Ev

/- Calls: what the evaluator says is what the model does. -/
set_option autoImplicit false
set_option linter.unusedSimpArgs false
set_option linter.unusedVariables false
namespace Ev
open Go

section
variable {P : Program} {w0 : World}

/-- One result, as the model reads it. -/
def resSem (tmps : Array Value) : ResultVar → Sem Value
  | .tmp t => pure (tmps.getD t undef)
  | .cell a t => do loadVar t (← asAddr (tmps.getD a undef))

theorem res_one {μ : Mu} {H : Hp} {w : World} {T : List AV} {tmps : Array Value} (R : Rel P w0 μ H w) (hT : TR P.globals.size μ T tmps) {r : ResultVar} {i : IRes} (hc : cRes P r = some i) {x : AV}
    (h : resOne T H i = some x) : ∃ v, (resSem tmps r).run P w = .ok v w ∧ VR P.globals.size μ x v := by
  have hTt : ∀ t, VR P.globals.size μ (evArg T (.t t)) (tmps.getD t undef) := by
    intro t
    simp only [evArg, nth_eq]
    cases ht : T[t]? with
    | none => exact .any _
    | some y => exact hT.2 t y ht
  cases r with
  | tmp t =>
    simp only [cRes, Option.some.injEq] at hc
    subst hc
    simp only [resOne, nth_eq] at h
    exact ⟨_, by simp [resSem], hT.2 t x h⟩
  | cell t ty =>
    simp only [cRes] at hc
    split at hc
    · rename_i n ht
      injection hc with hc
      subst hc
      simp only [resOne, xload] at h
      split at h <;> (try cases h; done)
      rename_i id g i hb
      have hv := hTt t
      rw [hb] at hv
      generalize hu : tmps.getD t undef = u at hv
      cases hv
      rename_i L hL
      obtain ⟨cs, hcs, rfl⟩ := Option.map_eq_some_iff.1 h
      obtain ⟨vs, hvs, hlen, hcell⟩ := load_list R hcs hL
      refine ⟨.agg vs.toArray, ?_, .agg (by simpa using hvs)⟩
      have hr := run_loadCells_list (P := P) w ⟨L.blk, L.base + i, none⟩ vs hcell
      rw [hlen] at hr
      simp only [resSem, hu]
      simp [asAddr, loadVar, (isAgg_some ht _).1, (isAgg_some ht _).2, hr]
    · rename_i n ht
      injection hc with hc
      subst hc
      simp only [resOne, xload] at h
      split at h <;> (try cases h; done)
      rename_i id g i hb
      have hv := hTt t
      rw [hb] at hv
      generalize hu : tmps.getD t undef = u at hv
      cases hv
      rename_i L hL
      split at h <;> (try cases h; done)
      rename_i y hl
      injection h with h
      subst h
      obtain ⟨vs, hvs, hlen, hcell⟩ := load_list R hl hL
      cases hvs with
      | cons hh ht' =>
        cases ht'
        rename_i v'
        have h0 := hcell 0 v' rfl
        rw [addr_add_zero] at h0
        refine ⟨v', ?_, hh⟩
        simp only [resSem, hu]
        simp [asAddr, loadVar, (isAgg_some ht _).1, h0]
    · cases hc

theorem res_all {μ : Mu} {H : Hp} {w : World} {T : List AV} {tmps : Array Value} (R : Rel P w0 μ H w) (hT : TR P.globals.size μ T tmps) :
    ∀ {rs : List ResultVar} {is : List IRes} {xs : List AV}, cResL P rs = some is → resAll T H is = some xs → ∃ vs, (rs.mapM (resSem tmps)).run P w = .ok vs w ∧ VRs P.globals.size μ xs vs
  | [], is, xs, hc, h => by
    simp only [cResL, Option.some.injEq] at hc
    subst hc
    simp only [resAll, Option.some.injEq] at h
    subst h
    exact ⟨[], by simp, .nil⟩
  | r :: rs, is, xs, hc, h => by
    simp only [cResL, Option.bind_eq_bind, Option.pure_def] at hc
    obtain ⟨i, hi, hc⟩ := Option.bind_eq_some_iff.1 hc
    obtain ⟨js, hj, hc⟩ := Option.bind_eq_some_iff.1 hc
    injection hc with hc
    subst hc
    simp only [resAll] at h
    split at h <;> (try cases h; done)
    rename_i x hx
    split at h <;> (try cases h; done)
    rename_i ys hys
    injection h with h
    subst h
    obtain ⟨v, h1, h2⟩ := res_one R hT hi hx
    obtain ⟨vs, h3, h4⟩ := res_all R hT hj hys
    exact ⟨v :: vs, by simp [h1, h3], .cons h2 h4⟩

theorem res_sound {μ : Mu} {H : Hp} {w : World} {T : List AV} {tmps : Array Value} (R : Rel P w0 μ H w) (hT : TR P.globals.size μ T tmps) {fn : Func} {is : List IRes} (hc : cResL P fn.results.toList = some is) {x : AV}
    (h : resOf T H is = some x) : ∃ v, (results fn tmps).run P w = .ok v w ∧ VR P.globals.size μ x v := by
  have hform : results fn tmps = (do
      let vs ← fn.results.mapM (resSem tmps)
      pure (if h : vs.size = 1 then vs[0] else .tuple vs)) := by
    unfold results
    congr 1
  rw [hform]
  have hm : fn.results.mapM (resSem tmps) = List.toArray <$> fn.results.toList.mapM (resSem tmps) := Array.mapM_eq_mapM_toList
  unfold resOf at h
  split at h
  · rename_i y hy
    injection h with h
    subst h
    obtain ⟨vs, h1, h2⟩ := res_all R hT hc hy
    cases h2 with
    | cons hv hs =>
      cases hs
      rename_i v
      exact ⟨v, by simp [hm, h1], hv⟩
  · rename_i ys hno hy
    injection h with h
    subst h
    obtain ⟨vs, h1, h2⟩ := res_all R hT hc hy
    have hne : vs.length ≠ 1 := by
      intro hl
      rw [← h2.length] at hl
      obtain ⟨y, rfl⟩ := List.length_eq_one_iff.1 hl
      exact hno y rfl
    refine ⟨.tuple vs.toArray, by simp [hm, h1, hne], .tup (by simpa using h2)⟩
  · cases h

/-- What is known of the table of functions. -/
def FnsOk (P : Program) (fns : Nat → Option IFn) : Prop :=
  ∀ f i, fns f = some i → ∃ fn, P.funcs[f]? = some fn ∧ cFn P fn = some i ∧ (fn.name == "runtime.NumGoroutine") = false

/-- What is known of a contract that stands in for a function. -/
def PrimOk (P : Program) (w0 : World) (f : Nat) (p : Prim) : Prop :=
  ∀ (call : Call), CallOk P w0 call → CallDom call → ∀ (args : List AV) (H : Hp) (r : CR) (H' : Hp), p call args H = some (r, H') →
    Dom H H' ∧ ∀ (μ : Mu) (w : World) (vs : List Value), Rel P w0 μ H w → VRs P.globals.size μ args vs → FuncAt P f vs.toArray w (CPost P w0 μ H r H')

theorem VRs.replicate {G : Nat} {μ : Mu} (v : Value) : ∀ n, VRs G μ (List.replicate n .any) (List.replicate n v)
  | 0 => .nil
  | n + 1 => by simp only [List.replicate_succ]; exact .cons (.any v) (VRs.replicate v n)

theorem TR.of_vrs {G : Nat} {μ : Mu} {T : List AV} {tmps : Array Value} (h : VRs G μ T tmps.toList) : TR G μ T tmps := by
  refine ⟨by have := h.length; simp at this; omega, fun i x hx => ?_⟩
  obtain ⟨v, hv, hvr⟩ := h.get hx
  have : tmps[i]? = some v := by simpa using hv
  simp [this]
  exact hvr

theorem callFunc_enter {f : Nat} {fn : Func} {c : Code} (hf : P.funcs[f]? = some fn) (hb : fn.body = some c) (hn : (fn.name == "runtime.NumGoroutine") = false) (args : Array Value) (w : World) :
    (callFunc f args).run P w = .ok (.enter f args) w := by
  have hn' : ¬ fn.name = "runtime.NumGoroutine" := by simpa using hn
  simp [callFunc, hf, hb, hn']

theorem body_dom {call : Call} (hd : CallDom call) {lf : Nat} {fn : IFn} {args : List AV} {H : Hp} {r : CR} {H' : Hp} (h : body call lf fn args H = some (r, H')) : Dom H H' := by
  unfold body at h
  split at h
  · cases h
  · rename_i hr
    obtain ⟨v, _, hv⟩ := Option.map_eq_some_iff.1 h
    injection hv with h1 h2
    subst h2
    have := run_dom hd hr
    exact this
  · rename_i hr
    injection h with h
    injection h with h1 h2
    subst h2
    have := run_dom hd hr
    exact this
  · cases h

theorem body_sound (hmix : P.follows .mixedOrders = true) {call : Call} (hok : CallOk P w0 call) (hdom : CallDom call) {lf f : Nat} {i : IFn} {fn : Func} (hf : P.funcs[f]? = some fn) (hc : cFn P fn = some i)
    (hn : (fn.name == "runtime.NumGoroutine") = false) {args : List AV} {H : Hp} {r : CR} {H' : Hp} (h : body call lf i args H = some (r, H'))
    {μ : Mu} {w : World} {vs : List Value} (R : Rel P w0 μ H w) (hvs : VRs P.globals.size μ args vs) : FuncAt P f vs.toArray w (CPost P w0 μ H r H') := by
  simp only [cFn, Option.bind_eq_bind, Option.pure_def] at hc
  obtain ⟨c, hb, hc⟩ := Option.bind_eq_some_iff.1 hc
  obtain ⟨pc, hpc, hc⟩ := Option.bind_eq_some_iff.1 hc
  obtain ⟨rs, hrs, hc⟩ := Option.bind_eq_some_iff.1 hc
  injection hc with hc
  subst hc
  unfold FuncAt
  rw [callFunc_enter hf hb hn]
  simp only
  refine calls_of_wp hf hb ?_
  have hT : TR P.globals.size μ (pad args fn.ntmps) (vs.toArray ++ Array.replicate (fn.ntmps - vs.toArray.size) undef) := by
    refine TR.of_vrs ?_
    unfold pad
    have h2 : args.length = vs.toArray.size := by simpa using hvs.length
    rw [h2]
    have := hvs.append (VRs.replicate (G := P.globals.size) (μ := μ) undef (fn.ntmps - vs.toArray.size))
    simpa using this
  unfold body at h
  cases hr : run call lf pc (pad args fn.ntmps) H with
  | none => simp only [hr] at h; cases h
  | some out =>
    simp only [hr] at h
    refine wp_mono (code_sound hmix hok hdom c pc hpc R hT hr) fun e a1 w1 ho => ?_
    obtain ⟨μ1, h1, h2, h3, h4⟩ := ho
    simp only at h3
    cases out with
    | go x T1 H1 =>
      obtain ⟨h5, h6, h7⟩ := h4
      cases x with
      | exit j => simp at h
      | norm =>
        simp only at h h7
        obtain ⟨y, hy, he⟩ := Option.map_eq_some_iff.1 h
        injection he with e1 e2
        subst e1; subst e2; subst h7
        obtain ⟨v, hv, hvr⟩ := res_sound h5 h6 hrs hy
        exact ⟨h3, v, hv, μ1, h1, h2, h5, hvr⟩
      | ret =>
        simp only at h h7
        obtain ⟨y, hy, he⟩ := Option.map_eq_some_iff.1 h
        injection he with e1 e2
        subst e1; subst e2; subst h7
        obtain ⟨v, hv, hvr⟩ := res_sound h5 h6 hrs hy
        exact ⟨h3, v, hv, μ1, h1, h2, h5, hvr⟩
    | pan v H1 =>
      simp only [Option.some.injEq, Prod.mk.injEq] at h
      obtain ⟨rfl, rfl⟩ := h
      obtain ⟨h5, u, rfl, h7⟩ := h4
      exact ⟨h3, μ1, h1, h2, h5, u, rfl, h7⟩

/-- **What the evaluator says of a call is so.** -/
theorem evalF_sound (hmix : P.follows .mixedOrders = true) {fns : Nat → Option IFn} (hfns : FnsOk P fns) {prim : Nat → Option Prim} (hprim : ∀ f p, prim f = some p → PrimOk P w0 f p) (lf : Nat) :
    ∀ n, CallOk P w0 (evalF fns prim lf n) ∧ CallDom (evalF fns prim lf n)
  | 0 => ⟨fun f args H r H' h => by simp [evalF] at h, fun f args H r H' h => by simp [evalF] at h⟩
  | n + 1 => by
    obtain ⟨hok, hdom⟩ := evalF_sound hmix hfns hprim lf n
    refine ⟨fun f args H r H' h => ?_, fun f args H r H' h => ?_⟩
    · simp only [evalF] at h
      split at h
      · rename_i p hp
        exact (hprim f p hp _ hok hdom args H r H' h).2
      · split at h
        · rename_i i hi
          obtain ⟨fn, hf, hc, hn⟩ := hfns f i hi
          intro μ w vs R hvs
          exact body_sound hmix hok hdom hf hc hn h R hvs
        · cases h
    · simp only [evalF] at h
      split at h
      · rename_i p hp
        exact (hprim f p hp _ hok hdom args H r H' h).1
      · split at h
        · exact body_dom hdom h
        · cases h

end
end Ev
