/- A region that draws its order, all of whose operations but the last only read: inside a round too. -/
import Derived.OrdersIn
set_option autoImplicit false
set_option linter.unusedSimpArgs false
set_option linter.unusedVariables false
namespace Ev
open Go

def edgeTo (o : Oper) (j : Nat) : Bool := o.after.any fun e => Region.binds .any e && e.on == j

def noDefer (o : Oper) : Bool := match o.op with | .defer _ => false | .select .. => false | _ => true

def intoOk (ops : Array Oper) (last i : Nat) (o : Oper) (j : Nat) : Bool :=
  match (ops[j]?).bind (·.dst) with
  | none => true
  | some d => if j = i then !(o.looksAt ops).contains d else (!(o.looksAt ops).contains d || edgeTo o j) && (o.dst != some d || i == last)

def okAt (ops : Array Oper) (last i : Nat) (o : Oper) : Bool :=
  (noDefer o && (o.after.all fun e => decide (e.on < i))) && ((i != last || (List.range last).all fun j => edgeTo o j) && (List.range last).all fun j => intoOk ops last i o j)

def stillOk (ops : Array Oper) (last : Nat) : Bool :=
  (ops.size == last + 1) && (List.range ops.size).all fun i => match ops[i]? with
    | none => false
    | some o => okAt ops last i o

section
variable {F : Fence} {n : Nat} {P : Program} {ops : Array Oper} {Q : Exit → Act → World → Prop} {last : Nat}

structure StillOk (ops : Array Oper) (last : Nat) : Prop where
  size : ops.size = last + 1
  plain : ∀ (i : Nat) (o : Oper), ops[i]? = some o → (∀ c, o.op ≠ .defer c) ∧ ∀ cs b, o.op ≠ .select cs b
  down : ∀ (i : Nat) (o : Oper), ops[i]? = some o → ∀ e ∈ o.after, e.on < i
  lastE : ∀ (o : Oper), ops[last]? = some o → ∀ j, j < last → edgeTo o j = true
  own : ∀ (i : Nat) (o : Oper), i < last → ops[i]? = some o → ∀ d, o.dst = some d → d ∉ o.looksAt ops
  into : ∀ (i j : Nat) (o oj : Oper), ops[i]? = some o → j < last → j ≠ i → ops[j]? = some oj → ∀ d, oj.dst = some d → (d ∈ o.looksAt ops → edgeTo o j = true) ∧ (i < last → o.dst ≠ some d)

theorem stillOk_of (h : stillOk ops last = true) : StillOk ops last := by
  unfold stillOk at h
  simp only [Bool.and_eq_true, beq_iff_eq] at h
  obtain ⟨hs, h⟩ := h
  rw [List.all_eq_true] at h
  have hh : ∀ (i : Nat) (o : Oper), ops[i]? = some o → okAt ops last i o = true := by
    intro i o ho
    have := h i (List.mem_range.2 (Array.getElem?_eq_some_iff.1 ho).1)
    rw [ho] at this
    exact this
  unfold okAt at hh
  simp only [Bool.and_eq_true] at hh
  refine ⟨hs, fun i o ho => ?_, fun i o ho => ?_, fun o ho j hj => ?_, fun i o hi ho d hd => ?_, fun i j o oj ho hj hji hoj d hd => ?_⟩
  · have := (hh i o ho).1.1
    unfold noDefer at this
    refine ⟨fun c hc => ?_, fun cs b hc => ?_⟩ <;> (rw [hc] at this; cases this)
  · have := (hh i o ho).1.2
    simp only [Array.all_eq_true_iff_forall_mem, decide_eq_true_eq] at this
    exact this
  · have := (hh last o ho).2.1
    simp only [bne_self_eq_false, Bool.false_or, List.all_eq_true, List.mem_range] at this
    exact this j hj
  · have := (hh i o ho).2.2
    rw [List.all_eq_true] at this
    have := this i (List.mem_range.2 hi)
    unfold intoOk at this
    rw [ho] at this
    simp only [Option.bind_some, hd, if_true, Bool.not_eq_true'] at this
    intro hm
    rw [List.contains_iff_mem.2 hm] at this
    cases this
  · have := (hh i o ho).2.2
    rw [List.all_eq_true] at this
    have := this j (List.mem_range.2 hj)
    unfold intoOk at this
    rw [hoj] at this
    simp only [Option.bind_some, hd, if_neg hji, Bool.and_eq_true, Bool.or_eq_true, Bool.not_eq_true', bne_iff_ne, beq_iff_eq] at this
    refine ⟨fun hm => ?_, fun hi => ?_⟩
    · rcases this.1 with h1 | h1
      · rw [List.contains_iff_mem.2 hm] at h1; cases h1
      · exact h1
    · rcases this.2 with h1 | h1
      · exact h1
      · omega

/-- What an operation that only reads leaves. -/
def StillAtFin (P : Program) (ops : Array Oper) (fin : Act) (w : World) (o : Oper) : Prop :=
  if Region.wanted o (yielded ops fin.tmps) then ∃ v, (execOp fin.eval o).run P w = .ok (.value v) w ∧ ∀ d, o.dst = some d → fin.tmps[d]? = some v
  else ∀ d, o.dst = some d → fin.tmps[d]? = some undef

structure OnWay (ops : Array Oper) (last : Nat) (fin : Act) (listed : Array Bool) (a : Act) : Prop where
  lsz : listed.size = ops.size
  lst : listed.getD last false = false
  defs : a.defers = fin.defers
  size : a.tmps.size = fin.tmps.size
  same : ∀ t, (∃ i o, i < last ∧ listed.getD i false = false ∧ ops[i]? = some o ∧ o.dst = some t) ∨ a.tmps[t]? = fin.tmps[t]?

theorem edge_listed {o : Oper} {j : Nat} {listed : Array Bool} (h : edgeTo o j = true) (hall : ∀ e ∈ o.after, Region.binds .any e = true → listed.getD e.on false = true) : listed.getD j false = true := by
  unfold edgeTo at h
  obtain ⟨e, he, hb⟩ := Array.any_eq_true'.1 h
  simp only [Bool.and_eq_true, beq_iff_eq] at hb
  rw [← hb.2]
  exact hall e he hb.1

theorem OnWay.clean {fin a : Act} {listed : Array Bool} (S : StillOk ops last) (D : OnWay ops last fin listed a) {i : Nat} {o : Oper} (ho : ops[i]? = some o) (hi : i ≤ last) (hall : ∀ e ∈ o.after, Region.binds .any e = true → listed.getD e.on false = true)
    {t : Nat} (ht : t ∈ o.looksAt ops) : a.tmps[t]? = fin.tmps[t]? := by
  rcases D.same t with ⟨j, oj, hj, hu, hoj, hd⟩ | h
  · exfalso
    by_cases hji : j = i
    · subst hji
      rw [ho] at hoj
      injection hoj with hoj
      subst hoj
      exact S.own j o hj ho t hd ht
    · have := edge_listed ((S.into i j o oj ho hj hji hoj t hd).1 ht) hall
      rw [hu] at this
      cases this
  · exact h

theorem OnWay.exec {fin a : Act} {listed : Array Bool} (S : StillOk ops last) (D : OnWay ops last fin listed a) {i : Nat} {o : Oper} (ho : ops[i]? = some o) (hi : i ≤ last) (hall : ∀ e ∈ o.after, Region.binds .any e = true → listed.getD e.on false = true) :
    execOp a.eval o = execOp fin.eval o ∧ Region.wanted o (yielded ops a.tmps) = Region.wanted o (yielded ops fin.tmps) := by
  refine ⟨execOp_congr o (S.plain i o ho).2 fun x hx => ?_, ?_⟩
  · cases x with
    | tmp t =>
      have := D.clean S ho hi hall (t := t) (by
        unfold Oper.looksAt
        exact List.mem_append_left _ (List.mem_filterMap.2 ⟨.tmp t, by simpa using hx, rfl⟩))
      simp only [Act.eval, Array.getD_eq_getD_getElem?, this]
    | _ => rfl
  · unfold Region.wanted
    cases hg : o.guard with
    | none => rfl
    | some jw =>
      obtain ⟨j, want⟩ := jw
      simp only
      have hy : yielded ops a.tmps j = yielded ops fin.tmps j := by
        unfold yielded
        cases hd : (ops[j]?).bind (·.dst) with
        | none => rfl
        | some d =>
          have := D.clean S ho hi hall (t := d) (by
            unfold Oper.looksAt
            refine List.mem_append_right _ ?_
            rw [hg]
            simp [hd])
          simp only [Option.bind_some, this]
      rw [hy]

theorem wpAnyIn_still (hF : ∀ f, F.fn f) (S : StillOk ops last) {fin : Act} {w : World} (hst : ∀ (i : Nat) (o : Oper), i < last → ops[i]? = some o → StillAtFin P ops fin w o)
    (hl : ∀ o, ops[last]? = some o → if Region.wanted o (yielded ops fin.tmps) then o.wpIn F n P fin w (fun a' w' => Q .normal a' w') Q else Q .normal (fin.put o.dst undef) w) :
    ∀ (fuel : Nat) (listed : Array Bool) (a : Act), OnWay ops last fin listed a → (∃ k, k ≤ last + 1 ∧ fuel = k ∧ (List.range last).countP (fun i => !listed.getD i false) < k) → wpAnyIn F n P .any ops Q fuel listed a w := by
  have least : ∀ {listed : Array Bool} {a : Act}, OnWay ops last fin listed a → Region.ready .any ops listed ≠ [] := by
    intro listed a D hr
    -- the least that is not listed
    have key : ∀ i, i ≤ last → (∀ j, j < i → listed.getD j false = true) := by
      intro i
      induction i with
      | zero => intro _ j hj; omega
      | succ i ih =>
        intro hi j hj
        have hbelow := ih (by omega)
        rcases Nat.lt_or_ge j i with h | h
        · exact hbelow j h
        · have hji : j = i := by omega
          subst hji
          cases hl' : listed.getD j false with
          | true => rfl
          | false =>
            exfalso
            have hlt : j < ops.size := by rw [S.size]; omega
            have ho : ops[j]? = some ops[j] := Array.getElem?_eq_getElem hlt
            have : j ∈ Region.ready .any ops listed := mem_ready.2 ⟨by
              have : j < listed.size := by rw [D.lsz]; exact hlt
              simp [this] at hl' ⊢; exact hl', _, ho, fun e he _ => hbelow _ (S.down j _ ho e he)⟩
            rw [hr] at this
            cases this
    have hall := key last (Nat.le_refl _)
    have hlt : last < ops.size := by rw [S.size]; omega
    have ho : ops[last]? = some ops[last] := Array.getElem?_eq_getElem hlt
    have : last ∈ Region.ready .any ops listed := mem_ready.2 ⟨by
      have h1 : last < listed.size := by rw [D.lsz]; exact hlt
      have := D.lst
      simp [h1] at this ⊢; exact this, _, ho, fun e he _ => hall _ (S.down last _ ho e he)⟩
    rw [hr] at this
    cases this
  intro fuel
  induction fuel with
  | zero =>
    intro listed a D h
    obtain ⟨k, _, h1, h2⟩ := h
    omega
  | succ fuel ih =>
    intro listed a D h
    obtain ⟨k, hk, h1, h2⟩ := h
    refine ⟨fun hr => absurd hr (least D), fun i hi => ?_⟩
    obtain ⟨hun, o, ho, hall⟩ := mem_ready.1 hi
    have his : i < ops.size := (Array.getElem?_eq_some_iff.1 ho).1
    have hil : i ≤ last := by rw [S.size] at his; omega
    obtain ⟨hex, hwa⟩ := D.exec S ho hil hall
    have hun' : listed.getD i false = false := by
      cases hi' : listed[i]? with
      | none => simp [hi'] at hun
      | some b => simp [hi'] at hun ⊢; exact hun
    have hset : ∀ j, (listed.setIfInBounds i true).getD j false = (if j = i then true else listed.getD j false) := by
      intro j
      by_cases hj : j = i
      · subst hj
        have : j < listed.size := by rw [D.lsz]; exact his
        simp [this]
      · rw [getD_set_ne false (Ne.symm hj)]; simp [hj]
    by_cases hlast : i = last
    · -- the last
      subst hlast
      have hafin : a = fin := by
        have ht : a.tmps = fin.tmps := by
          apply Array.ext_getElem?
          intro t
          rcases D.same t with ⟨j, oj, hj, hu, hoj, hd⟩ | h
          · have := edge_listed (S.lastE o ho j hj) hall
            rw [hu] at this; cases this
          · exact h
        obtain ⟨t1, d1⟩ := a
        obtain ⟨t2, d2⟩ := fin
        have hd := D.defs
        simp only at ht hd
        rw [ht, hd]
      subst hafin
      have hr0 : Region.ready .any ops (listed.setIfInBounds i true) = [] := by
        cases hr : Region.ready .any ops (listed.setIfInBounds i true) with
        | nil => rfl
        | cons j l =>
          exfalso
          have hj : j ∈ Region.ready .any ops (listed.setIfInBounds i true) := by rw [hr]; exact List.mem_cons_self ..
          obtain ⟨hu, oj, hoj, _⟩ := mem_ready.1 hj
          have hjs : j < ops.size := (Array.getElem?_eq_some_iff.1 hoj).1
          have hjf : (listed.setIfInBounds i true).getD j false = false := by
            cases hi' : (listed.setIfInBounds i true)[j]? with
            | none => simp [hi'] at hu
            | some b => simp [hi'] at hu ⊢; exact hu
          rw [hset] at hjf
          split at hjf
          · cases hjf
          · rename_i hne
            have hjl : j < i := by rw [S.size] at hjs; omega
            have := edge_listed (S.lastE o ho j hjl) hall
            rw [hjf] at this; cases this
      have hlo := hl o ho
      unfold wpOpIn
      rw [ho]
      simp only
      split
      · rename_i hw
        rw [if_pos hw] at hlo
        exact Oper.wpIn_mono (fun a' w' hq => wpAnyIn_done hr0 hq _) hlo
      · rename_i hw
        rw [if_neg hw] at hlo
        exact ⟨fun f _ => hF f, wpAnyIn_done hr0 hlo _⟩
    · have hi' : i < last := by omega
      have hs := hst i o hi' ho
      have hcount : (List.range last).countP (fun j => !(listed.setIfInBounds i true).getD j false) < (List.range last).countP (fun j => !listed.getD j false) := by
        have gen : ∀ {α : Type} {p q : α → Bool} {l : List α}, (∀ x ∈ l, q x = true → p x = true) → (∃ x ∈ l, p x = true ∧ q x = false) → l.countP q < l.countP p := by
          intro α p q l
          induction l with
          | nil => rintro _ ⟨x, hx, _⟩; cases hx
          | cons y l ihl =>
            rintro h ⟨x, hx, hp, hq⟩
            have hle : l.countP q ≤ l.countP p := List.countP_mono_left fun z hz => h z (List.mem_cons_of_mem _ hz)
            rcases List.mem_cons.1 hx with rfl | hx
            · simp [List.countP_cons, hp, hq]; omega
            · have := ihl (fun z hz => h z (List.mem_cons_of_mem _ hz)) ⟨x, hx, hp, hq⟩
              have hy := h y (List.mem_cons_self ..)
              simp only [List.countP_cons]
              cases hqy : q y
              · simp; omega
              · rw [hy hqy]; simp; omega
        refine gen (fun x _ hx => ?_) ⟨i, List.mem_range.2 hi', by simp [hun'], ?_⟩
        · rw [hset] at hx
          split at hx
          · simp at hx
          · exact hx
        · rw [hset]; simp
      have next : ∀ v, (∀ d, o.dst = some d → fin.tmps[d]? = some v) → wpAnyIn F n P .any ops Q fuel (listed.setIfInBounds i true) (a.put o.dst v) w := by
        intro v hv
        refine ih _ _ ⟨by simpa using D.lsz, ?_, ?_, ?_, fun t => ?_⟩ ⟨fuel, by omega, rfl, by omega⟩
        · rw [hset, if_neg (fun e => hlast e.symm)]; exact D.lst
        · have : (a.put o.dst v).defers = a.defers := by cases o.dst <;> rfl
          rw [this]; exact D.defs
        · have : (a.put o.dst v).tmps.size = a.tmps.size := by cases o.dst <;> simp [Act.put]
          rw [this]; exact D.size
        · by_cases hd : o.dst = some t
          · right
            rw [hv t hd, hd]
            have : t < a.tmps.size := by
              rw [D.size]
              exact (Array.getElem?_eq_some_iff.1 (hv t hd)).1
            simp [Act.put, this]
          · have hput : (a.put o.dst v).tmps[t]? = a.tmps[t]? := by
              cases hod : o.dst with
              | none => rfl
              | some d =>
                have : d ≠ t := fun e => hd (by rw [hod, e])
                simp [Act.put, Array.getElem?_setIfInBounds_ne this]
            rw [hput]
            rcases D.same t with ⟨j, oj, hj, hu, hoj, hdj⟩ | h
            · left
              refine ⟨j, oj, hj, ?_, hoj, hdj⟩
              rw [hset, if_neg ?_]
              · exact hu
              · intro e
                subst e
                rw [ho] at hoj
                injection hoj with hoj
                subst hoj
                exact hd hdj
            · exact .inr h
      unfold wpOpIn
      rw [ho]
      simp only
      unfold StillAtFin at hs
      rw [hwa]
      split
      · rename_i hw
        rw [if_pos hw] at hs
        obtain ⟨v, hr, hv⟩ := hs
        unfold Oper.wpIn
        refine ⟨fun f _ => hF f, ?_⟩
        have : (o.semAt F.round a.eval) = execOp a.eval o := Oper.semAt_eq _ _ _ (S.plain i o ho).1
        rw [this, hex, hr, Oper.uponIn_value]
        exact next v hv
      · rename_i hw
        rw [if_neg hw] at hs
        exact ⟨fun f _ => hF f, next undef hs⟩

/-- **A region that draws its order and only reads, but for its last operation.** -/
theorem wpIn_region_still (hF : ∀ f, F.fn f) (hm : P.follows .mixedOrders = true) (h : stillOk ops last = true) {id : Nat} {a : Act} {w : World} (fin : Act) (hd : a.defers = fin.defers) (hs : a.tmps.size = fin.tmps.size)
    (hsame : ∀ t, (∃ (i : Nat) (o : Oper), i < last ∧ ops[i]? = some o ∧ o.dst = some t) ∨ a.tmps[t]? = fin.tmps[t]?)
    (hst : ∀ (i : Nat) (o : Oper), i < last → ops[i]? = some o → StillAtFin P ops fin { w with drawn := w.drawn + 1 } o)
    (hl : ∀ o, ops[last]? = some o → if Region.wanted o (yielded ops fin.tmps) then o.wpIn F n P fin { w with drawn := w.drawn + 1 } (fun a' w' => Q .normal a' w') Q else Q .normal (fin.put o.dst undef) { w with drawn := w.drawn + 1 }) :
    (Code.region id ops true).wpIn F n P Q a w := by
  have S := stillOk_of h
  have hl0 : ∀ i, (Array.replicate ops.size false).getD i false = false := by
    intro i
    by_cases hi : i < ops.size <;> simp [hi]
  refine wpIn_region_any hm (wpAnyIn_still hF S hst hl ops.size _ a ⟨by simp, hl0 _, hd, hs, fun t => ?_⟩ ⟨ops.size, by rw [S.size]; omega, rfl, ?_⟩)
  · rcases hsame t with ⟨i, o, h1, h2, h3⟩ | h
    · exact .inl ⟨i, o, h1, hl0 i, h2, h3⟩
    · exact .inr h
  · have := List.countP_le_length (l := List.range last) (p := fun i => !(Array.replicate ops.size false).getD i false)
    rw [S.size]
    simp only [List.length_range] at this
    rw [S.size] at this
    omega

/-- Some temporaries written. -/
def puts (a : Act) : List (Nat × Value) → Act
  | [] => a
  | (d, v) :: l => puts (a.put (some d) v) l

theorem puts_defers : ∀ (l : List (Nat × Value)) (a : Act), (puts a l).defers = a.defers ∧ (puts a l).tmps.size = a.tmps.size
  | [], a => ⟨rfl, rfl⟩
  | (d, v) :: l, a => by
    obtain ⟨h1, h2⟩ := puts_defers l (a.put (some d) v)
    exact ⟨h1, by rw [puts, h2]; simp [Act.put]⟩

theorem puts_same : ∀ (l : List (Nat × Value)) (a : Act) (t : Nat), (∃ p ∈ l, p.1 = t) ∨ (puts a l).tmps[t]? = a.tmps[t]?
  | [], a, t => .inr rfl
  | (d, v) :: l, a, t => by
    rcases puts_same l (a.put (some d) v) t with ⟨p, hp, he⟩ | h
    · exact .inl ⟨p, List.mem_cons_of_mem _ hp, he⟩
    · by_cases hd : d = t
      · exact .inl ⟨(d, v), List.mem_cons_self .., hd⟩
      · right
        rw [puts, h]
        simp [Act.put, Array.getElem?_setIfInBounds_ne hd]

theorem wpIn_region_puts (hF : ∀ f, F.fn f) (hm : P.follows .mixedOrders = true) (h : stillOk ops last = true) {id : Nat} {a : Act} {w : World} (l : List (Nat × Value))
    (hdst : ∀ p ∈ l, ∃ (i : Nat) (o : Oper), i < last ∧ ops[i]? = some o ∧ o.dst = some p.1)
    (hst : ∀ (i : Nat) (o : Oper), i < last → ops[i]? = some o → StillAtFin P ops (puts a l) { w with drawn := w.drawn + 1 } o)
    (hl : ∀ o, ops[last]? = some o → if Region.wanted o (yielded ops (puts a l).tmps) then o.wpIn F n P (puts a l) { w with drawn := w.drawn + 1 } (fun a' w' => Q .normal a' w') Q else Q .normal ((puts a l).put o.dst undef) { w with drawn := w.drawn + 1 }) :
    (Code.region id ops true).wpIn F n P Q a w := by
  refine wpIn_region_still hF hm h (puts a l) (puts_defers l a).1.symm (puts_defers l a).2.symm (fun t => ?_) hst hl
  rcases puts_same l a t with ⟨p, hp, rfl⟩ | h
  · exact .inl (hdst p hp)
  · exact .inr h.symm

end
end Ev
