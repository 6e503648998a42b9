/- Regions, in order and drawn. -/
import Derived.Test.YtdmbkbmenahpnaaGreatDoorVj
/- A row of operations in the order of the text. -/
set_option autoImplicit false
set_option linter.unusedSimpArgs false
set_option linter.unusedVariables false
namespace Ev
open Go

/-- No name is lost. -/
def Dom (H H' : Hp) : Prop := ∀ id, H'.get id = none → H.get id = none

theorem Dom.refl (H : Hp) : Dom H H := fun _ h => h
theorem Dom.trans {H H' H'' : Hp} (h : Dom H H') (h' : Dom H' H'') : Dom H H'' := fun id e => h id (h' id e)

theorem NewIds.trans {H H' : Hp} {μ μ' μ'' : Mu} (h : NewIds H μ μ') (d : Dom H H') (h' : NewIds H' μ' μ'') : NewIds H μ μ'' := by
  intro id g L hL
  rcases h' id g L hL with ⟨g', L', h1⟩ | h1
  · exact h id g' L' h1
  · exact .inr (d id h1)

def CallDom (call : Call) : Prop := ∀ (f : Nat) (args : List AV) (H : Hp) (r : CR) (H' : Hp), call f args H = some (r, H') → Dom H H'

theorem Dom.set (H : Hp) (p : Pos) (b : VB) : Dom H (H.set p b) := by
  intro id h
  rw [Hp.get_set] at h
  split at h
  · cases h
  · exact h

theorem Dom.new {H H' : Hp} {e : Nat} {cells : List AV} {id : Pos} (h : H.new e cells = some (id, H')) : Dom H H' := by
  obtain ⟨h1, h2, h3⟩ := new_spec h
  intro q hq
  by_cases hqi : q = id
  · rw [hqi, h1]
  · rw [← h3 q hqi]; exact hq

theorem Dom.store {H H' : Hp} {id : Pos} {g i : Nat} {vs : List AV} (h : H.store id g i vs = some H') : Dom H H' := by
  unfold Hp.store at h
  split at h
  · split at h
    · injection h with h; subst h; exact Dom.set H _ _
    · cases h
  · cases h

theorem Dom.append {H H' : Hp} {e sz bytes : Nat} {s x r : AV} (h : xappend H e sz bytes s x = some (r, H')) : Dom H H' := by
  unfold xappend at h
  (repeat' split at h) <;> first
    | (cases h; done)
    | (injection h with h; injection h with h1 h2; subst h2; first
        | exact Dom.refl _
        | exact Dom.set _ _ _
        | (apply Dom.new; assumption)
        | (apply Dom.store; assumption))

theorem Dom.eff {ev : Ev} {H H' : Hp} {i : IOp} {x : AV} (h : xeff ev H i = some (x, H')) : Dom H H' := by
  unfold xeff at h
  split at h
  · split at h
    · rename_i hn
      injection h with h; injection h with h1 h2; subst h2; exact Dom.new hn
    · cases h
  · unfold xwrite at h
    (repeat' split at h) <;> first
      | (cases h; done)
      | (obtain ⟨H1, hn, hx⟩ := Option.map_eq_some_iff.1 h; injection hx with h1 h2; subst h2; exact Dom.store hn)
      | exact Dom.append h

def isCallI : IOp → Bool
  | .callf .. | .callv .. | .inv .. | .panic _ | .again .. => true
  | _ => false

theorem xstep_plain (call : Call) (T : List AV) (H : Hp) {i : IOp} (h : isCallI i = false) : xstep call T H i = (match xpure (evArg T) i with
      | some v => some (CR.ret v, H)
      | none => match xload (evArg T) H i with
        | some v => some (CR.ret v, H)
        | none => match xeff (evArg T) H i with
          | some (v, H') => some (CR.ret v, H')
          | none => none) := by
  cases i <;> first | rfl | (simp [isCallI] at h; done)

theorem step_dom {call : Call} (hd : CallDom call) {T : List AV} {H H' : Hp} {i : IOp} {r : CR} (h : xstep call T H i = some (r, H')) : Dom H H' := by
  have plain : ∀ (i : IOp), (match xpure (evArg T) i with
      | some v => some (CR.ret v, H)
      | none => match xload (evArg T) H i with
        | some v => some (CR.ret v, H)
        | none => match xeff (evArg T) H i with
          | some (v, H') => some (CR.ret v, H')
          | none => none) = some (r, H') → Dom H H' := by
    intro i h
    (repeat' split at h)
    · injection h with h; injection h with h1 h2; subst h2; exact Dom.refl _
    · injection h with h; injection h with h1 h2; subst h2; exact Dom.refl _
    · rename_i hx
      injection h with h; injection h with h1 h2; subst h2; exact Dom.eff hx
    · cases h
  cases hi : isCallI i with
  | false => rw [xstep_plain call T H hi] at h; exact plain i h
  | true =>
    cases i <;> simp [isCallI] at hi
    case callf f args => exact hd _ _ _ _ _ h
    case callv x args =>
      simp only [xstep] at h
      split at h
      · exact hd _ _ _ _ _ h
      · cases h
    case inv ms x args =>
      simp only [xstep] at h
      split at h
      · split at h
        · exact hd _ _ _ _ _ h
        · cases h
      · cases h
    case panic x =>
      simp only [xstep] at h
      split at h
      · injection h with h; injection h with h1 h2; subst h2; exact Dom.refl _
      · cases h
    case again d o =>
      cases o <;> simp only [xstep] at h <;> (repeat' split at h) <;> first
        | (cases h; done)
        | (injection h with h; injection h with h1 h2; subst h2; exact Dom.refl _)

section
variable {P : Program} {w0 : World} {μ : Mu} {H : Hp} {w : World} {T : List AV} {a : Act}

/-- How the evaluator's way out of a piece of code stands for the model's. -/
def ORel (P : Program) (w0 : World) (μ : Mu) (H0 : Hp) (ds : List Deferred) (out : Out) (e : Exit) (a' : Act) (w' : World) : Prop :=
  ∃ μ', Ext μ μ' ∧ NewIds H0 μ μ' ∧ a'.defers = ds ∧
    match out with
    | .go x T H => Rel P w0 μ' H w' ∧ TR P.globals.size μ' T a'.tmps ∧
      (match x with
      | .norm => e = .normal
      | .exit i => e = .exit i
      | .ret => e = .ret)
    | .pan v H => Rel P w0 μ' H w' ∧ ∃ u, e = .panic [{ v := u, recovered := false }] ∧ VR P.globals.size μ' v u

theorem guard_spec {ops : Array Oper} (hT : TR P.globals.size μ T a.tmps) {o : Oper} {g : Option (Nat × Bool)} (hg : cGuard ops o.guard = some g) {b : Bool} (h : wantedA T g = some b) :
    Region.wanted o (yielded ops a.tmps) = b := by
  unfold Region.wanted
  cases hgd : o.guard with
  | none =>
    rw [hgd] at hg
    simp [cGuard] at hg
    subst hg
    simp [wantedA] at h
    simp [h]
  | some jw =>
    obtain ⟨j, want⟩ := jw
    rw [hgd] at hg
    simp only [cGuard] at hg
    split at hg
    · rename_i d hd
      injection hg with hg
      subst hg
      simp only [wantedA, nth_eq] at h
      cases ht : T[d]? with
      | none => rw [ht] at h; cases h
      | some x =>
        have hlt : d < a.tmps.size := Nat.lt_of_lt_of_le (List.getElem?_eq_some_iff.1 ht).1 hT.1
        have hv := hT.2 d x ht
        have hgd' : a.tmps.getD d undef = a.tmps[d] := by simp [hlt]
        rw [hgd'] at hv
        have hy : yielded ops a.tmps j = match a.tmps[d] with | .bool b => some b | _ => none := by
          unfold yielded
          rw [hd]
          simp only [Option.bind_some, Array.getElem?_eq_getElem hlt]
          cases a.tmps[d] <;> rfl
        rw [ht] at h
        simp only [hy]
        generalize a.tmps[d] = v at hv
        cases hv <;> simp at h ⊢ <;> (try exact h) <;> (try (subst h; rfl))
    · cases hg

theorem ORel.after {H1 : Hp} {μ1 : Mu} {ds : List Deferred} {out : Out} {e : Exit} {a' : Act} {w' : World} (he : Ext μ μ1) (hn : NewIds H μ μ1) (hd : Dom H H1) (h : ORel P w0 μ1 H1 ds out e a' w') :
    ORel P w0 μ H ds out e a' w' := by
  obtain ⟨μ', h1, h2, h3⟩ := h
  exact ⟨μ', he.trans h1, hn.trans hd h2, h3⟩

theorem Act.put_defers' (a : Act) (d : Option Nat) (v : Value) : (a.put d v).defers = a.defers := by cases d <;> rfl

theorem ins_sound {call : Call} (hok : CallOk P w0 call) (hdom : CallDom call) {ops : Array Oper} {Q : Exit → Act → World → Prop} :
    ∀ (l : List Oper) (ins : List Ins) (k : Nat), (∀ j, l[j]? = ops[k + j]?) → cList P ops l = some ins →
    ∀ {μ : Mu} {H : Hp} {w : World} {T : List AV} {a : Act} {out : Out}, Rel P w0 μ H w → TR P.globals.size μ T a.tmps → runIns call ins T H = some out →
      (∀ e a' w', ORel P w0 μ H a.defers out e a' w' → Q e a' w') → wpOps P ops Q (List.range' k l.length) a w := by
  intro l
  induction l with
  | nil =>
    intro ins k _ hc μ H w T a out R hT hr hQ
    simp [cList] at hc
    subst hc
    simp [runIns] at hr
    subst hr
    exact hQ _ _ _ ⟨μ, Ext.refl μ, NewIds.refl H μ, rfl, R, hT, rfl⟩
  | cons o l ih =>
    intro ins k hl hc μ H w T a out R hT hr hQ
    simp only [cList, Option.bind_eq_bind, Option.pure_def] at hc
    obtain ⟨i, hi, hc⟩ := Option.bind_eq_some_iff.1 hc
    obtain ⟨r, hcr, hc⟩ := Option.bind_eq_some_iff.1 hc
    injection hc with hc
    subst hc
    simp only [cIns, Option.bind_eq_bind, Option.pure_def] at hi
    obtain ⟨op, hop, hi⟩ := Option.bind_eq_some_iff.1 hi
    obtain ⟨g, hg, hi⟩ := Option.bind_eq_some_iff.1 hi
    injection hi with hi
    subst hi
    have ho : ops[k]? = some o := by have := hl 0; simpa using this.symm
    have hl' : ∀ j, l[j]? = ops[k + 1 + j]? := fun j => by have := hl (j + 1); simpa [Nat.add_assoc, Nat.add_comm 1 j] using this
    simp only [List.length_cons, List.range'_succ, wpOps, ho]
    simp only [runIns] at hr
    split at hr
    · cases hr
    · rename_i hw
      rw [guard_spec hT hg hw]
      simp only [Bool.false_eq_true, if_false]
      exact ih r (k + 1) hl' hcr R (hT.put (v := undef) (.tup (vs := #[]) .nil) o.dst) hr (fun e a' w' h => hQ e a' w' (by rwa [Act.put_defers'] at h))
    · rename_i hw
      rw [guard_spec hT hg hw]
      simp only [if_true]
      left
      split at hr
      · rename_i v H1 hs
        have hd := step_dom hdom hs
        refine step_sound hok R hT hop hs ⟨?_, fun x hx => by cases hx⟩
        intro x hx μ' w' u he hn R' hv
        injection hx with hx
        subst hx
        refine ih r (k + 1) hl' hcr R' ((hT.ext he).put hv o.dst) hr (fun e a' w' h => hQ e a' w' ?_)
        rw [Act.put_defers'] at h
        exact h.after he hn hd
      · rename_i v H1 hs
        injection hr with hr
        subst hr
        refine step_sound hok R hT hop hs ⟨fun x hx => (by cases hx), ?_⟩
        intro x hx μ' w' u he hn R' hv
        injection hx with hx
        subst hx
        exact hQ _ _ _ ⟨μ', he, hn, rfl, R', u, rfl, hv⟩
      · cases hr

/-- **A region in the order of the text.** -/
theorem region_sound {call : Call} (hok : CallOk P w0 call) (hdom : CallDom call) {id : Nat} {ops : Array Oper} {ins : List Ins} (hc : cList P ops ops.toList = some ins) {out : Out}
    (R : Rel P w0 μ H w) (hT : TR P.globals.size μ T a.tmps) (hr : runIns call ins T H = some out) : (Code.region id ops false).wp P (ORel P w0 μ H a.defers out) a w := by
  refine wp_region ?_
  have := ins_sound hok hdom ops.toList ins 0 (fun j => by simp) hc R hT hr (Q := ORel P w0 μ H a.defers out) (fun _ _ _ h => h)
  rw [List.range_eq_range']
  simpa using this

end
end Ev

/- What an operation reckons hangs on its operands alone. -/
set_option autoImplicit false
set_option linter.unusedSimpArgs false
set_option linter.unusedVariables false
namespace Ev
open Go

theorem cellsOfList_congr {ev ev' : Ev} : ∀ {l : List (Nat × Nat × IArg)} {cs : List AV}, (∀ x ∈ partArgs l, ev x = ev' x) → cellsOfList ev l cs = cellsOfList ev' l cs
  | [], cs, _ => rfl
  | (off, sz, x) :: l, cs, h => by
    have h0 : ev x = ev' x := h x (by simp [partArgs])
    simp only [cellsOfList, h0]
    split
    · split
      · exact cellsOfList_congr fun y hy => h y (by simp [partArgs, hy])
      · rfl
    · rfl

theorem bound_congr {ev ev' : Ev} {d : Nat} {o : Option IArg} (h : ∀ x ∈ optArg o, ev x = ev' x) : bound ev d o = bound ev' d o := by
  cases o with
  | none => rfl
  | some x => simp only [bound]; rw [h x (by simp [optArg])]

theorem map_congr' {ev ev' : Ev} {l : List IArg} (h : ∀ x ∈ l, ev x = ev' x) : l.map ev = l.map ev' := List.map_congr_left h

theorem aslice_congr {ev ev' : Ev} {sz : Nat} {x : AV} {a b c : Option IArg} (h : ∀ x ∈ optArg a ++ optArg b ++ optArg c, ev x = ev' x) : aslice ev sz x a b c = aslice ev' sz x a b c := by
  have ha : ∀ d, bound ev d a = bound ev' d a := fun d => bound_congr fun y hy => h y (by simp [hy])
  have hb : ∀ d, bound ev d b = bound ev' d b := fun d => bound_congr fun y hy => h y (by simp [hy])
  have hc : ∀ d, bound ev d c = bound ev' d c := fun d => bound_congr fun y hy => h y (by simp [hy])
  unfold aslice
  simp only [ha, hb, hc]
  cases c with
  | none =>
    cases x with
    | slice id g i len cap s =>
      cases cap with
      | some k => rfl
      | none =>
        simp only []
        split
        · cases h1 : bound ev' 0 a <;> cases h2 : bound ev' len b <;> rfl
        · rfl
    | _ => rfl
  | some z =>
    have hz : ev z = ev' z := h z (by simp [optArg])
    cases x with
    | slice id g i len cap s =>
      cases cap with
      | some k => rfl
      | none =>
        simp only []
        split
        · cases h1 : bound ev' 0 a <;> cases h2 : bound ev' len b <;> first | rfl | (simp only [hz])
        · rfl
    | _ => rfl

theorem asslice_congr {ev ev' : Ev} {x : AV} {a b : Option IArg} (h : ∀ x ∈ optArg a ++ optArg b, ev x = ev' x) : asslice ev x a b = asslice ev' x a b := by
  have ha : ∀ d, bound ev d a = bound ev' d a := fun d => bound_congr fun y hy => h y (by simp [hy])
  have hb : ∀ d, bound ev d b = bound ev' d b := fun d => bound_congr fun y hy => h y (by simp [hy])
  unfold asslice
  simp only [ha, hb]

theorem xpure_congr {ev ev' : Ev} {i : IOp} (h : ∀ x ∈ iargs i, ev x = ev' x) : xpure ev i = xpure ev' i := by
  cases i with
  | build z ps => simp only [xpure]; rw [cellsOfList_congr h]
  | slice sz x a b c =>
    simp only [xpure]
    rw [h x (by simp [iargs]), aslice_congr fun y hy => h y (by simp only [iargs]; exact List.mem_cons_of_mem _ hy)]
  | sslice x a b =>
    simp only [xpure]
    rw [h x (by simp [iargs]), asslice_congr fun y hy => h y (by simp only [iargs]; exact List.mem_cons_of_mem _ hy)]
  | mkf f xs ys =>
    simp only [xpure]
    rw [map_congr' fun y hy => h y (by simp [iargs, hy]), map_congr' (l := ys) fun y hy => h y (by simp [iargs, hy])]
  | mx x xs =>
    simp only [xpure]
    rw [h x (by simp [iargs]), map_congr' fun y hy => h y (by simp [iargs, hy])]
  | mn x xs =>
    simp only [xpure]
    rw [h x (by simp [iargs]), map_congr' fun y hy => h y (by simp [iargs, hy])]
  | _ =>
    simp only [iargs, List.mem_cons, List.not_mem_nil, or_false, forall_eq_or_imp, forall_eq] at h
    first
      | rfl
      | (simp only [xpure, h]; done)

theorem xload_congr {ev ev' : Ev} {H : Hp} {i : IOp} (h : ∀ x ∈ iargs i, ev x = ev' x) : xload ev H i = xload ev' H i := by
  cases i with
  | load1 x => simp only [xload]; rw [h x (by simp [iargs])]
  | loadN n x => simp only [xload]; rw [h x (by simp [iargs])]
  | b2s x => simp only [xload]; rw [h x (by simp [iargs])]
  | _ => rfl

theorem xmake_congr {ev ev' : Ev} {i : IOp} (h : ∀ x ∈ iargs i, ev x = ev' x) : xmake ev i = xmake ev' i := by
  cases i with
  | box e x => simp only [xmake]; rw [h x (by simp [iargs])]
  | bslice e s n z ps => simp only [xmake]; rw [cellsOfList_congr h]
  | mkslice e s b z l c => simp only [xmake]; rw [h l (by simp [iargs]), h c (by simp [iargs])]
  | _ => rfl

theorem xwrite_congr {ev ev' : Ev} {H : Hp} {i : IOp} (h : ∀ x ∈ iargs i, ev x = ev' x) : xwrite ev H i = xwrite ev' H i := by
  cases i with
  | store n x y => simp only [xwrite]; rw [h x (by simp [iargs]), h y (by simp [iargs])]
  | append e s b x y => simp only [xwrite]; rw [h x (by simp [iargs]), h y (by simp [iargs])]
  | _ => rfl

theorem xeff_congr {ev ev' : Ev} {H : Hp} {i : IOp} (h : ∀ x ∈ iargs i, ev x = ev' x) : xeff ev H i = xeff ev' H i := by
  unfold xeff
  rw [xmake_congr h, xwrite_congr h]

theorem xstep_congr {call : Call} {T T' : List AV} {H : Hp} {i : IOp} (ha : ∀ d o, i ≠ .again d o) (h : ∀ x ∈ iargs i, evArg T x = evArg T' x) : xstep call T H i = xstep call T' H i := by
  cases hi : isCallI i with
  | false => rw [xstep_plain call T H hi, xstep_plain call T' H hi, xpure_congr h, xload_congr h, xeff_congr h]
  | true =>
    cases i <;> simp [isCallI] at hi
    case callf f xs => simp only [xstep]; rw [map_congr' (l := xs) h]
    case callv x xs =>
      simp only [xstep]
      rw [h x (by simp [iargs]), map_congr' fun y hy => h y (by simp [iargs, hy])]
    case inv ms x xs =>
      simp only [xstep]
      rw [h x (by simp [iargs]), map_congr' fun y hy => h y (by simp [iargs, hy])]
    case panic x => simp only [xstep]; rw [h x (by simp [iargs])]
    case again d o => exact absurd rfl (ha d o)

/-- Two frames that differ at 'd' alone. -/
theorem evArg_put {T : List AV} {d : Option Nat} {v : AV} {x : IArg} (h : ∀ n, d = some n → n ∉ argTmp x) : evArg (put T d v) x = evArg T x := by
  cases d with
  | none => rfl
  | some n =>
    cases x with
    | t m =>
      have hne : n ≠ m := fun e => h n rfl (by simp [argTmp, e])
      simp only [evArg, put, putAt_eq, nth_eq]
      rw [List.getElem?_set_ne hne]
    | _ => rfl

/-- A load is not touched by a new block. -/
theorem load_new {H H' : Hp} {e : Nat} {cells : List AV} {id : Pos} (h : H.new e cells = some (id, H')) {q : Pos} {g i n : Nat} {cs : List AV} (hl : H.load q g i n = some cs) : H'.load q g i n = some cs := by
  obtain ⟨h1, h2, h3⟩ := new_spec h
  unfold Hp.load at hl ⊢
  by_cases hq : q = id
  · rw [hq, h1] at hl; cases hl
  · rw [h3 q hq]; exact hl

theorem xload_new {ev : Ev} {H H' : Hp} {e : Nat} {cells : List AV} {id : Pos} (h : H.new e cells = some (id, H')) {i : IOp} {v : AV} (hl : xload ev H i = some v) : xload ev H' i = some v := by
  cases i <;> (try (simp [xload] at hl; done)) <;> simp only [xload] at hl ⊢
  case load1 x =>
    split at hl <;> (try cases hl; done)
    rename_i id' g k hx
    split at hl <;> (try cases hl; done)
    rename_i u hu
    rw [load_new h hu]
    exact hl
  case loadN n x =>
    split at hl <;> (try cases hl; done)
    rename_i id' g k hx
    obtain ⟨cs, hcs, he⟩ := Option.map_eq_some_iff.1 hl
    rw [load_new h hcs]
    simp [he]
  case b2s x =>
    split at hl
    · exact hl
    · split at hl
      · rename_i hsz
        obtain ⟨bs, hb, he⟩ := Option.map_eq_some_iff.1 hl
        obtain ⟨cs, hcs, hbs⟩ := Option.bind_eq_some_iff.1 hb
        rw [if_pos hsz, load_new h hcs]
        simp [hbs, he]
      · cases hl
    · cases hl

/-! ### The same again -/
theorem same1_eq {x y : AV} (h : same1 x y = true) : x = y := by
  unfold same1 at h
  split at h <;> simp_all [Pos.beq_eq, Nat.beq_eq, bytesEq_iff]

theorem sameL_eq : ∀ {x y : List AV}, sameL x y = true → x = y
  | [], [], _ => rfl
  | a :: x, b :: y, h => by
    simp only [sameL, Bool.and_eq_true] at h
    rw [same1_eq h.1, sameL_eq h.2]
  | [], _ :: _, h => by simp [sameL] at h
  | _ :: _, [], h => by simp [sameL] at h

theorem same_eq {x y : AV} (h : same x y = true) : x = y := by
  unfold same at h
  split at h
  · rw [sameL_eq h]
  · exact same1_eq h

end Ev

/- A region that draws its order: whatever order is drawn, it leaves what the evaluator says. -/
set_option autoImplicit false
set_option linter.unusedSimpArgs false
set_option linter.unusedVariables false
namespace Ev
open Go

section
variable {P : Program} {w0 : World}

theorem cList_get {ops : Array Oper} : ∀ {l : List Oper} {cs : List Ins}, cList P ops l = some cs → cs.length = l.length ∧ ∀ (i : Nat) (o : Oper), l[i]? = some o → ∃ c, cs[i]? = some c ∧ cIns P ops o = some c := by
  intro l
  induction l with
  | nil => intro cs h; simp [cList] at h; subst h; simp
  | cons o l ih =>
    intro cs h
    simp only [cList, Option.bind_eq_bind, Option.pure_def] at h
    obtain ⟨i, hi, h⟩ := Option.bind_eq_some_iff.1 h
    obtain ⟨r, hr, h⟩ := Option.bind_eq_some_iff.1 h
    injection h with h
    subst h
    obtain ⟨h1, h2⟩ := ih hr
    refine ⟨by simp [h1], fun k o' ho => ?_⟩
    cases k with
    | zero => simp at ho; subst ho; exact ⟨i, rfl, hi⟩
    | succ k => simpa using h2 k o' (by simpa using ho)

theorem cIns_spec {ops : Array Oper} {o : Oper} {c : Ins} (h : cIns P ops o = some c) : cOp P o.op = some c.op ∧ cGuard ops o.guard = some c.guard ∧ c.dst = o.dst := by
  simp only [cIns, Option.bind_eq_bind, Option.pure_def] at h
  obtain ⟨op, hop, h⟩ := Option.bind_eq_some_iff.1 h
  obtain ⟨g, hg, h⟩ := Option.bind_eq_some_iff.1 h
  injection h with h
  subst h
  exact ⟨hop, hg, rfl⟩

/-- What the plan of a region is known to be. -/
structure PlanOk (P : Program) (ops : Array Oper) (cs : List Ins) (anc : List Nat) : Prop where
  len : cs.length = ops.size
  get : ∀ (i : Nat) (o : Oper), ops[i]? = some o → ∃ c, cs[i]? = some c ∧ cOp P o.op = some c.op ∧ cGuard ops o.guard = some c.guard ∧ c.dst = o.dst
  ancS : ∀ j l, j < ops.size → l < ops.size → ancBit anc j l = true → ∃ o, ops[j]? = some o ∧ ∃ e ∈ o.after, Region.binds .any e = true ∧ (e.on = l ∨ ancBit anc e.on l = true)
  self : ∀ i, i < ops.size → writesInto cs i i = false
  dst : ∀ i j, i < ops.size → j < ops.size → i ≠ j → ∀ d, dstOf cs i = some d → dstOf cs j ≠ some d
  into : ∀ i j, i < ops.size → j < ops.size → i ≠ j → writesInto cs i j = true → ancBit anc j i = true ∨ (soft cs anc i = false ∧ ancBit anc i j = true)

theorem planOk_of {ops : Array Oper} {cs : List Ins} {anc : List Nat} (h1 : cList P ops ops.toList = some cs) (h2 : ancOk ops anc = true) (h3 : writesOk cs anc = true) : PlanOk P ops cs anc := by
  obtain ⟨hl, hg⟩ := cList_get h1
  have hlen : cs.length = ops.size := by simpa using hl
  have w : ∀ i j, i < ops.size → j < ops.size → (if i == j then !writesInto cs i i else (match dstOf cs i, dstOf cs j with | some d, some e => d != e | _, _ => true) &&
      (!writesInto cs i j || ancBit anc j i || (!soft cs anc i && ancBit anc i j))) = true := by
    intro i j hi hj
    unfold writesOk at h3
    rw [List.all_eq_true] at h3
    have := h3 i (by rw [List.mem_range]; omega)
    rw [List.all_eq_true] at this
    exact this j (by rw [List.mem_range]; omega)
  refine ⟨hlen, fun i o ho => ?_, fun j l hj hl' hb => ?_, fun i hi => ?_, fun i j hi hj hij d hd hd' => ?_, fun i j hi hj hij hw => ?_⟩
  · obtain ⟨c, hc, hcc⟩ := hg i o (by simpa using ho)
    exact ⟨c, hc, cIns_spec hcc⟩
  · unfold ancOk at h2
    rw [List.all_eq_true] at h2
    have := h2 j (by rw [List.mem_range]; omega)
    rw [List.all_eq_true] at this
    have := this l (by rw [List.mem_range]; omega)
    rw [hb] at this
    simp only [Bool.not_true, Bool.false_or] at this
    cases ho : ops[j]? with
    | none => rw [ho] at this; cases this
    | some o =>
      rw [ho] at this
      obtain ⟨e, he, hbe⟩ := Array.any_eq_true'.1 this
      simp only [Bool.and_eq_true, Bool.or_eq_true, beq_iff_eq] at hbe
      exact ⟨o, rfl, e, he, hbe.1, hbe.2⟩
  · have := w i i hi hi
    simpa using this
  · have := w i j hi hj
    have hne : (i == j) = false := by simpa using hij
    rw [hne, hd, hd'] at this
    simp at this
  · have := w i j hi hj
    have hne : (i == j) = false := by simpa using hij
    rw [hne, hw] at this
    simp only [Bool.false_eq_true, if_false, Bool.not_true, Bool.false_or, Bool.and_eq_true, Bool.or_eq_true, Bool.not_eq_true'] at this
    exact this.2

/-! ### The state of a region that is on its way -/

/-- A soft operation that the evaluator has carried out and the model has not. -/
inductive PInv (cs : List Ins) (i : Nat) (T : List AV) (H : Hp) (μ : Mu) (id : Pos) : Prop
  | skip (c : Ins) (h : cs[i]? = some c) (hg : wantedA T c.guard = some false) (ht : ∀ d, c.dst = some d → ∀ x, T[d]? = some x → x = .tup [])
  | pure (c : Ins) (h : cs[i]? = some c) (hg : wantedA T c.guard = some true) (v : AV) (ht : ∀ d, c.dst = some d → ∀ x, T[d]? = some x → x = v) (hv : xpure (evArg T) c.op = some v)
  | load (c : Ins) (h : cs[i]? = some c) (hg : wantedA T c.guard = some true) (v : AV) (ht : ∀ d, c.dst = some d → ∀ x, T[d]? = some x → x = v) (hv : xload (evArg T) H c.op = some v)
      (hi : isLoadI c.op = true) (hd : c.dst.isSome = true)
  | make (c : Ins) (h : cs[i]? = some c) (hg : c.guard = none) (v : AV) (ht : ∀ d, c.dst = some d → ∀ x, T[d]? = some x → x = v) (e : Nat) (cells : List AV) (f : Pos → AV)
      (hv : xmake (evArg T) c.op = some (e, cells, f)) (hf : v = f id) (hn : nameOf v = some id) (hb : H.get id = some ⟨cells.map (·, 0), 0, e, true⟩) (hm : ∀ g, μ id g = none) (hd : c.dst.isSome = true)

def isMakeAt (cs : List Ins) (i : Nat) : Bool := match cs[i]? with | some c => isMakeI c.op | none => false

structure Inv (P : Program) (w0 : World) (ops : Array Oper) (cs : List Ins) (anc : List Nat) (μ0 : Mu) (H0 : Hp) (ds : List Deferred) (done : List Nat) (T : List AV) (H : Hp)
    (listed : Array Bool) (a : Act) (w : World) (μ : Mu) (pid : Nat → Pos) : Prop where
  rel : Rel P w0 μ H w
  ext : Ext μ0 μ
  new : NewIds H0 μ0 μ
  dom : Dom H0 H
  defs : a.defers = ds
  lsz : listed.size = ops.size
  sub : ∀ i, listed.getD i false = true → i ∈ done
  hard : ∀ i ∈ done, soft cs anc i = false → listed.getD i false = true
  rng : ∀ i ∈ done, i < ops.size
  doneDown : ∀ m ∈ done, ∀ l, l < ops.size → ancBit anc m l = true → l ∈ done
  down : ∀ m, listed.getD m false = true → ∀ l, l < ops.size → ancBit anc m l = true → listed.getD l false = true
  tl : T.length ≤ a.tmps.size
  tmps : ∀ (t : Nat) (x : AV), T[t]? = some x → (∃ i ∈ done, listed.getD i false = false ∧ dstOf cs i = some t) ∨ VR P.globals.size μ x (a.tmps.getD t undef)
  pend : ∀ i ∈ done, listed.getD i false = false → PInv cs i T H μ (pid i)
  fresh : ∀ i ∈ done, listed.getD i false = false → isMakeAt cs i = true → H0.get (pid i) = none
  inj : ∀ i ∈ done, ∀ j ∈ done, listed.getD i false = false → listed.getD j false = false → isMakeAt cs i = true → isMakeAt cs j = true → pid i = pid j → i = j

/-- A frame without what the model has not carried out yet. -/
def mask (q : Nat → Bool) : Nat → List AV → List AV
  | _, [] => []
  | k, x :: l => (if q k then .any else x) :: mask q (k + 1) l

theorem mask_get (q : Nat → Bool) : ∀ (l : List AV) (k i : Nat), (mask q k l)[i]? = (l[i]?).map fun x => if q (k + i) then .any else x
  | [], k, i => by simp [mask]
  | x :: l, k, 0 => by simp [mask]
  | x :: l, k, i + 1 => by
    simp only [mask, List.getElem?_cons_succ]
    rw [mask_get q l (k + 1) i, show k + 1 + i = k + (i + 1) by omega]

theorem mask_len (q : Nat → Bool) : ∀ (l : List AV) (k : Nat), (mask q k l).length = l.length
  | [], _ => rfl
  | x :: l, k => by simp [mask, mask_len q l (k + 1)]

/-- The frame's slots that wait. -/
def waits (cs : List Ins) (done : List Nat) (listed : Array Bool) (t : Nat) : Bool := done.any fun i => !listed.getD i false && dstOf cs i == some t

theorem waits_iff {cs : List Ins} {done : List Nat} {listed : Array Bool} {t : Nat} : waits cs done listed t = true ↔ ∃ i ∈ done, listed.getD i false = false ∧ dstOf cs i = some t := by
  unfold waits
  rw [List.any_eq_true]
  constructor
  · rintro ⟨i, hi, h⟩
    simp only [Bool.and_eq_true, Bool.not_eq_true', beq_iff_eq] at h
    exact ⟨i, hi, h.1, h.2⟩
  · rintro ⟨i, hi, h1, h2⟩
    exact ⟨i, hi, by simp [h1, h2]⟩

variable {ops : Array Oper} {cs : List Ins} {anc : List Nat} {μ0 : Mu} {H0 : Hp} {ds : List Deferred} {done : List Nat} {T : List AV} {H : Hp} {listed : Array Bool} {a : Act} {w : World} {μ : Mu} {pid : Nat → Pos}

theorem Inv.maskTR (I : Inv P w0 ops cs anc μ0 H0 ds done T H listed a w μ pid) : TR P.globals.size μ (mask (waits cs done listed) 0 T) a.tmps := by
  refine ⟨by rw [mask_len]; exact I.tl, fun i x hx => ?_⟩
  rw [mask_get, Nat.zero_add] at hx
  cases ht : T[i]? with
  | none => rw [ht] at hx; cases hx
  | some y =>
    rw [ht] at hx
    simp only [Option.map_some, Option.some.injEq] at hx
    cases hw : waits cs done listed i with
    | true => rw [hw] at hx; simp at hx; subst hx; exact .any _
    | false =>
      rw [hw] at hx
      simp at hx
      subst hx
      rcases I.tmps i y ht with h | h
      · rw [waits_iff.2 h] at hw; cases hw
      · exact h

theorem mask_ev {q : Nat → Bool} {T : List AV} {x : IArg} (h : ∀ t ∈ argTmp x, q t = false) : evArg (mask q 0 T) x = evArg T x := by
  cases x with
  | t n =>
    have hq : q n = false := h n (by simp [argTmp])
    simp only [evArg, nth_eq, mask_get, Nat.zero_add, hq]
    cases T[n]? <;> simp
  | _ => rfl

theorem mask_wanted {q : Nat → Bool} {T : List AV} {g : Option (Nat × Bool)} (h : ∀ t b, g = some (t, b) → q t = false) : wantedA (mask q 0 T) g = wantedA T g := by
  cases g with
  | none => rfl
  | some tb =>
    obtain ⟨t, b⟩ := tb
    have hq : q t = false := h t b rfl
    simp only [wantedA, nth_eq, mask_get, Nat.zero_add, hq]
    cases T[t]? <;> simp

theorem getD_true {listed : Array Bool} {i : Nat} (h : listed.getD i true = false) : listed.getD i false = false := by
  cases hi : listed[i]? with
  | none => simp [hi] at h
  | some b => simp [hi] at h ⊢; exact h

/-- What a ready operation waits for has been carried out. -/
theorem ready_anc (B : PlanOk P ops cs anc) (I : Inv P w0 ops cs anc μ0 H0 ds done T H listed a w μ pid) {j : Nat} (hj : j ∈ Region.ready .any ops listed) {l : Nat} (hl : l < ops.size) (h : ancBit anc j l = true) :
    listed.getD l false = true := by
  obtain ⟨h0, o, ho, hall⟩ := mem_ready.1 hj
  have hjs : j < ops.size := (Array.getElem?_eq_some_iff.1 ho).1
  obtain ⟨o', ho', e, he, hb, hon⟩ := B.ancS j l hjs hl h
  rw [ho] at ho'
  injection ho' with ho'
  subst ho'
  have h1 := hall e he hb
  rcases hon with rfl | hon
  · exact h1
  · exact I.down _ h1 l hl hon

/-- A ready operation's operands do not wait. -/
theorem ready_clean (B : PlanOk P ops cs anc) (I : Inv P w0 ops cs anc μ0 H0 ds done T H listed a w μ pid) {j : Nat} (hj : j ∈ Region.ready .any ops listed) {t : Nat} (ht : t ∈ looksOf cs j) :
    waits cs done listed t = false := by
  cases hw : waits cs done listed t with
  | false => rfl
  | true =>
    exfalso
    obtain ⟨i, hi, hu, hd⟩ := waits_iff.1 hw
    obtain ⟨_, o, ho, _⟩ := mem_ready.1 hj
    have hjs : j < ops.size := (Array.getElem?_eq_some_iff.1 ho).1
    have his := I.rng i hi
    have hwr : writesInto cs i j = true := by
      unfold writesInto
      rw [hd]
      simpa using ht
    by_cases hij : i = j
    · subst hij
      rw [B.self i his] at hwr
      cases hwr
    · rcases B.into i j his hjs hij hwr with h | ⟨h, _⟩
      · rw [ready_anc B I hj his h] at hu
        cases hu
      · rw [I.hard i hi h] at hu
        cases hu

theorem looks_args {c : Ins} {j : Nat} (hc : cs[j]? = some c) : (∀ x ∈ iargs c.op, ∀ t ∈ argTmp x, t ∈ looksOf cs j) ∧ ∀ t b, c.guard = some (t, b) → t ∈ looksOf cs j := by
  have hl : looksOf cs j = ilooks c := by unfold looksOf; rw [nth_eq, hc]
  rw [hl]
  unfold ilooks
  refine ⟨fun x hx t ht => ?_, fun t b hg => ?_⟩
  · exact List.mem_append_left _ (List.mem_flatMap.2 ⟨x, hx, ht⟩)
  · rw [hg]; simp

theorem listed_set {listed : Array Bool} {i j : Nat} (hi : i < listed.size) : (listed.setIfInBounds i true).getD j false = (if j = i then true else listed.getD j false) := by
  by_cases h : j = i
  · subst h; simp [hi]
  · rw [getD_set_ne false (Ne.symm h)]; simp [h]

/-- A world in which a waiting block is made. -/
theorem Rel.realize (R : Rel P w0 μ H w) {id : Pos} {e : Nat} {cells : List AV} (hb : H.get id = some ⟨cells.map (·, 0), 0, e, true⟩) (hm : ∀ g, μ id g = none) {vs : List Value} (hvs : VRs P.globals.size μ cells vs) :
    Ext μ (μ.add id 0 ⟨w.heap.size, 0, vs.length⟩) ∧ Rel P w0 (μ.add id 0 ⟨w.heap.size, 0, vs.length⟩) H (w.alloc (.cells vs.toArray e)) := by
  have hext : Ext μ (μ.add id 0 ⟨w.heap.size, 0, vs.length⟩) := Mu.add_ext (hm 0)
  refine ⟨hext, ?_⟩
  have hheap : ∀ b, b < w.heap.size → (w.alloc (.cells vs.toArray e)).heap[b]? = w.heap[b]? := fun b hb => heap_alloc_old w _ b hb
  have hlen := hvs.length
  refine ⟨fun b hb => ?_, ?_, R.os, R.tape, R.output, ?_, ?_, R.glob.ext hext⟩
  · rw [hheap b (Nat.lt_of_lt_of_le hb R.size)]
    exact R.old b hb
  · have := R.size
    simp
    omega
  · intro id' g' L' h'
    unfold Mu.add at h'
    split at h'
    · rename_i hc
      injection h' with h'
      subst h'
      rw [hc.1, hc.2]
      have hget : ∀ (i : Nat) (av : AV) (m : Nat), (cells.map (·, 0))[i]? = some (av, m) → m = 0 ∧ cells[i]? = some av := by
        intro i av m h
        rw [List.getElem?_map] at h
        cases hx : cells[i]? with
        | none => rw [hx] at h; simp at h
        | some x => rw [hx] at h; simp at h; exact ⟨h.2.symm, by rw [h.1]⟩
      refine ⟨_, vs.toArray, e, (0, 0), hb, Nat.le_refl _, heap_alloc_new w _, by simp, fun _ => ⟨R.size, rfl, rfl, rfl, by simp⟩, fun hf => by simp at hf, ?_, ?_⟩
      · intro i av m h
        exact Nat.le_of_eq (hget i av m h).1
      · intro i av m h _
        obtain ⟨_, hx⟩ := hget i av m h
        obtain ⟨v, hv, hvr⟩ := hvs.get hx
        refine ⟨?_, v, by simpa using hv, hvr.ext hext⟩
        have := (List.getElem?_eq_some_iff.1 hx).1
        show i < vs.length
        omega
    · obtain ⟨vb, cur', e', fr, h1, h2, h3, h4, h5, h6, h6', h7⟩ := R.place id' g' L' h'
      have hlt := R.blk_lt h'
      refine ⟨vb, cur', e', fr, h1, h2, by rw [hheap _ hlt]; exact h3, h4, h5, h6, h6', ?_⟩
      intro i av m hm hmg
      obtain ⟨q1, v, q2, q3⟩ := h7 i av m hm hmg
      exact ⟨q1, v, q2, q3.ext hext⟩
  · intro id1 g1 L1 id2 g2 L2 h1 h2 hbk hge
    unfold Mu.add at h1 h2
    split at h1
    · rename_i hc1
      split at h2
      · rename_i hc2
        rw [hc1.1, hc2.1]
      · injection h1 with h1; subst h1
        have := R.blk_lt h2
        have : w.heap.size = L2.blk := hbk
        omega
    · split at h2
      · injection h2 with h2; subst h2
        have := R.blk_lt h1
        have : L1.blk = w.heap.size := hbk
        omega
      · exact R.apart _ _ _ _ _ _ h1 h2 hbk hge

/-- What waits goes on waiting where nothing that it looks at, writes or has made is touched. -/
theorem PInv.keep {i : Nat} {id : Pos} (h : PInv cs i T H μ id) {T' : List AV} {H' : Hp} {μ' : Mu}
    (hev : ∀ c, cs[i]? = some c → (∀ x ∈ iargs c.op, evArg T' x = evArg T x) ∧ wantedA T' c.guard = wantedA T c.guard ∧ ∀ d, c.dst = some d → T'[d]? = T[d]?)
    (hload : ∀ c v, cs[i]? = some c → isLoadI c.op = true → c.dst.isSome = true → (∀ d, c.dst = some d → ∀ x, T[d]? = some x → x = v) → wantedA T c.guard = some true → xload (evArg T) H c.op = some v → xload (evArg T') H' c.op = some v)
    (hmake : ∀ c e cells f v, cs[i]? = some c → c.guard = none → c.dst.isSome = true → (∀ d, c.dst = some d → ∀ x, T[d]? = some x → x = v) → nameOf v = some id → xmake (evArg T) c.op = some (e, cells, f) → H.get id = some ⟨cells.map (·, 0), 0, e, true⟩ →
      (∀ g, μ id g = none) → H'.get id = some ⟨cells.map (·, 0), 0, e, true⟩ ∧ ∀ g, μ' id g = none) : PInv cs i T' H' μ' id := by
  cases h with
  | skip c hc hg ht =>
    obtain ⟨h1, h2, h3⟩ := hev c hc
    exact .skip c hc (by rw [h2]; exact hg) (fun d hd x hx => ht d hd x (by rw [← h3 d hd]; exact hx))
  | pure c hc hg v ht hv =>
    obtain ⟨h1, h2, h3⟩ := hev c hc
    exact .pure c hc (by rw [h2]; exact hg) v (fun d hd x hx => ht d hd x (by rw [← h3 d hd]; exact hx)) (by rw [xpure_congr h1]; exact hv)
  | load c hc hg v ht hv hi hd =>
    obtain ⟨h1, h2, h3⟩ := hev c hc
    exact .load c hc (by rw [h2]; exact hg) v (fun d hd x hx => ht d hd x (by rw [← h3 d hd]; exact hx)) (hload c v hc hi hd ht hg hv) hi hd
  | make c hc hg v ht e cells f hv hf hn hb hm hd =>
    obtain ⟨h1, h2, h3⟩ := hev c hc
    obtain ⟨k1, k2⟩ := hmake c e cells f v hc hg hd ht hn hv hb hm
    exact .make c hc hg v (fun d hd x hx => ht d hd x (by rw [← h3 d hd]; exact hx)) e cells f (by rw [xmake_congr h1]; exact hv) hf hn k1 k2 hd

end
end Ev

/- A region that draws its order: its steps. -/
set_option autoImplicit false
set_option linter.unusedSimpArgs false
set_option linter.unusedVariables false
namespace Ev
open Go

theorem nameOf_make {ev : Ev} {i : IOp} {e : Nat} {cells : List AV} {f : Pos → AV} (h : xmake ev i = some (e, cells, f)) (id : Pos) : nameOf (f id) = some id := by
  cases i <;> simp only [xmake] at h <;> (try (cases h; done)) <;> (repeat' split at h) <;> (try (cases h; done)) <;>
    (simp only [Option.some.injEq, Prod.mk.injEq] at h; obtain ⟨_, _, rfl⟩ := h; rfl)

theorem make_isMake {ev : Ev} {i : IOp} {r : Nat × List AV × (Pos → AV)} (h : xmake ev i = some r) : isMakeI i = true := by
  cases i <;> first | rfl | (simp [xmake] at h; done)

theorem load_isLoad {ev : Ev} {H : Hp} {i : IOp} {v : AV} (h : xload ev H i = some v) : isLoadI i = true := by
  cases i <;> first | rfl | (simp [xload] at h; done)

section
variable {P : Program} {w0 : World} {ops : Array Oper} {cs : List Ins} {anc : List Nat} {μ0 : Mu} {H0 : Hp} {ds : List Deferred} {done : List Nat} {T : List AV} {H : Hp} {listed : Array Bool} {a : Act} {w : World} {μ : Mu} {pid : Nat → Pos}

theorem soft_kind {i : Nat} {c : Ins} (hc : cs[i]? = some c) (hs : soft cs anc i = true) :
    (isPureI c.op = true ∨ (isLoadI c.op = true ∧ c.dst.isSome = true) ∨ (isMakeI c.op = true ∧ c.guard = none ∧ c.dst.isSome = true)) ∧
    ∀ j, j < cs.length → j ≠ i → writesInto cs i j = true → ancBit anc j i = true := by
  unfold soft at hs
  rw [nth_eq, hc] at hs
  simp only [Bool.and_eq_true, Bool.or_eq_true, Option.isNone_iff_eq_none] at hs
  obtain ⟨h1, h2⟩ := hs
  refine ⟨?_, fun j hj hji hw => ?_⟩
  · rcases h1 with (h1 | h1) | ⟨⟨h1, h3⟩, h4⟩
    · exact .inl h1
    · exact .inr (.inl h1)
    · exact .inr (.inr ⟨h1, h3, h4⟩)
  · rw [List.all_eq_true] at h2
    have := h2 j (by rw [List.mem_range]; exact hj)
    rw [hw] at this
    simpa [hji] using this

theorem soft_step {call : Call} {c : Ins} (hk : isPureI c.op = true ∨ (isLoadI c.op = true ∧ c.dst.isSome = true) ∨ (isMakeI c.op = true ∧ c.guard = none ∧ c.dst.isSome = true)) {r : CR} {H1 : Hp} (h : xstep call T H c.op = some (r, H1)) :
    ∃ v, r = .ret v ∧ ((xpure (evArg T) c.op = some v ∧ H1 = H) ∨ (isLoadI c.op = true ∧ c.dst.isSome = true ∧ xload (evArg T) H c.op = some v ∧ H1 = H) ∨
      (∃ e cells f id, c.guard = none ∧ c.dst.isSome = true ∧ xmake (evArg T) c.op = some (e, cells, f) ∧ H.new e cells = some (id, H1) ∧ v = f id)) := by
  have hn : isCallI c.op = false := by
    rcases hk with hk | ⟨hk, _⟩ | ⟨hk, _⟩ <;> (revert hk; cases c.op <;> simp [isPureI, isLoadI, isMakeI, isCallI])
  rw [xstep_plain call T H hn] at h
  split at h
  · rename_i v hv
    injection h with h; injection h with h1 h2
    exact ⟨v, h1.symm, .inl ⟨hv, h2.symm⟩⟩
  · rename_i hp
    split at h
    · rename_i v hv
      injection h with h; injection h with h1 h2
      have hl := load_isLoad hv
      refine ⟨v, h1.symm, .inr (.inl ⟨hl, ?_, hv, h2.symm⟩)⟩
      rcases hk with hk | ⟨_, hk⟩ | ⟨hk, _⟩
      · revert hk hl; cases c.op <;> simp [isPureI, isLoadI]
      · exact hk
      · revert hk hl; cases c.op <;> simp [isMakeI, isLoadI]
    · split at h
      · rename_i x H' hx
        injection h with h; injection h with h1 h2
        subst h2
        unfold xeff at hx
        split at hx
        · rename_i e cells f hm
          split at hx
          · rename_i id H2 hnew
            injection hx with hx; injection hx with hx1 hx2
            subst hx2
            have hmk := make_isMake hm
            refine ⟨x, h1.symm, .inr (.inr ⟨e, cells, f, id, ?_, ?_, hm, hnew, hx1.symm⟩)⟩
            · rcases hk with hk | ⟨hk, _⟩ | ⟨_, hk, _⟩
              · revert hk hmk; cases c.op <;> simp [isPureI, isMakeI]
              · revert hk hmk; cases c.op <;> simp [isLoadI, isMakeI]
              · exact hk
            · rcases hk with hk | ⟨hk, _⟩ | ⟨_, _, hk⟩
              · revert hk hmk; cases c.op <;> simp [isPureI, isMakeI]
              · revert hk hmk; cases c.op <;> simp [isLoadI, isMakeI]
              · exact hk
          · cases hx
        · exfalso
          rename_i hm
          rcases hk with hk | ⟨hk, _⟩ | ⟨hk, _⟩ <;> (revert hk hx; cases c.op <;> simp [isPureI, isLoadI, isMakeI, xwrite])
      · cases h

theorem put_ne {T : List AV} {d : Option Nat} {v : AV} {t : Nat} (h : d ≠ some t) : (put T d v)[t]? = T[t]? := by
  cases d with
  | none => rfl
  | some n =>
    have hn : n ≠ t := fun e => h (by rw [e])
    simp only [put, putAt_eq]
    rw [List.getElem?_set_ne hn]

theorem put_self {T : List AV} {d : Nat} {v x : AV} (h : (put T (some d) v)[d]? = some x) : x = v := by
  simp only [put, putAt_eq] at h
  rw [List.getElem?_set] at h
  simp at h
  exact h.2.symm

theorem put_len {T : List AV} {d : Option Nat} {v : AV} : (put T d v).length = T.length := by
  cases d <;> simp [put, putAt_eq]

theorem wanted_put' {T : List AV} {d : Option Nat} {v : AV} {g : Option (Nat × Bool)} (h : ∀ n, d = some n → ∀ t b, g = some (t, b) → n ≠ t) : wantedA (put T d v) g = wantedA T g := by
  cases g with
  | none => rfl
  | some tb =>
    obtain ⟨t, b⟩ := tb
    have : d ≠ some t := fun e => h t e t b rfl rfl
    simp only [wantedA, nth_eq, put_ne this]

/-- Where an operation's slot is nothing that another looks at or writes. -/
theorem keep_ev (hself : ∀ j, j ∈ done → True) {i j : Nat} {ci cj : Ins} (hi : cs[i]? = some ci) (hj : cs[j]? = some cj) (hw : writesInto cs i j = false) (hd : ∀ d, dstOf cs i = some d → dstOf cs j ≠ some d) (v : AV) :
    (∀ x ∈ iargs cj.op, evArg (put T ci.dst v) x = evArg T x) ∧ wantedA (put T ci.dst v) cj.guard = wantedA T cj.guard ∧ ∀ d, cj.dst = some d → (put T ci.dst v)[d]? = T[d]? := by
  obtain ⟨l1, l2⟩ := looks_args hj
  have hdi : dstOf cs i = ci.dst := by simp [dstOf, nth_eq, hi]
  have hdj : dstOf cs j = cj.dst := by simp [dstOf, nth_eq, hj]
  have hno : ∀ n, ci.dst = some n → n ∉ looksOf cs j := by
    intro n hn hm
    unfold writesInto at hw
    rw [hdi, hn] at hw
    simp at hw
    exact hw hm
  refine ⟨fun x hx => evArg_put fun n hn hm => hno n hn (l1 x hx n hm), wanted_put' fun n hn t b hg e => hno n hn (e ▸ l2 t b hg), fun d hdd => put_ne fun e => ?_⟩
  exact hd d (by rw [hdi]; exact e) (by rw [hdj]; exact hdd)

/-- A block that the model has not yet. -/
theorem Rel.virtual (R : Rel P w0 μ H w) {e : Nat} {cells : List AV} {id : Pos} {H' : Hp} (h : H.new e cells = some (id, H')) : Rel P w0 μ H' w := by
  obtain ⟨n1, n2, n3⟩ := new_spec h
  refine ⟨R.old, R.size, R.os, R.tape, R.output, ?_, R.apart, R.glob⟩
  intro id' g L hL
  obtain ⟨vb, cur, e', fr, h1, h2⟩ := R.place id' g L hL
  refine ⟨vb, cur, e', fr, ?_, h2⟩
  rw [n3 id' (fun e => by rw [e, n1] at h1; cases h1)]
  exact h1

theorem Inv.soft_of (I : Inv P w0 ops cs anc μ0 H0 ds done T H listed a w μ pid) {j : Nat} (hj : j ∈ done) (hu : listed.getD j false = false) : soft cs anc j = true := by
  cases h : soft cs anc j with
  | true => rfl
  | false => rw [I.hard j hj h] at hu; cases hu

theorem Inv.pend_make (I : Inv P w0 ops cs anc μ0 H0 ds done T H listed a w μ pid) {j : Nat} (hj : j ∈ done) (hu : listed.getD j false = false) (hm : isMakeAt cs j = true) : ∃ b, H.get (pid j) = some b := by
  have hs := I.soft_of hj hu
  cases I.pend j hj hu with
  | make c hc hg v ht e cells f hv hf hn hb hm' hd => exact ⟨_, hb⟩
  | skip c hc hg ht =>
    exfalso
    unfold isMakeAt at hm
    rw [hc] at hm
    simp only at hm
    rcases (soft_kind hc hs).1 with hk | ⟨hk, _⟩ | ⟨_, hk, _⟩
    · revert hk hm; cases c.op <;> simp [isPureI, isMakeI]
    · revert hk hm; cases c.op <;> simp [isLoadI, isMakeI]
    · rw [hk] at hg; simp [wantedA] at hg
  | pure c hc hg v ht hv =>
    exfalso
    unfold isMakeAt at hm
    rw [hc] at hm
    simp only at hm
    revert hm hv
    cases c.op <;> simp [xpure, isMakeI]
  | load c hc hg v ht hv hi hd =>
    exfalso
    unfold isMakeAt at hm
    rw [hc] at hm
    simp only at hm
    revert hm hi
    cases c.op <;> simp [isLoadI, isMakeI]

/-- A soft operation is carried out ahead. -/
theorem Inv.advance {call : Call} (B : PlanOk P ops cs anc) (I : Inv P w0 ops cs anc μ0 H0 ds done T H listed a w μ pid) {i : Nat} (hi : i < ops.size) (hnd : i ∉ done) (hs : soft cs anc i = true)
    (htop : ∀ l, l < ops.size → ancBit anc i l = true → l ∈ done) {c : Ins} (hc : cs[i]? = some c) {rest : List Ins} {out : Out} (hr : runIns call (c :: rest) T H = some out) :
    ∃ T1 H1 pid1, Inv P w0 ops cs anc μ0 H0 ds (done ++ [i]) T1 H1 listed a w μ pid1 ∧ runIns call rest T1 H1 = some out := by
  obtain ⟨hk, hsw⟩ := soft_kind hc hs
  have hdi : dstOf cs i = c.dst := by simp [dstOf, nth_eq, hc]
  have hself := B.self i hi
  have hunl : listed.getD i false = false := by
    cases h : listed.getD i false with
    | false => rfl
    | true => exact absurd (I.sub i h) hnd
  -- nobody that is carried out ahead of it looks at what it writes
  have hclean : ∀ j ∈ done, ∀ cj, cs[j]? = some cj → writesInto cs i j = false ∧ ∀ d, dstOf cs i = some d → dstOf cs j ≠ some d := by
    intro j hj cj hcj
    have hjs := I.rng j hj
    have hij : j ≠ i := fun e => hnd (e ▸ hj)
    refine ⟨?_, fun d hd => B.dst i j hi hjs (Ne.symm hij) d hd⟩
    cases hw : writesInto cs i j with
    | false => rfl
    | true =>
      have := hsw j (by rw [B.len]; exact hjs) hij hw
      exact absurd (I.doneDown j hj i hi this) hnd
  -- the common part
  have fin : ∀ (v : AV) (H1 : Hp) (pid1 : Nat → Pos), Rel P w0 μ H1 w → Dom H0 H1 → (∀ j ∈ done, pid1 j = pid j) →
      (∀ j ∈ done, listed.getD j false = false → PInv cs j (put T c.dst v) H1 μ (pid j)) → PInv cs i (put T c.dst v) H1 μ (pid1 i) →
      (isMakeAt cs i = true → H0.get (pid1 i) = none ∧ ∀ j ∈ done, listed.getD j false = false → isMakeAt cs j = true → pid j ≠ pid1 i) →
      Inv P w0 ops cs anc μ0 H0 ds (done ++ [i]) (put T c.dst v) H1 listed a w μ pid1 := by
    intro v H1 pid1 hrel hdom hpid hpend hpi hmk
    refine ⟨hrel, I.ext, I.new, hdom, I.defs, I.lsz, fun j hj => List.mem_append_left _ (I.sub j hj), ?_, ?_, ?_, I.down, by rw [put_len]; exact I.tl, ?_, ?_, ?_, ?_⟩
    · intro j hj hsj
      rcases List.mem_append.1 hj with h | h
      · exact I.hard j h hsj
      · simp at h; subst h; rw [hs] at hsj; cases hsj
    · intro j hj
      rcases List.mem_append.1 hj with h | h
      · exact I.rng j h
      · simp at h; subst h; exact hi
    · intro m hm l hl hb
      rcases List.mem_append.1 hm with h | h
      · exact List.mem_append_left _ (I.doneDown m h l hl hb)
      · simp at h; subst h; exact List.mem_append_left _ (htop l hl hb)
    · intro t x hx
      by_cases hd : c.dst = some t
      · exact .inl ⟨i, List.mem_append_right _ (by simp), hunl, by rw [hdi]; exact hd⟩
      · rw [put_ne hd] at hx
        rcases I.tmps t x hx with ⟨j, hj, h1, h2⟩ | h
        · exact .inl ⟨j, List.mem_append_left _ hj, h1, h2⟩
        · exact .inr h
    · intro j hj hu
      rcases List.mem_append.1 hj with h | h
      · rw [hpid j h]; exact hpend j h hu
      · simp at h; subst h; exact hpi
    · intro j hj hu hm
      rcases List.mem_append.1 hj with h | h
      · rw [hpid j h]; exact I.fresh j h hu hm
      · simp at h; subst h; exact (hmk hm).1
    · intro j hj k hk' hju hku hjm hkm he
      rcases List.mem_append.1 hj with h | h <;> rcases List.mem_append.1 hk' with h' | h'
      · rw [hpid j h, hpid k h'] at he
        exact I.inj j h k h' hju hku hjm hkm he
      · simp at h'; subst h'
        rw [hpid j h] at he
        exact absurd he ((hmk hkm).2 j h hju hjm)
      · simp at h; subst h
        rw [hpid k h'] at he
        exact absurd he.symm ((hmk hjm).2 k h' hku hkm)
      · simp at h h'; rw [h, h']
  have hev := fun (v : AV) (j : Nat) (hj : j ∈ done) (cj : Ins) (hcj : cs[j]? = some cj) => keep_ev (T := T) (done := done) (fun _ _ => trivial) hc hcj (hclean j hj cj hcj).1 (hclean j hj cj hcj).2 v
  have hevi := fun (v : AV) => keep_ev (T := T) (done := done) (cs := cs) (i := i) (j := i) (fun _ _ => trivial) hc hc hself
  -- its own operands
  have hown : ∀ v, (∀ x ∈ iargs c.op, evArg (put T c.dst v) x = evArg T x) ∧ wantedA (put T c.dst v) c.guard = wantedA T c.guard := by
    intro v
    obtain ⟨l1, l2⟩ := looks_args hc
    have hno : ∀ n, c.dst = some n → n ∉ looksOf cs i := by
      intro n hn hm
      unfold writesInto at hself
      rw [hdi, hn] at hself
      simp at hself
      exact hself hm
    exact ⟨fun x hx => evArg_put fun n hn hm => hno n hn (l1 x hx n hm), wanted_put' fun n hn t b hg e => hno n hn (e ▸ l2 t b hg)⟩
  have htd : ∀ v, ∀ d, c.dst = some d → ∀ x, (put T c.dst v)[d]? = some x → x = v := by
    intro v d hd x hx
    rw [hd] at hx
    exact put_self hx
  have stay : ∀ v, ∀ j ∈ done, listed.getD j false = false → PInv cs j (put T c.dst v) H μ (pid j) := by
    intro v j hj hu
    refine (I.pend j hj hu).keep (fun cj hcj => hev v j hj cj hcj) ?_ ?_
    · intro cj u hcj _ _ _ _ hx
      rw [xload_congr (hev v j hj cj hcj).1]; exact hx
    · intro cj e cells f u hcj _ _ _ _ _ hb hm
      exact ⟨hb, hm⟩
  simp only [runIns] at hr
  split at hr
  · cases hr
  · -- not wanted
    rename_i hg
    refine ⟨_, H, pid, fin (.tup []) H pid I.rel I.dom (fun _ _ => rfl) (stay (.tup [])) ?_ ?_, hr⟩
    · exact .skip c hc (by rw [(hown (.tup [])).2]; exact hg) (htd (.tup []))
    · intro hm
      exfalso
      unfold isMakeAt at hm
      rw [hc] at hm
      simp only at hm
      rcases hk with hk | ⟨hk, _⟩ | ⟨_, hk, _⟩
      · revert hk hm; cases c.op <;> simp [isPureI, isMakeI]
      · revert hk hm; cases c.op <;> simp [isLoadI, isMakeI]
      · rw [hk] at hg; simp [wantedA] at hg
  · rename_i hg
    split at hr
    · rename_i v H1 hst
      obtain ⟨v', hv', hcase⟩ := soft_step hk hst
      injection hv' with hv'
      subst hv'
      rcases hcase with ⟨hp, rfl⟩ | ⟨hl, hds, hx, rfl⟩ | ⟨e, cells, f, id, hgn, hds, hx, hnew, rfl⟩
      · refine ⟨_, H1, pid, fin v H1 pid I.rel I.dom (fun _ _ => rfl) (stay v) (.pure c hc (by rw [(hown v).2]; exact hg) v (htd v) (by rw [xpure_congr (hown v).1]; exact hp)) ?_, hr⟩
        intro hm
        exfalso
        unfold isMakeAt at hm
        rw [hc] at hm
        simp only at hm
        revert hm hp
        cases c.op <;> simp [xpure, isMakeI]
      · refine ⟨_, H1, pid, fin v H1 pid I.rel I.dom (fun _ _ => rfl) (stay v) (.load c hc (by rw [(hown v).2]; exact hg) v (htd v) (by rw [xload_congr (hown v).1]; exact hx) hl hds) ?_, hr⟩
        intro hm
        exfalso
        unfold isMakeAt at hm
        rw [hc] at hm
        simp only at hm
        revert hm hl
        cases c.op <;> simp [isLoadI, isMakeI]
      · obtain ⟨n1, n2, n3⟩ := new_spec hnew
        refine ⟨_, H1, fun k => if k = i then id else pid k, fin (f id) H1 _ (I.rel.virtual hnew) (I.dom.trans (Dom.new hnew)) ?_ ?_ ?_ ?_, hr⟩
        · intro j hj
          have : j ≠ i := fun e => hnd (e ▸ hj)
          simp [this]
        · intro j hj hu
          refine (I.pend j hj hu).keep (fun cj hcj => hev (f id) j hj cj hcj) ?_ ?_
          · intro cj u hcj _ _ _ _ hxl
            rw [xload_congr (hev (f id) j hj cj hcj).1]
            exact xload_new hnew hxl
          · intro cj e' cells' f' v' hcj _ _ _ _ _ hb hm
            refine ⟨?_, hm⟩
            rw [n3 _ (fun e => by rw [e, n1] at hb; cases hb)]
            exact hb
        · simp only [if_true]
          exact .make c hc hgn (f id) (htd _) e cells f (by rw [xmake_congr (hown (f id)).1]; exact hx) rfl (nameOf_make hx id) n2 (fun g => I.rel.unmapped n1 g) hds
        · intro _
          simp only [if_true]
          refine ⟨I.dom id n1, fun j hj hu hm e => ?_⟩
          obtain ⟨b, hb⟩ := I.pend_make hj hu hm
          rw [e, n1] at hb
          cases hb
    · rename_i v H1 hst
      obtain ⟨v', hv', _⟩ := soft_step hk hst
      cases hv'
    · cases hr

end
end Ev
