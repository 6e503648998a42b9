/- How a call begins, and bodies whose first pieces are run apart. -/
import Derived.Test.YtdmbkbmenahpnaaGreatDoorVz
import Derived.Test.YtdmbkbmenahpnaaGreatDoorVv
import Derived.Test.YtdmbkbmenahpnaaGreatDoorVp
import Derived.Below
/- How a call begins: nothing is known but where the package's one variable lies; and a call that is run anew in the midst of another. -/
set_option autoImplicit false
set_option linter.unusedSimpArgs false
set_option linter.unusedVariables false
namespace Ev
open Go Go.RowKit

def mu0 : Mu := fun id g => if id = gpos 0 ∧ g = 0 then some ⟨0, 0, 0⟩ else none
def hp0 : Hp := ⟨(PT.leaf).set ⟨[], 0, 0, false⟩ (gpos 0), .one⟩
noncomputable def hp20 : Hp2 := ⟨(PT.leaf).fset ⟨.leaf, 0, 0, 0, false⟩ (gpos 0), .one⟩

theorem sim0 : SimH hp0 hp20 := by
  refine ⟨rfl, fun p hp => ?_, fun p b hp => ?_⟩
  · simp only [hp0, Hp.get, PT.get_set, PT.get] at hp
    simp only [hp20, fset_get, PT.get]
    split at hp
    · cases hp
    · rename_i h; rw [if_neg h]
  · simp only [hp0, Hp.get, PT.get_set, PT.get] at hp
    simp only [hp20, fset_get, PT.get]
    split at hp
    · rename_i h
      injection hp with hp
      subst hp
      exact ⟨_, by rw [if_pos h], ⟨rfl, rfl, rfl, rfl, fun i hi => by simp at hi⟩⟩
    · cases hp

variable {P : Program}

theorem start_rel (hG : P.globals.size = 1) {w : World} (h0 : ∃ cur e fr, w.heap[0]? = some (.cells cur e fr)) : Rel P w mu0 hp0 w := by
  obtain ⟨cur, e, fr, hb⟩ := h0
  have hlt : 0 < w.heap.size := (Array.getElem?_eq_some_iff.1 hb).1
  refine ⟨fun _ _ => rfl, Nat.le_refl _, rfl, rfl, rfl, fun id g L h => ?_, fun id g L id' g' L' h h' hbk hge => ?_, fun n hn => ?_⟩
  · unfold mu0 at h
    split at h
    · rename_i hc
      obtain ⟨rfl, rfl⟩ := hc
      injection h with h
      subst h
      refine ⟨⟨[], 0, 0, false⟩, cur, e, fr, by simp [hp0, Hp.get, PT.get_set], Nat.le_refl _, hb, by simp, fun h => by simp at h, fun _ => hlt, fun i av m h => by simp at h, fun i av m h => by simp at h⟩
    · cases h
  · unfold mu0 at h h'
    split at h
    · rename_i hc
      split at h'
      · rename_i hc'
        rw [hc.1, hc'.1]
      · cases h'
    · cases h
  · have : n = 0 := by omega
    subst this
    exact ⟨0, by simp [mu0]⟩

theorem Rel.of_below' {w0 : World} {μ : Mu} {H : Hp} {w w' : World} (R : Rel P w0 μ H w) (h : Below w.heap.size w w') : Rel P w0 μ H w' := by
  refine ⟨fun b hb => ?_, Nat.le_trans R.size h.size, h.os.trans R.os, h.tape.trans R.tape, h.output.trans R.output, ?_, R.apart, R.glob⟩
  · rw [h.block b (Nat.lt_of_lt_of_le hb R.size)]; exact R.old b hb
  · intro id g L hL
    obtain ⟨vb, cur, e, fr, h1, h2, h3, h4⟩ := R.place id g L hL
    exact ⟨vb, cur, e, fr, h1, h2, by rw [h.block _ (R.blk_lt hL)]; exact h3, h4⟩

/-- A call that answers true and leaves what there was. -/
def SaysTrue (P : Program) (f : Nat) (args : Array Value) (w : World) : Prop := FuncAt P f args w fun e w' => e = .returned (.bool true) ∧ Below w.heap.size w w'

theorem FuncAt.mono {f : Nat} {args : Array Value} {w : World} {R R' : Ending → World → Prop} (h : FuncAt P f args w R) (hr : ∀ e w', R e w' → R' e w') : FuncAt P f args w R' := by
  unfold FuncAt at *
  split at h
  · exact Calls.mono h hr
  · exact hr _ _ h
  · exact h.elim

theorem says_of_cpost {f : Nat} {args : Array Value} {w : World} {μ : Mu} {H H' : Hp} (h : FuncAt P f args w (CPost P w μ H (.ret (.bool true)) H')) : SaysTrue P f args w := by
  refine FuncAt.mono h fun e w' hp => ?_
  obtain ⟨μ', _, _, R, hr⟩ := hp
  cases e with
  | returned v =>
    simp only at hr
    cases hr
    exact ⟨rfl, R.os, R.tape, R.output, R.size, R.old⟩
  | _ => exact hr.elim

/-- A function that says true from any world of a kind stands in the evaluator as just that. -/
theorem true_ok {w0 : World} {f : Nat} (h : ∀ w, (∀ b, b < w0.heap.size → w.heap[b]? = w0.heap[b]?) → w0.heap.size ≤ w.heap.size → SaysTrue P f #[] w) : PrimOk P w0 f truePrim := by
  intro call _ _ args H r H' hr
  unfold truePrim at hr
  split at hr
  · injection hr with hr; injection hr with h1 h2; subst h1; subst h2
    refine ⟨Dom.refl _, fun μ w vs R hvs => ?_⟩
    cases hvs
    refine FuncAt.mono (h w R.old R.size) ?_
    rintro e w' ⟨rfl, hB⟩
    exact ⟨μ, Ext.refl μ, NewIds.refl H μ, R.of_below' hB, .bool true⟩
  · cases hr

end Ev

/- A body whose first pieces are run with an argument that is not known, and the rest with a frame that says less. -/
set_option autoImplicit false
set_option linter.unusedSimpArgs false
set_option linter.unusedVariables false
namespace Ev
open Go Go.RowKit

/-- A frame that says less. -/
def Weaker (T2 T1 : List AV) : Prop := T2.length ≤ T1.length ∧ ∀ (i : Nat) (x : AV), T2[i]? = some x → x = .any ∨ T1[i]? = some x

theorem Weaker.refl (T : List AV) : Weaker T T := ⟨Nat.le_refl _, fun i x h => .inr h⟩

theorem Weaker.tr {G : Nat} {μ : Mu} {T1 T2 : List AV} {tmps : Array Value} (h : Weaker T2 T1) (hT : TR G μ T1 tmps) : TR G μ T2 tmps :=
  ⟨Nat.le_trans h.1 hT.1, fun i x hx => by
    rcases h.2 i x hx with rfl | h1
    · exact .any _
    · exact hT.2 i x h1⟩

variable {P : Program} {w0 : World}

theorem seq_weak (hmix : P.follows .mixedOrders = true) {call : Call} (hok : CallOk P w0 call) (hdom : CallDom call) {lf : Nat} {x y : Code} {px : PC} (hx : cCode P x = some px) {μ : Mu} {H : Hp} {w : World} {T : List AV} {a : Act}
    (R : Rel P w0 μ H w) (hT : TR P.globals.size μ T a.tmps) {T1 T2 : List AV} {H1 : Hp} (hr : run call lf px T H = some (.go .norm T1 H1)) (hw : Weaker T2 T1) {out : Out}
    (hy : ∀ {μ' : Mu} {w' : World} {a' : Act}, Rel P w0 μ' H1 w' → TR P.globals.size μ' T2 a'.tmps → y.wp P (ORel P w0 μ' H1 a'.defers out) a' w') :
    (Code.seq x y).wp P (ORel P w0 μ H a.defers out) a w := by
  refine wp_seq (wp_mono (code_sound hmix hok hdom x px hx R hT hr) (exit_then ?_ ?_))
  · intro T1' H1' he μ1 a1 w1 hext hn hd R1 hT1
    injection he with _ e2 e3
    subst e2; subst e3
    refine wp_mono (hy R1 (hw.tr hT1)) fun e a' w' h => ?_
    rw [hd] at h
    exact h.after hext hn (run_dom hdom hr)
  · intro hne
    exact absurd rfl (hne T1 H1)

theorem says_of_wp {f : Nat} {fn : Func} {c : Code} (hf : P.funcs[f]? = some fn) (hb : fn.body = some c) (hn : (fn.name == "runtime.NumGoroutine") = false) {rs : List IRes} (hrs : cResL P fn.results.toList = some rs)
    {args : Array Value} {w : World} {μ : Mu} {H H' : Hp} {x : Ex} {T : List AV} (hx : x = .norm ∨ x = .ret) (hres : resOf T H' rs = some (.bool true))
    (h : c.wp P (ORel P w μ H [] (.go x T H')) { tmps := args ++ Array.replicate (fn.ntmps - args.size) undef, defers := [] } w) : SaysTrue P f args w := by
  refine FuncAt.of_calls hf hb hn (calls_of_wp hf hb (wp_mono h fun e a1 w1 ho => ?_))
  obtain ⟨μ1, h1, h2, h3, h4, h5, h6⟩ := ho
  obtain ⟨v, hv, hvr⟩ := res_sound h4 h5 hrs hres
  cases hvr
  rcases hx with rfl | rfl
  · simp only at h6
    subst h6
    exact ⟨h3, _, hv, rfl, h4.os, h4.tape, h4.output, h4.size, h4.old⟩
  · simp only at h6
    subst h6
    exact ⟨h3, _, hv, rfl, h4.os, h4.tape, h4.output, h4.size, h4.old⟩

end Ev

/- A heap of the first evaluator as one of the second; frames that say less. -/
set_option autoImplicit false
set_option linter.unusedSimpArgs false
set_option linter.unusedVariables false
namespace Ev
open Go

noncomputable def PT.conv (t : PT VB) : PT VB2 :=
  @PT.rec VB (fun _ => PT VB2) .leaf (fun v _ _ l r => .node (@Option.rec VB (fun _ => Option VB2) none (fun b => some ⟨fill b.cells .leaf 0, b.cells.length, b.gen, b.elem, b.own⟩) v) l r) t

theorem conv_get : ∀ (t : PT VB) (p : Pos), (PT.conv t).get p = (t.get p).map fun b => ⟨fill b.cells .leaf 0, b.cells.length, b.gen, b.elem, b.own⟩
  | .leaf, p => by cases p <;> rfl
  | .node v l r, .one => by cases v <;> rfl
  | .node v l r, .b0 p => conv_get l p
  | .node v l r, .b1 p => conv_get r p

noncomputable def Hp.conv (H : Hp) : Hp2 := ⟨PT.conv H.m, H.next⟩

theorem conv_sim (H : Hp) : SimH H H.conv := by
  refine ⟨rfl, fun p hp => ?_, fun p b hp => ?_⟩
  · show (PT.conv H.m).get p = none
    rw [conv_get]
    have : H.m.get p = none := hp
    rw [this]; rfl
  · refine ⟨⟨fill b.cells .leaf 0, b.cells.length, b.gen, b.elem, b.own⟩, ?_, rfl, rfl, rfl, rfl, fun i hi => ?_⟩
    · show (PT.conv H.m).get p = _
      rw [conv_get]
      have : H.m.get p = some b := hp
      rw [this]; rfl
    · show (fill b.cells .leaf 0).get (posN i) = _
      rw [fill_get, if_pos ⟨Nat.zero_le _, by omega⟩, Nat.sub_zero]

theorem fill_simT (T : List AV) : SimT T (fill T .leaf 0) := by
  intro n
  rw [fill_get]
  by_cases h : n < T.length
  · rw [if_pos ⟨Nat.zero_le _, by omega⟩, Nat.sub_zero]
  · rw [if_neg (by omega), List.getElem?_eq_none (by omega)]
    cases posN n <;> rfl

theorem Weaker.set {T2 T1 : List AV} (h : Weaker T2 T1) (i : Nat) (v : AV) : Weaker (T2.set i v) (T1.set i v) := by
  refine ⟨by simpa using h.1, fun k x hx => ?_⟩
  rw [List.getElem?_set] at hx ⊢
  by_cases hik : i = k
  · subst hik
    simp only [if_true] at hx ⊢
    split at hx
    · rename_i hl
      injection hx with hx
      have := h.1
      right
      rw [if_pos (by omega), hx]
    · cases hx
  · rw [if_neg hik] at hx ⊢
    exact h.2 k x hx

theorem Weaker.any {T2 T1 : List AV} (h : Weaker T2 T1) (i : Nat) (v : AV) : Weaker (T2.set i .any) (T1.set i v) := by
  refine ⟨by simpa using h.1, fun k x hx => ?_⟩
  rw [List.getElem?_set] at hx ⊢
  by_cases hik : i = k
  · subst hik
    simp only [if_true] at hx
    split at hx
    · injection hx with hx
      exact .inl hx.symm
    · cases hx
  · rw [if_neg hik] at hx ⊢
    exact h.2 k x hx

end Ev

/- The last piece of a law's body, run by the evaluator over tries. -/
set_option autoImplicit false
set_option linter.unusedVariables false
namespace Ev
open Go Go.RowKit

/-- The rest of a law's body says true. -/
noncomputable def saysTrue (rs : List IRes) : Option Out2 → Bool
  | some (.go .ret T H) => match resOf2 T H rs with
    | some (.bool b) => b
    | _ => false
  | _ => false

theorem saysTrue_spec {rs : List IRes} {o : Option Out2} (h : saysTrue rs o = true) : ∃ T H, o = some (.go .ret T H) ∧ resOf2 T H rs = some (.bool true) := by
  unfold saysTrue at h
  split at h
  · rename_i T H
    split at h
    · rename_i b hb
      subst h
      exact ⟨T, H, rfl, hb⟩
    · cases h
  · cases h

theorem rest_run {c1 : Call} {c2 : Call2} (C : CallSim c1 c2) {lf : Nat} {y : PC} {rs : List IRes} {T : List AV} {H : Hp} (h : saysTrue rs (run2 c2 lf y (fill T .leaf 0) H.conv) = true) :
    ∃ T' H', run c1 lf y T H = some (.go .ret T' H') ∧ resOf T' H' rs = some (.bool true) := by
  obtain ⟨T2, H2, h1, h2⟩ := saysTrue_spec h
  obtain ⟨o1, q1, q2⟩ := run2_sim C lf y (fill_simT T) (conv_sim H) h1
  cases o1 with
  | go x T1 H1 =>
    obtain ⟨rfl, q3, q4⟩ := q2
    exact ⟨T1, H1, q1, resOf2_sim q3 q4 h2⟩
  | pan v H1 => exact q2.elim

/-- The residue that a law takes. -/
def res (n : Int) (m : Int) : Int := (IntKind.i64.wrap n).tmod m

theorem res_eq {n m : Int} (h0 : 0 ≤ n) (h1 : n < 256) (hm : 0 < m) : 0 ≤ res n m ∧ res n m < m := by
  have hw : IntKind.i64.wrap n = n := by
    have e : n % (2 ^ IntKind.i64.bits : Int) = n := by
      show n % (18446744073709551616 : Int) = n
      omega
    unfold IntKind.wrap
    rw [e]
    have h2 : ¬ (n ≥ (2 ^ (IntKind.i64.bits - 1) : Int)) := by
      show ¬ (n ≥ (9223372036854775808 : Int))
      omega
    simp [h2]
  unfold res
  rw [hw]
  exact ⟨Int.tmod_nonneg _ h0, Int.tmod_lt_of_pos _ hm⟩

theorem frame_tr {G : Nat} {μ : Mu} {args : List AV} {vs : Array Value} (h : VRs G μ args vs.toList) (n : Nat) : TR G μ (pad args n) (vs ++ Array.replicate (n - vs.size) undef) := by
  refine TR.of_vrs ?_
  unfold pad
  have h2 : args.length = vs.size := by simpa using h.length
  rw [h2]
  have := h.append (VRs.replicate (G := G) (μ := μ) undef (n - vs.size))
  simpa using this
end Ev
