/- A part of the proof: As5d. -/
import Derived.Test.YtdmbkbmenahpnaaGreatDoorAs5b
import Derived.Test.YtdmbkbmenahpnaaGreatDoorVp
set_option linter.unusedVariables false
set_option maxRecDepth 100000
namespace Go.Proofs.YtdmbkbmenahpnaaGreatDoor
open Ev
/-- What errors.As leaves. -/
theorem as_ok {w0 : World} (hg : w0.cell? ⟨0, 0, none⟩ = some (.iface 195 (.agg #[.pointer (some ⟨1, 123, none⟩)]))) : PrimOk Tryz.prog w0 103 (asPrim 152 155 150) := by
  intro call _ _ args H r H' h
  have hbody : ∃ c, (Tryz.f103).body = some c := ⟨_, rfl⟩
  obtain ⟨c, hb⟩ := hbody
  have enter := fun {w : World} {args : Array Value} {Q : Ending → World → Prop} (hq : Calls Tryz.prog 103 args w Q) => FuncAt.of_calls Tryz.func103 hb (by kernel_rfl) hq
  unfold asPrim at h
  split at h
  · rename_i x
    injection h with h; injection h with h1 h2; subst h1; subst h2
    refine ⟨Dom.refl _, fun μ w vs R hvs => ?_⟩
    cases hvs with
    | cons ha hs =>
      cases hs with
      | cons hx hs =>
        cases hs
        cases ha
        rename_i v
        refine enter (Calls.mono (as_nil v w) ?_)
        rintro e w' ⟨rfl, rfl⟩
        exact ⟨μ, Ext.refl μ, NewIds.refl H μ, R, .bool false⟩
  · rename_i t id g i t' id' g' i'
    split at h
    case isFalse => cases h
    rename_i ht
    obtain ⟨rfl, rfl⟩ := ht
    split at h
    case h_2 => cases h
    rename_i t2 pa pb pc hl
    split at h
    case isFalse => cases h
    rename_i ht2
    subst ht2
    split at h
    case h_2 => cases h
    rename_i H1 hs
    injection h with h; injection h with h1 h2; subst h1; subst h2
    refine ⟨Dom.store hs, fun μ w vs R hvs => ?_⟩
    cases hvs with
    | cons ha hvs =>
      cases hvs with
      | cons hx hvs =>
        cases hvs
        cases ha
        rename_i v1 hv1
        cases hx
        rename_i v2 hv2
        cases hv1
        rename_i L1 hL1
        cases hv2
        rename_i L2 hL2
        obtain ⟨u, hu, hur⟩ := R.cell hl hL1
        cases hur
        rename_i u2 hu2
        have hu2' := hu2
        cases hu2
        rename_i L3 hL3
        obtain ⟨⟨old, hold⟩, hfz, _⟩ := R.setOne hs hL2 hu2'
        refine enter (Calls.mono (as_hit L1.blk (L1.base + i) ⟨L3.blk, L3.base + pc, none⟩ ⟨L2.blk, L2.base + i', none⟩ old w (World.cell_old R.old hg) hu hold hfz) ?_)
        rintro e w' ⟨rfl, rfl⟩
        refine ⟨μ, Ext.refl μ, NewIds.refl H μ, ?_, .bool true⟩
        exact (Rel.setOne ((((R.alloc _).alloc _).alloc _).alloc _) hs hL2 hu2').2.2
  · cases h
end Go.Proofs.YtdmbkbmenahpnaaGreatDoor
