/- awake answers true, from any world in which errors.errorType holds what the text lays. -/
import Derived.Test.YtdmbkbmenahpnaaGreatDoorTo5
import Derived.Test.YtdmbkbmenahpnaaGreatDoorAs5d
import Derived.Test.YtdmbkbmenahpnaaGreatDoorFd5
import Derived.Test.YtdmbkbmenahpnaaGreatDoorIp5
import Derived.Test.YtdmbkbmenahpnaaGreatDoorVq
set_option maxRecDepth 1000000
set_option linter.unusedVariables false
namespace Go.Proofs.YtdmbkbmenahpnaaGreatDoor
open Ev Go.RowKit

def prim (f : Nat) : Option Prim :=
  match Nat.beq f 75 with
  | true => some (findPrim 11)
  | false => match Nat.beq f 151 with
    | true => some (inOldPrim 4)
    | false => match Nat.beq f 103 with
      | true => some (asPrim 152 155 150)
      | false => none
noncomputable def prim2 (f : Nat) : Option Prim2 :=
  match Nat.beq f 75 with
  | true => some (findPrim2 11)
  | false => match Nat.beq f 151 with
    | true => some (inOldPrim2 4)
    | false => match Nat.beq f 103 with
      | true => some (asPrim2 152 155 150)
      | false => none
/-- .. and awake. -/
def primA (f : Nat) : Option Prim := match Nat.beq f 9 with | true => some truePrim | false => prim f
noncomputable def primA2 (f : Nat) : Option Prim2 := match Nat.beq f 9 with | true => some truePrim2 | false => prim2 f

/-- errors.errorType holds what the text lays. -/
def Laid (w : World) : Prop := w.cell? ⟨0, 0, none⟩ = some (.iface 195 (.agg #[.pointer (some ⟨1, 123, none⟩)]))
theorem Laid.block {w : World} (h : Laid w) : ∃ cur e fr, w.heap[0]? = some (.cells cur e fr) := by
  unfold Laid World.cell? at h
  split at h
  · rename_i cur e fr hb; exact ⟨cur, e, fr, hb⟩
  · cases h

theorem prim_ok {w0 : World} (hg : Laid w0) : ∀ f p, prim f = some p → PrimOk Tryz.prog w0 f p := by
  intro f p h
  unfold prim at h
  split at h
  · rename_i hf
    injection h with h
    rw [← h, Nat.beq_eq.mp hf]
    exact find_ok
  · split at h
    · rename_i hf
      injection h with h
      rw [← h, Nat.beq_eq.mp hf]
      exact inOld_ok
    · split at h
      · rename_i hf
        injection h with h
        rw [← h, Nat.beq_eq.mp hf]
        exact as_ok hg
      · cases h

theorem prim_sim : (∀ f p2, prim2 f = some p2 → ∃ p1, prim f = some p1 ∧ PrimSim p1 p2) ∧ ∀ f, prim2 f = none → prim f = none := by
  constructor
  · intro f p2 h
    unfold prim2 at h
    unfold prim
    cases h1 : Nat.beq f 75 with
    | true =>
      rw [h1] at h
      injection h with h
      exact ⟨_, rfl, h ▸ find2_sim 11⟩
    | false =>
      rw [h1] at h
      simp only at h ⊢
      cases h2 : Nat.beq f 151 with
      | true =>
        rw [h2] at h
        injection h with h
        exact ⟨_, rfl, h ▸ inOld2_sim 4⟩
      | false =>
        rw [h2] at h
        simp only at h ⊢
        cases h3 : Nat.beq f 103 with
        | true =>
          rw [h3] at h
          injection h with h
          exact ⟨_, rfl, h ▸ as2_sim 152 155 150⟩
        | false =>
          rw [h3] at h
          cases h
  · intro f h
    unfold prim2 at h
    unfold prim
    cases h1 : Nat.beq f 75 <;> rw [h1] at h <;> simp only at h ⊢ <;> (try (cases h; done))
    cases h2 : Nat.beq f 151 <;> rw [h2] at h <;> simp only at h ⊢ <;> (try (cases h; done))
    cases h3 : Nat.beq f 103 <;> rw [h3] at h <;> simp only at h ⊢ <;> (try (cases h; done))

def isTrue2 : Option (CR × Hp2) → Bool
  | some (.ret (.bool b), _) => b
  | _ => false
theorem isTrue2_spec {x : Option (CR × Hp2)} (h : isTrue2 x = true) : ∃ H, x = some (.ret (.bool true), H) := by
  unfold isTrue2 at h
  split at h
  · subst h; exact ⟨_, rfl⟩
  · cases h

theorem aw2 : isTrue2 (evalF2 fns prim2 100000 60 9 [] hp20) = true := by kernel_rfl

theorem mix : Tryz.prog.follows .mixedOrders = true := by kernel_rfl

theorem awake_true (w : World) (hg : Laid w) : SaysTrue Tryz.prog 9 #[] w := by
  obtain ⟨H2, h2⟩ := isTrue2_spec aw2
  obtain ⟨H1, h1, _⟩ := evalF2_sim prim_sim.1 prim_sim.2 100000 60 9 [] hp0 hp20 _ _ sim0 h2
  exact says_of_cpost ((evalF_sound mix fns_ok (prim_ok hg) 100000 60).1 9 [] hp0 _ _ h1 mu0 w [] (start_rel gsz hg.block) .nil)

theorem primA_ok {w0 : World} (hg : Laid w0) : ∀ f p, primA f = some p → PrimOk Tryz.prog w0 f p := by
  intro f p h
  unfold primA at h
  split at h
  · rename_i hf
    injection h with h
    rw [← h, Nat.beq_eq.mp hf]
    exact true_ok fun w hold _ => awake_true w (World.cell_old hold hg)
  · exact prim_ok hg f p h

theorem primA_sim : (∀ f p2, primA2 f = some p2 → ∃ p1, primA f = some p1 ∧ PrimSim p1 p2) ∧ ∀ f, primA2 f = none → primA f = none := by
  constructor
  · intro f p2 h
    unfold primA2 at h
    unfold primA
    cases h1 : Nat.beq f 9 with
    | true =>
      rw [h1] at h
      injection h with h
      exact ⟨_, rfl, h ▸ true2_sim⟩
    | false =>
      rw [h1] at h
      exact prim_sim.1 f p2 h
  · intro f h
    unfold primA2 at h
    unfold primA
    cases h1 : Nat.beq f 9 with
    | true => rw [h1] at h; cases h
    | false => rw [h1] at h; exact prim_sim.2 f h
end Go.Proofs.YtdmbkbmenahpnaaGreatDoor
