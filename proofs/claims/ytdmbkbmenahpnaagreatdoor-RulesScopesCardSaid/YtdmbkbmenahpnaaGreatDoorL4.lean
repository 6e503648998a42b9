/- RulesScopes: it says true at every argument. -/
import Derived.Test.YtdmbkbmenahpnaaGreatDoorR4x0
import Derived.Test.YtdmbkbmenahpnaaGreatDoorR4x1
set_option maxRecDepth 1000000
set_option linter.unusedVariables false
namespace Go.Proofs.YtdmbkbmenahpnaaGreatDoor
open Ev Ev.R5 Go.RowKit
theorem rest4_all {r : Int} (h0 : 0 ≤ r) (h1 : r < 11) : rest4 r = true := by
  have h : r = 0 ∨ r = 1 ∨ r = 2 ∨ r = 3 ∨ r = 4 ∨ r = 5 ∨ r = 6 ∨ r = 7 ∨ r = 8 ∨ r = 9 ∨ r = 10 := by omega
  rcases h with rfl | rfl | rfl | rfl | rfl | rfl | rfl | rfl | rfl | rfl | rfl
  · exact rest4_0
  · exact rest4_1
  · exact rest4_2
  · exact rest4_3
  · exact rest4_4
  · exact rest4_5
  · exact rest4_6
  · exact rest4_7
  · exact rest4_8
  · exact rest4_9
  · exact rest4_10

theorem frame4 (n : Int) : TR Tryz.prog.globals.size mu0 (pad [.int .u8 n] 67) (#[Value.int .u8 n] ++ Array.replicate (Tryz.f4.ntmps - (#[Value.int .u8 n]).size) undef) := by
  have e : Tryz.f4.ntmps = 67 := by kernel_rfl
  rw [e]
  exact frame_tr (vs := #[Value.int .u8 n]) (.cons (.int _ _) .nil) 67

theorem body4 (w : World) (hg : Laid w) (n : Int) {T' : List AV} {H' : Hp} (hrun : run (evalF fns primA 100000 59) 100000 (pr (pr (pr (pr i4.body)))) (w4 (res n 11)) (s4_3 0).2 = some (Out.go Ex.ret T' H')) (a : Act)
    (hT : TR Tryz.prog.globals.size mu0 (pad [.int .u8 n] 67) a.tmps) : b4.wp Tryz.prog (ORel Tryz.prog w mu0 hp0 a.defers (.go .ret T' H')) a w := by
  have hE := evalF_sound (w0 := w) mix fns_ok (primA_ok hg) 100000 59
  rw [b4_shape]
  refine seq_weak mix hE.1 hE.2 c4_0 (start_rel gsz hg.block) hT (r4_0 _ 100000 n) (Weaker.refl _) fun {μ1 w1 a1} R1 T1 => ?_
  refine seq_weak mix hE.1 hE.2 c4_1 R1 T1 (r4_1 _ 100000 n) (Weaker.refl _) fun {μ2 w2 a2} R2 T2 => ?_
  refine seq_weak mix hE.1 hE.2 c4_2 R2 T2 (r4_2 _ 100000 n) (Weaker.refl _) fun {μ3 w3 a3} R3 T3 => ?_
  refine seq_weak mix hE.1 hE.2 c4_3 R3 T3 (r4_3 _ 100000 n) (weak4 n) fun {μ4 w4 a4} R4 T4 => ?_
  rw [h4 n] at R4 ⊢
  exact code_sound mix hE.1 hE.2 _ _ c4_4 R4 T4 hrun

theorem scopes_true (w : World) (hg : Laid w) (n : Int) (h0 : 0 ≤ n) (h1 : n < 256) : SaysTrue Tryz.prog 4 #[.int .u8 n] w := by
  have hS := evalF2_sim (fns := fns) primA_sim.1 primA_sim.2 100000 59
  have hr := rest4_all (res_eq h0 h1 (m := 11) (by decide)).1 (res_eq h0 h1 (m := 11) (by decide)).2
  obtain ⟨T', H', hrun, hres⟩ := rest_run hS hr
  exact says_of_wp (μ := mu0) (H := hp0) Tryz.func4 b4_body (by kernel_rfl) q4 (x := .ret) (.inr rfl) hres (body4 w hg n hrun { tmps := #[Value.int .u8 n] ++ Array.replicate (Tryz.f4.ntmps - (#[Value.int .u8 n]).size) undef, defers := [] } (frame4 n))
end Go.Proofs.YtdmbkbmenahpnaaGreatDoor
