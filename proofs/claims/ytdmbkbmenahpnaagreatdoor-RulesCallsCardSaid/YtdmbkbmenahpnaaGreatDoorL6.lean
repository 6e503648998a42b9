/- RulesCalls: it says true at every argument. -/
import Derived.Test.YtdmbkbmenahpnaaGreatDoorR6x0
import Derived.Test.YtdmbkbmenahpnaaGreatDoorR6x1
import Derived.Test.YtdmbkbmenahpnaaGreatDoorR6x2
import Derived.Test.YtdmbkbmenahpnaaGreatDoorR6x3
set_option maxRecDepth 1000000
set_option linter.unusedVariables false
namespace Go.Proofs.YtdmbkbmenahpnaaGreatDoor
open Ev Ev.R5 Go.RowKit
theorem rest6_all {r : Int} (h0 : 0 ≤ r) (h1 : r < 12) : rest6 r = true := by
  have h : r = 0 ∨ r = 1 ∨ r = 2 ∨ r = 3 ∨ r = 4 ∨ r = 5 ∨ r = 6 ∨ r = 7 ∨ r = 8 ∨ r = 9 ∨ r = 10 ∨ r = 11 := by omega
  rcases h with rfl | rfl | rfl | rfl | rfl | rfl | rfl | rfl | rfl | rfl | rfl | rfl
  · exact rest6_0
  · exact rest6_1
  · exact rest6_2
  · exact rest6_3
  · exact rest6_4
  · exact rest6_5
  · exact rest6_6
  · exact rest6_7
  · exact rest6_8
  · exact rest6_9
  · exact rest6_10
  · exact rest6_11

theorem frame6 (n : Int) : TR Tryz.prog.globals.size mu0 (pad [.int .u8 n] 70) (#[Value.int .u8 n] ++ Array.replicate (Tryz.f6.ntmps - (#[Value.int .u8 n]).size) undef) := by
  have e : Tryz.f6.ntmps = 70 := by kernel_rfl
  rw [e]
  exact frame_tr (vs := #[Value.int .u8 n]) (.cons (.int _ _) .nil) 70

theorem body6 (w : World) (hg : Laid w) (n : Int) {T' : List AV} {H' : Hp} (hrun : run (evalF fns primA 100000 59) 100000 (pr (pr (pr (pr (pr i6.body))))) (w6 (res n 12)) (s6_4 0).2 = some (Out.go Ex.ret T' H')) (a : Act)
    (hT : TR Tryz.prog.globals.size mu0 (pad [.int .u8 n] 70) a.tmps) : b6.wp Tryz.prog (ORel Tryz.prog w mu0 hp0 a.defers (.go .ret T' H')) a w := by
  have hE := evalF_sound (w0 := w) mix fns_ok (primA_ok hg) 100000 59
  rw [b6_shape]
  refine seq_weak mix hE.1 hE.2 c6_0 (start_rel gsz hg.block) hT (r6_0 _ 100000 n) (Weaker.refl _) fun {μ1 w1 a1} R1 T1 => ?_
  refine seq_weak mix hE.1 hE.2 c6_1 R1 T1 (r6_1 _ 100000 n) (Weaker.refl _) fun {μ2 w2 a2} R2 T2 => ?_
  refine seq_weak mix hE.1 hE.2 c6_2 R2 T2 (r6_2 _ 100000 n) (Weaker.refl _) fun {μ3 w3 a3} R3 T3 => ?_
  refine seq_weak mix hE.1 hE.2 c6_3 R3 T3 (r6_3 _ 100000 n) (Weaker.refl _) fun {μ4 w4 a4} R4 T4 => ?_
  refine seq_weak mix hE.1 hE.2 c6_4 R4 T4 (r6_4 _ 100000 n) (weak6 n) fun {μ5 w5 a5} R5 T5 => ?_
  rw [h6 n] at R5 ⊢
  exact code_sound mix hE.1 hE.2 _ _ c6_5 R5 T5 hrun

theorem calls_true (w : World) (hg : Laid w) (n : Int) (h0 : 0 ≤ n) (h1 : n < 256) : SaysTrue Tryz.prog 6 #[.int .u8 n] w := by
  have hS := evalF2_sim (fns := fns) primA_sim.1 primA_sim.2 100000 59
  have hr := rest6_all (res_eq h0 h1 (m := 12) (by decide)).1 (res_eq h0 h1 (m := 12) (by decide)).2
  obtain ⟨T', H', hrun, hres⟩ := rest_run hS hr
  exact says_of_wp (μ := mu0) (H := hp0) Tryz.func6 b6_body (by kernel_rfl) q6 (x := .ret) (.inr rfl) hres (body6 w hg n hrun { tmps := #[Value.int .u8 n] ++ Array.replicate (Tryz.f6.ntmps - (#[Value.int .u8 n]).size) undef, defers := [] } (frame6 n))
end Go.Proofs.YtdmbkbmenahpnaaGreatDoor
