/- RulesScopes: the walk as far as the argument goes. -/
import Derived.Test.YtdmbkbmenahpnaaGreatDoorAw5
import Derived.Test.YtdmbkbmenahpnaaGreatDoorWk
set_option maxRecDepth 1000000
set_option linter.unusedVariables false
namespace Go.Proofs.YtdmbkbmenahpnaaGreatDoor
open Ev Ev.R5 Go.RowKit
noncomputable def b4 : Code := (Tryz.f4.body).getD .skip
theorem b4_body : Tryz.f4.body = some b4 := by kernel_rfl
theorem b4_shape : b4 = .seq (cl b4) (.seq (cl (cr b4)) (.seq (cl (cr (cr b4))) (.seq (cl (cr (cr (cr b4)))) ((cr (cr (cr (cr b4)))))))) := by kernel_rfl
theorem c4_0 : cCode Tryz.prog (cl b4) = some (pl i4.body) := by kernel_rfl
theorem c4_1 : cCode Tryz.prog (cl (cr b4)) = some (pl (pr i4.body)) := by kernel_rfl
theorem c4_2 : cCode Tryz.prog (cl (cr (cr b4))) = some (pl (pr (pr i4.body))) := by kernel_rfl
theorem c4_3 : cCode Tryz.prog (cl (cr (cr (cr b4)))) = some (pl (pr (pr (pr i4.body)))) := by kernel_rfl
theorem c4_4 : cCode Tryz.prog (cr (cr (cr (cr b4)))) = some (pr (pr (pr (pr i4.body)))) := by kernel_rfl
theorem q4 : cResL Tryz.prog Tryz.f4.results.toList = some i4.results := by kernel_rfl
noncomputable def s4_0 (n : Int) : List AV × Hp := ofGo (run noCall 1 (pl i4.body) (pad [.int .u8 n] 67) hp0)
theorem r4_0 (call : Ev.Call) (lf : Nat) (n : Int) : run call lf (pl i4.body) (pad [.int .u8 n] 67) hp0 = some (.go .norm (s4_0 n).1 (s4_0 n).2) := by kernel_rfl
noncomputable def s4_1 (n : Int) : List AV × Hp := ofGo (run noCall 1 (pl (pr i4.body)) (s4_0 n).1 (s4_0 n).2)
theorem r4_1 (call : Ev.Call) (lf : Nat) (n : Int) : run call lf (pl (pr i4.body)) (s4_0 n).1 (s4_0 n).2 = some (.go .norm (s4_1 n).1 (s4_1 n).2) := by kernel_rfl
noncomputable def s4_2 (n : Int) : List AV × Hp := ofGo (run noCall 1 (pl (pr (pr i4.body))) (s4_1 n).1 (s4_1 n).2)
theorem r4_2 (call : Ev.Call) (lf : Nat) (n : Int) : run call lf (pl (pr (pr i4.body))) (s4_1 n).1 (s4_1 n).2 = some (.go .norm (s4_2 n).1 (s4_2 n).2) := by kernel_rfl
noncomputable def s4_3 (n : Int) : List AV × Hp := ofGo (run noCall 1 (pl (pr (pr (pr i4.body)))) (s4_2 n).1 (s4_2 n).2)
theorem r4_3 (call : Ev.Call) (lf : Nat) (n : Int) : run call lf (pl (pr (pr (pr i4.body)))) (s4_2 n).1 (s4_2 n).2 = some (.go .norm (s4_3 n).1 (s4_3 n).2) := by kernel_rfl
theorem h4 (n : Int) : (s4_3 n).2 = (s4_3 0).2 := by kernel_rfl
theorem t4 (n : Int) : (s4_3 n).1 = (((((s4_3 0).1.set 0 (.int .u8 n)).set 12 (.int .u8 n)).set 13 (.int .i64 (IntKind.i64.wrap n))).set 16 (.int .i64 (res n 11))).set 5 (.int .i64 (res n 11)) := by kernel_rfl
noncomputable def w4 (r : Int) : List AV := (((((s4_3 0).1.set 0 .any).set 12 .any).set 13 .any).set 16 (.int .i64 r)).set 5 (.int .i64 r)
theorem weak4 (n : Int) : Weaker (w4 (res n 11)) (s4_3 n).1 := by
  rw [t4]
  exact (((((Weaker.refl _).any 0 _).any 12 _).any 13 _).set 16 _).set 5 _
noncomputable def rest4 (r : Int) : Bool := saysTrue i4.results (run2 (evalF2 fns primA2 100000 59) 100000 (pr (pr (pr (pr i4.body)))) (fill (w4 r) .leaf 0) (s4_3 0).2.conv)
end Go.Proofs.YtdmbkbmenahpnaaGreatDoor
