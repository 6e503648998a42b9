/- RulesCalls: the walk as far as the argument goes. -/
import Derived.Test.YtdmbkbmenahpnaaGreatDoorAw5
import Derived.Test.YtdmbkbmenahpnaaGreatDoorWk
set_option maxRecDepth 1000000
set_option linter.unusedVariables false
namespace Go.Proofs.YtdmbkbmenahpnaaGreatDoor
open Ev Ev.R5 Go.RowKit
noncomputable def b6 : Code := (Tryz.f6.body).getD .skip
theorem b6_body : Tryz.f6.body = some b6 := by kernel_rfl
theorem b6_shape : b6 = .seq (cl b6) (.seq (cl (cr b6)) (.seq (cl (cr (cr b6))) (.seq (cl (cr (cr (cr b6)))) (.seq (cl (cr (cr (cr (cr b6))))) ((cr (cr (cr (cr (cr b6)))))))))) := by kernel_rfl
theorem c6_0 : cCode Tryz.prog (cl b6) = some (pl i6.body) := by kernel_rfl
theorem c6_1 : cCode Tryz.prog (cl (cr b6)) = some (pl (pr i6.body)) := by kernel_rfl
theorem c6_2 : cCode Tryz.prog (cl (cr (cr b6))) = some (pl (pr (pr i6.body))) := by kernel_rfl
theorem c6_3 : cCode Tryz.prog (cl (cr (cr (cr b6)))) = some (pl (pr (pr (pr i6.body)))) := by kernel_rfl
theorem c6_4 : cCode Tryz.prog (cl (cr (cr (cr (cr b6))))) = some (pl (pr (pr (pr (pr i6.body))))) := by kernel_rfl
theorem c6_5 : cCode Tryz.prog (cr (cr (cr (cr (cr b6))))) = some (pr (pr (pr (pr (pr i6.body))))) := by kernel_rfl
theorem q6 : cResL Tryz.prog Tryz.f6.results.toList = some i6.results := by kernel_rfl
noncomputable def s6_0 (n : Int) : List AV × Hp := ofGo (run noCall 1 (pl i6.body) (pad [.int .u8 n] 70) hp0)
theorem r6_0 (call : Ev.Call) (lf : Nat) (n : Int) : run call lf (pl i6.body) (pad [.int .u8 n] 70) hp0 = some (.go .norm (s6_0 n).1 (s6_0 n).2) := by kernel_rfl
noncomputable def s6_1 (n : Int) : List AV × Hp := ofGo (run noCall 1 (pl (pr i6.body)) (s6_0 n).1 (s6_0 n).2)
theorem r6_1 (call : Ev.Call) (lf : Nat) (n : Int) : run call lf (pl (pr i6.body)) (s6_0 n).1 (s6_0 n).2 = some (.go .norm (s6_1 n).1 (s6_1 n).2) := by kernel_rfl
noncomputable def s6_2 (n : Int) : List AV × Hp := ofGo (run noCall 1 (pl (pr (pr i6.body))) (s6_1 n).1 (s6_1 n).2)
theorem r6_2 (call : Ev.Call) (lf : Nat) (n : Int) : run call lf (pl (pr (pr i6.body))) (s6_1 n).1 (s6_1 n).2 = some (.go .norm (s6_2 n).1 (s6_2 n).2) := by kernel_rfl
noncomputable def s6_3 (n : Int) : List AV × Hp := ofGo (run noCall 1 (pl (pr (pr (pr i6.body)))) (s6_2 n).1 (s6_2 n).2)
theorem r6_3 (call : Ev.Call) (lf : Nat) (n : Int) : run call lf (pl (pr (pr (pr i6.body)))) (s6_2 n).1 (s6_2 n).2 = some (.go .norm (s6_3 n).1 (s6_3 n).2) := by kernel_rfl
noncomputable def s6_4 (n : Int) : List AV × Hp := ofGo (run noCall 1 (pl (pr (pr (pr (pr i6.body))))) (s6_3 n).1 (s6_3 n).2)
theorem r6_4 (call : Ev.Call) (lf : Nat) (n : Int) : run call lf (pl (pr (pr (pr (pr i6.body))))) (s6_3 n).1 (s6_3 n).2 = some (.go .norm (s6_4 n).1 (s6_4 n).2) := by kernel_rfl
theorem h6 (n : Int) : (s6_4 n).2 = (s6_4 0).2 := by kernel_rfl
theorem t6 (n : Int) : (s6_4 n).1 = (((((s6_4 0).1.set 0 (.int .u8 n)).set 13 (.int .u8 n)).set 14 (.int .i64 (IntKind.i64.wrap n))).set 17 (.int .i64 (res n 12))).set 6 (.int .i64 (res n 12)) := by kernel_rfl
noncomputable def w6 (r : Int) : List AV := (((((s6_4 0).1.set 0 .any).set 13 .any).set 14 .any).set 17 (.int .i64 r)).set 6 (.int .i64 r)
theorem weak6 (n : Int) : Weaker (w6 (res n 12)) (s6_4 n).1 := by
  rw [t6]
  exact (((((Weaker.refl _).any 0 _).any 13 _).any 14 _).set 17 _).set 6 _
noncomputable def rest6 (r : Int) : Bool := saysTrue i6.results (run2 (evalF2 fns primA2 100000 59) 100000 (pr (pr (pr (pr (pr i6.body))))) (fill (w6 r) .leaf 0) (s6_4 0).2.conv)
end Go.Proofs.YtdmbkbmenahpnaaGreatDoor
