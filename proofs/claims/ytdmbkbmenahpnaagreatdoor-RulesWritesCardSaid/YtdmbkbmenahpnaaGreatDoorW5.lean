/- RulesWrites: the walk as far as the argument goes. -/
import Derived.Test.YtdmbkbmenahpnaaGreatDoorAw5
import Derived.Test.YtdmbkbmenahpnaaGreatDoorWk
set_option maxRecDepth 1000000
set_option linter.unusedVariables false
namespace Go.Proofs.YtdmbkbmenahpnaaGreatDoor
open Ev Ev.R5 Go.RowKit
noncomputable def b5 : Code := (Tryz.f5.body).getD .skip
theorem b5_body : Tryz.f5.body = some b5 := by kernel_rfl
theorem b5_shape : b5 = .seq (cl b5) (.seq (cl (cr b5)) (.seq (cl (cr (cr b5))) (.seq (cl (cr (cr (cr b5)))) (.seq (cl (cr (cr (cr (cr b5))))) ((cr (cr (cr (cr (cr b5)))))))))) := by kernel_rfl
theorem c5_0 : cCode Tryz.prog (cl b5) = some (pl i5.body) := by kernel_rfl
theorem c5_1 : cCode Tryz.prog (cl (cr b5)) = some (pl (pr i5.body)) := by kernel_rfl
theorem c5_2 : cCode Tryz.prog (cl (cr (cr b5))) = some (pl (pr (pr i5.body))) := by kernel_rfl
theorem c5_3 : cCode Tryz.prog (cl (cr (cr (cr b5)))) = some (pl (pr (pr (pr i5.body)))) := by kernel_rfl
theorem c5_4 : cCode Tryz.prog (cl (cr (cr (cr (cr b5))))) = some (pl (pr (pr (pr (pr i5.body))))) := by kernel_rfl
theorem c5_5 : cCode Tryz.prog (cr (cr (cr (cr (cr b5))))) = some (pr (pr (pr (pr (pr i5.body))))) := by kernel_rfl
theorem q5 : cResL Tryz.prog Tryz.f5.results.toList = some i5.results := by kernel_rfl
noncomputable def s5_0 (n : Int) : List AV × Hp := ofGo (run noCall 1 (pl i5.body) (pad [.int .u8 n] 68) hp0)
theorem r5_0 (call : Ev.Call) (lf : Nat) (n : Int) : run call lf (pl i5.body) (pad [.int .u8 n] 68) hp0 = some (.go .norm (s5_0 n).1 (s5_0 n).2) := by kernel_rfl
noncomputable def s5_1 (n : Int) : List AV × Hp := ofGo (run noCall 1 (pl (pr i5.body)) (s5_0 n).1 (s5_0 n).2)
theorem r5_1 (call : Ev.Call) (lf : Nat) (n : Int) : run call lf (pl (pr i5.body)) (s5_0 n).1 (s5_0 n).2 = some (.go .norm (s5_1 n).1 (s5_1 n).2) := by kernel_rfl
noncomputable def s5_2 (n : Int) : List AV × Hp := ofGo (run noCall 1 (pl (pr (pr i5.body))) (s5_1 n).1 (s5_1 n).2)
theorem r5_2 (call : Ev.Call) (lf : Nat) (n : Int) : run call lf (pl (pr (pr i5.body))) (s5_1 n).1 (s5_1 n).2 = some (.go .norm (s5_2 n).1 (s5_2 n).2) := by kernel_rfl
noncomputable def s5_3 (n : Int) : List AV × Hp := ofGo (run noCall 1 (pl (pr (pr (pr i5.body)))) (s5_2 n).1 (s5_2 n).2)
theorem r5_3 (call : Ev.Call) (lf : Nat) (n : Int) : run call lf (pl (pr (pr (pr i5.body)))) (s5_2 n).1 (s5_2 n).2 = some (.go .norm (s5_3 n).1 (s5_3 n).2) := by kernel_rfl
noncomputable def s5_4 (n : Int) : List AV × Hp := ofGo (run noCall 1 (pl (pr (pr (pr (pr i5.body))))) (s5_3 n).1 (s5_3 n).2)
theorem r5_4 (call : Ev.Call) (lf : Nat) (n : Int) : run call lf (pl (pr (pr (pr (pr i5.body))))) (s5_3 n).1 (s5_3 n).2 = some (.go .norm (s5_4 n).1 (s5_4 n).2) := by kernel_rfl
theorem h5 (n : Int) : (s5_4 n).2 = (s5_4 0).2 := by kernel_rfl
theorem t5 (n : Int) : (s5_4 n).1 = (((((s5_4 0).1.set 0 (.int .u8 n)).set 13 (.int .u8 n)).set 14 (.int .i64 (IntKind.i64.wrap n))).set 17 (.int .i64 (res n 12))).set 6 (.int .i64 (res n 12)) := by kernel_rfl
noncomputable def w5 (r : Int) : List AV := (((((s5_4 0).1.set 0 .any).set 13 .any).set 14 .any).set 17 (.int .i64 r)).set 6 (.int .i64 r)
theorem weak5 (n : Int) : Weaker (w5 (res n 12)) (s5_4 n).1 := by
  rw [t5]
  exact (((((Weaker.refl _).any 0 _).any 13 _).any 14 _).set 17 _).set 6 _
noncomputable def rest5 (r : Int) : Bool := saysTrue i5.results (run2 (evalF2 fns primA2 100000 59) 100000 (pr (pr (pr (pr (pr i5.body))))) (fill (w5 r) .leaf 0) (s5_4 0).2.conv)
end Go.Proofs.YtdmbkbmenahpnaaGreatDoor
