/- RulesCalls: the rest at some residues. -/
import Derived.Test.YtdmbkbmenahpnaaGreatDoorW6
set_option maxRecDepth 1000000
namespace Go.Proofs.YtdmbkbmenahpnaaGreatDoor
open Ev Ev.R5 Go.RowKit
theorem rest6_0 : rest6 0 = true := by kernel_rfl
theorem rest6_1 : rest6 1 = true := by kernel_rfl
theorem rest6_2 : rest6 2 = true := by kernel_rfl
end Go.Proofs.YtdmbkbmenahpnaaGreatDoor
