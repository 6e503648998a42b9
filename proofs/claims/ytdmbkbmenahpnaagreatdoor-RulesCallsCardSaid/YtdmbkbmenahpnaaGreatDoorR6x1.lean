/- RulesCalls: the rest at some residues. -/
import Derived.Test.YtdmbkbmenahpnaaGreatDoorW6
set_option maxRecDepth 1000000
namespace Go.Proofs.YtdmbkbmenahpnaaGreatDoor
open Ev Ev.R5 Go.RowKit
theorem rest6_3 : rest6 3 = true := by kernel_rfl
theorem rest6_4 : rest6 4 = true := by kernel_rfl
theorem rest6_5 : rest6 5 = true := by kernel_rfl
end Go.Proofs.YtdmbkbmenahpnaaGreatDoor
