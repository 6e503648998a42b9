/- RulesCalls: the rest at some residues. -/
import Derived.Test.YtdmbkbmenahpnaaGreatDoorW6
set_option maxRecDepth 1000000
namespace Go.Proofs.YtdmbkbmenahpnaaGreatDoor
open Ev Ev.R5 Go.RowKit
theorem rest6_6 : rest6 6 = true := by kernel_rfl
theorem rest6_7 : rest6 7 = true := by kernel_rfl
theorem rest6_8 : rest6 8 = true := by kernel_rfl
end Go.Proofs.YtdmbkbmenahpnaaGreatDoor
