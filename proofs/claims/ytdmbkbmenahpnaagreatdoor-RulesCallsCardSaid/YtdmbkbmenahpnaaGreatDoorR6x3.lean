/- RulesCalls: the rest at some residues. -/
import Derived.Test.YtdmbkbmenahpnaaGreatDoorW6
set_option maxRecDepth 1000000
namespace Go.Proofs.YtdmbkbmenahpnaaGreatDoor
open Ev Ev.R5 Go.RowKit
theorem rest6_9 : rest6 9 = true := by kernel_rfl
theorem rest6_10 : rest6 10 = true := by kernel_rfl
theorem rest6_11 : rest6 11 = true := by kernel_rfl
end Go.Proofs.YtdmbkbmenahpnaaGreatDoor
