/- RulesWrites: the rest at some residues. -/
import Derived.Test.YtdmbkbmenahpnaaGreatDoorW5
set_option maxRecDepth 1000000
namespace Go.Proofs.YtdmbkbmenahpnaaGreatDoor
open Ev Ev.R5 Go.RowKit
theorem rest5_8 : rest5 8 = true := by kernel_rfl
theorem rest5_9 : rest5 9 = true := by kernel_rfl
theorem rest5_10 : rest5 10 = true := by kernel_rfl
theorem rest5_11 : rest5 11 = true := by kernel_rfl
end Go.Proofs.YtdmbkbmenahpnaaGreatDoor
