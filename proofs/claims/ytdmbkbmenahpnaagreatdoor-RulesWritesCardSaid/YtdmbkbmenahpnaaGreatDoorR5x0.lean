/- RulesWrites: the rest at some residues. -/
import Derived.Test.YtdmbkbmenahpnaaGreatDoorW5
set_option maxRecDepth 1000000
namespace Go.Proofs.YtdmbkbmenahpnaaGreatDoor
open Ev Ev.R5 Go.RowKit
theorem rest5_0 : rest5 0 = true := by kernel_rfl
theorem rest5_1 : rest5 1 = true := by kernel_rfl
theorem rest5_2 : rest5 2 = true := by kernel_rfl
theorem rest5_3 : rest5 3 = true := by kernel_rfl
end Go.Proofs.YtdmbkbmenahpnaaGreatDoor
