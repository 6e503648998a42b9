/- RulesWrites: the rest at some residues. -/
import Derived.Test.YtdmbkbmenahpnaaGreatDoorW5
set_option maxRecDepth 1000000
namespace Go.Proofs.YtdmbkbmenahpnaaGreatDoor
open Ev Ev.R5 Go.RowKit
theorem rest5_4 : rest5 4 = true := by kernel_rfl
theorem rest5_5 : rest5 5 = true := by kernel_rfl
theorem rest5_6 : rest5 6 = true := by kernel_rfl
theorem rest5_7 : rest5 7 = true := by kernel_rfl
end Go.Proofs.YtdmbkbmenahpnaaGreatDoor
