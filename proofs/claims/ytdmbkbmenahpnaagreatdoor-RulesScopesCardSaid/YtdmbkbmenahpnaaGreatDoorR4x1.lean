/- RulesScopes: the rest at some residues. -/
import Derived.Test.YtdmbkbmenahpnaaGreatDoorW4
set_option maxRecDepth 1000000
namespace Go.Proofs.YtdmbkbmenahpnaaGreatDoor
open Ev Ev.R5 Go.RowKit
theorem rest4_6 : rest4 6 = true := by kernel_rfl
theorem rest4_7 : rest4 7 = true := by kernel_rfl
theorem rest4_8 : rest4 8 = true := by kernel_rfl
theorem rest4_9 : rest4 9 = true := by kernel_rfl
theorem rest4_10 : rest4 10 = true := by kernel_rfl
end Go.Proofs.YtdmbkbmenahpnaaGreatDoor
