/- RulesScopes: the rest at some residues. -/
import Derived.Test.YtdmbkbmenahpnaaGreatDoorW4
set_option maxRecDepth 1000000
namespace Go.Proofs.YtdmbkbmenahpnaaGreatDoor
open Ev Ev.R5 Go.RowKit
theorem rest4_0 : rest4 0 = true := by kernel_rfl
theorem rest4_1 : rest4 1 = true := by kernel_rfl
theorem rest4_2 : rest4 2 = true := by kernel_rfl
theorem rest4_3 : rest4 3 = true := by kernel_rfl
theorem rest4_4 : rest4 4 = true := by kernel_rfl
theorem rest4_5 : rest4 5 = true := by kernel_rfl
end Go.Proofs.YtdmbkbmenahpnaaGreatDoor
