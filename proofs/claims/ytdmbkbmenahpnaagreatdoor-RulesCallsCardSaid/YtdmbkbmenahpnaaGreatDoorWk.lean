/- Pieces of a body. -/
import Derived.Test.YtdmbkbmenahpnaaGreatDoorVq
namespace Go.Proofs.YtdmbkbmenahpnaaGreatDoor
open Ev
def cl : Code → Code | .seq a _ => a | c => c
def cr : Code → Code | .seq _ b => b | c => c
def pl : PC → PC | .seq a _ => a | c => c
def pr : PC → PC | .seq _ b => b | c => c
def noCall : Ev.Call := fun _ _ _ => none

def ofGo : Option Out → List AV × Hp
  | some (.go .norm T H) => (T, H)
  | _ => ([], hp0)
end Go.Proofs.YtdmbkbmenahpnaaGreatDoor
