/- A part of the proof: As5b. -/
import Derived.Test.YtdmbkbmenahpnaaGreatDoorAs5
namespace Go.Proofs.YtdmbkbmenahpnaaGreatDoor
open Go.RowKit Go.Extern.Stop Go.Stop Go.Extern
theorem noAs155 (v : Value) (xT : TypeId) (w : World) : (Instr.typeAssert (.iface 155 v) xT 200 true).run Tryz.prog w = .ok (.tuple #[.nilIface, .bool false]) w :=
  run_typeAssert_lacksB Tryz.underlying200 (by kernel_rfl) (by kernel_rfl) v xT w
theorem unwraps155 (v : Value) (xT : TypeId) (w : World) : (Instr.typeAssert (.iface 155 v) xT 203 true).run Tryz.prog w = .ok (.tuple #[.iface 155 v, .bool true]) w :=
  run_typeAssert_hasB Tryz.underlying203 (by kernel_rfl) v xT w

theorem unwrap_law (pb po : Nat) (v : Value) (w : World) (hp : w.cell? ⟨pb, po + 1, none⟩ = some v) :
    Calls Tryz.prog 190 #[.pointer (some ⟨pb, po, none⟩)] w fun e w' => e = .returned v ∧ w' = w := by
  go_enter Tryz.func190, Tryz.ntmps190
  go_wp2
  go_ret
  exact ⟨rfl, rfl⟩

def madeW (w : World) (t e : Addr) : World :=
  ((((w.alloc (.cells #[.pointer (some t)] 152)).alloc (.cells #[.pointer (some ⟨1, 152, none⟩), .pointer (some ⟨w.heap.size, 0, none⟩), .int .u64 150] 176)).alloc (.cells #[.pointer (some ⟨1, 152, none⟩), .pointer (some ⟨w.heap.size, 0, none⟩), .int .u64 150] 176)).alloc (.cells #[.pointer (some e)] 150)).setCell t (.pointer (some e))

set_option maxRecDepth 10000 in
set_option maxHeartbeats 4000000 in
theorem as_hit (pb po : Nat) (e t : Addr) (old : Value) (w : World) (hg : w.cell? ⟨0, 0, none⟩ = some (.iface 195 (.agg #[.pointer (some ⟨1, 123, none⟩)]))) (hp : w.cell? ⟨pb, po + 1, none⟩ = some (.iface 150 (.pointer (some e))))
    (ht0 : w.cell? t = some old) (hf0 : w.frozen? t = false) :
    Calls Tryz.prog 103 #[.iface 155 (.pointer (some ⟨pb, po, none⟩)), .iface 152 (.pointer (some t))] w fun ev w' => ev = .returned (.bool true) ∧ w' = madeW w t e := by
  have h6 := @run_callFunc_extern Tryz.prog 125 _ (fun args => ReflectliteValue.unpack (args.getD 0 (.tuple #[]))) Tryz.func125 (by kernel_rfl) (by kernel_rfl) (by kernel_rfl) (by kernel_rfl)
  have h7 := @run_callFunc_extern Tryz.prog 126 _ (ReflectliteValue.methodAny (ReflectliteValue.valueError "reflectlite.Value.Type" 0) (fun t _ _ _ => ReflectliteType.toType t)) Tryz.func126 (by kernel_rfl) (by kernel_rfl) (by kernel_rfl) (by kernel_rfl)
  have h8 := @run_callFunc_extern Tryz.prog 127 _ (ReflectliteValue.method (ReflectliteValue.valueError "reflectlite.Value.IsNil" 0) ReflectliteValue.isNil) Tryz.func127 (by kernel_rfl) (by kernel_rfl) (by kernel_rfl) (by kernel_rfl)
  have h27 := @run_callFunc_extern Tryz.prog 185 _ (ReflectliteType.abiMethod fun t => do pure (.int .u8 (← Rtype.kind t))) Tryz.func185 (by kernel_rfl) (by kernel_rfl) (by kernel_rfl) (by kernel_rfl)
  have h37 := @run_callFunc_extern Tryz.prog 197 _ (ReflectliteType.method ReflectliteType.elem) Tryz.func197 (by kernel_rfl) (by kernel_rfl) (by kernel_rfl) (by kernel_rfl)
  have h38 := @run_callFunc_extern Tryz.prog 198 _ (ReflectliteType.relation "Implements" ReflectliteType.implements_) Tryz.func198 (by kernel_rfl) (by kernel_rfl) (by kernel_rfl) (by kernel_rfl)
  have h10 := @run_callFunc_extern Tryz.prog 148 _ ReflectliteType.typeOf Tryz.func148 (by kernel_rfl) (by kernel_rfl) (by kernel_rfl) (by kernel_rfl)
  have h35 := @run_callFunc_extern Tryz.prog 195 _ (ReflectliteType.relation "AssignableTo" ReflectliteType.assignableTo) Tryz.func195 (by kernel_rfl) (by kernel_rfl) (by kernel_rfl) (by kernel_rfl)
  have h11 := @run_callFunc_extern Tryz.prog 149 _ (ReflectliteValue.method (ReflectliteValue.valueError "reflectlite.Value.Elem" 0) ReflectliteValue.elem) Tryz.func149 (by kernel_rfl) (by kernel_rfl) (by kernel_rfl) (by kernel_rfl)
  have h12 := @run_callFunc_extern Tryz.prog 150 _ ReflectliteValue.set Tryz.func150 (by kernel_rfl) (by kernel_rfl) (by kernel_rfl) (by kernel_rfl)
  have tO := typeOf150
  have tO' := typeOf155
  have mA := methodAssignableTo
  have a25 := assignable150
  have a55 := assignable155
  have v25 := valueOf150
  have f6 := valueOf152
  have f7 := type152
  have mK := methodKind
  have mE := methodElem
  have mI := methodImplements
  have mU := methodUnwrap
  have k27 := kind152
  have k25 := kind150
  have e27 := elem152
  have i25 := implements150
  have nA := noAs155
  have yU := unwraps155
  have n8 := isNil152 ⟨w.heap.size, 0, none⟩ t ((w.alloc (.cells #[.pointer (some t)] 152)).alloc (.cells #[.pointer (some ⟨1, 152, none⟩), .pointer (some ⟨w.heap.size, 0, none⟩), .int .u64 150] 176)) (by simp)
  have hlt : 0 < w.heap.size := by
    rcases Nat.eq_zero_or_pos w.heap.size with h0 | h
    · simp [World.cell?, h0] at hg
    · exact h
  have hg2 : ((w.alloc (.cells #[.pointer (some t)] 152)).alloc (.cells #[.pointer (some ⟨1, 152, none⟩), .pointer (some ⟨w.heap.size, 0, none⟩), .int .u64 150] 176)).cell? ⟨0, 0, none⟩ = some (.iface 195 (.agg #[.pointer (some ⟨1, 123, none⟩)])) := by
    rw [World.cell?_alloc_lt _ _ ⟨0, 0, none⟩ (by simp), World.cell?_alloc_lt _ _ ⟨0, 0, none⟩ hlt]; exact hg
  have htl : t.block < w.heap.size := by
    rcases Nat.lt_or_ge t.block w.heap.size with h | h
    · exact h
    · simp [World.cell?, Array.getElem?_eq_none h] at ht0
  have hpl : pb < w.heap.size := by
    rcases Nat.lt_or_ge pb w.heap.size with h | h
    · exact h
    · simp [World.cell?, Array.getElem?_eq_none h] at hp
  have hp2 : (((w.alloc (.cells #[.pointer (some t)] 152)).alloc (.cells #[.pointer (some ⟨1, 152, none⟩), .pointer (some ⟨w.heap.size, 0, none⟩), .int .u64 150] 176)).alloc (.cells #[.pointer (some ⟨1, 152, none⟩), .pointer (some ⟨w.heap.size, 0, none⟩), .int .u64 150] 176)).cell? ⟨pb, po + 1, none⟩ = some (.iface 150 (.pointer (some e))) := by
    rw [World.cell?_alloc_lt _ _ _ (by simp; omega), World.cell?_alloc_lt _ _ _ (by simp; omega), World.cell?_alloc_lt _ _ _ hpl]; exact hp
  have el := elemV152 ⟨w.heap.size, 0, none⟩ t (((w.alloc (.cells #[.pointer (some t)] 152)).alloc (.cells #[.pointer (some ⟨1, 152, none⟩), .pointer (some ⟨w.heap.size, 0, none⟩), .int .u64 150] 176)).alloc (.cells #[.pointer (some ⟨1, 152, none⟩), .pointer (some ⟨w.heap.size, 0, none⟩), .int .u64 150] 176)) (by rw [World.cell?_alloc_lt _ _ ⟨w.heap.size, 0, none⟩ (by simp; omega)]; simp)
  have st := set150 t ⟨w.heap.size + 1 + 1 + 1, 0, none⟩ e old ((((w.alloc (.cells #[.pointer (some t)] 152)).alloc (.cells #[.pointer (some ⟨1, 152, none⟩), .pointer (some ⟨w.heap.size, 0, none⟩), .int .u64 150] 176)).alloc (.cells #[.pointer (some ⟨1, 152, none⟩), .pointer (some ⟨w.heap.size, 0, none⟩), .int .u64 150] 176)).alloc (.cells #[.pointer (some e)] 150))
    (by rw [World.cell?_alloc_at _ _ _ _ (by simp)]; rfl)
    (by rw [World.cell?_alloc_lt _ _ t (by simp; omega), World.cell?_alloc_lt _ _ t (by simp; omega), World.cell?_alloc_lt _ _ t (by simp; omega), World.cell?_alloc_lt _ _ t htl]; exact ht0)
    (by rw [World.frozen?_alloc_old _ _ t (by simp; omega), World.frozen?_alloc_old _ _ t (by simp; omega), World.frozen?_alloc_old _ _ t (by simp; omega), World.frozen?_alloc_old _ _ t (Nat.ne_of_lt htl)]; exact hf0)
  go_enter Tryz.func103, Tryz.ntmps103
  go_wp2
  refine wp_loop_rounds 2 ?_
  rw [rounds_succ]
  go_wp2
  rw [rounds_succ]
  go_wp2
  go_ret
  exact ⟨rfl, rfl⟩
end Go.Proofs.YtdmbkbmenahpnaaGreatDoor
