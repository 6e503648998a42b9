/-
  NARROWER THAN 'FOR EVERY INPUT', by the rows' own cells (each row's printed sentence says how): RulesMade: laid · RulesScopes: laid · RulesWrites: laid · RulesCalls: laid · RulesLayouts: laid · RulesTypes: laid.
  DERIVED. THE GIVEN ROWS OF THIS SEAT. 6 by the template 'for every input the law returns true; each argument reads behind the call as it read before'; 0 by the template 'total and deterministic' (their statements: YtdmbkbmenahpnaaGreatDoorTotals.lean).
  GIVEN WITH THE SEED: the statements are not yours to turn. If you find one false, say at which input.
  Laid BY PROGRAM, IN A SANDBOX (cutbox-rows.mjs): the forced cells as the released guide's own fill.sh prints them over the translation 8e533566f031e92c… (all of the seat's roots in one cut). By AI agents, Wed Nov 11 2026. No macro, syntax, notation, axiom, sorry.
-/
import Derived.Test.YtdmbkbmenahpnaaGreatDoorChecked
import GoSem.Claim
import GoSem.ClaimJoined
import GoSem.ClaimMapViews
import Derived.JoinedTies
import Derived.KernelRfl
namespace Go.Proofs.YtdmbkbmenahpnaaGreatDoor
/- THE CELL 'sum', in the pinned program and in every row, IS THE sha256 OF THE DUMP (.gsa) THAT YtdmbkbmenahpnaaGreatDoorProg.lean LOADS. Nothing in Lean hashes anything: it is a label: what it is worth is what the hold of that sum in a sandbox is worth. -/
noncomputable def Tryz.pinned : Pinned := { name := "ytdmbkbmenahpnaagreatdoor", sum := "8e533566f031e92cc37453bf2db55549870e294432c94cf0fb32bcd5db3f1c86", checked := Tryz.checked }
namespace Rows
def none {H : Type} : Left H := { results := [], args := [] }

/- WHAT THE LISTED PACKAGE-LEVEL VARIABLES READ AS WHEN THE CALL BEGINS. Each datum BY PROGRAM (the guide's laid-datum.mjs) off the statement by which the dump's own 'gosem.cut.vars' lays the variable. In a bare row this is a premise. The card (YtdmbkbmenahpnaaGreatDoorCards.lean) ties it to the program's text. -/
def laid_errors_errorType {H : Type} : DataW H := .iface "internal/reflectlite.rtype" (.agg [.ptr (.lit (.string [101, 114, 114, 111, 114]))])

/-- 'calliperlaw5.RulesMade': WHATEVER THE INPUT: true; the input reads as it did. -/
def rulesMadeSpec : ChangeSpec := { name := "rulesMade", fn := fun _ => fun
  | [d] => { results := [.lit (.bool true)], args := [d] }
  | _ => none }
def rulesMadeRow : OpenClaim := { program := "ytdmbkbmenahpnaagreatdoor", sum := "8e533566f031e92cc37453bf2db55549870e294432c94cf0fb32bcd5db3f1c86", func := "calliper/calliperlaw5.RulesMade", spec := "rulesMade", inPlace := ["internal/reflectlite.ValueOf", "(internal/reflectlite.Value).Type", "(internal/reflectlite.Value).IsNil", "internal/reflectlite.TypeOf", "(internal/reflectlite.Value).Elem", "(internal/reflectlite.Value).Set"], unfollowed := true, recurses := true, named := ["errors.errorType"], apart := false, laid := [("errors.errorType", laid_errors_errorType)] }
def RulesMadeSaid : Prop := rulesMadeRow.holds Tryz.pinned (OpenSpec.ofChange rulesMadeSpec)

/-- ITS FALSE NEIGHBOUR: 'it returns false'. Refute it at one input. -/
def rulesMadeWrong : ChangeSpec := { name := "rulesMade", fn := fun _ => fun
  | [d] => { results := [.lit (.bool false)], args := [d] }
  | _ => none }
def RulesMadeWrongFalsely : Prop := rulesMadeRow.holds Tryz.pinned (OpenSpec.ofChange rulesMadeWrong)

/-- 'calliperlaw5.RulesScopes': WHATEVER THE INPUT: true; the input reads as it did. -/
def rulesScopesSpec : ChangeSpec := { name := "rulesScopes", fn := fun _ => fun
  | [d] => { results := [.lit (.bool true)], args := [d] }
  | _ => none }
def rulesScopesRow : OpenClaim := { program := "ytdmbkbmenahpnaagreatdoor", sum := "8e533566f031e92cc37453bf2db55549870e294432c94cf0fb32bcd5db3f1c86", func := "calliper/calliperlaw5.RulesScopes", spec := "rulesScopes", inPlace := ["internal/reflectlite.ValueOf", "(internal/reflectlite.Value).Type", "(internal/reflectlite.Value).IsNil", "internal/reflectlite.TypeOf", "(internal/reflectlite.Value).Elem", "(internal/reflectlite.Value).Set"], unfollowed := true, recurses := true, named := ["errors.errorType"], apart := false, laid := [("errors.errorType", laid_errors_errorType)] }
def RulesScopesSaid : Prop := rulesScopesRow.holds Tryz.pinned (OpenSpec.ofChange rulesScopesSpec)

/-- ITS FALSE NEIGHBOUR: 'it returns false'. Refute it at one input. -/
def rulesScopesWrong : ChangeSpec := { name := "rulesScopes", fn := fun _ => fun
  | [d] => { results := [.lit (.bool false)], args := [d] }
  | _ => none }
def RulesScopesWrongFalsely : Prop := rulesScopesRow.holds Tryz.pinned (OpenSpec.ofChange rulesScopesWrong)

/-- 'calliperlaw5.RulesWrites': WHATEVER THE INPUT: true; the input reads as it did. -/
def rulesWritesSpec : ChangeSpec := { name := "rulesWrites", fn := fun _ => fun
  | [d] => { results := [.lit (.bool true)], args := [d] }
  | _ => none }
def rulesWritesRow : OpenClaim := { program := "ytdmbkbmenahpnaagreatdoor", sum := "8e533566f031e92cc37453bf2db55549870e294432c94cf0fb32bcd5db3f1c86", func := "calliper/calliperlaw5.RulesWrites", spec := "rulesWrites", inPlace := ["internal/reflectlite.ValueOf", "(internal/reflectlite.Value).Type", "(internal/reflectlite.Value).IsNil", "internal/reflectlite.TypeOf", "(internal/reflectlite.Value).Elem", "(internal/reflectlite.Value).Set"], unfollowed := true, recurses := true, named := ["errors.errorType"], apart := false, laid := [("errors.errorType", laid_errors_errorType)] }
def RulesWritesSaid : Prop := rulesWritesRow.holds Tryz.pinned (OpenSpec.ofChange rulesWritesSpec)

/-- ITS FALSE NEIGHBOUR: 'it returns false'. Refute it at one input. -/
def rulesWritesWrong : ChangeSpec := { name := "rulesWrites", fn := fun _ => fun
  | [d] => { results := [.lit (.bool false)], args := [d] }
  | _ => none }
def RulesWritesWrongFalsely : Prop := rulesWritesRow.holds Tryz.pinned (OpenSpec.ofChange rulesWritesWrong)

/-- 'calliperlaw5.RulesCalls': WHATEVER THE INPUT: true; the input reads as it did. -/
def rulesCallsSpec : ChangeSpec := { name := "rulesCalls", fn := fun _ => fun
  | [d] => { results := [.lit (.bool true)], args := [d] }
  | _ => none }
def rulesCallsRow : OpenClaim := { program := "ytdmbkbmenahpnaagreatdoor", sum := "8e533566f031e92cc37453bf2db55549870e294432c94cf0fb32bcd5db3f1c86", func := "calliper/calliperlaw5.RulesCalls", spec := "rulesCalls", inPlace := ["internal/reflectlite.ValueOf", "(internal/reflectlite.Value).Type", "(internal/reflectlite.Value).IsNil", "internal/reflectlite.TypeOf", "(internal/reflectlite.Value).Elem", "(internal/reflectlite.Value).Set"], unfollowed := true, recurses := true, named := ["errors.errorType"], apart := false, laid := [("errors.errorType", laid_errors_errorType)] }
def RulesCallsSaid : Prop := rulesCallsRow.holds Tryz.pinned (OpenSpec.ofChange rulesCallsSpec)

/-- ITS FALSE NEIGHBOUR: 'it returns false'. Refute it at one input. -/
def rulesCallsWrong : ChangeSpec := { name := "rulesCalls", fn := fun _ => fun
  | [d] => { results := [.lit (.bool false)], args := [d] }
  | _ => none }
def RulesCallsWrongFalsely : Prop := rulesCallsRow.holds Tryz.pinned (OpenSpec.ofChange rulesCallsWrong)

/-- 'calliperlaw5.RulesLayouts': WHATEVER THE INPUT: true; the input reads as it did. -/
def rulesLayoutsSpec : ChangeSpec := { name := "rulesLayouts", fn := fun _ => fun
  | [d] => { results := [.lit (.bool true)], args := [d] }
  | _ => none }
def rulesLayoutsRow : OpenClaim := { program := "ytdmbkbmenahpnaagreatdoor", sum := "8e533566f031e92cc37453bf2db55549870e294432c94cf0fb32bcd5db3f1c86", func := "calliper/calliperlaw5.RulesLayouts", spec := "rulesLayouts", inPlace := ["internal/reflectlite.ValueOf", "(internal/reflectlite.Value).Type", "(internal/reflectlite.Value).IsNil", "internal/reflectlite.TypeOf", "(internal/reflectlite.Value).Elem", "(internal/reflectlite.Value).Set"], unfollowed := true, recurses := true, named := ["errors.errorType"], apart := false, laid := [("errors.errorType", laid_errors_errorType)] }
def RulesLayoutsSaid : Prop := rulesLayoutsRow.holds Tryz.pinned (OpenSpec.ofChange rulesLayoutsSpec)

/-- ITS FALSE NEIGHBOUR: 'it returns false'. Refute it at one input. -/
def rulesLayoutsWrong : ChangeSpec := { name := "rulesLayouts", fn := fun _ => fun
  | [d] => { results := [.lit (.bool false)], args := [d] }
  | _ => none }
def RulesLayoutsWrongFalsely : Prop := rulesLayoutsRow.holds Tryz.pinned (OpenSpec.ofChange rulesLayoutsWrong)

/-- 'calliperlaw5.RulesTypes': WHATEVER THE INPUT: true; the input reads as it did. -/
def rulesTypesSpec : ChangeSpec := { name := "rulesTypes", fn := fun _ => fun
  | [d1, d2, d3, d4] => { results := [.lit (.bool true)], args := [d1, d2, d3, d4] }
  | _ => none }
def rulesTypesRow : OpenClaim := { program := "ytdmbkbmenahpnaagreatdoor", sum := "8e533566f031e92cc37453bf2db55549870e294432c94cf0fb32bcd5db3f1c86", func := "calliper/calliperlaw5.RulesTypes", spec := "rulesTypes", inPlace := ["internal/reflectlite.ValueOf", "(internal/reflectlite.Value).Type", "(internal/reflectlite.Value).IsNil", "internal/reflectlite.TypeOf", "(internal/reflectlite.Value).Elem", "(internal/reflectlite.Value).Set"], unfollowed := true, recurses := true, named := ["errors.errorType"], apart := false, laid := [("errors.errorType", laid_errors_errorType)] }
def RulesTypesSaid : Prop := rulesTypesRow.holds Tryz.pinned (OpenSpec.ofChange rulesTypesSpec)

/-- ITS FALSE NEIGHBOUR: 'it returns false'. Refute it at one input. -/
def rulesTypesWrong : ChangeSpec := { name := "rulesTypes", fn := fun _ => fun
  | [d1, d2, d3, d4] => { results := [.lit (.bool false)], args := [d1, d2, d3, d4] }
  | _ => none }
def RulesTypesWrongFalsely : Prop := rulesTypesRow.holds Tryz.pinned (OpenSpec.ofChange rulesTypesWrong)

/- THE SECOND FORM. 'bulk': how many values and letters a reading holds, each counted each time it is reached (what is shared counts as often as it is met; a slice's spare places count too). A statement '..UptoSaid' is the law's where the arguments, and the package variables that the reading takes, are together of bulk at most 1048576: NARROWER than '..Said'. Prove '..Said' where nothing that the law and all that it calls make is longer than what came in: it says more and counts as full. Else prove '..UptoSaid'. A law counts once. -/
mutual
def uptoBulk {H : Type} : DataW H → Nat
  | .lit (.string bytes) => bytes.length + 1
  | .lit _ => 1
  | .nil => 1
  | .ptr d => uptoBulk d + 1
  | .slice elems spare => uptoBulkAll elems + uptoBulkAll spare + 1
  | .agg parts => uptoBulkAll parts + 1
  | .iface _ d => uptoBulk d + 1
  | .map entries => uptoBulkEntries entries + 1
  | .held _ => 1
def uptoBulkAll {H : Type} : List (DataW H) → Nat
  | [] => 0
  | d :: r => uptoBulk d + uptoBulkAll r
def uptoBulkEntries {H : Type} : List (Lit × DataW H) → Nat
  | [] => 0
  | x :: r => uptoBulkEntry x + uptoBulkEntries r
def uptoBulkEntry {H : Type} : Lit × DataW H → Nat
  | (.string bytes, d) => bytes.length + uptoBulk d + 1
  | (_, d) => uptoBulk d + 1
 end
def uptoSmall : (H : Type) → List (DataW H) → Bool := fun _ ds => decide (uptoBulkAll ds ≤ 1048576)
def OpenSpec.upto (s : _root_.Go.ChangeSpec) : _root_.Go.OpenSpec := { _root_.Go.OpenSpec.ofChange s with cond := some uptoSmall }

/-- 'calliperlaw5.RulesMade', WHERE WHAT IT READS IS OF BULK AT MOST 1048576: true; the input reads as it did. -/
def rulesMadeUptoRow : OpenClaim := { program := "ytdmbkbmenahpnaagreatdoor", sum := "8e533566f031e92cc37453bf2db55549870e294432c94cf0fb32bcd5db3f1c86", func := "calliper/calliperlaw5.RulesMade", spec := "rulesMade", inPlace := ["internal/reflectlite.ValueOf", "(internal/reflectlite.Value).Type", "(internal/reflectlite.Value).IsNil", "internal/reflectlite.TypeOf", "(internal/reflectlite.Value).Elem", "(internal/reflectlite.Value).Set"], unfollowed := true, recurses := true, named := ["errors.errorType"], apart := false, laid := [("errors.errorType", laid_errors_errorType)], narrowed := true }
def RulesMadeUptoSaid : Prop := rulesMadeUptoRow.holds Tryz.pinned (OpenSpec.upto rulesMadeSpec)

/-- 'calliperlaw5.RulesScopes', WHERE WHAT IT READS IS OF BULK AT MOST 1048576: true; the input reads as it did. -/
def rulesScopesUptoRow : OpenClaim := { program := "ytdmbkbmenahpnaagreatdoor", sum := "8e533566f031e92cc37453bf2db55549870e294432c94cf0fb32bcd5db3f1c86", func := "calliper/calliperlaw5.RulesScopes", spec := "rulesScopes", inPlace := ["internal/reflectlite.ValueOf", "(internal/reflectlite.Value).Type", "(internal/reflectlite.Value).IsNil", "internal/reflectlite.TypeOf", "(internal/reflectlite.Value).Elem", "(internal/reflectlite.Value).Set"], unfollowed := true, recurses := true, named := ["errors.errorType"], apart := false, laid := [("errors.errorType", laid_errors_errorType)], narrowed := true }
def RulesScopesUptoSaid : Prop := rulesScopesUptoRow.holds Tryz.pinned (OpenSpec.upto rulesScopesSpec)

/-- 'calliperlaw5.RulesWrites', WHERE WHAT IT READS IS OF BULK AT MOST 1048576: true; the input reads as it did. -/
def rulesWritesUptoRow : OpenClaim := { program := "ytdmbkbmenahpnaagreatdoor", sum := "8e533566f031e92cc37453bf2db55549870e294432c94cf0fb32bcd5db3f1c86", func := "calliper/calliperlaw5.RulesWrites", spec := "rulesWrites", inPlace := ["internal/reflectlite.ValueOf", "(internal/reflectlite.Value).Type", "(internal/reflectlite.Value).IsNil", "internal/reflectlite.TypeOf", "(internal/reflectlite.Value).Elem", "(internal/reflectlite.Value).Set"], unfollowed := true, recurses := true, named := ["errors.errorType"], apart := false, laid := [("errors.errorType", laid_errors_errorType)], narrowed := true }
def RulesWritesUptoSaid : Prop := rulesWritesUptoRow.holds Tryz.pinned (OpenSpec.upto rulesWritesSpec)

/-- 'calliperlaw5.RulesCalls', WHERE WHAT IT READS IS OF BULK AT MOST 1048576: true; the input reads as it did. -/
def rulesCallsUptoRow : OpenClaim := { program := "ytdmbkbmenahpnaagreatdoor", sum := "8e533566f031e92cc37453bf2db55549870e294432c94cf0fb32bcd5db3f1c86", func := "calliper/calliperlaw5.RulesCalls", spec := "rulesCalls", inPlace := ["internal/reflectlite.ValueOf", "(internal/reflectlite.Value).Type", "(internal/reflectlite.Value).IsNil", "internal/reflectlite.TypeOf", "(internal/reflectlite.Value).Elem", "(internal/reflectlite.Value).Set"], unfollowed := true, recurses := true, named := ["errors.errorType"], apart := false, laid := [("errors.errorType", laid_errors_errorType)], narrowed := true }
def RulesCallsUptoSaid : Prop := rulesCallsUptoRow.holds Tryz.pinned (OpenSpec.upto rulesCallsSpec)

/-- 'calliperlaw5.RulesLayouts', WHERE WHAT IT READS IS OF BULK AT MOST 1048576: true; the input reads as it did. -/
def rulesLayoutsUptoRow : OpenClaim := { program := "ytdmbkbmenahpnaagreatdoor", sum := "8e533566f031e92cc37453bf2db55549870e294432c94cf0fb32bcd5db3f1c86", func := "calliper/calliperlaw5.RulesLayouts", spec := "rulesLayouts", inPlace := ["internal/reflectlite.ValueOf", "(internal/reflectlite.Value).Type", "(internal/reflectlite.Value).IsNil", "internal/reflectlite.TypeOf", "(internal/reflectlite.Value).Elem", "(internal/reflectlite.Value).Set"], unfollowed := true, recurses := true, named := ["errors.errorType"], apart := false, laid := [("errors.errorType", laid_errors_errorType)], narrowed := true }
def RulesLayoutsUptoSaid : Prop := rulesLayoutsUptoRow.holds Tryz.pinned (OpenSpec.upto rulesLayoutsSpec)

/-- 'calliperlaw5.RulesTypes', WHERE WHAT IT READS IS OF BULK AT MOST 1048576: true; the input reads as it did. -/
def rulesTypesUptoRow : OpenClaim := { program := "ytdmbkbmenahpnaagreatdoor", sum := "8e533566f031e92cc37453bf2db55549870e294432c94cf0fb32bcd5db3f1c86", func := "calliper/calliperlaw5.RulesTypes", spec := "rulesTypes", inPlace := ["internal/reflectlite.ValueOf", "(internal/reflectlite.Value).Type", "(internal/reflectlite.Value).IsNil", "internal/reflectlite.TypeOf", "(internal/reflectlite.Value).Elem", "(internal/reflectlite.Value).Set"], unfollowed := true, recurses := true, named := ["errors.errorType"], apart := false, laid := [("errors.errorType", laid_errors_errorType)], narrowed := true }
def RulesTypesUptoSaid : Prop := rulesTypesUptoRow.holds Tryz.pinned (OpenSpec.upto rulesTypesSpec)

end Rows
end Go.Proofs.YtdmbkbmenahpnaaGreatDoor
