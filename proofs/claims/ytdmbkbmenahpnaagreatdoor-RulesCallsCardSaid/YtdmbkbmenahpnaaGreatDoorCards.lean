/-
  DERIVED. GIVEN WITH THE SEED: THE CARDS: each row of YtdmbkbmenahpnaaGreatDoorRows.lean that lists a variable, with what it lists TIED to the program's text (the seventh form; the later family's looks); each row that meets fmt, with fmt's text TOLD by the authors' own Lean function (tested against real Go, not proved from fmt's source: count such statements apart). THE CARD IS WHAT COUNTS. Prove the row's statement (the work); the ties are given (YtdmbkbmenahpnaaGreatDoorTie.lean); close each card by the builder's one call (the guide's Derived/Test/ToyasCard.lean, 'card_holds'). Laid BY PROGRAM, IN A SANDBOX (cutbox-door.mjs). By AI agents, Wed Nov 11 2026. No macro, syntax, notation, axiom, sorry.
-/
import Derived.Test.YtdmbkbmenahpnaaGreatDoorRows
import GoSem.ClaimSeven
namespace Go.Proofs.YtdmbkbmenahpnaaGreatDoor
namespace Rows

/-- THE TIED CARD OF 'calliperlaw5.RulesMade'. -/
def rulesMadeCard : Claim7 := { stood := { row := rulesMadeRow, standIns := [], harness := (true, "b02dbf64665ebb5efe2d0da36221c0d8945e316f59ccfd179827f4e7d48a75aa"), looks := true }, kinds := [], alts := [], laidByText := true, laidKinds := [.handle], laidTests := true, laidLooks := .later }
def RulesMadeCardSaid : Prop := Claim7.holds Tryz.pinned (.plain (OpenSpec.ofChange rulesMadeSpec)) rulesMadeCard

/-- THE TIED CARD OF 'calliperlaw5.RulesScopes'. -/
def rulesScopesCard : Claim7 := { stood := { row := rulesScopesRow, standIns := [], harness := (true, "b02dbf64665ebb5efe2d0da36221c0d8945e316f59ccfd179827f4e7d48a75aa"), looks := true }, kinds := [], alts := [], laidByText := true, laidKinds := [.handle], laidTests := true, laidLooks := .later }
def RulesScopesCardSaid : Prop := Claim7.holds Tryz.pinned (.plain (OpenSpec.ofChange rulesScopesSpec)) rulesScopesCard

/-- THE TIED CARD OF 'calliperlaw5.RulesWrites'. -/
def rulesWritesCard : Claim7 := { stood := { row := rulesWritesRow, standIns := [], harness := (true, "b02dbf64665ebb5efe2d0da36221c0d8945e316f59ccfd179827f4e7d48a75aa"), looks := true }, kinds := [], alts := [], laidByText := true, laidKinds := [.handle], laidTests := true, laidLooks := .later }
def RulesWritesCardSaid : Prop := Claim7.holds Tryz.pinned (.plain (OpenSpec.ofChange rulesWritesSpec)) rulesWritesCard

/-- THE TIED CARD OF 'calliperlaw5.RulesCalls'. -/
def rulesCallsCard : Claim7 := { stood := { row := rulesCallsRow, standIns := [], harness := (true, "b02dbf64665ebb5efe2d0da36221c0d8945e316f59ccfd179827f4e7d48a75aa"), looks := true }, kinds := [], alts := [], laidByText := true, laidKinds := [.handle], laidTests := true, laidLooks := .later }
def RulesCallsCardSaid : Prop := Claim7.holds Tryz.pinned (.plain (OpenSpec.ofChange rulesCallsSpec)) rulesCallsCard

/-- THE TIED CARD OF 'calliperlaw5.RulesLayouts'. -/
def rulesLayoutsCard : Claim7 := { stood := { row := rulesLayoutsRow, standIns := [], harness := (true, "b02dbf64665ebb5efe2d0da36221c0d8945e316f59ccfd179827f4e7d48a75aa"), looks := true }, kinds := [], alts := [], laidByText := true, laidKinds := [.handle], laidTests := true, laidLooks := .later }
def RulesLayoutsCardSaid : Prop := Claim7.holds Tryz.pinned (.plain (OpenSpec.ofChange rulesLayoutsSpec)) rulesLayoutsCard

/-- THE TIED CARD OF 'calliperlaw5.RulesTypes'. -/
def rulesTypesCard : Claim7 := { stood := { row := rulesTypesRow, standIns := [], harness := (true, "b02dbf64665ebb5efe2d0da36221c0d8945e316f59ccfd179827f4e7d48a75aa"), looks := true }, kinds := [], alts := [], laidByText := true, laidKinds := [.handle], laidTests := true, laidLooks := .later }
def RulesTypesCardSaid : Prop := Claim7.holds Tryz.pinned (.plain (OpenSpec.ofChange rulesTypesSpec)) rulesTypesCard

/-- THE SECOND FORM's CARD OF 'calliperlaw5.RulesMade'. -/
def rulesMadeUptoCard : Claim7 := { stood := { row := rulesMadeUptoRow, standIns := [], harness := (true, "b02dbf64665ebb5efe2d0da36221c0d8945e316f59ccfd179827f4e7d48a75aa"), looks := true }, kinds := [], alts := [], laidByText := true, laidKinds := [.handle], laidTests := true, laidLooks := .later }
def RulesMadeUptoCardSaid : Prop := Claim7.holds Tryz.pinned (.plain (OpenSpec.upto rulesMadeSpec)) rulesMadeUptoCard

/-- THE SECOND FORM's CARD OF 'calliperlaw5.RulesScopes'. -/
def rulesScopesUptoCard : Claim7 := { stood := { row := rulesScopesUptoRow, standIns := [], harness := (true, "b02dbf64665ebb5efe2d0da36221c0d8945e316f59ccfd179827f4e7d48a75aa"), looks := true }, kinds := [], alts := [], laidByText := true, laidKinds := [.handle], laidTests := true, laidLooks := .later }
def RulesScopesUptoCardSaid : Prop := Claim7.holds Tryz.pinned (.plain (OpenSpec.upto rulesScopesSpec)) rulesScopesUptoCard

/-- THE SECOND FORM's CARD OF 'calliperlaw5.RulesWrites'. -/
def rulesWritesUptoCard : Claim7 := { stood := { row := rulesWritesUptoRow, standIns := [], harness := (true, "b02dbf64665ebb5efe2d0da36221c0d8945e316f59ccfd179827f4e7d48a75aa"), looks := true }, kinds := [], alts := [], laidByText := true, laidKinds := [.handle], laidTests := true, laidLooks := .later }
def RulesWritesUptoCardSaid : Prop := Claim7.holds Tryz.pinned (.plain (OpenSpec.upto rulesWritesSpec)) rulesWritesUptoCard

/-- THE SECOND FORM's CARD OF 'calliperlaw5.RulesCalls'. -/
def rulesCallsUptoCard : Claim7 := { stood := { row := rulesCallsUptoRow, standIns := [], harness := (true, "b02dbf64665ebb5efe2d0da36221c0d8945e316f59ccfd179827f4e7d48a75aa"), looks := true }, kinds := [], alts := [], laidByText := true, laidKinds := [.handle], laidTests := true, laidLooks := .later }
def RulesCallsUptoCardSaid : Prop := Claim7.holds Tryz.pinned (.plain (OpenSpec.upto rulesCallsSpec)) rulesCallsUptoCard

/-- THE SECOND FORM's CARD OF 'calliperlaw5.RulesLayouts'. -/
def rulesLayoutsUptoCard : Claim7 := { stood := { row := rulesLayoutsUptoRow, standIns := [], harness := (true, "b02dbf64665ebb5efe2d0da36221c0d8945e316f59ccfd179827f4e7d48a75aa"), looks := true }, kinds := [], alts := [], laidByText := true, laidKinds := [.handle], laidTests := true, laidLooks := .later }
def RulesLayoutsUptoCardSaid : Prop := Claim7.holds Tryz.pinned (.plain (OpenSpec.upto rulesLayoutsSpec)) rulesLayoutsUptoCard

/-- THE SECOND FORM's CARD OF 'calliperlaw5.RulesTypes'. -/
def rulesTypesUptoCard : Claim7 := { stood := { row := rulesTypesUptoRow, standIns := [], harness := (true, "b02dbf64665ebb5efe2d0da36221c0d8945e316f59ccfd179827f4e7d48a75aa"), looks := true }, kinds := [], alts := [], laidByText := true, laidKinds := [.handle], laidTests := true, laidLooks := .later }
def RulesTypesUptoCardSaid : Prop := Claim7.holds Tryz.pinned (.plain (OpenSpec.upto rulesTypesSpec)) rulesTypesUptoCard
end Rows
end Go.Proofs.YtdmbkbmenahpnaaGreatDoor
