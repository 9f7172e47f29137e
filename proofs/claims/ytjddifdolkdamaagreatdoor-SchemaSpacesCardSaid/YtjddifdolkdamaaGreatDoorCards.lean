/-
  DERIVED. GIVEN WITH THE SEED: THE CARDS: each row of YtjddifdolkdamaaGreatDoorRows.lean that lists a variable, with what it lists TIED to the program's text (the seventh form; the later family's looks); each row that meets fmt, with fmt's text TOLD by the authors' own Lean function (tested against real Go, not proved from fmt's source: count such statements apart). THE CARD IS WHAT COUNTS. Prove the row's statement (the work); the ties are given (YtjddifdolkdamaaGreatDoorTie.lean); close each card by the builder's one call (the guide's Derived/Test/ToyasCard.lean, 'card_holds'). Laid BY PROGRAM, IN A SANDBOX (cutbox-door.mjs). By AI agents, Wed Nov 11 2026. No macro, syntax, notation, axiom, sorry.
-/
import Derived.Test.YtjddifdolkdamaaGreatDoorRows
import GoSem.ClaimSeven
namespace Go.Proofs.YtjddifdolkdamaaGreatDoor
namespace Rows

/-- THE TIED CARD OF 'courantlaw05.SchemaSpaces'. -/
def schemaSpacesCard : Claim7 := { stood := { row := schemaSpacesRow, standIns := [], harness := (true, "773dd5db0225ab2419c8d3e048aeb6a9030a4f56c9cb3b056255c27b8062f737"), looks := true }, kinds := [], alts := [], laidByText := true, laidKinds := [.data, .data, .data, .data, .sentinel, .sentinel, .pinned], laidTests := true, laidLooks := .later }
def SchemaSpacesCardSaid : Prop := Claim7.holds Tryz.pinned (.plain (OpenSpec.ofChange schemaSpacesSpec)) schemaSpacesCard

/-- THE TIED CARD OF 'courantlaw05.SchemaErrors'. -/
def schemaErrorsCard : Claim7 := { stood := { row := schemaErrorsRow, standIns := [], harness := (true, "773dd5db0225ab2419c8d3e048aeb6a9030a4f56c9cb3b056255c27b8062f737"), looks := true }, kinds := [], alts := [], laidByText := true, laidKinds := [.data, .data, .data, .data, .sentinel, .sentinel, .pinned], laidTests := true, laidLooks := .later }
def SchemaErrorsCardSaid : Prop := Claim7.holds Tryz.pinned (.plain (OpenSpec.ofChange schemaErrorsSpec)) schemaErrorsCard

/-- THE TIED CARD OF 'courantlaw05.SchemaMany'. -/
def schemaManyCard : Claim7 := { stood := { row := schemaManyRow, standIns := [], harness := (true, "773dd5db0225ab2419c8d3e048aeb6a9030a4f56c9cb3b056255c27b8062f737"), looks := true }, kinds := [], alts := [], laidByText := true, laidKinds := [.data, .data, .data, .data, .sentinel, .sentinel, .pinned], laidTests := true, laidLooks := .later }
def SchemaManyCardSaid : Prop := Claim7.holds Tryz.pinned (.plain (OpenSpec.ofChange schemaManySpec)) schemaManyCard

/-- THE TIED CARD OF 'courantlaw05.SchemaNodes'. -/
def schemaNodesCard : Claim7 := { stood := { row := schemaNodesRow, standIns := [], harness := (true, "773dd5db0225ab2419c8d3e048aeb6a9030a4f56c9cb3b056255c27b8062f737"), looks := true }, kinds := [], alts := [], laidByText := true, laidKinds := [.data, .data, .data, .data, .sentinel, .sentinel, .pinned], laidTests := true, laidLooks := .later }
def SchemaNodesCardSaid : Prop := Claim7.holds Tryz.pinned (.plain (OpenSpec.ofChange schemaNodesSpec)) schemaNodesCard

/-- THE SECOND FORM's CARD OF 'courantlaw05.SchemaSpaces'. -/
def schemaSpacesUptoCard : Claim7 := { stood := { row := schemaSpacesUptoRow, standIns := [], harness := (true, "773dd5db0225ab2419c8d3e048aeb6a9030a4f56c9cb3b056255c27b8062f737"), looks := true }, kinds := [], alts := [], laidByText := true, laidKinds := [.data, .data, .data, .data, .sentinel, .sentinel, .pinned], laidTests := true, laidLooks := .later }
def SchemaSpacesUptoCardSaid : Prop := Claim7.holds Tryz.pinned (.plain (OpenSpec.upto schemaSpacesSpec)) schemaSpacesUptoCard

/-- THE SECOND FORM's CARD OF 'courantlaw05.SchemaErrors'. -/
def schemaErrorsUptoCard : Claim7 := { stood := { row := schemaErrorsUptoRow, standIns := [], harness := (true, "773dd5db0225ab2419c8d3e048aeb6a9030a4f56c9cb3b056255c27b8062f737"), looks := true }, kinds := [], alts := [], laidByText := true, laidKinds := [.data, .data, .data, .data, .sentinel, .sentinel, .pinned], laidTests := true, laidLooks := .later }
def SchemaErrorsUptoCardSaid : Prop := Claim7.holds Tryz.pinned (.plain (OpenSpec.upto schemaErrorsSpec)) schemaErrorsUptoCard

/-- THE SECOND FORM's CARD OF 'courantlaw05.SchemaMany'. -/
def schemaManyUptoCard : Claim7 := { stood := { row := schemaManyUptoRow, standIns := [], harness := (true, "773dd5db0225ab2419c8d3e048aeb6a9030a4f56c9cb3b056255c27b8062f737"), looks := true }, kinds := [], alts := [], laidByText := true, laidKinds := [.data, .data, .data, .data, .sentinel, .sentinel, .pinned], laidTests := true, laidLooks := .later }
def SchemaManyUptoCardSaid : Prop := Claim7.holds Tryz.pinned (.plain (OpenSpec.upto schemaManySpec)) schemaManyUptoCard

/-- THE SECOND FORM's CARD OF 'courantlaw05.SchemaNodes'. -/
def schemaNodesUptoCard : Claim7 := { stood := { row := schemaNodesUptoRow, standIns := [], harness := (true, "773dd5db0225ab2419c8d3e048aeb6a9030a4f56c9cb3b056255c27b8062f737"), looks := true }, kinds := [], alts := [], laidByText := true, laidKinds := [.data, .data, .data, .data, .sentinel, .sentinel, .pinned], laidTests := true, laidLooks := .later }
def SchemaNodesUptoCardSaid : Prop := Claim7.holds Tryz.pinned (.plain (OpenSpec.upto schemaNodesSpec)) schemaNodesUptoCard
end Rows
end Go.Proofs.YtjddifdolkdamaaGreatDoor
