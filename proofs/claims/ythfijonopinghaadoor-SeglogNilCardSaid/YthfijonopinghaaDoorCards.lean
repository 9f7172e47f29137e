/-
  DERIVED. GIVEN WITH THE SEED: THE CARDS: each row of YthfijonopinghaaDoorRows.lean that lists a variable, with what it lists TIED to the program's text (the seventh form; the later family's looks); each row that meets fmt, with fmt's text TOLD by the authors' own Lean function (tested against real Go, not proved from fmt's source: count such statements apart). THE CARD IS WHAT COUNTS. Prove the row's statement (the work); the ties are given (YthfijonopinghaaDoorTie.lean); close each card by the builder's one call (the guide's Derived/Test/ToyasCard.lean, 'card_holds'). Laid BY PROGRAM, IN A SANDBOX (cutbox-door.mjs). By AI agents, Wed Nov 11 2026. No macro, syntax, notation, axiom, sorry.
-/
import Derived.Test.YthfijonopinghaaDoorRows
import GoSem.ClaimSeven
namespace Go.Proofs.YthfijonopinghaaDoor
namespace Rows

/-- THE TIED CARD OF 'courantlaw21.SeglogNil'. -/
def seglogNilCard : Claim7 := { stood := { row := seglogNilRow, standIns := [], harness := (true, "1679ed2bc97b11e1a68a05788ee013356562e6556a70d1d3f4fca6bc664bf932"), looks := false }, kinds := [], alts := [], laidByText := true, laidKinds := [.data, .pinned], laidTests := true, laidLooks := .later }
def SeglogNilCardSaid : Prop := Claim7.holds Tryd.pinned (.plain (OpenSpec.ofChange seglogNilSpec)) seglogNilCard

/-- THE SECOND FORM's CARD OF 'courantlaw21.SeglogNil'. -/
def seglogNilUptoCard : Claim7 := { stood := { row := seglogNilUptoRow, standIns := [], harness := (true, "1679ed2bc97b11e1a68a05788ee013356562e6556a70d1d3f4fca6bc664bf932"), looks := false }, kinds := [], alts := [], laidByText := true, laidKinds := [.data, .pinned], laidTests := true, laidLooks := .later }
def SeglogNilUptoCardSaid : Prop := Claim7.holds Tryd.pinned (.plain (OpenSpec.upto seglogNilSpec)) seglogNilUptoCard
end Rows
end Go.Proofs.YthfijonopinghaaDoor
