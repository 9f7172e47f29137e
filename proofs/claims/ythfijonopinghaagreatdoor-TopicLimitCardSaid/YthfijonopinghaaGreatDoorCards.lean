/-
  DERIVED. GIVEN WITH THE SEED: THE CARDS: each row of YthfijonopinghaaGreatDoorRows.lean that lists a variable, with what it lists TIED to the program's text (the seventh form; the later family's looks); each row that meets fmt, with fmt's text TOLD by the authors' own Lean function (tested against real Go, not proved from fmt's source: count such statements apart). THE CARD IS WHAT COUNTS. Prove the row's statement (the work); the ties are given (YthfijonopinghaaGreatDoorTie.lean); close each card by the builder's one call (the guide's Derived/Test/ToyasCard.lean, 'card_holds'). Laid BY PROGRAM, IN A SANDBOX (cutbox-door.mjs). By AI agents, Wed Nov 11 2026. No macro, syntax, notation, axiom, sorry.
-/
import Derived.Test.YthfijonopinghaaGreatDoorRows
import GoSem.ClaimSeven
namespace Go.Proofs.YthfijonopinghaaGreatDoor
namespace Rows

/-- THE TIED CARD OF 'courantlaw21.SeglogPlays'. -/
def seglogPlaysCard : Claim7 := { stood := { row := seglogPlaysRow, standIns := [], harness := (true, "f6f2022ba139ac2e3b80edf599c2e6f6d577ad711343d001de71f0ff77294bbd"), looks := false }, kinds := [], alts := [], laidByText := true, laidKinds := [.data, .pinned], laidTests := true, laidLooks := .later }
def SeglogPlaysCardSaid : Prop := Claim7.holds Tryz.pinned (.plain (OpenSpec.ofChange seglogPlaysSpec)) seglogPlaysCard

/-- THE TIED CARD OF 'courantlaw25.TopicLimit'. -/
def topicLimitCard : Claim7 := { stood := { row := topicLimitRow, standIns := [], harness := (true, "f6f2022ba139ac2e3b80edf599c2e6f6d577ad711343d001de71f0ff77294bbd"), looks := false }, kinds := [], alts := [], laidByText := true, laidKinds := [.data, .pinned], laidTests := true, laidLooks := .later }
def TopicLimitCardSaid : Prop := Claim7.holds Tryz.pinned (.plain (OpenSpec.ofChange topicLimitSpec)) topicLimitCard

/-- THE TIED CARD OF 'courantlaw23.CompactPlays'. -/
def compactPlaysCard : Claim7 := { stood := { row := compactPlaysRow, standIns := [], harness := (true, "f6f2022ba139ac2e3b80edf599c2e6f6d577ad711343d001de71f0ff77294bbd"), looks := false }, kinds := [], alts := [], laidByText := true, laidKinds := [.data, .pinned], laidTests := true, laidLooks := .later }
def CompactPlaysCardSaid : Prop := Claim7.holds Tryz.pinned (.plain (OpenSpec.ofChange compactPlaysSpec)) compactPlaysCard

/-- THE TIED CARD OF 'courantlaw25.TopicNil'. -/
def topicNilCard : Claim7 := { stood := { row := topicNilRow, standIns := [], harness := (true, "f6f2022ba139ac2e3b80edf599c2e6f6d577ad711343d001de71f0ff77294bbd"), looks := false }, kinds := [], alts := [], laidByText := true, laidKinds := [.data, .pinned], laidTests := true, laidLooks := .later }
def TopicNilCardSaid : Prop := Claim7.holds Tryz.pinned (.plain (OpenSpec.ofChange topicNilSpec)) topicNilCard

/-- THE TIED CARD OF 'courantlaw25.TopicPlays'. -/
def topicPlaysCard : Claim7 := { stood := { row := topicPlaysRow, standIns := [], harness := (true, "f6f2022ba139ac2e3b80edf599c2e6f6d577ad711343d001de71f0ff77294bbd"), looks := false }, kinds := [], alts := [], laidByText := true, laidKinds := [.data, .pinned], laidTests := true, laidLooks := .later }
def TopicPlaysCardSaid : Prop := Claim7.holds Tryz.pinned (.plain (OpenSpec.ofChange topicPlaysSpec)) topicPlaysCard

/-- THE SECOND FORM's CARD OF 'courantlaw21.SeglogPlays'. -/
def seglogPlaysUptoCard : Claim7 := { stood := { row := seglogPlaysUptoRow, standIns := [], harness := (true, "f6f2022ba139ac2e3b80edf599c2e6f6d577ad711343d001de71f0ff77294bbd"), looks := false }, kinds := [], alts := [], laidByText := true, laidKinds := [.data, .pinned], laidTests := true, laidLooks := .later }
def SeglogPlaysUptoCardSaid : Prop := Claim7.holds Tryz.pinned (.plain (OpenSpec.upto seglogPlaysSpec)) seglogPlaysUptoCard

/-- THE SECOND FORM's CARD OF 'courantlaw25.TopicLimit'. -/
def topicLimitUptoCard : Claim7 := { stood := { row := topicLimitUptoRow, standIns := [], harness := (true, "f6f2022ba139ac2e3b80edf599c2e6f6d577ad711343d001de71f0ff77294bbd"), looks := false }, kinds := [], alts := [], laidByText := true, laidKinds := [.data, .pinned], laidTests := true, laidLooks := .later }
def TopicLimitUptoCardSaid : Prop := Claim7.holds Tryz.pinned (.plain (OpenSpec.upto topicLimitSpec)) topicLimitUptoCard

/-- THE SECOND FORM's CARD OF 'courantlaw23.CompactPlays'. -/
def compactPlaysUptoCard : Claim7 := { stood := { row := compactPlaysUptoRow, standIns := [], harness := (true, "f6f2022ba139ac2e3b80edf599c2e6f6d577ad711343d001de71f0ff77294bbd"), looks := false }, kinds := [], alts := [], laidByText := true, laidKinds := [.data, .pinned], laidTests := true, laidLooks := .later }
def CompactPlaysUptoCardSaid : Prop := Claim7.holds Tryz.pinned (.plain (OpenSpec.upto compactPlaysSpec)) compactPlaysUptoCard

/-- THE SECOND FORM's CARD OF 'courantlaw25.TopicNil'. -/
def topicNilUptoCard : Claim7 := { stood := { row := topicNilUptoRow, standIns := [], harness := (true, "f6f2022ba139ac2e3b80edf599c2e6f6d577ad711343d001de71f0ff77294bbd"), looks := false }, kinds := [], alts := [], laidByText := true, laidKinds := [.data, .pinned], laidTests := true, laidLooks := .later }
def TopicNilUptoCardSaid : Prop := Claim7.holds Tryz.pinned (.plain (OpenSpec.upto topicNilSpec)) topicNilUptoCard

/-- THE SECOND FORM's CARD OF 'courantlaw25.TopicPlays'. -/
def topicPlaysUptoCard : Claim7 := { stood := { row := topicPlaysUptoRow, standIns := [], harness := (true, "f6f2022ba139ac2e3b80edf599c2e6f6d577ad711343d001de71f0ff77294bbd"), looks := false }, kinds := [], alts := [], laidByText := true, laidKinds := [.data, .pinned], laidTests := true, laidLooks := .later }
def TopicPlaysUptoCardSaid : Prop := Claim7.holds Tryz.pinned (.plain (OpenSpec.upto topicPlaysSpec)) topicPlaysUptoCard
end Rows
end Go.Proofs.YthfijonopinghaaGreatDoor
