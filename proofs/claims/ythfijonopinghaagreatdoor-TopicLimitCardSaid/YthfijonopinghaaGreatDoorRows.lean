/-
  NARROWER THAN 'FOR EVERY INPUT', by the rows' own cells (each row's printed sentence says how): SeglogPlays: laid · TopicLimit: laid · CompactPlays: laid · TopicNil: laid · TopicPlays: laid.
  DERIVED. THE GIVEN ROWS OF THIS SEAT. 5 by the template 'for every input the law returns true; each argument reads behind the call as it read before'; 0 by the template 'total and deterministic' (their statements: YthfijonopinghaaGreatDoorTotals.lean).
  GIVEN WITH THE SEED: the statements are not yours to turn. If you find one false, say at which input.
  Laid BY PROGRAM, IN A SANDBOX (cutbox-rows.mjs): the forced cells as the released guide's own fill.sh prints them over the translation c34f0a2fce0d5279… (all of the seat's roots in one cut). By AI agents, Wed Nov 11 2026. No macro, syntax, notation, axiom, sorry.
-/
import Derived.Test.YthfijonopinghaaGreatDoorChecked
import GoSem.PinnedTables
import GoSem.Claim
import GoSem.ClaimJoined
import GoSem.ClaimMapViews
import Derived.JoinedTies
import Derived.KernelRfl
namespace Go.Proofs.YthfijonopinghaaGreatDoor
/- THE CELL 'sum', in the pinned program and in every row, IS THE sha256 OF THE DUMP (.gsa) THAT YthfijonopinghaaGreatDoorProg.lean LOADS. Nothing in Lean hashes anything: it is a label: what it is worth is what the hold of that sum in a sandbox is worth. -/
noncomputable def Tryz.pinned : Pinned := { name := "ythfijonopinghaagreatdoor", sum := "c34f0a2fce0d5279019c4ca8cada6edecf107bac2c4b45828a37c81f38359492", checked := Tryz.checked }
namespace Rows
def none {H : Type} : Left H := { results := [], args := [] }

/- WHAT THE LISTED PACKAGE-LEVEL VARIABLES READ AS WHEN THE CALL BEGINS. Each datum BY PROGRAM (the guide's laid-datum.mjs) off the statement by which the dump's own 'gosem.cut.vars' lays the variable. In a bare row this is a premise. The card (YthfijonopinghaaGreatDoorCards.lean) ties it to the program's text. -/
def laid_unicode_utf8_acceptRanges {H : Type} : DataW H := .agg [.agg [.lit (.int .u8 128), .lit (.int .u8 191)], .agg [.lit (.int .u8 160), .lit (.int .u8 191)], .agg [.lit (.int .u8 128), .lit (.int .u8 159)], .agg [.lit (.int .u8 144), .lit (.int .u8 191)], .agg [.lit (.int .u8 128), .lit (.int .u8 143)], .agg [.lit (.int .u8 0), .lit (.int .u8 0)], .agg [.lit (.int .u8 0), .lit (.int .u8 0)], .agg [.lit (.int .u8 0), .lit (.int .u8 0)], .agg [.lit (.int .u8 0), .lit (.int .u8 0)], .agg [.lit (.int .u8 0), .lit (.int .u8 0)], .agg [.lit (.int .u8 0), .lit (.int .u8 0)], .agg [.lit (.int .u8 0), .lit (.int .u8 0)], .agg [.lit (.int .u8 0), .lit (.int .u8 0)], .agg [.lit (.int .u8 0), .lit (.int .u8 0)], .agg [.lit (.int .u8 0), .lit (.int .u8 0)], .agg [.lit (.int .u8 0), .lit (.int .u8 0)]]
/-- One of Go's own tables, pinned by name: the form's constant. -/
def laid_unicode_utf8_first : DataW Unit := Go.Pinned.utf8First

/-- 'courantlaw21.SeglogPlays': WHATEVER THE INPUT: true; the input reads as it did. -/
def seglogPlaysSpec : ChangeSpec := { name := "seglogPlays", fn := fun _ => fun
  | [d] => { results := [.lit (.bool true)], args := [d] }
  | _ => none }
def seglogPlaysRow : OpenClaim := { program := "ythfijonopinghaagreatdoor", sum := "c34f0a2fce0d5279019c4ca8cada6edecf107bac2c4b45828a37c81f38359492", func := "courant/courantlaw21.SeglogPlays", spec := "seglogPlays", inPlace := ["internal/bytealg.IndexByteString", "internal/bytealg.IndexString"], unfollowed := true, recurses := true, named := ["unicode/utf8.first", "unicode/utf8.acceptRanges", "internal/bytealg.MaxLen"], apart := false, laid := [("unicode/utf8.acceptRanges", laid_unicode_utf8_acceptRanges), ("unicode/utf8.first", laid_unicode_utf8_first)] }
def SeglogPlaysSaid : Prop := seglogPlaysRow.holds Tryz.pinned (OpenSpec.ofChange seglogPlaysSpec)

/-- ITS FALSE NEIGHBOUR: 'it returns false'. Refute it at one input. -/
def seglogPlaysWrong : ChangeSpec := { name := "seglogPlays", fn := fun _ => fun
  | [d] => { results := [.lit (.bool false)], args := [d] }
  | _ => none }
def SeglogPlaysWrongFalsely : Prop := seglogPlaysRow.holds Tryz.pinned (OpenSpec.ofChange seglogPlaysWrong)

/-- 'courantlaw25.TopicLimit': WHATEVER THE INPUT: true; the input reads as it did. -/
def topicLimitSpec : ChangeSpec := { name := "topicLimit", fn := fun _ => fun
  | [d] => { results := [.lit (.bool true)], args := [d] }
  | _ => none }
def topicLimitRow : OpenClaim := { program := "ythfijonopinghaagreatdoor", sum := "c34f0a2fce0d5279019c4ca8cada6edecf107bac2c4b45828a37c81f38359492", func := "courant/courantlaw25.TopicLimit", spec := "topicLimit", inPlace := ["internal/bytealg.IndexByteString", "internal/bytealg.IndexString"], unfollowed := true, recurses := true, named := ["unicode/utf8.first", "unicode/utf8.acceptRanges", "internal/bytealg.MaxLen"], apart := false, laid := [("unicode/utf8.acceptRanges", laid_unicode_utf8_acceptRanges), ("unicode/utf8.first", laid_unicode_utf8_first)] }
def TopicLimitSaid : Prop := topicLimitRow.holds Tryz.pinned (OpenSpec.ofChange topicLimitSpec)

/-- ITS FALSE NEIGHBOUR: 'it returns false'. Refute it at one input. -/
def topicLimitWrong : ChangeSpec := { name := "topicLimit", fn := fun _ => fun
  | [d] => { results := [.lit (.bool false)], args := [d] }
  | _ => none }
def TopicLimitWrongFalsely : Prop := topicLimitRow.holds Tryz.pinned (OpenSpec.ofChange topicLimitWrong)

/-- 'courantlaw23.CompactPlays': WHATEVER THE INPUT: true; the input reads as it did. -/
def compactPlaysSpec : ChangeSpec := { name := "compactPlays", fn := fun _ => fun
  | [d] => { results := [.lit (.bool true)], args := [d] }
  | _ => none }
def compactPlaysRow : OpenClaim := { program := "ythfijonopinghaagreatdoor", sum := "c34f0a2fce0d5279019c4ca8cada6edecf107bac2c4b45828a37c81f38359492", func := "courant/courantlaw23.CompactPlays", spec := "compactPlays", inPlace := ["internal/bytealg.IndexByteString", "internal/bytealg.IndexString", "slices.overlaps[courant/api.Pair]"], unfollowed := true, recurses := true, named := ["unicode/utf8.first", "unicode/utf8.acceptRanges", "internal/bytealg.MaxLen"], apart := false, laid := [("unicode/utf8.acceptRanges", laid_unicode_utf8_acceptRanges), ("unicode/utf8.first", laid_unicode_utf8_first)] }
def CompactPlaysSaid : Prop := compactPlaysRow.holds Tryz.pinned (OpenSpec.ofChange compactPlaysSpec)

/-- ITS FALSE NEIGHBOUR: 'it returns false'. Refute it at one input. -/
def compactPlaysWrong : ChangeSpec := { name := "compactPlays", fn := fun _ => fun
  | [d] => { results := [.lit (.bool false)], args := [d] }
  | _ => none }
def CompactPlaysWrongFalsely : Prop := compactPlaysRow.holds Tryz.pinned (OpenSpec.ofChange compactPlaysWrong)

/-- 'courantlaw25.TopicNil': WHATEVER THE INPUT: true; the input reads as it did. -/
def topicNilSpec : ChangeSpec := { name := "topicNil", fn := fun _ => fun
  | [d1, d2, d3, d4] => { results := [.lit (.bool true)], args := [d1, d2, d3, d4] }
  | _ => none }
def topicNilRow : OpenClaim := { program := "ythfijonopinghaagreatdoor", sum := "c34f0a2fce0d5279019c4ca8cada6edecf107bac2c4b45828a37c81f38359492", func := "courant/courantlaw25.TopicNil", spec := "topicNil", inPlace := ["internal/bytealg.IndexByteString", "internal/bytealg.IndexString"], unfollowed := true, recurses := true, named := ["unicode/utf8.first", "unicode/utf8.acceptRanges", "internal/bytealg.MaxLen"], apart := false, laid := [("unicode/utf8.acceptRanges", laid_unicode_utf8_acceptRanges), ("unicode/utf8.first", laid_unicode_utf8_first)] }
def TopicNilSaid : Prop := topicNilRow.holds Tryz.pinned (OpenSpec.ofChange topicNilSpec)

/-- ITS FALSE NEIGHBOUR: 'it returns false'. Refute it at one input. -/
def topicNilWrong : ChangeSpec := { name := "topicNil", fn := fun _ => fun
  | [d1, d2, d3, d4] => { results := [.lit (.bool false)], args := [d1, d2, d3, d4] }
  | _ => none }
def TopicNilWrongFalsely : Prop := topicNilRow.holds Tryz.pinned (OpenSpec.ofChange topicNilWrong)

/-- 'courantlaw25.TopicPlays': WHATEVER THE INPUT: true; the input reads as it did. -/
def topicPlaysSpec : ChangeSpec := { name := "topicPlays", fn := fun _ => fun
  | [d] => { results := [.lit (.bool true)], args := [d] }
  | _ => none }
def topicPlaysRow : OpenClaim := { program := "ythfijonopinghaagreatdoor", sum := "c34f0a2fce0d5279019c4ca8cada6edecf107bac2c4b45828a37c81f38359492", func := "courant/courantlaw25.TopicPlays", spec := "topicPlays", inPlace := ["internal/bytealg.IndexByteString", "internal/bytealg.IndexString"], unfollowed := true, recurses := true, named := ["unicode/utf8.first", "unicode/utf8.acceptRanges", "internal/bytealg.MaxLen"], apart := false, laid := [("unicode/utf8.acceptRanges", laid_unicode_utf8_acceptRanges), ("unicode/utf8.first", laid_unicode_utf8_first)] }
def TopicPlaysSaid : Prop := topicPlaysRow.holds Tryz.pinned (OpenSpec.ofChange topicPlaysSpec)

/-- ITS FALSE NEIGHBOUR: 'it returns false'. Refute it at one input. -/
def topicPlaysWrong : ChangeSpec := { name := "topicPlays", fn := fun _ => fun
  | [d] => { results := [.lit (.bool false)], args := [d] }
  | _ => none }
def TopicPlaysWrongFalsely : Prop := topicPlaysRow.holds Tryz.pinned (OpenSpec.ofChange topicPlaysWrong)

/- THE SECOND FORM. 'bulk': how many values and letters a reading holds, each counted each time it is reached (what is shared counts as often as it is met; a slice's spare places count too). A statement '..UptoSaid' is the law's where the arguments, and the package variables that the reading takes, are together of bulk at most 1048576: NARROWER than '..Said'. Prove '..Said' where nothing that the law and all that it calls make is longer than what came in: it says more and counts as full. Else prove '..UptoSaid'. A law counts once. -/
mutual
def uptoBulk {H : Type} : DataW H → Nat
  | .lit (.string bytes) => bytes.length + 1
  | .lit _ => 1
  | .nil => 1
  | .ptr d => uptoBulk d + 1
  | .slice elems spare => uptoBulkAll elems + uptoBulkAll spare + 1
  | .agg parts => uptoBulkAll parts + 1
  | .iface _ d => uptoBulk d + 1
  | .map entries => uptoBulkEntries entries + 1
  | .held _ => 1
def uptoBulkAll {H : Type} : List (DataW H) → Nat
  | [] => 0
  | d :: r => uptoBulk d + uptoBulkAll r
def uptoBulkEntries {H : Type} : List (Lit × DataW H) → Nat
  | [] => 0
  | x :: r => uptoBulkEntry x + uptoBulkEntries r
def uptoBulkEntry {H : Type} : Lit × DataW H → Nat
  | (.string bytes, d) => bytes.length + uptoBulk d + 1
  | (_, d) => uptoBulk d + 1
 end
def uptoSmall : (H : Type) → List (DataW H) → Bool := fun _ ds => decide (uptoBulkAll ds ≤ 1048576)
def OpenSpec.upto (s : _root_.Go.ChangeSpec) : _root_.Go.OpenSpec := { _root_.Go.OpenSpec.ofChange s with cond := some uptoSmall }

/-- 'courantlaw21.SeglogPlays', WHERE WHAT IT READS IS OF BULK AT MOST 1048576: true; the input reads as it did. -/
def seglogPlaysUptoRow : OpenClaim := { program := "ythfijonopinghaagreatdoor", sum := "c34f0a2fce0d5279019c4ca8cada6edecf107bac2c4b45828a37c81f38359492", func := "courant/courantlaw21.SeglogPlays", spec := "seglogPlays", inPlace := ["internal/bytealg.IndexByteString", "internal/bytealg.IndexString"], unfollowed := true, recurses := true, named := ["unicode/utf8.first", "unicode/utf8.acceptRanges", "internal/bytealg.MaxLen"], apart := false, laid := [("unicode/utf8.acceptRanges", laid_unicode_utf8_acceptRanges), ("unicode/utf8.first", laid_unicode_utf8_first)], narrowed := true }
def SeglogPlaysUptoSaid : Prop := seglogPlaysUptoRow.holds Tryz.pinned (OpenSpec.upto seglogPlaysSpec)

/-- 'courantlaw25.TopicLimit', WHERE WHAT IT READS IS OF BULK AT MOST 1048576: true; the input reads as it did. -/
def topicLimitUptoRow : OpenClaim := { program := "ythfijonopinghaagreatdoor", sum := "c34f0a2fce0d5279019c4ca8cada6edecf107bac2c4b45828a37c81f38359492", func := "courant/courantlaw25.TopicLimit", spec := "topicLimit", inPlace := ["internal/bytealg.IndexByteString", "internal/bytealg.IndexString"], unfollowed := true, recurses := true, named := ["unicode/utf8.first", "unicode/utf8.acceptRanges", "internal/bytealg.MaxLen"], apart := false, laid := [("unicode/utf8.acceptRanges", laid_unicode_utf8_acceptRanges), ("unicode/utf8.first", laid_unicode_utf8_first)], narrowed := true }
def TopicLimitUptoSaid : Prop := topicLimitUptoRow.holds Tryz.pinned (OpenSpec.upto topicLimitSpec)

/-- 'courantlaw23.CompactPlays', WHERE WHAT IT READS IS OF BULK AT MOST 1048576: true; the input reads as it did. -/
def compactPlaysUptoRow : OpenClaim := { program := "ythfijonopinghaagreatdoor", sum := "c34f0a2fce0d5279019c4ca8cada6edecf107bac2c4b45828a37c81f38359492", func := "courant/courantlaw23.CompactPlays", spec := "compactPlays", inPlace := ["internal/bytealg.IndexByteString", "internal/bytealg.IndexString", "slices.overlaps[courant/api.Pair]"], unfollowed := true, recurses := true, named := ["unicode/utf8.first", "unicode/utf8.acceptRanges", "internal/bytealg.MaxLen"], apart := false, laid := [("unicode/utf8.acceptRanges", laid_unicode_utf8_acceptRanges), ("unicode/utf8.first", laid_unicode_utf8_first)], narrowed := true }
def CompactPlaysUptoSaid : Prop := compactPlaysUptoRow.holds Tryz.pinned (OpenSpec.upto compactPlaysSpec)

/-- 'courantlaw25.TopicNil', WHERE WHAT IT READS IS OF BULK AT MOST 1048576: true; the input reads as it did. -/
def topicNilUptoRow : OpenClaim := { program := "ythfijonopinghaagreatdoor", sum := "c34f0a2fce0d5279019c4ca8cada6edecf107bac2c4b45828a37c81f38359492", func := "courant/courantlaw25.TopicNil", spec := "topicNil", inPlace := ["internal/bytealg.IndexByteString", "internal/bytealg.IndexString"], unfollowed := true, recurses := true, named := ["unicode/utf8.first", "unicode/utf8.acceptRanges", "internal/bytealg.MaxLen"], apart := false, laid := [("unicode/utf8.acceptRanges", laid_unicode_utf8_acceptRanges), ("unicode/utf8.first", laid_unicode_utf8_first)], narrowed := true }
def TopicNilUptoSaid : Prop := topicNilUptoRow.holds Tryz.pinned (OpenSpec.upto topicNilSpec)

/-- 'courantlaw25.TopicPlays', WHERE WHAT IT READS IS OF BULK AT MOST 1048576: true; the input reads as it did. -/
def topicPlaysUptoRow : OpenClaim := { program := "ythfijonopinghaagreatdoor", sum := "c34f0a2fce0d5279019c4ca8cada6edecf107bac2c4b45828a37c81f38359492", func := "courant/courantlaw25.TopicPlays", spec := "topicPlays", inPlace := ["internal/bytealg.IndexByteString", "internal/bytealg.IndexString"], unfollowed := true, recurses := true, named := ["unicode/utf8.first", "unicode/utf8.acceptRanges", "internal/bytealg.MaxLen"], apart := false, laid := [("unicode/utf8.acceptRanges", laid_unicode_utf8_acceptRanges), ("unicode/utf8.first", laid_unicode_utf8_first)], narrowed := true }
def TopicPlaysUptoSaid : Prop := topicPlaysUptoRow.holds Tryz.pinned (OpenSpec.upto topicPlaysSpec)

end Rows
end Go.Proofs.YthfijonopinghaaGreatDoor
