/-
  NARROWER THAN 'FOR EVERY INPUT', by the rows' own cells (each row's printed sentence says how): MappingChecks: laid · MappingApplies: laid · MappingBack: laid · MappingSources: laid · MappingTogether: laid · MappingValid: laid.
  DERIVED. THE GIVEN ROWS OF THIS SEAT. 6 by the template 'for every input the law returns true; each argument reads behind the call as it read before'; 0 by the template 'total and deterministic' (their statements: YtonefhconcccbaaGreatDoorTotals.lean).
  GIVEN WITH THE SEED: the statements are not yours to turn. If you find one false, say at which input.
  Laid BY PROGRAM, IN A SANDBOX (cutbox-rows.mjs): the forced cells as the released guide's own fill.sh prints them over the translation e02163cc57064cc8… (all of the seat's roots in one cut). By AI agents, Wed Nov 11 2026. No macro, syntax, notation, axiom, sorry.
-/
import Derived.Test.YtonefhconcccbaaGreatDoorChecked
import GoSem.PinnedTables
import GoSem.Claim
import GoSem.ClaimJoined
import GoSem.ClaimMapViews
import Derived.JoinedTies
import Derived.KernelRfl
namespace Go.Proofs.YtonefhconcccbaaGreatDoor
/- THE CELL 'sum', in the pinned program and in every row, IS THE sha256 OF THE DUMP (.gsa) THAT YtonefhconcccbaaGreatDoorProg.lean LOADS. Nothing in Lean hashes anything: it is a label: what it is worth is what the hold of that sum in a sandbox is worth. -/
noncomputable def Tryz.pinned : Pinned := { name := "ytonefhconcccbaagreatdoor", sum := "e02163cc57064cc8d7ef9dfbbb4618a0263978cd7f782f5ea2bc80c97de65bf9", checked := Tryz.checked }
namespace Rows
def none {H : Type} : Left H := { results := [], args := [] }

/- WHAT THE LISTED PACKAGE-LEVEL VARIABLES READ AS WHEN THE CALL BEGINS. Each datum BY PROGRAM (the guide's laid-datum.mjs) off the statement by which the dump's own 'gosem.cut.vars' lays the variable. In a bare row this is a premise. The card (YtonefhconcccbaaGreatDoorCards.lean) ties it to the program's text. -/
def laid_unicode_utf8_acceptRanges {H : Type} : DataW H := .agg [.agg [.lit (.int .u8 128), .lit (.int .u8 191)], .agg [.lit (.int .u8 160), .lit (.int .u8 191)], .agg [.lit (.int .u8 128), .lit (.int .u8 159)], .agg [.lit (.int .u8 144), .lit (.int .u8 191)], .agg [.lit (.int .u8 128), .lit (.int .u8 143)], .agg [.lit (.int .u8 0), .lit (.int .u8 0)], .agg [.lit (.int .u8 0), .lit (.int .u8 0)], .agg [.lit (.int .u8 0), .lit (.int .u8 0)], .agg [.lit (.int .u8 0), .lit (.int .u8 0)], .agg [.lit (.int .u8 0), .lit (.int .u8 0)], .agg [.lit (.int .u8 0), .lit (.int .u8 0)], .agg [.lit (.int .u8 0), .lit (.int .u8 0)], .agg [.lit (.int .u8 0), .lit (.int .u8 0)], .agg [.lit (.int .u8 0), .lit (.int .u8 0)], .agg [.lit (.int .u8 0), .lit (.int .u8 0)], .agg [.lit (.int .u8 0), .lit (.int .u8 0)]]
/-- One of Go's own tables, pinned by name: the form's constant. -/
def laid_unicode_utf8_first : DataW Unit := Go.Pinned.utf8First

/-- 'identitylaw47.MappingChecks': WHATEVER THE INPUT: true; the input reads as it did. -/
def mappingChecksSpec : ChangeSpec := { name := "mappingChecks", fn := fun _ => fun
  | [d1, d2] => { results := [.lit (.bool true)], args := [d1, d2] }
  | _ => none }
def mappingChecksRow : OpenClaim := { program := "ytonefhconcccbaagreatdoor", sum := "e02163cc57064cc8d7ef9dfbbb4618a0263978cd7f782f5ea2bc80c97de65bf9", func := "identity/identitylaw47.MappingChecks", spec := "mappingChecks", inPlace := ["internal/bytealg.IndexByteString", "internal/bytealg.IndexString", "internal/abi.NoEscape", "internal/bytealg.MakeNoZero", "internal/bytealg.CountString"], unfollowed := true, recurses := true, named := ["internal/bytealg.MaxLen", "unicode/utf8.first", "unicode/utf8.acceptRanges"], apart := false, laid := [("unicode/utf8.acceptRanges", laid_unicode_utf8_acceptRanges), ("unicode/utf8.first", laid_unicode_utf8_first)] }
def MappingChecksSaid : Prop := mappingChecksRow.holds Tryz.pinned (OpenSpec.ofChange mappingChecksSpec)

/-- ITS FALSE NEIGHBOUR: 'it returns false'. Refute it at one input. -/
def mappingChecksWrong : ChangeSpec := { name := "mappingChecks", fn := fun _ => fun
  | [d1, d2] => { results := [.lit (.bool false)], args := [d1, d2] }
  | _ => none }
def MappingChecksWrongFalsely : Prop := mappingChecksRow.holds Tryz.pinned (OpenSpec.ofChange mappingChecksWrong)

/-- 'identitylaw47.MappingApplies': WHATEVER THE INPUT: true; the input reads as it did. -/
def mappingAppliesSpec : ChangeSpec := { name := "mappingApplies", fn := fun _ => fun
  | [d1, d2, d3, d4] => { results := [.lit (.bool true)], args := [d1, d2, d3, d4] }
  | _ => none }
def mappingAppliesRow : OpenClaim := { program := "ytonefhconcccbaagreatdoor", sum := "e02163cc57064cc8d7ef9dfbbb4618a0263978cd7f782f5ea2bc80c97de65bf9", func := "identity/identitylaw47.MappingApplies", spec := "mappingApplies", inPlace := ["internal/bytealg.IndexByteString", "internal/bytealg.IndexString", "internal/abi.NoEscape", "internal/bytealg.MakeNoZero", "internal/bytealg.CountString"], unfollowed := true, recurses := true, named := ["internal/bytealg.MaxLen", "unicode/utf8.first", "unicode/utf8.acceptRanges"], apart := false, laid := [("unicode/utf8.acceptRanges", laid_unicode_utf8_acceptRanges), ("unicode/utf8.first", laid_unicode_utf8_first)] }
def MappingAppliesSaid : Prop := mappingAppliesRow.holds Tryz.pinned (OpenSpec.ofChange mappingAppliesSpec)

/-- ITS FALSE NEIGHBOUR: 'it returns false'. Refute it at one input. -/
def mappingAppliesWrong : ChangeSpec := { name := "mappingApplies", fn := fun _ => fun
  | [d1, d2, d3, d4] => { results := [.lit (.bool false)], args := [d1, d2, d3, d4] }
  | _ => none }
def MappingAppliesWrongFalsely : Prop := mappingAppliesRow.holds Tryz.pinned (OpenSpec.ofChange mappingAppliesWrong)

/-- 'identitylaw47.MappingBack': WHATEVER THE INPUT: true; the input reads as it did. -/
def mappingBackSpec : ChangeSpec := { name := "mappingBack", fn := fun _ => fun
  | [d1, d2] => { results := [.lit (.bool true)], args := [d1, d2] }
  | _ => none }
def mappingBackRow : OpenClaim := { program := "ytonefhconcccbaagreatdoor", sum := "e02163cc57064cc8d7ef9dfbbb4618a0263978cd7f782f5ea2bc80c97de65bf9", func := "identity/identitylaw47.MappingBack", spec := "mappingBack", inPlace := ["internal/bytealg.IndexByteString", "internal/bytealg.IndexString", "internal/abi.NoEscape", "internal/bytealg.MakeNoZero", "internal/bytealg.CountString"], unfollowed := true, recurses := true, named := ["internal/bytealg.MaxLen", "unicode/utf8.first", "unicode/utf8.acceptRanges"], apart := false, laid := [("unicode/utf8.acceptRanges", laid_unicode_utf8_acceptRanges), ("unicode/utf8.first", laid_unicode_utf8_first)] }
def MappingBackSaid : Prop := mappingBackRow.holds Tryz.pinned (OpenSpec.ofChange mappingBackSpec)

/-- ITS FALSE NEIGHBOUR: 'it returns false'. Refute it at one input. -/
def mappingBackWrong : ChangeSpec := { name := "mappingBack", fn := fun _ => fun
  | [d1, d2] => { results := [.lit (.bool false)], args := [d1, d2] }
  | _ => none }
def MappingBackWrongFalsely : Prop := mappingBackRow.holds Tryz.pinned (OpenSpec.ofChange mappingBackWrong)

/-- 'identitylaw47.MappingSources': WHATEVER THE INPUT: true; the input reads as it did. -/
def mappingSourcesSpec : ChangeSpec := { name := "mappingSources", fn := fun _ => fun
  | [d1, d2] => { results := [.lit (.bool true)], args := [d1, d2] }
  | _ => none }
def mappingSourcesRow : OpenClaim := { program := "ytonefhconcccbaagreatdoor", sum := "e02163cc57064cc8d7ef9dfbbb4618a0263978cd7f782f5ea2bc80c97de65bf9", func := "identity/identitylaw47.MappingSources", spec := "mappingSources", inPlace := ["internal/bytealg.IndexByteString", "internal/bytealg.IndexString", "internal/abi.NoEscape", "internal/bytealg.MakeNoZero", "internal/bytealg.CountString"], unfollowed := true, recurses := true, named := ["internal/bytealg.MaxLen", "unicode/utf8.first", "unicode/utf8.acceptRanges"], apart := false, laid := [("unicode/utf8.acceptRanges", laid_unicode_utf8_acceptRanges), ("unicode/utf8.first", laid_unicode_utf8_first)] }
def MappingSourcesSaid : Prop := mappingSourcesRow.holds Tryz.pinned (OpenSpec.ofChange mappingSourcesSpec)

/-- ITS FALSE NEIGHBOUR: 'it returns false'. Refute it at one input. -/
def mappingSourcesWrong : ChangeSpec := { name := "mappingSources", fn := fun _ => fun
  | [d1, d2] => { results := [.lit (.bool false)], args := [d1, d2] }
  | _ => none }
def MappingSourcesWrongFalsely : Prop := mappingSourcesRow.holds Tryz.pinned (OpenSpec.ofChange mappingSourcesWrong)

/-- 'identitylaw47.MappingTogether': WHATEVER THE INPUT: true; the input reads as it did. -/
def mappingTogetherSpec : ChangeSpec := { name := "mappingTogether", fn := fun _ => fun
  | [d1, d2, d3] => { results := [.lit (.bool true)], args := [d1, d2, d3] }
  | _ => none }
def mappingTogetherRow : OpenClaim := { program := "ytonefhconcccbaagreatdoor", sum := "e02163cc57064cc8d7ef9dfbbb4618a0263978cd7f782f5ea2bc80c97de65bf9", func := "identity/identitylaw47.MappingTogether", spec := "mappingTogether", inPlace := ["internal/bytealg.IndexByteString", "internal/bytealg.IndexString", "internal/abi.NoEscape", "internal/bytealg.MakeNoZero", "internal/bytealg.CountString"], unfollowed := true, recurses := true, named := ["internal/bytealg.MaxLen", "unicode/utf8.first", "unicode/utf8.acceptRanges"], apart := false, laid := [("unicode/utf8.acceptRanges", laid_unicode_utf8_acceptRanges), ("unicode/utf8.first", laid_unicode_utf8_first)] }
def MappingTogetherSaid : Prop := mappingTogetherRow.holds Tryz.pinned (OpenSpec.ofChange mappingTogetherSpec)

/-- ITS FALSE NEIGHBOUR: 'it returns false'. Refute it at one input. -/
def mappingTogetherWrong : ChangeSpec := { name := "mappingTogether", fn := fun _ => fun
  | [d1, d2, d3] => { results := [.lit (.bool false)], args := [d1, d2, d3] }
  | _ => none }
def MappingTogetherWrongFalsely : Prop := mappingTogetherRow.holds Tryz.pinned (OpenSpec.ofChange mappingTogetherWrong)

/-- 'identitylaw47.MappingValid': WHATEVER THE INPUT: true; the input reads as it did. -/
def mappingValidSpec : ChangeSpec := { name := "mappingValid", fn := fun _ => fun
  | [d1, d2] => { results := [.lit (.bool true)], args := [d1, d2] }
  | _ => none }
def mappingValidRow : OpenClaim := { program := "ytonefhconcccbaagreatdoor", sum := "e02163cc57064cc8d7ef9dfbbb4618a0263978cd7f782f5ea2bc80c97de65bf9", func := "identity/identitylaw47.MappingValid", spec := "mappingValid", inPlace := ["internal/bytealg.IndexByteString", "internal/bytealg.IndexString", "internal/abi.NoEscape", "internal/bytealg.MakeNoZero", "internal/bytealg.CountString"], unfollowed := true, recurses := true, named := ["internal/bytealg.MaxLen", "unicode/utf8.first", "unicode/utf8.acceptRanges"], apart := false, laid := [("unicode/utf8.acceptRanges", laid_unicode_utf8_acceptRanges), ("unicode/utf8.first", laid_unicode_utf8_first)] }
def MappingValidSaid : Prop := mappingValidRow.holds Tryz.pinned (OpenSpec.ofChange mappingValidSpec)

/-- ITS FALSE NEIGHBOUR: 'it returns false'. Refute it at one input. -/
def mappingValidWrong : ChangeSpec := { name := "mappingValid", fn := fun _ => fun
  | [d1, d2] => { results := [.lit (.bool false)], args := [d1, d2] }
  | _ => none }
def MappingValidWrongFalsely : Prop := mappingValidRow.holds Tryz.pinned (OpenSpec.ofChange mappingValidWrong)

/- THE SECOND FORM. 'bulk': how many values and letters a reading holds, each counted each time it is reached (what is shared counts as often as it is met; a slice's spare places count too). A statement '..UptoSaid' is the law's where the arguments, and the package variables that the reading takes, are together of bulk at most 1048576: NARROWER than '..Said'. Prove '..Said' where nothing that the law and all that it calls make is longer than what came in: it says more and counts as full. Else prove '..UptoSaid'. A law counts once. -/
mutual
def uptoBulk {H : Type} : DataW H → Nat
  | .lit (.string bytes) => bytes.length + 1
  | .lit _ => 1
  | .nil => 1
  | .ptr d => uptoBulk d + 1
  | .slice elems spare => uptoBulkAll elems + uptoBulkAll spare + 1
  | .agg parts => uptoBulkAll parts + 1
  | .iface _ d => uptoBulk d + 1
  | .map entries => uptoBulkEntries entries + 1
  | .held _ => 1
def uptoBulkAll {H : Type} : List (DataW H) → Nat
  | [] => 0
  | d :: r => uptoBulk d + uptoBulkAll r
def uptoBulkEntries {H : Type} : List (Lit × DataW H) → Nat
  | [] => 0
  | x :: r => uptoBulkEntry x + uptoBulkEntries r
def uptoBulkEntry {H : Type} : Lit × DataW H → Nat
  | (.string bytes, d) => bytes.length + uptoBulk d + 1
  | (_, d) => uptoBulk d + 1
 end
def uptoSmall : (H : Type) → List (DataW H) → Bool := fun _ ds => decide (uptoBulkAll ds ≤ 1048576)
def OpenSpec.upto (s : _root_.Go.ChangeSpec) : _root_.Go.OpenSpec := { _root_.Go.OpenSpec.ofChange s with cond := some uptoSmall }

/-- 'identitylaw47.MappingChecks', WHERE WHAT IT READS IS OF BULK AT MOST 1048576: true; the input reads as it did. -/
def mappingChecksUptoRow : OpenClaim := { program := "ytonefhconcccbaagreatdoor", sum := "e02163cc57064cc8d7ef9dfbbb4618a0263978cd7f782f5ea2bc80c97de65bf9", func := "identity/identitylaw47.MappingChecks", spec := "mappingChecks", inPlace := ["internal/bytealg.IndexByteString", "internal/bytealg.IndexString", "internal/abi.NoEscape", "internal/bytealg.MakeNoZero", "internal/bytealg.CountString"], unfollowed := true, recurses := true, named := ["internal/bytealg.MaxLen", "unicode/utf8.first", "unicode/utf8.acceptRanges"], apart := false, laid := [("unicode/utf8.acceptRanges", laid_unicode_utf8_acceptRanges), ("unicode/utf8.first", laid_unicode_utf8_first)], narrowed := true }
def MappingChecksUptoSaid : Prop := mappingChecksUptoRow.holds Tryz.pinned (OpenSpec.upto mappingChecksSpec)

/-- 'identitylaw47.MappingApplies', WHERE WHAT IT READS IS OF BULK AT MOST 1048576: true; the input reads as it did. -/
def mappingAppliesUptoRow : OpenClaim := { program := "ytonefhconcccbaagreatdoor", sum := "e02163cc57064cc8d7ef9dfbbb4618a0263978cd7f782f5ea2bc80c97de65bf9", func := "identity/identitylaw47.MappingApplies", spec := "mappingApplies", inPlace := ["internal/bytealg.IndexByteString", "internal/bytealg.IndexString", "internal/abi.NoEscape", "internal/bytealg.MakeNoZero", "internal/bytealg.CountString"], unfollowed := true, recurses := true, named := ["internal/bytealg.MaxLen", "unicode/utf8.first", "unicode/utf8.acceptRanges"], apart := false, laid := [("unicode/utf8.acceptRanges", laid_unicode_utf8_acceptRanges), ("unicode/utf8.first", laid_unicode_utf8_first)], narrowed := true }
def MappingAppliesUptoSaid : Prop := mappingAppliesUptoRow.holds Tryz.pinned (OpenSpec.upto mappingAppliesSpec)

/-- 'identitylaw47.MappingBack', WHERE WHAT IT READS IS OF BULK AT MOST 1048576: true; the input reads as it did. -/
def mappingBackUptoRow : OpenClaim := { program := "ytonefhconcccbaagreatdoor", sum := "e02163cc57064cc8d7ef9dfbbb4618a0263978cd7f782f5ea2bc80c97de65bf9", func := "identity/identitylaw47.MappingBack", spec := "mappingBack", inPlace := ["internal/bytealg.IndexByteString", "internal/bytealg.IndexString", "internal/abi.NoEscape", "internal/bytealg.MakeNoZero", "internal/bytealg.CountString"], unfollowed := true, recurses := true, named := ["internal/bytealg.MaxLen", "unicode/utf8.first", "unicode/utf8.acceptRanges"], apart := false, laid := [("unicode/utf8.acceptRanges", laid_unicode_utf8_acceptRanges), ("unicode/utf8.first", laid_unicode_utf8_first)], narrowed := true }
def MappingBackUptoSaid : Prop := mappingBackUptoRow.holds Tryz.pinned (OpenSpec.upto mappingBackSpec)

/-- 'identitylaw47.MappingSources', WHERE WHAT IT READS IS OF BULK AT MOST 1048576: true; the input reads as it did. -/
def mappingSourcesUptoRow : OpenClaim := { program := "ytonefhconcccbaagreatdoor", sum := "e02163cc57064cc8d7ef9dfbbb4618a0263978cd7f782f5ea2bc80c97de65bf9", func := "identity/identitylaw47.MappingSources", spec := "mappingSources", inPlace := ["internal/bytealg.IndexByteString", "internal/bytealg.IndexString", "internal/abi.NoEscape", "internal/bytealg.MakeNoZero", "internal/bytealg.CountString"], unfollowed := true, recurses := true, named := ["internal/bytealg.MaxLen", "unicode/utf8.first", "unicode/utf8.acceptRanges"], apart := false, laid := [("unicode/utf8.acceptRanges", laid_unicode_utf8_acceptRanges), ("unicode/utf8.first", laid_unicode_utf8_first)], narrowed := true }
def MappingSourcesUptoSaid : Prop := mappingSourcesUptoRow.holds Tryz.pinned (OpenSpec.upto mappingSourcesSpec)

/-- 'identitylaw47.MappingTogether', WHERE WHAT IT READS IS OF BULK AT MOST 1048576: true; the input reads as it did. -/
def mappingTogetherUptoRow : OpenClaim := { program := "ytonefhconcccbaagreatdoor", sum := "e02163cc57064cc8d7ef9dfbbb4618a0263978cd7f782f5ea2bc80c97de65bf9", func := "identity/identitylaw47.MappingTogether", spec := "mappingTogether", inPlace := ["internal/bytealg.IndexByteString", "internal/bytealg.IndexString", "internal/abi.NoEscape", "internal/bytealg.MakeNoZero", "internal/bytealg.CountString"], unfollowed := true, recurses := true, named := ["internal/bytealg.MaxLen", "unicode/utf8.first", "unicode/utf8.acceptRanges"], apart := false, laid := [("unicode/utf8.acceptRanges", laid_unicode_utf8_acceptRanges), ("unicode/utf8.first", laid_unicode_utf8_first)], narrowed := true }
def MappingTogetherUptoSaid : Prop := mappingTogetherUptoRow.holds Tryz.pinned (OpenSpec.upto mappingTogetherSpec)

/-- 'identitylaw47.MappingValid', WHERE WHAT IT READS IS OF BULK AT MOST 1048576: true; the input reads as it did. -/
def mappingValidUptoRow : OpenClaim := { program := "ytonefhconcccbaagreatdoor", sum := "e02163cc57064cc8d7ef9dfbbb4618a0263978cd7f782f5ea2bc80c97de65bf9", func := "identity/identitylaw47.MappingValid", spec := "mappingValid", inPlace := ["internal/bytealg.IndexByteString", "internal/bytealg.IndexString", "internal/abi.NoEscape", "internal/bytealg.MakeNoZero", "internal/bytealg.CountString"], unfollowed := true, recurses := true, named := ["internal/bytealg.MaxLen", "unicode/utf8.first", "unicode/utf8.acceptRanges"], apart := false, laid := [("unicode/utf8.acceptRanges", laid_unicode_utf8_acceptRanges), ("unicode/utf8.first", laid_unicode_utf8_first)], narrowed := true }
def MappingValidUptoSaid : Prop := mappingValidUptoRow.holds Tryz.pinned (OpenSpec.upto mappingValidSpec)

end Rows
end Go.Proofs.YtonefhconcccbaaGreatDoor
