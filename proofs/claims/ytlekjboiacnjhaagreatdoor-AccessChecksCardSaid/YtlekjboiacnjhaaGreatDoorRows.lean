/-
  NARROWER THAN 'FOR EVERY INPUT', by the rows' own cells (each row's printed sentence says how): AccessChecks: laid · AccessViews: laid · AccessReturns: laid · AccessOrders: laid · AccessLocal: laid · AccessLines: laid.
  DERIVED. THE GIVEN ROWS OF THIS SEAT. 6 by the template 'for every input the law returns true; each argument reads behind the call as it read before'; 0 by the template 'total and deterministic' (their statements: YtlekjboiacnjhaaGreatDoorTotals.lean).
  GIVEN WITH THE SEED: the statements are not yours to turn. If you find one false, say at which input.
  Laid BY PROGRAM, IN A SANDBOX (cutbox-rows.mjs): the forced cells as the released guide's own fill.sh prints them over the translation 9289ee5b499bfab6… (all of the seat's roots in one cut). By AI agents, Wed Nov 11 2026. No macro, syntax, notation, axiom, sorry.
-/
import Derived.Test.YtlekjboiacnjhaaGreatDoorChecked
import GoSem.PinnedTables
import GoSem.Claim
import GoSem.ClaimJoined
import GoSem.ClaimMapViews
import Derived.JoinedTies
import Derived.KernelRfl
namespace Go.Proofs.YtlekjboiacnjhaaGreatDoor
/- THE CELL 'sum', in the pinned program and in every row, IS THE sha256 OF THE DUMP (.gsa) THAT YtlekjboiacnjhaaGreatDoorProg.lean LOADS. Nothing in Lean hashes anything: it is a label: what it is worth is what the hold of that sum in a sandbox is worth. -/
noncomputable def Tryz.pinned : Pinned := { name := "ytlekjboiacnjhaagreatdoor", sum := "9289ee5b499bfab62df7dd7d093c989657eb4b287fce025ac64a9c959eb48097", checked := Tryz.checked }
namespace Rows
def none {H : Type} : Left H := { results := [], args := [] }

/- WHAT THE LISTED PACKAGE-LEVEL VARIABLES READ AS WHEN THE CALL BEGINS. Each datum BY PROGRAM (the guide's laid-datum.mjs) off the statement by which the dump's own 'gosem.cut.vars' lays the variable. In a bare row this is a premise. The card (YtlekjboiacnjhaaGreatDoorCards.lean) ties it to the program's text. -/
def laid_unicode_utf8_acceptRanges {H : Type} : DataW H := .agg [.agg [.lit (.int .u8 128), .lit (.int .u8 191)], .agg [.lit (.int .u8 160), .lit (.int .u8 191)], .agg [.lit (.int .u8 128), .lit (.int .u8 159)], .agg [.lit (.int .u8 144), .lit (.int .u8 191)], .agg [.lit (.int .u8 128), .lit (.int .u8 143)], .agg [.lit (.int .u8 0), .lit (.int .u8 0)], .agg [.lit (.int .u8 0), .lit (.int .u8 0)], .agg [.lit (.int .u8 0), .lit (.int .u8 0)], .agg [.lit (.int .u8 0), .lit (.int .u8 0)], .agg [.lit (.int .u8 0), .lit (.int .u8 0)], .agg [.lit (.int .u8 0), .lit (.int .u8 0)], .agg [.lit (.int .u8 0), .lit (.int .u8 0)], .agg [.lit (.int .u8 0), .lit (.int .u8 0)], .agg [.lit (.int .u8 0), .lit (.int .u8 0)], .agg [.lit (.int .u8 0), .lit (.int .u8 0)], .agg [.lit (.int .u8 0), .lit (.int .u8 0)]]
/-- One of Go's own tables, pinned by name: the form's constant. -/
def laid_unicode_utf8_first : DataW Unit := Go.Pinned.utf8First

/-- 'identitylaw14.AccessChecks': WHATEVER THE INPUT: true; the input reads as it did. -/
def accessChecksSpec : ChangeSpec := { name := "accessChecks", fn := fun _ => fun
  | [d1, d2] => { results := [.lit (.bool true)], args := [d1, d2] }
  | _ => none }
def accessChecksRow : OpenClaim := { program := "ytlekjboiacnjhaagreatdoor", sum := "9289ee5b499bfab62df7dd7d093c989657eb4b287fce025ac64a9c959eb48097", func := "identity/identitylaw14.AccessChecks", spec := "accessChecks", inPlace := ["internal/bytealg.IndexByteString", "internal/bytealg.IndexString", "internal/abi.NoEscape", "internal/bytealg.MakeNoZero", "internal/bytealg.CountString"], unfollowed := true, recurses := true, named := ["unicode/utf8.first", "unicode/utf8.acceptRanges", "internal/bytealg.MaxLen"], apart := false, laid := [("unicode/utf8.acceptRanges", laid_unicode_utf8_acceptRanges), ("unicode/utf8.first", laid_unicode_utf8_first)] }
def AccessChecksSaid : Prop := accessChecksRow.holds Tryz.pinned (OpenSpec.ofChange accessChecksSpec)

/-- ITS FALSE NEIGHBOUR: 'it returns false'. Refute it at one input. -/
def accessChecksWrong : ChangeSpec := { name := "accessChecks", fn := fun _ => fun
  | [d1, d2] => { results := [.lit (.bool false)], args := [d1, d2] }
  | _ => none }
def AccessChecksWrongFalsely : Prop := accessChecksRow.holds Tryz.pinned (OpenSpec.ofChange accessChecksWrong)

/-- 'identitylaw14.AccessViews': WHATEVER THE INPUT: true; the input reads as it did. -/
def accessViewsSpec : ChangeSpec := { name := "accessViews", fn := fun _ => fun
  | [d1, d2, d3] => { results := [.lit (.bool true)], args := [d1, d2, d3] }
  | _ => none }
def accessViewsRow : OpenClaim := { program := "ytlekjboiacnjhaagreatdoor", sum := "9289ee5b499bfab62df7dd7d093c989657eb4b287fce025ac64a9c959eb48097", func := "identity/identitylaw14.AccessViews", spec := "accessViews", inPlace := ["internal/bytealg.IndexByteString", "internal/bytealg.IndexString", "internal/abi.NoEscape", "internal/bytealg.MakeNoZero", "internal/bytealg.CountString"], unfollowed := true, recurses := true, named := ["unicode/utf8.first", "unicode/utf8.acceptRanges", "internal/bytealg.MaxLen"], apart := false, laid := [("unicode/utf8.acceptRanges", laid_unicode_utf8_acceptRanges), ("unicode/utf8.first", laid_unicode_utf8_first)] }
def AccessViewsSaid : Prop := accessViewsRow.holds Tryz.pinned (OpenSpec.ofChange accessViewsSpec)

/-- ITS FALSE NEIGHBOUR: 'it returns false'. Refute it at one input. -/
def accessViewsWrong : ChangeSpec := { name := "accessViews", fn := fun _ => fun
  | [d1, d2, d3] => { results := [.lit (.bool false)], args := [d1, d2, d3] }
  | _ => none }
def AccessViewsWrongFalsely : Prop := accessViewsRow.holds Tryz.pinned (OpenSpec.ofChange accessViewsWrong)

/-- 'identitylaw14.AccessReturns': WHATEVER THE INPUT: true; the input reads as it did. -/
def accessReturnsSpec : ChangeSpec := { name := "accessReturns", fn := fun _ => fun
  | [d1, d2] => { results := [.lit (.bool true)], args := [d1, d2] }
  | _ => none }
def accessReturnsRow : OpenClaim := { program := "ytlekjboiacnjhaagreatdoor", sum := "9289ee5b499bfab62df7dd7d093c989657eb4b287fce025ac64a9c959eb48097", func := "identity/identitylaw14.AccessReturns", spec := "accessReturns", inPlace := ["internal/bytealg.IndexByteString", "internal/bytealg.IndexString", "internal/abi.NoEscape", "internal/bytealg.MakeNoZero", "internal/bytealg.CountString"], unfollowed := true, recurses := true, named := ["unicode/utf8.first", "unicode/utf8.acceptRanges", "internal/bytealg.MaxLen"], apart := false, laid := [("unicode/utf8.acceptRanges", laid_unicode_utf8_acceptRanges), ("unicode/utf8.first", laid_unicode_utf8_first)] }
def AccessReturnsSaid : Prop := accessReturnsRow.holds Tryz.pinned (OpenSpec.ofChange accessReturnsSpec)

/-- ITS FALSE NEIGHBOUR: 'it returns false'. Refute it at one input. -/
def accessReturnsWrong : ChangeSpec := { name := "accessReturns", fn := fun _ => fun
  | [d1, d2] => { results := [.lit (.bool false)], args := [d1, d2] }
  | _ => none }
def AccessReturnsWrongFalsely : Prop := accessReturnsRow.holds Tryz.pinned (OpenSpec.ofChange accessReturnsWrong)

/-- 'identitylaw14.AccessOrders': WHATEVER THE INPUT: true; the input reads as it did. -/
def accessOrdersSpec : ChangeSpec := { name := "accessOrders", fn := fun _ => fun
  | [d1, d2] => { results := [.lit (.bool true)], args := [d1, d2] }
  | _ => none }
def accessOrdersRow : OpenClaim := { program := "ytlekjboiacnjhaagreatdoor", sum := "9289ee5b499bfab62df7dd7d093c989657eb4b287fce025ac64a9c959eb48097", func := "identity/identitylaw14.AccessOrders", spec := "accessOrders", inPlace := ["internal/bytealg.IndexByteString", "internal/bytealg.IndexString", "internal/abi.NoEscape", "internal/bytealg.MakeNoZero", "internal/bytealg.CountString"], unfollowed := true, recurses := true, named := ["unicode/utf8.first", "unicode/utf8.acceptRanges", "internal/bytealg.MaxLen"], apart := false, laid := [("unicode/utf8.acceptRanges", laid_unicode_utf8_acceptRanges), ("unicode/utf8.first", laid_unicode_utf8_first)] }
def AccessOrdersSaid : Prop := accessOrdersRow.holds Tryz.pinned (OpenSpec.ofChange accessOrdersSpec)

/-- ITS FALSE NEIGHBOUR: 'it returns false'. Refute it at one input. -/
def accessOrdersWrong : ChangeSpec := { name := "accessOrders", fn := fun _ => fun
  | [d1, d2] => { results := [.lit (.bool false)], args := [d1, d2] }
  | _ => none }
def AccessOrdersWrongFalsely : Prop := accessOrdersRow.holds Tryz.pinned (OpenSpec.ofChange accessOrdersWrong)

/-- 'identitylaw14.AccessLocal': WHATEVER THE INPUT: true; the input reads as it did. -/
def accessLocalSpec : ChangeSpec := { name := "accessLocal", fn := fun _ => fun
  | [d1, d2] => { results := [.lit (.bool true)], args := [d1, d2] }
  | _ => none }
def accessLocalRow : OpenClaim := { program := "ytlekjboiacnjhaagreatdoor", sum := "9289ee5b499bfab62df7dd7d093c989657eb4b287fce025ac64a9c959eb48097", func := "identity/identitylaw14.AccessLocal", spec := "accessLocal", inPlace := ["internal/bytealg.IndexByteString", "internal/bytealg.IndexString", "internal/abi.NoEscape", "internal/bytealg.MakeNoZero", "internal/bytealg.CountString"], unfollowed := true, recurses := true, named := ["unicode/utf8.first", "unicode/utf8.acceptRanges", "internal/bytealg.MaxLen"], apart := false, laid := [("unicode/utf8.acceptRanges", laid_unicode_utf8_acceptRanges), ("unicode/utf8.first", laid_unicode_utf8_first)] }
def AccessLocalSaid : Prop := accessLocalRow.holds Tryz.pinned (OpenSpec.ofChange accessLocalSpec)

/-- ITS FALSE NEIGHBOUR: 'it returns false'. Refute it at one input. -/
def accessLocalWrong : ChangeSpec := { name := "accessLocal", fn := fun _ => fun
  | [d1, d2] => { results := [.lit (.bool false)], args := [d1, d2] }
  | _ => none }
def AccessLocalWrongFalsely : Prop := accessLocalRow.holds Tryz.pinned (OpenSpec.ofChange accessLocalWrong)

/-- 'identitylaw14.AccessLines': WHATEVER THE INPUT: true; the input reads as it did. -/
def accessLinesSpec : ChangeSpec := { name := "accessLines", fn := fun _ => fun
  | [d] => { results := [.lit (.bool true)], args := [d] }
  | _ => none }
def accessLinesRow : OpenClaim := { program := "ytlekjboiacnjhaagreatdoor", sum := "9289ee5b499bfab62df7dd7d093c989657eb4b287fce025ac64a9c959eb48097", func := "identity/identitylaw14.AccessLines", spec := "accessLines", inPlace := ["internal/bytealg.IndexByteString", "internal/bytealg.IndexString", "internal/abi.NoEscape", "internal/bytealg.MakeNoZero", "internal/bytealg.CountString"], unfollowed := true, recurses := true, named := ["unicode/utf8.first", "unicode/utf8.acceptRanges", "internal/bytealg.MaxLen"], apart := false, laid := [("unicode/utf8.acceptRanges", laid_unicode_utf8_acceptRanges), ("unicode/utf8.first", laid_unicode_utf8_first)] }
def AccessLinesSaid : Prop := accessLinesRow.holds Tryz.pinned (OpenSpec.ofChange accessLinesSpec)

/-- ITS FALSE NEIGHBOUR: 'it returns false'. Refute it at one input. -/
def accessLinesWrong : ChangeSpec := { name := "accessLines", fn := fun _ => fun
  | [d] => { results := [.lit (.bool false)], args := [d] }
  | _ => none }
def AccessLinesWrongFalsely : Prop := accessLinesRow.holds Tryz.pinned (OpenSpec.ofChange accessLinesWrong)

/- THE SECOND FORM. 'bulk': how many values and letters a reading holds, each counted each time it is reached (what is shared counts as often as it is met; a slice's spare places count too). A statement '..UptoSaid' is the law's where the arguments, and the package variables that the reading takes, are together of bulk at most 1048576: NARROWER than '..Said'. Prove '..Said' where nothing that the law and all that it calls make is longer than what came in: it says more and counts as full. Else prove '..UptoSaid'. A law counts once. -/
mutual
def uptoBulk {H : Type} : DataW H → Nat
  | .lit (.string bytes) => bytes.length + 1
  | .lit _ => 1
  | .nil => 1
  | .ptr d => uptoBulk d + 1
  | .slice elems spare => uptoBulkAll elems + uptoBulkAll spare + 1
  | .agg parts => uptoBulkAll parts + 1
  | .iface _ d => uptoBulk d + 1
  | .map entries => uptoBulkEntries entries + 1
  | .held _ => 1
def uptoBulkAll {H : Type} : List (DataW H) → Nat
  | [] => 0
  | d :: r => uptoBulk d + uptoBulkAll r
def uptoBulkEntries {H : Type} : List (Lit × DataW H) → Nat
  | [] => 0
  | x :: r => uptoBulkEntry x + uptoBulkEntries r
def uptoBulkEntry {H : Type} : Lit × DataW H → Nat
  | (.string bytes, d) => bytes.length + uptoBulk d + 1
  | (_, d) => uptoBulk d + 1
 end
def uptoSmall : (H : Type) → List (DataW H) → Bool := fun _ ds => decide (uptoBulkAll ds ≤ 1048576)
def OpenSpec.upto (s : _root_.Go.ChangeSpec) : _root_.Go.OpenSpec := { _root_.Go.OpenSpec.ofChange s with cond := some uptoSmall }

/-- 'identitylaw14.AccessChecks', WHERE WHAT IT READS IS OF BULK AT MOST 1048576: true; the input reads as it did. -/
def accessChecksUptoRow : OpenClaim := { program := "ytlekjboiacnjhaagreatdoor", sum := "9289ee5b499bfab62df7dd7d093c989657eb4b287fce025ac64a9c959eb48097", func := "identity/identitylaw14.AccessChecks", spec := "accessChecks", inPlace := ["internal/bytealg.IndexByteString", "internal/bytealg.IndexString", "internal/abi.NoEscape", "internal/bytealg.MakeNoZero", "internal/bytealg.CountString"], unfollowed := true, recurses := true, named := ["unicode/utf8.first", "unicode/utf8.acceptRanges", "internal/bytealg.MaxLen"], apart := false, laid := [("unicode/utf8.acceptRanges", laid_unicode_utf8_acceptRanges), ("unicode/utf8.first", laid_unicode_utf8_first)], narrowed := true }
def AccessChecksUptoSaid : Prop := accessChecksUptoRow.holds Tryz.pinned (OpenSpec.upto accessChecksSpec)

/-- 'identitylaw14.AccessViews', WHERE WHAT IT READS IS OF BULK AT MOST 1048576: true; the input reads as it did. -/
def accessViewsUptoRow : OpenClaim := { program := "ytlekjboiacnjhaagreatdoor", sum := "9289ee5b499bfab62df7dd7d093c989657eb4b287fce025ac64a9c959eb48097", func := "identity/identitylaw14.AccessViews", spec := "accessViews", inPlace := ["internal/bytealg.IndexByteString", "internal/bytealg.IndexString", "internal/abi.NoEscape", "internal/bytealg.MakeNoZero", "internal/bytealg.CountString"], unfollowed := true, recurses := true, named := ["unicode/utf8.first", "unicode/utf8.acceptRanges", "internal/bytealg.MaxLen"], apart := false, laid := [("unicode/utf8.acceptRanges", laid_unicode_utf8_acceptRanges), ("unicode/utf8.first", laid_unicode_utf8_first)], narrowed := true }
def AccessViewsUptoSaid : Prop := accessViewsUptoRow.holds Tryz.pinned (OpenSpec.upto accessViewsSpec)

/-- 'identitylaw14.AccessReturns', WHERE WHAT IT READS IS OF BULK AT MOST 1048576: true; the input reads as it did. -/
def accessReturnsUptoRow : OpenClaim := { program := "ytlekjboiacnjhaagreatdoor", sum := "9289ee5b499bfab62df7dd7d093c989657eb4b287fce025ac64a9c959eb48097", func := "identity/identitylaw14.AccessReturns", spec := "accessReturns", inPlace := ["internal/bytealg.IndexByteString", "internal/bytealg.IndexString", "internal/abi.NoEscape", "internal/bytealg.MakeNoZero", "internal/bytealg.CountString"], unfollowed := true, recurses := true, named := ["unicode/utf8.first", "unicode/utf8.acceptRanges", "internal/bytealg.MaxLen"], apart := false, laid := [("unicode/utf8.acceptRanges", laid_unicode_utf8_acceptRanges), ("unicode/utf8.first", laid_unicode_utf8_first)], narrowed := true }
def AccessReturnsUptoSaid : Prop := accessReturnsUptoRow.holds Tryz.pinned (OpenSpec.upto accessReturnsSpec)

/-- 'identitylaw14.AccessOrders', WHERE WHAT IT READS IS OF BULK AT MOST 1048576: true; the input reads as it did. -/
def accessOrdersUptoRow : OpenClaim := { program := "ytlekjboiacnjhaagreatdoor", sum := "9289ee5b499bfab62df7dd7d093c989657eb4b287fce025ac64a9c959eb48097", func := "identity/identitylaw14.AccessOrders", spec := "accessOrders", inPlace := ["internal/bytealg.IndexByteString", "internal/bytealg.IndexString", "internal/abi.NoEscape", "internal/bytealg.MakeNoZero", "internal/bytealg.CountString"], unfollowed := true, recurses := true, named := ["unicode/utf8.first", "unicode/utf8.acceptRanges", "internal/bytealg.MaxLen"], apart := false, laid := [("unicode/utf8.acceptRanges", laid_unicode_utf8_acceptRanges), ("unicode/utf8.first", laid_unicode_utf8_first)], narrowed := true }
def AccessOrdersUptoSaid : Prop := accessOrdersUptoRow.holds Tryz.pinned (OpenSpec.upto accessOrdersSpec)

/-- 'identitylaw14.AccessLocal', WHERE WHAT IT READS IS OF BULK AT MOST 1048576: true; the input reads as it did. -/
def accessLocalUptoRow : OpenClaim := { program := "ytlekjboiacnjhaagreatdoor", sum := "9289ee5b499bfab62df7dd7d093c989657eb4b287fce025ac64a9c959eb48097", func := "identity/identitylaw14.AccessLocal", spec := "accessLocal", inPlace := ["internal/bytealg.IndexByteString", "internal/bytealg.IndexString", "internal/abi.NoEscape", "internal/bytealg.MakeNoZero", "internal/bytealg.CountString"], unfollowed := true, recurses := true, named := ["unicode/utf8.first", "unicode/utf8.acceptRanges", "internal/bytealg.MaxLen"], apart := false, laid := [("unicode/utf8.acceptRanges", laid_unicode_utf8_acceptRanges), ("unicode/utf8.first", laid_unicode_utf8_first)], narrowed := true }
def AccessLocalUptoSaid : Prop := accessLocalUptoRow.holds Tryz.pinned (OpenSpec.upto accessLocalSpec)

/-- 'identitylaw14.AccessLines', WHERE WHAT IT READS IS OF BULK AT MOST 1048576: true; the input reads as it did. -/
def accessLinesUptoRow : OpenClaim := { program := "ytlekjboiacnjhaagreatdoor", sum := "9289ee5b499bfab62df7dd7d093c989657eb4b287fce025ac64a9c959eb48097", func := "identity/identitylaw14.AccessLines", spec := "accessLines", inPlace := ["internal/bytealg.IndexByteString", "internal/bytealg.IndexString", "internal/abi.NoEscape", "internal/bytealg.MakeNoZero", "internal/bytealg.CountString"], unfollowed := true, recurses := true, named := ["unicode/utf8.first", "unicode/utf8.acceptRanges", "internal/bytealg.MaxLen"], apart := false, laid := [("unicode/utf8.acceptRanges", laid_unicode_utf8_acceptRanges), ("unicode/utf8.first", laid_unicode_utf8_first)], narrowed := true }
def AccessLinesUptoSaid : Prop := accessLinesUptoRow.holds Tryz.pinned (OpenSpec.upto accessLinesSpec)

end Rows
end Go.Proofs.YtlekjboiacnjhaaGreatDoor
