/-
  NARROWER THAN 'FOR EVERY INPUT', by the rows' own cells (each row's printed sentence says how): ReconcilePlays: laid · ReconcileCounts: laid · ReconcileReaches: laid · ReconcileLatest: laid · ReconcileQueue: laid · ReconcileNil: laid.
  DERIVED. THE GIVEN ROWS OF THIS SEAT. 6 by the template 'for every input the law returns true; each argument reads behind the call as it read before'; 0 by the template 'total and deterministic' (their statements: YtidpnpjebanalaaGreatDoorTotals.lean).
  GIVEN WITH THE SEED: the statements are not yours to turn. If you find one false, say at which input.
  Laid BY PROGRAM, IN A SANDBOX (cutbox-rows.mjs): the forced cells as the released guide's own fill.sh prints them over the translation ad0f398dcd1b6817… (all of the seat's roots in one cut). By AI agents, Wed Nov 11 2026. No macro, syntax, notation, axiom, sorry.
-/
import Derived.Test.YtidpnpjebanalaaGreatDoorChecked
import GoSem.PinnedTables
import GoSem.Claim
import GoSem.ClaimJoined
import GoSem.ClaimMapViews
import Derived.JoinedTies
import Derived.KernelRfl
namespace Go.Proofs.YtidpnpjebanalaaGreatDoor
/- THE CELL 'sum', in the pinned program and in every row, IS THE sha256 OF THE DUMP (.gsa) THAT YtidpnpjebanalaaGreatDoorProg.lean LOADS. Nothing in Lean hashes anything: it is a label: what it is worth is what the hold of that sum in a sandbox is worth. -/
noncomputable def Tryz.pinned : Pinned := { name := "ytidpnpjebanalaagreatdoor", sum := "ad0f398dcd1b6817215d5eaffcbf7a5103e499a73405ec671cc8ad5801ba0630", checked := Tryz.checked }
namespace Rows
def none {H : Type} : Left H := { results := [], args := [] }

/- WHAT THE LISTED PACKAGE-LEVEL VARIABLES READ AS WHEN THE CALL BEGINS. Each datum BY PROGRAM (the guide's laid-datum.mjs) off the statement by which the dump's own 'gosem.cut.vars' lays the variable. In a bare row this is a premise. The card (YtidpnpjebanalaaGreatDoorCards.lean) ties it to the program's text. -/
def laid_unicode_utf8_acceptRanges {H : Type} : DataW H := .agg [.agg [.lit (.int .u8 128), .lit (.int .u8 191)], .agg [.lit (.int .u8 160), .lit (.int .u8 191)], .agg [.lit (.int .u8 128), .lit (.int .u8 159)], .agg [.lit (.int .u8 144), .lit (.int .u8 191)], .agg [.lit (.int .u8 128), .lit (.int .u8 143)], .agg [.lit (.int .u8 0), .lit (.int .u8 0)], .agg [.lit (.int .u8 0), .lit (.int .u8 0)], .agg [.lit (.int .u8 0), .lit (.int .u8 0)], .agg [.lit (.int .u8 0), .lit (.int .u8 0)], .agg [.lit (.int .u8 0), .lit (.int .u8 0)], .agg [.lit (.int .u8 0), .lit (.int .u8 0)], .agg [.lit (.int .u8 0), .lit (.int .u8 0)], .agg [.lit (.int .u8 0), .lit (.int .u8 0)], .agg [.lit (.int .u8 0), .lit (.int .u8 0)], .agg [.lit (.int .u8 0), .lit (.int .u8 0)], .agg [.lit (.int .u8 0), .lit (.int .u8 0)]]
/-- One of Go's own tables, pinned by name: the form's constant. -/
def laid_unicode_utf8_first : DataW Unit := Go.Pinned.utf8First

/-- 'identitylaw48.ReconcilePlays': WHATEVER THE INPUT: true; the input reads as it did. -/
def reconcilePlaysSpec : ChangeSpec := { name := "reconcilePlays", fn := fun _ => fun
  | [d1, d2, d3] => { results := [.lit (.bool true)], args := [d1, d2, d3] }
  | _ => none }
def reconcilePlaysRow : OpenClaim := { program := "ytidpnpjebanalaagreatdoor", sum := "ad0f398dcd1b6817215d5eaffcbf7a5103e499a73405ec671cc8ad5801ba0630", func := "identity/identitylaw48.ReconcilePlays", spec := "reconcilePlays", inPlace := ["internal/bytealg.IndexByteString", "internal/bytealg.IndexString"], unfollowed := true, recurses := true, named := ["unicode/utf8.first", "unicode/utf8.acceptRanges", "internal/bytealg.MaxLen"], apart := false, laid := [("unicode/utf8.acceptRanges", laid_unicode_utf8_acceptRanges), ("unicode/utf8.first", laid_unicode_utf8_first)] }
def ReconcilePlaysSaid : Prop := reconcilePlaysRow.holds Tryz.pinned (OpenSpec.ofChange reconcilePlaysSpec)

/-- ITS FALSE NEIGHBOUR: 'it returns false'. Refute it at one input. -/
def reconcilePlaysWrong : ChangeSpec := { name := "reconcilePlays", fn := fun _ => fun
  | [d1, d2, d3] => { results := [.lit (.bool false)], args := [d1, d2, d3] }
  | _ => none }
def ReconcilePlaysWrongFalsely : Prop := reconcilePlaysRow.holds Tryz.pinned (OpenSpec.ofChange reconcilePlaysWrong)

/-- 'identitylaw48.ReconcileCounts': WHATEVER THE INPUT: true; the input reads as it did. -/
def reconcileCountsSpec : ChangeSpec := { name := "reconcileCounts", fn := fun _ => fun
  | [d1, d2] => { results := [.lit (.bool true)], args := [d1, d2] }
  | _ => none }
def reconcileCountsRow : OpenClaim := { program := "ytidpnpjebanalaagreatdoor", sum := "ad0f398dcd1b6817215d5eaffcbf7a5103e499a73405ec671cc8ad5801ba0630", func := "identity/identitylaw48.ReconcileCounts", spec := "reconcileCounts", inPlace := ["internal/bytealg.IndexByteString", "internal/bytealg.IndexString"], unfollowed := true, recurses := true, named := ["unicode/utf8.first", "unicode/utf8.acceptRanges", "internal/bytealg.MaxLen"], apart := false, laid := [("unicode/utf8.acceptRanges", laid_unicode_utf8_acceptRanges), ("unicode/utf8.first", laid_unicode_utf8_first)] }
def ReconcileCountsSaid : Prop := reconcileCountsRow.holds Tryz.pinned (OpenSpec.ofChange reconcileCountsSpec)

/-- ITS FALSE NEIGHBOUR: 'it returns false'. Refute it at one input. -/
def reconcileCountsWrong : ChangeSpec := { name := "reconcileCounts", fn := fun _ => fun
  | [d1, d2] => { results := [.lit (.bool false)], args := [d1, d2] }
  | _ => none }
def ReconcileCountsWrongFalsely : Prop := reconcileCountsRow.holds Tryz.pinned (OpenSpec.ofChange reconcileCountsWrong)

/-- 'identitylaw48.ReconcileReaches': WHATEVER THE INPUT: true; the input reads as it did. -/
def reconcileReachesSpec : ChangeSpec := { name := "reconcileReaches", fn := fun _ => fun
  | [d1, d2, d3] => { results := [.lit (.bool true)], args := [d1, d2, d3] }
  | _ => none }
def reconcileReachesRow : OpenClaim := { program := "ytidpnpjebanalaagreatdoor", sum := "ad0f398dcd1b6817215d5eaffcbf7a5103e499a73405ec671cc8ad5801ba0630", func := "identity/identitylaw48.ReconcileReaches", spec := "reconcileReaches", inPlace := ["internal/bytealg.IndexByteString", "internal/bytealg.IndexString"], unfollowed := true, recurses := true, named := ["unicode/utf8.first", "unicode/utf8.acceptRanges", "internal/bytealg.MaxLen"], apart := false, laid := [("unicode/utf8.acceptRanges", laid_unicode_utf8_acceptRanges), ("unicode/utf8.first", laid_unicode_utf8_first)] }
def ReconcileReachesSaid : Prop := reconcileReachesRow.holds Tryz.pinned (OpenSpec.ofChange reconcileReachesSpec)

/-- ITS FALSE NEIGHBOUR: 'it returns false'. Refute it at one input. -/
def reconcileReachesWrong : ChangeSpec := { name := "reconcileReaches", fn := fun _ => fun
  | [d1, d2, d3] => { results := [.lit (.bool false)], args := [d1, d2, d3] }
  | _ => none }
def ReconcileReachesWrongFalsely : Prop := reconcileReachesRow.holds Tryz.pinned (OpenSpec.ofChange reconcileReachesWrong)

/-- 'identitylaw48.ReconcileLatest': WHATEVER THE INPUT: true; the input reads as it did. -/
def reconcileLatestSpec : ChangeSpec := { name := "reconcileLatest", fn := fun _ => fun
  | [d1, d2] => { results := [.lit (.bool true)], args := [d1, d2] }
  | _ => none }
def reconcileLatestRow : OpenClaim := { program := "ytidpnpjebanalaagreatdoor", sum := "ad0f398dcd1b6817215d5eaffcbf7a5103e499a73405ec671cc8ad5801ba0630", func := "identity/identitylaw48.ReconcileLatest", spec := "reconcileLatest", inPlace := ["internal/bytealg.IndexByteString", "internal/bytealg.IndexString"], unfollowed := true, recurses := true, named := ["unicode/utf8.first", "unicode/utf8.acceptRanges", "internal/bytealg.MaxLen"], apart := false, laid := [("unicode/utf8.acceptRanges", laid_unicode_utf8_acceptRanges), ("unicode/utf8.first", laid_unicode_utf8_first)] }
def ReconcileLatestSaid : Prop := reconcileLatestRow.holds Tryz.pinned (OpenSpec.ofChange reconcileLatestSpec)

/-- ITS FALSE NEIGHBOUR: 'it returns false'. Refute it at one input. -/
def reconcileLatestWrong : ChangeSpec := { name := "reconcileLatest", fn := fun _ => fun
  | [d1, d2] => { results := [.lit (.bool false)], args := [d1, d2] }
  | _ => none }
def ReconcileLatestWrongFalsely : Prop := reconcileLatestRow.holds Tryz.pinned (OpenSpec.ofChange reconcileLatestWrong)

/-- 'identitylaw48.ReconcileQueue': WHATEVER THE INPUT: true; the input reads as it did. -/
def reconcileQueueSpec : ChangeSpec := { name := "reconcileQueue", fn := fun _ => fun
  | [d1, d2, d3] => { results := [.lit (.bool true)], args := [d1, d2, d3] }
  | _ => none }
def reconcileQueueRow : OpenClaim := { program := "ytidpnpjebanalaagreatdoor", sum := "ad0f398dcd1b6817215d5eaffcbf7a5103e499a73405ec671cc8ad5801ba0630", func := "identity/identitylaw48.ReconcileQueue", spec := "reconcileQueue", inPlace := ["internal/bytealg.IndexByteString", "internal/bytealg.IndexString"], unfollowed := true, recurses := true, named := ["unicode/utf8.first", "unicode/utf8.acceptRanges", "internal/bytealg.MaxLen"], apart := false, laid := [("unicode/utf8.acceptRanges", laid_unicode_utf8_acceptRanges), ("unicode/utf8.first", laid_unicode_utf8_first)] }
def ReconcileQueueSaid : Prop := reconcileQueueRow.holds Tryz.pinned (OpenSpec.ofChange reconcileQueueSpec)

/-- ITS FALSE NEIGHBOUR: 'it returns false'. Refute it at one input. -/
def reconcileQueueWrong : ChangeSpec := { name := "reconcileQueue", fn := fun _ => fun
  | [d1, d2, d3] => { results := [.lit (.bool false)], args := [d1, d2, d3] }
  | _ => none }
def ReconcileQueueWrongFalsely : Prop := reconcileQueueRow.holds Tryz.pinned (OpenSpec.ofChange reconcileQueueWrong)

/-- 'identitylaw48.ReconcileNil': WHATEVER THE INPUT: true; the input reads as it did. -/
def reconcileNilSpec : ChangeSpec := { name := "reconcileNil", fn := fun _ => fun
  | [d] => { results := [.lit (.bool true)], args := [d] }
  | _ => none }
def reconcileNilRow : OpenClaim := { program := "ytidpnpjebanalaagreatdoor", sum := "ad0f398dcd1b6817215d5eaffcbf7a5103e499a73405ec671cc8ad5801ba0630", func := "identity/identitylaw48.ReconcileNil", spec := "reconcileNil", inPlace := ["internal/bytealg.IndexByteString", "internal/bytealg.IndexString"], unfollowed := true, recurses := true, named := ["unicode/utf8.first", "unicode/utf8.acceptRanges", "internal/bytealg.MaxLen"], apart := false, laid := [("unicode/utf8.acceptRanges", laid_unicode_utf8_acceptRanges), ("unicode/utf8.first", laid_unicode_utf8_first)] }
def ReconcileNilSaid : Prop := reconcileNilRow.holds Tryz.pinned (OpenSpec.ofChange reconcileNilSpec)

/-- ITS FALSE NEIGHBOUR: 'it returns false'. Refute it at one input. -/
def reconcileNilWrong : ChangeSpec := { name := "reconcileNil", fn := fun _ => fun
  | [d] => { results := [.lit (.bool false)], args := [d] }
  | _ => none }
def ReconcileNilWrongFalsely : Prop := reconcileNilRow.holds Tryz.pinned (OpenSpec.ofChange reconcileNilWrong)

/- THE SECOND FORM. 'bulk': how many values and letters a reading holds, each counted each time it is reached (what is shared counts as often as it is met; a slice's spare places count too). A statement '..UptoSaid' is the law's where the arguments, and the package variables that the reading takes, are together of bulk at most 1048576: NARROWER than '..Said'. Prove '..Said' where nothing that the law and all that it calls make is longer than what came in: it says more and counts as full. Else prove '..UptoSaid'. A law counts once. -/
mutual
def uptoBulk {H : Type} : DataW H → Nat
  | .lit (.string bytes) => bytes.length + 1
  | .lit _ => 1
  | .nil => 1
  | .ptr d => uptoBulk d + 1
  | .slice elems spare => uptoBulkAll elems + uptoBulkAll spare + 1
  | .agg parts => uptoBulkAll parts + 1
  | .iface _ d => uptoBulk d + 1
  | .map entries => uptoBulkEntries entries + 1
  | .held _ => 1
def uptoBulkAll {H : Type} : List (DataW H) → Nat
  | [] => 0
  | d :: r => uptoBulk d + uptoBulkAll r
def uptoBulkEntries {H : Type} : List (Lit × DataW H) → Nat
  | [] => 0
  | x :: r => uptoBulkEntry x + uptoBulkEntries r
def uptoBulkEntry {H : Type} : Lit × DataW H → Nat
  | (.string bytes, d) => bytes.length + uptoBulk d + 1
  | (_, d) => uptoBulk d + 1
 end
def uptoSmall : (H : Type) → List (DataW H) → Bool := fun _ ds => decide (uptoBulkAll ds ≤ 1048576)
def OpenSpec.upto (s : _root_.Go.ChangeSpec) : _root_.Go.OpenSpec := { _root_.Go.OpenSpec.ofChange s with cond := some uptoSmall }

/-- 'identitylaw48.ReconcilePlays', WHERE WHAT IT READS IS OF BULK AT MOST 1048576: true; the input reads as it did. -/
def reconcilePlaysUptoRow : OpenClaim := { program := "ytidpnpjebanalaagreatdoor", sum := "ad0f398dcd1b6817215d5eaffcbf7a5103e499a73405ec671cc8ad5801ba0630", func := "identity/identitylaw48.ReconcilePlays", spec := "reconcilePlays", inPlace := ["internal/bytealg.IndexByteString", "internal/bytealg.IndexString"], unfollowed := true, recurses := true, named := ["unicode/utf8.first", "unicode/utf8.acceptRanges", "internal/bytealg.MaxLen"], apart := false, laid := [("unicode/utf8.acceptRanges", laid_unicode_utf8_acceptRanges), ("unicode/utf8.first", laid_unicode_utf8_first)], narrowed := true }
def ReconcilePlaysUptoSaid : Prop := reconcilePlaysUptoRow.holds Tryz.pinned (OpenSpec.upto reconcilePlaysSpec)

/-- 'identitylaw48.ReconcileCounts', WHERE WHAT IT READS IS OF BULK AT MOST 1048576: true; the input reads as it did. -/
def reconcileCountsUptoRow : OpenClaim := { program := "ytidpnpjebanalaagreatdoor", sum := "ad0f398dcd1b6817215d5eaffcbf7a5103e499a73405ec671cc8ad5801ba0630", func := "identity/identitylaw48.ReconcileCounts", spec := "reconcileCounts", inPlace := ["internal/bytealg.IndexByteString", "internal/bytealg.IndexString"], unfollowed := true, recurses := true, named := ["unicode/utf8.first", "unicode/utf8.acceptRanges", "internal/bytealg.MaxLen"], apart := false, laid := [("unicode/utf8.acceptRanges", laid_unicode_utf8_acceptRanges), ("unicode/utf8.first", laid_unicode_utf8_first)], narrowed := true }
def ReconcileCountsUptoSaid : Prop := reconcileCountsUptoRow.holds Tryz.pinned (OpenSpec.upto reconcileCountsSpec)

/-- 'identitylaw48.ReconcileReaches', WHERE WHAT IT READS IS OF BULK AT MOST 1048576: true; the input reads as it did. -/
def reconcileReachesUptoRow : OpenClaim := { program := "ytidpnpjebanalaagreatdoor", sum := "ad0f398dcd1b6817215d5eaffcbf7a5103e499a73405ec671cc8ad5801ba0630", func := "identity/identitylaw48.ReconcileReaches", spec := "reconcileReaches", inPlace := ["internal/bytealg.IndexByteString", "internal/bytealg.IndexString"], unfollowed := true, recurses := true, named := ["unicode/utf8.first", "unicode/utf8.acceptRanges", "internal/bytealg.MaxLen"], apart := false, laid := [("unicode/utf8.acceptRanges", laid_unicode_utf8_acceptRanges), ("unicode/utf8.first", laid_unicode_utf8_first)], narrowed := true }
def ReconcileReachesUptoSaid : Prop := reconcileReachesUptoRow.holds Tryz.pinned (OpenSpec.upto reconcileReachesSpec)

/-- 'identitylaw48.ReconcileLatest', WHERE WHAT IT READS IS OF BULK AT MOST 1048576: true; the input reads as it did. -/
def reconcileLatestUptoRow : OpenClaim := { program := "ytidpnpjebanalaagreatdoor", sum := "ad0f398dcd1b6817215d5eaffcbf7a5103e499a73405ec671cc8ad5801ba0630", func := "identity/identitylaw48.ReconcileLatest", spec := "reconcileLatest", inPlace := ["internal/bytealg.IndexByteString", "internal/bytealg.IndexString"], unfollowed := true, recurses := true, named := ["unicode/utf8.first", "unicode/utf8.acceptRanges", "internal/bytealg.MaxLen"], apart := false, laid := [("unicode/utf8.acceptRanges", laid_unicode_utf8_acceptRanges), ("unicode/utf8.first", laid_unicode_utf8_first)], narrowed := true }
def ReconcileLatestUptoSaid : Prop := reconcileLatestUptoRow.holds Tryz.pinned (OpenSpec.upto reconcileLatestSpec)

/-- 'identitylaw48.ReconcileQueue', WHERE WHAT IT READS IS OF BULK AT MOST 1048576: true; the input reads as it did. -/
def reconcileQueueUptoRow : OpenClaim := { program := "ytidpnpjebanalaagreatdoor", sum := "ad0f398dcd1b6817215d5eaffcbf7a5103e499a73405ec671cc8ad5801ba0630", func := "identity/identitylaw48.ReconcileQueue", spec := "reconcileQueue", inPlace := ["internal/bytealg.IndexByteString", "internal/bytealg.IndexString"], unfollowed := true, recurses := true, named := ["unicode/utf8.first", "unicode/utf8.acceptRanges", "internal/bytealg.MaxLen"], apart := false, laid := [("unicode/utf8.acceptRanges", laid_unicode_utf8_acceptRanges), ("unicode/utf8.first", laid_unicode_utf8_first)], narrowed := true }
def ReconcileQueueUptoSaid : Prop := reconcileQueueUptoRow.holds Tryz.pinned (OpenSpec.upto reconcileQueueSpec)

/-- 'identitylaw48.ReconcileNil', WHERE WHAT IT READS IS OF BULK AT MOST 1048576: true; the input reads as it did. -/
def reconcileNilUptoRow : OpenClaim := { program := "ytidpnpjebanalaagreatdoor", sum := "ad0f398dcd1b6817215d5eaffcbf7a5103e499a73405ec671cc8ad5801ba0630", func := "identity/identitylaw48.ReconcileNil", spec := "reconcileNil", inPlace := ["internal/bytealg.IndexByteString", "internal/bytealg.IndexString"], unfollowed := true, recurses := true, named := ["unicode/utf8.first", "unicode/utf8.acceptRanges", "internal/bytealg.MaxLen"], apart := false, laid := [("unicode/utf8.acceptRanges", laid_unicode_utf8_acceptRanges), ("unicode/utf8.first", laid_unicode_utf8_first)], narrowed := true }
def ReconcileNilUptoSaid : Prop := reconcileNilUptoRow.holds Tryz.pinned (OpenSpec.upto reconcileNilSpec)

end Rows
end Go.Proofs.YtidpnpjebanalaaGreatDoor
