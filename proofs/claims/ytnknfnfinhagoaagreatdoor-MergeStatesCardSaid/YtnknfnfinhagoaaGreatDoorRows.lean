/-
  NARROWER THAN 'FOR EVERY INPUT', by the rows' own cells (each row's printed sentence says how): MergeStates: laid · MergeTombs: laid · MergeLatest: laid · MergeNames: laid · MergeClones: laid · MergeOrders: laid.
  DERIVED. THE GIVEN ROWS OF THIS SEAT. 6 by the template 'for every input the law returns true; each argument reads behind the call as it read before'; 0 by the template 'total and deterministic' (their statements: YtnknfnfinhagoaaGreatDoorTotals.lean).
  GIVEN WITH THE SEED: the statements are not yours to turn. If you find one false, say at which input.
  Laid BY PROGRAM, IN A SANDBOX (cutbox-rows.mjs): the forced cells as the released guide's own fill.sh prints them over the translation 652903bb527fddac… (all of the seat's roots in one cut). By AI agents, Wed Nov 11 2026. No macro, syntax, notation, axiom, sorry.
-/
import Derived.Test.YtnknfnfinhagoaaGreatDoorChecked
import GoSem.PinnedTables
import GoSem.Claim
import GoSem.ClaimJoined
import GoSem.ClaimMapViews
import Derived.JoinedTies
import Derived.KernelRfl
namespace Go.Proofs.YtnknfnfinhagoaaGreatDoor
/- THE CELL 'sum', in the pinned program and in every row, IS THE sha256 OF THE DUMP (.gsa) THAT YtnknfnfinhagoaaGreatDoorProg.lean LOADS. Nothing in Lean hashes anything: it is a label: what it is worth is what the hold of that sum in a sandbox is worth. -/
noncomputable def Tryz.pinned : Pinned := { name := "ytnknfnfinhagoaagreatdoor", sum := "652903bb527fddac097282debe2167c50712f67c55fa069ca6ad57efe3de6c74", checked := Tryz.checked }
namespace Rows
def none {H : Type} : Left H := { results := [], args := [] }

/- WHAT THE LISTED PACKAGE-LEVEL VARIABLES READ AS WHEN THE CALL BEGINS. Each datum BY PROGRAM (the guide's laid-datum.mjs) off the statement by which the dump's own 'gosem.cut.vars' lays the variable. In a bare row this is a premise. The card (YtnknfnfinhagoaaGreatDoorCards.lean) ties it to the program's text. -/
def laid_unicode_utf8_acceptRanges {H : Type} : DataW H := .agg [.agg [.lit (.int .u8 128), .lit (.int .u8 191)], .agg [.lit (.int .u8 160), .lit (.int .u8 191)], .agg [.lit (.int .u8 128), .lit (.int .u8 159)], .agg [.lit (.int .u8 144), .lit (.int .u8 191)], .agg [.lit (.int .u8 128), .lit (.int .u8 143)], .agg [.lit (.int .u8 0), .lit (.int .u8 0)], .agg [.lit (.int .u8 0), .lit (.int .u8 0)], .agg [.lit (.int .u8 0), .lit (.int .u8 0)], .agg [.lit (.int .u8 0), .lit (.int .u8 0)], .agg [.lit (.int .u8 0), .lit (.int .u8 0)], .agg [.lit (.int .u8 0), .lit (.int .u8 0)], .agg [.lit (.int .u8 0), .lit (.int .u8 0)], .agg [.lit (.int .u8 0), .lit (.int .u8 0)], .agg [.lit (.int .u8 0), .lit (.int .u8 0)], .agg [.lit (.int .u8 0), .lit (.int .u8 0)], .agg [.lit (.int .u8 0), .lit (.int .u8 0)]]
def laid_identity_change_words {H : Type} : DataW H := .slice [.lit (.string []), .lit (.string [99, 114, 101, 97, 116, 101]), .lit (.string [114, 101, 109, 111, 118, 101]), .lit (.string [114, 101, 110, 97, 109, 101]), .lit (.string [112, 117, 116]), .lit (.string [100, 114, 111, 112])] []
/-- One of Go's own tables, pinned by name: the form's constant. -/
def laid_unicode_utf8_first : DataW Unit := Go.Pinned.utf8First

/-- 'identitylaw17.MergeStates': WHATEVER THE INPUT: true; the input reads as it did. -/
def mergeStatesSpec : ChangeSpec := { name := "mergeStates", fn := fun _ => fun
  | [d1, d2] => { results := [.lit (.bool true)], args := [d1, d2] }
  | _ => none }
def mergeStatesRow : OpenClaim := { program := "ytnknfnfinhagoaagreatdoor", sum := "652903bb527fddac097282debe2167c50712f67c55fa069ca6ad57efe3de6c74", func := "identity/identitylaw17.MergeStates", spec := "mergeStates", inPlace := ["internal/bytealg.IndexByteString", "internal/bytealg.IndexString", "internal/abi.NoEscape", "internal/bytealg.MakeNoZero", "internal/bytealg.abigen_runtime_cmpstring"], unfollowed := true, recurses := true, named := ["unicode/utf8.first", "unicode/utf8.acceptRanges", "identity/change.words", "internal/bytealg.MaxLen"], plainKeys := false, apart := false, laid := [("unicode/utf8.acceptRanges", laid_unicode_utf8_acceptRanges), ("identity/change.words", laid_identity_change_words), ("unicode/utf8.first", laid_unicode_utf8_first)] }
def MergeStatesSaid : Prop := mergeStatesRow.holds Tryz.pinned (OpenSpec.ofChange mergeStatesSpec)

/-- ITS FALSE NEIGHBOUR: 'it returns false'. Refute it at one input. -/
def mergeStatesWrong : ChangeSpec := { name := "mergeStates", fn := fun _ => fun
  | [d1, d2] => { results := [.lit (.bool false)], args := [d1, d2] }
  | _ => none }
def MergeStatesWrongFalsely : Prop := mergeStatesRow.holds Tryz.pinned (OpenSpec.ofChange mergeStatesWrong)

/-- 'identitylaw17.MergeTombs': WHATEVER THE INPUT: true; the input reads as it did. -/
def mergeTombsSpec : ChangeSpec := { name := "mergeTombs", fn := fun _ => fun
  | [d1, d2] => { results := [.lit (.bool true)], args := [d1, d2] }
  | _ => none }
def mergeTombsRow : OpenClaim := { program := "ytnknfnfinhagoaagreatdoor", sum := "652903bb527fddac097282debe2167c50712f67c55fa069ca6ad57efe3de6c74", func := "identity/identitylaw17.MergeTombs", spec := "mergeTombs", inPlace := ["internal/bytealg.IndexByteString", "internal/bytealg.IndexString", "internal/abi.NoEscape", "internal/bytealg.MakeNoZero", "internal/bytealg.abigen_runtime_cmpstring"], unfollowed := true, recurses := true, named := ["unicode/utf8.first", "unicode/utf8.acceptRanges", "identity/change.words", "internal/bytealg.MaxLen"], plainKeys := false, apart := false, laid := [("unicode/utf8.acceptRanges", laid_unicode_utf8_acceptRanges), ("identity/change.words", laid_identity_change_words), ("unicode/utf8.first", laid_unicode_utf8_first)] }
def MergeTombsSaid : Prop := mergeTombsRow.holds Tryz.pinned (OpenSpec.ofChange mergeTombsSpec)

/-- ITS FALSE NEIGHBOUR: 'it returns false'. Refute it at one input. -/
def mergeTombsWrong : ChangeSpec := { name := "mergeTombs", fn := fun _ => fun
  | [d1, d2] => { results := [.lit (.bool false)], args := [d1, d2] }
  | _ => none }
def MergeTombsWrongFalsely : Prop := mergeTombsRow.holds Tryz.pinned (OpenSpec.ofChange mergeTombsWrong)

/-- 'identitylaw17.MergeLatest': WHATEVER THE INPUT: true; the input reads as it did. -/
def mergeLatestSpec : ChangeSpec := { name := "mergeLatest", fn := fun _ => fun
  | [d1, d2] => { results := [.lit (.bool true)], args := [d1, d2] }
  | _ => none }
def mergeLatestRow : OpenClaim := { program := "ytnknfnfinhagoaagreatdoor", sum := "652903bb527fddac097282debe2167c50712f67c55fa069ca6ad57efe3de6c74", func := "identity/identitylaw17.MergeLatest", spec := "mergeLatest", inPlace := ["internal/bytealg.IndexByteString", "internal/bytealg.IndexString", "internal/abi.NoEscape", "internal/bytealg.MakeNoZero", "internal/bytealg.abigen_runtime_cmpstring"], unfollowed := true, recurses := true, named := ["unicode/utf8.first", "unicode/utf8.acceptRanges", "identity/change.words", "internal/bytealg.MaxLen"], plainKeys := false, apart := false, laid := [("unicode/utf8.acceptRanges", laid_unicode_utf8_acceptRanges), ("identity/change.words", laid_identity_change_words), ("unicode/utf8.first", laid_unicode_utf8_first)] }
def MergeLatestSaid : Prop := mergeLatestRow.holds Tryz.pinned (OpenSpec.ofChange mergeLatestSpec)

/-- ITS FALSE NEIGHBOUR: 'it returns false'. Refute it at one input. -/
def mergeLatestWrong : ChangeSpec := { name := "mergeLatest", fn := fun _ => fun
  | [d1, d2] => { results := [.lit (.bool false)], args := [d1, d2] }
  | _ => none }
def MergeLatestWrongFalsely : Prop := mergeLatestRow.holds Tryz.pinned (OpenSpec.ofChange mergeLatestWrong)

/-- 'identitylaw17.MergeNames': WHATEVER THE INPUT: true; the input reads as it did. -/
def mergeNamesSpec : ChangeSpec := { name := "mergeNames", fn := fun _ => fun
  | [d] => { results := [.lit (.bool true)], args := [d] }
  | _ => none }
def mergeNamesRow : OpenClaim := { program := "ytnknfnfinhagoaagreatdoor", sum := "652903bb527fddac097282debe2167c50712f67c55fa069ca6ad57efe3de6c74", func := "identity/identitylaw17.MergeNames", spec := "mergeNames", inPlace := ["internal/bytealg.IndexByteString", "internal/bytealg.IndexString", "internal/abi.NoEscape", "internal/bytealg.MakeNoZero", "internal/bytealg.abigen_runtime_cmpstring"], unfollowed := true, recurses := true, named := ["unicode/utf8.first", "unicode/utf8.acceptRanges", "identity/change.words", "internal/bytealg.MaxLen"], plainKeys := false, apart := false, laid := [("unicode/utf8.acceptRanges", laid_unicode_utf8_acceptRanges), ("identity/change.words", laid_identity_change_words), ("unicode/utf8.first", laid_unicode_utf8_first)] }
def MergeNamesSaid : Prop := mergeNamesRow.holds Tryz.pinned (OpenSpec.ofChange mergeNamesSpec)

/-- ITS FALSE NEIGHBOUR: 'it returns false'. Refute it at one input. -/
def mergeNamesWrong : ChangeSpec := { name := "mergeNames", fn := fun _ => fun
  | [d] => { results := [.lit (.bool false)], args := [d] }
  | _ => none }
def MergeNamesWrongFalsely : Prop := mergeNamesRow.holds Tryz.pinned (OpenSpec.ofChange mergeNamesWrong)

/-- 'identitylaw17.MergeClones': WHATEVER THE INPUT: true; the input reads as it did. -/
def mergeClonesSpec : ChangeSpec := { name := "mergeClones", fn := fun _ => fun
  | [d1, d2] => { results := [.lit (.bool true)], args := [d1, d2] }
  | _ => none }
def mergeClonesRow : OpenClaim := { program := "ytnknfnfinhagoaagreatdoor", sum := "652903bb527fddac097282debe2167c50712f67c55fa069ca6ad57efe3de6c74", func := "identity/identitylaw17.MergeClones", spec := "mergeClones", inPlace := ["internal/bytealg.IndexByteString", "internal/bytealg.IndexString", "internal/abi.NoEscape", "internal/bytealg.MakeNoZero", "internal/bytealg.abigen_runtime_cmpstring", "maps.clone"], unfollowed := true, recurses := true, named := ["unicode/utf8.first", "unicode/utf8.acceptRanges", "identity/change.words", "internal/bytealg.MaxLen"], plainKeys := false, apart := false, laid := [("unicode/utf8.acceptRanges", laid_unicode_utf8_acceptRanges), ("identity/change.words", laid_identity_change_words), ("unicode/utf8.first", laid_unicode_utf8_first)] }
def MergeClonesSaid : Prop := mergeClonesRow.holds Tryz.pinned (OpenSpec.ofChange mergeClonesSpec)

/-- ITS FALSE NEIGHBOUR: 'it returns false'. Refute it at one input. -/
def mergeClonesWrong : ChangeSpec := { name := "mergeClones", fn := fun _ => fun
  | [d1, d2] => { results := [.lit (.bool false)], args := [d1, d2] }
  | _ => none }
def MergeClonesWrongFalsely : Prop := mergeClonesRow.holds Tryz.pinned (OpenSpec.ofChange mergeClonesWrong)

/-- 'identitylaw17.MergeOrders': WHATEVER THE INPUT: true; the input reads as it did. -/
def mergeOrdersSpec : ChangeSpec := { name := "mergeOrders", fn := fun _ => fun
  | [d1, d2] => { results := [.lit (.bool true)], args := [d1, d2] }
  | _ => none }
def mergeOrdersRow : OpenClaim := { program := "ytnknfnfinhagoaagreatdoor", sum := "652903bb527fddac097282debe2167c50712f67c55fa069ca6ad57efe3de6c74", func := "identity/identitylaw17.MergeOrders", spec := "mergeOrders", inPlace := ["internal/bytealg.IndexByteString", "internal/bytealg.IndexString", "internal/abi.NoEscape", "internal/bytealg.MakeNoZero", "internal/bytealg.abigen_runtime_cmpstring"], unfollowed := true, recurses := true, named := ["unicode/utf8.first", "unicode/utf8.acceptRanges", "identity/change.words", "internal/bytealg.MaxLen"], plainKeys := false, apart := false, laid := [("unicode/utf8.acceptRanges", laid_unicode_utf8_acceptRanges), ("identity/change.words", laid_identity_change_words), ("unicode/utf8.first", laid_unicode_utf8_first)] }
def MergeOrdersSaid : Prop := mergeOrdersRow.holds Tryz.pinned (OpenSpec.ofChange mergeOrdersSpec)

/-- ITS FALSE NEIGHBOUR: 'it returns false'. Refute it at one input. -/
def mergeOrdersWrong : ChangeSpec := { name := "mergeOrders", fn := fun _ => fun
  | [d1, d2] => { results := [.lit (.bool false)], args := [d1, d2] }
  | _ => none }
def MergeOrdersWrongFalsely : Prop := mergeOrdersRow.holds Tryz.pinned (OpenSpec.ofChange mergeOrdersWrong)

/- THE SECOND FORM. 'bulk': how many values and letters a reading holds, each counted each time it is reached (what is shared counts as often as it is met; a slice's spare places count too). A statement '..UptoSaid' is the law's where the arguments, and the package variables that the reading takes, are together of bulk at most 1048576: NARROWER than '..Said'. Prove '..Said' where nothing that the law and all that it calls make is longer than what came in: it says more and counts as full. Else prove '..UptoSaid'. A law counts once. -/
mutual
def uptoBulk {H : Type} : DataW H → Nat
  | .lit (.string bytes) => bytes.length + 1
  | .lit _ => 1
  | .nil => 1
  | .ptr d => uptoBulk d + 1
  | .slice elems spare => uptoBulkAll elems + uptoBulkAll spare + 1
  | .agg parts => uptoBulkAll parts + 1
  | .iface _ d => uptoBulk d + 1
  | .map entries => uptoBulkEntries entries + 1
  | .held _ => 1
def uptoBulkAll {H : Type} : List (DataW H) → Nat
  | [] => 0
  | d :: r => uptoBulk d + uptoBulkAll r
def uptoBulkEntries {H : Type} : List (Lit × DataW H) → Nat
  | [] => 0
  | x :: r => uptoBulkEntry x + uptoBulkEntries r
def uptoBulkEntry {H : Type} : Lit × DataW H → Nat
  | (.string bytes, d) => bytes.length + uptoBulk d + 1
  | (_, d) => uptoBulk d + 1
 end
def uptoSmall : (H : Type) → List (DataW H) → Bool := fun _ ds => decide (uptoBulkAll ds ≤ 1048576)
def OpenSpec.upto (s : _root_.Go.ChangeSpec) : _root_.Go.OpenSpec := { _root_.Go.OpenSpec.ofChange s with cond := some uptoSmall }

/-- 'identitylaw17.MergeStates', WHERE WHAT IT READS IS OF BULK AT MOST 1048576: true; the input reads as it did. -/
def mergeStatesUptoRow : OpenClaim := { program := "ytnknfnfinhagoaagreatdoor", sum := "652903bb527fddac097282debe2167c50712f67c55fa069ca6ad57efe3de6c74", func := "identity/identitylaw17.MergeStates", spec := "mergeStates", inPlace := ["internal/bytealg.IndexByteString", "internal/bytealg.IndexString", "internal/abi.NoEscape", "internal/bytealg.MakeNoZero", "internal/bytealg.abigen_runtime_cmpstring"], unfollowed := true, recurses := true, named := ["unicode/utf8.first", "unicode/utf8.acceptRanges", "identity/change.words", "internal/bytealg.MaxLen"], plainKeys := false, apart := false, laid := [("unicode/utf8.acceptRanges", laid_unicode_utf8_acceptRanges), ("identity/change.words", laid_identity_change_words), ("unicode/utf8.first", laid_unicode_utf8_first)], narrowed := true }
def MergeStatesUptoSaid : Prop := mergeStatesUptoRow.holds Tryz.pinned (OpenSpec.upto mergeStatesSpec)

/-- 'identitylaw17.MergeTombs', WHERE WHAT IT READS IS OF BULK AT MOST 1048576: true; the input reads as it did. -/
def mergeTombsUptoRow : OpenClaim := { program := "ytnknfnfinhagoaagreatdoor", sum := "652903bb527fddac097282debe2167c50712f67c55fa069ca6ad57efe3de6c74", func := "identity/identitylaw17.MergeTombs", spec := "mergeTombs", inPlace := ["internal/bytealg.IndexByteString", "internal/bytealg.IndexString", "internal/abi.NoEscape", "internal/bytealg.MakeNoZero", "internal/bytealg.abigen_runtime_cmpstring"], unfollowed := true, recurses := true, named := ["unicode/utf8.first", "unicode/utf8.acceptRanges", "identity/change.words", "internal/bytealg.MaxLen"], plainKeys := false, apart := false, laid := [("unicode/utf8.acceptRanges", laid_unicode_utf8_acceptRanges), ("identity/change.words", laid_identity_change_words), ("unicode/utf8.first", laid_unicode_utf8_first)], narrowed := true }
def MergeTombsUptoSaid : Prop := mergeTombsUptoRow.holds Tryz.pinned (OpenSpec.upto mergeTombsSpec)

/-- 'identitylaw17.MergeLatest', WHERE WHAT IT READS IS OF BULK AT MOST 1048576: true; the input reads as it did. -/
def mergeLatestUptoRow : OpenClaim := { program := "ytnknfnfinhagoaagreatdoor", sum := "652903bb527fddac097282debe2167c50712f67c55fa069ca6ad57efe3de6c74", func := "identity/identitylaw17.MergeLatest", spec := "mergeLatest", inPlace := ["internal/bytealg.IndexByteString", "internal/bytealg.IndexString", "internal/abi.NoEscape", "internal/bytealg.MakeNoZero", "internal/bytealg.abigen_runtime_cmpstring"], unfollowed := true, recurses := true, named := ["unicode/utf8.first", "unicode/utf8.acceptRanges", "identity/change.words", "internal/bytealg.MaxLen"], plainKeys := false, apart := false, laid := [("unicode/utf8.acceptRanges", laid_unicode_utf8_acceptRanges), ("identity/change.words", laid_identity_change_words), ("unicode/utf8.first", laid_unicode_utf8_first)], narrowed := true }
def MergeLatestUptoSaid : Prop := mergeLatestUptoRow.holds Tryz.pinned (OpenSpec.upto mergeLatestSpec)

/-- 'identitylaw17.MergeNames', WHERE WHAT IT READS IS OF BULK AT MOST 1048576: true; the input reads as it did. -/
def mergeNamesUptoRow : OpenClaim := { program := "ytnknfnfinhagoaagreatdoor", sum := "652903bb527fddac097282debe2167c50712f67c55fa069ca6ad57efe3de6c74", func := "identity/identitylaw17.MergeNames", spec := "mergeNames", inPlace := ["internal/bytealg.IndexByteString", "internal/bytealg.IndexString", "internal/abi.NoEscape", "internal/bytealg.MakeNoZero", "internal/bytealg.abigen_runtime_cmpstring"], unfollowed := true, recurses := true, named := ["unicode/utf8.first", "unicode/utf8.acceptRanges", "identity/change.words", "internal/bytealg.MaxLen"], plainKeys := false, apart := false, laid := [("unicode/utf8.acceptRanges", laid_unicode_utf8_acceptRanges), ("identity/change.words", laid_identity_change_words), ("unicode/utf8.first", laid_unicode_utf8_first)], narrowed := true }
def MergeNamesUptoSaid : Prop := mergeNamesUptoRow.holds Tryz.pinned (OpenSpec.upto mergeNamesSpec)

/-- 'identitylaw17.MergeClones', WHERE WHAT IT READS IS OF BULK AT MOST 1048576: true; the input reads as it did. -/
def mergeClonesUptoRow : OpenClaim := { program := "ytnknfnfinhagoaagreatdoor", sum := "652903bb527fddac097282debe2167c50712f67c55fa069ca6ad57efe3de6c74", func := "identity/identitylaw17.MergeClones", spec := "mergeClones", inPlace := ["internal/bytealg.IndexByteString", "internal/bytealg.IndexString", "internal/abi.NoEscape", "internal/bytealg.MakeNoZero", "internal/bytealg.abigen_runtime_cmpstring", "maps.clone"], unfollowed := true, recurses := true, named := ["unicode/utf8.first", "unicode/utf8.acceptRanges", "identity/change.words", "internal/bytealg.MaxLen"], plainKeys := false, apart := false, laid := [("unicode/utf8.acceptRanges", laid_unicode_utf8_acceptRanges), ("identity/change.words", laid_identity_change_words), ("unicode/utf8.first", laid_unicode_utf8_first)], narrowed := true }
def MergeClonesUptoSaid : Prop := mergeClonesUptoRow.holds Tryz.pinned (OpenSpec.upto mergeClonesSpec)

/-- 'identitylaw17.MergeOrders', WHERE WHAT IT READS IS OF BULK AT MOST 1048576: true; the input reads as it did. -/
def mergeOrdersUptoRow : OpenClaim := { program := "ytnknfnfinhagoaagreatdoor", sum := "652903bb527fddac097282debe2167c50712f67c55fa069ca6ad57efe3de6c74", func := "identity/identitylaw17.MergeOrders", spec := "mergeOrders", inPlace := ["internal/bytealg.IndexByteString", "internal/bytealg.IndexString", "internal/abi.NoEscape", "internal/bytealg.MakeNoZero", "internal/bytealg.abigen_runtime_cmpstring"], unfollowed := true, recurses := true, named := ["unicode/utf8.first", "unicode/utf8.acceptRanges", "identity/change.words", "internal/bytealg.MaxLen"], plainKeys := false, apart := false, laid := [("unicode/utf8.acceptRanges", laid_unicode_utf8_acceptRanges), ("identity/change.words", laid_identity_change_words), ("unicode/utf8.first", laid_unicode_utf8_first)], narrowed := true }
def MergeOrdersUptoSaid : Prop := mergeOrdersUptoRow.holds Tryz.pinned (OpenSpec.upto mergeOrdersSpec)

end Rows
end Go.Proofs.YtnknfnfinhagoaaGreatDoor
