/-
  NARROWER THAN 'FOR EVERY INPUT', by the rows' own cells (each row's printed sentence says how): PatchChecks: laid · PatchApplies: laid · PatchChains: laid · PatchDiffs: laid · PatchTexts: laid · PatchCompacts: laid · PatchRepeats: laid.
  DERIVED. THE GIVEN ROWS OF THIS SEAT. 7 by the template 'for every input the law returns true; each argument reads behind the call as it read before'; 0 by the template 'total and deterministic' (their statements: YtgfkbdcadpodcaaGreatDoorTotals.lean).
  GIVEN WITH THE SEED: the statements are not yours to turn. If you find one false, say at which input.
  Laid BY PROGRAM, IN A SANDBOX (cutbox-rows.mjs): the forced cells as the released guide's own fill.sh prints them over the translation 14bfbf3805373201… (all of the seat's roots in one cut). By AI agents, Wed Nov 11 2026. No macro, syntax, notation, axiom, sorry.
-/
import Derived.Test.YtgfkbdcadpodcaaGreatDoorChecked
import GoSem.PinnedTables
import GoSem.Claim
import GoSem.ClaimJoined
import GoSem.ClaimMapViews
import Derived.JoinedTies
import Derived.KernelRfl
namespace Go.Proofs.YtgfkbdcadpodcaaGreatDoor
/- THE CELL 'sum', in the pinned program and in every row, IS THE sha256 OF THE DUMP (.gsa) THAT YtgfkbdcadpodcaaGreatDoorProg.lean LOADS. Nothing in Lean hashes anything: it is a label: what it is worth is what the hold of that sum in a sandbox is worth. -/
noncomputable def Tryz.pinned : Pinned := { name := "ytgfkbdcadpodcaagreatdoor", sum := "14bfbf3805373201b68323c1236cc523b69fd211b0973665d02e637b4b9c7599", checked := Tryz.checked }
namespace Rows
def none {H : Type} : Left H := { results := [], args := [] }

/- WHAT THE LISTED PACKAGE-LEVEL VARIABLES READ AS WHEN THE CALL BEGINS. Each datum BY PROGRAM (the guide's laid-datum.mjs) off the statement by which the dump's own 'gosem.cut.vars' lays the variable. In a bare row this is a premise. The card (YtgfkbdcadpodcaaGreatDoorCards.lean) ties it to the program's text. -/
def laid_unicode_utf8_acceptRanges {H : Type} : DataW H := .agg [.agg [.lit (.int .u8 128), .lit (.int .u8 191)], .agg [.lit (.int .u8 160), .lit (.int .u8 191)], .agg [.lit (.int .u8 128), .lit (.int .u8 159)], .agg [.lit (.int .u8 144), .lit (.int .u8 191)], .agg [.lit (.int .u8 128), .lit (.int .u8 143)], .agg [.lit (.int .u8 0), .lit (.int .u8 0)], .agg [.lit (.int .u8 0), .lit (.int .u8 0)], .agg [.lit (.int .u8 0), .lit (.int .u8 0)], .agg [.lit (.int .u8 0), .lit (.int .u8 0)], .agg [.lit (.int .u8 0), .lit (.int .u8 0)], .agg [.lit (.int .u8 0), .lit (.int .u8 0)], .agg [.lit (.int .u8 0), .lit (.int .u8 0)], .agg [.lit (.int .u8 0), .lit (.int .u8 0)], .agg [.lit (.int .u8 0), .lit (.int .u8 0)], .agg [.lit (.int .u8 0), .lit (.int .u8 0)], .agg [.lit (.int .u8 0), .lit (.int .u8 0)]]
/-- One of Go's own tables, pinned by name: the form's constant. -/
def laid_unicode_utf8_first : DataW Unit := Go.Pinned.utf8First

/-- 'identitylaw46.PatchChecks': WHATEVER THE INPUT: true; the input reads as it did. -/
def patchChecksSpec : ChangeSpec := { name := "patchChecks", fn := fun _ => fun
  | [d1, d2] => { results := [.lit (.bool true)], args := [d1, d2] }
  | _ => none }
def patchChecksRow : OpenClaim := { program := "ytgfkbdcadpodcaagreatdoor", sum := "14bfbf3805373201b68323c1236cc523b69fd211b0973665d02e637b4b9c7599", func := "identity/identitylaw46.PatchChecks", spec := "patchChecks", inPlace := ["internal/bytealg.IndexByteString", "internal/bytealg.IndexString", "internal/bytealg.CountString", "internal/abi.NoEscape"], unfollowed := true, recurses := true, named := ["internal/bytealg.MaxLen", "unicode/utf8.first", "unicode/utf8.acceptRanges"], apart := false, laid := [("unicode/utf8.acceptRanges", laid_unicode_utf8_acceptRanges), ("unicode/utf8.first", laid_unicode_utf8_first)] }
def PatchChecksSaid : Prop := patchChecksRow.holds Tryz.pinned (OpenSpec.ofChange patchChecksSpec)

/-- ITS FALSE NEIGHBOUR: 'it returns false'. Refute it at one input. -/
def patchChecksWrong : ChangeSpec := { name := "patchChecks", fn := fun _ => fun
  | [d1, d2] => { results := [.lit (.bool false)], args := [d1, d2] }
  | _ => none }
def PatchChecksWrongFalsely : Prop := patchChecksRow.holds Tryz.pinned (OpenSpec.ofChange patchChecksWrong)

/-- 'identitylaw46.PatchApplies': WHATEVER THE INPUT: true; the input reads as it did. -/
def patchAppliesSpec : ChangeSpec := { name := "patchApplies", fn := fun _ => fun
  | [d1, d2] => { results := [.lit (.bool true)], args := [d1, d2] }
  | _ => none }
def patchAppliesRow : OpenClaim := { program := "ytgfkbdcadpodcaagreatdoor", sum := "14bfbf3805373201b68323c1236cc523b69fd211b0973665d02e637b4b9c7599", func := "identity/identitylaw46.PatchApplies", spec := "patchApplies", inPlace := ["internal/bytealg.IndexByteString", "internal/bytealg.IndexString", "internal/bytealg.CountString", "internal/abi.NoEscape"], unfollowed := true, recurses := true, named := ["internal/bytealg.MaxLen", "unicode/utf8.first", "unicode/utf8.acceptRanges"], apart := false, laid := [("unicode/utf8.acceptRanges", laid_unicode_utf8_acceptRanges), ("unicode/utf8.first", laid_unicode_utf8_first)] }
def PatchAppliesSaid : Prop := patchAppliesRow.holds Tryz.pinned (OpenSpec.ofChange patchAppliesSpec)

/-- ITS FALSE NEIGHBOUR: 'it returns false'. Refute it at one input. -/
def patchAppliesWrong : ChangeSpec := { name := "patchApplies", fn := fun _ => fun
  | [d1, d2] => { results := [.lit (.bool false)], args := [d1, d2] }
  | _ => none }
def PatchAppliesWrongFalsely : Prop := patchAppliesRow.holds Tryz.pinned (OpenSpec.ofChange patchAppliesWrong)

/-- 'identitylaw46.PatchChains': WHATEVER THE INPUT: true; the input reads as it did. -/
def patchChainsSpec : ChangeSpec := { name := "patchChains", fn := fun _ => fun
  | [d1, d2, d3] => { results := [.lit (.bool true)], args := [d1, d2, d3] }
  | _ => none }
def patchChainsRow : OpenClaim := { program := "ytgfkbdcadpodcaagreatdoor", sum := "14bfbf3805373201b68323c1236cc523b69fd211b0973665d02e637b4b9c7599", func := "identity/identitylaw46.PatchChains", spec := "patchChains", inPlace := ["internal/bytealg.IndexByteString", "internal/bytealg.IndexString", "internal/bytealg.CountString", "internal/abi.NoEscape"], unfollowed := true, recurses := true, named := ["internal/bytealg.MaxLen", "unicode/utf8.first", "unicode/utf8.acceptRanges"], apart := false, laid := [("unicode/utf8.acceptRanges", laid_unicode_utf8_acceptRanges), ("unicode/utf8.first", laid_unicode_utf8_first)] }
def PatchChainsSaid : Prop := patchChainsRow.holds Tryz.pinned (OpenSpec.ofChange patchChainsSpec)

/-- ITS FALSE NEIGHBOUR: 'it returns false'. Refute it at one input. -/
def patchChainsWrong : ChangeSpec := { name := "patchChains", fn := fun _ => fun
  | [d1, d2, d3] => { results := [.lit (.bool false)], args := [d1, d2, d3] }
  | _ => none }
def PatchChainsWrongFalsely : Prop := patchChainsRow.holds Tryz.pinned (OpenSpec.ofChange patchChainsWrong)

/-- 'identitylaw46.PatchDiffs': WHATEVER THE INPUT: true; the input reads as it did. -/
def patchDiffsSpec : ChangeSpec := { name := "patchDiffs", fn := fun _ => fun
  | [d1, d2] => { results := [.lit (.bool true)], args := [d1, d2] }
  | _ => none }
def patchDiffsRow : OpenClaim := { program := "ytgfkbdcadpodcaagreatdoor", sum := "14bfbf3805373201b68323c1236cc523b69fd211b0973665d02e637b4b9c7599", func := "identity/identitylaw46.PatchDiffs", spec := "patchDiffs", inPlace := ["internal/bytealg.IndexByteString", "internal/bytealg.IndexString", "internal/bytealg.CountString", "internal/abi.NoEscape"], unfollowed := true, recurses := true, named := ["internal/bytealg.MaxLen", "unicode/utf8.first", "unicode/utf8.acceptRanges"], apart := false, laid := [("unicode/utf8.acceptRanges", laid_unicode_utf8_acceptRanges), ("unicode/utf8.first", laid_unicode_utf8_first)] }
def PatchDiffsSaid : Prop := patchDiffsRow.holds Tryz.pinned (OpenSpec.ofChange patchDiffsSpec)

/-- ITS FALSE NEIGHBOUR: 'it returns false'. Refute it at one input. -/
def patchDiffsWrong : ChangeSpec := { name := "patchDiffs", fn := fun _ => fun
  | [d1, d2] => { results := [.lit (.bool false)], args := [d1, d2] }
  | _ => none }
def PatchDiffsWrongFalsely : Prop := patchDiffsRow.holds Tryz.pinned (OpenSpec.ofChange patchDiffsWrong)

/-- 'identitylaw46.PatchTexts': WHATEVER THE INPUT: true; the input reads as it did. -/
def patchTextsSpec : ChangeSpec := { name := "patchTexts", fn := fun _ => fun
  | [d1, d2] => { results := [.lit (.bool true)], args := [d1, d2] }
  | _ => none }
def patchTextsRow : OpenClaim := { program := "ytgfkbdcadpodcaagreatdoor", sum := "14bfbf3805373201b68323c1236cc523b69fd211b0973665d02e637b4b9c7599", func := "identity/identitylaw46.PatchTexts", spec := "patchTexts", inPlace := ["internal/bytealg.IndexByteString", "internal/bytealg.IndexString", "internal/bytealg.CountString", "internal/abi.NoEscape"], unfollowed := true, recurses := true, named := ["internal/bytealg.MaxLen", "unicode/utf8.first", "unicode/utf8.acceptRanges"], apart := false, laid := [("unicode/utf8.acceptRanges", laid_unicode_utf8_acceptRanges), ("unicode/utf8.first", laid_unicode_utf8_first)] }
def PatchTextsSaid : Prop := patchTextsRow.holds Tryz.pinned (OpenSpec.ofChange patchTextsSpec)

/-- ITS FALSE NEIGHBOUR: 'it returns false'. Refute it at one input. -/
def patchTextsWrong : ChangeSpec := { name := "patchTexts", fn := fun _ => fun
  | [d1, d2] => { results := [.lit (.bool false)], args := [d1, d2] }
  | _ => none }
def PatchTextsWrongFalsely : Prop := patchTextsRow.holds Tryz.pinned (OpenSpec.ofChange patchTextsWrong)

/-- 'identitylaw46.PatchCompacts': WHATEVER THE INPUT: true; the input reads as it did. -/
def patchCompactsSpec : ChangeSpec := { name := "patchCompacts", fn := fun _ => fun
  | [d1, d2] => { results := [.lit (.bool true)], args := [d1, d2] }
  | _ => none }
def patchCompactsRow : OpenClaim := { program := "ytgfkbdcadpodcaagreatdoor", sum := "14bfbf3805373201b68323c1236cc523b69fd211b0973665d02e637b4b9c7599", func := "identity/identitylaw46.PatchCompacts", spec := "patchCompacts", inPlace := ["internal/bytealg.IndexByteString", "internal/bytealg.IndexString", "internal/bytealg.CountString", "internal/abi.NoEscape"], unfollowed := true, recurses := true, named := ["internal/bytealg.MaxLen", "unicode/utf8.first", "unicode/utf8.acceptRanges"], apart := false, laid := [("unicode/utf8.acceptRanges", laid_unicode_utf8_acceptRanges), ("unicode/utf8.first", laid_unicode_utf8_first)] }
def PatchCompactsSaid : Prop := patchCompactsRow.holds Tryz.pinned (OpenSpec.ofChange patchCompactsSpec)

/-- ITS FALSE NEIGHBOUR: 'it returns false'. Refute it at one input. -/
def patchCompactsWrong : ChangeSpec := { name := "patchCompacts", fn := fun _ => fun
  | [d1, d2] => { results := [.lit (.bool false)], args := [d1, d2] }
  | _ => none }
def PatchCompactsWrongFalsely : Prop := patchCompactsRow.holds Tryz.pinned (OpenSpec.ofChange patchCompactsWrong)

/-- 'identitylaw46.PatchRepeats': WHATEVER THE INPUT: true; the input reads as it did. -/
def patchRepeatsSpec : ChangeSpec := { name := "patchRepeats", fn := fun _ => fun
  | [d1, d2, d3] => { results := [.lit (.bool true)], args := [d1, d2, d3] }
  | _ => none }
def patchRepeatsRow : OpenClaim := { program := "ytgfkbdcadpodcaagreatdoor", sum := "14bfbf3805373201b68323c1236cc523b69fd211b0973665d02e637b4b9c7599", func := "identity/identitylaw46.PatchRepeats", spec := "patchRepeats", inPlace := ["internal/bytealg.IndexByteString", "internal/bytealg.IndexString", "internal/bytealg.CountString", "internal/abi.NoEscape"], unfollowed := true, recurses := true, named := ["internal/bytealg.MaxLen", "unicode/utf8.first", "unicode/utf8.acceptRanges"], apart := false, laid := [("unicode/utf8.acceptRanges", laid_unicode_utf8_acceptRanges), ("unicode/utf8.first", laid_unicode_utf8_first)] }
def PatchRepeatsSaid : Prop := patchRepeatsRow.holds Tryz.pinned (OpenSpec.ofChange patchRepeatsSpec)

/-- ITS FALSE NEIGHBOUR: 'it returns false'. Refute it at one input. -/
def patchRepeatsWrong : ChangeSpec := { name := "patchRepeats", fn := fun _ => fun
  | [d1, d2, d3] => { results := [.lit (.bool false)], args := [d1, d2, d3] }
  | _ => none }
def PatchRepeatsWrongFalsely : Prop := patchRepeatsRow.holds Tryz.pinned (OpenSpec.ofChange patchRepeatsWrong)

/- THE SECOND FORM. 'bulk': how many values and letters a reading holds, each counted each time it is reached (what is shared counts as often as it is met; a slice's spare places count too). A statement '..UptoSaid' is the law's where the arguments, and the package variables that the reading takes, are together of bulk at most 1048576: NARROWER than '..Said'. Prove '..Said' where nothing that the law and all that it calls make is longer than what came in: it says more and counts as full. Else prove '..UptoSaid'. A law counts once. -/
mutual
def uptoBulk {H : Type} : DataW H → Nat
  | .lit (.string bytes) => bytes.length + 1
  | .lit _ => 1
  | .nil => 1
  | .ptr d => uptoBulk d + 1
  | .slice elems spare => uptoBulkAll elems + uptoBulkAll spare + 1
  | .agg parts => uptoBulkAll parts + 1
  | .iface _ d => uptoBulk d + 1
  | .map entries => uptoBulkEntries entries + 1
  | .held _ => 1
def uptoBulkAll {H : Type} : List (DataW H) → Nat
  | [] => 0
  | d :: r => uptoBulk d + uptoBulkAll r
def uptoBulkEntries {H : Type} : List (Lit × DataW H) → Nat
  | [] => 0
  | x :: r => uptoBulkEntry x + uptoBulkEntries r
def uptoBulkEntry {H : Type} : Lit × DataW H → Nat
  | (.string bytes, d) => bytes.length + uptoBulk d + 1
  | (_, d) => uptoBulk d + 1
 end
def uptoSmall : (H : Type) → List (DataW H) → Bool := fun _ ds => decide (uptoBulkAll ds ≤ 1048576)
def OpenSpec.upto (s : _root_.Go.ChangeSpec) : _root_.Go.OpenSpec := { _root_.Go.OpenSpec.ofChange s with cond := some uptoSmall }

/-- 'identitylaw46.PatchChecks', WHERE WHAT IT READS IS OF BULK AT MOST 1048576: true; the input reads as it did. -/
def patchChecksUptoRow : OpenClaim := { program := "ytgfkbdcadpodcaagreatdoor", sum := "14bfbf3805373201b68323c1236cc523b69fd211b0973665d02e637b4b9c7599", func := "identity/identitylaw46.PatchChecks", spec := "patchChecks", inPlace := ["internal/bytealg.IndexByteString", "internal/bytealg.IndexString", "internal/bytealg.CountString", "internal/abi.NoEscape"], unfollowed := true, recurses := true, named := ["internal/bytealg.MaxLen", "unicode/utf8.first", "unicode/utf8.acceptRanges"], apart := false, laid := [("unicode/utf8.acceptRanges", laid_unicode_utf8_acceptRanges), ("unicode/utf8.first", laid_unicode_utf8_first)], narrowed := true }
def PatchChecksUptoSaid : Prop := patchChecksUptoRow.holds Tryz.pinned (OpenSpec.upto patchChecksSpec)

/-- 'identitylaw46.PatchApplies', WHERE WHAT IT READS IS OF BULK AT MOST 1048576: true; the input reads as it did. -/
def patchAppliesUptoRow : OpenClaim := { program := "ytgfkbdcadpodcaagreatdoor", sum := "14bfbf3805373201b68323c1236cc523b69fd211b0973665d02e637b4b9c7599", func := "identity/identitylaw46.PatchApplies", spec := "patchApplies", inPlace := ["internal/bytealg.IndexByteString", "internal/bytealg.IndexString", "internal/bytealg.CountString", "internal/abi.NoEscape"], unfollowed := true, recurses := true, named := ["internal/bytealg.MaxLen", "unicode/utf8.first", "unicode/utf8.acceptRanges"], apart := false, laid := [("unicode/utf8.acceptRanges", laid_unicode_utf8_acceptRanges), ("unicode/utf8.first", laid_unicode_utf8_first)], narrowed := true }
def PatchAppliesUptoSaid : Prop := patchAppliesUptoRow.holds Tryz.pinned (OpenSpec.upto patchAppliesSpec)

/-- 'identitylaw46.PatchChains', WHERE WHAT IT READS IS OF BULK AT MOST 1048576: true; the input reads as it did. -/
def patchChainsUptoRow : OpenClaim := { program := "ytgfkbdcadpodcaagreatdoor", sum := "14bfbf3805373201b68323c1236cc523b69fd211b0973665d02e637b4b9c7599", func := "identity/identitylaw46.PatchChains", spec := "patchChains", inPlace := ["internal/bytealg.IndexByteString", "internal/bytealg.IndexString", "internal/bytealg.CountString", "internal/abi.NoEscape"], unfollowed := true, recurses := true, named := ["internal/bytealg.MaxLen", "unicode/utf8.first", "unicode/utf8.acceptRanges"], apart := false, laid := [("unicode/utf8.acceptRanges", laid_unicode_utf8_acceptRanges), ("unicode/utf8.first", laid_unicode_utf8_first)], narrowed := true }
def PatchChainsUptoSaid : Prop := patchChainsUptoRow.holds Tryz.pinned (OpenSpec.upto patchChainsSpec)

/-- 'identitylaw46.PatchDiffs', WHERE WHAT IT READS IS OF BULK AT MOST 1048576: true; the input reads as it did. -/
def patchDiffsUptoRow : OpenClaim := { program := "ytgfkbdcadpodcaagreatdoor", sum := "14bfbf3805373201b68323c1236cc523b69fd211b0973665d02e637b4b9c7599", func := "identity/identitylaw46.PatchDiffs", spec := "patchDiffs", inPlace := ["internal/bytealg.IndexByteString", "internal/bytealg.IndexString", "internal/bytealg.CountString", "internal/abi.NoEscape"], unfollowed := true, recurses := true, named := ["internal/bytealg.MaxLen", "unicode/utf8.first", "unicode/utf8.acceptRanges"], apart := false, laid := [("unicode/utf8.acceptRanges", laid_unicode_utf8_acceptRanges), ("unicode/utf8.first", laid_unicode_utf8_first)], narrowed := true }
def PatchDiffsUptoSaid : Prop := patchDiffsUptoRow.holds Tryz.pinned (OpenSpec.upto patchDiffsSpec)

/-- 'identitylaw46.PatchTexts', WHERE WHAT IT READS IS OF BULK AT MOST 1048576: true; the input reads as it did. -/
def patchTextsUptoRow : OpenClaim := { program := "ytgfkbdcadpodcaagreatdoor", sum := "14bfbf3805373201b68323c1236cc523b69fd211b0973665d02e637b4b9c7599", func := "identity/identitylaw46.PatchTexts", spec := "patchTexts", inPlace := ["internal/bytealg.IndexByteString", "internal/bytealg.IndexString", "internal/bytealg.CountString", "internal/abi.NoEscape"], unfollowed := true, recurses := true, named := ["internal/bytealg.MaxLen", "unicode/utf8.first", "unicode/utf8.acceptRanges"], apart := false, laid := [("unicode/utf8.acceptRanges", laid_unicode_utf8_acceptRanges), ("unicode/utf8.first", laid_unicode_utf8_first)], narrowed := true }
def PatchTextsUptoSaid : Prop := patchTextsUptoRow.holds Tryz.pinned (OpenSpec.upto patchTextsSpec)

/-- 'identitylaw46.PatchCompacts', WHERE WHAT IT READS IS OF BULK AT MOST 1048576: true; the input reads as it did. -/
def patchCompactsUptoRow : OpenClaim := { program := "ytgfkbdcadpodcaagreatdoor", sum := "14bfbf3805373201b68323c1236cc523b69fd211b0973665d02e637b4b9c7599", func := "identity/identitylaw46.PatchCompacts", spec := "patchCompacts", inPlace := ["internal/bytealg.IndexByteString", "internal/bytealg.IndexString", "internal/bytealg.CountString", "internal/abi.NoEscape"], unfollowed := true, recurses := true, named := ["internal/bytealg.MaxLen", "unicode/utf8.first", "unicode/utf8.acceptRanges"], apart := false, laid := [("unicode/utf8.acceptRanges", laid_unicode_utf8_acceptRanges), ("unicode/utf8.first", laid_unicode_utf8_first)], narrowed := true }
def PatchCompactsUptoSaid : Prop := patchCompactsUptoRow.holds Tryz.pinned (OpenSpec.upto patchCompactsSpec)

/-- 'identitylaw46.PatchRepeats', WHERE WHAT IT READS IS OF BULK AT MOST 1048576: true; the input reads as it did. -/
def patchRepeatsUptoRow : OpenClaim := { program := "ytgfkbdcadpodcaagreatdoor", sum := "14bfbf3805373201b68323c1236cc523b69fd211b0973665d02e637b4b9c7599", func := "identity/identitylaw46.PatchRepeats", spec := "patchRepeats", inPlace := ["internal/bytealg.IndexByteString", "internal/bytealg.IndexString", "internal/bytealg.CountString", "internal/abi.NoEscape"], unfollowed := true, recurses := true, named := ["internal/bytealg.MaxLen", "unicode/utf8.first", "unicode/utf8.acceptRanges"], apart := false, laid := [("unicode/utf8.acceptRanges", laid_unicode_utf8_acceptRanges), ("unicode/utf8.first", laid_unicode_utf8_first)], narrowed := true }
def PatchRepeatsUptoSaid : Prop := patchRepeatsUptoRow.holds Tryz.pinned (OpenSpec.upto patchRepeatsSpec)

end Rows
end Go.Proofs.YtgfkbdcadpodcaaGreatDoor
