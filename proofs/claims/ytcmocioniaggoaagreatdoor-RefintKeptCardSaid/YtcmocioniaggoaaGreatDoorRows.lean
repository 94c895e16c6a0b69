/-
  NARROWER THAN 'FOR EVERY INPUT', by the rows' own cells (each row's printed sentence says how): RefintRefs: laid · RefintBroken: laid · RefintMembers: laid · RefintClosure: laid · RefintGone: laid · RefintKept: laid.
  DERIVED. THE GIVEN ROWS OF THIS SEAT. 6 by the template 'for every input the law returns true; each argument reads behind the call as it read before'; 0 by the template 'total and deterministic' (their statements: YtcmocioniaggoaaGreatDoorTotals.lean).
  GIVEN WITH THE SEED: the statements are not yours to turn. If you find one false, say at which input.
  Laid BY PROGRAM, IN A SANDBOX (cutbox-rows.mjs): the forced cells as the released guide's own fill.sh prints them over the translation ef0609b57d819663… (all of the seat's roots in one cut). By AI agents, Wed Nov 11 2026. No macro, syntax, notation, axiom, sorry.
-/
import Derived.Test.YtcmocioniaggoaaGreatDoorChecked
import GoSem.PinnedTables
import GoSem.Claim
import GoSem.ClaimJoined
import GoSem.ClaimMapViews
import Derived.JoinedTies
import Derived.KernelRfl
namespace Go.Proofs.YtcmocioniaggoaaGreatDoor
/- THE CELL 'sum', in the pinned program and in every row, IS THE sha256 OF THE DUMP (.gsa) THAT YtcmocioniaggoaaGreatDoorProg.lean LOADS. Nothing in Lean hashes anything: it is a label: what it is worth is what the hold of that sum in a sandbox is worth. -/
noncomputable def Tryz.pinned : Pinned := { name := "ytcmocioniaggoaagreatdoor", sum := "ef0609b57d8196638b5deeff893a950f785ec0719c6513d7ae84137499103e8e", checked := Tryz.checked }
namespace Rows
def none {H : Type} : Left H := { results := [], args := [] }

/- WHAT THE LISTED PACKAGE-LEVEL VARIABLES READ AS WHEN THE CALL BEGINS. Each datum BY PROGRAM (the guide's laid-datum.mjs) off the statement by which the dump's own 'gosem.cut.vars' lays the variable. In a bare row this is a premise. The card (YtcmocioniaggoaaGreatDoorCards.lean) ties it to the program's text. -/
def laid_unicode_utf8_acceptRanges {H : Type} : DataW H := .agg [.agg [.lit (.int .u8 128), .lit (.int .u8 191)], .agg [.lit (.int .u8 160), .lit (.int .u8 191)], .agg [.lit (.int .u8 128), .lit (.int .u8 159)], .agg [.lit (.int .u8 144), .lit (.int .u8 191)], .agg [.lit (.int .u8 128), .lit (.int .u8 143)], .agg [.lit (.int .u8 0), .lit (.int .u8 0)], .agg [.lit (.int .u8 0), .lit (.int .u8 0)], .agg [.lit (.int .u8 0), .lit (.int .u8 0)], .agg [.lit (.int .u8 0), .lit (.int .u8 0)], .agg [.lit (.int .u8 0), .lit (.int .u8 0)], .agg [.lit (.int .u8 0), .lit (.int .u8 0)], .agg [.lit (.int .u8 0), .lit (.int .u8 0)], .agg [.lit (.int .u8 0), .lit (.int .u8 0)], .agg [.lit (.int .u8 0), .lit (.int .u8 0)], .agg [.lit (.int .u8 0), .lit (.int .u8 0)], .agg [.lit (.int .u8 0), .lit (.int .u8 0)]]
/-- One of Go's own tables, pinned by name: the form's constant. -/
def laid_unicode_utf8_first : DataW Unit := Go.Pinned.utf8First
def laid_identity_tree_errors {H : Type} : DataW H := .agg [.lit (.int .i64 6), .lit (.int .i64 5), .lit (.int .i64 7), .lit (.int .i64 28), .lit (.int .i64 6), .lit (.int .i64 12), .lit (.int .i64 3), .lit (.int .i64 0)]

/-- 'identitylaw13.RefintRefs': WHATEVER THE INPUT: true; the input reads as it did. -/
def refintRefsSpec : ChangeSpec := { name := "refintRefs", fn := fun _ => fun
  | [d1, d2, d3, d4] => { results := [.lit (.bool true)], args := [d1, d2, d3, d4] }
  | _ => none }
def refintRefsRow : OpenClaim := { program := "ytcmocioniaggoaagreatdoor", sum := "ef0609b57d8196638b5deeff893a950f785ec0719c6513d7ae84137499103e8e", func := "identity/identitylaw13.RefintRefs", spec := "refintRefs", inPlace := ["internal/bytealg.IndexByteString", "internal/bytealg.IndexString", "internal/abi.NoEscape"], unfollowed := true, recurses := true, named := ["unicode/utf8.first", "unicode/utf8.acceptRanges", "internal/bytealg.MaxLen"], apart := false, laid := [("unicode/utf8.acceptRanges", laid_unicode_utf8_acceptRanges), ("unicode/utf8.first", laid_unicode_utf8_first)] }
def RefintRefsSaid : Prop := refintRefsRow.holds Tryz.pinned (OpenSpec.ofChange refintRefsSpec)

/-- ITS FALSE NEIGHBOUR: 'it returns false'. Refute it at one input. -/
def refintRefsWrong : ChangeSpec := { name := "refintRefs", fn := fun _ => fun
  | [d1, d2, d3, d4] => { results := [.lit (.bool false)], args := [d1, d2, d3, d4] }
  | _ => none }
def RefintRefsWrongFalsely : Prop := refintRefsRow.holds Tryz.pinned (OpenSpec.ofChange refintRefsWrong)

/-- 'identitylaw13.RefintBroken': WHATEVER THE INPUT: true; the input reads as it did. -/
def refintBrokenSpec : ChangeSpec := { name := "refintBroken", fn := fun _ => fun
  | [d1, d2, d3] => { results := [.lit (.bool true)], args := [d1, d2, d3] }
  | _ => none }
def refintBrokenRow : OpenClaim := { program := "ytcmocioniaggoaagreatdoor", sum := "ef0609b57d8196638b5deeff893a950f785ec0719c6513d7ae84137499103e8e", func := "identity/identitylaw13.RefintBroken", spec := "refintBroken", inPlace := ["internal/bytealg.IndexByteString", "internal/bytealg.IndexString", "internal/abi.NoEscape"], unfollowed := true, recurses := true, named := ["unicode/utf8.first", "unicode/utf8.acceptRanges", "internal/bytealg.MaxLen"], apart := false, laid := [("unicode/utf8.acceptRanges", laid_unicode_utf8_acceptRanges), ("unicode/utf8.first", laid_unicode_utf8_first)] }
def RefintBrokenSaid : Prop := refintBrokenRow.holds Tryz.pinned (OpenSpec.ofChange refintBrokenSpec)

/-- ITS FALSE NEIGHBOUR: 'it returns false'. Refute it at one input. -/
def refintBrokenWrong : ChangeSpec := { name := "refintBroken", fn := fun _ => fun
  | [d1, d2, d3] => { results := [.lit (.bool false)], args := [d1, d2, d3] }
  | _ => none }
def RefintBrokenWrongFalsely : Prop := refintBrokenRow.holds Tryz.pinned (OpenSpec.ofChange refintBrokenWrong)

/-- 'identitylaw13.RefintMembers': WHATEVER THE INPUT: true; the input reads as it did. -/
def refintMembersSpec : ChangeSpec := { name := "refintMembers", fn := fun _ => fun
  | [d1, d2] => { results := [.lit (.bool true)], args := [d1, d2] }
  | _ => none }
def refintMembersRow : OpenClaim := { program := "ytcmocioniaggoaagreatdoor", sum := "ef0609b57d8196638b5deeff893a950f785ec0719c6513d7ae84137499103e8e", func := "identity/identitylaw13.RefintMembers", spec := "refintMembers", inPlace := ["internal/bytealg.IndexByteString", "internal/bytealg.IndexString", "internal/abi.NoEscape"], unfollowed := true, recurses := true, named := ["unicode/utf8.first", "unicode/utf8.acceptRanges", "internal/bytealg.MaxLen"], apart := false, laid := [("unicode/utf8.acceptRanges", laid_unicode_utf8_acceptRanges), ("unicode/utf8.first", laid_unicode_utf8_first)] }
def RefintMembersSaid : Prop := refintMembersRow.holds Tryz.pinned (OpenSpec.ofChange refintMembersSpec)

/-- ITS FALSE NEIGHBOUR: 'it returns false'. Refute it at one input. -/
def refintMembersWrong : ChangeSpec := { name := "refintMembers", fn := fun _ => fun
  | [d1, d2] => { results := [.lit (.bool false)], args := [d1, d2] }
  | _ => none }
def RefintMembersWrongFalsely : Prop := refintMembersRow.holds Tryz.pinned (OpenSpec.ofChange refintMembersWrong)

/-- 'identitylaw13.RefintClosure': WHATEVER THE INPUT: true; the input reads as it did. -/
def refintClosureSpec : ChangeSpec := { name := "refintClosure", fn := fun _ => fun
  | [d] => { results := [.lit (.bool true)], args := [d] }
  | _ => none }
def refintClosureRow : OpenClaim := { program := "ytcmocioniaggoaagreatdoor", sum := "ef0609b57d8196638b5deeff893a950f785ec0719c6513d7ae84137499103e8e", func := "identity/identitylaw13.RefintClosure", spec := "refintClosure", inPlace := ["internal/bytealg.IndexByteString", "internal/bytealg.IndexString", "internal/abi.NoEscape"], unfollowed := true, recurses := true, named := ["unicode/utf8.first", "unicode/utf8.acceptRanges", "internal/bytealg.MaxLen"], apart := false, laid := [("unicode/utf8.acceptRanges", laid_unicode_utf8_acceptRanges), ("unicode/utf8.first", laid_unicode_utf8_first)] }
def RefintClosureSaid : Prop := refintClosureRow.holds Tryz.pinned (OpenSpec.ofChange refintClosureSpec)

/-- ITS FALSE NEIGHBOUR: 'it returns false'. Refute it at one input. -/
def refintClosureWrong : ChangeSpec := { name := "refintClosure", fn := fun _ => fun
  | [d] => { results := [.lit (.bool false)], args := [d] }
  | _ => none }
def RefintClosureWrongFalsely : Prop := refintClosureRow.holds Tryz.pinned (OpenSpec.ofChange refintClosureWrong)

/-- 'identitylaw13.RefintGone': WHATEVER THE INPUT: true; the input reads as it did. -/
def refintGoneSpec : ChangeSpec := { name := "refintGone", fn := fun _ => fun
  | [d1, d2, d3] => { results := [.lit (.bool true)], args := [d1, d2, d3] }
  | _ => none }
def refintGoneRow : OpenClaim := { program := "ytcmocioniaggoaagreatdoor", sum := "ef0609b57d8196638b5deeff893a950f785ec0719c6513d7ae84137499103e8e", func := "identity/identitylaw13.RefintGone", spec := "refintGone", inPlace := ["internal/bytealg.IndexByteString", "internal/bytealg.IndexString", "internal/abi.NoEscape"], unfollowed := true, recurses := true, named := ["unicode/utf8.first", "unicode/utf8.acceptRanges", "internal/bytealg.MaxLen"], apart := false, laid := [("unicode/utf8.acceptRanges", laid_unicode_utf8_acceptRanges), ("unicode/utf8.first", laid_unicode_utf8_first)] }
def RefintGoneSaid : Prop := refintGoneRow.holds Tryz.pinned (OpenSpec.ofChange refintGoneSpec)

/-- ITS FALSE NEIGHBOUR: 'it returns false'. Refute it at one input. -/
def refintGoneWrong : ChangeSpec := { name := "refintGone", fn := fun _ => fun
  | [d1, d2, d3] => { results := [.lit (.bool false)], args := [d1, d2, d3] }
  | _ => none }
def RefintGoneWrongFalsely : Prop := refintGoneRow.holds Tryz.pinned (OpenSpec.ofChange refintGoneWrong)

/-- 'identitylaw13.RefintKept': WHATEVER THE INPUT: true; the input reads as it did. -/
def refintKeptSpec : ChangeSpec := { name := "refintKept", fn := fun _ => fun
  | [d1, d2, d3, d4] => { results := [.lit (.bool true)], args := [d1, d2, d3, d4] }
  | _ => none }
def refintKeptRow : OpenClaim := { program := "ytcmocioniaggoaagreatdoor", sum := "ef0609b57d8196638b5deeff893a950f785ec0719c6513d7ae84137499103e8e", func := "identity/identitylaw13.RefintKept", spec := "refintKept", inPlace := ["internal/bytealg.IndexByteString", "internal/bytealg.IndexString", "internal/abi.NoEscape"], unfollowed := true, recurses := true, named := ["unicode/utf8.first", "unicode/utf8.acceptRanges", "identity/tree.errors", "internal/bytealg.MaxLen"], apart := false, laid := [("unicode/utf8.acceptRanges", laid_unicode_utf8_acceptRanges), ("identity/tree.errors", laid_identity_tree_errors), ("unicode/utf8.first", laid_unicode_utf8_first)] }
def RefintKeptSaid : Prop := refintKeptRow.holds Tryz.pinned (OpenSpec.ofChange refintKeptSpec)

/-- ITS FALSE NEIGHBOUR: 'it returns false'. Refute it at one input. -/
def refintKeptWrong : ChangeSpec := { name := "refintKept", fn := fun _ => fun
  | [d1, d2, d3, d4] => { results := [.lit (.bool false)], args := [d1, d2, d3, d4] }
  | _ => none }
def RefintKeptWrongFalsely : Prop := refintKeptRow.holds Tryz.pinned (OpenSpec.ofChange refintKeptWrong)

/- THE SECOND FORM. 'bulk': how many values and letters a reading holds, each counted each time it is reached (what is shared counts as often as it is met; a slice's spare places count too). A statement '..UptoSaid' is the law's where the arguments, and the package variables that the reading takes, are together of bulk at most 1048576: NARROWER than '..Said'. Prove '..Said' where nothing that the law and all that it calls make is longer than what came in: it says more and counts as full. Else prove '..UptoSaid'. A law counts once. -/
mutual
def uptoBulk {H : Type} : DataW H → Nat
  | .lit (.string bytes) => bytes.length + 1
  | .lit _ => 1
  | .nil => 1
  | .ptr d => uptoBulk d + 1
  | .slice elems spare => uptoBulkAll elems + uptoBulkAll spare + 1
  | .agg parts => uptoBulkAll parts + 1
  | .iface _ d => uptoBulk d + 1
  | .map entries => uptoBulkEntries entries + 1
  | .held _ => 1
def uptoBulkAll {H : Type} : List (DataW H) → Nat
  | [] => 0
  | d :: r => uptoBulk d + uptoBulkAll r
def uptoBulkEntries {H : Type} : List (Lit × DataW H) → Nat
  | [] => 0
  | x :: r => uptoBulkEntry x + uptoBulkEntries r
def uptoBulkEntry {H : Type} : Lit × DataW H → Nat
  | (.string bytes, d) => bytes.length + uptoBulk d + 1
  | (_, d) => uptoBulk d + 1
 end
def uptoSmall : (H : Type) → List (DataW H) → Bool := fun _ ds => decide (uptoBulkAll ds ≤ 1048576)
def OpenSpec.upto (s : _root_.Go.ChangeSpec) : _root_.Go.OpenSpec := { _root_.Go.OpenSpec.ofChange s with cond := some uptoSmall }

/-- 'identitylaw13.RefintRefs', WHERE WHAT IT READS IS OF BULK AT MOST 1048576: true; the input reads as it did. -/
def refintRefsUptoRow : OpenClaim := { program := "ytcmocioniaggoaagreatdoor", sum := "ef0609b57d8196638b5deeff893a950f785ec0719c6513d7ae84137499103e8e", func := "identity/identitylaw13.RefintRefs", spec := "refintRefs", inPlace := ["internal/bytealg.IndexByteString", "internal/bytealg.IndexString", "internal/abi.NoEscape"], unfollowed := true, recurses := true, named := ["unicode/utf8.first", "unicode/utf8.acceptRanges", "internal/bytealg.MaxLen"], apart := false, laid := [("unicode/utf8.acceptRanges", laid_unicode_utf8_acceptRanges), ("unicode/utf8.first", laid_unicode_utf8_first)], narrowed := true }
def RefintRefsUptoSaid : Prop := refintRefsUptoRow.holds Tryz.pinned (OpenSpec.upto refintRefsSpec)

/-- 'identitylaw13.RefintBroken', WHERE WHAT IT READS IS OF BULK AT MOST 1048576: true; the input reads as it did. -/
def refintBrokenUptoRow : OpenClaim := { program := "ytcmocioniaggoaagreatdoor", sum := "ef0609b57d8196638b5deeff893a950f785ec0719c6513d7ae84137499103e8e", func := "identity/identitylaw13.RefintBroken", spec := "refintBroken", inPlace := ["internal/bytealg.IndexByteString", "internal/bytealg.IndexString", "internal/abi.NoEscape"], unfollowed := true, recurses := true, named := ["unicode/utf8.first", "unicode/utf8.acceptRanges", "internal/bytealg.MaxLen"], apart := false, laid := [("unicode/utf8.acceptRanges", laid_unicode_utf8_acceptRanges), ("unicode/utf8.first", laid_unicode_utf8_first)], narrowed := true }
def RefintBrokenUptoSaid : Prop := refintBrokenUptoRow.holds Tryz.pinned (OpenSpec.upto refintBrokenSpec)

/-- 'identitylaw13.RefintMembers', WHERE WHAT IT READS IS OF BULK AT MOST 1048576: true; the input reads as it did. -/
def refintMembersUptoRow : OpenClaim := { program := "ytcmocioniaggoaagreatdoor", sum := "ef0609b57d8196638b5deeff893a950f785ec0719c6513d7ae84137499103e8e", func := "identity/identitylaw13.RefintMembers", spec := "refintMembers", inPlace := ["internal/bytealg.IndexByteString", "internal/bytealg.IndexString", "internal/abi.NoEscape"], unfollowed := true, recurses := true, named := ["unicode/utf8.first", "unicode/utf8.acceptRanges", "internal/bytealg.MaxLen"], apart := false, laid := [("unicode/utf8.acceptRanges", laid_unicode_utf8_acceptRanges), ("unicode/utf8.first", laid_unicode_utf8_first)], narrowed := true }
def RefintMembersUptoSaid : Prop := refintMembersUptoRow.holds Tryz.pinned (OpenSpec.upto refintMembersSpec)

/-- 'identitylaw13.RefintClosure', WHERE WHAT IT READS IS OF BULK AT MOST 1048576: true; the input reads as it did. -/
def refintClosureUptoRow : OpenClaim := { program := "ytcmocioniaggoaagreatdoor", sum := "ef0609b57d8196638b5deeff893a950f785ec0719c6513d7ae84137499103e8e", func := "identity/identitylaw13.RefintClosure", spec := "refintClosure", inPlace := ["internal/bytealg.IndexByteString", "internal/bytealg.IndexString", "internal/abi.NoEscape"], unfollowed := true, recurses := true, named := ["unicode/utf8.first", "unicode/utf8.acceptRanges", "internal/bytealg.MaxLen"], apart := false, laid := [("unicode/utf8.acceptRanges", laid_unicode_utf8_acceptRanges), ("unicode/utf8.first", laid_unicode_utf8_first)], narrowed := true }
def RefintClosureUptoSaid : Prop := refintClosureUptoRow.holds Tryz.pinned (OpenSpec.upto refintClosureSpec)

/-- 'identitylaw13.RefintGone', WHERE WHAT IT READS IS OF BULK AT MOST 1048576: true; the input reads as it did. -/
def refintGoneUptoRow : OpenClaim := { program := "ytcmocioniaggoaagreatdoor", sum := "ef0609b57d8196638b5deeff893a950f785ec0719c6513d7ae84137499103e8e", func := "identity/identitylaw13.RefintGone", spec := "refintGone", inPlace := ["internal/bytealg.IndexByteString", "internal/bytealg.IndexString", "internal/abi.NoEscape"], unfollowed := true, recurses := true, named := ["unicode/utf8.first", "unicode/utf8.acceptRanges", "internal/bytealg.MaxLen"], apart := false, laid := [("unicode/utf8.acceptRanges", laid_unicode_utf8_acceptRanges), ("unicode/utf8.first", laid_unicode_utf8_first)], narrowed := true }
def RefintGoneUptoSaid : Prop := refintGoneUptoRow.holds Tryz.pinned (OpenSpec.upto refintGoneSpec)

/-- 'identitylaw13.RefintKept', WHERE WHAT IT READS IS OF BULK AT MOST 1048576: true; the input reads as it did. -/
def refintKeptUptoRow : OpenClaim := { program := "ytcmocioniaggoaagreatdoor", sum := "ef0609b57d8196638b5deeff893a950f785ec0719c6513d7ae84137499103e8e", func := "identity/identitylaw13.RefintKept", spec := "refintKept", inPlace := ["internal/bytealg.IndexByteString", "internal/bytealg.IndexString", "internal/abi.NoEscape"], unfollowed := true, recurses := true, named := ["unicode/utf8.first", "unicode/utf8.acceptRanges", "identity/tree.errors", "internal/bytealg.MaxLen"], apart := false, laid := [("unicode/utf8.acceptRanges", laid_unicode_utf8_acceptRanges), ("identity/tree.errors", laid_identity_tree_errors), ("unicode/utf8.first", laid_unicode_utf8_first)], narrowed := true }
def RefintKeptUptoSaid : Prop := refintKeptUptoRow.holds Tryz.pinned (OpenSpec.upto refintKeptSpec)

end Rows
end Go.Proofs.YtcmocioniaggoaaGreatDoor
