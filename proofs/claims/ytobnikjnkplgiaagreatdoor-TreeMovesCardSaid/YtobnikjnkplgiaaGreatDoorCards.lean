/-
  DERIVED. GIVEN WITH THE SEED: THE CARDS: each row of YtobnikjnkplgiaaGreatDoorRows.lean that lists a variable, with what it lists TIED to the program's text (the seventh form; the later family's looks); each row that meets fmt, with fmt's text TOLD by the authors' own Lean function (tested against real Go, not proved from fmt's source: count such statements apart). THE CARD IS WHAT COUNTS. Prove the row's statement (the work); the ties are given (YtobnikjnkplgiaaGreatDoorTie.lean); close each card by the builder's one call (the guide's Derived/Test/ToyasCard.lean, 'card_holds'). Laid BY PROGRAM, IN A SANDBOX (cutbox-door.mjs). By AI agents, Wed Nov 11 2026. No macro, syntax, notation, axiom, sorry.
-/
import Derived.Test.YtobnikjnkplgiaaGreatDoorRows
import GoSem.ClaimSeven
namespace Go.Proofs.YtobnikjnkplgiaaGreatDoor
namespace Rows

/-- THE TIED CARD OF 'identitylaw10.TreePlays'. -/
def treePlaysCard : Claim7 := { stood := { row := treePlaysRow, standIns := [], harness := (true, "59df9dc60447fd784cfc38933347083aeb1544cc9a233748f349b3e606b5799f"), looks := false }, kinds := [], alts := [], laidByText := true, laidKinds := [.data, .data, .pinned], laidTests := true, laidLooks := .later }
def TreePlaysCardSaid : Prop := Claim7.holds Tryz.pinned (.plain (OpenSpec.ofChange treePlaysSpec)) treePlaysCard

/-- THE TIED CARD OF 'identitylaw10.TreeConnected'. -/
def treeConnectedCard : Claim7 := { stood := { row := treeConnectedRow, standIns := [], harness := (true, "59df9dc60447fd784cfc38933347083aeb1544cc9a233748f349b3e606b5799f"), looks := false }, kinds := [], alts := [], laidByText := true, laidKinds := [.data, .data, .pinned], laidTests := true, laidLooks := .later }
def TreeConnectedCardSaid : Prop := Claim7.holds Tryz.pinned (.plain (OpenSpec.ofChange treeConnectedSpec)) treeConnectedCard

/-- THE TIED CARD OF 'identitylaw10.TreeNothing'. -/
def treeNothingCard : Claim7 := { stood := { row := treeNothingRow, standIns := [], harness := (true, "59df9dc60447fd784cfc38933347083aeb1544cc9a233748f349b3e606b5799f"), looks := false }, kinds := [], alts := [], laidByText := true, laidKinds := [.data, .data, .pinned], laidTests := true, laidLooks := .later }
def TreeNothingCardSaid : Prop := Claim7.holds Tryz.pinned (.plain (OpenSpec.ofChange treeNothingSpec)) treeNothingCard

/-- THE TIED CARD OF 'identitylaw10.TreeMoves'. -/
def treeMovesCard : Claim7 := { stood := { row := treeMovesRow, standIns := [], harness := (true, "59df9dc60447fd784cfc38933347083aeb1544cc9a233748f349b3e606b5799f"), looks := false }, kinds := [], alts := [], laidByText := true, laidKinds := [.data, .data, .pinned], laidTests := true, laidLooks := .later }
def TreeMovesCardSaid : Prop := Claim7.holds Tryz.pinned (.plain (OpenSpec.ofChange treeMovesSpec)) treeMovesCard

/-- THE TIED CARD OF 'identitylaw10.TreeSubtrees'. -/
def treeSubtreesCard : Claim7 := { stood := { row := treeSubtreesRow, standIns := [], harness := (true, "59df9dc60447fd784cfc38933347083aeb1544cc9a233748f349b3e606b5799f"), looks := false }, kinds := [], alts := [], laidByText := true, laidKinds := [.data, .data, .pinned], laidTests := true, laidLooks := .later }
def TreeSubtreesCardSaid : Prop := Claim7.holds Tryz.pinned (.plain (OpenSpec.ofChange treeSubtreesSpec)) treeSubtreesCard

/-- THE TIED CARD OF 'identitylaw10.TreeNil'. -/
def treeNilCard : Claim7 := { stood := { row := treeNilRow, standIns := [], harness := (true, "59df9dc60447fd784cfc38933347083aeb1544cc9a233748f349b3e606b5799f"), looks := false }, kinds := [], alts := [], laidByText := true, laidKinds := [.data, .data, .pinned], laidTests := true, laidLooks := .later }
def TreeNilCardSaid : Prop := Claim7.holds Tryz.pinned (.plain (OpenSpec.ofChange treeNilSpec)) treeNilCard

/-- THE SECOND FORM's CARD OF 'identitylaw10.TreePlays'. -/
def treePlaysUptoCard : Claim7 := { stood := { row := treePlaysUptoRow, standIns := [], harness := (true, "59df9dc60447fd784cfc38933347083aeb1544cc9a233748f349b3e606b5799f"), looks := false }, kinds := [], alts := [], laidByText := true, laidKinds := [.data, .data, .pinned], laidTests := true, laidLooks := .later }
def TreePlaysUptoCardSaid : Prop := Claim7.holds Tryz.pinned (.plain (OpenSpec.upto treePlaysSpec)) treePlaysUptoCard

/-- THE SECOND FORM's CARD OF 'identitylaw10.TreeConnected'. -/
def treeConnectedUptoCard : Claim7 := { stood := { row := treeConnectedUptoRow, standIns := [], harness := (true, "59df9dc60447fd784cfc38933347083aeb1544cc9a233748f349b3e606b5799f"), looks := false }, kinds := [], alts := [], laidByText := true, laidKinds := [.data, .data, .pinned], laidTests := true, laidLooks := .later }
def TreeConnectedUptoCardSaid : Prop := Claim7.holds Tryz.pinned (.plain (OpenSpec.upto treeConnectedSpec)) treeConnectedUptoCard

/-- THE SECOND FORM's CARD OF 'identitylaw10.TreeNothing'. -/
def treeNothingUptoCard : Claim7 := { stood := { row := treeNothingUptoRow, standIns := [], harness := (true, "59df9dc60447fd784cfc38933347083aeb1544cc9a233748f349b3e606b5799f"), looks := false }, kinds := [], alts := [], laidByText := true, laidKinds := [.data, .data, .pinned], laidTests := true, laidLooks := .later }
def TreeNothingUptoCardSaid : Prop := Claim7.holds Tryz.pinned (.plain (OpenSpec.upto treeNothingSpec)) treeNothingUptoCard

/-- THE SECOND FORM's CARD OF 'identitylaw10.TreeMoves'. -/
def treeMovesUptoCard : Claim7 := { stood := { row := treeMovesUptoRow, standIns := [], harness := (true, "59df9dc60447fd784cfc38933347083aeb1544cc9a233748f349b3e606b5799f"), looks := false }, kinds := [], alts := [], laidByText := true, laidKinds := [.data, .data, .pinned], laidTests := true, laidLooks := .later }
def TreeMovesUptoCardSaid : Prop := Claim7.holds Tryz.pinned (.plain (OpenSpec.upto treeMovesSpec)) treeMovesUptoCard

/-- THE SECOND FORM's CARD OF 'identitylaw10.TreeSubtrees'. -/
def treeSubtreesUptoCard : Claim7 := { stood := { row := treeSubtreesUptoRow, standIns := [], harness := (true, "59df9dc60447fd784cfc38933347083aeb1544cc9a233748f349b3e606b5799f"), looks := false }, kinds := [], alts := [], laidByText := true, laidKinds := [.data, .data, .pinned], laidTests := true, laidLooks := .later }
def TreeSubtreesUptoCardSaid : Prop := Claim7.holds Tryz.pinned (.plain (OpenSpec.upto treeSubtreesSpec)) treeSubtreesUptoCard

/-- THE SECOND FORM's CARD OF 'identitylaw10.TreeNil'. -/
def treeNilUptoCard : Claim7 := { stood := { row := treeNilUptoRow, standIns := [], harness := (true, "59df9dc60447fd784cfc38933347083aeb1544cc9a233748f349b3e606b5799f"), looks := false }, kinds := [], alts := [], laidByText := true, laidKinds := [.data, .data, .pinned], laidTests := true, laidLooks := .later }
def TreeNilUptoCardSaid : Prop := Claim7.holds Tryz.pinned (.plain (OpenSpec.upto treeNilSpec)) treeNilUptoCard
end Rows
end Go.Proofs.YtobnikjnkplgiaaGreatDoor
