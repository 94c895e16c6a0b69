/-
  DERIVED. GIVEN WITH THE SEED: THE CARDS: each row of YtlekjboiacnjhaaGreatDoorRows.lean that lists a variable, with what it lists TIED to the program's text (the seventh form; the later family's looks); each row that meets fmt, with fmt's text TOLD by the authors' own Lean function (tested against real Go, not proved from fmt's source: count such statements apart). THE CARD IS WHAT COUNTS. Prove the row's statement (the work); the ties are given (YtlekjboiacnjhaaGreatDoorTie.lean); close each card by the builder's one call (the guide's Derived/Test/ToyasCard.lean, 'card_holds'). Laid BY PROGRAM, IN A SANDBOX (cutbox-door.mjs). By AI agents, Wed Nov 11 2026. No macro, syntax, notation, axiom, sorry.
-/
import Derived.Test.YtlekjboiacnjhaaGreatDoorRows
import GoSem.ClaimSeven
namespace Go.Proofs.YtlekjboiacnjhaaGreatDoor
namespace Rows

/-- THE TIED CARD OF 'identitylaw14.AccessChecks'. -/
def accessChecksCard : Claim7 := { stood := { row := accessChecksRow, standIns := [], harness := (true, "0cb484c0298cc9643035c18ed239ac366510dc3fcda9bf41a2ebf319dc49e65d"), looks := false }, kinds := [], alts := [], laidByText := true, laidKinds := [.data, .pinned], laidTests := true, laidLooks := .later }
def AccessChecksCardSaid : Prop := Claim7.holds Tryz.pinned (.plain (OpenSpec.ofChange accessChecksSpec)) accessChecksCard

/-- THE TIED CARD OF 'identitylaw14.AccessViews'. -/
def accessViewsCard : Claim7 := { stood := { row := accessViewsRow, standIns := [], harness := (true, "0cb484c0298cc9643035c18ed239ac366510dc3fcda9bf41a2ebf319dc49e65d"), looks := false }, kinds := [], alts := [], laidByText := true, laidKinds := [.data, .pinned], laidTests := true, laidLooks := .later }
def AccessViewsCardSaid : Prop := Claim7.holds Tryz.pinned (.plain (OpenSpec.ofChange accessViewsSpec)) accessViewsCard

/-- THE TIED CARD OF 'identitylaw14.AccessReturns'. -/
def accessReturnsCard : Claim7 := { stood := { row := accessReturnsRow, standIns := [], harness := (true, "0cb484c0298cc9643035c18ed239ac366510dc3fcda9bf41a2ebf319dc49e65d"), looks := false }, kinds := [], alts := [], laidByText := true, laidKinds := [.data, .pinned], laidTests := true, laidLooks := .later }
def AccessReturnsCardSaid : Prop := Claim7.holds Tryz.pinned (.plain (OpenSpec.ofChange accessReturnsSpec)) accessReturnsCard

/-- THE TIED CARD OF 'identitylaw14.AccessOrders'. -/
def accessOrdersCard : Claim7 := { stood := { row := accessOrdersRow, standIns := [], harness := (true, "0cb484c0298cc9643035c18ed239ac366510dc3fcda9bf41a2ebf319dc49e65d"), looks := false }, kinds := [], alts := [], laidByText := true, laidKinds := [.data, .pinned], laidTests := true, laidLooks := .later }
def AccessOrdersCardSaid : Prop := Claim7.holds Tryz.pinned (.plain (OpenSpec.ofChange accessOrdersSpec)) accessOrdersCard

/-- THE TIED CARD OF 'identitylaw14.AccessLocal'. -/
def accessLocalCard : Claim7 := { stood := { row := accessLocalRow, standIns := [], harness := (true, "0cb484c0298cc9643035c18ed239ac366510dc3fcda9bf41a2ebf319dc49e65d"), looks := false }, kinds := [], alts := [], laidByText := true, laidKinds := [.data, .pinned], laidTests := true, laidLooks := .later }
def AccessLocalCardSaid : Prop := Claim7.holds Tryz.pinned (.plain (OpenSpec.ofChange accessLocalSpec)) accessLocalCard

/-- THE TIED CARD OF 'identitylaw14.AccessLines'. -/
def accessLinesCard : Claim7 := { stood := { row := accessLinesRow, standIns := [], harness := (true, "0cb484c0298cc9643035c18ed239ac366510dc3fcda9bf41a2ebf319dc49e65d"), looks := false }, kinds := [], alts := [], laidByText := true, laidKinds := [.data, .pinned], laidTests := true, laidLooks := .later }
def AccessLinesCardSaid : Prop := Claim7.holds Tryz.pinned (.plain (OpenSpec.ofChange accessLinesSpec)) accessLinesCard

/-- THE SECOND FORM's CARD OF 'identitylaw14.AccessChecks'. -/
def accessChecksUptoCard : Claim7 := { stood := { row := accessChecksUptoRow, standIns := [], harness := (true, "0cb484c0298cc9643035c18ed239ac366510dc3fcda9bf41a2ebf319dc49e65d"), looks := false }, kinds := [], alts := [], laidByText := true, laidKinds := [.data, .pinned], laidTests := true, laidLooks := .later }
def AccessChecksUptoCardSaid : Prop := Claim7.holds Tryz.pinned (.plain (OpenSpec.upto accessChecksSpec)) accessChecksUptoCard

/-- THE SECOND FORM's CARD OF 'identitylaw14.AccessViews'. -/
def accessViewsUptoCard : Claim7 := { stood := { row := accessViewsUptoRow, standIns := [], harness := (true, "0cb484c0298cc9643035c18ed239ac366510dc3fcda9bf41a2ebf319dc49e65d"), looks := false }, kinds := [], alts := [], laidByText := true, laidKinds := [.data, .pinned], laidTests := true, laidLooks := .later }
def AccessViewsUptoCardSaid : Prop := Claim7.holds Tryz.pinned (.plain (OpenSpec.upto accessViewsSpec)) accessViewsUptoCard

/-- THE SECOND FORM's CARD OF 'identitylaw14.AccessReturns'. -/
def accessReturnsUptoCard : Claim7 := { stood := { row := accessReturnsUptoRow, standIns := [], harness := (true, "0cb484c0298cc9643035c18ed239ac366510dc3fcda9bf41a2ebf319dc49e65d"), looks := false }, kinds := [], alts := [], laidByText := true, laidKinds := [.data, .pinned], laidTests := true, laidLooks := .later }
def AccessReturnsUptoCardSaid : Prop := Claim7.holds Tryz.pinned (.plain (OpenSpec.upto accessReturnsSpec)) accessReturnsUptoCard

/-- THE SECOND FORM's CARD OF 'identitylaw14.AccessOrders'. -/
def accessOrdersUptoCard : Claim7 := { stood := { row := accessOrdersUptoRow, standIns := [], harness := (true, "0cb484c0298cc9643035c18ed239ac366510dc3fcda9bf41a2ebf319dc49e65d"), looks := false }, kinds := [], alts := [], laidByText := true, laidKinds := [.data, .pinned], laidTests := true, laidLooks := .later }
def AccessOrdersUptoCardSaid : Prop := Claim7.holds Tryz.pinned (.plain (OpenSpec.upto accessOrdersSpec)) accessOrdersUptoCard

/-- THE SECOND FORM's CARD OF 'identitylaw14.AccessLocal'. -/
def accessLocalUptoCard : Claim7 := { stood := { row := accessLocalUptoRow, standIns := [], harness := (true, "0cb484c0298cc9643035c18ed239ac366510dc3fcda9bf41a2ebf319dc49e65d"), looks := false }, kinds := [], alts := [], laidByText := true, laidKinds := [.data, .pinned], laidTests := true, laidLooks := .later }
def AccessLocalUptoCardSaid : Prop := Claim7.holds Tryz.pinned (.plain (OpenSpec.upto accessLocalSpec)) accessLocalUptoCard

/-- THE SECOND FORM's CARD OF 'identitylaw14.AccessLines'. -/
def accessLinesUptoCard : Claim7 := { stood := { row := accessLinesUptoRow, standIns := [], harness := (true, "0cb484c0298cc9643035c18ed239ac366510dc3fcda9bf41a2ebf319dc49e65d"), looks := false }, kinds := [], alts := [], laidByText := true, laidKinds := [.data, .pinned], laidTests := true, laidLooks := .later }
def AccessLinesUptoCardSaid : Prop := Claim7.holds Tryz.pinned (.plain (OpenSpec.upto accessLinesSpec)) accessLinesUptoCard
end Rows
end Go.Proofs.YtlekjboiacnjhaaGreatDoor
