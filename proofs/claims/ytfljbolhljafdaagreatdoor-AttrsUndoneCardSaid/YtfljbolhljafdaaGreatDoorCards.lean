/-
  DERIVED. GIVEN WITH THE SEED: THE CARDS: each row of YtfljbolhljafdaaGreatDoorRows.lean that lists a variable, with what it lists TIED to the program's text (the seventh form; the later family's looks); each row that meets fmt, with fmt's text TOLD by the authors' own Lean function (tested against real Go, not proved from fmt's source: count such statements apart). THE CARD IS WHAT COUNTS. Prove the row's statement (the work); the ties are given (YtfljbolhljafdaaGreatDoorTie.lean); close each card by the builder's one call (the guide's Derived/Test/ToyasCard.lean, 'card_holds'). Laid BY PROGRAM, IN A SANDBOX (cutbox-door.mjs). By AI agents, Wed Nov 11 2026. No macro, syntax, notation, axiom, sorry.
-/
import Derived.Test.YtfljbolhljafdaaGreatDoorRows
import GoSem.ClaimSeven
namespace Go.Proofs.YtfljbolhljafdaaGreatDoor
namespace Rows

/-- THE TIED CARD OF 'identitylaw06.AttrsChecks'. -/
def attrsChecksCard : Claim7 := { stood := { row := attrsChecksRow, standIns := [], harness := (true, "162ab96998c3f3907efb5ff5b0281c8b8d8e089f3e73af20c74ce3239bc508c9"), looks := false }, kinds := [], alts := [], laidByText := true, laidKinds := [.data, .pinned], laidTests := true, laidLooks := .later }
def AttrsChecksCardSaid : Prop := Claim7.holds Tryz.pinned (.plain (OpenSpec.ofChange attrsChecksSpec)) attrsChecksCard

/-- THE TIED CARD OF 'identitylaw06.AttrsSorts'. -/
def attrsSortsCard : Claim7 := { stood := { row := attrsSortsRow, standIns := [], harness := (true, "162ab96998c3f3907efb5ff5b0281c8b8d8e089f3e73af20c74ce3239bc508c9"), looks := false }, kinds := [], alts := [], laidByText := true, laidKinds := [.data, .pinned], laidTests := true, laidLooks := .later }
def AttrsSortsCardSaid : Prop := Claim7.holds Tryz.pinned (.plain (OpenSpec.ofChange attrsSortsSpec)) attrsSortsCard

/-- THE TIED CARD OF 'identitylaw06.AttrsPicks'. -/
def attrsPicksCard : Claim7 := { stood := { row := attrsPicksRow, standIns := [], harness := (true, "162ab96998c3f3907efb5ff5b0281c8b8d8e089f3e73af20c74ce3239bc508c9"), looks := false }, kinds := [], alts := [], laidByText := true, laidKinds := [.data, .pinned], laidTests := true, laidLooks := .later }
def AttrsPicksCardSaid : Prop := Claim7.holds Tryz.pinned (.plain (OpenSpec.ofChange attrsPicksSpec)) attrsPicksCard

/-- THE TIED CARD OF 'identitylaw06.AttrsEdits'. -/
def attrsEditsCard : Claim7 := { stood := { row := attrsEditsRow, standIns := [], harness := (true, "162ab96998c3f3907efb5ff5b0281c8b8d8e089f3e73af20c74ce3239bc508c9"), looks := false }, kinds := [], alts := [], laidByText := true, laidKinds := [.data, .pinned], laidTests := true, laidLooks := .later }
def AttrsEditsCardSaid : Prop := Claim7.holds Tryz.pinned (.plain (OpenSpec.ofChange attrsEditsSpec)) attrsEditsCard

/-- THE TIED CARD OF 'identitylaw06.AttrsNormal'. -/
def attrsNormalCard : Claim7 := { stood := { row := attrsNormalRow, standIns := [], harness := (true, "162ab96998c3f3907efb5ff5b0281c8b8d8e089f3e73af20c74ce3239bc508c9"), looks := false }, kinds := [], alts := [], laidByText := true, laidKinds := [.data, .pinned], laidTests := true, laidLooks := .later }
def AttrsNormalCardSaid : Prop := Claim7.holds Tryz.pinned (.plain (OpenSpec.ofChange attrsNormalSpec)) attrsNormalCard

/-- THE TIED CARD OF 'identitylaw06.AttrsUndone'. -/
def attrsUndoneCard : Claim7 := { stood := { row := attrsUndoneRow, standIns := [], harness := (true, "162ab96998c3f3907efb5ff5b0281c8b8d8e089f3e73af20c74ce3239bc508c9"), looks := false }, kinds := [], alts := [], laidByText := true, laidKinds := [.data, .pinned], laidTests := true, laidLooks := .later }
def AttrsUndoneCardSaid : Prop := Claim7.holds Tryz.pinned (.plain (OpenSpec.ofChange attrsUndoneSpec)) attrsUndoneCard

/-- THE TIED CARD OF 'identitylaw06.AttrsOthers'. -/
def attrsOthersCard : Claim7 := { stood := { row := attrsOthersRow, standIns := [], harness := (true, "162ab96998c3f3907efb5ff5b0281c8b8d8e089f3e73af20c74ce3239bc508c9"), looks := false }, kinds := [], alts := [], laidByText := true, laidKinds := [.data, .pinned], laidTests := true, laidLooks := .later }
def AttrsOthersCardSaid : Prop := Claim7.holds Tryz.pinned (.plain (OpenSpec.ofChange attrsOthersSpec)) attrsOthersCard

/-- THE SECOND FORM's CARD OF 'identitylaw06.AttrsChecks'. -/
def attrsChecksUptoCard : Claim7 := { stood := { row := attrsChecksUptoRow, standIns := [], harness := (true, "162ab96998c3f3907efb5ff5b0281c8b8d8e089f3e73af20c74ce3239bc508c9"), looks := false }, kinds := [], alts := [], laidByText := true, laidKinds := [.data, .pinned], laidTests := true, laidLooks := .later }
def AttrsChecksUptoCardSaid : Prop := Claim7.holds Tryz.pinned (.plain (OpenSpec.upto attrsChecksSpec)) attrsChecksUptoCard

/-- THE SECOND FORM's CARD OF 'identitylaw06.AttrsSorts'. -/
def attrsSortsUptoCard : Claim7 := { stood := { row := attrsSortsUptoRow, standIns := [], harness := (true, "162ab96998c3f3907efb5ff5b0281c8b8d8e089f3e73af20c74ce3239bc508c9"), looks := false }, kinds := [], alts := [], laidByText := true, laidKinds := [.data, .pinned], laidTests := true, laidLooks := .later }
def AttrsSortsUptoCardSaid : Prop := Claim7.holds Tryz.pinned (.plain (OpenSpec.upto attrsSortsSpec)) attrsSortsUptoCard

/-- THE SECOND FORM's CARD OF 'identitylaw06.AttrsPicks'. -/
def attrsPicksUptoCard : Claim7 := { stood := { row := attrsPicksUptoRow, standIns := [], harness := (true, "162ab96998c3f3907efb5ff5b0281c8b8d8e089f3e73af20c74ce3239bc508c9"), looks := false }, kinds := [], alts := [], laidByText := true, laidKinds := [.data, .pinned], laidTests := true, laidLooks := .later }
def AttrsPicksUptoCardSaid : Prop := Claim7.holds Tryz.pinned (.plain (OpenSpec.upto attrsPicksSpec)) attrsPicksUptoCard

/-- THE SECOND FORM's CARD OF 'identitylaw06.AttrsEdits'. -/
def attrsEditsUptoCard : Claim7 := { stood := { row := attrsEditsUptoRow, standIns := [], harness := (true, "162ab96998c3f3907efb5ff5b0281c8b8d8e089f3e73af20c74ce3239bc508c9"), looks := false }, kinds := [], alts := [], laidByText := true, laidKinds := [.data, .pinned], laidTests := true, laidLooks := .later }
def AttrsEditsUptoCardSaid : Prop := Claim7.holds Tryz.pinned (.plain (OpenSpec.upto attrsEditsSpec)) attrsEditsUptoCard

/-- THE SECOND FORM's CARD OF 'identitylaw06.AttrsNormal'. -/
def attrsNormalUptoCard : Claim7 := { stood := { row := attrsNormalUptoRow, standIns := [], harness := (true, "162ab96998c3f3907efb5ff5b0281c8b8d8e089f3e73af20c74ce3239bc508c9"), looks := false }, kinds := [], alts := [], laidByText := true, laidKinds := [.data, .pinned], laidTests := true, laidLooks := .later }
def AttrsNormalUptoCardSaid : Prop := Claim7.holds Tryz.pinned (.plain (OpenSpec.upto attrsNormalSpec)) attrsNormalUptoCard

/-- THE SECOND FORM's CARD OF 'identitylaw06.AttrsUndone'. -/
def attrsUndoneUptoCard : Claim7 := { stood := { row := attrsUndoneUptoRow, standIns := [], harness := (true, "162ab96998c3f3907efb5ff5b0281c8b8d8e089f3e73af20c74ce3239bc508c9"), looks := false }, kinds := [], alts := [], laidByText := true, laidKinds := [.data, .pinned], laidTests := true, laidLooks := .later }
def AttrsUndoneUptoCardSaid : Prop := Claim7.holds Tryz.pinned (.plain (OpenSpec.upto attrsUndoneSpec)) attrsUndoneUptoCard

/-- THE SECOND FORM's CARD OF 'identitylaw06.AttrsOthers'. -/
def attrsOthersUptoCard : Claim7 := { stood := { row := attrsOthersUptoRow, standIns := [], harness := (true, "162ab96998c3f3907efb5ff5b0281c8b8d8e089f3e73af20c74ce3239bc508c9"), looks := false }, kinds := [], alts := [], laidByText := true, laidKinds := [.data, .pinned], laidTests := true, laidLooks := .later }
def AttrsOthersUptoCardSaid : Prop := Claim7.holds Tryz.pinned (.plain (OpenSpec.upto attrsOthersSpec)) attrsOthersUptoCard
end Rows
end Go.Proofs.YtfljbolhljafdaaGreatDoor
