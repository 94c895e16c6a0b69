/-
  DERIVED. GIVEN WITH THE SEED: THE CARDS: each row of YtcmocioniaggoaaGreatDoorRows.lean that lists a variable, with what it lists TIED to the program's text (the seventh form; the later family's looks); each row that meets fmt, with fmt's text TOLD by the authors' own Lean function (tested against real Go, not proved from fmt's source: count such statements apart). THE CARD IS WHAT COUNTS. Prove the row's statement (the work); the ties are given (YtcmocioniaggoaaGreatDoorTie.lean); close each card by the builder's one call (the guide's Derived/Test/ToyasCard.lean, 'card_holds'). Laid BY PROGRAM, IN A SANDBOX (cutbox-door.mjs). By AI agents, Wed Nov 11 2026. No macro, syntax, notation, axiom, sorry.
-/
import Derived.Test.YtcmocioniaggoaaGreatDoorRows
import GoSem.ClaimSeven
namespace Go.Proofs.YtcmocioniaggoaaGreatDoor
namespace Rows

/-- THE TIED CARD OF 'identitylaw13.RefintRefs'. -/
def refintRefsCard : Claim7 := { stood := { row := refintRefsRow, standIns := [], harness := (true, "fd81bbbe2c21e50947805768a0ade6795231a0c25b5687cb1b9ffb612b48d53e"), looks := false }, kinds := [], alts := [], laidByText := true, laidKinds := [.data, .pinned], laidTests := true, laidLooks := .later }
def RefintRefsCardSaid : Prop := Claim7.holds Tryz.pinned (.plain (OpenSpec.ofChange refintRefsSpec)) refintRefsCard

/-- THE TIED CARD OF 'identitylaw13.RefintBroken'. -/
def refintBrokenCard : Claim7 := { stood := { row := refintBrokenRow, standIns := [], harness := (true, "fd81bbbe2c21e50947805768a0ade6795231a0c25b5687cb1b9ffb612b48d53e"), looks := false }, kinds := [], alts := [], laidByText := true, laidKinds := [.data, .pinned], laidTests := true, laidLooks := .later }
def RefintBrokenCardSaid : Prop := Claim7.holds Tryz.pinned (.plain (OpenSpec.ofChange refintBrokenSpec)) refintBrokenCard

/-- THE TIED CARD OF 'identitylaw13.RefintMembers'. -/
def refintMembersCard : Claim7 := { stood := { row := refintMembersRow, standIns := [], harness := (true, "fd81bbbe2c21e50947805768a0ade6795231a0c25b5687cb1b9ffb612b48d53e"), looks := false }, kinds := [], alts := [], laidByText := true, laidKinds := [.data, .pinned], laidTests := true, laidLooks := .later }
def RefintMembersCardSaid : Prop := Claim7.holds Tryz.pinned (.plain (OpenSpec.ofChange refintMembersSpec)) refintMembersCard

/-- THE TIED CARD OF 'identitylaw13.RefintClosure'. -/
def refintClosureCard : Claim7 := { stood := { row := refintClosureRow, standIns := [], harness := (true, "fd81bbbe2c21e50947805768a0ade6795231a0c25b5687cb1b9ffb612b48d53e"), looks := false }, kinds := [], alts := [], laidByText := true, laidKinds := [.data, .pinned], laidTests := true, laidLooks := .later }
def RefintClosureCardSaid : Prop := Claim7.holds Tryz.pinned (.plain (OpenSpec.ofChange refintClosureSpec)) refintClosureCard

/-- THE TIED CARD OF 'identitylaw13.RefintGone'. -/
def refintGoneCard : Claim7 := { stood := { row := refintGoneRow, standIns := [], harness := (true, "fd81bbbe2c21e50947805768a0ade6795231a0c25b5687cb1b9ffb612b48d53e"), looks := false }, kinds := [], alts := [], laidByText := true, laidKinds := [.data, .pinned], laidTests := true, laidLooks := .later }
def RefintGoneCardSaid : Prop := Claim7.holds Tryz.pinned (.plain (OpenSpec.ofChange refintGoneSpec)) refintGoneCard

/-- THE TIED CARD OF 'identitylaw13.RefintKept'. -/
def refintKeptCard : Claim7 := { stood := { row := refintKeptRow, standIns := [], harness := (true, "fd81bbbe2c21e50947805768a0ade6795231a0c25b5687cb1b9ffb612b48d53e"), looks := false }, kinds := [], alts := [], laidByText := true, laidKinds := [.data, .data, .pinned], laidTests := true, laidLooks := .later }
def RefintKeptCardSaid : Prop := Claim7.holds Tryz.pinned (.plain (OpenSpec.ofChange refintKeptSpec)) refintKeptCard

/-- THE SECOND FORM's CARD OF 'identitylaw13.RefintRefs'. -/
def refintRefsUptoCard : Claim7 := { stood := { row := refintRefsUptoRow, standIns := [], harness := (true, "fd81bbbe2c21e50947805768a0ade6795231a0c25b5687cb1b9ffb612b48d53e"), looks := false }, kinds := [], alts := [], laidByText := true, laidKinds := [.data, .pinned], laidTests := true, laidLooks := .later }
def RefintRefsUptoCardSaid : Prop := Claim7.holds Tryz.pinned (.plain (OpenSpec.upto refintRefsSpec)) refintRefsUptoCard

/-- THE SECOND FORM's CARD OF 'identitylaw13.RefintBroken'. -/
def refintBrokenUptoCard : Claim7 := { stood := { row := refintBrokenUptoRow, standIns := [], harness := (true, "fd81bbbe2c21e50947805768a0ade6795231a0c25b5687cb1b9ffb612b48d53e"), looks := false }, kinds := [], alts := [], laidByText := true, laidKinds := [.data, .pinned], laidTests := true, laidLooks := .later }
def RefintBrokenUptoCardSaid : Prop := Claim7.holds Tryz.pinned (.plain (OpenSpec.upto refintBrokenSpec)) refintBrokenUptoCard

/-- THE SECOND FORM's CARD OF 'identitylaw13.RefintMembers'. -/
def refintMembersUptoCard : Claim7 := { stood := { row := refintMembersUptoRow, standIns := [], harness := (true, "fd81bbbe2c21e50947805768a0ade6795231a0c25b5687cb1b9ffb612b48d53e"), looks := false }, kinds := [], alts := [], laidByText := true, laidKinds := [.data, .pinned], laidTests := true, laidLooks := .later }
def RefintMembersUptoCardSaid : Prop := Claim7.holds Tryz.pinned (.plain (OpenSpec.upto refintMembersSpec)) refintMembersUptoCard

/-- THE SECOND FORM's CARD OF 'identitylaw13.RefintClosure'. -/
def refintClosureUptoCard : Claim7 := { stood := { row := refintClosureUptoRow, standIns := [], harness := (true, "fd81bbbe2c21e50947805768a0ade6795231a0c25b5687cb1b9ffb612b48d53e"), looks := false }, kinds := [], alts := [], laidByText := true, laidKinds := [.data, .pinned], laidTests := true, laidLooks := .later }
def RefintClosureUptoCardSaid : Prop := Claim7.holds Tryz.pinned (.plain (OpenSpec.upto refintClosureSpec)) refintClosureUptoCard

/-- THE SECOND FORM's CARD OF 'identitylaw13.RefintGone'. -/
def refintGoneUptoCard : Claim7 := { stood := { row := refintGoneUptoRow, standIns := [], harness := (true, "fd81bbbe2c21e50947805768a0ade6795231a0c25b5687cb1b9ffb612b48d53e"), looks := false }, kinds := [], alts := [], laidByText := true, laidKinds := [.data, .pinned], laidTests := true, laidLooks := .later }
def RefintGoneUptoCardSaid : Prop := Claim7.holds Tryz.pinned (.plain (OpenSpec.upto refintGoneSpec)) refintGoneUptoCard

/-- THE SECOND FORM's CARD OF 'identitylaw13.RefintKept'. -/
def refintKeptUptoCard : Claim7 := { stood := { row := refintKeptUptoRow, standIns := [], harness := (true, "fd81bbbe2c21e50947805768a0ade6795231a0c25b5687cb1b9ffb612b48d53e"), looks := false }, kinds := [], alts := [], laidByText := true, laidKinds := [.data, .data, .pinned], laidTests := true, laidLooks := .later }
def RefintKeptUptoCardSaid : Prop := Claim7.holds Tryz.pinned (.plain (OpenSpec.upto refintKeptSpec)) refintKeptUptoCard
end Rows
end Go.Proofs.YtcmocioniaggoaaGreatDoor
