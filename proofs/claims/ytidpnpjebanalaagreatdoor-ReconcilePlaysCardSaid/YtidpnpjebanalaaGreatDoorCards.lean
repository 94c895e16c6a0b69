/-
  DERIVED. GIVEN WITH THE SEED: THE CARDS: each row of YtidpnpjebanalaaGreatDoorRows.lean that lists a variable, with what it lists TIED to the program's text (the seventh form; the later family's looks); each row that meets fmt, with fmt's text TOLD by the authors' own Lean function (tested against real Go, not proved from fmt's source: count such statements apart). THE CARD IS WHAT COUNTS. Prove the row's statement (the work); the ties are given (YtidpnpjebanalaaGreatDoorTie.lean); close each card by the builder's one call (the guide's Derived/Test/ToyasCard.lean, 'card_holds'). Laid BY PROGRAM, IN A SANDBOX (cutbox-door.mjs). By AI agents, Wed Nov 11 2026. No macro, syntax, notation, axiom, sorry.
-/
import Derived.Test.YtidpnpjebanalaaGreatDoorRows
import GoSem.ClaimSeven
namespace Go.Proofs.YtidpnpjebanalaaGreatDoor
namespace Rows

/-- THE TIED CARD OF 'identitylaw48.ReconcilePlays'. -/
def reconcilePlaysCard : Claim7 := { stood := { row := reconcilePlaysRow, standIns := [], harness := (true, "d89b3c6259361a23cabf8226155df8652b258fa289ba6fc71b00b732a6fe1314"), looks := false }, kinds := [], alts := [], laidByText := true, laidKinds := [.data, .pinned], laidTests := true, laidLooks := .later }
def ReconcilePlaysCardSaid : Prop := Claim7.holds Tryz.pinned (.plain (OpenSpec.ofChange reconcilePlaysSpec)) reconcilePlaysCard

/-- THE TIED CARD OF 'identitylaw48.ReconcileCounts'. -/
def reconcileCountsCard : Claim7 := { stood := { row := reconcileCountsRow, standIns := [], harness := (true, "d89b3c6259361a23cabf8226155df8652b258fa289ba6fc71b00b732a6fe1314"), looks := false }, kinds := [], alts := [], laidByText := true, laidKinds := [.data, .pinned], laidTests := true, laidLooks := .later }
def ReconcileCountsCardSaid : Prop := Claim7.holds Tryz.pinned (.plain (OpenSpec.ofChange reconcileCountsSpec)) reconcileCountsCard

/-- THE TIED CARD OF 'identitylaw48.ReconcileReaches'. -/
def reconcileReachesCard : Claim7 := { stood := { row := reconcileReachesRow, standIns := [], harness := (true, "d89b3c6259361a23cabf8226155df8652b258fa289ba6fc71b00b732a6fe1314"), looks := false }, kinds := [], alts := [], laidByText := true, laidKinds := [.data, .pinned], laidTests := true, laidLooks := .later }
def ReconcileReachesCardSaid : Prop := Claim7.holds Tryz.pinned (.plain (OpenSpec.ofChange reconcileReachesSpec)) reconcileReachesCard

/-- THE TIED CARD OF 'identitylaw48.ReconcileLatest'. -/
def reconcileLatestCard : Claim7 := { stood := { row := reconcileLatestRow, standIns := [], harness := (true, "d89b3c6259361a23cabf8226155df8652b258fa289ba6fc71b00b732a6fe1314"), looks := false }, kinds := [], alts := [], laidByText := true, laidKinds := [.data, .pinned], laidTests := true, laidLooks := .later }
def ReconcileLatestCardSaid : Prop := Claim7.holds Tryz.pinned (.plain (OpenSpec.ofChange reconcileLatestSpec)) reconcileLatestCard

/-- THE TIED CARD OF 'identitylaw48.ReconcileQueue'. -/
def reconcileQueueCard : Claim7 := { stood := { row := reconcileQueueRow, standIns := [], harness := (true, "d89b3c6259361a23cabf8226155df8652b258fa289ba6fc71b00b732a6fe1314"), looks := false }, kinds := [], alts := [], laidByText := true, laidKinds := [.data, .pinned], laidTests := true, laidLooks := .later }
def ReconcileQueueCardSaid : Prop := Claim7.holds Tryz.pinned (.plain (OpenSpec.ofChange reconcileQueueSpec)) reconcileQueueCard

/-- THE TIED CARD OF 'identitylaw48.ReconcileNil'. -/
def reconcileNilCard : Claim7 := { stood := { row := reconcileNilRow, standIns := [], harness := (true, "d89b3c6259361a23cabf8226155df8652b258fa289ba6fc71b00b732a6fe1314"), looks := false }, kinds := [], alts := [], laidByText := true, laidKinds := [.data, .pinned], laidTests := true, laidLooks := .later }
def ReconcileNilCardSaid : Prop := Claim7.holds Tryz.pinned (.plain (OpenSpec.ofChange reconcileNilSpec)) reconcileNilCard

/-- THE SECOND FORM's CARD OF 'identitylaw48.ReconcilePlays'. -/
def reconcilePlaysUptoCard : Claim7 := { stood := { row := reconcilePlaysUptoRow, standIns := [], harness := (true, "d89b3c6259361a23cabf8226155df8652b258fa289ba6fc71b00b732a6fe1314"), looks := false }, kinds := [], alts := [], laidByText := true, laidKinds := [.data, .pinned], laidTests := true, laidLooks := .later }
def ReconcilePlaysUptoCardSaid : Prop := Claim7.holds Tryz.pinned (.plain (OpenSpec.upto reconcilePlaysSpec)) reconcilePlaysUptoCard

/-- THE SECOND FORM's CARD OF 'identitylaw48.ReconcileCounts'. -/
def reconcileCountsUptoCard : Claim7 := { stood := { row := reconcileCountsUptoRow, standIns := [], harness := (true, "d89b3c6259361a23cabf8226155df8652b258fa289ba6fc71b00b732a6fe1314"), looks := false }, kinds := [], alts := [], laidByText := true, laidKinds := [.data, .pinned], laidTests := true, laidLooks := .later }
def ReconcileCountsUptoCardSaid : Prop := Claim7.holds Tryz.pinned (.plain (OpenSpec.upto reconcileCountsSpec)) reconcileCountsUptoCard

/-- THE SECOND FORM's CARD OF 'identitylaw48.ReconcileReaches'. -/
def reconcileReachesUptoCard : Claim7 := { stood := { row := reconcileReachesUptoRow, standIns := [], harness := (true, "d89b3c6259361a23cabf8226155df8652b258fa289ba6fc71b00b732a6fe1314"), looks := false }, kinds := [], alts := [], laidByText := true, laidKinds := [.data, .pinned], laidTests := true, laidLooks := .later }
def ReconcileReachesUptoCardSaid : Prop := Claim7.holds Tryz.pinned (.plain (OpenSpec.upto reconcileReachesSpec)) reconcileReachesUptoCard

/-- THE SECOND FORM's CARD OF 'identitylaw48.ReconcileLatest'. -/
def reconcileLatestUptoCard : Claim7 := { stood := { row := reconcileLatestUptoRow, standIns := [], harness := (true, "d89b3c6259361a23cabf8226155df8652b258fa289ba6fc71b00b732a6fe1314"), looks := false }, kinds := [], alts := [], laidByText := true, laidKinds := [.data, .pinned], laidTests := true, laidLooks := .later }
def ReconcileLatestUptoCardSaid : Prop := Claim7.holds Tryz.pinned (.plain (OpenSpec.upto reconcileLatestSpec)) reconcileLatestUptoCard

/-- THE SECOND FORM's CARD OF 'identitylaw48.ReconcileQueue'. -/
def reconcileQueueUptoCard : Claim7 := { stood := { row := reconcileQueueUptoRow, standIns := [], harness := (true, "d89b3c6259361a23cabf8226155df8652b258fa289ba6fc71b00b732a6fe1314"), looks := false }, kinds := [], alts := [], laidByText := true, laidKinds := [.data, .pinned], laidTests := true, laidLooks := .later }
def ReconcileQueueUptoCardSaid : Prop := Claim7.holds Tryz.pinned (.plain (OpenSpec.upto reconcileQueueSpec)) reconcileQueueUptoCard

/-- THE SECOND FORM's CARD OF 'identitylaw48.ReconcileNil'. -/
def reconcileNilUptoCard : Claim7 := { stood := { row := reconcileNilUptoRow, standIns := [], harness := (true, "d89b3c6259361a23cabf8226155df8652b258fa289ba6fc71b00b732a6fe1314"), looks := false }, kinds := [], alts := [], laidByText := true, laidKinds := [.data, .pinned], laidTests := true, laidLooks := .later }
def ReconcileNilUptoCardSaid : Prop := Claim7.holds Tryz.pinned (.plain (OpenSpec.upto reconcileNilSpec)) reconcileNilUptoCard
end Rows
end Go.Proofs.YtidpnpjebanalaaGreatDoor
