/-
  DERIVED. GIVEN WITH THE SEED: THE CARDS: each row of YtnknfnfinhagoaaGreatDoorRows.lean that lists a variable, with what it lists TIED to the program's text (the seventh form; the later family's looks); each row that meets fmt, with fmt's text TOLD by the authors' own Lean function (tested against real Go, not proved from fmt's source: count such statements apart). THE CARD IS WHAT COUNTS. Prove the row's statement (the work); the ties are given (YtnknfnfinhagoaaGreatDoorTie.lean); close each card by the builder's one call (the guide's Derived/Test/ToyasCard.lean, 'card_holds'). Laid BY PROGRAM, IN A SANDBOX (cutbox-door.mjs). By AI agents, Wed Nov 11 2026. No macro, syntax, notation, axiom, sorry.
-/
import Derived.Test.YtnknfnfinhagoaaGreatDoorRows
import GoSem.ClaimSeven
namespace Go.Proofs.YtnknfnfinhagoaaGreatDoor
namespace Rows

/-- THE TIED CARD OF 'identitylaw17.MergeStates'. -/
def mergeStatesCard : Claim7 := { stood := { row := mergeStatesRow, standIns := [], harness := (true, "a53b09718a81935e57b4b1232a49b544090a58f4f4eb7e7fd9c46be1095230a2"), looks := true }, kinds := [], alts := [], laidByText := true, laidKinds := [.data, .widerDeep, .pinned], laidTests := true, laidLooks := .later }
def MergeStatesCardSaid : Prop := Claim7.holds Tryz.pinned (.plain (OpenSpec.ofChange mergeStatesSpec)) mergeStatesCard

/-- THE TIED CARD OF 'identitylaw17.MergeTombs'. -/
def mergeTombsCard : Claim7 := { stood := { row := mergeTombsRow, standIns := [], harness := (true, "a53b09718a81935e57b4b1232a49b544090a58f4f4eb7e7fd9c46be1095230a2"), looks := true }, kinds := [], alts := [], laidByText := true, laidKinds := [.data, .widerDeep, .pinned], laidTests := true, laidLooks := .later }
def MergeTombsCardSaid : Prop := Claim7.holds Tryz.pinned (.plain (OpenSpec.ofChange mergeTombsSpec)) mergeTombsCard

/-- THE TIED CARD OF 'identitylaw17.MergeLatest'. -/
def mergeLatestCard : Claim7 := { stood := { row := mergeLatestRow, standIns := [], harness := (true, "a53b09718a81935e57b4b1232a49b544090a58f4f4eb7e7fd9c46be1095230a2"), looks := true }, kinds := [], alts := [], laidByText := true, laidKinds := [.data, .widerDeep, .pinned], laidTests := true, laidLooks := .later }
def MergeLatestCardSaid : Prop := Claim7.holds Tryz.pinned (.plain (OpenSpec.ofChange mergeLatestSpec)) mergeLatestCard

/-- THE TIED CARD OF 'identitylaw17.MergeNames'. -/
def mergeNamesCard : Claim7 := { stood := { row := mergeNamesRow, standIns := [], harness := (true, "a53b09718a81935e57b4b1232a49b544090a58f4f4eb7e7fd9c46be1095230a2"), looks := true }, kinds := [], alts := [], laidByText := true, laidKinds := [.data, .widerDeep, .pinned], laidTests := true, laidLooks := .later }
def MergeNamesCardSaid : Prop := Claim7.holds Tryz.pinned (.plain (OpenSpec.ofChange mergeNamesSpec)) mergeNamesCard

/-- THE TIED CARD OF 'identitylaw17.MergeClones'. -/
def mergeClonesCard : Claim7 := { stood := { row := mergeClonesRow, standIns := [], harness := (true, "a53b09718a81935e57b4b1232a49b544090a58f4f4eb7e7fd9c46be1095230a2"), looks := true }, kinds := [], alts := [], laidByText := true, laidKinds := [.data, .widerDeep, .pinned], laidTests := true, laidLooks := .later }
def MergeClonesCardSaid : Prop := Claim7.holds Tryz.pinned (.plain (OpenSpec.ofChange mergeClonesSpec)) mergeClonesCard

/-- THE TIED CARD OF 'identitylaw17.MergeOrders'. -/
def mergeOrdersCard : Claim7 := { stood := { row := mergeOrdersRow, standIns := [], harness := (true, "a53b09718a81935e57b4b1232a49b544090a58f4f4eb7e7fd9c46be1095230a2"), looks := true }, kinds := [], alts := [], laidByText := true, laidKinds := [.data, .widerDeep, .pinned], laidTests := true, laidLooks := .later }
def MergeOrdersCardSaid : Prop := Claim7.holds Tryz.pinned (.plain (OpenSpec.ofChange mergeOrdersSpec)) mergeOrdersCard

/-- THE SECOND FORM's CARD OF 'identitylaw17.MergeStates'. -/
def mergeStatesUptoCard : Claim7 := { stood := { row := mergeStatesUptoRow, standIns := [], harness := (true, "a53b09718a81935e57b4b1232a49b544090a58f4f4eb7e7fd9c46be1095230a2"), looks := true }, kinds := [], alts := [], laidByText := true, laidKinds := [.data, .widerDeep, .pinned], laidTests := true, laidLooks := .later }
def MergeStatesUptoCardSaid : Prop := Claim7.holds Tryz.pinned (.plain (OpenSpec.upto mergeStatesSpec)) mergeStatesUptoCard

/-- THE SECOND FORM's CARD OF 'identitylaw17.MergeTombs'. -/
def mergeTombsUptoCard : Claim7 := { stood := { row := mergeTombsUptoRow, standIns := [], harness := (true, "a53b09718a81935e57b4b1232a49b544090a58f4f4eb7e7fd9c46be1095230a2"), looks := true }, kinds := [], alts := [], laidByText := true, laidKinds := [.data, .widerDeep, .pinned], laidTests := true, laidLooks := .later }
def MergeTombsUptoCardSaid : Prop := Claim7.holds Tryz.pinned (.plain (OpenSpec.upto mergeTombsSpec)) mergeTombsUptoCard

/-- THE SECOND FORM's CARD OF 'identitylaw17.MergeLatest'. -/
def mergeLatestUptoCard : Claim7 := { stood := { row := mergeLatestUptoRow, standIns := [], harness := (true, "a53b09718a81935e57b4b1232a49b544090a58f4f4eb7e7fd9c46be1095230a2"), looks := true }, kinds := [], alts := [], laidByText := true, laidKinds := [.data, .widerDeep, .pinned], laidTests := true, laidLooks := .later }
def MergeLatestUptoCardSaid : Prop := Claim7.holds Tryz.pinned (.plain (OpenSpec.upto mergeLatestSpec)) mergeLatestUptoCard

/-- THE SECOND FORM's CARD OF 'identitylaw17.MergeNames'. -/
def mergeNamesUptoCard : Claim7 := { stood := { row := mergeNamesUptoRow, standIns := [], harness := (true, "a53b09718a81935e57b4b1232a49b544090a58f4f4eb7e7fd9c46be1095230a2"), looks := true }, kinds := [], alts := [], laidByText := true, laidKinds := [.data, .widerDeep, .pinned], laidTests := true, laidLooks := .later }
def MergeNamesUptoCardSaid : Prop := Claim7.holds Tryz.pinned (.plain (OpenSpec.upto mergeNamesSpec)) mergeNamesUptoCard

/-- THE SECOND FORM's CARD OF 'identitylaw17.MergeClones'. -/
def mergeClonesUptoCard : Claim7 := { stood := { row := mergeClonesUptoRow, standIns := [], harness := (true, "a53b09718a81935e57b4b1232a49b544090a58f4f4eb7e7fd9c46be1095230a2"), looks := true }, kinds := [], alts := [], laidByText := true, laidKinds := [.data, .widerDeep, .pinned], laidTests := true, laidLooks := .later }
def MergeClonesUptoCardSaid : Prop := Claim7.holds Tryz.pinned (.plain (OpenSpec.upto mergeClonesSpec)) mergeClonesUptoCard

/-- THE SECOND FORM's CARD OF 'identitylaw17.MergeOrders'. -/
def mergeOrdersUptoCard : Claim7 := { stood := { row := mergeOrdersUptoRow, standIns := [], harness := (true, "a53b09718a81935e57b4b1232a49b544090a58f4f4eb7e7fd9c46be1095230a2"), looks := true }, kinds := [], alts := [], laidByText := true, laidKinds := [.data, .widerDeep, .pinned], laidTests := true, laidLooks := .later }
def MergeOrdersUptoCardSaid : Prop := Claim7.holds Tryz.pinned (.plain (OpenSpec.upto mergeOrdersSpec)) mergeOrdersUptoCard
end Rows
end Go.Proofs.YtnknfnfinhagoaaGreatDoor
