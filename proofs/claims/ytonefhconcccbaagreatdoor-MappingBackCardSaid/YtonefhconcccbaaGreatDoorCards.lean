/-
  DERIVED. GIVEN WITH THE SEED: THE CARDS: each row of YtonefhconcccbaaGreatDoorRows.lean that lists a variable, with what it lists TIED to the program's text (the seventh form; the later family's looks); each row that meets fmt, with fmt's text TOLD by the authors' own Lean function (tested against real Go, not proved from fmt's source: count such statements apart). THE CARD IS WHAT COUNTS. Prove the row's statement (the work); the ties are given (YtonefhconcccbaaGreatDoorTie.lean); close each card by the builder's one call (the guide's Derived/Test/ToyasCard.lean, 'card_holds'). Laid BY PROGRAM, IN A SANDBOX (cutbox-door.mjs). By AI agents, Wed Nov 11 2026. No macro, syntax, notation, axiom, sorry.
-/
import Derived.Test.YtonefhconcccbaaGreatDoorRows
import GoSem.ClaimSeven
namespace Go.Proofs.YtonefhconcccbaaGreatDoor
namespace Rows

/-- THE TIED CARD OF 'identitylaw47.MappingChecks'. -/
def mappingChecksCard : Claim7 := { stood := { row := mappingChecksRow, standIns := [], harness := (true, "4af6c9085182bc08f14c2c4075e3a3ac61bd427537c2a322f138fc7895f82eda"), looks := false }, kinds := [], alts := [], laidByText := true, laidKinds := [.data, .pinned], laidTests := true, laidLooks := .later }
def MappingChecksCardSaid : Prop := Claim7.holds Tryz.pinned (.plain (OpenSpec.ofChange mappingChecksSpec)) mappingChecksCard

/-- THE TIED CARD OF 'identitylaw47.MappingApplies'. -/
def mappingAppliesCard : Claim7 := { stood := { row := mappingAppliesRow, standIns := [], harness := (true, "4af6c9085182bc08f14c2c4075e3a3ac61bd427537c2a322f138fc7895f82eda"), looks := false }, kinds := [], alts := [], laidByText := true, laidKinds := [.data, .pinned], laidTests := true, laidLooks := .later }
def MappingAppliesCardSaid : Prop := Claim7.holds Tryz.pinned (.plain (OpenSpec.ofChange mappingAppliesSpec)) mappingAppliesCard

/-- THE TIED CARD OF 'identitylaw47.MappingBack'. -/
def mappingBackCard : Claim7 := { stood := { row := mappingBackRow, standIns := [], harness := (true, "4af6c9085182bc08f14c2c4075e3a3ac61bd427537c2a322f138fc7895f82eda"), looks := false }, kinds := [], alts := [], laidByText := true, laidKinds := [.data, .pinned], laidTests := true, laidLooks := .later }
def MappingBackCardSaid : Prop := Claim7.holds Tryz.pinned (.plain (OpenSpec.ofChange mappingBackSpec)) mappingBackCard

/-- THE TIED CARD OF 'identitylaw47.MappingSources'. -/
def mappingSourcesCard : Claim7 := { stood := { row := mappingSourcesRow, standIns := [], harness := (true, "4af6c9085182bc08f14c2c4075e3a3ac61bd427537c2a322f138fc7895f82eda"), looks := false }, kinds := [], alts := [], laidByText := true, laidKinds := [.data, .pinned], laidTests := true, laidLooks := .later }
def MappingSourcesCardSaid : Prop := Claim7.holds Tryz.pinned (.plain (OpenSpec.ofChange mappingSourcesSpec)) mappingSourcesCard

/-- THE TIED CARD OF 'identitylaw47.MappingTogether'. -/
def mappingTogetherCard : Claim7 := { stood := { row := mappingTogetherRow, standIns := [], harness := (true, "4af6c9085182bc08f14c2c4075e3a3ac61bd427537c2a322f138fc7895f82eda"), looks := false }, kinds := [], alts := [], laidByText := true, laidKinds := [.data, .pinned], laidTests := true, laidLooks := .later }
def MappingTogetherCardSaid : Prop := Claim7.holds Tryz.pinned (.plain (OpenSpec.ofChange mappingTogetherSpec)) mappingTogetherCard

/-- THE TIED CARD OF 'identitylaw47.MappingValid'. -/
def mappingValidCard : Claim7 := { stood := { row := mappingValidRow, standIns := [], harness := (true, "4af6c9085182bc08f14c2c4075e3a3ac61bd427537c2a322f138fc7895f82eda"), looks := false }, kinds := [], alts := [], laidByText := true, laidKinds := [.data, .pinned], laidTests := true, laidLooks := .later }
def MappingValidCardSaid : Prop := Claim7.holds Tryz.pinned (.plain (OpenSpec.ofChange mappingValidSpec)) mappingValidCard

/-- THE SECOND FORM's CARD OF 'identitylaw47.MappingChecks'. -/
def mappingChecksUptoCard : Claim7 := { stood := { row := mappingChecksUptoRow, standIns := [], harness := (true, "4af6c9085182bc08f14c2c4075e3a3ac61bd427537c2a322f138fc7895f82eda"), looks := false }, kinds := [], alts := [], laidByText := true, laidKinds := [.data, .pinned], laidTests := true, laidLooks := .later }
def MappingChecksUptoCardSaid : Prop := Claim7.holds Tryz.pinned (.plain (OpenSpec.upto mappingChecksSpec)) mappingChecksUptoCard

/-- THE SECOND FORM's CARD OF 'identitylaw47.MappingApplies'. -/
def mappingAppliesUptoCard : Claim7 := { stood := { row := mappingAppliesUptoRow, standIns := [], harness := (true, "4af6c9085182bc08f14c2c4075e3a3ac61bd427537c2a322f138fc7895f82eda"), looks := false }, kinds := [], alts := [], laidByText := true, laidKinds := [.data, .pinned], laidTests := true, laidLooks := .later }
def MappingAppliesUptoCardSaid : Prop := Claim7.holds Tryz.pinned (.plain (OpenSpec.upto mappingAppliesSpec)) mappingAppliesUptoCard

/-- THE SECOND FORM's CARD OF 'identitylaw47.MappingBack'. -/
def mappingBackUptoCard : Claim7 := { stood := { row := mappingBackUptoRow, standIns := [], harness := (true, "4af6c9085182bc08f14c2c4075e3a3ac61bd427537c2a322f138fc7895f82eda"), looks := false }, kinds := [], alts := [], laidByText := true, laidKinds := [.data, .pinned], laidTests := true, laidLooks := .later }
def MappingBackUptoCardSaid : Prop := Claim7.holds Tryz.pinned (.plain (OpenSpec.upto mappingBackSpec)) mappingBackUptoCard

/-- THE SECOND FORM's CARD OF 'identitylaw47.MappingSources'. -/
def mappingSourcesUptoCard : Claim7 := { stood := { row := mappingSourcesUptoRow, standIns := [], harness := (true, "4af6c9085182bc08f14c2c4075e3a3ac61bd427537c2a322f138fc7895f82eda"), looks := false }, kinds := [], alts := [], laidByText := true, laidKinds := [.data, .pinned], laidTests := true, laidLooks := .later }
def MappingSourcesUptoCardSaid : Prop := Claim7.holds Tryz.pinned (.plain (OpenSpec.upto mappingSourcesSpec)) mappingSourcesUptoCard

/-- THE SECOND FORM's CARD OF 'identitylaw47.MappingTogether'. -/
def mappingTogetherUptoCard : Claim7 := { stood := { row := mappingTogetherUptoRow, standIns := [], harness := (true, "4af6c9085182bc08f14c2c4075e3a3ac61bd427537c2a322f138fc7895f82eda"), looks := false }, kinds := [], alts := [], laidByText := true, laidKinds := [.data, .pinned], laidTests := true, laidLooks := .later }
def MappingTogetherUptoCardSaid : Prop := Claim7.holds Tryz.pinned (.plain (OpenSpec.upto mappingTogetherSpec)) mappingTogetherUptoCard

/-- THE SECOND FORM's CARD OF 'identitylaw47.MappingValid'. -/
def mappingValidUptoCard : Claim7 := { stood := { row := mappingValidUptoRow, standIns := [], harness := (true, "4af6c9085182bc08f14c2c4075e3a3ac61bd427537c2a322f138fc7895f82eda"), looks := false }, kinds := [], alts := [], laidByText := true, laidKinds := [.data, .pinned], laidTests := true, laidLooks := .later }
def MappingValidUptoCardSaid : Prop := Claim7.holds Tryz.pinned (.plain (OpenSpec.upto mappingValidSpec)) mappingValidUptoCard
end Rows
end Go.Proofs.YtonefhconcccbaaGreatDoor
