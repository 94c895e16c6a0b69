/-
  DERIVED. GIVEN WITH THE SEED: THE CARDS: each row of YtgfkbdcadpodcaaGreatDoorRows.lean that lists a variable, with what it lists TIED to the program's text (the seventh form; the later family's looks); each row that meets fmt, with fmt's text TOLD by the authors' own Lean function (tested against real Go, not proved from fmt's source: count such statements apart). THE CARD IS WHAT COUNTS. Prove the row's statement (the work); the ties are given (YtgfkbdcadpodcaaGreatDoorTie.lean); close each card by the builder's one call (the guide's Derived/Test/ToyasCard.lean, 'card_holds'). Laid BY PROGRAM, IN A SANDBOX (cutbox-door.mjs). By AI agents, Wed Nov 11 2026. No macro, syntax, notation, axiom, sorry.
-/
import Derived.Test.YtgfkbdcadpodcaaGreatDoorRows
import GoSem.ClaimSeven
namespace Go.Proofs.YtgfkbdcadpodcaaGreatDoor
namespace Rows

/-- THE TIED CARD OF 'identitylaw46.PatchChecks'. -/
def patchChecksCard : Claim7 := { stood := { row := patchChecksRow, standIns := [], harness := (true, "b74ca4319d60e8f7ddf7678ffe4cb0332f7e5be7f9491579f318d63637f4c2de"), looks := false }, kinds := [], alts := [], laidByText := true, laidKinds := [.data, .pinned], laidTests := true, laidLooks := .later }
def PatchChecksCardSaid : Prop := Claim7.holds Tryz.pinned (.plain (OpenSpec.ofChange patchChecksSpec)) patchChecksCard

/-- THE TIED CARD OF 'identitylaw46.PatchApplies'. -/
def patchAppliesCard : Claim7 := { stood := { row := patchAppliesRow, standIns := [], harness := (true, "b74ca4319d60e8f7ddf7678ffe4cb0332f7e5be7f9491579f318d63637f4c2de"), looks := false }, kinds := [], alts := [], laidByText := true, laidKinds := [.data, .pinned], laidTests := true, laidLooks := .later }
def PatchAppliesCardSaid : Prop := Claim7.holds Tryz.pinned (.plain (OpenSpec.ofChange patchAppliesSpec)) patchAppliesCard

/-- THE TIED CARD OF 'identitylaw46.PatchChains'. -/
def patchChainsCard : Claim7 := { stood := { row := patchChainsRow, standIns := [], harness := (true, "b74ca4319d60e8f7ddf7678ffe4cb0332f7e5be7f9491579f318d63637f4c2de"), looks := false }, kinds := [], alts := [], laidByText := true, laidKinds := [.data, .pinned], laidTests := true, laidLooks := .later }
def PatchChainsCardSaid : Prop := Claim7.holds Tryz.pinned (.plain (OpenSpec.ofChange patchChainsSpec)) patchChainsCard

/-- THE TIED CARD OF 'identitylaw46.PatchDiffs'. -/
def patchDiffsCard : Claim7 := { stood := { row := patchDiffsRow, standIns := [], harness := (true, "b74ca4319d60e8f7ddf7678ffe4cb0332f7e5be7f9491579f318d63637f4c2de"), looks := false }, kinds := [], alts := [], laidByText := true, laidKinds := [.data, .pinned], laidTests := true, laidLooks := .later }
def PatchDiffsCardSaid : Prop := Claim7.holds Tryz.pinned (.plain (OpenSpec.ofChange patchDiffsSpec)) patchDiffsCard

/-- THE TIED CARD OF 'identitylaw46.PatchTexts'. -/
def patchTextsCard : Claim7 := { stood := { row := patchTextsRow, standIns := [], harness := (true, "b74ca4319d60e8f7ddf7678ffe4cb0332f7e5be7f9491579f318d63637f4c2de"), looks := false }, kinds := [], alts := [], laidByText := true, laidKinds := [.data, .pinned], laidTests := true, laidLooks := .later }
def PatchTextsCardSaid : Prop := Claim7.holds Tryz.pinned (.plain (OpenSpec.ofChange patchTextsSpec)) patchTextsCard

/-- THE TIED CARD OF 'identitylaw46.PatchCompacts'. -/
def patchCompactsCard : Claim7 := { stood := { row := patchCompactsRow, standIns := [], harness := (true, "b74ca4319d60e8f7ddf7678ffe4cb0332f7e5be7f9491579f318d63637f4c2de"), looks := false }, kinds := [], alts := [], laidByText := true, laidKinds := [.data, .pinned], laidTests := true, laidLooks := .later }
def PatchCompactsCardSaid : Prop := Claim7.holds Tryz.pinned (.plain (OpenSpec.ofChange patchCompactsSpec)) patchCompactsCard

/-- THE TIED CARD OF 'identitylaw46.PatchRepeats'. -/
def patchRepeatsCard : Claim7 := { stood := { row := patchRepeatsRow, standIns := [], harness := (true, "b74ca4319d60e8f7ddf7678ffe4cb0332f7e5be7f9491579f318d63637f4c2de"), looks := false }, kinds := [], alts := [], laidByText := true, laidKinds := [.data, .pinned], laidTests := true, laidLooks := .later }
def PatchRepeatsCardSaid : Prop := Claim7.holds Tryz.pinned (.plain (OpenSpec.ofChange patchRepeatsSpec)) patchRepeatsCard

/-- THE SECOND FORM's CARD OF 'identitylaw46.PatchChecks'. -/
def patchChecksUptoCard : Claim7 := { stood := { row := patchChecksUptoRow, standIns := [], harness := (true, "b74ca4319d60e8f7ddf7678ffe4cb0332f7e5be7f9491579f318d63637f4c2de"), looks := false }, kinds := [], alts := [], laidByText := true, laidKinds := [.data, .pinned], laidTests := true, laidLooks := .later }
def PatchChecksUptoCardSaid : Prop := Claim7.holds Tryz.pinned (.plain (OpenSpec.upto patchChecksSpec)) patchChecksUptoCard

/-- THE SECOND FORM's CARD OF 'identitylaw46.PatchApplies'. -/
def patchAppliesUptoCard : Claim7 := { stood := { row := patchAppliesUptoRow, standIns := [], harness := (true, "b74ca4319d60e8f7ddf7678ffe4cb0332f7e5be7f9491579f318d63637f4c2de"), looks := false }, kinds := [], alts := [], laidByText := true, laidKinds := [.data, .pinned], laidTests := true, laidLooks := .later }
def PatchAppliesUptoCardSaid : Prop := Claim7.holds Tryz.pinned (.plain (OpenSpec.upto patchAppliesSpec)) patchAppliesUptoCard

/-- THE SECOND FORM's CARD OF 'identitylaw46.PatchChains'. -/
def patchChainsUptoCard : Claim7 := { stood := { row := patchChainsUptoRow, standIns := [], harness := (true, "b74ca4319d60e8f7ddf7678ffe4cb0332f7e5be7f9491579f318d63637f4c2de"), looks := false }, kinds := [], alts := [], laidByText := true, laidKinds := [.data, .pinned], laidTests := true, laidLooks := .later }
def PatchChainsUptoCardSaid : Prop := Claim7.holds Tryz.pinned (.plain (OpenSpec.upto patchChainsSpec)) patchChainsUptoCard

/-- THE SECOND FORM's CARD OF 'identitylaw46.PatchDiffs'. -/
def patchDiffsUptoCard : Claim7 := { stood := { row := patchDiffsUptoRow, standIns := [], harness := (true, "b74ca4319d60e8f7ddf7678ffe4cb0332f7e5be7f9491579f318d63637f4c2de"), looks := false }, kinds := [], alts := [], laidByText := true, laidKinds := [.data, .pinned], laidTests := true, laidLooks := .later }
def PatchDiffsUptoCardSaid : Prop := Claim7.holds Tryz.pinned (.plain (OpenSpec.upto patchDiffsSpec)) patchDiffsUptoCard

/-- THE SECOND FORM's CARD OF 'identitylaw46.PatchTexts'. -/
def patchTextsUptoCard : Claim7 := { stood := { row := patchTextsUptoRow, standIns := [], harness := (true, "b74ca4319d60e8f7ddf7678ffe4cb0332f7e5be7f9491579f318d63637f4c2de"), looks := false }, kinds := [], alts := [], laidByText := true, laidKinds := [.data, .pinned], laidTests := true, laidLooks := .later }
def PatchTextsUptoCardSaid : Prop := Claim7.holds Tryz.pinned (.plain (OpenSpec.upto patchTextsSpec)) patchTextsUptoCard

/-- THE SECOND FORM's CARD OF 'identitylaw46.PatchCompacts'. -/
def patchCompactsUptoCard : Claim7 := { stood := { row := patchCompactsUptoRow, standIns := [], harness := (true, "b74ca4319d60e8f7ddf7678ffe4cb0332f7e5be7f9491579f318d63637f4c2de"), looks := false }, kinds := [], alts := [], laidByText := true, laidKinds := [.data, .pinned], laidTests := true, laidLooks := .later }
def PatchCompactsUptoCardSaid : Prop := Claim7.holds Tryz.pinned (.plain (OpenSpec.upto patchCompactsSpec)) patchCompactsUptoCard

/-- THE SECOND FORM's CARD OF 'identitylaw46.PatchRepeats'. -/
def patchRepeatsUptoCard : Claim7 := { stood := { row := patchRepeatsUptoRow, standIns := [], harness := (true, "b74ca4319d60e8f7ddf7678ffe4cb0332f7e5be7f9491579f318d63637f4c2de"), looks := false }, kinds := [], alts := [], laidByText := true, laidKinds := [.data, .pinned], laidTests := true, laidLooks := .later }
def PatchRepeatsUptoCardSaid : Prop := Claim7.holds Tryz.pinned (.plain (OpenSpec.upto patchRepeatsSpec)) patchRepeatsUptoCard
end Rows
end Go.Proofs.YtgfkbdcadpodcaaGreatDoor
