/-
  DERIVED. GIVEN WITH THE SEED: THE CARDS: each row of YtbaoflehfkkfnaaGreatDoorRows.lean that lists a variable, with what it lists TIED to the program's text (the seventh form; the later family's looks); each row that meets fmt, with fmt's text TOLD by the authors' own Lean function (tested against real Go, not proved from fmt's source: count such statements apart). THE CARD IS WHAT COUNTS. Prove the row's statement (the work); the ties are given (YtbaoflehfkkfnaaGreatDoorTie.lean); close each card by the builder's one call (the guide's Derived/Test/ToyasCard.lean, 'card_holds'). Laid BY PROGRAM, IN A SANDBOX (cutbox-door.mjs). By AI agents, Wed Nov 11 2026. No macro, syntax, notation, axiom, sorry.
-/
import Derived.Test.YtbaoflehfkkfnaaGreatDoorRows
import GoSem.ClaimSeven
namespace Go.Proofs.YtbaoflehfkkfnaaGreatDoor
namespace Rows

/-- THE TIED CARD OF 'identitylaw46.PatchRepeats'. -/
def patchRepeatsCard : Claim7 := { stood := { row := patchRepeatsRow, standIns := [], harness := (true, "36adc799fe070667d8a7c0657466597ca5031b4b3cf9b90471d0d894a088a775"), looks := false }, kinds := [], alts := [], laidByText := true, laidKinds := [.data, .pinned], laidTests := true, laidLooks := .later }
def PatchRepeatsCardSaid : Prop := Claim7.holds Tryz.pinned (.plain (OpenSpec.ofChange patchRepeatsSpec)) patchRepeatsCard

/-- THE SECOND FORM's CARD OF 'identitylaw46.PatchRepeats'. -/
def patchRepeatsUptoCard : Claim7 := { stood := { row := patchRepeatsUptoRow, standIns := [], harness := (true, "36adc799fe070667d8a7c0657466597ca5031b4b3cf9b90471d0d894a088a775"), looks := false }, kinds := [], alts := [], laidByText := true, laidKinds := [.data, .pinned], laidTests := true, laidLooks := .later }
def PatchRepeatsUptoCardSaid : Prop := Claim7.holds Tryz.pinned (.plain (OpenSpec.upto patchRepeatsSpec)) patchRepeatsUptoCard
end Rows
end Go.Proofs.YtbaoflehfkkfnaaGreatDoor
