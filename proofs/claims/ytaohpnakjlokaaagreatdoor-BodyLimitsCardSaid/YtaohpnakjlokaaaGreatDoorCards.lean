/-
  DERIVED. GIVEN WITH THE SEED: THE CARDS: each row of YtaohpnakjlokaaaGreatDoorRows.lean that lists a variable, with what it lists TIED to the program's text (the seventh form; the later family's looks); each row that meets fmt, with fmt's text TOLD by the authors' own Lean function (tested against real Go, not proved from fmt's source: count such statements apart). THE CARD IS WHAT COUNTS. Prove the row's statement (the work); the ties are given (YtaohpnakjlokaaaGreatDoorTie.lean); close each card by the builder's one call (the guide's Derived/Test/ToyasCard.lean, 'card_holds'). Laid BY PROGRAM, IN A SANDBOX (cutbox-door.mjs). By AI agents, Wed Nov 11 2026. No macro, syntax, notation, axiom, sorry.
-/
import Derived.Test.YtaohpnakjlokaaaGreatDoorRows
import GoSem.ClaimSeven
namespace Go.Proofs.YtaohpnakjlokaaaGreatDoor
namespace Rows

/-- THE TIED CARD OF 'gaugerlaw24.BodyLimits'. -/
def bodyLimitsCard : Claim7 := { stood := { row := bodyLimitsRow, standIns := [], harness := (true, "71b0370afbea571fe45f2b8009786e46d4c7c1d18d282bfcd65b2901f084f763"), looks := true }, kinds := [], alts := [], laidByText := true, laidKinds := [.data, .data, .widerDeep, .widerDeep, .data, .data, .data, .data, .data, .data, .sentinel, .sentinel, .data, .data, .data, .pinned, .pinned, .pinned], laidTests := true, laidLooks := .later }
def BodyLimitsCardSaid : Prop := Claim7.holds Tryz.pinned (.plain (OpenSpec.ofChange bodyLimitsSpec)) bodyLimitsCard

/-- THE SECOND FORM's CARD OF 'gaugerlaw24.BodyLimits'. -/
def bodyLimitsUptoCard : Claim7 := { stood := { row := bodyLimitsUptoRow, standIns := [], harness := (true, "71b0370afbea571fe45f2b8009786e46d4c7c1d18d282bfcd65b2901f084f763"), looks := true }, kinds := [], alts := [], laidByText := true, laidKinds := [.data, .data, .widerDeep, .widerDeep, .data, .data, .data, .data, .data, .data, .sentinel, .sentinel, .data, .data, .data, .pinned, .pinned, .pinned], laidTests := true, laidLooks := .later }
def BodyLimitsUptoCardSaid : Prop := Claim7.holds Tryz.pinned (.plain (OpenSpec.upto bodyLimitsSpec)) bodyLimitsUptoCard
end Rows
end Go.Proofs.YtaohpnakjlokaaaGreatDoor
