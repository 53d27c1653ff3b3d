/-
  DERIVED. GIVEN WITH THE SEED: THE CARDS: each row of YtigihhfdlgjhbaaGreatDoorRows.lean that lists a variable, with what it lists TIED to the program's text (the seventh form; the later family's looks); each row that meets fmt, with fmt's text TOLD by the authors' own Lean function (tested against real Go, not proved from fmt's source: count such statements apart). THE CARD IS WHAT COUNTS. Prove the row's statement (the work); the ties are given (YtigihhfdlgjhbaaGreatDoorTie.lean); close each card by the builder's one call (the guide's Derived/Test/ToyasCard.lean, 'card_holds'). Laid BY PROGRAM, IN A SANDBOX (cutbox-door.mjs). By AI agents, Wed Nov 11 2026. No macro, syntax, notation, axiom, sorry.
-/
import Derived.Test.YtigihhfdlgjhbaaGreatDoorRows
import GoSem.ClaimSeven
namespace Go.Proofs.YtigihhfdlgjhbaaGreatDoor
namespace Rows

/-- THE TIED CARD OF 'gaugerlaw24.BodyWrong'. -/
def bodyWrongCard : Claim7 := { stood := { row := bodyWrongRow, standIns := [], harness := (true, "d6ce9e9175ad8c15af776fd0d1b88be10c2f7e5c359a151747b0186a99df85a3"), looks := true }, kinds := [], alts := [], laidByText := true, laidKinds := [.data, .data, .widerDeep, .widerDeep, .data, .data, .data, .data, .data, .data, .sentinel, .sentinel, .data, .data, .data, .pinned, .pinned, .pinned], laidTests := true, laidLooks := .later }
def BodyWrongCardSaid : Prop := Claim7.holds Tryz.pinned (.plain (OpenSpec.ofChange bodyWrongSpec)) bodyWrongCard

/-- THE SECOND FORM's CARD OF 'gaugerlaw24.BodyWrong'. -/
def bodyWrongUptoCard : Claim7 := { stood := { row := bodyWrongUptoRow, standIns := [], harness := (true, "d6ce9e9175ad8c15af776fd0d1b88be10c2f7e5c359a151747b0186a99df85a3"), looks := true }, kinds := [], alts := [], laidByText := true, laidKinds := [.data, .data, .widerDeep, .widerDeep, .data, .data, .data, .data, .data, .data, .sentinel, .sentinel, .data, .data, .data, .pinned, .pinned, .pinned], laidTests := true, laidLooks := .later }
def BodyWrongUptoCardSaid : Prop := Claim7.holds Tryz.pinned (.plain (OpenSpec.upto bodyWrongSpec)) bodyWrongUptoCard
end Rows
end Go.Proofs.YtigihhfdlgjhbaaGreatDoor
