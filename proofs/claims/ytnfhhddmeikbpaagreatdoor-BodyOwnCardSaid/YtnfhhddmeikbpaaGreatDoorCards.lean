/-
  DERIVED. GIVEN WITH THE SEED: THE CARDS: each row of YtnfhhddmeikbpaaGreatDoorRows.lean that lists a variable, with what it lists TIED to the program's text (the seventh form; the later family's looks); each row that meets fmt, with fmt's text TOLD by the authors' own Lean function (tested against real Go, not proved from fmt's source: count such statements apart). THE CARD IS WHAT COUNTS. Prove the row's statement (the work); the ties are given (YtnfhhddmeikbpaaGreatDoorTie.lean); close each card by the builder's one call (the guide's Derived/Test/ToyasCard.lean, 'card_holds'). Laid BY PROGRAM, IN A SANDBOX (cutbox-door.mjs). By AI agents, Wed Nov 11 2026. No macro, syntax, notation, axiom, sorry.
-/
import Derived.Test.YtnfhhddmeikbpaaGreatDoorRows
import GoSem.ClaimSeven
namespace Go.Proofs.YtnfhhddmeikbpaaGreatDoor
namespace Rows

/-- THE TIED CARD OF 'gaugerlaw24.BodyOwn'. -/
def bodyOwnCard : Claim7 := { stood := { row := bodyOwnRow, standIns := [], harness := (true, "e5c1dafc148c7336f65ba5011a58512ed432b25eab036a55e07465030e5bd56c"), looks := true }, kinds := [], alts := [], laidByText := true, laidKinds := [.data, .data, .widerDeep, .widerDeep, .data, .data, .data, .data, .data, .data, .sentinel, .sentinel, .data, .data, .data, .pinned, .pinned, .pinned], laidTests := true, laidLooks := .later }
def BodyOwnCardSaid : Prop := Claim7.holds Tryz.pinned (.plain (OpenSpec.ofChange bodyOwnSpec)) bodyOwnCard

/-- THE SECOND FORM's CARD OF 'gaugerlaw24.BodyOwn'. -/
def bodyOwnUptoCard : Claim7 := { stood := { row := bodyOwnUptoRow, standIns := [], harness := (true, "e5c1dafc148c7336f65ba5011a58512ed432b25eab036a55e07465030e5bd56c"), looks := true }, kinds := [], alts := [], laidByText := true, laidKinds := [.data, .data, .widerDeep, .widerDeep, .data, .data, .data, .data, .data, .data, .sentinel, .sentinel, .data, .data, .data, .pinned, .pinned, .pinned], laidTests := true, laidLooks := .later }
def BodyOwnUptoCardSaid : Prop := Claim7.holds Tryz.pinned (.plain (OpenSpec.upto bodyOwnSpec)) bodyOwnUptoCard
end Rows
end Go.Proofs.YtnfhhddmeikbpaaGreatDoor
