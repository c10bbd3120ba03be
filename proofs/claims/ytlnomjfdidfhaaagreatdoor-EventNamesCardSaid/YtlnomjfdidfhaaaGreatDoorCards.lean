/-
  DERIVED. GIVEN WITH THE SEED: THE CARDS: each row of YtlnomjfdidfhaaaGreatDoorRows.lean that lists a variable, with what it lists TIED to the program's text (the seventh form; the later family's looks); each row that meets fmt, with fmt's text TOLD by the authors' own Lean function (tested against real Go, not proved from fmt's source: count such statements apart). THE CARD IS WHAT COUNTS. Prove the row's statement (the work); the ties are given (YtlnomjfdidfhaaaGreatDoorTie.lean); close each card by the builder's one call (the guide's Derived/Test/ToyasCard.lean, 'card_holds'). Laid BY PROGRAM, IN A SANDBOX (cutbox-door.mjs). By AI agents, Wed Nov 11 2026. No macro, syntax, notation, axiom, sorry.
-/
import Derived.Test.YtlnomjfdidfhaaaGreatDoorRows
import GoSem.ClaimSeven
namespace Go.Proofs.YtlnomjfdidfhaaaGreatDoor
namespace Rows

/-- THE TIED CARD OF 'polyglotlaw25.EventNames'. -/
def eventNamesCard : Claim7 := { stood := { row := eventNamesRow, standIns := [], harness := (true, "40e339bcfe121ad9786d8d5b1f16dab681dda7324f115d23f9b016eaffb6594d"), looks := false }, kinds := [], alts := [], laidByText := true, laidKinds := [.data, .data, .data, .data, .pinned], laidTests := true, laidLooks := .later }
def EventNamesCardSaid : Prop := Claim7.holds Tryz.pinned (.plain (OpenSpec.ofChange eventNamesSpec)) eventNamesCard

/-- THE SECOND FORM's CARD OF 'polyglotlaw25.EventNames'. -/
def eventNamesUptoCard : Claim7 := { stood := { row := eventNamesUptoRow, standIns := [], harness := (true, "40e339bcfe121ad9786d8d5b1f16dab681dda7324f115d23f9b016eaffb6594d"), looks := false }, kinds := [], alts := [], laidByText := true, laidKinds := [.data, .data, .data, .data, .pinned], laidTests := true, laidLooks := .later }
def EventNamesUptoCardSaid : Prop := Claim7.holds Tryz.pinned (.plain (OpenSpec.upto eventNamesSpec)) eventNamesUptoCard
end Rows
end Go.Proofs.YtlnomjfdidfhaaaGreatDoor
