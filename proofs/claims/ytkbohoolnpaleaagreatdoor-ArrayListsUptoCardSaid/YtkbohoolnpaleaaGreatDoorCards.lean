/-
  DERIVED. GIVEN WITH THE SEED: THE CARDS: each row of YtkbohoolnpaleaaGreatDoorRows.lean that lists a variable, with what it lists TIED to the program's text (the seventh form; the later family's looks); each row that meets fmt, with fmt's text TOLD by the authors' own Lean function (tested against real Go, not proved from fmt's source: count such statements apart). THE CARD IS WHAT COUNTS. Prove the row's statement (the work); the ties are given (YtkbohoolnpaleaaGreatDoorTie.lean); close each card by the builder's one call (the guide's Derived/Test/ToyasCard.lean, 'card_holds'). Laid BY PROGRAM, IN A SANDBOX (cutbox-door.mjs). By AI agents, Wed Nov 11 2026. No macro, syntax, notation, axiom, sorry.
-/
import Derived.Test.YtkbohoolnpaleaaGreatDoorRows
import GoSem.ClaimSeven
namespace Go.Proofs.YtkbohoolnpaleaaGreatDoor
namespace Rows

/-- THE TIED CARD OF 'lintellaw17.ArrayLists'. -/
def arrayListsCard : Claim7 := { stood := { row := arrayListsRow, standIns := [], harness := (true, "5809297201a93582991f66f0ad4730b4cd4f2afc0232cd4037ef2576fcae23ee"), looks := true }, kinds := [], alts := [], laidByText := true, laidKinds := [.data, .data, .data, .data, .sentinel, .sentinel, .pinned, .pinned], laidTests := true, laidLooks := .later }
def ArrayListsCardSaid : Prop := Claim7.holds Tryz.pinned (.plain (OpenSpec.ofChange arrayListsSpec)) arrayListsCard

/-- THE SECOND FORM's CARD OF 'lintellaw17.ArrayLists'. -/
def arrayListsUptoCard : Claim7 := { stood := { row := arrayListsUptoRow, standIns := [], harness := (true, "5809297201a93582991f66f0ad4730b4cd4f2afc0232cd4037ef2576fcae23ee"), looks := true }, kinds := [], alts := [], laidByText := true, laidKinds := [.data, .data, .data, .data, .sentinel, .sentinel, .pinned, .pinned], laidTests := true, laidLooks := .later }
def ArrayListsUptoCardSaid : Prop := Claim7.holds Tryz.pinned (.plain (OpenSpec.upto arrayListsSpec)) arrayListsUptoCard
end Rows
end Go.Proofs.YtkbohoolnpaleaaGreatDoor
