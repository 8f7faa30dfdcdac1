/-
  DERIVED. GIVEN WITH THE SEED: THE CARDS: each row of YtbodfdmmfaampaaGreatDoorRows.lean that lists a variable, with what it lists TIED to the program's text (the seventh form; the later family's looks); each row that meets fmt, with fmt's text TOLD by the authors' own Lean function (tested against real Go, not proved from fmt's source: count such statements apart). THE CARD IS WHAT COUNTS. Prove the row's statement (the work); the ties are given (YtbodfdmmfaampaaGreatDoorTie.lean); close each card by the builder's one call (the guide's Derived/Test/ToyasCard.lean, 'card_holds'). Laid BY PROGRAM, IN A SANDBOX (cutbox-door.mjs). By AI agents, Wed Nov 11 2026. No macro, syntax, notation, axiom, sorry.
-/
import Derived.Test.YtbodfdmmfaampaaGreatDoorRows
import GoSem.ClaimSeven
namespace Go.Proofs.YtbodfdmmfaampaaGreatDoor
namespace Rows

/-- THE TIED CARD OF 'lintellaw04.KeysIndex'. -/
def keysIndexCard : Claim7 := { stood := { row := keysIndexRow, standIns := [], harness := (true, "bdd4c9b03a84f289eed5febd527aaea4f995cb8de906976f99a559d4962bb364"), looks := true }, kinds := [], alts := [], laidByText := true, laidKinds := [.data, .data, .data, .data, .sentinel, .sentinel, .pinned, .pinned], laidTests := true, laidLooks := .later }
def KeysIndexCardSaid : Prop := Claim7.holds Tryz.pinned (.plain (OpenSpec.ofChange keysIndexSpec)) keysIndexCard

/-- THE SECOND FORM's CARD OF 'lintellaw04.KeysIndex'. -/
def keysIndexUptoCard : Claim7 := { stood := { row := keysIndexUptoRow, standIns := [], harness := (true, "bdd4c9b03a84f289eed5febd527aaea4f995cb8de906976f99a559d4962bb364"), looks := true }, kinds := [], alts := [], laidByText := true, laidKinds := [.data, .data, .data, .data, .sentinel, .sentinel, .pinned, .pinned], laidTests := true, laidLooks := .later }
def KeysIndexUptoCardSaid : Prop := Claim7.holds Tryz.pinned (.plain (OpenSpec.upto keysIndexSpec)) keysIndexUptoCard
end Rows
end Go.Proofs.YtbodfdmmfaampaaGreatDoor
