/-
  DERIVED. GIVEN WITH THE SEED: THE CARDS: each row of YtbakbikilbaafaaGreatDoorRows.lean that lists a variable, with what it lists TIED to the program's text (the seventh form; the later family's looks); each row that meets fmt, with fmt's text TOLD by the authors' own Lean function (tested against real Go, not proved from fmt's source: count such statements apart). THE CARD IS WHAT COUNTS. Prove the row's statement (the work); the ties are given (YtbakbikilbaafaaGreatDoorTie.lean); close each card by the builder's one call (the guide's Derived/Test/ToyasCard.lean, 'card_holds'). Laid BY PROGRAM, IN A SANDBOX (cutbox-door.mjs). By AI agents, Wed Nov 11 2026. No macro, syntax, notation, axiom, sorry.
-/
import Derived.Test.YtbakbikilbaafaaGreatDoorRows
import GoSem.ClaimSeven
namespace Go.Proofs.YtbakbikilbaafaaGreatDoor
namespace Rows

/-- THE TIED CARD OF 'lintellaw03.DigitsShow'. -/
def digitsShowCard : Claim7 := { stood := { row := digitsShowRow, standIns := [], harness := (true, "69af98950a3f914e69dc37834856b84512258160e96366e2bed30c8921f6fde5"), looks := true }, kinds := [], alts := [], laidByText := true, laidKinds := [.data, .data, .widerDeep, .widerDeep, .data, .data, .data, .data, .data, .data, .sentinel, .sentinel, .pinned, .pinned, .pinned], laidTests := true, laidLooks := .later }
def DigitsShowCardSaid : Prop := Claim7.holds Tryz.pinned (.plain (OpenSpec.ofChange digitsShowSpec)) digitsShowCard

/-- THE TIED CARD OF 'lintellaw03.DigitsBlanks'. -/
def digitsBlanksCard : Claim7 := { stood := { row := digitsBlanksRow, standIns := [], harness := (true, "69af98950a3f914e69dc37834856b84512258160e96366e2bed30c8921f6fde5"), looks := true }, kinds := [], alts := [], laidByText := true, laidKinds := [.data, .data, .widerDeep, .widerDeep, .data, .data, .data, .data, .data, .data, .sentinel, .sentinel, .pinned, .pinned, .pinned], laidTests := true, laidLooks := .later }
def DigitsBlanksCardSaid : Prop := Claim7.holds Tryz.pinned (.plain (OpenSpec.ofChange digitsBlanksSpec)) digitsBlanksCard

/-- THE TIED CARD OF 'lintellaw03.DigitsBack'. -/
def digitsBackCard : Claim7 := { stood := { row := digitsBackRow, standIns := [], harness := (true, "69af98950a3f914e69dc37834856b84512258160e96366e2bed30c8921f6fde5"), looks := true }, kinds := [], alts := [], laidByText := true, laidKinds := [.data, .data, .widerDeep, .widerDeep, .data, .data, .data, .data, .data, .data, .sentinel, .sentinel, .pinned, .pinned, .pinned], laidTests := true, laidLooks := .later }
def DigitsBackCardSaid : Prop := Claim7.holds Tryz.pinned (.plain (OpenSpec.ofChange digitsBackSpec)) digitsBackCard

/-- THE TIED CARD OF 'lintellaw03.DigitsReads'. -/
def digitsReadsCard : Claim7 := { stood := { row := digitsReadsRow, standIns := [], harness := (true, "69af98950a3f914e69dc37834856b84512258160e96366e2bed30c8921f6fde5"), looks := true }, kinds := [], alts := [], laidByText := true, laidKinds := [.data, .data, .widerDeep, .widerDeep, .data, .data, .data, .data, .data, .data, .sentinel, .sentinel, .pinned, .pinned, .pinned], laidTests := true, laidLooks := .later }
def DigitsReadsCardSaid : Prop := Claim7.holds Tryz.pinned (.plain (OpenSpec.ofChange digitsReadsSpec)) digitsReadsCard

/-- THE TIED CARD OF 'lintellaw03.DigitsLiterals'. -/
def digitsLiteralsCard : Claim7 := { stood := { row := digitsLiteralsRow, standIns := [], harness := (true, "69af98950a3f914e69dc37834856b84512258160e96366e2bed30c8921f6fde5"), looks := true }, kinds := [], alts := [], laidByText := true, laidKinds := [.data, .data, .widerDeep, .widerDeep, .data, .data, .data, .data, .data, .data, .sentinel, .sentinel, .pinned, .pinned, .pinned], laidTests := true, laidLooks := .later }
def DigitsLiteralsCardSaid : Prop := Claim7.holds Tryz.pinned (.plain (OpenSpec.ofChange digitsLiteralsSpec)) digitsLiteralsCard

/-- THE TIED CARD OF 'lintellaw03.DigitsBases'. -/
def digitsBasesCard : Claim7 := { stood := { row := digitsBasesRow, standIns := [], harness := (true, "69af98950a3f914e69dc37834856b84512258160e96366e2bed30c8921f6fde5"), looks := true }, kinds := [], alts := [], laidByText := true, laidKinds := [.data, .data, .widerDeep, .widerDeep, .data, .data, .data, .data, .data, .data, .sentinel, .sentinel, .pinned, .pinned, .pinned], laidTests := true, laidLooks := .later }
def DigitsBasesCardSaid : Prop := Claim7.holds Tryz.pinned (.plain (OpenSpec.ofChange digitsBasesSpec)) digitsBasesCard

/-- THE SECOND FORM's CARD OF 'lintellaw03.DigitsShow'. -/
def digitsShowUptoCard : Claim7 := { stood := { row := digitsShowUptoRow, standIns := [], harness := (true, "69af98950a3f914e69dc37834856b84512258160e96366e2bed30c8921f6fde5"), looks := true }, kinds := [], alts := [], laidByText := true, laidKinds := [.data, .data, .widerDeep, .widerDeep, .data, .data, .data, .data, .data, .data, .sentinel, .sentinel, .pinned, .pinned, .pinned], laidTests := true, laidLooks := .later }
def DigitsShowUptoCardSaid : Prop := Claim7.holds Tryz.pinned (.plain (OpenSpec.upto digitsShowSpec)) digitsShowUptoCard

/-- THE SECOND FORM's CARD OF 'lintellaw03.DigitsBlanks'. -/
def digitsBlanksUptoCard : Claim7 := { stood := { row := digitsBlanksUptoRow, standIns := [], harness := (true, "69af98950a3f914e69dc37834856b84512258160e96366e2bed30c8921f6fde5"), looks := true }, kinds := [], alts := [], laidByText := true, laidKinds := [.data, .data, .widerDeep, .widerDeep, .data, .data, .data, .data, .data, .data, .sentinel, .sentinel, .pinned, .pinned, .pinned], laidTests := true, laidLooks := .later }
def DigitsBlanksUptoCardSaid : Prop := Claim7.holds Tryz.pinned (.plain (OpenSpec.upto digitsBlanksSpec)) digitsBlanksUptoCard

/-- THE SECOND FORM's CARD OF 'lintellaw03.DigitsBack'. -/
def digitsBackUptoCard : Claim7 := { stood := { row := digitsBackUptoRow, standIns := [], harness := (true, "69af98950a3f914e69dc37834856b84512258160e96366e2bed30c8921f6fde5"), looks := true }, kinds := [], alts := [], laidByText := true, laidKinds := [.data, .data, .widerDeep, .widerDeep, .data, .data, .data, .data, .data, .data, .sentinel, .sentinel, .pinned, .pinned, .pinned], laidTests := true, laidLooks := .later }
def DigitsBackUptoCardSaid : Prop := Claim7.holds Tryz.pinned (.plain (OpenSpec.upto digitsBackSpec)) digitsBackUptoCard

/-- THE SECOND FORM's CARD OF 'lintellaw03.DigitsReads'. -/
def digitsReadsUptoCard : Claim7 := { stood := { row := digitsReadsUptoRow, standIns := [], harness := (true, "69af98950a3f914e69dc37834856b84512258160e96366e2bed30c8921f6fde5"), looks := true }, kinds := [], alts := [], laidByText := true, laidKinds := [.data, .data, .widerDeep, .widerDeep, .data, .data, .data, .data, .data, .data, .sentinel, .sentinel, .pinned, .pinned, .pinned], laidTests := true, laidLooks := .later }
def DigitsReadsUptoCardSaid : Prop := Claim7.holds Tryz.pinned (.plain (OpenSpec.upto digitsReadsSpec)) digitsReadsUptoCard

/-- THE SECOND FORM's CARD OF 'lintellaw03.DigitsLiterals'. -/
def digitsLiteralsUptoCard : Claim7 := { stood := { row := digitsLiteralsUptoRow, standIns := [], harness := (true, "69af98950a3f914e69dc37834856b84512258160e96366e2bed30c8921f6fde5"), looks := true }, kinds := [], alts := [], laidByText := true, laidKinds := [.data, .data, .widerDeep, .widerDeep, .data, .data, .data, .data, .data, .data, .sentinel, .sentinel, .pinned, .pinned, .pinned], laidTests := true, laidLooks := .later }
def DigitsLiteralsUptoCardSaid : Prop := Claim7.holds Tryz.pinned (.plain (OpenSpec.upto digitsLiteralsSpec)) digitsLiteralsUptoCard

/-- THE SECOND FORM's CARD OF 'lintellaw03.DigitsBases'. -/
def digitsBasesUptoCard : Claim7 := { stood := { row := digitsBasesUptoRow, standIns := [], harness := (true, "69af98950a3f914e69dc37834856b84512258160e96366e2bed30c8921f6fde5"), looks := true }, kinds := [], alts := [], laidByText := true, laidKinds := [.data, .data, .widerDeep, .widerDeep, .data, .data, .data, .data, .data, .data, .sentinel, .sentinel, .pinned, .pinned, .pinned], laidTests := true, laidLooks := .later }
def DigitsBasesUptoCardSaid : Prop := Claim7.holds Tryz.pinned (.plain (OpenSpec.upto digitsBasesSpec)) digitsBasesUptoCard
end Rows
end Go.Proofs.YtbakbikilbaafaaGreatDoor
