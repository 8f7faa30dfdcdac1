/-
  No cell of these rows narrows 'for every input' (looked for: loops, veiled, ifaces, maps, wideKeys, modest, calm, conditions, laid).
  DERIVED. THE GIVEN ROWS OF THIS SEAT. 7 by the template 'for every input the law returns true; each argument reads behind the call as it read before'; 0 by the template 'total and deterministic' (their statements: YtpkinhiolaookaaTotals.lean).
  GIVEN WITH THE SEED: the statements are not yours to turn. If you find one false, say at which input.
  Laid BY PROGRAM, IN A SANDBOX (cutbox-rows.mjs): the forced cells as the released guide's own fill.sh prints them over the translation e06252d400fc1e0f… (all of the seat's roots in one cut). By AI agents, Wed Nov 11 2026. No macro, syntax, notation, axiom, sorry.
-/
import Derived.Test.YtpkinhiolaookaaChecked
import GoSem.Claim
import GoSem.ClaimJoined
import GoSem.ClaimMapViews
import Derived.JoinedTies
import Derived.KernelRfl
namespace Go.Proofs.Ytpkinhiolaookaa
/- THE CELL 'sum', in the pinned program and in every row, IS THE sha256 OF THE DUMP (.gsa) THAT YtpkinhiolaookaaProg.lean LOADS. Nothing in Lean hashes anything: it is a label: what it is worth is what the hold of that sum in a sandbox is worth. -/
noncomputable def Try.pinned : Pinned := { name := "ytpkinhiolaookaa", sum := "e06252d400fc1e0f88c5b4c07b8fb7869fcaad7a8d6402007f232ddbf5d65819", checked := Try.checked }
namespace Rows
def none {H : Type} : Left H := { results := [], args := [] }

/-- 'lintellaw02.NumsRings': WHATEVER THE INPUT: true; the input reads as it did. -/
def numsRingsSpec : ChangeSpec := { name := "numsRings", fn := fun _ => fun
  | [d1, d2] => { results := [.lit (.bool true)], args := [d1, d2] }
  | _ => none }
def numsRingsRow : OpenClaim := { program := "ytpkinhiolaookaa", sum := "e06252d400fc1e0f88c5b4c07b8fb7869fcaad7a8d6402007f232ddbf5d65819", func := "lintel/lintellaw02.NumsRings", spec := "numsRings", inPlace := ["math.Float64bits", "math.Float64frombits", "math.archTrunc", "math.sqrt"], apart := false }
def NumsRingsSaid : Prop := numsRingsRow.holds Try.pinned (OpenSpec.ofChange numsRingsSpec)

/-- ITS FALSE NEIGHBOUR: 'it returns false'. Refute it at one input. -/
def numsRingsWrong : ChangeSpec := { name := "numsRings", fn := fun _ => fun
  | [d1, d2] => { results := [.lit (.bool false)], args := [d1, d2] }
  | _ => none }
def NumsRingsWrongFalsely : Prop := numsRingsRow.holds Try.pinned (OpenSpec.ofChange numsRingsWrong)

/-- 'lintellaw02.NumsRests': WHATEVER THE INPUT: true; the input reads as it did. -/
def numsRestsSpec : ChangeSpec := { name := "numsRests", fn := fun _ => fun
  | [d1, d2] => { results := [.lit (.bool true)], args := [d1, d2] }
  | _ => none }
def numsRestsRow : OpenClaim := { program := "ytpkinhiolaookaa", sum := "e06252d400fc1e0f88c5b4c07b8fb7869fcaad7a8d6402007f232ddbf5d65819", func := "lintel/lintellaw02.NumsRests", spec := "numsRests", inPlace := ["math.Float64bits", "math.Float64frombits", "math.archTrunc", "math.sqrt"], apart := false }
def NumsRestsSaid : Prop := numsRestsRow.holds Try.pinned (OpenSpec.ofChange numsRestsSpec)

/-- ITS FALSE NEIGHBOUR: 'it returns false'. Refute it at one input. -/
def numsRestsWrong : ChangeSpec := { name := "numsRests", fn := fun _ => fun
  | [d1, d2] => { results := [.lit (.bool false)], args := [d1, d2] }
  | _ => none }
def NumsRestsWrongFalsely : Prop := numsRestsRow.holds Try.pinned (OpenSpec.ofChange numsRestsWrong)

/-- 'lintellaw02.NumsPowers': WHATEVER THE INPUT: true; the input reads as it did. -/
def numsPowersSpec : ChangeSpec := { name := "numsPowers", fn := fun _ => fun
  | [d1, d2] => { results := [.lit (.bool true)], args := [d1, d2] }
  | _ => none }
def numsPowersRow : OpenClaim := { program := "ytpkinhiolaookaa", sum := "e06252d400fc1e0f88c5b4c07b8fb7869fcaad7a8d6402007f232ddbf5d65819", func := "lintel/lintellaw02.NumsPowers", spec := "numsPowers", inPlace := ["math.Float64bits", "math.Float64frombits", "math.archTrunc", "math.sqrt"], apart := false }
def NumsPowersSaid : Prop := numsPowersRow.holds Try.pinned (OpenSpec.ofChange numsPowersSpec)

/-- ITS FALSE NEIGHBOUR: 'it returns false'. Refute it at one input. -/
def numsPowersWrong : ChangeSpec := { name := "numsPowers", fn := fun _ => fun
  | [d1, d2] => { results := [.lit (.bool false)], args := [d1, d2] }
  | _ => none }
def NumsPowersWrongFalsely : Prop := numsPowersRow.holds Try.pinned (OpenSpec.ofChange numsPowersWrong)

/-- 'lintellaw02.NumsDivides': WHATEVER THE INPUT: true; the input reads as it did. -/
def numsDividesSpec : ChangeSpec := { name := "numsDivides", fn := fun _ => fun
  | [d1, d2] => { results := [.lit (.bool true)], args := [d1, d2] }
  | _ => none }
def numsDividesRow : OpenClaim := { program := "ytpkinhiolaookaa", sum := "e06252d400fc1e0f88c5b4c07b8fb7869fcaad7a8d6402007f232ddbf5d65819", func := "lintel/lintellaw02.NumsDivides", spec := "numsDivides", inPlace := ["math.Float64bits", "math.Float64frombits", "math.archTrunc", "math.sqrt"], apart := false }
def NumsDividesSaid : Prop := numsDividesRow.holds Try.pinned (OpenSpec.ofChange numsDividesSpec)

/-- ITS FALSE NEIGHBOUR: 'it returns false'. Refute it at one input. -/
def numsDividesWrong : ChangeSpec := { name := "numsDivides", fn := fun _ => fun
  | [d1, d2] => { results := [.lit (.bool false)], args := [d1, d2] }
  | _ => none }
def NumsDividesWrongFalsely : Prop := numsDividesRow.holds Try.pinned (OpenSpec.ofChange numsDividesWrong)

/-- 'lintellaw02.NumsShifts': WHATEVER THE INPUT: true; the input reads as it did. -/
def numsShiftsSpec : ChangeSpec := { name := "numsShifts", fn := fun _ => fun
  | [d1, d2] => { results := [.lit (.bool true)], args := [d1, d2] }
  | _ => none }
def numsShiftsRow : OpenClaim := { program := "ytpkinhiolaookaa", sum := "e06252d400fc1e0f88c5b4c07b8fb7869fcaad7a8d6402007f232ddbf5d65819", func := "lintel/lintellaw02.NumsShifts", spec := "numsShifts", inPlace := ["math.Float64bits", "math.Float64frombits", "math.archTrunc", "math.sqrt"], apart := false }
def NumsShiftsSaid : Prop := numsShiftsRow.holds Try.pinned (OpenSpec.ofChange numsShiftsSpec)

/-- ITS FALSE NEIGHBOUR: 'it returns false'. Refute it at one input. -/
def numsShiftsWrong : ChangeSpec := { name := "numsShifts", fn := fun _ => fun
  | [d1, d2] => { results := [.lit (.bool false)], args := [d1, d2] }
  | _ => none }
def NumsShiftsWrongFalsely : Prop := numsShiftsRow.holds Try.pinned (OpenSpec.ofChange numsShiftsWrong)

/-- 'lintellaw02.NumsSame': WHATEVER THE INPUT: true; the input reads as it did. -/
def numsSameSpec : ChangeSpec := { name := "numsSame", fn := fun _ => fun
  | [d1, d2, d3] => { results := [.lit (.bool true)], args := [d1, d2, d3] }
  | _ => none }
def numsSameRow : OpenClaim := { program := "ytpkinhiolaookaa", sum := "e06252d400fc1e0f88c5b4c07b8fb7869fcaad7a8d6402007f232ddbf5d65819", func := "lintel/lintellaw02.NumsSame", spec := "numsSame", inPlace := ["math.Float64bits", "math.Float64frombits", "math.archTrunc", "math.sqrt"], apart := false }
def NumsSameSaid : Prop := numsSameRow.holds Try.pinned (OpenSpec.ofChange numsSameSpec)

/-- ITS FALSE NEIGHBOUR: 'it returns false'. Refute it at one input. -/
def numsSameWrong : ChangeSpec := { name := "numsSame", fn := fun _ => fun
  | [d1, d2, d3] => { results := [.lit (.bool false)], args := [d1, d2, d3] }
  | _ => none }
def NumsSameWrongFalsely : Prop := numsSameRow.holds Try.pinned (OpenSpec.ofChange numsSameWrong)

/-- 'lintellaw02.NumsInts': WHATEVER THE INPUT: true; the input reads as it did. -/
def numsIntsSpec : ChangeSpec := { name := "numsInts", fn := fun _ => fun
  | [d] => { results := [.lit (.bool true)], args := [d] }
  | _ => none }
def numsIntsRow : OpenClaim := { program := "ytpkinhiolaookaa", sum := "e06252d400fc1e0f88c5b4c07b8fb7869fcaad7a8d6402007f232ddbf5d65819", func := "lintel/lintellaw02.NumsInts", spec := "numsInts", inPlace := ["math.Float64bits", "math.Float64frombits", "math.archTrunc", "math.sqrt", "math.archMax", "math.archMin"], apart := false }
def NumsIntsSaid : Prop := numsIntsRow.holds Try.pinned (OpenSpec.ofChange numsIntsSpec)

/-- ITS FALSE NEIGHBOUR: 'it returns false'. Refute it at one input. -/
def numsIntsWrong : ChangeSpec := { name := "numsInts", fn := fun _ => fun
  | [d] => { results := [.lit (.bool false)], args := [d] }
  | _ => none }
def NumsIntsWrongFalsely : Prop := numsIntsRow.holds Try.pinned (OpenSpec.ofChange numsIntsWrong)

/- THE SECOND FORM. 'bulk': how many values and letters a reading holds, each counted each time it is reached (what is shared counts as often as it is met; a slice's spare places count too). A statement '..UptoSaid' is the law's where the arguments, and the package variables that the reading takes, are together of bulk at most 1048576: NARROWER than '..Said'. Prove '..Said' where nothing that the law and all that it calls make is longer than what came in: it says more and counts as full. Else prove '..UptoSaid'. A law counts once. -/
mutual
def uptoBulk {H : Type} : DataW H → Nat
  | .lit (.string bytes) => bytes.length + 1
  | .lit _ => 1
  | .nil => 1
  | .ptr d => uptoBulk d + 1
  | .slice elems spare => uptoBulkAll elems + uptoBulkAll spare + 1
  | .agg parts => uptoBulkAll parts + 1
  | .iface _ d => uptoBulk d + 1
  | .map entries => uptoBulkEntries entries + 1
  | .held _ => 1
def uptoBulkAll {H : Type} : List (DataW H) → Nat
  | [] => 0
  | d :: r => uptoBulk d + uptoBulkAll r
def uptoBulkEntries {H : Type} : List (Lit × DataW H) → Nat
  | [] => 0
  | x :: r => uptoBulkEntry x + uptoBulkEntries r
def uptoBulkEntry {H : Type} : Lit × DataW H → Nat
  | (.string bytes, d) => bytes.length + uptoBulk d + 1
  | (_, d) => uptoBulk d + 1
 end
def uptoSmall : (H : Type) → List (DataW H) → Bool := fun _ ds => decide (uptoBulkAll ds ≤ 1048576)
def OpenSpec.upto (s : _root_.Go.ChangeSpec) : _root_.Go.OpenSpec := { _root_.Go.OpenSpec.ofChange s with cond := some uptoSmall }

/-- 'lintellaw02.NumsRings', WHERE WHAT IT READS IS OF BULK AT MOST 1048576: true; the input reads as it did. -/
def numsRingsUptoRow : OpenClaim := { program := "ytpkinhiolaookaa", sum := "e06252d400fc1e0f88c5b4c07b8fb7869fcaad7a8d6402007f232ddbf5d65819", func := "lintel/lintellaw02.NumsRings", spec := "numsRings", inPlace := ["math.Float64bits", "math.Float64frombits", "math.archTrunc", "math.sqrt"], apart := false, narrowed := true }
def NumsRingsUptoSaid : Prop := numsRingsUptoRow.holds Try.pinned (OpenSpec.upto numsRingsSpec)

/-- 'lintellaw02.NumsRests', WHERE WHAT IT READS IS OF BULK AT MOST 1048576: true; the input reads as it did. -/
def numsRestsUptoRow : OpenClaim := { program := "ytpkinhiolaookaa", sum := "e06252d400fc1e0f88c5b4c07b8fb7869fcaad7a8d6402007f232ddbf5d65819", func := "lintel/lintellaw02.NumsRests", spec := "numsRests", inPlace := ["math.Float64bits", "math.Float64frombits", "math.archTrunc", "math.sqrt"], apart := false, narrowed := true }
def NumsRestsUptoSaid : Prop := numsRestsUptoRow.holds Try.pinned (OpenSpec.upto numsRestsSpec)

/-- 'lintellaw02.NumsPowers', WHERE WHAT IT READS IS OF BULK AT MOST 1048576: true; the input reads as it did. -/
def numsPowersUptoRow : OpenClaim := { program := "ytpkinhiolaookaa", sum := "e06252d400fc1e0f88c5b4c07b8fb7869fcaad7a8d6402007f232ddbf5d65819", func := "lintel/lintellaw02.NumsPowers", spec := "numsPowers", inPlace := ["math.Float64bits", "math.Float64frombits", "math.archTrunc", "math.sqrt"], apart := false, narrowed := true }
def NumsPowersUptoSaid : Prop := numsPowersUptoRow.holds Try.pinned (OpenSpec.upto numsPowersSpec)

/-- 'lintellaw02.NumsDivides', WHERE WHAT IT READS IS OF BULK AT MOST 1048576: true; the input reads as it did. -/
def numsDividesUptoRow : OpenClaim := { program := "ytpkinhiolaookaa", sum := "e06252d400fc1e0f88c5b4c07b8fb7869fcaad7a8d6402007f232ddbf5d65819", func := "lintel/lintellaw02.NumsDivides", spec := "numsDivides", inPlace := ["math.Float64bits", "math.Float64frombits", "math.archTrunc", "math.sqrt"], apart := false, narrowed := true }
def NumsDividesUptoSaid : Prop := numsDividesUptoRow.holds Try.pinned (OpenSpec.upto numsDividesSpec)

/-- 'lintellaw02.NumsShifts', WHERE WHAT IT READS IS OF BULK AT MOST 1048576: true; the input reads as it did. -/
def numsShiftsUptoRow : OpenClaim := { program := "ytpkinhiolaookaa", sum := "e06252d400fc1e0f88c5b4c07b8fb7869fcaad7a8d6402007f232ddbf5d65819", func := "lintel/lintellaw02.NumsShifts", spec := "numsShifts", inPlace := ["math.Float64bits", "math.Float64frombits", "math.archTrunc", "math.sqrt"], apart := false, narrowed := true }
def NumsShiftsUptoSaid : Prop := numsShiftsUptoRow.holds Try.pinned (OpenSpec.upto numsShiftsSpec)

/-- 'lintellaw02.NumsSame', WHERE WHAT IT READS IS OF BULK AT MOST 1048576: true; the input reads as it did. -/
def numsSameUptoRow : OpenClaim := { program := "ytpkinhiolaookaa", sum := "e06252d400fc1e0f88c5b4c07b8fb7869fcaad7a8d6402007f232ddbf5d65819", func := "lintel/lintellaw02.NumsSame", spec := "numsSame", inPlace := ["math.Float64bits", "math.Float64frombits", "math.archTrunc", "math.sqrt"], apart := false, narrowed := true }
def NumsSameUptoSaid : Prop := numsSameUptoRow.holds Try.pinned (OpenSpec.upto numsSameSpec)

/-- 'lintellaw02.NumsInts', WHERE WHAT IT READS IS OF BULK AT MOST 1048576: true; the input reads as it did. -/
def numsIntsUptoRow : OpenClaim := { program := "ytpkinhiolaookaa", sum := "e06252d400fc1e0f88c5b4c07b8fb7869fcaad7a8d6402007f232ddbf5d65819", func := "lintel/lintellaw02.NumsInts", spec := "numsInts", inPlace := ["math.Float64bits", "math.Float64frombits", "math.archTrunc", "math.sqrt", "math.archMax", "math.archMin"], apart := false, narrowed := true }
def NumsIntsUptoSaid : Prop := numsIntsUptoRow.holds Try.pinned (OpenSpec.upto numsIntsSpec)

end Rows
end Go.Proofs.Ytpkinhiolaookaa
