/-
  No cell of these rows narrows 'for every input' (looked for: loops, veiled, ifaces, maps, wideKeys, modest, calm, conditions, laid).
  DERIVED. THE GIVEN ROWS OF THIS SEAT. 4 by the template 'for every input the law returns true; each argument reads behind the call as it read before'; 0 by the template 'total and deterministic' (their statements: YtkbjakadngnokaaTotals.lean).
  GIVEN WITH THE SEED: the statements are not yours to turn. If you find one false, say at which input.
  Laid BY PROGRAM, IN A SANDBOX (cutbox-rows.mjs): the forced cells as the released guide's own fill.sh prints them over the translation 516ded30813516b6… (all of the seat's roots in one cut). By AI agents, Wed Nov 11 2026. No macro, syntax, notation, axiom, sorry.
-/
import Derived.Test.YtkbjakadngnokaaChecked
import GoSem.Claim
import GoSem.ClaimJoined
import GoSem.ClaimMapViews
import Derived.JoinedTies
import Derived.KernelRfl
namespace Go.Proofs.Ytkbjakadngnokaa
/- THE CELL 'sum', in the pinned program and in every row, IS THE sha256 OF THE DUMP (.gsa) THAT YtkbjakadngnokaaProg.lean LOADS. Nothing in Lean hashes anything: it is a label: what it is worth is what the hold of that sum in a sandbox is worth. -/
noncomputable def Try.pinned : Pinned := { name := "ytkbjakadngnokaa", sum := "516ded30813516b6b987bb2a72c6372131c64dc2a64b60eb9c206fbfbb34fc68", checked := Try.checked }
namespace Rows
def none {H : Type} : Left H := { results := [], args := [] }

/-- 'lintellaw04.KeysStable': WHATEVER THE INPUT: true; the input reads as it did. -/
def keysStableSpec : ChangeSpec := { name := "keysStable", fn := fun _ => fun
  | [d] => { results := [.lit (.bool true)], args := [d] }
  | _ => none }
def keysStableRow : OpenClaim := { program := "ytkbjakadngnokaa", sum := "516ded30813516b6b987bb2a72c6372131c64dc2a64b60eb9c206fbfbb34fc68", func := "lintel/lintellaw04.KeysStable", spec := "keysStable", unfollowed := true, recurses := true, apart := false }
def KeysStableSaid : Prop := keysStableRow.holds Try.pinned (OpenSpec.ofChange keysStableSpec)

/-- ITS FALSE NEIGHBOUR: 'it returns false'. Refute it at one input. -/
def keysStableWrong : ChangeSpec := { name := "keysStable", fn := fun _ => fun
  | [d] => { results := [.lit (.bool false)], args := [d] }
  | _ => none }
def KeysStableWrongFalsely : Prop := keysStableRow.holds Try.pinned (OpenSpec.ofChange keysStableWrong)

/-- 'lintellaw04.KeysOrder': WHATEVER THE INPUT: true; the input reads as it did. -/
def keysOrderSpec : ChangeSpec := { name := "keysOrder", fn := fun _ => fun
  | [d1, d2, d3] => { results := [.lit (.bool true)], args := [d1, d2, d3] }
  | _ => none }
def keysOrderRow : OpenClaim := { program := "ytkbjakadngnokaa", sum := "516ded30813516b6b987bb2a72c6372131c64dc2a64b60eb9c206fbfbb34fc68", func := "lintel/lintellaw04.KeysOrder", spec := "keysOrder", unfollowed := true, recurses := true, apart := false }
def KeysOrderSaid : Prop := keysOrderRow.holds Try.pinned (OpenSpec.ofChange keysOrderSpec)

/-- ITS FALSE NEIGHBOUR: 'it returns false'. Refute it at one input. -/
def keysOrderWrong : ChangeSpec := { name := "keysOrder", fn := fun _ => fun
  | [d1, d2, d3] => { results := [.lit (.bool false)], args := [d1, d2, d3] }
  | _ => none }
def KeysOrderWrongFalsely : Prop := keysOrderRow.holds Try.pinned (OpenSpec.ofChange keysOrderWrong)

/-- 'lintellaw04.KeysTable': WHATEVER THE INPUT: true; the input reads as it did. -/
def keysTableSpec : ChangeSpec := { name := "keysTable", fn := fun _ => fun
  | [d1, d2] => { results := [.lit (.bool true)], args := [d1, d2] }
  | _ => none }
def keysTableRow : OpenClaim := { program := "ytkbjakadngnokaa", sum := "516ded30813516b6b987bb2a72c6372131c64dc2a64b60eb9c206fbfbb34fc68", func := "lintel/lintellaw04.KeysTable", spec := "keysTable", unfollowed := true, recurses := true, apart := false }
def KeysTableSaid : Prop := keysTableRow.holds Try.pinned (OpenSpec.ofChange keysTableSpec)

/-- ITS FALSE NEIGHBOUR: 'it returns false'. Refute it at one input. -/
def keysTableWrong : ChangeSpec := { name := "keysTable", fn := fun _ => fun
  | [d1, d2] => { results := [.lit (.bool false)], args := [d1, d2] }
  | _ => none }
def KeysTableWrongFalsely : Prop := keysTableRow.holds Try.pinned (OpenSpec.ofChange keysTableWrong)

/-- 'lintellaw04.KeysSymbols': WHATEVER THE INPUT: true; the input reads as it did. -/
def keysSymbolsSpec : ChangeSpec := { name := "keysSymbols", fn := fun _ => fun
  | [d1, d2] => { results := [.lit (.bool true)], args := [d1, d2] }
  | _ => none }
def keysSymbolsRow : OpenClaim := { program := "ytkbjakadngnokaa", sum := "516ded30813516b6b987bb2a72c6372131c64dc2a64b60eb9c206fbfbb34fc68", func := "lintel/lintellaw04.KeysSymbols", spec := "keysSymbols", unfollowed := true, recurses := true, apart := false }
def KeysSymbolsSaid : Prop := keysSymbolsRow.holds Try.pinned (OpenSpec.ofChange keysSymbolsSpec)

/-- ITS FALSE NEIGHBOUR: 'it returns false'. Refute it at one input. -/
def keysSymbolsWrong : ChangeSpec := { name := "keysSymbols", fn := fun _ => fun
  | [d1, d2] => { results := [.lit (.bool false)], args := [d1, d2] }
  | _ => none }
def KeysSymbolsWrongFalsely : Prop := keysSymbolsRow.holds Try.pinned (OpenSpec.ofChange keysSymbolsWrong)

/- THE SECOND FORM. 'bulk': how many values and letters a reading holds, each counted each time it is reached (what is shared counts as often as it is met; a slice's spare places count too). A statement '..UptoSaid' is the law's where the arguments, and the package variables that the reading takes, are together of bulk at most 1048576: NARROWER than '..Said'. Prove '..Said' where nothing that the law and all that it calls make is longer than what came in: it says more and counts as full. Else prove '..UptoSaid'. A law counts once. -/
mutual
def uptoBulk {H : Type} : DataW H → Nat
  | .lit (.string bytes) => bytes.length + 1
  | .lit _ => 1
  | .nil => 1
  | .ptr d => uptoBulk d + 1
  | .slice elems spare => uptoBulkAll elems + uptoBulkAll spare + 1
  | .agg parts => uptoBulkAll parts + 1
  | .iface _ d => uptoBulk d + 1
  | .map entries => uptoBulkEntries entries + 1
  | .held _ => 1
def uptoBulkAll {H : Type} : List (DataW H) → Nat
  | [] => 0
  | d :: r => uptoBulk d + uptoBulkAll r
def uptoBulkEntries {H : Type} : List (Lit × DataW H) → Nat
  | [] => 0
  | x :: r => uptoBulkEntry x + uptoBulkEntries r
def uptoBulkEntry {H : Type} : Lit × DataW H → Nat
  | (.string bytes, d) => bytes.length + uptoBulk d + 1
  | (_, d) => uptoBulk d + 1
 end
def uptoSmall : (H : Type) → List (DataW H) → Bool := fun _ ds => decide (uptoBulkAll ds ≤ 1048576)
def OpenSpec.upto (s : _root_.Go.ChangeSpec) : _root_.Go.OpenSpec := { _root_.Go.OpenSpec.ofChange s with cond := some uptoSmall }

/-- 'lintellaw04.KeysStable', WHERE WHAT IT READS IS OF BULK AT MOST 1048576: true; the input reads as it did. -/
def keysStableUptoRow : OpenClaim := { program := "ytkbjakadngnokaa", sum := "516ded30813516b6b987bb2a72c6372131c64dc2a64b60eb9c206fbfbb34fc68", func := "lintel/lintellaw04.KeysStable", spec := "keysStable", unfollowed := true, recurses := true, apart := false, narrowed := true }
def KeysStableUptoSaid : Prop := keysStableUptoRow.holds Try.pinned (OpenSpec.upto keysStableSpec)

/-- 'lintellaw04.KeysOrder', WHERE WHAT IT READS IS OF BULK AT MOST 1048576: true; the input reads as it did. -/
def keysOrderUptoRow : OpenClaim := { program := "ytkbjakadngnokaa", sum := "516ded30813516b6b987bb2a72c6372131c64dc2a64b60eb9c206fbfbb34fc68", func := "lintel/lintellaw04.KeysOrder", spec := "keysOrder", unfollowed := true, recurses := true, apart := false, narrowed := true }
def KeysOrderUptoSaid : Prop := keysOrderUptoRow.holds Try.pinned (OpenSpec.upto keysOrderSpec)

/-- 'lintellaw04.KeysTable', WHERE WHAT IT READS IS OF BULK AT MOST 1048576: true; the input reads as it did. -/
def keysTableUptoRow : OpenClaim := { program := "ytkbjakadngnokaa", sum := "516ded30813516b6b987bb2a72c6372131c64dc2a64b60eb9c206fbfbb34fc68", func := "lintel/lintellaw04.KeysTable", spec := "keysTable", unfollowed := true, recurses := true, apart := false, narrowed := true }
def KeysTableUptoSaid : Prop := keysTableUptoRow.holds Try.pinned (OpenSpec.upto keysTableSpec)

/-- 'lintellaw04.KeysSymbols', WHERE WHAT IT READS IS OF BULK AT MOST 1048576: true; the input reads as it did. -/
def keysSymbolsUptoRow : OpenClaim := { program := "ytkbjakadngnokaa", sum := "516ded30813516b6b987bb2a72c6372131c64dc2a64b60eb9c206fbfbb34fc68", func := "lintel/lintellaw04.KeysSymbols", spec := "keysSymbols", unfollowed := true, recurses := true, apart := false, narrowed := true }
def KeysSymbolsUptoSaid : Prop := keysSymbolsUptoRow.holds Try.pinned (OpenSpec.upto keysSymbolsSpec)

end Rows
end Go.Proofs.Ytkbjakadngnokaa
