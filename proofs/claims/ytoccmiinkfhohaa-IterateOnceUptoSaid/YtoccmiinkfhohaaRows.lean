/-
  No cell of these rows narrows 'for every input' (looked for: loops, veiled, ifaces, maps, wideKeys, modest, calm, conditions, laid).
  DERIVED. THE GIVEN ROWS OF THIS SEAT. 5 by the template 'for every input the law returns true; each argument reads behind the call as it read before'; 0 by the template 'total and deterministic' (their statements: YtoccmiinkfhohaaTotals.lean).
  GIVEN WITH THE SEED: the statements are not yours to turn. If you find one false, say at which input.
  Laid BY PROGRAM, IN A SANDBOX (cutbox-rows.mjs): the forced cells as the released guide's own fill.sh prints them over the translation 70b3bd7e2cd1bbb9… (all of the seat's roots in one cut). By AI agents, Wed Nov 11 2026. No macro, syntax, notation, axiom, sorry.
-/
import Derived.Test.YtoccmiinkfhohaaChecked
import GoSem.Claim
import GoSem.ClaimJoined
import GoSem.ClaimMapViews
import Derived.JoinedTies
import Derived.KernelRfl
namespace Go.Proofs.Ytoccmiinkfhohaa
/- THE CELL 'sum', in the pinned program and in every row, IS THE sha256 OF THE DUMP (.gsa) THAT YtoccmiinkfhohaaProg.lean LOADS. Nothing in Lean hashes anything: it is a label: what it is worth is what the hold of that sum in a sandbox is worth. -/
noncomputable def Try.pinned : Pinned := { name := "ytoccmiinkfhohaa", sum := "70b3bd7e2cd1bbb93bb32126becc2715e1136f502b95580ff91b412e3939a706", checked := Try.checked }
namespace Rows
def none {H : Type} : Left H := { results := [], args := [] }

/-- 'lintellaw15.HeapFast': WHATEVER THE INPUT: true; the input reads as it did. -/
def heapFastSpec : ChangeSpec := { name := "heapFast", fn := fun _ => fun
  | [d] => { results := [.lit (.bool true)], args := [d] }
  | _ => none }
def heapFastRow : OpenClaim := { program := "ytoccmiinkfhohaa", sum := "70b3bd7e2cd1bbb93bb32126becc2715e1136f502b95580ff91b412e3939a706", func := "lintel/lintellaw15.HeapFast", spec := "heapFast", unfollowed := true, recurses := true, plainKeys := false, apart := false }
def HeapFastSaid : Prop := heapFastRow.holds Try.pinned (OpenSpec.ofChange heapFastSpec)

/-- ITS FALSE NEIGHBOUR: 'it returns false'. Refute it at one input. -/
def heapFastWrong : ChangeSpec := { name := "heapFast", fn := fun _ => fun
  | [d] => { results := [.lit (.bool false)], args := [d] }
  | _ => none }
def HeapFastWrongFalsely : Prop := heapFastRow.holds Try.pinned (OpenSpec.ofChange heapFastWrong)

/-- 'lintellaw15.HeapRoom': WHATEVER THE INPUT: true; the input reads as it did. -/
def heapRoomSpec : ChangeSpec := { name := "heapRoom", fn := fun _ => fun
  | [d1, d2] => { results := [.lit (.bool true)], args := [d1, d2] }
  | _ => none }
def heapRoomRow : OpenClaim := { program := "ytoccmiinkfhohaa", sum := "70b3bd7e2cd1bbb93bb32126becc2715e1136f502b95580ff91b412e3939a706", func := "lintel/lintellaw15.HeapRoom", spec := "heapRoom", unfollowed := true, recurses := true, plainKeys := false, apart := false }
def HeapRoomSaid : Prop := heapRoomRow.holds Try.pinned (OpenSpec.ofChange heapRoomSpec)

/-- ITS FALSE NEIGHBOUR: 'it returns false'. Refute it at one input. -/
def heapRoomWrong : ChangeSpec := { name := "heapRoom", fn := fun _ => fun
  | [d1, d2] => { results := [.lit (.bool false)], args := [d1, d2] }
  | _ => none }
def HeapRoomWrongFalsely : Prop := heapRoomRow.holds Try.pinned (OpenSpec.ofChange heapRoomWrong)

/-- 'lintellaw15.HeapNone': WHATEVER THE INPUT: true; the input reads as it did. -/
def heapNoneSpec : ChangeSpec := { name := "heapNone", fn := fun _ => fun
  | [d1, d2] => { results := [.lit (.bool true)], args := [d1, d2] }
  | _ => none }
def heapNoneRow : OpenClaim := { program := "ytoccmiinkfhohaa", sum := "70b3bd7e2cd1bbb93bb32126becc2715e1136f502b95580ff91b412e3939a706", func := "lintel/lintellaw15.HeapNone", spec := "heapNone", unfollowed := true, recurses := true, plainKeys := false, apart := false }
def HeapNoneSaid : Prop := heapNoneRow.holds Try.pinned (OpenSpec.ofChange heapNoneSpec)

/-- ITS FALSE NEIGHBOUR: 'it returns false'. Refute it at one input. -/
def heapNoneWrong : ChangeSpec := { name := "heapNone", fn := fun _ => fun
  | [d1, d2] => { results := [.lit (.bool false)], args := [d1, d2] }
  | _ => none }
def HeapNoneWrongFalsely : Prop := heapNoneRow.holds Try.pinned (OpenSpec.ofChange heapNoneWrong)

/-- 'lintellaw20.IterateKeys': WHATEVER THE INPUT: true; the input reads as it did. -/
def iterateKeysSpec : ChangeSpec := { name := "iterateKeys", fn := fun _ => fun
  | [d1, d2] => { results := [.lit (.bool true)], args := [d1, d2] }
  | _ => none }
def iterateKeysRow : OpenClaim := { program := "ytoccmiinkfhohaa", sum := "70b3bd7e2cd1bbb93bb32126becc2715e1136f502b95580ff91b412e3939a706", func := "lintel/lintellaw20.IterateKeys", spec := "iterateKeys", unfollowed := true, recurses := true, plainKeys := false, apart := false }
def IterateKeysSaid : Prop := iterateKeysRow.holds Try.pinned (OpenSpec.ofChange iterateKeysSpec)

/-- ITS FALSE NEIGHBOUR: 'it returns false'. Refute it at one input. -/
def iterateKeysWrong : ChangeSpec := { name := "iterateKeys", fn := fun _ => fun
  | [d1, d2] => { results := [.lit (.bool false)], args := [d1, d2] }
  | _ => none }
def IterateKeysWrongFalsely : Prop := iterateKeysRow.holds Try.pinned (OpenSpec.ofChange iterateKeysWrong)

/-- 'lintellaw20.IterateOnce': WHATEVER THE INPUT: true; the input reads as it did. -/
def iterateOnceSpec : ChangeSpec := { name := "iterateOnce", fn := fun _ => fun
  | [d1, d2, d3] => { results := [.lit (.bool true)], args := [d1, d2, d3] }
  | _ => none }
def iterateOnceRow : OpenClaim := { program := "ytoccmiinkfhohaa", sum := "70b3bd7e2cd1bbb93bb32126becc2715e1136f502b95580ff91b412e3939a706", func := "lintel/lintellaw20.IterateOnce", spec := "iterateOnce", unfollowed := true, recurses := true, plainKeys := false, apart := false }
def IterateOnceSaid : Prop := iterateOnceRow.holds Try.pinned (OpenSpec.ofChange iterateOnceSpec)

/-- ITS FALSE NEIGHBOUR: 'it returns false'. Refute it at one input. -/
def iterateOnceWrong : ChangeSpec := { name := "iterateOnce", fn := fun _ => fun
  | [d1, d2, d3] => { results := [.lit (.bool false)], args := [d1, d2, d3] }
  | _ => none }
def IterateOnceWrongFalsely : Prop := iterateOnceRow.holds Try.pinned (OpenSpec.ofChange iterateOnceWrong)

/- THE SECOND FORM. 'bulk': how many values and letters a reading holds, each counted each time it is reached (what is shared counts as often as it is met; a slice's spare places count too). A statement '..UptoSaid' is the law's where the arguments, and the package variables that the reading takes, are together of bulk at most 1048576: NARROWER than '..Said'. Prove '..Said' where nothing that the law and all that it calls make is longer than what came in: it says more and counts as full. Else prove '..UptoSaid'. A law counts once. -/
mutual
def uptoBulk {H : Type} : DataW H → Nat
  | .lit (.string bytes) => bytes.length + 1
  | .lit _ => 1
  | .nil => 1
  | .ptr d => uptoBulk d + 1
  | .slice elems spare => uptoBulkAll elems + uptoBulkAll spare + 1
  | .agg parts => uptoBulkAll parts + 1
  | .iface _ d => uptoBulk d + 1
  | .map entries => uptoBulkEntries entries + 1
  | .held _ => 1
def uptoBulkAll {H : Type} : List (DataW H) → Nat
  | [] => 0
  | d :: r => uptoBulk d + uptoBulkAll r
def uptoBulkEntries {H : Type} : List (Lit × DataW H) → Nat
  | [] => 0
  | x :: r => uptoBulkEntry x + uptoBulkEntries r
def uptoBulkEntry {H : Type} : Lit × DataW H → Nat
  | (.string bytes, d) => bytes.length + uptoBulk d + 1
  | (_, d) => uptoBulk d + 1
 end
def uptoSmall : (H : Type) → List (DataW H) → Bool := fun _ ds => decide (uptoBulkAll ds ≤ 1048576)
def OpenSpec.upto (s : _root_.Go.ChangeSpec) : _root_.Go.OpenSpec := { _root_.Go.OpenSpec.ofChange s with cond := some uptoSmall }

/-- 'lintellaw15.HeapFast', WHERE WHAT IT READS IS OF BULK AT MOST 1048576: true; the input reads as it did. -/
def heapFastUptoRow : OpenClaim := { program := "ytoccmiinkfhohaa", sum := "70b3bd7e2cd1bbb93bb32126becc2715e1136f502b95580ff91b412e3939a706", func := "lintel/lintellaw15.HeapFast", spec := "heapFast", unfollowed := true, recurses := true, plainKeys := false, apart := false, narrowed := true }
def HeapFastUptoSaid : Prop := heapFastUptoRow.holds Try.pinned (OpenSpec.upto heapFastSpec)

/-- 'lintellaw15.HeapRoom', WHERE WHAT IT READS IS OF BULK AT MOST 1048576: true; the input reads as it did. -/
def heapRoomUptoRow : OpenClaim := { program := "ytoccmiinkfhohaa", sum := "70b3bd7e2cd1bbb93bb32126becc2715e1136f502b95580ff91b412e3939a706", func := "lintel/lintellaw15.HeapRoom", spec := "heapRoom", unfollowed := true, recurses := true, plainKeys := false, apart := false, narrowed := true }
def HeapRoomUptoSaid : Prop := heapRoomUptoRow.holds Try.pinned (OpenSpec.upto heapRoomSpec)

/-- 'lintellaw15.HeapNone', WHERE WHAT IT READS IS OF BULK AT MOST 1048576: true; the input reads as it did. -/
def heapNoneUptoRow : OpenClaim := { program := "ytoccmiinkfhohaa", sum := "70b3bd7e2cd1bbb93bb32126becc2715e1136f502b95580ff91b412e3939a706", func := "lintel/lintellaw15.HeapNone", spec := "heapNone", unfollowed := true, recurses := true, plainKeys := false, apart := false, narrowed := true }
def HeapNoneUptoSaid : Prop := heapNoneUptoRow.holds Try.pinned (OpenSpec.upto heapNoneSpec)

/-- 'lintellaw20.IterateKeys', WHERE WHAT IT READS IS OF BULK AT MOST 1048576: true; the input reads as it did. -/
def iterateKeysUptoRow : OpenClaim := { program := "ytoccmiinkfhohaa", sum := "70b3bd7e2cd1bbb93bb32126becc2715e1136f502b95580ff91b412e3939a706", func := "lintel/lintellaw20.IterateKeys", spec := "iterateKeys", unfollowed := true, recurses := true, plainKeys := false, apart := false, narrowed := true }
def IterateKeysUptoSaid : Prop := iterateKeysUptoRow.holds Try.pinned (OpenSpec.upto iterateKeysSpec)

/-- 'lintellaw20.IterateOnce', WHERE WHAT IT READS IS OF BULK AT MOST 1048576: true; the input reads as it did. -/
def iterateOnceUptoRow : OpenClaim := { program := "ytoccmiinkfhohaa", sum := "70b3bd7e2cd1bbb93bb32126becc2715e1136f502b95580ff91b412e3939a706", func := "lintel/lintellaw20.IterateOnce", spec := "iterateOnce", unfollowed := true, recurses := true, plainKeys := false, apart := false, narrowed := true }
def IterateOnceUptoSaid : Prop := iterateOnceUptoRow.holds Try.pinned (OpenSpec.upto iterateOnceSpec)

end Rows
end Go.Proofs.Ytoccmiinkfhohaa
