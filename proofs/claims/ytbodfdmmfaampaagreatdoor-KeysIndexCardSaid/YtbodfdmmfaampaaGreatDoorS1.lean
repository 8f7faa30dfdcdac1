/-
  The row that the sort turns: what stands in it, what is left alone; the contract of slices.swapRangeCmpFunc.
-/
import Derived.Test.YtbodfdmmfaampaaGreatDoorO1
import Derived.Shelf.SlicesQ.Reverse
import Derived.Shelf.SlSortFuncK.RowK2
import Derived.Shelf.RegionOpenPlain
import Derived.BigRegion
namespace Go.Proofs.YtbodfdmmfaampaaGreatDoor
open Go.RowKit Go.Shelf Go.Lib Go.Sort Go.Proofs
set_option maxHeartbeats 400000
set_option maxRecDepth 100000

abbrev KK := ByteArray × Int
def encK (x : KK) : List Value := [.string x.1, .int .i64 x.2]
theorem encK_len (x : KK) : (encK x).length = 2 := rfl
theorem encK_one (x : KK) : ∀ v ∈ encK x, v.oneCell' = true := by
  intro v hv
  simp [encK] at hv
  rcases hv with rfl | rfl <;> rfl
/-- the row at block blk holds d -/
def RowK (w : World) (blk : Nat) (d : Array KK) : Prop := HoldsK encK 2 w blk 0 d ∧ blk < w.heap.size
/-- all but the row is as it was -/
structure Fr (blk : Nat) (w w' : World) : Prop where
  os : w'.os = w.os
  tape : w'.tape = w.tape
  output : w'.output = w.output
  size : w.heap.size ≤ w'.heap.size
  block : ∀ k, k < w.heap.size → k ≠ blk → w'.heap[k]? = w.heap[k]?
theorem Fr.refl (blk : Nat) (w : World) : Fr blk w w := ⟨rfl, rfl, rfl, Nat.le_refl _, fun _ _ _ => rfl⟩
theorem Fr.trans {blk : Nat} {a b c : World} (h : Fr blk a b) (k : Fr blk b c) : Fr blk a c :=
  ⟨k.os.trans h.os, k.tape.trans h.tape, k.output.trans h.output, Nat.le_trans h.size k.size, fun i hi hn => (k.block i (Nat.lt_of_lt_of_le hi h.size) hn).trans (h.block i hi hn)⟩
theorem Fr.below {blk : Nat} {w w' : World} (h : Below w.heap.size w w') : Fr blk w w' := ⟨h.os, h.tape, h.output, h.size, fun k hk _ => h.block k hk⟩
theorem RowK.keep {w w' : World} {blk : Nat} {d : Array KK} (h : RowK w blk d) (hb : Below w.heap.size w w') : RowK w' blk d := by
  refine ⟨fun j hj => ?_, Nat.lt_of_lt_of_le h.2 hb.size⟩
  have := h.1 j hj
  rw [← hb.cell (p := ⟨blk, 0 + j, none⟩) h.2, ← hb.frozen (p := ⟨blk, 0 + j, none⟩) h.2] at this
  exact this
theorem RowK.drewN {w : World} {blk : Nat} {d : Array KK} (h : RowK w blk d) (n : Nat) : RowK (w.drewN n) blk d := h
theorem swap_step {w : World} {blk : Nat} {d : Array KK} (h : RowK w blk d) (i j : Nat) (hi : i < d.size) (hj : j < d.size) :
    RowK ((w.drew.setCells blk (i * 2) (encK d[j]!)).setCells blk (j * 2) (encK d[i]!)) blk (swp d i j) ∧ Fr blk w ((w.drew.setCells blk (i * 2) (encK d[j]!)).setCells blk (j * 2) (encK d[i]!)) := by
  have e0 : putRowK encK 2 w blk 0 d = w := putRowK_self encK 2 w blk 0 d h.1
  have e1 := swap_worldK encK 2 encK_len w 0 1 blk 0 d i j hi hj
  rw [ahead_zero, e0, Nat.zero_add, Nat.zero_add] at e1
  have e2 : w.drew = w.drewN 1 := rfl
  rw [e2, e1]
  refine ⟨⟨holdsK_putRowK encK 2 _ blk 0 d _ (holdsK_ahead encK 2 w _ blk 0 d h.1) (by rw [size_swp]), ?_⟩, ?_, ?_, ?_, ?_, ?_⟩
  · rw [size_putRowK]; exact h.2
  · rfl
  · rfl
  · rfl
  · rw [size_putRowK]; exact Nat.le_refl _
  · intro k hk hne
    show ((w.heap.modify blk _)[k]?) = w.heap[k]?
    rw [Array.getElem?_modify, if_neg (fun h => hne h.symm)]
theorem cell_row {w : World} {blk : Nat} {d : Array KK} (h : RowK w blk d) (i : Nat) (hi : i < d.size) :
    w.cell? ⟨blk, i * 2, none⟩ = some (.string d[i]!.1) ∧ w.cell? ⟨blk, i * 2 + 1, none⟩ = some (.int .i64 d[i]!.2) ∧ w.frozen? ⟨blk, i * 2, none⟩ = false ∧ w.frozen? ⟨blk, i * 2 + 1, none⟩ = false := by
  have h0 := h.1.cell hi (show 0 < 2 by omega)
  have h1 := h.1.cell hi (show 1 < 2 by omega)
  simp only [Nat.zero_add, Nat.add_zero] at h0 h1
  exact ⟨h0.1, h1.1, h0.2, h1.2⟩

/-- the world behind an exchange, as the walk leaves it -/
def swW (w : World) (blk i j : Nat) (x y : KK) : World :=
  ((((w.setCell ⟨blk, i * 2, none⟩ (.string x.1)).setCell ⟨blk, i * 2 + 1, none⟩ (.int .i64 x.2)).setCell ⟨blk, j * 2, none⟩ (.string y.1)).setCell ⟨blk, j * 2 + 1, none⟩ (.int .i64 y.2)).drew
theorem swap_done {w : World} {blk : Nat} {d : Array KK} (h : RowK w blk d) (i j : Nat) (hi : i < d.size) (hj : j < d.size) : RowK (swW w blk i j d[j]! d[i]!) blk (swp d i j) ∧ Fr blk w (swW w blk i j d[j]! d[i]!) := swap_step h i j hi hj

/-- m exchanges -/
def swapN (a b : Nat) : Nat → Array KK → Array KK
  | 0, d => d
  | i + 1, d => swp (swapN a b i d) (a + i) (b + i)
theorem swapN_size (a b i : Nat) (d : Array KK) : (swapN a b i d).size = d.size := by induction i with
  | zero => rfl
  | succ i ih => simp only [swapN]; rw [size_swp]; exact ih
theorem c_swapRange (f : Value) (blk cap a b m : Nat) (d : Array KK) (ha : a + m ≤ d.size) (hb : b + m ≤ d.size) (hab : a ≠ b) (hsz : d.size ≤ 1099511627776) (w : World) (h : RowK w blk d) :
    Calls Tryz.prog 69 #[.slice (some ⟨blk, 0, none⟩) d.size cap, .int .i64 (a : Int), .int .i64 (b : Int), .int .i64 (m : Int), f] w fun e w' => e = .returned (.tuple #[]) ∧ RowK w' blk (swapN a b m d) ∧ Fr blk w w' := by
  replace h := Lib.hid h
  go_enter Tryz.func69, Tryz.ntmps69
  go_wp2
  go_loopw [10] (fun i wr => ∃ k : Nat, k ≤ m ∧ i = .int .i64 (k : Int) ∧ RowK wr blk (swapN a b k d) ∧ Fr blk w wr) (fun i _ => m - (intOf i).toNat)
  case atStart => exact ⟨0, by omega, rfl, h.out, Fr.refl _ _⟩
  case round =>
    obtain ⟨k, hk, rfl, hrow, hfr⟩ := hrel
    rcases Nat.lt_or_ge k m with hlt | hge
    · have hsd := swapN_size a b k d
      obtain ⟨s1, s2⟩ := swap_done hrow (a + k) (b + k) (by omega) (by omega)
      obtain ⟨a1, a2, a3, a4⟩ := cell_row hrow (a + k) (by omega)
      obtain ⟨b1, b2, b3, b4⟩ := cell_row hrow (b + k) (by omega)
      have hne : ¬ (a + k) * 2 = (b + k) * 2 := by omega
      have hne1 : ¬ (a + k) * 2 = (b + k) * 2 + 1 := by omega
      have hne2 : ¬ (a + k) * 2 + 1 = (b + k) * 2 := by omega
      have g1 : IntKind.i64.wrap ((a : Int) + (k : Int)) = ((a + k : Nat) : Int) := by rw [IntKind.wrap_i64]; omega
      have g2 : IntKind.i64.wrap ((b : Int) + (k : Int)) = ((b + k : Nat) : Int) := by rw [IntKind.wrap_i64]; omega
      have hA : a + k < d.size := by omega
      have hB : b + k < d.size := by omega
      replace s1 := Lib.hid s1
      replace s2 := Lib.hid s2
      replace hrow := Lib.hid hrow
      have mixed : Tryz.prog.follows Departure.mixedOrders = true := by kernel_rfl
      generalize (swapN a b k d)[a + k]! = xa at *
      generalize (swapN a b k d)[b + k]! = xb at *
      go_wp2
      go_big_region_o
      all_goals go_wp2
      go_roundw
      case rel => exact ⟨k + 1, by omega, by go_num, s1.out, hfr.trans s2.out⟩
      case measure => simp [intOf]; omega
    · have hk2 : k = m := by omega
      subst hk2
      go_wp2
      go_end0
      exact ⟨rfl, hrow, hfr⟩
end Go.Proofs.YtbodfdmmfaampaaGreatDoor
