/-
  Contracts: The law's do (iterate): an operation of both heaps. A list of operations as an argument; the contract of the law's few (iterate). The laws' example (iterate): its heap, and what is told of it. The contract of the laws' awake (iterate). The laws' state (iterate); the heap after a list's first operations; a list's first elements. The walk of the law IterateKeys. How an argument that is a list of operations is read.
-/
import Derived.Test.YtoccmiinkfhohaaP19
import Derived.Test.YtoccmiinkfhohaaP18
import Derived.Test.YtoccmiinkfhohaaP14
import Derived.Test.YtoccmiinkfhohaaRows
import Derived.Deep.SlicePairs
import Derived.ProofKit
import Derived.OpenShut
import Derived.JoinedCond
import Derived.Carry
import Derived.Lib.SmallJoins
namespace Go.Proofs.Ytoccmiinkfhohaa
open Go.RowKit Go.Shelf Go.Lib Go.Sort Go.Proofs Go.Maps
set_option linter.unusedVariables false
set_option maxHeartbeats 4000000
set_option maxRecDepth 100000

/-- an operation -/
structure OQ where
  kd : Int
  o : Int
  n : Int
  k : KK
  fl : Int
instance : Inhabited OQ := ⟨⟨0, 0, 0, (⟨#[]⟩, 0), 0⟩⟩
def encQ (x : OQ) : List Value := [.int .i64 x.kd, .int .i64 x.o, .int .i64 x.n, .string x.k.1, .int .i64 x.k.2, .int .i64 x.fl]
def opW (x : OQ) : Value := .agg (encQ x).toArray
def flP (fl : Int) : PV := ⟨zeroVV, zeroVV, zeroVV, fl⟩
/-- what it makes of a heap -/
def opQ (lim : Int) (H : List OB) (x : OQ) : List OB :=
  if x.kd = 0 then makeH true H lim 0 x.o else if x.kd = 1 then putH H lim x.o (pk x.k) (flP x.fl) else if x.kd = 2 then updH H x.o (dropA (pk x.k)) else if x.kd = 3 then setH H x.o x.n else H
theorem opQ_op (lim : Int) (H : List OB) (x : OQ) : opQ lim H x = H ∨ ∃ y : OP, y.k = x.k ∧ opQ lim H x = opH lim H y := by
  unfold opQ opH
  split
  · exact .inr ⟨⟨0, x.o, 0, x.k, zeroPV⟩, rfl, rfl⟩
  · split
    · exact .inr ⟨⟨1, x.o, 0, x.k, flP x.fl⟩, rfl, rfl⟩
    · split
      · exact .inr ⟨⟨2, x.o, 0, x.k, zeroPV⟩, rfl, rfl⟩
      · split
        · exact .inr ⟨⟨3, x.o, x.n, x.k, zeroPV⟩, rfl, rfl⟩
        · exact .inl rfl
theorem opQ_used (lim : Int) (H : List OB) (x : OQ) : usedH (opQ lim H x) ≤ usedH H + 1 := by
  rcases opQ_op lim H x with h | ⟨y, _, h⟩
  · rw [h]; omega
  · rw [h]; exact op_used lim H y
theorem cells6 {y : World} {b : Nat} {t : TypeId} {x : OQ} (h : y.heap[b]? = some (.cells (encQ x).toArray t (0, 0))) :
    y.cell? ⟨b, 0, none⟩ = some (.int .i64 x.kd) ∧ y.cell? ⟨b, 1, none⟩ = some (.int .i64 x.o) ∧ y.cell? ⟨b, 2, none⟩ = some (.int .i64 x.n) ∧ y.cell? ⟨b, 3, none⟩ = some (.string x.k.1) ∧ y.cell? ⟨b, 4, none⟩ = some (.int .i64 x.k.2) ∧ y.cell? ⟨b, 5, none⟩ = some (.int .i64 x.fl) := by
  have hc : ∀ j u, (encQ x)[j]? = some u → y.cell? ⟨b, j, none⟩ = some u := fun j u hu => by rw [cell_of_row _ _ j _ _ _ h]; simpa using hu
  exact ⟨hc 0 _ rfl, hc 1 _ rfl, hc 2 _ rfl, hc 3 _ rfl, hc 4 _ rfl, hc 5 _ rfl⟩
section
variable {w : World} {hb rb B : Nat} {lim : Int} {H : List OB} {f f2 : Nat → Nat}
theorem c_do20_0 (h : Two w hb rb lim B H f f2) (hB1 : 128 ≤ B) (hB : B < 90000) (hu : usedH H ≤ 100000) (x : OQ) (hk : okK x.k) (hkd : x.kd = 0) :
    Calls Try.prog 32 #[ptrV hb, ptrV rb, opW x] w fun e w' => e = .returned (.tuple #[]) ∧ Done w w' hb rb lim (B + 2) (opQ lim H x) f f2 := by
  have hop : opQ lim H x = makeH true H lim 0 x.o := by unfold opQ; simp [hkd]
  rw [hop]
  clear hop
  obtain ⟨W1, hW1⟩ : ∃ W1, w.alloc (.cells (encQ x).toArray 70) = W1 := ⟨_, rfl⟩
  have hb1 : Below w.heap.size w W1 := by rw [← hW1]; exact (Below.refl _ w).alloc (Nat.le_refl _) _
  have d1 : W1.heap[w.heap.size]? = some (.cells (encQ x).toArray 70 (0, 0)) := by rw [← hW1]; exact heap_alloc_new w _
  have g5 := (cells6 d1).2.2.2.2.2
  obtain ⟨hbz, z0⟩ := zeroQ_set W1 (flP x.fl)
  have hth : (W1.alloc (.cells zeroQ 37)).there W1.heap.size 0 (encP (flP x.fl)).toArray.size := zeroQ_there W1
  obtain ⟨W2, hW2⟩ : ∃ W2, (W1.alloc (.cells zeroQ 37)).setCells W1.heap.size 0 (encP (flP x.fl)) = W2 := ⟨_, rfl⟩
  rw [hW2] at hbz z0
  have hb2 := hb1.trans (hbz.mono hb1.size)
  have d0 := (hbz.block _ (heapH_lt d1)).trans d1
  obtain ⟨e0, e1, e2, e3, e4, e5⟩ := cells6 d0
  obtain ⟨v0, v1, v2, v3, v4, v5, v6, v7, v8, v9, v10, v11, v12⟩ := cells13 z0
  have hi13 : (Try.prog.info? 37).map (·.size) = some (encP (flP x.fl)).toArray.size := infoProp
  have ho13 := all_oneCell_toArray (encP_one (flP x.fl))
  have hfr := Lib.hid (show f w.heap.size = 0 ∧ f2 w.heap.size = 0 ∧ w.heap.size < W2.heap.size from ⟨h.1 _ (Nat.le_refl _), h.2.1 _ (Nat.le_refl _), heapH_lt d0⟩)
  have hfz := Lib.hid (show f W1.heap.size = 0 ∧ f2 W1.heap.size = 0 ∧ W1.heap.size < W2.heap.size from ⟨h.1 _ hb1.size, h.2.1 _ hb1.size, heapH_lt z0⟩)
  have hT := h.below hb2
  have h0 := TwoK.refl W2 f f2
  have hfin := fun (y : World) (B' : Nat) (H' : List OB) (hB' : B' ≤ B + 2) (hd : Done W2 y hb rb lim B' H' f f2) => (hd.mono hB').from (TwoK.of_below f f2 hb2)
  have hP := t_HMake hT h0 hu 0 x.o
  have hR := fun (y : World) (hh : Half W2 y hb rb lim B H (makeH true H lim 0 x.o) f f2) => t_RMake 0 x.o hh hu
  generalize makeH true H lim 0 x.o = H' at *
  generalize makeN H lim 0 x.o = vE0 at *
  generalize makeE H lim 0 x.o = vE1 at *
  (try unfold ptrV at hP hR)
  (try unfold keyV at hP hR)
  (try unfold propV at hP hR)
  (try unfold encP at hP hR)
  replace hP := Lib.hid hP
  replace hR := Lib.hid hR
  unfold ptrV opW
  unfold flP encQ at *
  unfold zeroVV at *
  obtain ⟨kd, xo, xn, ⟨k0, kn⟩, fl⟩ := x
  dsimp only at *
  subst hkd
  replace hfin := Lib.hid hfin
  replace z0 := Lib.hid z0
  replace d0 := Lib.hid d0
  replace hW2 := Lib.hid hW2
  have tokD : True := trivial
  clear h hb1 d1 hb2 hbz hT h0 hk hB hB1 hu
  go_enter Try.func32, Try.ntmps32
  go_wp2_with (first | (clear tokD; refine wpList_store_mid rfl 37 (.tmp 6) (.tmp 9) rfl W1.heap.size 0 _ rfl rfl hth hi13 ho13 ?_; generalize hWx : World.setCells _ _ _ _ = Wx; obtain rfl : W2 = Wx := hW2.out.symm.trans hWx; clear hWx g5 hth hi13 ho13 hW1) | (go_at_call 19; go_loud (refine hP.out.mono ?_; rintro e y1 ⟨rfl, hH1⟩); have hc := hH1.cells hfr.out; rw [← hc 1] at e1; clear hc) | (go_at_call 45; refine (hR.out _ hH1).mono ?_; rintro e y2 ⟨rfl, hD1⟩))
  go_end0
  exact ⟨rfl, hfin.out _ _ _ (by omega) hD1⟩
theorem c_do20_1 (h : Two w hb rb lim B H f f2) (hB1 : 128 ≤ B) (hB : B < 90000) (hu : usedH H ≤ 100000) (x : OQ) (hk : okK x.k) (hkd : x.kd = 1) :
    Calls Try.prog 32 #[ptrV hb, ptrV rb, opW x] w fun e w' => e = .returned (.tuple #[]) ∧ Done w w' hb rb lim (B + 2) (opQ lim H x) f f2 := by
  have hop : opQ lim H x = putH H lim x.o (pk x.k) (flP x.fl) := by unfold opQ; simp [hkd]
  rw [hop]
  clear hop
  obtain ⟨W1, hW1⟩ : ∃ W1, w.alloc (.cells (encQ x).toArray 70) = W1 := ⟨_, rfl⟩
  have hb1 : Below w.heap.size w W1 := by rw [← hW1]; exact (Below.refl _ w).alloc (Nat.le_refl _) _
  have d1 : W1.heap[w.heap.size]? = some (.cells (encQ x).toArray 70 (0, 0)) := by rw [← hW1]; exact heap_alloc_new w _
  have g5 := (cells6 d1).2.2.2.2.2
  obtain ⟨hbz, z0⟩ := zeroQ_set W1 (flP x.fl)
  have hth : (W1.alloc (.cells zeroQ 37)).there W1.heap.size 0 (encP (flP x.fl)).toArray.size := zeroQ_there W1
  obtain ⟨W2, hW2⟩ : ∃ W2, (W1.alloc (.cells zeroQ 37)).setCells W1.heap.size 0 (encP (flP x.fl)) = W2 := ⟨_, rfl⟩
  rw [hW2] at hbz z0
  have hb2 := hb1.trans (hbz.mono hb1.size)
  have d0 := (hbz.block _ (heapH_lt d1)).trans d1
  obtain ⟨e0, e1, e2, e3, e4, e5⟩ := cells6 d0
  obtain ⟨v0, v1, v2, v3, v4, v5, v6, v7, v8, v9, v10, v11, v12⟩ := cells13 z0
  have hi13 : (Try.prog.info? 37).map (·.size) = some (encP (flP x.fl)).toArray.size := infoProp
  have ho13 := all_oneCell_toArray (encP_one (flP x.fl))
  have hfr := Lib.hid (show f w.heap.size = 0 ∧ f2 w.heap.size = 0 ∧ w.heap.size < W2.heap.size from ⟨h.1 _ (Nat.le_refl _), h.2.1 _ (Nat.le_refl _), heapH_lt d0⟩)
  have hfz := Lib.hid (show f W1.heap.size = 0 ∧ f2 W1.heap.size = 0 ∧ W1.heap.size < W2.heap.size from ⟨h.1 _ hb1.size, h.2.1 _ hb1.size, heapH_lt z0⟩)
  have hT := h.below hb2
  have h0 := TwoK.refl W2 f f2
  have hfin := fun (y : World) (B' : Nat) (H' : List OB) (hB' : B' ≤ B + 2) (hd : Done W2 y hb rb lim B' H' f f2) => (hd.mono hB').from (TwoK.of_below f f2 hb2)
  have hP := t_HPut hT h0 hB1 hB hu x.o x.k hk (flP x.fl)
  have hR := fun (y : World) (hh : Half W2 y hb rb lim (B + 2) H (putH H lim x.o (pk x.k) (flP x.fl)) f f2) => t_RPut x.o x.k hk (flP x.fl) hh hu
  generalize putH H lim x.o (pk x.k) (flP x.fl) = H' at *
  generalize putE H lim x.o (pk x.k) (flP x.fl) = vE0 at *
  (try unfold ptrV at hP hR)
  (try unfold keyV at hP hR)
  (try unfold propV at hP hR)
  (try unfold encP at hP hR)
  replace hP := Lib.hid hP
  replace hR := Lib.hid hR
  unfold ptrV opW
  unfold flP encQ at *
  unfold zeroVV at *
  obtain ⟨kd, xo, xn, ⟨k0, kn⟩, fl⟩ := x
  dsimp only at *
  subst hkd
  replace hfin := Lib.hid hfin
  replace z0 := Lib.hid z0
  replace d0 := Lib.hid d0
  replace hW2 := Lib.hid hW2
  have tokD : True := trivial
  clear h hb1 d1 hb2 hbz hT h0 hk hB hB1 hu
  go_enter Try.func32, Try.ntmps32
  go_wp2_with (first | (clear tokD; refine wpList_store_mid rfl 37 (.tmp 6) (.tmp 9) rfl W1.heap.size 0 _ rfl rfl hth hi13 ho13 ?_; generalize hWx : World.setCells _ _ _ _ = Wx; obtain rfl : W2 = Wx := hW2.out.symm.trans hWx; clear hWx g5 hth hi13 ho13 hW1) | (go_at_call 27; go_loud (refine hP.out.mono ?_; rintro e y1 ⟨rfl, hH1⟩); have hc := hH1.cells hfr.out; rw [← hc 1] at e1; rw [← hc 3] at e3; rw [← hc 4] at e4; clear hc; have hz := hH1.cells hfz.out; rw [← hz 0] at v0; rw [← hz 1] at v1; rw [← hz 2] at v2; rw [← hz 3] at v3; rw [← hz 4] at v4; rw [← hz 5] at v5; rw [← hz 6] at v6; rw [← hz 7] at v7; rw [← hz 8] at v8; rw [← hz 9] at v9; rw [← hz 10] at v10; rw [← hz 11] at v11; rw [← hz 12] at v12; clear hz) | (go_at_call 46; refine (hR.out _ hH1).mono ?_; rintro e y2 ⟨rfl, hD1⟩))
  go_end0
  exact ⟨rfl, hfin.out _ _ _ (by omega) hD1⟩
theorem c_do20_2 (h : Two w hb rb lim B H f f2) (hB1 : 128 ≤ B) (hB : B < 90000) (hu : usedH H ≤ 100000) (x : OQ) (hk : okK x.k) (hkd : x.kd = 2) :
    Calls Try.prog 32 #[ptrV hb, ptrV rb, opW x] w fun e w' => e = .returned (.tuple #[]) ∧ Done w w' hb rb lim (B + 2) (opQ lim H x) f f2 := by
  have hop : opQ lim H x = updH H x.o (dropA (pk x.k)) := by unfold opQ; simp [hkd]
  rw [hop]
  clear hop
  obtain ⟨W1, hW1⟩ : ∃ W1, w.alloc (.cells (encQ x).toArray 70) = W1 := ⟨_, rfl⟩
  have hb1 : Below w.heap.size w W1 := by rw [← hW1]; exact (Below.refl _ w).alloc (Nat.le_refl _) _
  have d1 : W1.heap[w.heap.size]? = some (.cells (encQ x).toArray 70 (0, 0)) := by rw [← hW1]; exact heap_alloc_new w _
  have g5 := (cells6 d1).2.2.2.2.2
  obtain ⟨hbz, z0⟩ := zeroQ_set W1 (flP x.fl)
  have hth : (W1.alloc (.cells zeroQ 37)).there W1.heap.size 0 (encP (flP x.fl)).toArray.size := zeroQ_there W1
  obtain ⟨W2, hW2⟩ : ∃ W2, (W1.alloc (.cells zeroQ 37)).setCells W1.heap.size 0 (encP (flP x.fl)) = W2 := ⟨_, rfl⟩
  rw [hW2] at hbz z0
  have hb2 := hb1.trans (hbz.mono hb1.size)
  have d0 := (hbz.block _ (heapH_lt d1)).trans d1
  obtain ⟨e0, e1, e2, e3, e4, e5⟩ := cells6 d0
  obtain ⟨v0, v1, v2, v3, v4, v5, v6, v7, v8, v9, v10, v11, v12⟩ := cells13 z0
  have hi13 : (Try.prog.info? 37).map (·.size) = some (encP (flP x.fl)).toArray.size := infoProp
  have ho13 := all_oneCell_toArray (encP_one (flP x.fl))
  have hfr := Lib.hid (show f w.heap.size = 0 ∧ f2 w.heap.size = 0 ∧ w.heap.size < W2.heap.size from ⟨h.1 _ (Nat.le_refl _), h.2.1 _ (Nat.le_refl _), heapH_lt d0⟩)
  have hfz := Lib.hid (show f W1.heap.size = 0 ∧ f2 W1.heap.size = 0 ∧ W1.heap.size < W2.heap.size from ⟨h.1 _ hb1.size, h.2.1 _ hb1.size, heapH_lt z0⟩)
  have hT := h.below hb2
  have h0 := TwoK.refl W2 f f2
  have hfin := fun (y : World) (B' : Nat) (H' : List OB) (hB' : B' ≤ B + 2) (hd : Done W2 y hb rb lim B' H' f f2) => (hd.mono hB').from (TwoK.of_below f f2 hb2)
  have hP := t_HDrop hT h0 hB1 (by omega) hu x.o x.k hk
  have hR := fun (y : World) (hh : Half W2 y hb rb lim B H (updH H x.o (dropA (pk x.k))) f f2) => t_RDrop x.o x.k hk hh hu
  generalize updH H x.o (dropA (pk x.k)) = H' at *
  generalize dropB H x.o (pk x.k) = vE0 at *
  (try unfold ptrV at hP hR)
  (try unfold keyV at hP hR)
  (try unfold propV at hP hR)
  (try unfold encP at hP hR)
  replace hP := Lib.hid hP
  replace hR := Lib.hid hR
  unfold ptrV opW
  unfold flP encQ at *
  unfold zeroVV at *
  obtain ⟨kd, xo, xn, ⟨k0, kn⟩, fl⟩ := x
  dsimp only at *
  subst hkd
  replace hfin := Lib.hid hfin
  replace z0 := Lib.hid z0
  replace d0 := Lib.hid d0
  replace hW2 := Lib.hid hW2
  have tokD : True := trivial
  clear h hb1 d1 hb2 hbz hT h0 hk hB hB1 hu
  go_enter Try.func32, Try.ntmps32
  go_wp2_with (first | (clear tokD; refine wpList_store_mid rfl 37 (.tmp 6) (.tmp 9) rfl W1.heap.size 0 _ rfl rfl hth hi13 ho13 ?_; generalize hWx : World.setCells _ _ _ _ = Wx; obtain rfl : W2 = Wx := hW2.out.symm.trans hWx; clear hWx g5 hth hi13 ho13 hW1) | (go_at_call 28; go_loud (refine hP.out.mono ?_; rintro e y1 ⟨rfl, hH1⟩); have hc := hH1.cells hfr.out; rw [← hc 1] at e1; rw [← hc 3] at e3; rw [← hc 4] at e4; clear hc) | (go_at_call 47; refine (hR.out _ hH1).mono ?_; rintro e y2 ⟨rfl, hD1⟩))
  go_end0
  exact ⟨rfl, hfin.out _ _ _ (by omega) hD1⟩
theorem c_do20_3 (h : Two w hb rb lim B H f f2) (hB1 : 128 ≤ B) (hB : B < 90000) (hu : usedH H ≤ 100000) (x : OQ) (hk : okK x.k) (hkd : x.kd = 3) :
    Calls Try.prog 32 #[ptrV hb, ptrV rb, opW x] w fun e w' => e = .returned (.tuple #[]) ∧ Done w w' hb rb lim (B + 2) (opQ lim H x) f f2 := by
  have hop : opQ lim H x = setH H x.o x.n := by unfold opQ; simp [hkd]
  rw [hop]
  clear hop
  obtain ⟨W1, hW1⟩ : ∃ W1, w.alloc (.cells (encQ x).toArray 70) = W1 := ⟨_, rfl⟩
  have hb1 : Below w.heap.size w W1 := by rw [← hW1]; exact (Below.refl _ w).alloc (Nat.le_refl _) _
  have d1 : W1.heap[w.heap.size]? = some (.cells (encQ x).toArray 70 (0, 0)) := by rw [← hW1]; exact heap_alloc_new w _
  have g5 := (cells6 d1).2.2.2.2.2
  obtain ⟨hbz, z0⟩ := zeroQ_set W1 (flP x.fl)
  have hth : (W1.alloc (.cells zeroQ 37)).there W1.heap.size 0 (encP (flP x.fl)).toArray.size := zeroQ_there W1
  obtain ⟨W2, hW2⟩ : ∃ W2, (W1.alloc (.cells zeroQ 37)).setCells W1.heap.size 0 (encP (flP x.fl)) = W2 := ⟨_, rfl⟩
  rw [hW2] at hbz z0
  have hb2 := hb1.trans (hbz.mono hb1.size)
  have d0 := (hbz.block _ (heapH_lt d1)).trans d1
  obtain ⟨e0, e1, e2, e3, e4, e5⟩ := cells6 d0
  obtain ⟨v0, v1, v2, v3, v4, v5, v6, v7, v8, v9, v10, v11, v12⟩ := cells13 z0
  have hi13 : (Try.prog.info? 37).map (·.size) = some (encP (flP x.fl)).toArray.size := infoProp
  have ho13 := all_oneCell_toArray (encP_one (flP x.fl))
  have hfr := Lib.hid (show f w.heap.size = 0 ∧ f2 w.heap.size = 0 ∧ w.heap.size < W2.heap.size from ⟨h.1 _ (Nat.le_refl _), h.2.1 _ (Nat.le_refl _), heapH_lt d0⟩)
  have hfz := Lib.hid (show f W1.heap.size = 0 ∧ f2 W1.heap.size = 0 ∧ W1.heap.size < W2.heap.size from ⟨h.1 _ hb1.size, h.2.1 _ hb1.size, heapH_lt z0⟩)
  have hT := h.below hb2
  have h0 := TwoK.refl W2 f f2
  have hfin := fun (y : World) (B' : Nat) (H' : List OB) (hB' : B' ≤ B + 2) (hd : Done W2 y hb rb lim B' H' f f2) => (hd.mono hB').from (TwoK.of_below f f2 hb2)
  have hP := t_HSetProto hT h0 x.o x.n
  have hR := fun (y : World) (hh : Half W2 y hb rb lim B H (setH H x.o x.n) f f2) => t_RSetProto x.o x.n hh
  generalize setH H x.o x.n = H' at *
  generalize setE H x.o x.n = vE0 at *
  (try unfold ptrV at hP hR)
  (try unfold keyV at hP hR)
  (try unfold propV at hP hR)
  (try unfold encP at hP hR)
  replace hP := Lib.hid hP
  replace hR := Lib.hid hR
  unfold ptrV opW
  unfold flP encQ at *
  unfold zeroVV at *
  obtain ⟨kd, xo, xn, ⟨k0, kn⟩, fl⟩ := x
  dsimp only at *
  subst hkd
  replace hfin := Lib.hid hfin
  replace z0 := Lib.hid z0
  replace d0 := Lib.hid d0
  replace hW2 := Lib.hid hW2
  have tokD : True := trivial
  clear h hb1 d1 hb2 hbz hT h0 hk hB hB1 hu
  go_enter Try.func32, Try.ntmps32
  go_wp2_with (first | (clear tokD; refine wpList_store_mid rfl 37 (.tmp 6) (.tmp 9) rfl W1.heap.size 0 _ rfl rfl hth hi13 ho13 ?_; generalize hWx : World.setCells _ _ _ _ = Wx; obtain rfl : W2 = Wx := hW2.out.symm.trans hWx; clear hWx g5 hth hi13 ho13 hW1) | (go_at_call 24; go_loud (refine hP.out.mono ?_; rintro e y1 ⟨rfl, hH1⟩); have hc := hH1.cells hfr.out; rw [← hc 1] at e1; rw [← hc 2] at e2; clear hc) | (go_at_call 48; refine (hR.out _ hH1).mono ?_; rintro e y2 ⟨rfl, hD1⟩))
  go_end0
  exact ⟨rfl, hfin.out _ _ _ (by omega) hD1⟩
theorem c_do20_4 (h : Two w hb rb lim B H f f2) (hB1 : 128 ≤ B) (hB : B < 90000) (hu : usedH H ≤ 100000) (x : OQ) (hk : okK x.k) (hkd : x.kd ≠ 0 ∧ x.kd ≠ 1 ∧ x.kd ≠ 2 ∧ x.kd ≠ 3) :
    Calls Try.prog 32 #[ptrV hb, ptrV rb, opW x] w fun e w' => e = .returned (.tuple #[]) ∧ Done w w' hb rb lim (B + 2) (opQ lim H x) f f2 := by
  have hop : opQ lim H x = H := by unfold opQ; rw [if_neg hkd.1, if_neg hkd.2.1, if_neg hkd.2.2.1, if_neg hkd.2.2.2]
  rw [hop]
  clear hop
  obtain ⟨W1, hW1⟩ : ∃ W1, w.alloc (.cells (encQ x).toArray 70) = W1 := ⟨_, rfl⟩
  have hb1 : Below w.heap.size w W1 := by rw [← hW1]; exact (Below.refl _ w).alloc (Nat.le_refl _) _
  have d1 : W1.heap[w.heap.size]? = some (.cells (encQ x).toArray 70 (0, 0)) := by rw [← hW1]; exact heap_alloc_new w _
  have g5 := (cells6 d1).2.2.2.2.2
  obtain ⟨hbz, z0⟩ := zeroQ_set W1 (flP x.fl)
  have hth : (W1.alloc (.cells zeroQ 37)).there W1.heap.size 0 (encP (flP x.fl)).toArray.size := zeroQ_there W1
  obtain ⟨W2, hW2⟩ : ∃ W2, (W1.alloc (.cells zeroQ 37)).setCells W1.heap.size 0 (encP (flP x.fl)) = W2 := ⟨_, rfl⟩
  rw [hW2] at hbz z0
  have hb2 := hb1.trans (hbz.mono hb1.size)
  have d0 := (hbz.block _ (heapH_lt d1)).trans d1
  obtain ⟨e0, e1, e2, e3, e4, e5⟩ := cells6 d0
  obtain ⟨v0, v1, v2, v3, v4, v5, v6, v7, v8, v9, v10, v11, v12⟩ := cells13 z0
  have hi13 : (Try.prog.info? 37).map (·.size) = some (encP (flP x.fl)).toArray.size := infoProp
  have ho13 := all_oneCell_toArray (encP_one (flP x.fl))
  have hfr := Lib.hid (show f w.heap.size = 0 ∧ f2 w.heap.size = 0 ∧ w.heap.size < W2.heap.size from ⟨h.1 _ (Nat.le_refl _), h.2.1 _ (Nat.le_refl _), heapH_lt d0⟩)
  have hfz := Lib.hid (show f W1.heap.size = 0 ∧ f2 W1.heap.size = 0 ∧ W1.heap.size < W2.heap.size from ⟨h.1 _ hb1.size, h.2.1 _ hb1.size, heapH_lt z0⟩)
  have hT := h.below hb2
  have h0 := TwoK.refl W2 f f2
  have hfin := fun (y : World) (B' : Nat) (H' : List OB) (hB' : B' ≤ B + 2) (hd : Done W2 y hb rb lim B' H' f f2) => (hd.mono hB').from (TwoK.of_below f f2 hb2)
  have hD1 : Done W2 W2 hb rb lim B H f f2 := ⟨f, f2, hT, h0⟩
  replace hD1 := Lib.hid hD1
  unfold ptrV opW
  unfold flP encQ at *
  unfold zeroVV at *
  obtain ⟨kd, xo, xn, ⟨k0, kn⟩, fl⟩ := x
  dsimp only at *
  obtain ⟨k0', k1', k2', k3'⟩ := hkd
  replace hfin := Lib.hid hfin
  replace z0 := Lib.hid z0
  replace d0 := Lib.hid d0
  replace hW2 := Lib.hid hW2
  have tokD : True := trivial
  clear h hb1 d1 hb2 hbz hT h0 hk hB hB1 hu
  go_enter Try.func32, Try.ntmps32
  go_wp2_with (first | (clear tokD; refine wpList_store_mid rfl 37 (.tmp 6) (.tmp 9) rfl W1.heap.size 0 _ rfl rfl hth hi13 ho13 ?_; generalize hWx : World.setCells _ _ _ _ = Wx; obtain rfl : W2 = Wx := hW2.out.symm.trans hWx; clear hWx g5 hth hi13 ho13 hW1))
  go_end0
  exact ⟨rfl, hfin.out _ _ _ (by omega) hD1.out⟩
theorem c_do20 (h : Two w hb rb lim B H f f2) (hB1 : 128 ≤ B) (hB : B < 90000) (hu : usedH H ≤ 100000) (x : OQ) (hk : okK x.k) :
    Calls Try.prog 32 #[ptrV hb, ptrV rb, opW x] w fun e w' => e = .returned (.tuple #[]) ∧ Done w w' hb rb lim (B + 2) (opQ lim H x) f f2 := by
  by_cases h0 : x.kd = 0
  · exact c_do20_0 h hB1 hB hu x hk h0
  by_cases h1 : x.kd = 1
  · exact c_do20_1 h hB1 hB hu x hk h1
  by_cases h2 : x.kd = 2
  · exact c_do20_2 h hB1 hB hu x hk h2
  by_cases h3 : x.kd = 3
  · exact c_do20_3 h hB1 hB hu x hk h3
  exact c_do20_4 h hB1 hB hu x hk ⟨h0, h1, h2, h3⟩
end
end Go.Proofs.Ytoccmiinkfhohaa
namespace Go.Proofs.Ytoccmiinkfhohaa
open Go.RowKit Go.Shelf Go.Lib Go.Sort Go.Proofs Go.Maps
set_option linter.unusedVariables false
set_option maxHeartbeats 4000000
set_option maxRecDepth 100000

theorem encQ_one (x : OQ) : ∀ u ∈ encQ x, u.oneCell' = true := by simp [encQ, Value.oneCell']
theorem infoOq : (Try.prog.info? 70).map (·.size) = some 6 := by kernel_rfl
/-- v reads as the list l -/
def RdQ (w : World) (v : Value) (l : List OQ) : Prop :=
  (v = .slice none 0 0 ∧ l = []) ∨ ∃ p c, v = .slice (some p) l.length c ∧ l.length ≤ c ∧ ∀ k x, l[k]? = some x → p.spot = none ∧ w.rangeAt p.block (p.off + k * 6) (encQ x)
theorem RdQ.form {w : World} {v : Value} {l : List OQ} (h : RdQ w v l) : ∃ p c, v = .slice p l.length c ∧ l.length ≤ c ∧
    ∀ k x, l[k]? = some x → ∃ b o, p = some ⟨b, o, none⟩ ∧ b < w.heap.size ∧ ∀ y, Below w.heap.size w y → y.rangeAt b (o + k * 6) (encQ x) := by
  rcases h with ⟨rfl, rfl⟩ | ⟨p, c, rfl, hl, hc⟩
  · exact ⟨none, 0, rfl, Nat.le_refl _, fun k x hx => by simp at hx⟩
  · refine ⟨some p, c, rfl, hl, fun k x hx => ?_⟩
    obtain ⟨h1, h2⟩ := hc k x hx
    obtain ⟨b, o, sp⟩ := p
    dsimp only at *
    subst h1
    have hlt : b < w.heap.size := cell_lt (h2 0 _ rfl)
    exact ⟨b, o, rfl, hlt, fun y hy => range_at h2 (hy.block b hlt)⟩
def fewT (x : OQ) : Nat := x.k.1.size / 20
def fewQ (l : List OQ) (k : Nat) : Nat := l.length + ((l.take k).map fewT).sum
theorem fewQ_next {l : List OQ} {k : Nat} {x : OQ} (h : l[k]? = some x) : fewQ l (k + 1) = fewQ l k + fewT x := by
  unfold fewQ
  have hlt : k < l.length := (List.getElem?_eq_some_iff.1 h).1
  rw [List.take_succ_eq_append_getElem hlt, List.map_append, List.sum_append]
  have : l[k] = x := (List.getElem?_eq_some_iff.1 h).2
  simp [this]
  omega
theorem fewQ_mono (l : List OQ) {j k : Nat} (h : j ≤ k) : fewQ l j ≤ fewQ l k := by
  unfold fewQ
  obtain ⟨d, rfl⟩ := Nat.exists_eq_add_of_le h
  rw [List.take_add, List.map_append, List.sum_append]
  omega
def zeroOq : Array Value := #[.int .i64 0, .int .i64 0, .int .i64 0, .string ⟨#[]⟩, .int .i64 0, .int .i64 0]
theorem zeroOq_there (w : World) : (w.alloc (.cells zeroOq 70)).there w.heap.size 0 6 := there_of (heap_alloc_new w _) (Nat.le_refl 6)
theorem fresh_cellsQ {w : World} (x : OQ) : Below w.heap.size w ((w.alloc (.cells zeroOq 70)).setCells w.heap.size 0 (encQ x)) ∧ ((w.alloc (.cells zeroOq 70)).setCells w.heap.size 0 (encQ x)).heap[w.heap.size]? = some (.cells (encQ x).toArray 70 (0, 0)) := by
  obtain ⟨h1, h2, _⟩ := fresh_set (w := w) (o := zeroOq) (t := 70) (vs := encQ x) rfl
  exact ⟨h1, h2⟩
theorem c_few20 (v : Value) (l : List OQ) (hs : fewQ l l.length ≤ 4194304) (hz : ∀ x ∈ l, x.k.1.size ≤ 4194304) (w : World) (h : RdQ w v l) :
    Calls Try.prog 31 #[v] w fun e w' => e = .returned (.bool (decide (fewQ l l.length ≤ 300))) ∧ Below w.heap.size w w' := by
  obtain ⟨p, c, rfl, hlc, hL⟩ := h.form
  have hlen : l.length ≤ 4194304 := Nat.le_trans (Nat.le_add_right _ _) hs
  have h00 : fewQ l 0 = l.length := by simp [fewQ]
  replace h00 := Lib.hid h00
  replace hL := Lib.hid hL
  replace hz := Lib.hid hz
  clear h
  go_enter Try.func31, Try.ntmps31
  go_wp2
  go_loopw [3, 10] (fun vn vi wr => ∃ i : Nat, i ≤ l.length ∧ vi = .int .i64 (i : Int) ∧ vn = .int .i64 (fewQ l i : Int) ∧ Below w.heap.size w wr) (fun _ vi _ => l.length - (intOf vi).toNat)
  case atStart => exact ⟨0, by omega, rfl, by rw [h00.out], Below.refl _ _⟩
  case round =>
    obtain ⟨i, hi, rfl, rfl, hbel⟩ := hrel
    rcases Nat.lt_or_ge i l.length with hlt | hge
    · obtain ⟨x, hx⟩ : ∃ x, l[i]? = some x := ⟨_, List.getElem?_eq_getElem hlt⟩
      obtain ⟨b, o, rfl, lb, hrg⟩ := hL.out i x hx
      replace hrg := hrg wr hbel
      have hi6 : (Try.prog.info? 70).map (·.size) = some (encQ x).length := infoOq
      have hj6 : (Try.prog.info? 70).map (·.size) = some (encQ x).toArray.size := infoOq
      have ho6 := all_oneCell_toArray (encQ_one x)
      have q1 : (0 : Int) ≤ (i : Int) := by omega
      have q2 : (i : Int) < (l.length : Int) := by omega
      obtain ⟨hfb, hfh⟩ := fresh_cellsQ (w := wr) x
      have hth : (wr.alloc (.cells zeroOq 70)).there wr.heap.size 0 (encQ x).toArray.size := zeroOq_there wr
      have hx1 := hz.out x (List.mem_of_getElem? hx)
      have hnx := fewQ_next hx
      have hmo := fewQ_mono l (j := i + 1) (k := l.length) hlt
      have e3 : ((wr.alloc (.cells zeroOq 70)).setCells wr.heap.size 0 (encQ x)).cell? ⟨wr.heap.size, 3, none⟩ = some (.string x.k.1) := by rw [cell_of_row _ _ 3 _ _ _ hfh]; rfl
      unfold fewT at hnx
      have hd : (x.k.1.size : Int) / 20 = ((x.k.1.size / 20 : Nat) : Int) := by omega
      have hw2 : IntKind.i64.wrap ((fewQ l i : Int) + ((x.k.1.size / 20 : Nat) : Int)) = (fewQ l (i + 1) : Int) := by rw [IntKind.wrap_i64]; omega
      have hfin : (fewQ l i : Int) + ((x.k.1.size / 20 : Nat) : Int) = (fewQ l (i + 1) : Int) := by omega
      replace hfb := Lib.hid hfb
      replace hbel := Lib.hid hbel
      replace hfin := Lib.hid (show wrap64 ((fewQ l i : Int) + (x.k.1.size : Int) / 20) = (fewQ l (i + 1) : Int) by rw [hd, hfin]; unfold wrap64; omega)
      clear hx hfh hnx hmo hw2 hd
      generalize encQ x = E at *
      have tokA : True := trivial
      have tokB : True := trivial
      go_wp2_with (first | (clear tokA; refine wpList_load_mid rfl 70 (.tmp 12) rfl b (o + i * 6) rfl E _ hrg Try.underlying70 rfl hi6 ?_) | (clear tokB; refine wpList_store_mid rfl 70 (.tmp 5) (.tmp 13) rfl wr.heap.size 0 E.toArray rfl rfl hth hj6 ho6 ?_; generalize hW4 : World.setCells _ _ _ _ = W4; rw [show (wr.alloc (.cells zeroOq 70)).setCells wr.heap.size 0 E = W4 from hW4] at hfb e3; clear hW4 hth hrg))
      refine ⟨⟨i + 1, by omega, by go_num, ?_, hbel.out.trans (hfb.out.mono hbel.out.size)⟩, by simp [intOf]; omega⟩
      rw [hfin.out]
    · obtain rfl : i = l.length := by omega
      clear hi hge
      go_wp2
      go_ret
      exact ⟨ret_bool (by rw [Bool.eq_iff_iff]; simp; omega), hbel⟩
end Go.Proofs.Ytoccmiinkfhohaa
namespace Go.Proofs.Ytoccmiinkfhohaa
open Go.RowKit Go.Shelf Go.Lib Go.Sort Go.Proofs Go.Maps
set_option linter.unusedVariables false
set_option maxHeartbeats 4000000
set_option maxRecDepth 100000

def kc : KK := (tx [99], 0)
def ka : KK := (tx [97], 0)
def p5 : PV := ⟨zeroVV, zeroVV, zeroVV, 5⟩
def ai1 : List OB := makeH true [] 50 0 0
def ai2 : List OB := makeH true ai1 50 0 1
def ai3 : List OB := putH ai2 50 1 (pk kb) p7
def ai4 : List OB := putH ai3 50 1 (pk kc) p7
def ai5 : List OB := putH ai4 50 2 (pk k2) p7
def ai6 : List OB := putH ai5 50 2 (pk kb) p5
def ai7 : List OB := putH ai6 50 2 (pk ka) p7
theorem kc_ok : okK kc := by unfold okK; exact ⟨by decide +kernel, by decide +kernel⟩
theorem ka_ok : okK ka := by unfold okK; exact ⟨by decide +kernel, by decide +kernel⟩
theorem ai_u0 : usedH ([] : List OB) ≤ 100000 := by decide +kernel
theorem ai_u1 : usedH ai1 ≤ 100000 := by decide +kernel
theorem ai_u2 : usedH ai2 ≤ 100000 := by decide +kernel
theorem ai_u3 : usedH ai3 ≤ 100000 := by decide +kernel
theorem ai_u4 : usedH ai4 ≤ 100000 := by decide +kernel
theorem ai_u5 : usedH ai5 ≤ 100000 := by decide +kernel
theorem ai_u6 : usedH ai6 ≤ 100000 := by decide +kernel
theorem ai_u7 : usedH ai7 ≤ 100000 := by decide +kernel
theorem ai_gk2 : gk (listH ai7 2) = [pk k2, pk kb, pk ka] := by decide +kernel
theorem ai_gk1 : gk (listH ai7 1) = [pk kb, pk kc] := by decide +kernel
theorem ai_gk0 : gk (listH ai7 0) = [] := by decide +kernel
theorem rkc : rk kc = 4294967296 := by decide +kernel
theorem rka : rk ka = 4294967296 := by decide +kernel
theorem ai_ko2 : KeysOf [pk k2, pk kb, pk ka] [k2, kb, ka] := by
  refine ⟨[k2, kb, ka], rfl, by simp [Srt, rkb, rk2, rka], Eqv.refl _, ?_⟩
  intro x hx
  simp at hx
  rcases hx with rfl | rfl | rfl
  · exact k2_ok
  · exact kb_ok
  · exact ka_ok
theorem ai_ko1 : KeysOf [pk kb, pk kc] [kb, kc] := by
  refine ⟨[kb, kc], rfl, by simp [Srt, rkb, rkc], Eqv.refl _, ?_⟩
  intro x hx
  simp at hx
  rcases hx with rfl | rfl
  · exact kb_ok
  · exact kc_ok
theorem ai_k2 : keysH ai7 2 = [pk k2, pk kb, pk ka] := by
  unfold keysH
  rw [ai_gk2]
  exact (ordK_eq ai_ko2).symm
theorem ai_k1 : keysH ai7 1 = [pk kb, pk kc] := by
  unfold keysH
  rw [ai_gk1]
  exact (ordK_eq ai_ko1).symm
theorem ai_k0 : keysH ai7 0 = [] := by
  unfold keysH
  rw [ai_gk0]
  exact (ordK_eq KeysOf.nil).symm
theorem ai_own : ownF ai7 2 = [pk k2, pk ka] := by
  unfold ownF
  rw [ai_k2]
  decide +kernel
theorem ai_all : allF ai7 999 2 [] = [pk k2, pk ka, pk kc] := by
  have h1 : proZ ai7 2 = 1 := by decide +kernel
  have h2 : proZ ai7 1 = 0 := by decide +kernel
  have h3 : hasH ai7 2 = true := by decide +kernel
  have h4 : hasH ai7 1 = true := by decide +kernel
  have h5 : hasH ai7 0 = false := by decide +kernel
  have f2 : List.filter (toldB ai7 2 []) [pk k2, pk kb, pk ka] = [pk k2, pk ka] := by decide +kernel
  have f1 : List.filter (toldB ai7 1 ([] ++ [pk k2, pk kb, pk ka])) [pk kb, pk kc] = [pk kc] := by decide +kernel
  rw [show 999 = 998 + 1 from rfl, allF, ai_k2, f2, h3, if_pos rfl, h1, show 998 = 997 + 1 from rfl, allF, ai_k1, f1, h4, if_pos rfl, h2, show 997 = 996 + 1 from rfl, allF, ai_k0, h5]
  rfl
/-- the heap of the example; K: blocks that are not its -/
def AwJ (w0 : World) (hb : Nat) (K : Nat → Obj → Prop) (B : Nat) (H : List OB) (w : World) : Prop := ∃ f, Norm f w ∧ HeapO w f hb 50 (usedH H) B H ∧ Below w0.heap.size w0 w ∧ (∀ r, r < w0.heap.size → f r = 0) ∧ ∀ b o, K b o → w.heap[b]? = some o ∧ f b = 0
section
variable {w0 w w' : World} {hb B : Nat} {K : Nat → Obj → Prop} {H : List OB}
theorem AwJ.keep (h : AwJ w0 hb K B H w) (hb' : Below w.heap.size w w') : AwJ w0 hb K B H w' := by
  obtain ⟨f, h1, h2, h3, h4, h5⟩ := h
  exact ⟨f, fun r hr => h1 r (Nat.le_trans hb'.size hr), h2.below h1 hb', h3.trans (hb'.mono h3.size), h4, fun b o hK => ⟨(hb'.block b (heapH_lt (h5 b o hK).1)).trans (h5 b o hK).1, (h5 b o hK).2⟩⟩
theorem AwJ.step {B' : Nat} {H' : List OB} {f : Nat → Nat} (h3 : Below w0.heap.size w0 w) (h4 : ∀ r, r < w0.heap.size → f r = 0) (h5 : ∀ b o, K b o → w.heap[b]? = some o ∧ f b = 0) (ht : HeapT w f hb 50 (usedH H') B' H' w') : AwJ w0 hb K B' H' w' := by
  obtain ⟨f', t1, t2⟩ := ht
  refine ⟨f', t1.norm, t2, h3.trans (t1.below h3.size fun r hr h => h.2 (h4 r hr)), fun r hr => ?_, fun b o hK => ?_⟩
  · rw [t1.agree r (Nat.lt_of_lt_of_le hr h3.size)]
    exact h4 r hr
  · obtain ⟨g1, g2⟩ := h5 b o hK
    exact ⟨(t1.block b (heapH_lt g1) (fun h => h.2 g2)).trans g1, by rw [t1.agree b (heapH_lt g1)]; exact g2⟩
theorem AwJ.watch {c : Nat} {ob : Obj} (h : AwJ w0 hb (fun _ _ => False) B H w) (hb' : Below w.heap.size w w') (hc : w.heap.size ≤ c) (ho : w'.heap[c]? = some ob) : AwJ w0 hb (fun b o => b = c ∧ o = ob) B H w' := by
  obtain ⟨f, h1, h2, h3, h4, h5⟩ := h
  refine ⟨f, fun r hr => h1 r (Nat.le_trans hb'.size hr), h2.below h1 hb', h3.trans (hb'.mono h3.size), h4, ?_⟩
  rintro b o ⟨rfl, rfl⟩
  exact ⟨ho, h1 _ hc⟩
theorem AwJ.base (h : AwJ w0 hb K B H w) : Below w0.heap.size w0 w := by
  obtain ⟨f, h1, h2, h3, _⟩ := h
  exact h3
theorem AwJ.held {c : Nat} {ob : Obj} (h : AwJ w0 hb K B H w) (hK : K c ob) : w.heap[c]? = some ob := by
  obtain ⟨f, h1, h2, h3, h4, h5⟩ := h
  exact (h5 c ob hK).1
theorem AwJ.cells {c : Nat} {ob : Obj} {W y : World} (hW : W.heap[c]? = some ob) (h : AwJ w0 hb (fun b o => b = c ∧ o = ob) B H y) : ∀ i : Nat, y.cell? ⟨c, i, none⟩ = W.cell? ⟨c, i, none⟩ :=
  fun i => World.cell?_of_block (w := W) (a := ⟨c, i, none⟩) ((h.held ⟨rfl, rfl⟩).trans hW.symm)
theorem AwJ.ein (h : AwJ w0 hb K B H w) : Ein.LawS w0 w hb 0 50 B H := by
  obtain ⟨f, h1, h2, h3, h4, h5⟩ := h
  exact ⟨f, fun _ => 0, ⟨h1, fun _ _ => rfl, h2, trivial, fun r hr => absurd rfl hr⟩, h3, fun r hr => ⟨h4 r hr, rfl⟩⟩
theorem aj_new (w : World) : Calls Try.prog 10 #[.int .i64 50] w fun e w' => ∃ hb, e = .returned (.pointer (some ⟨hb, 0, none⟩)) ∧ AwJ w hb (fun _ _ => False) 128 [] w' := by
  refine (c_Hnew (f := fun _ => 0) (fun _ _ => rfl) 50).mono ?_
  rintro e w' ⟨hb, f', rfl, t1, t2⟩
  exact ⟨hb, rfl, f', t1.norm, t2, t1.below (Nat.le_refl _) (fun _ _ h => h), fun r hr => t1.agree r hr, fun _ _ h => h.elim⟩
theorem aj_make (h : AwJ w0 hb K B H w) (hu : usedH H ≤ 100000) (c p : Int) : Calls Try.prog 19 #[.pointer (some ⟨hb, 0, none⟩), .int .i64 c, .int .i64 p] w fun e w' => e = .returned (.tuple #[.int .i64 (makeN H 50 c p), .int .i64 (makeE H 50 c p)]) ∧ AwJ w0 hb K B (makeH true H 50 c p) w' := by
  obtain ⟨f, h1, h2, h3, h4, h5⟩ := h
  refine (c_HMake h1 h2 hu c p).mono ?_
  rintro e w' ⟨rfl, ht⟩
  exact ⟨rfl, AwJ.step h3 h4 h5 ht⟩
theorem aj_put (h : AwJ w0 hb K B H w) (hB1 : 128 ≤ B) (hB : B < 90000) (hu : usedH H ≤ 100000) (o : Int) (k : KK) (hk : okK k) (p : PV) : Calls Try.prog 27 #[.pointer (some ⟨hb, 0, none⟩), .int .i64 o, keyV k.1 k.2, propV p] w fun e w' => e = .returned (.int .i64 (putE H 50 o (pk k) p)) ∧ AwJ w0 hb K (B + 2) (putH H 50 o (pk k) p) w' := by
  obtain ⟨f, h1, h2, h3, h4, h5⟩ := h
  refine (c_HPut h1 h2 hB1 hB hu o k hk p).mono ?_
  rintro e w' ⟨rfl, ht⟩
  exact ⟨rfl, AwJ.step h3 h4 h5 ht⟩
end
/-- all keys of the second object -/
theorem aj_keys {w0 w : World} {hb B : Nat} {K : Nat → Obj → Prop} (h : AwJ w0 hb K B ai7 w) (hB1 : 128 ≤ B) (hB : B ≤ 100000) : Calls Try.prog 34 #[.pointer (some ⟨hb, 0, none⟩), .int .i64 2] w fun e w' => ∃ (b o c : Nat) (x y z : KK), e = .returned (.slice (some ⟨b, o, none⟩) 3 c) ∧ (b < w'.heap.size ∧ ∀ v, Below w'.heap.size w' v → (v.cell? ⟨b, o, none⟩ = some (.string x.1) ∧ v.cell? ⟨b, o + 1, none⟩ = some (.int .i64 x.2)) ∧ v.cell? ⟨b, o + 4, none⟩ = some (.string z.1) ∧ v.cell? ⟨b, o + 5, none⟩ = some (.int .i64 z.2)) ∧ (okK x ∧ okK z ∧ pk x = pk k2 ∧ pk z = pk kc) ∧ Below w.heap.size w w' := by
  refine (Ein.c_IKeys h.ein hB1 hB ai_u7 2).mono ?_
  rintro e w' ⟨v, Z, rfl, hr, hok, hZ, hb'⟩
  rw [ai_all] at hZ
  obtain ⟨x, y, z, rfl⟩ : ∃ x y z, Z = [x, y, z] := by
    have h2 := congrArg List.length hZ
    simp at h2
    match Z, h2 with
    | [x, y, z], _ => exact ⟨x, y, z, rfl⟩
  obtain ⟨p, c, rfl, _, hc, hcell⟩ := hr.form
  obtain ⟨b, o, rfl, lb, h0⟩ := hcell 0 x rfl
  obtain ⟨b2, o2, e2, _, h2⟩ := hcell 2 z rfl
  injection e2 with e2
  injection e2 with e2 e3
  subst e2 e3
  simp at hZ
  refine ⟨b, o, c, x, y, z, rfl, ⟨lb, fun v hv => ⟨by simpa using h0 v hv, by simpa using h2 v hv⟩⟩, ⟨hok x (by simp), hok z (by simp), hZ.1, hZ.2.2⟩, hb'⟩
/-- how many of its own are told -/
theorem aj_own {w00 w : World} {hb rb B : Nat} {lim : Int} (h : Ein.LawS w00 w hb rb lim B ai7) (hB1 : 128 ≤ B) (hB : B ≤ 100000) : Calls Try.prog 33 #[.pointer (some ⟨hb, 0, none⟩), .int .i64 2] w fun e w' => ∃ p c, e = .returned (.slice p 2 c) ∧ Below w.heap.size w w' := by
  refine (Ein.c_IOwn h hB1 hB ai_u7 2).mono ?_
  rintro e w' ⟨v, Z, rfl, hr, _, hZ, _, hb'⟩
  rw [ai_own] at hZ
  have hl : Z.length = 2 := by rw [← List.length_map (f := pk), hZ]; rfl
  obtain ⟨p, c, rfl, _⟩ := hr.form
  rw [hl]
  exact ⟨p, c, rfl, hb'⟩
theorem ai_next {st' : Ein.ES} {r : Option KK} (h : Ein.nextE ai7 999 ⟨2, 1, keysH ai7 2, [], keysH ai7 2⟩ = (r, st')) : r = some (pk k2) := by
  have hrs := Ein.nextE_rest ai7 999 ⟨2, 1, keysH ai7 2, [], keysH ai7 2⟩ rfl rfl
  rw [h] at hrs
  have e : Ein.restF ai7 999 ⟨2, 1, keysH ai7 2, [], keysH ai7 2⟩ = [pk k2, pk ka, pk kc] := ai_all
  cases r with
  | none => rw [show Ein.restF ai7 999 _ = [] from hrs] at e; cases e
  | some K =>
    have h1 : Ein.restF ai7 999 _ = K :: _ := hrs.1
    rw [h1] at e
    injection e with e
    rw [e]
end Go.Proofs.Ytoccmiinkfhohaa
namespace Go.Proofs.Ytoccmiinkfhohaa
open Go.RowKit Go.Shelf Go.Lib Go.Sort Go.Proofs Go.Maps
set_option linter.unusedVariables false
set_option maxHeartbeats 4000000
set_option maxRecDepth 100000

theorem nm_b (y : World) : Calls Try.prog 42 #[.string ⟨#[98]⟩] y fun e w' => e = .returned (.agg #[.string (tx [98]), .int .i64 0]) ∧ Below y.heap.size y w' := c_name (l := [98]) rfl (by decide) y
theorem nm_c (y : World) : Calls Try.prog 42 #[.string ⟨#[99]⟩] y fun e w' => e = .returned (.agg #[.string (tx [99]), .int .i64 0]) ∧ Below y.heap.size y w' := c_name (l := [99]) rfl (by decide) y
theorem nm_2 (y : World) : Calls Try.prog 42 #[.string ⟨#[50]⟩] y fun e w' => e = .returned (.agg #[.string (tx [50]), .int .i64 0]) ∧ Below y.heap.size y w' := c_name (l := [50]) rfl (by decide) y
theorem nm_a (y : World) : Calls Try.prog 42 #[.string ⟨#[97]⟩] y fun e w' => e = .returned (.agg #[.string (tx [97]), .int .i64 0]) ∧ Below y.heap.size y w' := c_name (l := [97]) rfl (by decide) y
theorem aj_make1 {w0 w : World} {hb : Nat} (h : AwJ w0 hb (fun _ _ => False) 128 [] w) : Calls Try.prog 19 #[.pointer (some ⟨hb, 0, none⟩), .int .i64 0, .int .i64 0] w fun e w' => e = .returned (.tuple #[.int .i64 1, .int .i64 0]) ∧ AwJ w0 hb (fun _ _ => False) 128 ai1 w' := by
  refine (aj_make h ai_u0 0 0).mono ?_
  rintro e w' ⟨rfl, ht⟩
  exact ⟨rfl, ht⟩
theorem aj_make2 {w0 w : World} {hb : Nat} (h : AwJ w0 hb (fun _ _ => False) 128 ai1 w) : Calls Try.prog 19 #[.pointer (some ⟨hb, 0, none⟩), .int .i64 0, .int .i64 1] w fun e w' => (∃ v, e = .returned v) ∧ AwJ w0 hb (fun _ _ => False) 128 ai2 w' := by
  refine (aj_make h ai_u1 0 1).mono ?_
  rintro e w' ⟨rfl, ht⟩
  exact ⟨⟨_, rfl⟩, ht⟩
theorem c_awake20 (w : World) : Calls Try.prog 30 #[] w fun e w' => e = .returned (.bool true) ∧ Below w.heap.size w w' := by
  go_enter Try.func30, Try.ntmps30
  go_upto_region 4 with (first | (go_at_call 10; refine (aj_new _).mono ?_; rintro e w1 ⟨hb, rfl, hA1⟩) | (go_at_call 19; with_reducible refine (aj_make1 (by assumption)).mono ?_; rintro e w2 ⟨rfl, hA2⟩) | (go_at_call 19; with_reducible refine (aj_make2 (by assumption)).mono ?_; rintro e w3 ⟨⟨vm, rfl⟩, hA3⟩))
  have hA3' : AwJ w hb (fun _ _ => False) 128 ai2 w3 := hA3
  clear hA1 hA2 hA3
  obtain ⟨hbz, z0⟩ := zeroQ_set w3 p7
  have hth : (w3.alloc (.cells zeroQ 37)).there w3.heap.size 0 (encP p7).toArray.size := zeroQ_there w3
  obtain ⟨W2, hW2⟩ : ∃ W2, (w3.alloc (.cells zeroQ 37)).setCells w3.heap.size 0 (encP p7) = W2 := ⟨_, rfl⟩
  rw [hW2] at hbz z0
  have hA := hA3'.watch hbz (Nat.le_refl _) z0
  have hi13 : (Try.prog.info? 37).map (·.size) = some (encP p7).toArray.size := infoProp
  have ho13 := all_oneCell_toArray (encP_one p7)
  obtain ⟨pb, hpb⟩ : ∃ pb, pb = w3.heap.size := ⟨_, rfl⟩
  rw [← hpb] at hA z0
  replace hW2 := Lib.hid hW2
  clear hA3' hbz
  go_upto_region 5 with (first | (refine wpList_store_mid rfl 37 (.tmp 2) (.tmp 12) rfl w3.heap.size 0 _ rfl rfl hth hi13 ho13 ?_; generalize hWx : World.setCells _ _ _ _ = Wx; obtain rfl : W2 = Wx := hW2.out.symm.trans hWx; clear hWx hth hi13 ho13))
  rw [← hpb]
  clear hpb hW2
  have hP := fun (y : World) (h : AwJ w hb (fun b o => b = pb ∧ o = .cells (encP p7).toArray 37 (0, 0)) 128 ai2 y) => aj_put h (by decide) (by decide) ai_u2 1 kb kb_ok p7
  unfold propV keyV at hP
  unfold encP p7 zeroVV at hP
  dsimp only at hP
  unfold kb at hP
  dsimp only at hP
  replace hP := Lib.hid hP
  obtain ⟨v0, v1, v2, v3, v4, v5, v6, v7, v8, v9, v10, v11, v12⟩ := cells13 z0
  have lpb := heapH_lt z0
  have hA0 := hA.keep (Below.refl _ W2).drew
  have hS0 : ∀ i : Nat, W2.drew.cell? ⟨pb, i, none⟩ = W2.cell? ⟨pb, i, none⟩ := fun _ => rfl
  have z0' := Lib.hid z0
  clear z0
  go_region_held3 (fun y => ∀ i : Nat, y.cell? ⟨pb, i, none⟩ = W2.cell? ⟨pb, i, none⟩) (first | with_reducible assumption | exact AwJ.cells z0'.out (by assumption)) (first | (go_at_call 42; refine (nm_b _).mono ?_; rintro e y1 ⟨rfl, hq⟩; have hA1 := hA0.keep hq) | (go_at_call 27; refine (hP.out _ hA1).mono ?_; rintro e x3 ⟨rfl, hA2⟩))
  rename_i hHx
  clear hHx
  clear hP hA hA0 hA1 hq v0 v1 v2 v3 v4 v5 v6 v7 v8 v9 v10 v11 v12 z0' hS0 lpb
  have hA : AwJ w hb (fun b o => b = pb ∧ o = .cells (encP p7).toArray 37 (0, 0)) 130 ai3 x3 := hA2
  clear hA2
  have z0 := hA.held ⟨rfl, rfl⟩
  go_upto_region 6 with fail
  have hP := fun (y : World) (h : AwJ w hb (fun b o => b = pb ∧ o = .cells (encP p7).toArray 37 (0, 0)) 130 ai3 y) => aj_put h (by decide) (by decide) ai_u3 1 kc kc_ok p7
  unfold propV keyV at hP
  unfold encP p7 zeroVV at hP
  dsimp only at hP
  unfold kc at hP
  dsimp only at hP
  replace hP := Lib.hid hP
  obtain ⟨v0, v1, v2, v3, v4, v5, v6, v7, v8, v9, v10, v11, v12⟩ := cells13 z0
  have lpb := heapH_lt z0
  have hA0 := hA.keep (Below.refl _ x3).drew
  have hS0 : ∀ i : Nat, x3.drew.cell? ⟨pb, i, none⟩ = x3.cell? ⟨pb, i, none⟩ := fun _ => rfl
  have z0' := Lib.hid z0
  clear z0
  go_region_held3 (fun y => ∀ i : Nat, y.cell? ⟨pb, i, none⟩ = x3.cell? ⟨pb, i, none⟩) (first | with_reducible assumption | exact AwJ.cells z0'.out (by assumption)) (first | (go_at_call 42; refine (nm_c _).mono ?_; rintro e y1 ⟨rfl, hq⟩; have hA1 := hA0.keep hq) | (go_at_call 27; refine (hP.out _ hA1).mono ?_; rintro e x4 ⟨rfl, hA2⟩))
  rename_i hHx
  clear hHx
  clear hP hA hA0 hA1 hq v0 v1 v2 v3 v4 v5 v6 v7 v8 v9 v10 v11 v12 z0' hS0 lpb
  have hA : AwJ w hb (fun b o => b = pb ∧ o = .cells (encP p7).toArray 37 (0, 0)) 132 ai4 x4 := hA2
  clear hA2
  have z0 := hA.held ⟨rfl, rfl⟩
  go_upto_region 7 with fail
  have hP := fun (y : World) (h : AwJ w hb (fun b o => b = pb ∧ o = .cells (encP p7).toArray 37 (0, 0)) 132 ai4 y) => aj_put h (by decide) (by decide) ai_u4 2 k2 k2_ok p7
  unfold propV keyV at hP
  unfold encP p7 zeroVV at hP
  dsimp only at hP
  unfold k2 at hP
  dsimp only at hP
  replace hP := Lib.hid hP
  obtain ⟨v0, v1, v2, v3, v4, v5, v6, v7, v8, v9, v10, v11, v12⟩ := cells13 z0
  have lpb := heapH_lt z0
  have hA0 := hA.keep (Below.refl _ x4).drew
  have hS0 : ∀ i : Nat, x4.drew.cell? ⟨pb, i, none⟩ = x4.cell? ⟨pb, i, none⟩ := fun _ => rfl
  have z0' := Lib.hid z0
  clear z0
  go_region_held3 (fun y => ∀ i : Nat, y.cell? ⟨pb, i, none⟩ = x4.cell? ⟨pb, i, none⟩) (first | with_reducible assumption | exact AwJ.cells z0'.out (by assumption)) (first | (go_at_call 42; refine (nm_2 _).mono ?_; rintro e y1 ⟨rfl, hq⟩; have hA1 := hA0.keep hq) | (go_at_call 27; refine (hP.out _ hA1).mono ?_; rintro e x5 ⟨rfl, hA2⟩))
  rename_i hHx
  clear hHx
  clear hP hA hA0 hA1 hq v0 v1 v2 v3 v4 v5 v6 v7 v8 v9 v10 v11 v12 z0' hS0 lpb
  have hA : AwJ w hb (fun b o => b = pb ∧ o = .cells (encP p7).toArray 37 (0, 0)) 134 ai5 x5 := hA2
  clear hA2
  have z0 := hA.held ⟨rfl, rfl⟩
  go_upto_region 8 with fail
  have hP := fun (y : World) (h : AwJ w hb (fun b o => b = pb ∧ o = .cells (encP p7).toArray 37 (0, 0)) 134 ai5 y) => aj_put h (by decide) (by decide) ai_u5 2 kb kb_ok p5
  unfold propV keyV at hP
  unfold encP p5 zeroVV at hP
  dsimp only at hP
  unfold kb at hP
  dsimp only at hP
  replace hP := Lib.hid hP
  go_upto_region 9 with (first | (go_at_call 42; refine (nm_b _).mono ?_; rintro e y1 ⟨rfl, hq⟩; have hA1 := hA.keep hq) | (go_at_call 27; refine (hP.out _ hA1).mono ?_; rintro e x6 ⟨rfl, hA2⟩))
  clear hP hA hA1 hq z0
  have hA : AwJ w hb (fun b o => b = pb ∧ o = .cells (encP p7).toArray 37 (0, 0)) 136 ai6 x6 := hA2
  clear hA2
  have z0 := hA.held ⟨rfl, rfl⟩
  have hP := fun (y : World) (h : AwJ w hb (fun b o => b = pb ∧ o = .cells (encP p7).toArray 37 (0, 0)) 136 ai6 y) => aj_put h (by decide) (by decide) ai_u6 2 ka ka_ok p7
  unfold propV keyV at hP
  unfold encP p7 zeroVV at hP
  dsimp only at hP
  unfold ka at hP
  dsimp only at hP
  replace hP := Lib.hid hP
  obtain ⟨v0, v1, v2, v3, v4, v5, v6, v7, v8, v9, v10, v11, v12⟩ := cells13 z0
  have lpb := heapH_lt z0
  have hA0 := hA.keep (Below.refl _ x6).drew
  have hS0 : ∀ i : Nat, x6.drew.cell? ⟨pb, i, none⟩ = x6.cell? ⟨pb, i, none⟩ := fun _ => rfl
  have z0' := Lib.hid z0
  clear z0
  go_region_held3 (fun y => ∀ i : Nat, y.cell? ⟨pb, i, none⟩ = x6.cell? ⟨pb, i, none⟩) (first | with_reducible assumption | exact AwJ.cells z0'.out (by assumption)) (first | (go_at_call 42; refine (nm_a _).mono ?_; rintro e y1 ⟨rfl, hq⟩; have hA1 := hA0.keep hq) | (go_at_call 27; refine (hP.out _ hA1).mono ?_; rintro e x7 ⟨rfl, hA2⟩))
  rename_i hHx
  clear hHx
  clear hP hA hA0 hA1 hq v0 v1 v2 v3 v4 v5 v6 v7 v8 v9 v10 v11 v12 z0' hS0 lpb
  have hA : AwJ w hb (fun b o => b = pb ∧ o = .cells (encP p7).toArray 37 (0, 0)) 138 ai7 x7 := hA2
  clear hA2
  have z0 := hA.held ⟨rfl, rfl⟩
  go_upto_region 10 with fail
  clear z0
  have hKs := Lib.hid (aj_keys hA (by decide) (by decide))
  go_upto_region 11 with (go_at_call 34; refine hKs.out.mono ?_; rintro e x8 ⟨b, o, c, x, y, z, rfl, ⟨lb, hcell⟩, ⟨hx, hz, hpx, hpz⟩, hb8⟩)
  have hA8 := hA.keep hb8
  replace hcell := Lib.hid hcell
  have hN8 := Lib.hid (Ein.c_INew hA8.ein.toK (by decide) (by decide) ai_u7 2)
  have hB8 := Lib.hid hA8.base
  clear hKs hA hA8 hb8
  go_upto_region 12 with (go_at_call 38; refine hN8.out.mono ?_; rintro e x9 ⟨eb, rfl, hE⟩)
  have hb9 := hE.base
  obtain ⟨⟨c0, c1⟩, c4, c5⟩ := hcell.out x9 hb9
  have lb9 := Nat.lt_of_lt_of_le lb hb9.size
  have hS0 := fun (y : World) => c_Same4 x.1 (tx [50]) x.2 0 hx.1 (by decide +kernel) y
  have hS2 := fun (y : World) => c_Same4 z.1 (tx [99]) z.2 0 hz.1 (by decide +kernel) y
  rw [show sameK x.1 (tx [50]) x.2 0 = true from (sameK_pk x k2).trans (decide_eq_true hpx)] at hS0
  rw [show sameK z.1 (tx [99]) z.2 0 = true from (sameK_pk z kc).trans (decide_eq_true hpz)] at hS2
  unfold keyV at hS0 hS2
  have hLS : Ein.LawS { x9 with heap := #[] } x9 hb 0 50 138 ai7 := by
    obtain ⟨_, _, _, _, _, hX, _⟩ := hE
    exact hX.law
  have hOw := fun (y : World) (hy : Below x9.heap.size x9 y) => aj_own (hLS.below hy) (by decide) (by decide)
  have hNx := fun (y : World) (hy : Below x9.heap.size x9 y) => Ein.c_ENext (hE.turn (K' := fun _ _ => False) (k := none) hy.os hy.tape hy.output hy.size (fun r hr _ => hy.block r hr) (fun c h => by cases h) (fun c ob h => h.elim)) (by decide) (by decide) ai_u7
  have hst := onto_drew x9
  have eqp : ∀ (y : World) (a : Addr), (binOp .eql 76 (.pointer (some a)) (.pointer none)).run Try.prog y = .ok (.bool false) y := fun y a => by kernel_rfl
  have q3 : (0 : Int) < 3 := by decide
  replace hS0 := Lib.hid hS0
  replace hS2 := Lib.hid hS2
  replace hOw := Lib.hid hOw
  replace hNx := Lib.hid hNx
  replace hb9 := Lib.hid hb9
  clear hE hN8 hLS
  go_region_held3 (fun y => (∀ a : Addr, a.block < x9.heap.size → y.cell? a = x9.cell? a) ∧ (∀ b : Nat, b < x9.heap.size → y.heap[b]? = x9.heap[b]?) ∧ Below x9.heap.size x9 y) (first | with_reducible assumption | with_reducible exact hst | with_reducible exact onto_below (by assumption) (by assumption)) (first | (go_at_call 42; with_reducible refine (nm_2 _).mono ?_; rintro e y1 ⟨rfl, hq1⟩) | (go_at_call 40; with_reducible refine (hS0.out _).mono ?_; rintro e y2 ⟨rfl, hq2⟩) | (go_at_call 42; with_reducible refine (nm_c _).mono ?_; rintro e y3 ⟨rfl, hq3⟩) | (go_at_call 40; with_reducible refine (hS2.out _).mono ?_; rintro e y4 ⟨rfl, hq4⟩) | (go_at_call 33; refine (hOw.out _ (And.right (And.right (by assumption)))).mono ?_; rintro e y5 ⟨pw, cw, rfl, hq5⟩))
  rename_i hO
  have hB5 := hO.2.2
  clear hO hst hq1 hq2 hq3 hq4 hq5 hS0 hS2 hOw c0 c1 c4 c5 lb9 eqp
  go_upto_region 15 with (first | (go_at_call 39; refine (hNx.out _ hB5).mono ?_; rintro e x11 hP; obtain ⟨st', k, t, hE11, rfl, hq⟩ := hP.form))
  obtain ⟨rfl, hk, hpk⟩ : t = true ∧ okK k ∧ pk k = pk k2 := by
    rcases hq with ⟨h1, h2, h3⟩ | ⟨h1, h2, h3⟩
    · exact ⟨h1, h2, Option.some.inj (ai_next h3)⟩
    · cases ai_next h3
  have hb11 := hE11.base
  obtain ⟨W12, hW12⟩ : ∃ W12, x11.alloc (.cells #[.string k.1, .int .i64 k.2] 32) = W12 := ⟨_, rfl⟩
  rw [hW12]
  have hbk : Below x11.heap.size x11 W12 := by rw [← hW12]; exact (Below.refl _ _).alloc (Nat.le_refl _) _
  have dk : W12.heap[x11.heap.size]? = some (.cells #[.string k.1, .int .i64 k.2] 32 (0, 0)) := by rw [← hW12]; exact heap_alloc_new x11 _
  have kc0 : W12.cell? ⟨x11.heap.size, 0, none⟩ = some (.string k.1) := by rw [cell_of_row _ _ 0 _ _ _ dk]; rfl
  have kc1 : W12.cell? ⟨x11.heap.size, 1, none⟩ = some (.int .i64 k.2) := by rw [cell_of_row _ _ 1 _ _ _ dk]; rfl
  have hb12 := hb11.trans (hbk.mono hb11.size)
  obtain ⟨⟨c0, c1⟩, -, -⟩ := hcell.out W12 hb12
  have lb12 := Nat.lt_of_lt_of_le lb hb12.size
  have lk12 := heapH_lt dk
  have hS := fun (y : World) => c_Same4 k.1 x.1 k.2 x.2 hk.1 hx.1 y
  rw [show sameK k.1 x.1 k.2 x.2 = true from (sameK_pk k x).trans (decide_eq_true (hpk.trans hpx.symm))] at hS
  unfold keyV at hS
  have hst := onto_drew W12
  have hfin := Lib.hid (hB8.out.trans (hb12.mono hB8.out.size))
  replace hS := Lib.hid hS
  clear hW12 hbk dk hb12 hE11 hq hNx hP hb11 hb9 hcell hB5
  go_region_held3 (fun y => (∀ a : Addr, a.block < W12.heap.size → y.cell? a = W12.cell? a) ∧ (∀ b : Nat, b < W12.heap.size → y.heap[b]? = W12.heap[b]?) ∧ Below W12.heap.size W12 y) (first | with_reducible assumption | with_reducible exact hst | with_reducible exact onto_below (by assumption) (by assumption)) (first | (go_at_call 40; refine (hS.out _).mono ?_; rintro e y7 ⟨rfl, hq7⟩))
  rename_i hO
  have hB7 := hfin.out.trans (hO.2.2.mono hfin.out.size)
  go_wp2
  go_ret
  exact ⟨rfl, hB7⟩
end Go.Proofs.Ytoccmiinkfhohaa
namespace Go.Proofs.Ytoccmiinkfhohaa
open Go.RowKit Go.Shelf Go.Lib Go.Sort Go.Proofs Go.Maps
set_option linter.unusedVariables false
set_option maxHeartbeats 1000000
set_option maxRecDepth 8000

/-- the heap after a list's first operations -/
def runQ (lim : Int) (l : List OQ) : List OB := l.foldl (opQ lim) []
theorem runQ_next {lim : Int} {l : List OQ} {i : Nat} {x : OQ} (h : l[i]? = some x) : runQ lim (l.take (i + 1)) = opQ lim (runQ lim (l.take i)) x := by
  have hlt : i < l.length := (List.getElem?_eq_some_iff.1 h).1
  have hx : l[i] = x := (List.getElem?_eq_some_iff.1 h).2
  unfold runQ
  rw [List.take_succ_eq_append_getElem hlt, List.foldl_append, hx]
  rfl
theorem runQ_used {lim : Int} {l : List OQ} : ∀ {i : Nat}, i ≤ l.length → usedH (runQ lim (l.take i)) ≤ i := by
  intro i
  induction i with
  | zero => intro _; simp [runQ, usedH]
  | succ i ih =>
    intro h
    have hx : l[i]? = some l[i] := List.getElem?_eq_getElem (by omega)
    rw [runQ_next hx]
    have := ih (by omega)
    have := opQ_used lim (runQ lim (l.take i)) l[i]
    omega
theorem l_do20 {w0 w : World} {hb rb B : Nat} {lim : Int} {H : List OB} (h : LawS w0 w hb rb lim B H) (hB1 : 128 ≤ B) (hB : B < 90000) (hu : usedH H ≤ 100000) (x : OQ) (hk : okK x.k) :
    Calls Try.prog 32 #[.pointer (some ⟨hb, 0, none⟩), .pointer (some ⟨rb, 0, none⟩), .agg (encQ x).toArray] w fun e w' => e = .returned (.tuple #[]) ∧ LawS w0 w' hb rb lim (B + 2) (opQ lim H x) := by
  obtain ⟨f, f2, h1, h2, h3⟩ := h
  refine (c_do20 h1 hB1 hB hu x hk).mono ?_
  rintro e w' ⟨rfl, hd⟩
  exact ⟨rfl, LawS.done h2 h3 hd⟩
/-- a list's first elements -/
theorem slice_take {w : World} {L : Value} {Z : List KK} (h : RdK w L Z) {m : Nat} (hm : m ≤ Z.length) : ∃ L', RdK w L' (Z.take m) ∧ ∀ y, (Instr.slice 51 L none (some (.int .i64 (m : Int))) none).run Try.prog y = .ok L' y := by
  have ht : Try.prog.underlying 51 = some (.slice (Try.prog.elem 51)) := by rw [show Try.prog.elem 51 = 32 by kernel_rfl]; exact Try.underlying51
  have hs : ∀ y, (Go.sizeOf (Try.prog.elem 51)).run Try.prog y = .ok 2 y := fun y => by
    rw [show Try.prog.elem 51 = 32 by kernel_rfl]
    have := infoKeyRowZ
    cases hi : Try.prog.info? 32 with
    | none => rw [hi] at this; cases this
    | some i => rw [hi] at this; injection this with this; simp [Go.sizeOf, Go.typeInfo, hi, this]
  have hlt : (Z.take m).length = m := by rw [List.length_take]; omega
  obtain ⟨p, c, rfl, hpc, hc, hcell⟩ := h.form
  have hrun : ∀ y, (Instr.slice 51 (.slice p Z.length c) none (some (.int .i64 (m : Int))) none).run Try.prog y = .ok (sliced p 0 m c 2) y := fun y => by
    rw [run_slice_h (P := Try.prog) (w := y) (t := 51) (ht := ht) (kh := .i64) (h := (m : Int)) (h0 := by omega) (h2 := by omega), hs]
    rfl
  refine ⟨sliced p 0 m c 2, ?_, hrun⟩
  rcases h with ⟨h1, rfl⟩ | ⟨q, c', h1, h2, h3⟩
  · injection h1 with h1 h4 h5
    subst h1 h5
    have hm0 : m = 0 := by simpa using hm
    subst hm0
    exact .inl ⟨by simp [sliced], by simp⟩
  · injection h1 with h1 h4 h5
    subst h1 h5
    refine .inr ⟨q, c, ?_, by rw [hlt]; omega, fun k x hx => ?_⟩
    · rw [hlt]
      unfold sliced
      by_cases h0 : c = 0
      · subst h0; simp
      · simp [h0, Addr.add]
    · refine h3 k x ?_
      rw [List.getElem?_take] at hx
      split at hx
      · exact hx
      · cases hx
end Go.Proofs.Ytoccmiinkfhohaa
namespace Go.Proofs.Ytoccmiinkfhohaa
open Go.RowKit Go.Shelf Go.Lib Go.Sort Go.Proofs Go.Maps
set_option linter.unusedVariables false
set_option maxHeartbeats 4000000
set_option maxRecDepth 100000

theorem c_IterateKeys (v : Value) (l : List OQ) (hs : fewQ l l.length ≤ 4194304) (hz : ∀ x ∈ l, x.k.1.size ≤ 4194304 ∧ okK x.k) (ob : Int) (w : World) (h : RdQ w v l) :
    Calls Try.prog 6 #[v, .int .i64 ob] w fun e w' => e = .returned (.bool true) ∧ Below w.heap.size w w' := by
  obtain ⟨p, c, rfl, hlc, hL⟩ := h.form
  have hfew := fun (y : World) (hy : Below w.heap.size w y) => c_few20 (.slice p l.length c) l hs (fun x hx => (hz x hx).1) y (by
    rcases h with ⟨h1, h2⟩ | ⟨p', c', h1, h2, h3⟩
    · exact .inl ⟨h1, h2⟩
    · refine .inr ⟨p', c', h1, h2, fun k x hx => ?_⟩
      obtain ⟨g1, g2⟩ := h3 k x hx
      exact ⟨g1, range_at g2 (hy.block _ (by have := cell_lt (g2 0 _ rfl); exact this))⟩)
  have hlen : l.length ≤ fewQ l l.length := Nat.le_add_right _ _
  replace hfew := Lib.hid hfew
  replace hL := Lib.hid hL
  replace hz := Lib.hid hz
  clear h
  cases hd : decide (fewQ l l.length ≤ 300) with
  | false =>
    rw [hd] at hfew
    clear hd
    go_enter Try.func6, Try.ntmps6
    go_wp2_with (first | (go_at_call 30; refine (c_awake20 _).mono ?_; rintro e w1 ⟨rfl, hb1⟩) | (go_at_call 31; refine (hfew.out _ hb1).mono ?_; rintro e w2 ⟨rfl, hb2⟩))
    go_ret
    exact ⟨rfl, hb1.trans (hb2.mono hb1.size)⟩
  | true =>
    rw [hd] at hfew
    have hl3 : l.length ≤ 300 := Nat.le_trans hlen (of_decide_eq_true hd)
    clear hd hlen hs
    go_enter Try.func6, Try.ntmps6
    go_wp2_with (first | (go_at_call 30; refine (c_awake20 _).mono ?_; rintro e w1 ⟨rfl, hb1⟩) | (go_at_call 31; refine (hfew.out _ hb1).mono ?_; rintro e w2 ⟨rfl, hb2⟩) | (go_at_call 10; refine (c_Hnew (f := fun _ => 0) (fun _ _ => rfl) 2000).mono ?_; rintro e w3 ⟨hb, f1, rfl, t1, h1⟩; unfold ptrV) | (go_at_call 11; refine (l_new t1 h1).mono ?_; rintro e w4 ⟨rb, rfl, hS⟩))
    have hB2 := hb1.trans (hb2.mono hb1.size)
    replace hB2 := Lib.hid hB2
    replace hS := Lib.hid hS
    clear t1 h1 hb1 hb2 hfew
    obtain ⟨W2, rfl⟩ : ∃ W2, W2 = w2 := ⟨_, rfl⟩
    go_loopw [20] (fun vi wr => ∃ i : Nat, i ≤ l.length ∧ vi = .int .i64 (i : Int) ∧ LawS W2 wr hb rb 2000 (128 + 2 * i) (runQ 2000 (l.take i))) (fun vi _ => l.length - (intOf vi).toNat)
    case atStart => exact ⟨0, by omega, rfl, hS.out⟩
    case round =>
      obtain ⟨i, hi, rfl, hT⟩ := hrel
      rcases Nat.lt_or_ge i l.length with hlt | hge
      · obtain ⟨x, hx⟩ : ∃ x, l[i]? = some x := ⟨_, List.getElem?_eq_getElem hlt⟩
        obtain ⟨b, o, rfl, lb, hrg⟩ := hL.out i x hx
        replace hrg := hrg wr (hB2.out.trans (hT.base.mono hB2.out.size))
        have hi6 : (Try.prog.info? 70).map (·.size) = some (encQ x).length := infoOq
        have hj6 : (Try.prog.info? 70).map (·.size) = some (encQ x).toArray.size := infoOq
        have ho6 := all_oneCell_toArray (encQ_one x)
        have q1 : (0 : Int) ≤ (i : Int) := by omega
        have q2 : (i : Int) < (l.length : Int) := by omega
        obtain ⟨hfb, hfh⟩ := fresh_cellsQ (w := wr) x
        have hrg2 := range_of_block hfh
        have hth : (wr.alloc (.cells zeroOq 70)).there wr.heap.size 0 (encQ x).toArray.size := zeroOq_there wr
        have hu0 := runQ_used (lim := 2000) (l := l) (i := i) hi
        have hu1 := runQ_used (lim := 2000) (l := l) (i := i + 1) hlt
        have hnx := runQ_next (lim := 2000) hx
        have hdo := fun (y : World) (hy : LawS W2 y hb rb 2000 (128 + 2 * i) (runQ 2000 (l.take i))) => l_do20 hy (by omega) (by omega) (by omega) x (hz.out x (List.mem_of_getElem? hx)).2
        rw [← hnx] at hdo
        replace hdo := Lib.hid hdo
        replace hfb := Lib.hid hfb
        replace hT := Lib.hid hT
        clear hx hfh hnx
        generalize encQ x = E at *
        generalize hH' : runQ 2000 (l.take (i + 1)) = H' at *
        replace hH' := Lib.hid hH'
        have tokA : True := trivial
        have tokB : True := trivial
        have tokC : True := trivial
        go_wp2_with (first | (clear tokA; refine wpList_load_mid rfl 70 (.tmp 22) rfl b (o + i * 6) rfl E _ hrg Try.underlying70 rfl hi6 ?_) | (clear tokB; refine wpList_store_mid rfl 70 (.tmp 8) (.tmp 23) rfl wr.heap.size 0 E.toArray rfl rfl hth hj6 ho6 ?_; generalize hW4 : World.setCells _ _ _ _ = W4; rw [show (wr.alloc (.cells zeroOq 70)).setCells wr.heap.size 0 E = W4 from hW4] at hfb hrg2; clear hW4 hth hrg; have hT4 := hT.out.below hfb.out) | (clear tokC; refine wpList_load_mid rfl 70 (.tmp 8) rfl wr.heap.size 0 rfl E _ hrg2 Try.underlying70 rfl hi6 ?_; clear hrg2) | (go_at_call 32; refine (hdo.out _ hT4).mono ?_; rintro e w5 ⟨rfl, hT5⟩))
        exact ⟨⟨i + 1, by omega, by go_num, by rw [hH'.out]; exact hT5⟩, by simp [intOf]; omega⟩
      · obtain rfl : i = l.length := by omega
        have hu := runQ_used (lim := 2000) (l := l) (i := l.length) (Nat.le_refl _)
        have hu5 : usedH (runQ 2000 (l.take l.length)) ≤ 100000 := by omega
        generalize runQ 2000 (l.take l.length) = H at *
        have hB1 : 128 ≤ 128 + 2 * l.length := by omega
        have hBB : 128 + 2 * l.length ≤ 100000 := by omega
        have hBW := hB2.out.trans (hT.base.mono hB2.out.size)
        have hO := c_IOwn hT hB1 hBB hu5 ob
        clear hi hge hu
        replace hBW := Lib.hid hBW
        replace hO := Lib.hid hO
        replace hT := Lib.hid hT
        go_upto_region 12 with (first | (go_at_call 33; refine hO.out.mono ?_; rintro e y1 ⟨v1, Z1, rfl, hr1, hok1, hm1, hl1, hy1⟩; obtain ⟨p1, c1, rfl, -⟩ := hr1.form))
        have hT1 := hT.out.below hy1
        have hK := Lib.hid (c_IKeys hT1 hB1 hBB hu5 ob)
        replace hT1 := Lib.hid hT1
        go_upto_region 13 with (first | (go_at_call 34; refine hK.out.mono ?_; rintro e y2 ⟨v2, Z2, rfl, hr2, hok2, hm2, hy2⟩; obtain ⟨p2, c2, rfl, -⟩ := hr2.form))
        have hT2 := hT1.out.below hy2
        have hRK := Lib.hid (c_R20Keys hT2 hu5 ob)
        have hRO := fun (y : World) (hy : Below y2.heap.size y2 y) => c_RIOwn (hT2.below hy) hB1 hBB hu5 ob
        obtain ⟨r, hr⟩ := allF_own H 999 ob
        have hle : Z1.length ≤ Z2.length := by
          have e1 : Z1.length = (ownF H ob).length := by rw [← hm1, List.length_map]
          have e2 : Z2.length = (allF H 999 ob []).length := by rw [← hm2, List.length_map]
          rw [e1, e2, hr, List.length_append]; omega
        have hZ2 : Z2.length ≤ 1099511627776 := by
          have e2 : Z2.length = (allF H 999 ob []).length := by rw [← hm2, List.length_map]
          have := allF_len hu5 999 ob []
          omega
        have hr1' := hr1.keep hy2
        obtain ⟨L3, hL3, hrun3⟩ := slice_take hr2 hle
        obtain ⟨p3, c3, rfl, -⟩ := hL3.form
        have htk : (Z2.take Z1.length).map pk = Z1.map pk := by
          have e1 : Z1.length = (ownF H ob).length := by rw [← hm1, List.length_map]
          rw [List.map_take, hm2, hm1, hr, e1, List.take_left]
        have hS1 := fun (y : World) (hy : Below y2.heap.size y2 y) (v : Value) (Z : List KK) (hv : RdK y v Z) (hok : ∀ x ∈ Z, okK x) (hm : Z.map pk = allF H 999 ob []) => c_SameKeys (hr2.keep hy) hv (hm2.trans hm.symm) hok2 hok hZ2
        have hS2 := fun (y : World) (hy : Below y2.heap.size y2 y) (v : Value) (Z : List KK) (hv : RdK y v Z) (hok : ∀ x ∈ Z, okK x) (hm : Z.map pk = ownF H ob) => c_SameKeys (hr1'.keep hy) hv (hm1.trans hm.symm) hok1 hok (by omega)
        have hS3 := fun (y : World) (hy : Below y2.heap.size y2 y) => c_SameKeys (hL3.keep hy) (hr1'.keep hy) htk (fun x hx => hok2 x (List.mem_of_mem_take hx)) hok1 (by have := List.length_take_le Z1.length Z2; omega)
        have hfin := Lib.hid (hBW.out.trans ((hy1.trans (hy2.mono hy1.size)).mono hBW.out.size))
        have hfs := hfin.out.size
        have hle' : (Z1.length : Int) ≤ (Z2.length : Int) := by omega
        replace hS1 := Lib.hid hS1
        replace hS2 := Lib.hid hS2
        replace hS3 := Lib.hid hS3
        replace hRO := Lib.hid hRO
        generalize Z2.take Z1.length = T at *
        clear hT2 hm1 hm2 hr1 hr2 hr1' hok1 hok2 hL3 htk hr hZ2 hle hy1 hy2 hl1 hT hT1 hK hO hBW
        go_wp2_with (first | (go_at_call 36; refine hRK.out.mono ?_; rintro e y3 ⟨v3, Z3, rfl, hr3, hok3, hm3, hy3⟩) | (go_at_call 35; with_reducible refine (hS1.out _ hy3 _ _ hr3 hok3 hm3).mono ?_; rintro e y4 ⟨rfl, hy4⟩; have hy34 := hy3.trans (hy4.mono hy3.size)) | (go_at_call 37; refine (hRO.out _ hy34).mono ?_; rintro e y5 ⟨v5, Z5, rfl, hr5, hok5, hm5, hl5, hy5⟩; have hy35 := hy34.trans (hy5.mono hy34.size)) | (go_at_call 35; with_reducible refine (hS2.out _ hy35 _ _ hr5 hok5 hm5).mono ?_; rintro e y6 ⟨rfl, hy6⟩; have hy36 := hy35.trans (hy6.mono hy35.size)) | (go_at_call 35; with_reducible refine (hS3.out _ hy36).mono ?_; rintro e y7 ⟨rfl, hy7⟩; have hy37 := hy36.trans (hy7.mono hy36.size)))
        go_ret
        exact ⟨rfl, hfin.out.trans (hy37.mono hfs)⟩
end Go.Proofs.Ytoccmiinkfhohaa
namespace Go.Proofs.Ytoccmiinkfhohaa
open Go.RowKit Go.Shelf Go.Lib Go.Sort Go.Proofs Go.ChangeShapes Go.WideShapes Go.ChangeAt
set_option maxHeartbeats 1000000
set_option maxRecDepth 8000

theorem bulk_small {H : Type} {ds : List (DataW H)} (hk : Rows.uptoSmall H ds = true) : Rows.uptoBulkAll ds ≤ 1048576 := of_decide_eq_true hk
theorem bulk_part {H : Type} {d : DataW H} {l : List (DataW H)} (h : d ∈ l) : Rows.uptoBulk d ≤ Rows.uptoBulkAll l := by
  induction l with
  | nil => cases h
  | cons x r ih =>
    simp only [Rows.uptoBulkAll]
    rcases List.mem_cons.1 h with rfl | e
    · omega
    · have := ih e; omega
theorem cellsOp : Try.prog.cellsOf 39 = 18 := by kernel_rfl
theorem cellsValue : Try.prog.cellsOf 35 = 4 := by kernel_rfl
theorem cellsProp : Try.prog.cellsOf 37 = 13 := by kernel_rfl
theorem cellsFloat : Try.prog.cellsOf 33 = 1 := by kernel_rfl
section
variable {H : Type} {enc : TypeId × Value → H} {P : Program} {w : World} {base : Nat} {spare : Nat → Bool} {held : Bool}
theorem trod_float5 {t : TypeId} {k : FloatKind} {fuel : Nat} {cs : List Value} {x : DataW H × List MemPlace} (ht : P.underlying t = some (.float k)) (h : DataW.trod enc P w base spare held fuel t cs = some x) : ∃ b, cs = [.float k b] ∧ x = (.lit (.float k b), []) := by
  cases fuel with
  | zero => simp [DataW.trod] at h
  | succ n =>
    unfold DataW.trod at h
    rw [ht] at h
    split at h <;> simp_all
end
section
variable {H : Type} {enc : TypeId × Value → H} {w : World} {base : Nat} {spare : Nat → Bool} {held : Bool}
def encV (v : VV) : List Value := [.int .i64 v.k, .float .f64 v.x, .string v.s, .int .i64 v.r]
theorem value_open {fuel : Nat} {cs : List Value} {x : DataW H × List MemPlace} (h : DataW.trod enc Try.prog w base spare held fuel 35 cs = some x) : ∃ v : VV, cs = encV v ∧ v.s.size ≤ Rows.uptoBulk x.1 := by
  obtain ⟨y0, y1, y2, y3, n, rfl, hl, h0, h1, h2, h3⟩ := Go.Joins.trod_struct4 Try.underlying35 h
  rw [cellsValue] at hl
  match cs, hl with
  | [c0, c1, c2, c3], _ =>
    obtain ⟨k, e0, _, _⟩ := DataW.trod_int Try.underlying3 h0
    obtain ⟨f, e1, _⟩ := trod_float5 Try.underlying33 h1
    obtain ⟨s, e2, g2, _⟩ := DataW.trod_string Try.underlying30 h2
    obtain ⟨r, e3, _, _⟩ := DataW.trod_int Try.underlying3 h3
    simp [cellsInt, cellsFloat, cellsStr] at e0 e1 e2 e3
    subst e0 e1 e2 e3
    refine ⟨⟨k, f, s, r⟩, rfl, ?_⟩
    have h3 : s.data.toList.length = s.size := rfl
    subst g2
    simp only [Rows.uptoBulk, Rows.uptoBulkAll]
    omega
theorem prop_open {fuel : Nat} {cs : List Value} {x : DataW H × List MemPlace} (h : DataW.trod enc Try.prog w base spare held fuel 37 cs = some x) : ∃ p : PV, cs = encP p ∧ p.v.s.size ≤ Rows.uptoBulk x.1 := by
  obtain ⟨y0, y1, y2, y3, n, rfl, hl, h0, h1, h2, h3⟩ := Go.Joins.trod_struct4 Try.underlying37 h
  rw [cellsProp] at hl
  match cs, hl with
  | [c0, c1, c2, c3, c4, c5, c6, c7, c8, c9, c10, c11, c12], _ =>
    obtain ⟨v, e0, g0⟩ := value_open h0
    obtain ⟨g, e1, _⟩ := value_open h1
    obtain ⟨t, e2, _⟩ := value_open h2
    obtain ⟨r, e3, _, _⟩ := DataW.trod_int Try.underlying3 h3
    simp [cellsValue, cellsInt, encV] at e0 e1 e2 e3
    obtain ⟨rfl, rfl, rfl, rfl⟩ := e0
    obtain ⟨rfl, rfl, rfl, rfl⟩ := e1
    obtain ⟨rfl, rfl, rfl, rfl⟩ := e2
    subst e3
    refine ⟨⟨v, g, t, r⟩, rfl, ?_⟩
    show v.s.size ≤ _
    simp only [Rows.uptoBulk, Rows.uptoBulkAll]
    omega
theorem keyc_open {fuel : Nat} {cs : List Value} {x : DataW H × List MemPlace} (h : DataW.trod enc Try.prog w base spare held fuel 32 cs = some x) : ∃ k : KK, cs = [.string k.1, .int .i64 k.2] ∧ k.1.size ≤ Rows.uptoBulk x.1 ∧ (Lit.int .i64 k.2).wf = true := by
  obtain ⟨y0, y1, n, rfl, hl, h0, h1⟩ := Go.ChangeShapes.trod_struct2 Try.underlying32 h
  rw [cellsKey] at hl
  match cs, hl with
  | [c0, c1], _ =>
    obtain ⟨s, e0, g0, _⟩ := DataW.trod_string Try.underlying30 h0
    obtain ⟨r, e1, _, hw⟩ := DataW.trod_int Try.underlying3 h1
    simp [cellsInt, cellsStr] at e0 e1
    subst e0 e1
    refine ⟨(s, r), rfl, ?_, hw⟩
    subst g0
    have h3 : s.data.toList.length = s.size := rfl
    simp only [Rows.uptoBulk, Rows.uptoBulkAll]
    show s.size ≤ _
    omega
theorem op_open {fuel : Nat} {cs : List Value} {x : DataW H × List MemPlace} (h : DataW.trod enc Try.prog w base spare held fuel 39 cs = some x) : ∃ z : OP, cs = encO z ∧ z.k.1.size + z.p.v.s.size + 1 ≤ Rows.uptoBulk x.1 ∧ (Lit.int .i64 z.k.2).wf = true := by
  obtain ⟨xs, n, _, rfl, hl, hlen, hf⟩ := DataW.trod_struct Try.underlying39 h
  rw [cellsOp] at hl
  match xs, hlen with
  | [y0, y1, y2, y3, y4], _ =>
    have h0 := hf 0 _ rfl
    have h1 := hf 1 _ rfl
    have h2 := hf 2 _ rfl
    have h3 := hf 3 _ rfl
    have h4 := hf 4 _ rfl
    match cs, hl with
    | [c0, c1, c2, c3, c4, c5, c6, c7, c8, c9, c10, c11, c12, c13, c14, c15, c16, c17], _ =>
      obtain ⟨a, e0, _, _⟩ := DataW.trod_int Try.underlying3 h0
      obtain ⟨b, e1, _, _⟩ := DataW.trod_int Try.underlying3 h1
      obtain ⟨c, e2, _, _⟩ := DataW.trod_int Try.underlying3 h2
      obtain ⟨k, e3, g3, hw⟩ := keyc_open h3
      obtain ⟨p, e4, g4⟩ := prop_open h4
      simp [cellsInt, cellsKey, cellsProp, encP] at e0 e1 e2 e3 e4
      subst e0 e1 e2
      obtain ⟨rfl, rfl⟩ := e3
      obtain ⟨rfl, rfl, rfl, rfl, rfl, rfl, rfl, rfl, rfl, rfl, rfl, rfl, rfl⟩ := e4
      refine ⟨⟨a, b, c, k, p⟩, rfl, ?_, hw⟩
      show k.1.size + p.v.s.size + 1 ≤ _
      simp only [List.map_cons, Rows.uptoBulk, Rows.uptoBulkAll]
      omega
theorem bulk_ops (q : Nat → OP) (D : Nat → DataW H) (is : List Nat) (h : ∀ i ∈ is, (q i).k.1.size + (q i).p.v.s.size + 1 ≤ Rows.uptoBulk (D i)) : (is.map fun i => (q i).k.1.size + (q i).p.v.s.size + 1).sum ≤ Rows.uptoBulkAll (is.map D) := by
  induction is with
  | nil => simp
  | cons i is ih =>
    have h1 := ih (fun j hj => h j (by simp [hj]))
    have h2 := h i (by simp)
    simp only [List.map_cons, List.sum_cons, Rows.uptoBulkAll]
    omega
end
theorem ops_open {H : Type} {enc : TypeId × Value → H} {W : World} {base : Nat} {v : Value} {d : DataW H} {p : List MemPlace} (hok : Value.okWide Try.prog W .any base 22 v) (h : DataW.Trod enc Try.prog W 0 (fun _ => true) true 22 v d p) (hb : Rows.uptoBulk d ≤ 1048576) :
    ∃ l : List OP, RdO W v l ∧ (l.map fun x => x.k.1.size + x.p.v.s.size + 1).sum ≤ 1048576 ∧ ∀ x ∈ l, okK x.k := by
  obtain ⟨a0, len0, cap0, rfl⟩ := okWide_slice Try.underlying22 hok
  obtain ⟨fuel, hf⟩ := h
  rcases Go.Deep.open_slice Try.underlying22 hf with ⟨hcs, hx⟩ | ⟨a, len, cap, m, n, D, Pl, hcs, hba, hlc, hcm, hm, hx, hcell⟩
  · simp [Value.cells] at hcs
    obtain ⟨rfl, rfl, rfl⟩ := hcs
    exact ⟨[], .inl ⟨rfl, rfl⟩, by simp, by simp⟩
  · simp [Value.cells] at hcs
    obtain ⟨rfl, rfl, rfl⟩ := hcs
    rw [cellsOp] at hcell
    have each : ∀ i, i < len0 → ∃ q : OP, (∀ j u, (encO q)[j]? = some u → W.cell? (a.add (i * 18 + j)) = some u) ∧ q.k.1.size + q.p.v.s.size + 1 ≤ Rows.uptoBulk (D i) ∧ (Lit.int .i64 q.k.2).wf = true := by
      intro i hi
      obtain ⟨cs', c0, t0⟩ := hcell i (by rw [hm]; split <;> omega)
      obtain ⟨q, rfl, g1, g2⟩ := op_open t0
      obtain ⟨_, hl, hat⟩ := World.cells?_some c0
      refine ⟨q, fun j u hu => ?_, g1, g2⟩
      have hj : j < 18 := (List.getElem?_eq_some_iff.1 hu).1
      rw [← Go.Deep.add_add, hat j hj, hu]
    obtain ⟨q, hq⟩ := Go.Deep.choose_lt each
    have hl : ((List.range len0).map q).length = len0 := by simp
    have hbk := bulk_ops q D (List.range len0) (fun i hi => (hq i (List.mem_range.1 hi)).2.1)
    have hd : d = _ := congrArg Prod.fst hx
    rw [hd] at hb
    simp only [Rows.uptoBulk] at hb
    have hsum : (((List.range len0).map q).map fun x => x.k.1.size + x.p.v.s.size + 1).sum ≤ 1048576 := by
      rw [List.map_map]
      have : ((fun x : OP => x.k.1.size + x.p.v.s.size + 1) ∘ q) = fun i => (q i).k.1.size + (q i).p.v.s.size + 1 := rfl
      rw [this]
      omega
    refine ⟨(List.range len0).map q, .inr ⟨a, cap0, by rw [hl], by rw [hl]; exact hlc, ?_⟩, hsum, ?_⟩
    · intro k x hx
      have hk : k < len0 := by have := (List.getElem?_eq_some_iff.1 hx).1; simpa using this
      have hxe : q k = x := by simpa [hk] using hx
      obtain ⟨e0, _⟩ := hq k hk
      obtain ⟨d0, _⟩ := hq 0 (by omega)
      have hsp : a.spot = none := by
        have d1 := d0 0 _ rfl
        have h00 : a.add (0 * 18 + 0) = a := by simp [Addr.add]
        rw [h00] at d1
        unfold World.cell? at d1
        cases hs : a.spot with
        | none => rfl
        | some z =>
          rw [hs] at d1
          cases hh : W.heap[a.block]? with
          | none => simp [hh] at d1
          | some o => cases o <;> simp [hh] at d1
      have hadd : ∀ j, a.add j = ⟨a.block, a.off + j, none⟩ := by
        intro j
        unfold Addr.add
        split
        · rename_i h0; subst h0; rw [← hsp]; simp
        · rfl
      refine ⟨hsp, fun j u hu => ?_⟩
      have := e0 j u (by rw [hxe]; exact hu)
      rw [hadd, ← Nat.add_assoc] at this
      exact this
    · intro x hx
      obtain ⟨i, hi, rfl⟩ := List.mem_map.1 hx
      have hi' := List.mem_range.1 hi
      obtain ⟨_, g1, g2⟩ := hq i hi'
      have hle : (q i).k.1.size + (q i).p.v.s.size + 1 ≤ (((List.range len0).map q).map fun x => x.k.1.size + x.p.v.s.size + 1).sum := mem_le_sum (List.mem_map.2 ⟨q i, hx, rfl⟩)
      exact ⟨by omega, g2⟩
theorem key_open5 {H : Type} {enc : TypeId × Value → H} {W : World} {base : Nat} {v : Value} {d : DataW H} {p : List MemPlace} (hok : Value.okWide Try.prog W .any base 32 v) (h : DataW.Trod enc Try.prog W 0 (fun _ => true) true 32 v d p) :
    ∃ x : KK, v = keyV x.1 x.2 := by
  obtain ⟨v0, v1, y0, y1, n, rfl, rfl, _, h0, h1⟩ := Go.Joins.open_agg2 Try.underlying32 (by kernel_rfl) cellsKey hok h
  obtain ⟨s, e1, e2, _⟩ := DataW.trod_string Try.underlying30 h0
  obtain ⟨z, e3, e4, _⟩ := DataW.trod_int Try.underlying3 h1
  simp at e1 e3
  subst e1; subst e3
  exact ⟨(s, z), rfl⟩
theorem ops_few {l : List OP} (h : (l.map fun x => x.k.1.size + x.p.v.s.size + 1).sum ≤ 1048576) (hk : ∀ x ∈ l, okK x.k) : fewO l l.length ≤ 4194304 ∧ ∀ x ∈ l, (x.k.1.size ≤ 4194304 ∧ x.p.v.s.size ≤ 4194304) ∧ okK x.k := by
  have h1 : fewO l l.length ≤ (l.map fun x => x.k.1.size + x.p.v.s.size + 1).sum := by
    unfold fewO
    rw [List.take_length]
    clear h hk
    induction l with
    | nil => simp
    | cons a l ih =>
      simp only [List.map_cons, List.sum_cons, List.length_cons]
      unfold fewS at *
      omega
  refine ⟨by omega, fun x hx => ?_⟩
  have : x.k.1.size + x.p.v.s.size + 1 ≤ (l.map fun x => x.k.1.size + x.p.v.s.size + 1).sum := mem_le_sum (List.mem_map.2 ⟨x, hx, rfl⟩)
  exact ⟨⟨by omega, by omega⟩, hk x hx⟩
end Go.Proofs.Ytoccmiinkfhohaa
