/-
  Contracts: The law's do (iterate): an operation of both heaps. A list of operations as an argument; the contract of the law's few (iterate). The laws' example (iterate): its heap, and what is told of it. The contract of the laws' awake (iterate). The laws' state (iterate); the heap after a list's first operations; a list's first elements. Enumerations: no key is told twice (plain law). Enumerations: an operation of both heaps beside one; the state of the law IterateOnce.
-/
import Derived.Test.YtoccmiinkfhohaaOO19
import Derived.Test.YtoccmiinkfhohaaOO18
namespace Go.Proofs.Ytoccmiinkfhohaa
open Go.RowKit Go.Shelf Go.Lib Go.Sort Go.Proofs Go.Maps
set_option linter.unusedVariables false
set_option maxHeartbeats 4000000
set_option maxRecDepth 100000

/-- an operation -/
structure OQ where
  kd : Int
  o : Int
  n : Int
  k : KK
  fl : Int
instance : Inhabited OQ := ⟨⟨0, 0, 0, (⟨#[]⟩, 0), 0⟩⟩
def encQ (x : OQ) : List Value := [.int .i64 x.kd, .int .i64 x.o, .int .i64 x.n, .string x.k.1, .int .i64 x.k.2, .int .i64 x.fl]
def opW (x : OQ) : Value := .agg (encQ x).toArray
def flP (fl : Int) : PV := ⟨zeroVV, zeroVV, zeroVV, fl⟩
/-- what it makes of a heap -/
def opQ (lim : Int) (H : List OB) (x : OQ) : List OB :=
  if x.kd = 0 then makeH true H lim 0 x.o else if x.kd = 1 then putH H lim x.o (pk x.k) (flP x.fl) else if x.kd = 2 then updH H x.o (dropA (pk x.k)) else if x.kd = 3 then setH H x.o x.n else H
theorem opQ_op (lim : Int) (H : List OB) (x : OQ) : opQ lim H x = H ∨ ∃ y : OP, y.k = x.k ∧ opQ lim H x = opH lim H y := by
  unfold opQ opH
  split
  · exact .inr ⟨⟨0, x.o, 0, x.k, zeroPV⟩, rfl, rfl⟩
  · split
    · exact .inr ⟨⟨1, x.o, 0, x.k, flP x.fl⟩, rfl, rfl⟩
    · split
      · exact .inr ⟨⟨2, x.o, 0, x.k, zeroPV⟩, rfl, rfl⟩
      · split
        · exact .inr ⟨⟨3, x.o, x.n, x.k, zeroPV⟩, rfl, rfl⟩
        · exact .inl rfl
theorem opQ_used (lim : Int) (H : List OB) (x : OQ) : usedH (opQ lim H x) ≤ usedH H + 1 := by
  rcases opQ_op lim H x with h | ⟨y, _, h⟩
  · rw [h]; omega
  · rw [h]; exact op_used lim H y
theorem cells6 {y : World} {b : Nat} {t : TypeId} {x : OQ} (h : y.heap[b]? = some (.cells (encQ x).toArray t (0, 0))) :
    y.cell? ⟨b, 0, none⟩ = some (.int .i64 x.kd) ∧ y.cell? ⟨b, 1, none⟩ = some (.int .i64 x.o) ∧ y.cell? ⟨b, 2, none⟩ = some (.int .i64 x.n) ∧ y.cell? ⟨b, 3, none⟩ = some (.string x.k.1) ∧ y.cell? ⟨b, 4, none⟩ = some (.int .i64 x.k.2) ∧ y.cell? ⟨b, 5, none⟩ = some (.int .i64 x.fl) := by
  have hc : ∀ j u, (encQ x)[j]? = some u → y.cell? ⟨b, j, none⟩ = some u := fun j u hu => by rw [cell_of_row _ _ j _ _ _ h]; simpa using hu
  exact ⟨hc 0 _ rfl, hc 1 _ rfl, hc 2 _ rfl, hc 3 _ rfl, hc 4 _ rfl, hc 5 _ rfl⟩
section
variable {w : World} {hb rb B : Nat} {lim : Int} {H : List OB} {f f2 : Nat → Nat}
theorem c_do20_0 (h : Two w hb rb lim B H f f2) (hB1 : 128 ≤ B) (hB : B < 90000) (hu : usedH H ≤ 100000) (x : OQ) (hk : okK x.k) (hkd : x.kd = 0) :
    Calls Try.prog 32 #[ptrV hb, ptrV rb, opW x] w fun e w' => e = .returned (.tuple #[]) ∧ Done w w' hb rb lim (B + 2) (opQ lim H x) f f2 := by
  have hop : opQ lim H x = makeH true H lim 0 x.o := by unfold opQ; simp [hkd]
  rw [hop]
  clear hop
  obtain ⟨W1, hW1⟩ : ∃ W1, w.alloc (.cells (encQ x).toArray 70) = W1 := ⟨_, rfl⟩
  have hb1 : Below w.heap.size w W1 := by rw [← hW1]; exact (Below.refl _ w).alloc (Nat.le_refl _) _
  have d1 : W1.heap[w.heap.size]? = some (.cells (encQ x).toArray 70 (0, 0)) := by rw [← hW1]; exact heap_alloc_new w _
  have g5 := (cells6 d1).2.2.2.2.2
  obtain ⟨hbz, z0⟩ := zeroQ_set W1 (flP x.fl)
  have hth : (W1.alloc (.cells zeroQ 37)).there W1.heap.size 0 (encP (flP x.fl)).toArray.size := zeroQ_there W1
  obtain ⟨W2, hW2⟩ : ∃ W2, (W1.alloc (.cells zeroQ 37)).setCells W1.heap.size 0 (encP (flP x.fl)) = W2 := ⟨_, rfl⟩
  rw [hW2] at hbz z0
  have hb2 := hb1.trans (hbz.mono hb1.size)
  have d0 := (hbz.block _ (heapH_lt d1)).trans d1
  obtain ⟨e0, e1, e2, e3, e4, e5⟩ := cells6 d0
  obtain ⟨v0, v1, v2, v3, v4, v5, v6, v7, v8, v9, v10, v11, v12⟩ := cells13 z0
  have hi13 : (Try.prog.info? 37).map (·.size) = some (encP (flP x.fl)).toArray.size := infoProp
  have ho13 := all_oneCell_toArray (encP_one (flP x.fl))
  have hfr := Lib.hid (show f w.heap.size = 0 ∧ f2 w.heap.size = 0 ∧ w.heap.size < W2.heap.size from ⟨h.1 _ (Nat.le_refl _), h.2.1 _ (Nat.le_refl _), heapH_lt d0⟩)
  have hfz := Lib.hid (show f W1.heap.size = 0 ∧ f2 W1.heap.size = 0 ∧ W1.heap.size < W2.heap.size from ⟨h.1 _ hb1.size, h.2.1 _ hb1.size, heapH_lt z0⟩)
  have hT := h.below hb2
  have h0 := TwoK.refl W2 f f2
  have hfin := fun (y : World) (B' : Nat) (H' : List OB) (hB' : B' ≤ B + 2) (hd : Done W2 y hb rb lim B' H' f f2) => (hd.mono hB').from (TwoK.of_below f f2 hb2)
  have hP := t_HMake hT h0 hu 0 x.o
  have hR := fun (y : World) (hh : Half W2 y hb rb lim B H (makeH true H lim 0 x.o) f f2) => t_RMake 0 x.o hh hu
  generalize makeH true H lim 0 x.o = H' at *
  generalize makeN H lim 0 x.o = vE0 at *
  generalize makeE H lim 0 x.o = vE1 at *
  (try unfold ptrV at hP hR)
  (try unfold keyV at hP hR)
  (try unfold propV at hP hR)
  (try unfold encP at hP hR)
  replace hP := Lib.hid hP
  replace hR := Lib.hid hR
  unfold ptrV opW
  unfold flP encQ at *
  unfold zeroVV at *
  obtain ⟨kd, xo, xn, ⟨k0, kn⟩, fl⟩ := x
  dsimp only at *
  subst hkd
  replace hfin := Lib.hid hfin
  replace z0 := Lib.hid z0
  replace d0 := Lib.hid d0
  replace hW2 := Lib.hid hW2
  have tokD : True := trivial
  clear h hb1 d1 hb2 hbz hT h0 hk hB hB1 hu
  go_enter Try.func32, Try.ntmps32
  go_wp2_with (first | (clear tokD; refine wpList_store_mid rfl 37 (.tmp 6) (.tmp 9) rfl W1.heap.size 0 _ rfl rfl hth hi13 ho13 ?_; generalize hWx : World.setCells _ _ _ _ = Wx; obtain rfl : W2 = Wx := hW2.out.symm.trans hWx; clear hWx g5 hth hi13 ho13 hW1) | (go_at_call 19; go_loud (refine hP.out.mono ?_; rintro e y1 ⟨rfl, hH1⟩); have hc := hH1.cells hfr.out; rw [← hc 1] at e1; clear hc) | (go_at_call 45; refine (hR.out _ hH1).mono ?_; rintro e y2 ⟨rfl, hD1⟩))
  go_end0
  exact ⟨rfl, hfin.out _ _ _ (by omega) hD1⟩
theorem c_do20_1 (h : Two w hb rb lim B H f f2) (hB1 : 128 ≤ B) (hB : B < 90000) (hu : usedH H ≤ 100000) (x : OQ) (hk : okK x.k) (hkd : x.kd = 1) :
    Calls Try.prog 32 #[ptrV hb, ptrV rb, opW x] w fun e w' => e = .returned (.tuple #[]) ∧ Done w w' hb rb lim (B + 2) (opQ lim H x) f f2 := by
  have hop : opQ lim H x = putH H lim x.o (pk x.k) (flP x.fl) := by unfold opQ; simp [hkd]
  rw [hop]
  clear hop
  obtain ⟨W1, hW1⟩ : ∃ W1, w.alloc (.cells (encQ x).toArray 70) = W1 := ⟨_, rfl⟩
  have hb1 : Below w.heap.size w W1 := by rw [← hW1]; exact (Below.refl _ w).alloc (Nat.le_refl _) _
  have d1 : W1.heap[w.heap.size]? = some (.cells (encQ x).toArray 70 (0, 0)) := by rw [← hW1]; exact heap_alloc_new w _
  have g5 := (cells6 d1).2.2.2.2.2
  obtain ⟨hbz, z0⟩ := zeroQ_set W1 (flP x.fl)
  have hth : (W1.alloc (.cells zeroQ 37)).there W1.heap.size 0 (encP (flP x.fl)).toArray.size := zeroQ_there W1
  obtain ⟨W2, hW2⟩ : ∃ W2, (W1.alloc (.cells zeroQ 37)).setCells W1.heap.size 0 (encP (flP x.fl)) = W2 := ⟨_, rfl⟩
  rw [hW2] at hbz z0
  have hb2 := hb1.trans (hbz.mono hb1.size)
  have d0 := (hbz.block _ (heapH_lt d1)).trans d1
  obtain ⟨e0, e1, e2, e3, e4, e5⟩ := cells6 d0
  obtain ⟨v0, v1, v2, v3, v4, v5, v6, v7, v8, v9, v10, v11, v12⟩ := cells13 z0
  have hi13 : (Try.prog.info? 37).map (·.size) = some (encP (flP x.fl)).toArray.size := infoProp
  have ho13 := all_oneCell_toArray (encP_one (flP x.fl))
  have hfr := Lib.hid (show f w.heap.size = 0 ∧ f2 w.heap.size = 0 ∧ w.heap.size < W2.heap.size from ⟨h.1 _ (Nat.le_refl _), h.2.1 _ (Nat.le_refl _), heapH_lt d0⟩)
  have hfz := Lib.hid (show f W1.heap.size = 0 ∧ f2 W1.heap.size = 0 ∧ W1.heap.size < W2.heap.size from ⟨h.1 _ hb1.size, h.2.1 _ hb1.size, heapH_lt z0⟩)
  have hT := h.below hb2
  have h0 := TwoK.refl W2 f f2
  have hfin := fun (y : World) (B' : Nat) (H' : List OB) (hB' : B' ≤ B + 2) (hd : Done W2 y hb rb lim B' H' f f2) => (hd.mono hB').from (TwoK.of_below f f2 hb2)
  have hP := t_HPut hT h0 hB1 hB hu x.o x.k hk (flP x.fl)
  have hR := fun (y : World) (hh : Half W2 y hb rb lim (B + 2) H (putH H lim x.o (pk x.k) (flP x.fl)) f f2) => t_RPut x.o x.k hk (flP x.fl) hh hu
  generalize putH H lim x.o (pk x.k) (flP x.fl) = H' at *
  generalize putE H lim x.o (pk x.k) (flP x.fl) = vE0 at *
  (try unfold ptrV at hP hR)
  (try unfold keyV at hP hR)
  (try unfold propV at hP hR)
  (try unfold encP at hP hR)
  replace hP := Lib.hid hP
  replace hR := Lib.hid hR
  unfold ptrV opW
  unfold flP encQ at *
  unfold zeroVV at *
  obtain ⟨kd, xo, xn, ⟨k0, kn⟩, fl⟩ := x
  dsimp only at *
  subst hkd
  replace hfin := Lib.hid hfin
  replace z0 := Lib.hid z0
  replace d0 := Lib.hid d0
  replace hW2 := Lib.hid hW2
  have tokD : True := trivial
  clear h hb1 d1 hb2 hbz hT h0 hk hB hB1 hu
  go_enter Try.func32, Try.ntmps32
  go_wp2_with (first | (clear tokD; refine wpList_store_mid rfl 37 (.tmp 6) (.tmp 9) rfl W1.heap.size 0 _ rfl rfl hth hi13 ho13 ?_; generalize hWx : World.setCells _ _ _ _ = Wx; obtain rfl : W2 = Wx := hW2.out.symm.trans hWx; clear hWx g5 hth hi13 ho13 hW1) | (go_at_call 27; go_loud (refine hP.out.mono ?_; rintro e y1 ⟨rfl, hH1⟩); have hc := hH1.cells hfr.out; rw [← hc 1] at e1; rw [← hc 3] at e3; rw [← hc 4] at e4; clear hc; have hz := hH1.cells hfz.out; rw [← hz 0] at v0; rw [← hz 1] at v1; rw [← hz 2] at v2; rw [← hz 3] at v3; rw [← hz 4] at v4; rw [← hz 5] at v5; rw [← hz 6] at v6; rw [← hz 7] at v7; rw [← hz 8] at v8; rw [← hz 9] at v9; rw [← hz 10] at v10; rw [← hz 11] at v11; rw [← hz 12] at v12; clear hz) | (go_at_call 46; refine (hR.out _ hH1).mono ?_; rintro e y2 ⟨rfl, hD1⟩))
  go_end0
  exact ⟨rfl, hfin.out _ _ _ (by omega) hD1⟩
theorem c_do20_2 (h : Two w hb rb lim B H f f2) (hB1 : 128 ≤ B) (hB : B < 90000) (hu : usedH H ≤ 100000) (x : OQ) (hk : okK x.k) (hkd : x.kd = 2) :
    Calls Try.prog 32 #[ptrV hb, ptrV rb, opW x] w fun e w' => e = .returned (.tuple #[]) ∧ Done w w' hb rb lim (B + 2) (opQ lim H x) f f2 := by
  have hop : opQ lim H x = updH H x.o (dropA (pk x.k)) := by unfold opQ; simp [hkd]
  rw [hop]
  clear hop
  obtain ⟨W1, hW1⟩ : ∃ W1, w.alloc (.cells (encQ x).toArray 70) = W1 := ⟨_, rfl⟩
  have hb1 : Below w.heap.size w W1 := by rw [← hW1]; exact (Below.refl _ w).alloc (Nat.le_refl _) _
  have d1 : W1.heap[w.heap.size]? = some (.cells (encQ x).toArray 70 (0, 0)) := by rw [← hW1]; exact heap_alloc_new w _
  have g5 := (cells6 d1).2.2.2.2.2
  obtain ⟨hbz, z0⟩ := zeroQ_set W1 (flP x.fl)
  have hth : (W1.alloc (.cells zeroQ 37)).there W1.heap.size 0 (encP (flP x.fl)).toArray.size := zeroQ_there W1
  obtain ⟨W2, hW2⟩ : ∃ W2, (W1.alloc (.cells zeroQ 37)).setCells W1.heap.size 0 (encP (flP x.fl)) = W2 := ⟨_, rfl⟩
  rw [hW2] at hbz z0
  have hb2 := hb1.trans (hbz.mono hb1.size)
  have d0 := (hbz.block _ (heapH_lt d1)).trans d1
  obtain ⟨e0, e1, e2, e3, e4, e5⟩ := cells6 d0
  obtain ⟨v0, v1, v2, v3, v4, v5, v6, v7, v8, v9, v10, v11, v12⟩ := cells13 z0
  have hi13 : (Try.prog.info? 37).map (·.size) = some (encP (flP x.fl)).toArray.size := infoProp
  have ho13 := all_oneCell_toArray (encP_one (flP x.fl))
  have hfr := Lib.hid (show f w.heap.size = 0 ∧ f2 w.heap.size = 0 ∧ w.heap.size < W2.heap.size from ⟨h.1 _ (Nat.le_refl _), h.2.1 _ (Nat.le_refl _), heapH_lt d0⟩)
  have hfz := Lib.hid (show f W1.heap.size = 0 ∧ f2 W1.heap.size = 0 ∧ W1.heap.size < W2.heap.size from ⟨h.1 _ hb1.size, h.2.1 _ hb1.size, heapH_lt z0⟩)
  have hT := h.below hb2
  have h0 := TwoK.refl W2 f f2
  have hfin := fun (y : World) (B' : Nat) (H' : List OB) (hB' : B' ≤ B + 2) (hd : Done W2 y hb rb lim B' H' f f2) => (hd.mono hB').from (TwoK.of_below f f2 hb2)
  have hP := t_HDrop hT h0 hB1 (by omega) hu x.o x.k hk
  have hR := fun (y : World) (hh : Half W2 y hb rb lim B H (updH H x.o (dropA (pk x.k))) f f2) => t_RDrop x.o x.k hk hh hu
  generalize updH H x.o (dropA (pk x.k)) = H' at *
  generalize dropB H x.o (pk x.k) = vE0 at *
  (try unfold ptrV at hP hR)
  (try unfold keyV at hP hR)
  (try unfold propV at hP hR)
  (try unfold encP at hP hR)
  replace hP := Lib.hid hP
  replace hR := Lib.hid hR
  unfold ptrV opW
  unfold flP encQ at *
  unfold zeroVV at *
  obtain ⟨kd, xo, xn, ⟨k0, kn⟩, fl⟩ := x
  dsimp only at *
  subst hkd
  replace hfin := Lib.hid hfin
  replace z0 := Lib.hid z0
  replace d0 := Lib.hid d0
  replace hW2 := Lib.hid hW2
  have tokD : True := trivial
  clear h hb1 d1 hb2 hbz hT h0 hk hB hB1 hu
  go_enter Try.func32, Try.ntmps32
  go_wp2_with (first | (clear tokD; refine wpList_store_mid rfl 37 (.tmp 6) (.tmp 9) rfl W1.heap.size 0 _ rfl rfl hth hi13 ho13 ?_; generalize hWx : World.setCells _ _ _ _ = Wx; obtain rfl : W2 = Wx := hW2.out.symm.trans hWx; clear hWx g5 hth hi13 ho13 hW1) | (go_at_call 28; go_loud (refine hP.out.mono ?_; rintro e y1 ⟨rfl, hH1⟩); have hc := hH1.cells hfr.out; rw [← hc 1] at e1; rw [← hc 3] at e3; rw [← hc 4] at e4; clear hc) | (go_at_call 47; refine (hR.out _ hH1).mono ?_; rintro e y2 ⟨rfl, hD1⟩))
  go_end0
  exact ⟨rfl, hfin.out _ _ _ (by omega) hD1⟩
theorem c_do20_3 (h : Two w hb rb lim B H f f2) (hB1 : 128 ≤ B) (hB : B < 90000) (hu : usedH H ≤ 100000) (x : OQ) (hk : okK x.k) (hkd : x.kd = 3) :
    Calls Try.prog 32 #[ptrV hb, ptrV rb, opW x] w fun e w' => e = .returned (.tuple #[]) ∧ Done w w' hb rb lim (B + 2) (opQ lim H x) f f2 := by
  have hop : opQ lim H x = setH H x.o x.n := by unfold opQ; simp [hkd]
  rw [hop]
  clear hop
  obtain ⟨W1, hW1⟩ : ∃ W1, w.alloc (.cells (encQ x).toArray 70) = W1 := ⟨_, rfl⟩
  have hb1 : Below w.heap.size w W1 := by rw [← hW1]; exact (Below.refl _ w).alloc (Nat.le_refl _) _
  have d1 : W1.heap[w.heap.size]? = some (.cells (encQ x).toArray 70 (0, 0)) := by rw [← hW1]; exact heap_alloc_new w _
  have g5 := (cells6 d1).2.2.2.2.2
  obtain ⟨hbz, z0⟩ := zeroQ_set W1 (flP x.fl)
  have hth : (W1.alloc (.cells zeroQ 37)).there W1.heap.size 0 (encP (flP x.fl)).toArray.size := zeroQ_there W1
  obtain ⟨W2, hW2⟩ : ∃ W2, (W1.alloc (.cells zeroQ 37)).setCells W1.heap.size 0 (encP (flP x.fl)) = W2 := ⟨_, rfl⟩
  rw [hW2] at hbz z0
  have hb2 := hb1.trans (hbz.mono hb1.size)
  have d0 := (hbz.block _ (heapH_lt d1)).trans d1
  obtain ⟨e0, e1, e2, e3, e4, e5⟩ := cells6 d0
  obtain ⟨v0, v1, v2, v3, v4, v5, v6, v7, v8, v9, v10, v11, v12⟩ := cells13 z0
  have hi13 : (Try.prog.info? 37).map (·.size) = some (encP (flP x.fl)).toArray.size := infoProp
  have ho13 := all_oneCell_toArray (encP_one (flP x.fl))
  have hfr := Lib.hid (show f w.heap.size = 0 ∧ f2 w.heap.size = 0 ∧ w.heap.size < W2.heap.size from ⟨h.1 _ (Nat.le_refl _), h.2.1 _ (Nat.le_refl _), heapH_lt d0⟩)
  have hfz := Lib.hid (show f W1.heap.size = 0 ∧ f2 W1.heap.size = 0 ∧ W1.heap.size < W2.heap.size from ⟨h.1 _ hb1.size, h.2.1 _ hb1.size, heapH_lt z0⟩)
  have hT := h.below hb2
  have h0 := TwoK.refl W2 f f2
  have hfin := fun (y : World) (B' : Nat) (H' : List OB) (hB' : B' ≤ B + 2) (hd : Done W2 y hb rb lim B' H' f f2) => (hd.mono hB').from (TwoK.of_below f f2 hb2)
  have hP := t_HSetProto hT h0 x.o x.n
  have hR := fun (y : World) (hh : Half W2 y hb rb lim B H (setH H x.o x.n) f f2) => t_RSetProto x.o x.n hh
  generalize setH H x.o x.n = H' at *
  generalize setE H x.o x.n = vE0 at *
  (try unfold ptrV at hP hR)
  (try unfold keyV at hP hR)
  (try unfold propV at hP hR)
  (try unfold encP at hP hR)
  replace hP := Lib.hid hP
  replace hR := Lib.hid hR
  unfold ptrV opW
  unfold flP encQ at *
  unfold zeroVV at *
  obtain ⟨kd, xo, xn, ⟨k0, kn⟩, fl⟩ := x
  dsimp only at *
  subst hkd
  replace hfin := Lib.hid hfin
  replace z0 := Lib.hid z0
  replace d0 := Lib.hid d0
  replace hW2 := Lib.hid hW2
  have tokD : True := trivial
  clear h hb1 d1 hb2 hbz hT h0 hk hB hB1 hu
  go_enter Try.func32, Try.ntmps32
  go_wp2_with (first | (clear tokD; refine wpList_store_mid rfl 37 (.tmp 6) (.tmp 9) rfl W1.heap.size 0 _ rfl rfl hth hi13 ho13 ?_; generalize hWx : World.setCells _ _ _ _ = Wx; obtain rfl : W2 = Wx := hW2.out.symm.trans hWx; clear hWx g5 hth hi13 ho13 hW1) | (go_at_call 24; go_loud (refine hP.out.mono ?_; rintro e y1 ⟨rfl, hH1⟩); have hc := hH1.cells hfr.out; rw [← hc 1] at e1; rw [← hc 2] at e2; clear hc) | (go_at_call 48; refine (hR.out _ hH1).mono ?_; rintro e y2 ⟨rfl, hD1⟩))
  go_end0
  exact ⟨rfl, hfin.out _ _ _ (by omega) hD1⟩
theorem c_do20_4 (h : Two w hb rb lim B H f f2) (hB1 : 128 ≤ B) (hB : B < 90000) (hu : usedH H ≤ 100000) (x : OQ) (hk : okK x.k) (hkd : x.kd ≠ 0 ∧ x.kd ≠ 1 ∧ x.kd ≠ 2 ∧ x.kd ≠ 3) :
    Calls Try.prog 32 #[ptrV hb, ptrV rb, opW x] w fun e w' => e = .returned (.tuple #[]) ∧ Done w w' hb rb lim (B + 2) (opQ lim H x) f f2 := by
  have hop : opQ lim H x = H := by unfold opQ; rw [if_neg hkd.1, if_neg hkd.2.1, if_neg hkd.2.2.1, if_neg hkd.2.2.2]
  rw [hop]
  clear hop
  obtain ⟨W1, hW1⟩ : ∃ W1, w.alloc (.cells (encQ x).toArray 70) = W1 := ⟨_, rfl⟩
  have hb1 : Below w.heap.size w W1 := by rw [← hW1]; exact (Below.refl _ w).alloc (Nat.le_refl _) _
  have d1 : W1.heap[w.heap.size]? = some (.cells (encQ x).toArray 70 (0, 0)) := by rw [← hW1]; exact heap_alloc_new w _
  have g5 := (cells6 d1).2.2.2.2.2
  obtain ⟨hbz, z0⟩ := zeroQ_set W1 (flP x.fl)
  have hth : (W1.alloc (.cells zeroQ 37)).there W1.heap.size 0 (encP (flP x.fl)).toArray.size := zeroQ_there W1
  obtain ⟨W2, hW2⟩ : ∃ W2, (W1.alloc (.cells zeroQ 37)).setCells W1.heap.size 0 (encP (flP x.fl)) = W2 := ⟨_, rfl⟩
  rw [hW2] at hbz z0
  have hb2 := hb1.trans (hbz.mono hb1.size)
  have d0 := (hbz.block _ (heapH_lt d1)).trans d1
  obtain ⟨e0, e1, e2, e3, e4, e5⟩ := cells6 d0
  obtain ⟨v0, v1, v2, v3, v4, v5, v6, v7, v8, v9, v10, v11, v12⟩ := cells13 z0
  have hi13 : (Try.prog.info? 37).map (·.size) = some (encP (flP x.fl)).toArray.size := infoProp
  have ho13 := all_oneCell_toArray (encP_one (flP x.fl))
  have hfr := Lib.hid (show f w.heap.size = 0 ∧ f2 w.heap.size = 0 ∧ w.heap.size < W2.heap.size from ⟨h.1 _ (Nat.le_refl _), h.2.1 _ (Nat.le_refl _), heapH_lt d0⟩)
  have hfz := Lib.hid (show f W1.heap.size = 0 ∧ f2 W1.heap.size = 0 ∧ W1.heap.size < W2.heap.size from ⟨h.1 _ hb1.size, h.2.1 _ hb1.size, heapH_lt z0⟩)
  have hT := h.below hb2
  have h0 := TwoK.refl W2 f f2
  have hfin := fun (y : World) (B' : Nat) (H' : List OB) (hB' : B' ≤ B + 2) (hd : Done W2 y hb rb lim B' H' f f2) => (hd.mono hB').from (TwoK.of_below f f2 hb2)
  have hD1 : Done W2 W2 hb rb lim B H f f2 := ⟨f, f2, hT, h0⟩
  replace hD1 := Lib.hid hD1
  unfold ptrV opW
  unfold flP encQ at *
  unfold zeroVV at *
  obtain ⟨kd, xo, xn, ⟨k0, kn⟩, fl⟩ := x
  dsimp only at *
  obtain ⟨k0', k1', k2', k3'⟩ := hkd
  replace hfin := Lib.hid hfin
  replace z0 := Lib.hid z0
  replace d0 := Lib.hid d0
  replace hW2 := Lib.hid hW2
  have tokD : True := trivial
  clear h hb1 d1 hb2 hbz hT h0 hk hB hB1 hu
  go_enter Try.func32, Try.ntmps32
  go_wp2_with (first | (clear tokD; refine wpList_store_mid rfl 37 (.tmp 6) (.tmp 9) rfl W1.heap.size 0 _ rfl rfl hth hi13 ho13 ?_; generalize hWx : World.setCells _ _ _ _ = Wx; obtain rfl : W2 = Wx := hW2.out.symm.trans hWx; clear hWx g5 hth hi13 ho13 hW1))
  go_end0
  exact ⟨rfl, hfin.out _ _ _ (by omega) hD1.out⟩
theorem c_do20 (h : Two w hb rb lim B H f f2) (hB1 : 128 ≤ B) (hB : B < 90000) (hu : usedH H ≤ 100000) (x : OQ) (hk : okK x.k) :
    Calls Try.prog 32 #[ptrV hb, ptrV rb, opW x] w fun e w' => e = .returned (.tuple #[]) ∧ Done w w' hb rb lim (B + 2) (opQ lim H x) f f2 := by
  by_cases h0 : x.kd = 0
  · exact c_do20_0 h hB1 hB hu x hk h0
  by_cases h1 : x.kd = 1
  · exact c_do20_1 h hB1 hB hu x hk h1
  by_cases h2 : x.kd = 2
  · exact c_do20_2 h hB1 hB hu x hk h2
  by_cases h3 : x.kd = 3
  · exact c_do20_3 h hB1 hB hu x hk h3
  exact c_do20_4 h hB1 hB hu x hk ⟨h0, h1, h2, h3⟩
end
end Go.Proofs.Ytoccmiinkfhohaa
namespace Go.Proofs.Ytoccmiinkfhohaa
open Go.RowKit Go.Shelf Go.Lib Go.Sort Go.Proofs Go.Maps
set_option linter.unusedVariables false
set_option maxHeartbeats 4000000
set_option maxRecDepth 100000

theorem encQ_one (x : OQ) : ∀ u ∈ encQ x, u.oneCell' = true := by simp [encQ, Value.oneCell']
theorem infoOq : (Try.prog.info? 70).map (·.size) = some 6 := by kernel_rfl
/-- v reads as the list l -/
def RdQ (w : World) (v : Value) (l : List OQ) : Prop :=
  (v = .slice none 0 0 ∧ l = []) ∨ ∃ p c, v = .slice (some p) l.length c ∧ l.length ≤ c ∧ ∀ k x, l[k]? = some x → p.spot = none ∧ w.rangeAt p.block (p.off + k * 6) (encQ x)
theorem RdQ.form {w : World} {v : Value} {l : List OQ} (h : RdQ w v l) : ∃ p c, v = .slice p l.length c ∧ l.length ≤ c ∧
    ∀ k x, l[k]? = some x → ∃ b o, p = some ⟨b, o, none⟩ ∧ b < w.heap.size ∧ ∀ y, Below w.heap.size w y → y.rangeAt b (o + k * 6) (encQ x) := by
  rcases h with ⟨rfl, rfl⟩ | ⟨p, c, rfl, hl, hc⟩
  · exact ⟨none, 0, rfl, Nat.le_refl _, fun k x hx => by simp at hx⟩
  · refine ⟨some p, c, rfl, hl, fun k x hx => ?_⟩
    obtain ⟨h1, h2⟩ := hc k x hx
    obtain ⟨b, o, sp⟩ := p
    dsimp only at *
    subst h1
    have hlt : b < w.heap.size := cell_lt (h2 0 _ rfl)
    exact ⟨b, o, rfl, hlt, fun y hy => range_at h2 (hy.block b hlt)⟩
def fewT (x : OQ) : Nat := x.k.1.size / 20
def fewQ (l : List OQ) (k : Nat) : Nat := l.length + ((l.take k).map fewT).sum
theorem fewQ_next {l : List OQ} {k : Nat} {x : OQ} (h : l[k]? = some x) : fewQ l (k + 1) = fewQ l k + fewT x := by
  unfold fewQ
  have hlt : k < l.length := (List.getElem?_eq_some_iff.1 h).1
  rw [List.take_succ_eq_append_getElem hlt, List.map_append, List.sum_append]
  have : l[k] = x := (List.getElem?_eq_some_iff.1 h).2
  simp [this]
  omega
theorem fewQ_mono (l : List OQ) {j k : Nat} (h : j ≤ k) : fewQ l j ≤ fewQ l k := by
  unfold fewQ
  obtain ⟨d, rfl⟩ := Nat.exists_eq_add_of_le h
  rw [List.take_add, List.map_append, List.sum_append]
  omega
def zeroOq : Array Value := #[.int .i64 0, .int .i64 0, .int .i64 0, .string ⟨#[]⟩, .int .i64 0, .int .i64 0]
theorem zeroOq_there (w : World) : (w.alloc (.cells zeroOq 70)).there w.heap.size 0 6 := there_of (heap_alloc_new w _) (Nat.le_refl 6)
theorem fresh_cellsQ {w : World} (x : OQ) : Below w.heap.size w ((w.alloc (.cells zeroOq 70)).setCells w.heap.size 0 (encQ x)) ∧ ((w.alloc (.cells zeroOq 70)).setCells w.heap.size 0 (encQ x)).heap[w.heap.size]? = some (.cells (encQ x).toArray 70 (0, 0)) := by
  obtain ⟨h1, h2, _⟩ := fresh_set (w := w) (o := zeroOq) (t := 70) (vs := encQ x) rfl
  exact ⟨h1, h2⟩
theorem c_few20 (v : Value) (l : List OQ) (hs : fewQ l l.length ≤ 4194304) (hz : ∀ x ∈ l, x.k.1.size ≤ 4194304) (w : World) (h : RdQ w v l) :
    Calls Try.prog 31 #[v] w fun e w' => e = .returned (.bool (decide (fewQ l l.length ≤ 300))) ∧ Below w.heap.size w w' := by
  obtain ⟨p, c, rfl, hlc, hL⟩ := h.form
  have hlen : l.length ≤ 4194304 := Nat.le_trans (Nat.le_add_right _ _) hs
  have h00 : fewQ l 0 = l.length := by simp [fewQ]
  replace h00 := Lib.hid h00
  replace hL := Lib.hid hL
  replace hz := Lib.hid hz
  clear h
  go_enter Try.func31, Try.ntmps31
  go_wp2
  go_loopw [3, 10] (fun vn vi wr => ∃ i : Nat, i ≤ l.length ∧ vi = .int .i64 (i : Int) ∧ vn = .int .i64 (fewQ l i : Int) ∧ Below w.heap.size w wr) (fun _ vi _ => l.length - (intOf vi).toNat)
  case atStart => exact ⟨0, by omega, rfl, by rw [h00.out], Below.refl _ _⟩
  case round =>
    obtain ⟨i, hi, rfl, rfl, hbel⟩ := hrel
    rcases Nat.lt_or_ge i l.length with hlt | hge
    · obtain ⟨x, hx⟩ : ∃ x, l[i]? = some x := ⟨_, List.getElem?_eq_getElem hlt⟩
      obtain ⟨b, o, rfl, lb, hrg⟩ := hL.out i x hx
      replace hrg := hrg wr hbel
      have hi6 : (Try.prog.info? 70).map (·.size) = some (encQ x).length := infoOq
      have hj6 : (Try.prog.info? 70).map (·.size) = some (encQ x).toArray.size := infoOq
      have ho6 := all_oneCell_toArray (encQ_one x)
      have q1 : (0 : Int) ≤ (i : Int) := by omega
      have q2 : (i : Int) < (l.length : Int) := by omega
      obtain ⟨hfb, hfh⟩ := fresh_cellsQ (w := wr) x
      have hth : (wr.alloc (.cells zeroOq 70)).there wr.heap.size 0 (encQ x).toArray.size := zeroOq_there wr
      have hx1 := hz.out x (List.mem_of_getElem? hx)
      have hnx := fewQ_next hx
      have hmo := fewQ_mono l (j := i + 1) (k := l.length) hlt
      have e3 : ((wr.alloc (.cells zeroOq 70)).setCells wr.heap.size 0 (encQ x)).cell? ⟨wr.heap.size, 3, none⟩ = some (.string x.k.1) := by rw [cell_of_row _ _ 3 _ _ _ hfh]; rfl
      unfold fewT at hnx
      have hd : (x.k.1.size : Int) / 20 = ((x.k.1.size / 20 : Nat) : Int) := by omega
      have hw2 : IntKind.i64.wrap ((fewQ l i : Int) + ((x.k.1.size / 20 : Nat) : Int)) = (fewQ l (i + 1) : Int) := by rw [IntKind.wrap_i64]; omega
      have hfin : (fewQ l i : Int) + ((x.k.1.size / 20 : Nat) : Int) = (fewQ l (i + 1) : Int) := by omega
      replace hfb := Lib.hid hfb
      replace hbel := Lib.hid hbel
      replace hfin := Lib.hid (show wrap64 ((fewQ l i : Int) + (x.k.1.size : Int) / 20) = (fewQ l (i + 1) : Int) by rw [hd, hfin]; unfold wrap64; omega)
      clear hx hfh hnx hmo hw2 hd
      generalize encQ x = E at *
      have tokA : True := trivial
      have tokB : True := trivial
      go_wp2_with (first | (clear tokA; refine wpList_load_mid rfl 70 (.tmp 12) rfl b (o + i * 6) rfl E _ hrg Try.underlying70 rfl hi6 ?_) | (clear tokB; refine wpList_store_mid rfl 70 (.tmp 5) (.tmp 13) rfl wr.heap.size 0 E.toArray rfl rfl hth hj6 ho6 ?_; generalize hW4 : World.setCells _ _ _ _ = W4; rw [show (wr.alloc (.cells zeroOq 70)).setCells wr.heap.size 0 E = W4 from hW4] at hfb e3; clear hW4 hth hrg))
      refine ⟨⟨i + 1, by omega, by go_num, ?_, hbel.out.trans (hfb.out.mono hbel.out.size)⟩, by simp [intOf]; omega⟩
      rw [hfin.out]
    · obtain rfl : i = l.length := by omega
      clear hi hge
      go_wp2
      go_ret
      exact ⟨ret_bool (by rw [Bool.eq_iff_iff]; simp; omega), hbel⟩
end Go.Proofs.Ytoccmiinkfhohaa
namespace Go.Proofs.Ytoccmiinkfhohaa
open Go.RowKit Go.Shelf Go.Lib Go.Sort Go.Proofs Go.Maps
set_option linter.unusedVariables false
set_option maxHeartbeats 4000000
set_option maxRecDepth 100000

def kc : KK := (tx [99], 0)
def ka : KK := (tx [97], 0)
def p5 : PV := ⟨zeroVV, zeroVV, zeroVV, 5⟩
def ai1 : List OB := makeH true [] 50 0 0
def ai2 : List OB := makeH true ai1 50 0 1
def ai3 : List OB := putH ai2 50 1 (pk kb) p7
def ai4 : List OB := putH ai3 50 1 (pk kc) p7
def ai5 : List OB := putH ai4 50 2 (pk k2) p7
def ai6 : List OB := putH ai5 50 2 (pk kb) p5
def ai7 : List OB := putH ai6 50 2 (pk ka) p7
theorem kc_ok : okK kc := by unfold okK; exact ⟨by decide +kernel, by decide +kernel⟩
theorem ka_ok : okK ka := by unfold okK; exact ⟨by decide +kernel, by decide +kernel⟩
theorem ai_u0 : usedH ([] : List OB) ≤ 100000 := by decide +kernel
theorem ai_u1 : usedH ai1 ≤ 100000 := by decide +kernel
theorem ai_u2 : usedH ai2 ≤ 100000 := by decide +kernel
theorem ai_u3 : usedH ai3 ≤ 100000 := by decide +kernel
theorem ai_u4 : usedH ai4 ≤ 100000 := by decide +kernel
theorem ai_u5 : usedH ai5 ≤ 100000 := by decide +kernel
theorem ai_u6 : usedH ai6 ≤ 100000 := by decide +kernel
theorem ai_u7 : usedH ai7 ≤ 100000 := by decide +kernel
theorem ai_gk2 : gk (listH ai7 2) = [pk k2, pk kb, pk ka] := by decide +kernel
theorem ai_gk1 : gk (listH ai7 1) = [pk kb, pk kc] := by decide +kernel
theorem ai_gk0 : gk (listH ai7 0) = [] := by decide +kernel
theorem rkc : rk kc = 4294967296 := by decide +kernel
theorem rka : rk ka = 4294967296 := by decide +kernel
theorem ai_ko2 : KeysOf [pk k2, pk kb, pk ka] [k2, kb, ka] := by
  refine ⟨[k2, kb, ka], rfl, by simp [Srt, rkb, rk2, rka], Eqv.refl _, ?_⟩
  intro x hx
  simp at hx
  rcases hx with rfl | rfl | rfl
  · exact k2_ok
  · exact kb_ok
  · exact ka_ok
theorem ai_ko1 : KeysOf [pk kb, pk kc] [kb, kc] := by
  refine ⟨[kb, kc], rfl, by simp [Srt, rkb, rkc], Eqv.refl _, ?_⟩
  intro x hx
  simp at hx
  rcases hx with rfl | rfl
  · exact kb_ok
  · exact kc_ok
theorem ai_k2 : keysH ai7 2 = [pk k2, pk kb, pk ka] := by
  unfold keysH
  rw [ai_gk2]
  exact (ordK_eq ai_ko2).symm
theorem ai_k1 : keysH ai7 1 = [pk kb, pk kc] := by
  unfold keysH
  rw [ai_gk1]
  exact (ordK_eq ai_ko1).symm
theorem ai_k0 : keysH ai7 0 = [] := by
  unfold keysH
  rw [ai_gk0]
  exact (ordK_eq KeysOf.nil).symm
theorem ai_own : ownF ai7 2 = [pk k2, pk ka] := by
  unfold ownF
  rw [ai_k2]
  decide +kernel
theorem ai_all : allF ai7 999 2 [] = [pk k2, pk ka, pk kc] := by
  have h1 : proZ ai7 2 = 1 := by decide +kernel
  have h2 : proZ ai7 1 = 0 := by decide +kernel
  have h3 : hasH ai7 2 = true := by decide +kernel
  have h4 : hasH ai7 1 = true := by decide +kernel
  have h5 : hasH ai7 0 = false := by decide +kernel
  have f2 : List.filter (toldB ai7 2 []) [pk k2, pk kb, pk ka] = [pk k2, pk ka] := by decide +kernel
  have f1 : List.filter (toldB ai7 1 ([] ++ [pk k2, pk kb, pk ka])) [pk kb, pk kc] = [pk kc] := by decide +kernel
  rw [show 999 = 998 + 1 from rfl, allF, ai_k2, f2, h3, if_pos rfl, h1, show 998 = 997 + 1 from rfl, allF, ai_k1, f1, h4, if_pos rfl, h2, show 997 = 996 + 1 from rfl, allF, ai_k0, h5]
  rfl
/-- the heap of the example; K: blocks that are not its -/
def AwJ (w0 : World) (hb : Nat) (K : Nat → Obj → Prop) (B : Nat) (H : List OB) (w : World) : Prop := ∃ f, Norm f w ∧ HeapO w f hb 50 (usedH H) B H ∧ Below w0.heap.size w0 w ∧ (∀ r, r < w0.heap.size → f r = 0) ∧ ∀ b o, K b o → w.heap[b]? = some o ∧ f b = 0
section
variable {w0 w w' : World} {hb B : Nat} {K : Nat → Obj → Prop} {H : List OB}
theorem AwJ.keep (h : AwJ w0 hb K B H w) (hb' : Below w.heap.size w w') : AwJ w0 hb K B H w' := by
  obtain ⟨f, h1, h2, h3, h4, h5⟩ := h
  exact ⟨f, fun r hr => h1 r (Nat.le_trans hb'.size hr), h2.below h1 hb', h3.trans (hb'.mono h3.size), h4, fun b o hK => ⟨(hb'.block b (heapH_lt (h5 b o hK).1)).trans (h5 b o hK).1, (h5 b o hK).2⟩⟩
theorem AwJ.step {B' : Nat} {H' : List OB} {f : Nat → Nat} (h3 : Below w0.heap.size w0 w) (h4 : ∀ r, r < w0.heap.size → f r = 0) (h5 : ∀ b o, K b o → w.heap[b]? = some o ∧ f b = 0) (ht : HeapT w f hb 50 (usedH H') B' H' w') : AwJ w0 hb K B' H' w' := by
  obtain ⟨f', t1, t2⟩ := ht
  refine ⟨f', t1.norm, t2, h3.trans (t1.below h3.size fun r hr h => h.2 (h4 r hr)), fun r hr => ?_, fun b o hK => ?_⟩
  · rw [t1.agree r (Nat.lt_of_lt_of_le hr h3.size)]
    exact h4 r hr
  · obtain ⟨g1, g2⟩ := h5 b o hK
    exact ⟨(t1.block b (heapH_lt g1) (fun h => h.2 g2)).trans g1, by rw [t1.agree b (heapH_lt g1)]; exact g2⟩
theorem AwJ.watch {c : Nat} {ob : Obj} (h : AwJ w0 hb (fun _ _ => False) B H w) (hb' : Below w.heap.size w w') (hc : w.heap.size ≤ c) (ho : w'.heap[c]? = some ob) : AwJ w0 hb (fun b o => b = c ∧ o = ob) B H w' := by
  obtain ⟨f, h1, h2, h3, h4, h5⟩ := h
  refine ⟨f, fun r hr => h1 r (Nat.le_trans hb'.size hr), h2.below h1 hb', h3.trans (hb'.mono h3.size), h4, ?_⟩
  rintro b o ⟨rfl, rfl⟩
  exact ⟨ho, h1 _ hc⟩
theorem AwJ.base (h : AwJ w0 hb K B H w) : Below w0.heap.size w0 w := by
  obtain ⟨f, h1, h2, h3, _⟩ := h
  exact h3
theorem AwJ.held {c : Nat} {ob : Obj} (h : AwJ w0 hb K B H w) (hK : K c ob) : w.heap[c]? = some ob := by
  obtain ⟨f, h1, h2, h3, h4, h5⟩ := h
  exact (h5 c ob hK).1
theorem AwJ.cells {c : Nat} {ob : Obj} {W y : World} (hW : W.heap[c]? = some ob) (h : AwJ w0 hb (fun b o => b = c ∧ o = ob) B H y) : ∀ i : Nat, y.cell? ⟨c, i, none⟩ = W.cell? ⟨c, i, none⟩ :=
  fun i => World.cell?_of_block (w := W) (a := ⟨c, i, none⟩) ((h.held ⟨rfl, rfl⟩).trans hW.symm)
theorem AwJ.ein (h : AwJ w0 hb K B H w) : Ein.LawS w0 w hb 0 50 B H := by
  obtain ⟨f, h1, h2, h3, h4, h5⟩ := h
  exact ⟨f, fun _ => 0, ⟨h1, fun _ _ => rfl, h2, trivial, fun r hr => absurd rfl hr⟩, h3, fun r hr => ⟨h4 r hr, rfl⟩⟩
theorem aj_new (w : World) : Calls Try.prog 10 #[.int .i64 50] w fun e w' => ∃ hb, e = .returned (.pointer (some ⟨hb, 0, none⟩)) ∧ AwJ w hb (fun _ _ => False) 128 [] w' := by
  refine (c_Hnew (f := fun _ => 0) (fun _ _ => rfl) 50).mono ?_
  rintro e w' ⟨hb, f', rfl, t1, t2⟩
  exact ⟨hb, rfl, f', t1.norm, t2, t1.below (Nat.le_refl _) (fun _ _ h => h), fun r hr => t1.agree r hr, fun _ _ h => h.elim⟩
theorem aj_make (h : AwJ w0 hb K B H w) (hu : usedH H ≤ 100000) (c p : Int) : Calls Try.prog 19 #[.pointer (some ⟨hb, 0, none⟩), .int .i64 c, .int .i64 p] w fun e w' => e = .returned (.tuple #[.int .i64 (makeN H 50 c p), .int .i64 (makeE H 50 c p)]) ∧ AwJ w0 hb K B (makeH true H 50 c p) w' := by
  obtain ⟨f, h1, h2, h3, h4, h5⟩ := h
  refine (c_HMake h1 h2 hu c p).mono ?_
  rintro e w' ⟨rfl, ht⟩
  exact ⟨rfl, AwJ.step h3 h4 h5 ht⟩
theorem aj_put (h : AwJ w0 hb K B H w) (hB1 : 128 ≤ B) (hB : B < 90000) (hu : usedH H ≤ 100000) (o : Int) (k : KK) (hk : okK k) (p : PV) : Calls Try.prog 27 #[.pointer (some ⟨hb, 0, none⟩), .int .i64 o, keyV k.1 k.2, propV p] w fun e w' => e = .returned (.int .i64 (putE H 50 o (pk k) p)) ∧ AwJ w0 hb K (B + 2) (putH H 50 o (pk k) p) w' := by
  obtain ⟨f, h1, h2, h3, h4, h5⟩ := h
  refine (c_HPut h1 h2 hB1 hB hu o k hk p).mono ?_
  rintro e w' ⟨rfl, ht⟩
  exact ⟨rfl, AwJ.step h3 h4 h5 ht⟩
end
/-- all keys of the second object -/
theorem aj_keys {w0 w : World} {hb B : Nat} {K : Nat → Obj → Prop} (h : AwJ w0 hb K B ai7 w) (hB1 : 128 ≤ B) (hB : B ≤ 100000) : Calls Try.prog 34 #[.pointer (some ⟨hb, 0, none⟩), .int .i64 2] w fun e w' => ∃ (b o c : Nat) (x y z : KK), e = .returned (.slice (some ⟨b, o, none⟩) 3 c) ∧ (b < w'.heap.size ∧ ∀ v, Below w'.heap.size w' v → (v.cell? ⟨b, o, none⟩ = some (.string x.1) ∧ v.cell? ⟨b, o + 1, none⟩ = some (.int .i64 x.2)) ∧ v.cell? ⟨b, o + 4, none⟩ = some (.string z.1) ∧ v.cell? ⟨b, o + 5, none⟩ = some (.int .i64 z.2)) ∧ (okK x ∧ okK z ∧ pk x = pk k2 ∧ pk z = pk kc) ∧ Below w.heap.size w w' := by
  refine (Ein.c_IKeys h.ein hB1 hB ai_u7 2).mono ?_
  rintro e w' ⟨v, Z, rfl, hr, hok, hZ, hb'⟩
  rw [ai_all] at hZ
  obtain ⟨x, y, z, rfl⟩ : ∃ x y z, Z = [x, y, z] := by
    have h2 := congrArg List.length hZ
    simp at h2
    match Z, h2 with
    | [x, y, z], _ => exact ⟨x, y, z, rfl⟩
  obtain ⟨p, c, rfl, _, hc, hcell⟩ := hr.form
  obtain ⟨b, o, rfl, lb, h0⟩ := hcell 0 x rfl
  obtain ⟨b2, o2, e2, _, h2⟩ := hcell 2 z rfl
  injection e2 with e2
  injection e2 with e2 e3
  subst e2 e3
  simp at hZ
  refine ⟨b, o, c, x, y, z, rfl, ⟨lb, fun v hv => ⟨by simpa using h0 v hv, by simpa using h2 v hv⟩⟩, ⟨hok x (by simp), hok z (by simp), hZ.1, hZ.2.2⟩, hb'⟩
/-- how many of its own are told -/
theorem aj_own {w00 w : World} {hb rb B : Nat} {lim : Int} (h : Ein.LawS w00 w hb rb lim B ai7) (hB1 : 128 ≤ B) (hB : B ≤ 100000) : Calls Try.prog 33 #[.pointer (some ⟨hb, 0, none⟩), .int .i64 2] w fun e w' => ∃ p c, e = .returned (.slice p 2 c) ∧ Below w.heap.size w w' := by
  refine (Ein.c_IOwn h hB1 hB ai_u7 2).mono ?_
  rintro e w' ⟨v, Z, rfl, hr, _, hZ, _, hb'⟩
  rw [ai_own] at hZ
  have hl : Z.length = 2 := by rw [← List.length_map (f := pk), hZ]; rfl
  obtain ⟨p, c, rfl, _⟩ := hr.form
  rw [hl]
  exact ⟨p, c, rfl, hb'⟩
theorem ai_next {st' : Ein.ES} {r : Option KK} (h : Ein.nextE ai7 999 ⟨2, 1, keysH ai7 2, [], keysH ai7 2⟩ = (r, st')) : r = some (pk k2) := by
  have hrs := Ein.nextE_rest ai7 999 ⟨2, 1, keysH ai7 2, [], keysH ai7 2⟩ rfl rfl
  rw [h] at hrs
  have e : Ein.restF ai7 999 ⟨2, 1, keysH ai7 2, [], keysH ai7 2⟩ = [pk k2, pk ka, pk kc] := ai_all
  cases r with
  | none => rw [show Ein.restF ai7 999 _ = [] from hrs] at e; cases e
  | some K =>
    have h1 : Ein.restF ai7 999 _ = K :: _ := hrs.1
    rw [h1] at e
    injection e with e
    rw [e]
end Go.Proofs.Ytoccmiinkfhohaa
namespace Go.Proofs.Ytoccmiinkfhohaa
open Go.RowKit Go.Shelf Go.Lib Go.Sort Go.Proofs Go.Maps
set_option linter.unusedVariables false
set_option maxHeartbeats 4000000
set_option maxRecDepth 100000

theorem nm_b (y : World) : Calls Try.prog 42 #[.string ⟨#[98]⟩] y fun e w' => e = .returned (.agg #[.string (tx [98]), .int .i64 0]) ∧ Below y.heap.size y w' := c_name (l := [98]) rfl (by decide) y
theorem nm_c (y : World) : Calls Try.prog 42 #[.string ⟨#[99]⟩] y fun e w' => e = .returned (.agg #[.string (tx [99]), .int .i64 0]) ∧ Below y.heap.size y w' := c_name (l := [99]) rfl (by decide) y
theorem nm_2 (y : World) : Calls Try.prog 42 #[.string ⟨#[50]⟩] y fun e w' => e = .returned (.agg #[.string (tx [50]), .int .i64 0]) ∧ Below y.heap.size y w' := c_name (l := [50]) rfl (by decide) y
theorem nm_a (y : World) : Calls Try.prog 42 #[.string ⟨#[97]⟩] y fun e w' => e = .returned (.agg #[.string (tx [97]), .int .i64 0]) ∧ Below y.heap.size y w' := c_name (l := [97]) rfl (by decide) y
theorem aj_make1 {w0 w : World} {hb : Nat} (h : AwJ w0 hb (fun _ _ => False) 128 [] w) : Calls Try.prog 19 #[.pointer (some ⟨hb, 0, none⟩), .int .i64 0, .int .i64 0] w fun e w' => e = .returned (.tuple #[.int .i64 1, .int .i64 0]) ∧ AwJ w0 hb (fun _ _ => False) 128 ai1 w' := by
  refine (aj_make h ai_u0 0 0).mono ?_
  rintro e w' ⟨rfl, ht⟩
  exact ⟨rfl, ht⟩
theorem aj_make2 {w0 w : World} {hb : Nat} (h : AwJ w0 hb (fun _ _ => False) 128 ai1 w) : Calls Try.prog 19 #[.pointer (some ⟨hb, 0, none⟩), .int .i64 0, .int .i64 1] w fun e w' => (∃ v, e = .returned v) ∧ AwJ w0 hb (fun _ _ => False) 128 ai2 w' := by
  refine (aj_make h ai_u1 0 1).mono ?_
  rintro e w' ⟨rfl, ht⟩
  exact ⟨⟨_, rfl⟩, ht⟩
theorem c_awake20 (w : World) : Calls Try.prog 30 #[] w fun e w' => e = .returned (.bool true) ∧ Below w.heap.size w w' := by
  go_enter Try.func30, Try.ntmps30
  go_upto_region 4 with (first | (go_at_call 10; refine (aj_new _).mono ?_; rintro e w1 ⟨hb, rfl, hA1⟩) | (go_at_call 19; with_reducible refine (aj_make1 (by assumption)).mono ?_; rintro e w2 ⟨rfl, hA2⟩) | (go_at_call 19; with_reducible refine (aj_make2 (by assumption)).mono ?_; rintro e w3 ⟨⟨vm, rfl⟩, hA3⟩))
  have hA3' : AwJ w hb (fun _ _ => False) 128 ai2 w3 := hA3
  clear hA1 hA2 hA3
  obtain ⟨hbz, z0⟩ := zeroQ_set w3 p7
  have hth : (w3.alloc (.cells zeroQ 37)).there w3.heap.size 0 (encP p7).toArray.size := zeroQ_there w3
  obtain ⟨W2, hW2⟩ : ∃ W2, (w3.alloc (.cells zeroQ 37)).setCells w3.heap.size 0 (encP p7) = W2 := ⟨_, rfl⟩
  rw [hW2] at hbz z0
  have hA := hA3'.watch hbz (Nat.le_refl _) z0
  have hi13 : (Try.prog.info? 37).map (·.size) = some (encP p7).toArray.size := infoProp
  have ho13 := all_oneCell_toArray (encP_one p7)
  obtain ⟨pb, hpb⟩ : ∃ pb, pb = w3.heap.size := ⟨_, rfl⟩
  rw [← hpb] at hA z0
  replace hW2 := Lib.hid hW2
  clear hA3' hbz
  go_upto_region 5 with (first | (refine wpList_store_mid rfl 37 (.tmp 2) (.tmp 12) rfl w3.heap.size 0 _ rfl rfl hth hi13 ho13 ?_; generalize hWx : World.setCells _ _ _ _ = Wx; obtain rfl : W2 = Wx := hW2.out.symm.trans hWx; clear hWx hth hi13 ho13))
  rw [← hpb]
  clear hpb hW2
  have hP := fun (y : World) (h : AwJ w hb (fun b o => b = pb ∧ o = .cells (encP p7).toArray 37 (0, 0)) 128 ai2 y) => aj_put h (by decide) (by decide) ai_u2 1 kb kb_ok p7
  unfold propV keyV at hP
  unfold encP p7 zeroVV at hP
  dsimp only at hP
  unfold kb at hP
  dsimp only at hP
  replace hP := Lib.hid hP
  obtain ⟨v0, v1, v2, v3, v4, v5, v6, v7, v8, v9, v10, v11, v12⟩ := cells13 z0
  have lpb := heapH_lt z0
  have hA0 := hA.keep (Below.refl _ W2).drew
  have hS0 : ∀ i : Nat, W2.drew.cell? ⟨pb, i, none⟩ = W2.cell? ⟨pb, i, none⟩ := fun _ => rfl
  have z0' := Lib.hid z0
  clear z0
  go_region_held3 (fun y => ∀ i : Nat, y.cell? ⟨pb, i, none⟩ = W2.cell? ⟨pb, i, none⟩) (first | with_reducible assumption | exact AwJ.cells z0'.out (by assumption)) (first | (go_at_call 42; refine (nm_b _).mono ?_; rintro e y1 ⟨rfl, hq⟩; have hA1 := hA0.keep hq) | (go_at_call 27; refine (hP.out _ hA1).mono ?_; rintro e x3 ⟨rfl, hA2⟩))
  rename_i hHx
  clear hHx
  clear hP hA hA0 hA1 hq v0 v1 v2 v3 v4 v5 v6 v7 v8 v9 v10 v11 v12 z0' hS0 lpb
  have hA : AwJ w hb (fun b o => b = pb ∧ o = .cells (encP p7).toArray 37 (0, 0)) 130 ai3 x3 := hA2
  clear hA2
  have z0 := hA.held ⟨rfl, rfl⟩
  go_upto_region 6 with fail
  have hP := fun (y : World) (h : AwJ w hb (fun b o => b = pb ∧ o = .cells (encP p7).toArray 37 (0, 0)) 130 ai3 y) => aj_put h (by decide) (by decide) ai_u3 1 kc kc_ok p7
  unfold propV keyV at hP
  unfold encP p7 zeroVV at hP
  dsimp only at hP
  unfold kc at hP
  dsimp only at hP
  replace hP := Lib.hid hP
  obtain ⟨v0, v1, v2, v3, v4, v5, v6, v7, v8, v9, v10, v11, v12⟩ := cells13 z0
  have lpb := heapH_lt z0
  have hA0 := hA.keep (Below.refl _ x3).drew
  have hS0 : ∀ i : Nat, x3.drew.cell? ⟨pb, i, none⟩ = x3.cell? ⟨pb, i, none⟩ := fun _ => rfl
  have z0' := Lib.hid z0
  clear z0
  go_region_held3 (fun y => ∀ i : Nat, y.cell? ⟨pb, i, none⟩ = x3.cell? ⟨pb, i, none⟩) (first | with_reducible assumption | exact AwJ.cells z0'.out (by assumption)) (first | (go_at_call 42; refine (nm_c _).mono ?_; rintro e y1 ⟨rfl, hq⟩; have hA1 := hA0.keep hq) | (go_at_call 27; refine (hP.out _ hA1).mono ?_; rintro e x4 ⟨rfl, hA2⟩))
  rename_i hHx
  clear hHx
  clear hP hA hA0 hA1 hq v0 v1 v2 v3 v4 v5 v6 v7 v8 v9 v10 v11 v12 z0' hS0 lpb
  have hA : AwJ w hb (fun b o => b = pb ∧ o = .cells (encP p7).toArray 37 (0, 0)) 132 ai4 x4 := hA2
  clear hA2
  have z0 := hA.held ⟨rfl, rfl⟩
  go_upto_region 7 with fail
  have hP := fun (y : World) (h : AwJ w hb (fun b o => b = pb ∧ o = .cells (encP p7).toArray 37 (0, 0)) 132 ai4 y) => aj_put h (by decide) (by decide) ai_u4 2 k2 k2_ok p7
  unfold propV keyV at hP
  unfold encP p7 zeroVV at hP
  dsimp only at hP
  unfold k2 at hP
  dsimp only at hP
  replace hP := Lib.hid hP
  obtain ⟨v0, v1, v2, v3, v4, v5, v6, v7, v8, v9, v10, v11, v12⟩ := cells13 z0
  have lpb := heapH_lt z0
  have hA0 := hA.keep (Below.refl _ x4).drew
  have hS0 : ∀ i : Nat, x4.drew.cell? ⟨pb, i, none⟩ = x4.cell? ⟨pb, i, none⟩ := fun _ => rfl
  have z0' := Lib.hid z0
  clear z0
  go_region_held3 (fun y => ∀ i : Nat, y.cell? ⟨pb, i, none⟩ = x4.cell? ⟨pb, i, none⟩) (first | with_reducible assumption | exact AwJ.cells z0'.out (by assumption)) (first | (go_at_call 42; refine (nm_2 _).mono ?_; rintro e y1 ⟨rfl, hq⟩; have hA1 := hA0.keep hq) | (go_at_call 27; refine (hP.out _ hA1).mono ?_; rintro e x5 ⟨rfl, hA2⟩))
  rename_i hHx
  clear hHx
  clear hP hA hA0 hA1 hq v0 v1 v2 v3 v4 v5 v6 v7 v8 v9 v10 v11 v12 z0' hS0 lpb
  have hA : AwJ w hb (fun b o => b = pb ∧ o = .cells (encP p7).toArray 37 (0, 0)) 134 ai5 x5 := hA2
  clear hA2
  have z0 := hA.held ⟨rfl, rfl⟩
  go_upto_region 8 with fail
  have hP := fun (y : World) (h : AwJ w hb (fun b o => b = pb ∧ o = .cells (encP p7).toArray 37 (0, 0)) 134 ai5 y) => aj_put h (by decide) (by decide) ai_u5 2 kb kb_ok p5
  unfold propV keyV at hP
  unfold encP p5 zeroVV at hP
  dsimp only at hP
  unfold kb at hP
  dsimp only at hP
  replace hP := Lib.hid hP
  go_upto_region 9 with (first | (go_at_call 42; refine (nm_b _).mono ?_; rintro e y1 ⟨rfl, hq⟩; have hA1 := hA.keep hq) | (go_at_call 27; refine (hP.out _ hA1).mono ?_; rintro e x6 ⟨rfl, hA2⟩))
  clear hP hA hA1 hq z0
  have hA : AwJ w hb (fun b o => b = pb ∧ o = .cells (encP p7).toArray 37 (0, 0)) 136 ai6 x6 := hA2
  clear hA2
  have z0 := hA.held ⟨rfl, rfl⟩
  have hP := fun (y : World) (h : AwJ w hb (fun b o => b = pb ∧ o = .cells (encP p7).toArray 37 (0, 0)) 136 ai6 y) => aj_put h (by decide) (by decide) ai_u6 2 ka ka_ok p7
  unfold propV keyV at hP
  unfold encP p7 zeroVV at hP
  dsimp only at hP
  unfold ka at hP
  dsimp only at hP
  replace hP := Lib.hid hP
  obtain ⟨v0, v1, v2, v3, v4, v5, v6, v7, v8, v9, v10, v11, v12⟩ := cells13 z0
  have lpb := heapH_lt z0
  have hA0 := hA.keep (Below.refl _ x6).drew
  have hS0 : ∀ i : Nat, x6.drew.cell? ⟨pb, i, none⟩ = x6.cell? ⟨pb, i, none⟩ := fun _ => rfl
  have z0' := Lib.hid z0
  clear z0
  go_region_held3 (fun y => ∀ i : Nat, y.cell? ⟨pb, i, none⟩ = x6.cell? ⟨pb, i, none⟩) (first | with_reducible assumption | exact AwJ.cells z0'.out (by assumption)) (first | (go_at_call 42; refine (nm_a _).mono ?_; rintro e y1 ⟨rfl, hq⟩; have hA1 := hA0.keep hq) | (go_at_call 27; refine (hP.out _ hA1).mono ?_; rintro e x7 ⟨rfl, hA2⟩))
  rename_i hHx
  clear hHx
  clear hP hA hA0 hA1 hq v0 v1 v2 v3 v4 v5 v6 v7 v8 v9 v10 v11 v12 z0' hS0 lpb
  have hA : AwJ w hb (fun b o => b = pb ∧ o = .cells (encP p7).toArray 37 (0, 0)) 138 ai7 x7 := hA2
  clear hA2
  have z0 := hA.held ⟨rfl, rfl⟩
  go_upto_region 10 with fail
  clear z0
  have hKs := Lib.hid (aj_keys hA (by decide) (by decide))
  go_upto_region 11 with (go_at_call 34; refine hKs.out.mono ?_; rintro e x8 ⟨b, o, c, x, y, z, rfl, ⟨lb, hcell⟩, ⟨hx, hz, hpx, hpz⟩, hb8⟩)
  have hA8 := hA.keep hb8
  replace hcell := Lib.hid hcell
  have hN8 := Lib.hid (Ein.c_INew hA8.ein.toK (by decide) (by decide) ai_u7 2)
  have hB8 := Lib.hid hA8.base
  clear hKs hA hA8 hb8
  go_upto_region 12 with (go_at_call 38; refine hN8.out.mono ?_; rintro e x9 ⟨eb, rfl, hE⟩)
  have hb9 := hE.base
  obtain ⟨⟨c0, c1⟩, c4, c5⟩ := hcell.out x9 hb9
  have lb9 := Nat.lt_of_lt_of_le lb hb9.size
  have hS0 := fun (y : World) => c_Same4 x.1 (tx [50]) x.2 0 hx.1 (by decide +kernel) y
  have hS2 := fun (y : World) => c_Same4 z.1 (tx [99]) z.2 0 hz.1 (by decide +kernel) y
  rw [show sameK x.1 (tx [50]) x.2 0 = true from (sameK_pk x k2).trans (decide_eq_true hpx)] at hS0
  rw [show sameK z.1 (tx [99]) z.2 0 = true from (sameK_pk z kc).trans (decide_eq_true hpz)] at hS2
  unfold keyV at hS0 hS2
  have hLS : Ein.LawS { x9 with heap := #[] } x9 hb 0 50 138 ai7 := by
    obtain ⟨_, _, _, _, _, hX, _⟩ := hE
    exact hX.law
  have hOw := fun (y : World) (hy : Below x9.heap.size x9 y) => aj_own (hLS.below hy) (by decide) (by decide)
  have hNx := fun (y : World) (hy : Below x9.heap.size x9 y) => Ein.c_ENext (hE.turn (K' := fun _ _ => False) (k := none) hy.os hy.tape hy.output hy.size (fun r hr _ => hy.block r hr) (fun c h => by cases h) (fun c ob h => h.elim)) (by decide) (by decide) ai_u7
  have hst := onto_drew x9
  have eqp : ∀ (y : World) (a : Addr), (binOp .eql 76 (.pointer (some a)) (.pointer none)).run Try.prog y = .ok (.bool false) y := fun y a => by kernel_rfl
  have q3 : (0 : Int) < 3 := by decide
  replace hS0 := Lib.hid hS0
  replace hS2 := Lib.hid hS2
  replace hOw := Lib.hid hOw
  replace hNx := Lib.hid hNx
  replace hb9 := Lib.hid hb9
  clear hE hN8 hLS
  go_region_held3 (fun y => (∀ a : Addr, a.block < x9.heap.size → y.cell? a = x9.cell? a) ∧ (∀ b : Nat, b < x9.heap.size → y.heap[b]? = x9.heap[b]?) ∧ Below x9.heap.size x9 y) (first | with_reducible assumption | with_reducible exact hst | with_reducible exact onto_below (by assumption) (by assumption)) (first | (go_at_call 42; with_reducible refine (nm_2 _).mono ?_; rintro e y1 ⟨rfl, hq1⟩) | (go_at_call 40; with_reducible refine (hS0.out _).mono ?_; rintro e y2 ⟨rfl, hq2⟩) | (go_at_call 42; with_reducible refine (nm_c _).mono ?_; rintro e y3 ⟨rfl, hq3⟩) | (go_at_call 40; with_reducible refine (hS2.out _).mono ?_; rintro e y4 ⟨rfl, hq4⟩) | (go_at_call 33; refine (hOw.out _ (And.right (And.right (by assumption)))).mono ?_; rintro e y5 ⟨pw, cw, rfl, hq5⟩))
  rename_i hO
  have hB5 := hO.2.2
  clear hO hst hq1 hq2 hq3 hq4 hq5 hS0 hS2 hOw c0 c1 c4 c5 lb9 eqp
  go_upto_region 15 with (first | (go_at_call 39; refine (hNx.out _ hB5).mono ?_; rintro e x11 hP; obtain ⟨st', k, t, hE11, rfl, hq⟩ := hP.form))
  obtain ⟨rfl, hk, hpk⟩ : t = true ∧ okK k ∧ pk k = pk k2 := by
    rcases hq with ⟨h1, h2, h3⟩ | ⟨h1, h2, h3⟩
    · exact ⟨h1, h2, Option.some.inj (ai_next h3)⟩
    · cases ai_next h3
  have hb11 := hE11.base
  obtain ⟨W12, hW12⟩ : ∃ W12, x11.alloc (.cells #[.string k.1, .int .i64 k.2] 32) = W12 := ⟨_, rfl⟩
  rw [hW12]
  have hbk : Below x11.heap.size x11 W12 := by rw [← hW12]; exact (Below.refl _ _).alloc (Nat.le_refl _) _
  have dk : W12.heap[x11.heap.size]? = some (.cells #[.string k.1, .int .i64 k.2] 32 (0, 0)) := by rw [← hW12]; exact heap_alloc_new x11 _
  have kc0 : W12.cell? ⟨x11.heap.size, 0, none⟩ = some (.string k.1) := by rw [cell_of_row _ _ 0 _ _ _ dk]; rfl
  have kc1 : W12.cell? ⟨x11.heap.size, 1, none⟩ = some (.int .i64 k.2) := by rw [cell_of_row _ _ 1 _ _ _ dk]; rfl
  have hb12 := hb11.trans (hbk.mono hb11.size)
  obtain ⟨⟨c0, c1⟩, -, -⟩ := hcell.out W12 hb12
  have lb12 := Nat.lt_of_lt_of_le lb hb12.size
  have lk12 := heapH_lt dk
  have hS := fun (y : World) => c_Same4 k.1 x.1 k.2 x.2 hk.1 hx.1 y
  rw [show sameK k.1 x.1 k.2 x.2 = true from (sameK_pk k x).trans (decide_eq_true (hpk.trans hpx.symm))] at hS
  unfold keyV at hS
  have hst := onto_drew W12
  have hfin := Lib.hid (hB8.out.trans (hb12.mono hB8.out.size))
  replace hS := Lib.hid hS
  clear hW12 hbk dk hb12 hE11 hq hNx hP hb11 hb9 hcell hB5
  go_region_held3 (fun y => (∀ a : Addr, a.block < W12.heap.size → y.cell? a = W12.cell? a) ∧ (∀ b : Nat, b < W12.heap.size → y.heap[b]? = W12.heap[b]?) ∧ Below W12.heap.size W12 y) (first | with_reducible assumption | with_reducible exact hst | with_reducible exact onto_below (by assumption) (by assumption)) (first | (go_at_call 40; refine (hS.out _).mono ?_; rintro e y7 ⟨rfl, hq7⟩))
  rename_i hO
  have hB7 := hfin.out.trans (hO.2.2.mono hfin.out.size)
  go_wp2
  go_ret
  exact ⟨rfl, hB7⟩
end Go.Proofs.Ytoccmiinkfhohaa
namespace Go.Proofs.Ytoccmiinkfhohaa
open Go.RowKit Go.Shelf Go.Lib Go.Sort Go.Proofs Go.Maps
set_option linter.unusedVariables false
set_option maxHeartbeats 1000000
set_option maxRecDepth 8000

/-- the heap after a list's first operations -/
def runQ (lim : Int) (l : List OQ) : List OB := l.foldl (opQ lim) []
theorem runQ_next {lim : Int} {l : List OQ} {i : Nat} {x : OQ} (h : l[i]? = some x) : runQ lim (l.take (i + 1)) = opQ lim (runQ lim (l.take i)) x := by
  have hlt : i < l.length := (List.getElem?_eq_some_iff.1 h).1
  have hx : l[i] = x := (List.getElem?_eq_some_iff.1 h).2
  unfold runQ
  rw [List.take_succ_eq_append_getElem hlt, List.foldl_append, hx]
  rfl
theorem runQ_used {lim : Int} {l : List OQ} : ∀ {i : Nat}, i ≤ l.length → usedH (runQ lim (l.take i)) ≤ i := by
  intro i
  induction i with
  | zero => intro _; simp [runQ, usedH]
  | succ i ih =>
    intro h
    have hx : l[i]? = some l[i] := List.getElem?_eq_getElem (by omega)
    rw [runQ_next hx]
    have := ih (by omega)
    have := opQ_used lim (runQ lim (l.take i)) l[i]
    omega
theorem l_do20 {w0 w : World} {hb rb B : Nat} {lim : Int} {H : List OB} (h : LawS w0 w hb rb lim B H) (hB1 : 128 ≤ B) (hB : B < 90000) (hu : usedH H ≤ 100000) (x : OQ) (hk : okK x.k) :
    Calls Try.prog 32 #[.pointer (some ⟨hb, 0, none⟩), .pointer (some ⟨rb, 0, none⟩), .agg (encQ x).toArray] w fun e w' => e = .returned (.tuple #[]) ∧ LawS w0 w' hb rb lim (B + 2) (opQ lim H x) := by
  obtain ⟨f, f2, h1, h2, h3⟩ := h
  refine (c_do20 h1 hB1 hB hu x hk).mono ?_
  rintro e w' ⟨rfl, hd⟩
  exact ⟨rfl, LawS.done h2 h3 hd⟩
/-- a list's first elements -/
theorem slice_take {w : World} {L : Value} {Z : List KK} (h : RdK w L Z) {m : Nat} (hm : m ≤ Z.length) : ∃ L', RdK w L' (Z.take m) ∧ ∀ y, (Instr.slice 51 L none (some (.int .i64 (m : Int))) none).run Try.prog y = .ok L' y := by
  have ht : Try.prog.underlying 51 = some (.slice (Try.prog.elem 51)) := by rw [show Try.prog.elem 51 = 32 by kernel_rfl]; exact Try.underlying51
  have hs : ∀ y, (Go.sizeOf (Try.prog.elem 51)).run Try.prog y = .ok 2 y := fun y => by
    rw [show Try.prog.elem 51 = 32 by kernel_rfl]
    have := infoKeyRowZ
    cases hi : Try.prog.info? 32 with
    | none => rw [hi] at this; cases this
    | some i => rw [hi] at this; injection this with this; simp [Go.sizeOf, Go.typeInfo, hi, this]
  have hlt : (Z.take m).length = m := by rw [List.length_take]; omega
  obtain ⟨p, c, rfl, hpc, hc, hcell⟩ := h.form
  have hrun : ∀ y, (Instr.slice 51 (.slice p Z.length c) none (some (.int .i64 (m : Int))) none).run Try.prog y = .ok (sliced p 0 m c 2) y := fun y => by
    rw [run_slice_h (P := Try.prog) (w := y) (t := 51) (ht := ht) (kh := .i64) (h := (m : Int)) (h0 := by omega) (h2 := by omega), hs]
    rfl
  refine ⟨sliced p 0 m c 2, ?_, hrun⟩
  rcases h with ⟨h1, rfl⟩ | ⟨q, c', h1, h2, h3⟩
  · injection h1 with h1 h4 h5
    subst h1 h5
    have hm0 : m = 0 := by simpa using hm
    subst hm0
    exact .inl ⟨by simp [sliced], by simp⟩
  · injection h1 with h1 h4 h5
    subst h1 h5
    refine .inr ⟨q, c, ?_, by rw [hlt]; omega, fun k x hx => ?_⟩
    · rw [hlt]
      unfold sliced
      by_cases h0 : c = 0
      · subst h0; simp
      · simp [h0, Addr.add]
    · refine h3 k x ?_
      rw [List.getElem?_take] at hx
      split at hx
      · exact hx
      · cases hx
end Go.Proofs.Ytoccmiinkfhohaa
namespace Go.Proofs.Ytoccmiinkfhohaa
open Go.RowKit Go.Shelf Go.Lib Go.Sort Go.Proofs Go.Maps
set_option linter.unusedVariables false
set_option maxHeartbeats 1000000
set_option maxRecDepth 8000

/-- each object's keys are unlike -/
def NodH (H : List OB) : Prop := ∀ a ∈ H, (gk a.l).Nodup
theorem gk_put (l : List (KK × PV)) (K : KK) (p : PV) (h : (gk l).Nodup) : (gk (putL l K p)).Nodup := by
  unfold putL
  cases hi : idx (gk l) K with
  | some i =>
    simp only
    rw [gk_set hi]
    exact h
  | none =>
    have h1 := idx_none.1 hi
    simp only
    unfold gk at *
    rw [List.map_append]
    refine List.nodup_append.2 ⟨h, by simp, ?_⟩
    intro a ha b hb
    simp at hb
    subst hb
    exact fun e => h1 (e ▸ ha)
theorem nod_upd {H : List OB} (h : NodH H) (o : Int) (g : OB → OB) (hg : ∀ a, (gk a.l).Nodup → (gk (g a).l).Nodup) : NodH (updH H o g) := by
  intro a ha
  rcases upd_mem ha with h1 | ⟨b, hb, rfl⟩
  · exact h a h1
  · exact hg b (h b hb)
theorem nod_op {lim : Int} {H : List OB} (h : NodH H) (x : OQ) : NodH (opQ lim H x) := by
  unfold opQ
  split
  · unfold makeH
    split
    · intro a ha
      rcases List.mem_append.1 ha with h1 | h1
      · exact h a h1
      · rw [List.mem_singleton.1 h1]; exact List.nodup_nil
    · exact h
  · split
    · unfold putH
      split
      · exact nod_upd h _ _ fun a ha => gk_put _ _ _ ha
      · exact h
    · split
      · refine nod_upd h _ _ fun a ha => ?_
        unfold dropA
        cases hi : idx (gk a.l) (pk x.k) with
        | none => exact ha
        | some j =>
          show (gk (a.l.eraseIdx j)).Nodup
          unfold gk at *
          exact List.Nodup.sublist ((List.eraseIdx_sublist a.l j).map Prod.fst) ha
      · split
        · unfold setH
          split
          · exact nod_upd h _ _ fun a ha => ha
          · exact h
        · exact h
theorem nod_run {lim : Int} {l : List OQ} : ∀ {H : List OB}, NodH H → NodH (l.foldl (opQ lim) H) := by
  induction l with
  | nil => exact fun h => h
  | cons x l ih => exact fun h => ih (nod_op h x)
theorem cls_count (r : KK) (l : List KK) : (cls (rk r) l).countP (fun x => decide (pk x = r)) = l.countP (fun x => decide (pk x = r)) := by
  unfold cls
  rw [List.countP_filter]
  congr 1
  funext x
  by_cases h : pk x = r
  · simp [← h, rk_pk]
  · simp [h]
theorem countP_nodup {α : Type} [DecidableEq α] {l : List α} : l.Nodup ↔ ∀ a, l.countP (fun x => decide (x = a)) ≤ 1 := by
  rw [List.nodup_iff_count]
  exact Iff.rfl
theorem keysOf_nodup {ks Z : List KK} (h : KeysOf ks Z) (hn : ks.Nodup) : (Z.map pk).Nodup := by
  obtain ⟨l, rfl, _, h3, _⟩ := h
  rw [countP_nodup] at hn ⊢
  intro a
  have hc : ∀ l : List KK, (l.map pk).countP (fun x => decide (x = a)) = l.countP (fun x => decide (pk x = a)) := fun l => by
    rw [List.countP_map]
    rfl
  have := hn a
  rw [hc] at this ⊢
  rw [← cls_count a Z, h3, cls_count a l]
  exact this
theorem keysH_nodup {H : List OB} (h : NodH H) (o : Int) : (keysH H o).Nodup := by
  unfold keysH ordK
  split
  · rename_i hx
    refine keysOf_nodup (Classical.choose_spec hx) ?_
    unfold listH
    rcases objH_cases H o with ⟨_, h2⟩ | ⟨n, a, _, _, ha, h3, _⟩
    · rw [h2]; exact List.nodup_nil
    · rw [h3]; exact h a (List.mem_of_getElem? ha)
  · exact List.nodup_nil
/-- these have been told -/
def ToldI (st : ES) (T : List KK) : Prop := st.cur.Nodup ∧ (∃ pre, st.cur = pre ++ st.rem ∧ ∀ K ∈ T, K ∈ st.seen ∨ K ∈ pre) ∧ T.Nodup
theorem told_start {H : List OB} (h : NodH H) (o : Int) : ToldI ⟨o, 1, keysH H o, [], keysH H o⟩ [] := ⟨keysH_nodup h o, ⟨[], rfl, fun K h => (by cases h)⟩, List.nodup_nil⟩
theorem told_adv {H : List OB} (h : NodH H) {st : ES} {T : List KK} (hI : ToldI st T) : ToldI (advE H st) T := by
  obtain ⟨h1, ⟨pre, h2, h3⟩, h4⟩ := hI
  refine ⟨keysH_nodup h _, ⟨[], rfl, fun K hK => .inl ?_⟩, h4⟩
  show K ∈ st.seen ++ st.cur
  rcases h3 K hK with h | h
  · exact List.mem_append_left _ h
  · exact List.mem_append_right _ (by rw [h2]; exact List.mem_append_left _ h)
theorem dropWhile_parts {p : KK → Bool} : ∀ (l : List KK), ∃ a, l = a ++ l.dropWhile p := fun l => ⟨l.takeWhile p, (List.takeWhile_append_dropWhile).symm⟩
theorem told_drop {st : ES} {T r : List KK} {K : KK} {p : KK → Bool} (hI : ToldI st T) (hd : st.rem.dropWhile p = K :: r) (hs : K ∉ st.seen) : K ∉ T ∧ ToldI { st with rem := r } (T ++ [K]) := by
  obtain ⟨h1, ⟨pre, h2, h3⟩, h4⟩ := hI
  obtain ⟨a, ha⟩ := dropWhile_parts (p := p) st.rem
  rw [hd] at ha
  have hpre : K ∉ pre := fun hp => by
    rw [h2, ha] at h1
    have := (List.nodup_append.1 h1).2.2 K hp K (by simp)
    exact this rfl
  have hT : K ∉ T := fun hk => by
    rcases h3 K hk with h | h
    · exact hs h
    · exact hpre h
  refine ⟨hT, h1, ⟨pre ++ a ++ [K], ?_, ?_⟩, ?_⟩
  · show st.cur = pre ++ a ++ [K] ++ r
    rw [h2, ha]; simp
  · intro x hx
    rcases List.mem_append.1 hx with h | h
    · rcases h3 x h with h | h
      · exact .inl h
      · exact .inr (by simp [h])
    · rw [List.mem_singleton.1 h]; exact .inr (by simp)
  · refine List.nodup_append.2 ⟨h4, by simp, fun x hx b hb => ?_⟩
    simp at hb
    subst hb
    exact fun e => hT (e ▸ hx)
theorem told_empty {st : ES} {T : List KK} {p : KK → Bool} (hI : ToldI st T) : ToldI { st with rem := [] } T := by
  obtain ⟨h1, ⟨pre, h2, h3⟩, h4⟩ := hI
  refine ⟨h1, ⟨st.cur, by simp, fun K hK => ?_⟩, h4⟩
  rcases h3 K hK with h | h
  · exact .inl h
  · exact .inr (by rw [h2]; exact List.mem_append_left _ h)
theorem toldB_parts {H : List OB} {o : Int} {seen : List KK} {K : KK} (h : toldB H o seen K = true) : K.2 ≤ 0 ∧ (ownH H o K).isSome = true ∧ K ∉ seen := by
  unfold toldB goodB at h
  simp only [Bool.and_eq_true, Bool.not_eq_true', decide_eq_true_eq] at h
  obtain ⟨⟨h1, h2⟩, h3⟩ := h
  refine ⟨h1, ?_, fun hk => ?_⟩
  · cases hO : ownH H o K with
    | none => rw [hO] at h2; cases h2
    | some p => rfl
  · rw [hadB_iff.2 hk] at h3; cases h3
/-- the next key is none that has been told, and somebody has it -/
theorem told_next {H : List OB} (hH : NodH H) : ∀ (n : Nat) (st : ES) (T : List KK), ToldI st T → match nextE H n st with
    | (some K, st') => K ∉ T ∧ ToldI st' (T ++ [K]) ∧ K.2 ≤ 0 ∧ ∃ o, (ownH H o K).isSome = true
    | (none, st') => ToldI st' T := by
  intro n
  induction n with
  | zero =>
    intro st T hI
    unfold nextE
    cases hd : st.rem.dropWhile (fun K => !toldB H st.o st.seen K) with
    | nil => exact told_empty (p := fun _ => true) hI
    | cons x r =>
      obtain ⟨t1, t2, t3⟩ := toldB_parts (dropWhile_head hd)
      obtain ⟨g1, g2⟩ := told_drop hI hd t3
      exact ⟨g1, g2, t1, st.o, t2⟩
  | succ n ih =>
    intro st T hI
    unfold nextE
    cases hd : st.rem.dropWhile (fun K => !toldB H st.o st.seen K) with
    | nil =>
      cases hh : hasH H st.o with
      | false => exact told_empty (p := fun _ => true) hI
      | true =>
        simp only [if_true]
        exact ih (advE H st) T (told_adv hH hI)
    | cons x r =>
      obtain ⟨t1, t2, t3⟩ := toldB_parts (dropWhile_head hd)
      obtain ⟨g1, g2⟩ := told_drop hI hd t3
      exact ⟨g1, g2, t1, st.o, t2⟩
/-- has one of the first objects a key? -/
def anyO (H : List OB) (K : KK) (m : Nat) : Bool := (List.range m).any fun j => (ownH H ((j : Int) + 1) K).isSome
theorem anyO_next (H : List OB) (K : KK) (m : Nat) : anyO H K (m + 1) = (anyO H K m || (ownH H ((m : Int) + 1) K).isSome) := by
  unfold anyO
  rw [List.range_succ, List.any_append]
  simp
theorem anyO_some {H : List OB} {K : KK} {o : Int} (h : (ownH H o K).isSome = true) : anyO H K H.length = true := by
  unfold ownH at h
  rcases objH_cases H o with ⟨_, h2⟩ | ⟨n, a, rfl, h0, ha, h3, _⟩
  · rw [h2] at h; cases h
  · unfold anyO
    rw [List.any_eq_true]
    have hlt := (List.getElem?_eq_some_iff.1 ha).1
    refine ⟨n - 1, List.mem_range.2 hlt, ?_⟩
    have e : (((n - 1 : Nat) : Int) + 1) = (n : Int) := by omega
    rw [e]
    exact h
end Go.Proofs.Ytoccmiinkfhohaa
namespace Go.Proofs.Ytoccmiinkfhohaa
open Go.RowKit Go.Shelf Go.Lib Go.Sort Go.Proofs Go.Maps
set_option linter.unusedVariables false
set_option maxHeartbeats 4000000
set_option maxRecDepth 100000

def emp (w : World) : World := { w with heap := #[] }
/-- the blocks of a world -/
def K0 (W : World) (c : Nat) (o : Obj) : Prop := W.heap[c]? = some o
theorem RdK.turned {w w' : World} {L : Value} {Z : List KK} {P : Nat → Prop} (h : RdK w L Z) (hk : ∀ r, r < w.heap.size → ¬ P r → w'.heap[r]? = w.heap[r]?) (ho : ∀ c, P c → offL L c) : RdK w' L Z := by
  rcases h with h | ⟨p, c, rfl, h2, h3⟩
  · exact .inl h
  · refine .inr ⟨p, c, rfl, h2, fun k x hx => ?_⟩
    obtain ⟨h4, h5, h6⟩ := h3 k x hx
    have hne : ¬ P p.block := fun hP => by
      cases Z with
      | nil => simp at hx
      | cons a Z => exact ho p.block hP p Z.length c rfl rfl
    have e := hk p.block (by have := cell_lt h5; exact this) hne
    exact ⟨h4, (World.cell?_of_block (w := w) (a := ⟨p.block, p.off + k * 2, none⟩) e).trans h5, (World.cell?_of_block (w := w) (a := ⟨p.block, p.off + k * 2 + 1, none⟩) e).trans h6⟩
section
variable {K : Nat → Obj → Prop} {W2 w w' : World} {hb rb B : Nat} {lim : Int} {H : List OB} {b : EB} {st : ES}
theorem LawS.toK0 (h : LawS W2 w hb rb lim B H) : LawK (K0 W2) w hb rb lim B H := by
  obtain ⟨f, f2, h1, h2, h3⟩ := h
  refine ⟨f, f2, h1, fun c o hK => ?_⟩
  have hlt := heapH_lt hK
  exact ⟨(h2.block c hlt).trans hK, h3 c hlt⟩
theorem LawE.emp (h : LawE K w w' hb rb lim B H b st) (hb' : Below W2.heap.size W2 w) : LawE K (emp W2) w' hb rb lim B H b st := by
  obtain ⟨L, lk, n, g, Z, ⟨f, f2, f3, h1, h2, h3, h4, h6, h7, h8⟩, r⟩ := h
  refine ⟨L, lk, n, g, Z, ⟨f, f2, f3, h1, ⟨h2.os.trans hb'.os, h2.tape.trans hb'.tape, h2.output.trans hb'.output, Nat.zero_le _, fun r hr => absurd hr (Nat.not_lt_zero _)⟩, fun r hr => absurd hr (Nat.not_lt_zero _), h4, h6, h7, h8⟩, r⟩
theorem LawE.law (h : LawE K w w' hb rb lim B H b st) : LawS (Go.Proofs.Ytoccmiinkfhohaa.emp w') w' hb rb lim B H := by
  obtain ⟨L, lk, n, g, Z, hX, _⟩ := h
  exact hX.law
/-- below what is watched nothing turns -/
theorem LawE.below0 (h : LawE K (Go.Proofs.Ytoccmiinkfhohaa.emp W2) w hb rb lim B H b st) (hK : ∀ c o, K0 W2 c o → K c o) (hs : W2.heap.size ≤ w.heap.size) : Below W2.heap.size W2 w := by
  have h2 := h.base
  exact ⟨h2.os, h2.tape, h2.output, hs, fun r hr => (h.held (hK r _ (Array.getElem?_eq_getElem hr))).trans (Array.getElem?_eq_getElem hr).symm⟩
theorem LawE.size0 (h : LawE K (Go.Proofs.Ytoccmiinkfhohaa.emp W2) w hb rb lim B H b st) (hK : ∀ c o, K0 W2 c o → K c o) : W2.heap.size ≤ w.heap.size := by
  by_cases h0 : W2.heap.size = 0
  · omega
  · have := heapH_lt (h.held (hK (W2.heap.size - 1) _ (Array.getElem?_eq_getElem (show W2.heap.size - 1 < W2.heap.size by omega))))
    omega
theorem l_doE (h : LawE K (Go.Proofs.Ytoccmiinkfhohaa.emp W2) w hb rb lim B H b st) (hB1 : 128 ≤ B) (hB : B < 90000) (hu : usedH H ≤ 100000) (x : OQ) (hk : okK x.k) :
    Calls Try.prog 32 #[.pointer (some ⟨hb, 0, none⟩), .pointer (some ⟨rb, 0, none⟩), .agg (encQ x).toArray] w fun e w' => e = .returned (.tuple #[]) ∧ LawE K (Go.Proofs.Ytoccmiinkfhohaa.emp W2) w' hb rb lim (B + 2) (opQ lim H x) b st ∧ w.heap.size ≤ w'.heap.size := by
  obtain ⟨L, lk, n, g, Z, ⟨f, f2, f3, h1, h2, h3, ⟨h4, h5⟩, h6, h7, h8⟩, r1, r2, r3, r4, r5, r6, r7⟩ := h
  refine (c_do20 h1 hB1 hB hu x hk).mono ?_
  rintro e w' ⟨rfl, f', f2', hT, hk⟩
  refine ⟨rfl, ?_, hk.size⟩
  have hlt : ∀ r, f3 r ≠ 0 → r < w.heap.size := fun r hr => Nat.lt_of_not_le fun hle => hr (h4 r hle)
  have t3 : Turn (fun c => c = 0) f3 f3 w w' := ⟨hk.os, hk.tape, hk.output, hk.size, fun _ _ => rfl, h4.below hk.size, fun r hr hn => hk.block r hr (h6 r hn).1 (h6 r hn).2⟩
  refine ⟨L, lk, n, g, Z, ⟨f', f2', f3, hT, ⟨hk.os.trans h2.os, hk.tape.trans h2.tape, hk.output.trans h2.output, Nat.zero_le _, fun r hr => absurd hr (Nat.not_lt_zero _)⟩, h3, ⟨h4.below hk.size, h5.turn t3 (fun _ h => h)⟩, fun r hr => ?_, fun c o hK => ?_, fun c hc => ?_⟩, ⟨r1.1.turned (P := fun r => f r ≠ 0 ∨ f2 r ≠ 0) (fun r hr hn => ?_) h8, r1.2⟩, r2, r3, r4, r5, r6, r7⟩
  · obtain ⟨e1, e2⟩ := hk.own r (hlt r hr)
    rw [e1, e2]
    exact h6 r hr
  · obtain ⟨g1, g2, g3, g4⟩ := h7 c o hK
    have hl := heapH_lt g1
    obtain ⟨e1, e2⟩ := hk.own c hl
    exact ⟨(hk.block c hl g2 g3).trans g1, e1.trans g2, e2.trans g3, g4⟩
  · by_cases hl : c < w.heap.size
    · obtain ⟨e1, e2⟩ := hk.own c hl
      rw [e1, e2] at hc
      exact h8 c hc
    · exact r1.1.offNew (by omega)
  · refine hk.block r hr ?_ ?_
    · by_cases h : f r = 0
      · exact h
      · exact absurd (.inl h) hn
    · by_cases h : f2 r = 0
      · exact h
      · exact absurd (.inr h) hn
end
/-- what is watched: what was there, and the list of those told -/
def K2 (W2 : World) (v : Value) (W : World) (c : Nat) (o : Obj) : Prop := K0 W2 c o ∨ (v.ownBlock = some c ∧ W.heap[c]? = some o)
/-- the state of the law: these have been told -/
def OnceS (W2 : World) (hb rb B : Nat) (H : List OB) (b : EB) (st : ES) (v : Value) (T : List KK) (w : World) : Prop :=
  w.ownsRow W2.heap.size 32 2 v T.length (flatK T) ∧ (∀ x ∈ T, okK x) ∧ LawE (K2 W2 v w) (emp W2) w hb rb 2000 B H b st ∧ W2.heap.size ≤ w.heap.size ∧ ToldI st (T.map pk)
section
variable {W2 w w' : World} {hb rb B : Nat} {H : List OB} {b : EB} {st : ES} {v : Value} {T : List KK}
theorem OnceS.base (h : OnceS W2 hb rb B H b st v T w) : Below W2.heap.size W2 w := by
  obtain ⟨h1, h2, h3, h4, h5⟩ := h
  exact h3.below0 (fun c o hK => .inl hK) h4
theorem k2_eq {W W' : World} (h : ∀ c, v.ownBlock = some c → W'.heap[c]? = W.heap[c]?) {c : Nat} {o : Obj} (hK : K2 W2 v W' c o) : K2 W2 v W c o := by
  rcases hK with h1 | ⟨h1, h2⟩
  · exact .inl h1
  · exact .inr ⟨h1, by rw [← h c h1]; exact h2⟩
/-- another state of the enumeration or of the heaps, in which what is watched is as it was -/
theorem OnceS.next {B' : Nat} {H' : List OB} {st' : ES} (h : OnceS W2 hb rb B H b st v T w) (hE : LawE (K2 W2 v w) (emp W2) w' hb rb 2000 B' H' b st') (hI : ToldI st' (T.map pk)) : OnceS W2 hb rb B' H' b st' v T w' := by
  obtain ⟨h1, h2, h3, h4, h5⟩ := h
  have hk : ∀ c, v.ownBlock = some c → w'.heap[c]? = w.heap[c]? := fun c hc => by
    have e := Array.getElem?_eq_getElem (h1.lt c hc).2
    exact (hE.held (.inr ⟨hc, e⟩)).trans e.symm
  exact ⟨own_at h1 hk, h2, hE.weaken (fun c o hK => k2_eq hk hK), hE.size0 (fun c o hK => .inl hK), hI⟩
theorem OnceS.below (h : OnceS W2 hb rb B H b st v T w) (hb' : Below w.heap.size w w') : OnceS W2 hb rb B H b st v T w' := by
  have hE := h.2.2.1.turn (K' := K2 W2 v w) (k := none) hb'.os hb'.tape hb'.output hb'.size (fun r hr _ => hb'.block r hr) (fun c hc => by cases hc) (fun c ob hc => .inl ⟨hc, by simp⟩)
  exact h.next hE h.2.2.2.2
/-- one key more -/
theorem OnceS.push {k : KK} {n : Nat} {w5 : World} {gg cap : Nat} {ob : Obj} (h : OnceS W2 hb rb B H b st v T w) (hn : n = T.length) (hk : okK k) (hown : w5.ownsRow W2.heap.size 32 2 (.slice (some ⟨gg, 0, none⟩) (n + 1) cap) (n + 1) (flatK T ++ [.string k.1, .int .i64 k.2])) (hg : (w.alloc ob).grownBy w5 v.ownBlock) (hat : v.ownBlock = some gg ∨ gg = w.heap.size + 1) (hI : ToldI st ((T ++ [k]).map pk)) :
    OnceS W2 hb rb B H b st (.slice (some ⟨gg, 0, none⟩) (n + 1) cap) (T ++ [k]) w5 := by
  subst hn
  obtain ⟨h1, h2, h3, h4, h5⟩ := h
  have hsz : w.heap.size + 1 ≤ w5.heap.size := by have := hg.size; simpa using this
  refine ⟨by simpa [flatK_app, flatK, encK] using hown, fun x hx => ?_, ?_, by omega, hI⟩
  · rcases List.mem_append.1 hx with h | h
    · exact h2 x h
    · rw [List.mem_singleton.1 h]; exact hk
  · refine h3.turn (k := v.ownBlock) hg.os hg.tape hg.output (by omega) (fun r hr hne => ?_) (fun c hc => ?_) (fun c o hc => ?_)
    · rw [hg.block r (by simp; omega) (fun e => hne e.symm), Below.heap_alloc _ _ _ hr]
    · obtain ⟨q1, q2⟩ := h1.lt c hc
      exact ⟨Nat.zero_le _, _, .inr ⟨hc, Array.getElem?_eq_getElem q2⟩⟩
    · rcases hc with hc | ⟨h6, h7⟩
      · refine .inl ⟨.inl hc, fun e => ?_⟩
        have := (h1.lt c e).1
        have := heapH_lt hc
        omega
      · have h6 : gg = c := Option.some.inj h6
        subst h6
        refine .inr ⟨h7, ?_⟩
        rcases hat with h | h
        · exact .inl h
        · exact .inr (by omega)
theorem once_start (hS : LawE (K0 W2) w w' hb rb 2000 B H b st) (hb' : Below W2.heap.size W2 w) (hI : ToldI st []) : OnceS W2 hb rb B H b st (.slice none 0 0) [] w' := by
  have hE := hS.emp hb'
  refine ⟨⟨rfl, .inl ⟨rfl, rfl⟩⟩, fun x hx => (by cases hx), hE.weaken (fun c o hK => ?_), Nat.le_trans hb'.size hS.base.size, hI⟩
  rcases hK with h | ⟨h, _⟩
  · exact h
  · cases h
end
theorem told_less {st : ES} {T : List KK} {K : KK} (h : ToldI st (T ++ [K])) : ToldI st T := by
  obtain ⟨h1, ⟨pre, h2, h3⟩, h4⟩ := h
  exact ⟨h1, ⟨pre, h2, fun x hx => h3 x (List.mem_append_left _ hx)⟩, (List.nodup_append.1 h4).1⟩
end Go.Proofs.Ytoccmiinkfhohaa
