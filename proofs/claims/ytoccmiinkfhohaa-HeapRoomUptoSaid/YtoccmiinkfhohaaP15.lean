/-
  HeapRoom: the cells that are taken are the objects and their properties, never more than the limit; where what it reads is of bulk at most 1048576.
-/
import Derived.Test.YtoccmiinkfhohaaP14
import Derived.Test.YtoccmiinkfhohaaP12
import Derived.Test.YtoccmiinkfhohaaRows
import Derived.Deep.SlicePairs
import Derived.ProofKit
import Derived.OpenShut
import Derived.JoinedCond
import Derived.Carry
import Derived.Lib.SmallJoins
namespace Go.Proofs.Ytoccmiinkfhohaa
open Go.RowKit Go.Shelf Go.Lib Go.Sort Go.Proofs Go.Maps
set_option linter.unusedVariables false
set_option maxHeartbeats 4000000
set_option maxRecDepth 100000

theorem Done.from {w0 w1 w : World} {hb rb B : Nat} {lim : Int} {H : List OB} {f f2 : Nat → Nat} (h0 : TwoK w0 w1 f f2 f f2) (h : Done w1 w hb rb lim B H f f2) : Done w0 w hb rb lim B H f f2 := by
  obtain ⟨f', f2', h1, h2⟩ := h
  exact ⟨f', f2', h1, h0.trans h2⟩
theorem Done.mono {w0 w : World} {hb rb B B' : Nat} {lim : Int} {H : List OB} {f f2 : Nat → Nat} (h : Done w0 w hb rb lim B H f f2) (hB : B ≤ B') : Done w0 w hb rb lim B' H f f2 := by
  obtain ⟨f', f2', h1, h2⟩ := h
  exact ⟨f', f2', h1.mono hB, h2⟩
theorem Done.below {w0 w w' : World} {hb rb B : Nat} {lim : Int} {H : List OB} {f f2 : Nat → Nat} (h : Done w0 w hb rb lim B H f f2) (hb' : Below w.heap.size w w') : Done w0 w' hb rb lim B H f f2 := by
  obtain ⟨f', f2', h1, h2⟩ := h
  exact ⟨f', f2', h1.below hb', h2.trans (TwoK.of_below _ _ hb')⟩
theorem cells18 {y : World} {b : Nat} {t : TypeId} {x : OP} (h : y.heap[b]? = some (.cells (encO x).toArray t (0, 0))) :
    (y.cell? ⟨b, 0, none⟩ = some (.int .i64 x.kd) ∧ y.cell? ⟨b, 1, none⟩ = some (.int .i64 x.o) ∧ y.cell? ⟨b, 2, none⟩ = some (.int .i64 x.n)) ∧ (y.cell? ⟨b, 3, none⟩ = some (.string x.k.1) ∧ y.cell? ⟨b, 4, none⟩ = some (.int .i64 x.k.2)) ∧
    (y.cell? ⟨b, 5, none⟩ = some (.int .i64 x.p.v.k) ∧ y.cell? ⟨b, 6, none⟩ = some (.float .f64 x.p.v.x) ∧ y.cell? ⟨b, 7, none⟩ = some (.string x.p.v.s) ∧ y.cell? ⟨b, 8, none⟩ = some (.int .i64 x.p.v.r)) ∧
    (y.cell? ⟨b, 9, none⟩ = some (.int .i64 x.p.g.k) ∧ y.cell? ⟨b, 10, none⟩ = some (.float .f64 x.p.g.x) ∧ y.cell? ⟨b, 11, none⟩ = some (.string x.p.g.s) ∧ y.cell? ⟨b, 12, none⟩ = some (.int .i64 x.p.g.r)) ∧
    (y.cell? ⟨b, 13, none⟩ = some (.int .i64 x.p.t.k) ∧ y.cell? ⟨b, 14, none⟩ = some (.float .f64 x.p.t.x) ∧ y.cell? ⟨b, 15, none⟩ = some (.string x.p.t.s) ∧ y.cell? ⟨b, 16, none⟩ = some (.int .i64 x.p.t.r)) ∧ y.cell? ⟨b, 17, none⟩ = some (.int .i64 x.p.fl) := by
  have hc : ∀ j u, (encO x)[j]? = some u → y.cell? ⟨b, j, none⟩ = some u := fun j u hu => by rw [cell_of_row _ _ j _ _ _ h]; simpa using hu
  exact ⟨⟨hc 0 _ rfl, hc 1 _ rfl, hc 2 _ rfl⟩, ⟨hc 3 _ rfl, hc 4 _ rfl⟩, ⟨hc 5 _ rfl, hc 6 _ rfl, hc 7 _ rfl, hc 8 _ rfl⟩, ⟨hc 9 _ rfl, hc 10 _ rfl, hc 11 _ rfl, hc 12 _ rfl⟩, ⟨hc 13 _ rfl, hc 14 _ rfl, hc 15 _ rfl, hc 16 _ rfl⟩, hc 17 _ rfl⟩
section
variable {w : World} {hb rb B : Nat} {lim : Int} {H : List OB} {f f2 : Nat → Nat}
theorem c_do15_0 (h : Two w hb rb lim B H f f2) (hB1 : 128 ≤ B) (hB : B < 90000) (hu : usedH H ≤ 100000) (x : OP) (hk : okK x.k) (hkd : x.kd = 0) :
    Calls Try.prog 14 #[ptrV hb, ptrV rb, opV x] w fun e w' => e = .returned (.bool true) ∧ Done w w' hb rb lim (B + 2) (opH lim H x) f f2 := by
  have hop : opH lim H x = makeH true H lim x.n x.o := by unfold opH; simp [hkd]
  rw [hop]
  clear hop
  obtain ⟨W1, hW1⟩ : ∃ W1, w.alloc (.cells (encO x).toArray 39) = W1 := ⟨_, rfl⟩
  have hb1 : Below w.heap.size w W1 := by rw [← hW1]; exact (Below.refl _ w).alloc (Nat.le_refl _) _
  have d0 : W1.heap[w.heap.size]? = some (.cells (encO x).toArray 39 (0, 0)) := by rw [← hW1]; exact heap_alloc_new w _
  obtain ⟨⟨e0, e1, e2⟩, ⟨e3, e4⟩, ⟨e5, e6, e7, e8⟩, ⟨e9, e10, e11, e12⟩, ⟨e13, e14, e15, e16⟩, e17⟩ := cells18 d0
  have hfr := Lib.hid (show f w.heap.size = 0 ∧ f2 w.heap.size = 0 ∧ w.heap.size < W1.heap.size from ⟨h.1 _ (Nat.le_refl _), h.2.1 _ (Nat.le_refl _), heapH_lt d0⟩)
  have hT := h.below hb1
  have h0 := TwoK.refl W1 f f2
  have hfin := fun (y : World) (B' : Nat) (H' : List OB) (hB' : B' ≤ B + 2) (hd : Done W1 y hb rb lim B' H' f f2) => (hd.mono hB').from (TwoK.of_below f f2 hb1)
  have hP := t_HMake hT h0 hu x.n x.o
  have hR := fun (y : World) (hh : Half W1 y hb rb lim B H (makeH true H lim x.n x.o) f f2) => t_RMake x.n x.o hh hu
  generalize makeH true H lim x.n x.o = H' at *
  generalize makeN H lim x.n x.o = vN at *
  generalize makeE H lim x.n x.o = vE at *
  unfold ptrV at hP hR
  replace hP := Lib.hid hP
  replace hR := Lib.hid hR
  unfold ptrV opV
  unfold encO encP
  obtain ⟨kd, xo, xn, ⟨k0, kn⟩, ⟨⟨vk, vx, vs, vr⟩, ⟨gk0, gx, gs, gr⟩, ⟨tk, tx0, ts, tr⟩, fl⟩⟩ := x
  dsimp only at *
  subst hkd
  simp only [encO, encP, List.cons_append, List.nil_append] at hW1
  replace hfin := Lib.hid hfin
  clear h hb1 d0 hT h0 hk hB hB1 hu
  go_enter Try.func14, Try.ntmps14
  go_wp2_with (first | (go_at_call 19; go_loud (refine hP.out.mono ?_; rintro e y1 ⟨rfl, hH1⟩); have hc := hH1.cells hfr.out; rw [← hc 1] at e1; rw [← hc 2] at e2; clear hc) | (go_at_call 45; refine (hR.out _ hH1).mono ?_; rintro e y2 ⟨rfl, hD1⟩))
  go_ret
  exact ⟨rfl, hfin.out _ _ _ (by omega) hD1⟩
theorem c_do15_1 (h : Two w hb rb lim B H f f2) (hB1 : 128 ≤ B) (hB : B < 90000) (hu : usedH H ≤ 100000) (x : OP) (hk : okK x.k) (hkd : x.kd = 1) :
    Calls Try.prog 14 #[ptrV hb, ptrV rb, opV x] w fun e w' => e = .returned (.bool true) ∧ Done w w' hb rb lim (B + 2) (opH lim H x) f f2 := by
  have hop : opH lim H x = putH H lim x.o (pk x.k) x.p := by unfold opH; simp [hkd]
  rw [hop]
  clear hop
  obtain ⟨W1, hW1⟩ : ∃ W1, w.alloc (.cells (encO x).toArray 39) = W1 := ⟨_, rfl⟩
  have hb1 : Below w.heap.size w W1 := by rw [← hW1]; exact (Below.refl _ w).alloc (Nat.le_refl _) _
  have d0 : W1.heap[w.heap.size]? = some (.cells (encO x).toArray 39 (0, 0)) := by rw [← hW1]; exact heap_alloc_new w _
  obtain ⟨⟨e0, e1, e2⟩, ⟨e3, e4⟩, ⟨e5, e6, e7, e8⟩, ⟨e9, e10, e11, e12⟩, ⟨e13, e14, e15, e16⟩, e17⟩ := cells18 d0
  have hfr := Lib.hid (show f w.heap.size = 0 ∧ f2 w.heap.size = 0 ∧ w.heap.size < W1.heap.size from ⟨h.1 _ (Nat.le_refl _), h.2.1 _ (Nat.le_refl _), heapH_lt d0⟩)
  have hT := h.below hb1
  have h0 := TwoK.refl W1 f f2
  have hfin := fun (y : World) (B' : Nat) (H' : List OB) (hB' : B' ≤ B + 2) (hd : Done W1 y hb rb lim B' H' f f2) => (hd.mono hB').from (TwoK.of_below f f2 hb1)
  have hP := fun (y : World) (hy : Below W1.heap.size W1 y) => t_HPut (hT.below hy) (TwoK.of_below f f2 hy) hB1 hB hu x.o x.k hk x.p
  have hR := fun (y : World) (hh : Half W1 y hb rb lim (B + 2) H (putH H lim x.o (pk x.k) x.p) f f2) => t_RPut x.o x.k hk x.p hh hu
  generalize putH H lim x.o (pk x.k) x.p = H' at *
  generalize putE H lim x.o (pk x.k) x.p = vE at *
  (try unfold ptrV at hP hR)
  (try unfold keyV at hP hR)
  (try unfold propV at hP hR)
  (try unfold encP at hP hR)
  replace hP := Lib.hid hP
  replace hR := Lib.hid hR
  unfold ptrV opV
  unfold encO encP
  obtain ⟨kd, xo, xn, ⟨k0, kn⟩, ⟨⟨vk, vx, vs, vr⟩, ⟨gk0, gx, gs, gr⟩, ⟨tk, tx0, ts, tr⟩, fl⟩⟩ := x
  dsimp only at *
  subst hkd
  simp only [encO, encP, List.cons_append, List.nil_append] at hW1
  replace hfin := Lib.hid hfin
  clear h hb1 d0 hT h0 hk hB hB1 hu
  go_enter Try.func14, Try.ntmps14
  go_wp2_with fail
  have hst : ∀ i : Nat, W1.drew.cell? ⟨w.heap.size, i, none⟩ = W1.cell? ⟨w.heap.size, i, none⟩ := fun _ => rfl
  go_region_held3 (fun y => ∀ i : Nat, y.cell? ⟨w.heap.size, i, none⟩ = W1.cell? ⟨w.heap.size, i, none⟩) (first | with_reducible assumption | exact Half.cells (by assumption) hfr.out | exact Done.cells (by assumption) hfr.out) (first | (go_at_call 27; refine (hP.out W1.drew (Below.refl _ W1).drew).mono ?_; rintro e y1 ⟨rfl, hH1⟩) | (go_at_call 46; refine (hR.out _ (by assumption)).mono ?_; rintro e y2 ⟨rfl, hD1⟩))
  clear hst
  go_wp2
  go_ret
  exact ⟨rfl, hfin.out _ _ _ (by omega) hD1⟩
theorem c_do15_2 (h : Two w hb rb lim B H f f2) (hB1 : 128 ≤ B) (hB : B < 90000) (hu : usedH H ≤ 100000) (x : OP) (hk : okK x.k) (hkd : x.kd = 2) :
    Calls Try.prog 14 #[ptrV hb, ptrV rb, opV x] w fun e w' => e = .returned (.bool true) ∧ Done w w' hb rb lim (B + 2) (opH lim H x) f f2 := by
  have hop : opH lim H x = updH H x.o (dropA (pk x.k)) := by unfold opH; simp [hkd]
  rw [hop]
  clear hop
  obtain ⟨W1, hW1⟩ : ∃ W1, w.alloc (.cells (encO x).toArray 39) = W1 := ⟨_, rfl⟩
  have hb1 : Below w.heap.size w W1 := by rw [← hW1]; exact (Below.refl _ w).alloc (Nat.le_refl _) _
  have d0 : W1.heap[w.heap.size]? = some (.cells (encO x).toArray 39 (0, 0)) := by rw [← hW1]; exact heap_alloc_new w _
  obtain ⟨⟨e0, e1, e2⟩, ⟨e3, e4⟩, ⟨e5, e6, e7, e8⟩, ⟨e9, e10, e11, e12⟩, ⟨e13, e14, e15, e16⟩, e17⟩ := cells18 d0
  have hfr := Lib.hid (show f w.heap.size = 0 ∧ f2 w.heap.size = 0 ∧ w.heap.size < W1.heap.size from ⟨h.1 _ (Nat.le_refl _), h.2.1 _ (Nat.le_refl _), heapH_lt d0⟩)
  have hT := h.below hb1
  have h0 := TwoK.refl W1 f f2
  have hfin := fun (y : World) (B' : Nat) (H' : List OB) (hB' : B' ≤ B + 2) (hd : Done W1 y hb rb lim B' H' f f2) => (hd.mono hB').from (TwoK.of_below f f2 hb1)
  have hP := fun (y : World) (hy : Below W1.heap.size W1 y) => t_HDrop (hT.below hy) (TwoK.of_below f f2 hy) hB1 (by omega) hu x.o x.k hk
  have hR := fun (y : World) (hh : Half W1 y hb rb lim B H (updH H x.o (dropA (pk x.k))) f f2) => t_RDrop x.o x.k hk hh hu
  generalize updH H x.o (dropA (pk x.k)) = H' at *
  generalize dropB H x.o (pk x.k) = vE at *
  (try unfold ptrV at hP hR)
  (try unfold keyV at hP hR)
  (try unfold propV at hP hR)
  (try unfold encP at hP hR)
  replace hP := Lib.hid hP
  replace hR := Lib.hid hR
  unfold ptrV opV
  unfold encO encP
  obtain ⟨kd, xo, xn, ⟨k0, kn⟩, ⟨⟨vk, vx, vs, vr⟩, ⟨gk0, gx, gs, gr⟩, ⟨tk, tx0, ts, tr⟩, fl⟩⟩ := x
  dsimp only at *
  subst hkd
  simp only [encO, encP, List.cons_append, List.nil_append] at hW1
  replace hfin := Lib.hid hfin
  clear h hb1 d0 hT h0 hk hB hB1 hu
  go_enter Try.func14, Try.ntmps14
  go_wp2_with fail
  have hst : ∀ i : Nat, W1.drew.cell? ⟨w.heap.size, i, none⟩ = W1.cell? ⟨w.heap.size, i, none⟩ := fun _ => rfl
  go_region_held3 (fun y => ∀ i : Nat, y.cell? ⟨w.heap.size, i, none⟩ = W1.cell? ⟨w.heap.size, i, none⟩) (first | with_reducible assumption | exact Half.cells (by assumption) hfr.out | exact Done.cells (by assumption) hfr.out) (first | (go_at_call 28; refine (hP.out W1.drew (Below.refl _ W1).drew).mono ?_; rintro e y1 ⟨rfl, hH1⟩) | (go_at_call 47; refine (hR.out _ (by assumption)).mono ?_; rintro e y2 ⟨rfl, hD1⟩))
  clear hst
  go_wp2
  go_ret
  exact ⟨rfl, hfin.out _ _ _ (by omega) hD1⟩
theorem c_do15_3 (h : Two w hb rb lim B H f f2) (hB1 : 128 ≤ B) (hB : B < 90000) (hu : usedH H ≤ 100000) (x : OP) (hk : okK x.k) (hkd : x.kd = 3) :
    Calls Try.prog 14 #[ptrV hb, ptrV rb, opV x] w fun e w' => e = .returned (.bool true) ∧ Done w w' hb rb lim (B + 2) (opH lim H x) f f2 := by
  have hop : opH lim H x = setH H x.o x.n := by unfold opH; simp [hkd]
  rw [hop]
  clear hop
  obtain ⟨W1, hW1⟩ : ∃ W1, w.alloc (.cells (encO x).toArray 39) = W1 := ⟨_, rfl⟩
  have hb1 : Below w.heap.size w W1 := by rw [← hW1]; exact (Below.refl _ w).alloc (Nat.le_refl _) _
  have d0 : W1.heap[w.heap.size]? = some (.cells (encO x).toArray 39 (0, 0)) := by rw [← hW1]; exact heap_alloc_new w _
  obtain ⟨⟨e0, e1, e2⟩, ⟨e3, e4⟩, ⟨e5, e6, e7, e8⟩, ⟨e9, e10, e11, e12⟩, ⟨e13, e14, e15, e16⟩, e17⟩ := cells18 d0
  have hfr := Lib.hid (show f w.heap.size = 0 ∧ f2 w.heap.size = 0 ∧ w.heap.size < W1.heap.size from ⟨h.1 _ (Nat.le_refl _), h.2.1 _ (Nat.le_refl _), heapH_lt d0⟩)
  have hT := h.below hb1
  have h0 := TwoK.refl W1 f f2
  have hfin := fun (y : World) (B' : Nat) (H' : List OB) (hB' : B' ≤ B + 2) (hd : Done W1 y hb rb lim B' H' f f2) => (hd.mono hB').from (TwoK.of_below f f2 hb1)
  have hP := fun (y : World) (hy : Below W1.heap.size W1 y) => t_HSetProto (hT.below hy) (TwoK.of_below f f2 hy) x.o x.n
  have hR := fun (y : World) (hh : Half W1 y hb rb lim B H (setH H x.o x.n) f f2) => t_RSetProto x.o x.n hh
  generalize setH H x.o x.n = H' at *
  generalize setE H x.o x.n = vE at *
  (try unfold ptrV at hP hR)
  (try unfold keyV at hP hR)
  (try unfold propV at hP hR)
  (try unfold encP at hP hR)
  replace hP := Lib.hid hP
  replace hR := Lib.hid hR
  unfold ptrV opV
  unfold encO encP
  obtain ⟨kd, xo, xn, ⟨k0, kn⟩, ⟨⟨vk, vx, vs, vr⟩, ⟨gk0, gx, gs, gr⟩, ⟨tk, tx0, ts, tr⟩, fl⟩⟩ := x
  dsimp only at *
  subst hkd
  simp only [encO, encP, List.cons_append, List.nil_append] at hW1
  replace hfin := Lib.hid hfin
  clear h hb1 d0 hT h0 hk hB hB1 hu
  go_enter Try.func14, Try.ntmps14
  go_wp2_with fail
  have hst : ∀ i : Nat, W1.drew.cell? ⟨w.heap.size, i, none⟩ = W1.cell? ⟨w.heap.size, i, none⟩ := fun _ => rfl
  go_region_held3 (fun y => ∀ i : Nat, y.cell? ⟨w.heap.size, i, none⟩ = W1.cell? ⟨w.heap.size, i, none⟩) (first | with_reducible assumption | exact Half.cells (by assumption) hfr.out | exact Done.cells (by assumption) hfr.out) (first | (go_at_call 24; refine (hP.out W1.drew (Below.refl _ W1).drew).mono ?_; rintro e y1 ⟨rfl, hH1⟩) | (go_at_call 48; refine (hR.out _ (by assumption)).mono ?_; rintro e y2 ⟨rfl, hD1⟩))
  clear hst
  go_wp2
  go_ret
  exact ⟨rfl, hfin.out _ _ _ (by omega) hD1⟩
theorem c_do15_4 (h : Two w hb rb lim B H f f2) (hB1 : 128 ≤ B) (hB : B < 90000) (hu : usedH H ≤ 100000) (x : OP) (hk : okK x.k) (hkd : x.kd = 4) :
    Calls Try.prog 14 #[ptrV hb, ptrV rb, opV x] w fun e w' => e = .returned (.bool true) ∧ Done w w' hb rb lim (B + 2) (opH lim H x) f f2 := by
  have hop : opH lim H x = updH H x.o shutA := by unfold opH; simp [hkd]
  rw [hop]
  clear hop
  obtain ⟨W1, hW1⟩ : ∃ W1, w.alloc (.cells (encO x).toArray 39) = W1 := ⟨_, rfl⟩
  have hb1 : Below w.heap.size w W1 := by rw [← hW1]; exact (Below.refl _ w).alloc (Nat.le_refl _) _
  have d0 : W1.heap[w.heap.size]? = some (.cells (encO x).toArray 39 (0, 0)) := by rw [← hW1]; exact heap_alloc_new w _
  obtain ⟨⟨e0, e1, e2⟩, ⟨e3, e4⟩, ⟨e5, e6, e7, e8⟩, ⟨e9, e10, e11, e12⟩, ⟨e13, e14, e15, e16⟩, e17⟩ := cells18 d0
  have hfr := Lib.hid (show f w.heap.size = 0 ∧ f2 w.heap.size = 0 ∧ w.heap.size < W1.heap.size from ⟨h.1 _ (Nat.le_refl _), h.2.1 _ (Nat.le_refl _), heapH_lt d0⟩)
  have hT := h.below hb1
  have h0 := TwoK.refl W1 f f2
  have hfin := fun (y : World) (B' : Nat) (H' : List OB) (hB' : B' ≤ B + 2) (hd : Done W1 y hb rb lim B' H' f f2) => (hd.mono hB').from (TwoK.of_below f f2 hb1)
  have hP := fun (y : World) (hy : Below W1.heap.size W1 y) => t_HShut (hT.below hy) (TwoK.of_below f f2 hy) x.o
  have hR := fun (y : World) (hh : Half W1 y hb rb lim B H (updH H x.o shutA) f f2) => t_RShut x.o hh
  generalize updH H x.o shutA = H' at *
  generalize hasE H x.o = vE at *
  (try unfold ptrV at hP hR)
  (try unfold keyV at hP hR)
  (try unfold propV at hP hR)
  (try unfold encP at hP hR)
  replace hP := Lib.hid hP
  replace hR := Lib.hid hR
  unfold ptrV opV
  unfold encO encP
  obtain ⟨kd, xo, xn, ⟨k0, kn⟩, ⟨⟨vk, vx, vs, vr⟩, ⟨gk0, gx, gs, gr⟩, ⟨tk, tx0, ts, tr⟩, fl⟩⟩ := x
  dsimp only at *
  subst hkd
  simp only [encO, encP, List.cons_append, List.nil_append] at hW1
  replace hfin := Lib.hid hfin
  clear h hb1 d0 hT h0 hk hB hB1 hu
  go_enter Try.func14, Try.ntmps14
  go_wp2_with fail
  have hst : ∀ i : Nat, W1.drew.cell? ⟨w.heap.size, i, none⟩ = W1.cell? ⟨w.heap.size, i, none⟩ := fun _ => rfl
  go_region_held3 (fun y => ∀ i : Nat, y.cell? ⟨w.heap.size, i, none⟩ = W1.cell? ⟨w.heap.size, i, none⟩) (first | with_reducible assumption | exact Half.cells (by assumption) hfr.out | exact Done.cells (by assumption) hfr.out) (first | (go_at_call 26; refine (hP.out W1.drew (Below.refl _ W1).drew).mono ?_; rintro e y1 ⟨rfl, hH1⟩) | (go_at_call 49; refine (hR.out _ (by assumption)).mono ?_; rintro e y2 ⟨rfl, hD1⟩))
  clear hst
  go_wp2
  go_ret
  exact ⟨rfl, hfin.out _ _ _ (by omega) hD1⟩
theorem c_do15_5 (h : Two w hb rb lim B H f f2) (hB1 : 128 ≤ B) (hB : B < 90000) (hu : usedH H ≤ 100000) (x : OP) (hk : okK x.k) (hkd : x.kd ≠ 0 ∧ x.kd ≠ 1 ∧ x.kd ≠ 2 ∧ x.kd ≠ 3 ∧ x.kd ≠ 4) :
    Calls Try.prog 14 #[ptrV hb, ptrV rb, opV x] w fun e w' => e = .returned (.bool true) ∧ Done w w' hb rb lim (B + 2) (opH lim H x) f f2 := by
  have hop : opH lim H x = updH H x.o forceA := by unfold opH; rw [if_neg hkd.1, if_neg hkd.2.1, if_neg hkd.2.2.1, if_neg hkd.2.2.2.1, if_neg hkd.2.2.2.2]
  rw [hop]
  clear hop
  obtain ⟨W1, hW1⟩ : ∃ W1, w.alloc (.cells (encO x).toArray 39) = W1 := ⟨_, rfl⟩
  have hb1 : Below w.heap.size w W1 := by rw [← hW1]; exact (Below.refl _ w).alloc (Nat.le_refl _) _
  have d0 : W1.heap[w.heap.size]? = some (.cells (encO x).toArray 39 (0, 0)) := by rw [← hW1]; exact heap_alloc_new w _
  obtain ⟨⟨e0, e1, e2⟩, ⟨e3, e4⟩, ⟨e5, e6, e7, e8⟩, ⟨e9, e10, e11, e12⟩, ⟨e13, e14, e15, e16⟩, e17⟩ := cells18 d0
  have hfr := Lib.hid (show f w.heap.size = 0 ∧ f2 w.heap.size = 0 ∧ w.heap.size < W1.heap.size from ⟨h.1 _ (Nat.le_refl _), h.2.1 _ (Nat.le_refl _), heapH_lt d0⟩)
  have hT := h.below hb1
  have h0 := TwoK.refl W1 f f2
  have hfin := fun (y : World) (B' : Nat) (H' : List OB) (hB' : B' ≤ B + 2) (hd : Done W1 y hb rb lim B' H' f f2) => (hd.mono hB').from (TwoK.of_below f f2 hb1)
  have hP := fun (y : World) (hy : Below W1.heap.size W1 y) => t_HForce (hT.below hy) (TwoK.of_below f f2 hy) hB1 x.o
  have hR := fun (y : World) (hh : Done W1 y hb rb lim B (updH H x.o forceA) f f2) => t_RHas x.o hh
  have hhas : hasH (stp (updH H x.o forceA)) x.o = hasH H x.o := by rw [stp_force, stp_has]
  rw [hhas] at hR
  have hret : RowKit.Hid (Ending.returned (.bool ((hasE H x.o == 0) == hasH H x.o)) = Ending.returned (.bool true)) := Lib.hid (by unfold hasE; cases hasH H x.o <;> rfl)
  clear hhas
  generalize updH H x.o forceA = H' at *
  generalize hasE H x.o = vE at *
  generalize hasH H x.o = vB at *
  (try unfold ptrV at hP hR)
  (try unfold keyV at hP hR)
  (try unfold propV at hP hR)
  (try unfold encP at hP hR)
  replace hP := Lib.hid hP
  replace hR := Lib.hid hR
  unfold ptrV opV
  unfold encO encP
  obtain ⟨kd, xo, xn, ⟨k0, kn⟩, ⟨⟨vk, vx, vs, vr⟩, ⟨gk0, gx, gs, gr⟩, ⟨tk, tx0, ts, tr⟩, fl⟩⟩ := x
  dsimp only at *
  obtain ⟨k0', k1', k2', k3', k4'⟩ := hkd
  simp only [encO, encP, List.cons_append, List.nil_append] at hW1
  replace hfin := Lib.hid hfin
  clear h hb1 d0 hT h0 hk hB hB1 hu
  go_enter Try.func14, Try.ntmps14
  go_wp2_with fail
  have hst : ∀ i : Nat, W1.drew.cell? ⟨w.heap.size, i, none⟩ = W1.cell? ⟨w.heap.size, i, none⟩ := fun _ => rfl
  go_region_held3 (fun y => ∀ i : Nat, y.cell? ⟨w.heap.size, i, none⟩ = W1.cell? ⟨w.heap.size, i, none⟩) (first | with_reducible assumption | exact Half.cells (by assumption) hfr.out | exact Done.cells (by assumption) hfr.out) (first | (go_at_call 29; refine (hP.out W1.drew (Below.refl _ W1).drew).mono ?_; rintro e y1 ⟨rfl, hD1⟩) | (go_at_call 12; refine (hR.out _ (by assumption)).mono ?_; rintro e y2 ⟨rfl, rfl⟩))
  clear hst
  go_wp2
  go_ret
  exact ⟨hret.out, hfin.out _ _ _ (by omega) hD1⟩
theorem c_do15 (h : Two w hb rb lim B H f f2) (hB1 : 128 ≤ B) (hB : B < 90000) (hu : usedH H ≤ 100000) (x : OP) (hk : okK x.k) :
    Calls Try.prog 14 #[ptrV hb, ptrV rb, opV x] w fun e w' => e = .returned (.bool true) ∧ Done w w' hb rb lim (B + 2) (opH lim H x) f f2 := by
  by_cases h0 : x.kd = 0
  · exact c_do15_0 h hB1 hB hu x hk h0
  by_cases h1 : x.kd = 1
  · exact c_do15_1 h hB1 hB hu x hk h1
  by_cases h2 : x.kd = 2
  · exact c_do15_2 h hB1 hB hu x hk h2
  by_cases h3 : x.kd = 3
  · exact c_do15_3 h hB1 hB hu x hk h3
  by_cases h4 : x.kd = 4
  · exact c_do15_4 h hB1 hB hu x hk h4
  exact c_do15_5 h hB1 hB hu x hk ⟨h0, h1, h2, h3, h4⟩
end
end Go.Proofs.Ytoccmiinkfhohaa
namespace Go.Proofs.Ytoccmiinkfhohaa
open Go.RowKit Go.Shelf Go.Lib Go.Sort Go.Proofs Go.Maps
set_option linter.unusedVariables false
set_option maxHeartbeats 1000000
set_option maxRecDepth 8000

def Big (a : OB) : Bool := decide (128 < a.l.length)
def FastI (H : List OB) : Prop := ∀ a ∈ H, a.fast = true → a.l.length ≤ 128
theorem op_cases (lim : Int) (H : List OB) (x : OP) :
    (opH lim H x = H ∧ (x.kd ≠ 2 ∨ (ownH H x.o (pk x.k)).isSome = false ∨ hasH H x.o = false) ∧ ((0 ≤ x.kd ∧ x.kd ≤ 4) ∨ hasH H x.o = false)) ∨
    (x.kd = 0 ∧ ∃ c p, opH lim H x = H ++ [⟨c, p, false, true, []⟩] ∧ (usedH H : Int) < lim) ∨
    (∃ (n : Nat) (a : OB) (g : OB → OB), x.o = (n : Int) ∧ 0 < n ∧ H[n - 1]? = some a ∧ hasH H x.o = true ∧ opH lim H x = H.set (n - 1) (g a) ∧
      ((x.kd = 1 ∧ g = putA (pk x.k) x.p ∧ ((getL a.l (pk x.k)).isSome = true ∨ (usedH H : Int) < lim)) ∨ (x.kd = 2 ∧ g = dropA (pk x.k) ∧ (getL a.l (pk x.k)).isSome = true) ∨ ((x.kd = 3 ∨ x.kd = 4) ∧ (g a).fast = a.fast ∧ (g a).l = a.l) ∨ ((4 < x.kd ∨ x.kd < 0) ∧ g = forceA))) := by
  unfold opH
  by_cases h0 : x.kd = 0
  · rw [if_pos h0]
    unfold makeH
    by_cases hE : makeE H lim x.n x.o = 0
    · rw [if_pos hE]
      refine .inr (.inl ⟨h0, _, _, rfl, ?_⟩)
      unfold makeE at hE
      split at hE
      · cases hE
      · split at hE
        · cases hE
        · split at hE
          · cases hE
          · omega
    · rw [if_neg hE]; exact .inl ⟨rfl, .inl (by omega), .inl (by omega)⟩
  · rw [if_neg h0]
    by_cases h1 : x.kd = 1
    · rw [if_pos h1]
      unfold putH
      by_cases hE : putE H lim x.o (pk x.k) x.p = 0
      · rw [if_pos hE]
        rcases objH_cases H x.o with ⟨q1, q2⟩ | ⟨n, a, q0, q1, q2, q3, q4⟩
        · exfalso; unfold putE at hE; rw [if_pos q1] at hE; cases hE
        · refine .inr (.inr ⟨n, a, putA (pk x.k) x.p, q0, q1, q2, q4, by rw [q0, updH_at q1 q2], .inl ⟨h1, rfl, ?_⟩⟩)
          unfold putE at hE
          rw [if_neg (by rw [q4]; decide)] at hE
          split at hE
          · cases hE
          · split at hE
            · cases hE
            · rename_i hn
              rw [q0, own_some q1 q2] at hn
              by_cases hg : (getL a.l (pk x.k)).isSome = true
              · exact .inl hg
              · right
                have h9 : (getL a.l (pk x.k)).isSome = false := by simpa using hg
                by_cases h10 : lim ≤ (usedH H : Int)
                · exact absurd ⟨h9, h10⟩ hn
                · omega
      · rw [if_neg hE]; exact .inl ⟨rfl, .inl (by omega), .inl (by omega)⟩
    · rw [if_neg h1]
      by_cases h2 : x.kd = 2
      · rw [if_pos h2]
        rcases objH_cases H x.o with ⟨q1, q2⟩ | ⟨n, a, q0, q1, q2, q3, q4⟩
        · exact .inl ⟨by unfold updH; rw [q2], .inr (.inr q1), .inr q1⟩
        · cases hg : (getL a.l (pk x.k)).isSome with
          | true => exact .inr (.inr ⟨n, a, dropA (pk x.k), q0, q1, q2, q4, by rw [q0, updH_at q1 q2], .inr (.inl ⟨h2, rfl, hg⟩)⟩)
          | false =>
            refine .inl ⟨updH_id _ _ _ fun b hb => ?_, .inr (.inl (by rw [q0, own_some q1 q2, hg])), .inl (by omega)⟩
            rw [q3] at hb
            injection hb with hb
            subst hb
            rw [getL_idx] at hg
            unfold dropA
            cases hi : idx (gk a.l) (pk x.k) with
            | none => rfl
            | some j => rw [hi] at hg; cases hg
      · rw [if_neg h2]
        by_cases h3 : x.kd = 3
        · rw [if_pos h3]
          unfold setH
          by_cases hE : setE H x.o x.n = 0
          · rw [if_pos hE]
            rcases objH_cases H x.o with ⟨q1, q2⟩ | ⟨n, a, q0, q1, q2, q3, q4⟩
            · exfalso; unfold setE at hE; rw [if_pos (.inl q1)] at hE; cases hE
            · exact .inr (.inr ⟨n, a, _, q0, q1, q2, q4, by rw [q0, updH_at q1 q2], .inr (.inr (.inl ⟨.inl h3, rfl, rfl⟩))⟩)
          · rw [if_neg hE]; exact .inl ⟨rfl, .inl (by omega), .inl (by omega)⟩
        · rw [if_neg h3]
          rcases objH_cases H x.o with ⟨q1, q2⟩ | ⟨n, a, q0, q1, q2, q3, q4⟩
          · left
            refine ⟨?_, .inl h2, .inr q1⟩
            split <;> (unfold updH; rw [q2])
          · by_cases h4 : x.kd = 4
            · rw [if_pos h4]
              exact .inr (.inr ⟨n, a, shutA, q0, q1, q2, q4, by rw [q0, updH_at q1 q2], .inr (.inr (.inl ⟨.inr h4, rfl, rfl⟩))⟩)
            · rw [if_neg h4]
              exact .inr (.inr ⟨n, a, forceA, q0, q1, q2, q4, by rw [q0, updH_at q1 q2], .inr (.inr (.inr ⟨by omega, rfl⟩))⟩)
theorem put_big {K : KK} {p : PV} {a : OB} (hI : a.fast = true → a.l.length ≤ 128) : (putA K p a).fast = (a.fast && !Big (putA K p a)) := by
  unfold putA Big canL
  dsimp only
  rw [putL_len, getL_idx]
  cases hf : a.fast with
  | false => rfl
  | true =>
    have := hI hf
    cases hi : (idx (gk a.l) K).isSome with
    | true => simp; omega
    | false =>
      by_cases hl : a.l.length < 128
      · simp [hl]; omega
      · simp [hl]; omega
/-- what a kind turns by force -/
def hitB (H : List OB) (x : OP) : Bool := hasH H x.o && ((decide (x.kd = 2) && (ownH H x.o (pk x.k)).isSome) || decide (4 < x.kd) || decide (x.kd < 0))
/-- the marks, longer -/
def extS (s : List Bool) (n : Nat) : List Bool := s ++ List.replicate (n - s.length) false
def hitS (H : List OB) (x : OP) (s : List Bool) : List Bool := if hitB H x then s.set x.o.toNat true else s
theorem op_fast {lim : Int} {H : List OB} {x : OP} {s : List Bool} (hI : FastI H) (hl : s.length = H.length + 1) (hs : ∀ i a, H[i]? = some a → s[i + 1]? = some (!a.fast)) :
    FastI (opH lim H x) ∧ (hitS H x (extS s ((opH lim H x).length + 1))).length = (opH lim H x).length + 1 ∧
    ∀ i a, (opH lim H x)[i]? = some a → ∃ b, (hitS H x (extS s ((opH lim H x).length + 1)))[i + 1]? = some b ∧ a.fast = !(b || Big a) := by
  have hext : ∀ n, H.length ≤ n → (extS s (n + 1)).length = n + 1 := fun n hn => by simp [extS]; omega
  have hit_len : ∀ t : List Bool, (hitS H x t).length = t.length := fun t => by unfold hitS; split <;> simp
  have hold : ∀ i a, H[i]? = some a → a.fast = !((!a.fast) || Big a) := fun i a ha => by
    have := hI a (List.mem_of_getElem? ha)
    cases hf : a.fast with
    | false => rfl
    | true => have := this hf; simp [Big]; omega
  have hext0 : extS s (H.length + 1) = s := by simp [extS, hl]
  rcases op_cases lim H x with ⟨h1, h2, h3⟩ | ⟨h1, c, p, h2, _⟩ | ⟨n, a, g, h1, h2, h3, h4, h5, h6⟩
  · have hb : hitB H x = false := by
      unfold hitB
      rcases h3 with h3 | h3
      · rcases h2 with h2 | h2 | h2
        · simp; intro _; omega
        · rw [h2]; simp; intro _; omega
        · rw [h2]; rfl
      · rw [h3]; rfl
    rw [h1, hext0]
    unfold hitS
    rw [hb]
    exact ⟨hI, hl, fun i a ha => ⟨_, hs i a ha, hold i a ha⟩⟩
  · have hb : hitB H x = false := by unfold hitB; simp; intro _; omega
    rw [h2]
    unfold hitS
    rw [hb]
    refine ⟨fun a ha => ?_, by rw [List.length_append, List.length_singleton]; exact hext _ (by omega), fun i a ha => ?_⟩
    · rcases List.mem_append.1 ha with h | h
      · exact hI a h
      · simp at h; subst h; intro _; simp
    · have hlen : (H ++ [(⟨c, p, false, true, []⟩ : OB)]).length + 1 - s.length = 1 := by simp; omega
      unfold extS
      rw [hlen, if_neg (by decide)]
      by_cases hi : i < H.length
      · rw [List.getElem?_append_left hi] at ha
        exact ⟨_, by rw [List.getElem?_append_left (by omega)]; exact hs i a ha, hold i a ha⟩
      · have hi2 : i = H.length := by have := (List.getElem?_eq_some_iff.1 ha).1; simp at this; omega
        subst hi2
        simp at ha
        subst ha
        exact ⟨false, by rw [List.getElem?_append_right (by omega)]; simp [hl], rfl⟩
  · have hn : n - 1 < H.length := (List.getElem?_eq_some_iff.1 h3).1
    have hlen : (opH lim H x).length = H.length := by rw [h5]; simp
    have ht : x.o.toNat = n := by rw [h1]; simp
    have hIa := hI a (List.mem_of_getElem? h3)
    have hsa := hs (n - 1) a h3
    have en : n - 1 + 1 = n := by omega
    rw [en] at hsa
    have hgI : (g a).fast = true → (g a).l.length ≤ 128 := by
      rcases h6 with ⟨_, rfl, _⟩ | ⟨_, rfl, h⟩ | ⟨_, e1, e2⟩ | ⟨_, rfl⟩
      · rw [put_big hIa]
        simp [Big]
      · intro h'
        rw [getL_idx] at h
        unfold dropA at h'
        cases hi : idx (gk a.l) (pk x.k) with
        | none => rw [hi] at h; cases h
        | some j => rw [hi] at h'; cases h'
      · rw [e1, e2]; exact hIa
      · intro h; cases h
    have hga : ∃ b, (hitS H x s)[n]? = some b ∧ (g a).fast = !(b || Big (g a)) := by
      have hlt : n < s.length := by omega
      rcases h6 with ⟨k, rfl, _⟩ | ⟨k, rfl, h⟩ | ⟨k, e1, e2⟩ | ⟨k, rfl⟩
      · refine ⟨!a.fast, ?_, (put_big hIa).trans ?_⟩
        · unfold hitS
          rw [if_neg]
          · exact hsa
          · unfold hitB; simp; intro _; omega
        · cases a.fast <;> simp
      · refine ⟨true, ?_, ?_⟩
        · unfold hitS
          rw [if_pos, ht]
          · rw [List.getElem?_set_self (by omega)]
          · unfold hitB
            rw [h4, h1, own_some h2 h3, h]
            simp [k]
        · rw [getL_idx] at h
          unfold dropA
          cases hi : idx (gk a.l) (pk x.k) with
          | none => rw [hi] at h; cases h
          | some j => rfl
      · refine ⟨!a.fast, ?_, ?_⟩
        · unfold hitS
          rw [if_neg]
          · exact hsa
          · unfold hitB; simp; intro _; omega
        · have : Big (g a) = Big a := by unfold Big; rw [e2]
          rw [e1, this]
          exact hold _ a h3
      · refine ⟨true, ?_, rfl⟩
        unfold hitS
        rw [if_pos, ht]
        · rw [List.getElem?_set_self (by omega)]
        · unfold hitB
          rw [h4]
          simp
          omega
    rw [hlen, hext0, h5]
    refine ⟨fun b hb => ?_, by rw [hit_len, hl], fun i b hb => ?_⟩
    · rcases List.mem_or_eq_of_mem_set hb with h | h
      · exact hI b h
      · subst h; exact hgI
    · rw [List.getElem?_set] at hb
      by_cases hi : n - 1 = i
      · subst hi
        rw [if_pos rfl, if_pos hn] at hb
        injection hb with hb
        subst hb
        rw [en]
        exact hga
      · rw [if_neg hi] at hb
        refine ⟨_, ?_, hold i b hb⟩
        unfold hitS
        split
        · rw [ht, List.getElem?_set_ne (by omega)]; exact hs i b hb
        · exact hs i b hb
/-- never more than the limit -/
theorem op_room {lim : Int} {H : List OB} {x : OP} (h : (usedH H : Int) ≤ lim) : (usedH (opH lim H x) : Int) ≤ lim := by
  rcases op_cases lim H x with ⟨h1, _⟩ | ⟨_, c, p, h2, h3⟩ | ⟨n, a, g, h1, h2, h3, h4, h5, h6⟩
  · rw [h1]; exact h
  · rw [h2]
    have : usedH (H ++ [(⟨c, p, false, true, []⟩ : OB)]) = usedH H + 1 := by simp [usedH]; omega
    omega
  · have e := usedH_set (a' := g a) h3
    rw [h5]
    rcases h6 with ⟨_, rfl, q⟩ | ⟨_, rfl, q⟩ | ⟨_, e1, e2⟩ | ⟨_, rfl⟩
    · have : (putA (pk x.k) x.p a).l.length = if (getL a.l (pk x.k)).isSome then a.l.length else a.l.length + 1 := putL_len _ _ _
      cases hg : (getL a.l (pk x.k)).isSome with
      | true => rw [hg] at this; simp at this; omega
      | false =>
        rw [hg] at this q
        simp at this
        have q : (usedH H : Int) < lim := by rcases q with q | q; cases q; exact q
        omega
    · have := drop_len (pk x.k) a; omega
    · rw [e2] at e; omega
    · have : (forceA a).l = a.l := rfl
      rw [this] at e; omega
/-- the heap after a list's first operations -/
def runO (lim : Int) (l : List OP) : List OB := l.foldl (opH lim) []
theorem run_next {lim : Int} {l : List OP} {i : Nat} {x : OP} (h : l[i]? = some x) : runO lim (l.take (i + 1)) = opH lim (runO lim (l.take i)) x := by
  have hlt : i < l.length := (List.getElem?_eq_some_iff.1 h).1
  have hx : l[i] = x := (List.getElem?_eq_some_iff.1 h).2
  unfold runO
  rw [List.take_succ_eq_append_getElem hlt, List.foldl_append, hx]
  rfl
theorem run_used {lim : Int} {l : List OP} : ∀ {i : Nat}, i ≤ l.length → usedH (runO lim (l.take i)) ≤ i := by
  intro i
  induction i with
  | zero => intro _; simp [runO, usedH]
  | succ i ih =>
    intro h
    have hx : l[i]? = some l[i] := List.getElem?_eq_getElem (by omega)
    rw [run_next hx]
    have := ih (by omega)
    have := op_used lim (runO lim (l.take i)) l[i]
    omega
theorem run_room {lim : Int} (h0 : 0 ≤ lim) {l : List OP} : ∀ {i : Nat}, i ≤ l.length → (usedH (runO lim (l.take i)) : Int) ≤ lim := by
  intro i
  induction i with
  | zero => intro _; simp [runO, usedH]; exact h0
  | succ i ih =>
    intro h
    have hx : l[i]? = some l[i] := List.getElem?_eq_getElem (by omega)
    rw [run_next hx]
    exact op_room (ih (by omega))
end Go.Proofs.Ytoccmiinkfhohaa
namespace Go.Proofs.Ytoccmiinkfhohaa
open Go.RowKit Go.Shelf Go.Lib Go.Sort Go.Proofs Go.Maps
set_option linter.unusedVariables false
set_option maxHeartbeats 400000
set_option maxRecDepth 8000

def LawS (w0 w : World) (hb rb : Nat) (lim : Int) (B : Nat) (H : List OB) : Prop :=
  ∃ f f2, Two w hb rb lim B H f f2 ∧ Below w0.heap.size w0 w ∧ ∀ r, r < w0.heap.size → f r = 0 ∧ f2 r = 0
section
variable {w0 w w' : World} {hb rb B : Nat} {lim : Int} {H : List OB}
theorem LawS.base (h : LawS w0 w hb rb lim B H) : Below w0.heap.size w0 w := by
  obtain ⟨f, f2, h1, h2, h3⟩ := h
  exact h2
theorem LawS.below (h : LawS w0 w hb rb lim B H) (hb' : Below w.heap.size w w') : LawS w0 w' hb rb lim B H := by
  obtain ⟨f, f2, h1, h2, h3⟩ := h
  exact ⟨f, f2, h1.below hb', h2.trans (hb'.mono h2.size), h3⟩
theorem law_new {w w1 w2 : World} {f f2 : Nat → Nat} (t1 : Turn (fun _ => False) (fun _ => 0) f w w1) (h1 : HeapO w1 f hb lim 0 128 []) (t2 : Turn (fun _ => False) (fun _ => 0) f2 w1 w2) (h2 : RefO w2 f2 rb lim []) : LawS w w2 hb rb lim 128 [] := by
  have b1 : Below w.heap.size w w1 := t1.below (Nat.le_refl _) (fun _ _ h => h)
  have b2 : Below w1.heap.size w1 w2 := t2.below (Nat.le_refl _) (fun _ _ h => h)
  refine ⟨f, f2, ⟨t1.norm.below b2.size, t2.norm, h1.below t1.norm b2, h2, fun r hr => ?_⟩, b1.trans (b2.mono b1.size), fun r hr => ⟨t1.agree r hr, t2.agree r (Nat.lt_of_lt_of_le hr b1.size)⟩⟩
  by_cases hlt : r < w1.heap.size
  · exact absurd (t2.agree r hlt) hr
  · exact t1.norm r (by omega)
theorem LawS.done {f f2 : Nat → Nat} {B' : Nat} {H' : List OB} (h2 : Below w0.heap.size w0 w) (h3 : ∀ r, r < w0.heap.size → f r = 0 ∧ f2 r = 0) (hd : Done w w' hb rb lim B' H' f f2) : LawS w0 w' hb rb lim B' H' := by
  obtain ⟨f', f2', g1, g2⟩ := hd
  refine ⟨f', f2', g1, h2.trans (g2.below h2.size h3), fun r hr => ?_⟩
  obtain ⟨q1, q2⟩ := g2.own r (Nat.lt_of_lt_of_le hr h2.size)
  rw [q1, q2]
  exact h3 r hr
theorem l_new {w1 : World} {f : Nat → Nat} (t1 : Turn (fun _ => False) (fun _ => 0) f w w1) (h1 : HeapO w1 f hb lim 0 128 []) :
    Calls Try.prog 11 #[.int .i64 lim] w1 fun e w2 => ∃ rb, e = .returned (.pointer (some ⟨rb, 0, none⟩)) ∧ LawS w w2 hb rb lim 128 [] := by
  refine (c_Rnew (f := fun _ => 0) (fun _ _ => rfl) lim).mono ?_
  rintro e w2 ⟨rb, f2, rfl, t2, h2⟩
  exact ⟨rb, rfl, law_new t1 h1 t2 h2⟩
theorem l_do (h : LawS w0 w hb rb lim B H) (hB1 : 128 ≤ B) (hB : B < 90000) (hu : usedH H ≤ 100000) (x : OP) (hk : okK x.k) :
    Calls Try.prog 14 #[.pointer (some ⟨hb, 0, none⟩), .pointer (some ⟨rb, 0, none⟩), .agg (encO x).toArray] w fun e w' => e = .returned (.bool true) ∧ LawS w0 w' hb rb lim (B + 2) (opH lim H x) := by
  obtain ⟨f, f2, h1, h2, h3⟩ := h
  refine (c_do15 h1 hB1 hB hu x hk).mono ?_
  rintro e w' ⟨rfl, hd⟩
  exact ⟨rfl, LawS.done h2 h3 hd⟩
theorem l_Len (h : LawS w0 w hb rb lim B H) (hu : usedH H ≤ 100000) : Calls Try.prog 16 #[.pointer (some ⟨hb, 0, none⟩)] w fun e w' => e = .returned (.int .i64 (H.length : Int)) ∧ w' = w := by
  obtain ⟨f, f2, h1, h2, h3⟩ := h
  have := used_len H
  exact c_HLen h1.2.2.1 (by omega)
theorem l_Used (h : LawS w0 w hb rb lim B H) : Calls Try.prog 18 #[.pointer (some ⟨hb, 0, none⟩)] w fun e w' => e = .returned (.int .i64 (usedH H : Int)) ∧ w' = w := by
  obtain ⟨f, f2, h1, h2, h3⟩ := h
  exact c_HUsed h1.2.2.1
theorem KeysOf.len {ks Z : List KK} (h : KeysOf ks Z) : Z.length = ks.length := by
  obtain ⟨l, h1, _, h3, _⟩ := h
  rw [h3.len, ← h1, List.length_map]
theorem l_KeysLen (h : LawS w0 w hb rb lim B H) (hB1 : 128 ≤ B) (hB : B ≤ 100000) (m : Nat) (a : OB) (ha : H[m]? = some a) :
    Calls Try.prog 17 #[.pointer (some ⟨hb, 0, none⟩), .int .i64 ((m : Int) + 1)] w fun e w' => ∃ p c, e = .returned (.slice p a.l.length c) ∧ Below w.heap.size w w' := by
  obtain ⟨f, f2, h1, h2, h3⟩ := h
  have hc := c_HKeys h1.1 h1.2.2.1 hB1 hB ((m + 1 : Nat) : Int)
  have e : listH H ((m + 1 : Nat) : Int) = a.l := by unfold listH; rw [objH_at (o := m + 1) (by omega) ha]
  rw [e] at hc
  refine hc.mono ?_
  rintro e w' ⟨v, Z, rfl, hr, hk, hb'⟩
  obtain ⟨p, c, rfl, _⟩ := hr.form
  have := hk.len
  rw [this]
  simp only [gk, List.length_map]
  exact ⟨p, c, rfl, hb'⟩
end
/-- the properties of the first objects -/
def sumL (H : List OB) (m : Nat) : Nat := H.length + ((H.take m).map fun a => a.l.length).sum
theorem sumL_next {H : List OB} {m : Nat} {a : OB} (h : H[m]? = some a) : sumL H (m + 1) = sumL H m + a.l.length := by
  have hlt : m < H.length := (List.getElem?_eq_some_iff.1 h).1
  have hx : H[m] = a := (List.getElem?_eq_some_iff.1 h).2
  unfold sumL
  rw [List.take_succ_eq_append_getElem hlt, List.map_append, List.sum_append, hx]
  simp
  omega
theorem sumL_end (H : List OB) : sumL H H.length = usedH H := by
  unfold sumL usedH
  rw [List.take_length]
theorem sumL_le (H : List OB) {m : Nat} (h : m ≤ H.length) : sumL H m ≤ usedH H := by
  rw [← sumL_end]
  unfold sumL
  obtain ⟨d, hd⟩ := Nat.exists_eq_add_of_le h
  rw [hd, List.take_add, List.map_append, List.sum_append]
  omega
end Go.Proofs.Ytoccmiinkfhohaa
namespace Go.Proofs.Ytoccmiinkfhohaa
open Go.RowKit Go.Shelf Go.Lib Go.Sort Go.Proofs Go.Maps
set_option linter.unusedVariables false
set_option maxHeartbeats 4000000
set_option maxRecDepth 100000

theorem c_HeapRoom (lim : Int) (v : Value) (l : List OP) (hs : fewO l l.length ≤ 4194304) (hz : ∀ x ∈ l, (x.k.1.size ≤ 4194304 ∧ x.p.v.s.size ≤ 4194304) ∧ okK x.k) (w : World) (h : RdO w v l) :
    Calls Try.prog 4 #[.int .i64 lim, v] w fun e w' => e = .returned (.bool true) ∧ Below w.heap.size w w' := by
  obtain ⟨p, c, rfl, hlc, hL⟩ := h.form
  have hfew := fun (y : World) (hy : Below w.heap.size w y) => c_few15 (.slice p l.length c) l hs (fun x hx => (hz x hx).1) y (by
    rcases h with ⟨h1, h2⟩ | ⟨p', c', h1, h2, h3⟩
    · exact .inl ⟨h1, h2⟩
    · refine .inr ⟨p', c', h1, h2, fun k x hx => ?_⟩
      obtain ⟨g1, g2⟩ := h3 k x hx
      exact ⟨g1, range_at g2 (hy.block _ (by have := cell_lt (g2 0 _ rfl); exact this))⟩)
  have hlen : l.length ≤ fewO l l.length := Nat.le_add_right _ _
  replace hfew := Lib.hid hfew
  replace hL := Lib.hid hL
  replace hz := Lib.hid hz
  clear h
  cases hd : decide (fewO l l.length ≤ 300) with
  | false =>
    rw [hd] at hfew
    clear hd
    go_enter Try.func4, Try.ntmps4
    go_wp2_with (first | (go_at_call 8; refine (c_awake15 _).mono ?_; rintro e w1 ⟨rfl, hb1⟩) | (go_at_call 9; refine (hfew.out _ hb1).mono ?_; rintro e w2 ⟨rfl, hb2⟩))
    go_ret
    exact ⟨rfl, hb1.trans (hb2.mono hb1.size)⟩
  | true =>
    rw [hd] at hfew
    have hl3 : l.length ≤ 300 := Nat.le_trans hlen (of_decide_eq_true hd)
    clear hd hlen hs
    cases hneg : decide (lim < 0) with
    | true =>
      have hneg' := of_decide_eq_true hneg
      clear hneg
      go_enter Try.func4, Try.ntmps4
      go_wp2_with (first | (go_at_call 8; refine (c_awake15 _).mono ?_; rintro e w1 ⟨rfl, hb1⟩) | (go_at_call 9; refine (hfew.out _ hb1).mono ?_; rintro e w2 ⟨rfl, hb2⟩))
      go_ret
      exact ⟨rfl, hb1.trans (hb2.mono hb1.size)⟩
    | false =>
      have hlim : (0 : Int) ≤ lim := by have := of_decide_eq_false hneg; omega
      have hneg' : ¬ lim < 0 := by omega
      clear hneg
      go_enter Try.func4, Try.ntmps4
      go_wp2_with (first | (go_at_call 8; refine (c_awake15 _).mono ?_; rintro e w1 ⟨rfl, hb1⟩) | (go_at_call 9; refine (hfew.out _ hb1).mono ?_; rintro e w2 ⟨rfl, hb2⟩) | (go_at_call 10; refine (c_Hnew (f := fun _ => 0) (fun _ _ => rfl) lim).mono ?_; rintro e w3 ⟨hb, f1, rfl, t1, h1⟩; unfold ptrV) | (go_at_call 11; refine (l_new t1 h1).mono ?_; rintro e w4 ⟨rb, rfl, hS⟩))
      have hB2 := hb1.trans (hb2.mono hb1.size)
      replace hB2 := Lib.hid hB2
      replace hS := Lib.hid hS
      clear t1 h1 hb1 hb2 hfew
      obtain ⟨W2, rfl⟩ : ∃ W2, W2 = w2 := ⟨_, rfl⟩
      go_loopw [26] (fun vi wr => ∃ i : Nat, i ≤ l.length ∧ vi = .int .i64 (i : Int) ∧ LawS W2 wr hb rb lim (128 + 2 * i) (runO lim (l.take i))) (fun vi _ => l.length - (intOf vi).toNat)
      case atStart => exact ⟨0, by omega, rfl, hS.out⟩
      case round =>
        obtain ⟨i, hi, rfl, hT⟩ := hrel
        rcases Nat.lt_or_ge i l.length with hlt | hge
        · obtain ⟨x, hx⟩ : ∃ x, l[i]? = some x := ⟨_, List.getElem?_eq_getElem hlt⟩
          obtain ⟨b, o, rfl, lb, hrg⟩ := hL.out i x hx
          replace hrg := hrg wr (hB2.out.trans (hT.base.mono hB2.out.size))
          have hi18 : (Try.prog.info? 39).map (·.size) = some (encO x).length := infoOp
          have hj18 : (Try.prog.info? 39).map (·.size) = some (encO x).toArray.size := infoOp
          have ho18 := all_oneCell_toArray (encO_one x)
          have q1 : (0 : Int) ≤ (i : Int) := by omega
          have q2 : (i : Int) < (l.length : Int) := by omega
          obtain ⟨hfb, hfh⟩ := fresh_cellsO (w := wr) x
          have hrg2 := range_of_block hfh
          have hth : (wr.alloc (.cells zeroO 39)).there wr.heap.size 0 (encO x).toArray.size := zeroO_there wr
          have hu0 := run_used (lim := lim) (l := l) (i := i) hi
          have hu1 := run_used (lim := lim) (l := l) (i := i + 1) hlt
          have hrm := run_room hlim (l := l) (i := i + 1) hlt
          have hnx := run_next (lim := lim) hx
          have hdo := fun (y : World) (hy : LawS W2 y hb rb lim (128 + 2 * i) (runO lim (l.take i))) => l_do hy (by omega) (by omega) (by omega) x (hz.out x (List.mem_of_getElem? hx)).2
          rw [← hnx] at hdo
          replace hdo := Lib.hid hdo
          replace hfb := Lib.hid hfb
          replace hT := Lib.hid hT
          clear hx hfh hnx
          generalize encO x = E at *
          generalize hH' : runO lim (l.take (i + 1)) = H' at *
          replace hH' := Lib.hid hH'
          have tokA : True := trivial
          have tokB : True := trivial
          have tokC : True := trivial
          go_wp2_with (first | (clear tokA; refine wpList_load_mid rfl 39 (.tmp 28) rfl b (o + i * 18) rfl E _ hrg Try.underlying39 rfl hi18 ?_) | (clear tokB; refine wpList_store_mid rfl 39 (.tmp 8) (.tmp 29) rfl wr.heap.size 0 E.toArray rfl rfl hth hj18 ho18 ?_; generalize hW4 : World.setCells _ _ _ _ = W4; rw [show (wr.alloc (.cells zeroO 39)).setCells wr.heap.size 0 E = W4 from hW4] at hfb hrg2; clear hW4 hth hrg; have hT4 := hT.out.below hfb.out) | (clear tokC; refine wpList_load_mid rfl 39 (.tmp 8) rfl wr.heap.size 0 rfl E _ hrg2 Try.underlying39 rfl hi18 ?_; clear hrg2) | (go_at_call 14; refine (hdo.out _ hT4).mono ?_; rintro e w5 ⟨rfl, hT5⟩) | (go_at_call 16; refine (l_Len hT5 (by omega)).mono ?_; rintro e w6 ⟨rfl, rfl⟩))
          have h00 : sumL H' 0 = H'.length := by simp [sumL]
          have hend := sumL_end H'
          have hT5w := Lib.hid hT5
          replace h00 := Lib.hid h00
          replace hend := Lib.hid hend
          obtain ⟨W6, rfl⟩ : ∃ W6, W6 = w6 := ⟨_, rfl⟩
          clear hT4 hT5 hT hfb hdo hlim
          go_loopw [9, 10] (fun vn vk wr2 => ∃ m : Nat, m ≤ H'.length ∧ vk = .int .i64 ((m : Int) + 1) ∧ vn = .int .i64 (sumL H' m : Int) ∧ LawS W2 wr2 hb rb lim (128 + 2 * i + 2) H') (fun _ vk _ => H'.length + 1 - (intOf vk).toNat)
          case atStart => exact ⟨0, by omega, by simp, by rw [h00.out], hT5w.out⟩
          case round =>
            obtain ⟨m, hm, rfl, rfl, hT7⟩ := hrel
            have hle := sumL_le H' hm
            have hHl := used_len H'
            rcases Nat.lt_or_ge m H'.length with hml | hmg
            · obtain ⟨a, ha⟩ : ∃ a, H'[m]? = some a := ⟨_, List.getElem?_eq_getElem hml⟩
              have hnx := sumL_next ha
              have hle2 := sumL_le H' (m := m + 1) hml
              have r1 : (m : Int) + 1 ≤ (H'.length : Int) := by omega
              go_wp2_with (first | (go_at_call 16; refine (l_Len hT7 (by omega)).mono ?_; rintro e w8 ⟨rfl, rfl⟩) | (go_at_call 17; refine (l_KeysLen hT7 (by omega) (by omega) m a ha).mono ?_; rintro e w9 ⟨p9, c9, rfl, hb9⟩))
              exact ⟨⟨m + 1, by omega, by go_num, by rw [hnx]; go_num, hT7.below hb9⟩, by simp [intOf]; omega⟩
            · obtain rfl : m = H'.length := by omega
              rw [hend.out]
              have r1 : ¬ ((H'.length : Int) + 1 ≤ (H'.length : Int)) := by omega
              have r2 : ¬ (lim < (usedH H' : Int)) := by omega
              clear hle hm hmg
              go_wp2_with (first | (go_at_call 16; refine (l_Len hT7 (by omega)).mono ?_; rintro e w8 ⟨rfl, rfl⟩) | (go_at_call 18; refine (l_Used hT7).mono ?_; rintro e w9 ⟨rfl, rfl⟩))
              exact ⟨⟨i + 1, by omega, by go_num, by rw [hH'.out]; exact hT7⟩, by simp [intOf]; omega⟩
        · obtain rfl : i = l.length := by omega
          clear hi hge
          go_wp2
          go_ret
          exact ⟨rfl, hB2.out.trans (hT.base.mono hB2.out.size)⟩
end Go.Proofs.Ytoccmiinkfhohaa
namespace Go.Proofs.Ytoccmiinkfhohaa
open Go.RowKit Go.Shelf Go.Lib Go.Sort Go.Proofs Go.ChangeShapes Go.WideShapes Go.ChangeAt
set_option maxHeartbeats 1000000
set_option maxRecDepth 8000

theorem bulk_small {H : Type} {ds : List (DataW H)} (hk : Rows.uptoSmall H ds = true) : Rows.uptoBulkAll ds ≤ 1048576 := of_decide_eq_true hk
theorem bulk_part {H : Type} {d : DataW H} {l : List (DataW H)} (h : d ∈ l) : Rows.uptoBulk d ≤ Rows.uptoBulkAll l := by
  induction l with
  | nil => cases h
  | cons x r ih =>
    simp only [Rows.uptoBulkAll]
    rcases List.mem_cons.1 h with rfl | e
    · omega
    · have := ih e; omega
theorem cellsOp : Try.prog.cellsOf 39 = 18 := by kernel_rfl
theorem cellsValue : Try.prog.cellsOf 35 = 4 := by kernel_rfl
theorem cellsProp : Try.prog.cellsOf 37 = 13 := by kernel_rfl
theorem cellsFloat : Try.prog.cellsOf 33 = 1 := by kernel_rfl
section
variable {H : Type} {enc : TypeId × Value → H} {P : Program} {w : World} {base : Nat} {spare : Nat → Bool} {held : Bool}
theorem trod_float5 {t : TypeId} {k : FloatKind} {fuel : Nat} {cs : List Value} {x : DataW H × List MemPlace} (ht : P.underlying t = some (.float k)) (h : DataW.trod enc P w base spare held fuel t cs = some x) : ∃ b, cs = [.float k b] ∧ x = (.lit (.float k b), []) := by
  cases fuel with
  | zero => simp [DataW.trod] at h
  | succ n =>
    unfold DataW.trod at h
    rw [ht] at h
    split at h <;> simp_all
end
section
variable {H : Type} {enc : TypeId × Value → H} {w : World} {base : Nat} {spare : Nat → Bool} {held : Bool}
def encV (v : VV) : List Value := [.int .i64 v.k, .float .f64 v.x, .string v.s, .int .i64 v.r]
theorem value_open {fuel : Nat} {cs : List Value} {x : DataW H × List MemPlace} (h : DataW.trod enc Try.prog w base spare held fuel 35 cs = some x) : ∃ v : VV, cs = encV v ∧ v.s.size ≤ Rows.uptoBulk x.1 := by
  obtain ⟨y0, y1, y2, y3, n, rfl, hl, h0, h1, h2, h3⟩ := Go.Joins.trod_struct4 Try.underlying35 h
  rw [cellsValue] at hl
  match cs, hl with
  | [c0, c1, c2, c3], _ =>
    obtain ⟨k, e0, _, _⟩ := DataW.trod_int Try.underlying3 h0
    obtain ⟨f, e1, _⟩ := trod_float5 Try.underlying33 h1
    obtain ⟨s, e2, g2, _⟩ := DataW.trod_string Try.underlying30 h2
    obtain ⟨r, e3, _, _⟩ := DataW.trod_int Try.underlying3 h3
    simp [cellsInt, cellsFloat, cellsStr] at e0 e1 e2 e3
    subst e0 e1 e2 e3
    refine ⟨⟨k, f, s, r⟩, rfl, ?_⟩
    have h3 : s.data.toList.length = s.size := rfl
    subst g2
    simp only [Rows.uptoBulk, Rows.uptoBulkAll]
    omega
theorem prop_open {fuel : Nat} {cs : List Value} {x : DataW H × List MemPlace} (h : DataW.trod enc Try.prog w base spare held fuel 37 cs = some x) : ∃ p : PV, cs = encP p ∧ p.v.s.size ≤ Rows.uptoBulk x.1 := by
  obtain ⟨y0, y1, y2, y3, n, rfl, hl, h0, h1, h2, h3⟩ := Go.Joins.trod_struct4 Try.underlying37 h
  rw [cellsProp] at hl
  match cs, hl with
  | [c0, c1, c2, c3, c4, c5, c6, c7, c8, c9, c10, c11, c12], _ =>
    obtain ⟨v, e0, g0⟩ := value_open h0
    obtain ⟨g, e1, _⟩ := value_open h1
    obtain ⟨t, e2, _⟩ := value_open h2
    obtain ⟨r, e3, _, _⟩ := DataW.trod_int Try.underlying3 h3
    simp [cellsValue, cellsInt, encV] at e0 e1 e2 e3
    obtain ⟨rfl, rfl, rfl, rfl⟩ := e0
    obtain ⟨rfl, rfl, rfl, rfl⟩ := e1
    obtain ⟨rfl, rfl, rfl, rfl⟩ := e2
    subst e3
    refine ⟨⟨v, g, t, r⟩, rfl, ?_⟩
    show v.s.size ≤ _
    simp only [Rows.uptoBulk, Rows.uptoBulkAll]
    omega
theorem keyc_open {fuel : Nat} {cs : List Value} {x : DataW H × List MemPlace} (h : DataW.trod enc Try.prog w base spare held fuel 32 cs = some x) : ∃ k : KK, cs = [.string k.1, .int .i64 k.2] ∧ k.1.size ≤ Rows.uptoBulk x.1 ∧ (Lit.int .i64 k.2).wf = true := by
  obtain ⟨y0, y1, n, rfl, hl, h0, h1⟩ := Go.ChangeShapes.trod_struct2 Try.underlying32 h
  rw [cellsKey] at hl
  match cs, hl with
  | [c0, c1], _ =>
    obtain ⟨s, e0, g0, _⟩ := DataW.trod_string Try.underlying30 h0
    obtain ⟨r, e1, _, hw⟩ := DataW.trod_int Try.underlying3 h1
    simp [cellsInt, cellsStr] at e0 e1
    subst e0 e1
    refine ⟨(s, r), rfl, ?_, hw⟩
    subst g0
    have h3 : s.data.toList.length = s.size := rfl
    simp only [Rows.uptoBulk, Rows.uptoBulkAll]
    show s.size ≤ _
    omega
theorem op_open {fuel : Nat} {cs : List Value} {x : DataW H × List MemPlace} (h : DataW.trod enc Try.prog w base spare held fuel 39 cs = some x) : ∃ z : OP, cs = encO z ∧ z.k.1.size + z.p.v.s.size + 1 ≤ Rows.uptoBulk x.1 ∧ (Lit.int .i64 z.k.2).wf = true := by
  obtain ⟨xs, n, _, rfl, hl, hlen, hf⟩ := DataW.trod_struct Try.underlying39 h
  rw [cellsOp] at hl
  match xs, hlen with
  | [y0, y1, y2, y3, y4], _ =>
    have h0 := hf 0 _ rfl
    have h1 := hf 1 _ rfl
    have h2 := hf 2 _ rfl
    have h3 := hf 3 _ rfl
    have h4 := hf 4 _ rfl
    match cs, hl with
    | [c0, c1, c2, c3, c4, c5, c6, c7, c8, c9, c10, c11, c12, c13, c14, c15, c16, c17], _ =>
      obtain ⟨a, e0, _, _⟩ := DataW.trod_int Try.underlying3 h0
      obtain ⟨b, e1, _, _⟩ := DataW.trod_int Try.underlying3 h1
      obtain ⟨c, e2, _, _⟩ := DataW.trod_int Try.underlying3 h2
      obtain ⟨k, e3, g3, hw⟩ := keyc_open h3
      obtain ⟨p, e4, g4⟩ := prop_open h4
      simp [cellsInt, cellsKey, cellsProp, encP] at e0 e1 e2 e3 e4
      subst e0 e1 e2
      obtain ⟨rfl, rfl⟩ := e3
      obtain ⟨rfl, rfl, rfl, rfl, rfl, rfl, rfl, rfl, rfl, rfl, rfl, rfl, rfl⟩ := e4
      refine ⟨⟨a, b, c, k, p⟩, rfl, ?_, hw⟩
      show k.1.size + p.v.s.size + 1 ≤ _
      simp only [List.map_cons, Rows.uptoBulk, Rows.uptoBulkAll]
      omega
theorem bulk_ops (q : Nat → OP) (D : Nat → DataW H) (is : List Nat) (h : ∀ i ∈ is, (q i).k.1.size + (q i).p.v.s.size + 1 ≤ Rows.uptoBulk (D i)) : (is.map fun i => (q i).k.1.size + (q i).p.v.s.size + 1).sum ≤ Rows.uptoBulkAll (is.map D) := by
  induction is with
  | nil => simp
  | cons i is ih =>
    have h1 := ih (fun j hj => h j (by simp [hj]))
    have h2 := h i (by simp)
    simp only [List.map_cons, List.sum_cons, Rows.uptoBulkAll]
    omega
end
theorem ops_open {H : Type} {enc : TypeId × Value → H} {W : World} {base : Nat} {v : Value} {d : DataW H} {p : List MemPlace} (hok : Value.okWide Try.prog W .any base 22 v) (h : DataW.Trod enc Try.prog W 0 (fun _ => true) true 22 v d p) (hb : Rows.uptoBulk d ≤ 1048576) :
    ∃ l : List OP, RdO W v l ∧ (l.map fun x => x.k.1.size + x.p.v.s.size + 1).sum ≤ 1048576 ∧ ∀ x ∈ l, okK x.k := by
  obtain ⟨a0, len0, cap0, rfl⟩ := okWide_slice Try.underlying22 hok
  obtain ⟨fuel, hf⟩ := h
  rcases Go.Deep.open_slice Try.underlying22 hf with ⟨hcs, hx⟩ | ⟨a, len, cap, m, n, D, Pl, hcs, hba, hlc, hcm, hm, hx, hcell⟩
  · simp [Value.cells] at hcs
    obtain ⟨rfl, rfl, rfl⟩ := hcs
    exact ⟨[], .inl ⟨rfl, rfl⟩, by simp, by simp⟩
  · simp [Value.cells] at hcs
    obtain ⟨rfl, rfl, rfl⟩ := hcs
    rw [cellsOp] at hcell
    have each : ∀ i, i < len0 → ∃ q : OP, (∀ j u, (encO q)[j]? = some u → W.cell? (a.add (i * 18 + j)) = some u) ∧ q.k.1.size + q.p.v.s.size + 1 ≤ Rows.uptoBulk (D i) ∧ (Lit.int .i64 q.k.2).wf = true := by
      intro i hi
      obtain ⟨cs', c0, t0⟩ := hcell i (by rw [hm]; split <;> omega)
      obtain ⟨q, rfl, g1, g2⟩ := op_open t0
      obtain ⟨_, hl, hat⟩ := World.cells?_some c0
      refine ⟨q, fun j u hu => ?_, g1, g2⟩
      have hj : j < 18 := (List.getElem?_eq_some_iff.1 hu).1
      rw [← Go.Deep.add_add, hat j hj, hu]
    obtain ⟨q, hq⟩ := Go.Deep.choose_lt each
    have hl : ((List.range len0).map q).length = len0 := by simp
    have hbk := bulk_ops q D (List.range len0) (fun i hi => (hq i (List.mem_range.1 hi)).2.1)
    have hd : d = _ := congrArg Prod.fst hx
    rw [hd] at hb
    simp only [Rows.uptoBulk] at hb
    have hsum : (((List.range len0).map q).map fun x => x.k.1.size + x.p.v.s.size + 1).sum ≤ 1048576 := by
      rw [List.map_map]
      have : ((fun x : OP => x.k.1.size + x.p.v.s.size + 1) ∘ q) = fun i => (q i).k.1.size + (q i).p.v.s.size + 1 := rfl
      rw [this]
      omega
    refine ⟨(List.range len0).map q, .inr ⟨a, cap0, by rw [hl], by rw [hl]; exact hlc, ?_⟩, hsum, ?_⟩
    · intro k x hx
      have hk : k < len0 := by have := (List.getElem?_eq_some_iff.1 hx).1; simpa using this
      have hxe : q k = x := by simpa [hk] using hx
      obtain ⟨e0, _⟩ := hq k hk
      obtain ⟨d0, _⟩ := hq 0 (by omega)
      have hsp : a.spot = none := by
        have d1 := d0 0 _ rfl
        have h00 : a.add (0 * 18 + 0) = a := by simp [Addr.add]
        rw [h00] at d1
        unfold World.cell? at d1
        cases hs : a.spot with
        | none => rfl
        | some z =>
          rw [hs] at d1
          cases hh : W.heap[a.block]? with
          | none => simp [hh] at d1
          | some o => cases o <;> simp [hh] at d1
      have hadd : ∀ j, a.add j = ⟨a.block, a.off + j, none⟩ := by
        intro j
        unfold Addr.add
        split
        · rename_i h0; subst h0; rw [← hsp]; simp
        · rfl
      refine ⟨hsp, fun j u hu => ?_⟩
      have := e0 j u (by rw [hxe]; exact hu)
      rw [hadd, ← Nat.add_assoc] at this
      exact this
    · intro x hx
      obtain ⟨i, hi, rfl⟩ := List.mem_map.1 hx
      have hi' := List.mem_range.1 hi
      obtain ⟨_, g1, g2⟩ := hq i hi'
      have hle : (q i).k.1.size + (q i).p.v.s.size + 1 ≤ (((List.range len0).map q).map fun x => x.k.1.size + x.p.v.s.size + 1).sum := mem_le_sum (List.mem_map.2 ⟨q i, hx, rfl⟩)
      exact ⟨by omega, g2⟩
theorem key_open5 {H : Type} {enc : TypeId × Value → H} {W : World} {base : Nat} {v : Value} {d : DataW H} {p : List MemPlace} (hok : Value.okWide Try.prog W .any base 32 v) (h : DataW.Trod enc Try.prog W 0 (fun _ => true) true 32 v d p) :
    ∃ x : KK, v = keyV x.1 x.2 := by
  obtain ⟨v0, v1, y0, y1, n, rfl, rfl, _, h0, h1⟩ := Go.Joins.open_agg2 Try.underlying32 (by kernel_rfl) cellsKey hok h
  obtain ⟨s, e1, e2, _⟩ := DataW.trod_string Try.underlying30 h0
  obtain ⟨z, e3, e4, _⟩ := DataW.trod_int Try.underlying3 h1
  simp at e1 e3
  subst e1; subst e3
  exact ⟨(s, z), rfl⟩
theorem ops_few {l : List OP} (h : (l.map fun x => x.k.1.size + x.p.v.s.size + 1).sum ≤ 1048576) (hk : ∀ x ∈ l, okK x.k) : fewO l l.length ≤ 4194304 ∧ ∀ x ∈ l, (x.k.1.size ≤ 4194304 ∧ x.p.v.s.size ≤ 4194304) ∧ okK x.k := by
  have h1 : fewO l l.length ≤ (l.map fun x => x.k.1.size + x.p.v.s.size + 1).sum := by
    unfold fewO
    rw [List.take_length]
    clear h hk
    induction l with
    | nil => simp
    | cons a l ih =>
      simp only [List.map_cons, List.sum_cons, List.length_cons]
      unfold fewS at *
      omega
  refine ⟨by omega, fun x hx => ?_⟩
  have : x.k.1.size + x.p.v.s.size + 1 ≤ (l.map fun x => x.k.1.size + x.p.v.s.size + 1).sum := mem_le_sum (List.mem_map.2 ⟨x, hx, rfl⟩)
  exact ⟨⟨by omega, by omega⟩, hk x hx⟩
end Go.Proofs.Ytoccmiinkfhohaa
namespace Go.Proofs.Ytoccmiinkfhohaa.heapRoom
open Go.ChangeShapes Go.WideShapes Go.ChangeAt Go.RowKit
set_option linter.unusedVariables false

theorem own : ownKnob Try.prog.godebug = none := by kernel_rfl
set_option maxRecDepth 100000 in
theorem contract (H : Type) (enc : TypeId × Value → H) (W : World) (base : Nat) (args : Array Value) (ds gs : List (DataW H)) (before : List MemPlace)
    (hval : ∀ (j : Nat) t v, Try.f4.params[j]? = some t → args[j]? = some v → Value.okWide Try.prog W .any base t v)
    (hW : DataW.Whole enc Try.prog Try.f4.params.toList Rows.heapRoomSpec.vars false W args.toList ds gs before) (hk : Rows.uptoSmall H (ds ++ gs) = true) :
    Calls Try.prog 4 args W fun e W' => ∃ v, e = .returned v ∧ Rows.heapRoomSpec.post enc Try.prog Try.f4 false true false false W args v W' := by
  have hW' := hW
  obtain ⟨p, q, hA0, hV, rfl, hfz, hnd⟩ := hW
  have hA : DataW.TrodAll enc Try.prog W 0 (fun _ => true) true Try.f4.params.toList args.toList ds p := hA0
  rw [Try.params4] at hA hval
  obtain ⟨v0, vs0, d0, ds0, p0, q0, hargs, rfl, rfl, h0, r0⟩ := trodAll_cons hA
  obtain ⟨v1, vs1, d1, ds1, p1, q1, rfl, rfl, rfl, h1, r1⟩ := trodAll_cons r0
  obtain ⟨rfl, rfl, rfl⟩ := trodAll_nil r1
  obtain rfl : args = #[v0, v1] := by cases args; simp_all
  obtain ⟨rfl, rfl⟩ := trodVars_none hV
  have hb := bulk_small hk
  simp only [List.append_nil] at hW' hb
  obtain ⟨z0, rfl⟩ := okWide_int Try.underlying3 (hval 0 3 v0 rfl rfl)
  obtain ⟨l1, hr1, hs1, ho1⟩ := ops_open (hval 1 22 v1 rfl rfl) h1 (Nat.le_trans (bulk_part (by simp)) hb)
  obtain ⟨hf1, hg1⟩ := ops_few hs1 ho1
  have hlt0 : ∀ x ∈ p0, x.block < W.heap.size := fun x hx => by simpa using hW'.lt x (by simp [hx])
  have hlt1 : ∀ x ∈ p1, x.block < W.heap.size := fun x hx => by simpa using hW'.lt x (by simp [hx])
  clear hA0
  refine (c_HeapRoom z0 v1 l1 hf1 hg1 W hr1).mono fun e W' ⟨he, hg⟩ => ?_
  subst he
  exact ⟨_, rfl, [d0, d1], [], _, [], p0 ++ (p1 ++ ([])), [], by simpa using hW', trodAll_mk1 (shut_bool Try.underlying4 _), trodAll_cons_mk (Below.trod laidOut (by kernel_rfl) (of_decide_eq_true (by kernel_rfl)) h0 hg hlt0) (trodAll_cons_mk (Below.trod laidOut (by kernel_rfl) (of_decide_eq_true (by kernel_rfl)) h1 hg hlt1) trodAll_mk0), rfl, hg.frame _, fun h => by cases h⟩
set_option maxRecDepth 100000 in
theorem lifted (os : Os) (started : os.Started) (H : Type) (enc : TypeId × Value → H) (F : Stop.Interp) :
    ReturnsInHanded {} Try.checked os 4 .any ((Rows.OpenSpec.upto Rows.heapRoomSpec).pre6 enc Try.prog Try.f4 Rows.heapRoomUptoRow.domain false) (((Rows.OpenSpec.upto Rows.heapRoomSpec).at F).post enc Try.prog Try.f4 false true false false) := by
  refine returnsInHanded_of_cond (C := Try.checked) (s := Rows.OpenSpec.upto Rows.heapRoomSpec) (k := Rows.uptoSmall) rfl own started (by kernel_rfl) Try.func4
    (OpenSpec.witness (enc := enc) (C := Try.checked) (s := Rows.OpenSpec.upto Rows.heapRoomSpec) (k := Rows.uptoSmall) rfl false ⟨#[], #[.int .i64 0, .slice none 0 0], []⟩ 8 (by kernel_rfl) (by kernel_rfl) (by kernel_rfl)
      (x := ([.lit (.int .i64 0), .nil], [], [])) (by kernel_rfl) rfl (by kernel_rfl)) ?_
  intro W base args ds gs before hval hW _ hk _
  exact contract H enc W base args ds gs before hval hW hk
theorem over : Rows.heapRoomUptoRow.holds Try.pinned (Rows.OpenSpec.upto Rows.heapRoomSpec) :=
  OpenClaim.holds_of_cond 4 Try.f4 rfl rfl rfl rfl rfl rfl rfl ⟨rfl, rfl, rfl, rfl, rfl⟩ rfl rfl rfl rfl rfl (by kernel_rfl) Try.func4 (by kernel_rfl)
    (of_decide_eq_true (by kernel_rfl)) (by unfold Func.isWrapper; first | (rw [if_pos (by decide +kernel)]; kernel_rfl) | (rw [if_neg (by decide +kernel)]; exact ⟨rfl, rfl⟩))
    (fun os started H enc _ F => lifted os started H enc F)
theorem proved : Rows.HeapRoomUptoSaid :=
  over
end Go.Proofs.Ytoccmiinkfhohaa.heapRoom
