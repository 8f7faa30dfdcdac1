/-
  Contracts: The contract of the law's do: an operation of both heaps, and they answer alike. The plain law of HeapFast, and of HeapRoom. The laws' state: two heaps side by side above what was there. Enumerations: the model; plain of a key. Enumerations: note, which remembers at which object a key came first. The state of the law HeapFast: two heaps side by side and a row of marks.
-/
import Derived.Test.YtoccmiinkfhohaaOO14
import Derived.Test.YtoccmiinkfhohaaOO12
import Derived.Test.YtoccmiinkfhohaaOO10
namespace Go.Proofs.Ytoccmiinkfhohaa
open Go.RowKit Go.Shelf Go.Lib Go.Sort Go.Proofs Go.Maps
set_option linter.unusedVariables false
set_option maxHeartbeats 4000000
set_option maxRecDepth 100000

theorem Done.from {w0 w1 w : World} {hb rb B : Nat} {lim : Int} {H : List OB} {f f2 : Nat → Nat} (h0 : TwoK w0 w1 f f2 f f2) (h : Done w1 w hb rb lim B H f f2) : Done w0 w hb rb lim B H f f2 := by
  obtain ⟨f', f2', h1, h2⟩ := h
  exact ⟨f', f2', h1, h0.trans h2⟩
theorem Done.mono {w0 w : World} {hb rb B B' : Nat} {lim : Int} {H : List OB} {f f2 : Nat → Nat} (h : Done w0 w hb rb lim B H f f2) (hB : B ≤ B') : Done w0 w hb rb lim B' H f f2 := by
  obtain ⟨f', f2', h1, h2⟩ := h
  exact ⟨f', f2', h1.mono hB, h2⟩
theorem Done.below {w0 w w' : World} {hb rb B : Nat} {lim : Int} {H : List OB} {f f2 : Nat → Nat} (h : Done w0 w hb rb lim B H f f2) (hb' : Below w.heap.size w w') : Done w0 w' hb rb lim B H f f2 := by
  obtain ⟨f', f2', h1, h2⟩ := h
  exact ⟨f', f2', h1.below hb', h2.trans (TwoK.of_below _ _ hb')⟩
theorem cells18 {y : World} {b : Nat} {t : TypeId} {x : OP} (h : y.heap[b]? = some (.cells (encO x).toArray t (0, 0))) :
    (y.cell? ⟨b, 0, none⟩ = some (.int .i64 x.kd) ∧ y.cell? ⟨b, 1, none⟩ = some (.int .i64 x.o) ∧ y.cell? ⟨b, 2, none⟩ = some (.int .i64 x.n)) ∧ (y.cell? ⟨b, 3, none⟩ = some (.string x.k.1) ∧ y.cell? ⟨b, 4, none⟩ = some (.int .i64 x.k.2)) ∧
    (y.cell? ⟨b, 5, none⟩ = some (.int .i64 x.p.v.k) ∧ y.cell? ⟨b, 6, none⟩ = some (.float .f64 x.p.v.x) ∧ y.cell? ⟨b, 7, none⟩ = some (.string x.p.v.s) ∧ y.cell? ⟨b, 8, none⟩ = some (.int .i64 x.p.v.r)) ∧
    (y.cell? ⟨b, 9, none⟩ = some (.int .i64 x.p.g.k) ∧ y.cell? ⟨b, 10, none⟩ = some (.float .f64 x.p.g.x) ∧ y.cell? ⟨b, 11, none⟩ = some (.string x.p.g.s) ∧ y.cell? ⟨b, 12, none⟩ = some (.int .i64 x.p.g.r)) ∧
    (y.cell? ⟨b, 13, none⟩ = some (.int .i64 x.p.t.k) ∧ y.cell? ⟨b, 14, none⟩ = some (.float .f64 x.p.t.x) ∧ y.cell? ⟨b, 15, none⟩ = some (.string x.p.t.s) ∧ y.cell? ⟨b, 16, none⟩ = some (.int .i64 x.p.t.r)) ∧ y.cell? ⟨b, 17, none⟩ = some (.int .i64 x.p.fl) := by
  have hc : ∀ j u, (encO x)[j]? = some u → y.cell? ⟨b, j, none⟩ = some u := fun j u hu => by rw [cell_of_row _ _ j _ _ _ h]; simpa using hu
  exact ⟨⟨hc 0 _ rfl, hc 1 _ rfl, hc 2 _ rfl⟩, ⟨hc 3 _ rfl, hc 4 _ rfl⟩, ⟨hc 5 _ rfl, hc 6 _ rfl, hc 7 _ rfl, hc 8 _ rfl⟩, ⟨hc 9 _ rfl, hc 10 _ rfl, hc 11 _ rfl, hc 12 _ rfl⟩, ⟨hc 13 _ rfl, hc 14 _ rfl, hc 15 _ rfl, hc 16 _ rfl⟩, hc 17 _ rfl⟩
section
variable {w : World} {hb rb B : Nat} {lim : Int} {H : List OB} {f f2 : Nat → Nat}
theorem c_do15_0 (h : Two w hb rb lim B H f f2) (hB1 : 128 ≤ B) (hB : B < 90000) (hu : usedH H ≤ 100000) (x : OP) (hk : okK x.k) (hkd : x.kd = 0) :
    Calls Try.prog 14 #[ptrV hb, ptrV rb, opV x] w fun e w' => e = .returned (.bool true) ∧ Done w w' hb rb lim (B + 2) (opH lim H x) f f2 := by
  have hop : opH lim H x = makeH true H lim x.n x.o := by unfold opH; simp [hkd]
  rw [hop]
  clear hop
  obtain ⟨W1, hW1⟩ : ∃ W1, w.alloc (.cells (encO x).toArray 39) = W1 := ⟨_, rfl⟩
  have hb1 : Below w.heap.size w W1 := by rw [← hW1]; exact (Below.refl _ w).alloc (Nat.le_refl _) _
  have d0 : W1.heap[w.heap.size]? = some (.cells (encO x).toArray 39 (0, 0)) := by rw [← hW1]; exact heap_alloc_new w _
  obtain ⟨⟨e0, e1, e2⟩, ⟨e3, e4⟩, ⟨e5, e6, e7, e8⟩, ⟨e9, e10, e11, e12⟩, ⟨e13, e14, e15, e16⟩, e17⟩ := cells18 d0
  have hfr := Lib.hid (show f w.heap.size = 0 ∧ f2 w.heap.size = 0 ∧ w.heap.size < W1.heap.size from ⟨h.1 _ (Nat.le_refl _), h.2.1 _ (Nat.le_refl _), heapH_lt d0⟩)
  have hT := h.below hb1
  have h0 := TwoK.refl W1 f f2
  have hfin := fun (y : World) (B' : Nat) (H' : List OB) (hB' : B' ≤ B + 2) (hd : Done W1 y hb rb lim B' H' f f2) => (hd.mono hB').from (TwoK.of_below f f2 hb1)
  have hP := t_HMake hT h0 hu x.n x.o
  have hR := fun (y : World) (hh : Half W1 y hb rb lim B H (makeH true H lim x.n x.o) f f2) => t_RMake x.n x.o hh hu
  generalize makeH true H lim x.n x.o = H' at *
  generalize makeN H lim x.n x.o = vN at *
  generalize makeE H lim x.n x.o = vE at *
  unfold ptrV at hP hR
  replace hP := Lib.hid hP
  replace hR := Lib.hid hR
  unfold ptrV opV
  unfold encO encP
  obtain ⟨kd, xo, xn, ⟨k0, kn⟩, ⟨⟨vk, vx, vs, vr⟩, ⟨gk0, gx, gs, gr⟩, ⟨tk, tx0, ts, tr⟩, fl⟩⟩ := x
  dsimp only at *
  subst hkd
  simp only [encO, encP, List.cons_append, List.nil_append] at hW1
  replace hfin := Lib.hid hfin
  clear h hb1 d0 hT h0 hk hB hB1 hu
  go_enter Try.func14, Try.ntmps14
  go_wp2_with (first | (go_at_call 19; go_loud (refine hP.out.mono ?_; rintro e y1 ⟨rfl, hH1⟩); have hc := hH1.cells hfr.out; rw [← hc 1] at e1; rw [← hc 2] at e2; clear hc) | (go_at_call 45; refine (hR.out _ hH1).mono ?_; rintro e y2 ⟨rfl, hD1⟩))
  go_ret
  exact ⟨rfl, hfin.out _ _ _ (by omega) hD1⟩
theorem c_do15_1 (h : Two w hb rb lim B H f f2) (hB1 : 128 ≤ B) (hB : B < 90000) (hu : usedH H ≤ 100000) (x : OP) (hk : okK x.k) (hkd : x.kd = 1) :
    Calls Try.prog 14 #[ptrV hb, ptrV rb, opV x] w fun e w' => e = .returned (.bool true) ∧ Done w w' hb rb lim (B + 2) (opH lim H x) f f2 := by
  have hop : opH lim H x = putH H lim x.o (pk x.k) x.p := by unfold opH; simp [hkd]
  rw [hop]
  clear hop
  obtain ⟨W1, hW1⟩ : ∃ W1, w.alloc (.cells (encO x).toArray 39) = W1 := ⟨_, rfl⟩
  have hb1 : Below w.heap.size w W1 := by rw [← hW1]; exact (Below.refl _ w).alloc (Nat.le_refl _) _
  have d0 : W1.heap[w.heap.size]? = some (.cells (encO x).toArray 39 (0, 0)) := by rw [← hW1]; exact heap_alloc_new w _
  obtain ⟨⟨e0, e1, e2⟩, ⟨e3, e4⟩, ⟨e5, e6, e7, e8⟩, ⟨e9, e10, e11, e12⟩, ⟨e13, e14, e15, e16⟩, e17⟩ := cells18 d0
  have hfr := Lib.hid (show f w.heap.size = 0 ∧ f2 w.heap.size = 0 ∧ w.heap.size < W1.heap.size from ⟨h.1 _ (Nat.le_refl _), h.2.1 _ (Nat.le_refl _), heapH_lt d0⟩)
  have hT := h.below hb1
  have h0 := TwoK.refl W1 f f2
  have hfin := fun (y : World) (B' : Nat) (H' : List OB) (hB' : B' ≤ B + 2) (hd : Done W1 y hb rb lim B' H' f f2) => (hd.mono hB').from (TwoK.of_below f f2 hb1)
  have hP := fun (y : World) (hy : Below W1.heap.size W1 y) => t_HPut (hT.below hy) (TwoK.of_below f f2 hy) hB1 hB hu x.o x.k hk x.p
  have hR := fun (y : World) (hh : Half W1 y hb rb lim (B + 2) H (putH H lim x.o (pk x.k) x.p) f f2) => t_RPut x.o x.k hk x.p hh hu
  generalize putH H lim x.o (pk x.k) x.p = H' at *
  generalize putE H lim x.o (pk x.k) x.p = vE at *
  (try unfold ptrV at hP hR)
  (try unfold keyV at hP hR)
  (try unfold propV at hP hR)
  (try unfold encP at hP hR)
  replace hP := Lib.hid hP
  replace hR := Lib.hid hR
  unfold ptrV opV
  unfold encO encP
  obtain ⟨kd, xo, xn, ⟨k0, kn⟩, ⟨⟨vk, vx, vs, vr⟩, ⟨gk0, gx, gs, gr⟩, ⟨tk, tx0, ts, tr⟩, fl⟩⟩ := x
  dsimp only at *
  subst hkd
  simp only [encO, encP, List.cons_append, List.nil_append] at hW1
  replace hfin := Lib.hid hfin
  clear h hb1 d0 hT h0 hk hB hB1 hu
  go_enter Try.func14, Try.ntmps14
  go_wp2_with fail
  have hst : ∀ i : Nat, W1.drew.cell? ⟨w.heap.size, i, none⟩ = W1.cell? ⟨w.heap.size, i, none⟩ := fun _ => rfl
  go_region_held3 (fun y => ∀ i : Nat, y.cell? ⟨w.heap.size, i, none⟩ = W1.cell? ⟨w.heap.size, i, none⟩) (first | with_reducible assumption | exact Half.cells (by assumption) hfr.out | exact Done.cells (by assumption) hfr.out) (first | (go_at_call 27; refine (hP.out W1.drew (Below.refl _ W1).drew).mono ?_; rintro e y1 ⟨rfl, hH1⟩) | (go_at_call 46; refine (hR.out _ (by assumption)).mono ?_; rintro e y2 ⟨rfl, hD1⟩))
  clear hst
  go_wp2
  go_ret
  exact ⟨rfl, hfin.out _ _ _ (by omega) hD1⟩
theorem c_do15_2 (h : Two w hb rb lim B H f f2) (hB1 : 128 ≤ B) (hB : B < 90000) (hu : usedH H ≤ 100000) (x : OP) (hk : okK x.k) (hkd : x.kd = 2) :
    Calls Try.prog 14 #[ptrV hb, ptrV rb, opV x] w fun e w' => e = .returned (.bool true) ∧ Done w w' hb rb lim (B + 2) (opH lim H x) f f2 := by
  have hop : opH lim H x = updH H x.o (dropA (pk x.k)) := by unfold opH; simp [hkd]
  rw [hop]
  clear hop
  obtain ⟨W1, hW1⟩ : ∃ W1, w.alloc (.cells (encO x).toArray 39) = W1 := ⟨_, rfl⟩
  have hb1 : Below w.heap.size w W1 := by rw [← hW1]; exact (Below.refl _ w).alloc (Nat.le_refl _) _
  have d0 : W1.heap[w.heap.size]? = some (.cells (encO x).toArray 39 (0, 0)) := by rw [← hW1]; exact heap_alloc_new w _
  obtain ⟨⟨e0, e1, e2⟩, ⟨e3, e4⟩, ⟨e5, e6, e7, e8⟩, ⟨e9, e10, e11, e12⟩, ⟨e13, e14, e15, e16⟩, e17⟩ := cells18 d0
  have hfr := Lib.hid (show f w.heap.size = 0 ∧ f2 w.heap.size = 0 ∧ w.heap.size < W1.heap.size from ⟨h.1 _ (Nat.le_refl _), h.2.1 _ (Nat.le_refl _), heapH_lt d0⟩)
  have hT := h.below hb1
  have h0 := TwoK.refl W1 f f2
  have hfin := fun (y : World) (B' : Nat) (H' : List OB) (hB' : B' ≤ B + 2) (hd : Done W1 y hb rb lim B' H' f f2) => (hd.mono hB').from (TwoK.of_below f f2 hb1)
  have hP := fun (y : World) (hy : Below W1.heap.size W1 y) => t_HDrop (hT.below hy) (TwoK.of_below f f2 hy) hB1 (by omega) hu x.o x.k hk
  have hR := fun (y : World) (hh : Half W1 y hb rb lim B H (updH H x.o (dropA (pk x.k))) f f2) => t_RDrop x.o x.k hk hh hu
  generalize updH H x.o (dropA (pk x.k)) = H' at *
  generalize dropB H x.o (pk x.k) = vE at *
  (try unfold ptrV at hP hR)
  (try unfold keyV at hP hR)
  (try unfold propV at hP hR)
  (try unfold encP at hP hR)
  replace hP := Lib.hid hP
  replace hR := Lib.hid hR
  unfold ptrV opV
  unfold encO encP
  obtain ⟨kd, xo, xn, ⟨k0, kn⟩, ⟨⟨vk, vx, vs, vr⟩, ⟨gk0, gx, gs, gr⟩, ⟨tk, tx0, ts, tr⟩, fl⟩⟩ := x
  dsimp only at *
  subst hkd
  simp only [encO, encP, List.cons_append, List.nil_append] at hW1
  replace hfin := Lib.hid hfin
  clear h hb1 d0 hT h0 hk hB hB1 hu
  go_enter Try.func14, Try.ntmps14
  go_wp2_with fail
  have hst : ∀ i : Nat, W1.drew.cell? ⟨w.heap.size, i, none⟩ = W1.cell? ⟨w.heap.size, i, none⟩ := fun _ => rfl
  go_region_held3 (fun y => ∀ i : Nat, y.cell? ⟨w.heap.size, i, none⟩ = W1.cell? ⟨w.heap.size, i, none⟩) (first | with_reducible assumption | exact Half.cells (by assumption) hfr.out | exact Done.cells (by assumption) hfr.out) (first | (go_at_call 28; refine (hP.out W1.drew (Below.refl _ W1).drew).mono ?_; rintro e y1 ⟨rfl, hH1⟩) | (go_at_call 47; refine (hR.out _ (by assumption)).mono ?_; rintro e y2 ⟨rfl, hD1⟩))
  clear hst
  go_wp2
  go_ret
  exact ⟨rfl, hfin.out _ _ _ (by omega) hD1⟩
theorem c_do15_3 (h : Two w hb rb lim B H f f2) (hB1 : 128 ≤ B) (hB : B < 90000) (hu : usedH H ≤ 100000) (x : OP) (hk : okK x.k) (hkd : x.kd = 3) :
    Calls Try.prog 14 #[ptrV hb, ptrV rb, opV x] w fun e w' => e = .returned (.bool true) ∧ Done w w' hb rb lim (B + 2) (opH lim H x) f f2 := by
  have hop : opH lim H x = setH H x.o x.n := by unfold opH; simp [hkd]
  rw [hop]
  clear hop
  obtain ⟨W1, hW1⟩ : ∃ W1, w.alloc (.cells (encO x).toArray 39) = W1 := ⟨_, rfl⟩
  have hb1 : Below w.heap.size w W1 := by rw [← hW1]; exact (Below.refl _ w).alloc (Nat.le_refl _) _
  have d0 : W1.heap[w.heap.size]? = some (.cells (encO x).toArray 39 (0, 0)) := by rw [← hW1]; exact heap_alloc_new w _
  obtain ⟨⟨e0, e1, e2⟩, ⟨e3, e4⟩, ⟨e5, e6, e7, e8⟩, ⟨e9, e10, e11, e12⟩, ⟨e13, e14, e15, e16⟩, e17⟩ := cells18 d0
  have hfr := Lib.hid (show f w.heap.size = 0 ∧ f2 w.heap.size = 0 ∧ w.heap.size < W1.heap.size from ⟨h.1 _ (Nat.le_refl _), h.2.1 _ (Nat.le_refl _), heapH_lt d0⟩)
  have hT := h.below hb1
  have h0 := TwoK.refl W1 f f2
  have hfin := fun (y : World) (B' : Nat) (H' : List OB) (hB' : B' ≤ B + 2) (hd : Done W1 y hb rb lim B' H' f f2) => (hd.mono hB').from (TwoK.of_below f f2 hb1)
  have hP := fun (y : World) (hy : Below W1.heap.size W1 y) => t_HSetProto (hT.below hy) (TwoK.of_below f f2 hy) x.o x.n
  have hR := fun (y : World) (hh : Half W1 y hb rb lim B H (setH H x.o x.n) f f2) => t_RSetProto x.o x.n hh
  generalize setH H x.o x.n = H' at *
  generalize setE H x.o x.n = vE at *
  (try unfold ptrV at hP hR)
  (try unfold keyV at hP hR)
  (try unfold propV at hP hR)
  (try unfold encP at hP hR)
  replace hP := Lib.hid hP
  replace hR := Lib.hid hR
  unfold ptrV opV
  unfold encO encP
  obtain ⟨kd, xo, xn, ⟨k0, kn⟩, ⟨⟨vk, vx, vs, vr⟩, ⟨gk0, gx, gs, gr⟩, ⟨tk, tx0, ts, tr⟩, fl⟩⟩ := x
  dsimp only at *
  subst hkd
  simp only [encO, encP, List.cons_append, List.nil_append] at hW1
  replace hfin := Lib.hid hfin
  clear h hb1 d0 hT h0 hk hB hB1 hu
  go_enter Try.func14, Try.ntmps14
  go_wp2_with fail
  have hst : ∀ i : Nat, W1.drew.cell? ⟨w.heap.size, i, none⟩ = W1.cell? ⟨w.heap.size, i, none⟩ := fun _ => rfl
  go_region_held3 (fun y => ∀ i : Nat, y.cell? ⟨w.heap.size, i, none⟩ = W1.cell? ⟨w.heap.size, i, none⟩) (first | with_reducible assumption | exact Half.cells (by assumption) hfr.out | exact Done.cells (by assumption) hfr.out) (first | (go_at_call 24; refine (hP.out W1.drew (Below.refl _ W1).drew).mono ?_; rintro e y1 ⟨rfl, hH1⟩) | (go_at_call 48; refine (hR.out _ (by assumption)).mono ?_; rintro e y2 ⟨rfl, hD1⟩))
  clear hst
  go_wp2
  go_ret
  exact ⟨rfl, hfin.out _ _ _ (by omega) hD1⟩
theorem c_do15_4 (h : Two w hb rb lim B H f f2) (hB1 : 128 ≤ B) (hB : B < 90000) (hu : usedH H ≤ 100000) (x : OP) (hk : okK x.k) (hkd : x.kd = 4) :
    Calls Try.prog 14 #[ptrV hb, ptrV rb, opV x] w fun e w' => e = .returned (.bool true) ∧ Done w w' hb rb lim (B + 2) (opH lim H x) f f2 := by
  have hop : opH lim H x = updH H x.o shutA := by unfold opH; simp [hkd]
  rw [hop]
  clear hop
  obtain ⟨W1, hW1⟩ : ∃ W1, w.alloc (.cells (encO x).toArray 39) = W1 := ⟨_, rfl⟩
  have hb1 : Below w.heap.size w W1 := by rw [← hW1]; exact (Below.refl _ w).alloc (Nat.le_refl _) _
  have d0 : W1.heap[w.heap.size]? = some (.cells (encO x).toArray 39 (0, 0)) := by rw [← hW1]; exact heap_alloc_new w _
  obtain ⟨⟨e0, e1, e2⟩, ⟨e3, e4⟩, ⟨e5, e6, e7, e8⟩, ⟨e9, e10, e11, e12⟩, ⟨e13, e14, e15, e16⟩, e17⟩ := cells18 d0
  have hfr := Lib.hid (show f w.heap.size = 0 ∧ f2 w.heap.size = 0 ∧ w.heap.size < W1.heap.size from ⟨h.1 _ (Nat.le_refl _), h.2.1 _ (Nat.le_refl _), heapH_lt d0⟩)
  have hT := h.below hb1
  have h0 := TwoK.refl W1 f f2
  have hfin := fun (y : World) (B' : Nat) (H' : List OB) (hB' : B' ≤ B + 2) (hd : Done W1 y hb rb lim B' H' f f2) => (hd.mono hB').from (TwoK.of_below f f2 hb1)
  have hP := fun (y : World) (hy : Below W1.heap.size W1 y) => t_HShut (hT.below hy) (TwoK.of_below f f2 hy) x.o
  have hR := fun (y : World) (hh : Half W1 y hb rb lim B H (updH H x.o shutA) f f2) => t_RShut x.o hh
  generalize updH H x.o shutA = H' at *
  generalize hasE H x.o = vE at *
  (try unfold ptrV at hP hR)
  (try unfold keyV at hP hR)
  (try unfold propV at hP hR)
  (try unfold encP at hP hR)
  replace hP := Lib.hid hP
  replace hR := Lib.hid hR
  unfold ptrV opV
  unfold encO encP
  obtain ⟨kd, xo, xn, ⟨k0, kn⟩, ⟨⟨vk, vx, vs, vr⟩, ⟨gk0, gx, gs, gr⟩, ⟨tk, tx0, ts, tr⟩, fl⟩⟩ := x
  dsimp only at *
  subst hkd
  simp only [encO, encP, List.cons_append, List.nil_append] at hW1
  replace hfin := Lib.hid hfin
  clear h hb1 d0 hT h0 hk hB hB1 hu
  go_enter Try.func14, Try.ntmps14
  go_wp2_with fail
  have hst : ∀ i : Nat, W1.drew.cell? ⟨w.heap.size, i, none⟩ = W1.cell? ⟨w.heap.size, i, none⟩ := fun _ => rfl
  go_region_held3 (fun y => ∀ i : Nat, y.cell? ⟨w.heap.size, i, none⟩ = W1.cell? ⟨w.heap.size, i, none⟩) (first | with_reducible assumption | exact Half.cells (by assumption) hfr.out | exact Done.cells (by assumption) hfr.out) (first | (go_at_call 26; refine (hP.out W1.drew (Below.refl _ W1).drew).mono ?_; rintro e y1 ⟨rfl, hH1⟩) | (go_at_call 49; refine (hR.out _ (by assumption)).mono ?_; rintro e y2 ⟨rfl, hD1⟩))
  clear hst
  go_wp2
  go_ret
  exact ⟨rfl, hfin.out _ _ _ (by omega) hD1⟩
theorem c_do15_5 (h : Two w hb rb lim B H f f2) (hB1 : 128 ≤ B) (hB : B < 90000) (hu : usedH H ≤ 100000) (x : OP) (hk : okK x.k) (hkd : x.kd ≠ 0 ∧ x.kd ≠ 1 ∧ x.kd ≠ 2 ∧ x.kd ≠ 3 ∧ x.kd ≠ 4) :
    Calls Try.prog 14 #[ptrV hb, ptrV rb, opV x] w fun e w' => e = .returned (.bool true) ∧ Done w w' hb rb lim (B + 2) (opH lim H x) f f2 := by
  have hop : opH lim H x = updH H x.o forceA := by unfold opH; rw [if_neg hkd.1, if_neg hkd.2.1, if_neg hkd.2.2.1, if_neg hkd.2.2.2.1, if_neg hkd.2.2.2.2]
  rw [hop]
  clear hop
  obtain ⟨W1, hW1⟩ : ∃ W1, w.alloc (.cells (encO x).toArray 39) = W1 := ⟨_, rfl⟩
  have hb1 : Below w.heap.size w W1 := by rw [← hW1]; exact (Below.refl _ w).alloc (Nat.le_refl _) _
  have d0 : W1.heap[w.heap.size]? = some (.cells (encO x).toArray 39 (0, 0)) := by rw [← hW1]; exact heap_alloc_new w _
  obtain ⟨⟨e0, e1, e2⟩, ⟨e3, e4⟩, ⟨e5, e6, e7, e8⟩, ⟨e9, e10, e11, e12⟩, ⟨e13, e14, e15, e16⟩, e17⟩ := cells18 d0
  have hfr := Lib.hid (show f w.heap.size = 0 ∧ f2 w.heap.size = 0 ∧ w.heap.size < W1.heap.size from ⟨h.1 _ (Nat.le_refl _), h.2.1 _ (Nat.le_refl _), heapH_lt d0⟩)
  have hT := h.below hb1
  have h0 := TwoK.refl W1 f f2
  have hfin := fun (y : World) (B' : Nat) (H' : List OB) (hB' : B' ≤ B + 2) (hd : Done W1 y hb rb lim B' H' f f2) => (hd.mono hB').from (TwoK.of_below f f2 hb1)
  have hP := fun (y : World) (hy : Below W1.heap.size W1 y) => t_HForce (hT.below hy) (TwoK.of_below f f2 hy) hB1 x.o
  have hR := fun (y : World) (hh : Done W1 y hb rb lim B (updH H x.o forceA) f f2) => t_RHas x.o hh
  have hhas : hasH (stp (updH H x.o forceA)) x.o = hasH H x.o := by rw [stp_force, stp_has]
  rw [hhas] at hR
  have hret : RowKit.Hid (Ending.returned (.bool ((hasE H x.o == 0) == hasH H x.o)) = Ending.returned (.bool true)) := Lib.hid (by unfold hasE; cases hasH H x.o <;> rfl)
  clear hhas
  generalize updH H x.o forceA = H' at *
  generalize hasE H x.o = vE at *
  generalize hasH H x.o = vB at *
  (try unfold ptrV at hP hR)
  (try unfold keyV at hP hR)
  (try unfold propV at hP hR)
  (try unfold encP at hP hR)
  replace hP := Lib.hid hP
  replace hR := Lib.hid hR
  unfold ptrV opV
  unfold encO encP
  obtain ⟨kd, xo, xn, ⟨k0, kn⟩, ⟨⟨vk, vx, vs, vr⟩, ⟨gk0, gx, gs, gr⟩, ⟨tk, tx0, ts, tr⟩, fl⟩⟩ := x
  dsimp only at *
  obtain ⟨k0', k1', k2', k3', k4'⟩ := hkd
  simp only [encO, encP, List.cons_append, List.nil_append] at hW1
  replace hfin := Lib.hid hfin
  clear h hb1 d0 hT h0 hk hB hB1 hu
  go_enter Try.func14, Try.ntmps14
  go_wp2_with fail
  have hst : ∀ i : Nat, W1.drew.cell? ⟨w.heap.size, i, none⟩ = W1.cell? ⟨w.heap.size, i, none⟩ := fun _ => rfl
  go_region_held3 (fun y => ∀ i : Nat, y.cell? ⟨w.heap.size, i, none⟩ = W1.cell? ⟨w.heap.size, i, none⟩) (first | with_reducible assumption | exact Half.cells (by assumption) hfr.out | exact Done.cells (by assumption) hfr.out) (first | (go_at_call 29; refine (hP.out W1.drew (Below.refl _ W1).drew).mono ?_; rintro e y1 ⟨rfl, hD1⟩) | (go_at_call 12; refine (hR.out _ (by assumption)).mono ?_; rintro e y2 ⟨rfl, rfl⟩))
  clear hst
  go_wp2
  go_ret
  exact ⟨hret.out, hfin.out _ _ _ (by omega) hD1⟩
theorem c_do15 (h : Two w hb rb lim B H f f2) (hB1 : 128 ≤ B) (hB : B < 90000) (hu : usedH H ≤ 100000) (x : OP) (hk : okK x.k) :
    Calls Try.prog 14 #[ptrV hb, ptrV rb, opV x] w fun e w' => e = .returned (.bool true) ∧ Done w w' hb rb lim (B + 2) (opH lim H x) f f2 := by
  by_cases h0 : x.kd = 0
  · exact c_do15_0 h hB1 hB hu x hk h0
  by_cases h1 : x.kd = 1
  · exact c_do15_1 h hB1 hB hu x hk h1
  by_cases h2 : x.kd = 2
  · exact c_do15_2 h hB1 hB hu x hk h2
  by_cases h3 : x.kd = 3
  · exact c_do15_3 h hB1 hB hu x hk h3
  by_cases h4 : x.kd = 4
  · exact c_do15_4 h hB1 hB hu x hk h4
  exact c_do15_5 h hB1 hB hu x hk ⟨h0, h1, h2, h3, h4⟩
end
end Go.Proofs.Ytoccmiinkfhohaa
namespace Go.Proofs.Ytoccmiinkfhohaa
open Go.RowKit Go.Shelf Go.Lib Go.Sort Go.Proofs Go.Maps
set_option linter.unusedVariables false
set_option maxHeartbeats 1000000
set_option maxRecDepth 8000

def Big (a : OB) : Bool := decide (128 < a.l.length)
def FastI (H : List OB) : Prop := ∀ a ∈ H, a.fast = true → a.l.length ≤ 128
theorem op_cases (lim : Int) (H : List OB) (x : OP) :
    (opH lim H x = H ∧ (x.kd ≠ 2 ∨ (ownH H x.o (pk x.k)).isSome = false ∨ hasH H x.o = false) ∧ ((0 ≤ x.kd ∧ x.kd ≤ 4) ∨ hasH H x.o = false)) ∨
    (x.kd = 0 ∧ ∃ c p, opH lim H x = H ++ [⟨c, p, false, true, []⟩] ∧ (usedH H : Int) < lim) ∨
    (∃ (n : Nat) (a : OB) (g : OB → OB), x.o = (n : Int) ∧ 0 < n ∧ H[n - 1]? = some a ∧ hasH H x.o = true ∧ opH lim H x = H.set (n - 1) (g a) ∧
      ((x.kd = 1 ∧ g = putA (pk x.k) x.p ∧ ((getL a.l (pk x.k)).isSome = true ∨ (usedH H : Int) < lim)) ∨ (x.kd = 2 ∧ g = dropA (pk x.k) ∧ (getL a.l (pk x.k)).isSome = true) ∨ ((x.kd = 3 ∨ x.kd = 4) ∧ (g a).fast = a.fast ∧ (g a).l = a.l) ∨ ((4 < x.kd ∨ x.kd < 0) ∧ g = forceA))) := by
  unfold opH
  by_cases h0 : x.kd = 0
  · rw [if_pos h0]
    unfold makeH
    by_cases hE : makeE H lim x.n x.o = 0
    · rw [if_pos hE]
      refine .inr (.inl ⟨h0, _, _, rfl, ?_⟩)
      unfold makeE at hE
      split at hE
      · cases hE
      · split at hE
        · cases hE
        · split at hE
          · cases hE
          · omega
    · rw [if_neg hE]; exact .inl ⟨rfl, .inl (by omega), .inl (by omega)⟩
  · rw [if_neg h0]
    by_cases h1 : x.kd = 1
    · rw [if_pos h1]
      unfold putH
      by_cases hE : putE H lim x.o (pk x.k) x.p = 0
      · rw [if_pos hE]
        rcases objH_cases H x.o with ⟨q1, q2⟩ | ⟨n, a, q0, q1, q2, q3, q4⟩
        · exfalso; unfold putE at hE; rw [if_pos q1] at hE; cases hE
        · refine .inr (.inr ⟨n, a, putA (pk x.k) x.p, q0, q1, q2, q4, by rw [q0, updH_at q1 q2], .inl ⟨h1, rfl, ?_⟩⟩)
          unfold putE at hE
          rw [if_neg (by rw [q4]; decide)] at hE
          split at hE
          · cases hE
          · split at hE
            · cases hE
            · rename_i hn
              rw [q0, own_some q1 q2] at hn
              by_cases hg : (getL a.l (pk x.k)).isSome = true
              · exact .inl hg
              · right
                have h9 : (getL a.l (pk x.k)).isSome = false := by simpa using hg
                by_cases h10 : lim ≤ (usedH H : Int)
                · exact absurd ⟨h9, h10⟩ hn
                · omega
      · rw [if_neg hE]; exact .inl ⟨rfl, .inl (by omega), .inl (by omega)⟩
    · rw [if_neg h1]
      by_cases h2 : x.kd = 2
      · rw [if_pos h2]
        rcases objH_cases H x.o with ⟨q1, q2⟩ | ⟨n, a, q0, q1, q2, q3, q4⟩
        · exact .inl ⟨by unfold updH; rw [q2], .inr (.inr q1), .inr q1⟩
        · cases hg : (getL a.l (pk x.k)).isSome with
          | true => exact .inr (.inr ⟨n, a, dropA (pk x.k), q0, q1, q2, q4, by rw [q0, updH_at q1 q2], .inr (.inl ⟨h2, rfl, hg⟩)⟩)
          | false =>
            refine .inl ⟨updH_id _ _ _ fun b hb => ?_, .inr (.inl (by rw [q0, own_some q1 q2, hg])), .inl (by omega)⟩
            rw [q3] at hb
            injection hb with hb
            subst hb
            rw [getL_idx] at hg
            unfold dropA
            cases hi : idx (gk a.l) (pk x.k) with
            | none => rfl
            | some j => rw [hi] at hg; cases hg
      · rw [if_neg h2]
        by_cases h3 : x.kd = 3
        · rw [if_pos h3]
          unfold setH
          by_cases hE : setE H x.o x.n = 0
          · rw [if_pos hE]
            rcases objH_cases H x.o with ⟨q1, q2⟩ | ⟨n, a, q0, q1, q2, q3, q4⟩
            · exfalso; unfold setE at hE; rw [if_pos (.inl q1)] at hE; cases hE
            · exact .inr (.inr ⟨n, a, _, q0, q1, q2, q4, by rw [q0, updH_at q1 q2], .inr (.inr (.inl ⟨.inl h3, rfl, rfl⟩))⟩)
          · rw [if_neg hE]; exact .inl ⟨rfl, .inl (by omega), .inl (by omega)⟩
        · rw [if_neg h3]
          rcases objH_cases H x.o with ⟨q1, q2⟩ | ⟨n, a, q0, q1, q2, q3, q4⟩
          · left
            refine ⟨?_, .inl h2, .inr q1⟩
            split <;> (unfold updH; rw [q2])
          · by_cases h4 : x.kd = 4
            · rw [if_pos h4]
              exact .inr (.inr ⟨n, a, shutA, q0, q1, q2, q4, by rw [q0, updH_at q1 q2], .inr (.inr (.inl ⟨.inr h4, rfl, rfl⟩))⟩)
            · rw [if_neg h4]
              exact .inr (.inr ⟨n, a, forceA, q0, q1, q2, q4, by rw [q0, updH_at q1 q2], .inr (.inr (.inr ⟨by omega, rfl⟩))⟩)
theorem put_big {K : KK} {p : PV} {a : OB} (hI : a.fast = true → a.l.length ≤ 128) : (putA K p a).fast = (a.fast && !Big (putA K p a)) := by
  unfold putA Big canL
  dsimp only
  rw [putL_len, getL_idx]
  cases hf : a.fast with
  | false => rfl
  | true =>
    have := hI hf
    cases hi : (idx (gk a.l) K).isSome with
    | true => simp; omega
    | false =>
      by_cases hl : a.l.length < 128
      · simp [hl]; omega
      · simp [hl]; omega
/-- what a kind turns by force -/
def hitB (H : List OB) (x : OP) : Bool := hasH H x.o && ((decide (x.kd = 2) && (ownH H x.o (pk x.k)).isSome) || decide (4 < x.kd) || decide (x.kd < 0))
/-- the marks, longer -/
def extS (s : List Bool) (n : Nat) : List Bool := s ++ List.replicate (n - s.length) false
def hitS (H : List OB) (x : OP) (s : List Bool) : List Bool := if hitB H x then s.set x.o.toNat true else s
theorem op_fast {lim : Int} {H : List OB} {x : OP} {s : List Bool} (hI : FastI H) (hl : s.length = H.length + 1) (hs : ∀ i a, H[i]? = some a → s[i + 1]? = some (!a.fast)) :
    FastI (opH lim H x) ∧ (hitS H x (extS s ((opH lim H x).length + 1))).length = (opH lim H x).length + 1 ∧
    ∀ i a, (opH lim H x)[i]? = some a → ∃ b, (hitS H x (extS s ((opH lim H x).length + 1)))[i + 1]? = some b ∧ a.fast = !(b || Big a) := by
  have hext : ∀ n, H.length ≤ n → (extS s (n + 1)).length = n + 1 := fun n hn => by simp [extS]; omega
  have hit_len : ∀ t : List Bool, (hitS H x t).length = t.length := fun t => by unfold hitS; split <;> simp
  have hold : ∀ i a, H[i]? = some a → a.fast = !((!a.fast) || Big a) := fun i a ha => by
    have := hI a (List.mem_of_getElem? ha)
    cases hf : a.fast with
    | false => rfl
    | true => have := this hf; simp [Big]; omega
  have hext0 : extS s (H.length + 1) = s := by simp [extS, hl]
  rcases op_cases lim H x with ⟨h1, h2, h3⟩ | ⟨h1, c, p, h2, _⟩ | ⟨n, a, g, h1, h2, h3, h4, h5, h6⟩
  · have hb : hitB H x = false := by
      unfold hitB
      rcases h3 with h3 | h3
      · rcases h2 with h2 | h2 | h2
        · simp; intro _; omega
        · rw [h2]; simp; intro _; omega
        · rw [h2]; rfl
      · rw [h3]; rfl
    rw [h1, hext0]
    unfold hitS
    rw [hb]
    exact ⟨hI, hl, fun i a ha => ⟨_, hs i a ha, hold i a ha⟩⟩
  · have hb : hitB H x = false := by unfold hitB; simp; intro _; omega
    rw [h2]
    unfold hitS
    rw [hb]
    refine ⟨fun a ha => ?_, by rw [List.length_append, List.length_singleton]; exact hext _ (by omega), fun i a ha => ?_⟩
    · rcases List.mem_append.1 ha with h | h
      · exact hI a h
      · simp at h; subst h; intro _; simp
    · have hlen : (H ++ [(⟨c, p, false, true, []⟩ : OB)]).length + 1 - s.length = 1 := by simp; omega
      unfold extS
      rw [hlen, if_neg (by decide)]
      by_cases hi : i < H.length
      · rw [List.getElem?_append_left hi] at ha
        exact ⟨_, by rw [List.getElem?_append_left (by omega)]; exact hs i a ha, hold i a ha⟩
      · have hi2 : i = H.length := by have := (List.getElem?_eq_some_iff.1 ha).1; simp at this; omega
        subst hi2
        simp at ha
        subst ha
        exact ⟨false, by rw [List.getElem?_append_right (by omega)]; simp [hl], rfl⟩
  · have hn : n - 1 < H.length := (List.getElem?_eq_some_iff.1 h3).1
    have hlen : (opH lim H x).length = H.length := by rw [h5]; simp
    have ht : x.o.toNat = n := by rw [h1]; simp
    have hIa := hI a (List.mem_of_getElem? h3)
    have hsa := hs (n - 1) a h3
    have en : n - 1 + 1 = n := by omega
    rw [en] at hsa
    have hgI : (g a).fast = true → (g a).l.length ≤ 128 := by
      rcases h6 with ⟨_, rfl, _⟩ | ⟨_, rfl, h⟩ | ⟨_, e1, e2⟩ | ⟨_, rfl⟩
      · rw [put_big hIa]
        simp [Big]
      · intro h'
        rw [getL_idx] at h
        unfold dropA at h'
        cases hi : idx (gk a.l) (pk x.k) with
        | none => rw [hi] at h; cases h
        | some j => rw [hi] at h'; cases h'
      · rw [e1, e2]; exact hIa
      · intro h; cases h
    have hga : ∃ b, (hitS H x s)[n]? = some b ∧ (g a).fast = !(b || Big (g a)) := by
      have hlt : n < s.length := by omega
      rcases h6 with ⟨k, rfl, _⟩ | ⟨k, rfl, h⟩ | ⟨k, e1, e2⟩ | ⟨k, rfl⟩
      · refine ⟨!a.fast, ?_, (put_big hIa).trans ?_⟩
        · unfold hitS
          rw [if_neg]
          · exact hsa
          · unfold hitB; simp; intro _; omega
        · cases a.fast <;> simp
      · refine ⟨true, ?_, ?_⟩
        · unfold hitS
          rw [if_pos, ht]
          · rw [List.getElem?_set_self (by omega)]
          · unfold hitB
            rw [h4, h1, own_some h2 h3, h]
            simp [k]
        · rw [getL_idx] at h
          unfold dropA
          cases hi : idx (gk a.l) (pk x.k) with
          | none => rw [hi] at h; cases h
          | some j => rfl
      · refine ⟨!a.fast, ?_, ?_⟩
        · unfold hitS
          rw [if_neg]
          · exact hsa
          · unfold hitB; simp; intro _; omega
        · have : Big (g a) = Big a := by unfold Big; rw [e2]
          rw [e1, this]
          exact hold _ a h3
      · refine ⟨true, ?_, rfl⟩
        unfold hitS
        rw [if_pos, ht]
        · rw [List.getElem?_set_self (by omega)]
        · unfold hitB
          rw [h4]
          simp
          omega
    rw [hlen, hext0, h5]
    refine ⟨fun b hb => ?_, by rw [hit_len, hl], fun i b hb => ?_⟩
    · rcases List.mem_or_eq_of_mem_set hb with h | h
      · exact hI b h
      · subst h; exact hgI
    · rw [List.getElem?_set] at hb
      by_cases hi : n - 1 = i
      · subst hi
        rw [if_pos rfl, if_pos hn] at hb
        injection hb with hb
        subst hb
        rw [en]
        exact hga
      · rw [if_neg hi] at hb
        refine ⟨_, ?_, hold i b hb⟩
        unfold hitS
        split
        · rw [ht, List.getElem?_set_ne (by omega)]; exact hs i b hb
        · exact hs i b hb
/-- never more than the limit -/
theorem op_room {lim : Int} {H : List OB} {x : OP} (h : (usedH H : Int) ≤ lim) : (usedH (opH lim H x) : Int) ≤ lim := by
  rcases op_cases lim H x with ⟨h1, _⟩ | ⟨_, c, p, h2, h3⟩ | ⟨n, a, g, h1, h2, h3, h4, h5, h6⟩
  · rw [h1]; exact h
  · rw [h2]
    have : usedH (H ++ [(⟨c, p, false, true, []⟩ : OB)]) = usedH H + 1 := by simp [usedH]; omega
    omega
  · have e := usedH_set (a' := g a) h3
    rw [h5]
    rcases h6 with ⟨_, rfl, q⟩ | ⟨_, rfl, q⟩ | ⟨_, e1, e2⟩ | ⟨_, rfl⟩
    · have : (putA (pk x.k) x.p a).l.length = if (getL a.l (pk x.k)).isSome then a.l.length else a.l.length + 1 := putL_len _ _ _
      cases hg : (getL a.l (pk x.k)).isSome with
      | true => rw [hg] at this; simp at this; omega
      | false =>
        rw [hg] at this q
        simp at this
        have q : (usedH H : Int) < lim := by rcases q with q | q; cases q; exact q
        omega
    · have := drop_len (pk x.k) a; omega
    · rw [e2] at e; omega
    · have : (forceA a).l = a.l := rfl
      rw [this] at e; omega
/-- the heap after a list's first operations -/
def runO (lim : Int) (l : List OP) : List OB := l.foldl (opH lim) []
theorem run_next {lim : Int} {l : List OP} {i : Nat} {x : OP} (h : l[i]? = some x) : runO lim (l.take (i + 1)) = opH lim (runO lim (l.take i)) x := by
  have hlt : i < l.length := (List.getElem?_eq_some_iff.1 h).1
  have hx : l[i] = x := (List.getElem?_eq_some_iff.1 h).2
  unfold runO
  rw [List.take_succ_eq_append_getElem hlt, List.foldl_append, hx]
  rfl
theorem run_used {lim : Int} {l : List OP} : ∀ {i : Nat}, i ≤ l.length → usedH (runO lim (l.take i)) ≤ i := by
  intro i
  induction i with
  | zero => intro _; simp [runO, usedH]
  | succ i ih =>
    intro h
    have hx : l[i]? = some l[i] := List.getElem?_eq_getElem (by omega)
    rw [run_next hx]
    have := ih (by omega)
    have := op_used lim (runO lim (l.take i)) l[i]
    omega
theorem run_room {lim : Int} (h0 : 0 ≤ lim) {l : List OP} : ∀ {i : Nat}, i ≤ l.length → (usedH (runO lim (l.take i)) : Int) ≤ lim := by
  intro i
  induction i with
  | zero => intro _; simp [runO, usedH]; exact h0
  | succ i ih =>
    intro h
    have hx : l[i]? = some l[i] := List.getElem?_eq_getElem (by omega)
    rw [run_next hx]
    exact op_room (ih (by omega))
end Go.Proofs.Ytoccmiinkfhohaa
namespace Go.Proofs.Ytoccmiinkfhohaa
open Go.RowKit Go.Shelf Go.Lib Go.Sort Go.Proofs Go.Maps
set_option linter.unusedVariables false
set_option maxHeartbeats 400000
set_option maxRecDepth 8000

def LawS (w0 w : World) (hb rb : Nat) (lim : Int) (B : Nat) (H : List OB) : Prop :=
  ∃ f f2, Two w hb rb lim B H f f2 ∧ Below w0.heap.size w0 w ∧ ∀ r, r < w0.heap.size → f r = 0 ∧ f2 r = 0
section
variable {w0 w w' : World} {hb rb B : Nat} {lim : Int} {H : List OB}
theorem LawS.base (h : LawS w0 w hb rb lim B H) : Below w0.heap.size w0 w := by
  obtain ⟨f, f2, h1, h2, h3⟩ := h
  exact h2
theorem LawS.below (h : LawS w0 w hb rb lim B H) (hb' : Below w.heap.size w w') : LawS w0 w' hb rb lim B H := by
  obtain ⟨f, f2, h1, h2, h3⟩ := h
  exact ⟨f, f2, h1.below hb', h2.trans (hb'.mono h2.size), h3⟩
theorem law_new {w w1 w2 : World} {f f2 : Nat → Nat} (t1 : Turn (fun _ => False) (fun _ => 0) f w w1) (h1 : HeapO w1 f hb lim 0 128 []) (t2 : Turn (fun _ => False) (fun _ => 0) f2 w1 w2) (h2 : RefO w2 f2 rb lim []) : LawS w w2 hb rb lim 128 [] := by
  have b1 : Below w.heap.size w w1 := t1.below (Nat.le_refl _) (fun _ _ h => h)
  have b2 : Below w1.heap.size w1 w2 := t2.below (Nat.le_refl _) (fun _ _ h => h)
  refine ⟨f, f2, ⟨t1.norm.below b2.size, t2.norm, h1.below t1.norm b2, h2, fun r hr => ?_⟩, b1.trans (b2.mono b1.size), fun r hr => ⟨t1.agree r hr, t2.agree r (Nat.lt_of_lt_of_le hr b1.size)⟩⟩
  by_cases hlt : r < w1.heap.size
  · exact absurd (t2.agree r hlt) hr
  · exact t1.norm r (by omega)
theorem LawS.done {f f2 : Nat → Nat} {B' : Nat} {H' : List OB} (h2 : Below w0.heap.size w0 w) (h3 : ∀ r, r < w0.heap.size → f r = 0 ∧ f2 r = 0) (hd : Done w w' hb rb lim B' H' f f2) : LawS w0 w' hb rb lim B' H' := by
  obtain ⟨f', f2', g1, g2⟩ := hd
  refine ⟨f', f2', g1, h2.trans (g2.below h2.size h3), fun r hr => ?_⟩
  obtain ⟨q1, q2⟩ := g2.own r (Nat.lt_of_lt_of_le hr h2.size)
  rw [q1, q2]
  exact h3 r hr
theorem l_new {w1 : World} {f : Nat → Nat} (t1 : Turn (fun _ => False) (fun _ => 0) f w w1) (h1 : HeapO w1 f hb lim 0 128 []) :
    Calls Try.prog 11 #[.int .i64 lim] w1 fun e w2 => ∃ rb, e = .returned (.pointer (some ⟨rb, 0, none⟩)) ∧ LawS w w2 hb rb lim 128 [] := by
  refine (c_Rnew (f := fun _ => 0) (fun _ _ => rfl) lim).mono ?_
  rintro e w2 ⟨rb, f2, rfl, t2, h2⟩
  exact ⟨rb, rfl, law_new t1 h1 t2 h2⟩
theorem l_do (h : LawS w0 w hb rb lim B H) (hB1 : 128 ≤ B) (hB : B < 90000) (hu : usedH H ≤ 100000) (x : OP) (hk : okK x.k) :
    Calls Try.prog 14 #[.pointer (some ⟨hb, 0, none⟩), .pointer (some ⟨rb, 0, none⟩), .agg (encO x).toArray] w fun e w' => e = .returned (.bool true) ∧ LawS w0 w' hb rb lim (B + 2) (opH lim H x) := by
  obtain ⟨f, f2, h1, h2, h3⟩ := h
  refine (c_do15 h1 hB1 hB hu x hk).mono ?_
  rintro e w' ⟨rfl, hd⟩
  exact ⟨rfl, LawS.done h2 h3 hd⟩
theorem l_Len (h : LawS w0 w hb rb lim B H) (hu : usedH H ≤ 100000) : Calls Try.prog 16 #[.pointer (some ⟨hb, 0, none⟩)] w fun e w' => e = .returned (.int .i64 (H.length : Int)) ∧ w' = w := by
  obtain ⟨f, f2, h1, h2, h3⟩ := h
  have := used_len H
  exact c_HLen h1.2.2.1 (by omega)
theorem l_Used (h : LawS w0 w hb rb lim B H) : Calls Try.prog 18 #[.pointer (some ⟨hb, 0, none⟩)] w fun e w' => e = .returned (.int .i64 (usedH H : Int)) ∧ w' = w := by
  obtain ⟨f, f2, h1, h2, h3⟩ := h
  exact c_HUsed h1.2.2.1
theorem KeysOf.len {ks Z : List KK} (h : KeysOf ks Z) : Z.length = ks.length := by
  obtain ⟨l, h1, _, h3, _⟩ := h
  rw [h3.len, ← h1, List.length_map]
theorem l_KeysLen (h : LawS w0 w hb rb lim B H) (hB1 : 128 ≤ B) (hB : B ≤ 100000) (m : Nat) (a : OB) (ha : H[m]? = some a) :
    Calls Try.prog 17 #[.pointer (some ⟨hb, 0, none⟩), .int .i64 ((m : Int) + 1)] w fun e w' => ∃ p c, e = .returned (.slice p a.l.length c) ∧ Below w.heap.size w w' := by
  obtain ⟨f, f2, h1, h2, h3⟩ := h
  have hc := c_HKeys h1.1 h1.2.2.1 hB1 hB ((m + 1 : Nat) : Int)
  have e : listH H ((m + 1 : Nat) : Int) = a.l := by unfold listH; rw [objH_at (o := m + 1) (by omega) ha]
  rw [e] at hc
  refine hc.mono ?_
  rintro e w' ⟨v, Z, rfl, hr, hk, hb'⟩
  obtain ⟨p, c, rfl, _⟩ := hr.form
  have := hk.len
  rw [this]
  simp only [gk, List.length_map]
  exact ⟨p, c, rfl, hb'⟩
end
/-- the properties of the first objects -/
def sumL (H : List OB) (m : Nat) : Nat := H.length + ((H.take m).map fun a => a.l.length).sum
theorem sumL_next {H : List OB} {m : Nat} {a : OB} (h : H[m]? = some a) : sumL H (m + 1) = sumL H m + a.l.length := by
  have hlt : m < H.length := (List.getElem?_eq_some_iff.1 h).1
  have hx : H[m] = a := (List.getElem?_eq_some_iff.1 h).2
  unfold sumL
  rw [List.take_succ_eq_append_getElem hlt, List.map_append, List.sum_append, hx]
  simp
  omega
theorem sumL_end (H : List OB) : sumL H H.length = usedH H := by
  unfold sumL usedH
  rw [List.take_length]
theorem sumL_le (H : List OB) {m : Nat} (h : m ≤ H.length) : sumL H m ≤ usedH H := by
  rw [← sumL_end]
  unfold sumL
  obtain ⟨d, hd⟩ := Nat.exists_eq_add_of_le h
  rw [hd, List.take_add, List.map_append, List.sum_append]
  omega
end Go.Proofs.Ytoccmiinkfhohaa
namespace Go.Proofs.Ytoccmiinkfhohaa
open Go.RowKit Go.Shelf Go.Lib Go.Sort Go.Proofs Go.Maps
set_option linter.unusedVariables false
set_option maxHeartbeats 1000000
set_option maxRecDepth 8000

theorem infoKeyRowZ : (Try.prog.info? 32).map (·.size) = some 2 := by kernel_rfl
theorem c_Iplain (k : KK) (hk : k.1.size ≤ 1099511627776) (w : World) :
    Calls Try.prog 60 #[keyV k.1 k.2] w fun e w' => e = .returned (keyV (pk k).1 (pk k).2) ∧ Below w.heap.size w w' := by
  have hL := Lib.hid (c_ULen k.1 hk)
  have hC := Lib.hid (c_UCutH k.1 hk)
  have hb := two_belowH w
  unfold keyV pk
  obtain ⟨s, n⟩ := k
  dsimp only at *
  by_cases h0 : 0 < n
  · rw [if_pos h0]
    dsimp only
    have hb0 := Lib.hid hb
    clear hb
    go_enter Try.func60, Try.ntmps60
    go_wp2
    refine bodyPost_ret (results_cell_row rfl _ _ (w.heap.size + 1) 32 #[.string ⟨#[]⟩, .int .i64 n] (0, 0) _ rfl (heap_alloc2_new w _ _) Try.underlying32 rfl infoKeyRowZ) rfl ?_
    exact ⟨rfl, hb0.out _ _⟩
  · rw [if_neg h0]
    dsimp only
    have hb0 := Lib.hid hb
    clear hb
    generalize evenB s = E at *
    go_enter Try.func60, Try.ntmps60
    go_wp2_with fail
    go_region_held3 (fun y => y.cell? ⟨w.heap.size, 0, none⟩ = some (.string s)) (first | assumption | rfl | go_keep) (first | (go_at_call 80; refine (hL.out _).mono ?_; rintro e w1 ⟨rfl, rfl⟩) | (go_at_call 79; refine (hC.out _).mono ?_; rintro e w1 ⟨rfl, rfl⟩))
    all_goals (go_wp2_with fail)
    all_goals refine bodyPost_ret (results_cell_row rfl _ _ (w.heap.size + 1) 32 #[.string E, .int .i64 0] (0, 0) _ rfl (heap_alloc2_new w _ _) Try.underlying32 rfl infoKeyRowZ) rfl ?_
    all_goals exact ⟨rfl, (hb0.out _ _).drew⟩
/-- does a property's mark say that its key is told? -/
def numB (fl : Int) : Bool := bits BinOp.and IntKind.i64 fl 2 != 0
/-- is a key of an object told, if none ahead had it? -/
def goodB (H : List OB) (o : Int) (K : KK) : Bool := decide (K.2 ≤ 0) && (match ownH H o K with | some p => numB p.fl | none => false)
open Classical in
/-- keys in order, as they are compared -/
noncomputable def ordK (ks : List KK) : List KK := if h : ∃ Z, KeysOf ks Z then (Classical.choose h).map pk else []
theorem ordK_eq {ks Z : List KK} (h : KeysOf ks Z) : Z.map pk = ordK ks := by
  have hex : ∃ Z, KeysOf ks Z := ⟨Z, h⟩
  unfold ordK
  rw [dif_pos hex]
  exact h.alike (Classical.choose_spec hex)
noncomputable def keysH (H : List OB) (o : Int) : List KK := ordK (gk (listH H o))
/-- has one come before? -/
def hadB (seen : List KK) (K : KK) : Bool := seen.any fun x => decide (x = K)
theorem hadB_iff {seen : List KK} {K : KK} : hadB seen K = true ↔ K ∈ seen := by
  unfold hadB
  rw [List.any_eq_true]
  exact ⟨fun ⟨x, h1, h2⟩ => by rw [← of_decide_eq_true h2]; exact h1, fun h => ⟨K, h, decide_eq_true rfl⟩⟩
/-- those that are told of a list, where these came before -/
def toldB (H : List OB) (o : Int) (seen : List KK) (K : KK) : Bool := goodB H o K && !hadB seen K
def proZ (H : List OB) (o : Int) : Int := match objH H o with | some a => a.pro | none => 0
/-- all that are told from an object on -/
noncomputable def allF (H : List OB) : Nat → Int → List KK → List KK
  | 0, o, seen => (keysH H o).filter (toldB H o seen)
  | n + 1, o, seen => (keysH H o).filter (toldB H o seen) ++ if hasH H o then allF H n (proZ H o) (seen ++ keysH H o) else []
/-- an object's own -/
noncomputable def ownF (H : List OB) (o : Int) : List KK := (keysH H o).filter (goodB H o)
theorem ownF_told (H : List OB) (o : Int) : (keysH H o).filter (toldB H o []) = ownF H o := by
  unfold ownF
  congr 1
  funext K
  simp [toldB, hadB]
/-- own ones come first -/
theorem allF_own (H : List OB) (n : Nat) (o : Int) : ∃ r, allF H n o [] = ownF H o ++ r := by
  cases n with
  | zero => exact ⟨[], by rw [List.append_nil]; exact ownF_told H o⟩
  | succ n => exact ⟨_, by rw [allF, ownF_told]⟩
end Go.Proofs.Ytoccmiinkfhohaa
namespace Go.Proofs.Ytoccmiinkfhohaa
open Go.RowKit Go.Shelf Go.Lib Go.Sort Go.Proofs Go.Maps
set_option linter.unusedVariables false
set_option maxHeartbeats 4000000
set_option maxRecDepth 100000

theorem look_G1 {w : World} {b n : Nat} {g : Lit → Option Int} (h : MapG w 32 b n g) (x : KK) (hx : okK x) (i : Int) (hi : g (klK x) = some i) :
    ∀ y : World, y.heap[b]? = w.heap[b]? → (Instr.lookup 115 (.map (some b)) (keyV x.1 x.2) false).run Try.prog y = .ok (.int .i64 i) y :=
  look_K1 (f := fun _ => 0) (c := 0) ⟨h, rfl⟩ x hx i hi
theorem look_G0 {w : World} {b n : Nat} {g : Lit → Option Int} (h : MapG w 32 b n g) (x : KK) (hx : okK x) (hi : g (klK x) = none) :
    ∀ y : World, y.heap[b]? = w.heap[b]? → (Instr.lookup 115 (.map (some b)) (keyV x.1 x.2) false).run Try.prog y = .ok (.int .i64 0) y := by
  obtain ⟨D, ⟨es, cl, h1, h2⟩, h3, h4⟩ := h
  intro y hy
  have hm : y.ownsMap Try.prog 32 (plainElem (H := Unit) Try.prog 3) b (Maps.size D) D := ⟨es, cl, hy.trans h1, h2⟩
  obtain ⟨c, hr, hat, _⟩ := hm.lookup_int lawKey Try.underlying115 Try.underlying3 (zeroIntH y) (keyOf_K x hx)
  have hh : Maps.has D (klK x) = false := by rw [(h3 (klK x)).1, hi]; rfl
  rw [atKey_of_not_has hh] at hat
  injection hat with hat
  injection hat with _ hat
  rw [hr, ← hat]
/-- what is known, when these have been noted at a level -/
def noteG (g : Lit → Option Int) (Ks : List KK) (lv : Int) (g' : Lit → Option Int) : Prop := ∀ K, okK K → g' (klK K) = match g (klK K) with | some j => some j | none => if hadB Ks K then some lv else none
theorem noteG_nil (g : Lit → Option Int) (lv : Int) : noteG g [] lv g := fun K _ => by cases g (klK K) <;> rfl
theorem hadB_snoc (Ks : List KK) (K x : KK) : hadB (Ks ++ [K]) x = (hadB Ks x || decide (K = x)) := by simp [hadB]
theorem noteG_old {g g' : Lit → Option Int} {Ks : List KK} {lv : Int} {K : KK} {j : Int} (h : noteG g Ks lv g') (hK : okK K) (hj : g' (klK K) = some j) : noteG g (Ks ++ [K]) lv g' := fun x hx => by
  rw [h x hx, hadB_snoc]
  cases hg : g (klK x) with
  | some j => rfl
  | none =>
    by_cases e : K = x
    · subst e
      have := h K hK
      rw [hj, hg] at this
      cases hb : hadB Ks K with
      | true => rfl
      | false => rw [hb] at this; cases this
    · simp [e]
theorem noteG_new {g g' g2 : Lit → Option Int} {Ks : List KK} {lv : Int} {K : KK} (h : noteG g Ks lv g') (hK : okK K) (hj : g' (klK K) = none) (h1 : g2 (klK K) = some lv) (h2 : ∀ l, l ≠ klK K → g2 l = g' l) : noteG g (Ks ++ [K]) lv g2 := fun x hx => by
  rw [hadB_snoc]
  by_cases e : K = x
  · subst e
    have := h K hK
    rw [hj] at this
    rw [h1]
    cases hg : g (klK K) with
    | some j => rw [hg] at this; cases this
    | none => simp
  · have e' : klK x ≠ klK K := fun h => e (klK_inj hx hK h).symm
    rw [h2 _ e', h x hx]
    cases g (klK x) with
    | some j => rfl
    | none => simp [e]
theorem no_cell {w : World} {b n i : Nat} {g : Lit → Option Int} {k : TypeId} {u : Value} (h : MapG w k b n g) (hc : w.cell? ⟨b, i, none⟩ = some u) : False := by
  obtain ⟨D, ⟨es, cl, h1, h2⟩, _⟩ := h
  simp [World.cell?, h1] at hc
def NoteI (w : World) (mb n : Nat) (g : Lit → Option Int) (Ks : List KK) (lv : Int) (i : Nat) (y : World) : Prop :=
  w.grownBy y (some mb) ∧ mb < w.heap.size ∧ ∃ n' g', MapG y 32 mb n' g' ∧ n' ≤ n + i ∧ noteG g (Ks.take i) lv g'
theorem grown_refl (w : World) (k : Option Nat) : w.grownBy w k := ⟨rfl, rfl, rfl, Nat.le_refl _, fun _ _ _ => rfl⟩
theorem NoteI.cells {w y : World} {mb n i : Nat} {g : Lit → Option Int} {Ks : List KK} {lv : Int} (h : NoteI w mb n g Ks lv i y) {b j : Nat} (hb : b < w.heap.size) (hne : b ≠ mb) : y.cell? ⟨b, j, none⟩ = w.cell? ⟨b, j, none⟩ :=
  World.cell?_of_block (w := w) (a := ⟨b, j, none⟩) (h.1.block b hb (fun e => hne (Option.some.inj e)))
theorem NoteI.below {w y y' : World} {mb n i : Nat} {g : Lit → Option Int} {Ks : List KK} {lv : Int} (h : NoteI w mb n g Ks lv i y) (hb : Below y.heap.size y y') : NoteI w mb n g Ks lv i y' := by
  obtain ⟨h1, h2, n', g', h3, h4, h5⟩ := h
  exact ⟨⟨hb.os.trans h1.os, hb.tape.trans h1.tape, hb.output.trans h1.output, Nat.le_trans h1.size hb.size, fun r hr hne => (hb.block r (Nat.lt_of_lt_of_le hr h1.size)).trans (h1.block r hr hne)⟩, h2, n', g', h3.at (hb.block mb h3.lt), h4, h5⟩
theorem take_snocK {Ks : List KK} {i : Nat} {K : KK} (h : Ks[i]? = some K) : Ks.take (i + 1) = Ks.take i ++ [K] := by rw [List.take_add_one, h]; rfl
theorem c_note {w : World} {bl bs bv mb n : Nat} {L : Value} {Z : List KK} {lv : Int} {g : Lit → Option Int} (hbl : w.heap[bl]? = some (.cells #[L] 51 (0, 0))) (hbs : w.heap[bs]? = some (.cells #[.map (some mb)] 115 (0, 0))) (hbv : w.heap[bv]? = some (.cells #[.int .i64 lv] 3 (0, 0)))
    (hr : RdK w L Z) (hok : ∀ x ∈ Z, okK x) (hl : Z.length ≤ 1000000) (hg : MapG w 32 mb n g) (hn : n ≤ 1000000000) (hlv : 0 < lv) (hlv2 : (Lit.int .i64 lv).wf = true) (hpos : ∀ K, okK K → ∀ j, g (klK K) = some j → 0 < j) :
    Calls Try.prog 59 #[.pointer (some ⟨bl, 0, none⟩), .pointer (some ⟨bs, 0, none⟩), .pointer (some ⟨bv, 0, none⟩)] w fun e w' => e = .returned (.tuple #[]) ∧ NoteI w mb n g (Z.map pk) lv Z.length w' := by
  obtain ⟨p, c, rfl, _, hc, hcell⟩ := hr.form
  have c0 : w.cell? ⟨bl, 0, none⟩ = some (.slice p Z.length c) := by rw [cell_of_row _ _ 0 _ _ _ hbl]; rfl
  have c1 : w.cell? ⟨bs, 0, none⟩ = some (.map (some mb)) := by rw [cell_of_row _ _ 0 _ _ _ hbs]; rfl
  have c2 : w.cell? ⟨bv, 0, none⟩ = some (.int .i64 lv) := by rw [cell_of_row _ _ 0 _ _ _ hbv]; rfl
  have l1 := heapH_lt hbs
  have l2 := heapH_lt hbv
  have n1 : bs ≠ mb := fun e => no_cell hg (e ▸ c1)
  have n2 : bv ≠ mb := fun e => no_cell hg (e ▸ c2)
  have hmb := hg.lt
  have hstart : NoteI w mb n g (Z.map pk) lv 0 w := ⟨grown_refl _ _, hmb, n, g, hg, by omega, by rw [List.take_zero]; exact noteG_nil g lv⟩
  have hcell' : ∀ (i : Nat) x, Z[i]? = some x → ∃ b o, p = some ⟨b, o, none⟩ ∧ b < w.heap.size ∧ b ≠ mb ∧ w.cell? ⟨b, o + i * 2, none⟩ = some (.string x.1) ∧ w.cell? ⟨b, o + i * 2 + 1, none⟩ = some (.int .i64 x.2) := fun i x hx => by
    obtain ⟨b, o, e, hb, hy⟩ := hcell i x hx
    obtain ⟨d1, d2⟩ := hy w (Below.refl _ _)
    exact ⟨b, o, e, hb, fun e => no_cell hg (e ▸ d1), d1, d2⟩
  have c1w := Lib.hid c1
  have c2w := Lib.hid c2
  replace hcell' := Lib.hid hcell'
  replace hok := Lib.hid hok
  replace hpos := Lib.hid hpos
  replace hstart := Lib.hid hstart
  clear hr hcell hbl hbs hbv hg c1 c2
  go_enter Try.func59, Try.ntmps59
  go_wp2
  go_loopw [7] (fun vi wr => ∃ i : Nat, i ≤ Z.length ∧ vi = .int .i64 (i : Int) ∧ NoteI w mb n g (Z.map pk) lv i wr) (fun vi _ => Z.length - (intOf vi).toNat)
  case atStart => exact ⟨0, by omega, rfl, hstart.out⟩
  case round =>
    obtain ⟨i, hi, rfl, hN⟩ := hrel
    obtain ⟨W1, rfl⟩ : ∃ W1, W1 = wr := ⟨_, rfl⟩
    rcases Nat.lt_or_ge i Z.length with hlt | hge
    · obtain ⟨x, hx⟩ : ∃ x, Z[i]? = some x := ⟨_, List.getElem?_eq_getElem hlt⟩
      obtain ⟨b, o, rfl, lb, nb, d1, d2⟩ := hcell'.out i x hx
      rw [← hN.cells lb nb] at d1 d2
      have hKx : (Z.map pk)[i]? = some (pk x) := by simp [hx]
      have hokx := hok.out x (List.mem_of_getElem? hx)
      have hP := Lib.hid (c_Iplain x hokx.1)
      have htk := take_snocK hKx
      have q1 : (0 : Int) ≤ (i : Int) := by omega
      have q2 : (i : Int) < (Z.length : Int) := by omega
      obtain ⟨h1, h2, n', g', h3, h4, h5⟩ := hN
      have hsz := h1.size
      obtain ⟨W2, hW2⟩ : ∃ W2, W1.alloc (.cells #[.string x.1, .int .i64 x.2] 32) = W2 := ⟨_, rfl⟩
      have hal : Below W1.heap.size W1 W2 := by rw [← hW2]; exact (Below.refl _ _).alloc (Nat.le_refl _) _
      have hs2 : W2.heap.size = W1.heap.size + 1 := by rw [← hW2]; simp
      have e0 : W2.heap[W1.heap.size]? = some (.cells #[.string x.1, .int .i64 x.2] 32 (0, 0)) := by rw [← hW2]; exact heap_alloc_new W1 _
      have k0 : W2.cell? ⟨W1.heap.size, 0, none⟩ = some (.string x.1) := by rw [cell_of_row _ _ 0 _ _ _ e0]; rfl
      have k1 : W2.cell? ⟨W1.heap.size, 1, none⟩ = some (.int .i64 x.2) := by rw [cell_of_row _ _ 1 _ _ _ e0]; rfl
      have hN2 : NoteI w mb n g (Z.map pk) lv i W2 := NoteI.below ⟨h1, h2, n', g', h3, h4, h5⟩ hal
      have c1 := (hN2.cells (j := 0) l1 n1).trans c1w.out
      have c2 := (hN2.cells (j := 0) l2 n2).trans c2w.out
      have lt1 : bs < W2.heap.size := by omega
      have lt2 : bv < W2.heap.size := by omega
      have lt3 : W1.heap.size < W2.heap.size := by omega
      have hg2 : MapG W2 32 mb n' g' := h3.at (hal.block mb h3.lt)
      have hst := onto_drew W2
      have lmb : mb < W2.heap.size := hg2.lt
      clear hs2
      cases hgk : g' (klK (pk x)) with
      | some j =>
        have hj0 : ((j : Int) == 0) = false := by
          have : 0 < j := by
            have h6 := h5 (pk x) (pk_ok hokx)
            rw [hgk] at h6
            cases hg0 : g (klK (pk x)) with
            | some j0 => rw [hg0] at h6; injection h6 with h6; rw [h6]; exact hpos.out _ (pk_ok hokx) _ hg0
            | none =>
              rw [hg0] at h6
              cases hh : hadB ((Z.map pk).take i) (pk x) with
              | true => rw [hh] at h6; injection h6 with h6; rw [h6]; exact hlv
              | false => rw [hh] at h6; cases h6
          simp; omega
        have hlk := fun y hy => look_G1 hg2 (pk x) (pk_ok hokx) j hgk y hy
        have hnew := noteG_old h5 (pk_ok hokx) hgk
        rw [← htk] at hnew
        have hfin : NoteI w mb n g (Z.map pk) lv (i + 1) W2 := ⟨hN2.1, h2, n', g', hg2, by omega, hnew⟩
        unfold keyV at hP hlk
        obtain ⟨x0, xn⟩ := x
        dsimp only at *
        generalize pk (x0, xn) = K at *
        replace hfin := Lib.hid hfin
        clear hx hKx hokx htk h3 h4 h5 hgk hnew hg2 hN2 e0 hal h1
        go_wp2_with fail
        clear hW2
        go_region_held3 (fun y => (∀ a : Addr, a.block < W2.heap.size → y.cell? a = W2.cell? a) ∧ (∀ b : Nat, b < W2.heap.size → y.heap[b]? = W2.heap[b]?) ∧ Below W2.heap.size W2 y) (first | with_reducible assumption | with_reducible exact hst | with_reducible exact onto_below (by assumption) (by assumption)) (first | (go_at_call 60; refine (hP.out _).mono ?_; rintro e y3 ⟨rfl, hb6⟩))
        have hfin2 := Lib.hid ((hfin.out.below (Below.refl _ W2).drew).below hb6)
        clear hb6 hst c1 c2 k0 k1 hlk
        go_wp2
        exact ⟨⟨i + 1, by omega, by go_num, hfin2.out⟩, by simp [intOf]; omega⟩
      | none =>
        have hlk := fun y hy => look_G0 hg2 (pk x) (pk_ok hokx) hgk y hy
        obtain ⟨Um, hU⟩ := store_U lawKey Try.underlying115 (b := mb) (n := n') (g := g') (keyOf_K (pk x) (pk_ok hokx)) (isKey_klK _) (v := lv) hlv2 (by unfold maxLen; omega)
        have hnew := fun g2 q2 q3 => noteG_new (g2 := g2) h5 (pk_ok hokx) hgk q2 q3
        rw [← htk] at hnew
        have hfin : ∀ (y Y : World), Below W2.heap.size W2 y → y.grownBy Y (some mb) → (∃ g2, MapG Y 32 mb (n' + 1) g2 ∧ g2 (klK (pk x)) = some lv ∧ ∀ l, l ≠ klK (pk x) → g2 l = g' l) → NoteI w mb n g (Z.map pk) lv (i + 1) Y := fun y Y hy hgr ⟨g2, q1, q2, q3⟩ => by
          obtain ⟨hN3, _⟩ := hN2.below hy
          exact ⟨⟨hgr.os.trans hN3.os, hgr.tape.trans hN3.tape, hgr.output.trans hN3.output, Nat.le_trans hN3.size hgr.size, fun r hr hne => (hgr.block r (Nat.lt_of_lt_of_le hr hN3.size) hne).trans (hN3.block r hr hne)⟩, h2, n' + 1, g2, q1, by omega, hnew g2 q2 q3⟩
        unfold keyV at hP hlk hU
        obtain ⟨x0, xn⟩ := x
        dsimp only at *
        generalize pk (x0, xn) = K at *
        replace hfin := Lib.hid hfin
        replace hU := Lib.hid hU
        have hg2w := Lib.hid hg2
        clear hx hKx hokx htk h3 h4 h5 hgk hnew hg2 hN2 e0 hal h1
        go_wp2_with fail
        clear hW2
        go_region_held3 (fun y => (∀ a : Addr, a.block < W2.heap.size → y.cell? a = W2.cell? a) ∧ (∀ b : Nat, b < W2.heap.size → y.heap[b]? = W2.heap[b]?) ∧ Below W2.heap.size W2 y) (first | with_reducible assumption | with_reducible exact hst | with_reducible exact onto_below (by assumption) (by assumption)) (first | (go_at_call 60; refine (hP.out _).mono ?_; rintro e y3 ⟨rfl, hb6⟩))
        have hB3 := (Below.refl _ W2).drew.trans (hb6.mono (Nat.le_refl _))
        have k0 := (hB3.cell (p := ⟨W1.heap.size, 0, none⟩) lt3).trans k0
        have k1 := (hB3.cell (p := ⟨W1.heap.size, 1, none⟩) lt3).trans k1
        have c1 := (hB3.cell (p := ⟨bs, 0, none⟩) lt1).trans c1
        have c2 := (hB3.cell (p := ⟨bv, 0, none⟩) lt2).trans c2
        have lt1 := Nat.lt_of_lt_of_le lt1 hB3.size
        have lt2 := Nat.lt_of_lt_of_le lt2 hB3.size
        have lt3 := Nat.lt_of_lt_of_le lt3 hB3.size
        have n3 : W1.heap.size ≠ mb := by have := hsz; omega
        have hg3 : MapG y3 32 mb n' g' := hg2w.out.at (hB3.block mb lmb)
        have hm2 := butU_start (.inl hg3 : MapU y3 32 mb n' g' (klK K) lv)
        replace hB3 := Lib.hid hB3
        clear hb6 hst hlk lmb
        go_wp2_with fail
        have hUr := fun y h => (hU.out y h).1
        have hUt := Lib.hid (fun y h => (hU.out y h).2)
        go_region_held3 (fun y => ((∀ a : Addr, a.block < y3.heap.size → a.block ≠ mb → y.cell? a = y3.cell? a) ∧ y3.grownBy y (some mb)) ∧ MapU y 32 mb n' g' (klK K) lv ∧ mb < y3.heap.size) (first | assumption | exact hm2 | exact butU_below (by assumption) (by assumption) | exact butU_turn (by assumption) (hUt.out _ (And.left (And.right (by assumption))))) (first | (go_at_call 60; refine (hP.out _).mono ?_; rintro e y4 ⟨rfl, hb⟩))
        have hbU := butU_below hm2 hb
        have hbT := butU_turn hbU (hUt.out _ hbU.2.1)
        have hfin2 := Lib.hid (hfin.out y3 (Um y4) hB3.out hbT.1.2 (hUt.out y4 hbU.2.1).1)
        clear hbT hbU hb hUr hUt hm2 c1 c2 k0 k1
        go_wp2
        exact ⟨⟨i + 1, by omega, by go_num, hfin2.out⟩, by simp [intOf]; omega⟩
    · obtain rfl : i = Z.length := by omega
      clear hi hge
      go_wp2
      refine bodyPost_end (results_none rfl _ _ _) rfl ?_
      exact ⟨rfl, hN⟩
end Go.Proofs.Ytoccmiinkfhohaa
namespace Go.Proofs.Ytoccmiinkfhohaa
open Go.RowKit Go.Shelf Go.Lib Go.Sort Go.Proofs Go.Maps
set_option linter.unusedVariables false
set_option maxHeartbeats 400000
set_option maxRecDepth 8000

theorem infoBoolF : (Try.prog.info? 4).map (fun i => (i.zero, i.size, i.bytes)) = some (some (.bool false), 1, 1) := by kernel_rfl
def mks (s : List Bool) : List Value := s.map Value.bool
theorem mks_len (s : List Bool) : (mks s).length = s.length := by simp [mks]
theorem mks_one (s : List Bool) : ∀ u ∈ mks s, u.oneCell' = true := by
  intro u hu
  obtain ⟨b, _, rfl⟩ := List.mem_map.1 hu
  rfl
/-- K: blocks that are neither heap's nor the marks', and what they hold -/
def FastS (K : Nat → Obj → Prop) (w0 w : World) (hb rb : Nat) (lim : Int) (B : Nat) (H : List OB) (sv : Value) (s : List Bool) : Prop :=
  ∃ f f2, Two w hb rb lim B H f f2 ∧ Below w0.heap.size w0 w ∧ (∀ r, r < w0.heap.size → f r = 0 ∧ f2 r = 0) ∧ w.ownsRow w0.heap.size 4 1 sv s.length (mks s) ∧ (∀ k, sv.ownBlock = some k → f k = 0 ∧ f2 k = 0) ∧ ∀ b o, K b o → w.heap[b]? = some o ∧ f b = 0 ∧ f2 b = 0 ∧ sv.ownBlock ≠ some b
section
variable {K : Nat → Obj → Prop} {w0 w w' : World} {hb rb B : Nat} {lim : Int} {H : List OB} {sv : Value} {s : List Bool}
theorem FastS.law (h : FastS K w0 w hb rb lim B H sv s) : LawS w0 w hb rb lim B H := by
  obtain ⟨f, f2, h1, h2, h3, _⟩ := h
  exact ⟨f, f2, h1, h2, h3⟩
theorem FastS.start (h : LawS w0 w hb rb lim B H) : FastS (fun _ _ => False) w0 w hb rb lim B H (.slice none 0 0) [] := by
  obtain ⟨f, f2, h1, h2, h3⟩ := h
  exact ⟨f, f2, h1, h2, h3, ⟨rfl, .inl ⟨rfl, rfl⟩⟩, fun k h => (by cases h), fun _ _ h => h.elim⟩
theorem FastS.forget (h : FastS K w0 w hb rb lim B H sv s) : FastS (fun _ _ => False) w0 w hb rb lim B H sv s := by
  obtain ⟨f, f2, h1, h2, h3, h4, h5, h6⟩ := h
  exact ⟨f, f2, h1, h2, h3, h4, h5, fun _ _ h => h.elim⟩
/-- a block more is watched -/
theorem FastS.watch {b : Nat} {ob : Obj} (h : FastS (fun _ _ => False) w0 w hb rb lim B H sv s) (hb' : Below w.heap.size w w') (hB : b = w.heap.size) (ho : w'.heap[b]? = some ob) : FastS (fun x o => x = b ∧ o = ob) w0 w' hb rb lim B H sv s := by
  obtain ⟨f, f2, h1, h2, h3, h4, h5, h6⟩ := h
  refine ⟨f, f2, h1.below hb', h2.trans (hb'.mono h2.size), h3, own_at h4 (fun r hr => hb'.block r (h4.lt r hr).2), h5, ?_⟩
  rintro x o ⟨rfl, rfl⟩
  exact ⟨ho, h1.1 _ (by omega), h1.2.1 _ (by omega), fun e => by have := (h4.lt _ e).2; omega⟩
theorem FastS.held {b : Nat} {o : Obj} (h : FastS K w0 w hb rb lim B H sv s) (hK : K b o) : w.heap[b]? = some o := by
  obtain ⟨f, f2, h1, h2, h3, h4, h5, h6⟩ := h
  exact (h6 b o hK).1
theorem FastS.below (h : FastS K w0 w hb rb lim B H sv s) (hb' : Below w.heap.size w w') : FastS K w0 w' hb rb lim B H sv s := by
  obtain ⟨f, f2, h1, h2, h3, h4, h5, h6⟩ := h
  refine ⟨f, f2, h1.below hb', h2.trans (hb'.mono h2.size), h3, own_at h4 (fun r hr => hb'.block r (h4.lt r hr).2), h5, fun b o hK => ?_⟩
  obtain ⟨g1, g2⟩ := h6 b o hK
  exact ⟨(hb'.block b (heapH_lt g1)).trans g1, g2⟩
/-- a change of what neither heap owns -/
theorem Two.keep {f f2 : Nat → Nat} (h : Two w hb rb lim B H f f2) (ho : w'.os = w.os) (ht : w'.tape = w.tape) (hp : w'.output = w.output) (hs : w.heap.size ≤ w'.heap.size) {k0 : Nat} (hK : f k0 = 0 ∧ f2 k0 = 0) (hk : ∀ r, r < w.heap.size → r ≠ k0 → w'.heap[r]? = w.heap[r]?) : Two w' hb rb lim B H f f2 := by
  obtain ⟨h1, h2, h3, h4, h5⟩ := h
  have t1 : Turn (fun c => c = 0) f f w w' := ⟨ho, ht, hp, hs, fun _ _ => rfl, h1.below hs, fun r hr hn => hk r hr (fun e => hn (by rw [e]; exact hK.1))⟩
  have t2 : Turn (fun c => c = 0) f2 f2 w w' := ⟨ho, ht, hp, hs, fun _ _ => rfl, h2.below hs, fun r hr hn => hk r hr (fun e => hn (by rw [e]; exact hK.2))⟩
  exact ⟨h1.below hs, h2.below hs, h3.turn t1 (fun _ h => h), h4.turn t2 (fun _ h => h), h5⟩
theorem FastS.done {f f2 : Nat → Nat} {B' : Nat} {H' : List OB} (h2 : Below w0.heap.size w0 w) (h3 : ∀ r, r < w0.heap.size → f r = 0 ∧ f2 r = 0) (h4 : w.ownsRow w0.heap.size 4 1 sv s.length (mks s)) (h5 : ∀ k, sv.ownBlock = some k → f k = 0 ∧ f2 k = 0) (h6 : ∀ b o, K b o → w.heap[b]? = some o ∧ f b = 0 ∧ f2 b = 0 ∧ sv.ownBlock ≠ some b) (hd : Done w w' hb rb lim B' H' f f2) : FastS K w0 w' hb rb lim B' H' sv s := by
  obtain ⟨f', f2', g1, g2⟩ := hd
  refine ⟨f', f2', g1, h2.trans (g2.below h2.size h3), fun r hr => ?_, own_at h4 (fun r hr => g2.block r (h4.lt r hr).2 (h5 r hr).1 (h5 r hr).2), fun k hk => ?_, fun b o hK => ?_⟩
  · obtain ⟨q1, q2⟩ := g2.own r (Nat.lt_of_lt_of_le hr h2.size)
    rw [q1, q2]
    exact h3 r hr
  · obtain ⟨q1, q2⟩ := g2.own k (h4.lt k hk).2
    rw [q1, q2]
    exact h5 k hk
  · obtain ⟨e1, e2, e3, e4⟩ := h6 b o hK
    obtain ⟨q1, q2⟩ := g2.own b (heapH_lt e1)
    exact ⟨(g2.block b (heapH_lt e1) e2 e3).trans e1, q1.trans e2, q2.trans e3, e4⟩
theorem FastS.form (h : FastS K w0 w hb rb lim B H sv s) : ∃ q c, sv = .slice q s.length c ∧ ∀ (i : Nat) b, s[i]? = some b → ∃ g, q = some ⟨g, 0, none⟩ ∧ g < w.heap.size ∧ w.cell? ⟨g, i, none⟩ = some (.bool b) ∧ w.frozen? ⟨g, i, none⟩ = false := by
  obtain ⟨f, f2, h1, h2, h3, h4, h5, h6⟩ := h
  rcases h4.2 with ⟨e, h⟩ | ⟨g, cap, cur, e, r1, hg, _⟩
  · rw [h]; exact ⟨_, _, e, fun i b hb => by have : i < s.length := (List.getElem?_eq_some_iff.1 hb).1; omega⟩
  · refine ⟨_, _, e, fun i b hb => ⟨g, rfl, heapH_lt hg, ?_, by simp [World.frozen?, hg]⟩⟩
    have := h4.cells (g := g) (by rw [e]; rfl) i (.bool b) (by simp [mks, hb])
    rwa [Addr.add_lit, Nat.zero_add] at this
/-- a mark is set -/
theorem FastS.set {g c i : Nat} (h : FastS K w0 w hb rb lim B H (.slice (some ⟨g, 0, none⟩) s.length c) s) : FastS K w0 (w.setCell ⟨g, i, none⟩ (.bool true)) hb rb lim B H (.slice (some ⟨g, 0, none⟩) s.length c) (s.set i true) := by
  obtain ⟨f, f2, h1, h2, h3, h4, h5, h6⟩ := h
  have hk : ∀ r, r ≠ g → (w.setCell ⟨g, i, none⟩ (.bool true)).heap[r]? = w.heap[r]? := fun r hr => Below.heap_setCell _ _ _ _ hr
  have hlt := h4.lt g rfl
  refine ⟨f, f2, h1.keep rfl rfl rfl (by simp) (h5 g rfl) (fun r _ hr => hk r hr), h2.setCell hlt.1 _, h3, ?_, h5, fun b o hK => ?_⟩
  rotate_left
  · obtain ⟨e1, e2⟩ := h6 b o hK
    exact ⟨(hk b (fun e => e2.2.2 (by rw [e]; rfl))).trans e1, e2⟩
  have := row_set h4 i (.bool true)
  rw [List.length_set]
  unfold mks at *
  rw [List.map_set]
  exact this
/-- one mark more -/
theorem FastS.push {w5 : World} {gg cap n : Nat} (h : FastS K w0 w hb rb lim B H sv s) (o : Obj) (hn : n = s.length) (hown : w5.ownsRow w0.heap.size 4 1 (.slice (some ⟨gg, 0, none⟩) (n + 1) cap) (n + 1) (mks s ++ [.bool false])) (hg : (w.alloc o).grownBy w5 sv.ownBlock) (hat : sv.ownBlock = some gg ∨ gg = w.heap.size + 1) :
    FastS K w0 w5 hb rb lim B H (.slice (some ⟨gg, 0, none⟩) (n + 1) cap) (s ++ [false]) := by
  subst hn
  obtain ⟨f, f2, h1, h2, h3, h4, h5, h6⟩ := h
  have hsz : w.heap.size + 1 ≤ w5.heap.size := by have := hg.size; simpa using this
  have hk : ∀ r, r < w.heap.size → sv.ownBlock ≠ some r → w5.heap[r]? = w.heap[r]? := fun r hr hne => by
    rw [hg.block r (by simp; omega) (fun e => hne e.symm), Below.heap_alloc _ _ _ hr]
  have hgg : f gg = 0 ∧ f2 gg = 0 := by
    rcases hat with e | e
    · exact h5 gg e
    · rw [e]; exact ⟨h1.1 _ (by omega), h1.2.1 _ (by omega)⟩
  have h1' : Two w5 hb rb lim B H f f2 := by
    cases e : sv.ownBlock with
    | none => exact h1.below ⟨hg.os, hg.tape, hg.output, by omega, fun r hr => hk r hr (by rw [e]; simp)⟩
    | some k => exact h1.keep hg.os hg.tape hg.output (by omega) (h5 k e) (fun r hr hne => hk r hr (by rw [e]; simp; exact fun h => hne h.symm))
  refine ⟨f, f2, h1', ⟨hg.os.trans h2.os, hg.tape.trans h2.tape, hg.output.trans h2.output, Nat.le_trans h2.size (by omega), fun r hr => ?_⟩, h3, ?_, fun k hk2 => ?_, fun b o hK => ?_⟩
  · rw [hk r (Nat.lt_of_lt_of_le hr h2.size) (fun e => by have := (h4.lt r e).1; omega)]
    exact h2.block r hr
  · have e1 : mks (s ++ [false]) = mks s ++ [.bool false] := by simp [mks]
    rw [e1, List.length_append]
    exact hown
  · injection hk2 with hk2
    have hk3 : gg = k := hk2
    subst hk3
    exact hgg
  · obtain ⟨e1, e2, e3, e4⟩ := h6 b o hK
    have hlt := heapH_lt e1
    refine ⟨(hk b hlt e4).trans e1, e2, e3, fun e => ?_⟩
    injection e with e
    have e' : gg = b := e
    rcases hat with h | h
    · exact e4 (by rw [h, e'])
    · omega
/-- the reference's cells -/
theorem LawS.form (h : LawS w0 w hb rb lim B H) : ∃ g c, w.cell? ⟨rb, 1, none⟩ = some (.slice (some ⟨g, 0, none⟩) (H.length + 1) c) ∧ rb < w.heap.size ∧
    ∀ (m : Nat) a, H[m]? = some a → ∃ q cp, w.cell? ⟨g, (m + 1) * 4 + 3, none⟩ = some (.slice q a.l.length cp) := by
  obtain ⟨f, f2, h1, h2, h3⟩ := h
  obtain ⟨g, c, c0, c1, hl, hr⟩ := h1.2.2.2.1.form
  rw [stp_len] at c1
  refine ⟨g, c, c1, hl.1, fun m a ha => ?_⟩
  obtain ⟨sv, hs, _, _, _, _, hc⟩ := hr (m + 1) (strip a) (by omega) (by rw [Nat.add_sub_cancel, stp_get, ha]; rfl)
  obtain ⟨q, cp, e⟩ := hs.len
  exact ⟨q, cp, by rw [hc, e]; rfl⟩
theorem l_RHas (h : LawS w0 w hb rb lim B H) (o : Int) : Calls Try.prog 12 #[.pointer (some ⟨rb, 0, none⟩), .int .i64 o] w fun e w' => e = .returned (.bool (hasH H o)) ∧ w' = w := by
  obtain ⟨f, f2, h1, h2, h3⟩ := h
  have hc := c_RHas h1.2.2.2.1 o
  rw [stp_has] at hc
  exact hc
theorem l_ROwn (h : LawS w0 w hb rb lim B H) (hu : usedH H ≤ 100000) (o : Int) (k : KK) (hk : okK k) : Calls Try.prog 13 #[.pointer (some ⟨rb, 0, none⟩), .int .i64 o, .agg #[.string k.1, .int .i64 k.2]] w fun e w' => ∃ P : PV, e = .returned (.tuple #[.agg (encP P).toArray, .bool (ownH H o (pk k)).isSome]) ∧ Below w.heap.size w w' := by
  obtain ⟨f, f2, h1, h2, h3⟩ := h
  have hc := c_ROwn h1.2.1 h1.2.2.2.1 (stp_small hu) o k hk
  rw [stp_own] at hc
  exact hc.mono fun e w' hx => ⟨_, hx.2, hx.1⟩
theorem l_HFast (h : LawS w0 w hb rb lim B H) (m : Nat) (a : OB) (ha : H[m]? = some a) : Calls Try.prog 15 #[.pointer (some ⟨hb, 0, none⟩), .int .i64 ((m : Int) + 1)] w fun e w' => e = .returned (.bool a.fast) ∧ w' = w := by
  obtain ⟨f, f2, h1, h2, h3⟩ := h
  exact c_HFast1 h1.2.2.1 (m + 1) a (by omega) ha
theorem l_doF (h : FastS K w0 w hb rb lim B H sv s) (hB1 : 128 ≤ B) (hB : B < 90000) (hu : usedH H ≤ 100000) (x : OP) (hk : okK x.k) :
    Calls Try.prog 14 #[.pointer (some ⟨hb, 0, none⟩), .pointer (some ⟨rb, 0, none⟩), .agg (encO x).toArray] w fun e w' => e = .returned (.bool true) ∧ FastS K w0 w' hb rb lim (B + 2) (opH lim H x) sv s := by
  obtain ⟨f, f2, h1, h2, h3, h4, h5, h6⟩ := h
  refine (c_do15 h1 hB1 hB hu x hk).mono ?_
  rintro e w' ⟨rfl, hd⟩
  exact ⟨rfl, FastS.done h2 h3 h4 h5 h6 hd⟩
end
end Go.Proofs.Ytoccmiinkfhohaa
