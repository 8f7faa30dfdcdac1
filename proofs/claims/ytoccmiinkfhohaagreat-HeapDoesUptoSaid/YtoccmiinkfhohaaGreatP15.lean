/-
  Contracts: The contract of the law's do: an operation of both heaps, and they answer alike. The plain law of HeapFast, and of HeapRoom. The laws' state: two heaps side by side above what was there. The state of the law HeapFast: two heaps side by side and a row of marks. The law's same: both heaps tell the same of all objects. The walk of the law HeapDoes.
-/
import Derived.Test.YtoccmiinkfhohaaGreatP14
import Derived.Test.YtoccmiinkfhohaaGreatP12
import Derived.Test.YtoccmiinkfhohaaGreatP10
namespace Go.Proofs.YtoccmiinkfhohaaGreat
open Go.RowKit Go.Shelf Go.Lib Go.Sort Go.Proofs Go.Maps
set_option linter.unusedVariables false
set_option maxHeartbeats 4000000
set_option maxRecDepth 100000

theorem Done.from {w0 w1 w : World} {hb rb B : Nat} {lim : Int} {H : List OB} {f f2 : Nat → Nat} (h0 : TwoK w0 w1 f f2 f f2) (h : Done w1 w hb rb lim B H f f2) : Done w0 w hb rb lim B H f f2 := by
  obtain ⟨f', f2', h1, h2⟩ := h
  exact ⟨f', f2', h1, h0.trans h2⟩
theorem Done.mono {w0 w : World} {hb rb B B' : Nat} {lim : Int} {H : List OB} {f f2 : Nat → Nat} (h : Done w0 w hb rb lim B H f f2) (hB : B ≤ B') : Done w0 w hb rb lim B' H f f2 := by
  obtain ⟨f', f2', h1, h2⟩ := h
  exact ⟨f', f2', h1.mono hB, h2⟩
theorem Done.below {w0 w w' : World} {hb rb B : Nat} {lim : Int} {H : List OB} {f f2 : Nat → Nat} (h : Done w0 w hb rb lim B H f f2) (hb' : Below w.heap.size w w') : Done w0 w' hb rb lim B H f f2 := by
  obtain ⟨f', f2', h1, h2⟩ := h
  exact ⟨f', f2', h1.below hb', h2.trans (TwoK.of_below _ _ hb')⟩
theorem cells18 {y : World} {b : Nat} {t : TypeId} {x : OP} (h : y.heap[b]? = some (.cells (encO x).toArray t (0, 0))) :
    (y.cell? ⟨b, 0, none⟩ = some (.int .i64 x.kd) ∧ y.cell? ⟨b, 1, none⟩ = some (.int .i64 x.o) ∧ y.cell? ⟨b, 2, none⟩ = some (.int .i64 x.n)) ∧ (y.cell? ⟨b, 3, none⟩ = some (.string x.k.1) ∧ y.cell? ⟨b, 4, none⟩ = some (.int .i64 x.k.2)) ∧
    (y.cell? ⟨b, 5, none⟩ = some (.int .i64 x.p.v.k) ∧ y.cell? ⟨b, 6, none⟩ = some (.float .f64 x.p.v.x) ∧ y.cell? ⟨b, 7, none⟩ = some (.string x.p.v.s) ∧ y.cell? ⟨b, 8, none⟩ = some (.int .i64 x.p.v.r)) ∧
    (y.cell? ⟨b, 9, none⟩ = some (.int .i64 x.p.g.k) ∧ y.cell? ⟨b, 10, none⟩ = some (.float .f64 x.p.g.x) ∧ y.cell? ⟨b, 11, none⟩ = some (.string x.p.g.s) ∧ y.cell? ⟨b, 12, none⟩ = some (.int .i64 x.p.g.r)) ∧
    (y.cell? ⟨b, 13, none⟩ = some (.int .i64 x.p.t.k) ∧ y.cell? ⟨b, 14, none⟩ = some (.float .f64 x.p.t.x) ∧ y.cell? ⟨b, 15, none⟩ = some (.string x.p.t.s) ∧ y.cell? ⟨b, 16, none⟩ = some (.int .i64 x.p.t.r)) ∧ y.cell? ⟨b, 17, none⟩ = some (.int .i64 x.p.fl) := by
  have hc : ∀ j u, (encO x)[j]? = some u → y.cell? ⟨b, j, none⟩ = some u := fun j u hu => by rw [cell_of_row _ _ j _ _ _ h]; simpa using hu
  exact ⟨⟨hc 0 _ rfl, hc 1 _ rfl, hc 2 _ rfl⟩, ⟨hc 3 _ rfl, hc 4 _ rfl⟩, ⟨hc 5 _ rfl, hc 6 _ rfl, hc 7 _ rfl, hc 8 _ rfl⟩, ⟨hc 9 _ rfl, hc 10 _ rfl, hc 11 _ rfl, hc 12 _ rfl⟩, ⟨hc 13 _ rfl, hc 14 _ rfl, hc 15 _ rfl, hc 16 _ rfl⟩, hc 17 _ rfl⟩
section
variable {w : World} {hb rb B : Nat} {lim : Int} {H : List OB} {f f2 : Nat → Nat}
theorem c_do15_0 (h : Two w hb rb lim B H f f2) (hB1 : 128 ≤ B) (hB : B < 90000) (hu : usedH H ≤ 100000) (x : OP) (hk : okK x.k) (hkd : x.kd = 0) :
    Calls Tryz.prog 9 #[ptrV hb, ptrV rb, opV x] w fun e w' => e = .returned (.bool true) ∧ Done w w' hb rb lim (B + 2) (opH lim H x) f f2 := by
  have hop : opH lim H x = makeH true H lim x.n x.o := by unfold opH; simp [hkd]
  rw [hop]
  clear hop
  obtain ⟨W1, hW1⟩ : ∃ W1, w.alloc (.cells (encO x).toArray 38) = W1 := ⟨_, rfl⟩
  have hb1 : Below w.heap.size w W1 := by rw [← hW1]; exact (Below.refl _ w).alloc (Nat.le_refl _) _
  have d0 : W1.heap[w.heap.size]? = some (.cells (encO x).toArray 38 (0, 0)) := by rw [← hW1]; exact heap_alloc_new w _
  obtain ⟨⟨e0, e1, e2⟩, ⟨e3, e4⟩, ⟨e5, e6, e7, e8⟩, ⟨e9, e10, e11, e12⟩, ⟨e13, e14, e15, e16⟩, e17⟩ := cells18 d0
  have hfr := Lib.hid (show f w.heap.size = 0 ∧ f2 w.heap.size = 0 ∧ w.heap.size < W1.heap.size from ⟨h.1 _ (Nat.le_refl _), h.2.1 _ (Nat.le_refl _), heapH_lt d0⟩)
  have hT := h.below hb1
  have h0 := TwoK.refl W1 f f2
  have hfin := fun (y : World) (B' : Nat) (H' : List OB) (hB' : B' ≤ B + 2) (hd : Done W1 y hb rb lim B' H' f f2) => (hd.mono hB').from (TwoK.of_below f f2 hb1)
  have hP := t_HMake hT h0 hu x.n x.o
  have hR := fun (y : World) (hh : Half W1 y hb rb lim B H (makeH true H lim x.n x.o) f f2) => t_RMake x.n x.o hh hu
  generalize makeH true H lim x.n x.o = H' at *
  generalize makeN H lim x.n x.o = vN at *
  generalize makeE H lim x.n x.o = vE at *
  unfold ptrV at hP hR
  replace hP := Lib.hid hP
  replace hR := Lib.hid hR
  unfold ptrV opV
  unfold encO encP
  obtain ⟨kd, xo, xn, ⟨k0, kn⟩, ⟨⟨vk, vx, vs, vr⟩, ⟨gk0, gx, gs, gr⟩, ⟨tk, tx0, ts, tr⟩, fl⟩⟩ := x
  dsimp only at *
  subst hkd
  simp only [encO, encP, List.cons_append, List.nil_append] at hW1
  replace hfin := Lib.hid hfin
  clear h hb1 d0 hT h0 hk hB hB1 hu
  go_enter Tryz.func9, Tryz.ntmps9
  go_wp2_with (first | (go_at_call 16; go_loud (refine hP.out.mono ?_; rintro e y1 ⟨rfl, hH1⟩); have hc := hH1.cells hfr.out; rw [← hc 1] at e1; rw [← hc 2] at e2; clear hc) | (go_at_call 25; refine (hR.out _ hH1).mono ?_; rintro e y2 ⟨rfl, hD1⟩))
  go_ret
  exact ⟨rfl, hfin.out _ _ _ (by omega) hD1⟩
theorem c_do15_1 (h : Two w hb rb lim B H f f2) (hB1 : 128 ≤ B) (hB : B < 90000) (hu : usedH H ≤ 100000) (x : OP) (hk : okK x.k) (hkd : x.kd = 1) :
    Calls Tryz.prog 9 #[ptrV hb, ptrV rb, opV x] w fun e w' => e = .returned (.bool true) ∧ Done w w' hb rb lim (B + 2) (opH lim H x) f f2 := by
  have hop : opH lim H x = putH H lim x.o (pk x.k) x.p := by unfold opH; simp [hkd]
  rw [hop]
  clear hop
  obtain ⟨W1, hW1⟩ : ∃ W1, w.alloc (.cells (encO x).toArray 38) = W1 := ⟨_, rfl⟩
  have hb1 : Below w.heap.size w W1 := by rw [← hW1]; exact (Below.refl _ w).alloc (Nat.le_refl _) _
  have d0 : W1.heap[w.heap.size]? = some (.cells (encO x).toArray 38 (0, 0)) := by rw [← hW1]; exact heap_alloc_new w _
  obtain ⟨⟨e0, e1, e2⟩, ⟨e3, e4⟩, ⟨e5, e6, e7, e8⟩, ⟨e9, e10, e11, e12⟩, ⟨e13, e14, e15, e16⟩, e17⟩ := cells18 d0
  have hfr := Lib.hid (show f w.heap.size = 0 ∧ f2 w.heap.size = 0 ∧ w.heap.size < W1.heap.size from ⟨h.1 _ (Nat.le_refl _), h.2.1 _ (Nat.le_refl _), heapH_lt d0⟩)
  have hT := h.below hb1
  have h0 := TwoK.refl W1 f f2
  have hfin := fun (y : World) (B' : Nat) (H' : List OB) (hB' : B' ≤ B + 2) (hd : Done W1 y hb rb lim B' H' f f2) => (hd.mono hB').from (TwoK.of_below f f2 hb1)
  have hP := fun (y : World) (hy : Below W1.heap.size W1 y) => t_HPut (hT.below hy) (TwoK.of_below f f2 hy) hB1 hB hu x.o x.k hk x.p
  have hR := fun (y : World) (hh : Half W1 y hb rb lim (B + 2) H (putH H lim x.o (pk x.k) x.p) f f2) => t_RPut x.o x.k hk x.p hh hu
  generalize putH H lim x.o (pk x.k) x.p = H' at *
  generalize putE H lim x.o (pk x.k) x.p = vE at *
  (try unfold ptrV at hP hR)
  (try unfold keyV at hP hR)
  (try unfold propV at hP hR)
  (try unfold encP at hP hR)
  replace hP := Lib.hid hP
  replace hR := Lib.hid hR
  unfold ptrV opV
  unfold encO encP
  obtain ⟨kd, xo, xn, ⟨k0, kn⟩, ⟨⟨vk, vx, vs, vr⟩, ⟨gk0, gx, gs, gr⟩, ⟨tk, tx0, ts, tr⟩, fl⟩⟩ := x
  dsimp only at *
  subst hkd
  simp only [encO, encP, List.cons_append, List.nil_append] at hW1
  replace hfin := Lib.hid hfin
  clear h hb1 d0 hT h0 hk hB hB1 hu
  go_enter Tryz.func9, Tryz.ntmps9
  go_wp2_with fail
  have hst : ∀ i : Nat, W1.drew.cell? ⟨w.heap.size, i, none⟩ = W1.cell? ⟨w.heap.size, i, none⟩ := fun _ => rfl
  go_region_held3 (fun y => ∀ i : Nat, y.cell? ⟨w.heap.size, i, none⟩ = W1.cell? ⟨w.heap.size, i, none⟩) (first | with_reducible assumption | exact Half.cells (by assumption) hfr.out | exact Done.cells (by assumption) hfr.out) (first | (go_at_call 17; refine (hP.out W1.drew (Below.refl _ W1).drew).mono ?_; rintro e y1 ⟨rfl, hH1⟩) | (go_at_call 26; refine (hR.out _ (by assumption)).mono ?_; rintro e y2 ⟨rfl, hD1⟩))
  clear hst
  go_wp2
  go_ret
  exact ⟨rfl, hfin.out _ _ _ (by omega) hD1⟩
theorem c_do15_2 (h : Two w hb rb lim B H f f2) (hB1 : 128 ≤ B) (hB : B < 90000) (hu : usedH H ≤ 100000) (x : OP) (hk : okK x.k) (hkd : x.kd = 2) :
    Calls Tryz.prog 9 #[ptrV hb, ptrV rb, opV x] w fun e w' => e = .returned (.bool true) ∧ Done w w' hb rb lim (B + 2) (opH lim H x) f f2 := by
  have hop : opH lim H x = updH H x.o (dropA (pk x.k)) := by unfold opH; simp [hkd]
  rw [hop]
  clear hop
  obtain ⟨W1, hW1⟩ : ∃ W1, w.alloc (.cells (encO x).toArray 38) = W1 := ⟨_, rfl⟩
  have hb1 : Below w.heap.size w W1 := by rw [← hW1]; exact (Below.refl _ w).alloc (Nat.le_refl _) _
  have d0 : W1.heap[w.heap.size]? = some (.cells (encO x).toArray 38 (0, 0)) := by rw [← hW1]; exact heap_alloc_new w _
  obtain ⟨⟨e0, e1, e2⟩, ⟨e3, e4⟩, ⟨e5, e6, e7, e8⟩, ⟨e9, e10, e11, e12⟩, ⟨e13, e14, e15, e16⟩, e17⟩ := cells18 d0
  have hfr := Lib.hid (show f w.heap.size = 0 ∧ f2 w.heap.size = 0 ∧ w.heap.size < W1.heap.size from ⟨h.1 _ (Nat.le_refl _), h.2.1 _ (Nat.le_refl _), heapH_lt d0⟩)
  have hT := h.below hb1
  have h0 := TwoK.refl W1 f f2
  have hfin := fun (y : World) (B' : Nat) (H' : List OB) (hB' : B' ≤ B + 2) (hd : Done W1 y hb rb lim B' H' f f2) => (hd.mono hB').from (TwoK.of_below f f2 hb1)
  have hP := fun (y : World) (hy : Below W1.heap.size W1 y) => t_HDrop (hT.below hy) (TwoK.of_below f f2 hy) hB1 (by omega) hu x.o x.k hk
  have hR := fun (y : World) (hh : Half W1 y hb rb lim B H (updH H x.o (dropA (pk x.k))) f f2) => t_RDrop x.o x.k hk hh hu
  generalize updH H x.o (dropA (pk x.k)) = H' at *
  generalize dropB H x.o (pk x.k) = vE at *
  (try unfold ptrV at hP hR)
  (try unfold keyV at hP hR)
  (try unfold propV at hP hR)
  (try unfold encP at hP hR)
  replace hP := Lib.hid hP
  replace hR := Lib.hid hR
  unfold ptrV opV
  unfold encO encP
  obtain ⟨kd, xo, xn, ⟨k0, kn⟩, ⟨⟨vk, vx, vs, vr⟩, ⟨gk0, gx, gs, gr⟩, ⟨tk, tx0, ts, tr⟩, fl⟩⟩ := x
  dsimp only at *
  subst hkd
  simp only [encO, encP, List.cons_append, List.nil_append] at hW1
  replace hfin := Lib.hid hfin
  clear h hb1 d0 hT h0 hk hB hB1 hu
  go_enter Tryz.func9, Tryz.ntmps9
  go_wp2_with fail
  have hst : ∀ i : Nat, W1.drew.cell? ⟨w.heap.size, i, none⟩ = W1.cell? ⟨w.heap.size, i, none⟩ := fun _ => rfl
  go_region_held3 (fun y => ∀ i : Nat, y.cell? ⟨w.heap.size, i, none⟩ = W1.cell? ⟨w.heap.size, i, none⟩) (first | with_reducible assumption | exact Half.cells (by assumption) hfr.out | exact Done.cells (by assumption) hfr.out) (first | (go_at_call 23; refine (hP.out W1.drew (Below.refl _ W1).drew).mono ?_; rintro e y1 ⟨rfl, hH1⟩) | (go_at_call 27; refine (hR.out _ (by assumption)).mono ?_; rintro e y2 ⟨rfl, hD1⟩))
  clear hst
  go_wp2
  go_ret
  exact ⟨rfl, hfin.out _ _ _ (by omega) hD1⟩
theorem c_do15_3 (h : Two w hb rb lim B H f f2) (hB1 : 128 ≤ B) (hB : B < 90000) (hu : usedH H ≤ 100000) (x : OP) (hk : okK x.k) (hkd : x.kd = 3) :
    Calls Tryz.prog 9 #[ptrV hb, ptrV rb, opV x] w fun e w' => e = .returned (.bool true) ∧ Done w w' hb rb lim (B + 2) (opH lim H x) f f2 := by
  have hop : opH lim H x = setH H x.o x.n := by unfold opH; simp [hkd]
  rw [hop]
  clear hop
  obtain ⟨W1, hW1⟩ : ∃ W1, w.alloc (.cells (encO x).toArray 38) = W1 := ⟨_, rfl⟩
  have hb1 : Below w.heap.size w W1 := by rw [← hW1]; exact (Below.refl _ w).alloc (Nat.le_refl _) _
  have d0 : W1.heap[w.heap.size]? = some (.cells (encO x).toArray 38 (0, 0)) := by rw [← hW1]; exact heap_alloc_new w _
  obtain ⟨⟨e0, e1, e2⟩, ⟨e3, e4⟩, ⟨e5, e6, e7, e8⟩, ⟨e9, e10, e11, e12⟩, ⟨e13, e14, e15, e16⟩, e17⟩ := cells18 d0
  have hfr := Lib.hid (show f w.heap.size = 0 ∧ f2 w.heap.size = 0 ∧ w.heap.size < W1.heap.size from ⟨h.1 _ (Nat.le_refl _), h.2.1 _ (Nat.le_refl _), heapH_lt d0⟩)
  have hT := h.below hb1
  have h0 := TwoK.refl W1 f f2
  have hfin := fun (y : World) (B' : Nat) (H' : List OB) (hB' : B' ≤ B + 2) (hd : Done W1 y hb rb lim B' H' f f2) => (hd.mono hB').from (TwoK.of_below f f2 hb1)
  have hP := fun (y : World) (hy : Below W1.heap.size W1 y) => t_HSetProto (hT.below hy) (TwoK.of_below f f2 hy) x.o x.n
  have hR := fun (y : World) (hh : Half W1 y hb rb lim B H (setH H x.o x.n) f f2) => t_RSetProto x.o x.n hh
  generalize setH H x.o x.n = H' at *
  generalize setE H x.o x.n = vE at *
  (try unfold ptrV at hP hR)
  (try unfold keyV at hP hR)
  (try unfold propV at hP hR)
  (try unfold encP at hP hR)
  replace hP := Lib.hid hP
  replace hR := Lib.hid hR
  unfold ptrV opV
  unfold encO encP
  obtain ⟨kd, xo, xn, ⟨k0, kn⟩, ⟨⟨vk, vx, vs, vr⟩, ⟨gk0, gx, gs, gr⟩, ⟨tk, tx0, ts, tr⟩, fl⟩⟩ := x
  dsimp only at *
  subst hkd
  simp only [encO, encP, List.cons_append, List.nil_append] at hW1
  replace hfin := Lib.hid hfin
  clear h hb1 d0 hT h0 hk hB hB1 hu
  go_enter Tryz.func9, Tryz.ntmps9
  go_wp2_with fail
  have hst : ∀ i : Nat, W1.drew.cell? ⟨w.heap.size, i, none⟩ = W1.cell? ⟨w.heap.size, i, none⟩ := fun _ => rfl
  go_region_held3 (fun y => ∀ i : Nat, y.cell? ⟨w.heap.size, i, none⟩ = W1.cell? ⟨w.heap.size, i, none⟩) (first | with_reducible assumption | exact Half.cells (by assumption) hfr.out | exact Done.cells (by assumption) hfr.out) (first | (go_at_call 28; refine (hP.out W1.drew (Below.refl _ W1).drew).mono ?_; rintro e y1 ⟨rfl, hH1⟩) | (go_at_call 29; refine (hR.out _ (by assumption)).mono ?_; rintro e y2 ⟨rfl, hD1⟩))
  clear hst
  go_wp2
  go_ret
  exact ⟨rfl, hfin.out _ _ _ (by omega) hD1⟩
theorem c_do15_4 (h : Two w hb rb lim B H f f2) (hB1 : 128 ≤ B) (hB : B < 90000) (hu : usedH H ≤ 100000) (x : OP) (hk : okK x.k) (hkd : x.kd = 4) :
    Calls Tryz.prog 9 #[ptrV hb, ptrV rb, opV x] w fun e w' => e = .returned (.bool true) ∧ Done w w' hb rb lim (B + 2) (opH lim H x) f f2 := by
  have hop : opH lim H x = updH H x.o shutA := by unfold opH; simp [hkd]
  rw [hop]
  clear hop
  obtain ⟨W1, hW1⟩ : ∃ W1, w.alloc (.cells (encO x).toArray 38) = W1 := ⟨_, rfl⟩
  have hb1 : Below w.heap.size w W1 := by rw [← hW1]; exact (Below.refl _ w).alloc (Nat.le_refl _) _
  have d0 : W1.heap[w.heap.size]? = some (.cells (encO x).toArray 38 (0, 0)) := by rw [← hW1]; exact heap_alloc_new w _
  obtain ⟨⟨e0, e1, e2⟩, ⟨e3, e4⟩, ⟨e5, e6, e7, e8⟩, ⟨e9, e10, e11, e12⟩, ⟨e13, e14, e15, e16⟩, e17⟩ := cells18 d0
  have hfr := Lib.hid (show f w.heap.size = 0 ∧ f2 w.heap.size = 0 ∧ w.heap.size < W1.heap.size from ⟨h.1 _ (Nat.le_refl _), h.2.1 _ (Nat.le_refl _), heapH_lt d0⟩)
  have hT := h.below hb1
  have h0 := TwoK.refl W1 f f2
  have hfin := fun (y : World) (B' : Nat) (H' : List OB) (hB' : B' ≤ B + 2) (hd : Done W1 y hb rb lim B' H' f f2) => (hd.mono hB').from (TwoK.of_below f f2 hb1)
  have hP := fun (y : World) (hy : Below W1.heap.size W1 y) => t_HShut (hT.below hy) (TwoK.of_below f f2 hy) x.o
  have hR := fun (y : World) (hh : Half W1 y hb rb lim B H (updH H x.o shutA) f f2) => t_RShut x.o hh
  generalize updH H x.o shutA = H' at *
  generalize hasE H x.o = vE at *
  (try unfold ptrV at hP hR)
  (try unfold keyV at hP hR)
  (try unfold propV at hP hR)
  (try unfold encP at hP hR)
  replace hP := Lib.hid hP
  replace hR := Lib.hid hR
  unfold ptrV opV
  unfold encO encP
  obtain ⟨kd, xo, xn, ⟨k0, kn⟩, ⟨⟨vk, vx, vs, vr⟩, ⟨gk0, gx, gs, gr⟩, ⟨tk, tx0, ts, tr⟩, fl⟩⟩ := x
  dsimp only at *
  subst hkd
  simp only [encO, encP, List.cons_append, List.nil_append] at hW1
  replace hfin := Lib.hid hfin
  clear h hb1 d0 hT h0 hk hB hB1 hu
  go_enter Tryz.func9, Tryz.ntmps9
  go_wp2_with fail
  have hst : ∀ i : Nat, W1.drew.cell? ⟨w.heap.size, i, none⟩ = W1.cell? ⟨w.heap.size, i, none⟩ := fun _ => rfl
  go_region_held3 (fun y => ∀ i : Nat, y.cell? ⟨w.heap.size, i, none⟩ = W1.cell? ⟨w.heap.size, i, none⟩) (first | with_reducible assumption | exact Half.cells (by assumption) hfr.out | exact Done.cells (by assumption) hfr.out) (first | (go_at_call 30; refine (hP.out W1.drew (Below.refl _ W1).drew).mono ?_; rintro e y1 ⟨rfl, hH1⟩) | (go_at_call 31; refine (hR.out _ (by assumption)).mono ?_; rintro e y2 ⟨rfl, hD1⟩))
  clear hst
  go_wp2
  go_ret
  exact ⟨rfl, hfin.out _ _ _ (by omega) hD1⟩
theorem c_do15_5 (h : Two w hb rb lim B H f f2) (hB1 : 128 ≤ B) (hB : B < 90000) (hu : usedH H ≤ 100000) (x : OP) (hk : okK x.k) (hkd : x.kd ≠ 0 ∧ x.kd ≠ 1 ∧ x.kd ≠ 2 ∧ x.kd ≠ 3 ∧ x.kd ≠ 4) :
    Calls Tryz.prog 9 #[ptrV hb, ptrV rb, opV x] w fun e w' => e = .returned (.bool true) ∧ Done w w' hb rb lim (B + 2) (opH lim H x) f f2 := by
  have hop : opH lim H x = updH H x.o forceA := by unfold opH; rw [if_neg hkd.1, if_neg hkd.2.1, if_neg hkd.2.2.1, if_neg hkd.2.2.2.1, if_neg hkd.2.2.2.2]
  rw [hop]
  clear hop
  obtain ⟨W1, hW1⟩ : ∃ W1, w.alloc (.cells (encO x).toArray 38) = W1 := ⟨_, rfl⟩
  have hb1 : Below w.heap.size w W1 := by rw [← hW1]; exact (Below.refl _ w).alloc (Nat.le_refl _) _
  have d0 : W1.heap[w.heap.size]? = some (.cells (encO x).toArray 38 (0, 0)) := by rw [← hW1]; exact heap_alloc_new w _
  obtain ⟨⟨e0, e1, e2⟩, ⟨e3, e4⟩, ⟨e5, e6, e7, e8⟩, ⟨e9, e10, e11, e12⟩, ⟨e13, e14, e15, e16⟩, e17⟩ := cells18 d0
  have hfr := Lib.hid (show f w.heap.size = 0 ∧ f2 w.heap.size = 0 ∧ w.heap.size < W1.heap.size from ⟨h.1 _ (Nat.le_refl _), h.2.1 _ (Nat.le_refl _), heapH_lt d0⟩)
  have hT := h.below hb1
  have h0 := TwoK.refl W1 f f2
  have hfin := fun (y : World) (B' : Nat) (H' : List OB) (hB' : B' ≤ B + 2) (hd : Done W1 y hb rb lim B' H' f f2) => (hd.mono hB').from (TwoK.of_below f f2 hb1)
  have hP := fun (y : World) (hy : Below W1.heap.size W1 y) => t_HForce (hT.below hy) (TwoK.of_below f f2 hy) hB1 x.o
  have hR := fun (y : World) (hh : Done W1 y hb rb lim B (updH H x.o forceA) f f2) => t_RHas x.o hh
  have hhas : hasH (stp (updH H x.o forceA)) x.o = hasH H x.o := by rw [stp_force, stp_has]
  rw [hhas] at hR
  have hret : RowKit.Hid (Ending.returned (.bool ((hasE H x.o == 0) == hasH H x.o)) = Ending.returned (.bool true)) := Lib.hid (by unfold hasE; cases hasH H x.o <;> rfl)
  clear hhas
  generalize updH H x.o forceA = H' at *
  generalize hasE H x.o = vE at *
  generalize hasH H x.o = vB at *
  (try unfold ptrV at hP hR)
  (try unfold keyV at hP hR)
  (try unfold propV at hP hR)
  (try unfold encP at hP hR)
  replace hP := Lib.hid hP
  replace hR := Lib.hid hR
  unfold ptrV opV
  unfold encO encP
  obtain ⟨kd, xo, xn, ⟨k0, kn⟩, ⟨⟨vk, vx, vs, vr⟩, ⟨gk0, gx, gs, gr⟩, ⟨tk, tx0, ts, tr⟩, fl⟩⟩ := x
  dsimp only at *
  obtain ⟨k0', k1', k2', k3', k4'⟩ := hkd
  simp only [encO, encP, List.cons_append, List.nil_append] at hW1
  replace hfin := Lib.hid hfin
  clear h hb1 d0 hT h0 hk hB hB1 hu
  go_enter Tryz.func9, Tryz.ntmps9
  go_wp2_with fail
  have hst : ∀ i : Nat, W1.drew.cell? ⟨w.heap.size, i, none⟩ = W1.cell? ⟨w.heap.size, i, none⟩ := fun _ => rfl
  go_region_held3 (fun y => ∀ i : Nat, y.cell? ⟨w.heap.size, i, none⟩ = W1.cell? ⟨w.heap.size, i, none⟩) (first | with_reducible assumption | exact Half.cells (by assumption) hfr.out | exact Done.cells (by assumption) hfr.out) (first | (go_at_call 12; refine (hP.out W1.drew (Below.refl _ W1).drew).mono ?_; rintro e y1 ⟨rfl, hD1⟩) | (go_at_call 32; refine (hR.out _ (by assumption)).mono ?_; rintro e y2 ⟨rfl, rfl⟩))
  clear hst
  go_wp2
  go_ret
  exact ⟨hret.out, hfin.out _ _ _ (by omega) hD1⟩
theorem c_do15 (h : Two w hb rb lim B H f f2) (hB1 : 128 ≤ B) (hB : B < 90000) (hu : usedH H ≤ 100000) (x : OP) (hk : okK x.k) :
    Calls Tryz.prog 9 #[ptrV hb, ptrV rb, opV x] w fun e w' => e = .returned (.bool true) ∧ Done w w' hb rb lim (B + 2) (opH lim H x) f f2 := by
  by_cases h0 : x.kd = 0
  · exact c_do15_0 h hB1 hB hu x hk h0
  by_cases h1 : x.kd = 1
  · exact c_do15_1 h hB1 hB hu x hk h1
  by_cases h2 : x.kd = 2
  · exact c_do15_2 h hB1 hB hu x hk h2
  by_cases h3 : x.kd = 3
  · exact c_do15_3 h hB1 hB hu x hk h3
  by_cases h4 : x.kd = 4
  · exact c_do15_4 h hB1 hB hu x hk h4
  exact c_do15_5 h hB1 hB hu x hk ⟨h0, h1, h2, h3, h4⟩
end
end Go.Proofs.YtoccmiinkfhohaaGreat
namespace Go.Proofs.YtoccmiinkfhohaaGreat
open Go.RowKit Go.Shelf Go.Lib Go.Sort Go.Proofs Go.Maps
set_option linter.unusedVariables false
set_option maxHeartbeats 1000000
set_option maxRecDepth 8000

def Big (a : OB) : Bool := decide (128 < a.l.length)
def FastI (H : List OB) : Prop := ∀ a ∈ H, a.fast = true → a.l.length ≤ 128
theorem op_cases (lim : Int) (H : List OB) (x : OP) :
    (opH lim H x = H ∧ (x.kd ≠ 2 ∨ (ownH H x.o (pk x.k)).isSome = false ∨ hasH H x.o = false) ∧ ((0 ≤ x.kd ∧ x.kd ≤ 4) ∨ hasH H x.o = false)) ∨
    (x.kd = 0 ∧ ∃ c p, opH lim H x = H ++ [⟨c, p, false, true, []⟩] ∧ (usedH H : Int) < lim) ∨
    (∃ (n : Nat) (a : OB) (g : OB → OB), x.o = (n : Int) ∧ 0 < n ∧ H[n - 1]? = some a ∧ hasH H x.o = true ∧ opH lim H x = H.set (n - 1) (g a) ∧
      ((x.kd = 1 ∧ g = putA (pk x.k) x.p ∧ ((getL a.l (pk x.k)).isSome = true ∨ (usedH H : Int) < lim)) ∨ (x.kd = 2 ∧ g = dropA (pk x.k) ∧ (getL a.l (pk x.k)).isSome = true) ∨ ((x.kd = 3 ∨ x.kd = 4) ∧ (g a).fast = a.fast ∧ (g a).l = a.l) ∨ ((4 < x.kd ∨ x.kd < 0) ∧ g = forceA))) := by
  unfold opH
  by_cases h0 : x.kd = 0
  · rw [if_pos h0]
    unfold makeH
    by_cases hE : makeE H lim x.n x.o = 0
    · rw [if_pos hE]
      refine .inr (.inl ⟨h0, _, _, rfl, ?_⟩)
      unfold makeE at hE
      split at hE
      · cases hE
      · split at hE
        · cases hE
        · split at hE
          · cases hE
          · omega
    · rw [if_neg hE]; exact .inl ⟨rfl, .inl (by omega), .inl (by omega)⟩
  · rw [if_neg h0]
    by_cases h1 : x.kd = 1
    · rw [if_pos h1]
      unfold putH
      by_cases hE : putE H lim x.o (pk x.k) x.p = 0
      · rw [if_pos hE]
        rcases objH_cases H x.o with ⟨q1, q2⟩ | ⟨n, a, q0, q1, q2, q3, q4⟩
        · exfalso; unfold putE at hE; rw [if_pos q1] at hE; cases hE
        · refine .inr (.inr ⟨n, a, putA (pk x.k) x.p, q0, q1, q2, q4, by rw [q0, updH_at q1 q2], .inl ⟨h1, rfl, ?_⟩⟩)
          unfold putE at hE
          rw [if_neg (by rw [q4]; decide)] at hE
          split at hE
          · cases hE
          · split at hE
            · cases hE
            · rename_i hn
              rw [q0, own_some q1 q2] at hn
              by_cases hg : (getL a.l (pk x.k)).isSome = true
              · exact .inl hg
              · right
                have h9 : (getL a.l (pk x.k)).isSome = false := by simpa using hg
                by_cases h10 : lim ≤ (usedH H : Int)
                · exact absurd ⟨h9, h10⟩ hn
                · omega
      · rw [if_neg hE]; exact .inl ⟨rfl, .inl (by omega), .inl (by omega)⟩
    · rw [if_neg h1]
      by_cases h2 : x.kd = 2
      · rw [if_pos h2]
        rcases objH_cases H x.o with ⟨q1, q2⟩ | ⟨n, a, q0, q1, q2, q3, q4⟩
        · exact .inl ⟨by unfold updH; rw [q2], .inr (.inr q1), .inr q1⟩
        · cases hg : (getL a.l (pk x.k)).isSome with
          | true => exact .inr (.inr ⟨n, a, dropA (pk x.k), q0, q1, q2, q4, by rw [q0, updH_at q1 q2], .inr (.inl ⟨h2, rfl, hg⟩)⟩)
          | false =>
            refine .inl ⟨updH_id _ _ _ fun b hb => ?_, .inr (.inl (by rw [q0, own_some q1 q2, hg])), .inl (by omega)⟩
            rw [q3] at hb
            injection hb with hb
            subst hb
            rw [getL_idx] at hg
            unfold dropA
            cases hi : idx (gk a.l) (pk x.k) with
            | none => rfl
            | some j => rw [hi] at hg; cases hg
      · rw [if_neg h2]
        by_cases h3 : x.kd = 3
        · rw [if_pos h3]
          unfold setH
          by_cases hE : setE H x.o x.n = 0
          · rw [if_pos hE]
            rcases objH_cases H x.o with ⟨q1, q2⟩ | ⟨n, a, q0, q1, q2, q3, q4⟩
            · exfalso; unfold setE at hE; rw [if_pos (.inl q1)] at hE; cases hE
            · exact .inr (.inr ⟨n, a, _, q0, q1, q2, q4, by rw [q0, updH_at q1 q2], .inr (.inr (.inl ⟨.inl h3, rfl, rfl⟩))⟩)
          · rw [if_neg hE]; exact .inl ⟨rfl, .inl (by omega), .inl (by omega)⟩
        · rw [if_neg h3]
          rcases objH_cases H x.o with ⟨q1, q2⟩ | ⟨n, a, q0, q1, q2, q3, q4⟩
          · left
            refine ⟨?_, .inl h2, .inr q1⟩
            split <;> (unfold updH; rw [q2])
          · by_cases h4 : x.kd = 4
            · rw [if_pos h4]
              exact .inr (.inr ⟨n, a, shutA, q0, q1, q2, q4, by rw [q0, updH_at q1 q2], .inr (.inr (.inl ⟨.inr h4, rfl, rfl⟩))⟩)
            · rw [if_neg h4]
              exact .inr (.inr ⟨n, a, forceA, q0, q1, q2, q4, by rw [q0, updH_at q1 q2], .inr (.inr (.inr ⟨by omega, rfl⟩))⟩)
theorem put_big {K : KK} {p : PV} {a : OB} (hI : a.fast = true → a.l.length ≤ 128) : (putA K p a).fast = (a.fast && !Big (putA K p a)) := by
  unfold putA Big canL
  dsimp only
  rw [putL_len, getL_idx]
  cases hf : a.fast with
  | false => rfl
  | true =>
    have := hI hf
    cases hi : (idx (gk a.l) K).isSome with
    | true => simp; omega
    | false =>
      by_cases hl : a.l.length < 128
      · simp [hl]; omega
      · simp [hl]; omega
/-- what a kind turns by force -/
def hitB (H : List OB) (x : OP) : Bool := hasH H x.o && ((decide (x.kd = 2) && (ownH H x.o (pk x.k)).isSome) || decide (4 < x.kd) || decide (x.kd < 0))
/-- the marks, longer -/
def extS (s : List Bool) (n : Nat) : List Bool := s ++ List.replicate (n - s.length) false
def hitS (H : List OB) (x : OP) (s : List Bool) : List Bool := if hitB H x then s.set x.o.toNat true else s
theorem op_fast {lim : Int} {H : List OB} {x : OP} {s : List Bool} (hI : FastI H) (hl : s.length = H.length + 1) (hs : ∀ i a, H[i]? = some a → s[i + 1]? = some (!a.fast)) :
    FastI (opH lim H x) ∧ (hitS H x (extS s ((opH lim H x).length + 1))).length = (opH lim H x).length + 1 ∧
    ∀ i a, (opH lim H x)[i]? = some a → ∃ b, (hitS H x (extS s ((opH lim H x).length + 1)))[i + 1]? = some b ∧ a.fast = !(b || Big a) := by
  have hext : ∀ n, H.length ≤ n → (extS s (n + 1)).length = n + 1 := fun n hn => by simp [extS]; omega
  have hit_len : ∀ t : List Bool, (hitS H x t).length = t.length := fun t => by unfold hitS; split <;> simp
  have hold : ∀ i a, H[i]? = some a → a.fast = !((!a.fast) || Big a) := fun i a ha => by
    have := hI a (List.mem_of_getElem? ha)
    cases hf : a.fast with
    | false => rfl
    | true => have := this hf; simp [Big]; omega
  have hext0 : extS s (H.length + 1) = s := by simp [extS, hl]
  rcases op_cases lim H x with ⟨h1, h2, h3⟩ | ⟨h1, c, p, h2, _⟩ | ⟨n, a, g, h1, h2, h3, h4, h5, h6⟩
  · have hb : hitB H x = false := by
      unfold hitB
      rcases h3 with h3 | h3
      · rcases h2 with h2 | h2 | h2
        · simp; intro _; omega
        · rw [h2]; simp; intro _; omega
        · rw [h2]; rfl
      · rw [h3]; rfl
    rw [h1, hext0]
    unfold hitS
    rw [hb]
    exact ⟨hI, hl, fun i a ha => ⟨_, hs i a ha, hold i a ha⟩⟩
  · have hb : hitB H x = false := by unfold hitB; simp; intro _; omega
    rw [h2]
    unfold hitS
    rw [hb]
    refine ⟨fun a ha => ?_, by rw [List.length_append, List.length_singleton]; exact hext _ (by omega), fun i a ha => ?_⟩
    · rcases List.mem_append.1 ha with h | h
      · exact hI a h
      · simp at h; subst h; intro _; simp
    · have hlen : (H ++ [(⟨c, p, false, true, []⟩ : OB)]).length + 1 - s.length = 1 := by simp; omega
      unfold extS
      rw [hlen, if_neg (by decide)]
      by_cases hi : i < H.length
      · rw [List.getElem?_append_left hi] at ha
        exact ⟨_, by rw [List.getElem?_append_left (by omega)]; exact hs i a ha, hold i a ha⟩
      · have hi2 : i = H.length := by have := (List.getElem?_eq_some_iff.1 ha).1; simp at this; omega
        subst hi2
        simp at ha
        subst ha
        exact ⟨false, by rw [List.getElem?_append_right (by omega)]; simp [hl], rfl⟩
  · have hn : n - 1 < H.length := (List.getElem?_eq_some_iff.1 h3).1
    have hlen : (opH lim H x).length = H.length := by rw [h5]; simp
    have ht : x.o.toNat = n := by rw [h1]; simp
    have hIa := hI a (List.mem_of_getElem? h3)
    have hsa := hs (n - 1) a h3
    have en : n - 1 + 1 = n := by omega
    rw [en] at hsa
    have hgI : (g a).fast = true → (g a).l.length ≤ 128 := by
      rcases h6 with ⟨_, rfl, _⟩ | ⟨_, rfl, h⟩ | ⟨_, e1, e2⟩ | ⟨_, rfl⟩
      · rw [put_big hIa]
        simp [Big]
      · intro h'
        rw [getL_idx] at h
        unfold dropA at h'
        cases hi : idx (gk a.l) (pk x.k) with
        | none => rw [hi] at h; cases h
        | some j => rw [hi] at h'; cases h'
      · rw [e1, e2]; exact hIa
      · intro h; cases h
    have hga : ∃ b, (hitS H x s)[n]? = some b ∧ (g a).fast = !(b || Big (g a)) := by
      have hlt : n < s.length := by omega
      rcases h6 with ⟨k, rfl, _⟩ | ⟨k, rfl, h⟩ | ⟨k, e1, e2⟩ | ⟨k, rfl⟩
      · refine ⟨!a.fast, ?_, (put_big hIa).trans ?_⟩
        · unfold hitS
          rw [if_neg]
          · exact hsa
          · unfold hitB; simp; intro _; omega
        · cases a.fast <;> simp
      · refine ⟨true, ?_, ?_⟩
        · unfold hitS
          rw [if_pos, ht]
          · rw [List.getElem?_set_self (by omega)]
          · unfold hitB
            rw [h4, h1, own_some h2 h3, h]
            simp [k]
        · rw [getL_idx] at h
          unfold dropA
          cases hi : idx (gk a.l) (pk x.k) with
          | none => rw [hi] at h; cases h
          | some j => rfl
      · refine ⟨!a.fast, ?_, ?_⟩
        · unfold hitS
          rw [if_neg]
          · exact hsa
          · unfold hitB; simp; intro _; omega
        · have : Big (g a) = Big a := by unfold Big; rw [e2]
          rw [e1, this]
          exact hold _ a h3
      · refine ⟨true, ?_, rfl⟩
        unfold hitS
        rw [if_pos, ht]
        · rw [List.getElem?_set_self (by omega)]
        · unfold hitB
          rw [h4]
          simp
          omega
    rw [hlen, hext0, h5]
    refine ⟨fun b hb => ?_, by rw [hit_len, hl], fun i b hb => ?_⟩
    · rcases List.mem_or_eq_of_mem_set hb with h | h
      · exact hI b h
      · subst h; exact hgI
    · rw [List.getElem?_set] at hb
      by_cases hi : n - 1 = i
      · subst hi
        rw [if_pos rfl, if_pos hn] at hb
        injection hb with hb
        subst hb
        rw [en]
        exact hga
      · rw [if_neg hi] at hb
        refine ⟨_, ?_, hold i b hb⟩
        unfold hitS
        split
        · rw [ht, List.getElem?_set_ne (by omega)]; exact hs i b hb
        · exact hs i b hb
/-- never more than the limit -/
theorem op_room {lim : Int} {H : List OB} {x : OP} (h : (usedH H : Int) ≤ lim) : (usedH (opH lim H x) : Int) ≤ lim := by
  rcases op_cases lim H x with ⟨h1, _⟩ | ⟨_, c, p, h2, h3⟩ | ⟨n, a, g, h1, h2, h3, h4, h5, h6⟩
  · rw [h1]; exact h
  · rw [h2]
    have : usedH (H ++ [(⟨c, p, false, true, []⟩ : OB)]) = usedH H + 1 := by simp [usedH]; omega
    omega
  · have e := usedH_set (a' := g a) h3
    rw [h5]
    rcases h6 with ⟨_, rfl, q⟩ | ⟨_, rfl, q⟩ | ⟨_, e1, e2⟩ | ⟨_, rfl⟩
    · have : (putA (pk x.k) x.p a).l.length = if (getL a.l (pk x.k)).isSome then a.l.length else a.l.length + 1 := putL_len _ _ _
      cases hg : (getL a.l (pk x.k)).isSome with
      | true => rw [hg] at this; simp at this; omega
      | false =>
        rw [hg] at this q
        simp at this
        have q : (usedH H : Int) < lim := by rcases q with q | q; cases q; exact q
        omega
    · have := drop_len (pk x.k) a; omega
    · rw [e2] at e; omega
    · have : (forceA a).l = a.l := rfl
      rw [this] at e; omega
/-- the heap after a list's first operations -/
def runO (lim : Int) (l : List OP) : List OB := l.foldl (opH lim) []
theorem run_next {lim : Int} {l : List OP} {i : Nat} {x : OP} (h : l[i]? = some x) : runO lim (l.take (i + 1)) = opH lim (runO lim (l.take i)) x := by
  have hlt : i < l.length := (List.getElem?_eq_some_iff.1 h).1
  have hx : l[i] = x := (List.getElem?_eq_some_iff.1 h).2
  unfold runO
  rw [List.take_succ_eq_append_getElem hlt, List.foldl_append, hx]
  rfl
theorem run_used {lim : Int} {l : List OP} : ∀ {i : Nat}, i ≤ l.length → usedH (runO lim (l.take i)) ≤ i := by
  intro i
  induction i with
  | zero => intro _; simp [runO, usedH]
  | succ i ih =>
    intro h
    have hx : l[i]? = some l[i] := List.getElem?_eq_getElem (by omega)
    rw [run_next hx]
    have := ih (by omega)
    have := op_used lim (runO lim (l.take i)) l[i]
    omega
theorem run_room {lim : Int} (h0 : 0 ≤ lim) {l : List OP} : ∀ {i : Nat}, i ≤ l.length → (usedH (runO lim (l.take i)) : Int) ≤ lim := by
  intro i
  induction i with
  | zero => intro _; simp [runO, usedH]; exact h0
  | succ i ih =>
    intro h
    have hx : l[i]? = some l[i] := List.getElem?_eq_getElem (by omega)
    rw [run_next hx]
    exact op_room (ih (by omega))
end Go.Proofs.YtoccmiinkfhohaaGreat
namespace Go.Proofs.YtoccmiinkfhohaaGreat
open Go.RowKit Go.Shelf Go.Lib Go.Sort Go.Proofs Go.Maps
set_option linter.unusedVariables false
set_option maxHeartbeats 400000
set_option maxRecDepth 8000

def LawS (w0 w : World) (hb rb : Nat) (lim : Int) (B : Nat) (H : List OB) : Prop :=
  ∃ f f2, Two w hb rb lim B H f f2 ∧ Below w0.heap.size w0 w ∧ ∀ r, r < w0.heap.size → f r = 0 ∧ f2 r = 0
section
variable {w0 w w' : World} {hb rb B : Nat} {lim : Int} {H : List OB}
theorem LawS.base (h : LawS w0 w hb rb lim B H) : Below w0.heap.size w0 w := by
  obtain ⟨f, f2, h1, h2, h3⟩ := h
  exact h2
theorem LawS.below (h : LawS w0 w hb rb lim B H) (hb' : Below w.heap.size w w') : LawS w0 w' hb rb lim B H := by
  obtain ⟨f, f2, h1, h2, h3⟩ := h
  exact ⟨f, f2, h1.below hb', h2.trans (hb'.mono h2.size), h3⟩
theorem law_new {w w1 w2 : World} {f f2 : Nat → Nat} (t1 : Turn (fun _ => False) (fun _ => 0) f w w1) (h1 : HeapO w1 f hb lim 0 128 []) (t2 : Turn (fun _ => False) (fun _ => 0) f2 w1 w2) (h2 : RefO w2 f2 rb lim []) : LawS w w2 hb rb lim 128 [] := by
  have b1 : Below w.heap.size w w1 := t1.below (Nat.le_refl _) (fun _ _ h => h)
  have b2 : Below w1.heap.size w1 w2 := t2.below (Nat.le_refl _) (fun _ _ h => h)
  refine ⟨f, f2, ⟨t1.norm.below b2.size, t2.norm, h1.below t1.norm b2, h2, fun r hr => ?_⟩, b1.trans (b2.mono b1.size), fun r hr => ⟨t1.agree r hr, t2.agree r (Nat.lt_of_lt_of_le hr b1.size)⟩⟩
  by_cases hlt : r < w1.heap.size
  · exact absurd (t2.agree r hlt) hr
  · exact t1.norm r (by omega)
theorem LawS.done {f f2 : Nat → Nat} {B' : Nat} {H' : List OB} (h2 : Below w0.heap.size w0 w) (h3 : ∀ r, r < w0.heap.size → f r = 0 ∧ f2 r = 0) (hd : Done w w' hb rb lim B' H' f f2) : LawS w0 w' hb rb lim B' H' := by
  obtain ⟨f', f2', g1, g2⟩ := hd
  refine ⟨f', f2', g1, h2.trans (g2.below h2.size h3), fun r hr => ?_⟩
  obtain ⟨q1, q2⟩ := g2.own r (Nat.lt_of_lt_of_le hr h2.size)
  rw [q1, q2]
  exact h3 r hr
theorem l_new {w1 : World} {f : Nat → Nat} (t1 : Turn (fun _ => False) (fun _ => 0) f w w1) (h1 : HeapO w1 f hb lim 0 128 []) :
    Calls Tryz.prog 8 #[.int .i64 lim] w1 fun e w2 => ∃ rb, e = .returned (.pointer (some ⟨rb, 0, none⟩)) ∧ LawS w w2 hb rb lim 128 [] := by
  refine (c_Rnew (f := fun _ => 0) (fun _ _ => rfl) lim).mono ?_
  rintro e w2 ⟨rb, f2, rfl, t2, h2⟩
  exact ⟨rb, rfl, law_new t1 h1 t2 h2⟩
theorem l_do (h : LawS w0 w hb rb lim B H) (hB1 : 128 ≤ B) (hB : B < 90000) (hu : usedH H ≤ 100000) (x : OP) (hk : okK x.k) :
    Calls Tryz.prog 9 #[.pointer (some ⟨hb, 0, none⟩), .pointer (some ⟨rb, 0, none⟩), .agg (encO x).toArray] w fun e w' => e = .returned (.bool true) ∧ LawS w0 w' hb rb lim (B + 2) (opH lim H x) := by
  obtain ⟨f, f2, h1, h2, h3⟩ := h
  refine (c_do15 h1 hB1 hB hu x hk).mono ?_
  rintro e w' ⟨rfl, hd⟩
  exact ⟨rfl, LawS.done h2 h3 hd⟩
theorem l_Len (h : LawS w0 w hb rb lim B H) (hu : usedH H ≤ 100000) : Calls Tryz.prog 34 #[.pointer (some ⟨hb, 0, none⟩)] w fun e w' => e = .returned (.int .i64 (H.length : Int)) ∧ w' = w := by
  obtain ⟨f, f2, h1, h2, h3⟩ := h
  have := used_len H
  exact c_HLen h1.2.2.1 (by omega)
theorem l_Used (h : LawS w0 w hb rb lim B H) : Calls Tryz.prog 21 #[.pointer (some ⟨hb, 0, none⟩)] w fun e w' => e = .returned (.int .i64 (usedH H : Int)) ∧ w' = w := by
  obtain ⟨f, f2, h1, h2, h3⟩ := h
  exact c_HUsed h1.2.2.1
theorem KeysOf.len {ks Z : List KK} (h : KeysOf ks Z) : Z.length = ks.length := by
  obtain ⟨l, h1, _, h3, _⟩ := h
  rw [h3.len, ← h1, List.length_map]
theorem l_KeysLen (h : LawS w0 w hb rb lim B H) (hB1 : 128 ≤ B) (hB : B ≤ 100000) (m : Nat) (a : OB) (ha : H[m]? = some a) :
    Calls Tryz.prog 19 #[.pointer (some ⟨hb, 0, none⟩), .int .i64 ((m : Int) + 1)] w fun e w' => ∃ p c, e = .returned (.slice p a.l.length c) ∧ Below w.heap.size w w' := by
  obtain ⟨f, f2, h1, h2, h3⟩ := h
  have hc := c_HKeys h1.1 h1.2.2.1 hB1 hB ((m + 1 : Nat) : Int)
  have e : listH H ((m + 1 : Nat) : Int) = a.l := by unfold listH; rw [objH_at (o := m + 1) (by omega) ha]
  rw [e] at hc
  refine hc.mono ?_
  rintro e w' ⟨v, Z, rfl, hr, hk, hb'⟩
  obtain ⟨p, c, rfl, _⟩ := hr.form
  have := hk.len
  rw [this]
  simp only [gk, List.length_map]
  exact ⟨p, c, rfl, hb'⟩
end
/-- the properties of the first objects -/
def sumL (H : List OB) (m : Nat) : Nat := H.length + ((H.take m).map fun a => a.l.length).sum
theorem sumL_next {H : List OB} {m : Nat} {a : OB} (h : H[m]? = some a) : sumL H (m + 1) = sumL H m + a.l.length := by
  have hlt : m < H.length := (List.getElem?_eq_some_iff.1 h).1
  have hx : H[m] = a := (List.getElem?_eq_some_iff.1 h).2
  unfold sumL
  rw [List.take_succ_eq_append_getElem hlt, List.map_append, List.sum_append, hx]
  simp
  omega
theorem sumL_end (H : List OB) : sumL H H.length = usedH H := by
  unfold sumL usedH
  rw [List.take_length]
theorem sumL_le (H : List OB) {m : Nat} (h : m ≤ H.length) : sumL H m ≤ usedH H := by
  rw [← sumL_end]
  unfold sumL
  obtain ⟨d, hd⟩ := Nat.exists_eq_add_of_le h
  rw [hd, List.take_add, List.map_append, List.sum_append]
  omega
end Go.Proofs.YtoccmiinkfhohaaGreat
namespace Go.Proofs.YtoccmiinkfhohaaGreat
open Go.RowKit Go.Shelf Go.Lib Go.Sort Go.Proofs Go.Maps
set_option linter.unusedVariables false
set_option maxHeartbeats 400000
set_option maxRecDepth 8000

theorem infoBoolF : (Tryz.prog.info? 4).map (fun i => (i.zero, i.size, i.bytes)) = some (some (.bool false), 1, 1) := by kernel_rfl
def mks (s : List Bool) : List Value := s.map Value.bool
theorem mks_len (s : List Bool) : (mks s).length = s.length := by simp [mks]
theorem mks_one (s : List Bool) : ∀ u ∈ mks s, u.oneCell' = true := by
  intro u hu
  obtain ⟨b, _, rfl⟩ := List.mem_map.1 hu
  rfl
/-- K: blocks that are neither heap's nor the marks', and what they hold -/
def FastS (K : Nat → Obj → Prop) (w0 w : World) (hb rb : Nat) (lim : Int) (B : Nat) (H : List OB) (sv : Value) (s : List Bool) : Prop :=
  ∃ f f2, Two w hb rb lim B H f f2 ∧ Below w0.heap.size w0 w ∧ (∀ r, r < w0.heap.size → f r = 0 ∧ f2 r = 0) ∧ w.ownsRow w0.heap.size 4 1 sv s.length (mks s) ∧ (∀ k, sv.ownBlock = some k → f k = 0 ∧ f2 k = 0) ∧ ∀ b o, K b o → w.heap[b]? = some o ∧ f b = 0 ∧ f2 b = 0 ∧ sv.ownBlock ≠ some b
section
variable {K : Nat → Obj → Prop} {w0 w w' : World} {hb rb B : Nat} {lim : Int} {H : List OB} {sv : Value} {s : List Bool}
theorem FastS.law (h : FastS K w0 w hb rb lim B H sv s) : LawS w0 w hb rb lim B H := by
  obtain ⟨f, f2, h1, h2, h3, _⟩ := h
  exact ⟨f, f2, h1, h2, h3⟩
theorem FastS.start (h : LawS w0 w hb rb lim B H) : FastS (fun _ _ => False) w0 w hb rb lim B H (.slice none 0 0) [] := by
  obtain ⟨f, f2, h1, h2, h3⟩ := h
  exact ⟨f, f2, h1, h2, h3, ⟨rfl, .inl ⟨rfl, rfl⟩⟩, fun k h => (by cases h), fun _ _ h => h.elim⟩
theorem FastS.forget (h : FastS K w0 w hb rb lim B H sv s) : FastS (fun _ _ => False) w0 w hb rb lim B H sv s := by
  obtain ⟨f, f2, h1, h2, h3, h4, h5, h6⟩ := h
  exact ⟨f, f2, h1, h2, h3, h4, h5, fun _ _ h => h.elim⟩
/-- a block more is watched -/
theorem FastS.watch {b : Nat} {ob : Obj} (h : FastS (fun _ _ => False) w0 w hb rb lim B H sv s) (hb' : Below w.heap.size w w') (hB : b = w.heap.size) (ho : w'.heap[b]? = some ob) : FastS (fun x o => x = b ∧ o = ob) w0 w' hb rb lim B H sv s := by
  obtain ⟨f, f2, h1, h2, h3, h4, h5, h6⟩ := h
  refine ⟨f, f2, h1.below hb', h2.trans (hb'.mono h2.size), h3, own_at h4 (fun r hr => hb'.block r (h4.lt r hr).2), h5, ?_⟩
  rintro x o ⟨rfl, rfl⟩
  exact ⟨ho, h1.1 _ (by omega), h1.2.1 _ (by omega), fun e => by have := (h4.lt _ e).2; omega⟩
theorem FastS.held {b : Nat} {o : Obj} (h : FastS K w0 w hb rb lim B H sv s) (hK : K b o) : w.heap[b]? = some o := by
  obtain ⟨f, f2, h1, h2, h3, h4, h5, h6⟩ := h
  exact (h6 b o hK).1
theorem FastS.below (h : FastS K w0 w hb rb lim B H sv s) (hb' : Below w.heap.size w w') : FastS K w0 w' hb rb lim B H sv s := by
  obtain ⟨f, f2, h1, h2, h3, h4, h5, h6⟩ := h
  refine ⟨f, f2, h1.below hb', h2.trans (hb'.mono h2.size), h3, own_at h4 (fun r hr => hb'.block r (h4.lt r hr).2), h5, fun b o hK => ?_⟩
  obtain ⟨g1, g2⟩ := h6 b o hK
  exact ⟨(hb'.block b (heapH_lt g1)).trans g1, g2⟩
/-- a change of what neither heap owns -/
theorem Two.keep {f f2 : Nat → Nat} (h : Two w hb rb lim B H f f2) (ho : w'.os = w.os) (ht : w'.tape = w.tape) (hp : w'.output = w.output) (hs : w.heap.size ≤ w'.heap.size) {k0 : Nat} (hK : f k0 = 0 ∧ f2 k0 = 0) (hk : ∀ r, r < w.heap.size → r ≠ k0 → w'.heap[r]? = w.heap[r]?) : Two w' hb rb lim B H f f2 := by
  obtain ⟨h1, h2, h3, h4, h5⟩ := h
  have t1 : Turn (fun c => c = 0) f f w w' := ⟨ho, ht, hp, hs, fun _ _ => rfl, h1.below hs, fun r hr hn => hk r hr (fun e => hn (by rw [e]; exact hK.1))⟩
  have t2 : Turn (fun c => c = 0) f2 f2 w w' := ⟨ho, ht, hp, hs, fun _ _ => rfl, h2.below hs, fun r hr hn => hk r hr (fun e => hn (by rw [e]; exact hK.2))⟩
  exact ⟨h1.below hs, h2.below hs, h3.turn t1 (fun _ h => h), h4.turn t2 (fun _ h => h), h5⟩
theorem FastS.done {f f2 : Nat → Nat} {B' : Nat} {H' : List OB} (h2 : Below w0.heap.size w0 w) (h3 : ∀ r, r < w0.heap.size → f r = 0 ∧ f2 r = 0) (h4 : w.ownsRow w0.heap.size 4 1 sv s.length (mks s)) (h5 : ∀ k, sv.ownBlock = some k → f k = 0 ∧ f2 k = 0) (h6 : ∀ b o, K b o → w.heap[b]? = some o ∧ f b = 0 ∧ f2 b = 0 ∧ sv.ownBlock ≠ some b) (hd : Done w w' hb rb lim B' H' f f2) : FastS K w0 w' hb rb lim B' H' sv s := by
  obtain ⟨f', f2', g1, g2⟩ := hd
  refine ⟨f', f2', g1, h2.trans (g2.below h2.size h3), fun r hr => ?_, own_at h4 (fun r hr => g2.block r (h4.lt r hr).2 (h5 r hr).1 (h5 r hr).2), fun k hk => ?_, fun b o hK => ?_⟩
  · obtain ⟨q1, q2⟩ := g2.own r (Nat.lt_of_lt_of_le hr h2.size)
    rw [q1, q2]
    exact h3 r hr
  · obtain ⟨q1, q2⟩ := g2.own k (h4.lt k hk).2
    rw [q1, q2]
    exact h5 k hk
  · obtain ⟨e1, e2, e3, e4⟩ := h6 b o hK
    obtain ⟨q1, q2⟩ := g2.own b (heapH_lt e1)
    exact ⟨(g2.block b (heapH_lt e1) e2 e3).trans e1, q1.trans e2, q2.trans e3, e4⟩
theorem FastS.form (h : FastS K w0 w hb rb lim B H sv s) : ∃ q c, sv = .slice q s.length c ∧ ∀ (i : Nat) b, s[i]? = some b → ∃ g, q = some ⟨g, 0, none⟩ ∧ g < w.heap.size ∧ w.cell? ⟨g, i, none⟩ = some (.bool b) ∧ w.frozen? ⟨g, i, none⟩ = false := by
  obtain ⟨f, f2, h1, h2, h3, h4, h5, h6⟩ := h
  rcases h4.2 with ⟨e, h⟩ | ⟨g, cap, cur, e, r1, hg, _⟩
  · rw [h]; exact ⟨_, _, e, fun i b hb => by have : i < s.length := (List.getElem?_eq_some_iff.1 hb).1; omega⟩
  · refine ⟨_, _, e, fun i b hb => ⟨g, rfl, heapH_lt hg, ?_, by simp [World.frozen?, hg]⟩⟩
    have := h4.cells (g := g) (by rw [e]; rfl) i (.bool b) (by simp [mks, hb])
    rwa [Addr.add_lit, Nat.zero_add] at this
/-- a mark is set -/
theorem FastS.set {g c i : Nat} (h : FastS K w0 w hb rb lim B H (.slice (some ⟨g, 0, none⟩) s.length c) s) : FastS K w0 (w.setCell ⟨g, i, none⟩ (.bool true)) hb rb lim B H (.slice (some ⟨g, 0, none⟩) s.length c) (s.set i true) := by
  obtain ⟨f, f2, h1, h2, h3, h4, h5, h6⟩ := h
  have hk : ∀ r, r ≠ g → (w.setCell ⟨g, i, none⟩ (.bool true)).heap[r]? = w.heap[r]? := fun r hr => Below.heap_setCell _ _ _ _ hr
  have hlt := h4.lt g rfl
  refine ⟨f, f2, h1.keep rfl rfl rfl (by simp) (h5 g rfl) (fun r _ hr => hk r hr), h2.setCell hlt.1 _, h3, ?_, h5, fun b o hK => ?_⟩
  rotate_left
  · obtain ⟨e1, e2⟩ := h6 b o hK
    exact ⟨(hk b (fun e => e2.2.2 (by rw [e]; rfl))).trans e1, e2⟩
  have := row_set h4 i (.bool true)
  rw [List.length_set]
  unfold mks at *
  rw [List.map_set]
  exact this
/-- one mark more -/
theorem FastS.push {w5 : World} {gg cap n : Nat} (h : FastS K w0 w hb rb lim B H sv s) (o : Obj) (hn : n = s.length) (hown : w5.ownsRow w0.heap.size 4 1 (.slice (some ⟨gg, 0, none⟩) (n + 1) cap) (n + 1) (mks s ++ [.bool false])) (hg : (w.alloc o).grownBy w5 sv.ownBlock) (hat : sv.ownBlock = some gg ∨ gg = w.heap.size + 1) :
    FastS K w0 w5 hb rb lim B H (.slice (some ⟨gg, 0, none⟩) (n + 1) cap) (s ++ [false]) := by
  subst hn
  obtain ⟨f, f2, h1, h2, h3, h4, h5, h6⟩ := h
  have hsz : w.heap.size + 1 ≤ w5.heap.size := by have := hg.size; simpa using this
  have hk : ∀ r, r < w.heap.size → sv.ownBlock ≠ some r → w5.heap[r]? = w.heap[r]? := fun r hr hne => by
    rw [hg.block r (by simp; omega) (fun e => hne e.symm), Below.heap_alloc _ _ _ hr]
  have hgg : f gg = 0 ∧ f2 gg = 0 := by
    rcases hat with e | e
    · exact h5 gg e
    · rw [e]; exact ⟨h1.1 _ (by omega), h1.2.1 _ (by omega)⟩
  have h1' : Two w5 hb rb lim B H f f2 := by
    cases e : sv.ownBlock with
    | none => exact h1.below ⟨hg.os, hg.tape, hg.output, by omega, fun r hr => hk r hr (by rw [e]; simp)⟩
    | some k => exact h1.keep hg.os hg.tape hg.output (by omega) (h5 k e) (fun r hr hne => hk r hr (by rw [e]; simp; exact fun h => hne h.symm))
  refine ⟨f, f2, h1', ⟨hg.os.trans h2.os, hg.tape.trans h2.tape, hg.output.trans h2.output, Nat.le_trans h2.size (by omega), fun r hr => ?_⟩, h3, ?_, fun k hk2 => ?_, fun b o hK => ?_⟩
  · rw [hk r (Nat.lt_of_lt_of_le hr h2.size) (fun e => by have := (h4.lt r e).1; omega)]
    exact h2.block r hr
  · have e1 : mks (s ++ [false]) = mks s ++ [.bool false] := by simp [mks]
    rw [e1, List.length_append]
    exact hown
  · injection hk2 with hk2
    have hk3 : gg = k := hk2
    subst hk3
    exact hgg
  · obtain ⟨e1, e2, e3, e4⟩ := h6 b o hK
    have hlt := heapH_lt e1
    refine ⟨(hk b hlt e4).trans e1, e2, e3, fun e => ?_⟩
    injection e with e
    have e' : gg = b := e
    rcases hat with h | h
    · exact e4 (by rw [h, e'])
    · omega
/-- the reference's cells -/
theorem LawS.form (h : LawS w0 w hb rb lim B H) : ∃ g c, w.cell? ⟨rb, 1, none⟩ = some (.slice (some ⟨g, 0, none⟩) (H.length + 1) c) ∧ rb < w.heap.size ∧
    ∀ (m : Nat) a, H[m]? = some a → ∃ q cp, w.cell? ⟨g, (m + 1) * 4 + 3, none⟩ = some (.slice q a.l.length cp) := by
  obtain ⟨f, f2, h1, h2, h3⟩ := h
  obtain ⟨g, c, c0, c1, hl, hr⟩ := h1.2.2.2.1.form
  rw [stp_len] at c1
  refine ⟨g, c, c1, hl.1, fun m a ha => ?_⟩
  obtain ⟨sv, hs, _, _, _, _, hc⟩ := hr (m + 1) (strip a) (by omega) (by rw [Nat.add_sub_cancel, stp_get, ha]; rfl)
  obtain ⟨q, cp, e⟩ := hs.len
  exact ⟨q, cp, by rw [hc, e]; rfl⟩
theorem l_RHas (h : LawS w0 w hb rb lim B H) (o : Int) : Calls Tryz.prog 32 #[.pointer (some ⟨rb, 0, none⟩), .int .i64 o] w fun e w' => e = .returned (.bool (hasH H o)) ∧ w' = w := by
  obtain ⟨f, f2, h1, h2, h3⟩ := h
  have hc := c_RHas h1.2.2.2.1 o
  rw [stp_has] at hc
  exact hc
theorem l_ROwn (h : LawS w0 w hb rb lim B H) (hu : usedH H ≤ 100000) (o : Int) (k : KK) (hk : okK k) : Calls Tryz.prog 14 #[.pointer (some ⟨rb, 0, none⟩), .int .i64 o, .agg #[.string k.1, .int .i64 k.2]] w fun e w' => ∃ P : PV, e = .returned (.tuple #[.agg (encP P).toArray, .bool (ownH H o (pk k)).isSome]) ∧ Below w.heap.size w w' := by
  obtain ⟨f, f2, h1, h2, h3⟩ := h
  have hc := c_ROwn h1.2.1 h1.2.2.2.1 (stp_small hu) o k hk
  rw [stp_own] at hc
  exact hc.mono fun e w' hx => ⟨_, hx.2, hx.1⟩
theorem l_HFast (h : LawS w0 w hb rb lim B H) (m : Nat) (a : OB) (ha : H[m]? = some a) : Calls Tryz.prog 22 #[.pointer (some ⟨hb, 0, none⟩), .int .i64 ((m : Int) + 1)] w fun e w' => e = .returned (.bool a.fast) ∧ w' = w := by
  obtain ⟨f, f2, h1, h2, h3⟩ := h
  exact c_HFast1 h1.2.2.1 (m + 1) a (by omega) ha
theorem l_doF (h : FastS K w0 w hb rb lim B H sv s) (hB1 : 128 ≤ B) (hB : B < 90000) (hu : usedH H ≤ 100000) (x : OP) (hk : okK x.k) :
    Calls Tryz.prog 9 #[.pointer (some ⟨hb, 0, none⟩), .pointer (some ⟨rb, 0, none⟩), .agg (encO x).toArray] w fun e w' => e = .returned (.bool true) ∧ FastS K w0 w' hb rb lim (B + 2) (opH lim H x) sv s := by
  obtain ⟨f, f2, h1, h2, h3, h4, h5, h6⟩ := h
  refine (c_do15 h1 hB1 hB hu x hk).mono ?_
  rintro e w' ⟨rfl, hd⟩
  exact ⟨rfl, FastS.done h2 h3 h4 h5 h6 hd⟩
end
end Go.Proofs.YtoccmiinkfhohaaGreat
namespace Go.Proofs.YtoccmiinkfhohaaGreat
open Go.RowKit Go.Shelf Go.Lib Go.Sort Go.Proofs Go.Maps
set_option linter.unusedVariables false
set_option maxHeartbeats 4000000
set_option maxRecDepth 100000

def clsV (H : List OB) (o : Int) : Int := match objH H o with | some a => a.cls | none => 0
def proV (H : List OB) (o : Int) : Int := match objH H o with | some a => a.pro | none => 0
def opnV (H : List OB) (o : Int) : Bool := match objH H o with | some a => !a.shut | none => false
theorem clsV_stp (H : List OB) (o : Int) : clsV (stp H) o = clsV H o := by unfold clsV; rw [stp_obj]; cases objH H o <;> rfl
theorem proV_stp (H : List OB) (o : Int) : proV (stp H) o = proV H o := by unfold proV; rw [stp_obj]; cases objH H o <;> rfl
theorem opnV_stp (H : List OB) (o : Int) : opnV (stp H) o = opnV H o := by unfold opnV; rw [stp_obj]; cases objH H o <;> rfl
section
variable {w0 w w' : World} {hb rb B : Nat} {lim : Int} {H : List OB}
theorem l_RUsed (h : LawS w0 w hb rb lim B H) (hu : usedH H ≤ 100000) : Calls Tryz.prog 33 #[.pointer (some ⟨rb, 0, none⟩)] w fun e w' => e = .returned (.int .i64 (usedH H : Int)) ∧ Below w.heap.size w w' := by
  obtain ⟨f, f2, h1, h2, h3⟩ := h
  have hc := c_RUsed h1.2.2.2.1 (by rw [stp_used]; exact hu)
  rw [stp_used] at hc
  exact hc
theorem l_HHas (h : LawS w0 w hb rb lim B H) (o : Int) : Calls Tryz.prog 35 #[.pointer (some ⟨hb, 0, none⟩), .int .i64 o] w fun e w' => e = .returned (.bool (hasH H o)) ∧ w' = w := by
  obtain ⟨f, f2, h1, h2, h3⟩ := h
  exact c_HHas h1.2.2.1 o
theorem l_HClass (h : LawS w0 w hb rb lim B H) (o : Int) : Calls Tryz.prog 36 #[.pointer (some ⟨hb, 0, none⟩), .int .i64 o] w fun e w' => e = .returned (.int .i64 (clsV H o)) ∧ w' = w := by
  obtain ⟨f, f2, h1, h2, h3⟩ := h
  exact c_HClass h1.2.2.1 o
theorem l_RClass (h : LawS w0 w hb rb lim B H) (o : Int) : Calls Tryz.prog 37 #[.pointer (some ⟨rb, 0, none⟩), .int .i64 o] w fun e w' => e = .returned (.int .i64 (clsV H o)) ∧ w' = w := by
  obtain ⟨f, f2, h1, h2, h3⟩ := h
  rw [← clsV_stp]
  exact c_RClass h1.2.2.2.1 o
theorem l_HProto (h : LawS w0 w hb rb lim B H) (o : Int) : Calls Tryz.prog 38 #[.pointer (some ⟨hb, 0, none⟩), .int .i64 o] w fun e w' => e = .returned (.int .i64 (proV H o)) ∧ w' = w := by
  obtain ⟨f, f2, h1, h2, h3⟩ := h
  exact c_HProto h1.2.2.1 o
theorem l_RProto (h : LawS w0 w hb rb lim B H) (o : Int) : Calls Tryz.prog 39 #[.pointer (some ⟨rb, 0, none⟩), .int .i64 o] w fun e w' => e = .returned (.int .i64 (proV H o)) ∧ w' = w := by
  obtain ⟨f, f2, h1, h2, h3⟩ := h
  rw [← proV_stp]
  exact c_RProto h1.2.2.2.1 o
theorem l_HOpen (h : LawS w0 w hb rb lim B H) (o : Int) : Calls Tryz.prog 40 #[.pointer (some ⟨hb, 0, none⟩), .int .i64 o] w fun e w' => e = .returned (.bool (opnV H o)) ∧ w' = w := by
  obtain ⟨f, f2, h1, h2, h3⟩ := h
  exact c_HOpen h1.2.2.1 o
theorem l_ROpen (h : LawS w0 w hb rb lim B H) (o : Int) : Calls Tryz.prog 41 #[.pointer (some ⟨rb, 0, none⟩), .int .i64 o] w fun e w' => e = .returned (.bool (opnV H o)) ∧ w' = w := by
  obtain ⟨f, f2, h1, h2, h3⟩ := h
  rw [← opnV_stp]
  exact c_ROpen h1.2.2.2.1 o
theorem l_HKeys (h : LawS w0 w hb rb lim B H) (hB1 : 128 ≤ B) (hB : B ≤ 100000) (o : Int) : Calls Tryz.prog 19 #[.pointer (some ⟨hb, 0, none⟩), .int .i64 o] w fun e w' => ∃ v Z, e = .returned v ∧ RdK w' v Z ∧ KeysOf (gk (listH H o)) Z ∧ Below w.heap.size w w' := by
  obtain ⟨f, f2, h1, h2, h3⟩ := h
  exact c_HKeys h1.1 h1.2.2.1 hB1 hB o
theorem l_RKeys (h : LawS w0 w hb rb lim B H) (hu : usedH H ≤ 100000) (o : Int) : Calls Tryz.prog 43 #[.pointer (some ⟨rb, 0, none⟩), .int .i64 o] w fun e w' => ∃ v Z, e = .returned v ∧ RdK w' v Z ∧ KeysOf (gk (listH H o)) Z ∧ Below w.heap.size w w' := by
  obtain ⟨f, f2, h1, h2, h3⟩ := h
  have hc := c_RKeys h1.2.2.2.1 (stp_small hu) o
  rw [stp_list] at hc
  exact hc
/-- what both tell of a key -/
theorem l_HOwnV (h : LawS w0 w hb rb lim B H) (o : Int) (k : KK) (hk : okK k) : Calls Tryz.prog 44 #[.pointer (some ⟨hb, 0, none⟩), .int .i64 o, .agg #[.string k.1, .int .i64 k.2]] w fun e w' => e = .returned (.tuple #[.agg (encP ((ownH H o (pk k)).getD zeroPV)).toArray, .bool (ownH H o (pk k)).isSome]) ∧ Below w.heap.size w w' := by
  obtain ⟨f, f2, h1, h2, h3⟩ := h
  exact (c_HOwn h1.1 h1.2.2.1 o k hk).mono fun e w' hx => ⟨hx.2, hx.1⟩
theorem l_ROwnV (h : LawS w0 w hb rb lim B H) (hu : usedH H ≤ 100000) (o : Int) (k : KK) (hk : okK k) : Calls Tryz.prog 14 #[.pointer (some ⟨rb, 0, none⟩), .int .i64 o, .agg #[.string k.1, .int .i64 k.2]] w fun e w' => e = .returned (.tuple #[.agg (encP ((ownH H o (pk k)).getD zeroPV)).toArray, .bool (ownH H o (pk k)).isSome]) ∧ Below w.heap.size w w' := by
  obtain ⟨f, f2, h1, h2, h3⟩ := h
  have hc := c_ROwn h1.2.1 h1.2.2.2.1 (stp_small hu) o k hk
  rw [stp_own] at hc
  exact hc.mono fun e w' hx => ⟨hx.2, hx.1⟩
end
theorem KeysOf.ok {ks Z : List KK} (h : KeysOf ks Z) : ∀ x ∈ Z, okK x := by
  obtain ⟨l, h1, h2, h3, h4⟩ := h
  exact h4
/-- a property of nothing -/
def zeroQ : Array Value := #[.int .i64 0, .float .f64 0, .string ⟨#[]⟩, .int .i64 0, .int .i64 0, .float .f64 0, .string ⟨#[]⟩, .int .i64 0, .int .i64 0, .float .f64 0, .string ⟨#[]⟩, .int .i64 0, .int .i64 0]
theorem zeroQ_there (w : World) : (w.alloc (.cells zeroQ 36)).there w.heap.size 0 13 := there_of (heap_alloc_new w _) (Nat.le_refl 13)
theorem zeroQ_set (w : World) (P : PV) : Below w.heap.size w ((w.alloc (.cells zeroQ 36)).setCells w.heap.size 0 (encP P)) ∧ ((w.alloc (.cells zeroQ 36)).setCells w.heap.size 0 (encP P)).heap[w.heap.size]? = some (.cells (encP P).toArray 36 (0, 0)) := by
  obtain ⟨h1, h2, _⟩ := fresh_set (w := w) (o := zeroQ) (t := 36) (vs := encP P) rfl
  exact ⟨h1, h2⟩
theorem c_same15 {w0 w : World} {hb rb B : Nat} {lim : Int} {H : List OB} (h : LawS w0 w hb rb lim B H) (hB1 : 128 ≤ B) (hB : B ≤ 100000) (hu : usedH H ≤ 1000) :
    Calls Tryz.prog 10 #[.pointer (some ⟨hb, 0, none⟩), .pointer (some ⟨rb, 0, none⟩)] w fun e w' => e = .returned (.bool true) ∧ Below w.heap.size w w' := by
  have hL := fun (y : World) (hy : Below w.heap.size w y) => h.below hy
  obtain ⟨gR, cR, c1, lR, _⟩ := h.form
  have hHl := used_len H
  have hst := onto_drew w
  have hLd : LawS w0 w.drew hb rb lim B H := h.below (Below.refl _ w).drew
  replace hL := Lib.hid hL
  have c1w := Lib.hid c1
  clear h
  have u1 : IntKind.i64.wrap (H.length : Int) = (H.length : Int) := by rw [IntKind.wrap_i64]; omega
  go_enter Tryz.func10, Tryz.ntmps10
  go_wp2_with fail
  go_region_held3 (fun y => (∀ a : Addr, a.block < w.heap.size → y.cell? a = w.cell? a) ∧ (∀ b : Nat, b < w.heap.size → y.heap[b]? = w.heap[b]?) ∧ Below w.heap.size w y) (first | with_reducible assumption | with_reducible exact hst | with_reducible exact onto_below (by assumption) (by assumption)) (first | (go_at_call 21; refine (l_Used hLd).mono ?_; rintro e y1 ⟨rfl, rfl⟩) | (go_at_call 33; refine (l_RUsed hLd (by omega)).mono ?_; rintro e y2 ⟨rfl, hb2⟩; have hL2 := hLd.below hb2) | (go_at_call 34; refine (l_Len hL2 (by omega)).mono ?_; rintro e y3 ⟨rfl, rfl⟩))
  have hb3 := Lib.hid ((Below.refl w.heap.size w).drew.trans (hb2.mono (Nat.le_refl _)))
  obtain ⟨W3, rfl⟩ : ∃ W3, W3 = y3 := ⟨_, rfl⟩
  clear hst hLd hL2 hb2 c1
  go_wp2_with fail
  go_loopw [5] (fun vo wr => ∃ m : Nat, m ≤ H.length + 3 ∧ vo = .int .i64 ((m : Int) - 1) ∧ Below w.heap.size w wr) (fun vo _ => H.length + 3 - (intOf vo + 1).toNat)
  case atStart => exact ⟨0, by omega, by simp, hb3.out⟩
  case round =>
    obtain ⟨m, hm, rfl, hbel⟩ := hrel
    obtain ⟨W4, rfl⟩ : ∃ W4, W4 = wr := ⟨_, rfl⟩
    have c1 := (hbel.cell (p := ⟨rb, 1, none⟩) lR).trans c1w.out
    rcases Nat.lt_or_ge m (H.length + 3) with hlt | hge
    · have hle : (m : Int) - 1 ≤ (H.length : Int) + 1 := by omega
      have hL4 := hL.out _ hbel
      have hHas := l_HHas hL4 ((m : Int) - 1)
      have hRHas := l_RHas hL4 ((m : Int) - 1)
      have hCls := l_HClass hL4 ((m : Int) - 1)
      have hRCls := l_RClass hL4 ((m : Int) - 1)
      have hPro := l_HProto hL4 ((m : Int) - 1)
      have hRPro := l_RProto hL4 ((m : Int) - 1)
      have hOpn := l_HOpen hL4 ((m : Int) - 1)
      have hROpn := l_ROpen hL4 ((m : Int) - 1)
      have hKs := l_HKeys hL4 hB1 hB ((m : Int) - 1)
      have hRKs := fun (y : World) (hy : LawS w0 y hb rb lim B H) => l_RKeys hy (by omega) ((m : Int) - 1)
      have hOw := fun (y : World) (hy : LawS w0 y hb rb lim B H) (k : KK) (hk : okK k) => l_HOwnV hy ((m : Int) - 1) k hk
      have hROw := fun (y : World) (hy : LawS w0 y hb rb lim B H) (k : KK) (hk : okK k) => l_ROwnV hy (by omega) ((m : Int) - 1) k hk
      have hlK : (gk (listH H ((m : Int) - 1))).length ≤ 100000 := by
        unfold listH gk
        rcases objH_cases H ((m : Int) - 1) with ⟨_, h2⟩ | ⟨n, a, _, _, ha, h3, _⟩
        · rw [h2]; simp
        · rw [h3, List.length_map]
          have := len_used (List.mem_of_getElem? ha)
          show a.l.length ≤ _
          omega
      generalize hz : (m : Int) - 1 = z at *
      generalize hasH H z = vB at *
      generalize clsV H z = vC at *
      generalize proV H z = vP at *
      generalize opnV H z = vO at *
      generalize gk (listH H z) = ks at *
      replace hHas := Lib.hid hHas
      replace hRHas := Lib.hid hRHas
      replace hCls := Lib.hid hCls
      replace hRCls := Lib.hid hRCls
      replace hPro := Lib.hid hPro
      replace hRPro := Lib.hid hRPro
      replace hOpn := Lib.hid hOpn
      replace hROpn := Lib.hid hROpn
      replace hKs := Lib.hid hKs
      replace hRKs := Lib.hid hRKs
      replace hOw := Lib.hid hOw
      replace hROw := Lib.hid hROw
      have z1 : -1 ≤ z := by omega
      have z2 : z ≤ 100000 := by omega
      have hz' := Lib.hid hz
      clear hz
      go_wp2_with (first | (go_at_call 35; refine hHas.out.mono ?_; rintro e y ⟨rfl, rfl⟩) | (go_at_call 32; refine hRHas.out.mono ?_; rintro e y ⟨rfl, rfl⟩) | (go_at_call 36; refine hCls.out.mono ?_; rintro e y ⟨rfl, rfl⟩) | (go_at_call 37; refine hRCls.out.mono ?_; rintro e y ⟨rfl, rfl⟩) | (go_at_call 38; refine hPro.out.mono ?_; rintro e y ⟨rfl, rfl⟩) | (go_at_call 39; refine hRPro.out.mono ?_; rintro e y ⟨rfl, rfl⟩) | (go_at_call 40; refine hOpn.out.mono ?_; rintro e y ⟨rfl, rfl⟩) | (go_at_call 41; refine hROpn.out.mono ?_; rintro e y ⟨rfl, rfl⟩) | (go_at_call 19; refine hKs.out.mono ?_; rintro e y5 ⟨v5, Z5, rfl, hr5, hk5, hb5⟩; have hL5 := hL4.below hb5) | (go_at_call 43; refine (hRKs.out _ hL5).mono ?_; rintro e y6 ⟨v6, Z6, rfl, hr6, hk6, hb6⟩; have hL6 := hL5.below hb6; clear hL5) | (go_at_call 42; refine (c_SameKeys (hr5.keep hb6) hr6 (hk5.alike hk6) hk5.ok hk6.ok (by rw [hk5.len]; omega)).mono ?_; rintro e y7 ⟨rfl, hb7⟩; have hL7 := hL6.below hb7; clear hL6) | (go_at_call 43; refine (hRKs.out _ hL7).mono ?_; rintro e y8 ⟨v8, Z8, rfl, hr8, hk8, hb8⟩; have hL8 := hL7.below hb8; obtain ⟨p8, c8, rfl, _, hc8, hcell8⟩ := hr8.form))
      have hb57 := hbel.trans (hb5.mono hbel.size)
      have hb67 := hb57.trans (hb6.mono hb57.size)
      have hb77 := hb67.trans (hb7.mono hb67.size)
      have hB8 := Lib.hid (hb77.trans (hb8.mono hb77.size))
      have hok8 := Lib.hid hk8.ok
      have hZ8 : Z8.length ≤ 100000 := by rw [hk8.len]; exact hlK
      replace hcell8 := Lib.hid hcell8
      replace hL8 := Lib.hid hL8
      obtain ⟨W8, rfl⟩ : ∃ W8, W8 = y8 := ⟨_, rfl⟩
      clear hr5 hk5 hb5 hr6 hk6 hb6 hb7 hr8 hk8 hb8 hb57 hb67 hb77 hL4 hL7 hKs hRKs hHas hRHas hCls hRCls hPro hRPro hOpn hROpn hlK c1
      go_loopw [85] (fun vj wr => ∃ j : Nat, j ≤ Z8.length ∧ vj = .int .i64 (j : Int) ∧ Below W8.heap.size W8 wr) (fun vj _ => Z8.length - (intOf vj).toNat)
      case atStart => exact ⟨0, by omega, rfl, Below.refl _ _⟩
      case round =>
        obtain ⟨j, hj, rfl, hbj⟩ := hrel
        obtain ⟨W9, rfl⟩ : ∃ W9, W9 = wr := ⟨_, rfl⟩
        rcases Nat.lt_or_ge j Z8.length with hlj | hgj
        · obtain ⟨x, hx⟩ : ∃ x, Z8[j]? = some x := ⟨_, List.getElem?_eq_getElem hlj⟩
          obtain ⟨bk, ok8, rfl, lk8, hy8⟩ := hcell8.out j x hx
          obtain ⟨d1, d2⟩ := hy8 W9 hbj
          have hokx := hok8.out x (List.mem_of_getElem? hx)
          have q1 : (0 : Int) ≤ (j : Int) := by omega
          have q2 : (j : Int) < (Z8.length : Int) := by omega
          have hL9 := hL8.out.below hbj
          have hOx := fun y hy => hOw.out y hy x hokx
          have hROx := fun y hy => hROw.out y hy x hokx
          obtain ⟨x0, xn⟩ := x
          dsimp only at *
          generalize (ownH H z (pk (x0, xn))).getD zeroPV = P at *
          generalize (ownH H z (pk (x0, xn))).isSome = bI at *
          have hSP := v_SameProp P
          unfold propV encP at hSP
          have hi13 : (Tryz.prog.info? 36).map (·.size) = some (encP P).toArray.size := infoProp
          have hi13l : (Tryz.prog.info? 36).map (·.size) = some (encP P).length := infoProp
          have ho13 := all_oneCell_toArray (encP_one P)
          have hq := fun (y : World) => zeroQ_set y P
          have hth := fun (y : World) => (zeroQ_there y : (y.alloc (.cells zeroQ 36)).there y.heap.size 0 (encP P).toArray.size)
          replace hOx := Lib.hid hOx
          replace hROx := Lib.hid hROx
          replace hSP := Lib.hid hSP
          replace hq := Lib.hid hq
          replace hbj := Lib.hid hbj
          obtain ⟨W10, hW10⟩ : ∃ W10, W9.alloc (.cells #[.string x0, .int .i64 xn] 31) = W10 := ⟨_, rfl⟩
          have hb10 : Below W9.heap.size W9 W10 := by rw [← hW10]; exact (Below.refl _ _).alloc (Nat.le_refl _) _
          have d10 : W10.heap[W9.heap.size]? = some (.cells #[.string x0, .int .i64 xn] 31 (0, 0)) := by rw [← hW10]; exact heap_alloc_new W9 _
          have hkc : ∀ y, Below W10.heap.size W10 y → y.cell? ⟨W9.heap.size, 0, none⟩ = some (.string x0) ∧ y.cell? ⟨W9.heap.size, 1, none⟩ = some (.int .i64 xn) := fun y hy => by
            have h1 := (hy.block _ (heapH_lt d10)).trans d10
            exact ⟨by rw [cell_of_row _ _ 0 _ _ _ h1]; rfl, by rw [cell_of_row _ _ 1 _ _ _ h1]; rfl⟩
          obtain ⟨kc0, kc1⟩ := hkc W10 (Below.refl _ _)
          have hL10 := hL9.below hb10
          replace hkc := Lib.hid hkc
          replace hb10 := Lib.hid hb10
          have tokD : True := trivial
          have tokE : True := trivial
          clear hx hy8 d10 hL9 hokx
          go_wp2_with (first | (go_at_call 44; refine (hOx.out _ hL10).mono ?_; rintro e y11 ⟨rfl, hb11⟩; have hth11 := hth y11; obtain ⟨hq1, hq2⟩ := hq.out y11; clear kc0 kc1) | (clear tokD; refine wpList_store_mid rfl 36 (.tmp 8) (.tmp 94) rfl y11.heap.size 0 (encP P).toArray rfl rfl hth11 hi13 ho13 ?_; generalize hW12 : World.setCells _ _ _ _ = W12; rw [show (y11.alloc (.cells zeroQ 36)).setCells y11.heap.size 0 (encP P) = W12 from hW12] at hq1 hq2; clear hW12 hth11; have hb12 := hb11.trans (hq1.mono hb11.size); have hL12 := (hL10.below hb11).below hq1; obtain ⟨kc0, kc1⟩ := hkc.out W12 hb12) | (go_at_call 14; refine (hROx.out _ hL12).mono ?_; rintro e y13 ⟨rfl, hb13⟩; have hth13 := hth y13; obtain ⟨hq3, hq4⟩ := hq.out y13; clear kc0 kc1) | (clear tokE; refine wpList_store_mid rfl 36 (.tmp 10) (.tmp 101) rfl y13.heap.size 0 (encP P).toArray rfl rfl hth13 hi13 ho13 ?_; generalize hW14 : World.setCells _ _ _ _ = W14; rw [show (y13.alloc (.cells zeroQ 36)).setCells y13.heap.size 0 (encP P) = W14 from hW14] at hq3 hq4; clear hW14 hth13; have hb14 := hb13.trans (hq3.mono hb13.size); obtain ⟨a0, a1, a2, a3, a4, a5, a6, a7, a8, a9, a10, a11, a12⟩ := cells13 ((hb14.block _ (heapH_lt hq2)).trans hq2); obtain ⟨s0, s1, s2, s3, s4, s5, s6, s7, s8, s9, s10, s11, s12⟩ := cells13 hq4) | (go_at_call 15; refine (hSP.out _).mono ?_; rintro e y15 ⟨rfl, hb15⟩))
          have hfinj := hbj.out.trans ((hb10.out.trans ((hb12.trans ((hb14.trans (hb15.mono hb14.size)).mono hb12.size)).mono hb10.out.size)).mono hbj.out.size)
          exact ⟨⟨j + 1, by omega, by go_num, hfinj⟩, by simp [intOf]; omega⟩
        · obtain rfl : j = Z8.length := by omega
          clear hj hgj
          go_wp2_with fail
          have hzz := hz'.out
          exact ⟨⟨m + 1, by omega, by congr 1; omega, hB8.out.trans (hbj.mono hB8.out.size)⟩, by simp [intOf]; omega⟩
    · obtain rfl : m = H.length + 3 := by omega
      have hle : ¬ (((H.length + 3 : Nat) : Int) - 1 ≤ (H.length : Int) + 1) := by omega
      clear hm hge
      go_wp2
      go_ret
      exact ⟨rfl, hbel⟩
end Go.Proofs.YtoccmiinkfhohaaGreat
namespace Go.Proofs.YtoccmiinkfhohaaGreat
open Go.RowKit Go.Shelf Go.Lib Go.Sort Go.Proofs Go.Maps
set_option linter.unusedVariables false
set_option maxHeartbeats 4000000
set_option maxRecDepth 100000

theorem c_HeapDoes (lim : Int) (v : Value) (l : List OP) (hs : fewO l l.length ≤ 4194304) (hz : ∀ x ∈ l, (x.k.1.size ≤ 4194304 ∧ x.p.v.s.size ≤ 4194304) ∧ okK x.k) (w : World) (h : RdO w v l) :
    Calls Tryz.prog 3 #[.int .i64 lim, v] w fun e w' => e = .returned (.bool true) ∧ Below w.heap.size w w' := by
  obtain ⟨p, c, rfl, hlc, hL⟩ := h.form
  have hfew := fun (y : World) (hy : Below w.heap.size w y) => c_few15 (.slice p l.length c) l hs (fun x hx => (hz x hx).1) y (by
    rcases h with ⟨h1, h2⟩ | ⟨p', c', h1, h2, h3⟩
    · exact .inl ⟨h1, h2⟩
    · refine .inr ⟨p', c', h1, h2, fun k x hx => ?_⟩
      obtain ⟨g1, g2⟩ := h3 k x hx
      exact ⟨g1, range_at g2 (hy.block _ (by have := cell_lt (g2 0 _ rfl); exact this))⟩)
  have hlen : l.length ≤ fewO l l.length := Nat.le_add_right _ _
  replace hfew := Lib.hid hfew
  replace hL := Lib.hid hL
  replace hz := Lib.hid hz
  clear h
  cases hd : decide (fewO l l.length ≤ 300) with
  | false =>
    rw [hd] at hfew
    clear hd
    go_enter Tryz.func3, Tryz.ntmps3
    go_wp2_with (first | (go_at_call 5; refine (c_awake15 _).mono ?_; rintro e w1 ⟨rfl, hb1⟩) | (go_at_call 6; refine (hfew.out _ hb1).mono ?_; rintro e w2 ⟨rfl, hb2⟩))
    go_ret
    exact ⟨rfl, hb1.trans (hb2.mono hb1.size)⟩
  | true =>
    rw [hd] at hfew
    have hl3 : l.length ≤ 300 := Nat.le_trans hlen (of_decide_eq_true hd)
    clear hd hlen hs
    go_enter Tryz.func3, Tryz.ntmps3
    go_wp2_with (first | (go_at_call 5; refine (c_awake15 _).mono ?_; rintro e w1 ⟨rfl, hb1⟩) | (go_at_call 6; refine (hfew.out _ hb1).mono ?_; rintro e w2 ⟨rfl, hb2⟩) | (go_at_call 7; refine (c_Hnew (f := fun _ => 0) (fun _ _ => rfl) lim).mono ?_; rintro e w3 ⟨hb, f1, rfl, t1, h1⟩; unfold ptrV) | (go_at_call 8; refine (l_new t1 h1).mono ?_; rintro e w4 ⟨rb, rfl, hS⟩))
    have hB2 := hb1.trans (hb2.mono hb1.size)
    replace hB2 := Lib.hid hB2
    replace hS := Lib.hid hS
    clear t1 h1 hb1 hb2 hfew
    obtain ⟨W2, rfl⟩ : ∃ W2, W2 = w2 := ⟨_, rfl⟩
    go_loopw [20] (fun vi wr => ∃ i : Nat, i ≤ l.length ∧ vi = .int .i64 (i : Int) ∧ LawS W2 wr hb rb lim (128 + 2 * i) (runO lim (l.take i))) (fun vi _ => l.length - (intOf vi).toNat)
    case atStart => exact ⟨0, by omega, rfl, hS.out⟩
    case round =>
      obtain ⟨i, hi, rfl, hT⟩ := hrel
      rcases Nat.lt_or_ge i l.length with hlt | hge
      · obtain ⟨x, hx⟩ : ∃ x, l[i]? = some x := ⟨_, List.getElem?_eq_getElem hlt⟩
        obtain ⟨b, o, rfl, lb, hrg⟩ := hL.out i x hx
        replace hrg := hrg wr (hB2.out.trans (hT.base.mono hB2.out.size))
        have hi18 : (Tryz.prog.info? 38).map (·.size) = some (encO x).length := infoOp
        have hj18 : (Tryz.prog.info? 38).map (·.size) = some (encO x).toArray.size := infoOp
        have ho18 := all_oneCell_toArray (encO_one x)
        have q1 : (0 : Int) ≤ (i : Int) := by omega
        have q2 : (i : Int) < (l.length : Int) := by omega
        obtain ⟨hfb, hfh⟩ := fresh_cellsO (w := wr) x
        have hrg2 := range_of_block hfh
        have hth : (wr.alloc (.cells zeroO 38)).there wr.heap.size 0 (encO x).toArray.size := zeroO_there wr
        have hu0 := run_used (lim := lim) (l := l) (i := i) hi
        have hu1 := run_used (lim := lim) (l := l) (i := i + 1) hlt
        have hnx := run_next (lim := lim) hx
        have hdo := fun (y : World) (hy : LawS W2 y hb rb lim (128 + 2 * i) (runO lim (l.take i))) => l_do hy (by omega) (by omega) (by omega) x (hz.out x (List.mem_of_getElem? hx)).2
        rw [← hnx] at hdo
        replace hdo := Lib.hid hdo
        replace hfb := Lib.hid hfb
        replace hT := Lib.hid hT
        clear hx hfh hnx
        generalize encO x = E at *
        generalize hH' : runO lim (l.take (i + 1)) = H' at *
        replace hH' := Lib.hid hH'
        have tokA : True := trivial
        have tokB : True := trivial
        have tokC : True := trivial
        go_wp2_with (first | (clear tokA; refine wpList_load_mid rfl 38 (.tmp 22) rfl b (o + i * 18) rfl E _ hrg Tryz.underlying38 rfl hi18 ?_) | (clear tokB; refine wpList_store_mid rfl 38 (.tmp 8) (.tmp 23) rfl wr.heap.size 0 E.toArray rfl rfl hth hj18 ho18 ?_; generalize hW4 : World.setCells _ _ _ _ = W4; rw [show (wr.alloc (.cells zeroO 38)).setCells wr.heap.size 0 E = W4 from hW4] at hfb hrg2; clear hW4 hth hrg; have hT4 := hT.out.below hfb.out) | (clear tokC; refine wpList_load_mid rfl 38 (.tmp 8) rfl wr.heap.size 0 rfl E _ hrg2 Tryz.underlying38 rfl hi18 ?_; clear hrg2) | (go_at_call 9; refine (hdo.out _ hT4).mono ?_; rintro e w5 ⟨rfl, hT5⟩))
        exact ⟨⟨i + 1, by omega, by go_num, by rw [hH'.out]; exact hT5⟩, by simp [intOf]; omega⟩
      · obtain rfl : i = l.length := by omega
        have hu := run_used (lim := lim) (l := l) (i := l.length) (Nat.le_refl _)
        have hSm := fun (y : World) (hy : LawS W2 y hb rb lim (128 + 2 * l.length) (runO lim (l.take l.length))) => c_same15 hy (by omega) (by omega) (by omega)
        replace hSm := Lib.hid hSm
        clear hi hge
        go_wp2_with (go_at_call 10; refine (hSm.out _ hT).mono ?_; rintro e w9 ⟨rfl, hb9⟩)
        go_ret
        have hB := hB2.out.trans (hT.base.mono hB2.out.size)
        exact ⟨rfl, hB.trans (hb9.mono hB.size)⟩
end Go.Proofs.YtoccmiinkfhohaaGreat
