/-
  Contracts: The contracts of object.has, refused (a value alone over what may be written). The contract of object.Merge: all of a description over nothing; a value alone over what may be written. Lengths as floats: small whole numbers. An array's keys: the first indices, and length. A range over a function whose rounds turn blocks that were there; the loop's own block is turned by nobody else. The reference's SameProp: a property is like itself. The contract of the iterator slices.Values over values. The contracts of array's small functions: name, number, whole, index, all; math.Trunc. The contracts of array.Length and object.Define over a heap of one array.
-/
import Derived.Test.YtkbohoolnpaleaaGreatDoorW15
import Derived.Deep.Cut
import Derived.Deep.QuietTactic
import Derived.BigQuiet
import Derived.Laws.Externs
import Derived.Test.YtkbohoolnpaleaaGreatDoorW6
import Derived.Test.YtkbohoolnpaleaaGreatDoorW4
import Derived.Test.YtkbohoolnpaleaaGreatDoorW10
import Derived.Test.YtkbohoolnpaleaaGreatDoorW13
import Derived.Test.YtkbohoolnpaleaaGreatDoorW3
import Derived.Laws.FloatArith
import Derived.OrdersHeld
namespace Go.Proofs.YtkbohoolnpaleaaGreatDoor
open Go.RowKit Go.Shelf Go.Lib Go.Sort Go.Proofs Go.Maps
set_option linter.unusedVariables false
set_option maxHeartbeats 1000000
set_option maxRecDepth 100000

def encD (has : Int) (D : PV) : List Value := .int .i64 has :: encP D
def descV (has : Int) (D : PV) : Value := .agg (encD has D).toArray
theorem cellsP {y : World} {b : Nat} {t : TypeId} {P : PV} (h : y.heap[b]? = some (.cells (encP P).toArray t (0, 0))) :
    (y.cell? ⟨b, 0, none⟩ = some (.int .i64 P.v.k) ∧ y.cell? ⟨b, 1, none⟩ = some (.float .f64 P.v.x) ∧ y.cell? ⟨b, 2, none⟩ = some (.string P.v.s) ∧ y.cell? ⟨b, 3, none⟩ = some (.int .i64 P.v.r)) ∧
    (y.cell? ⟨b, 4, none⟩ = some (.int .i64 P.g.k) ∧ y.cell? ⟨b, 5, none⟩ = some (.float .f64 P.g.x) ∧ y.cell? ⟨b, 6, none⟩ = some (.string P.g.s) ∧ y.cell? ⟨b, 7, none⟩ = some (.int .i64 P.g.r)) ∧
    (y.cell? ⟨b, 8, none⟩ = some (.int .i64 P.t.k) ∧ y.cell? ⟨b, 9, none⟩ = some (.float .f64 P.t.x) ∧ y.cell? ⟨b, 10, none⟩ = some (.string P.t.s) ∧ y.cell? ⟨b, 11, none⟩ = some (.int .i64 P.t.r)) ∧ y.cell? ⟨b, 12, none⟩ = some (.int .i64 P.fl) := by
  have hc : ∀ j u, (encP P)[j]? = some u → y.cell? ⟨b, j, none⟩ = some u := fun j u hu => by rw [cell_of_row _ _ j _ _ _ h]; simpa using hu
  exact ⟨⟨hc 0 _ rfl, hc 1 _ rfl, hc 2 _ rfl, hc 3 _ rfl⟩, ⟨hc 4 _ rfl, hc 5 _ rfl, hc 6 _ rfl, hc 7 _ rfl⟩, ⟨hc 8 _ rfl, hc 9 _ rfl, hc 10 _ rfl, hc 11 _ rfl⟩, hc 12 _ rfl⟩
theorem cellsD {y : World} {b : Nat} {t : TypeId} {has : Int} {P : PV} (h : y.heap[b]? = some (.cells (encD has P).toArray t (0, 0))) :
    y.cell? ⟨b, 0, none⟩ = some (.int .i64 has) ∧ (y.cell? ⟨b, 1, none⟩ = some (.int .i64 P.v.k) ∧ y.cell? ⟨b, 2, none⟩ = some (.float .f64 P.v.x) ∧ y.cell? ⟨b, 3, none⟩ = some (.string P.v.s) ∧ y.cell? ⟨b, 4, none⟩ = some (.int .i64 P.v.r)) ∧
    (y.cell? ⟨b, 5, none⟩ = some (.int .i64 P.g.k) ∧ y.cell? ⟨b, 6, none⟩ = some (.float .f64 P.g.x) ∧ y.cell? ⟨b, 7, none⟩ = some (.string P.g.s) ∧ y.cell? ⟨b, 8, none⟩ = some (.int .i64 P.g.r)) ∧
    (y.cell? ⟨b, 9, none⟩ = some (.int .i64 P.t.k) ∧ y.cell? ⟨b, 10, none⟩ = some (.float .f64 P.t.x) ∧ y.cell? ⟨b, 11, none⟩ = some (.string P.t.s) ∧ y.cell? ⟨b, 12, none⟩ = some (.int .i64 P.t.r)) ∧ y.cell? ⟨b, 13, none⟩ = some (.int .i64 P.fl) := by
  have hc : ∀ j u, (encD has P)[j]? = some u → y.cell? ⟨b, j, none⟩ = some u := fun j u hu => by rw [cell_of_row _ _ j _ _ _ h]; simpa using hu
  exact ⟨hc 0 _ rfl, ⟨hc 1 _ rfl, hc 2 _ rfl, hc 3 _ rfl, hc 4 _ rfl⟩, ⟨hc 5 _ rfl, hc 6 _ rfl, hc 7 _ rfl, hc 8 _ rfl⟩, ⟨hc 9 _ rfl, hc 10 _ rfl, hc 11 _ rfl, hc 12 _ rfl⟩, hc 13 _ rfl⟩
theorem c_OHas (P : PV) (f : Int) (w : World) : Calls Tryz.prog 65 #[.agg (encP P).toArray, .int .i64 f] w fun e w' => e = .returned (.bool (nam P.fl f)) ∧ Below w.heap.size w w' := by
  obtain ⟨W1, hW1⟩ : ∃ W1, w.alloc (.cells (encP P).toArray 39) = W1 := ⟨_, rfl⟩
  have hb1 : Below w.heap.size w W1 := by rw [← hW1]; exact (Below.refl _ w).alloc (Nat.le_refl _) _
  have c12 := (cellsP (show W1.heap[w.heap.size]? = some (.cells (encP P).toArray 39 (0, 0)) by rw [← hW1]; exact heap_alloc_new w _)).2.2.2
  unfold encP at *
  go_enter Tryz.func65, Tryz.ntmps65
  go_wp2
  go_ret
  exact ⟨rfl, hb1⟩
theorem c_ORefused (P D : PV) (hP : P.fl = 1) (w : World) : Calls Tryz.prog 66 #[.agg (encP P).toArray, descV 1 D, .bool true, .bool false] w fun e w' => e = .returned (.bool false) ∧ Below w.heap.size w w' := by
  obtain ⟨W1, hW1⟩ : ∃ W1, w.alloc (.cells (encP P).toArray 39) = W1 := ⟨_, rfl⟩
  obtain ⟨W2, hW2⟩ : ∃ W2, W1.alloc (.cells (encD 1 D).toArray 51) = W2 := ⟨_, rfl⟩
  obtain ⟨W3, hW3⟩ : ∃ W3, W2.alloc (.cells (encM zeroPV 1 D).toArray 139) = W3 := ⟨_, rfl⟩
  have s1 : W1.heap.size = w.heap.size + 1 := by rw [← hW1]; simp
  have s2 : W2.heap.size = w.heap.size + 2 := by rw [← hW2]; simp [s1]
  have s3 : W3.heap.size = w.heap.size + 3 := by rw [← hW3]; simp [s2]
  have hb1 : Below w.heap.size w W1 := by rw [← hW1]; exact (Below.refl _ w).alloc (Nat.le_refl _) _
  have hb2 : Below W1.heap.size W1 W2 := by rw [← hW2]; exact (Below.refl _ W1).alloc (Nat.le_refl _) _
  have hb3 : Below W2.heap.size W2 W3 := by rw [← hW3]; exact (Below.refl _ W2).alloc (Nat.le_refl _) _
  have d1 : W1.heap[w.heap.size]? = some (.cells (encP P).toArray 39 (0, 0)) := by rw [← hW1]; exact heap_alloc_new w _
  have d2 : W2.heap[W1.heap.size]? = some (.cells (encD 1 D).toArray 51 (0, 0)) := by rw [← hW2]; exact heap_alloc_new W1 _
  have d3 : W3.heap[W2.heap.size]? = some (.cells (encM zeroPV 1 D).toArray 139 (0, 0)) := by rw [← hW3]; exact heap_alloc_new W2 _
  have hk : ∀ y, Below W3.heap.size W3 y → y.heap[w.heap.size]? = some (.cells (encP P).toArray 39 (0, 0)) ∧ MB y W2.heap.size zeroPV 1 D := fun y hy =>
    ⟨(hy.block _ (by omega)).trans ((hb3.block _ (by omega)).trans ((hb2.block _ (by omega)).trans d1)), (hy.block _ (by omega)).trans d3⟩
  obtain ⟨x0, ⟨x1, x2, x3, x4⟩, ⟨x5, x6, x7, x8⟩, ⟨x9, x10, x11, x12⟩, x13⟩ := cellsD d2
  have hN := fun (y : World) (hy : Below W3.heap.size W3 y) (what : Int) => c_ONames ((hk y hy).2.cell (j := 13) rfl) what
  have hH := fun (f : Int) (y : World) => c_OHas P f y
  have n32 : nam 1 32 = false := by decide
  have n16 : nam 1 16 = false := by decide
  have p8 : nam P.fl 8 = false := by rw [hP]; decide
  have p1 : nam P.fl 1 = true := by rw [hP]; decide
  have h32 := fun (y : World) hy => hN y hy 32
  have h16 := fun (y : World) hy => hN y hy 16
  have q8 := hH 8
  have q1 := hH 1
  rw [n32] at h32
  rw [n16] at h16
  rw [p8] at q8
  rw [p1] at q1
  have hbw : Below w.heap.size w W3 := hb1.trans ((hb2.trans (hb3.mono hb2.size)).mono hb1.size)
  have hb0 := Below.refl W3.heap.size W3
  obtain ⟨⟨a0, a1, a2, a3⟩, ⟨a4, a5, a6, a7⟩, ⟨a8, a9, a10, a11⟩, a12⟩ := cellsP (hk W3 hb0).1
  replace hk := Lib.hid hk
  replace h32 := Lib.hid h32
  replace h16 := Lib.hid h16
  unfold descV
  simp only [encM, encD, encP, zeroPV, zeroVV, List.cons_append, List.nil_append] at *
  replace q8 := Lib.hid q8
  replace q1 := Lib.hid q1
  replace hbw := Lib.hid hbw
  clear hN hH n32 n16 p8 p1 d1 d2 d3 hb1 hb2 hb3 s1 s2 s3 hP
  have tokA : True := trivial
  have tokB : True := trivial
  go_enter Tryz.func66, Tryz.ntmps66
  go_upto_region 4 with (first | (go_at_call 85; clear tokB; refine (h32.out _ hb0).mono ?_; rintro e y1 ⟨rfl, e1⟩; cases e1))
  go_quiet ((go_at_call 85; exact Calls.quiet_of_same (h16.out _ ⟨rfl, rfl, rfl, Nat.le_refl _, fun _ _ => rfl⟩)))
  obtain ⟨W4, hW4⟩ : ∃ W4, W3.drewN nq = W4 := ⟨_, rfl⟩
  rw [hW4]
  have hb3 : Below W3.heap.size W3 W4 := by rw [← hW4]; exact ⟨rfl, rfl, rfl, Nat.le_refl _, fun _ _ => rfl⟩
  clear hW4 a0 a1 a2 a3 a4 a5 a6 a7 a8 a9 a10 a11 a12
  obtain ⟨⟨a0, a1, a2, a3⟩, ⟨a4, a5, a6, a7⟩, ⟨a8, a9, a10, a11⟩, a12⟩ := cellsP (hk.out W4 hb3).1
  go_wp2_with (first | (go_at_call 65; clear tokA; refine (q8.out _).mono ?_; rintro e y2 ⟨rfl, hb4⟩; have hb4' := hb3.trans (hb4.mono hb3.size); clear a0 a1 a2 a3 a4 a5 a6 a7 a8 a9 a10 a11 a12; obtain ⟨⟨a0, a1, a2, a3⟩, ⟨a4, a5, a6, a7⟩, ⟨a8, a9, a10, a11⟩, a12⟩ := cellsP (hk.out y2 hb4').1) | (go_at_call 65; refine (q1.out _).mono ?_; rintro e y3 ⟨rfl, hb5⟩))
  go_ret
  exact ⟨rfl, hbw.out.trans ((hb4'.trans (hb5.mono hb4'.size)).mono hbw.out.size)⟩
end Go.Proofs.YtkbohoolnpaleaaGreatDoor
namespace Go.Proofs.YtkbohoolnpaleaaGreatDoor
open Go.RowKit Go.Shelf Go.Lib Go.Sort Go.Proofs Go.Maps
set_option linter.unusedVariables false
set_option linter.unusedSimpArgs false
set_option maxHeartbeats 1000000
set_option maxRecDepth 100000

theorem c_OMergeB (P D : PV) (hP : P.fl = 1) (hPg : P.g = zeroVV) (hPt : P.t = zeroVV) (op : Bool) (w : World) : Calls Tryz.prog 44 #[.agg (encP P).toArray, .bool true, .bool op, descV 1 D] w fun e w' => e = .returned (.tuple #[propV ⟨D.v, zeroVV, zeroVV, 1⟩, .bool true]) ∧ Below w.heap.size w w' := by
  obtain ⟨W1, hW1⟩ : ∃ W1, w.alloc (.cells (encP P).toArray 39) = W1 := ⟨_, rfl⟩
  obtain ⟨W2, hW2⟩ : ∃ W2, W1.alloc (.cells (encD 1 D).toArray 51) = W2 := ⟨_, rfl⟩
  obtain ⟨W3, hW3⟩ : ∃ W3, W2.alloc (.cells (encP zeroPV).toArray 39) = W3 := ⟨_, rfl⟩
  have s1 : W1.heap.size = w.heap.size + 1 := by rw [← hW1]; simp
  have s2 : W2.heap.size = w.heap.size + 1 + 1 := by rw [← hW2]; simp [s1]
  have s3 : W3.heap.size = w.heap.size + 1 + 1 + 1 := by rw [← hW3]; simp [s2]
  have hb1 : Below w.heap.size w W1 := by rw [← hW1]; exact (Below.refl _ w).alloc (Nat.le_refl _) _
  have hb2 : Below W1.heap.size W1 W2 := by rw [← hW2]; exact (Below.refl _ W1).alloc (Nat.le_refl _) _
  have hb3 : Below W2.heap.size W2 W3 := by rw [← hW3]; exact (Below.refl _ W2).alloc (Nat.le_refl _) _
  have d1 : W1.heap[w.heap.size]? = some (.cells (encP P).toArray 39 (0, 0)) := by rw [← hW1]; exact heap_alloc_new w _
  have d2 : W2.heap[W1.heap.size]? = some (.cells (encD 1 D).toArray 51 (0, 0)) := by rw [← hW2]; exact heap_alloc_new W1 _
  have d3 : W3.heap[W2.heap.size]? = some (.cells (encP zeroPV).toArray 39 (0, 0)) := by rw [← hW3]; exact heap_alloc_new W2 _
  have hk : ∀ y, Below W3.heap.size W3 y → y.heap[w.heap.size]? = some (.cells (encP P).toArray 39 (0, 0)) ∧ y.heap[W1.heap.size]? = some (.cells (encD 1 D).toArray 51 (0, 0)) ∧ y.heap[W2.heap.size]? = some (.cells (encP zeroPV).toArray 39 (0, 0)) := fun y hy =>
    ⟨(hy.block _ (by omega)).trans ((hb3.block _ (by omega)).trans ((hb2.block _ (by omega)).trans d1)), (hy.block _ (by omega)).trans ((hb3.block _ (by omega)).trans d2), (hy.block _ (by omega)).trans d3⟩
  have hb0 := Below.refl W3.heap.size W3
  obtain ⟨q1, q2, q3⟩ := hk W3 hb0
  obtain ⟨⟨a0, a1, a2, a3⟩, ⟨a4, a5, a6, a7⟩, ⟨a8, a9, a10, a11⟩, a12⟩ := cellsP q1
  obtain ⟨x0, ⟨x1, x2, x3, x4⟩, ⟨x5, x6, x7, x8⟩, ⟨x9, x10, x11, x12⟩, x13⟩ := cellsD q2
  have p4 : nam P.fl 4 = false := by rw [hP]; decide
  have hH := fun (y : World) => c_OHas P 4 y
  rw [p4] at hH
  have hR := fun (y : World) => c_ORefused P D hP y
  have hfl : flagsV 1 P.fl D.fl = 1 := by unfold flagsV flagV; simp [show nam 1 32 = false by decide, show nam 1 16 = false by decide, show nam 1 2 = false by decide, hP]
  have hO := fun (y : World) (b : Nat) (h : MB y b P 1 D) => c_OOver h (by decide) (by decide) (by decide) (by rw [hfl]; decide)
  rw [hfl] at hO
  have hb1s := Lib.hid (show w.heap.size ≤ W2.heap.size by omega)
  have hbw : Below w.heap.size w W3 := hb1.trans ((hb2.trans (hb3.mono hb2.size)).mono hb1.size)
  have hne : (bits BinOp.and IntKind.i64 P.fl 8 != 0) = false := by rw [hP]; decide
  have hnm : ∀ (y : World), (y.alloc (.cells (encM P 1 D).toArray 139)).heap[y.heap.size]? = some (.cells (encM P 1 D).toArray 139 (0, 0)) := fun y => heap_alloc_new y _
  replace hk := Lib.hid hk
  unfold descV at *
  simp only [encM, encD, encP, zeroPV, zeroVV, List.cons_append, List.nil_append] at hH hR hW1 hW2 hW3 hnm ⊢
  replace hH := Lib.hid hH
  replace hR := Lib.hid hR
  replace hO := Lib.hid hO
  replace hbw := Lib.hid hbw
  replace hnm := Lib.hid hnm
  clear hP hPg hPt d1 d2 d3 hb1 hb2 hb3 s1 s2 s3 q1 q2 q3 p4 hfl
  go_enter Tryz.func44, Tryz.ntmps44
  go_upto_region 15 with (first | (go_at_call 65; refine (hH.out _).mono ?_; rintro e y1 ⟨rfl, hb4⟩; clear a0 a1 a2 a3 a4 a5 a6 a7 a8 a9 a10 a11 a12 x0 x1 x2 x3 x4 x5 x6 x7 x8 x9 x10 x11 x12 x13; obtain ⟨⟨a0, a1, a2, a3⟩, ⟨a4, a5, a6, a7⟩, ⟨a8, a9, a10, a11⟩, a12⟩ := cellsP (hk.out y1 hb4).1; obtain ⟨x0, ⟨x1, x2, x3, x4⟩, ⟨x5, x6, x7, x8⟩, ⟨x9, x10, x11, x12⟩, x13⟩ := cellsD (hk.out y1 hb4).2.1) | (go_at_call 66; refine (hR.out _).mono ?_; rintro e y2 ⟨rfl, hb5⟩; have hb6 := hb4.trans (hb5.mono hb4.size); clear a0 a1 a2 a3 a4 a5 a6 a7 a8 a9 a10 a11 a12 x0 x1 x2 x3 x4 x5 x6 x7 x8 x9 x10 x11 x12 x13; obtain ⟨⟨a0, a1, a2, a3⟩, ⟨a4, a5, a6, a7⟩, ⟨a8, a9, a10, a11⟩, a12⟩ := cellsP (hk.out y2 hb6).1; obtain ⟨x0, ⟨x1, x2, x3, x4⟩, ⟨x5, x6, x7, x8⟩, ⟨x9, x10, x11, x12⟩, x13⟩ := cellsD (hk.out y2 hb6).2.1))
  obtain ⟨W9, hW9⟩ : ∃ W9, y2.alloc (.cells (encM P 1 D).toArray 139) = W9 := ⟨_, rfl⟩
  have hb9 : Below y2.heap.size y2 W9 := by rw [← hW9]; exact (Below.refl _ y2).alloc (Nat.le_refl _) _
  have hm9 : MB W9 y2.heap.size P 1 D := by rw [← hW9]; exact heap_alloc_new y2 _
  have hO9 := Lib.hid (hO.out W9 y2.heap.size hm9)
  have hby2 := hb6
  have z9 : ∀ y, W9.grownBy y (some y2.heap.size) → y.heap[W2.heap.size]? = some (.cells (encP zeroPV).toArray 39 (0, 0)) := fun y hy => by
    have hl : W2.heap.size < y2.heap.size := heapH_lt (hk.out y2 hb6).2.2
    exact (hy.block _ (Nat.lt_of_lt_of_le hl hb9.size) (fun e => by have := Option.some.inj e; omega)).trans ((hb9.block _ hl).trans (hk.out y2 hb6).2.2)
  have hgw : ∀ y, W9.grownBy y (some y2.heap.size) → Below w.heap.size w y := fun y hy => by
    have h1 := hbw.out.trans (hb6.mono hbw.out.size)
    have h2 := h1.size
    exact ⟨hy.os.trans (hb9.os.trans h1.os), hy.tape.trans (hb9.tape.trans h1.tape), hy.output.trans (hb9.output.trans h1.output), Nat.le_trans h1.size (Nat.le_trans hb9.size hy.size), fun r hr => (hy.block r (Nat.lt_of_lt_of_le hr (Nat.le_trans h1.size hb9.size)) (fun e => by have := Option.some.inj e; omega)).trans ((hb9.block r (Nat.lt_of_lt_of_le hr h1.size)).trans (h1.block r hr))⟩
  simp only [encM, encP, List.cons_append, List.nil_append] at hW9
  replace hb9 := Lib.hid hb9
  replace hb6 := Lib.hid hb6
  replace z9 := Lib.hid z9
  replace hgw := Lib.hid hgw
  clear hm9 hb4 hb5 hby2
  go_upto_region 16 with fail
  clear a0 a1 a2 a3 a4 a5 a6 a7 a8 a9 a10 a11 a12 x0 x1 x2 x3 x4 x5 x6 x7 x8 x9 x10 x11 x12 x13
  generalize hR : ({ v := D.v, g := zeroVV, t := zeroVV, fl := 1 } : PV) = R at *
  replace hR := Lib.hid hR
  have hi13 : (Tryz.prog.info? 39).map (·.size) = some (encP R).toArray.size := infoProp
  have ho13 := all_oneCell_toArray (encP_one R)
  unfold propV at *
  go_wp2_with (first | (go_at_call 67; refine hO9.out.mono ?_; rintro e y10 ⟨rfl, hg10⟩; have z10 := z9.out y10 hg10; have hth := there_of (n := 13) (o := 0) z10 (by simp [encP])) | (refine wpList_store_mid (by rfl) 39 _ _ (by rfl) W2.heap.size 0 (encP R).toArray (by rfl) (by rfl) hth hi13 ho13 ?_))
  have hz := heap_setCells_all (t := 39) (vs := encP R) z10 rfl
  refine bodyPost_ret (results_cell_tmp_row rfl _ _ W2.heap.size 39 (encP R).toArray (0, 0) _ rfl rfl hz infoProp) rfl ?_
  refine ⟨by rw [← hR.out]; rfl, ?_⟩
  have hgy := hgw.out y10 hg10
  exact below_setC hgy (by have := hb1s.out; omega) _ _
theorem c_OMergeA (D : PV) (hD : D.fl = 7) (w : World) : Calls Tryz.prog 44 #[.agg (encP zeroPV).toArray, .bool false, .bool true, descV 51 D] w fun e w' => e = .returned (.tuple #[propV ⟨D.v, zeroVV, zeroVV, 7⟩, .bool true]) ∧ Below w.heap.size w w' := by
  obtain ⟨W1, hW1⟩ : ∃ W1, w.alloc (.cells (encP zeroPV).toArray 39) = W1 := ⟨_, rfl⟩
  obtain ⟨W2, hW2⟩ : ∃ W2, W1.alloc (.cells (encD 51 D).toArray 51) = W2 := ⟨_, rfl⟩
  obtain ⟨W3, hW3⟩ : ∃ W3, W2.alloc (.cells (encP zeroPV).toArray 39) = W3 := ⟨_, rfl⟩
  have s1 : W1.heap.size = w.heap.size + 1 := by rw [← hW1]; simp
  have s2 : W2.heap.size = w.heap.size + 1 + 1 := by rw [← hW2]; simp [s1]
  have s3 : W3.heap.size = w.heap.size + 1 + 1 + 1 := by rw [← hW3]; simp [s2]
  have hb1 : Below w.heap.size w W1 := by rw [← hW1]; exact (Below.refl _ w).alloc (Nat.le_refl _) _
  have hb2 : Below W1.heap.size W1 W2 := by rw [← hW2]; exact (Below.refl _ W1).alloc (Nat.le_refl _) _
  have hb3 : Below W2.heap.size W2 W3 := by rw [← hW3]; exact (Below.refl _ W2).alloc (Nat.le_refl _) _
  have d1 : W1.heap[w.heap.size]? = some (.cells (encP zeroPV).toArray 39 (0, 0)) := by rw [← hW1]; exact heap_alloc_new w _
  have d2 : W2.heap[W1.heap.size]? = some (.cells (encD 51 D).toArray 51 (0, 0)) := by rw [← hW2]; exact heap_alloc_new W1 _
  have d3 : W3.heap[W2.heap.size]? = some (.cells (encP zeroPV).toArray 39 (0, 0)) := by rw [← hW3]; exact heap_alloc_new W2 _
  have hk : ∀ y, Below W3.heap.size W3 y → y.heap[w.heap.size]? = some (.cells (encP zeroPV).toArray 39 (0, 0)) ∧ y.heap[W1.heap.size]? = some (.cells (encD 51 D).toArray 51 (0, 0)) ∧ y.heap[W2.heap.size]? = some (.cells (encP zeroPV).toArray 39 (0, 0)) := fun y hy =>
    ⟨(hy.block _ (by omega)).trans ((hb3.block _ (by omega)).trans ((hb2.block _ (by omega)).trans d1)), (hy.block _ (by omega)).trans ((hb3.block _ (by omega)).trans d2), (hy.block _ (by omega)).trans d3⟩
  have hb0 := Below.refl W3.heap.size W3
  obtain ⟨q1, q2, q3⟩ := hk W3 hb0
  obtain ⟨⟨a0, a1, a2, a3⟩, ⟨a4, a5, a6, a7⟩, ⟨a8, a9, a10, a11⟩, a12⟩ := cellsP q1
  obtain ⟨x0, ⟨x1, x2, x3, x4⟩, ⟨x5, x6, x7, x8⟩, ⟨x9, x10, x11, x12⟩, x13⟩ := cellsD q2
  have hfl : flagsV 51 zeroPV.fl D.fl = 7 := by rw [hD]; decide
  have hO := fun (y : World) (b : Nat) (h : MB y b zeroPV 51 D) => c_OOver h (by decide) (by decide) (by decide) (by rw [hfl]; decide)
  rw [hfl] at hO
  have hb1s := Lib.hid (show w.heap.size ≤ W2.heap.size by omega)
  have hbw : Below w.heap.size w W3 := hb1.trans ((hb2.trans (hb3.mono hb2.size)).mono hb1.size)
  have hth0 := there_of (n := 13) (o := 0) q1 (by simp [encP])
  have hi0 : (Tryz.prog.info? 39).map (·.size) = some (encP zeroPV).toArray.size := infoProp
  have ho0 := all_oneCell_toArray (encP_one zeroPV)
  have hz0 := heap_setCells_all (t := 39) (vs := encP zeroPV) q1 rfl
  have hne0 : ∀ r, r ≠ w.heap.size → (W3.setCells w.heap.size 0 (encP zeroPV)).heap[r]? = W3.heap[r]? := fun r hr => heap_setCells_ne (encP zeroPV) 0 W3 hr
  obtain ⟨t1, t2, t3, t4⟩ := size_setCellsH w.heap.size (encP zeroPV) 0 W3
  have hb4 : Below w.heap.size w (W3.setCells w.heap.size 0 (encP zeroPV)) := below_setC hbw (Nat.le_refl _) _ _
  obtain ⟨W4, hW4⟩ : ∃ W4, W3.setCells w.heap.size 0 (encP zeroPV) = W4 := ⟨_, rfl⟩
  rw [hW4] at hz0 hne0 hb4 t1
  have q4 := (hne0 W1.heap.size (by omega)).trans q2
  have q5 := (hne0 W2.heap.size (by omega)).trans q3
  clear x0 x1 x2 x3 x4 x5 x6 x7 x8 x9 x10 x11 x12 x13 a0 a1 a2 a3 a4 a5 a6 a7 a8 a9 a10 a11 a12
  have xh : W3.cell? ⟨W1.heap.size, 0, none⟩ = some (.int .i64 51) := (cellsD q2).1
  obtain ⟨⟨a0, a1, a2, a3⟩, ⟨a4, a5, a6, a7⟩, ⟨a8, a9, a10, a11⟩, a12⟩ := cellsP hz0
  obtain ⟨x0, ⟨x1, x2, x3, x4⟩, ⟨x5, x6, x7, x8⟩, ⟨x9, x10, x11, x12⟩, x13⟩ := cellsD q4
  have l2 := heapH_lt q5
  replace hk := Lib.hid hk
  unfold descV at *
  have hW4' := Lib.hid hW4
  simp only [encM, encD, encP, zeroPV, zeroVV, List.cons_append, List.nil_append] at hW1 hW2 hW3 a0 a1 a2 a3 a4 a5 a6 a7 a8 a9 a10 a11 a12 ⊢
  replace hO := Lib.hid hO
  replace hbw := Lib.hid hbw
  replace hb4 := Lib.hid hb4
  replace q5 := Lib.hid q5
  replace l2 := Lib.hid l2
  clear hD d1 d2 d3 hb1 hb2 hb3 s1 s2 s3 q1 q2 q3 q4 hfl hz0 hne0 t1 t2 t3 t4 hk hb0 hW4
  go_enter Tryz.func44, Tryz.ntmps44
  go_upto_region 15 with (first | (refine wpList_store_mid (by rfl) 39 _ _ (by rfl) w.heap.size 0 (encP zeroPV).toArray (by rfl) (by rfl) hth0 hi0 ho0 ?_; generalize hW5 : World.setCells _ _ _ _ = W5; have hW6 : W4 = W5 := hW4'.out.symm.trans hW5; subst hW6; clear hW5))
  obtain ⟨W9, hW9⟩ : ∃ W9, W4.alloc (.cells (encM zeroPV 51 D).toArray 139) = W9 := ⟨_, rfl⟩
  have hb9 : Below W4.heap.size W4 W9 := by rw [← hW9]; exact (Below.refl _ W4).alloc (Nat.le_refl _) _
  have hm9 : MB W9 W4.heap.size zeroPV 51 D := by rw [← hW9]; exact heap_alloc_new W4 _
  have hO9 := Lib.hid (hO.out W9 W4.heap.size hm9)
  have z9 : ∀ y, W9.grownBy y (some W4.heap.size) → y.heap[W2.heap.size]? = some (.cells (encP zeroPV).toArray 39 (0, 0)) := fun y hy =>
    (hy.block _ (Nat.lt_of_lt_of_le l2.out hb9.size) (fun e => by have := Option.some.inj e; have := l2.out; omega)).trans ((hb9.block _ l2.out).trans q5.out)
  have hgw : ∀ y, W9.grownBy y (some W4.heap.size) → Below w.heap.size w y := fun y hy => by
    have h1 := hb4.out
    have h2 := h1.size
    exact ⟨hy.os.trans (hb9.os.trans h1.os), hy.tape.trans (hb9.tape.trans h1.tape), hy.output.trans (hb9.output.trans h1.output), Nat.le_trans h1.size (Nat.le_trans hb9.size hy.size), fun r hr => (hy.block r (Nat.lt_of_lt_of_le hr (Nat.le_trans h1.size hb9.size)) (fun e => by have := Option.some.inj e; omega)).trans ((hb9.block r (Nat.lt_of_lt_of_le hr h1.size)).trans (h1.block r hr))⟩
  simp only [encM, encP, zeroPV, zeroVV, List.cons_append, List.nil_append] at hW9
  replace hb9 := Lib.hid hb9
  replace z9 := Lib.hid z9
  replace hgw := Lib.hid hgw
  clear hm9
  go_upto_region 16 with fail
  clear a0 a1 a2 a3 a4 a5 a6 a7 a8 a9 a10 a11 a12 x0 x1 x2 x3 x4 x5 x6 x7 x8 x9 x10 x11 x12 x13
  generalize hR : ({ v := D.v, g := zeroVV, t := zeroVV, fl := 7 } : PV) = R at *
  replace hR := Lib.hid hR
  have hi13 : (Tryz.prog.info? 39).map (·.size) = some (encP R).toArray.size := infoProp
  have ho13 := all_oneCell_toArray (encP_one R)
  unfold propV at *
  go_wp2_with (first | (go_at_call 67; refine hO9.out.mono ?_; rintro e y10 ⟨rfl, hg10⟩; have z10 := z9.out y10 hg10; have hth := there_of (n := 13) (o := 0) z10 (by simp [encP])) | (refine wpList_store_mid (by rfl) 39 _ _ (by rfl) W2.heap.size 0 (encP R).toArray (by rfl) (by rfl) hth hi13 ho13 ?_))
  have hz := heap_setCells_all (t := 39) (vs := encP R) z10 rfl
  refine bodyPost_ret (results_cell_tmp_row rfl _ _ W2.heap.size 39 (encP R).toArray (0, 0) _ rfl rfl hz infoProp) rfl ?_
  refine ⟨by rw [← hR.out]; rfl, ?_⟩
  have hgy := hgw.out y10 hg10
  exact below_setC hgy (by have := hb1s.out; omega) _ _
end Go.Proofs.YtkbohoolnpaleaaGreatDoor
namespace Go.Proofs.YtkbohoolnpaleaaGreatDoor
open Go.RowKit
set_option linter.unusedVariables false
set_option maxHeartbeats 4000000
set_option maxRecDepth 100000

abbrev fl (n : Nat) : Nat := floatOfInt .f64 (n : Int)
def truncOk (x : Nat) : Bool := match FloatKind.f64.decode x with
  | .number s m e => decide (FloatKind.f64.encode ((Ieee.Datum.number s m e).integral .zero) = x)
  | _ => false
theorem trunc_all : ∀ n : Fin 300, truncOk (fl n.val) = true := by decide +kernel
theorem ti_num (nm : String) (way : Ieee.Toward) (x : Nat) (s : Bool) (m : Nat) (e : Int) (hd : FloatKind.f64.decode x = .number s m e) :
    Extern.MathFloor.toIntegral nm way #[.float .f64 x] = Sem.pure (.float .f64 (FloatKind.f64.encode ((Ieee.Datum.number s m e).integral way))) := by
  obtain ⟨g, h⟩ : ∃ g : Bool → Nat → Sem Value, Extern.MathFloor.toIntegral nm way #[.float .f64 x] = (match FloatKind.f64.decode x with
    | .nan s t => g s t
    | d => pure (.float .f64 (FloatKind.f64.encode (d.integral way)))) := ⟨_, rfl⟩
  rw [h, hd]; rfl
theorem trunc_fl (n : Nat) (hn : n < 300) (nm : String) : Extern.MathFloor.toIntegral nm .zero #[.float .f64 (fl n)] = Sem.pure (.float .f64 (fl n)) := by
  have h := trunc_all ⟨n, hn⟩
  unfold truncOk at h
  dsimp only at h
  cases hd : FloatKind.f64.decode (fl n) with
  | number s m e =>
    rw [hd] at h
    rw [ti_num _ _ _ _ _ _ hd, of_decide_eq_true h]
  | infinity s => rw [hd] at h; cases h
  | nan s t => rw [hd] at h; cases h
end Go.Proofs.YtkbohoolnpaleaaGreatDoor
namespace Go.Proofs.YtkbohoolnpaleaaGreatDoor
open Go.RowKit Go.Shelf Go.Lib Go.Sort Go.Proofs Go.Maps
set_option linter.unusedVariables false
set_option maxHeartbeats 4000000
set_option maxRecDepth 100000

/-- a small number's digits -/
def dgs (n : Nat) : List Nat := if n < 10 then [48 + n] else if n < 100 then [48 + n / 10, 48 + n % 10] else [48 + n / 100, 48 + n / 10 % 10, 48 + n % 10]
def kI (n : Nat) : KK := (textU (dgs n), 0)
/-- the bytes of length -/
def lenB : ByteArray := ⟨#[0, 108, 0, 101, 0, 110, 0, 103, 0, 116, 0, 104]⟩
def kL : KK := (lenB, 0)
theorem kI_idx_all : ∀ n : Fin 300, idxOf (U (kI n.val).1) = some n.val := by decide +kernel
theorem kI_idx (n : Nat) (h : n < 300) : idxOf (U (kI n).1) = some n := kI_idx_all ⟨n, h⟩
theorem kL_idx : idxOf (U kL.1) = none := by decide +kernel
theorem kI_inj (i j : Nat) (hi : i < 300) (hj : j < 300) (h : kI i = kI j) : i = j := by
  have h1 := kI_idx i hi
  rw [h, kI_idx j hj] at h1
  exact (Option.some.inj h1).symm
theorem kI_ne (i : Nat) (hi : i < 300) : kI i ≠ kL := fun h => by
  have h1 := kI_idx i hi
  rw [h, kL_idx] at h1
  cases h1
theorem kI_size_all : ∀ n : Fin 300, (kI n.val).1.size % 2 = 0 ∧ (kI n.val).1.size ≤ 6 := by decide +kernel
theorem kI_size (n : Nat) (h : n < 300) : (kI n).1.size % 2 = 0 ∧ (kI n).1.size ≤ 6 := kI_size_all ⟨n, h⟩
theorem kI_pk_all : ∀ n : Fin 300, pk (kI n.val) = kI n.val := by decide +kernel
theorem kI_pk (n : Nat) (h : n < 300) : pk (kI n) = kI n := kI_pk_all ⟨n, h⟩
theorem kL_pk : pk kL = kL := by decide +kernel
theorem kI_ok (n : Nat) (h : n < 300) : okK (kI n) := ⟨by have := (kI_size n h).2; omega, show (Lit.int .i64 0).wf = true by decide⟩
theorem kL_ok : okK kL := ⟨by decide +kernel, by decide⟩
end Go.Proofs.YtkbohoolnpaleaaGreatDoor
namespace Go.Proofs.YtkbohoolnpaleaaGreatDoor
open Go.RowKit Go.Shelf Go.Lib Go.Sort Go.Proofs Go.Maps
set_option linter.unusedVariables false
set_option maxHeartbeats 1000000
set_option maxRecDepth 8000

/-- what an iterator's call comes to: xs come, one after the other, or a round ends it all; rounds turn blocks of ex, and those behind the loop's -/
def SeqX {α : Type} (g : Nat) (lb : Array Value) (encs : α → Array Value) (xs : List α) (ex : Nat → Prop) (w : World) : Prop :=
  ∀ (n l : Nat) (J Jx : List α → World → Prop) (W : World), Below w.heap.size w W → w.heap.size ≤ l → l < W.heap.size → (∃ o, W.heap[l]? = some (.loop o)) → (∀ s A B, J s A → Below A.heap.size A B → J s B) →
    (∀ pre x W1, J pre W1 → (pre ++ [x]) <+: xs → YieldAt Fence.wide (n - 1) Tryz.prog l (encs x) W1 fun e W' =>
      (e = .returned (.bool true) ∧ J (pre ++ [x]) W' ∧ KeepBut (fun r => ex r ∨ l < r) W1 W') ∨ (e = .returned (.bool false) ∧ Jx (pre ++ [x]) W')) →
    J [] W →
    CallsIn Fence.wide n Tryz.prog g (#[.func (.yield l) #[] #[]] ++ lb) W fun e W' => (∃ v, e = .returned v) ∧ (J xs W' ∨ ∃ pre, Jx pre W')
/-- how a round's body may be left -/
def postX {α : Type} (ex : Nat → Prop) (B : Nat) (I : List α → World → Prop) (Ix : Code → List α → World → Prop) (xs : List α) (W : World) : Exit → Act → World → Prop
  | .normal, _, W' => KeepBut (fun r => ex r ∨ B + 1 < r) W W' ∧ I xs W'
  | .ret, _, W' => KeepBut (fun r => ex r ∨ B + 1 < r) W W' ∧ Ix .ret xs W'
  | .exit id, _, W' => KeepBut (fun r => ex r ∨ B + 1 < r) W W' ∧ Ix (.exit id) xs W'
  | _, _, _ => False
theorem rangeX {α : Type} {n : Nat} {g : Operand} {ps : Array Tmp} {assign body : Code} {Q : Exit → Act → World → Prop} {a : Act} {w : World} {gf : Nat} {lb : Array Value} (hg : a.eval g = .func (.func gf) #[] lb)
    (eg : ∀ args w, (callFunc gf args).run Tryz.prog w = .ok (.enter gf args) w) {encs : α → Array Value} {xs : List α} {ex : Nat → Prop} {w0 : World} (hseq : SeqX gf lb encs xs ex w0) (hb0 : Below w0.heap.size w0 w) (hex : ∀ r, ex r → r < w.heap.size) (hps : ∀ x, (encs x).size = ps.size)
    (I : List α → World → Prop) (Ix : Code → List α → World → Prop) (hI : ∀ s A lp lp', I s A → A.heap[w.heap.size + 1]? = some (.loop lp) → I s (A.putObj (w.heap.size + 1) (.loop lp'))) (hIx : ∀ c s A lp lp', Ix c s A → A.heap[w.heap.size + 1]? = some (.loop lp) → Ix c s (A.putObj (w.heap.size + 1) (.loop lp'))) (hIb : ∀ s A B, I s A → Below A.heap.size A B → I s B) (h0 : I [] w)
    (hround : ∀ (l : Nat) (pre : List α) (x : α) (W : World), I pre W → (pre ++ [x]) <+: xs → w.heap.size < l → l < W.heap.size → l = w.heap.size + 1 →
      assign.wpIn (Fence.wide.inRound l) (n - 1 - 1) Tryz.prog (Exit.then (fun a₁ W1 => KeepBut (fun r => w.heap.size + 1 < r) W W1 ∧ I pre W1 ∧ ∀ W2, I pre W2 → l < W2.heap.size → W2.heap.size = W1.heap.size → (∀ r, r ≠ l → W2.heap[r]? = W1.heap[r]?) → body.wpIn (Fence.wide.inRound l) (n - 1 - 1) Tryz.prog (postX ex w.heap.size I Ix (pre ++ [x]) W2) a₁ W2) (fun _ _ _ => False)) { tmps := (ps.zip (encs x)).foldl (fun t (p, v) => t.setIfInBounds p v) a.tmps, defers := [] } W)
    (hdone : ∀ (W : World), I xs W → W.heap[w.heap.size]? = some (.deferred (some [])) → w.heap.size + 1 < W.heap.size → Q .normal { a with defers := { target := .collected w.heap.size, args := #[] } :: a.defers } W)
    (hstop : ∀ (c : Code) (pre : List α) (W : World), Ix c pre W → W.heap[w.heap.size]? = some (.deferred (some [])) → c.wpIn Fence.wide n Tryz.prog Q { a with defers := { target := .collected w.heap.size, args := #[] } :: a.defers } W) :
    (Code.rangeFunc g ps assign body).wpIn Fence.wide n Tryz.prog Q a w := by
  refine wpIn_rangeFunc ?_
  intro fn hfn
  let rec' : LoopState → Option Code → Loop := fun st pe => { state := st, pending := pe, fn := fn, tmps := a.tmps, params := ps, assign := assign, body := body, defers := w.heap.size }
  have hrl : ∀ st pe, rec' st pe = { state := st, pending := pe, fn := fn, tmps := a.tmps, params := ps, assign := assign, body := body, defers := w.heap.size } := fun _ _ => rfl
  generalize rec' = rc at hrl
  obtain ⟨W1, hW1⟩ : ∃ W1, (w.alloc (.deferred (some []))).alloc (.loop (rc .ready none)) = W1 := ⟨_, rfl⟩
  have hs1 : W1.heap.size = w.heap.size + 1 + 1 := by rw [← hW1]; simp
  have hL : W1.heap[w.heap.size + 1]? = some (.loop (rc .ready none)) := by rw [← hW1]; exact heap_alloc2_new w _ _
  have hD : W1.heap[w.heap.size]? = some (.deferred (some [])) := by rw [← hW1]; exact (Below.heap_alloc _ _ _ (by simp)).trans (heap_alloc_new w _)
  have hI1 : I [] W1 := by rw [← hW1]; exact hIb _ _ _ h0 (((Below.refl _ w).alloc (Nat.le_refl _) _).alloc (by simp) _)
  have hb1 : Below w0.heap.size w0 W1 := by rw [← hW1]; exact hb0.trans ((((Below.refl _ w).alloc (Nat.le_refl _) _).alloc (by simp) _).mono hb0.size)
  refine ⟨w.heap.size + 1, [{ target := .collected w.heap.size, args := #[] }], W1, { target := .fn (.func gf) lb, args := #[.func (.yield (w.heap.size + 1)) #[] #[]] }, W1, gf, #[.func (.yield (w.heap.size + 1)) #[] #[]] ++ lb, W1, ?_, ?_, (fun _ _ => trivial), ?_, (fun h => by cases h), ?_⟩
  · rw [← hW1, hrl]; exact run_enterLoop_outer _ _ _ _ _
  · simp only [resolve, hg]
    simp [go_sem]
  · simp [invoke, go_sem, eg]
  have keep : ∀ {A B : World} {row : Option Nat} {q : Nat} {o : Obj}, q < W1.heap.size → A.heap[q]? = some o → A.grownBy B row → (∀ r, row = some r → W1.heap.size ≤ r ∧ ∃ o : Obj, A.heap[r]? = some o ∧ o.isCells = false) → B.heap[q]? = some o := by
    intro A B row q o hq ho hgr hr
    rw [hgr.block q (heapH_lt ho) (fun e => by have := (hr q e.symm).1; omega)]
    exact ho
  have low : ∀ {A : World} {row : Option Nat}, (∀ r, row = some r → W1.heap.size ≤ r ∧ ∃ o : Obj, A.heap[r]? = some o ∧ o.isCells = false) → ∀ r, row = some r → w.heap.size ≤ r ∧ ∃ o : Obj, A.heap[r]? = some o ∧ o.isCells = false :=
    fun h r e => ⟨by have := (h r e).1; omega, (h r e).2⟩
  refine (hseq (n - 1) (w.heap.size + 1) (fun pre W => I pre W ∧ W.heap[w.heap.size + 1]? = some (.loop (rc .ready none)) ∧ W.heap[w.heap.size]? = some (.deferred (some [])))
    (fun pre W => ∃ c, Ix c pre W ∧ W.heap[w.heap.size + 1]? = some (.loop (rc .done (some c))) ∧ W.heap[w.heap.size]? = some (.deferred (some [])))
    W1 hb1
    (by have := hb0.size; omega) (by omega) ⟨_, hL⟩ (fun s A B hs hb => ⟨hIb s A B hs.1 hb, (hb.block _ (heapH_lt hs.2.1)).trans hs.2.1, (hb.block _ (heapH_lt hs.2.2)).trans hs.2.2⟩) ?_ ⟨hI1, hL, hD⟩).mono ?_
  · rintro pre x W ⟨hi, hl, hk⟩ hpre
    have hlt := heapH_lt hl
    have hy := run_yield (P := Tryz.prog) (args := encs x) hl (by rw [hrl]; exact hps x)
    rw [hrl] at hy
    refine ⟨fn, _, assign, body, hy, roundIn_of_wpIn hfn (wpIn_mono (hround (w.heap.size + 1) pre x W hi hpre (by omega) hlt rfl) ?_)⟩
    rintro e1 a3 WA hp1
    cases e1 with
    | goto t => exact hp1.elim
    | panic ch => exact hp1.elim
    | outgrown => exact hp1.elim
    | ret => exact hp1.elim
    | exit id => exact hp1.elim
    | normal =>
    obtain ⟨hkA, hiA, hbody⟩ := hp1
    have hlA : WA.heap[w.heap.size + 1]? = some (.loop (rc .ready none)) := (hkA.2 _ hlt (by omega)).trans hl
    have hltA := heapH_lt hlA
    have hkkA : WA.heap[w.heap.size]? = some (.deferred (some [])) := (hkA.2 _ (by omega) (by omega)).trans hk
    have hl2 : (WA.putObj (w.heap.size + 1) (.loop { rc .ready none with state := .busy })).heap[w.heap.size + 1]? = some (.loop { rc .ready none with state := .busy }) := World.putObj_heap_same hltA
    have hk2 : (WA.putObj (w.heap.size + 1) (.loop { rc .ready none with state := .busy })).heap[w.heap.size]? = some (.deferred (some [])) := (World.putObj_heap_other (by omega)).trans hkkA
    refine ⟨_, run_beginRound hlA (by rw [hrl]), ?_⟩
    have hsz : (WA.putObj (w.heap.size + 1) (.loop { rc .ready none with state := .busy })).heap.size = WA.heap.size := by simp [World.putObj]
    have hi2 := hI _ _ _ { rc .ready none with state := .busy } hiA hlA
    refine wpIn_mono (hbody _ hi2 (by rw [hsz]; exact hltA) hsz (fun r hr => World.putObj_heap_other hr)) ?_
    have fin : ∀ (jump : Option Code) (W3 : World), KeepBut (fun r => ex r ∨ w.heap.size + 1 < r) (WA.putObj (w.heap.size + 1) (.loop { rc .ready none with state := .busy })) W3 →
        (Instr.endRound (w.heap.size + 1) jump).run Tryz.prog W3 = .ok (.bool jump.isNone) (W3.putObj (w.heap.size + 1) (.loop (rc (if jump.isNone then .ready else .done) jump))) ∧
        W3.heap[w.heap.size + 1]? = some (.loop { rc .ready none with state := .busy }) ∧
        (W3.putObj (w.heap.size + 1) (.loop (rc (if jump.isNone then .ready else .done) jump))).heap[w.heap.size + 1]? = some (.loop (rc (if jump.isNone then .ready else .done) jump)) ∧
        (W3.putObj (w.heap.size + 1) (.loop (rc (if jump.isNone then .ready else .done) jump))).heap[w.heap.size]? = some (.deferred (some [])) ∧
        W.heap.size ≤ (W3.putObj (w.heap.size + 1) (.loop (rc (if jump.isNone then .ready else .done) jump))).heap.size := by
      intro jump W3 hk3
      have hl3 : W3.heap[w.heap.size + 1]? = some (.loop { rc .ready none with state := .busy }) := (hk3.2 _ (by rw [hsz]; exact hltA) (by rintro (h | h); exact absurd (hex _ h) (by omega); omega)).trans hl2
      have hk4 : W3.heap[w.heap.size]? = some (.deferred (some [])) := (hk3.2 _ (by rw [hsz]; omega) (by rintro (h | h); exact absurd (hex _ h) (by omega); omega)).trans hk2
      have hrun := run_endRound (P := Tryz.prog) jump hl3
      rw [hrl] at hrun
      have hkA1 := hkA.1
      exact ⟨by rw [hrl]; exact hrun, hl3, World.putObj_heap_same (heapH_lt hl3), (World.putObj_heap_other (by omega)).trans hk4, by have := hk3.1; simp [World.putObj] at this ⊢; omega⟩
    rintro e a3 W3 hp
    cases e with
    | normal =>
      obtain ⟨hk3, hi3⟩ := hp
      obtain ⟨hr, hl3, hl4, hk4, hkk⟩ := fin none W3 hk3
      refine ⟨_, _, hr, .inl ⟨rfl, ⟨hI _ _ _ _ hi3 hl3, hl4, hk4⟩, ⟨hkk, fun r hr2 he => ?_⟩⟩⟩
      by_cases e1 : r = w.heap.size + 1
      · subst e1; exact hl4.trans hl.symm
      · rw [World.putObj_heap_other e1, hk3.2 r (by rw [hsz]; exact Nat.lt_of_lt_of_le hr2 hkA.1) he, World.putObj_heap_other e1]
        exact hkA.2 r hr2 (fun h => he (.inr h))
    | ret =>
      obtain ⟨hk3, hi3⟩ := hp
      obtain ⟨hr, hl3, hl4, hk4, hkk⟩ := fin (some .ret) W3 hk3
      exact ⟨_, _, hr, .inr ⟨rfl, ⟨.ret, hIx _ _ _ _ _ hi3 hl3, hl4, hk4⟩⟩⟩
    | exit id =>
      obtain ⟨hk3, hi3⟩ := hp
      obtain ⟨hr, hl3, hl4, hk4, hkk⟩ := fin (some (.exit id)) W3 hk3
      exact ⟨_, _, hr, .inr ⟨rfl, ⟨.exit id, hIx _ _ _ _ _ hi3 hl3, hl4, hk4⟩⟩⟩
    | goto t => exact hp.elim
    | panic ch => exact hp.elim
    | outgrown => exact hp.elim
  · rintro e W2 ⟨⟨v, rfl⟩, (⟨hi, hl, hk⟩ | ⟨pre, c, hi, hl, hk⟩)⟩
    · exact ⟨none, _, by have := run_endLoop (P := Tryz.prog) hl (by rw [hrl]; simp); rw [hrl] at this; exact this, hdone _ (hI _ _ _ _ hi hl) ((World.putObj_heap_other (by omega)).trans hk) (by have := heapH_lt hl; simpa [World.putObj] using this)⟩
    · exact ⟨some c, _, by have := run_endLoop (P := Tryz.prog) hl (by rw [hrl]; simp); rw [hrl] at this; exact this, hstop c pre _ (hIx _ _ _ _ _ hi hl) ((World.putObj_heap_other (by omega)).trans hk)⟩
end Go.Proofs.YtkbohoolnpaleaaGreatDoor
namespace Go.Proofs.YtkbohoolnpaleaaGreatDoor
open Go.RowKit Go.Shelf Go.Lib Go.Sort Go.Proofs Go.Maps
set_option linter.unusedVariables false
set_option maxHeartbeats 2000000
set_option maxRecDepth 100000

/-- is a number equal to itself? -/
def oE (x : Nat) : Bool := (FloatKind.f64.format.order x x == some Ordering.eq)
theorem v_bad (x : Nat) (w : World) : Calls Tryz.prog 40 #[.float .f64 x] w fun e w' => e = .returned (.bool (!oE x)) ∧ w' = w := by
  go_enter Tryz.func40, Tryz.ntmps40
  go_wp2
  go_ret
  exact ⟨rfl, rfl⟩
theorem v_bits (x : Nat) (w : World) : (callFunc 58 #[.float .f64 x]).run Tryz.prog w = .ok (.value (.int .u64 x)) w := by kernel_rfl
attribute [local go_sem] v_bits
theorem v_sign (x : Nat) : ∃ s : Bool, ∀ w : World, Calls Tryz.prog 41 #[.float .f64 x] w fun e w' => e = .returned (.bool s) ∧ w' = w := by
  refine ⟨decide (wrap64 (x : Int) < 0), fun w => ?_⟩
  go_enter Tryz.func41, Tryz.ntmps41
  go_wp2
  go_ret
  exact ⟨rfl, rfl⟩
theorem v_Same2 (x : Nat) (w : World) : Calls Tryz.prog 26 #[.float .f64 x, .float .f64 x, .int .i64 2] w fun e w' => e = .returned (.bool true) ∧ w' = w := by
  obtain ⟨s, hs⟩ := v_sign x
  have hb := v_bad x
  cases he : oE x with
  | true =>
    rw [he] at hb
    have he' : (FloatKind.f64.format.order x x == some Ordering.eq) = true := he
    replace hs := Lib.hid hs
    replace hb := Lib.hid hb
    clear he
    go_enter Tryz.func26, Tryz.ntmps26
    go_wp2_with (first | (go_at_call 40; refine (hb.out _).mono ?_; rintro e w1 ⟨rfl, rfl⟩) | (go_at_call 41; refine (hs.out _).mono ?_; rintro e w1 ⟨rfl, rfl⟩))
    go_ret
    exact ⟨by cases s <;> rfl, rfl⟩
  | false =>
    rw [he] at hb
    have he' : (FloatKind.f64.format.order x x == some Ordering.eq) = false := he
    replace hs := Lib.hid hs
    replace hb := Lib.hid hb
    clear he
    go_enter Tryz.func26, Tryz.ntmps26
    go_wp2_with (first | (go_at_call 40; refine (hb.out _).mono ?_; rintro e w1 ⟨rfl, rfl⟩) | (go_at_call 41; refine (hs.out _).mono ?_; rintro e w1 ⟨rfl, rfl⟩))
    go_ret
    exact ⟨rfl, rfl⟩
def encVV (v : VV) : List Value := [.int .i64 v.k, .float .f64 v.x, .string v.s, .int .i64 v.r]
theorem v_SameValue (v : VV) (w : World) : Calls Tryz.prog 11 #[.agg (encVV v).toArray, .agg (encVV v).toArray] w fun e w' => e = .returned (.bool true) ∧ Below w.heap.size w w' := by
  have hS := v_Same2 v.x
  obtain ⟨W2, hW2⟩ : ∃ W2, (w.alloc (.cells (encVV v).toArray 26)).alloc (.cells (encVV v).toArray 26) = W2 := ⟨_, rfl⟩
  have hb2 : Below w.heap.size w W2 := by rw [← hW2]; exact two_belowH w _ _
  unfold encVV
  obtain ⟨vk, vx, vs, vr⟩ := v
  dsimp only at *
  replace hS := Lib.hid hS
  replace hb2 := Lib.hid hb2
  go_enter Tryz.func11, Tryz.ntmps11
  go_wp2_with (first | (go_at_call 26; refine (hS.out _).mono ?_; rintro e w1 ⟨rfl, rfl⟩))
  go_ret
  exact ⟨rfl, by first | exact hb2.out | (have := hb2.out; rw [← hW2] at this; exact this)⟩
end Go.Proofs.YtkbohoolnpaleaaGreatDoor
namespace Go.Proofs.YtkbohoolnpaleaaGreatDoor
open Go.RowKit Go.Shelf Go.Lib Go.Sort Go.Proofs Go.Maps
set_option linter.unusedVariables false
set_option maxHeartbeats 2000000
set_option maxRecDepth 100000
attribute [local go_sem] Oper.semAt_some

def encVA (x : VV) : Array Value := #[.agg (encVV x).toArray]
/-- a row reads as values, and lies in no block of ex -/
def RdV (w : World) (ex : Nat → Prop) (p : Option Addr) (l : List VV) : Prop := ∀ (k : Nat) x, l[k]? = some x → ∃ b o, p = some ⟨b, o, none⟩ ∧ ¬ ex b ∧ w.cell? ⟨b, o + k * 4, none⟩ = some (.int .i64 x.k) ∧ w.cell? ⟨b, o + k * 4 + 1, none⟩ = some (.float .f64 x.x) ∧ w.cell? ⟨b, o + k * 4 + 2, none⟩ = some (.string x.s) ∧ w.cell? ⟨b, o + k * 4 + 3, none⟩ = some (.int .i64 x.r)
theorem c_Values (w : World) (p : Option Addr) (n c : Nat) : Calls Tryz.prog 17 #[.slice p n c] w fun e w' => e = .returned (.func (.func 34) #[] #[.pointer (some ⟨w.heap.size, 0, none⟩)]) ∧ w' = w.alloc (.cells #[.slice p n c] 22) := by
  go_enter Tryz.func17, Tryz.ntmps17
  go_wp2
  go_ret
  exact ⟨rfl, rfl⟩
theorem KeepBut.cellX {ex : Nat → Prop} {W W' : World} (h : KeepBut ex W W') {b o : Nat} {v : Value} (hb : ¬ ex b) (hc : W.cell? ⟨b, o, none⟩ = some v) : W'.cell? ⟨b, o, none⟩ = some v := by
  rw [World.cell?_of_block (h.2 b (cell_lt hc) hb)]; exact hc
theorem vals_seq (l : List VV) (ab : Nat) (ex : Nat → Prop) (p : Option Addr) (c : Nat) (w : World) (hc : w.cell? ⟨ab, 0, none⟩ = some (.slice p l.length c)) (hab : ¬ ex ab) (hrow : RdV w ex p l) (hl : l.length ≤ 1099511627776) :
    SeqX 34 #[.pointer (some ⟨ab, 0, none⟩)] encVA l ex w := by
  intro n lp J Jx W hW hlp hlo hYo hJb hY h0
  have lab := cell_lt hc
  have hc1 : W.cell? ⟨ab, 0, none⟩ = some (.slice p l.length c) := by rw [hW.cell (p := ⟨ab, 0, none⟩) lab]; exact hc
  have hc2 : ∀ y, KeepBut (fun r => ex r ∨ lp < r) W y → y.cell? ⟨ab, 0, none⟩ = some (.slice p l.length c) := fun y hy => hy.cellX (by rintro (h | h); exact hab h; dsimp only at lab; omega) hc1
  have hrow1 : ∀ (k : Nat) x, l[k]? = some x → ∃ b o, p = some ⟨b, o, none⟩ ∧ ∀ y, KeepBut (fun r => ex r ∨ lp < r) W y → y.cell? ⟨b, o + k * 4, none⟩ = some (.int .i64 x.k) ∧ y.cell? ⟨b, o + k * 4 + 1, none⟩ = some (.float .f64 x.x) ∧ y.cell? ⟨b, o + k * 4 + 2, none⟩ = some (.string x.s) ∧ y.cell? ⟨b, o + k * 4 + 3, none⟩ = some (.int .i64 x.r) := by
    intro k x hk
    obtain ⟨b, o, e, hne, d0, d1, d2, d3⟩ := hrow k x hk
    have lb := cell_lt d0
    have hn : ¬ (ex b ∨ lp < b) := by rintro (h | h); exact hne h; dsimp only at lb; omega
    exact ⟨b, o, e, fun y hy => ⟨hy.cellX hn ((hW.cell (p := ⟨b, o + k * 4, none⟩) lb).trans d0), hy.cellX hn ((hW.cell (p := ⟨b, o + k * 4 + 1, none⟩) lb).trans d1), hy.cellX hn ((hW.cell (p := ⟨b, o + k * 4 + 2, none⟩) lb).trans d2), hy.cellX hn ((hW.cell (p := ⟨b, o + k * 4 + 3, none⟩) lb).trans d3)⟩⟩
  have hY2 : ∀ (k : Nat) x W1, l[k]? = some x → J (l.take k) W1 → YieldAt Fence.wide (n - 1) Tryz.prog lp #[.agg #[.int .i64 x.k, .float .f64 x.x, .string x.s, .int .i64 x.r]] W1 fun e W' =>
      (e = .returned (.bool true) ∧ J (l.take (k + 1)) W' ∧ KeepBut (fun r => ex r ∨ lp < r) W1 W') ∨ (e = .returned (.bool false) ∧ Jx (l.take (k + 1)) W') := by
    intro k x W1 hk hJ1
    have e : l.take (k + 1) = l.take k ++ [x] := by
      have hlt := (List.getElem?_eq_some_iff.1 hk).1
      have hx := (List.getElem?_eq_some_iff.1 hk).2
      rw [List.take_succ_eq_append_getElem hlt, hx]
    rw [e]
    exact hY (l.take k) x W1 hJ1 (by rw [← e]; exact List.take_prefix _ _)
  have h0' : J (l.take 0) W := h0
  have rsf := fun (w : World) (a : Addr) (x : Nat) => run_store Tryz.prog w a (.float .f64 x) .plain rfl
  clear hY hrow hc hW hlp hlo h0 lab hYo hab
  refine callsIn_of_wp Tryz.func34 rfl trivial ?_ rfl
  simp only [Tryz.ntmps34, List.size_toArray, List.length_cons, List.length_nil, Nat.reduceAdd, Nat.reduceSub, Array.replicate_succ, Array.replicate_zero, List.push_toArray, List.append_toArray, List.nil_append, List.cons_append]
  replace hrow1 := Lib.hid hrow1
  replace hY2 := Lib.hid hY2
  replace hc2 := Lib.hid hc2
  replace hJb := Lib.hid hJb
  gi_wp2
  gi_loopw [7] (fun i wr => ∃ k : Nat, k ≤ l.length ∧ i = .int .i64 (k : Int) ∧ J (l.take k) wr ∧ KeepBut (fun r => ex r ∨ lp < r) W wr) (fun i _ => l.length - (intOf i).toNat)
  case atStart => exact ⟨0, Nat.zero_le _, rfl, h0', KeepBut.refl _ _⟩
  case round =>
    obtain ⟨k, hk, rfl, hJs, hkp⟩ := hrel
    rcases Nat.lt_or_ge k l.length with hlt | hge
    · obtain ⟨x, hx⟩ : ∃ x, l[k]? = some x := ⟨_, List.getElem?_eq_getElem hlt⟩
      obtain ⟨b, o, rfl, hcell⟩ := hrow1.out k x hx
      obtain ⟨d0, d1, d2, d3⟩ := hcell wr hkp
      obtain ⟨Wv, hWv⟩ : ∃ Wv, wr.alloc (.cells #[.int .i64 x.k, .float .f64 x.x, .string x.s, .int .i64 x.r] 26) = Wv := ⟨_, rfl⟩
      have dv : Wv.heap[wr.heap.size]? = some (.cells #[.int .i64 x.k, .float .f64 x.x, .string x.s, .int .i64 x.r] 26 (0, 0)) := by rw [← hWv]; exact heap_alloc_new wr _
      have v0 : Wv.cell? ⟨wr.heap.size, 0, none⟩ = some (.int .i64 x.k) := by rw [cell_of_row _ _ 0 _ _ _ dv]; rfl
      have v1 : Wv.cell? ⟨wr.heap.size, 1, none⟩ = some (.float .f64 x.x) := by rw [cell_of_row _ _ 1 _ _ _ dv]; rfl
      have v2 : Wv.cell? ⟨wr.heap.size, 2, none⟩ = some (.string x.s) := by rw [cell_of_row _ _ 2 _ _ _ dv]; rfl
      have v3 : Wv.cell? ⟨wr.heap.size, 3, none⟩ = some (.int .i64 x.r) := by rw [cell_of_row _ _ 3 _ _ _ dv]; rfl
      have hbv : Below wr.heap.size wr Wv := by rw [← hWv]; exact (Below.refl _ wr).alloc (Nat.le_refl _) _
      have hkv : KeepBut (fun r => ex r ∨ lp < r) wr Wv := ⟨hbv.size, fun r hr _ => hbv.block r hr⟩
      obtain ⟨fn, tmps, assign, body, hy, hR⟩ := hY2.out k x Wv hx (hJb.out _ _ _ hJs hbv)
      replace hbv := Lib.hid hbv
      clear dv
      replace hkv := Lib.hid hkv
      have hlt' : (k : Int) < (l.length : Int) := by omega
      clear hx hcell
      gi_wp2
      refine ⟨(fun h => by cases h), hR.mono ?_⟩
      rintro e W3 (⟨rfl, hJ3, hk3⟩ | ⟨rfl, hJx3⟩)
      · gi_wp2
        go_roundw
        case rel => exact ⟨k + 1, by omega, by simp, hJ3, hkp.trans (hkv.out.trans hk3)⟩
        case measure => simp [intOf]; omega
      · gi_wp2
        refine bodyPost_ret (results_none rfl _ _ _) rfl ?_
        exact ⟨⟨_, rfl⟩, .inr ⟨_, hJx3⟩⟩
    · obtain rfl : k = l.length := by omega
      gi_wp2
      go_end0
      rw [List.take_length] at hJs
      exact ⟨⟨_, rfl⟩, .inl hJs⟩
end Go.Proofs.YtkbohoolnpaleaaGreatDoor
namespace Go.Proofs.YtkbohoolnpaleaaGreatDoor
open Go.RowKit Go.Shelf Go.Lib Go.Sort Go.Proofs Go.Maps
set_option linter.unusedVariables false
set_option linter.unusedSimpArgs false
set_option maxHeartbeats 1000000
set_option maxRecDepth 100000

theorem infoKey2 : (Tryz.prog.info? 43).map (·.size) = some 2 := by kernel_rfl
theorem infoValue4' : (Tryz.prog.info? 26).map (·.size) = some 4 := by kernel_rfl
theorem infoDesc : (Tryz.prog.info? 51).map (·.size) = some 14 := by kernel_rfl
theorem c_AName (w : World) : Calls Tryz.prog 22 #[] w fun e w' => e = .returned (.agg #[.string lenB, .int .i64 0]) ∧ Below w.heap.size w w' := by
  have hb := (Below.refl w.heap.size w).alloc (Nat.le_refl _) (.cells #[.string lenB, .int .i64 0] 43)
  unfold lenB at *
  go_enter Tryz.func22, Tryz.ntmps22
  go_wp2
  refine bodyPost_ret (results_cell_row rfl _ _ w.heap.size 43 _ (0, 0) _ rfl (heap_alloc_new w _) Tryz.underlying43 rfl infoKey2) rfl ?_
  exact ⟨rfl, hb⟩
theorem c_ANumber (n : Nat) (w : World) : Calls Tryz.prog 30 #[.int .u32 (n : Int)] w fun e w' => e = .returned (.agg #[.int .i64 3, .float .f64 (fl n), .string ⟨#[]⟩, .int .i64 0]) ∧ Below w.heap.size w w' := by
  have hb := (Below.refl w.heap.size w).alloc (Nat.le_refl _) (.cells #[.int .i64 3, .float .f64 (fl n), .string ⟨#[]⟩, .int .i64 0] 26)
  have hcv := fun w => run_convert_int_float (P := Tryz.prog) (w := w) 35 23 .u32 .f64 (n : Int) (by kernel_rfl) Tryz.underlying23
  have rsf := fun (w : World) (a : Addr) (x : Nat) => run_store Tryz.prog w a (.float .f64 x) .plain rfl
  unfold fl at *
  generalize floatOfInt .f64 (n : Int) = x at *
  go_enter Tryz.func30, Tryz.ntmps30
  go_wp2
  refine bodyPost_ret (results_cell_row rfl _ _ w.heap.size 26 _ (0, 0) _ rfl (heap_alloc_new w _) Tryz.underlying26 rfl infoValue4') rfl ?_
  exact ⟨rfl, hb⟩
theorem c_Trunc (n : Nat) (hn : n < 300) (w : World) : Calls Tryz.prog 37 #[.float .f64 (fl n)] w fun e w' => e = .returned (.float .f64 (fl n)) ∧ w' = w := by
  have hr : (callFunc 50 #[.float .f64 (fl n)]).run Tryz.prog w = .ok (.value (.float .f64 (fl n))) w := by
    have e : ∀ (args : Array Value) (w : World), (callFunc 50 args).run Tryz.prog w = ((Extern.MathFloor.toIntegral "math.archTrunc" .zero args).run Tryz.prog w).andThen fun v w' => .ok (.value v) w' := run_callFunc_extern Tryz.func50 (by kernel_rfl) (by kernel_rfl) (by kernel_rfl) (by kernel_rfl)
    rw [e, trunc_fl n hn]
    rfl
  generalize fl n = x at *
  go_enter Tryz.func37, Tryz.ntmps37
  go_wp2
  go_ret
  exact ⟨rfl, rfl⟩
theorem ord_all : ∀ n : Fin 300, ((FloatKind.f64.format.order (fl n.val) (fl n.val) != some Ordering.eq) = false ∧ (FloatKind.f64.format.order (fl n.val) 0 == some Ordering.lt) = false) ∧ (FloatKind.f64.format.order (fl n.val) 4751297606873776128 == some Ordering.gt) = false ∧ floatToIntVal .f64 (fl n.val) .u32 = some (n.val : Int) := by decide +kernel
theorem c_AWhole (n : Nat) (hn : n < 300) (s : ByteArray) (r : Int) (w : World) : Calls Tryz.prog 23 #[.agg #[.int .i64 3, .float .f64 (fl n), .string s, .int .i64 r]] w fun e w' => e = .returned (.tuple #[.int .u32 (n : Int), .bool true]) ∧ Below w.heap.size w w' := by
  obtain ⟨W1, hW1⟩ : ∃ W1, w.alloc (.cells #[.int .i64 3, .float .f64 (fl n), .string s, .int .i64 r] 26) = W1 := ⟨_, rfl⟩
  have hb1 : Below w.heap.size w W1 := by rw [← hW1]; exact (Below.refl _ w).alloc (Nat.le_refl _) _
  have d1 : W1.heap[w.heap.size]? = some (.cells #[.int .i64 3, .float .f64 (fl n), .string s, .int .i64 r] 26 (0, 0)) := by rw [← hW1]; exact heap_alloc_new w _
  have c0 : W1.cell? ⟨w.heap.size, 0, none⟩ = some (.int .i64 3) := by rw [cell_of_row _ _ 0 _ _ _ d1]; rfl
  have c1 : W1.cell? ⟨w.heap.size, 1, none⟩ = some (.float .f64 (fl n)) := by rw [cell_of_row _ _ 1 _ _ _ d1]; rfl
  obtain ⟨⟨o1, o2⟩, o3, o4⟩ := ord_all ⟨n, hn⟩
  dsimp only at o1 o2 o3 o4
  have hT := fun (y : World) => c_Trunc n hn y
  have hcv := fun w => run_convert_float_int (P := Tryz.prog) w 23 35 .f64 .u32 (fl n) (n : Int) (by kernel_rfl) Tryz.underlying35 o4
  generalize fl n = x at *
  replace hT := Lib.hid hT
  replace hb1 := Lib.hid hb1
  clear d1 o4 hn
  go_enter Tryz.func23, Tryz.ntmps23
  go_upto_region 1 with fail
  go_quiet ((go_at_call 37; exact Calls.quiet_of_same (hT.out _)))
  obtain ⟨W2, hW2⟩ : ∃ W2, W1.drewN nq = W2 := ⟨_, rfl⟩
  rw [hW2]
  have hb2 : Below W1.heap.size W1 W2 := by rw [← hW2]; exact ⟨rfl, rfl, rfl, Nat.le_refl _, fun _ _ => rfl⟩
  have c1' : W2.cell? ⟨w.heap.size, 1, none⟩ = some (.float .f64 x) := by rw [← hW2]; exact c1
  clear hW2
  go_wp2
  go_ret2
  exact ⟨rfl, hb1.out.trans (hb2.mono hb1.out.size)⟩
/-- a key's index -/
def idxK (k : KK) : Option Nat := if 0 < k.2 then none else idxOf (U k.1)
theorem c_AIndex (k : KK) (hk : okK k) (w : World) : Calls Tryz.prog 27 #[.agg #[.string k.1, .int .i64 k.2]] w fun e w' => e = .returned (idxV (idxK k)) ∧ Below w.heap.size w w' := by
  obtain ⟨W1, hW1⟩ : ∃ W1, w.alloc (.cells #[.string k.1, .int .i64 k.2] 43) = W1 := ⟨_, rfl⟩
  have hb1 : Below w.heap.size w W1 := by rw [← hW1]; exact (Below.refl _ w).alloc (Nat.le_refl _) _
  have d1 : W1.heap[w.heap.size]? = some (.cells #[.string k.1, .int .i64 k.2] 43 (0, 0)) := by rw [← hW1]; exact heap_alloc_new w _
  have c0 : W1.cell? ⟨w.heap.size, 0, none⟩ = some (.string k.1) := by rw [cell_of_row _ _ 0 _ _ _ d1]; rfl
  have c1 : W1.cell? ⟨w.heap.size, 1, none⟩ = some (.int .i64 k.2) := by rw [cell_of_row _ _ 1 _ _ _ d1]; rfl
  have hI := fun (y : World) => c_Index k.1 hk.1 y
  unfold idxK
  by_cases hp : 0 < k.2
  · rw [if_pos hp]
    have hV : idxV none = .tuple #[.int .u32 0, .bool false] := rfl
    rw [hV]
    replace hI := Lib.hid hI
    replace hb1 := Lib.hid hb1
    clear d1 hk hV
    go_enter Tryz.func27, Tryz.ntmps27
    go_wp2
    go_ret2
    exact ⟨rfl, hb1.out⟩
  · rw [if_neg hp]
    unfold idxV at *
    generalize ((idxOf (U k.1)).getD 0 : Nat) = q at *
    generalize (idxOf (U k.1)).isSome = bo at *
    replace hI := Lib.hid hI
    replace hb1 := Lib.hid hb1
    clear d1 hk
    go_enter Tryz.func27, Tryz.ntmps27
    go_wp2_with (go_at_call 42; refine (hI.out _).mono ?_; rintro e y ⟨rfl, hb2⟩)
    go_ret2
    exact ⟨rfl, hb1.out.trans (hb2.mono hb1.out.size)⟩
theorem c_AAll (v : VV) (w : World) : Calls Tryz.prog 19 #[.agg #[.int .i64 v.k, .float .f64 v.x, .string v.s, .int .i64 v.r]] w fun e w' => e = .returned (descV 51 (elP v)) ∧ Below w.heap.size w w' := by
  obtain ⟨W1, hW1⟩ : ∃ W1, w.alloc (.cells #[.int .i64 v.k, .float .f64 v.x, .string v.s, .int .i64 v.r] 26) = W1 := ⟨_, rfl⟩
  have hb1 : Below w.heap.size w W1 := by rw [← hW1]; exact (Below.refl _ w).alloc (Nat.le_refl _) _
  have d1 : W1.heap[w.heap.size]? = some (.cells #[.int .i64 v.k, .float .f64 v.x, .string v.s, .int .i64 v.r] 26 (0, 0)) := by rw [← hW1]; exact heap_alloc_new w _
  have c0 : W1.cell? ⟨w.heap.size, 0, none⟩ = some (.int .i64 v.k) := by rw [cell_of_row _ _ 0 _ _ _ d1]; rfl
  have c1 : W1.cell? ⟨w.heap.size, 1, none⟩ = some (.float .f64 v.x) := by rw [cell_of_row _ _ 1 _ _ _ d1]; rfl
  have c2 : W1.cell? ⟨w.heap.size, 2, none⟩ = some (.string v.s) := by rw [cell_of_row _ _ 2 _ _ _ d1]; rfl
  have c3 : W1.cell? ⟨w.heap.size, 3, none⟩ = some (.int .i64 v.r) := by rw [cell_of_row _ _ 3 _ _ _ d1]; rfl
  obtain ⟨W2, hW2⟩ : ∃ W2, W1.alloc (.cells (encD 0 zeroPV).toArray 51) = W2 := ⟨_, rfl⟩
  have hb2 : Below W1.heap.size W1 W2 := by rw [← hW2]; exact (Below.refl _ W1).alloc (Nat.le_refl _) _
  have d2 : W2.heap[W1.heap.size]? = some (.cells (encD 0 zeroPV).toArray 51 (0, 0)) := by rw [← hW2]; exact heap_alloc_new W1 _
  have l1 := heapH_lt d1
  rw [← World.cell?_of_block (w := W1) (w' := W2) (a := ⟨w.heap.size, 0, none⟩) (hb2.block _ l1)] at c0
  rw [← World.cell?_of_block (w := W1) (w' := W2) (a := ⟨w.heap.size, 1, none⟩) (hb2.block _ l1)] at c1
  rw [← World.cell?_of_block (w := W1) (w' := W2) (a := ⟨w.heap.size, 2, none⟩) (hb2.block _ l1)] at c2
  rw [← World.cell?_of_block (w := W1) (w' := W2) (a := ⟨w.heap.size, 3, none⟩) (hb2.block _ l1)] at c3
  have hth := there_of (n := 14) (o := 0) d2 (by simp [encD, encP])
  have hi14 : (Tryz.prog.info? 51).map (·.size) = some (encD 51 (elP v)).toArray.size := infoDesc
  have ho14 : ((encD 51 (elP v)).toArray).all (·.oneCell') = true := all_oneCell_toArray (fun u hu => by
    rcases List.mem_cons.1 hu with rfl | h
    · rfl
    · exact encP_one _ u h)
  have hz := heap_setCells_all (t := 51) (vs := encD 51 (elP v)) d2 rfl
  have hfin : Below w.heap.size w (W2.setCells W1.heap.size 0 (encD 51 (elP v))) := below_setC (hb1.trans (hb2.mono hb1.size)) hb1.size _ _
  have hE := Lib.hid (show encD 51 (elP v) = _ from rfl)
  simp only [encD, encP, zeroPV, zeroVV, List.cons_append, List.nil_append] at hW2
  unfold descV
  replace hz := Lib.hid hz
  replace hfin := Lib.hid hfin
  clear d1 d2 hb1 hb2 l1 hE
  go_enter Tryz.func19, Tryz.ntmps19
  go_wp2_with (first | (refine wpList_store_mid (by rfl) 51 _ _ (by rfl) W1.heap.size 0 (encD 51 (elP v)).toArray (by rfl) (by rfl) hth hi14 ho14 ?_))
  refine bodyPost_ret (results_cell_row rfl _ _ W1.heap.size 51 _ (0, 0) _ rfl hz.out Tryz.underlying51 rfl infoDesc) rfl ?_
  exact ⟨rfl, hfin.out⟩
end Go.Proofs.YtkbohoolnpaleaaGreatDoor
namespace Go.Proofs.YtkbohoolnpaleaaGreatDoor
open Go.RowKit Go.Shelf Go.Lib Go.Sort Go.Proofs Go.Maps
set_option linter.unusedVariables false
set_option linter.unusedSimpArgs false
set_option maxHeartbeats 1000000
set_option maxRecDepth 100000

def zeroA : Array Value := #[.int .i64 0, .float .f64 0, .string ⟨#[]⟩, .int .i64 0, .int .i64 0, .float .f64 0, .string ⟨#[]⟩, .int .i64 0, .int .i64 0, .float .f64 0, .string ⟨#[]⟩, .int .i64 0, .int .i64 0]
theorem zeroA_there (w : World) : (w.alloc (.cells zeroA 39)).there w.heap.size 0 13 := there_of (heap_alloc_new w _) (Nat.le_refl 13)
theorem zeroA_set (w : World) (P : PV) : Below w.heap.size w ((w.alloc (.cells zeroA 39)).setCells w.heap.size 0 (encP P)) ∧ ((w.alloc (.cells zeroA 39)).setCells w.heap.size 0 (encP P)).heap[w.heap.size]? = some (.cells (encP P).toArray 39 (0, 0)) := by
  obtain ⟨h1, h2, _⟩ := fresh_set (w := w) (o := zeroA) (t := 39) (vs := encP P) rfl
  exact ⟨h1, h2⟩
section
variable {ex : Nat → Prop} {N : Nat} {w0 w w' : World} {lim : Int} {hb B : Nat} {l : List (KK × PV)}
theorem c_ALength (h : AS ex N w0 lim hb B l w) (n : Nat) (hn : n < 300) (hl : getL l kL = some (lenP n)) : Calls Tryz.prog 8 #[.pointer (some ⟨hb, 0, none⟩), .int .i64 1] w fun e w' => e = .returned (.tuple #[.int .u32 (n : Int), .bool true]) ∧ Below w.heap.size w w' := by
  have hH := as_has h
  have hC := as_class h
  have hO := fun (y : World) (hy : Below w.heap.size w y) => as_own (h.keep hy) kL kL_ok
  rw [kL_pk, hl] at hO
  have hN := fun (y : World) => c_AName y
  have hW := fun (y : World) => c_AWhole n hn ⟨#[]⟩ 0 y
  have hq := fun (y : World) => zeroA_set y (lenP n)
  have hth := fun (y : World) => (zeroA_there y : (y.alloc (.cells zeroA 39)).there y.heap.size 0 (encP (lenP n)).toArray.size)
  have hi13 : (Tryz.prog.info? 39).map (·.size) = some (encP (lenP n)).toArray.size := infoProp
  have ho13 := all_oneCell_toArray (encP_one (lenP n))
  have hcell := fun (y : World) (b : Nat) (hy : y.heap[b]? = some (.cells (encP (lenP n)).toArray 39 (0, 0))) => cellsP hy
  unfold zeroA at hth
  simp only [Option.getD_some, Option.isSome_some] at hO
  have e1 : kL.1 = lenB := rfl
  have e2 : kL.2 = 0 := rfl
  rw [e1, e2] at hO
  generalize hP : lenP n = P at *
  have hPv : P.v = numV n := by rw [← hP]; rfl
  have hPf : P.fl = 1 := by rw [← hP]; rfl
  rw [hPv, hPf] at hcell
  unfold numV at hcell
  dsimp only at hcell
  replace hH := Lib.hid hH
  replace hC := Lib.hid hC
  replace hO := Lib.hid hO
  replace hN := Lib.hid hN
  replace hW := Lib.hid hW
  replace hq := Lib.hid hq
  replace hcell := Lib.hid hcell
  clear h hl hn hP hPv hPf e1 e2
  have tokA : True := trivial
  go_enter Tryz.func8, Tryz.ntmps8
  go_wp2_with (first | (go_at_call 20; refine hH.out.mono ?_; rintro e y ⟨rfl, e1⟩; cases e1) | (go_at_call 21; refine hC.out.mono ?_; rintro e y ⟨rfl, e1⟩; cases e1) | (go_at_call 22; refine (hN.out _).mono ?_; rintro e y1 ⟨rfl, hb1⟩) | (go_at_call 9; refine (hO.out _ hb1).mono ?_; rintro e y2 ⟨rfl, hb2⟩; have hth2 := hth y2; obtain ⟨hq2, hd2⟩ := hq.out y2) | (clear tokA; refine wpList_store_mid rfl 39 (.tmp 6) (.tmp 23) rfl y2.heap.size 0 (encP P).toArray rfl rfl hth2 hi13 ho13 ?_; generalize hW3 : World.setCells _ _ _ _ = W3; rw [show (y2.alloc (.cells zeroA 39)).setCells y2.heap.size 0 (encP P) = W3 from hW3] at hq2 hd2; clear hW3 hth2; obtain ⟨⟨a0, a1, a2, a3⟩, -, -, a12⟩ := hcell.out W3 _ hd2) | (go_at_call 23; refine (hW.out _).mono ?_; rintro e y4 ⟨rfl, hb4⟩))
  go_ret2
  have hb3 := hb1.trans ((hb2.trans (hq2.mono hb2.size)).mono hb1.size)
  exact ⟨rfl, hb3.trans (hb4.mono hb3.size)⟩
theorem rangeL {y : World} {b : Nat} {t : TypeId} {xs : List Value} (h : y.heap[b]? = some (.cells xs.toArray t (0, 0))) : y.rangeAt b 0 xs := fun j v hv => by
  rw [Nat.zero_add, cell_of_row _ _ j _ _ _ h]
  simpa using hv
theorem thereS (P : PV) (y : World) (b : Nat) (h : y.there b 0 13) : (storeCells ⟨b, 0, none⟩ (encP P)).run Tryz.prog y = .ok () (y.setCells b 0 (encP P)) := by
  have := run_storeCells_cells (P := Tryz.prog) b 0 (encP P) 0 y (fun j hj => by simpa using (h j hj).1) (fun j hj => by simpa using (h j hj).2) (encP_one P)
  simpa using this
theorem there_below {y y' : World} {b n : Nat} (h : y.there b 0 n) (hn : 0 < n) (hb : Below y.heap.size y y') : y'.there b 0 n := fun j hj => by
  obtain ⟨h1, h2⟩ := h j hj
  have hl : b < y.heap.size := by
    cases hc : y.cell? ⟨b, 0 + j, none⟩ with
    | none => rw [hc] at h1; cases h1
    | some v => exact cell_lt hc
  have e := hb.block b hl
  exact ⟨by rw [World.cell?_of_block (w := y) (a := ⟨b, 0 + j, none⟩) e]; exact h1, by unfold World.frozen? at *; rw [e]; exact h2⟩
/-- S of Define's region -/
abbrev DfS (W : World) (y : World) : Prop := (∀ a : Addr, a.block < W.heap.size → y.cell? a = W.cell? a) ∧ Below W.heap.size W y
theorem dfS_drew (W : World) : DfS W W.drew := ⟨fun _ _ => rfl, (Below.refl _ W).drew⟩
theorem dfS_below {W y y' : World} (h : DfS W y) (hb : Below y.heap.size y y') : DfS W y' := by
  have h2 := h.2.trans (hb.mono h.2.size)
  exact ⟨fun a ha => h2.cell ha, h2⟩
theorem dfS_alloc {W y : World} (h : DfS W y) (o : Obj) : DfS W (y.alloc o) := dfS_below h ((Below.refl _ y).alloc (Nat.le_refl _) o)
theorem dfS_set {W y : World} (h : DfS W y) {b : Nat} (hb : W.heap.size ≤ b) (vs : List Value) : DfS W (y.setCells b 0 vs) := by
  have h2 := below_setC h.2 hb vs 0
  exact ⟨fun a ha => h2.cell ha, h2⟩
theorem dfS_fresh (W : World) (o : Obj) : DfS W (W.alloc o).drew := dfS_below (dfS_drew W) (y' := (W.alloc o).drew) ((Below.refl _ W.drew).alloc (Nat.le_refl _) o)
theorem dfS_setF {W y y0 : World} (h0 : DfS W y0) (h : DfS W y) (vs : List Value) : DfS W (y.setCells y0.heap.size 0 vs) := dfS_set h h0.2.size vs
theorem c_ODefine (h : AS ex N w0 lim hb B l w) (hB1 : 128 ≤ B) (hB : B < 90000) (hn : l.length ≤ 1000) (hl : (l.length : Int) + 1 < lim) (k : KK) (hk : okK k) (has : Int) (D R : PV) (hf : 0 ≤ R.fl ∧ R.fl ≤ 15) (hp : keptP R = R)
    (hM : ∀ y, Calls Tryz.prog 44 #[.agg (encP ((getL l (pk k)).getD zeroPV)).toArray, .bool (getL l (pk k)).isSome, .bool true, descV has D] y fun e w' => e = .returned (.tuple #[propV R, .bool true]) ∧ Below y.heap.size y w') :
    Calls Tryz.prog 29 #[.pointer (some ⟨hb, 0, none⟩), .int .i64 1, .agg #[.string k.1, .int .i64 k.2], descV has D] w fun e w' => e = .returned (.tuple #[.bool true, .int .i64 0]) ∧ AS ex N w0 lim hb (B + 2) (putL l (pk k) R) w' ∧ KeepBut (fun r => ex r ∨ N ≤ r) w w' := by
  obtain ⟨W1, hW1⟩ : ∃ W1, w.alloc (.cells #[.string k.1, .int .i64 k.2] 43) = W1 := ⟨_, rfl⟩
  obtain ⟨W2, hW2⟩ : ∃ W2, W1.alloc (.cells (encD has D).toArray 51) = W2 := ⟨_, rfl⟩
  have hb1 : Below w.heap.size w W1 := by rw [← hW1]; exact (Below.refl _ w).alloc (Nat.le_refl _) _
  have hb2 : Below W1.heap.size W1 W2 := by rw [← hW2]; exact (Below.refl _ W1).alloc (Nat.le_refl _) _
  have d1 : W1.heap[w.heap.size]? = some (.cells #[.string k.1, .int .i64 k.2] 43 (0, 0)) := by rw [← hW1]; exact heap_alloc_new w _
  have d2 : W2.heap[W1.heap.size]? = some (.cells (encD has D).toArray 51 (0, 0)) := by rw [← hW2]; exact heap_alloc_new W1 _
  have l1 := heapH_lt d1
  have l2 := heapH_lt d2
  have hbw : Below w.heap.size w W2 := hb1.trans (hb2.mono hb1.size)
  have hk' : ∀ y, Below W2.heap.size W2 y → (y.cell? ⟨w.heap.size, 0, none⟩ = some (.string k.1) ∧ y.cell? ⟨w.heap.size, 1, none⟩ = some (.int .i64 k.2)) ∧ y.heap[W1.heap.size]? = some (.cells (encD has D).toArray 51 (0, 0)) := fun y hy => by
    have e := (hy.block w.heap.size (Nat.lt_of_lt_of_le l1 hb2.size)).trans ((hb2.block _ l1).trans d1)
    exact ⟨⟨by rw [cell_of_row _ _ 0 _ _ _ e]; rfl, by rw [cell_of_row _ _ 1 _ _ _ e]; rfl⟩, (hy.block _ l2).trans d2⟩
  have hA := fun (y : World) (hy : Below w.heap.size w y) => h.keep hy
  have hH := as_has (h.keep hbw)
  have hOw := as_own (h.keep hbw) k hk
  have hOp := fun (y : World) (hy : Below w.heap.size w y) => as_open (h.keep hy)
  have hPu := fun (y : World) (hy : Below w.heap.size w y) => as_put (h.keep hy) hB1 hB hn hl k hk R hf hp
  obtain ⟨c0, c1⟩ := (hk' W2 (Below.refl _ _)).1
  generalize (getL l (pk k)).getD zeroPV = Q at *
  generalize (getL l (pk k)).isSome = bi at *
  have hq := fun (y : World) (P : PV) => zeroA_set y P
  have hth := fun (y : World) => zeroA_there y
  have hthD : ∀ y : World, ((y.alloc (.cells zeroA 39)).drew).there y.heap.size 0 13 := fun y => zeroA_there y
  have hi13 : ∀ P : PV, (Tryz.prog.info? 39).map (·.size) = some (encP P).toArray.size := fun P => infoProp
  have ho13 := fun P : PV => all_oneCell_toArray (encP_one P)
  have hcD := fun (y : World) (hy : y.heap[W1.heap.size]? = some (.cells (encD has D).toArray 51 (0, 0))) => cellsD hy
  have hcP := fun (y : World) (b : Nat) (hy : y.heap[b]? = some (.cells (encP Q).toArray 39 (0, 0))) => cellsP hy
  have hst := fun (y : World) (b : Nat) (h : y.there b 0 13) => thereS R y b h
  unfold zeroA at hth hthD
  unfold descV propV at *
  have hER13 := encP_one R
  have hELn : (encP R).length = 13 := rfl
  have hz13 : ∀ (y : World) (b : Nat) (cs : Array Value), y.heap[b]? = some (.cells cs 39 (0, 0)) → cs.size = 13 → (y.setCells b 0 (encP R)).heap[b]? = some (.cells (encP R).toArray 39 (0, 0)) := fun y b cs h1 h2 => heap_setCells_all (t := 39) (vs := encP R) h1 (by rw [h2]; rfl)
  generalize hER : encP R = ER at *
  replace hz13 := Lib.hid hz13
  replace hER := Lib.hid hER
  replace hER13 := Lib.hid hER13
  replace hELn := Lib.hid hELn
  replace hA := Lib.hid hA
  replace hH := Lib.hid hH
  replace hOw := Lib.hid hOw
  replace hOp := Lib.hid hOp
  replace hPu := Lib.hid hPu
  replace hM := Lib.hid hM
  replace hk' := Lib.hid hk'
  replace hq := Lib.hid hq
  replace hcD := Lib.hid hcD
  replace hcP := Lib.hid hcP
  replace hbw := Lib.hid hbw
  replace hi13 := Lib.hid hi13
  replace ho13 := Lib.hid ho13
  have hEQ := encP_one Q
  clear h d1 d2 l1 l2 hb1 hb2 hk hf hp hn hl hEQ
  have tokA : True := trivial
  go_enter Tryz.func29, Tryz.ntmps29
  go_upto_region 4 with (first | (go_at_call 20; refine hH.out.mono ?_; rintro e y ⟨rfl, e1⟩; cases e1) | (go_at_call 9; refine hOw.out.mono ?_; rintro e y2 ⟨rfl, hb2⟩; have hth2 := hth y2; obtain ⟨hq2, hd2⟩ := hq.out y2 Q) | (clear tokA; refine wpList_store_mid rfl 39 (.tmp 10) (.tmp 24) rfl y2.heap.size 0 (encP Q).toArray rfl rfl hth2 (hi13.out Q) (ho13.out Q) ?_; generalize hW3 : World.setCells _ _ _ _ = W3; rw [show (y2.alloc (.cells zeroA 39)).setCells y2.heap.size 0 (encP Q) = W3 from hW3] at hq2 hd2; clear hW3 hth2))
  have hB3 : Below W2.heap.size W2 W3 := hb2.trans (hq2.mono hb2.size)
  obtain ⟨⟨k0, k1⟩, hdd⟩ := hk'.out W3 hB3
  obtain ⟨x0, ⟨x1, x2, x3, x4⟩, ⟨x5, x6, x7, x8⟩, ⟨x9, x10, x11, x12⟩, x13⟩ := hcD.out W3 hdd
  obtain ⟨⟨a0, a1, a2, a3⟩, ⟨a4, a5, a6, a7⟩, ⟨a8, a9, a10, a11⟩, a12⟩ := hcP.out W3 _ hd2
  have l2 := heapH_lt hd2
  have l3 := heapH_lt hdd
  have l4 : w.heap.size < W3.heap.size := cell_lt k0
  have hS0 := dfS_drew W3
  have hSw : ∀ y, DfS W3 y → Below w.heap.size w y := fun y hy => hbw.out.trans ((hB3.trans (hy.2.mono hB3.size)).mono hbw.out.size)
  replace hSw := Lib.hid hSw
  replace hB3 := Lib.hid hB3
  clear hdd hd2 hq2 hb2 c0 c1
  replace hM := hM.out
  unfold encD at hM
  simp only [encP, List.cons_append, List.nil_append] at hM
  replace hM := Lib.hid hM
  go_region_held3 (fun y => (∀ a : Addr, a.block < W3.heap.size → y.cell? a = W3.cell? a) ∧ Below W3.heap.size W3 y) (first | with_reducible assumption | with_reducible exact hS0 | with_reducible exact dfS_below (by assumption) (by assumption) | with_reducible exact dfS_fresh _ _ | with_reducible exact dfS_alloc (by assumption) _ | with_reducible exact dfS_set (by assumption) (Nat.le_refl _) _ | with_reducible exact dfS_set (by assumption) hs6 _) (first | (go_at_call 45; refine (hOp.out _ (hSw.out _ (by assumption))).mono ?_; rintro e y5 ⟨rfl, e1⟩; cases e1) | (go_at_call 44; refine (hM.out _).mono ?_; rintro e y6 ⟨rfl, hb6⟩; have hs6 : W3.heap.size ≤ y6.heap.size := Nat.le_trans (Below.size (And.right (show DfS W3 _ by assumption))) hb6.size; first | (have hth6 := there_below (hth _) (by decide) hb6) | (have hth6 := there_below (hthD _) (by decide) hb6) | skip))
  all_goals have hi13E : (Tryz.prog.info? 39).map (·.size) = some ER.length := by rw [hELn.out]; exact infoProp
  · have hS9 : DfS W3 ((y6.alloc (.cells #[.int .i64 0, .float .f64 0, .string ⟨#[]⟩, .int .i64 0, .int .i64 0, .float .f64 0, .string ⟨#[]⟩, .int .i64 0, .int .i64 0, .float .f64 0, .string ⟨#[]⟩, .int .i64 0, .int .i64 0] 39)).setCells y6.heap.size 0 ER) := by assumption
    have dz := hz13.out _ y6.heap.size _ (heap_alloc_new y6 (.cells #[.int .i64 0, .float .f64 0, .string ⟨#[]⟩, .int .i64 0, .int .i64 0, .float .f64 0, .string ⟨#[]⟩, .int .i64 0, .int .i64 0, .float .f64 0, .string ⟨#[]⟩, .int .i64 0, .int .i64 0] 39)) rfl
    obtain ⟨W9, hW9⟩ : ∃ W9, (y6.alloc (.cells #[.int .i64 0, .float .f64 0, .string ⟨#[]⟩, .int .i64 0, .int .i64 0, .float .f64 0, .string ⟨#[]⟩, .int .i64 0, .int .i64 0, .float .f64 0, .string ⟨#[]⟩, .int .i64 0, .int .i64 0] 39)).setCells y6.heap.size 0 ER = W9 := ⟨_, rfl⟩
    rw [hW9] at hS9 dz ⊢
    have hB9 := hSw.out _ hS9
    have hrg := rangeL dz
    have hPu9 := Lib.hid (hPu.out W9 hB9)
    have hkk := (hk'.out W9 (hB3.out.trans (hS9.2.mono hB3.out.size))).1
    replace hB9 := Lib.hid hB9
    clear a0 a1 a2 a3 a4 a5 a6 a7 a8 a9 a10 a11 a12 x0 x1 x2 x3 x4 x5 x6 x7 x8 x9 x10 x11 x12 x13 k0 k1 hW9 dz hS9 hs6 hst hth hthD hS0 l2 l3 l4
    obtain ⟨k0, k1⟩ := hkk
    go_wp2_with (first | (refine wpList_load_mid rfl 39 (.tmp 12) rfl y6.heap.size 0 rfl ER _ hrg Tryz.underlying39 rfl hi13E ?_) | (go_at_call 31; refine hPu9.out.mono ?_; rintro e y10 ⟨rfl, hA10, hK10⟩))
    go_ret2
    exact ⟨rfl, hA10, KeepBut.trans ⟨hB9.out.size, fun r hr _ => hB9.out.block r hr⟩ hK10⟩
  · have hS9 : DfS W3 (y6.setCells W3.heap.size 0 ER) := by assumption
    have dz := hz13.out _ W3.heap.size _ ((hb6.block _ (by simp)).trans (heap_alloc_new W3 (.cells #[.int .i64 0, .float .f64 0, .string ⟨#[]⟩, .int .i64 0, .int .i64 0, .float .f64 0, .string ⟨#[]⟩, .int .i64 0, .int .i64 0, .float .f64 0, .string ⟨#[]⟩, .int .i64 0, .int .i64 0] 39))) rfl
    obtain ⟨W9, hW9⟩ : ∃ W9, y6.setCells W3.heap.size 0 ER = W9 := ⟨_, rfl⟩
    rw [hW9] at hS9 dz ⊢
    have hB9 := hSw.out _ hS9
    have hrg := rangeL dz
    have hPu9 := Lib.hid (hPu.out W9 hB9)
    have hkk := (hk'.out W9 (hB3.out.trans (hS9.2.mono hB3.out.size))).1
    replace hB9 := Lib.hid hB9
    clear a0 a1 a2 a3 a4 a5 a6 a7 a8 a9 a10 a11 a12 x0 x1 x2 x3 x4 x5 x6 x7 x8 x9 x10 x11 x12 x13 k0 k1 hW9 dz hS9 hs6 hst hth hthD hS0 l2 l3 l4
    obtain ⟨k0, k1⟩ := hkk
    go_wp2_with (first | (refine wpList_load_mid rfl 39 (.tmp 12) rfl W3.heap.size 0 rfl ER _ hrg Tryz.underlying39 rfl hi13E ?_) | (go_at_call 31; refine hPu9.out.mono ?_; rintro e y10 ⟨rfl, hA10, hK10⟩))
    go_ret2
    exact ⟨rfl, hA10, KeepBut.trans ⟨hB9.out.size, fun r hr _ => hB9.out.block r hr⟩ hK10⟩
  · have hS9 : DfS W3 (y6.setCells W3.heap.size 0 ER) := by assumption
    have dz := hz13.out _ W3.heap.size _ ((hb6.block _ (by simp)).trans (heap_alloc_new W3 (.cells #[.int .i64 0, .float .f64 0, .string ⟨#[]⟩, .int .i64 0, .int .i64 0, .float .f64 0, .string ⟨#[]⟩, .int .i64 0, .int .i64 0, .float .f64 0, .string ⟨#[]⟩, .int .i64 0, .int .i64 0] 39))) rfl
    obtain ⟨W9, hW9⟩ : ∃ W9, y6.setCells W3.heap.size 0 ER = W9 := ⟨_, rfl⟩
    rw [hW9] at hS9 dz ⊢
    have hB9 := hSw.out _ hS9
    have hrg := rangeL dz
    have hPu9 := Lib.hid (hPu.out W9 hB9)
    have hkk := (hk'.out W9 (hB3.out.trans (hS9.2.mono hB3.out.size))).1
    replace hB9 := Lib.hid hB9
    clear a0 a1 a2 a3 a4 a5 a6 a7 a8 a9 a10 a11 a12 x0 x1 x2 x3 x4 x5 x6 x7 x8 x9 x10 x11 x12 x13 k0 k1 hW9 dz hS9 hs6 hst hth hthD hS0 l2 l3 l4
    obtain ⟨k0, k1⟩ := hkk
    go_wp2_with (first | (refine wpList_load_mid rfl 39 (.tmp 12) rfl W3.heap.size 0 rfl ER _ hrg Tryz.underlying39 rfl hi13E ?_) | (go_at_call 31; refine hPu9.out.mono ?_; rintro e y10 ⟨rfl, hA10, hK10⟩))
    go_ret2
    exact ⟨rfl, hA10, KeepBut.trans ⟨hB9.out.size, fun r hr _ => hB9.out.block r hr⟩ hK10⟩
end
end Go.Proofs.YtkbohoolnpaleaaGreatDoor
