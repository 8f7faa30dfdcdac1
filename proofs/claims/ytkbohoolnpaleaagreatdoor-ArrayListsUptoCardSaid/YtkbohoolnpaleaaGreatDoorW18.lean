/-
  Contracts: The contract of array.shrink at the example: a length of three becomes one. The contracts of array.resize, and of array.Define of a length, at the example. The contract of the law's awake. The law's sums of lengths; a list of values and one more behind it. How an argument that is a list of values, or a value, is read. The walk of the law ArrayLists.
-/
import Derived.Test.YtkbohoolnpaleaaGreatDoorW17
import Derived.Deep.LoopGhost
import Derived.Test.YtkbohoolnpaleaaGreatDoorW16
import Derived.Deep.AppendLies
import Derived.Laws.OwnMore
import Derived.OwnWalk
import Derived.Test.YtkbohoolnpaleaaGreatDoorRows
import Derived.Deep.SlicePairs
import Derived.ProofKit
import Derived.OpenShut
import Derived.JoinedCond
import Derived.Carry
import Derived.Lib.SmallJoins
import Derived.Test.YtkbohoolnpaleaaGreatDoorW7
import Derived.Deep.DeepCutAuto
namespace Go.Proofs.YtkbohoolnpaleaaGreatDoor
open Go.RowKit Go.Shelf Go.Lib Go.Sort Go.Proofs Go.Maps
set_option linter.unusedVariables false
set_option linter.unusedSimpArgs false
set_option maxHeartbeats 1000000
set_option maxRecDepth 100000

def oneP : PV := ⟨numV 1, zeroVV, zeroVV, 0⟩
def threeP : PV := ⟨numV 3, zeroVV, zeroVV, 0⟩
def zeroDs : Array Value := #[.int .i64 0, .int .i64 0, .float .f64 0, .string ⟨#[]⟩, .int .i64 0, .int .i64 0, .float .f64 0, .string ⟨#[]⟩, .int .i64 0, .int .i64 0, .float .f64 0, .string ⟨#[]⟩, .int .i64 0, .int .i64 0]
theorem encD_one (has : Int) (D : PV) : ∀ u ∈ encD has D, u.oneCell' = true := fun u hu => by
  rcases List.mem_cons.1 hu with rfl | h
  · rfl
  · exact encP_one _ u h
theorem zeroDs_set (w : World) (D : PV) : (Below w.heap.size w ((w.alloc (.cells zeroDs 51)).setCells w.heap.size 0 (encD 1 D)) ∧ ((w.alloc (.cells zeroDs 51)).setCells w.heap.size 0 (encD 1 D)).heap[w.heap.size]? = some (.cells (encD 1 D).toArray 51 (0, 0))) ∧ (w.alloc (.cells zeroDs 51)).there w.heap.size 0 14 := by
  obtain ⟨h1, h2, _⟩ := fresh_set (w := w) (o := zeroDs) (t := 51) (vs := encD 1 D) rfl
  exact ⟨⟨h1, h2⟩, there_of (heap_alloc_new w _) (Nat.le_refl 14)⟩
theorem exSel1 : exL 1 = [(kL, lenP 3), (kI 0, elP zeroVV), (kI 1, elP zeroVV)] := rfl
theorem exSel2 : exL 2 = [(kL, lenP 3), (kI 0, elP zeroVV)] := rfl
theorem ex_idx0 : idx (gk (exL 0)) (pk (kI 2)) = some 3 := by decide +kernel
theorem ex_idx1 : idx (gk (exL 1)) (pk (kI 1)) = some 2 := by decide +kernel
theorem ex_idx2 : idx (gk (exL 2)) (pk kL) = some 0 := by decide +kernel
theorem ex_get0 : getL (exL 0) (pk (kI 2)) = some (elP zeroVV) := getL_some ex_idx0 rfl
theorem ex_get1 : getL (exL 1) (pk (kI 1)) = some (elP zeroVV) := getL_some ex_idx1 rfl
theorem ex_get2 : getL (exL 2) (pk kL) = some (lenP 3) := getL_some ex_idx2 rfl
theorem ex_put2 : putL (exL 2) (pk kL) (lenP 1) = arrL kL kI [zeroVV] := by
  unfold putL
  rw [ex_idx2]
  rfl
theorem ex_last {y : World} {v : Value} {Z : List KK} (s : Nat) (hs : s < 3) (a : Nat) (b : Bool) (hab : (if s = 0 then (2, true) else if s = 1 then (1, true) else ((0, false) : Nat × Bool)) = (a, b)) (hRd : RdK y v Z) (hKO : KeysOf (gk (exL s)) Z) (bn bo : Nat) (hn : y.heap[bn]? = some (.cells #[.int .u32 1] 35 (0, 0))) (ho : y.heap[bo]? = some (.cells #[.int .u32 3] 35 (0, 0))) :
    Calls Tryz.prog 62 #[v, .func (.func 61) #[] #[.pointer (some ⟨bn, 0, none⟩), .pointer (some ⟨bo, 0, none⟩)]] y fun e w' => e = .returned (.tuple #[.int .u32 (a : Int), .bool b]) ∧ Below y.heap.size y w' := by
  have h1 := exLast s hs Z hKO
  obtain ⟨h2, h3⟩ := exZ s hs Z hKO
  have hl : Z.length ≤ 1000 := by
    have e := congrArg List.length h2
    simp only [List.length_map] at e
    rw [e]
    have : s = 0 ∨ s = 1 ∨ s = 2 := by omega
    rcases this with rfl | rfl | rfl <;> decide
  have hc := c_ALast v Z bn bo y hRd h3 (by rw [cell_of_row _ _ 0 _ _ _ hn]; rfl) (by rw [cell_of_row _ _ 0 _ _ _ ho]; rfl) hl
  rw [h1, hab] at hc
  exact hc
section
variable {ex : Nat → Prop} {N : Nat} {w0 w w' : World} {lim : Int} {hb B : Nat}
theorem c_AShrink (h : AS ex N w0 lim hb B (exL 0) w) (hB1 : 128 ≤ B) (hB : B + 2 < 90000) (hl : 10 < lim) :
    Calls Tryz.prog 43 #[.pointer (some ⟨hb, 0, none⟩), .int .i64 1, .int .u32 3, .int .u32 1, descV 1 oneP] w fun e w' => e = .returned (.tuple #[.bool true, .bool false, .int .i64 0]) ∧ AS ex N w0 lim hb (B + 2) (arrL kL kI [zeroVV]) w' ∧ KeepBut (fun r => ex r ∨ N ≤ r) w w' := by
  obtain ⟨ex', hx1, hx2, hx3⟩ := h.start2
  obtain ⟨W1, hW1⟩ : ∃ W1, w.alloc (.cells #[.int .u32 3] 35) = W1 := ⟨_, rfl⟩
  obtain ⟨W2, hW2⟩ : ∃ W2, W1.alloc (.cells #[.int .u32 1] 35) = W2 := ⟨_, rfl⟩
  obtain ⟨W3, hW3⟩ : ∃ W3, W2.alloc (.cells (encD 1 oneP).toArray 51) = W3 := ⟨_, rfl⟩
  have hb1 : Below w.heap.size w W1 := by rw [← hW1]; exact (Below.refl _ w).alloc (Nat.le_refl _) _
  have hb2 : Below W1.heap.size W1 W2 := by rw [← hW2]; exact (Below.refl _ W1).alloc (Nat.le_refl _) _
  have hb3 : Below W2.heap.size W2 W3 := by rw [← hW3]; exact (Below.refl _ W2).alloc (Nat.le_refl _) _
  have d1 : W1.heap[w.heap.size]? = some (.cells #[.int .u32 3] 35 (0, 0)) := by rw [← hW1]; exact heap_alloc_new w _
  have d2 : W2.heap[W1.heap.size]? = some (.cells #[.int .u32 1] 35 (0, 0)) := by rw [← hW2]; exact heap_alloc_new W1 _
  have d3 : W3.heap[W2.heap.size]? = some (.cells (encD 1 oneP).toArray 51 (0, 0)) := by rw [← hW3]; exact heap_alloc_new W2 _
  have l1 := heapH_lt d1
  have l2 := heapH_lt d2
  have l3 := heapH_lt d3
  have hbw2 : Below w.heap.size w W2 := hb1.trans (hb2.mono hb1.size)
  have hbw : Below w.heap.size w W3 := hbw2.trans (hb3.mono hbw2.size)
  have hk' : ∀ y : World, Below W3.heap.size W3 y → (y.heap[w.heap.size]? = some (.cells #[.int .u32 3] 35 (0, 0)) ∧ y.heap[W1.heap.size]? = some (.cells #[.int .u32 1] 35 (0, 0))) ∧ y.heap[W2.heap.size]? = some (.cells (encD 1 oneP).toArray 51 (0, 0)) := fun y hy =>
    ⟨⟨(hy.block _ (Nat.lt_of_lt_of_le (Nat.lt_of_lt_of_le l1 hb2.size) hb3.size)).trans ((hb3.block _ (Nat.lt_of_lt_of_le l1 hb2.size)).trans ((hb2.block _ l1).trans d1)), (hy.block _ (Nat.lt_of_lt_of_le l2 hb3.size)).trans ((hb3.block _ l2).trans d2)⟩, (hy.block _ l3).trans d3⟩
  have hOwn := fun (y : World) (hy : Below w.heap.size w y) => as_own (hx3 y hy) kL kL_ok
  have hgl : getL (exL 0) kL = some (lenP 3) := arr_len_get [zeroVV, zeroVV, zeroVV]
  rw [kL_pk, hgl] at hOwn
  have hNm := fun (y : World) => c_AName y
  have hkL1 : kL.1 = lenB := rfl
  have hkL2 : kL.2 = 0 := rfl
  rw [hkL1, hkL2] at hOwn
  simp only [Option.getD_some, Option.isSome_some] at hOwn
  have hq := fun (y : World) => zeroA_set y (lenP 3)
  have hth := fun (y : World) => zeroA_there y
  have hi13 : (Tryz.prog.info? 39).map (·.size) = some (encP (lenP 3)).toArray.size := infoProp
  have ho13 := all_oneCell_toArray (encP_one (lenP 3))
  unfold zeroA at hth
  have hsz := Lib.hid (show w.heap.size ≤ W1.heap.size ∧ w.heap.size ≤ W2.heap.size ∧ w0.heap.size ≤ w.heap.size from ⟨hb1.size, hbw2.size, (hx3 w (Below.refl _ _)).base.size⟩)
  unfold descV at *
  replace hOwn := Lib.hid hOwn
  replace hNm := Lib.hid hNm
  replace hk' := Lib.hid hk'
  replace hq := Lib.hid hq
  replace hx1 := Lib.hid hx1
  replace hx3 := Lib.hid hx3
  have hbw' := Lib.hid hbw
  clear h d1 d2 d3 l1 l2 l3 hb1 hb2 hb3 hbw2 hgl hkL1 hkL2
  have tokA : True := trivial
  go_enter Tryz.func43, Tryz.ntmps43
  go_upto_region 2 with (first | (go_at_call 22; refine (hNm.out _).mono ?_; rintro e y4 ⟨rfl, hb4⟩; have hW4 := hbw'.out.trans (hb4.mono hbw'.out.size)) | (go_at_call 9; refine (hOwn.out _ hW4).mono ?_; rintro e y5 ⟨rfl, hb5⟩; have hth5 := hth y5; obtain ⟨hq5, hd5⟩ := hq.out y5) | (clear tokA; refine wpList_store_mid rfl 39 (.tmp 13) (.tmp 28) rfl y5.heap.size 0 (encP (lenP 3)).toArray rfl rfl hth5 hi13 ho13 ?_; generalize hW6 : World.setCells _ _ _ _ = W6; rw [show (y5.alloc (.cells zeroA 39)).setCells y5.heap.size 0 (encP (lenP 3)) = W6 from hW6] at hq5 hd5; clear hW6 hth5; have hb6 := hb4.trans ((hb5.trans (hq5.mono hb5.size)).mono hb4.size); have hW6 := hbw'.out.trans (hb6.mono hbw'.out.size)))
  have hkk := hk'.out W6 hb6
  obtain ⟨⟨ha7, ha8⟩, ha9⟩ := hkk
  have hrg9 := rangeL ha9
  have hi14 : (Tryz.prog.info? 51).map (·.size) = some (encD 1 oneP).length := infoDesc
  have hj14 : (Tryz.prog.info? 51).map (·.size) = some (encD 1 oneP).toArray.size := infoDesc
  have ho14 := all_oneCell_toArray (encD_one 1 oneP)
  obtain ⟨⟨hq6, hd6⟩, hth6⟩ := zeroDs_set W6 oneP
  have hth6' : (W6.alloc (.cells zeroDs 51)).there W6.heap.size 0 (encD 1 oneP).toArray.size := hth6
  unfold zeroDs at hth6'
  have tokB : True := trivial
  have c7 : ∀ y : World, Below W6.heap.size W6 y → y.cell? ⟨w.heap.size, 0, none⟩ = some (.int .u32 3) := fun y hy => by rw [cell_of_row _ _ 0 _ _ _ ((hy.block _ (heapH_lt ha7)).trans ha7)]; rfl
  have hNu := fun (y : World) => c_ANumber 3 y
  replace hNu := Lib.hid hNu
  replace c7 := Lib.hid c7
  have rsf := fun (w : World) (a : Addr) (x : Nat) => run_store Tryz.prog w a (.float .f64 x) .plain rfl
  clear hth6 hth hi13 ho13 hb4 hW4 hb5 hq5
  go_upto_region 4 with (first | (clear tokB; refine wpList_load_mid rfl 51 (.tmp 9) rfl W2.heap.size 0 rfl (encD 1 oneP) _ hrg9 Tryz.underlying51 rfl hi14 ?_) | (refine wpList_store_mid rfl 51 (.tmp 15) (.tmp 30) rfl W6.heap.size 0 (encD 1 oneP).toArray rfl rfl hth6' hj14 ho14 ?_; generalize hW7 : World.setCells _ _ _ _ = W7; rw [show (W6.alloc (.cells zeroDs 51)).setCells W6.heap.size 0 (encD 1 oneP) = W7 from hW7] at hq6 hd6; clear hW7 hth6'; have cc7 := c7.out W7 hq6) | (go_at_call 30; refine (hNu.out _).mono ?_; rintro e y8 ⟨rfl, hb8⟩; have hd8 := (hb8.block _ (heapH_lt hd6)).trans hd6; obtain ⟨x0, ⟨x1, x2, x3, x4⟩, -⟩ := cellsD hd8; have f1 : y8.frozen? ⟨W6.heap.size, 1, none⟩ = false := (by simp [World.frozen?, hd8]); have f2 : y8.frozen? ⟨W6.heap.size, 2, none⟩ = false := (by simp [World.frozen?, hd8]); have f3 : y8.frozen? ⟨W6.heap.size, 3, none⟩ = false := (by simp [World.frozen?, hd8]); have f4 : y8.frozen? ⟨W6.heap.size, 4, none⟩ = false := (by simp [World.frozen?, hd8])))
  obtain ⟨W9, hW9⟩ : ∃ W9, (((y8.setCell ⟨W6.heap.size, 1, none⟩ (.int .i64 3)).setCell ⟨W6.heap.size, 2, none⟩ (.float .f64 (fl 3))).setCell ⟨W6.heap.size, 3, none⟩ (.string ⟨#[]⟩)).setCell ⟨W6.heap.size, 4, none⟩ (.int .i64 0) = W9 := ⟨_, rfl⟩
  rw [hW9]
  have hB8 : Below W6.heap.size W6 y8 := hq6.trans (hb8.mono hq6.size)
  have hB9 : Below W6.heap.size W6 W9 := by
    rw [← hW9]
    exact (((hB8.setCell (p := ⟨W6.heap.size, 1, none⟩) (Nat.le_refl _) _).setCell (p := ⟨W6.heap.size, 2, none⟩) (Nat.le_refl _) _).setCell (p := ⟨W6.heap.size, 3, none⟩) (Nat.le_refl _) _).setCell (p := ⟨W6.heap.size, 4, none⟩) (Nat.le_refl _) _
  have d9 : W9.heap[W6.heap.size]? = some (.cells (encD 1 threeP).toArray 51 (0, 0)) := by
    rw [← hW9]
    have h1 := heap_setCell_same y8 W6.heap.size 1 _ _ (.int .i64 3) hd8
    have h2 := heap_setCell_same _ W6.heap.size 2 _ _ (.float .f64 (fl 3)) h1
    have h3 := heap_setCell_same _ W6.heap.size 3 _ _ (.string ⟨#[]⟩) h2
    exact heap_setCell_same _ W6.heap.size 4 _ _ (.int .i64 0) h3
  have p9 := (hB9.block _ (heapH_lt hd5)).trans hd5
  have hw9 := hW6.trans (hB9.mono hW6.size)
  have hk9 := hk'.out W9 (hb6.trans (hB9.mono hb6.size))
  have hM := fun (y : World) => c_OMergeB (lenP 3) threeP rfl rfl rfl true y
  have hRe : (⟨threeP.v, zeroVV, zeroVV, 1⟩ : PV) = lenP 3 := rfl
  rw [hRe] at hM
  have hOp := fun (y : World) (hy : Below w.heap.size w y) => as_open (hx3.out y hy)
  have hst := fun (y : World) (b : Nat) (h : y.there b 0 13) => thereS (lenP 3) y b h
  have hth := fun (y : World) => zeroA_there y
  have hthD : ∀ y : World, ((y.alloc (.cells zeroA 39)).drew).there y.heap.size 0 13 := fun y => zeroA_there y
  obtain ⟨⟨a0, a1, a2, a3⟩, ⟨a4, a5, a6, a7⟩, ⟨a8, a9, a10, a11⟩, a12⟩ := cellsP p9
  obtain ⟨z0, ⟨z1, z2, z3, z4⟩, ⟨z5, z6, z7, z8⟩, ⟨z9, z10, z11, z12⟩, z13⟩ := cellsD d9
  have l2 := heapH_lt p9
  have l3 := heapH_lt d9
  have hS0 := dfS_drew W9
  have hSw : ∀ y, DfS W9 y → Below w.heap.size w y := fun y hy => hw9.trans (hy.2.mono hw9.size)
  unfold zeroA at hth hthD
  unfold descV propV at hM
  have hELn : (encP (lenP 3)).length = 13 := rfl
  generalize hER : encP (lenP 3) = ER at hM hst hELn
  have hM2 : ∀ y, Calls Tryz.prog 44 #[.agg (encP (lenP 3)).toArray, .bool true, .bool true, .agg (encD 1 threeP).toArray] y fun e w' => e = .returned (.tuple #[.agg ER.toArray, .bool true]) ∧ Below y.heap.size y w' := fun y => by rw [hER]; exact hM y
  clear hM
  simp only [encD, encP, List.cons_append, List.nil_append] at hM2
  replace hM2 := Lib.hid hM2
  replace hOp := Lib.hid hOp
  replace hSw := Lib.hid hSw
  replace hER := Lib.hid hER
  have hB9' := Lib.hid hB9
  have hw9' := Lib.hid hw9
  have hd9' := Lib.hid d9
  have hp9' := Lib.hid p9
  have hk9' := Lib.hid hk9
  have hW6' := Lib.hid hW6
  clear hW9 hB8 hB9 d9 p9 hw9 hk9 hd8 hd6 hd5 hq6 hb8 hb6 hW6 ha7 ha8 ha9 x0 x1 x2 x3 x4 f1 f2 f3 f4 cc7 hRe hrg9 hi14 hj14 ho14
  go_cut [16, 17] from 35 to 43 (fun v16 v17 wx => v17 = .bool true ∧ DfS W9 wx)
  case first =>
    go_region_held3 (fun y => (∀ a : Addr, a.block < W9.heap.size → y.cell? a = W9.cell? a) ∧ Below W9.heap.size W9 y) (first | with_reducible assumption | with_reducible exact hS0 | with_reducible exact dfS_below (by assumption) (by assumption) | with_reducible exact dfS_fresh _ _ | with_reducible exact dfS_alloc (by assumption) _ | with_reducible exact dfS_set (by assumption) (Nat.le_refl _) _ | with_reducible exact dfS_set (by assumption) hs6 _) (first | (go_at_call 45; refine (hOp.out _ (hSw.out _ (by assumption))).mono ?_; rintro e y5' ⟨rfl, e1⟩; cases e1) | (go_at_call 44; refine (hM2.out _).mono ?_; rintro e y6 ⟨rfl, hb6⟩; have hs6 : W9.heap.size ≤ y6.heap.size := Nat.le_trans (Below.size (And.right (show DfS W9 _ by assumption))) hb6.size; first | (have hth6 := there_below (hth _) (by decide) hb6) | (have hth6 := there_below (hthD _) (by decide) hb6) | skip))
    all_goals go_wp2_with fail
    all_goals go_meet
    all_goals exact ⟨rfl, by assumption⟩
  case rest =>
    obtain ⟨rfl, hS9⟩ := hcut
    have pW := (hS9.2.block _ l2).trans hp9'.out
    obtain ⟨-, -, -, b12⟩ := cellsP pW
    have b12' : wc.cell? ⟨y5.heap.size, 12, none⟩ = some (.int .i64 1) := b12
    clear b12
    obtain ⟨⟨r7, r8⟩, r9⟩ := hk9'.out
    have g7 := (hS9.2.block _ (heapH_lt r7)).trans r7
    have g8 := (hS9.2.block _ (heapH_lt r8)).trans r8
    have g9 := (hS9.2.block _ (heapH_lt r9)).trans r9
    have hWc : Below w.heap.size w wc := hw9'.out.trans (hS9.2.mono hw9'.out.size)
    obtain ⟨hz1, hz2, hz0⟩ := hsz.out
    have hnb : ∀ r, w.heap.size ≤ r → r < wc.heap.size → ¬ (ex' r ∨ wc.heap.size ≤ r) := fun r h1 h2 => by
      rintro (h | h)
      · have := (hx1.out r h).1; omega
      · omega
    have hrows : ∀ y, KeepBut (fun r => ex' r ∨ wc.heap.size ≤ r) wc y → (y.heap[w.heap.size]? = some (.cells #[.int .u32 3] 35 (0, 0)) ∧ y.heap[W1.heap.size]? = some (.cells #[.int .u32 1] 35 (0, 0))) ∧ y.heap[W2.heap.size]? = some (.cells (encD 1 oneP).toArray 51 (0, 0)) := fun y hy =>
      ⟨⟨(hy.2 _ (heapH_lt g7) (hnb _ (Nat.le_refl _) (heapH_lt g7))).trans g7, (hy.2 _ (heapH_lt g8) (hnb _ hz1 (heapH_lt g8))).trans g8⟩, (hy.2 _ (heapH_lt g9) (hnb _ hz2 (heapH_lt g9))).trans g9⟩
    have hAc := hx3.out wc hWc
    have hlc : W2.heap.size < wc.heap.size := heapH_lt g9
    replace hnb := Lib.hid hnb
    replace hrows := Lib.hid hrows
    replace hAc := Lib.hid hAc
    replace hWc := Lib.hid hWc
    replace hlc := Lib.hid hlc
    clear g7 g8 g9 r7 r8 r9 pW hz1 hz2 hz0 hS9 a0 a1 a2 a3 a4 a5 a6 a7 a8 a9 a10 a11 a12 z0 z1 z2 z3 z4 z5 z6 z7 z8 z9 z10 z11 z12 z13 hS0 hst hth hthD hELn l2 l3
    go_upto_region 8 with fail
    go_loopg [] 2 (fun k wr => k ≤ 2 ∧ AS ex' wc.heap.size w0 lim hb B (exL (2 - k)) wr ∧ KeepBut (fun r => ex' r ∨ wc.heap.size ≤ r) wc wr)
    case atStart => exact ⟨Nat.le_refl _, hAc.out, KeepBut.refl _ _⟩
    case round =>
      obtain ⟨hk, hA, hK⟩ := hrel
      rcases (by omega : gk = 2 ∨ gk = 1 ∨ gk = 0) with rfl | rfl | rfl
      · have hKy := as_keys hA hB1 (by omega)
        have hKO2 := fun (y : World) => c_KOfS 2 (by decide) y
        have hDl := fun (y : World) (hy : Below wr.heap.size wr y) => c_ODelete (hA.keep hy) hB1 (by omega) (by decide) (kI 2) (kI_ok 2 (by decide)) (elP zeroVV) ex_get0 (by decide) 3 ex_idx0
        have hL := fun (y : World) (hy : Below wr.heap.size wr y) (v : Value) (Z : List KK) (hRd : RdK y v Z) (hKO : KeysOf (gk (exL (2 - 2))) Z) => ex_last 0 (by decide) 2 true rfl hRd hKO W1.heap.size w.heap.size (hrows.out y (hK.trans ⟨hy.size, fun r hr _ => hy.block r hr⟩)).1.2 (hrows.out y (hK.trans ⟨hy.size, fun r hr _ => hy.block r hr⟩)).1.1
        replace hKy := Lib.hid hKy
        replace hKO2 := Lib.hid hKO2
        replace hDl := Lib.hid hDl
        replace hL := Lib.hid hL
        replace hK := Lib.hid hK
        clear hA hk
        go_wp2_with (first | (go_at_call 63; refine hKy.out.mono ?_; rintro e yk ⟨v, Z, rfl, hRd, hKO, hbk⟩; have hL2 := hL.out yk hbk v Z hRd hKO; clear hRd hKO) | (go_at_call 62; refine hL2.mono ?_; rintro e yl ⟨rfl, hbl⟩; have hbkl := hbk.trans (hbl.mono hbk.size)) | (go_at_call 18; refine (hKO2.out _).mono ?_; rintro e yo ⟨rfl, hbo⟩; have hbo2 := hbkl.trans (hbo.mono hbkl.size)) | (go_at_call 64; refine (hDl.out _ hbo2).mono ?_; rintro e yd ⟨rfl, hAd, hKd⟩))
        have hKf : KeepBut (fun r => ex' r ∨ wc.heap.size ≤ r) wc yd := hK.out.trans (KeepBut.trans ⟨hbo2.size, fun r hr _ => hbo2.block r hr⟩ hKd)
        go_roundg 1
        case measure => decide
        case rel => exact ⟨by decide, hAd, hKf⟩
      · have hKy := as_keys hA hB1 (by omega)
        have hKO2 := fun (y : World) => c_KOfS 1 (by decide) y
        have hDl := fun (y : World) (hy : Below wr.heap.size wr y) => c_ODelete (hA.keep hy) hB1 (by omega) (by decide) (kI 1) (kI_ok 1 (by decide)) (elP zeroVV) ex_get1 (by decide) 2 ex_idx1
        have hL := fun (y : World) (hy : Below wr.heap.size wr y) (v : Value) (Z : List KK) (hRd : RdK y v Z) (hKO : KeysOf (gk (exL (2 - 1))) Z) => ex_last 1 (by decide) 1 true rfl hRd hKO W1.heap.size w.heap.size (hrows.out y (hK.trans ⟨hy.size, fun r hr _ => hy.block r hr⟩)).1.2 (hrows.out y (hK.trans ⟨hy.size, fun r hr _ => hy.block r hr⟩)).1.1
        replace hKy := Lib.hid hKy
        replace hKO2 := Lib.hid hKO2
        replace hDl := Lib.hid hDl
        replace hL := Lib.hid hL
        replace hK := Lib.hid hK
        clear hA hk
        go_wp2_with (first | (go_at_call 63; refine hKy.out.mono ?_; rintro e yk ⟨v, Z, rfl, hRd, hKO, hbk⟩; have hL2 := hL.out yk hbk v Z hRd hKO; clear hRd hKO) | (go_at_call 62; refine hL2.mono ?_; rintro e yl ⟨rfl, hbl⟩; have hbkl := hbk.trans (hbl.mono hbk.size)) | (go_at_call 18; refine (hKO2.out _).mono ?_; rintro e yo ⟨rfl, hbo⟩; have hbo2 := hbkl.trans (hbo.mono hbkl.size)) | (go_at_call 64; refine (hDl.out _ hbo2).mono ?_; rintro e yd ⟨rfl, hAd, hKd⟩))
        have hKf : KeepBut (fun r => ex' r ∨ wc.heap.size ≤ r) wc yd := hK.out.trans (KeepBut.trans ⟨hbo2.size, fun r hr _ => hbo2.block r hr⟩ hKd)
        go_roundg 0
        case measure => decide
        case rel => exact ⟨by decide, hAd, hKf⟩
      · have hKy := as_keys hA hB1 (by omega)
        have hL := fun (y : World) (hy : Below wr.heap.size wr y) (v : Value) (Z : List KK) (hRd : RdK y v Z) (hKO : KeysOf (gk (exL (2 - 0))) Z) => ex_last 2 (by decide) 0 false rfl hRd hKO W1.heap.size w.heap.size (hrows.out y (hK.trans ⟨hy.size, fun r hr _ => hy.block r hr⟩)).1.2 (hrows.out y (hK.trans ⟨hy.size, fun r hr _ => hy.block r hr⟩)).1.1
        replace hKy := Lib.hid hKy
        replace hL := Lib.hid hL
        replace hK := Lib.hid hK
        have hA0 := Lib.hid hA
        clear hA hk
        go_upto_region 16 with (first | (go_at_call 63; refine hKy.out.mono ?_; rintro e yk ⟨v, Z, rfl, hRd, hKO, hbk⟩; have hL2 := hL.out yk hbk v Z hRd hKO; clear hRd hKO) | (go_at_call 62; refine hL2.mono ?_; rintro e yl ⟨rfl, hbl⟩; have hbkl := hbk.trans (hbl.mono hbk.size)))
        have hKl : KeepBut (fun r => ex' r ∨ wc.heap.size ≤ r) wc yl := hK.out.trans ⟨hbkl.size, fun r hr _ => hbkl.block r hr⟩
        obtain ⟨⟨r7, r8⟩, r9⟩ := hrows.out yl hKl
        have b0 : yl.cell? ⟨W1.heap.size, 0, none⟩ = some (.int .u32 1) := by rw [cell_of_row _ _ 0 _ _ _ r8]; rfl
        have hNu := Lib.hid (fun (y : World) => c_ANumber 1 y)
        replace hKl := Lib.hid hKl
        have r9' := Lib.hid r9
        replace hbkl := Lib.hid hbkl
        clear r7 r8 r9
        go_upto_region 17 with (first | (go_at_call 30; refine (hNu.out _).mono ?_; rintro e y8 ⟨rfl, hb8⟩; have hd8 := (hb8.block _ (heapH_lt r9'.out)).trans r9'.out; obtain ⟨x0, ⟨x1, x2, x3, x4⟩, -⟩ := cellsD hd8; have f1 : y8.frozen? ⟨W2.heap.size, 1, none⟩ = false := (by simp [World.frozen?, hd8]); have f2 : y8.frozen? ⟨W2.heap.size, 2, none⟩ = false := (by simp [World.frozen?, hd8]); have f3 : y8.frozen? ⟨W2.heap.size, 3, none⟩ = false := (by simp [World.frozen?, hd8]); have f4 : y8.frozen? ⟨W2.heap.size, 4, none⟩ = false := (by simp [World.frozen?, hd8]); replace hd8 := Lib.hid hd8))
        obtain ⟨hz1, hz2, hz0⟩ := hsz.out
        obtain ⟨W11, hW11⟩ : ∃ W11, (((y8.setCell ⟨W2.heap.size, 1, none⟩ (.int .i64 3)).setCell ⟨W2.heap.size, 2, none⟩ (.float .f64 (fl 1))).setCell ⟨W2.heap.size, 3, none⟩ (.string ⟨#[]⟩)).setCell ⟨W2.heap.size, 4, none⟩ (.int .i64 0) = W11 := ⟨_, rfl⟩
        rw [hW11]
        have hs11 : W11.heap.size = y8.heap.size := by rw [← hW11]; simp [World.setCell]
        have ho11 : W11.os = y8.os ∧ W11.tape = y8.tape ∧ W11.output = y8.output := by rw [← hW11]; exact ⟨rfl, rfl, rfl⟩
        have hr11 : ∀ r, r ≠ W2.heap.size → W11.heap[r]? = y8.heap[r]? := fun r hr => by
          rw [← hW11, Below.heap_setCell _ _ _ _ hr, Below.heap_setCell _ _ _ _ hr, Below.heap_setCell _ _ _ _ hr, Below.heap_setCell _ _ _ _ hr]
        have d11 : W11.heap[W2.heap.size]? = some (.cells (encD 1 oneP).toArray 51 (0, 0)) := by
          rw [← hW11]
          have h1 := heap_setCell_same y8 W2.heap.size 1 _ _ (.int .i64 3) hd8.out
          have h2 := heap_setCell_same _ W2.heap.size 2 _ _ (.float .f64 (fl 1)) h1
          have h3 := heap_setCell_same _ W2.heap.size 3 _ _ (.string ⟨#[]⟩) h2
          exact heap_setCell_same _ W2.heap.size 4 _ _ (.int .i64 0) h3
        have hnx := hnb.out W2.heap.size hz2 hlc.out
        have hA11 := ((hA0.out.keep hbkl.out).keep hb8).cells hnx (Nat.le_trans hz0 hz2) ho11.1 ho11.2.1 ho11.2.2 hs11 hr11
        have hA11d := hA11.keep (Below.refl _ W11).drew
        have hDf := fun (y : World) (hy : AS ex' wc.heap.size w0 lim hb B (exL 2) y) => c_ODefine hy hB1 (by omega) (by decide) (by show (2 : Int) + 1 < lim; omega) kL kL_ok 1 oneP (lenP 1) ⟨by show (0 : Int) ≤ 1; decide, by show (1 : Int) ≤ 15; decide⟩ rfl (fun z => by
          rw [ex_get2]
          exact c_OMergeB (lenP 3) oneP rfl rfl rfl true z)
        rw [ex_put2, show kL.1 = lenB from rfl, show kL.2 = 0 from rfl] at hDf
        unfold descV at hDf
        simp only [encD, encP, List.cons_append, List.nil_append] at hDf
        obtain ⟨z0, ⟨z1, z2, z3, z4⟩, ⟨z5, z6, z7, z8⟩, ⟨z9, z10, z11, z12⟩, z13⟩ := cellsD d11
        have hS0 := blS_drew (heapH_lt d11)
        replace hA11d := Lib.hid hA11d
        replace hDf := Lib.hid hDf
        replace hnx := Lib.hid hnx
        replace hr11 := Lib.hid hr11
        replace hs11 := Lib.hid hs11
        replace hb8 := Lib.hid hb8
        clear hW11 ho11 hA11 d11 hz1 hz0 f1 f2 f3 f4 x0 x1 x2 x3 x4 hd8 b0 rsf
        go_region_held3 (fun y => (∀ a : Addr, a.block = W2.heap.size → y.cell? a = W11.cell? a) ∧ W2.heap.size < y.heap.size) (first | with_reducible assumption | with_reducible exact hS0 | with_reducible exact blS_below (by assumption) (by assumption) | exact blS_keep (by assumption) hnx.out (by assumption)) (first | (go_at_call 22; refine (hNm.out _).mono ?_; rintro e y10 ⟨rfl, hb10⟩) | (go_at_call 29; refine (hDf.out _ (hA11d.out.keep hb10)).mono ?_; rintro e y12 ⟨rfl, hA12, hK12⟩))
        go_wp2
        go_ret3
        have hs1 := hWc.out.size
        have hs2 := hKl.out.1
        have hs3 := hb8.out.size
        have hs4 := hs11.out
        have hs5 : W11.heap.size ≤ y10.heap.size := hb10.size
        have hs6 := hK12.1
        refine ⟨rfl, hA12.wide (fun r hr => ?_) (by omega), by omega, fun r hr hn => ?_⟩
        · rcases hr with h | h
          · exact (hx1.out r h).2
          · exact .inr (by omega)
        · have hnx' : ¬ (ex' r ∨ wc.heap.size ≤ r) := by
            rintro (h | h)
            · exact hn (hx1.out r h).2
            · omega
          have e1 := hK12.2 r (by omega) hnx'
          have e2 := hb10.block r (show r < W11.heap.size by omega)
          have e3 := hr11.out r (by omega)
          have e4 := hb8.out.block r (by omega)
          have e5 := hKl.out.2 r (by omega) hnx'
          exact e1.trans (e2.trans (e3.trans (e4.trans (e5.trans (hWc.out.block r hr)))))
end
end Go.Proofs.YtkbohoolnpaleaaGreatDoor
namespace Go.Proofs.YtkbohoolnpaleaaGreatDoor
open Go.RowKit Go.Shelf Go.Lib Go.Sort Go.Proofs Go.Maps
set_option linter.unusedVariables false
set_option linter.unusedSimpArgs false
set_option maxHeartbeats 1000000
set_option maxRecDepth 100000

section
variable {ex : Nat → Prop} {N : Nat} {w0 w w' : World} {lim : Int} {hb B : Nat}
theorem c_AResize (h : AS ex N w0 lim hb B (exL 0) w) (hB1 : 128 ≤ B) (hB : B + 2 < 90000) (hl : 10 < lim) :
    Calls Tryz.prog 28 #[.pointer (some ⟨hb, 0, none⟩), .int .i64 1, .int .u32 3, descV 1 oneP] w fun e w' => e = .returned (.tuple #[.bool true, .bool false, .int .i64 0]) ∧ AS ex N w0 lim hb (B + 2) (arrL kL kI [zeroVV]) w' ∧ KeepBut (fun r => ex r ∨ N ≤ r) w w' := by
  obtain ⟨ex', hx1, hx2, hx3⟩ := h.start2
  obtain ⟨W1, hW1⟩ : ∃ W1, w.alloc (.cells (encD 1 oneP).toArray 51) = W1 := ⟨_, rfl⟩
  have hb1 : Below w.heap.size w W1 := by rw [← hW1]; exact (Below.refl _ w).alloc (Nat.le_refl _) _
  have d1 : W1.heap[w.heap.size]? = some (.cells (encD 1 oneP).toArray 51 (0, 0)) := by rw [← hW1]; exact heap_alloc_new w _
  have l1 := heapH_lt d1
  obtain ⟨x0, ⟨x1, x2, x3, x4⟩, -, -⟩ := cellsD d1
  have hWh := fun (y : World) => c_AWhole 1 (by decide) ⟨#[]⟩ 0 y
  have hSh := fun (y : World) (hy : Below w.heap.size w y) => c_AShrink (hx3 y hy) hB1 hB hl
  have hrg := fun (y : World) (hy : Below W1.heap.size W1 y) => rangeL ((hy.block _ l1).trans d1)
  have hi14 : (Tryz.prog.info? 51).map (·.size) = some (encD 1 oneP).length := infoDesc
  unfold descV at *
  replace hWh := Lib.hid hWh
  replace hSh := Lib.hid hSh
  replace hrg := Lib.hid hrg
  replace hx1 := Lib.hid hx1
  have hb1' := Lib.hid hb1
  clear h hx3 d1 l1 hb1
  have tokB : True := trivial
  go_enter Tryz.func28, Tryz.ntmps28
  go_wp2_with (first | (go_at_call 23; refine (hWh.out _).mono ?_; rintro e y1 ⟨rfl, hb2⟩; have hrg1 := hrg.out y1 hb2; have hB2 := hb1'.out.trans (hb2.mono hb1'.out.size)) | (clear tokB; refine wpList_load_mid rfl 51 (.tmp 7) rfl w.heap.size 0 rfl (encD 1 oneP) _ hrg1 Tryz.underlying51 rfl hi14 ?_) | (go_at_call 43; refine (hSh.out _ hB2).mono ?_; rintro e y2 ⟨rfl, hA2, hK2⟩))
  go_ret3
  exact ⟨rfl, AS.finish hx1.out hx2 hB2 hA2 hK2⟩
theorem len_and : bits BinOp.andNot IntKind.i64 (lenB.size : Int) 1 = (lenB.size : Int) := by decide +kernel
theorem c_ADefineL (h : AS ex N w0 lim hb B (exL 0) w) (hB1 : 128 ≤ B) (hB : B + 2 < 90000) (hl : 10 < lim) :
    Calls Tryz.prog 12 #[.pointer (some ⟨hb, 0, none⟩), .int .i64 1, .agg #[.string lenB, .int .i64 0], descV 1 oneP] w fun e w' => e = .returned (.tuple #[.bool true, .bool false, .int .i64 0]) ∧ AS ex N w0 lim hb (B + 2) (arrL kL kI [zeroVV]) w' ∧ KeepBut (fun r => ex r ∨ N ≤ r) w w' := by
  obtain ⟨ex', hx1, hx2, hx3⟩ := h.start2
  obtain ⟨W1, hW1⟩ : ∃ W1, w.alloc (.cells #[.string lenB, .int .i64 0] 43) = W1 := ⟨_, rfl⟩
  obtain ⟨W2, hW2⟩ : ∃ W2, W1.alloc (.cells (encD 1 oneP).toArray 51) = W2 := ⟨_, rfl⟩
  have hb1 : Below w.heap.size w W1 := by rw [← hW1]; exact (Below.refl _ w).alloc (Nat.le_refl _) _
  have hb2 : Below W1.heap.size W1 W2 := by rw [← hW2]; exact (Below.refl _ W1).alloc (Nat.le_refl _) _
  have d1 : W1.heap[w.heap.size]? = some (.cells #[.string lenB, .int .i64 0] 43 (0, 0)) := by rw [← hW1]; exact heap_alloc_new w _
  have d2 : W2.heap[W1.heap.size]? = some (.cells (encD 1 oneP).toArray 51 (0, 0)) := by rw [← hW2]; exact heap_alloc_new W1 _
  have l1 := heapH_lt d1
  have l2 := heapH_lt d2
  have hbw : Below w.heap.size w W2 := hb1.trans (hb2.mono hb1.size)
  have hk' : ∀ y, Below W2.heap.size W2 y → (y.cell? ⟨w.heap.size, 0, none⟩ = some (.string lenB) ∧ y.cell? ⟨w.heap.size, 1, none⟩ = some (.int .i64 0)) ∧ y.heap[W1.heap.size]? = some (.cells (encD 1 oneP).toArray 51 (0, 0)) := fun y hy => by
    have e := (hy.block w.heap.size (Nat.lt_of_lt_of_le l1 hb2.size)).trans ((hb2.block _ l1).trans d1)
    exact ⟨⟨by rw [cell_of_row _ _ 0 _ _ _ e]; rfl, by rw [cell_of_row _ _ 1 _ _ _ e]; rfl⟩, (hy.block _ l2).trans d2⟩
  have hLen := c_ALength (hx3 W2 hbw) 3 (by omega) (arr_len_get [zeroVV, zeroVV, zeroVV])
  have hIdx := fun (y : World) => c_AIndex kL kL_ok y
  rw [idxK_kL, show kL.1 = lenB from rfl, show kL.2 = 0 from rfl] at hIdx
  have hNm := fun (y : World) => c_AName y
  have hRz := fun (y : World) (hy : Below w.heap.size w y) => c_AResize (hx3 y hy) hB1 hB hl
  have hext : lenB.extract 0 lenB.size = lenB := ByteArray.extract_zero_size
  have hand := len_and
  unfold idxV at hIdx
  simp only [Option.getD_none, Option.isSome_none] at hIdx
  obtain ⟨k0, k1⟩ := (hk' W2 (Below.refl _ _)).1
  have hrg := fun (y : World) (hy : Below W2.heap.size W2 y) => rangeL (hk' y hy).2
  have hi14 : (Tryz.prog.info? 51).map (·.size) = some (encD 1 oneP).length := infoDesc
  unfold descV at *
  replace hLen := Lib.hid hLen
  replace hIdx := Lib.hid hIdx
  replace hNm := Lib.hid hNm
  replace hRz := Lib.hid hRz
  replace hk' := Lib.hid hk'
  replace hrg := Lib.hid hrg
  replace hx1 := Lib.hid hx1
  have hbw' := Lib.hid hbw
  clear h hx3 d1 d2 l1 l2 hb1 hb2 hbw
  have tokA : True := trivial
  go_enter Tryz.func12, Tryz.ntmps12
  go_upto_region 3 with (first | (go_at_call 8; refine hLen.out.mono ?_; rintro e y1 ⟨rfl, hb1⟩; clear k0 k1; obtain ⟨k0, k1⟩ := (hk'.out y1 hb1).1) | (go_at_call 27; refine (hIdx.out _).mono ?_; rintro e y2 ⟨rfl, hb2⟩; have hB2 := hb1.trans (hb2.mono hb1.size); clear k0 k1; obtain ⟨k0, k1⟩ := (hk'.out y2 hB2).1))
  have l0 : w.heap.size < y2.heap.size := cell_lt k0
  have hS0 := dfS_drew y2
  have hfd : ∀ y : World, (Instr.field 43 (.agg #[.string lenB, .int .i64 0]) 0).run Tryz.prog y = .ok (.string lenB) y := fun y => by kernel_rfl
  have hsl : (lenB.toList == lenB.toList) = true := beq_self_eq_true _
  go_region_held3 (fun y => (∀ a : Addr, a.block < y2.heap.size → y.cell? a = y2.cell? a) ∧ Below y2.heap.size y2 y) (first | with_reducible assumption | with_reducible exact hS0 | with_reducible exact dfS_below (by assumption) (by assumption)) (first | (go_at_call 22; refine (hNm.out _).mono ?_; rintro e y3 ⟨rfl, hb3⟩))
  have hB3 : Below W2.heap.size W2 y3 := hB2.trans ((hb3.mono (Nat.le_refl _)).mono hB2.size |> fun h => ⟨h.os, h.tape, h.output, h.size, h.block⟩)
  clear hS0 hfd hsl hext hand l0
  rename_i hHx
  clear hHx
  have hWB := hbw'.out.trans (hB3.mono hbw'.out.size)
  have hrg3 := hrg.out y3 hB3
  go_wp2_with (first | (clear tokA; refine wpList_load_mid rfl 51 (.tmp 7) rfl W1.heap.size 0 rfl (encD 1 oneP) _ hrg3 Tryz.underlying51 rfl hi14 ?_) | (go_at_call 28; refine (hRz.out _ hWB).mono ?_; rintro e y4 ⟨rfl, hA4, hK4⟩))
  go_ret3
  exact ⟨rfl, AS.finish hx1.out hx2 hWB hA4 hK4⟩
end
end Go.Proofs.YtkbohoolnpaleaaGreatDoor
namespace Go.Proofs.YtkbohoolnpaleaaGreatDoor
open Go.RowKit Go.Shelf Go.Lib Go.Sort Go.Proofs Go.Maps
set_option linter.unusedVariables false
set_option linter.unusedSimpArgs false
set_option maxHeartbeats 1000000
set_option maxRecDepth 100000

def zero12 : List Value := [.int .i64 0, .float .f64 0, .string ⟨#[]⟩, .int .i64 0, .int .i64 0, .float .f64 0, .string ⟨#[]⟩, .int .i64 0, .int .i64 0, .float .f64 0, .string ⟨#[]⟩, .int .i64 0]
theorem zero12_row {y : World} {b : Nat} (t : TypeId) {p : Nat → Prop} (hp : ¬ p b) (h : y.heap[b]? = some (.cells zero12.toArray t (0, 0))) : RdV y p (some ⟨b, 0, none⟩) [zeroVV, zeroVV, zeroVV] := by
  intro k x hx
  have hk : k < 3 := by have := (List.getElem?_eq_some_iff.1 hx).1; simpa using this
  have hc : ∀ j : Nat, y.cell? ⟨b, j, none⟩ = zero12[j]? := fun j => by rw [cell_of_row _ _ j _ _ _ h]; simp
  have e : x = zeroVV := by
    have : k = 0 ∨ k = 1 ∨ k = 2 := by omega
    rcases this with rfl | rfl | rfl <;> simpa using hx.symm
  subst e
  refine ⟨b, 0, rfl, hp, ?_⟩
  simp only [hc]
  have : k = 0 ∨ k = 1 ∨ k = 2 := by omega
  rcases this with rfl | rfl | rfl <;> exact ⟨rfl, rfl, rfl, rfl⟩
theorem c_awake17 (w : World) : Calls Tryz.prog 4 #[] w fun e w' => e = .returned (.bool true) ∧ Below w.heap.size w w' := by
  have hNew := hs_new w 50
  have hLi := fun (ex : Nat → Prop) (N : Nat) (y : World) (hb : Nat) (h : HS ex N w 50 hb 128 [] y) (b : Nat) (hrow : RdV y (fun r => ex r ∨ N ≤ r) (some ⟨b, 0, none⟩) [zeroVV, zeroVV, zeroVV]) => c_AList h (by decide) [zeroVV, zeroVV, zeroVV] (by decide) (by decide) (by decide) (some ⟨b, 0, none⟩) 3 hrow
  have hNm := fun (y : World) => c_R17Name y
  have hDf := fun (ex : Nat → Prop) (N : Nat) (y : World) (hb : Nat) (h : AS ex N w 50 hb 142 (exL 0) y) => c_ADefineL h (by decide) (by decide) (by decide)
  have hLn := fun (ex : Nat → Prop) (N : Nat) (y : World) (hb : Nat) (h : AS ex N w 50 hb 144 (arrL kL kI [zeroVV]) y) => c_ALength h 1 (by decide) (arr_len_get [zeroVV])
  have hUs := fun (ex : Nat → Prop) (N : Nat) (y : World) (hb : Nat) (h : AS ex N w 50 hb 144 (arrL kL kI [zeroVV]) y) => as_used h
  have hms : ∀ y : World, (Instr.makeSlice 22 (.int .i64 3) (.int .i64 3)).run Tryz.prog y = .ok (.slice (some ⟨y.heap.size, 0, none⟩) 3 3) (y.alloc (.cells zero12.toArray 26)) := fun y => by kernel_rfl
  have hzr := fun (y : World) {p : Nat → Prop} (hp : ¬ p y.heap.size) => zero12_row (y := y.alloc (.cells zero12.toArray 26)) 26 hp (heap_alloc_new y _)
  unfold descV at hDf
  simp only [encD, encP, oneP, numV, zeroVV, List.cons_append, List.nil_append] at hDf
  have hex : exL 0 = arrL kL kI [zeroVV, zeroVV, zeroVV] := rfl
  rw [hex] at hDf
  unfold zero12 at hms hzr
  replace hNew := Lib.hid hNew
  replace hLi := Lib.hid hLi
  replace hNm := Lib.hid hNm
  replace hDf := Lib.hid hDf
  replace hLn := Lib.hid hLn
  replace hUs := Lib.hid hUs
  replace hzr := Lib.hid hzr
  clear hex
  go_enter Tryz.func4, Tryz.ntmps4
  go_upto_region 2 with (first | (go_at_call 5; refine hNew.out.mono ?_; rintro e y1 ⟨hb, rfl, hH1⟩))
  obtain ⟨ex', hx1, hx2, hx3⟩ := hH1.start2
  have hbA : Below y1.heap.size y1 (y1.alloc (.cells #[.int .i64 0, .float .f64 0, .string ⟨#[]⟩, .int .i64 0, .int .i64 0, .float .f64 0, .string ⟨#[]⟩, .int .i64 0, .int .i64 0, .float .f64 0, .string ⟨#[]⟩, .int .i64 0] 26)) := (Below.refl _ y1).alloc (Nat.le_refl _) _
  have hHA := hx3 _ hbA
  have hnx : ¬ (ex' y1.heap.size ∨ (y1.alloc (.cells #[.int .i64 0, .float .f64 0, .string ⟨#[]⟩, .int .i64 0, .int .i64 0, .float .f64 0, .string ⟨#[]⟩, .int .i64 0, .int .i64 0, .float .f64 0, .string ⟨#[]⟩, .int .i64 0] 26)).heap.size ≤ y1.heap.size) := by
    rintro (h | h)
    · have := (hx1 _ h).1; omega
    · have e : ∀ o, (y1.alloc o).heap.size = y1.heap.size + 1 := fun o => by simp
      rw [e] at h
      omega
  have hLi2 := hLi.out ex' _ _ hb hHA y1.heap.size (hzr.out y1 hnx)
  replace hLi2 := Lib.hid hLi2
  replace hH1 := Lib.hid hH1
  clear hHA hnx hbA hx1 hx2 hx3 hzr
  go_wp2_with (first | (go_at_call 6; refine hLi2.out.mono ?_; rintro e y2 ⟨rfl, hA2, hK2⟩) | (go_at_call 13; refine (hNm.out _).mono ?_; rintro e y3 ⟨rfl, hb3⟩; have hA3 := hA2.keep hb3) | (go_at_call 12; refine (hDf.out _ _ _ _ hA3).mono ?_; rintro e y4 ⟨rfl, hA4, hK4⟩) | (go_at_call 8; refine (hLn.out _ _ _ _ hA4).mono ?_; rintro e y5 ⟨rfl, hb5⟩; have hA5 := hA4.keep hb5) | (go_at_call 14; refine (hUs.out _ _ _ _ hA5).mono ?_; rintro e y6 ⟨rfl, e6⟩; cases e6))
  go_ret
  exact ⟨rfl, hA5.base⟩
end Go.Proofs.YtkbohoolnpaleaaGreatDoor
namespace Go.Proofs.YtkbohoolnpaleaaGreatDoor
open Go.RowKit Go.Shelf Go.Lib Go.Sort Go.Proofs Go.Maps
set_option linter.unusedVariables false
set_option maxHeartbeats 1000000
set_option maxRecDepth 100000

/-- the law's sum behind i rounds -/
def sumV (l : List VV) (i : Nat) : Nat := l.length + ((l.take i).map fun x => x.s.size / 20).sum
theorem sumV_next {l : List VV} {i : Nat} {x : VV} (h : l[i]? = some x) : sumV l (i + 1) = sumV l i + x.s.size / 20 := by
  have hlt := (List.getElem?_eq_some_iff.1 h).1
  have hx := (List.getElem?_eq_some_iff.1 h).2
  unfold sumV
  rw [List.take_succ_eq_append_getElem hlt, hx]
  simp; omega
theorem sumV_le (l : List VV) (i : Nat) : sumV l i ≤ (l.map fun x => x.s.size + 1).sum := by
  unfold sumV
  induction l generalizing i with
  | nil => simp
  | cons a l ih =>
    cases i with
    | zero => have := ih 0; simp at this ⊢; omega
    | succ i => have := ih i; simp at this ⊢; omega
theorem sumV_one (l : List VV) {x : VV} (h : x ∈ l) : x.s.size + 1 ≤ (l.map fun x => x.s.size + 1).sum := by
  induction l with
  | nil => cases h
  | cons a l ih =>
    simp only [List.map_cons, List.sum_cons]
    rcases List.mem_cons.1 h with rfl | h
    · omega
    · have := ih h; omega
theorem wrap_small (z : Int) (h0 : 0 ≤ z) (h1 : z ≤ 4194304) : wrap64 z = z := by unfold wrap64; omega
theorem sum_step {l : List VV} {i : Nat} {x : VV} (hx : l[i]? = some x) (hs : (l.map fun x => x.s.size + 1).sum ≤ 1048576) : wrap64 ((sumV l i : Int) + wrap64 ((x.s.size : Int) / 20)) = (sumV l (i + 1) : Int) := by
  have h1 := sumV_one l (List.mem_of_getElem? hx)
  have h2 := sumV_le l (i + 1)
  have h3 := sumV_next hx
  generalize (l.map fun x => x.s.size + 1).sum = S at *
  generalize sumV l (i + 1) = A at *
  generalize sumV l i = B at *
  generalize x.s.size = C at *
  subst h3
  have e1 : ((C : Int) / 20) = ((C / 20 : Nat) : Int) := by omega
  rw [wrap_small ((C : Int) / 20) (by omega) (by omega), e1]
  have e2 : (B : Int) + ((C / 20 : Nat) : Int) = ((B + C / 20 : Nat) : Int) := by omega
  rw [e2]
  exact wrap_small _ (by omega) (by omega)
/-- a list of values, cell by cell -/
def flatV (l : List VV) : List Value := l.flatMap encVV
theorem flatV_len (l : List VV) : (flatV l).length = l.length * 4 := by
  unfold flatV
  induction l with
  | nil => rfl
  | cons a l ih => simp only [List.flatMap_cons, List.length_append, ih, List.length_cons]; simp [encVV]; omega
theorem flatV_app (a b : List VV) : flatV (a ++ b) = flatV a ++ flatV b := List.flatMap_append ..
theorem flatV_get {l : List VV} {k : Nat} {x : VV} (h : l[k]? = some x) (i : Nat) (hi : i < 4) : (flatV l)[k * 4 + i]? = (encVV x)[i]? := by
  induction l generalizing k with
  | nil => simp at h
  | cons a l ih =>
    have e : flatV (a :: l) = encVV a ++ flatV l := by simp [flatV]
    rw [e]
    have h4 : (encVV a).length = 4 := rfl
    cases k with
    | zero =>
      obtain rfl : a = x := by simpa using h
      rw [List.getElem?_append_left (by rw [h4]; omega)]
      simp
    | succ k =>
      rw [List.getElem?_append_right (by rw [h4]; omega), h4, show (k + 1) * 4 + i - 4 = k * 4 + i by omega]
      exact ih (by simpa using h)
theorem flatV_at {l : List VV} {j : Nat} {u : Value} (h : (flatV l)[j]? = some u) : ∃ k x i, l[k]? = some x ∧ i < 4 ∧ j = k * 4 + i ∧ (encVV x)[i]? = some u := by
  have hj := (List.getElem?_eq_some_iff.1 h).1
  rw [flatV_len] at hj
  have hk : j / 4 < l.length := by omega
  obtain ⟨x, hx⟩ : ∃ x, l[j / 4]? = some x := ⟨_, List.getElem?_eq_getElem hk⟩
  refine ⟨j / 4, x, j % 4, hx, by omega, by omega, ?_⟩
  rw [← flatV_get hx (j % 4) (by omega), show j / 4 * 4 + j % 4 = j by omega]
  exact h
theorem flatV_one (l : List VV) : ∀ u ∈ flatV l, u.oneCell' = true := fun u hu => by
  obtain ⟨x, hx, hu⟩ := List.mem_flatMap.1 hu
  simp [encVV] at hu
  rcases hu with rfl | rfl | rfl | rfl <;> rfl
theorem infoValV : (Tryz.prog.info? 26).map (fun i => (i.zero, i.size, i.bytes)) = some (some (.agg #[.int .i64 0, .float .f64 0, .string ⟨#[]⟩, .int .i64 0]), 4, 40) := by kernel_rfl
/-- the first append: a list onto nothing -/
theorem step_app1 {ops : Array Oper} {o : Oper} {a : Act} {w : World} {K : Act → World → Prop} {Q : Exit → Act → World → Prop} {E : Prop} (hg : o.guard = none) (s x : Operand)
    (hop : o.op = Op.call { callee := Callee.builtin Builtin.append, args := #[s, x], argTypes := #[22, 22] }) (hs : a.eval s = .slice none 0 0) (p : Option Addr) (c : Nat) (l : List VV) (hx : a.eval x = .slice p l.length c) (hpn : p = none → l = [] ∧ c = 0)
    (hc : ∀ b, p = some b → ∀ j u, (flatV l)[j]? = some u → w.cell? (b.add j) = some u) (hl : l.length ≤ 1000) (base : Nat) (hbase : base ≤ w.heap.size)
    (hK : ∀ v' w', w'.ownsRow base 26 4 v' l.length (flatV l) → Below base w w' → Below w.heap.size w w' → K (a.put o.dst v') w') :
    if Region.wanted o (yielded ops a.tmps) = true then Oper.wp Tryz.prog o a w K Q else E := by
  have hw : Region.wanted o (yielded ops a.tmps) = true := by simp [Region.wanted, hg]
  rw [if_pos hw]
  obtain ⟨i0, hi0, hz0, hz1, hz2⟩ := info_parts infoValV
  have hnil : w.ownsRow base 26 4 (.slice none 0 0) 0 [] := World.ownsRow_nil w _ _ _
  cases p with
  | none =>
    obtain ⟨rfl, rfl⟩ := hpn rfl
    have hrun := run_append_owned_none (P := Tryz.prog) (w := w) base 22 o.type 26 i0 4 Tryz.underlying22 hi0 (.slice none 0 0) 0 [] hnil
    unfold Oper.wp
    simp at hx
    simp [execOp, hop, resolve, invoke, builtin, hs, hx, hrun, Result.andThen]
    exact hK _ _ hnil (Below.refl _ _) (Below.refl _ _)
  | some b =>
    obtain ⟨v', w', hrun, r1, r2, _⟩ := run_append_own (P := Tryz.prog) w base 22 o.type 26 i0 _ 4 40 Tryz.underlying22 hi0 hz0 hz1 hz2 rfl (by omega) (.slice none 0 0) 0 [] hnil b l.length c (flatV l) (flatV_len l) (hc b rfl) (flatV_one l) (by unfold maxLen; omega) (by omega) hbase
    unfold Oper.wp
    simp [execOp, hop, resolve, invoke, builtin, hs, hx, hrun, Result.andThen]
    simp at r1
    exact hK v' w' r1 ((Below.refl base w).grown r2 hbase (fun k hk => by cases hk)) ((Below.refl _ w).grown r2 (Nat.le_refl _) (fun k hk => by cases hk))
/-- the second: one more -/
theorem step_app2 {ops : Array Oper} {o : Oper} {a : Act} {w : World} {K : Act → World → Prop} {Q : Exit → Act → World → Prop} {E : Prop} (hg : o.guard = none) (s x : Operand)
    (hop : o.op = Op.call { callee := Callee.builtin Builtin.append, args := #[s, x], argTypes := #[22, 22] }) (base : Nat) (v : Value) (l : List VV) (hs : a.eval s = v) (hown : w.ownsRow base 26 4 v l.length (flatV l)) (ab : Nat) (z : VV) (hx : a.eval x = .slice (some ⟨ab, 0, none⟩) 1 1)
    (hd : w.heap[ab]? = some (.cells #[.int .i64 z.k, .float .f64 z.x, .string z.s, .int .i64 z.r] 26 (0, 0))) (hl : l.length ≤ 1000) (hbase : base ≤ w.heap.size)
    (hK : ∀ g cap w', w'.ownsRow base 26 4 (.slice (some ⟨g, 0, none⟩) (l.length + 1) cap) (l.length + 1) (flatV (l ++ [z])) → Below base w w' → K (a.put o.dst (.slice (some ⟨g, 0, none⟩) (l.length + 1) cap)) w') :
    if Region.wanted o (yielded ops a.tmps) = true then Oper.wp Tryz.prog o a w K Q else E := by
  obtain ⟨i0, hi0, hz0, hz1, hz2⟩ := info_parts infoValV
  refine step_append_lies w hg s x 22 hop base 26 i0 _ 4 40 Tryz.underlying22 hi0 hz0 hz1 hz2 rfl (by omega) v l.length (flatV l) hs hown ⟨ab, 0, none⟩ 1 1 (encVV z) hx rfl (World.news_of_block (cs := (encVV z).toArray) hd) (by simp [encVV, Value.oneCell']) (by omega) (by unfold maxLen; omega) (by omega) hbase w.heap.size rfl ?_
  intro g cap w' h1 h2 h3 h4
  have e : flatV l ++ encVV z = flatV (l ++ [z]) := by rw [flatV_app]; simp [flatV]
  rw [e] at h1
  refine hK g cap w' h1 ((Below.refl base w).grown h2 hbase (fun k hk => ?_))
  rcases hown.2 with ⟨rfl, _⟩ | ⟨g', cap', cur, rfl, hb, _⟩
  · simp [Value.ownBlock] at hk
  · simp [Value.ownBlock] at hk
    omega
/-- the row's cells -/
theorem own_cells {w : World} {base g n cap : Nat} {l : List VV} (h : w.ownsRow base 26 4 (.slice (some ⟨g, 0, none⟩) n cap) n (flatV l)) {k : Nat} {x : VV} (hx : l[k]? = some x) : base ≤ g ∧ w.cell? ⟨g, k * 4, none⟩ = some (.int .i64 x.k) ∧ w.cell? ⟨g, k * 4 + 1, none⟩ = some (.float .f64 x.x) ∧ w.cell? ⟨g, k * 4 + 2, none⟩ = some (.string x.s) ∧ w.cell? ⟨g, k * 4 + 3, none⟩ = some (.int .i64 x.r) := by
  have hk := (List.getElem?_eq_some_iff.1 hx).1
  have hn : (flatV l).length = n * 4 := h.1
  rw [flatV_len] at hn
  have hc : ∀ j, j < 4 → w.cell? ⟨g, k * 4 + j, none⟩ = (encVV x)[j]? := fun j hj => by rw [h.cellAt (k * 4 + j) (by omega), flatV_get hx j hj]
  refine ⟨?_, hc 0 (by omega), hc 1 (by omega), hc 2 (by omega), hc 3 (by omega)⟩
  rcases h.2 with ⟨h0, _⟩ | ⟨g', cap', cur, hv, hb, _⟩
  · cases h0
  · injection hv with e1 e2 e3
    injection e1 with e1
    injection e1 with e1
    omega
end Go.Proofs.YtkbohoolnpaleaaGreatDoor
namespace Go.Proofs.YtkbohoolnpaleaaGreatDoor
open Go.RowKit Go.Shelf Go.Lib Go.Sort Go.Proofs Go.ChangeShapes Go.WideShapes Go.ChangeAt
set_option maxHeartbeats 1000000
set_option maxRecDepth 8000

theorem bulk_small {H : Type} {ds : List (DataW H)} (hk : Rows.uptoSmall H ds = true) : Rows.uptoBulkAll ds ≤ 1048576 := of_decide_eq_true hk
theorem bulk_part {H : Type} {d : DataW H} {l : List (DataW H)} (h : d ∈ l) : Rows.uptoBulk d ≤ Rows.uptoBulkAll l := by
  induction l with
  | nil => cases h
  | cons x r ih =>
    simp only [Rows.uptoBulkAll]
    rcases List.mem_cons.1 h with rfl | e
    · omega
    · have := ih e; omega
theorem cellsValue : Tryz.prog.cellsOf 26 = 4 := by kernel_rfl
theorem cellsFloat : Tryz.prog.cellsOf 23 = 1 := by kernel_rfl
theorem cellsIntV : Tryz.prog.cellsOf 3 = 1 := by kernel_rfl
theorem cellsStrV : Tryz.prog.cellsOf 24 = 1 := by kernel_rfl
section
variable {H : Type} {enc : TypeId × Value → H} {P : Program} {w : World} {base : Nat} {spare : Nat → Bool} {held : Bool}
theorem trod_float5 {t : TypeId} {k : FloatKind} {fuel : Nat} {cs : List Value} {x : DataW H × List MemPlace} (ht : P.underlying t = some (.float k)) (h : DataW.trod enc P w base spare held fuel t cs = some x) : ∃ b, cs = [.float k b] ∧ x = (.lit (.float k b), []) := by
  cases fuel with
  | zero => simp [DataW.trod] at h
  | succ n =>
    unfold DataW.trod at h
    rw [ht] at h
    split at h <;> simp_all
end
section
variable {H : Type} {enc : TypeId × Value → H} {w : World} {base : Nat} {spare : Nat → Bool} {held : Bool}
theorem value_open {fuel : Nat} {cs : List Value} {x : DataW H × List MemPlace} (h : DataW.trod enc Tryz.prog w base spare held fuel 26 cs = some x) : ∃ v : VV, cs = encVV v ∧ v.s.size + 1 ≤ Rows.uptoBulk x.1 := by
  obtain ⟨y0, y1, y2, y3, n, rfl, hl, h0, h1, h2, h3⟩ := Go.Joins.trod_struct4 Tryz.underlying26 h
  rw [cellsValue] at hl
  match cs, hl with
  | [c0, c1, c2, c3], _ =>
    obtain ⟨k, e0, _, _⟩ := DataW.trod_int Tryz.underlying3 h0
    obtain ⟨f, e1, _⟩ := trod_float5 Tryz.underlying23 h1
    obtain ⟨s, e2, g2, _⟩ := DataW.trod_string Tryz.underlying24 h2
    obtain ⟨r, e3, _, _⟩ := DataW.trod_int Tryz.underlying3 h3
    simp [cellsIntV, cellsFloat, cellsStrV] at e0 e1 e2 e3
    subst e0 e1 e2 e3
    refine ⟨⟨k, f, s, r⟩, rfl, ?_⟩
    have h3 : s.data.toList.length = s.size := rfl
    subst g2
    simp only [Rows.uptoBulk, Rows.uptoBulkAll]
    omega
theorem bulk_vals (q : Nat → VV) (D : Nat → DataW H) (is : List Nat) (h : ∀ i ∈ is, (q i).s.size + 1 ≤ Rows.uptoBulk (D i)) : (is.map fun i => (q i).s.size + 1).sum ≤ Rows.uptoBulkAll (is.map D) := by
  induction is with
  | nil => simp
  | cons i is ih =>
    have h1 := ih (fun j hj => h j (by simp [hj]))
    have h2 := h i (by simp)
    simp only [List.map_cons, List.sum_cons, Rows.uptoBulkAll]
    omega
end
/-- a slice reads as values -/
def RdVV (w : World) (v : Value) (l : List VV) : Prop := ∃ (p : Option Addr) (c : Nat), v = .slice p l.length c ∧ l.length ≤ c ∧ (p = none → l = [] ∧ c = 0) ∧ ∀ (k : Nat) x, l[k]? = some x → ∃ b o, p = some ⟨b, o, none⟩ ∧ b < w.heap.size ∧ w.cell? ⟨b, o + k * 4, none⟩ = some (.int .i64 x.k) ∧ w.cell? ⟨b, o + k * 4 + 1, none⟩ = some (.float .f64 x.x) ∧ w.cell? ⟨b, o + k * 4 + 2, none⟩ = some (.string x.s) ∧ w.cell? ⟨b, o + k * 4 + 3, none⟩ = some (.int .i64 x.r)
instance : Inhabited VV := ⟨zeroVV⟩
theorem vals_open {H : Type} {enc : TypeId × Value → H} {W : World} {base : Nat} {v : Value} {d : DataW H} {p : List MemPlace} (hok : Value.okWide Tryz.prog W .any base 22 v) (h : DataW.Trod enc Tryz.prog W 0 (fun _ => true) true 22 v d p) (hb : Rows.uptoBulk d ≤ 1048576) :
    ∃ l : List VV, RdVV W v l ∧ (l.map fun x => x.s.size + 1).sum ≤ 1048576 := by
  obtain ⟨a0, len0, cap0, rfl⟩ := okWide_slice Tryz.underlying22 hok
  obtain ⟨fuel, hf⟩ := h
  rcases Go.Deep.open_slice Tryz.underlying22 hf with ⟨hcs, hx⟩ | ⟨a, len, cap, m, n, D, Pl, hcs, hba, hlc, hcm, hm, hx, hcell⟩
  · simp [Value.cells] at hcs
    obtain ⟨rfl, rfl, rfl⟩ := hcs
    exact ⟨[], ⟨none, 0, rfl, by simp, fun _ => ⟨rfl, rfl⟩, fun k x hx => by simp at hx⟩, by simp⟩
  · simp [Value.cells] at hcs
    obtain ⟨rfl, rfl, rfl⟩ := hcs
    rw [cellsValue] at hcell
    have each : ∀ i, i < len0 → ∃ q : VV, (∀ j u, (encVV q)[j]? = some u → W.cell? (a.add (i * 4 + j)) = some u) ∧ q.s.size + 1 ≤ Rows.uptoBulk (D i) := by
      intro i hi
      obtain ⟨cs', c0, t0⟩ := hcell i (by rw [hm]; split <;> omega)
      obtain ⟨q, rfl, g1⟩ := value_open t0
      obtain ⟨_, hl, hat⟩ := World.cells?_some c0
      refine ⟨q, fun j u hu => ?_, g1⟩
      have hj : j < 4 := (List.getElem?_eq_some_iff.1 hu).1
      rw [← Go.Deep.add_add, hat j hj, hu]
    obtain ⟨q, hq⟩ := Go.Deep.choose_lt each
    have hl : ((List.range len0).map q).length = len0 := by simp
    have hbk := bulk_vals q D (List.range len0) (fun i hi => (hq i (List.mem_range.1 hi)).2)
    have hd : d = _ := congrArg Prod.fst hx
    rw [hd] at hb
    simp only [Rows.uptoBulk] at hb
    have hsum : (((List.range len0).map q).map fun x => x.s.size + 1).sum ≤ 1048576 := by
      rw [List.map_map]
      have : ((fun x : VV => x.s.size + 1) ∘ q) = fun i => (q i).s.size + 1 := rfl
      rw [this]
      omega
    refine ⟨(List.range len0).map q, ⟨some a, cap0, by rw [hl], by rw [hl]; exact hlc, fun h => (by cases h), fun k x hx => ?_⟩, hsum⟩
    have hk : k < len0 := by have := (List.getElem?_eq_some_iff.1 hx).1; simpa using this
    have hxe : q k = x := by simpa [hk] using hx
    obtain ⟨e0, _⟩ := hq k hk
    obtain ⟨d0, _⟩ := hq 0 (by omega)
    have hsp : a.spot = none := by
      have d1 := d0 0 _ rfl
      have h00 : a.add (0 * 4 + 0) = a := by simp [Addr.add]
      rw [h00] at d1
      unfold World.cell? at d1
      cases hs : a.spot with
      | none => rfl
      | some z =>
        rw [hs] at d1
        cases hh : W.heap[a.block]? with
        | none => simp [hh] at d1
        | some o => cases o <;> simp [hh] at d1
    have hadd : ∀ j, a.add j = ⟨a.block, a.off + j, none⟩ := by
      intro j
      unfold Addr.add
      split
      · rename_i h0; subst h0; rw [← hsp]; simp
      · rfl
    subst hxe
    have g0 := e0 0 _ rfl
    have g1 := e0 1 _ rfl
    have g2 := e0 2 _ rfl
    have g3 := e0 3 _ rfl
    rw [hadd, ← Nat.add_assoc] at g0 g1 g2 g3
    have ha : a = ⟨a.block, a.off, none⟩ := by rw [← hsp]
    have hlb : a.block < W.heap.size := cell_lt (a := ⟨a.block, a.off + k * 4 + 0, none⟩) g0
    exact ⟨a.block, a.off, by rw [← ha], hlb, g0, g1, g2, g3⟩
theorem valarg_open {H : Type} {enc : TypeId × Value → H} {W : World} {base : Nat} {v : Value} {d : DataW H} {p : List MemPlace} (hok : Value.okWide Tryz.prog W .any base 26 v) (h : DataW.Trod enc Tryz.prog W 0 (fun _ => true) true 26 v d p) :
    ∃ x : VV, v = .agg (encVV x).toArray ∧ x.s.size ≤ Rows.uptoBulk d := by
  obtain ⟨v0, v1, v2, v3, y0, y1, y2, y3, n, rfl, hd, _, h0, h1, h2, h3⟩ := Go.Joins.open_agg4 Tryz.underlying26 (by kernel_rfl) cellsValue hok h
  obtain ⟨k, e0, _, _⟩ := DataW.trod_int Tryz.underlying3 h0
  obtain ⟨f, e1, _⟩ := trod_float5 Tryz.underlying23 h1
  obtain ⟨s, e2, g2, _⟩ := DataW.trod_string Tryz.underlying24 h2
  obtain ⟨r, e3, _, _⟩ := DataW.trod_int Tryz.underlying3 h3
  simp at e0 e1 e2 e3
  subst e0 e1 e2 e3
  refine ⟨⟨k, f, s, r⟩, rfl, ?_⟩
  have h3 : s.data.toList.length = s.size := rfl
  subst g2 hd
  simp only [Rows.uptoBulk, Rows.uptoBulkAll]
  omega
end Go.Proofs.YtkbohoolnpaleaaGreatDoor
namespace Go.Proofs.YtkbohoolnpaleaaGreatDoor
open Go.RowKit Go.Shelf Go.Lib Go.Sort Go.Proofs Go.Maps
set_option linter.unusedVariables false
set_option linter.unusedSimpArgs false
set_option maxHeartbeats 4000000
set_option maxRecDepth 100000

theorem c_Of4S (i : Nat) (hi : i < 300) (w : World) (hT : Pows w) (hP : P10 w) : Calls Tryz.prog 10 #[.int .u32 (i : Int)] w fun e w' => e = .returned (.agg #[.string (kI i).1, .int .i64 (kI i).2]) ∧ Below w.heap.size w w' := by
  refine (c_Of4 i (by omega) w hT hP).mono ?_
  rintro e w' ⟨n, rfl, hn, hb⟩
  rw [dg_small i n hi hn]
  exact ⟨rfl, hb⟩
theorem c_ArrayLists (l : List VV) (hs : (l.map fun x => x.s.size + 1).sum ≤ 1048576) (sv : VV) (hsv : sv.s.size ≤ 1048576) (v : Value) (w : World) (h : RdVV w v l) (hT : Pows w) (hP : P10 w) :
    Calls Tryz.prog 3 #[v, .agg (encVV sv).toArray] w fun e w' => e = .returned (.bool true) ∧ Below w.heap.size w w' := by
  obtain ⟨p, c, rfl, hlc, hpn, hcell⟩ := h
  obtain ⟨W1, hW1⟩ : ∃ W1, w.alloc (.cells (encVV sv).toArray 26) = W1 := ⟨_, rfl⟩
  have hb1 : Below w.heap.size w W1 := by rw [← hW1]; exact (Below.refl _ w).alloc (Nat.le_refl _) _
  have d1 : W1.heap[w.heap.size]? = some (.cells (encVV sv).toArray 26 (0, 0)) := by rw [← hW1]; exact heap_alloc_new w _
  have l1 := heapH_lt d1
  have hkv : ∀ y, Below W1.heap.size W1 y → y.heap[w.heap.size]? = some (.cells (encVV sv).toArray 26 (0, 0)) := fun y hy => (hy.block _ l1).trans d1
  have hcl : ∀ (y : World), Below W1.heap.size W1 y → ∀ (k : Nat) x, l[k]? = some x → ∃ b o, p = some ⟨b, o, none⟩ ∧ b < w.heap.size ∧ y.cell? ⟨b, o + k * 4, none⟩ = some (.int .i64 x.k) ∧ y.cell? ⟨b, o + k * 4 + 1, none⟩ = some (.float .f64 x.x) ∧ y.cell? ⟨b, o + k * 4 + 2, none⟩ = some (.string x.s) ∧ y.cell? ⟨b, o + k * 4 + 3, none⟩ = some (.int .i64 x.r) := fun y hy k x hx => by
    obtain ⟨b, o, e, lb, c0, c1, c2, c3⟩ := hcell k x hx
    have hB := hb1.trans (hy.mono hb1.size)
    exact ⟨b, o, e, lb, (hB.cell (p := ⟨b, o + k * 4, none⟩) lb).trans c0, (hB.cell (p := ⟨b, o + k * 4 + 1, none⟩) lb).trans c1, (hB.cell (p := ⟨b, o + k * 4 + 2, none⟩) lb).trans c2, (hB.cell (p := ⟨b, o + k * 4 + 3, none⟩) lb).trans c3⟩
  have h00 : sumV l 0 = l.length := by simp [sumV]
  have hTk : ∀ y, Below w.heap.size w y → Pows y ∧ P10 y := fun y hy => ⟨hT.keep hy, hP.keep hy⟩
  have hsum := sumV_le l
  have hone := fun x (hx : x ∈ l) => sumV_one l hx
  have hlen : l.length ≤ 1048576 := Nat.le_trans (by have := hsum 0; omega) hs
  unfold encVV at hW1
  replace h00 := Lib.hid h00
  replace hkv := Lib.hid hkv
  replace hcl := Lib.hid hcl
  replace hTk := Lib.hid hTk
  replace hsum := Lib.hid hsum
  replace hone := Lib.hid hone
  replace hs := Lib.hid hs
  replace hpn := Lib.hid hpn
  replace hb1 := Lib.hid hb1
  replace hsv := Lib.hid hsv
  clear hcell d1 l1 hT hP
  unfold encVV
  go_enter Tryz.func3, Tryz.ntmps3
  go_wp2_with (first | (go_at_call 4; refine (c_awake17 _).mono ?_; rintro e y0 ⟨rfl, hb0⟩))
  go_loopw [5, 24] (fun vn vi wr => ∃ i : Nat, i ≤ l.length ∧ vi = .int .i64 (i : Int) ∧ vn = .int .i64 (sumV l i : Int) ∧ Below W1.heap.size W1 wr) (fun _ vi _ => l.length - (intOf vi).toNat)
  case atStart => exact ⟨0, by omega, rfl, by rw [h00.out], hb0⟩
  case round =>
    obtain ⟨i, hi, rfl, rfl, hbl⟩ := hrel
    rcases Nat.lt_or_ge i l.length with hlt | hge
    · obtain ⟨x, hx⟩ : ∃ x, l[i]? = some x := ⟨_, List.getElem?_eq_getElem hlt⟩
      obtain ⟨b, o, rfl, lb, e0, e1, e2, e3⟩ := hcl.out wr hbl i x hx
      obtain ⟨Wv, hWv⟩ : ∃ Wv, wr.alloc (.cells #[.int .i64 x.k, .float .f64 x.x, .string x.s, .int .i64 x.r] 26) = Wv := ⟨_, rfl⟩
      have hbv : Below wr.heap.size wr Wv := by rw [← hWv]; exact (Below.refl _ wr).alloc (Nat.le_refl _) _
      have dv : Wv.heap[wr.heap.size]? = some (.cells #[.int .i64 x.k, .float .f64 x.x, .string x.s, .int .i64 x.r] 26 (0, 0)) := by rw [← hWv]; exact heap_alloc_new wr _
      have v2 : Wv.cell? ⟨wr.heap.size, 2, none⟩ = some (.string x.s) := by rw [cell_of_row _ _ 2 _ _ _ dv]; rfl
      have q1 : (0 : Int) ≤ (i : Int) := by omega
      have q2 : (i : Int) < (l.length : Int) := by omega
      have hfin2 := sum_step hx hs.out
      have hbn := hbl.trans (hbv.mono hbl.size)
      replace hfin2 := Lib.hid hfin2
      replace hbn := Lib.hid hbn
      have rsf := fun (w : World) (a : Addr) (x : Nat) => run_store Tryz.prog w a (.float .f64 x) .plain rfl
      clear hx hbv dv hbl
      go_wp2
      refine ⟨⟨i + 1, by omega, by go_num, ?_, hbn.out⟩, by simp [intOf]; omega⟩
      rw [hfin2.out]
    · obtain rfl : i = l.length := by omega
      clear hi hge
      have dk := hkv.out wr hbl
      have k2 : wr.cell? ⟨w.heap.size, 2, none⟩ = some (.string sv.s) := by rw [cell_of_row _ _ 2 _ _ _ dk]; rfl
      have hbw := hb1.out.trans (hbl.mono hb1.out.size)
      by_cases hn : sumV l l.length ≤ 200
      · by_cases hv2 : sv.s.size ≤ 2000
        · have hg1 : decide ((200 : Int) < (sumV l l.length : Int)) = false := by simp; omega
          have hg2 : decide ((2000 : Int) < (sv.s.size : Int)) = false := by simp; omega
          have hl200 : l.length ≤ 200 := Nat.le_trans (Nat.le_add_right _ _) hn
          have hNew := Lib.hid (hs_new wr 1000)
          have hn' := Lib.hid hn
          have hbl' := Lib.hid hbl
          have hbw' := Lib.hid hbw
          clear hn hv2 dk hbl hbw
          go_upto_region 12 with (first | (go_at_call 5; refine hNew.out.mono ?_; rintro e y1 ⟨hb, rfl, hH1⟩))
          have hB1 : Below wr.heap.size wr y1 := by obtain ⟨f, _, _, h3, _⟩ := hH1; exact h3
          have hrow : RdV y1 (fun r => False ∨ wr.heap.size ≤ r) p l := fun k x hx => by
            obtain ⟨b, o, e, lb, c0, c1, c2, c3⟩ := hcl.out wr hbl'.out k x hx
            have lb2 : b < wr.heap.size := Nat.lt_of_lt_of_le lb hbw'.out.size
            exact ⟨b, o, e, by rintro (h | h); exact h; omega, (hB1.cell (p := ⟨b, o + k * 4, none⟩) lb2).trans c0, (hB1.cell (p := ⟨b, o + k * 4 + 1, none⟩) lb2).trans c1, (hB1.cell (p := ⟨b, o + k * 4 + 2, none⟩) lb2).trans c2, (hB1.cell (p := ⟨b, o + k * 4 + 3, none⟩) lb2).trans c3⟩
          have hLi := Lib.hid (c_AList hH1 (by decide) l (by omega) (by omega) (by omega) p c hrow)
          replace hH1 := Lib.hid hH1
          clear hrow k2 hg1 hg2
          go_upto_region 15 with (first | (go_at_call 6; refine hLi.out.mono ?_; rintro e y2 ⟨rfl, hA2, hK2⟩))
          have hB2 : Below wr.heap.size wr y2 := hA2.base
          have dk2 := hkv.out y2 (hbl'.out.trans (hB2.mono hbl'.out.size))
          have k0 : y2.cell? ⟨w.heap.size, 0, none⟩ = some (.int .i64 sv.k) := by rw [cell_of_row _ _ 0 _ _ _ dk2]; rfl
          have k1 : y2.cell? ⟨w.heap.size, 1, none⟩ = some (.float .f64 sv.x) := by rw [cell_of_row _ _ 1 _ _ _ dk2]; rfl
          have k2 : y2.cell? ⟨w.heap.size, 2, none⟩ = some (.string sv.s) := by rw [cell_of_row _ _ 2 _ _ _ dk2]; rfl
          have k3 : y2.cell? ⟨w.heap.size, 3, none⟩ = some (.int .i64 sv.r) := by rw [cell_of_row _ _ 3 _ _ _ dk2]; rfl
          have hPu := Lib.hid (c_APush l hA2 (by omega) (by omega) (by omega) (by omega) sv)
          replace hA2 := Lib.hid hA2
          replace hK2 := Lib.hid hK2
          clear dk2 hB2 hB1
          go_upto_region 18 with (first | (go_at_call 7; refine hPu.out.mono ?_; rintro e y3 ⟨rfl, hA3, hK3⟩))
          have hget : getL (arrL kL kI (l ++ [sv])) kL = some (lenP (l.length + 1)) := by
            have := arr_len_get (kL := kL) (kI := kI) (l ++ [sv])
            rwa [List.length_append] at this
          have hLn := Lib.hid (c_ALength hA3 (l.length + 1) (by omega) hget)
          have hcI : ((l.length + 1 : Nat) : Int) = (l.length : Int) + 1 := by omega
          rw [hcI] at hLn
          have p0 : (0 : Int) ≤ (l.length : Int) := by omega
          have p1 : (l.length : Int) ≤ 200 := by omega
          replace hA3 := Lib.hid hA3
          replace hK3 := Lib.hid hK3
          clear k0 k1 k2 k3 hget hcI
          go_upto_region 21 with (first | (go_at_call 8; refine hLn.out.mono ?_; rintro e y4 ⟨rfl, hb4⟩))
          have hbl4 : Below W1.heap.size W1 y4 := hbl'.out.trans ((hA3.out.base.trans (hb4.mono hA3.out.base.size)).mono hbl'.out.size)
          have dk4 := hkv.out y4 hbl4
          have k0 : y4.cell? ⟨w.heap.size, 0, none⟩ = some (.int .i64 sv.k) := by rw [cell_of_row _ _ 0 _ _ _ dk4]; rfl
          have k1 : y4.cell? ⟨w.heap.size, 1, none⟩ = some (.float .f64 sv.x) := by rw [cell_of_row _ _ 1 _ _ _ dk4]; rfl
          have k2 : y4.cell? ⟨w.heap.size, 2, none⟩ = some (.string sv.s) := by rw [cell_of_row _ _ 2 _ _ _ dk4]; rfl
          have k3 : y4.cell? ⟨w.heap.size, 3, none⟩ = some (.int .i64 sv.r) := by rw [cell_of_row _ _ 3 _ _ _ dk4]; rfl
          have hc1 : ∀ (y : World), Below y4.heap.size y4 y → ∀ b, p = some b → ∀ j u, (flatV l)[j]? = some u → y.cell? (b.add j) = some u := fun y hy b hb' j u hu => by
            obtain ⟨k, x, i, hx, hi, rfl, he⟩ := flatV_at hu
            obtain ⟨b2, o, e, lb, c0, c1, c2, c3⟩ := hcl.out y (hbl4.trans (hy.mono hbl4.size)) k x hx
            rw [hb'] at e
            cases e
            have hadd : (⟨b2, o, none⟩ : Addr).add (k * 4 + i) = ⟨b2, o + (k * 4 + i), none⟩ := by unfold Addr.add; split <;> simp_all
            rw [hadd]
            have : i = 0 ∨ i = 1 ∨ i = 2 ∨ i = 3 := by omega
            rcases this with rfl | rfl | rfl | rfl
            · rw [show o + (k * 4 + 0) = o + k * 4 by omega, c0]; exact he
            · rw [show o + (k * 4 + 1) = o + k * 4 + 1 by omega, c1]; exact he
            · rw [show o + (k * 4 + 2) = o + k * 4 + 2 by omega, c2]; exact he
            · rw [show o + (k * 4 + 3) = o + k * 4 + 3 by omega, c3]; exact he
          have hA4 := Lib.hid (hA3.out.keep hb4)
          have lw4 : w.heap.size < y4.heap.size := heapH_lt dk4
          have hS0 : Below y4.heap.size y4 y4.drew := (Below.refl _ y4).drew
          replace hc1 := Lib.hid hc1
          have hbl4' := Lib.hid hbl4
          replace hb4 := Lib.hid hb4
          clear dk4 hbl4
          go_cut [85, 86, 87] (fun v85 v86 v87 wx => v86 = .int .i64 ((l.length : Int) + 1) ∧ v87 = .int .i64 0 ∧ ∃ g cap, v85 = .slice (some ⟨g, 0, none⟩) (l.length + 1) cap ∧ wx.ownsRow y4.heap.size 26 4 (.slice (some ⟨g, 0, none⟩) (l.length + 1) cap) (l.length + 1) (flatV (l ++ [sv])) ∧ Below y4.heap.size y4 wx)
          case first =>
            have hl1000 : l.length ≤ 1000 := by omega
            have hSa : ∀ o, Below y4.heap.size y4 (y4.alloc o).drew := fun o => ((Below.refl _ y4).alloc (Nat.le_refl _) o).drew
            have hra : ∀ o w', Below (y4.alloc o).drew.heap.size (y4.alloc o).drew w' → w'.heap[y4.heap.size]? = some o := fun o w' h => (h.block y4.heap.size (by show y4.heap.size < (y4.alloc o).heap.size; simp)).trans (heap_alloc_new y4 o)
            have hr := fun (y : World) => heap_alloc_new y (.cells #[.int .i64 sv.k, .float .f64 sv.x, .string sv.s, .int .i64 sv.r] 26)
            go_region_law (first | (refine step_app1 rfl _ _ rfl rfl p c l rfl hpn.out (hc1.out _ (by first | with_reducible exact hS0 | with_reducible exact hSa _)) hl1000 y4.heap.size (by simp) ?_; intro v' w' hown hbA hbB; have hB5 : Below y4.heap.size y4 w' := (by first | with_reducible exact hS0.trans hbA | with_reducible exact (hSa _).trans hbA); have dk5 := hkv.out w' (hbl4'.out.trans (hB5.mono hbl4'.out.size)); have m0 : w'.cell? ⟨w.heap.size, 0, none⟩ = some (.int .i64 sv.k) := (by rw [cell_of_row _ _ 0 _ _ _ dk5]; rfl); have m1 : w'.cell? ⟨w.heap.size, 1, none⟩ = some (.float .f64 sv.x) := (by rw [cell_of_row _ _ 1 _ _ _ dk5]; rfl); have m2 : w'.cell? ⟨w.heap.size, 2, none⟩ = some (.string sv.s) := (by rw [cell_of_row _ _ 2 _ _ _ dk5]; rfl); have m3 : w'.cell? ⟨w.heap.size, 3, none⟩ = some (.int .i64 sv.r) := (by rw [cell_of_row _ _ 3 _ _ _ dk5]; rfl); replace dk5 := Lib.hid dk5) | (refine step_app2 rfl _ _ rfl y4.heap.size v' l rfl (by first | with_reducible exact hown | with_reducible exact hown.alloc _) _ sv rfl (by first | with_reducible exact hr _ | with_reducible exact hra _ _ hbB) hl1000 (by have := hbA.size; simp at *; omega) ?_; intro g cap w2 hown2 hb2))
            all_goals go_wp2_with fail
            all_goals go_meet
            all_goals first | exact ⟨rfl, rfl, g, cap, rfl, hown2, hB5.trans hb2⟩ | exact ⟨rfl, rfl, g, cap, rfl, hown2, (hB5.alloc hB5.size _).trans hb2⟩
          case rest =>
            obtain ⟨rfl, rfl, g, cap, rfl, hown, hBc⟩ := hcut
            obtain ⟨wo, rfl⟩ : ∃ wo : World, wo = wr := ⟨_, rfl⟩
            have hlx : (l ++ [sv]).length = l.length + 1 := by simp
            have hAc := Lib.hid (hA4.out.keep hBc)
            have hTc := hTk.out wc (hb1.out.trans ((hbl4'.out.trans (hBc.mono hbl4'.out.size)).mono hb1.out.size))
            have hBw := Lib.hid (hb1.out.trans ((hbl4'.out.trans (hBc.mono hbl4'.out.size)).mono hb1.out.size))
            replace hTc := Lib.hid hTc
            replace hown := Lib.hid hown
            replace hBc := Lib.hid hBc
            replace hlx := Lib.hid hlx
            clear k0 k1 k2 k3 hS0 lw4
            go_wp2_with fail
            go_loopw [87] (fun vi wr => ∃ i : Nat, i ≤ l.length + 1 ∧ vi = .int .i64 (i : Int) ∧ Below wc.heap.size wc wr) (fun vi _ => l.length + 1 - (intOf vi).toNat)
            case atStart => exact ⟨0, by omega, rfl, Below.refl _ _⟩
            case round =>
              obtain ⟨i, hi, rfl, hbi⟩ := hrel
              rcases Nat.lt_or_ge i (l.length + 1) with hlt | hge
              · obtain ⟨x, hx⟩ : ∃ x, (l ++ [sv])[i]? = some x := ⟨_, List.getElem?_eq_getElem (by rw [hlx.out]; exact hlt)⟩
                obtain ⟨hgb, e0, e1, e2, e3⟩ := own_cells hown.out hx
                have lg : g < wc.heap.size := cell_lt e0
                replace e0 := (hbi.cell (p := ⟨g, i * 4, none⟩) lg).trans e0
                replace e1 := (hbi.cell (p := ⟨g, i * 4 + 1, none⟩) lg).trans e1
                replace e2 := (hbi.cell (p := ⟨g, i * 4 + 2, none⟩) lg).trans e2
                replace e3 := (hbi.cell (p := ⟨g, i * 4 + 3, none⟩) lg).trans e3
                obtain ⟨Wv, hWv⟩ : ∃ Wv, wr.alloc (.cells #[.int .i64 x.k, .float .f64 x.x, .string x.s, .int .i64 x.r] 26) = Wv := ⟨_, rfl⟩
                have hbv : Below wr.heap.size wr Wv := by rw [← hWv]; exact (Below.refl _ wr).alloc (Nat.le_refl _) _
                have dv : Wv.heap[wr.heap.size]? = some (.cells #[.int .i64 x.k, .float .f64 x.x, .string x.s, .int .i64 x.r] 26 (0, 0)) := by rw [← hWv]; exact heap_alloc_new wr _
                have hvr : ∀ y, Below Wv.heap.size Wv y → ((y.cell? ⟨wr.heap.size, 0, none⟩ = some (.int .i64 x.k) ∧ y.cell? ⟨wr.heap.size, 1, none⟩ = some (.float .f64 x.x)) ∧ y.cell? ⟨wr.heap.size, 2, none⟩ = some (.string x.s)) ∧ y.cell? ⟨wr.heap.size, 3, none⟩ = some (.int .i64 x.r) := fun y hy => by
                  have e := (hy.block _ (heapH_lt dv)).trans dv
                  exact ⟨⟨⟨by rw [cell_of_row _ _ 0 _ _ _ e]; rfl, by rw [cell_of_row _ _ 1 _ _ _ e]; rfl⟩, by rw [cell_of_row _ _ 2 _ _ _ e]; rfl⟩, by rw [cell_of_row _ _ 3 _ _ _ e]; rfl⟩
                have hbcv := hbi.trans (hbv.mono hbi.size)
                have q1 : (0 : Int) ≤ (i : Int) := by omega
                have q2 : (i : Int) < (l.length : Int) + 1 := by omega
                have q3 : (i : Int) ≤ 200 := by omega
                have hK := fun (y : World) (hy : Below wc.heap.size wc y) => c_Of4S i (by omega) y (hTc.out.1.keep hy) (hTc.out.2.keep hy)
                have hO := fun (y : World) (hy : Below wc.heap.size wc y) => as_own (hAc.out.keep hy) (kI i) (kI_ok i (by omega))
                rw [kI_pk i (by omega), arr_get kI_inj kI_ne (l ++ [sv]) i (by omega) (by rw [hlx.out]; omega), hx] at hO
                simp only [Option.map_some, Option.getD_some, Option.isSome_some] at hO
                have hSv := fun (y : World) => v_SameValue x y
                have hq := fun (y : World) => zeroA_set y (elP x)
                have hth := fun (y : World) => (zeroA_there y : (y.alloc (.cells zeroA 39)).there y.heap.size 0 (encP (elP x)).toArray.size)
                have hi13 : (Tryz.prog.info? 39).map (·.size) = some (encP (elP x)).toArray.size := infoProp
                have ho13 := all_oneCell_toArray (encP_one (elP x))
                have hcP := fun (y : World) (b : Nat) (hy : y.heap[b]? = some (.cells (encP (elP x)).toArray 39 (0, 0))) => cellsP hy
                unfold zeroA at hth
                have hPv : (elP x).v = x := rfl
                have hPf : (elP x).fl = 7 := rfl
                rw [hPv, hPf] at hcP
                unfold encVV at hSv
                generalize elP x = P at *
                replace hvr := Lib.hid hvr
                replace hK := Lib.hid hK
                replace hO := Lib.hid hO
                replace hSv := Lib.hid hSv
                replace hq := Lib.hid hq
                replace hcP := Lib.hid hcP
                replace hbcv := Lib.hid hbcv
                have hbi' := Lib.hid hbi
                have rsf := fun (w : World) (a : Addr) (x : Nat) => run_store Tryz.prog w a (.float .f64 x) .plain rfl
                clear hx hgb lg hbv dv hbi hPv hPf
                have tokA : True := trivial
                go_upto_region 25 with (first | (go_at_call 10; refine (hK.out _ hbcv.out).mono ?_; rintro e z1 ⟨rfl, hz1⟩; have hbz1 := hbcv.out.trans (hz1.mono hbcv.out.size)) | (go_at_call 9; refine (hO.out _ hbz1).mono ?_; rintro e z2 ⟨rfl, hz2⟩; have hth2 := hth z2; obtain ⟨hq2, hd2⟩ := hq.out z2) | (clear tokA; refine wpList_store_mid rfl 39 (.tmp 16) (.tmp 99) rfl z2.heap.size 0 (encP P).toArray rfl rfl hth2 hi13 ho13 ?_; generalize hW3 : World.setCells _ _ _ _ = W3; rw [show (z2.alloc (.cells zeroA 39)).setCells z2.heap.size 0 (encP P) = W3 from hW3] at hq2 hd2; clear hW3 hth2))
                have hbz2 := hbz1.trans (hz2.mono hbz1.size)
                have hbW3 := hbz2.trans (hq2.mono hbz2.size)
                obtain ⟨⟨a0, a1, a2, a3⟩, -, -, a12⟩ := hcP.out W3 _ hd2
                obtain ⟨⟨⟨v0, v1⟩, v2⟩, v3⟩ := hvr.out W3 ((hz1.trans (hz2.mono hz1.size)).trans (hq2.mono (hz1.trans (hz2.mono hz1.size)).size))
                replace hbW3 := Lib.hid hbW3
                replace hd2 := Lib.hid hd2
                clear e0 e1 e2 e3 hq2 hbz2 hz2 hbz1 hz1 hth hi13 ho13
                go_wp2_with (go_at_call 11; refine (hSv.out _).mono ?_; rintro e z4 ⟨rfl, hz4⟩)
                exact ⟨⟨i + 1, by omega, by go_num, hbW3.out.trans (hz4.mono hbW3.out.size)⟩, by simp [intOf]; omega⟩
              · obtain rfl : i = l.length + 1 := by omega
                clear hi hge
                go_wp2
                go_ret
                exact ⟨rfl, hBw.out.trans (hbi.mono hBw.out.size)⟩
        · have hg1 : decide ((200 : Int) < (sumV l l.length : Int)) = false := by simp; omega
          have hg2 : decide ((2000 : Int) < (sv.s.size : Int)) = true := by simp; omega
          replace hbw := Lib.hid hbw
          clear hn hv2 dk hbl
          go_wp2
          go_ret
          exact ⟨rfl, hbw.out⟩
      · have hg1 : decide ((200 : Int) < (sumV l l.length : Int)) = true := by simp; omega
        replace hbw := Lib.hid hbw
        clear hn dk hbl
        go_wp2
        go_ret
        exact ⟨rfl, hbw.out⟩
end Go.Proofs.YtkbohoolnpaleaaGreatDoor
