/-
  Contracts: The contract of array.Define: one element more. The contracts of keys.Of at small numbers, of array.Push and Make. The contract of array.List. The contracts of shrink's closure, last, object.Delete. The contract of last, over shrink's closure. The contract of the laws' awake (heap). The example's array: its keys in their order, as it shrinks. The reference's name of the length; shrink of the example: its lists, their keys.
-/
import Derived.Test.YtkbohoolnpaleaaGreatDoorW16
import Derived.Test.YtkbohoolnpaleaaGreatDoorW7
import Derived.Test.YtkbohoolnpaleaaGreatDoorW10
import Derived.Test.YtkbohoolnpaleaaGreatDoorW15
import Derived.Test.YtkbohoolnpaleaaGreatDoorW4
namespace Go.Proofs.YtkbohoolnpaleaaGreatDoor
open Go.RowKit Go.Shelf Go.Lib Go.Sort Go.Proofs Go.Maps
set_option linter.unusedVariables false
set_option linter.unusedSimpArgs false
set_option maxHeartbeats 1000000
set_option maxRecDepth 100000

section
variable {ex : Nat → Prop} {N : Nat} {w0 w w' : World} {lim : Int} {hb B : Nat} {l : List (KK × PV)}
theorem AS.start2 (h : AS ex N w0 lim hb B l w) : ∃ ex' : Nat → Prop, (∀ r, ex' r → r < w.heap.size ∧ (ex r ∨ N ≤ r)) ∧ N ≤ w.heap.size ∧ ∀ y, Below w.heap.size w y → AS ex' y.heap.size w0 lim hb B l y := by
  obtain ⟨fast, f, h1, h2, h3, h4, h5, h6⟩ := h
  exact ⟨fun r => f r ≠ 0, fun r hr => ⟨Nat.lt_of_not_le fun hle => hr (h1 r hle), h6 r hr⟩, h5, fun y hy => ⟨fast, f, fun r hr => h1 r (Nat.le_trans hy.size hr), h2.below h1 hy, h3.trans (hy.mono h3.size), h4, Nat.le_refl _, fun r hr => .inl hr⟩⟩
theorem AS.size (h : AS ex N w0 lim hb B l w) : N ≤ w.heap.size := by
  obtain ⟨fast, f, h1, h2, h3, h4, h5, h6⟩ := h
  exact h5
/-- a block that the heap does not own turns -/
theorem AS.cells {b : Nat} (h : AS ex N w0 lim hb B l w) (hb' : ¬ (ex b ∨ N ≤ b)) (hw : w0.heap.size ≤ b) (ho : w'.os = w.os) (ht : w'.tape = w.tape) (hp : w'.output = w.output) (hs : w'.heap.size = w.heap.size) (hk : ∀ r, r ≠ b → w'.heap[r]? = w.heap[r]?) : AS ex N w0 lim hb B l w' := by
  obtain ⟨fast, f, h1, h2, h3, h4, h5, h6⟩ := h
  have hz : f b = 0 := Classical.byContradiction fun e => hb' (h6 b e)
  have t1 : Turn (fun c => c = 0) f f w w' := ⟨ho, ht, hp, by rw [hs]; exact Nat.le_refl _, fun _ _ => rfl, fun r hr => h1 r (by rw [hs] at hr; exact hr), fun r hr hn => hk r (fun e => hn (by rw [e]; exact hz))⟩
  exact ⟨fast, f, t1.norm, h2.turn t1 (fun _ h => h), h3.trans ⟨ho, ht, hp, by rw [hs]; exact Nat.le_refl _, fun r hr => hk r (by omega)⟩, h4, by rw [hs]; exact h5, h6⟩
abbrev BlS (W : World) (b : Nat) (y : World) : Prop := (∀ a : Addr, a.block = b → y.cell? a = W.cell? a) ∧ b < y.heap.size
theorem blS_drew {W : World} {b : Nat} (h : b < W.heap.size) : BlS W b W.drew := ⟨fun _ _ => rfl, h⟩
theorem blS_below {W y y' : World} {b : Nat} (h : BlS W b y) (hb : Below y.heap.size y y') : BlS W b y' :=
  ⟨fun a ha => (World.cell?_of_block (hb.block a.block (by rw [ha]; exact h.2))).trans (h.1 a ha), Nat.lt_of_lt_of_le h.2 hb.size⟩
theorem blS_keep {W y y' : World} {b : Nat} {p : Nat → Prop} (h : BlS W b y) (hp : ¬ p b) (hk : KeepBut p y y') : BlS W b y' :=
  ⟨fun a ha => (World.cell?_of_block (hk.2 a.block (by rw [ha]; exact h.2) (by rw [ha]; exact hp))).trans (h.1 a ha), Nat.lt_of_lt_of_le h.2 hk.1⟩
theorem kI_idxK (n : Nat) (h : n < 300) : idxK (kI n) = some n := by
  unfold idxK
  rw [if_neg (by show ¬ (0 : Int) < 0; decide)]
  exact kI_idx n h
theorem even_and (n : Nat) (h : n % 2 = 0) (hn : n ≤ 6) : bits BinOp.andNot IntKind.i64 (n : Int) 1 = (n : Int) := by
  have h0 : ∀ m : Fin 7, m.val % 2 = 0 → bits BinOp.andNot IntKind.i64 ((m.val : Nat) : Int) 1 = (m.val : Int) := by decide
  exact h0 ⟨n, by omega⟩ h
theorem c_ADefineN (vs : List VV) (h : AS ex N w0 lim hb B (arrL kL kI vs) w) (hB1 : 128 ≤ B) (hB : B + 2 < 90000) (hn : vs.length < 250) (hl : (vs.length : Int) + 3 < lim) (v : VV) :
    Calls Tryz.prog 12 #[.pointer (some ⟨hb, 0, none⟩), .int .i64 1, .agg #[.string (kI vs.length).1, .int .i64 (kI vs.length).2], descV 51 (elP v)] w fun e w' => e = .returned (.tuple #[.bool true, .bool false, .int .i64 0]) ∧ AS ex N w0 lim hb (B + 2 + 2) (arrL kL kI (vs ++ [v])) w' ∧ KeepBut (fun r => ex r ∨ N ≤ r) w w' := by
  obtain ⟨ex', hx1, hx2, hx3⟩ := h.start2
  obtain ⟨W1, hW1⟩ : ∃ W1, w.alloc (.cells #[.string (kI vs.length).1, .int .i64 (kI vs.length).2] 43) = W1 := ⟨_, rfl⟩
  obtain ⟨W2, hW2⟩ : ∃ W2, W1.alloc (.cells (encD 51 (elP v)).toArray 51) = W2 := ⟨_, rfl⟩
  have hb1 : Below w.heap.size w W1 := by rw [← hW1]; exact (Below.refl _ w).alloc (Nat.le_refl _) _
  have hb2 : Below W1.heap.size W1 W2 := by rw [← hW2]; exact (Below.refl _ W1).alloc (Nat.le_refl _) _
  have d1 : W1.heap[w.heap.size]? = some (.cells #[.string (kI vs.length).1, .int .i64 (kI vs.length).2] 43 (0, 0)) := by rw [← hW1]; exact heap_alloc_new w _
  have d2 : W2.heap[W1.heap.size]? = some (.cells (encD 51 (elP v)).toArray 51 (0, 0)) := by rw [← hW2]; exact heap_alloc_new W1 _
  have l1 := heapH_lt d1
  have l2 := heapH_lt d2
  have hbw : Below w.heap.size w W2 := hb1.trans (hb2.mono hb1.size)
  have hk' : ∀ y, Below W2.heap.size W2 y → (y.cell? ⟨w.heap.size, 0, none⟩ = some (.string (kI vs.length).1) ∧ y.cell? ⟨w.heap.size, 1, none⟩ = some (.int .i64 (kI vs.length).2)) ∧ y.heap[W1.heap.size]? = some (.cells (encD 51 (elP v)).toArray 51 (0, 0)) := fun y hy => by
    have e := (hy.block w.heap.size (Nat.lt_of_lt_of_le l1 hb2.size)).trans ((hb2.block _ l1).trans d1)
    exact ⟨⟨by rw [cell_of_row _ _ 0 _ _ _ e]; rfl, by rw [cell_of_row _ _ 1 _ _ _ e]; rfl⟩, (hy.block _ l2).trans d2⟩
  have hkk : pk (kI vs.length) = kI vs.length := kI_pk _ (by omega)
  have hLen := c_ALength (hx3 W2 hbw) vs.length (by omega) (arr_len_get vs)
  have hIdx := fun (y : World) => c_AIndex (kI vs.length) (kI_ok _ (by omega)) y
  rw [kI_idxK _ (by omega)] at hIdx
  have hOwn := fun (y : World) (hy : Below w.heap.size w y) => as_own (hx3 y hy) kL kL_ok
  rw [kL_pk, arr_len_get] at hOwn
  have hNm := fun (y : World) => c_AName y
  have hDf := fun (y : World) (hy : Below w.heap.size w y) => c_ODefine (hx3 y hy) hB1 (by omega) (by rw [arrL_length]; omega) (by rw [arrL_length]; push_cast; omega) (kI vs.length) (kI_ok _ (by omega)) 51 (elP v) (elP v) ⟨by show (0 : Int) ≤ 7; decide, by show (7 : Int) ≤ 15; decide⟩ rfl (fun z => by
    have e1 : getL (arrL kL kI vs) (pk (kI vs.length)) = none := by rw [hkk, arr_get kI_inj kI_ne vs _ (by omega) (by omega)]; simp
    rw [e1]
    exact c_OMergeA (elP v) rfl z)
  rw [hkk, arr_put kI_inj kI_ne vs v (by omega)] at hDf
  have hNu := fun (y : World) => c_ANumber (vs.length + 1) y
  rw [show (((vs.length + 1 : Nat)) : Int) = (vs.length : Int) + 1 by push_cast; rfl] at hNu
  have hPu := fun (y y2 : World) (hA : AS ex' y.heap.size w0 lim hb (B + 2) (arrM kL kI vs v) y2) => as_put hA (by omega) hB (by rw [arrM_length]; omega) (by rw [arrM_length]; push_cast; omega) kL kL_ok (lenP (vs.length + 1)) ⟨by show (0 : Int) ≤ 1; decide, by show (1 : Int) ≤ 15; decide⟩ rfl
  rw [kL_pk, arrM_put] at hPu
  have hsz := kI_size vs.length (by omega)
  have hne : (kI vs.length).1 ≠ lenB := fun e => kI_ne vs.length (by omega) (by unfold kL; rw [← e]; rfl)
  have hand := even_and _ hsz.1 hsz.2
  have hk2 : (kI vs.length).2 = 0 := rfl
  have hkL1 : kL.1 = lenB := rfl
  have hkL2 : kL.2 = 0 := rfl
  rw [hk2] at hW1 hIdx hDf hk' ⊢
  rw [hkL1, hkL2] at hOwn hPu
  have hext : (kI vs.length).1.extract 0 (kI vs.length).1.size = (kI vs.length).1 := ByteArray.extract_zero_size
  generalize (kI vs.length).1 = s at *
  unfold idxV at hIdx
  simp only [Option.getD_some, Option.isSome_some] at hIdx hOwn
  have p1 : (0 : Int) ≤ (vs.length : Int) := by omega
  have p2 : (vs.length : Int) < 250 := by omega
  have hfin : ∀ (y y2 y3 : World), Below w.heap.size w y → AS ex' y.heap.size w0 lim hb (B + 2 + 2) (arrL kL kI (vs ++ [v])) y3 → KeepBut (fun r => ex' r ∨ y.heap.size ≤ r) y y2 → Below y2.heap.size y2 y3 ∨ KeepBut (fun r => ex' r ∨ y.heap.size ≤ r) y2 y3 → True := fun _ _ _ _ _ _ _ => trivial
  clear hfin
  obtain ⟨k0, k1⟩ := (hk' W2 (Below.refl _ _)).1
  have hq := fun (y : World) => zeroA_set y (lenP vs.length)
  have hth := fun (y : World) => zeroA_there y
  have hi13 : (Tryz.prog.info? 39).map (·.size) = some (encP (lenP vs.length)).toArray.size := infoProp
  have ho13 := all_oneCell_toArray (encP_one (lenP vs.length))
  unfold zeroA at hth
  unfold descV at *
  have hlen := Lib.hid hn
  have hLen' := Lib.hid hLen
  replace hIdx := Lib.hid hIdx
  replace hOwn := Lib.hid hOwn
  replace hNm := Lib.hid hNm
  replace hDf := Lib.hid hDf
  replace hNu := Lib.hid hNu
  replace hPu := Lib.hid hPu
  replace hk' := Lib.hid hk'
  replace hq := Lib.hid hq
  replace hx1 := Lib.hid hx1
  replace hx3 := Lib.hid hx3
  replace hbw := Lib.hid hbw
  clear h d1 d2 l1 l2 hb1 hb2 hkk hn hLen hl hk2 hkL1 hkL2
  have tokA : True := trivial
  go_enter Tryz.func12, Tryz.ntmps12
  go_upto_region 3 with (first | (go_at_call 8; refine hLen'.out.mono ?_; rintro e y1 ⟨rfl, hb1⟩; clear k0 k1; obtain ⟨k0, k1⟩ := (hk'.out y1 hb1).1) | (go_at_call 27; refine (hIdx.out _).mono ?_; rintro e y2 ⟨rfl, hb2⟩; have hB2 := hb1.trans (hb2.mono hb1.size); clear k0 k1; obtain ⟨k0, k1⟩ := (hk'.out y2 hB2).1))
  have l0 : w.heap.size < y2.heap.size := cell_lt k0
  have hS0 := dfS_drew y2
  have hfd : ∀ y : World, (Instr.field 43 (.agg #[.string lenB, .int .i64 0]) 0).run Tryz.prog y = .ok (.string lenB) y := fun y => by kernel_rfl
  have hsl : (s.toList == lenB.toList) = false := by
    rw [beq_eq_false_iff_ne]
    exact fun e => hne (baH_eq e)
  go_region_held3 (fun y => (∀ a : Addr, a.block < y2.heap.size → y.cell? a = y2.cell? a) ∧ Below y2.heap.size y2 y) (first | with_reducible assumption | with_reducible exact hS0 | with_reducible exact dfS_below (by assumption) (by assumption)) (first | (go_at_call 22; refine (hNm.out _).mono ?_; rintro e y3 ⟨rfl, hb3⟩))
  have hB3 : Below W2.heap.size W2 y3 := hB2.trans ((hb3.mono (Nat.le_refl _)).mono hB2.size |> fun h => ⟨h.os, h.tape, h.output, h.size, h.block⟩)
  clear hS0 hfd hsl hext hand hne l0
  rename_i hHx
  clear hHx
  have hWB := hbw.out.trans (hB3.mono hbw.out.size)
  have hkk3 := hk'.out y3 hB3
  obtain ⟨⟨k0, k1⟩, hdd3⟩ := hkk3
  have hrgD := fun (y : World) (hy : Below W2.heap.size W2 y) => rangeL (hk'.out y hy).2
  have hi14 : (Tryz.prog.info? 51).map (·.size) = some (encD 51 (elP v)).length := infoDesc
  have hcP := fun (y : World) (b : Nat) (hy : y.heap[b]? = some (.cells (encP (lenP vs.length)).toArray 39 (0, 0))) => cellsP hy
  have hwb : w0.heap.size ≤ w.heap.size := (hx3.out w (Below.refl _ _)).base.size
  replace hrgD := Lib.hid hrgD
  replace hcP := Lib.hid hcP
  have hB3' := Lib.hid hB3
  have hWB' := Lib.hid hWB
  replace hwb := Lib.hid hwb
  clear hB3 hWB hb3 hdd3 hb1 hb2 hB2
  have tokB : True := trivial
  have tokC : True := trivial
  generalize hPe : lenP vs.length = P at *
  have hPf : P.fl = 1 := by rw [← hPe]; rfl
  have hne1 : (bits BinOp.and IntKind.i64 P.fl 1 == 0) = false := by rw [hPf]; decide
  replace hPe := Lib.hid hPe
  clear hPf
  go_upto_region 13 with (first | (go_at_call 22; refine (hNm.out _).mono ?_; rintro e y4 ⟨rfl, hb4⟩; have hB4 := hB3'.out.trans (hb4.mono hB3'.out.size); have hW4 := hWB'.out.trans (hb4.mono hWB'.out.size)) | (go_at_call 9; refine (hOwn.out _ hW4).mono ?_; rintro e y5 ⟨rfl, hb5⟩; have hth5 := hth y5; obtain ⟨hq5, hd5⟩ := hq.out y5) | (clear tokA; refine wpList_store_mid rfl 39 (.tmp 17) (.tmp 86) rfl y5.heap.size 0 (encP P).toArray rfl rfl hth5 hi13 ho13 ?_; generalize hW6 : World.setCells _ _ _ _ = W6; rw [show (y5.alloc (.cells zeroA 39)).setCells y5.heap.size 0 (encP P) = W6 from hW6] at hq5 hd5; clear hW6 hth5; have hb6 := hb5.trans (hq5.mono hb5.size); have hB6 := hB4.trans (hb6.mono hB4.size); have hW6 := hW4.trans (hb6.mono hW4.size); clear k0 k1; obtain ⟨k0, k1⟩ := (hk'.out W6 hB6).1; obtain ⟨-, -, -, a12⟩ := hcP.out W6 _ hd5; have hrg6 := hrgD.out W6 hB6) | (clear tokB; refine wpList_load_mid rfl 51 (.tmp 7) rfl W1.heap.size 0 rfl (encD 51 (elP v)) _ hrg6 Tryz.underlying51 rfl hi14 ?_) | (go_at_call 29; refine (hDf.out _ hW6).mono ?_; rintro e y7 ⟨rfl, hA7, hK7⟩))
  have lb : y5.heap.size < W6.heap.size := heapH_lt hd5
  have lw : w.heap.size ≤ y5.heap.size := Nat.le_trans hW4.size hb5.size
  have hnx : ¬ (ex' y5.heap.size ∨ W6.heap.size ≤ y5.heap.size) := by
    rintro (h | h)
    · have := (hx1.out _ h).1; omega
    · omega
  have d7 := (hK7.2 _ lb hnx).trans hd5
  have hn8 : ∀ y8, Below y7.heap.size y7 y8 → y8.heap[y5.heap.size]? = some (.cells (encP P).toArray 39 (0, 0)) := fun y8 h8 => (h8.block _ (heapH_lt d7)).trans d7
  have hc8 := fun (y8 : World) (h8 : Below y7.heap.size y7 y8) => hcP.out y8 _ (hn8 y8 h8)
  have hf8 : ∀ y8, Below y7.heap.size y7 y8 → ∀ j, y8.frozen? ⟨y5.heap.size, j, none⟩ = false := fun y8 h8 j => by simp [World.frozen?, hn8 y8 h8]
  have rsf := fun (w : World) (a : Addr) (x : Nat) => run_store Tryz.prog w a (.float .f64 x) .plain rfl
  replace hn8 := Lib.hid hn8
  replace hc8 := Lib.hid hc8
  replace hf8 := Lib.hid hf8
  replace hA7 := Lib.hid hA7
  replace hK7 := Lib.hid hK7
  replace hnx := Lib.hid hnx
  clear a12 hrg6 hd5 hq5 hth hi13 ho13 hi14 k0 k1 hne1 d7
  go_upto_region 14 with (first | (go_at_call 30; refine (hNu.out _).mono ?_; rintro e y8 ⟨rfl, hb8⟩; obtain ⟨⟨a0, a1, a2, a3⟩, -⟩ := hc8.out y8 hb8; have f0 := hf8.out y8 hb8 0; have f1 := hf8.out y8 hb8 1; have f2 := hf8.out y8 hb8 2; have f3 := hf8.out y8 hb8 3))
  obtain ⟨W9, hW9⟩ : ∃ W9, (((y8.setCell ⟨y5.heap.size, 0, none⟩ (.int .i64 3)).setCell ⟨y5.heap.size, 1, none⟩ (.float .f64 (fl (vs.length + 1)))).setCell ⟨y5.heap.size, 2, none⟩ (.string ⟨#[]⟩)).setCell ⟨y5.heap.size, 3, none⟩ (.int .i64 0) = W9 := ⟨_, rfl⟩
  rw [hW9]
  have hs9 : W9.heap.size = y8.heap.size := by rw [← hW9]; simp [World.setCell]
  have ho9 : W9.os = y8.os ∧ W9.tape = y8.tape ∧ W9.output = y8.output := by rw [← hW9]; exact ⟨rfl, rfl, rfl⟩
  have hr9 : ∀ r, r ≠ y5.heap.size → W9.heap[r]? = y8.heap[r]? := fun r hr => by
    rw [← hW9, Below.heap_setCell _ _ _ _ hr, Below.heap_setCell _ _ _ _ hr, Below.heap_setCell _ _ _ _ hr, Below.heap_setCell _ _ _ _ hr]
  have d9 : W9.heap[y5.heap.size]? = some (.cells (encP (lenP (vs.length + 1))).toArray 39 (0, 0)) := by
    have h8 := hn8.out y8 hb8
    have e := hPe.out
    subst e
    rw [← hW9]
    have h1 := heap_setCell_same y8 y5.heap.size 0 _ _ (.int .i64 3) h8
    have h2 := heap_setCell_same _ y5.heap.size 1 _ _ (.float .f64 (fl (vs.length + 1))) h1
    have h3 := heap_setCell_same _ y5.heap.size 2 _ _ (.string ⟨#[]⟩) h2
    exact heap_setCell_same _ y5.heap.size 3 _ _ (.int .i64 0) h3
  have hA9 := (hA7.out.keep hb8).cells hnx.out (Nat.le_trans hwb.out lw) ho9.1 ho9.2.1 ho9.2.2 hs9 hr9
  have hA9d : AS ex' W6.heap.size w0 lim hb (B + 2) (arrM kL kI vs v) W9.drew := hA9.keep (Below.refl _ W9).drew
  obtain ⟨⟨a0, a1, a2, a3⟩, ⟨a4, a5, a6, a7⟩, ⟨a8, a9, a10, a11⟩, a12⟩ := cellsP d9
  simp only [lenP, numV, zeroVV] at a0 a1 a2 a3 a4 a5 a6 a7 a8 a9 a10 a11 a12
  have hS0 := blS_drew (heapH_lt d9)
  have hK79 : ∀ r, r < W6.heap.size → ¬ (ex' r ∨ W6.heap.size ≤ r) → r ≠ y5.heap.size → W9.heap[r]? = W6.heap[r]? := fun r hr h1 h2 => (hr9 r h2).trans ((hb8.block r (Nat.lt_of_lt_of_le hr hK7.out.1)).trans (hK7.out.2 r hr h1))
  have hs69 : W6.heap.size ≤ W9.heap.size := by rw [hs9]; exact Nat.le_trans hK7.out.1 hb8.size
  replace hA9d := Lib.hid hA9d
  replace hK79 := Lib.hid hK79
  replace hs69 := Lib.hid hs69
  have hW6' := Lib.hid hW6
  have lw' := Lib.hid lw
  have lb' := Lib.hid lb
  have tokD : True := trivial
  clear hs9 ho9 hr9 d9 hA9 hW9 hb8 hW6 lw lb f0 f1 f2 f3 hn8 hc8 hf8 hb4 hb5 hb6 hB4 hB6 hW4 rsf
  go_region_held3 (fun y => (∀ a : Addr, a.block = y5.heap.size → y.cell? a = W9.cell? a) ∧ y5.heap.size < y.heap.size) (first | with_reducible assumption | with_reducible exact hS0 | with_reducible exact blS_below (by assumption) (by assumption) | exact blS_keep (by assumption) hnx.out (by assumption)) (first | (go_at_call 22; refine (hNm.out _).mono ?_; rintro e y10 ⟨rfl, hb10⟩) | (go_at_call 31; refine (hPu.out W6 _ (hA9d.out.keep hb10)).mono ?_; rintro e y11 ⟨rfl, hA11, hK11⟩))
  go_wp2
  go_ret3
  have hs1 := hW6'.out.size
  have hs2 := hs69.out
  have hs3 : W9.heap.size ≤ y10.heap.size := hb10.size
  have hs4 := hK11.1
  refine ⟨rfl, hA11.wide (fun r hr => ?_) (by omega), by omega, fun r hr hn => ?_⟩
  · rcases hr with h | h
    · exact (hx1.out r h).2
    · exact .inr (by omega)
  · have hnx' : ¬ (ex' r ∨ W6.heap.size ≤ r) := by
      rintro (h | h)
      · exact hn (hx1.out r h).2
      · omega
    have e1 := hK11.2 r (by omega) hnx'
    have e2 := hb10.block r (show r < W9.heap.size by omega)
    have e3 := hK79.out r (by omega) hnx' (by have := lw'.out; omega)
    exact e1.trans (e2.trans (e3.trans (hW6'.out.block r hr)))
end
end Go.Proofs.YtkbohoolnpaleaaGreatDoor
namespace Go.Proofs.YtkbohoolnpaleaaGreatDoor
open Go.RowKit Go.Shelf Go.Lib Go.Sort Go.Proofs Go.Maps
set_option linter.unusedVariables false
set_option linter.unusedSimpArgs false
set_option maxHeartbeats 1000000
set_option maxRecDepth 100000

theorem dg_all : ∀ i : Fin 300, ∀ n : Fin 4, ((i.val = 0 ∧ n.val = 1) ∨ (1 ≤ n.val ∧ 10 ^ (n.val - 1) ≤ i.val ∧ i.val < 10 ^ n.val)) → dg n.val i.val = dgs i.val := by decide +kernel
theorem dg_small (i n : Nat) (hi : i < 300) (h : NdOf i n) : dg n i = dgs i := by
  have hn : n < 4 := by
    rcases h with ⟨_, rfl⟩ | ⟨h1, h2, h3⟩
    · decide
    · refine Nat.lt_of_not_le fun h4 => ?_
      have : 10 ^ 3 ≤ 10 ^ (n - 1) := Nat.pow_le_pow_right (by decide) (by omega)
      omega
  exact dg_all ⟨i, hi⟩ ⟨n, hn⟩ h
theorem c_KOfS (i : Nat) (hi : i < 300) (w : World) : Calls Tryz.prog 18 #[.int .u32 (i : Int)] w fun e w' => e = .returned (.agg #[.string (kI i).1, .int .i64 (kI i).2]) ∧ Below w.heap.size w w' := by
  refine (c_KOf i (by omega) w).mono ?_
  rintro e w' ⟨n, rfl, hn, hb⟩
  rw [dg_small i n hi hn]
  exact ⟨rfl, hb⟩
section
variable {ex : Nat → Prop} {N : Nat} {w0 w w' : World} {lim : Int} {hb B : Nat}
theorem AS.finish {ex' : Nat → Prop} {l : List (KK × PV)} {y y5 : World} (hx1 : ∀ r, ex' r → r < w.heap.size ∧ (ex r ∨ N ≤ r)) (hN : N ≤ w.heap.size) (hB : Below w.heap.size w y) (hA : AS ex' y.heap.size w0 lim hb B l y5) (hK : KeepBut (fun r => ex' r ∨ y.heap.size ≤ r) y y5) : AS ex N w0 lim hb B l y5 ∧ KeepBut (fun r => ex r ∨ N ≤ r) w y5 := by
  have h1 := hB.size
  have h2 := hK.1
  refine ⟨hA.wide (fun r hr => ?_) (by omega), by omega, fun r hr hn => ?_⟩
  · rcases hr with h | h
    · exact (hx1 r h).2
    · exact .inr (by omega)
  · refine (hK.2 r (by omega) ?_).trans (hB.block r hr)
    rintro (h | h)
    · exact hn (hx1 r h).2
    · omega
theorem c_APush (vs : List VV) (h : AS ex N w0 lim hb B (arrL kL kI vs) w) (hB1 : 128 ≤ B) (hB : B + 2 < 90000) (hn : vs.length < 250) (hl : (vs.length : Int) + 3 < lim) (v : VV) :
    Calls Tryz.prog 7 #[.pointer (some ⟨hb, 0, none⟩), .int .i64 1, .agg #[.int .i64 v.k, .float .f64 v.x, .string v.s, .int .i64 v.r]] w fun e w' => e = .returned (.tuple #[.bool true, .int .i64 0]) ∧ AS ex N w0 lim hb (B + 2 + 2) (arrL kL kI (vs ++ [v])) w' ∧ KeepBut (fun r => ex r ∨ N ≤ r) w w' := by
  obtain ⟨ex', hx1, hx2, hx3⟩ := h.start2
  obtain ⟨W1, hW1⟩ : ∃ W1, w.alloc (.cells #[.int .i64 v.k, .float .f64 v.x, .string v.s, .int .i64 v.r] 26) = W1 := ⟨_, rfl⟩
  have hb1 : Below w.heap.size w W1 := by rw [← hW1]; exact (Below.refl _ w).alloc (Nat.le_refl _) _
  have d1 : W1.heap[w.heap.size]? = some (.cells #[.int .i64 v.k, .float .f64 v.x, .string v.s, .int .i64 v.r] 26 (0, 0)) := by rw [← hW1]; exact heap_alloc_new w _
  have l1 := heapH_lt d1
  have hLen := c_ALength (hx3 W1 hb1) vs.length (by omega) (arr_len_get vs)
  have hK := fun (y : World) => c_KOfS vs.length (by omega) y
  have hAl := fun (y : World) => c_AAll v y
  have hDf := fun (y : World) (hy : Below w.heap.size w y) => c_ADefineN vs (hx3 y hy) hB1 hB hn hl v
  have hc : ∀ y, Below W1.heap.size W1 y → y.heap[w.heap.size]? = some (.cells #[.int .i64 v.k, .float .f64 v.x, .string v.s, .int .i64 v.r] 26 (0, 0)) := fun y hy => (hy.block _ l1).trans d1
  have p1 : (0 : Int) ≤ (vs.length : Int) := by omega
  have p2 : (vs.length : Int) < 250 := by omega
  have hne : ((vs.length : Int) == 4294967295) = false := by simp; omega
  have hne2 : decide ((vs.length : Int) = 4294967295) = false := by simp; omega
  generalize (kI vs.length).1 = s at *
  generalize (kI vs.length).2 = z at *
  replace hLen := Lib.hid hLen
  replace hK := Lib.hid hK
  replace hAl := Lib.hid hAl
  replace hDf := Lib.hid hDf
  replace hc := Lib.hid hc
  replace hx1 := Lib.hid hx1
  have hb1' := Lib.hid hb1
  clear h d1 hn hl hx3 l1 hb1
  go_enter Tryz.func7, Tryz.ntmps7
  go_upto_region 4 with (first | (go_at_call 8; refine hLen.out.mono ?_; rintro e y1 ⟨rfl, hb2⟩))
  have hd1 := hc.out y1 hb2
  have c0 : y1.cell? ⟨w.heap.size, 0, none⟩ = some (.int .i64 v.k) := by rw [cell_of_row _ _ 0 _ _ _ hd1]; rfl
  have c1 : y1.cell? ⟨w.heap.size, 1, none⟩ = some (.float .f64 v.x) := by rw [cell_of_row _ _ 1 _ _ _ hd1]; rfl
  have c2 : y1.cell? ⟨w.heap.size, 2, none⟩ = some (.string v.s) := by rw [cell_of_row _ _ 2 _ _ _ hd1]; rfl
  have c3 : y1.cell? ⟨w.heap.size, 3, none⟩ = some (.int .i64 v.r) := by rw [cell_of_row _ _ 3 _ _ _ hd1]; rfl
  have hS0 := blS_drew (heapH_lt hd1)
  have hB1 := hb1'.out.trans (hb2.mono hb1'.out.size)
  have hBd : Below w.heap.size w y1.drew := hB1.drew
  have hnx : ∀ y, Below w.heap.size w y → w.heap.size < y.heap.size → ¬ (ex' w.heap.size ∨ y.heap.size ≤ w.heap.size) := fun y hy hl => by
    rintro (h | h)
    · have := (hx1.out _ h).1; omega
    · omega
  replace hnx := Lib.hid hnx
  clear hd1 hb2
  go_region_held3 (fun y => (∀ a : Addr, a.block = w.heap.size → y.cell? a = y1.cell? a) ∧ w.heap.size < y.heap.size) (first | with_reducible assumption | with_reducible exact hS0 | with_reducible exact blS_below (by assumption) (by assumption) | exact blS_keep (by assumption) hn4 (by assumption)) (first | (go_at_call 18; refine (hK.out _).mono ?_; rintro e ya ⟨rfl, hba⟩) | (go_at_call 19; refine (hAl.out _).mono ?_; rintro e yb ⟨rfl, hbb⟩) | (go_at_call 12; have hB4 := hBd.trans ((hba.trans (hbb.mono hba.size)).mono hBd.size); have hn4 := hnx.out _ hB4 (And.right (show BlS y1 w.heap.size _ by assumption)); refine (hDf.out _ hB4).mono ?_; rintro e y5 ⟨rfl, hA5, hK5⟩) | (go_at_call 12; have hB4 := hBd.trans ((hbb.trans (hba.mono hbb.size)).mono hBd.size); have hn4 := hnx.out _ hB4 (And.right (show BlS y1 w.heap.size _ by assumption)); refine (hDf.out _ hB4).mono ?_; rintro e y5 ⟨rfl, hA5, hK5⟩))
  all_goals
    have hF := AS.finish hx1.out hx2 hB4 hA5 hK5
    replace hF := Lib.hid hF
    clear hA5 hK5
    go_wp2
    go_ret2
    exact ⟨rfl, hF.out⟩
theorem c_AMake (h : HS ex N w0 lim hb B [] w) (hB1 : 128 ≤ B) (hB : B < 90000) (hl : 2 < lim) :
    Calls Tryz.prog 16 #[.pointer (some ⟨hb, 0, none⟩), .int .i64 0] w fun e w' => e = .returned (.tuple #[.int .i64 1, .int .i64 0]) ∧ AS ex N w0 lim hb (B + 2) (arrL kL kI []) w' ∧ KeepBut (fun r => ex r ∨ N ≤ r) w w' := by
  have hM := as_make h (by omega)
  have hNm := fun (y : World) => c_AName y
  have hNu := fun (y : World) => c_ANumber 0 y
  have hPu := fun (y : World) (hA : AS ex N w0 lim hb B [] y) => as_put hA hB1 hB (by simp) (by simp; omega) kL kL_ok (lenP 0) ⟨by decide, by decide⟩ rfl
  rw [kL_pk] at hPu
  have hp : putL [] kL (lenP 0) = arrL kL kI [] := rfl
  have hkL1 : kL.1 = lenB := rfl
  have hkL2 : kL.2 = 0 := rfl
  rw [hp, hkL1, hkL2] at hPu
  replace hM := Lib.hid hM
  replace hNm := Lib.hid hNm
  replace hNu := Lib.hid hNu
  replace hPu := Lib.hid hPu
  clear h hp hkL1 hkL2
  go_enter Tryz.func16, Tryz.ntmps16
  go_wp2_with (first | (go_at_call 33; refine hM.out.mono ?_; rintro e y1 ⟨rfl, hA1, hK1⟩) | (go_at_call 22; refine (hNm.out _).mono ?_; rintro e y2 ⟨rfl, hb2⟩) | (go_at_call 30; refine (hNu.out _).mono ?_; rintro e y3 ⟨rfl, hb3⟩; have hA3 := (hA1.keep hb2).keep hb3) | (go_at_call 31; refine (hPu.out _ hA3).mono ?_; rintro e y4 ⟨rfl, hA4, hK4⟩))
  go_ret2
  exact ⟨rfl, hA4, hK1.trans (KeepBut.trans ⟨hb2.size, fun r hr _ => hb2.block r hr⟩ (KeepBut.trans ⟨hb3.size, fun r hr _ => hb3.block r hr⟩ hK4))⟩
end
end Go.Proofs.YtkbohoolnpaleaaGreatDoor
namespace Go.Proofs.YtkbohoolnpaleaaGreatDoor
open Go.RowKit Go.Shelf Go.Lib Go.Sort Go.Proofs Go.Maps
set_option linter.unusedVariables false
set_option linter.unusedSimpArgs false
set_option maxHeartbeats 1000000
set_option maxRecDepth 100000
attribute [local go_sem] Oper.semAt_some

/-- List's state in its loop: so many have come -/
def LiS (exh : Nat → Prop) (M : Nat) (w0 : World) (lim : Int) (hb B xb ob eb : Nat) (y1 : World) (pre : List VV) (W : World) : Prop :=
  (∀ y, Below W.heap.size W y → M ≤ y.heap.size → AS exh M w0 lim hb (B + 4 * pre.length) (arrL kL kI pre) y) ∧
    (W.heap[xb]? = some (.cells #[.pointer (some ⟨hb, 0, none⟩)] 28 (0, 0)) ∧ W.heap[ob]? = some (.cells #[.int .i64 1] 3 (0, 0)) ∧ W.heap[eb]? = some (.cells #[.int .i64 0] 30 (0, 0))) ∧ KeepBut (fun r => exh r ∨ y1.heap.size ≤ r) y1 W
section
variable {exh : Nat → Prop} {M : Nat} {w0 : World} {lim : Int} {hb B xb ob eb : Nat} {y1 : World}
theorem LiS.below {pre : List VV} {W W' : World} (h : LiS exh M w0 lim hb B xb ob eb y1 pre W) (hb' : Below W.heap.size W W') : LiS exh M w0 lim hb B xb ob eb y1 pre W' := by
  obtain ⟨h1, ⟨h2, h3, h4⟩, h5⟩ := h
  exact ⟨fun y hy => h1 y (hb'.trans (hy.mono hb'.size)), ⟨(hb'.block _ (heapH_lt h2)).trans h2, (hb'.block _ (heapH_lt h3)).trans h3, (hb'.block _ (heapH_lt h4)).trans h4⟩, h5.trans ⟨hb'.size, fun r hr _ => hb'.block r hr⟩⟩
/-- a block that is nobody's turns -/
theorem LiS.put {pre : List VV} {W : World} {l : Nat} {o : Obj} (h : LiS exh M w0 lim hb B xb ob eb y1 pre W) (hl : l < W.heap.size) (hM : M ≤ W.heap.size) (hx : ¬ (exh l ∨ M ≤ l)) (hw : w0.heap.size ≤ l) (hy1 : y1.heap.size ≤ l) (n1 : l ≠ xb) (n2 : l ≠ ob) (n3 : l ≠ eb) : LiS exh M w0 lim hb B xb ob eb y1 pre (W.putObj l o) := by
  obtain ⟨h1, ⟨h2, h3, h4⟩, h5⟩ := h
  have hs : (W.putObj l o).heap.size = W.heap.size := by simp [World.putObj]
  have hA := (h1 W (Below.refl _ W) hM).put (o := o) hx hw
  refine ⟨fun y hy _ => hA.keep hy, ⟨(World.putObj_heap_other (fun e => n1 e.symm)).trans h2, (World.putObj_heap_other (fun e => n2 e.symm)).trans h3, (World.putObj_heap_other (fun e => n3 e.symm)).trans h4⟩, h5.trans ⟨by rw [hs]; exact Nat.le_refl _, fun r hr hn => World.putObj_heap_other (fun e => hn (.inr (by rw [e]; exact hy1)))⟩⟩
theorem HS.start2 {ex : Nat → Prop} {N : Nat} {w : World} {H : List OB} (h : HS ex N w0 lim hb B H w) : ∃ ex' : Nat → Prop, (∀ r, ex' r → r < w.heap.size ∧ (ex r ∨ N ≤ r)) ∧ N ≤ w.heap.size ∧ ∀ y, Below w.heap.size w y → HS ex' y.heap.size w0 lim hb B H y := by
  obtain ⟨f, h1, h2, h3, h4, h5, h6⟩ := h
  exact ⟨fun r => f r ≠ 0, fun r hr => ⟨Nat.lt_of_not_le fun hle => hr (h1 r hle), h6 r hr⟩, h5, fun y hy => ⟨f, fun r hr => h1 r (Nat.le_trans hy.size hr), h2.below h1 hy, h3.trans (hy.mono h3.size), h4, Nat.le_refl _, fun r hr => .inl hr⟩⟩
theorem c_AList {ex : Nat → Prop} {N B0 : Nat} {w : World} (h : HS ex N w0 lim hb B0 [] w) (hB1 : 128 ≤ B0) (vs : List VV) (hn : vs.length ≤ 220) (hB : B0 + 2 + 4 * vs.length < 80000) (hl : (vs.length : Int) + 3 < lim) (p : Option Addr) (c : Nat) (hrow : RdV w (fun r => ex r ∨ N ≤ r) p vs) :
    Calls Tryz.prog 6 #[.pointer (some ⟨hb, 0, none⟩), .int .i64 0, .slice p vs.length c] w fun e w' => e = .returned (.tuple #[.int .i64 1, .int .i64 0]) ∧ AS ex N w0 lim hb (B0 + 2 + 4 * vs.length) (arrL kL kI vs) w' ∧ KeepBut (fun r => ex r ∨ N ≤ r) w w' := by
  obtain ⟨ex', hx1, hx2, hx3⟩ := h.start2
  obtain ⟨W1, hW1⟩ : ∃ W1, w.alloc (.cells #[.pointer (some ⟨hb, 0, none⟩)] 28) = W1 := ⟨_, rfl⟩
  have hb1 : Below w.heap.size w W1 := by rw [← hW1]; exact (Below.refl _ w).alloc (Nat.le_refl _) _
  have d1 : W1.heap[w.heap.size]? = some (.cells #[.pointer (some ⟨hb, 0, none⟩)] 28 (0, 0)) := by rw [← hW1]; exact heap_alloc_new w _
  have l1 := heapH_lt d1
  have c1 : W1.cell? ⟨w.heap.size, 0, none⟩ = some (.pointer (some ⟨hb, 0, none⟩)) := by rw [cell_of_row _ _ 0 _ _ _ d1]; rfl
  have hM := c_AMake (hx3 W1 hb1) hB1 (by omega) (by omega)
  have hV := fun (y : World) => c_Values y p vs.length c
  have hlt : ∀ b o (v : Value), w.cell? ⟨b, o, none⟩ = some v → b < w.heap.size := fun b o v h => cell_lt h
  have hexw : ∀ r, ¬ (ex r ∨ N ≤ r) → ¬ ex' r := fun r hn h => hn (hx1 r h).2
  replace hM := Lib.hid hM
  replace hV := Lib.hid hV
  refine (callsIn_wide (n := 5)).1 ?_
  refine callsIn_of_wp_marks Tryz.func6 rfl trivial ?_ rfl
  simp only [Tryz.ntmps6, List.size_toArray, List.length_cons, List.length_nil, Nat.reduceAdd, Nat.reduceSub, Array.replicate_succ, Array.replicate_zero, List.push_toArray, List.append_toArray, List.nil_append, List.cons_append]
  refine wpIn_wide.2 ?_
  replace hx1 := Lib.hid hx1
  replace hx3 := Lib.hid hx3
  replace hb1 := Lib.hid hb1
  replace d1 := Lib.hid d1
  replace hlt := Lib.hid hlt
  replace hexw := Lib.hid hexw
  replace hrow := Lib.hid hrow
  clear h
  go_upto_region 2 with (first | (go_at_call 16; refine hM.out.mono ?_; rintro e y2 ⟨rfl, hA2, hK2⟩))
  obtain ⟨W3, hW3⟩ : ∃ W3, (y2.alloc (.cells #[.int .i64 1] 3)).alloc (.cells #[.int .i64 0] 30) = W3 := ⟨_, rfl⟩
  rw [hW3]
  have hb3 : Below y2.heap.size y2 W3 := by rw [← hW3]; exact ((Below.refl _ y2).alloc (Nat.le_refl _) _).alloc (by simp) _
  have s3 : W3.heap.size = y2.heap.size + 2 := by rw [← hW3]; simp
  have o3 : W3.heap[y2.heap.size]? = some (.cells #[.int .i64 1] 3 (0, 0)) := by rw [← hW3, Below.heap_alloc _ _ _ (by simp)]; exact heap_alloc_new y2 _
  have e3 : W3.heap[y2.heap.size + 1]? = some (.cells #[.int .i64 0] 30 (0, 0)) := by rw [← hW3]; exact heap_alloc2_new y2 _ _
  obtain ⟨W4, hW4⟩ : ∃ W4, W3.alloc (.cells #[.slice p vs.length c] 22) = W4 := ⟨_, rfl⟩
  have hb4 : Below W3.heap.size W3 W4 := by rw [← hW4]; exact (Below.refl _ W3).alloc (Nat.le_refl _) _
  have s4 : W4.heap.size = y2.heap.size + 3 := by rw [← hW4]; simp [s3]
  have a4 : W4.heap[W3.heap.size]? = some (.cells #[.slice p vs.length c] 22 (0, 0)) := by rw [← hW4]; exact heap_alloc_new W3 _
  have hb24 : Below y2.heap.size y2 W4 := hb3.trans (hb4.mono hb3.size)
  have o4 := (hb4.block _ (heapH_lt o3)).trans o3
  have e4 := (hb4.block _ (heapH_lt e3)).trans e3
  have hlw : w.heap.size < W1.heap.size := l1
  have hl2 : W1.heap.size ≤ y2.heap.size := hK2.1
  have hn1 : ¬ (ex' w.heap.size ∨ W1.heap.size ≤ w.heap.size) := by
    rintro (h | h)
    · have := (hx1.out _ h).1; omega
    · omega
  have x2 : y2.heap[w.heap.size]? = some (.cells #[.pointer (some ⟨hb, 0, none⟩)] 28 (0, 0)) := (hK2.2 _ l1 hn1).trans d1.out
  have x4 := (hb24.block _ (heapH_lt x2)).trans x2
  have hold : ∀ r, r < w.heap.size → ¬ (ex r ∨ N ≤ r) → W4.heap[r]? = w.heap[r]? := fun r hr hn => by
    have hn' : ¬ (ex' r ∨ W1.heap.size ≤ r) := by
      rintro (h | h)
      · exact hexw.out r hn h
      · omega
    exact (hb24.block r (by omega)).trans ((hK2.2 r (by omega) hn').trans (hb1.out.block r hr))
  obtain ⟨exh, hh1, hh2, hh3⟩ := hA2.start2
  have hrowX : RdV W4 (fun r => exh r ∨ r = y2.heap.size + 1) p vs := fun k x hx => by
    obtain ⟨b, o, e, hn, d0, d1, d2, d3⟩ := hrow.out k x hx
    have lb := hlt.out _ _ _ d0
    have e' := hold b lb hn
    refine ⟨b, o, e, ?_, (World.cell?_of_block (w := w) (a := ⟨b, o + k * 4, none⟩) e').trans d0, (World.cell?_of_block (w := w) (a := ⟨b, o + k * 4 + 1, none⟩) e').trans d1, (World.cell?_of_block (w := w) (a := ⟨b, o + k * 4 + 2, none⟩) e').trans d2, (World.cell?_of_block (w := w) (a := ⟨b, o + k * 4 + 3, none⟩) e').trans d3⟩
    rintro (h | h)
    · rcases (hh1 b h).2 with h' | h'
      · exact hexw.out b hn h'
      · omega
    · omega
  have hseq := vals_seq vs W3.heap.size (fun r => exh r ∨ r = y2.heap.size + 1) p c W4 (by rw [cell_of_row _ _ 0 _ _ _ a4]; rfl) (by rintro (h | h); have := (hh1 _ h).1; omega; omega) hrowX (by omega)
  have hw0 : w0.heap.size ≤ y2.heap.size := hA2.base.size
  have h0 : LiS exh (W4.heap.size + 2) w0 lim hb (B0 + 2) w.heap.size y2.heap.size (y2.heap.size + 1) y2 [] W4 :=
    ⟨fun y hy hM => (hh3 y (hb24.trans (hy.mono hb24.size))).wide (fun r hr => by
      rcases hr with h | h
      · exact .inl h
      · exact .inr (by omega)) hM, ⟨x4, o4, e4⟩, ⟨hb24.size, fun r hr _ => hb24.block r hr⟩⟩
  have hI : ∀ s A lp lp', LiS exh (W4.heap.size + 2) w0 lim hb (B0 + 2) w.heap.size y2.heap.size (y2.heap.size + 1) y2 s A → A.heap[W4.heap.size + 1]? = some (.loop lp) → LiS exh (W4.heap.size + 2) w0 lim hb (B0 + 2) w.heap.size y2.heap.size (y2.heap.size + 1) y2 s (A.putObj (W4.heap.size + 1) (.loop lp')) := fun s A lp lp' hs hl => by
    have hlt := heapH_lt hl
    refine hs.put hlt (by omega) ?_ (by omega) (by omega) (by omega) (by omega) (by omega)
    rintro (h | h)
    · have := (hh1 _ h).1; omega
    · omega
  have hsn : vs.length ≤ 220 := hn
  replace hseq := Lib.hid hseq
  replace h0 := Lib.hid h0
  replace hI := Lib.hid hI
  have hh1' := Lib.hid hh1
  have hA2' := Lib.hid hA2
  have hK2' := Lib.hid hK2
  have hb24' := Lib.hid hb24
  have s4' := Lib.hid s4
  have rsf := fun (w : World) (a : Addr) (x : Nat) => run_store Tryz.prog w a (.float .f64 x) .plain rfl
  clear hW3 hb3 s3 o3 e3 hb4 a4 o4 e4 x2 x4 hold hh1 hh2 hh3 hrowX hA2 hK2 hb24 s4 hn1 hlw
  have h5 : (5 : Nat) - 1 - 1 - 1 = 2 := rfl
  go_wp2_with (first | (go_at_call 17; refine (hV.out _).mono ?_; rintro e w4 ⟨rfl, e4⟩; rw [hW4] at e4; subst e4))
  refine (wpIn_wide (n := 5)).1 ?_
  refine rangeX (n := 5) (gf := 34) (lb := #[.pointer (some ⟨W3.heap.size, 0, none⟩)]) (ex := fun r => exh r ∨ r = y2.heap.size + 1) (w0 := w4) rfl (enters_of Tryz.func34 (by kernel_rfl) rfl) hseq.out (Below.refl _ _) (by rintro r (h | h); have := (hh1'.out _ h).1; have := s4'.out; omega; have := s4'.out; omega) (fun _ => rfl)
    (LiS exh (w4.heap.size + 2) w0 lim hb (B0 + 2) w.heap.size y2.heap.size (y2.heap.size + 1) y2) (fun _ _ _ => False) hI.out (fun c s A lp lp' h _ => h.elim) (fun s A B h hb => h.below hb) h0.out ?round ?done ?stop
  case stop =>
    intro c pre Y hx
    exact hx.elim
  case round =>
    intro l2 pre x Y hI0 hpre hl2 hl3 hl4
    subst hl4
    simp only [encVA, encVV]
    gi_wp2
    refine ⟨⟨by simp, fun r hr _ => Below.heap_alloc _ _ _ hr⟩, hI0.below ((Below.refl _ Y).alloc (Nat.le_refl _) _), ?_⟩
    rintro W5 hI2 hl5 hsz2 hsame
    have hvb : W5.heap[Y.heap.size]? = some (.cells #[.int .i64 x.k, .float .f64 x.x, .string x.s, .int .i64 x.r] 26 (0, 0)) := (hsame _ (by omega)).trans (heap_alloc_new Y _)
    have v0 : W5.cell? ⟨Y.heap.size, 0, none⟩ = some (.int .i64 x.k) := by rw [cell_of_row _ _ 0 _ _ _ hvb]; rfl
    have v1 : W5.cell? ⟨Y.heap.size, 1, none⟩ = some (.float .f64 x.x) := by rw [cell_of_row _ _ 1 _ _ _ hvb]; rfl
    have v2 : W5.cell? ⟨Y.heap.size, 2, none⟩ = some (.string x.s) := by rw [cell_of_row _ _ 2 _ _ _ hvb]; rfl
    have v3 : W5.cell? ⟨Y.heap.size, 3, none⟩ = some (.int .i64 x.r) := by rw [cell_of_row _ _ 3 _ _ _ hvb]; rfl
    obtain ⟨hAf, ⟨bx, bo, be⟩, hKy⟩ := hI2
    have cx : W5.cell? ⟨w.heap.size, 0, none⟩ = some (.pointer (some ⟨hb, 0, none⟩)) := by rw [cell_of_row _ _ 0 _ _ _ bx]; rfl
    have co : W5.cell? ⟨y2.heap.size, 0, none⟩ = some (.int .i64 1) := by rw [cell_of_row _ _ 0 _ _ _ bo]; rfl
    have ce : W5.cell? ⟨y2.heap.size + 1, 0, none⟩ = some (.int .i64 0) := by rw [cell_of_row _ _ 0 _ _ _ be]; rfl
    have hAS := hAf W5 (Below.refl _ _) (by omega)
    have hpl : pre.length + 1 ≤ vs.length := by
      obtain ⟨t, ht⟩ := hpre
      have := congrArg List.length ht
      simp at this; omega
    have hP := ((callsIn_wide (n := 5 - 1 - 1 - 1)).2 (c_APush pre hAS (by omega) (by omega) (by omega) (by omega) x)).inRound (w4.heap.size + 1)
    have hS4 := s4'.out
    have hnb : ∀ r, r < y2.heap.size + 3 → y2.heap.size ≤ r ∨ r = w.heap.size → ¬ (exh r ∨ w4.heap.size + 2 ≤ r) := fun r hr h => by
      rintro (h' | h')
      · have g := hh1'.out r h'
        rcases h with h | rfl
        · omega
        · rcases g.2 with g2 | g2
          · have := (hx1.out _ g2).1; omega
          · omega
      · omega
    have hbx : w.heap.size < y2.heap.size := by omega
    have hKbx := hnb w.heap.size (by omega) (.inr rfl)
    have hKbo := hnb y2.heap.size (by omega) (.inl (Nat.le_refl _))
    have hKbe := hnb (y2.heap.size + 1) (by omega) (.inl (Nat.le_succ _))
    have l5x := heapH_lt bx
    have l5o := heapH_lt bo
    have l5e := heapH_lt be
    replace hP := Lib.hid hP
    replace bx := Lib.hid bx
    replace bo := Lib.hid bo
    replace be := Lib.hid be
    replace hKy := Lib.hid hKy
    replace hsame := Lib.hid hsame
    replace hsz2 := Lib.hid hsz2
    clear hvb hAf hAS hnb hI0
    gi_wp2_with (refine ⟨trivial, ?_⟩; gi_at_call 7; refine hP.out.mono ?_; rintro e Z ⟨rfl, hA5, hK5⟩; have ze := (hK5.2 _ l5e hKbe).trans be.out; have cz : Z.cell? ⟨y2.heap.size + 1, 0, none⟩ = some (.int .i64 0) := (by rw [cell_of_row _ _ 0 _ _ _ ze]; rfl); have fz : Z.frozen? ⟨y2.heap.size + 1, 0, none⟩ = false := (by simp [World.frozen?, ze]))
    have zx := (hK5.2 _ l5x hKbx).trans bx.out
    have zo := (hK5.2 _ l5o hKbo).trans bo.out
    have hk6 : ∀ r, r ≠ y2.heap.size + 1 → (Z.setCell ⟨y2.heap.size + 1, 0, none⟩ (.int .i64 0)).heap[r]? = Z.heap[r]? := fun r hr => Below.heap_setCell _ _ _ _ hr
    have hz6 : (Z.setCell ⟨y2.heap.size + 1, 0, none⟩ (.int .i64 0)).heap.size = Z.heap.size := by simp [World.setCell]
    have hA6 : AS exh (w4.heap.size + 2) w0 lim hb (B0 + 2 + 4 * (pre ++ [x]).length) (arrL kL kI (pre ++ [x])) (Z.setCell ⟨y2.heap.size + 1, 0, none⟩ (.int .i64 0)) := by
      have e1 : B0 + 2 + 4 * (pre ++ [x]).length = B0 + 2 + 4 * pre.length + 2 + 2 := by simp; omega
      rw [e1]
      exact hA5.cells hKbe (by omega) rfl rfl rfl hz6 hk6
    have e6 := heap_setCell_same Z (y2.heap.size + 1) 0 _ _ (.int .i64 0) ze
    refine ⟨⟨by rw [hz6]; exact hK5.1, fun r hr hn => ?_⟩, fun y hy _ => hA6.keep hy, ⟨(hk6 _ (by omega)).trans zx, (hk6 _ (by omega)).trans zo, e6⟩, hKy.out.trans ⟨by rw [hz6]; exact hK5.1, fun r hr hn => ?_⟩⟩
    · refine (hk6 r (fun e => hn (.inl (.inr e)))).trans (hK5.2 r hr ?_)
      rintro (h | h)
      · exact hn (.inl (.inl h))
      · exact hn (.inr (by omega))
    · refine (hk6 r (fun e => hn (.inr (by omega)))).trans (hK5.2 r hr ?_)
      rintro (h | h)
      · exact hn (.inl h)
      · exact hn (.inr (by omega))
  case done =>
    rintro Y hI0 hK hlY
    obtain ⟨hAf, ⟨bx, bo, be⟩, hKy⟩ := hI0
    have co : Y.cell? ⟨y2.heap.size, 0, none⟩ = some (.int .i64 1) := by rw [cell_of_row _ _ 0 _ _ _ bo]; rfl
    have ce : Y.cell? ⟨y2.heap.size + 1, 0, none⟩ = some (.int .i64 0) := by rw [cell_of_row _ _ 0 _ _ _ be]; rfl
    have hS4 := s4'.out
    have hAS := (hAf Y (Below.refl _ _) (by omega)).put (b := w4.heap.size) (o := .deferred none) (by
      rintro (h' | h')
      · have g := hh1'.out _ h'; omega
      · omega) (by omega)
    have hs7 : (Y.putObj w4.heap.size (.deferred none)).heap.size = Y.heap.size := by simp [World.putObj]
    have hxw : ∀ r, exh r → ex r ∨ N ≤ r := fun r h => by
      rcases (hh1'.out r h).2 with h' | h'
      · exact (hx1.out r h').2
      · have := hb1.out.size; exact .inr (by omega)
    have hfin1 := hAS.wide (ex' := ex) (N' := N) (fun r hr => by
      rcases hr with h | h
      · exact hxw r h
      · exact .inr (by omega)) (by rw [hs7]; omega)
    have hfin2 : KeepBut (fun r => ex r ∨ N ≤ r) w (Y.putObj w4.heap.size (.deferred none)) := ⟨by rw [hs7]; omega, fun r hr hn => by
      have n1 : ¬ (ex' r ∨ W1.heap.size ≤ r) := by
        rintro (h | h)
        · exact hexw.out r hn h
        · omega
      have n2 : ¬ (exh r ∨ y2.heap.size ≤ r) := by
        rintro (h | h)
        · exact hn (hxw r h)
        · omega
      exact (World.putObj_heap_other (by omega)).trans ((hKy.2 r (by omega) n2).trans ((hK2'.out.2 r (by omega) n1).trans (hb1.out.block r hr)))⟩
    replace hfin1 := Lib.hid hfin1
    replace hfin2 := Lib.hid hfin2
    clear hAf hKy hAS bx bo be
    go_wp2
    refine ⟨by simp, .inl ⟨_, _, rfl, run_takeDeferred hK, ?_⟩⟩
    exact ⟨_, results_tmp2 rfl _ _ _, rfl, hfin1.out, hfin2.out⟩
end
end Go.Proofs.YtkbohoolnpaleaaGreatDoor
namespace Go.Proofs.YtkbohoolnpaleaaGreatDoor
open Go.RowKit Go.Shelf Go.Lib Go.Sort Go.Proofs Go.Maps
set_option linter.unusedVariables false
set_option linter.unusedSimpArgs false
set_option maxHeartbeats 1000000
set_option maxRecDepth 100000

/-- what shrink's closure answers of an index -/
def bey (n old : Nat) (i : Option Nat) : Bool := match i with
  | none => false
  | some i => decide (n ≤ i) && decide (i < old)
theorem c_AShrinkF (k : KK) (hk : okK k) (bn bo : Nat) (w : World) (hn : w.cell? ⟨bn, 0, none⟩ = some (.int .u32 1)) (ho : w.cell? ⟨bo, 0, none⟩ = some (.int .u32 3)) (hi : idxK k = none ∨ idxK k = some 0 ∨ idxK k = some 1 ∨ idxK k = some 2) :
    Calls Tryz.prog 61 #[.agg #[.string k.1, .int .i64 k.2], .pointer (some ⟨bn, 0, none⟩), .pointer (some ⟨bo, 0, none⟩)] w fun e w' => e = .returned (.tuple #[.int .u32 (((idxK k).getD 0 : Nat) : Int), .bool (bey 1 3 (idxK k))]) ∧ Below w.heap.size w w' := by
  obtain ⟨W1, hW1⟩ : ∃ W1, w.alloc (.cells #[.string k.1, .int .i64 k.2] 43) = W1 := ⟨_, rfl⟩
  have hb1 : Below w.heap.size w W1 := by rw [← hW1]; exact (Below.refl _ w).alloc (Nat.le_refl _) _
  have d1 : W1.heap[w.heap.size]? = some (.cells #[.string k.1, .int .i64 k.2] 43 (0, 0)) := by rw [← hW1]; exact heap_alloc_new w _
  have c0 : W1.cell? ⟨w.heap.size, 0, none⟩ = some (.string k.1) := by rw [cell_of_row _ _ 0 _ _ _ d1]; rfl
  have c1 : W1.cell? ⟨w.heap.size, 1, none⟩ = some (.int .i64 k.2) := by rw [cell_of_row _ _ 1 _ _ _ d1]; rfl
  have hI := fun (y : World) => c_AIndex k hk y
  have hbox : ∀ y, Below W1.heap.size W1 y → y.cell? ⟨bn, 0, none⟩ = some (.int .u32 1) ∧ y.cell? ⟨bo, 0, none⟩ = some (.int .u32 3) := fun y hy => by
    have h2 := hb1.trans (hy.mono hb1.size)
    exact ⟨(h2.cell (p := ⟨bn, 0, none⟩) (cell_lt hn)).trans hn, (h2.cell (p := ⟨bo, 0, none⟩) (cell_lt ho)).trans ho⟩
  unfold idxV at hI
  replace hbox := Lib.hid hbox
  have hb1' := Lib.hid hb1
  clear hk d1 hb1 hn ho
  rcases hi with hi | hi | hi | hi
  · rw [hi] at hI ⊢
    have hbe : bey 1 3 none = false := by decide
    rw [hbe]
    simp only [Option.getD_none, Option.isSome_none, Option.getD_some, Option.isSome_some] at hI ⊢
    replace hI := Lib.hid hI
    clear hi hbe
    go_enter Tryz.func61, Tryz.ntmps61
    go_upto_region 2 with (go_at_call 27; refine (hI.out _).mono ?_; rintro e y ⟨rfl, hb2⟩; obtain ⟨q1, q2⟩ := hbox.out y hb2)
    go_quiet (fail)
    go_wp2
    go_ret2
    exact ⟨rfl, (hb1'.out.trans (hb2.mono hb1'.out.size)).trans ⟨rfl, rfl, rfl, Nat.le_refl _, fun _ _ => rfl⟩⟩
  · rw [hi] at hI ⊢
    have hbe : bey 1 3 (some 0) = false := by decide
    rw [hbe]
    simp only [Option.getD_none, Option.isSome_none, Option.getD_some, Option.isSome_some] at hI ⊢
    replace hI := Lib.hid hI
    clear hi hbe
    go_enter Tryz.func61, Tryz.ntmps61
    go_upto_region 2 with (go_at_call 27; refine (hI.out _).mono ?_; rintro e y ⟨rfl, hb2⟩; obtain ⟨q1, q2⟩ := hbox.out y hb2)
    go_quiet (fail)
    go_wp2
    go_ret2
    exact ⟨rfl, (hb1'.out.trans (hb2.mono hb1'.out.size)).trans ⟨rfl, rfl, rfl, Nat.le_refl _, fun _ _ => rfl⟩⟩
  · rw [hi] at hI ⊢
    have hbe : bey 1 3 (some 1) = true := by decide
    rw [hbe]
    simp only [Option.getD_none, Option.isSome_none, Option.getD_some, Option.isSome_some] at hI ⊢
    replace hI := Lib.hid hI
    clear hi hbe
    go_enter Tryz.func61, Tryz.ntmps61
    go_upto_region 2 with (go_at_call 27; refine (hI.out _).mono ?_; rintro e y ⟨rfl, hb2⟩; obtain ⟨q1, q2⟩ := hbox.out y hb2)
    go_quiet (fail)
    go_wp2
    go_ret2
    exact ⟨rfl, (hb1'.out.trans (hb2.mono hb1'.out.size)).trans ⟨rfl, rfl, rfl, Nat.le_refl _, fun _ _ => rfl⟩⟩
  · rw [hi] at hI ⊢
    have hbe : bey 1 3 (some 2) = true := by decide
    rw [hbe]
    simp only [Option.getD_none, Option.isSome_none, Option.getD_some, Option.isSome_some] at hI ⊢
    replace hI := Lib.hid hI
    clear hi hbe
    go_enter Tryz.func61, Tryz.ntmps61
    go_upto_region 2 with (go_at_call 27; refine (hI.out _).mono ?_; rintro e y ⟨rfl, hb2⟩; obtain ⟨q1, q2⟩ := hbox.out y hb2)
    go_quiet (fail)
    go_wp2
    go_ret2
    exact ⟨rfl, (hb1'.out.trans (hb2.mono hb1'.out.size)).trans ⟨rfl, rfl, rfl, Nat.le_refl _, fun _ _ => rfl⟩⟩
section
variable {ex : Nat → Prop} {N : Nat} {w0 w w' : World} {lim : Int} {hb B : Nat} {l : List (KK × PV)}
theorem c_ODelete (h : AS ex N w0 lim hb B l w) (hB1 : 128 ≤ B) (hB : B ≤ 100000) (hn : l.length ≤ 1000) (k : KK) (hk : okK k) (P : PV) (hP : getL l (pk k) = some P) (hf : nam P.fl 4 = true) (j : Nat) (hj : idx (gk l) (pk k) = some j) :
    Calls Tryz.prog 64 #[.pointer (some ⟨hb, 0, none⟩), .int .i64 1, .agg #[.string k.1, .int .i64 k.2]] w fun e w' => e = .returned (.bool true) ∧ AS ex N w0 lim hb B (l.eraseIdx j) w' ∧ KeepBut (fun r => ex r ∨ N ≤ r) w w' := by
  obtain ⟨W1, hW1⟩ : ∃ W1, w.alloc (.cells #[.string k.1, .int .i64 k.2] 43) = W1 := ⟨_, rfl⟩
  have hb1 : Below w.heap.size w W1 := by rw [← hW1]; exact (Below.refl _ w).alloc (Nat.le_refl _) _
  have d1 : W1.heap[w.heap.size]? = some (.cells #[.string k.1, .int .i64 k.2] 43 (0, 0)) := by rw [← hW1]; exact heap_alloc_new w _
  have l1 := heapH_lt d1
  have hkc : ∀ y, Below W1.heap.size W1 y → y.cell? ⟨w.heap.size, 0, none⟩ = some (.string k.1) ∧ y.cell? ⟨w.heap.size, 1, none⟩ = some (.int .i64 k.2) := fun y hy => by
    have e := (hy.block _ l1).trans d1
    exact ⟨by rw [cell_of_row _ _ 0 _ _ _ e]; rfl, by rw [cell_of_row _ _ 1 _ _ _ e]; rfl⟩
  obtain ⟨c0, c1⟩ := hkc W1 (Below.refl _ _)
  have hO := as_own (h.keep hb1) k hk
  rw [hP] at hO
  simp only [Option.getD_some, Option.isSome_some] at hO
  have hD := fun (y : World) (hy : Below w.heap.size w y) => as_drop (h.keep hy) hB1 hB hn k hk j hj
  have hH := fun (y : World) => c_OHas P 4 y
  rw [hf] at hH
  have hq := fun (y : World) => zeroA_set y P
  have hth := fun (y : World) => (zeroA_there y : (y.alloc (.cells zeroA 39)).there y.heap.size 0 (encP P).toArray.size)
  have hi13 : (Tryz.prog.info? 39).map (·.size) = some (encP P).toArray.size := infoProp
  have ho13 := all_oneCell_toArray (encP_one P)
  have hcP := fun (y : World) (b : Nat) (hy : y.heap[b]? = some (.cells (encP P).toArray 39 (0, 0))) => cellsP hy
  unfold zeroA at hth
  have hH2 := hH
  unfold encP at hH2
  replace hO := Lib.hid hO
  replace hD := Lib.hid hD
  replace hH2 := Lib.hid hH2
  replace hq := Lib.hid hq
  replace hcP := Lib.hid hcP
  replace hkc := Lib.hid hkc
  have hb1' := Lib.hid hb1
  clear h hk hP hf hj d1 l1 hH hb1
  have tokA : True := trivial
  go_enter Tryz.func64, Tryz.ntmps64
  go_wp2_with (first | (go_at_call 9; refine hO.out.mono ?_; rintro e y2 ⟨rfl, hb2⟩; have hth2 := hth y2; obtain ⟨hq2, hd2⟩ := hq.out y2) | (clear tokA; refine wpList_store_mid rfl 39 (.tmp 7) (.tmp 14) rfl y2.heap.size 0 (encP P).toArray rfl rfl hth2 hi13 ho13 ?_; generalize hW3 : World.setCells _ _ _ _ = W3; rw [show (y2.alloc (.cells zeroA 39)).setCells y2.heap.size 0 (encP P) = W3 from hW3] at hq2 hd2; clear hW3 hth2; obtain ⟨⟨a0, a1, a2, a3⟩, ⟨a4, a5, a6, a7⟩, ⟨a8, a9, a10, a11⟩, a12⟩ := hcP.out W3 _ hd2; have hb3 := hb2.trans (hq2.mono hb2.size)) | (go_at_call 65; refine (hH2.out _).mono ?_; rintro e y4 ⟨rfl, hb4⟩; have hb5 := hb3.trans (hb4.mono hb3.size); have hb6 := hb1'.out.trans (hb5.mono hb1'.out.size); clear c0 c1; obtain ⟨c0, c1⟩ := hkc.out y4 hb5) | (go_at_call 84; refine (hD.out _ hb6).mono ?_; rintro e y7 ⟨rfl, hA7, hK7⟩))
  go_ret
  exact ⟨rfl, hA7, KeepBut.trans ⟨hb6.size, fun r hr _ => hb6.block r hr⟩ hK7⟩
end
end Go.Proofs.YtkbohoolnpaleaaGreatDoor
namespace Go.Proofs.YtkbohoolnpaleaaGreatDoor
open Go.RowKit Go.Shelf Go.Lib Go.Sort Go.Proofs Go.Maps
set_option linter.unusedVariables false
set_option linter.unusedSimpArgs false
set_option maxHeartbeats 1000000
set_option maxRecDepth 100000

def lastF (a : Nat × Bool) (k : KK) : Nat × Bool := if bey 1 3 (idxK k) then ((idxK k).getD 0, true) else a
def lastB (Z : List KK) : Nat × Bool := Z.foldl lastF (0, false)
theorem lastB_next {Z : List KK} {j : Nat} {x : KK} (h : Z[j]? = some x) : lastB (Z.take (j + 1)) = lastF (lastB (Z.take j)) x := by
  have hlt := (List.getElem?_eq_some_iff.1 h).1
  have hx := (List.getElem?_eq_some_iff.1 h).2
  unfold lastB
  rw [List.take_succ_eq_append_getElem hlt, List.foldl_append, hx]
  rfl
theorem c_ALast (v : Value) (Z : List KK) (bn bo : Nat) (w : World) (h : RdK w v Z) (hok : ∀ x ∈ Z, okK x ∧ (idxK x = none ∨ idxK x = some 0 ∨ idxK x = some 1 ∨ idxK x = some 2)) (hn : w.cell? ⟨bn, 0, none⟩ = some (.int .u32 1)) (ho : w.cell? ⟨bo, 0, none⟩ = some (.int .u32 3)) (hl : Z.length ≤ 1000) :
    Calls Tryz.prog 62 #[v, .func (.func 61) #[] #[.pointer (some ⟨bn, 0, none⟩), .pointer (some ⟨bo, 0, none⟩)]] w fun e w' => e = .returned (.tuple #[.int .u32 ((lastB Z).1 : Int), .bool (lastB Z).2]) ∧ Below w.heap.size w w' := by
  obtain ⟨p, c, rfl, _, _, hcell⟩ := h.form
  have hb0 := Below.refl w.heap.size w
  have hbx : ∀ y, Below w.heap.size w y → y.cell? ⟨bn, 0, none⟩ = some (.int .u32 1) ∧ y.cell? ⟨bo, 0, none⟩ = some (.int .u32 3) := fun y hy => ⟨(hy.cell (p := ⟨bn, 0, none⟩) (cell_lt hn)).trans hn, (hy.cell (p := ⟨bo, 0, none⟩) (cell_lt ho)).trans ho⟩
  replace hbx := Lib.hid hbx
  replace hok := Lib.hid hok
  replace hcell := Lib.hid hcell
  clear h hn ho
  go_enter Tryz.func62, Tryz.ntmps62
  go_wp2_with fail
  go_loopw [12, 4, 5] (fun vi v4 v5 wr => ∃ j : Nat, j ≤ Z.length ∧ vi = .int .i64 (j : Int) ∧ v4 = .int .u32 ((lastB (Z.take j)).1 : Int) ∧ v5 = .bool (lastB (Z.take j)).2 ∧ Below w.heap.size w wr) (fun vi _ _ _ => Z.length - (intOf vi).toNat)
  case atStart => exact ⟨0, Nat.zero_le _, rfl, rfl, rfl, hb0⟩
  case round =>
    obtain ⟨j, hj, rfl, rfl, rfl, hbj⟩ := hrel
    rcases Nat.lt_or_ge j Z.length with hlt | hge
    · obtain ⟨x, hx⟩ : ∃ x, Z[j]? = some x := ⟨_, List.getElem?_eq_getElem hlt⟩
      obtain ⟨b, o, rfl, lb, hy⟩ := hcell.out j x hx
      obtain ⟨d1, d2⟩ := hy wr hbj
      have q1 : (0 : Int) ≤ (j : Int) := by omega
      have q2 : (j : Int) < (Z.length : Int) := by omega
      obtain ⟨W2, hW2⟩ : ∃ W2, wr.alloc (.cells #[.string x.1, .int .i64 x.2] 43) = W2 := ⟨_, rfl⟩
      have hb2 : Below wr.heap.size wr W2 := by rw [← hW2]; exact (Below.refl _ wr).alloc (Nat.le_refl _) _
      have dk : W2.heap[wr.heap.size]? = some (.cells #[.string x.1, .int .i64 x.2] 43 (0, 0)) := by rw [← hW2]; exact heap_alloc_new wr _
      have k0 : W2.cell? ⟨wr.heap.size, 0, none⟩ = some (.string x.1) := by rw [cell_of_row _ _ 0 _ _ _ dk]; rfl
      have k1 : W2.cell? ⟨wr.heap.size, 1, none⟩ = some (.int .i64 x.2) := by rw [cell_of_row _ _ 1 _ _ _ dk]; rfl
      have hbw2 := hbj.trans (hb2.mono hbj.size)
      obtain ⟨g1, g2⟩ := hok.out x (List.mem_of_getElem? hx)
      obtain ⟨e1, e2⟩ := hbx.out W2 hbw2
      have hF := c_AShrinkF x g1 bn bo W2 e1 e2 g2
      have hnx := lastB_next hx
      unfold lastF at hnx
      generalize hI : (idxK x).getD 0 = i at *
      cases hbe : bey 1 3 (idxK x) with
      | false =>
        rw [hbe] at hF hnx
        simp only [Bool.false_eq_true, if_false] at hnx
        replace hF := Lib.hid hF
        replace hbw2 := Lib.hid hbw2
        replace hnx := Lib.hid hnx
        clear hx hy hb2 dk g1 g2 hbe hI e1 e2
        go_wp2_with (go_at_call 61; refine hF.out.mono ?_; rintro e y ⟨rfl, hb3⟩)
        exact ⟨⟨j + 1, by omega, by go_num, by rw [hnx.out], by rw [hnx.out], hbw2.out.trans (hb3.mono hbw2.out.size)⟩, by simp [intOf]; omega⟩
      | true =>
        rw [hbe] at hF hnx
        simp only [if_true] at hnx
        replace hF := Lib.hid hF
        replace hbw2 := Lib.hid hbw2
        replace hnx := Lib.hid hnx
        clear hx hy hb2 dk g1 g2 hbe hI e1 e2
        go_wp2_with (go_at_call 61; refine hF.out.mono ?_; rintro e y ⟨rfl, hb3⟩)
        exact ⟨⟨j + 1, by omega, by go_num, by rw [hnx.out], by rw [hnx.out], hbw2.out.trans (hb3.mono hbw2.out.size)⟩, by simp [intOf]; omega⟩
    · obtain rfl : j = Z.length := by omega
      rw [List.take_length]
      go_wp2
      go_ret2
      exact ⟨rfl, hbj⟩
end Go.Proofs.YtkbohoolnpaleaaGreatDoor
namespace Go.Proofs.YtkbohoolnpaleaaGreatDoor
open Go.RowKit Go.Shelf Go.Lib Go.Sort Go.Proofs Go.Maps
set_option maxHeartbeats 2000000
set_option maxRecDepth 100000

/-- a text of few letters -/
def xs (l : List UInt8) : ByteArray := ⟨l.toArray⟩
def tx (l : List UInt8) : ByteArray := textU (codes (xs l))
theorem asc {l : List UInt8} (h : (l.all fun u => decide (u.toNat < 128)) = true) : ∀ u ∈ codes (xs l), u < 128 := by
  intro u hu
  simp [codes, xs] at hu
  obtain ⟨b, hb, rfl⟩ := hu
  simpa using List.all_eq_true.1 h b hb
theorem c_name {l : List UInt8} (h : (l.all fun u => decide (u.toNat < 128)) = true) (hl : l.length ≤ 1000) (w : World) :
    Calls Tryz.prog 32 #[.string (xs l)] w fun e w' => e = .returned (keyV (tx l) 0) ∧ Below w.heap.size w w' :=
  c_Name4 (xs l) (by show l.length ≤ _; omega) (asc h) w
def kb : KK := (tx [98], 0)
def k2 : KK := (tx [50], 0)
def p7 : PV := ⟨zeroVV, zeroVV, zeroVV, 7⟩
def aw1 : List OB := makeH true [] 100 0 0
def aw2 : List OB := putH aw1 100 1 (pk kb) p7
def aw3 : List OB := putH aw2 100 1 (pk k2) p7
def aw4 : List OB := updH aw3 1 (dropA (pk kb))
theorem kb_ok : okK kb := by unfold okK; exact ⟨by decide +kernel, by decide +kernel⟩
theorem k2_ok : okK k2 := by unfold okK; exact ⟨by decide +kernel, by decide +kernel⟩
theorem aw_E1 : putE aw1 100 1 (pk kb) p7 = 0 := by decide +kernel
theorem aw_E2 : putE aw2 100 1 (pk k2) p7 = 0 := by decide +kernel
theorem aw_B : dropB aw3 1 (pk kb) = true := by decide +kernel
theorem aw_gk : gk (listH aw3 1) = [pk kb, pk k2] := by decide +kernel
theorem aw_f3 : (objH aw3 1).map OB.fast = some true := by decide +kernel
theorem aw_f4 : (objH aw4 1).map OB.fast = some false := by decide +kernel
theorem aw_u1 : usedH aw1 = 1 := by decide +kernel
theorem aw_u2 : usedH aw2 = 2 := by decide +kernel
theorem aw_u3 : usedH aw3 = 3 := by decide +kernel
theorem rkb : rk kb = 4294967296 := by decide +kernel
theorem rk2 : rk k2 = 2 := by decide +kernel
theorem aw_same : sameK k2.1 k2.1 k2.2 k2.2 = true := by decide +kernel
theorem aw_keysOf : KeysOf [pk kb, pk k2] [k2, kb] := by
  refine ⟨[kb, k2], rfl, ?_, ?_, ?_⟩
  · simp [Srt, rkb, rk2]
  · intro r
    simp only [cls, List.filter_cons, List.filter_nil, rkb, rk2, beq_iff_eq]
    by_cases h1 : 2 = r
    · subst h1; simp
    · simp [h1]
  · intro x hx
    simp at hx
    rcases hx with rfl | rfl
    · exact k2_ok
    · exact kb_ok
/-- the heap of the example; below w0 nothing turns -/
def AwH (w0 : World) (hb u B : Nat) (H : List OB) (w : World) : Prop := ∃ f, Norm f w ∧ HeapO w f hb 100 u B H ∧ Below w0.heap.size w0 w ∧ ∀ r, r < w0.heap.size → f r = 0
theorem AwH.keep {w0 w w' : World} {hb u B : Nat} {H : List OB} (h : AwH w0 hb u B H w) (hb' : Below w.heap.size w w') : AwH w0 hb u B H w' := by
  obtain ⟨f, h1, h2, h3, h4⟩ := h
  exact ⟨f, fun r hr => h1 r (Nat.le_trans hb'.size hr), h2.below h1 hb', h3.trans (hb'.mono h3.size), h4⟩
theorem AwH.step {w0 w w' : World} {hb u' B' : Nat} {H' : List OB} {f : Nat → Nat} (h3 : Below w0.heap.size w0 w) (h4 : ∀ r, r < w0.heap.size → f r = 0) (ht : HeapT w f hb 100 u' B' H' w') : AwH w0 hb u' B' H' w' := by
  obtain ⟨f', t1, t2, _⟩ := ht
  refine ⟨f', t1.norm, t2, h3.trans (t1.below h3.size fun r hr h => h.2 (h4 r hr)), fun r hr => ?_⟩
  rw [t1.agree r (Nat.lt_of_lt_of_le hr h3.size)]
  exact h4 r hr
theorem aw_new (w : World) : Calls Tryz.prog 5 #[.int .i64 100] w fun e w' => ∃ hb, e = .returned (.pointer (some ⟨hb, 0, none⟩)) ∧ AwH w hb 0 128 [] w' := by
  refine (c_Hnew (f := fun _ => 0) (fun _ _ => rfl) 100).mono ?_
  rintro e w' ⟨hb, f', rfl, t1, t2⟩
  exact ⟨hb, rfl, f', t1.norm, t2, t1.below (Nat.le_refl _) (fun _ _ h => h), fun r hr => t1.agree r hr⟩
theorem aw_make {w0 w : World} {hb : Nat} (h : AwH w0 hb 0 128 [] w) : Calls Tryz.prog 33 #[.pointer (some ⟨hb, 0, none⟩), .int .i64 0, .int .i64 0] w fun e w' => e = .returned (.tuple #[.int .i64 1, .int .i64 0]) ∧ AwH w0 hb 1 128 aw1 w' := by
  obtain ⟨f, h1, h2, h3, h4⟩ := h
  refine (c_HMake (H := []) h1 h2 (by decide) 0 0).mono ?_
  rintro e w' ⟨rfl, ht⟩
  exact ⟨rfl, AwH.step h3 h4 ht⟩
theorem aw_put1 {w0 w : World} {hb : Nat} (h : AwH w0 hb 1 128 aw1 w) : Calls Tryz.prog 31 #[.pointer (some ⟨hb, 0, none⟩), .int .i64 1, .agg #[.string (tx [98]), .int .i64 0], propV p7] w fun e w' => e = .returned (.int .i64 0) ∧ AwH w0 hb 2 130 aw2 w' := by
  obtain ⟨f, h1, h2, h3, h4⟩ := h
  rw [← aw_u1] at h2
  have h := c_HPut h1 h2 (by decide) (by decide) (by rw [aw_u1]; decide) 1 kb kb_ok p7
  rw [aw_E1] at h
  refine h.mono ?_
  rintro e w' ⟨rfl, ht⟩
  have ht' : HeapT w f hb 100 (usedH aw2) 130 aw2 w' := ht
  rw [aw_u2] at ht'
  exact ⟨rfl, AwH.step h3 h4 ht'⟩
theorem aw_put2 {w0 w : World} {hb : Nat} (h : AwH w0 hb 2 130 aw2 w) : Calls Tryz.prog 31 #[.pointer (some ⟨hb, 0, none⟩), .int .i64 1, .agg #[.string (tx [50]), .int .i64 0], propV p7] w fun e w' => e = .returned (.int .i64 0) ∧ AwH w0 hb 3 132 aw3 w' := by
  obtain ⟨f, h1, h2, h3, h4⟩ := h
  rw [← aw_u2] at h2
  have h := c_HPut h1 h2 (by decide) (by decide) (by rw [aw_u2]; decide) 1 k2 k2_ok p7
  rw [aw_E2] at h
  refine h.mono ?_
  rintro e w' ⟨rfl, ht⟩
  have ht' : HeapT w f hb 100 (usedH aw3) 132 aw3 w' := ht
  rw [aw_u3] at ht'
  exact ⟨rfl, AwH.step h3 h4 ht'⟩
theorem aw_keys {w0 w : World} {hb : Nat} (h : AwH w0 hb 3 132 aw3 w) : Calls Tryz.prog 63 #[.pointer (some ⟨hb, 0, none⟩), .int .i64 1] w fun e w' => ∃ (b o c : Nat) (x : KK), e = .returned (.slice (some ⟨b, o, none⟩) 2 c) ∧ (∀ y, Below w'.heap.size w' y → y.cell? ⟨b, o, none⟩ = some (.string x.1) ∧ y.cell? ⟨b, o + 1, none⟩ = some (.int .i64 x.2)) ∧ x.1.size ≤ 1099511627776 ∧ sameK x.1 (tx [50]) x.2 0 = true ∧ AwH w0 hb 3 132 aw3 w' := by
  have hA := h
  obtain ⟨f, h1, h2, h3, h4⟩ := h
  have h := c_HKeys h1 h2 (by decide) (by decide) 1
  rw [aw_gk] at h
  refine h.mono ?_
  rintro e w' ⟨v, Z, rfl, hr, hk, hb'⟩
  have e1 := hk.alike aw_keysOf
  obtain ⟨_, _, _, _, hok⟩ := hk
  obtain ⟨x, z, rfl⟩ : ∃ x z, Z = [x, z] := by
    have h2 := congrArg List.length e1
    simp at h2
    match Z, h2 with
    | [x, z], _ => exact ⟨x, z, rfl⟩
  · obtain ⟨p, c, rfl, _, hc, hcell⟩ := hr.form
    obtain ⟨b, o, rfl, _, hy⟩ := hcell 0 x rfl
    refine ⟨b, o, c, x, rfl, fun y hy' => by simpa using hy y hy', (hok x (by simp)).1, ?_, hA.keep hb'⟩
    have e2 : pk x = pk k2 := by injection e1
    have e3 : sameK x.1 k2.1 x.2 k2.2 = true := by rw [sameK_pk x k2, e2]; exact decide_eq_true rfl
    exact e3
theorem aw_used {w0 w : World} {hb u B : Nat} {H : List OB} (h : AwH w0 hb u B H w) : Calls Tryz.prog 14 #[.pointer (some ⟨hb, 0, none⟩)] w fun e w' => e = .returned (.int .i64 (u : Int)) ∧ w' = w := by
  obtain ⟨f, h1, h2, h3, h4⟩ := h
  exact c_HUsed h2
theorem aw_drop {w0 w : World} {hb : Nat} (h : AwH w0 hb 3 132 aw3 w) : Calls Tryz.prog 84 #[.pointer (some ⟨hb, 0, none⟩), .int .i64 1, .agg #[.string (tx [98]), .int .i64 0]] w fun e w' => e = .returned (.bool true) ∧ AwH w0 hb (usedH aw4) 132 aw4 w' := by
  obtain ⟨f, h1, h2, h3, h4⟩ := h
  rw [← aw_u3] at h2
  have h := c_HDrop h1 h2 (by decide) (by decide) (by rw [aw_u3]; decide) 1 kb kb_ok
  rw [aw_B] at h
  refine h.mono ?_
  rintro e w' ⟨rfl, ht⟩
  exact ⟨rfl, AwH.step h3 h4 ht⟩
end Go.Proofs.YtkbohoolnpaleaaGreatDoor
namespace Go.Proofs.YtkbohoolnpaleaaGreatDoor
open Go.RowKit Go.Shelf Go.Lib Go.Sort Go.Proofs Go.Maps
set_option linter.unusedVariables false
set_option maxHeartbeats 4000000
set_option maxRecDepth 100000

theorem rkL : rk kL = 4294967296 := by decide +kernel
theorem rkI (i : Nat) (h : i < 3) : rk (kI i) = i := by
  have h0 : ∀ i : Fin 3, rk (kI i.val) = i.val := by decide +kernel
  exact h0 ⟨i, h⟩
theorem kz0 : KeysOf [kL, kI 0, kI 1, kI 2] [kI 0, kI 1, kI 2, kL] := by
  refine ⟨[kL, kI 0, kI 1, kI 2], by simp only [List.map_cons, List.map_nil, kL_pk, kI_pk 0 (by decide), kI_pk 1 (by decide), kI_pk 2 (by decide)], ?_, ?_, ?_⟩
  · simp [Srt, rkL, rkI 0 (by decide), rkI 1 (by decide), rkI 2 (by decide)]
  · intro r
    simp only [cls, List.filter_cons, List.filter_nil, rkL, rkI 0 (by decide), rkI 1 (by decide), rkI 2 (by decide), beq_iff_eq]
    by_cases h1 : 4294967296 = r
    · subst h1; simp
    · simp [h1]
  · intro x hx
    simp at hx
    rcases hx with rfl | rfl | rfl | rfl
    · exact kI_ok 0 (by decide)
    · exact kI_ok 1 (by decide)
    · exact kI_ok 2 (by decide)
    · exact kL_ok
theorem kz1 : KeysOf [kL, kI 0, kI 1] [kI 0, kI 1, kL] := by
  refine ⟨[kL, kI 0, kI 1], by simp only [List.map_cons, List.map_nil, kL_pk, kI_pk 0 (by decide), kI_pk 1 (by decide)], ?_, ?_, ?_⟩
  · simp [Srt, rkL, rkI 0 (by decide), rkI 1 (by decide)]
  · intro r
    simp only [cls, List.filter_cons, List.filter_nil, rkL, rkI 0 (by decide), rkI 1 (by decide), beq_iff_eq]
    by_cases h1 : 4294967296 = r
    · subst h1; simp
    · simp [h1]
  · intro x hx
    simp at hx
    rcases hx with rfl | rfl | rfl
    · exact kI_ok 0 (by decide)
    · exact kI_ok 1 (by decide)
    · exact kL_ok
theorem kz2 : KeysOf [kL, kI 0] [kI 0, kL] := by
  refine ⟨[kL, kI 0], by simp only [List.map_cons, List.map_nil, kL_pk, kI_pk 0 (by decide)], ?_, ?_, ?_⟩
  · simp [Srt, rkL, rkI 0 (by decide)]
  · intro r
    simp only [cls, List.filter_cons, List.filter_nil, rkL, rkI 0 (by decide), beq_iff_eq]
    by_cases h1 : 4294967296 = r
    · subst h1; simp
    · simp [h1]
  · intro x hx
    simp at hx
    rcases hx with rfl | rfl
    · exact kI_ok 0 (by decide)
    · exact kL_ok
end Go.Proofs.YtkbohoolnpaleaaGreatDoor
namespace Go.Proofs.YtkbohoolnpaleaaGreatDoor
open Go.RowKit Go.Shelf Go.Lib Go.Sort Go.Proofs Go.Maps
set_option linter.unusedVariables false
set_option linter.unusedSimpArgs false
set_option maxHeartbeats 1000000
set_option maxRecDepth 100000

theorem lenB_tx : tx [108, 101, 110, 103, 116, 104] = lenB := by decide +kernel
theorem c_R17Name (w : World) : Calls Tryz.prog 13 #[] w fun e w' => e = .returned (.agg #[.string lenB, .int .i64 0]) ∧ Below w.heap.size w w' := by
  have hN := fun (y : World) => c_name (l := [108, 101, 110, 103, 116, 104]) (by decide) (by decide) y
  rw [lenB_tx] at hN
  unfold keyV xs at hN
  obtain ⟨W1, hW1⟩ : ∃ W1, w.alloc (.cells #[.string ⟨#[]⟩, .int .i64 0] 43) = W1 := ⟨_, rfl⟩
  have hb1 : Below w.heap.size w W1 := by rw [← hW1]; exact (Below.refl _ w).alloc (Nat.le_refl _) _
  have d1 : W1.heap[w.heap.size]? = some (.cells #[.string ⟨#[]⟩, .int .i64 0] 43 (0, 0)) := by rw [← hW1]; exact heap_alloc_new w _
  have hk : ∀ y : World, Below W1.heap.size W1 y → y.heap[w.heap.size]? = some (.cells #[.string ⟨#[]⟩, .int .i64 0] 43 (0, 0)) := fun y hy => (hy.block _ (heapH_lt d1)).trans d1
  have hf : ∀ y : World, y.heap[w.heap.size]? = some (.cells #[.string ⟨#[]⟩, .int .i64 0] 43 (0, 0)) → y.cell? ⟨w.heap.size, 0, none⟩ = some (.string ⟨#[]⟩) ∧ y.cell? ⟨w.heap.size, 1, none⟩ = some (.int .i64 0) ∧ ∀ j, y.frozen? ⟨w.heap.size, j, none⟩ = false := fun y hy => ⟨by rw [cell_of_row _ _ 0 _ _ _ hy]; rfl, by rw [cell_of_row _ _ 1 _ _ _ hy]; rfl, fun j => by simp [World.frozen?, hy]⟩
  replace hN := Lib.hid hN
  replace hk := Lib.hid hk
  replace hf := Lib.hid hf
  replace hb1 := Lib.hid hb1
  clear d1
  go_enter Tryz.func13, Tryz.ntmps13
  go_wp2_with (go_at_call 32; refine (hN.out _).mono ?_; rintro e y ⟨rfl, hb⟩; have hd := hk.out y hb; obtain ⟨g0, g1, gf⟩ := hf.out y hd; have gf0 := gf 0; have gf1 := gf 1; replace hd := Lib.hid hd)
  have h1 := heap_setCell_same y w.heap.size 0 _ _ (.string lenB) hd.out
  have h2 := heap_setCell_same _ w.heap.size 1 _ _ (.int .i64 0) h1
  refine bodyPost_ret (results_cell_row rfl _ _ w.heap.size 43 _ (0, 0) _ rfl h2 Tryz.underlying43 rfl infoKey2) rfl ?_
  exact ⟨rfl, ((hb1.out.trans (hb.mono hb1.out.size)).setCell (p := ⟨w.heap.size, 0, none⟩) (Nat.le_refl _) _).setCell (p := ⟨w.heap.size, 1, none⟩) (Nat.le_refl _) _⟩
/-- the example's lists -/
def exL (s : Nat) : List (KK × PV) := match s with
  | 0 => arrL kL kI [zeroVV, zeroVV, zeroVV]
  | 1 => (arrL kL kI [zeroVV, zeroVV, zeroVV]).eraseIdx 3
  | _ => ((arrL kL kI [zeroVV, zeroVV, zeroVV]).eraseIdx 3).eraseIdx 2
def exK (s : Nat) : List KK := match s with
  | 0 => [kI 0, kI 1, kI 2, kL]
  | 1 => [kI 0, kI 1, kL]
  | _ => [kI 0, kL]
theorem exK_of (s : Nat) (h : s < 3) : KeysOf (gk (exL s)) (exK s) := by
  have : s = 0 ∨ s = 1 ∨ s = 2 := by omega
  rcases this with rfl | rfl | rfl
  · exact kz0
  · exact kz1
  · exact kz2
theorem idxK_pk (k : KK) : idxK (pk k) = idxK k := by
  by_cases h : 0 < k.2
  · simp [idxK, pk, h]
  · simp [idxK, pk, h, U_evenH]
theorem idxK_kL : idxK kL = none := by decide +kernel
/-- what any list of these keys is -/
theorem exZ (s : Nat) (h : s < 3) (Z : List KK) (hZ : KeysOf (gk (exL s)) Z) : Z.map idxK = (exK s).map idxK ∧ ∀ x ∈ Z, okK x ∧ (idxK x = none ∨ idxK x = some 0 ∨ idxK x = some 1 ∨ idxK x = some 2) := by
  have e := hZ.alike (exK_of s h)
  have e2 : Z.map idxK = (exK s).map idxK := by
    have := congrArg (List.map idxK) e
    simpa [List.map_map, Function.comp_def, idxK_pk] using this
  refine ⟨e2, fun x hx => ⟨?_, ?_⟩⟩
  · obtain ⟨_, _, _, _, hok⟩ := hZ
    exact hok x hx
  · have hm : idxK x ∈ Z.map idxK := List.mem_map.2 ⟨x, hx, rfl⟩
    rw [e2] at hm
    have h0 := kI_idxK 0 (by decide)
    have h1 := kI_idxK 1 (by decide)
    have h2 := kI_idxK 2 (by decide)
    have : s = 0 ∨ s = 1 ∨ s = 2 := by omega
    rcases this with rfl | rfl | rfl
    · simp [exK, h0, h1, h2, idxK_kL] at hm
      rcases hm with hm | hm | hm | hm <;> simp [hm]
    · simp [exK, h0, h1, h2, idxK_kL] at hm
      rcases hm with hm | hm | hm <;> simp [hm]
    · simp [exK, h0, h1, h2, idxK_kL] at hm
      rcases hm with hm | hm <;> simp [hm]
theorem lastB_map (Z : List KK) : lastB Z = (Z.map idxK).foldl (fun a i => if bey 1 3 i then (i.getD 0, true) else a) (0, false) := by
  unfold lastB
  rw [List.foldl_map]
  rfl
theorem exLast (s : Nat) (h : s < 3) (Z : List KK) (hZ : KeysOf (gk (exL s)) Z) : lastB Z = if s = 0 then (2, true) else if s = 1 then (1, true) else (0, false) := by
  rw [lastB_map, (exZ s h Z hZ).1]
  have h0 := kI_idxK 0 (by decide)
  have h1 := kI_idxK 1 (by decide)
  have h2 := kI_idxK 2 (by decide)
  have : s = 0 ∨ s = 1 ∨ s = 2 := by omega
  rcases this with rfl | rfl | rfl
  · simp [exK, h0, h1, h2, idxK_kL, bey]
  · simp [exK, h0, h1, h2, idxK_kL, bey]
  · simp [exK, h0, h1, h2, idxK_kL, bey]
end Go.Proofs.YtkbohoolnpaleaaGreatDoor
