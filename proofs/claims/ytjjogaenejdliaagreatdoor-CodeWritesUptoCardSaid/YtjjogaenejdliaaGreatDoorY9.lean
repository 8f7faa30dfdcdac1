/-
  Contracts: The writer's function (printed by gen_XQR.py). The contract of Encode's closure. The writer's first number: its bytes are still the constant's row, full and marked (printed by gen_XQU.py). The contracts of caught over Encode's closure, and of Encode.
-/
import Derived.Test.YtjjogaenejdliaaGreatDoorY8
import Derived.ArgAppend
import Derived.Lib.SlBytesConst
namespace Go.Proofs.YtjjogaenejdliaaGreatDoor
open Go.RowKit Go.Lib
set_option linter.unusedVariables false
set_option linter.unusedSimpArgs false
set_option maxHeartbeats 4000000
set_option maxRecDepth 100000

def goodTb (t : TV4) : Bool := decide (0 ≤ t.f) && (decide (0 ≤ t.t) && (decide (0 ≤ t.a) && decide (0 ≤ t.g)))
def goodKb (c : PV2) : Bool := decide (0 ≤ c.n)
def goodFb (f : FV) : Bool := (f.name.size % 2 == 0) && (decide (0 ≤ f.params) && (decide (0 ≤ f.regs) && (f.consts.all goodCb && (f.code.all goodIb && (f.tries.all goodTb && f.caps.all goodKb)))))
theorem flat_take {α : Type} {wr : α → List Nat} {l : List α} {k : Nat} {x : α} (h : l[k]? = some x) : (l.take (k + 1)).flatMap wr = (l.take k).flatMap wr ++ wr x := by
  have hk := (List.getElem?_eq_some_iff.1 h).1
  rw [List.take_succ_eq_append_getElem hk]
  have e := (List.getElem?_eq_some_iff.1 h).2
  rw [e]
  simp
theorem flat_take_le {α : Type} {wr : α → List Nat} {l : List α} {k : Nat} {x : α} (h : l[k]? = some x) : ((l.take k).flatMap wr).length + (wr x).length ≤ (l.flatMap wr).length := by
  rw [← List.length_append, ← flat_take h]
  have e : l.flatMap wr = (l.take (k + 1)).flatMap wr ++ (l.drop (k + 1)).flatMap wr := by rw [← List.flatMap_append, List.take_append_drop]
  rw [e, List.length_append]
  omega
theorem all_take {α : Type} {p : α → Bool} {l : List α} {k : Nat} {x : α} (h : l[k]? = some x) (ha : (l.take k).all p = true) (hx : p x = true) : (l.take (k + 1)).all p = true := by
  have hk := (List.getElem?_eq_some_iff.1 h).1
  rw [List.take_succ_eq_append_getElem hk]
  have e := (List.getElem?_eq_some_iff.1 h).2
  rw [e, List.all_append, ha]
  simp [hx]
theorem all_bad {α : Type} {p : α → Bool} {l : List α} {k : Nat} {x : α} (h : l[k]? = some x) (hx : p x = false) : l.all p = false := by
  rw [Bool.eq_false_iff]
  intro ha
  have := List.all_eq_true.1 ha x (List.mem_of_getElem? h)
  rw [hx] at this
  cases this
section
variable {wb B : Nat} {o o' : Option Nat} {w0 w w' : World} {bs : List Nat}
theorem WT.below0 (h : WT wb o o' w w') (hwb : B ≤ wb) (ho : ∀ k, o = some k → B ≤ k) (hB : B ≤ w0.heap.size) (hb : Below B w0 w) : Below B w0 w' := by
  have hs := hb.size
  refine ⟨h.kb.os.trans hb.os, h.kb.tape.trans hb.tape, h.kb.output.trans hb.output, Nat.le_trans hb.size h.kb.size, fun r hr => ?_⟩
  exact (h.kb.block r (by omega) (fun e => e.elim (fun e => by omega) (fun e => by have := ho r e; omega))).trans (hb.block r hr)
theorem WT.from0 (h : WT wb o o' w w') (ho : ∀ k, o = some k → B ≤ k) (hB : B ≤ w.heap.size) : ∀ k, o' = some k → B ≤ k := fun k hk => by
  rcases h.own with e | ⟨k', e, hk'⟩
  · rw [e] at hk; exact ho k hk
  · rw [e] at hk; injection hk with hk; omega
end
def four (x : TV4) : List Int := [x.f, x.t, x.a, x.g]
theorem wrTry_four (x : TV4) : wrTry x = (four x).flatMap (fun z => leb z.toNat) := by simp [wrTry, four]
theorem goodT_four (x : TV4) : goodTb x = (four x).all (fun z => decide (0 ≤ z)) := by simp [goodTb, four]
theorem four_at (x : TV4) (k : Nat) (hk : k < 4) : ∃ z, (four x)[k]? = some z ∧ ∀ W, (Instr.index 84 (.agg #[.int .i64 x.f, .int .i64 x.t, .int .i64 x.a, .int .i64 x.g]) (.int .i64 (k : Int))).run Tryz.prog W = .ok (.int .i64 z) W := by
  match k, hk with
  | 0, _ => exact ⟨x.f, rfl, fun _ => by kernel_rfl⟩
  | 1, _ => exact ⟨x.t, rfl, fun _ => by kernel_rfl⟩
  | 2, _ => exact ⟨x.a, rfl, fun _ => by kernel_rfl⟩
  | 3, _ => exact ⟨x.g, rfl, fun _ => by kernel_rfl⟩
section
variable {wb : Nat} {o : Option Nat} {w0 w : World} {bs : List Nat}
theorem c_wfn (f : FV) (c : List Value) (hFC : FnC w0 f c) (hS : Spc w0) (h00 : 0 < w0.heap.size) (hb0 : Below w0.heap.size w0 w) (hwb0 : w0.heap.size ≤ wb) (ho0 : ∀ k, o = some k → w0.heap.size ≤ k) (h : WS wb o w bs) (hN : bs.length + (wrFn f).length ≤ 1099511627776) :
    Calls Tryz.prog 17 #[.pointer (some ⟨wb, 0, none⟩), .agg c.toArray] w (WPost wb o w bs (goodFb f) (wrFn f)) := by
  obtain ⟨W1, hW1⟩ : ∃ W1, w.alloc (.cells c.toArray 47) = W1 := ⟨_, rfl⟩
  have hb1 : Below w.heap.size w W1 := by rw [← hW1]; exact (Below.refl _ w).alloc (Nat.le_refl _) _
  have d1 : W1.heap[w.heap.size]? = some (.cells c.toArray 47 (0, 0)) := by rw [← hW1]; exact heap_alloc_new w _
  have h1 := h.below hb1
  have hwb : w.heap.size ≠ wb := by have := h.lt; omega
  have how : o ≠ some w.heap.size := fun e => by have := h.own_lt _ e; omega
  have hT1 := Lib.hid (⟨WT.of_below hb1, how⟩ : WT wb o o w W1 ∧ o ≠ some w.heap.size)
  have hS0 := Lib.hid (show w0.heap.size ≤ w.heap.size from hb0.size)
  obtain ⟨vc, vi, vt, vk, rfl, ⟨⟨p5, k5, rfl, m5, M5, z5⟩, ⟨p6, k6, rfl, m6, M6, z6⟩⟩, ⟨p7, k7, rfl, m7, M7, z7⟩, ⟨p8, k8, rfl, m8, M8, z8⟩⟩ := hFC
  obtain ⟨nm, pa, re, ar, rg, lc, li, lt, lk⟩ := f
  dsimp only at *
  unfold maxLen at M5 M6 M7 M8
  have hlen : bs.length + ((wrText nm).length + ((leb pa.toNat).length + ((wrFlag re).length + ((wrFlag ar).length + ((leb rg.toNat).length + (((leb lc.length).length + (lc.flatMap wrConst).length) + (((leb li.length).length + (li.flatMap wrIns).length) + (((leb lt.length).length + (lt.flatMap wrTry).length) + ((leb lk.length).length + (lk.flatMap wrCap).length))))))))) ≤ 1099511627776 := by
    simpa only [wrFn, wrMany, List.length_append] using hN
  have hgd : goodFb ⟨nm, pa, re, ar, rg, lc, li, lt, lk⟩ = ((nm.size % 2 == 0) && (decide (0 ≤ pa) && (decide (0 ≤ rg) && (lc.all goodCb && (li.all goodIb && (lt.all goodTb && lk.all goodKb)))))) := rfl
  have hwr : wrFn ⟨nm, pa, re, ar, rg, lc, li, lt, lk⟩ = wrText nm ++ (leb pa.toNat ++ (wrFlag re ++ (wrFlag ar ++ (leb rg.toNat ++ (wrMany wrConst lc ++ (wrMany wrIns li ++ (wrMany wrTry lt ++ wrMany wrCap lk))))))) := rfl
  have hC1 := Lib.hid (c_wtext h1 nm (by omega))
  obtain ⟨⟨a0, a1, a2, a3, a4, a5, a6, a7, a8⟩, -⟩ := row9 d1
  have rsf := fun (w : World) (a : Addr) (x : Nat) => run_store Tryz.prog w a (.float .f64 x) .plain rfl
  have hfl : ∀ b : Bool, (wrFlag b).length = 1 := fun b => by cases b <;> (unfold wrFlag; rw [leb, if_pos (by decide)]; rfl)
  have hfr := Lib.hid (show wb ≠ w.heap.size from fun e => hwb e.symm)
  replace hlen := Lib.hid hlen
  replace hgd := Lib.hid hgd
  replace hwr := Lib.hid hwr
  replace hfl := Lib.hid hfl
  have d1' := Lib.hid d1
  replace z5 := Lib.hid z5
  replace z6 := Lib.hid z6
  replace z7 := Lib.hid z7
  replace z8 := Lib.hid z8
  replace hS := Lib.hid hS
  replace hb0 := Lib.hid hb0
  replace hwb := Lib.hid hwb
  replace ho0 := Lib.hid ho0
  clear h h1 hb1 d1 how hN
  generalize hGF : goodFb ⟨nm, pa, re, ar, rg, lc, li, lt, lk⟩ = GF at *
  generalize hWF : wrFn ⟨nm, pa, re, ar, rg, lc, li, lt, lk⟩ = WF at *
  clear hGF hWF
  go_enter Tryz.func17, Tryz.ntmps17
  go_wp2_with fail
  refine hC1.out.mono ?_
  rintro e y1 (⟨hg1, rfl, o1, hW1, hV1⟩ | ⟨hg1, rfl, hKB⟩)
  rotate_left
  · have hfin := Lib.hid (kb_panic hT1.out.1 hKB)
    have hgF : GF = false := by rw [hgd.out, hg1]; simp
    rw [hgF]
    clear hKB hg1 hC1 hgF
    go_wp2
    exact ⟨rfl, .inr ⟨rfl, rfl, hfin.out⟩⟩
  have d2' := Lib.hid (hV1.keep d1'.out hwb.out hT1.out.2)
  have hT2 := Lib.hid (⟨hT1.out.1.trans hV1, hV1.apart (row_lt d1'.out) hT1.out.2⟩ : WT wb o o1 w y1 ∧ o1 ≠ some w.heap.size)
  replace hg1 := Lib.hid hg1
  obtain ⟨⟨a0, a1, a2, a3, a4, a5, a6, a7, a8⟩, -⟩ := row9 d2'.out
  have hC2 := Lib.hid (c_wnum hW1 pa (by have := hlen.out; have := hfl.out re; have := hfl.out ar; simp only [List.length_append]; omega))
  replace hW1 := Lib.hid hW1
  clear hV1 hC1 hT1 d1'
  go_wp2_with fail
  refine hC2.out.mono ?_
  rintro e y2 (⟨hg2, rfl, o2, hW2, hV2⟩ | ⟨hg2, rfl, hKB⟩)
  rotate_left
  · have hfin := Lib.hid (kb_panic hT2.out.1 hKB)
    have hgF : GF = false := by rw [hgd.out, hg2]; simp
    rw [hgF]
    clear hKB hg2 hC2 hgF
    go_wp2
    exact ⟨rfl, .inr ⟨rfl, rfl, hfin.out⟩⟩
  have d3' := Lib.hid (hV2.keep d2'.out hwb.out hT2.out.2)
  have hT3 := Lib.hid (⟨hT2.out.1.trans hV2, hV2.apart (row_lt d2'.out) hT2.out.2⟩ : WT wb o o2 w y2 ∧ o2 ≠ some w.heap.size)
  replace hg2 := Lib.hid hg2
  obtain ⟨⟨a0, a1, a2, a3, a4, a5, a6, a7, a8⟩, -⟩ := row9 d3'.out
  have hC3 := Lib.hid (c_wflag hW2 re (by have := hlen.out; have := hfl.out re; have := hfl.out ar; simp only [List.length_append]; omega))
  replace hW2 := Lib.hid hW2
  clear hV2 hC2 hT2 d2'
  go_wp2_with fail
  refine hC3.out.mono ?_
  rintro e y3 (⟨hg3, rfl, o3, hW3, hV3⟩ | ⟨hg3, rfl, hKB⟩)
  rotate_left
  · cases hg3
  have d4' := Lib.hid (hV3.keep d3'.out hwb.out hT3.out.2)
  have hT4 := Lib.hid (⟨hT3.out.1.trans hV3, hV3.apart (row_lt d3'.out) hT3.out.2⟩ : WT wb o o3 w y3 ∧ o3 ≠ some w.heap.size)
  clear hg3
  obtain ⟨⟨a0, a1, a2, a3, a4, a5, a6, a7, a8⟩, -⟩ := row9 d4'.out
  have hC4 := Lib.hid (c_wflag hW3 ar (by have := hlen.out; have := hfl.out re; have := hfl.out ar; simp only [List.length_append]; omega))
  replace hW3 := Lib.hid hW3
  clear hV3 hC3 hT3 d3'
  go_wp2_with fail
  refine hC4.out.mono ?_
  rintro e y4 (⟨hg4, rfl, o4, hW4, hV4⟩ | ⟨hg4, rfl, hKB⟩)
  rotate_left
  · cases hg4
  have d5' := Lib.hid (hV4.keep d4'.out hwb.out hT4.out.2)
  have hT5 := Lib.hid (⟨hT4.out.1.trans hV4, hV4.apart (row_lt d4'.out) hT4.out.2⟩ : WT wb o o4 w y4 ∧ o4 ≠ some w.heap.size)
  clear hg4
  obtain ⟨⟨a0, a1, a2, a3, a4, a5, a6, a7, a8⟩, -⟩ := row9 d5'.out
  have hC5 := Lib.hid (c_wnum hW4 rg (by have := hlen.out; have := hfl.out re; have := hfl.out ar; simp only [List.length_append]; omega))
  replace hW4 := Lib.hid hW4
  clear hV4 hC4 hT4 d4'
  go_wp2_with fail
  refine hC5.out.mono ?_
  rintro e y5 (⟨hg5, rfl, o5, hW5, hV5⟩ | ⟨hg5, rfl, hKB⟩)
  rotate_left
  · have hfin := Lib.hid (kb_panic hT5.out.1 hKB)
    have hgF : GF = false := by rw [hgd.out, hg5]; simp
    rw [hgF]
    clear hKB hg5 hC5 hgF
    go_wp2
    exact ⟨rfl, .inr ⟨rfl, rfl, hfin.out⟩⟩
  have d6' := Lib.hid (hV5.keep d5'.out hwb.out hT5.out.2)
  have hT6 := Lib.hid (⟨hT5.out.1.trans hV5, hV5.apart (row_lt d5'.out) hT5.out.2⟩ : WT wb o o5 w y5 ∧ o5 ≠ some w.heap.size)
  replace hg5 := Lib.hid hg5
  obtain ⟨⟨a0, a1, a2, a3, a4, a5, a6, a7, a8⟩, -⟩ := row9 d6'.out
  have hC6 := Lib.hid (c_wnum hW5 (lc.length : Int) (by rw [Int.toNat_natCast]; exact (by have := hlen.out; have := hfl.out re; have := hfl.out ar; simp only [List.length_append]; omega)))
  rw [Int.toNat_natCast] at hC6
  replace hW5 := Lib.hid hW5
  clear hV5 hC5 hT5 d5'
  go_wp2_with fail
  refine hC6.out.mono ?_
  rintro e y6 (⟨hg6, rfl, o6, hW6, hV6⟩ | ⟨hg6, rfl, hKB⟩)
  rotate_left
  · simp at hg6
  have d7' := Lib.hid (hV6.keep d6'.out hwb.out hT6.out.2)
  have hT7 := Lib.hid (⟨hT6.out.1.trans hV6, hV6.apart (row_lt d6'.out) hT6.out.2⟩ : WT wb o o6 w y6 ∧ o6 ≠ some w.heap.size)
  replace hg6 := Lib.hid hg6
  obtain ⟨⟨a0, a1, a2, a3, a4, a5, a6, a7, a8⟩, -⟩ := row9 d7'.out
  replace hW6 := Lib.hid hW6
  clear hV6 hC6 hT6 d6'
  go_wp2_with fail
  go_loopg [42] lc.length (fun g v9 wr => ∃ (k : Nat) (o2 : Option Nat), k + g = lc.length ∧ v9 = .int .i64 (k : Int) ∧ WS wb o2 wr (((((((bs ++ wrText nm) ++ leb pa.toNat) ++ wrFlag re) ++ wrFlag ar) ++ leb rg.toNat) ++ leb lc.length) ++ (lc.take k).flatMap wrConst) ∧ WT wb o o2 w wr ∧ o2 ≠ some w.heap.size ∧ wr.heap[w.heap.size]? = some (.cells #[.string nm, .int .i64 pa, .bool re, .bool ar, .int .i64 rg, .slice p5 lc.length k5, .slice p6 li.length k6, .slice p7 lt.length k7, .slice p8 lk.length k8] 47 (0, 0)) ∧ (lc.take k).all goodCb = true)
  case atStart => exact ⟨0, o6, by simp, rfl, by simpa using hW6.out, hT7.out.1, hT7.out.2, d7'.out, rfl⟩
  case round =>
    obtain ⟨k, o2, hkg, rfl, hWS, hWTr, hof, hdr, hal⟩ := hrel
    rcases gk with _ | g
    rotate_left
    · obtain ⟨x, hx⟩ : ∃ x, lc[k]? = some x := ⟨_, List.getElem?_eq_getElem (by omega)⟩
      obtain ⟨bx, ox, rfl, hyx⟩ := z5.out k x hx
      have hBw := Lib.hid (hWTr.below0 hwb0 ho0.out (Nat.le_refl _) hb0.out)
      have hcx := at_V (w := wr) (b := bx) (o := ox) (k := k) (x := x) (fun j u hu => (hBw.out.cell (cell_lt (hyx j u hu))).trans (hyx j u hu))
      obtain ⟨cx0, cx1, cx2, cx3⟩ := hcx
      obtain ⟨⟨a0, a1, a2, a3, a4, a5, a6, a7, a8⟩, -⟩ := row9 hdr
      have q1 : (0 : Int) ≤ (k : Int) := by omega
      have q2 : (k : Int) < (lc.length : Int) := by omega
      obtain ⟨W9, hW9⟩ : ∃ W, wr.alloc (.cells (encVV x).toArray 51) = W := ⟨_, rfl⟩
      have hb9 : Below wr.heap.size wr W9 := by rw [← hW9]; exact (Below.refl _ wr).alloc (Nat.le_refl _) _
      have d9 : W9.heap[wr.heap.size]? = some (.cells (encVV x).toArray 51 (0, 0)) := by rw [← hW9]; exact heap_alloc_new wr _
      have hS9 := hWS.below hb9
      have hT9 := Lib.hid (hWTr.trans (WT.of_below hb9))
      have hd9 := Lib.hid ((hb9.block _ (row_lt hdr)).trans hdr)
      have hx9 := Lib.hid (show wr.heap.size ≠ wb ∧ o2 ≠ some wr.heap.size from ⟨by have := hWS.lt; omega, fun e => by have := hWS.own_lt _ e; omega⟩)
      have hlx := Lib.hid (flat_take_le (wr := wrConst) hx)
      have hft := Lib.hid (flat_take (wr := wrConst) hx)
      have hat := Lib.hid (fun hg => all_take (p := goodCb) hx hal hg)
      have hbad := Lib.hid (fun hg => all_bad (p := goodCb) hx hg)
      have hkg2 : (k + 1) + g = lc.length := by omega
      have hCx := c_wconst hS9 x (by have := hlen.out; have := hfl.out re; have := hfl.out ar; have := hlx.out; simp only [List.length_append]; omega)
      unfold encVV at hCx hW9
      replace hCx := Lib.hid hCx
      have e9 := (row4 d9).1
      obtain ⟨e0, e1, e2, e3⟩ := e9
      replace hd9 := Lib.hid hd9.out
      clear hyx hb9 hS9 d9 hWS hWTr hdr hal hx hkg
      go_wp2_with fail
      refine hCx.out.mono ?_
      rintro e y9 (⟨hgx, rfl, o9, hWx, hVx⟩ | ⟨hgx, rfl, hKB⟩)
      · skip
        have hdz := Lib.hid (hVx.keep hd9.out hwb.out hof)
        have hoz := hVx.apart (row_lt hd9.out) hof
        have hTz := Lib.hid (hT9.out.trans hVx)
        have haz := Lib.hid (hat.out hgx)
        have hWz := Lib.hid (show WS wb o9 y9 (((((((bs ++ wrText nm) ++ leb pa.toNat) ++ wrFlag re) ++ wrFlag ar) ++ leb rg.toNat) ++ leb lc.length) ++ (lc.take (k + 1)).flatMap wrConst) by rw [hft.out, ← List.append_assoc]; exact hWx)
        clear hVx hWx hgx hCx hof
        go_wp2_with fail
        go_roundg g
        case measure => exact Nat.lt_succ_self _
        case rel => exact ⟨k + 1, o9, hkg2, by go_num, hWz.out, hTz.out, hoz, hdz.out, haz.out⟩
      · skip
        have hfin := Lib.hid (kb_panic hT9.out hKB)
        have hgF : GF = false := by rw [hgd.out, hbad.out hgx]; simp
        rw [hgF]
        clear hKB hgx hCx hgF
        go_wp2
        exact ⟨rfl, .inr ⟨rfl, rfl, hfin.out⟩⟩
    · obtain rfl : k = lc.length := by omega
      rw [List.take_length] at hWS hal
      obtain ⟨y7, rfl⟩ : ∃ W : World, W = wr := ⟨_, rfl⟩
      have d8' := Lib.hid hdr
      have hT8 := Lib.hid (⟨hWTr, hof⟩ : WT wb o o2 w y7 ∧ o2 ≠ some w.heap.size)
      have hg7 := Lib.hid hal
      obtain ⟨⟨a0, a1, a2, a3, a4, a5, a6, a7, a8⟩, -⟩ := row9 hdr
      have hC8 := Lib.hid (c_wnum hWS (li.length : Int) (by rw [Int.toNat_natCast]; exact (by have := hlen.out; have := hfl.out re; have := hfl.out ar; simp only [List.length_append]; omega)))
      rw [Int.toNat_natCast] at hC8
      obtain ⟨o7, rfl⟩ : ∃ oo : Option Nat, oo = o2 := ⟨_, rfl⟩
      have hW7 := Lib.hid hWS
      clear hkg hal hdr hWTr hof hWS
      go_wp2_with fail
      refine hC8.out.mono ?_
      rintro e y8 (⟨hg8, rfl, o8, hW8, hV8⟩ | ⟨hg8, rfl, hKB⟩)
      rotate_left
      · simp at hg8
      have d9' := Lib.hid (hV8.keep d8'.out hwb.out hT8.out.2)
      have hT9 := Lib.hid (⟨hT8.out.1.trans hV8, hV8.apart (row_lt d8'.out) hT8.out.2⟩ : WT wb o o8 w y8 ∧ o8 ≠ some w.heap.size)
      replace hg8 := Lib.hid hg8
      obtain ⟨⟨a0, a1, a2, a3, a4, a5, a6, a7, a8⟩, -⟩ := row9 d9'.out
      replace hW8 := Lib.hid hW8
      clear hV8 hC8 hT8 d8'
      go_wp2_with fail
      go_loopg [58] li.length (fun g v9 wr => ∃ (k : Nat) (o2 : Option Nat), k + g = li.length ∧ v9 = .int .i64 (k : Int) ∧ WS wb o2 wr (((((((((bs ++ wrText nm) ++ leb pa.toNat) ++ wrFlag re) ++ wrFlag ar) ++ leb rg.toNat) ++ leb lc.length) ++ lc.flatMap wrConst) ++ leb li.length) ++ (li.take k).flatMap wrIns) ∧ WT wb o o2 w wr ∧ o2 ≠ some w.heap.size ∧ wr.heap[w.heap.size]? = some (.cells #[.string nm, .int .i64 pa, .bool re, .bool ar, .int .i64 rg, .slice p5 lc.length k5, .slice p6 li.length k6, .slice p7 lt.length k7, .slice p8 lk.length k8] 47 (0, 0)) ∧ (li.take k).all goodIb = true)
      case atStart => exact ⟨0, o8, by simp, rfl, by simpa using hW8.out, hT9.out.1, hT9.out.2, d9'.out, rfl⟩
      case round =>
        obtain ⟨k, o2, hkg, rfl, hWS, hWTr, hof, hdr, hal⟩ := hrel
        rcases gk with _ | g
        rotate_left
        · obtain ⟨x, hx⟩ : ∃ x, li[k]? = some x := ⟨_, List.getElem?_eq_getElem (by omega)⟩
          obtain ⟨bx, ox, rfl, hyx⟩ := z6.out k x hx
          have hBw := Lib.hid (hWTr.below0 hwb0 ho0.out (Nat.le_refl _) hb0.out)
          have hcx := at_I (w := wr) (b := bx) (o := ox) (k := k) (x := x) (fun j u hu => (hBw.out.cell (cell_lt (hyx j u hu))).trans (hyx j u hu))
          obtain ⟨cx0, cx1, cx2, cx3, cx4⟩ := hcx
          obtain ⟨⟨a0, a1, a2, a3, a4, a5, a6, a7, a8⟩, -⟩ := row9 hdr
          have q1 : (0 : Int) ≤ (k : Int) := by omega
          have q2 : (k : Int) < (li.length : Int) := by omega
          obtain ⟨W9, hW9⟩ : ∃ W, wr.alloc (.cells (encI x).toArray 40) = W := ⟨_, rfl⟩
          have hb9 : Below wr.heap.size wr W9 := by rw [← hW9]; exact (Below.refl _ wr).alloc (Nat.le_refl _) _
          have d9 : W9.heap[wr.heap.size]? = some (.cells (encI x).toArray 40 (0, 0)) := by rw [← hW9]; exact heap_alloc_new wr _
          have hS9 := hWS.below hb9
          have hT9 := Lib.hid (hWTr.trans (WT.of_below hb9))
          have hd9 := Lib.hid ((hb9.block _ (row_lt hdr)).trans hdr)
          have hx9 := Lib.hid (show wr.heap.size ≠ wb ∧ o2 ≠ some wr.heap.size from ⟨by have := hWS.lt; omega, fun e => by have := hWS.own_lt _ e; omega⟩)
          have hlx := Lib.hid (flat_take_le (wr := wrIns) hx)
          have hft := Lib.hid (flat_take (wr := wrIns) hx)
          have hat := Lib.hid (fun hg => all_take (p := goodIb) hx hal hg)
          have hbad := Lib.hid (fun hg => all_bad (p := goodIb) hx hg)
          have hkg2 : (k + 1) + g = li.length := by omega
          have hCx := c_wins hS9 (hS.out.keep (hBw.out.trans (hb9.mono hBw.out.size))) x (by have := hlen.out; have := hfl.out re; have := hfl.out ar; have := hlx.out; simp only [List.length_append]; omega)
          unfold encI at hCx hW9
          replace hCx := Lib.hid hCx
          have e9 := (row5 d9).1
          obtain ⟨e0, e1, e2, e3, e4⟩ := e9
          replace hd9 := Lib.hid hd9.out
          clear hyx hb9 hS9 d9 hWS hWTr hdr hal hx hkg
          go_wp2_with fail
          refine hCx.out.mono ?_
          rintro e y9 (⟨hgx, rfl, o9, hWx, hVx⟩ | ⟨hgx, rfl, hKB⟩)
          · skip
            have hdz := Lib.hid (hVx.keep hd9.out hwb.out hof)
            have hoz := hVx.apart (row_lt hd9.out) hof
            have hTz := Lib.hid (hT9.out.trans hVx)
            have haz := Lib.hid (hat.out hgx)
            have hWz := Lib.hid (show WS wb o9 y9 (((((((((bs ++ wrText nm) ++ leb pa.toNat) ++ wrFlag re) ++ wrFlag ar) ++ leb rg.toNat) ++ leb lc.length) ++ lc.flatMap wrConst) ++ leb li.length) ++ (li.take (k + 1)).flatMap wrIns) by rw [hft.out, ← List.append_assoc]; exact hWx)
            clear hVx hWx hgx hCx hof
            go_wp2_with fail
            go_roundg g
            case measure => exact Nat.lt_succ_self _
            case rel => exact ⟨k + 1, o9, hkg2, by go_num, hWz.out, hTz.out, hoz, hdz.out, haz.out⟩
          · skip
            have hfin := Lib.hid (kb_panic hT9.out hKB)
            have hgF : GF = false := by rw [hgd.out, hbad.out hgx]; simp
            rw [hgF]
            clear hKB hgx hCx hgF
            go_wp2
            exact ⟨rfl, .inr ⟨rfl, rfl, hfin.out⟩⟩
        · obtain rfl : k = li.length := by omega
          rw [List.take_length] at hWS hal
          obtain ⟨y9, rfl⟩ : ∃ W : World, W = wr := ⟨_, rfl⟩
          have d10' := Lib.hid hdr
          have hT10 := Lib.hid (⟨hWTr, hof⟩ : WT wb o o2 w y9 ∧ o2 ≠ some w.heap.size)
          have hg9 := Lib.hid hal
          obtain ⟨⟨a0, a1, a2, a3, a4, a5, a6, a7, a8⟩, -⟩ := row9 hdr
          have hC10 := Lib.hid (c_wnum hWS (lt.length : Int) (by rw [Int.toNat_natCast]; exact (by have := hlen.out; have := hfl.out re; have := hfl.out ar; simp only [List.length_append]; omega)))
          rw [Int.toNat_natCast] at hC10
          obtain ⟨o9, rfl⟩ : ∃ oo : Option Nat, oo = o2 := ⟨_, rfl⟩
          have hW9 := Lib.hid hWS
          clear hkg hal hdr hWTr hof hWS
          go_wp2_with fail
          refine hC10.out.mono ?_
          rintro e y10 (⟨hg10, rfl, o10, hW10, hV10⟩ | ⟨hg10, rfl, hKB⟩)
          rotate_left
          · simp at hg10
          have d11' := Lib.hid (hV10.keep d10'.out hwb.out hT10.out.2)
          have hT11 := Lib.hid (⟨hT10.out.1.trans hV10, hV10.apart (row_lt d10'.out) hT10.out.2⟩ : WT wb o o10 w y10 ∧ o10 ≠ some w.heap.size)
          replace hg10 := Lib.hid hg10
          obtain ⟨⟨a0, a1, a2, a3, a4, a5, a6, a7, a8⟩, -⟩ := row9 d11'.out
          replace hW10 := Lib.hid hW10
          clear hV10 hC10 hT10 d10'
          go_wp2_with fail
          go_loopg [74] lt.length (fun g v9 wr => ∃ (k : Nat) (o2 : Option Nat), k + g = lt.length ∧ v9 = .int .i64 (k : Int) ∧ WS wb o2 wr (((((((((((bs ++ wrText nm) ++ leb pa.toNat) ++ wrFlag re) ++ wrFlag ar) ++ leb rg.toNat) ++ leb lc.length) ++ lc.flatMap wrConst) ++ leb li.length) ++ li.flatMap wrIns) ++ leb lt.length) ++ (lt.take k).flatMap wrTry) ∧ WT wb o o2 w wr ∧ o2 ≠ some w.heap.size ∧ wr.heap[w.heap.size]? = some (.cells #[.string nm, .int .i64 pa, .bool re, .bool ar, .int .i64 rg, .slice p5 lc.length k5, .slice p6 li.length k6, .slice p7 lt.length k7, .slice p8 lk.length k8] 47 (0, 0)) ∧ (lt.take k).all goodTb = true)
          case atStart => exact ⟨0, o10, by simp, rfl, by simpa using hW10.out, hT11.out.1, hT11.out.2, d11'.out, rfl⟩
          case round =>
            obtain ⟨k, o2, hkg, rfl, hWS, hWTr, hof, hdr, hal⟩ := hrel
            rcases gk with _ | g
            rotate_left
            · obtain ⟨x, hx⟩ : ∃ x, lt[k]? = some x := ⟨_, List.getElem?_eq_getElem (by omega)⟩
              obtain ⟨bx, ox, rfl, hyx⟩ := z7.out k x hx
              have hBw := Lib.hid (hWTr.below0 hwb0 ho0.out (Nat.le_refl _) hb0.out)
              have hcx := at_T (w := wr) (b := bx) (o := ox) (k := k) (x := x) (fun j u hu => (hBw.out.cell (cell_lt (hyx j u hu))).trans (hyx j u hu))
              obtain ⟨cx0, cx1, cx2, cx3⟩ := hcx
              obtain ⟨⟨a0, a1, a2, a3, a4, a5, a6, a7, a8⟩, -⟩ := row9 hdr
              have q1 : (0 : Int) ≤ (k : Int) := by omega
              have q2 : (k : Int) < (lt.length : Int) := by omega
              obtain ⟨W9, hW9⟩ : ∃ W, wr.alloc (.cells (encT x).toArray 96) = W := ⟨_, rfl⟩
              have hb9 : Below wr.heap.size wr W9 := by rw [← hW9]; exact (Below.refl _ wr).alloc (Nat.le_refl _) _
              have d9 : W9.heap[wr.heap.size]? = some (.cells (encT x).toArray 96 (0, 0)) := by rw [← hW9]; exact heap_alloc_new wr _
              have hS9 := hWS.below hb9
              have hT9 := Lib.hid (hWTr.trans (WT.of_below hb9))
              have hd9 := Lib.hid ((hb9.block _ (row_lt hdr)).trans hdr)
              have hx9 := Lib.hid (show wr.heap.size ≠ wb ∧ o2 ≠ some wr.heap.size from ⟨by have := hWS.lt; omega, fun e => by have := hWS.own_lt _ e; omega⟩)
              have hlx := Lib.hid (flat_take_le (wr := wrTry) hx)
              have hft := Lib.hid (flat_take (wr := wrTry) hx)
              have hat := Lib.hid (fun hg => all_take (p := goodTb) hx hal hg)
              have hbad := Lib.hid (fun hg => all_bad (p := goodTb) hx hg)
              have hkg2 : (k + 1) + g = lt.length := by omega
              have hi4 := Lib.hid (fun kk hk => four_at x kk hk)
              have hwx := wrTry_four x
              have hgx4 := goodT_four x
              rw [hwx] at hlx hft
              replace hgx4 := Lib.hid hgx4
              have e9 := (row4 d9).1
              unfold encT at hW9 e9
              obtain ⟨e0, e1, e2, e3⟩ := e9
              obtain ⟨wo, rfl⟩ : ∃ wo : World, wo = wr := ⟨_, rfl⟩
              replace hS9 := Lib.hid hS9
              have hof' := Lib.hid hof
              clear hyx hb9 d9 hWS hWTr hdr hal hx hkg hwx hof
              go_wp2_with fail
              go_loopg [87] 4 (fun g4 v87 w4 => ∃ (kk : Nat) (o4 : Option Nat), kk + g4 = 4 ∧ v87 = .int .i64 (kk : Int) ∧ WS wb o4 w4 ((((((((((((bs ++ wrText nm) ++ leb pa.toNat) ++ wrFlag re) ++ wrFlag ar) ++ leb rg.toNat) ++ leb lc.length) ++ lc.flatMap wrConst) ++ leb li.length) ++ li.flatMap wrIns) ++ leb lt.length) ++ (lt.take k).flatMap wrTry) ++ ((four x).take kk).flatMap (fun z => leb z.toNat)) ∧ WT wb o2 o4 W9 w4 ∧ ((four x).take kk).all (fun z => decide (0 ≤ z)) = true)
              case atStart => exact ⟨0, o2, rfl, rfl, by simpa using hS9.out, WT.refl _ _ _, rfl⟩
              case round =>
                obtain ⟨kk, o4, hkk, rfl, hW4, hV4, hal4⟩ := hrel
                rcases gk with _ | g4
                · obtain rfl : kk = 4 := by omega
                  have e4 : (four x).take 4 = four x := rfl
                  rw [e4] at hW4 hal4
                  have hgx : goodTb x = true := by rw [hgx4.out]; exact hal4
                  have hof := hof'.out
                  obtain ⟨y9, rfl⟩ : ∃ W : World, W = wr := ⟨_, rfl⟩
                  have hdz := Lib.hid (hV4.keep hd9.out hwb.out hof)
                  have hoz := hV4.apart (row_lt hd9.out) hof
                  have hTz := Lib.hid (hT9.out.trans hV4)
                  have haz := Lib.hid (hat.out hgx)
                  have hWz := Lib.hid (show WS wb o4 y9 (((((((((((bs ++ wrText nm) ++ leb pa.toNat) ++ wrFlag re) ++ wrFlag ar) ++ leb rg.toNat) ++ leb lc.length) ++ lc.flatMap wrConst) ++ leb li.length) ++ li.flatMap wrIns) ++ leb lt.length) ++ (lt.take (k + 1)).flatMap wrTry) by rw [hft.out, ← List.append_assoc]; exact hW4)
                  clear hV4 hW4 hal4 hgx e4 hof hkk
                  go_wp2_with fail
                  go_roundg g
                  case measure => exact Nat.lt_succ_self _
                  case rel => exact ⟨k + 1, o4, hkg2, by go_num, hWz.out, hTz.out, hoz, hdz.out, haz.out⟩
                · obtain ⟨z, hz, hix⟩ := hi4.out kk (by omega)
                  have hlz := Lib.hid (flat_take_le (wr := fun z : Int => leb z.toNat) hz)
                  have hfz := Lib.hid (flat_take (wr := fun z : Int => leb z.toNat) hz)
                  have haz := Lib.hid (fun hg => all_take (p := fun z : Int => decide (0 ≤ z)) hz hal4 hg)
                  have hbz := Lib.hid (fun hg => all_bad (p := fun z : Int => decide (0 ≤ z)) hz hg)
                  have hC4 := Lib.hid (c_wnum hW4 z (by have := hlen.out; have := hfl.out re; have := hfl.out ar; have := hlx.out; have := hlz.out; simp only [List.length_append]; omega))
                  have p4 : (kk : Int) < 4 := by omega
                  have hkk2 : (kk + 1) + g4 = 4 := by omega
                  have hV4' := Lib.hid hV4
                  clear hz hW4 hV4 hal4 hkk
                  go_wp2_with fail
                  refine hC4.out.mono ?_
                  rintro e y9 (⟨hgz, rfl, o9, hWx, hVx⟩ | ⟨hgz, rfl, hKB⟩)
                  · have hW9' := Lib.hid (show WS wb o9 y9 ((((((((((((bs ++ wrText nm) ++ leb pa.toNat) ++ wrFlag re) ++ wrFlag ar) ++ leb rg.toNat) ++ leb lc.length) ++ lc.flatMap wrConst) ++ leb li.length) ++ li.flatMap wrIns) ++ leb lt.length) ++ (lt.take k).flatMap wrTry) ++ ((four x).take (kk + 1)).flatMap (fun z => leb z.toNat)) by rw [hfz.out, ← List.append_assoc]; exact hWx)
                    have hV9 := Lib.hid (hV4'.out.trans hVx)
                    have ha9 := Lib.hid (haz.out hgz)
                    clear hWx hVx hgz hC4
                    go_wp2_with fail
                    go_roundg g4
                    case measure => exact Nat.lt_succ_self _
                    case rel => exact ⟨kk + 1, o9, hkk2, by go_num, hW9'.out, hV9.out, ha9.out⟩
                  · have hfin := Lib.hid (kb_panic (hT9.out.trans hV4'.out) hKB)
                    have hgF : GF = false := by rw [hgd.out, hbad.out (by rw [hgx4.out, hbz.out hgz])]; simp
                    rw [hgF]
                    clear hKB hgz hC4 hgF
                    go_wp2
                    exact ⟨rfl, .inr ⟨rfl, rfl, hfin.out⟩⟩
            · obtain rfl : k = lt.length := by omega
              rw [List.take_length] at hWS hal
              obtain ⟨y11, rfl⟩ : ∃ W : World, W = wr := ⟨_, rfl⟩
              have d12' := Lib.hid hdr
              have hT12 := Lib.hid (⟨hWTr, hof⟩ : WT wb o o2 w y11 ∧ o2 ≠ some w.heap.size)
              have hg11 := Lib.hid hal
              obtain ⟨⟨a0, a1, a2, a3, a4, a5, a6, a7, a8⟩, -⟩ := row9 hdr
              have hC12 := Lib.hid (c_wnum hWS (lk.length : Int) (by rw [Int.toNat_natCast]; exact (by have := hlen.out; have := hfl.out re; have := hfl.out ar; simp only [List.length_append]; omega)))
              rw [Int.toNat_natCast] at hC12
              obtain ⟨o11, rfl⟩ : ∃ oo : Option Nat, oo = o2 := ⟨_, rfl⟩
              have hW11 := Lib.hid hWS
              clear hkg hal hdr hWTr hof hWS
              go_wp2_with fail
              refine hC12.out.mono ?_
              rintro e y12 (⟨hg12, rfl, o12, hW12, hV12⟩ | ⟨hg12, rfl, hKB⟩)
              rotate_left
              · simp at hg12
              have d13' := Lib.hid (hV12.keep d12'.out hwb.out hT12.out.2)
              have hT13 := Lib.hid (⟨hT12.out.1.trans hV12, hV12.apart (row_lt d12'.out) hT12.out.2⟩ : WT wb o o12 w y12 ∧ o12 ≠ some w.heap.size)
              replace hg12 := Lib.hid hg12
              obtain ⟨⟨a0, a1, a2, a3, a4, a5, a6, a7, a8⟩, -⟩ := row9 d13'.out
              replace hW12 := Lib.hid hW12
              clear hV12 hC12 hT12 d12'
              go_wp2_with fail
              go_loopg [103] lk.length (fun g v9 wr => ∃ (k : Nat) (o2 : Option Nat), k + g = lk.length ∧ v9 = .int .i64 (k : Int) ∧ WS wb o2 wr (((((((((((((bs ++ wrText nm) ++ leb pa.toNat) ++ wrFlag re) ++ wrFlag ar) ++ leb rg.toNat) ++ leb lc.length) ++ lc.flatMap wrConst) ++ leb li.length) ++ li.flatMap wrIns) ++ leb lt.length) ++ lt.flatMap wrTry) ++ leb lk.length) ++ (lk.take k).flatMap wrCap) ∧ WT wb o o2 w wr ∧ o2 ≠ some w.heap.size ∧ wr.heap[w.heap.size]? = some (.cells #[.string nm, .int .i64 pa, .bool re, .bool ar, .int .i64 rg, .slice p5 lc.length k5, .slice p6 li.length k6, .slice p7 lt.length k7, .slice p8 lk.length k8] 47 (0, 0)) ∧ (lk.take k).all goodKb = true)
              case atStart => exact ⟨0, o12, by simp, rfl, by simpa using hW12.out, hT13.out.1, hT13.out.2, d13'.out, rfl⟩
              case round =>
                obtain ⟨k, o2, hkg, rfl, hWS, hWTr, hof, hdr, hal⟩ := hrel
                rcases gk with _ | g
                rotate_left
                · obtain ⟨x, hx⟩ : ∃ x, lk[k]? = some x := ⟨_, List.getElem?_eq_getElem (by omega)⟩
                  obtain ⟨bx, ox, rfl, hyx⟩ := z8.out k x hx
                  have hBw := Lib.hid (hWTr.below0 hwb0 ho0.out (Nat.le_refl _) hb0.out)
                  have hcx := at_K (w := wr) (b := bx) (o := ox) (k := k) (x := x) (fun j u hu => (hBw.out.cell (cell_lt (hyx j u hu))).trans (hyx j u hu))
                  obtain ⟨cx0, cx1⟩ := hcx
                  obtain ⟨⟨a0, a1, a2, a3, a4, a5, a6, a7, a8⟩, -⟩ := row9 hdr
                  have q1 : (0 : Int) ≤ (k : Int) := by omega
                  have q2 : (k : Int) < (lk.length : Int) := by omega
                  obtain ⟨W9, hW9⟩ : ∃ W, wr.alloc (.cells (encK x).toArray 98) = W := ⟨_, rfl⟩
                  have hb9 : Below wr.heap.size wr W9 := by rw [← hW9]; exact (Below.refl _ wr).alloc (Nat.le_refl _) _
                  have d9 : W9.heap[wr.heap.size]? = some (.cells (encK x).toArray 98 (0, 0)) := by rw [← hW9]; exact heap_alloc_new wr _
                  have hS9 := hWS.below hb9
                  have hT9 := Lib.hid (hWTr.trans (WT.of_below hb9))
                  have hd9 := Lib.hid ((hb9.block _ (row_lt hdr)).trans hdr)
                  have hx9 := Lib.hid (show wr.heap.size ≠ wb ∧ o2 ≠ some wr.heap.size from ⟨by have := hWS.lt; omega, fun e => by have := hWS.own_lt _ e; omega⟩)
                  have hlx := Lib.hid (flat_take_le (wr := wrCap) hx)
                  have hft := Lib.hid (flat_take (wr := wrCap) hx)
                  have hat := Lib.hid (fun hg => all_take (p := goodKb) hx hal hg)
                  have hbad := Lib.hid (fun hg => all_bad (p := goodKb) hx hg)
                  have hkg2 : (k + 1) + g = lk.length := by omega
                  have hwx : wrCap x = wrFlag x.up ++ leb x.n.toNat := rfl
                  rw [hwx] at hlx hft
                  have hfx := hfl.out x.up
                  have hlc : (wrFlag x.up ++ leb x.n.toNat).length = 1 + (leb x.n.toNat).length := by rw [List.length_append, hfx]
                  rw [hlc] at hlx
                  have hCx := Lib.hid (c_wflag hS9 x.up (by have := hlen.out; have := hfl.out re; have := hfl.out ar; have := hlx.out; simp only [List.length_append]; omega))
                  have e9 := (row2 d9).1
                  have d9' := Lib.hid d9
                  unfold encK at hW9 e9
                  obtain ⟨e0, e1⟩ := e9
                  replace hfx := Lib.hid hfx
                  clear hyx hb9 hS9 d9 hWS hWTr hdr hal hx hkg hwx hlc
                  go_wp2_with fail
                  refine hCx.out.mono ?_
                  rintro e y8 (⟨_, rfl, o8, hW8, hV8⟩ | ⟨hgx, _⟩)
                  · have d8 := hV8.keep d9'.out hx9.out.1 hx9.out.2
                    have e9 := (row2 d8).1
                    unfold encK at d8
                    obtain ⟨e0, e1⟩ := e9
                    have hCy := Lib.hid (c_wnum hW8 x.n (by have := hlen.out; have := hfl.out re; have := hfl.out ar; have := hlx.out; have := hfx.out; simp only [List.length_append]; omega))
                    have hV8' := Lib.hid hV8
                    clear hCx hW8 hV8 d8
                    go_wp2_with fail
                    refine hCy.out.mono ?_
                    rintro e y9 (⟨hgx, rfl, o9, hWx, hVx⟩ | ⟨hgx, rfl, hKB⟩)
                    · have hWy : WS wb o9 y9 ((((((((((((((bs ++ wrText nm) ++ leb pa.toNat) ++ wrFlag re) ++ wrFlag ar) ++ leb rg.toNat) ++ leb lc.length) ++ lc.flatMap wrConst) ++ leb li.length) ++ li.flatMap wrIns) ++ leb lt.length) ++ lt.flatMap wrTry) ++ leb lk.length) ++ (lk.take k).flatMap wrCap) ++ (wrFlag x.up ++ leb x.n.toNat)) := by rw [← List.append_assoc]; exact hWx
                      have hVy := hV8'.out.trans hVx
                      have hdz := Lib.hid (hVy.keep hd9.out hwb.out hof)
                      have hoz := hVy.apart (row_lt hd9.out) hof
                      have hTz := Lib.hid (hT9.out.trans hVy)
                      have haz := Lib.hid (hat.out hgx)
                      have hWz := Lib.hid (show WS wb o9 y9 (((((((((((((bs ++ wrText nm) ++ leb pa.toNat) ++ wrFlag re) ++ wrFlag ar) ++ leb rg.toNat) ++ leb lc.length) ++ lc.flatMap wrConst) ++ leb li.length) ++ li.flatMap wrIns) ++ leb lt.length) ++ lt.flatMap wrTry) ++ leb lk.length) ++ (lk.take (k + 1)).flatMap wrCap) by rw [hft.out, ← List.append_assoc]; exact hWy)
                      clear hVx hWx hVy hWy hgx hCy hof
                      go_wp2_with fail
                      go_roundg g
                      case measure => exact Nat.lt_succ_self _
                      case rel => exact ⟨k + 1, o9, hkg2, by go_num, hWz.out, hTz.out, hoz, hdz.out, haz.out⟩
                    · have hfin := Lib.hid (kb_panic (hT9.out.trans hV8'.out) hKB)
                      have hgF : GF = false := by rw [hgd.out, hbad.out hgx]; simp
                      rw [hgF]
                      clear hKB hgx hCy hgF
                      go_wp2
                      exact ⟨rfl, .inr ⟨rfl, rfl, hfin.out⟩⟩
                  · cases hgx
                · obtain rfl : k = lk.length := by omega
                  rw [List.take_length] at hWS hal
                  obtain ⟨y13, rfl⟩ : ∃ W : World, W = wr := ⟨_, rfl⟩
                  have d14' := Lib.hid hdr
                  have hT14 := Lib.hid (⟨hWTr, hof⟩ : WT wb o o2 w y13 ∧ o2 ≠ some w.heap.size)
                  have hg13 := Lib.hid hal
                  obtain ⟨⟨a0, a1, a2, a3, a4, a5, a6, a7, a8⟩, -⟩ := row9 hdr
                  obtain ⟨o13, rfl⟩ : ∃ oo : Option Nat, oo = o2 := ⟨_, rfl⟩
                  have hW13 := Lib.hid hWS
                  clear hkg hal hdr hWTr hof hWS
                  have hgF : GF = true := by rw [hgd.out, hg1.out, hg2.out, hg5.out, hg7.out, hg9.out, hg11.out, hg13.out]; rfl
                  rw [hgF]
                  have hwF : (((((((((((((bs ++ wrText nm) ++ leb pa.toNat) ++ wrFlag re) ++ wrFlag ar) ++ leb rg.toNat) ++ leb lc.length) ++ lc.flatMap wrConst) ++ leb li.length) ++ li.flatMap wrIns) ++ leb lt.length) ++ lt.flatMap wrTry) ++ leb lk.length) ++ lk.flatMap wrCap) = bs ++ WF := by rw [hwr.out]; simp only [wrMany, List.append_assoc]
                  have hWz := Lib.hid (show WS wb o13 y13 (bs ++ WF) by rw [← hwF]; exact hW13.out)
                  clear hgF hwF
                  go_wp2
                  go_end0
                  exact .inl ⟨rfl, rfl, o13, hWz.out, hT14.out.1⟩
end
end Go.Proofs.YtjjogaenejdliaaGreatDoor
namespace Go.Proofs.YtjjogaenejdliaaGreatDoor
open Go.RowKit Go.Lib
set_option linter.unusedVariables false
set_option linter.unusedSimpArgs false
set_option maxHeartbeats 4000000
set_option maxRecDepth 100000

def goodMb (fs : List FV) : Bool := decide (0 < fs.length) && fs.all goodFb
section
variable {wb mb pb : Nat} {o : Option Nat} {w0 w : World} {bs : List Nat}
theorem c_EncodeF (fs : List FV) (v : Value) (hF : RdFs w0 v fs) (hS : Spc w0) (h00 : 0 < w0.heap.size) (hb0 : Below w0.heap.size w0 w) (hwb0 : w0.heap.size ≤ wb) (ho0 : ∀ k, o = some k → w0.heap.size ≤ k) (hC0 : Calls Tryz.prog 16 #[.pointer (some ⟨wb, 0, none⟩), .int .i64 (fs.length : Int)] w (WPost wb o w bs true (leb fs.length))) (hN : bs.length + (wrMany wrFn fs).length ≤ 1099511627776)
    (hm : w.heap[mb]? = some (.cells #[v] 24 (0, 0))) (hp : w.heap[pb]? = some (.cells #[.pointer (some ⟨wb, 0, none⟩)] 52 (0, 0))) (hmw : mb ≠ wb ∧ pb ≠ wb) (hmo : o ≠ some mb ∧ o ≠ some pb) :
    Calls Tryz.prog 14 #[.pointer (some ⟨mb, 0, none⟩), .pointer (some ⟨pb, 0, none⟩)] w (WPost wb o w bs (goodMb fs) (wrMany wrFn fs)) := by
  have hT := Lib.hid (fun (w : World) => c_mustT w)
  have hF2 := Lib.hid (fun (w : World) => c_mustF w)
  obtain ⟨p, c, rfl, hlc, hcm, hz⟩ := hF
  unfold maxLen at hcm
  have m0 : w.cell? ⟨mb, 0, none⟩ = some (.slice p fs.length c) := by rw [cell_of_row _ _ 0 _ _ _ hm]; rfl
  have p0 : w.cell? ⟨pb, 0, none⟩ = some (.pointer (some ⟨wb, 0, none⟩)) := by rw [cell_of_row _ _ 0 _ _ _ hp]; rfl
  have hlen : bs.length + ((leb fs.length).length + (fs.flatMap wrFn).length) ≤ 1099511627776 := by simpa only [wrMany, List.length_append] using hN
  by_cases h0 : 0 < fs.length
  · have hd : decide (0 < fs.length) = true := by simp; exact h0
    have hg : goodMb fs = fs.all goodFb := by unfold goodMb; rw [hd, Bool.true_and]
    have hC := hC0
    rw [hg]
    have rsf := fun (w : World) (a : Addr) (x : Nat) => run_store Tryz.prog w a (.float .f64 x) .plain rfl
    replace hC := Lib.hid hC
    replace hz := Lib.hid hz
    replace hlen := Lib.hid hlen
    replace hm := Lib.hid hm
    replace hp := Lib.hid hp
    replace hmw := Lib.hid hmw
    replace hmo := Lib.hid hmo
    replace hS := Lib.hid hS
    replace hb0 := Lib.hid hb0
    replace ho0 := Lib.hid ho0
    have hs0 := Lib.hid hb0.out.size
    clear hC0 hN hg
    go_enter Tryz.func14, Tryz.ntmps14
    go_wp2_with (go_at_call 15; refine (hT.out _).mono ?_; rintro e w ⟨rfl, rfl⟩)
    refine hC.out.mono ?_
    rintro e y1 (⟨_, rfl, o1, hW1, hV1⟩ | ⟨h, _⟩)
    · have hm1 := Lib.hid (hV1.keep hm.out hmw.out.1 hmo.out.1)
      have hp1 := Lib.hid (hV1.keep hp.out hmw.out.2 hmo.out.2)
      have hn1 := Lib.hid (show o1 ≠ some mb ∧ o1 ≠ some pb from ⟨hV1.apart (row_lt hm.out) hmo.out.1, hV1.apart (row_lt hp.out) hmo.out.2⟩)
      have m0 : y1.cell? ⟨mb, 0, none⟩ = some (.slice p fs.length c) := by rw [cell_of_row _ _ 0 _ _ _ hm1.out]; rfl
      have p0 : y1.cell? ⟨pb, 0, none⟩ = some (.pointer (some ⟨wb, 0, none⟩)) := by rw [cell_of_row _ _ 0 _ _ _ hp1.out]; rfl
      have hm1' := hm1
      replace hW1 := Lib.hid hW1
      replace hV1 := Lib.hid hV1
      clear hC
      go_wp2_with fail
      go_loopg [17] fs.length (fun g v9 wr => ∃ (k : Nat) (o2 : Option Nat), k + g = fs.length ∧ v9 = .int .i64 (k : Int) ∧ WS wb o2 wr ((bs ++ leb fs.length) ++ (fs.take k).flatMap wrFn) ∧ WT wb o o2 w wr ∧ (o2 ≠ some mb ∧ o2 ≠ some pb) ∧ (wr.heap[mb]? = some (.cells #[.slice p fs.length c] 24 (0, 0)) ∧ wr.heap[pb]? = some (.cells #[.pointer (some ⟨wb, 0, none⟩)] 52 (0, 0))) ∧ (fs.take k).all goodFb = true)
      case atStart => exact ⟨0, o1, by simp, rfl, by simpa using hW1.out, hV1.out, hn1.out, ⟨hm1.out, hp1.out⟩, rfl⟩
      case round =>
        obtain ⟨k, o2, hkg, rfl, hWS, hWTr, hof, ⟨hmr, hpr⟩, hal⟩ := hrel
        clear m0 p0
        have p0 : wr.cell? ⟨pb, 0, none⟩ = some (.pointer (some ⟨wb, 0, none⟩)) := by rw [cell_of_row _ _ 0 _ _ _ hpr]; rfl
        rcases gk with _ | g
        · obtain rfl : k = fs.length := by omega
          rw [List.take_length] at hWS hal
          rw [hal]
          have hfin := Lib.hid (show WS wb o2 wr (bs ++ wrMany wrFn fs) by unfold wrMany; rw [← List.append_assoc]; exact hWS)
          replace hWTr := Lib.hid hWTr
          clear hal hmr hpr hof hkg hWS
          go_wp2
          go_end0
          exact .inl ⟨rfl, rfl, o2, hfin.out, hWTr.out⟩
        · obtain ⟨f, hf⟩ : ∃ f, fs[k]? = some f := ⟨_, List.getElem?_eq_getElem (by omega)⟩
          obtain ⟨bx, ox, cx, rfl, hFC, hyx⟩ := hz.out k f hf
          have hBw := hWTr.below0 hwb0 ho0.out (Nat.le_refl _) hb0.out
          have hyw := fun (j : Nat) (u : Value) (hu : cx[j]? = some u) => (hBw.cell (cell_lt (hyx j u hu))).trans (hyx j u hu)
          obtain ⟨W9, hW9⟩ : ∃ W, wr.alloc (.cells cx.toArray 47) = W := ⟨_, rfl⟩
          have hb9 : Below wr.heap.size wr W9 := by rw [← hW9]; exact (Below.refl _ wr).alloc (Nat.le_refl _) _
          have d9 : W9.heap[wr.heap.size]? = some (.cells cx.toArray 47 (0, 0)) := by rw [← hW9]; exact heap_alloc_new wr _
          have hlx := flat_take_le (wr := wrFn) hf
          have hN9 : ((bs ++ leb fs.length) ++ (fs.take k).flatMap wrFn).length + (wrFn f).length ≤ 1099511627776 := by have := hlen.out; simp only [List.length_append]; omega
          have hCx := c_wfn f cx hFC hS.out h00 (hBw.trans (hb9.mono hBw.size)) hwb0 (hWTr.from0 ho0.out hs0.out) (hWS.below hb9) hN9
          have hT9 := Lib.hid (hWTr.trans (WT.of_below hb9))
          have hm9 := Lib.hid ((hb9.block _ (row_lt hmr)).trans hmr)
          have hp9 := Lib.hid ((hb9.block _ (row_lt hpr)).trans hpr)
          have hft := Lib.hid (flat_take (wr := wrFn) hf)
          have hat := Lib.hid (fun hg => all_take (p := goodFb) hf hal hg)
          have hbad := Lib.hid (fun hg => all_bad (p := goodFb) hf hg)
          have hkg2 : (k + 1) + g = fs.length := by omega
          have pb9 : W9.cell? ⟨pb, 0, none⟩ = some (.pointer (some ⟨wb, 0, none⟩)) := by rw [cell_of_row _ _ 0 _ _ _ hp9.out]; rfl
          obtain ⟨xa5, xa6, xa7, xa8, rfl, ⟨⟨ha5, na5, rfl, _⟩, ⟨ha6, na6, rfl, _⟩⟩, ⟨ha7, na7, rfl, _⟩, ⟨ha8, na8, rfl, _⟩⟩ := hFC
          obtain ⟨cA0, cA1, cA2, cA3, cA4, cA5, cA6, cA7, cA8⟩ := at_F hyw
          obtain ⟨⟨e0, e1, e2, e3, e4, e5, e6, e7, e8⟩, -⟩ := row9 d9
          have q1 : (0 : Int) ≤ (k : Int) := by omega
          have q2 : (k : Int) < (fs.length : Int) := by omega
          replace hCx := Lib.hid hCx
          have hof' := Lib.hid hof
          clear hyx hyw hBw hlx hN9 hb9 d9 hWS hWTr hmr hpr hal hf hkg hof
          go_wp2_with fail
          refine hCx.out.mono ?_
          rintro e y9 (⟨hgx, rfl, o9, hWx, hVx⟩ | ⟨hgx, rfl, hKB⟩)
          · have hWz := Lib.hid (show WS wb o9 y9 ((bs ++ leb fs.length) ++ (fs.take (k + 1)).flatMap wrFn) by rw [hft.out, ← List.append_assoc]; exact hWx)
            have hTz := Lib.hid (hT9.out.trans hVx)
            have haz := Lib.hid (hat.out hgx)
            have hoz := Lib.hid (show o9 ≠ some mb ∧ o9 ≠ some pb from ⟨hVx.apart (row_lt hm9.out) hof'.out.1, hVx.apart (row_lt hp9.out) hof'.out.2⟩)
            have hmz := Lib.hid (hVx.keep hm9.out hmw.out.1 hof'.out.1)
            have hpz := Lib.hid (hVx.keep hp9.out hmw.out.2 hof'.out.2)
            clear hWx hVx hgx hCx
            go_wp2_with fail
            go_roundg g
            case measure => exact Nat.lt_succ_self _
            case rel => exact ⟨k + 1, o9, hkg2, by go_num, hWz.out, hTz.out, hoz.out, ⟨hmz.out, hpz.out⟩, haz.out⟩
          · have hfin := Lib.hid (kb_panic hT9.out hKB)
            have hgF : fs.all goodFb = false := hbad.out hgx
            rw [hgF]
            clear hKB hgx hCx hgF
            go_wp2
            exact ⟨rfl, .inr ⟨rfl, rfl, hfin.out⟩⟩
    · cases h
  · have hd : decide (0 < fs.length) = false := decide_eq_false h0
    have hg : goodMb fs = false := by unfold goodMb; rw [hd, Bool.false_and]
    rw [hg]
    clear hC0 hN h0 hg hlen hm hp hz hS hb0 ho0
    go_enter Tryz.func14, Tryz.ntmps14
    go_wp2_with (go_at_call 15; refine (hF2.out _).mono ?_; rintro e yy ⟨rfl, rfl⟩)
    exact ⟨rfl, .inr ⟨rfl, rfl, KB.refl _ _⟩⟩
end
end Go.Proofs.YtjjogaenejdliaaGreatDoor
namespace Go.Proofs.YtjjogaenejdliaaGreatDoor
open Go.RowKit Go.Lib
set_option linter.unusedVariables false
set_option linter.unusedSimpArgs false
set_option maxHeartbeats 2000000
set_option maxRecDepth 100000

def magV (b0 : Nat) : Value := .slice (some ⟨b0, 0, none⟩) 4 4
/-- a writer that has written nothing but the constant -/
def WS0 (wb b0 : Nat) (w : World) : Prop := w.heap[wb]? = some (.cells #[magV b0] 54 (0, 0)) ∧ w.heap[b0]? = some (.cells #[.int .u8 76, .int .u8 78, .int .u8 84, .int .u8 49] 5 (4, 5)) ∧ b0 ≠ wb
section
variable {wb b0 : Nat} {w : World}
theorem ws0_app {X : Nat} {y w5 : World} {ob : Obj} {u : Value} (h0 : y.heap[wb]? = some (.cells #[magV b0] 54 (0, 0))) (hb : b0 ≠ wb)
    (hown5 : w5.ownsRow (y.alloc ob).heap.size 5 1 u (4 + 1) (magic.map byteV ++ [.int .u8 (X : Int)])) (hg5 : (y.alloc ob).grownBy w5 none) :
    ∃ gg cap, u = .slice (some ⟨gg, 0, none⟩) (4 + 1) cap ∧ w5.cell? ⟨wb, 0, none⟩ = some (magV b0) ∧ w5.frozen? ⟨wb, 0, none⟩ = false ∧ WS wb (some gg) (w5.setCell ⟨wb, 0, none⟩ (.slice (some ⟨gg, 0, none⟩) (4 + 1) cap)) (magic ++ [X]) ∧ WT wb (some b0) (some gg) y (w5.setCell ⟨wb, 0, none⟩ (.slice (some ⟨gg, 0, none⟩) (4 + 1) cap)) := by
  have hg5' : (y.alloc ob).grownBy w5 (magV b0).ownBlock := ⟨hg5.os, hg5.tape, hg5.output, hg5.size, fun k hk _ => hg5.block k hk (by simp)⟩
  have hlt := row_lt h0
  have h5 : w5.heap[wb]? = some (.cells #[magV b0] 54 (0, 0)) := (hg5.block wb (by simp; omega) (by simp)).trans ((Below.heap_alloc _ _ _ hlt).trans h0)
  rcases hown5.2 with ⟨_, e⟩ | ⟨gg, cap, cur, rfl, hgg, _⟩
  · cases e
  · have hgs : y.heap.size + 1 ≤ gg := by simpa using hgg
    obtain ⟨a1, a2⟩ := ws_app (bs := magic) (news := [X]) (n := 4) (v := magV b0) h0 (by show some b0 ≠ some wb; simpa using hb) rfl (own_le hown5 (Nat.zero_le _)) hg5' (.inr ⟨gg, rfl, by omega⟩)
    exact ⟨gg, cap, rfl, by rw [cell_of_row _ _ 0 _ _ _ h5]; rfl, by simp [World.frozen?, h5], a1, a2⟩
theorem c_wnum0 (h : WS0 wb b0 w) (m : Nat) (hN : (leb m).length ≤ 1099511627000) : Calls Tryz.prog 16 #[.pointer (some ⟨wb, 0, none⟩), .int .i64 (m : Int)] w (WPost wb (some b0) w magic true (leb m)) := by
  have hT := Lib.hid (fun (w : World) => c_mustT w)
  have hd : decide (0 ≤ (m : Int)) = true := by simp
  obtain ⟨i0, hi0, hz0, hz1, hz2⟩ := info_parts infoU8
  replace h := Lib.hid h
  replace hN := Lib.hid hN
  go_enter Tryz.func16, Tryz.ntmps16
  go_wp2_with (go_at_call 15; refine (hT.out _).mono ?_; rintro e y ⟨rfl, rfl⟩)
  go_loopg [1] m (fun g v1 wr => ∃ (k : Nat) (acc : List Nat), k ≤ g ∧ v1 = .int .i64 (k : Int) ∧ leb m = acc ++ leb k ∧ ((acc = [] ∧ wr = y) ∨ ∃ o' : Option Nat, WS wb o' wr (magic ++ acc) ∧ WT wb (some b0) o' y wr))
  case atStart => exact ⟨m, [], Nat.le_refl _, rfl, rfl, .inl ⟨rfl, rfl⟩⟩
  case round =>
    obtain ⟨k, acc, hkg, rfl, hacc, hst⟩ := hrel
    have hlen := hN.out
    rw [hacc, List.length_append] at hlen
    have hpos := leb_len_le k
    have hor := or128 ⟨k % 256, Nat.mod_lt _ (by decide)⟩
    simp only at hor
    have hmm : k % 256 % 128 = k % 128 := by omega
    rw [hmm, show ((k % 256 : Nat) : Int) = (k : Int) % 256 by omega] at hor
    replace hmm := Lib.hid hmm
    replace hacc := Lib.hid hacc
    rcases hst with ⟨rfl, rfl⟩ | ⟨o', hWS, hWT⟩
    · obtain ⟨r0, rb, hb0w⟩ := h.out
      have k0 : wr.cell? ⟨wb, 0, none⟩ = some (.slice (some ⟨b0, 0, none⟩) 4 4) := by rw [cell_of_row _ _ 0 _ _ _ r0]; rfl
      have hbl := row_lt rb
      have hlw := row_lt r0
      have hr0 := Lib.hid r0
      replace hb0w := Lib.hid hb0w
      have hold0 : ∀ (ob : Obj) (b : Addr), some (⟨b0, 0, none⟩ : Addr) = some b → ∀ (j : Nat) u, (magic.map byteV)[j]? = some u → (wr.alloc ob).cell? (b.add j) = some u := fun ob b hb j u hu => by
        injection hb with hb
        subst hb
        have h1 : (wr.alloc ob).heap[b0]? = some (.cells #[.int .u8 76, .int .u8 78, .int .u8 84, .int .u8 49] 5 (4, 5)) := (Below.heap_alloc _ _ _ hbl).trans rb
        have e : (⟨b0, 0, none⟩ : Addr).add j = ⟨b0, j, none⟩ := by
          unfold Addr.add
          split
          · rename_i hj; rw [hj]
          · simp
        rw [e, cell_of_row _ _ _ _ _ _ h1]
        have hj : j < 4 := by have := (List.getElem?_eq_some_iff.1 hu).1; simpa [magic] using this
        match j, hj with
        | 0, _ => simpa [magic, byteV] using hu
        | 1, _ => simpa [magic, byteV] using hu
        | 2, _ => simpa [magic, byteV] using hu
        | 3, _ => simpa [magic, byteV] using hu
      replace hold0 := Lib.hid hold0
      clear r0 rb hlen
      by_cases h128 : 128 ≤ k
      · have hd1 : decide ((128 : Int) ≤ (k : Int)) = true := by simp; omega
        have hstep : leb k = (k % 128 + 128) :: leb (k / 128) := by rw [leb, if_neg (by omega)]
        replace hstep := Lib.hid hstep
        generalize hX : k % 128 + 128 = X at *
        replace hX := Lib.hid hX
        have hold := hold0.out (.cells #[.int .u8 (X : Int)] 5)
        have hnx := World.news_of_block (cs := #[.int .u8 (X : Int)]) (t := 5) (fr := (0, 0)) (heap_alloc_new wr (.cells #[.int .u8 (X : Int)] 5))
        go_wp2_with (at_builtin; refine wpList_append_grows _ (by rfl) _ _ _ (by rfl) 5 i0 _ 1 1 Tryz.underlying27 hi0 hz0 hz1 hz2 rfl (by omega) (some ⟨b0, 0, none⟩) 4 4 (magic.map byteV) (by rfl) (fun h => by cases h) (by rfl) hold ⟨wr.heap.size, 0, none⟩ 1 1 _ (by rfl) (by rfl) hnx (fun u hu => by simp at hu; subst hu; rfl) (by decide) (by decide) (by decide) ?_; intro u w5 hown5 hg5; obtain ⟨gg, cap, rfl, c10, f10, hfin⟩ := ws0_app hr0.out hb0w.out hown5 hg5; replace hfin := Lib.hid hfin; clear hg5 hown5 hnx hold)
        go_roundg (k / 128)
        case measure => omega
        case rel => exact ⟨k / 128, [X], Nat.le_refl _, congrArg _ (by omega), by rw [hacc.out, hstep.out]; simp, .inr ⟨some gg, hfin.out.1, hfin.out.2⟩⟩
      · have hd1 : decide ((128 : Int) ≤ (k : Int)) = false := by simp; omega
        have hstep : leb k = [k] := by rw [leb, if_pos (by omega)]
        replace hstep := Lib.hid hstep
        have hmod : (k : Int) % 256 = (k : Int) := by omega
        have hold := hold0.out (.cells #[.int .u8 (k : Int)] 5)
        have hnx := World.news_of_block (cs := #[.int .u8 (k : Int)]) (t := 5) (fr := (0, 0)) (heap_alloc_new wr (.cells #[.int .u8 (k : Int)] 5))
        clear hor
        go_wp2_with (at_builtin; refine wpList_append_grows _ (by rfl) _ _ _ (by rfl) 5 i0 _ 1 1 Tryz.underlying27 hi0 hz0 hz1 hz2 rfl (by omega) (some ⟨b0, 0, none⟩) 4 4 (magic.map byteV) (by rfl) (fun h => by cases h) (by rfl) hold ⟨wr.heap.size, 0, none⟩ 1 1 _ (by rfl) (by rfl) hnx (fun u hu => by simp at hu; subst hu; rfl) (by decide) (by decide) (by decide) ?_; intro u w5 hown5 hg5; obtain ⟨gg, cap, rfl, c10, f10, hfin⟩ := ws0_app hr0.out hb0w.out hown5 hg5; replace hfin := Lib.hid hfin; clear hg5 hown5 hnx hold)
        go_end0
        exact .inl ⟨rfl, rfl, some gg, by rw [hacc.out, hstep.out, List.nil_append]; exact hfin.out.1, hfin.out.2⟩
    · obtain ⟨v, r0, rfl, hown, hne⟩ := hWS
      have k0 : wr.cell? ⟨wb, 0, none⟩ = some v := by rw [cell_of_row _ _ 0 _ _ _ r0]; rfl
      have f0 : wr.frozen? ⟨wb, 0, none⟩ = false := by simp [World.frozen?, r0]
      obtain ⟨p, c, rfl⟩ := own_form2 hown
      have hnl : (magic ++ acc).length ≤ 1099511627776 := by rw [List.length_append]; have : magic.length = 4 := rfl; omega
      have hlw := row_lt r0
      obtain ⟨N, hN2⟩ : ∃ N, (magic ++ acc).length = N := ⟨_, rfl⟩
      rw [hN2] at hown k0 r0 hnl hne hWT
      replace hN2 := Lib.hid hN2
      replace hWT := Lib.hid hWT
      have hr0 := Lib.hid r0
      have hne' := Lib.hid hne
      clear hne r0 hlen
      by_cases h128 : 128 ≤ k
      · have hd1 : decide ((128 : Int) ≤ (k : Int)) = true := by simp; omega
        have hstep : leb k = (k % 128 + 128) :: leb (k / 128) := by rw [leb, if_neg (by omega)]
        replace hstep := Lib.hid hstep
        generalize hX : k % 128 + 128 = X at *
        replace hX := Lib.hid hX
        have hown8 := hown.alloc (.cells #[byteV X] 5)
        have hnx := World.news_of_block (cs := #[byteV X]) (t := 5) (fr := (0, 0)) (heap_alloc_new wr (.cells #[byteV X] 5))
        unfold byteV at hown8 hnx
        go_wp2_with (at_builtin; refine wpList_append_lies _ (by rfl) _ _ _ (by rfl) 0 5 i0 _ 1 1 Tryz.underlying27 hi0 hz0 hz1 hz2 rfl (by omega) (.slice p N c) N ((magic ++ acc).map byteV) (by rfl) hown8 ⟨wr.heap.size, 0, none⟩ 1 1 _ (by rfl) (by rfl) hnx (fun u hu => by simp at hu; subst hu; rfl) (by omega) (by unfold maxLen; omega) (by omega) (by omega) (wr.heap.size + 1) (by simp) ?_; intro gg cap w5 hown5 hg5 hat5 hlt5; obtain ⟨⟨c10, f10⟩, hfin⟩ := ws_app1 hr0.out hne'.out hN2.out hown5 hg5 hat5; replace hfin := Lib.hid hfin; clear hg5 hown5 hat5 hlt5 hown8 hnx)
        go_roundg (k / 128)
        case measure => omega
        case rel => exact ⟨k / 128, acc ++ [X], Nat.le_refl _, congrArg _ (by omega), by rw [hacc.out, hstep.out]; simp, .inr ⟨_, by rw [← List.append_assoc]; exact hfin.out.1, hWT.out.trans hfin.out.2⟩⟩
      · have hd1 : decide ((128 : Int) ≤ (k : Int)) = false := by simp; omega
        have hstep : leb k = [k] := by rw [leb, if_pos (by omega)]
        replace hstep := Lib.hid hstep
        have hmod : (k : Int) % 256 = (k : Int) := by omega
        have hown8 := hown.alloc (.cells #[byteV k] 5)
        have hnx := World.news_of_block (cs := #[byteV k]) (t := 5) (fr := (0, 0)) (heap_alloc_new wr (.cells #[byteV k] 5))
        unfold byteV at hown8 hnx
        clear hor
        go_wp2_with (at_builtin; refine wpList_append_lies _ (by rfl) _ _ _ (by rfl) 0 5 i0 _ 1 1 Tryz.underlying27 hi0 hz0 hz1 hz2 rfl (by omega) (.slice p N c) N ((magic ++ acc).map byteV) (by rfl) hown8 ⟨wr.heap.size, 0, none⟩ 1 1 _ (by rfl) (by rfl) hnx (fun u hu => by simp at hu; subst hu; rfl) (by omega) (by unfold maxLen; omega) (by omega) (by omega) (wr.heap.size + 1) (by simp) ?_; intro gg cap w5 hown5 hg5 hat5 hlt5; obtain ⟨⟨c10, f10⟩, hfin⟩ := ws_app1 hr0.out hne'.out hN2.out hown5 hg5 hat5; replace hfin := Lib.hid hfin; clear hg5 hown5 hat5 hlt5 hown8 hnx)
        go_end0
        exact .inl ⟨rfl, rfl, _, by rw [hacc.out, hstep.out, ← List.append_assoc]; exact hfin.out.1, hWT.out.trans hfin.out.2⟩
end
end Go.Proofs.YtjjogaenejdliaaGreatDoor
namespace Go.Proofs.YtjjogaenejdliaaGreatDoor
open Go.RowKit Go.Lib
set_option linter.unusedVariables false
set_option linter.unusedSimpArgs false
set_option maxHeartbeats 4000000
set_option maxRecDepth 100000

section
variable {wb mb pb b i : Nat} {o o' : Option Nat} {w0 w w' y : World} {bs : List Nat} {v : Value}
theorem WS.put (h : WS wb o w bs) (hb : b ≠ wb) (ho : o ≠ some b) : WS wb o (w.setCell ⟨b, i, none⟩ v) bs := by
  obtain ⟨u, h1, h2, h3, h4⟩ := h
  exact ⟨u, (Below.heap_setCell _ _ _ _ (fun e => hb e.symm)).trans h1, h2, own_turn h3 (fun k _ he _ => Below.heap_setCell _ _ _ _ (fun e => ho (by rw [← h2, he, e]))), h4⟩
theorem WT.set (h : WT wb o o' w y) (hb : w.heap.size ≤ b) : WT wb o o' w (y.setCell ⟨b, i, none⟩ v) :=
  ⟨⟨h.kb.os, h.kb.tape, h.kb.output, by simpa [World.setCell] using h.kb.size, fun r hr hn => (Below.heap_setCell _ _ _ _ (show r ≠ b by omega)).trans (h.kb.block r hr hn)⟩, h.own⟩
theorem c_caughtE (fs : List FV) (v : Value) (hF : RdFs w0 v fs) (hS : Spc w0) (h00 : 0 < w0.heap.size) (hb0 : Below w0.heap.size w0 w) (hwb0 : w0.heap.size ≤ wb) (ho0 : ∀ k, o = some k → w0.heap.size ≤ k) (hC0 : ∀ y, Below w.heap.size w y → Calls Tryz.prog 16 #[.pointer (some ⟨wb, 0, none⟩), .int .i64 (fs.length : Int)] y (WPost wb o y bs true (leb fs.length))) (hwl : wb < w.heap.size) (hol : ∀ k, o = some k → k < w.heap.size) (hN : bs.length + (wrMany wrFn fs).length ≤ 1099511627776)
    (hm : w.heap[mb]? = some (.cells #[v] 24 (0, 0))) (hp : w.heap[pb]? = some (.cells #[.pointer (some ⟨wb, 0, none⟩)] 52 (0, 0))) (hmw : mb ≠ wb ∧ pb ≠ wb) (hmo : o ≠ some mb ∧ o ≠ some pb) :
    Calls Tryz.prog 13 #[.func (.func 14) #[] #[.pointer (some ⟨mb, 0, none⟩), .pointer (some ⟨pb, 0, none⟩)]] w fun e w' => (goodMb fs = true ∧ e = .returned (.int .i64 0) ∧ ∃ o', WS wb o' w' (bs ++ wrMany wrFn fs) ∧ WT wb o o' w w') ∨ (goodMb fs = false ∧ e = .returned (.int .i64 110) ∧ KB (fun r => r = wb ∨ o = some r) w w') := by
  obtain ⟨W1, hW1⟩ : ∃ W1, w.alloc (.cells #[.int .i64 0] 28) = W1 := ⟨_, rfl⟩
  have hb1 : Below w.heap.size w W1 := by rw [← hW1]; exact (Below.refl _ w).alloc (Nat.le_refl _) _
  have d1 : W1.heap[w.heap.size]? = some (.cells #[.int .i64 0] 28 (0, 0)) := by rw [← hW1]; exact heap_alloc_new w _
  have hD := c_EncodeF fs v hF hS h00 (hb0.trans (hb1.mono hb0.size)) hwb0 ho0 (hC0 W1 hb1) hN ((hb1.block _ (row_lt hm)).trans hm) ((hb1.block _ (row_lt hp)).trans hp) hmw hmo
  have hmf : ∀ (fn : Fn) (first cap : Array Value) (y : World), (Instr.makeFunc fn first cap).run Tryz.prog y = .ok (.func fn first cap) y := fun _ _ _ _ => rfl
  have hWT1 := Lib.hid (WT.of_below (wb := wb) (o := o) hb1)
  have hwe : w.heap.size ≠ wb := by omega
  have hoe : o ≠ some w.heap.size := fun e => by have := hol _ e; omega
  replace hD := Lib.hid hD
  replace d1 := Lib.hid d1
  replace hwe := Lib.hid hwe
  replace hoe := Lib.hid hoe
  clear hF hS hb0 hC0 hm hp hmw hmo hb1 hwl hol hN
  go_enter_defers Tryz.func13, Tryz.ntmps13
  go_wp2_with fail
  refine hD.out.mono ?_
  rintro e y (⟨hg, rfl, o1, hW, hV⟩ | ⟨hg, rfl, hKB⟩)
  · have ey := hV.keep d1.out hwe.out hoe.out
    have ho1 := hV.apart (row_lt d1.out) hoe.out
    have k0 : y.cell? ⟨w.heap.size, 0, none⟩ = some (.int .i64 0) := by rw [cell_of_row _ _ 0 _ _ _ ey]; rfl
    have f0 : y.frozen? ⟨w.heap.size, 0, none⟩ = false := by simp [World.frozen?, ey]
    have e2 := heap_setCell_same y w.heap.size 0 _ _ (.int .i64 0) ey
    have k2 : (y.setCell ⟨w.heap.size, 0, none⟩ (.int .i64 0)).cell? ⟨w.heap.size, 0, none⟩ = some (.int .i64 0) := by rw [cell_of_row _ _ 0 _ _ _ e2]; rfl
    have hfin := Lib.hid (⟨hW.put (i := 0) (v := .int .i64 0) hwe.out ho1, (hWT1.out.trans hV).set (i := 0) (v := .int .i64 0) (Nat.le_refl _)⟩ : WS wb o1 (y.setCell ⟨w.heap.size, 0, none⟩ (.int .i64 0)) (bs ++ wrMany wrFn fs) ∧ WT wb o o1 w (y.setCell ⟨w.heap.size, 0, none⟩ (.int .i64 0)))
    replace hg := Lib.hid hg
    clear hW hV ey e2 ho1 hD
    go_wp2
    refine leaves_cons (f := 35) (args := #[.pointer (some ⟨w.heap.size, 0, none⟩)]) (by simp) (by simp [go_sem]) ?_
    refine (catch_idle ⟨w.heap.size, 0, none⟩ _).mono ?_
    rintro e u' w'' ⟨rfl, rfl, rfl⟩
    simp [Leaves, settle, results, Tryz.results13, go_sem, k2]
    exact ⟨hg.out, o1, hfin.out.1, hfin.out.2⟩
  · have hKw := (hWT1.out.trans (⟨hKB, .inl rfl⟩ : WT wb o o W1 y))
    have ey := (hKB.block _ (row_lt d1.out) (fun e => e.elim hwe.out hoe.out)).trans d1.out
    have hcw := catch_wrong w.heap.size 0 y ey
    have e1 : (y.alloc (.cells #[] 89)).heap[w.heap.size]? = some (.cells #[.int .i64 0] 28 (0, 0)) := (Below.heap_alloc _ _ _ (row_lt ey)).trans ey
    have e2 := heap_setCell_same (y.alloc (.cells #[] 89)) w.heap.size 0 _ _ (.int .i64 110) e1
    have k2 : ((y.alloc (.cells #[] 89)).setCell ⟨w.heap.size, 0, none⟩ (.int .i64 110)).cell? ⟨w.heap.size, 0, none⟩ = some (.int .i64 110) := by rw [cell_of_row _ _ 0 _ _ _ e2]; rfl
    have hfin := Lib.hid ((hKw.trans (WT.of_below ((Below.refl _ y).alloc (Nat.le_refl _) (.cells #[] 89)))).set (b := w.heap.size) (i := 0) (v := .int .i64 110) (Nat.le_refl _)).kb
    replace hg := Lib.hid hg
    replace hcw := Lib.hid hcw
    clear hKB hKw ey e1 e2 hD
    go_wp2
    refine leaves_cons (f := 35) (args := #[.pointer (some ⟨w.heap.size, 0, none⟩)]) (by simp) (by simp [go_sem]) ?_
    refine hcw.out.mono ?_
    rintro e u' w'' ⟨rfl, rfl, rfl⟩
    simp [Leaves, settle, results, Tryz.results13, go_sem, k2]
    exact ⟨hg.out, hfin.out⟩
theorem own_base {y : World} {B size n : Nat} {e : TypeId} {v : Value} {xs : List Value} (h : y.ownsRow 0 e size v n xs) (hb : ∀ k, v.ownBlock = some k → B ≤ k) : y.ownsRow B e size v n xs := by
  refine ⟨h.1, ?_⟩
  rcases h.2 with h0 | ⟨g, cap, cur, hv, _, rest⟩
  · exact .inl h0
  · exact .inr ⟨g, cap, cur, hv, hb g (by rw [hv]; rfl), rest⟩
/-- what Encode answers -/
def EncR (fs : List FV) (w : World) (e : Ending) (w' : World) : Prop :=
  (goodMb fs = true ∧ (wrMod fs).length ≤ 4194304 ∧ ∃ u, e = .returned (.tuple #[u, .int .i64 0]) ∧ w'.ownsRow w.heap.size 5 1 u (wrMod fs).length ((wrMod fs).map byteV)) ∨
  (goodMb fs = true ∧ 4194304 < (wrMod fs).length ∧ e = .returned (.tuple #[.slice none 0 0, .int .i64 2])) ∨
  (goodMb fs = false ∧ e = .returned (.tuple #[.slice none 0 0, .int .i64 110]))
theorem c_Encode (fs : List FV) (v : Value) (w : World) (hF : RdFs w v fs) (hS : Spc w) (hN : (wrMod fs).length ≤ 1099511627000) : Calls Tryz.prog 7 #[.agg #[v]] w fun e w' => Below w.heap.size w w' ∧ EncR fs w e w' := by
  have h00 : 0 < w.heap.size := Nat.lt_of_le_of_lt (Nat.zero_le _) (cell_lt (hS 0 (by decide)))
  obtain ⟨p, c, rfl⟩ : ∃ p c, v = .slice p fs.length c := by
    obtain ⟨p, c, h, _⟩ := hF
    exact ⟨p, c, h⟩
  obtain ⟨Wa, hWa⟩ : ∃ W, w.alloc (.cells #[.slice p fs.length c] 24) = W := ⟨_, rfl⟩
  obtain ⟨Wb, hWb⟩ : ∃ W, Wa.alloc (.cells #[.int .u8 76, .int .u8 78, .int .u8 84, .int .u8 49] 5 (4, 5)) = W := ⟨_, rfl⟩
  obtain ⟨Wc, hWc⟩ : ∃ W, Wb.alloc (.cells #[.slice (some ⟨w.heap.size + 1, 0, none⟩) 4 4] 54) = W := ⟨_, rfl⟩
  obtain ⟨W4, hW4⟩ : ∃ W, Wc.alloc (.cells #[.pointer (some ⟨w.heap.size + 1 + 1, 0, none⟩)] 52) = W := ⟨_, rfl⟩
  have sa : Wa.heap.size = w.heap.size + 1 := by rw [← hWa]; exact Array.size_push _
  have sb : Wb.heap.size = w.heap.size + 1 + 1 := by rw [← hWb, ← sa]; exact Array.size_push _
  have sc : Wc.heap.size = w.heap.size + 1 + 1 + 1 := by rw [← hWc, ← sb]; exact Array.size_push _
  have s4 : W4.heap.size = w.heap.size + 1 + 1 + 1 + 1 := by rw [← hW4, ← sc]; exact Array.size_push _
  have ba : Below w.heap.size w Wa := by rw [← hWa]; exact (Below.refl _ w).alloc (Nat.le_refl _) _
  have bb : Below Wa.heap.size Wa Wb := by rw [← hWb]; exact (Below.refl _ Wa).alloc (Nat.le_refl _) _
  have bc : Below Wb.heap.size Wb Wc := by rw [← hWc]; exact (Below.refl _ Wb).alloc (Nat.le_refl _) _
  have bd : Below Wc.heap.size Wc W4 := by rw [← hW4]; exact (Below.refl _ Wc).alloc (Nat.le_refl _) _
  have hb4 : Below w.heap.size w W4 := ((ba.trans (bb.mono (by omega))).trans (bc.mono (by omega))).trans (bd.mono (by omega))
  have dm : W4.heap[w.heap.size]? = some (.cells #[.slice p fs.length c] 24 (0, 0)) := by
    rw [bd.block _ (by omega), bc.block _ (by omega), bb.block _ (by omega), ← hWa]; exact heap_alloc_new w _
  have db : W4.heap[w.heap.size + 1]? = some (.cells #[.int .u8 76, .int .u8 78, .int .u8 84, .int .u8 49] 5 (4, 5)) := by
    rw [bd.block _ (by omega), bc.block _ (by omega), ← hWb, ← sa]; exact heap_alloc_new Wa _
  have dw : W4.heap[w.heap.size + 1 + 1]? = some (.cells #[.slice (some ⟨w.heap.size + 1, 0, none⟩) 4 4] 54 (0, 0)) := by
    rw [bd.block _ (by omega), ← hWc, ← sb]; exact heap_alloc_new Wb _
  have dp : W4.heap[w.heap.size + 1 + 1 + 1]? = some (.cells #[.pointer (some ⟨w.heap.size + 1 + 1, 0, none⟩)] 52 (0, 0)) := by
    rw [← hW4, ← sc]; exact heap_alloc_new Wc _
  have hWS : ∀ y, Below W4.heap.size W4 y → WS0 (w.heap.size + 1 + 1) (w.heap.size + 1) y := fun y hy => ⟨(hy.block _ (by omega)).trans dw, (hy.block _ (by omega)).trans db, by omega⟩
  have kc : (convert 27 27 (.slice (some ⟨w.heap.size + 1, 0, none⟩) 4 4)).run Tryz.prog (Wa.alloc (.cells #[.int .u8 76, .int .u8 78, .int .u8 84, .int .u8 49] 5)) = .ok (.slice (some ⟨w.heap.size + 1, 0, none⟩) 4 4) Wb := by
    have := Lib.run_convert_bytes_const (P := Tryz.prog) Wa 27 5 #[.int .u8 76, .int .u8 78, .int .u8 84, .int .u8 49] 4 4 Tryz.underlying27 Tryz.underlying5
    rw [sa] at this
    rw [← hWb]
    exact this
  have hll : (leb fs.length).length ≤ 1099511627000 := by
    have e : (wrMod fs).length = 4 + ((leb fs.length).length + (fs.flatMap wrFn).length) := by unfold wrMod wrMany; rw [List.length_append, List.length_append]; rfl
    omega
  have hmf : ∀ (fn : Fn) (first cap : Array Value) (y : World), (Instr.makeFunc fn first cap).run Tryz.prog y = .ok (.func fn first cap) y := fun _ _ _ _ => rfl
  have hC := Lib.hid (c_caughtE fs _ hF hS h00 hb4 (by omega) (fun k hk => by injection hk with hk; omega) (fun y hy => c_wnum0 (hWS y hy) fs.length hll) (by omega) (fun k hk => by injection hk with hk; omega) (by rw [← List.length_append]; show (wrMod fs).length ≤ _; omega) dm dp ⟨by omega, by omega⟩ ⟨by simp, by simp⟩)
  replace hb4 := Lib.hid hb4
  replace dp := Lib.hid dp
  replace s4 := Lib.hid s4
  have hL : (magic ++ wrMany wrFn fs) = wrMod fs := rfl
  rw [hL] at hC
  clear hF hS ba bb bc bd dm db dw hWS hL
  go_enter Tryz.func7, Tryz.ntmps7
  go_wp2_with fail
  refine hC.out.mono ?_
  rintro e y (⟨hg, rfl, o1, hW, hV⟩ | ⟨hg, rfl, hKB⟩)
  · have hsz := s4.out
    have ey := hV.keep dp.out (by omega) (by simp)
    have hbz := hV.below0 (B := w.heap.size) (w0 := w) (by omega) (fun k hk => by injection hk with hk; omega) (Nat.le_refl _) hb4.out
    have hof := hV.from0 (B := w.heap.size) (fun k hk => by injection hk with hk; omega) (by omega)
    obtain ⟨v, r0, rfl, hown, -⟩ := hW
    have k1 : y.cell? ⟨w.heap.size + 1 + 1 + 1, 0, none⟩ = some (.pointer (some ⟨w.heap.size + 1 + 1, 0, none⟩)) := by rw [cell_of_row _ _ 0 _ _ _ ey]; rfl
    have k2 : y.cell? ⟨w.heap.size + 1 + 1, 0, none⟩ = some v := by rw [cell_of_row _ _ 0 _ _ _ r0]; rfl
    have hob := Lib.hid (own_base hown hof)
    obtain ⟨q, d, rfl⟩ := own_form2 hown
    replace hg := Lib.hid hg
    replace hbz := Lib.hid hbz
    clear hV ey hown r0 hof hC hsz
    by_cases hL : (wrMod fs).length ≤ 4194304
    · have hd : decide ((4194304 : Int) < ((wrMod fs).length : Int)) = false := by simp; omega
      have hL' := Lib.hid hL
      clear hL
      go_wp2
      go_ret2
      exact ⟨hbz.out, .inl ⟨hg.out, hL'.out, _, rfl, hob.out⟩⟩
    · have hd : decide ((4194304 : Int) < ((wrMod fs).length : Int)) = true := by simp; omega
      have hL' := Lib.hid hL
      clear hL hob
      go_wp2
      go_ret2
      exact ⟨hbz.out, .inr (.inl ⟨hg.out, by have := hL'.out; omega, rfl⟩)⟩
  · have hsz := s4.out
    have hbz : Below w.heap.size w y := hb4.out.trans (hKB.below (by omega) (fun r e => e.elim (fun e => by omega) (fun e => by injection e with e; omega)))
    replace hbz := Lib.hid hbz
    replace hg := Lib.hid hg
    clear hKB hC hsz
    go_wp2
    go_ret2
    exact ⟨hbz.out, .inr (.inr ⟨hg.out, rfl⟩)⟩
end
end Go.Proofs.YtjjogaenejdliaaGreatDoor
