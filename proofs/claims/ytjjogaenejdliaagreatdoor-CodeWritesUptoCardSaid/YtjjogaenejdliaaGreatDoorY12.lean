/-
  Contracts: The reference's writer's function (printed by gen_XRE.py). The reference's first number, behind the constant's full row.
-/
import Derived.Test.YtjjogaenejdliaaGreatDoorY11
import Derived.Deep.RegionHeld3
import Derived.Test.YtjjogaenejdliaaGreatDoorY9
namespace Go.Proofs.YtjjogaenejdliaaGreatDoor
open Go.RowKit Go.Lib
set_option linter.unusedVariables false
set_option linter.unusedSimpArgs false
set_option maxHeartbeats 4000000
set_option maxRecDepth 100000

def five (pn : Nat) (re ar : Bool) (rn ln : Nat) : List Nat := [pn, flN re, flN ar, rn, ln]
def natV (n : Nat) : Value := .int .i64 (n : Int)
theorem five_row {y : World} {b pn rn ln k : Nat} {re ar : Bool} (h : y.heap[b]? = some (.cells ((five pn re ar rn ln).map natV).toArray 3 (0, 0))) (hk : k < 5) : ∃ n, (five pn re ar rn ln)[k]? = some n ∧ y.cell? ⟨b, k, none⟩ = some (.int .i64 (n : Int)) := by
  have e : ∀ j : Nat, y.cell? ⟨b, j, none⟩ = ((five pn re ar rn ln).map natV).toArray[j]? := fun j => cell_of_row _ _ j _ _ _ h
  match k, hk with
  | 0, _ => exact ⟨pn, rfl, (e 0).trans rfl⟩
  | 1, _ => exact ⟨flN re, rfl, (e 1).trans rfl⟩
  | 2, _ => exact ⟨flN ar, rfl, (e 2).trans rfl⟩
  | 3, _ => exact ⟨rn, rfl, (e 3).trans rfl⟩
  | 4, _ => exact ⟨ln, rfl, (e 4).trans rfl⟩
theorem flN_le (b : Bool) : flN b ≤ 1 := by cases b <;> decide
theorem five_lt {pn rn ln : Nat} {re ar : Bool} (h1 : (pn : Int) < 9223372036854775808) (h2 : (rn : Int) < 9223372036854775808) (h3 : (ln : Int) < 9223372036854775808) : ∀ n ∈ five pn re ar rn ln, (n : Int) < 9223372036854775808 := fun n hn => by
  have a1 := flN_le re
  have a2 := flN_le ar
  simp [five] at hn
  rcases hn with rfl | rfl | rfl | rfl | rfl <;> omega
theorem wrFn_five (nm : ByteArray) (pn rn : Nat) (re ar : Bool) (lc : List VV) (li : List IV) (lt : List TV4) (lk : List PV2) :
    wrFn ⟨nm, (pn : Int), re, ar, (rn : Int), lc, li, lt, lk⟩ = wrText nm ++ ((five pn re ar rn lc.length).flatMap leb ++ (lc.flatMap wrConst ++ (leb li.length ++ (li.flatMap wrIns ++ (leb lt.length ++ (lt.flatMap wrTry ++ (leb lk.length ++ lk.flatMap wrCap))))))) := by
  simp only [wrFn, wrMany, five, wrFlag_eq, Int.toNat_natCast, List.flatMap_cons, List.flatMap_nil, List.append_assoc, List.append_nil]
/-- an instruction's numbers -/
theorem insL (x : IV) (m : Nat) (hm : x.op = (m : Int)) (h : goodI x) : ∃ L : List Nat, L.length = nlOf m ∧ wrIns x = leb m ++ L.flatMap leb ∧ ∀ k, k < nlOf m → ∃ q : Nat, L[k]? = some q ∧ (argsI x)[k]? = some (q : Int) ∧ (q : Int) < 9223372036854775808 := by
  obtain ⟨⟨h1, h2⟩, h3⟩ := h
  have h4 := nlOf_le m (by omega)
  refine ⟨((argsI x).take (nlOf m)).map Int.toNat, by simp [argsI]; omega, by unfold wrIns; rw [hm, Int.toNat_natCast], fun k hk => ?_⟩
  have hl : (argsI x).length = 4 := rfl
  obtain ⟨z, hz⟩ : ∃ z, (argsI x)[k]? = some z := ⟨_, List.getElem?_eq_getElem (by omega)⟩
  obtain ⟨⟨z1, z2⟩, -⟩ := h3 k z hz
  obtain ⟨q, rfl⟩ := Int.eq_ofNat_of_zero_le z1
  refine ⟨q, ?_, hz, z2⟩
  rw [List.getElem?_map, List.getElem?_take, if_pos hk, hz]
  rfl
theorem argV_at {y : World} {b k : Nat} {x : IV} {z : Int} (h : y.heap[b]? = some (.cells (argV x) 3 (0, 0))) (hz : (argsI x)[k]? = some z) : y.cell? ⟨b, k, none⟩ = some (.int .i64 z) := by
  have e : argV x = ((argsI x).map (fun z => Value.int .i64 z)).toArray := rfl
  rw [cell_of_row _ _ _ _ _ _ h, e, List.getElem?_toArray, List.getElem?_map, hz]
  rfl
theorem wrTry_nat (a b c d : Nat) : wrTry ⟨(a : Int), (b : Int), (c : Int), (d : Int)⟩ = leb a ++ (leb b ++ (leb c ++ leb d)) := rfl
theorem wrCap_nat (u : Bool) (n : Nat) : wrCap ⟨u, (n : Int)⟩ = leb (flN u) ++ leb n := rfl
section
variable {o : Option Nat} {v : Value} {w0 w : World} {bs : List Nat}
theorem c_QfnW (f : FV) (c : List Value) (hFC : FnC w0 f c) (hg : GoodF f) (hz : SizedF f) (hb0 : Below w0.heap.size w0 w) (ho0 : ∀ k, o = some k → w0.heap.size ≤ k) (h : LS o v w bs) (hN : bs.length + (wrFn f).length ≤ 1099511627776) :
    Calls Tryz.prog 20 #[v, .agg c.toArray] w (LPost o w bs (wrFn f)) := by
  obtain ⟨W1, hW1⟩ : ∃ W1, w.alloc (.cells c.toArray 47) = W1 := ⟨_, rfl⟩
  have hb1 : Below w.heap.size w W1 := by rw [← hW1]; exact (Below.refl _ w).alloc (Nat.le_refl _) _
  have d1 : W1.heap[w.heap.size]? = some (.cells c.toArray 47 (0, 0)) := by rw [← hW1]; exact heap_alloc_new w _
  have h1 := h.below hb1
  have how : o ≠ some w.heap.size := fun e => by have := h.own_lt _ e; omega
  have hT1 := Lib.hid (⟨LT.of_below hb1, how⟩ : LT o o w W1 ∧ o ≠ some w.heap.size)
  obtain ⟨vc, vi, vt, vk, rfl, ⟨⟨p5, k5, rfl, m5, M5, z5⟩, ⟨p6, k6, rfl, m6, M6, z6⟩⟩, ⟨p7, k7, rfl, m7, M7, z7⟩, ⟨p8, k8, rfl, m8, M8, z8⟩⟩ := hFC
  obtain ⟨nm, pa, re, ar, rg, lc, li, lt, lk⟩ := f
  obtain ⟨-, g2, g3, g4, g5, g6, g7⟩ := hg
  obtain ⟨s1, -, -, -, -, s6⟩ := hz
  dsimp only at *
  obtain ⟨pn, rfl⟩ := Int.eq_ofNat_of_zero_le g2.1
  obtain ⟨rn, rfl⟩ := Int.eq_ofNat_of_zero_le g3.1
  unfold maxLen at M5 M6 M7 M8
  rw [wrFn_five] at hN ⊢
  obtain ⟨pv, cv, rfl⟩ := own_form2 h.2
  have hlen : bs.length + ((wrText nm).length + (((five pn re ar rn lc.length).flatMap leb).length + ((lc.flatMap wrConst).length + ((leb li.length).length + ((li.flatMap wrIns).length + ((leb lt.length).length + ((lt.flatMap wrTry).length + ((leb lk.length).length + (lk.flatMap wrCap).length)))))))) ≤ 1099511627776 := by
    simpa only [List.length_append] using hN
  have hnm : (nm.size : Int) < 9223372036854775808 := by have e : (2 : Nat) ^ 63 = 9223372036854775808 := by decide
                                                         omega
  have hC1 := Lib.hid (c_QtextW h1 nm hnm (by omega))
  have hfv := Lib.hid (five_lt (re := re) (ar := ar) g2.2 g3.2 (show ((lc.length : Nat) : Int) < 9223372036854775808 by omega))
  have hFl := Lib.hid (fun (b : Bool) (y : World) => c_QflagW b y)
  have hnb : ∀ y : World, y.heap.size = y.drew.heap.size := fun _ => rfl
  obtain ⟨⟨a0, a1, a2, a3, a4, a5, a6, a7, a8⟩, -⟩ := row9 d1
  have rsf := fun (w : World) (a : Addr) (x : Nat) => run_store Tryz.prog w a (.float .f64 x) .plain rfl
  replace hlen := Lib.hid hlen
  have d1' := Lib.hid d1
  replace z5 := Lib.hid z5
  replace z6 := Lib.hid z6
  replace z7 := Lib.hid z7
  replace z8 := Lib.hid z8
  replace g4 := Lib.hid g4
  replace g5 := Lib.hid g5
  replace g6 := Lib.hid g6
  replace g7 := Lib.hid g7
  replace s6 := Lib.hid s6
  replace hb0 := Lib.hid hb0
  replace ho0 := Lib.hid ho0
  have hs0 := Lib.hid hb0.out.size
  obtain ⟨WF, hWF⟩ : ∃ WF, wrText nm ++ ((five pn re ar rn lc.length).flatMap leb ++ (lc.flatMap wrConst ++ (leb li.length ++ (li.flatMap wrIns ++ (leb lt.length ++ (lt.flatMap wrTry ++ (leb lk.length ++ lk.flatMap wrCap))))))) = WF := ⟨_, rfl⟩
  rw [hWF]
  replace hWF := Lib.hid hWF
  clear h h1 hb1 d1 how hN g2 g3 hnm s1 hnb
  go_enter Tryz.func20, Tryz.ntmps20
  go_wp2_with fail
  refine hC1.out.mono ?_
  rintro e y1 ⟨o1, v1, rfl, hW1, hV1⟩
  have d2' := Lib.hid (hV1.keep d1'.out hT1.out.2)
  have hT2 := Lib.hid (⟨hT1.out.1.trans hV1, hV1.apart (row_lt d1'.out) hT1.out.2⟩ : LT o o1 w y1 ∧ o1 ≠ some w.heap.size)
  clear a0 a1 a2 a3 a4 a5 a6 a7 a8
  obtain ⟨⟨a0, a1, a2, a3, a4, a5, a6, a7, a8⟩, -⟩ := row9 d2'.out
  replace hW1 := Lib.hid hW1
  clear hV1 hC1 hT1 d1'
  have hst : (y1.drew.cell? ⟨w.heap.size, 1, none⟩ = some (.int .i64 (pn : Int)) ∧ y1.drew.cell? ⟨w.heap.size, 2, none⟩ = some (.bool re) ∧ y1.drew.cell? ⟨w.heap.size, 3, none⟩ = some (.bool ar) ∧ y1.drew.cell? ⟨w.heap.size, 4, none⟩ = some (.int .i64 (rn : Int)) ∧ y1.drew.cell? ⟨w.heap.size, 5, none⟩ = some (.slice p5 lc.length k5)) := ⟨a1, a2, a3, a4, a5⟩
  have d3 : (y1.alloc (.cells #[.int .i64 (pn : Int), .int .i64 ((flN re : Nat) : Int), .int .i64 ((flN ar : Nat) : Int), .int .i64 (rn : Int), .int .i64 (lc.length : Int)] 3)).drew.heap[w.heap.size]? = some (.cells #[.string nm, .int .i64 (pn : Int), .bool re, .bool ar, .int .i64 (rn : Int), .slice p5 lc.length k5, .slice p6 li.length k6, .slice p7 lt.length k7, .slice p8 lk.length k8] 47 (0, 0)) := (Below.heap_alloc y1 _ _ (row_lt d2'.out)).trans d2'.out
  have e3 : (y1.alloc (.cells #[.int .i64 (pn : Int), .int .i64 ((flN re : Nat) : Int), .int .i64 ((flN ar : Nat) : Int), .int .i64 (rn : Int), .int .i64 (lc.length : Int)] 3)).drew.heap[y1.heap.size]? = some (.cells ((five pn re ar rn lc.length).map natV).toArray 3 (0, 0)) := heap_alloc_new y1 _
  have hst2 : ((y1.alloc (.cells #[.int .i64 (pn : Int), .int .i64 ((flN re : Nat) : Int), .int .i64 ((flN ar : Nat) : Int), .int .i64 (rn : Int), .int .i64 (lc.length : Int)] 3)).drew.cell? ⟨w.heap.size, 1, none⟩ = some (.int .i64 (pn : Int)) ∧ (y1.alloc (.cells #[.int .i64 (pn : Int), .int .i64 ((flN re : Nat) : Int), .int .i64 ((flN ar : Nat) : Int), .int .i64 (rn : Int), .int .i64 (lc.length : Int)] 3)).drew.cell? ⟨w.heap.size, 2, none⟩ = some (.bool re) ∧ (y1.alloc (.cells #[.int .i64 (pn : Int), .int .i64 ((flN re : Nat) : Int), .int .i64 ((flN ar : Nat) : Int), .int .i64 (rn : Int), .int .i64 (lc.length : Int)] 3)).drew.cell? ⟨w.heap.size, 3, none⟩ = some (.bool ar) ∧ (y1.alloc (.cells #[.int .i64 (pn : Int), .int .i64 ((flN re : Nat) : Int), .int .i64 ((flN ar : Nat) : Int), .int .i64 (rn : Int), .int .i64 (lc.length : Int)] 3)).drew.cell? ⟨w.heap.size, 4, none⟩ = some (.int .i64 (rn : Int)) ∧ (y1.alloc (.cells #[.int .i64 (pn : Int), .int .i64 ((flN re : Nat) : Int), .int .i64 ((flN ar : Nat) : Int), .int .i64 (rn : Int), .int .i64 (lc.length : Int)] 3)).drew.cell? ⟨w.heap.size, 5, none⟩ = some (.slice p5 lc.length k5)) := by
    obtain ⟨⟨a0, a1, a2, a3, a4, a5, a6, a7, a8⟩, -⟩ := row9 d3
    exact ⟨a1, a2, a3, a4, a5⟩
  have hbx : Below y1.heap.size y1 (y1.alloc (.cells #[.int .i64 (pn : Int), .int .i64 ((flN re : Nat) : Int), .int .i64 ((flN ar : Nat) : Int), .int .i64 (rn : Int), .int .i64 (lc.length : Int)] 3)).drew := ((Below.refl _ y1).alloc (Nat.le_refl _) _).drew
  have hn3 : y1.drew.heap.size = y1.heap.size := rfl
  replace d3 := Lib.hid d3
  replace e3 := Lib.hid e3
  replace hbx := Lib.hid hbx
  go_wp2_with fail
  go_region_held3 (fun y => (y.cell? ⟨w.heap.size, 1, none⟩ = some (.int .i64 (pn : Int)) ∧ y.cell? ⟨w.heap.size, 2, none⟩ = some (.bool re) ∧ y.cell? ⟨w.heap.size, 3, none⟩ = some (.bool ar) ∧ y.cell? ⟨w.heap.size, 4, none⟩ = some (.int .i64 (rn : Int)) ∧ y.cell? ⟨w.heap.size, 5, none⟩ = some (.slice p5 lc.length k5))) (first | with_reducible assumption | with_reducible exact hst | with_reducible exact hst2) (first | (go_at_call 43; refine (hFl.out _ _).mono ?_; rintro e y8 ⟨rfl, rfl⟩))
  obtain ⟨y2, hy2⟩ : ∃ W, (y1.alloc (.cells #[.int .i64 (pn : Int), .int .i64 ((flN re : Nat) : Int), .int .i64 ((flN ar : Nat) : Int), .int .i64 (rn : Int), .int .i64 (lc.length : Int)] 3)).drew = W := ⟨_, rfl⟩
  rw [hy2] at d3 e3 hbx ⊢
  have hW2 := Lib.hid (hW1.out.below hbx.out)
  have hT3 := Lib.hid (⟨hT2.out.1.trans (LT.of_below hbx.out), hT2.out.2⟩ : LT o o1 w y2 ∧ o1 ≠ some w.heap.size)
  have hab := Lib.hid (show o1 ≠ some y1.heap.size from fun e => by have := hW1.out.own_lt _ e; omega)
  obtain ⟨ab, hab2⟩ : ∃ ab, y1.heap.size = ab := ⟨_, rfl⟩
  rw [hab2] at e3 hab ⊢
  clear hst hst2 hy2 hbx hn3 hW1 hT2 hab2 d2' a0 a1 a2 a3 a4 a5 a6 a7 a8
  go_wp2_with fail
  go_loopg [0, 37] 5 (fun g v9 v37 wr => ∃ (k : Nat) (o2 : Option Nat), k + g = 5 ∧ v37 = .int .i64 (k : Int) ∧ LS o2 v9 wr ((bs ++ wrText nm) ++ ((five pn re ar rn lc.length).take k).flatMap leb) ∧ LT o o2 w wr ∧ (o2 ≠ some w.heap.size ∧ o2 ≠ some ab) ∧ wr.heap[w.heap.size]? = some (.cells #[.string nm, .int .i64 (pn : Int), .bool re, .bool ar, .int .i64 (rn : Int), .slice p5 lc.length k5, .slice p6 li.length k6, .slice p7 lt.length k7, .slice p8 lk.length k8] 47 (0, 0)) ∧ wr.heap[ab]? = some (.cells ((five pn re ar rn lc.length).map natV).toArray 3 (0, 0)))
  case atStart => exact ⟨0, o1, rfl, rfl, by simpa using hW2.out, hT3.out.1, ⟨hT3.out.2, hab.out⟩, d3.out, e3.out⟩
  case round =>
    obtain ⟨k, o2, hkg, rfl, hWS, hWTr, ⟨hof, hoa⟩, hdr, her⟩ := hrel
    rcases gk with _ | g
    rotate_left
    · obtain ⟨n, hn, hc⟩ := five_row her (show k < 5 by omega)
      have hfx := flat_take_le (wr := leb) hn
      have hft := Lib.hid (flat_take (wr := leb) hn)
      have hCx := Lib.hid (c_QnumW hWS n (hfv.out n (List.mem_of_getElem? hn)) (by have := hlen.out; simp only [List.length_append]; omega))
      have q1 : (0 : Int) ≤ (k : Int) := by omega
      have q2 : (k : Int) < 5 := by omega
      have hkg2 : (k + 1) + g = 5 := by omega
      replace hWTr := Lib.hid hWTr
      replace hof := Lib.hid hof
      replace hoa := Lib.hid hoa
      replace hdr := Lib.hid hdr
      replace her := Lib.hid her
      clear hWS hfx hn hkg
      go_wp2_with fail
      refine hCx.out.mono ?_
      rintro e y9 ⟨o9, v9, rfl, hWx, hVx⟩
      have hWz := Lib.hid (show LS o9 v9 y9 ((bs ++ wrText nm) ++ ((five pn re ar rn lc.length).take (k + 1)).flatMap leb) by rw [hft.out, ← List.append_assoc]; exact hWx)
      have hdz := Lib.hid (hVx.keep hdr.out hof.out)
      have hez := Lib.hid (hVx.keep her.out hoa.out)
      have hoz := Lib.hid (show o9 ≠ some w.heap.size ∧ o9 ≠ some ab from ⟨hVx.apart (row_lt hdr.out) hof.out, hVx.apart (row_lt her.out) hoa.out⟩)
      have hTz := Lib.hid (hWTr.out.trans hVx)
      clear hWx hVx hCx
      go_wp2_with fail
      go_roundg g
      case measure => exact Nat.lt_succ_self _
      case rel => exact ⟨k + 1, o9, hkg2, by go_num, hWz.out, hTz.out, hoz.out, hdz.out, hez.out⟩
    · obtain rfl : k = 5 := by omega
      have e5 : (five pn re ar rn lc.length).take 5 = five pn re ar rn lc.length := rfl
      rw [e5] at hWS
      obtain ⟨y5, rfl⟩ : ∃ W : World, W = wr := ⟨_, rfl⟩
      have d6' := Lib.hid hdr
      have hT6 := Lib.hid (⟨hWTr, hof⟩ : LT o o2 w y5 ∧ o2 ≠ some w.heap.size)
      obtain ⟨⟨a0, a1, a2, a3, a4, a5, a6, a7, a8⟩, -⟩ := row9 hdr
      obtain ⟨o5, rfl⟩ : ∃ oo : Option Nat, oo = o2 := ⟨_, rfl⟩
      have hW5 := Lib.hid hWS
      clear hkg hdr hWTr hof hWS her hoa e5 d3 e3 hab hW2 hT3
      go_wp2_with fail
      go_loopg [0, 48] lc.length (fun g v0 v9 wr => ∃ (k : Nat) (o2 : Option Nat), k + g = lc.length ∧ v9 = .int .i64 (k : Int) ∧ LS o2 v0 wr (((bs ++ wrText nm) ++ (five pn re ar rn lc.length).flatMap leb) ++ (lc.take k).flatMap wrConst) ∧ LT o o2 w wr ∧ o2 ≠ some w.heap.size ∧ wr.heap[w.heap.size]? = some (.cells #[.string nm, .int .i64 (pn : Int), .bool re, .bool ar, .int .i64 (rn : Int), .slice p5 lc.length k5, .slice p6 li.length k6, .slice p7 lt.length k7, .slice p8 lk.length k8] 47 (0, 0)))
      case atStart => exact ⟨0, o5, by simp, rfl, by simpa using hW5.out, hT6.out.1, hT6.out.2, d6'.out⟩
      case round =>
        obtain ⟨k, o2, hkg, rfl, hWS, hWTr, hof, hdr⟩ := hrel
        clear a0 a1 a2 a3 a4 a5 a6 a7 a8 hW5 hT6 d6'
        rcases gk with _ | g
        rotate_left
        · obtain ⟨x, hx⟩ : ∃ x, lc[k]? = some x := ⟨_, List.getElem?_eq_getElem (by omega)⟩
          obtain ⟨bx, ox, rfl, hyx⟩ := z5.out k x hx
          have hBw := hWTr.below0 ho0.out (Nat.le_refl _) hb0.out hs0.out
          have hcx := at_V (w := wr) (b := bx) (o := ox) (k := k) (x := x) (fun j u hu => (hBw.cell (cell_lt (hyx j u hu))).trans (hyx j u hu))
          obtain ⟨cx0, cx1, cx2, cx3⟩ := hcx
          obtain ⟨⟨a0, a1, a2, a3, a4, a5, a6, a7, a8⟩, -⟩ := row9 hdr
          have q1 : (0 : Int) ≤ (k : Int) := by omega
          have q2 : (k : Int) < (lc.length : Int) := by omega
          obtain ⟨W9, hW9⟩ : ∃ W, wr.alloc (.cells (encVV x).toArray 51) = W := ⟨_, rfl⟩
          have hb9 : Below wr.heap.size wr W9 := by rw [← hW9]; exact (Below.refl _ wr).alloc (Nat.le_refl _) _
          have d9 : W9.heap[wr.heap.size]? = some (.cells (encVV x).toArray 51 (0, 0)) := by rw [← hW9]; exact heap_alloc_new wr _
          have hS9 := hWS.below hb9
          have hT9 := Lib.hid (hWTr.trans (LT.of_below hb9))
          have hd9 := Lib.hid ((hb9.block _ (row_lt hdr)).trans hdr)
          have hx9 : o2 ≠ some wr.heap.size := fun e => by have := hWS.own_lt _ e; omega
          have hlx := Lib.hid (flat_take_le (wr := wrConst) hx)
          have hft := Lib.hid (flat_take (wr := wrConst) hx)
          have hgx := g4.out x (List.mem_of_getElem? hx)
          have hkg2 : (k + 1) + g = lc.length := by omega
          obtain ⟨T, hT⟩ : ∃ T, (((bs ++ wrText nm) ++ (five pn re ar rn lc.length).flatMap leb) ++ (lc.take k).flatMap wrConst) = T := ⟨_, rfl⟩
          have hTl : T.length + (wrConst x).length ≤ 1099511627776 := by have := hlen.out; have := hlx.out; rw [← hT]; simp only [List.length_append]; omega
          rw [hT] at hS9 hWS
          replace hT := Lib.hid hT
          have hsx := s6.out x (List.mem_of_getElem? hx)
          have e9 := (row4 d9).1
          have d9' := d9
          have hof' := Lib.hid hof
          obtain ⟨xk, xx, xs, xr⟩ := x
          dsimp only at *
          unfold encVV at hW9 d9
          obtain ⟨e0, e1, e2, e3⟩ := e9
          clear hyx hWS hWTr hdr hx hkg hBw
          rcases hgx with h3 | ⟨h4, hev⟩
          rotate_left
          · subst h4
            have hwx : wrConst ⟨4, xx, xs, xr⟩ = leb 1 ++ wrText xs := by unfold wrConst; rw [if_pos rfl]; rfl
            rw [hwx, List.length_append] at hTl
            have hss : (xs.size : Int) < 9223372036854775808 := by have e : (2 : Nat) ^ 63 = 9223372036854775808 := by decide
                                                                   omega
            have hb9' := Lib.hid (hb9.drew)
            have hst : W9.drew.cell? ⟨wr.heap.size, 2, none⟩ = some (.string xs) := e2
            have hL := hS9.drew
            have hdd : W9.drew.heap[wr.heap.size]? = some (.cells #[.int .i64 4, .float .f64 xx, .string xs, .int .i64 xr] 51 (0, 0)) := d9
            have hTr := LT.refl o2 W9.drew
            have hox := hx9
            replace d9' := Lib.hid d9'
            clear hsx hlx hev hS9 hb9 d9 hx9
            go_wp2_with fail
            go_region_held3 (fun y => y.cell? ⟨wr.heap.size, 2, none⟩ = some (.string xs)) (first | with_reducible assumption | with_reducible exact hst) (first | (go_at_call 19; refine (c_QnumW hL 1 (by decide) (by omega)).mono ?_; rintro e y8 ⟨o8, v8, rfl, hL8, hT8⟩; have hd8 := hT8.keep hdd hox; have ho8 := hT8.apart (row_lt hdd) hox; have hs8 : y8.cell? ⟨wr.heap.size, 2, none⟩ = some (.string xs) := (row4 hd8).1.2.2.1) | (go_at_call 42; refine (c_QtextW hL8 xs hss (by rw [List.length_append]; omega)).mono ?_; rintro e y9 ⟨o9, v9, rfl, hL9, hT99⟩; have hd99 := hT99.keep hd8 ho8; have hs9 : y9.cell? ⟨wr.heap.size, 2, none⟩ = some (.string xs) := (row4 hd99).1.2.2.1))
            have hW' : LS o9 v9 y9 (T ++ wrConst ⟨4, xx, xs, xr⟩) := by rw [hwx, ← List.append_assoc]; exact hL9
            have hVx : LT o2 o9 W9 y9 := (hT8.trans hT99).of_drew
            have hof := hof'.out
            have hWz := Lib.hid (show LS o9 v9 y9 (((bs ++ wrText nm) ++ (five pn re ar rn lc.length).flatMap leb) ++ (lc.take (k + 1)).flatMap wrConst) by rw [hft.out, ← List.append_assoc, hT.out]; exact hW')
            have hdz := Lib.hid (hVx.keep hd9.out hof)
            have hoz := Lib.hid (hVx.apart (row_lt hd9.out) hof)
            have hTz := Lib.hid (hT9.out.trans hVx)
            clear hL8 hT8 hd8 ho8 hs8 hL9 hT99 hd99 hs9 hW' hVx hof hL hdd hTr hox hst
            go_wp2_with fail
            go_roundg g
            case measure => exact Nat.lt_succ_self _
            case rel => exact ⟨k + 1, o9, hkg2, by go_num, hWz.out, hTz.out, hoz.out, hdz.out⟩
          · subst h3
            have hwx : wrConst ⟨3, xx, xs, xr⟩ = leb 0 ++ wr8 (nanB xx) := by unfold wrConst; rw [if_neg (by simp)]; rfl
            rw [hwx, List.length_append] at hTl
            have hb2 := fun y : World => c_Qbits xx y
            have hC9 := Lib.hid (c_QnumW hS9 0 (by decide) (by omega))
            replace hb2 := Lib.hid hb2
            replace d9' := Lib.hid d9'
            replace hx9 := Lib.hid hx9
            obtain ⟨U, hU⟩ : ∃ U, nanB xx = U := ⟨_, rfl⟩
            have hU64 : U < 18446744073709551616 := by
              have e : (2 : Nat) ^ 64 = 18446744073709551616 := by decide
              rw [← hU]; unfold nanB; split <;> omega
            rw [hU] at hwx hTl hb2
            replace hwx := Lib.hid hwx
            have hTl2 := Lib.hid (show T.length + ((leb 0).length + 8) ≤ 1099511627776 from hTl)
            clear hsx hlx hS9 hb9 d9 hTl
            go_wp2_with fail
            refine hC9.out.mono ?_
            rintro e y8 ⟨o8, v8, rfl, hL8, hT8⟩
            have d8 := hT8.keep d9'.out hx9.out
            have ho8 := Lib.hid (hT8.apart (row_lt d9'.out) hx9.out)
            obtain ⟨e0, e1, e2, e3⟩ := (row4 d8).1
            replace hL8 := Lib.hid hL8
            replace hT8 := Lib.hid hT8
            replace d8 := Lib.hid d8
            clear hC9
            go_wp2_with fail
            refine (hb2.out _).mono ?_
            rintro e y ⟨rfl, rfl⟩
            go_wp2_with fail
            go_loopg [0, 10] 8 (fun g8 v0 v10 wr9 => ∃ (z : Int) (o4 : Option Nat), g8 ≤ 8 ∧ v10 = .int .i64 z ∧ z = 8 * (g8 : Int) - 8 ∧ LS o4 v0 wr9 ((T ++ leb 0) ++ (wr8 U).take (8 - g8)) ∧ LT o2 o4 W9 wr9)
            case atStart => exact ⟨56, o8, by decide, rfl, by decide, by simp only [Nat.sub_self, List.take_zero, List.append_nil]; exact hL8.out, hT8.out⟩
            case round =>
              obtain ⟨z, o4, hg8, rfl, hz, hW4, hV4⟩ := hrel
              obtain ⟨vv, rfl⟩ : ∃ x : Value, x = u0 := ⟨_, rfl⟩
              rcases gk with _ | j
              · obtain rfl : z = -8 := by omega
                simp only [Nat.sub_zero] at hW4
                have h8 : (wr8 U).take 8 = wr8 U := rfl
                rw [h8] at hW4
                have hW' : LS o4 vv wr (T ++ wrConst ⟨3, xx, xs, xr⟩) := by rw [hwx.out, ← List.append_assoc]; exact hW4
                have hof := hof'.out
                obtain ⟨y9, rfl⟩ : ∃ W : World, W = wr := ⟨_, rfl⟩
                have hWz := Lib.hid (show LS o4 vv y9 (((bs ++ wrText nm) ++ (five pn re ar rn lc.length).flatMap leb) ++ (lc.take (k + 1)).flatMap wrConst) by rw [hft.out, ← List.append_assoc, hT.out]; exact hW')
                have hdz := Lib.hid (hV4.keep hd9.out hof)
                have hoz := Lib.hid (hV4.apart (row_lt hd9.out) hof)
                have hTz := Lib.hid (hT9.out.trans hV4)
                clear hW4 hW' hV4 hof h8 hz hg8
                go_wp2_with fail
                go_roundg g
                case measure => exact Nat.lt_succ_self _
                case rel => exact ⟨k + 1, o4, hkg2, by go_num, hWz.out, hTz.out, hoz.out, hdz.out⟩
              · obtain rfl : z = 8 * (j : Int) := by omega
                have hj : j < 8 := by omega
                obtain ⟨rfl, hown⟩ := hW4
                obtain ⟨p, c, rfl⟩ := own_form2 hown
                have htk := wr8_take U j hj
                obtain ⟨X, hX⟩ : ∃ X, U / 2 ^ (8 * j) % 256 = X := ⟨_, rfl⟩
                rw [hX] at htk
                have hXi : (U : Int) / 2 ^ (8 * j) % 256 = (X : Int) := by rw [← hX]; simp
                have hjj : 8 - (j + 1) = 7 - j := by omega
                rw [hjj] at hown hV4 ⊢
                obtain ⟨BS, hBS⟩ : ∃ BS, (T ++ leb 0) ++ (wr8 U).take (7 - j) = BS := ⟨_, rfl⟩
                have hBl : BS.length ≤ 1099511627775 := by
                  rw [← hBS, List.length_append, List.length_append]
                  have h1 := hTl2.out
                  have h2 : ((wr8 U).take (7 - j)).length ≤ 7 := by simp [wr8]; omega
                  omega
                rw [hBS] at hown hV4 ⊢
                obtain ⟨N, hN2⟩ : ∃ N, BS.length = N := ⟨_, rfl⟩
                rw [hN2] at hown hV4 hBl ⊢
                have q3 : (0 : Int) ≤ 8 * (j : Int) := by omega
                have q4 : 8 * (j : Int) < 64 := by omega
                have hown8 := hown.alloc (.cells #[.int .u8 (X : Int)] 5)
                obtain ⟨wo, rfl⟩ : ∃ W : World, W = wr := ⟨_, rfl⟩
                have hnx := World.news_of_block (cs := #[.int .u8 (X : Int)]) (t := 5) (fr := (0, 0)) (heap_alloc_new wo (.cells #[.int .u8 (X : Int)] 5))
                obtain ⟨i0, hi0, hz0, hz1, hz2⟩ := info_parts infoU8
                replace hN2 := Lib.hid hN2
                replace hBS := Lib.hid hBS
                replace htk := Lib.hid htk
                replace hX := Lib.hid hX
                replace hjj := Lib.hid hjj
                replace hV4 := Lib.hid hV4
                clear hz
                go_wp2_with (at_builtin; go_loud (refine wpList_append_lies _ (by rfl) _ _ _ (by rfl) 0 5 i0 _ 1 1 Tryz.underlying27 hi0 hz0 hz1 hz2 rfl (by omega) (.slice p N c) N (BS.map byteV) (by rfl) hown8 ⟨wo.heap.size, 0, none⟩ 1 1 _ (by rfl) (by rfl) hnx (fun u hu => by simp at hu; subst hu; rfl) (by omega) (by unfold maxLen; omega) (by omega) (by omega) (wo.heap.size + 1) (by simp) ?_; intro gg cap w5 hown5 hg5 hat5 hlt5; have hfin := ls_app1 (v := .slice p N c) hN2.out hown5 hg5 hat5; replace hfin := Lib.hid hfin; clear hg5 hown5 hat5 hlt5 hown8 hnx))
                go_roundg j
                case measure => exact Nat.lt_succ_self _
                case rel => exact ⟨8 * (j : Int) - 8, _, by omega, rfl, rfl, by rw [htk.out, ← List.append_assoc, hBS.out]; exact hfin.out.1, hV4.out.trans hfin.out.2⟩
        · obtain rfl : k = lc.length := by omega
          rw [List.take_length] at hWS
          obtain ⟨y6, rfl⟩ : ∃ W : World, W = wr := ⟨_, rfl⟩
          have d7' := Lib.hid hdr
          have hT7 := Lib.hid (⟨hWTr, hof⟩ : LT o o2 w y6 ∧ o2 ≠ some w.heap.size)
          obtain ⟨⟨a0, a1, a2, a3, a4, a5, a6, a7, a8⟩, -⟩ := row9 hdr
          have hC7 := Lib.hid (c_QnumW hWS li.length (by omega) (by have := hlen.out; simp only [List.length_append]; omega))
          obtain ⟨o6, rfl⟩ : ∃ oo : Option Nat, oo = o2 := ⟨_, rfl⟩
          obtain ⟨v6, rfl⟩ : ∃ vv : Value, vv = u0 := ⟨_, rfl⟩
          have hW6 := Lib.hid hWS
          clear hkg hdr hWTr hof hWS
          go_wp2_with fail
          refine hC7.out.mono ?_
          rintro e y7 ⟨o7, v7, rfl, hW7, hV7⟩
          have d8' := Lib.hid (hV7.keep d7'.out hT7.out.2)
          have hT8 := Lib.hid (⟨hT7.out.1.trans hV7, hV7.apart (row_lt d7'.out) hT7.out.2⟩ : LT o o7 w y7 ∧ o7 ≠ some w.heap.size)
          clear a0 a1 a2 a3 a4 a5 a6 a7 a8
          obtain ⟨⟨a0, a1, a2, a3, a4, a5, a6, a7, a8⟩, -⟩ := row9 d8'.out
          replace hW7 := Lib.hid hW7
          clear hV7 hC7 hT7 d7'
          go_wp2_with fail
          go_loopg [0, 86] li.length (fun g v0 v9 wr => ∃ (k : Nat) (o2 : Option Nat), k + g = li.length ∧ v9 = .int .i64 (k : Int) ∧ LS o2 v0 wr (((((bs ++ wrText nm) ++ (five pn re ar rn lc.length).flatMap leb) ++ lc.flatMap wrConst) ++ leb li.length) ++ (li.take k).flatMap wrIns) ∧ LT o o2 w wr ∧ o2 ≠ some w.heap.size ∧ wr.heap[w.heap.size]? = some (.cells #[.string nm, .int .i64 (pn : Int), .bool re, .bool ar, .int .i64 (rn : Int), .slice p5 lc.length k5, .slice p6 li.length k6, .slice p7 lt.length k7, .slice p8 lk.length k8] 47 (0, 0)))
          case atStart => exact ⟨0, o7, by simp, rfl, by simpa using hW7.out, hT8.out.1, hT8.out.2, d8'.out⟩
          case round =>
            obtain ⟨k, o2, hkg, rfl, hWS, hWTr, hof, hdr⟩ := hrel
            clear a0 a1 a2 a3 a4 a5 a6 a7 a8 hW7 hT8 d8'
            rcases gk with _ | g
            rotate_left
            · obtain ⟨x, hx⟩ : ∃ x, li[k]? = some x := ⟨_, List.getElem?_eq_getElem (by omega)⟩
              obtain ⟨bx, ox, rfl, hyx⟩ := z6.out k x hx
              have hBw := hWTr.below0 ho0.out (Nat.le_refl _) hb0.out hs0.out
              have hcx := at_I (w := wr) (b := bx) (o := ox) (k := k) (x := x) (fun j u hu => (hBw.cell (cell_lt (hyx j u hu))).trans (hyx j u hu))
              obtain ⟨cx0, cx1, cx2, cx3, cx4⟩ := hcx
              obtain ⟨⟨a0, a1, a2, a3, a4, a5, a6, a7, a8⟩, -⟩ := row9 hdr
              have q1 : (0 : Int) ≤ (k : Int) := by omega
              have q2 : (k : Int) < (li.length : Int) := by omega
              obtain ⟨W9, hW9⟩ : ∃ W, wr.alloc (.cells (encI x).toArray 40) = W := ⟨_, rfl⟩
              have hb9 : Below wr.heap.size wr W9 := by rw [← hW9]; exact (Below.refl _ wr).alloc (Nat.le_refl _) _
              have d9 : W9.heap[wr.heap.size]? = some (.cells (encI x).toArray 40 (0, 0)) := by rw [← hW9]; exact heap_alloc_new wr _
              have hS9 := hWS.below hb9
              have hT9 := Lib.hid (hWTr.trans (LT.of_below hb9))
              have hd9 := Lib.hid ((hb9.block _ (row_lt hdr)).trans hdr)
              have hx9 : o2 ≠ some wr.heap.size := fun e => by have := hWS.own_lt _ e; omega
              have hlx := Lib.hid (flat_take_le (wr := wrIns) hx)
              have hft := Lib.hid (flat_take (wr := wrIns) hx)
              have hgx := g5.out x (List.mem_of_getElem? hx)
              have hkg2 : (k + 1) + g = li.length := by omega
              obtain ⟨T, hT⟩ : ∃ T, (((((bs ++ wrText nm) ++ (five pn re ar rn lc.length).flatMap leb) ++ lc.flatMap wrConst) ++ leb li.length) ++ (li.take k).flatMap wrIns) = T := ⟨_, rfl⟩
              have hTl : T.length + (wrIns x).length ≤ 1099511627776 := by have := hlen.out; have := hlx.out; rw [← hT]; simp only [List.length_append]; omega
              rw [hT] at hS9 hWS
              replace hT := Lib.hid hT
              obtain ⟨m, hm⟩ := Int.eq_ofNat_of_zero_le hgx.1.1
              have hm70 : m ≤ 70 := by have := hgx.1.2; omega
              obtain ⟨L, hLl, hwx, hLk⟩ := insL x m hm hgx
              have hO := Lib.hid (fun y => c_QOperands m y hm70)
              have hsz := ltT_size m hm70
              have hasc := ltT_ascii ⟨m, by omega⟩
              simp only at hasc
              have hn4 := nlOf_le m hm70
              rw [hwx, List.length_append] at hTl
              have hA := Lib.hid (fun y => c_QArgs x y)
              have e9 := (row5 d9).1
              have d9' := d9
              have hof' := Lib.hid hof
              obtain ⟨op, xa, xb, xc, xd⟩ := x
              dsimp only at *
              obtain rfl : op = (m : Int) := hm
              generalize ltT m = ops at *
              generalize nlOf m = n at *
              unfold encI at hW9 d9 d9' hA
              obtain ⟨e0, e1, e2, e3, e4⟩ := e9
              have hC9 := Lib.hid (c_QnumW hS9 m (by omega) (by omega))
              obtain ⟨wo, rfl⟩ : ∃ W : World, W = wr := ⟨_, rfl⟩
              have hsb : wo.heap.size ≤ W9.heap.size := hb9.size
              replace d9' := Lib.hid d9'
              replace hx9 := Lib.hid hx9
              replace hwx := Lib.hid hwx
              replace hLk := Lib.hid hLk
              replace hsz := Lib.hid hsz
              replace hasc := Lib.hid hasc
              replace hTl := Lib.hid hTl
              clear hyx hWS hWTr hdr hx hkg hBw hlx hS9 hb9 d9 hgx
              go_wp2_with fail
              refine hC9.out.mono ?_
              rintro e y8 ⟨o8, v8, rfl, hL8, hT8⟩
              have d8 := hT8.keep d9'.out hx9.out
              have ho8 := hT8.apart (row_lt d9'.out) hx9.out
              clear e0 e1 e2 e3 e4
              obtain ⟨e0, e1, e2, e3, e4⟩ := (row5 d8).1
              replace hL8 := Lib.hid hL8
              replace hT8 := Lib.hid hT8
              replace d8 := Lib.hid d8
              replace ho8 := Lib.hid ho8
              clear hC9
              go_wp2_with fail
              refine (hO.out y8).mono ?_
              rintro e y10 ⟨rfl, hb10⟩
              clear e0 e1 e2 e3 e4
              go_wp2_with fail
              obtain ⟨W10, hW10⟩ : ∃ W, y10.iter ops 0 = W := ⟨_, rfl⟩
              rw [hW10]
              have hb11 : Below y10.heap.size y10 W10 := by rw [← hW10]; exact (Below.refl _ y10).alloc (Nat.le_refl _) _
              have i10 : W10.heap[y10.heap.size]? = some (.stringIter ops 0) := by rw [← hW10]; exact World.iter_heap y10 ops 0
              have hb12 := hb10.trans (hb11.mono hb10.size)
              have hL10 := Lib.hid (hL8.out.below hb12)
              have hT10 := Lib.hid (hT8.out.trans (LT.of_below hb12))
              have d10 := Lib.hid ((hb12.block _ (row_lt d8.out)).trans d8.out)
              have hoi := Lib.hid (show o8 ≠ some wo.heap.size ∧ o8 ≠ some y10.heap.size from ⟨ho8.out, fun e => by have := hL8.out.own_lt _ e; have := hb10.size; omega⟩)
              have hib := Lib.hid (show W9.heap.size ≤ y10.heap.size ∧ wo.heap.size ≠ y10.heap.size from ⟨Nat.le_trans hT8.out.kb.size hb10.size, by have := row_lt d8.out; have := hb10.size; omega⟩)
              obtain ⟨ib, hibe⟩ : ∃ ib, y10.heap.size = ib := ⟨_, rfl⟩
              rw [hibe] at i10 hoi hib ⊢
              replace i10 := Lib.hid i10
              clear hW10 hb11 hb12 hb10 hibe hL8 hT8 ho8 hO d8
              go_loopg [0] n (fun g5 v0 wr5 => ∃ (q : Nat) (o4 : Option Nat), q + g5 = n ∧ LS o4 v0 wr5 ((T ++ leb m) ++ (L.take q).flatMap leb) ∧ LT o2 o4 W9 wr5 ∧ (o4 ≠ some wo.heap.size ∧ o4 ≠ some ib) ∧ wr5.heap[wo.heap.size]? = some (.cells #[.int .i64 (m : Int), .int .i64 xa, .int .i64 xb, .int .i64 xc, .int .i64 xd] 40 (0, 0)) ∧ wr5.heap[ib]? = some (.stringIter ops q))
              case atStart => exact ⟨0, o8, by simp, by simpa using hL10.out, hT10.out, hoi.out, d10.out, i10.out⟩
              case round =>
                obtain ⟨q, o4, hq, hW4, hV4, ⟨hob, hoib⟩, hbr, hir⟩ := hrel
                obtain ⟨vv, rfl⟩ : ∃ x : Value, x = u0 := ⟨_, rfl⟩
                rcases gk with _ | g5
                · have hk : ¬ q < ops.size := by have := hsz.out; omega
                  have hnx := fun (ty : TypeId) => run_next_no wr ib ops q ty hir hk
                  rw [List.take_of_length_le (by omega)] at hW4
                  have hof := hof'.out
                  have hW' : LS o4 vv wr (T ++ wrIns ⟨(m : Int), xa, xb, xc, xd⟩) := by rw [hwx.out, ← List.append_assoc]; exact hW4
                  obtain ⟨y9, rfl⟩ : ∃ W : World, W = wr := ⟨_, rfl⟩
                  have hWz := Lib.hid (show LS o4 vv y9 (((((bs ++ wrText nm) ++ (five pn re ar rn lc.length).flatMap leb) ++ lc.flatMap wrConst) ++ leb li.length) ++ (li.take (k + 1)).flatMap wrIns) by rw [hft.out, ← List.append_assoc, hT.out]; exact hW')
                  have hdz := Lib.hid (hV4.keep hd9.out hof)
                  have hoz := Lib.hid (hV4.apart (row_lt hd9.out) hof)
                  have hTz := Lib.hid (hT9.out.trans hV4)
                  clear hW4 hW' hV4 hof hk hir hbr hob hoib hq
                  go_wp2_with fail
                  go_roundg g
                  case measure => exact Nat.lt_succ_self _
                  case rel => exact ⟨k + 1, o4, hkg2, by go_num, hWz.out, hTz.out, hoz.out, hdz.out⟩
                · have hk : q < ops.size := by have := hsz.out; omega
                  have hnx := fun (ty : TypeId) => run_next_at wr ib ops q ty hir hk
                  have hd := decode_one ops q hk hasc.out
                  rw [hd] at hnx
                  obtain ⟨W7, hW7⟩ : ∃ W7, putO wr ib (.stringIter ops (q + 1)) = W7 := ⟨_, rfl⟩
                  rw [hW7] at hnx
                  have i7 : W7.heap[ib]? = some (.stringIter ops (q + 1)) := by rw [← hW7]; exact putO_same hir
                  have n7 : ∀ r', r' ≠ ib → W7.heap[r']? = wr.heap[r']? := fun r' hr => by rw [← hW7]; exact putO_ne hr
                  have hL7 : LS o4 vv W7 ((T ++ leb m) ++ (L.take q).flatMap leb) := ⟨hW4.1, own_turn hW4.2 (fun k _ he _ => n7 k (fun e => hoib (by rw [← hW4.1, he, e])))⟩
                  have hT7 : LT o2 o4 W9 W7 := ⟨by rw [← hW7]; exact hV4.kb.putO hib.out.1, hV4.own⟩
                  have b7 := (n7 _ hib.out.2).trans hbr
                  obtain ⟨z, hz1, hz2, hz3⟩ := hLk.out q (by omega)
                  have hfx := flat_take_le (wr := leb) hz1
                  have hft5 := Lib.hid (flat_take (wr := leb) hz1)
                  obtain ⟨e0, e1, e2, e3, e4⟩ := (row5 b7).1
                  have q3 : (0 : Int) ≤ (q : Int) := by omega
                  have q4 : (q : Int) < 4 := by omega
                  have hq2 : (q + 1) + g5 = n := by omega
                  have hlz : ((T ++ leb m) ++ (L.take q).flatMap leb).length + (leb z).length ≤ 1099511627776 := by have := hTl.out; simp only [List.length_append]; omega
                  replace hlz := Lib.hid hlz
                  replace hL7 := Lib.hid hL7
                  replace hT7 := Lib.hid hT7
                  replace b7 := Lib.hid b7
                  replace i7 := Lib.hid i7
                  replace hob := Lib.hid hob
                  replace hoib := Lib.hid hoib
                  clear hW7 n7 hW4 hV4 hir hbr hd hk hz1 hfx hq
                  go_wp2_with fail
                  refine (hA.out W7).mono ?_
                  rintro e y11 ⟨rfl, hr11, hb11⟩
                  have hc : y11.cell? ⟨W7.heap.size + 1, q, none⟩ = some (.int .i64 (z : Int)) := argV_at hr11 hz2
                  have hC11 := Lib.hid (c_QnumW (hL7.out.below hb11) z hz3 hlz.out)
                  have hT11 := Lib.hid (hT7.out.trans (LT.of_below hb11))
                  have b11 := Lib.hid ((hb11.block _ (row_lt b7.out)).trans b7.out)
                  have i11 := Lib.hid ((hb11.block _ (row_lt i7.out)).trans i7.out)
                  clear hb11 hr11 hL7 hT7 b7 i7 hnx e0 e1 e2 e3 e4
                  go_wp2_with fail
                  refine hC11.out.mono ?_
                  rintro e y12 ⟨o12, v12, rfl, hL12, hT12⟩
                  have hfin := Lib.hid (show LS o12 v12 y12 ((T ++ leb m) ++ (L.take (q + 1)).flatMap leb) ∧ LT o2 o12 W9 y12 ∧ (o12 ≠ some wo.heap.size ∧ o12 ≠ some ib) ∧ y12.heap[wo.heap.size]? = some (.cells #[.int .i64 (m : Int), .int .i64 xa, .int .i64 xb, .int .i64 xc, .int .i64 xd] 40 (0, 0)) ∧ y12.heap[ib]? = some (.stringIter ops (q + 1)) from
                    ⟨by rw [hft5.out, ← List.append_assoc]; exact hL12, hT11.out.trans hT12, ⟨hT12.apart (row_lt b11.out) hob.out, hT12.apart (row_lt i11.out) hoib.out⟩, hT12.keep b11.out hob.out, hT12.keep i11.out hoib.out⟩)
                  clear hL12 hT12 hC11 hz2 hz3
                  go_wp2_with fail
                  go_roundg g5
                  case measure => exact Nat.lt_succ_self _
                  case rel => exact ⟨q + 1, o12, hq2, hfin.out⟩
            · obtain rfl : k = li.length := by omega
              rw [List.take_length] at hWS
              obtain ⟨y8, rfl⟩ : ∃ W : World, W = wr := ⟨_, rfl⟩
              have d9' := Lib.hid hdr
              have hT9 := Lib.hid (⟨hWTr, hof⟩ : LT o o2 w y8 ∧ o2 ≠ some w.heap.size)
              obtain ⟨⟨a0, a1, a2, a3, a4, a5, a6, a7, a8⟩, -⟩ := row9 hdr
              have hC9 := Lib.hid (c_QnumW hWS lt.length (by omega) (by have := hlen.out; simp only [List.length_append]; omega))
              obtain ⟨o8, rfl⟩ : ∃ oo : Option Nat, oo = o2 := ⟨_, rfl⟩
              obtain ⟨v8, rfl⟩ : ∃ vv : Value, vv = u0 := ⟨_, rfl⟩
              have hW8 := Lib.hid hWS
              clear hkg hdr hWTr hof hWS
              go_wp2_with fail
              refine hC9.out.mono ?_
              rintro e y9 ⟨o9, v9, rfl, hW9, hV9⟩
              have d10' := Lib.hid (hV9.keep d9'.out hT9.out.2)
              have hT10 := Lib.hid (⟨hT9.out.1.trans hV9, hV9.apart (row_lt d9'.out) hT9.out.2⟩ : LT o o9 w y9 ∧ o9 ≠ some w.heap.size)
              clear a0 a1 a2 a3 a4 a5 a6 a7 a8
              obtain ⟨⟨a0, a1, a2, a3, a4, a5, a6, a7, a8⟩, -⟩ := row9 d10'.out
              replace hW9 := Lib.hid hW9
              clear hV9 hC9 hT9 d9'
              go_wp2_with fail
              go_loopg [0, 117] lt.length (fun g v0 v9 wr => ∃ (k : Nat) (o2 : Option Nat), k + g = lt.length ∧ v9 = .int .i64 (k : Int) ∧ LS o2 v0 wr (((((((bs ++ wrText nm) ++ (five pn re ar rn lc.length).flatMap leb) ++ lc.flatMap wrConst) ++ leb li.length) ++ li.flatMap wrIns) ++ leb lt.length) ++ (lt.take k).flatMap wrTry) ∧ LT o o2 w wr ∧ o2 ≠ some w.heap.size ∧ wr.heap[w.heap.size]? = some (.cells #[.string nm, .int .i64 (pn : Int), .bool re, .bool ar, .int .i64 (rn : Int), .slice p5 lc.length k5, .slice p6 li.length k6, .slice p7 lt.length k7, .slice p8 lk.length k8] 47 (0, 0)))
              case atStart => exact ⟨0, o9, by simp, rfl, by simpa using hW9.out, hT10.out.1, hT10.out.2, d10'.out⟩
              case round =>
                obtain ⟨k, o2, hkg, rfl, hWS, hWTr, hof, hdr⟩ := hrel
                clear a0 a1 a2 a3 a4 a5 a6 a7 a8 hW9 hT10 d10'
                rcases gk with _ | g
                rotate_left
                · obtain ⟨x, hx⟩ : ∃ x, lt[k]? = some x := ⟨_, List.getElem?_eq_getElem (by omega)⟩
                  obtain ⟨bx, ox, rfl, hyx⟩ := z7.out k x hx
                  have hBw := hWTr.below0 ho0.out (Nat.le_refl _) hb0.out hs0.out
                  have hcx := at_T (w := wr) (b := bx) (o := ox) (k := k) (x := x) (fun j u hu => (hBw.cell (cell_lt (hyx j u hu))).trans (hyx j u hu))
                  obtain ⟨cx0, cx1, cx2, cx3⟩ := hcx
                  obtain ⟨⟨a0, a1, a2, a3, a4, a5, a6, a7, a8⟩, -⟩ := row9 hdr
                  have q1 : (0 : Int) ≤ (k : Int) := by omega
                  have q2 : (k : Int) < (lt.length : Int) := by omega
                  obtain ⟨W9, hW9⟩ : ∃ W, wr.alloc (.cells (encT x).toArray 96) = W := ⟨_, rfl⟩
                  have hb9 : Below wr.heap.size wr W9 := by rw [← hW9]; exact (Below.refl _ wr).alloc (Nat.le_refl _) _
                  have d9 : W9.heap[wr.heap.size]? = some (.cells (encT x).toArray 96 (0, 0)) := by rw [← hW9]; exact heap_alloc_new wr _
                  have hS9 := hWS.below hb9
                  have hT9 := Lib.hid (hWTr.trans (LT.of_below hb9))
                  have hd9 := Lib.hid ((hb9.block _ (row_lt hdr)).trans hdr)
                  have hx9 : o2 ≠ some wr.heap.size := fun e => by have := hWS.own_lt _ e; omega
                  have hlx := Lib.hid (flat_take_le (wr := wrTry) hx)
                  have hft := Lib.hid (flat_take (wr := wrTry) hx)
                  have hgx := g6.out x (List.mem_of_getElem? hx)
                  have hkg2 : (k + 1) + g = lt.length := by omega
                  obtain ⟨T, hT⟩ : ∃ T, (((((((bs ++ wrText nm) ++ (five pn re ar rn lc.length).flatMap leb) ++ lc.flatMap wrConst) ++ leb li.length) ++ li.flatMap wrIns) ++ leb lt.length) ++ (lt.take k).flatMap wrTry) = T := ⟨_, rfl⟩
                  have hTl : T.length + (wrTry x).length ≤ 1099511627776 := by have := hlen.out; have := hlx.out; rw [← hT]; simp only [List.length_append]; omega
                  rw [hT] at hS9 hWS
                  replace hT := Lib.hid hT
                  obtain ⟨xf, xt, xa, xg⟩ := x
                  obtain ⟨⟨⟨f1, f2⟩, ⟨t1, t2⟩⟩, ⟨a1', a2'⟩, ⟨gg1, gg2⟩⟩ := hgx
                  dsimp only at *
                  obtain ⟨nf, rfl⟩ := Int.eq_ofNat_of_zero_le f1
                  obtain ⟨nt, rfl⟩ := Int.eq_ofNat_of_zero_le t1
                  obtain ⟨na, rfl⟩ := Int.eq_ofNat_of_zero_le a1'
                  obtain ⟨ng, rfl⟩ := Int.eq_ofNat_of_zero_le gg1
                  have hwx := wrTry_nat nf nt na ng
                  rw [hwx] at hTl
                  simp only [List.length_append] at hTl
                  have e9 := (row4 d9).1
                  have hst : W9.drew.cell? ⟨wr.heap.size, 0, none⟩ = some (.int .i64 (nf : Int)) ∧ W9.drew.cell? ⟨wr.heap.size, 1, none⟩ = some (.int .i64 (nt : Int)) ∧ W9.drew.cell? ⟨wr.heap.size, 2, none⟩ = some (.int .i64 (na : Int)) ∧ W9.drew.cell? ⟨wr.heap.size, 3, none⟩ = some (.int .i64 (ng : Int)) := e9
                  unfold encT at hW9 d9
                  obtain ⟨e0, e1, e2, e3⟩ := e9
                  have hL := hS9.drew
                  have hdd : W9.drew.heap[wr.heap.size]? = some (.cells #[.int .i64 (nf : Int), .int .i64 (nt : Int), .int .i64 (na : Int), .int .i64 (ng : Int)] 96 (0, 0)) := d9
                  have hTr := LT.refl o2 W9.drew
                  have hox := hx9
                  have hof' := Lib.hid hof
                  clear hyx hWS hWTr hdr hx hkg hBw hlx hS9 hb9 d9 hx9
                  go_wp2_with fail
                  go_region_held3 (fun y => y.cell? ⟨wr.heap.size, 0, none⟩ = some (.int .i64 (nf : Int)) ∧ y.cell? ⟨wr.heap.size, 1, none⟩ = some (.int .i64 (nt : Int)) ∧ y.cell? ⟨wr.heap.size, 2, none⟩ = some (.int .i64 (na : Int)) ∧ y.cell? ⟨wr.heap.size, 3, none⟩ = some (.int .i64 (ng : Int))) (first | with_reducible assumption | with_reducible exact hst) (first | (go_at_call 19; refine (c_QnumW hL _ (by with_reducible assumption) (by (try simp only [List.length_append]); omega)).mono ?_; rintro e y9 ⟨o9, v9, rfl, hL9, hT9n⟩; have hTr := hTr.trans hT9n; have hdd9 := hT9n.keep hdd hox; have hox := hT9n.apart (row_lt hdd) hox; have hdd := hdd9; have hL := hL9; have hs9 := (row4 hdd).1))
                  have hW' : LS o9 v9 y9 (T ++ wrTry ⟨(nf : Int), (nt : Int), (na : Int), (ng : Int)⟩) := by rw [hwx]; simp only [← List.append_assoc]; exact hL
                  have hVx : LT o2 o9 W9 y9 := hTr.of_drew
                  have hof := hof'.out
                  have hWz := Lib.hid (show LS o9 v9 y9 (((((((bs ++ wrText nm) ++ (five pn re ar rn lc.length).flatMap leb) ++ lc.flatMap wrConst) ++ leb li.length) ++ li.flatMap wrIns) ++ leb lt.length) ++ (lt.take (k + 1)).flatMap wrTry) by rw [hft.out, ← List.append_assoc, hT.out]; exact hW')
                  have hdz := Lib.hid (hVx.keep hd9.out hof)
                  have hoz := Lib.hid (hVx.apart (row_lt hd9.out) hof)
                  have hTz := Lib.hid (hT9.out.trans hVx)
                  clear hL hTr hdd hox hs9 hW' hVx hof hst
                  go_wp2_with fail
                  go_roundg g
                  case measure => exact Nat.lt_succ_self _
                  case rel => exact ⟨k + 1, o9, hkg2, by go_num, hWz.out, hTz.out, hoz.out, hdz.out⟩
                · obtain rfl : k = lt.length := by omega
                  rw [List.take_length] at hWS
                  obtain ⟨y10, rfl⟩ : ∃ W : World, W = wr := ⟨_, rfl⟩
                  have d11' := Lib.hid hdr
                  have hT11 := Lib.hid (⟨hWTr, hof⟩ : LT o o2 w y10 ∧ o2 ≠ some w.heap.size)
                  obtain ⟨⟨a0, a1, a2, a3, a4, a5, a6, a7, a8⟩, -⟩ := row9 hdr
                  have hC11 := Lib.hid (c_QnumW hWS lk.length (by omega) (by have := hlen.out; simp only [List.length_append]; omega))
                  obtain ⟨o10, rfl⟩ : ∃ oo : Option Nat, oo = o2 := ⟨_, rfl⟩
                  obtain ⟨v10, rfl⟩ : ∃ vv : Value, vv = u0 := ⟨_, rfl⟩
                  have hW10 := Lib.hid hWS
                  clear hkg hdr hWTr hof hWS
                  go_wp2_with fail
                  refine hC11.out.mono ?_
                  rintro e y11 ⟨o11, v11, rfl, hW11, hV11⟩
                  have d12' := Lib.hid (hV11.keep d11'.out hT11.out.2)
                  have hT12 := Lib.hid (⟨hT11.out.1.trans hV11, hV11.apart (row_lt d11'.out) hT11.out.2⟩ : LT o o11 w y11 ∧ o11 ≠ some w.heap.size)
                  clear a0 a1 a2 a3 a4 a5 a6 a7 a8
                  obtain ⟨⟨a0, a1, a2, a3, a4, a5, a6, a7, a8⟩, -⟩ := row9 d12'.out
                  replace hW11 := Lib.hid hW11
                  clear hV11 hC11 hT11 d11'
                  go_wp2_with fail
                  go_loopg [0, 143] lk.length (fun g v0 v9 wr => ∃ (k : Nat) (o2 : Option Nat), k + g = lk.length ∧ v9 = .int .i64 (k : Int) ∧ LS o2 v0 wr (((((((((bs ++ wrText nm) ++ (five pn re ar rn lc.length).flatMap leb) ++ lc.flatMap wrConst) ++ leb li.length) ++ li.flatMap wrIns) ++ leb lt.length) ++ lt.flatMap wrTry) ++ leb lk.length) ++ (lk.take k).flatMap wrCap) ∧ LT o o2 w wr ∧ o2 ≠ some w.heap.size ∧ wr.heap[w.heap.size]? = some (.cells #[.string nm, .int .i64 (pn : Int), .bool re, .bool ar, .int .i64 (rn : Int), .slice p5 lc.length k5, .slice p6 li.length k6, .slice p7 lt.length k7, .slice p8 lk.length k8] 47 (0, 0)))
                  case atStart => exact ⟨0, o11, by simp, rfl, by simpa using hW11.out, hT12.out.1, hT12.out.2, d12'.out⟩
                  case round =>
                    obtain ⟨k, o2, hkg, rfl, hWS, hWTr, hof, hdr⟩ := hrel
                    clear a0 a1 a2 a3 a4 a5 a6 a7 a8 hW11 hT12 d12'
                    rcases gk with _ | g
                    rotate_left
                    · obtain ⟨x, hx⟩ : ∃ x, lk[k]? = some x := ⟨_, List.getElem?_eq_getElem (by omega)⟩
                      obtain ⟨bx, ox, rfl, hyx⟩ := z8.out k x hx
                      have hBw := hWTr.below0 ho0.out (Nat.le_refl _) hb0.out hs0.out
                      have hcx := at_K (w := wr) (b := bx) (o := ox) (k := k) (x := x) (fun j u hu => (hBw.cell (cell_lt (hyx j u hu))).trans (hyx j u hu))
                      obtain ⟨cx0, cx1⟩ := hcx
                      obtain ⟨⟨a0, a1, a2, a3, a4, a5, a6, a7, a8⟩, -⟩ := row9 hdr
                      have q1 : (0 : Int) ≤ (k : Int) := by omega
                      have q2 : (k : Int) < (lk.length : Int) := by omega
                      obtain ⟨W9, hW9⟩ : ∃ W, wr.alloc (.cells (encK x).toArray 98) = W := ⟨_, rfl⟩
                      have hb9 : Below wr.heap.size wr W9 := by rw [← hW9]; exact (Below.refl _ wr).alloc (Nat.le_refl _) _
                      have d9 : W9.heap[wr.heap.size]? = some (.cells (encK x).toArray 98 (0, 0)) := by rw [← hW9]; exact heap_alloc_new wr _
                      have hS9 := hWS.below hb9
                      have hT9 := Lib.hid (hWTr.trans (LT.of_below hb9))
                      have hd9 := Lib.hid ((hb9.block _ (row_lt hdr)).trans hdr)
                      have hx9 : o2 ≠ some wr.heap.size := fun e => by have := hWS.own_lt _ e; omega
                      have hlx := Lib.hid (flat_take_le (wr := wrCap) hx)
                      have hft := Lib.hid (flat_take (wr := wrCap) hx)
                      have hgx := g7.out x (List.mem_of_getElem? hx)
                      have hkg2 : (k + 1) + g = lk.length := by omega
                      obtain ⟨T, hT⟩ : ∃ T, (((((((((bs ++ wrText nm) ++ (five pn re ar rn lc.length).flatMap leb) ++ lc.flatMap wrConst) ++ leb li.length) ++ li.flatMap wrIns) ++ leb lt.length) ++ lt.flatMap wrTry) ++ leb lk.length) ++ (lk.take k).flatMap wrCap) = T := ⟨_, rfl⟩
                      have hTl : T.length + (wrCap x).length ≤ 1099511627776 := by have := hlen.out; have := hlx.out; rw [← hT]; simp only [List.length_append]; omega
                      rw [hT] at hS9 hWS
                      replace hT := Lib.hid hT
                      obtain ⟨xu, xn⟩ := x
                      obtain ⟨n1, n2⟩ := hgx
                      dsimp only at *
                      obtain ⟨nn, rfl⟩ := Int.eq_ofNat_of_zero_le n1
                      have hfu : ((flN xu : Nat) : Int) < 9223372036854775808 := by have := flN_le xu; omega
                      have hwx := wrCap_nat xu nn
                      rw [hwx] at hTl
                      simp only [List.length_append] at hTl
                      have e9 := (row2 d9).1
                      have hst : W9.drew.cell? ⟨wr.heap.size, 0, none⟩ = some (.bool xu) ∧ W9.drew.cell? ⟨wr.heap.size, 1, none⟩ = some (.int .i64 (nn : Int)) := e9
                      unfold encK at hW9 d9
                      obtain ⟨e0, e1⟩ := e9
                      have hL := hS9.drew
                      have hdd : W9.drew.heap[wr.heap.size]? = some (.cells #[.bool xu, .int .i64 (nn : Int)] 98 (0, 0)) := d9
                      have hTr := LT.refl o2 W9.drew
                      have hox := hx9
                      have hof' := Lib.hid hof
                      clear hyx hWS hWTr hdr hx hkg hBw hlx hS9 hb9 d9 hx9
                      go_wp2_with fail
                      go_region_held3 (fun y => y.cell? ⟨wr.heap.size, 0, none⟩ = some (.bool xu) ∧ y.cell? ⟨wr.heap.size, 1, none⟩ = some (.int .i64 (nn : Int))) (first | with_reducible assumption | with_reducible exact hst) (first | (go_at_call 43; refine (hFl.out _ _).mono ?_; rintro e y8 ⟨rfl, rfl⟩) | (go_at_call 19; refine (c_QnumW hL _ (by with_reducible assumption) (by (try simp only [List.length_append]); omega)).mono ?_; rintro e y9 ⟨o9, v9, rfl, hL9, hT9n⟩; have hTr := hTr.trans hT9n; have hdd9 := hT9n.keep hdd hox; have hox := hT9n.apart (row_lt hdd) hox; have hdd := hdd9; have hL := hL9; have hs9 := (row2 hdd).1))
                      have hW' : LS o9 v9 y9 (T ++ wrCap ⟨xu, (nn : Int)⟩) := by rw [hwx]; simp only [← List.append_assoc]; exact hL
                      have hVx : LT o2 o9 W9 y9 := hTr.of_drew
                      have hof := hof'.out
                      have hWz := Lib.hid (show LS o9 v9 y9 (((((((((bs ++ wrText nm) ++ (five pn re ar rn lc.length).flatMap leb) ++ lc.flatMap wrConst) ++ leb li.length) ++ li.flatMap wrIns) ++ leb lt.length) ++ lt.flatMap wrTry) ++ leb lk.length) ++ (lk.take (k + 1)).flatMap wrCap) by rw [hft.out, ← List.append_assoc, hT.out]; exact hW')
                      have hdz := Lib.hid (hVx.keep hd9.out hof)
                      have hoz := Lib.hid (hVx.apart (row_lt hd9.out) hof)
                      have hTz := Lib.hid (hT9.out.trans hVx)
                      clear hL hTr hdd hox hs9 hW' hVx hof hst
                      go_wp2_with fail
                      go_roundg g
                      case measure => exact Nat.lt_succ_self _
                      case rel => exact ⟨k + 1, o9, hkg2, by go_num, hWz.out, hTz.out, hoz.out, hdz.out⟩
                    · obtain rfl : k = lk.length := by omega
                      rw [List.take_length] at hWS
                      obtain ⟨y12, rfl⟩ : ∃ W : World, W = wr := ⟨_, rfl⟩
                      have d13' := Lib.hid hdr
                      have hT13 := Lib.hid (⟨hWTr, hof⟩ : LT o o2 w y12 ∧ o2 ≠ some w.heap.size)
                      obtain ⟨⟨a0, a1, a2, a3, a4, a5, a6, a7, a8⟩, -⟩ := row9 hdr
                      obtain ⟨o12, rfl⟩ : ∃ oo : Option Nat, oo = o2 := ⟨_, rfl⟩
                      obtain ⟨v12, rfl⟩ : ∃ vv : Value, vv = u0 := ⟨_, rfl⟩
                      have hW12 := Lib.hid hWS
                      clear hkg hdr hWTr hof hWS
                      have hwF : (((((((((bs ++ wrText nm) ++ (five pn re ar rn lc.length).flatMap leb) ++ lc.flatMap wrConst) ++ leb li.length) ++ li.flatMap wrIns) ++ leb lt.length) ++ lt.flatMap wrTry) ++ leb lk.length) ++ lk.flatMap wrCap) = bs ++ WF := by rw [← hWF.out]; simp only [List.append_assoc]
                      have hWz := Lib.hid (show LS o12 v12 y12 (bs ++ WF) by rw [← hwF]; exact hW12.out)
                      clear hwF
                      go_wp2
                      go_ret
                      exact ⟨o12, v12, rfl, hWz.out, hT13.out.1⟩
end
end Go.Proofs.YtjjogaenejdliaaGreatDoor
namespace Go.Proofs.YtjjogaenejdliaaGreatDoor
open Go.RowKit Go.Lib
set_option linter.unusedVariables false
set_option linter.unusedSimpArgs false
set_option maxHeartbeats 2000000
set_option maxRecDepth 100000

section
variable {b0 : Nat} {w : World}
theorem ls0_app {X : Nat} {y w5 : World} {ob : Obj} {u : Value}
    (hown5 : w5.ownsRow (y.alloc ob).heap.size 5 1 u (4 + 1) (magic.map byteV ++ [.int .u8 (X : Int)])) (hg5 : (y.alloc ob).grownBy w5 none) :
    ∃ gg cap, u = .slice (some ⟨gg, 0, none⟩) (4 + 1) cap ∧ LS (some gg) (.slice (some ⟨gg, 0, none⟩) (4 + 1) cap) w5 (magic ++ [X]) ∧ LT (some b0) (some gg) y w5 := by
  have hg5' : (y.alloc ob).grownBy w5 (magV b0).ownBlock := ⟨hg5.os, hg5.tape, hg5.output, hg5.size, fun k hk _ => hg5.block k hk (by simp)⟩
  rcases hown5.2 with ⟨_, e⟩ | ⟨gg, cap, cur, rfl, hgg, _⟩
  · cases e
  · have hgs : y.heap.size + 1 ≤ gg := by simpa using hgg
    obtain ⟨a1, a2⟩ := ls_app (bs := magic) (news := [X]) (n := 4) (v := magV b0) rfl (own_le hown5 (Nat.zero_le _)) hg5' (.inr ⟨gg, rfl, by omega⟩)
    exact ⟨gg, cap, rfl, a1, a2⟩
theorem c_QnumW0 (h : w.heap[b0]? = some (.cells #[.int .u8 76, .int .u8 78, .int .u8 84, .int .u8 49] 5 (4, 5))) (m : Nat) (hm : (m : Int) < 9223372036854775808) (hN : (leb m).length ≤ 1099511627000) : Calls Tryz.prog 19 #[.slice (some ⟨b0, 0, none⟩) 4 4, .int .i64 (m : Int)] w (LPost (some b0) w magic (leb m)) := by
  obtain ⟨i0, hi0, hz0, hz1, hz2⟩ := info_parts infoU8
  replace h := Lib.hid h
  replace hN := Lib.hid hN
  go_enter Tryz.func19, Tryz.ntmps19
  go_wp2_with fail
  go_loopg [0, 5] m (fun g v0 v5 wr => ∃ (k : Nat) (acc : List Nat), k ≤ g ∧ k ≤ m ∧ v5 = .int .u64 (k : Int) ∧ leb m = acc ++ leb k ∧ ((acc = [] ∧ v0 = magV b0 ∧ wr = w) ∨ ∃ o' : Option Nat, LS o' v0 wr (magic ++ acc) ∧ LT (some b0) o' w wr))
  case atStart => exact ⟨m, [], Nat.le_refl _, Nat.le_refl _, by go_num, rfl, .inl ⟨rfl, rfl, rfl⟩⟩
  case round =>
    obtain ⟨k, acc, hkg, hkm, rfl, hacc, hst⟩ := hrel
    have hlen := hN.out
    rw [hacc, List.length_append] at hlen
    have hpos := leb_len_le k
    replace hacc := Lib.hid hacc
    rcases hst with ⟨rfl, rfl, rfl⟩ | ⟨o', hLS, hLT⟩
    · have rb := h.out
      have hbl := row_lt rb
      have hold0 : ∀ (ob : Obj) (b : Addr), some (⟨b0, 0, none⟩ : Addr) = some b → ∀ (j : Nat) u, (magic.map byteV)[j]? = some u → (wr.alloc ob).cell? (b.add j) = some u := fun ob b hb j u hu => by
        injection hb with hb
        subst hb
        have h1 : (wr.alloc ob).heap[b0]? = some (.cells #[.int .u8 76, .int .u8 78, .int .u8 84, .int .u8 49] 5 (4, 5)) := (Below.heap_alloc _ _ _ hbl).trans rb
        have e : (⟨b0, 0, none⟩ : Addr).add j = ⟨b0, j, none⟩ := by
          unfold Addr.add
          split
          · rename_i hj; rw [hj]
          · simp
        rw [e, cell_of_row _ _ _ _ _ _ h1]
        have hj : j < 4 := by have := (List.getElem?_eq_some_iff.1 hu).1; simpa [magic] using this
        match j, hj with
        | 0, _ => simpa [magic, byteV] using hu
        | 1, _ => simpa [magic, byteV] using hu
        | 2, _ => simpa [magic, byteV] using hu
        | 3, _ => simpa [magic, byteV] using hu
      replace hold0 := Lib.hid hold0
      unfold magV
      clear rb hlen
      by_cases h128 : 128 ≤ k
      · have hd1 : decide ((128 : Int) ≤ (k : Int)) = true := by simp; omega
        have hstep : leb k = (k % 128 + 128) :: leb (k / 128) := by rw [leb, if_neg (by omega)]
        replace hstep := Lib.hid hstep
        generalize hX : k % 128 + 128 = X at *
        have hXi : (k : Int) % 128 + 128 = (X : Int) := by omega
        have hXl : X < 256 := by omega
        have hold := hold0.out (.cells #[.int .u8 (X : Int)] 5)
        have hnx := World.news_of_block (cs := #[.int .u8 (X : Int)]) (t := 5) (fr := (0, 0)) (heap_alloc_new wr (.cells #[.int .u8 (X : Int)] 5))
        go_wp2_with (at_builtin; go_loud (refine wpList_append_grows _ (by rfl) _ _ _ (by rfl) 5 i0 _ 1 1 Tryz.underlying27 hi0 hz0 hz1 hz2 rfl (by omega) (some ⟨b0, 0, none⟩) 4 4 (magic.map byteV) (by rfl) (fun h => by cases h) (by rfl) hold ⟨wr.heap.size, 0, none⟩ 1 1 _ (by rfl) (by rfl) hnx (fun u hu => by simp at hu; subst hu; rfl) (by decide) (by decide) (by decide) ?_; intro u w5 hown5 hg5; obtain ⟨gg, cap, rfl, hfin⟩ := ls0_app (b0 := b0) hown5 hg5; replace hfin := Lib.hid hfin; clear hg5 hown5 hnx hold))
        go_roundg (k / 128)
        case measure => omega
        case rel => exact ⟨k / 128, [X], Nat.le_refl _, by omega, congrArg _ (by omega), by rw [hacc.out, hstep.out]; simp, .inr ⟨some gg, hfin.out.1, hfin.out.2⟩⟩
      · have hd1 : decide ((128 : Int) ≤ (k : Int)) = false := by simp; omega
        have hstep : leb k = [k] := by rw [leb, if_pos (by omega)]
        replace hstep := Lib.hid hstep
        have hmod : (k : Int) % 256 = (k : Int) := by omega
        have hold := hold0.out (.cells #[.int .u8 (k : Int)] 5)
        have hnx := World.news_of_block (cs := #[.int .u8 (k : Int)]) (t := 5) (fr := (0, 0)) (heap_alloc_new wr (.cells #[.int .u8 (k : Int)] 5))
        go_wp2_with (at_builtin; go_loud (refine wpList_append_grows _ (by rfl) _ _ _ (by rfl) 5 i0 _ 1 1 Tryz.underlying27 hi0 hz0 hz1 hz2 rfl (by omega) (some ⟨b0, 0, none⟩) 4 4 (magic.map byteV) (by rfl) (fun h => by cases h) (by rfl) hold ⟨wr.heap.size, 0, none⟩ 1 1 _ (by rfl) (by rfl) hnx (fun u hu => by simp at hu; subst hu; rfl) (by decide) (by decide) (by decide) ?_; intro u w5 hown5 hg5; obtain ⟨gg, cap, rfl, hfin⟩ := ls0_app (b0 := b0) hown5 hg5; replace hfin := Lib.hid hfin; clear hg5 hown5 hnx hold))
        go_ret
        exact ⟨_, _, rfl, by rw [hacc.out, hstep.out, List.nil_append]; exact hfin.out.1, hfin.out.2⟩
    · obtain ⟨rfl, hown⟩ := hLS
      obtain ⟨p, c, rfl⟩ := own_form2 hown
      have hm4 : magic.length = 4 := rfl
      have hnl : (magic ++ acc).length ≤ 1099511627776 := by rw [List.length_append]; omega
      obtain ⟨N, hN2⟩ : ∃ N, (magic ++ acc).length = N := ⟨_, rfl⟩
      rw [hN2] at hown hnl hLT ⊢
      replace hN2 := Lib.hid hN2
      replace hLT := Lib.hid hLT
      clear hlen
      by_cases h128 : 128 ≤ k
      · have hd1 : decide ((128 : Int) ≤ (k : Int)) = true := by simp; omega
        have hstep : leb k = (k % 128 + 128) :: leb (k / 128) := by rw [leb, if_neg (by omega)]
        replace hstep := Lib.hid hstep
        generalize hX : k % 128 + 128 = X at *
        have hXi : (k : Int) % 128 + 128 = (X : Int) := by omega
        have hXl : X < 256 := by omega
        have hown8 := hown.alloc (.cells #[byteV X] 5)
        have hnx := World.news_of_block (cs := #[byteV X]) (t := 5) (fr := (0, 0)) (heap_alloc_new wr (.cells #[byteV X] 5))
        unfold byteV at hown8 hnx
        go_wp2_with (at_builtin; go_loud (refine wpList_append_lies _ (by rfl) _ _ _ (by rfl) 0 5 i0 _ 1 1 Tryz.underlying27 hi0 hz0 hz1 hz2 rfl (by omega) (.slice p N c) N ((magic ++ acc).map byteV) (by rfl) hown8 ⟨wr.heap.size, 0, none⟩ 1 1 _ (by rfl) (by rfl) hnx (fun u hu => by simp at hu; subst hu; rfl) (by omega) (by unfold maxLen; omega) (by omega) (by omega) (wr.heap.size + 1) (by simp) ?_; intro gg cap w5 hown5 hg5 hat5 hlt5; have hfin := ls_app1 (v := .slice p N c) hN2.out hown5 hg5 hat5; replace hfin := Lib.hid hfin; clear hg5 hown5 hat5 hlt5 hown8 hnx))
        go_roundg (k / 128)
        case measure => omega
        case rel => exact ⟨k / 128, acc ++ [X], Nat.le_refl _, by omega, congrArg _ (by omega), by rw [hacc.out, hstep.out]; simp, .inr ⟨_, by rw [← List.append_assoc]; exact hfin.out.1, hLT.out.trans hfin.out.2⟩⟩
      · have hd1 : decide ((128 : Int) ≤ (k : Int)) = false := by simp; omega
        have hstep : leb k = [k] := by rw [leb, if_pos (by omega)]
        replace hstep := Lib.hid hstep
        have hmod : (k : Int) % 256 = (k : Int) := by omega
        have hown8 := hown.alloc (.cells #[byteV k] 5)
        have hnx := World.news_of_block (cs := #[byteV k]) (t := 5) (fr := (0, 0)) (heap_alloc_new wr (.cells #[byteV k] 5))
        unfold byteV at hown8 hnx
        go_wp2_with (at_builtin; go_loud (refine wpList_append_lies _ (by rfl) _ _ _ (by rfl) 0 5 i0 _ 1 1 Tryz.underlying27 hi0 hz0 hz1 hz2 rfl (by omega) (.slice p N c) N ((magic ++ acc).map byteV) (by rfl) hown8 ⟨wr.heap.size, 0, none⟩ 1 1 _ (by rfl) (by rfl) hnx (fun u hu => by simp at hu; subst hu; rfl) (by omega) (by unfold maxLen; omega) (by omega) (by omega) (wr.heap.size + 1) (by simp) ?_; intro gg cap w5 hown5 hg5 hat5 hlt5; have hfin := ls_app1 (v := .slice p N c) hN2.out hown5 hg5 hat5; replace hfin := Lib.hid hfin; clear hg5 hown5 hat5 hlt5 hown8 hnx))
        go_ret
        exact ⟨_, _, rfl, by rw [hacc.out, hstep.out, ← List.append_assoc]; exact hfin.out.1, hLT.out.trans hfin.out.2⟩
end
end Go.Proofs.YtjjogaenejdliaaGreatDoor
