/-
  Contracts: The contract of the reference's function (printed by gen_XQI.py).
-/
import Derived.Test.YtjjogaenejdliaaGreatDoorY5
import Derived.Deep.CutBlock
import Derived.Deep.CutRange
namespace Go.Proofs.YtjjogaenejdliaaGreatDoor
open Go.RowKit Go.Lib
set_option linter.unusedVariables false
set_option linter.unusedSimpArgs false
set_option maxHeartbeats 4000000
set_option maxRecDepth 100000

theorem row4 {y : World} {b : Nat} {v0 v1 v2 v3 : Value} {t : TypeId} (h : y.heap[b]? = some (.cells #[v0, v1, v2, v3] t (0, 0))) :
    (y.cell? ⟨b, 0, none⟩ = some v0 ∧ y.cell? ⟨b, 1, none⟩ = some v1 ∧ y.cell? ⟨b, 2, none⟩ = some v2 ∧ y.cell? ⟨b, 3, none⟩ = some v3) ∧ ∀ i, y.frozen? ⟨b, i, none⟩ = false :=
  ⟨⟨by rw [cell_of_row _ _ 0 _ _ _ h]; rfl, by rw [cell_of_row _ _ 1 _ _ _ h]; rfl, by rw [cell_of_row _ _ 2 _ _ _ h]; rfl, by rw [cell_of_row _ _ 3 _ _ _ h]; rfl⟩, fun i => by simp [World.frozen?, h]⟩
theorem row2 {y : World} {b : Nat} {v0 v1 : Value} {t : TypeId} (h : y.heap[b]? = some (.cells #[v0, v1] t (0, 0))) :
    (y.cell? ⟨b, 0, none⟩ = some v0 ∧ y.cell? ⟨b, 1, none⟩ = some v1) ∧ ∀ i, y.frozen? ⟨b, i, none⟩ = false :=
  ⟨⟨by rw [cell_of_row _ _ 0 _ _ _ h]; rfl, by rw [cell_of_row _ _ 1 _ _ _ h]; rfl⟩, fun i => by simp [World.frozen?, h]⟩
/-- what an append of one, and its store into the function's row, leaves -/
theorem q_app {α : Type} {enc : α → List Value} {acc : List α} {x : α} {rb bb fb B i size : Nat} {Y0 y8 w5 : World} {r2 : List Nat} {ok3 : Bool} {o : Obj} {row : Option Nat} {e t : TypeId} {u : Value} {cs cs' : Array Value}
    (hQ8 : QS rb bb y8 r2 ok3) (hX : KB (fun r => r = rb ∨ r = fb) Y0 y8) (hown5 : w5.ownsRow B e size u (acc.length + 1) (acc.flatMap enc ++ enc x)) (hg5 : (y8.alloc o).grownBy w5 row) (hrow : ∀ k, row = some k → B ≤ k)
    (hB : (rb < B ∧ bb < B) ∧ fb < B ∧ B ≤ Y0.heap.size ∧ fb ≠ rb) (hB0 : Y0.heap.size ≤ B) (d10 : w5.heap[fb]? = some (.cells cs t (0, 0))) (hn : ∀ v ∈ cs.toList, ∀ x, v ≠ .int .u8 x) (hs : cs.setIfInBounds i u = cs') :
    QS rb bb (w5.setCell ⟨fb, i, none⟩ u) r2 ok3 ∧ KB (fun r => r = rb ∨ r = fb) Y0 (w5.setCell ⟨fb, i, none⟩ u) ∧ (w5.setCell ⟨fb, i, none⟩ u).ownsRow B e size u (acc ++ [x]).length ((acc ++ [x]).flatMap enc) ∧ (w5.setCell ⟨fb, i, none⟩ u).heap[fb]? = some (.cells cs' t (0, 0)) := by
  obtain ⟨⟨h1, h2⟩, h3, h4, h5⟩ := hB
  have hsz := hX.size
  have hq9 := (hQ8.below ((Below.refl _ y8).alloc (Nat.le_refl _) o)).grown hg5 hrow h1 h2 (by simp; omega)
  obtain ⟨a1, a2⟩ := qs_put (i := i) (v := u) hq9 h5 d10 hn hs
  have hk9 : KB (fun r => r = rb ∨ r = fb) Y0 w5 := (hX.trans (KB.alloc o)).grown hg5 (fun k hk => Nat.le_trans hB0 (hrow k hk))
  refine ⟨a1, hk9.trans (KB.setCell (.inr rfl)), ?_, a2⟩
  have e1 : (acc ++ [x]).flatMap enc = acc.flatMap enc ++ enc x := by simp
  have e2 : (acc ++ [x]).length = acc.length + 1 := by simp
  rw [e1, e2]
  exact own_set hown5 h3 (fun r hr => Below.heap_setCell _ _ _ _ hr)
section
variable {rb bb : Nat} {w w' : World} {bs : List Nat} {ok : Bool}
theorem c_Qfn (h : QS rb bb w bs ok) (hrb : bb ≠ rb) (hbb : bb < w.heap.size) (hlen : bs.length ≤ 4194304) : Calls Tryz.prog 26 #[.pointer (some ⟨rb, 0, none⟩)] w fun e w' => KB (fun r => r = rb) w w' ∧ ∃ f r ok' cells, e = .returned (.agg cells.toArray) ∧ FnR (w.heap.size + 1) w' f cells ∧ QS rb bb w' r ok' ∧ QRes rdFn bs ok f r ok' := by
  obtain ⟨W1, hW1⟩ : ∃ W1, w.alloc (.cells zeroFn.toArray 47) = W1 := ⟨_, rfl⟩
  have hb1 : Below w.heap.size w W1 := by rw [← hW1]; exact (Below.refl _ w).alloc (Nat.le_refl _) _
  have d1 : W1.heap[w.heap.size]? = some (.cells zeroFn.toArray 47 (0, 0)) := by rw [← hW1]; exact heap_alloc_new w _
  have hR0 := h.below hb1
  have hkw : ∀ y, KB (fun r => r = rb) W1 y → KB (fun r => r = rb) w y := fun y hy => (KB.of_below hb1).trans hy
  have hord := Lib.hid (show ((rb < w.heap.size ∧ bb < w.heap.size) ∧ W1.heap.size = w.heap.size + 1) ∧ bs.length ≤ 4194304 from ⟨⟨⟨h.lt, hbb⟩, by rw [← hW1]; exact Array.size_push _⟩, hlen⟩)
  have hC1 := Lib.hid (m_Qtext hR0 hrb)
  have hT0 := Lib.hid hlen
  obtain ⟨iV, hiV, zV0, zV1, zV2⟩ := info_parts infoV
  obtain ⟨iI, hiI, zI0, zI1, zI2⟩ := info_parts infoI
  obtain ⟨iT, hiT, zT0, zT1, zT2⟩ := info_parts infoT
  obtain ⟨iK, hiK, zK0, zK1, zK2⟩ := info_parts infoC
  replace hkw := Lib.hid hkw
  replace d1 := Lib.hid d1
  unfold zeroFn at hW1
  clear h hR0 hb1 hbb hlen
  go_enter Tryz.func26, Tryz.ntmps26
  go_wp2_with fail
  refine hC1.out.mono ?_
  rintro e y1 ⟨hK1, s, r1, ok1, rfl, hQ1, q1⟩
  have hfb : w.heap.size < y1.heap.size := by have := hK1.size; have := hord.out; omega
  have hfr : y1.heap.size ≠ rb := by have := hord.out; omega
  have hfl : W1.heap.size ≤ y1.heap.size := hK1.size
  have hT1 := Lib.hid (show r1.length ≤ 4194304 by have h1 := QRes.len (fun b v r h => rdText_len h) q1; have h2 := hT0.out; omega)
  obtain ⟨W2, hW2⟩ : ∃ W2, y1.alloc (.cells #[.string s, .int .i64 0, .bool false, .bool false, .int .i64 0, .slice none 0 0, .slice none 0 0, .slice none 0 0, .slice none 0 0] 47) = W2 := ⟨_, rfl⟩
  have hb2 : Below y1.heap.size y1 W2 := by rw [← hW2]; exact (Below.refl _ y1).alloc (Nat.le_refl _) _
  have d2 : W2.heap[y1.heap.size]? = some (.cells #[.string s, .int .i64 0, .bool false, .bool false, .int .i64 0, .slice none 0 0, .slice none 0 0, .slice none 0 0, .slice none 0 0] 47 (0, 0)) := by rw [← hW2]; exact heap_alloc_new y1 _
  have hX1 := Lib.hid (hK1.trans (KB.of_below hb2))
  have hC2 := Lib.hid (m_Qnum (hQ1.below hb2) hrb)
  replace d2 := Lib.hid d2
  replace q1 := Lib.hid q1
  replace hfb := Lib.hid hfb
  replace hfr := Lib.hid hfr
  replace hfl := Lib.hid hfl
  clear hb2 hK1 hQ1 hC1 hW1 hT0
  subst hW2
  go_wp2_with fail
  refine hC2.out.mono ?_
  rintro e y2 ⟨hK2, p, r2, ok2, rfl, hQ2, q2⟩
  have e2 := (hK2.block _ (row_lt d2.out) hfr.out).trans d2.out
  have c2 := (row9 e2).1.2.1
  have f2 := (row9 e2).2 1
  have hT2 := Lib.hid (show r2.length ≤ 4194304 by have h1 := QRes.len (fun b v r h => rdNum_len h) q2; have h2 := hT1.out; omega)
  obtain ⟨hR2, d3⟩ := qs_put (i := 1) (v := .int .i64 (p : Int)) (cs' := #[.string s, .int .i64 (p : Int), .bool false, .bool false, .int .i64 0, .slice none 0 0, .slice none 0 0, .slice none 0 0, .slice none 0 0]) hQ2 hfr.out e2 (fun v hv x => by simp at hv; rcases hv with rfl | rfl | rfl | rfl | rfl | rfl | rfl | rfl | rfl <;> simp) rfl
  have hX2 := Lib.hid ((hX1.out.trans hK2).set (b := y1.heap.size) (i := 1) (v := .int .i64 (p : Int)) hfl.out)
  have hC3 := Lib.hid (m_Qflag hR2 hrb)
  replace d3 := Lib.hid d3
  replace q2 := Lib.hid q2
  clear hK2 hQ2 hR2 e2 hC2 d2 hX1 hT1
  go_wp2_with fail
  refine hC3.out.mono ?_
  rintro e y3 ⟨hK3, re, r3, ok3, rfl, hQ3, q3⟩
  have e3 := (hK3.block _ (row_lt d3.out) hfr.out).trans d3.out
  have c3 := (row9 e3).1.2.2.1
  have f3 := (row9 e3).2 2
  have hT3 := Lib.hid (show r3.length ≤ 4194304 by have h1 := QRes.len (fun b v r h => rdFlag_len h) q3; have h2 := hT2.out; omega)
  obtain ⟨hR3, d4⟩ := qs_put (i := 2) (v := .bool re) (cs' := #[.string s, .int .i64 (p : Int), .bool re, .bool false, .int .i64 0, .slice none 0 0, .slice none 0 0, .slice none 0 0, .slice none 0 0]) hQ3 hfr.out e3 (fun v hv x => by simp at hv; rcases hv with rfl | rfl | rfl | rfl | rfl | rfl | rfl | rfl | rfl <;> simp) rfl
  have hX3 := Lib.hid ((hX2.out.trans hK3).set (b := y1.heap.size) (i := 2) (v := .bool re) hfl.out)
  have hC4 := Lib.hid (m_Qflag hR3 hrb)
  replace d4 := Lib.hid d4
  replace q3 := Lib.hid q3
  clear hK3 hQ3 hR3 e3 hC3 d3 hX2 hT2
  go_wp2_with fail
  refine hC4.out.mono ?_
  rintro e y4 ⟨hK4, ar, r4, ok4, rfl, hQ4, q4⟩
  have e4 := (hK4.block _ (row_lt d4.out) hfr.out).trans d4.out
  have c4 := (row9 e4).1.2.2.2.1
  have f4 := (row9 e4).2 3
  have hT4 := Lib.hid (show r4.length ≤ 4194304 by have h1 := QRes.len (fun b v r h => rdFlag_len h) q4; have h2 := hT3.out; omega)
  obtain ⟨hR4, d5⟩ := qs_put (i := 3) (v := .bool ar) (cs' := #[.string s, .int .i64 (p : Int), .bool re, .bool ar, .int .i64 0, .slice none 0 0, .slice none 0 0, .slice none 0 0, .slice none 0 0]) hQ4 hfr.out e4 (fun v hv x => by simp at hv; rcases hv with rfl | rfl | rfl | rfl | rfl | rfl | rfl | rfl | rfl <;> simp) rfl
  have hX4 := Lib.hid ((hX3.out.trans hK4).set (b := y1.heap.size) (i := 3) (v := .bool ar) hfl.out)
  have hC5 := Lib.hid (m_Qnum hR4 hrb)
  replace d5 := Lib.hid d5
  replace q4 := Lib.hid q4
  clear hK4 hQ4 hR4 e4 hC4 d4 hX3 hT3
  go_wp2_with fail
  refine hC5.out.mono ?_
  rintro e y5 ⟨hK5, rg, r5, ok5, rfl, hQ5, q5⟩
  have e5 := (hK5.block _ (row_lt d5.out) hfr.out).trans d5.out
  have c5 := (row9 e5).1.2.2.2.2.1
  have f5 := (row9 e5).2 4
  have hT5 := Lib.hid (show r5.length ≤ 4194304 by have h1 := QRes.len (fun b v r h => rdNum_len h) q5; have h2 := hT4.out; omega)
  obtain ⟨hR5, d6⟩ := qs_put (i := 4) (v := .int .i64 (rg : Int)) (cs' := #[.string s, .int .i64 (p : Int), .bool re, .bool ar, .int .i64 (rg : Int), .slice none 0 0, .slice none 0 0, .slice none 0 0, .slice none 0 0]) hQ5 hfr.out e5 (fun v hv x => by simp at hv; rcases hv with rfl | rfl | rfl | rfl | rfl | rfl | rfl | rfl | rfl <;> simp) rfl
  have hX5 := Lib.hid ((hX4.out.trans hK5).set (b := y1.heap.size) (i := 4) (v := .int .i64 (rg : Int)) hfl.out)
  have hC6 := Lib.hid (m_Qnum hR5 hrb)
  replace d6 := Lib.hid d6
  replace q5 := Lib.hid q5
  clear hK5 hQ5 hR5 e5 hC5 d5 hX4 hT4
  go_wp2_with fail
  refine hC6.out.mono ?_
  rintro e y6 ⟨hK6, n6, r6, ok6, rfl, hQ6, q6⟩
  have e6 := (hK6.block _ (row_lt d6.out) hfr.out).trans d6.out
  have hX6 := Lib.hid (hX5.out.trans hK6)
  have hZ6 := Lib.hid (show y1.heap.size < y6.heap.size from row_lt e6)
  have hT6 := Lib.hid (show r6.length ≤ 4194304 by have h1 := QRes.len (fun b v r h => rdNum_len h) q6; have h2 := hT5.out; omega)
  replace e6 := Lib.hid e6
  replace q6 := Lib.hid q6
  replace hQ6 := Lib.hid hQ6
  clear hK6 hC6 d6 hX5
  go_upto_block 0 with fail
  go_cut [4] from 27 to 43 (fun sl4 wx => ∃ (acc : List VV) (r1 : List Nat) (ok2 : Bool) (v : Value), QS rb bb wx r1 ok2 ∧ KB (fun r => r = rb ∨ r = y1.heap.size) y6 wx ∧ wx.ownsRow y6.heap.size 51 4 v acc.length (acc.flatMap encVV) ∧ wx.heap[y1.heap.size]? = some (.cells #[.string s, .int .i64 (p : Int), .bool re, .bool ar, .int .i64 (rg : Int), v, .slice none 0 0, .slice none 0 0, .slice none 0 0] 47 (0, 0)) ∧ QRes (rdMany rdConst) r5 ok5 acc r1 ok2)
  case first =>
    go_wp2_with fail
    go_loopg [4] n6 (fun g sl4 wr => ∃ (acc : List VV) (r1 : List Nat) (ok2 : Bool) (v : Value), sl4 = .int .i64 (g : Int) ∧ QS rb bb wr r1 ok2 ∧ KB (fun r => r = rb ∨ r = y1.heap.size) y6 wr ∧ wr.ownsRow y6.heap.size 51 4 v acc.length (acc.flatMap encVV) ∧ wr.heap[y1.heap.size]? = some (.cells #[.string s, .int .i64 (p : Int), .bool re, .bool ar, .int .i64 (rg : Int), v, .slice none 0 0, .slice none 0 0, .slice none 0 0] 47 (0, 0)) ∧ LRes rdConst n6 r6 ok6 g acc r1 ok2)
    case atStart => exact ⟨[], r6, ok6, _, rfl, hQ6.out, KB.refl _ _, World.ownsRow_nil _ _ _ _, e6.out, lres_start (fun _ => trivial)⟩
    case round =>
      obtain ⟨acc, r1, ok2, v, rfl, hQr, hKr, hown, hrow, hL⟩ := hrel
      obtain ⟨ka, kb⟩ := hQr.facts
      cases ok2 with
      | false =>
        have hex := Lib.hid (hL.exit (.inl rfl) q6.out)
        replace hown := Lib.hid hown
        replace hrow := Lib.hid hrow
        replace hL := Lib.hid hL
        go_wp2_with fail
        go_meet
        case rel => exact ⟨acc, r1, false, v, hQr, hKr, hown.out, hrow.out, hex.out⟩
      | true =>
        cases gk with
        | zero =>
          have hex := Lib.hid (hL.exit (.inr rfl) q6.out)
          replace hown := Lib.hid hown
          replace hrow := Lib.hid hrow
          replace hL := Lib.hid hL
          go_wp2_with fail
          go_meet
          case rel => exact ⟨acc, r1, true, v, hQr, hKr, hown.out, hrow.out, hex.out⟩
        | succ g =>
          have hg63 := hL.lt q6.out
          have p0 : (0 : Int) < ((g + 1 : Nat) : Int) := by omega
          have hw1 : IntKind.i64.wrap (((g + 1 : Nat) : Int) - 1) = (g : Int) := by rw [IntKind.wrap_i64]; omega
          obtain ⟨pv, cv, rfl⟩ := own_form2 hown
          obtain ⟨hla1, hla2⟩ := hL.len
          have hle9 := Lib.hid (show acc.length ≤ 4194305 by have := hT6.out; omega)
          have hob : ∀ j, (Value.slice pv acc.length cv).ownBlock = some j → y6.heap.size ≤ j := own_blk hown
          have hls := hKr.size
          have hord1 := Lib.hid (show y6.heap.size ≤ wr.heap.size from hls)
          replace hown := Lib.hid hown
          replace hrow := Lib.hid hrow
          replace hL := Lib.hid hL
          replace hKr := Lib.hid hKr
          replace hob := Lib.hid hob
          have hnw : ∀ (y : World) (cs : Array Value), _ := fun y cs => World.news_of_block (cs := cs) (t := 51) (fr := (0, 0)) (heap_alloc_new y _)
          replace hnw := Lib.hid hnw
          have hB := Lib.hid (show (rb < y6.heap.size ∧ bb < y6.heap.size) ∧ y1.heap.size < y6.heap.size ∧ y6.heap.size ≤ y6.heap.size ∧ y1.heap.size ≠ rb from ⟨⟨by have := hZ6.out; have := hord.out; have := hfb.out; omega, by have := hZ6.out; have := hord.out; have := hfb.out; omega⟩, hZ6.out, Nat.le_refl _, hfr.out⟩)
          clear hla1 hla2 hls
          have hQd : QS rb bb wr.drew r1 true := hQr
          have hOne := Lib.hid (m_Qconst hQd hrb)
          have hst : wr.drew.cell? ⟨y1.heap.size, 5, none⟩ = some (.slice pv acc.length cv) := (row9 hrow.out).1.2.2.2.2.2.1
          clear hQr hQd
          go_wp2_with fail
          refine regionK 7 (fun y => y.cell? ⟨y1.heap.size, 5, none⟩ = some (.slice pv acc.length cv)) (by kernel_rfl) hst (fun hHeld => ?_)
          simp only [List.size_toArray, List.length_cons, List.length_nil, Nat.reduceAdd, Array.replicate_succ]
          refine AnyK.take 0 (v := ?_) rfl (by kernel_rfl) (by kernel_rfl) (by kernel_rfl) (by kernel_rfl) (fun _ _ _ h => h) (by rfl) ?_ (by assumption) ?_
          rotate_left
          · intro y hSy; (try dsimp only at hSy); go_simp; (try with_reducible rfl)
          try simp only [Act.put, List.setIfInBounds_toArray, List.set_cons_zero, List.set_cons_succ]
          refine AnyK.take 1 (v := ?_) rfl (by kernel_rfl) (by kernel_rfl) (by kernel_rfl) (by kernel_rfl) (fun _ _ _ h => h) (by rfl) ?_ (by assumption) ?_
          rotate_left
          · intro y hSy; (try dsimp only at hSy); go_simp; (try with_reducible rfl)
          try simp only [Act.put, List.setIfInBounds_toArray, List.set_cons_zero, List.set_cons_succ]
          refine AnyK.take 2 (v := ?_) rfl (by kernel_rfl) (by kernel_rfl) (by kernel_rfl) (by kernel_rfl) (fun _ _ _ h => h) (by rfl) ?_ (by assumption) ?_
          rotate_left
          · intro y hSy; (try dsimp only at hSy); go_simp; (try with_reducible rfl)
          try simp only [Act.put, List.setIfInBounds_toArray, List.set_cons_zero, List.set_cons_succ]
          refine AnyK.one 3 rfl (by kernel_rfl) (fun K' hK => ?_)
          go_simp
          refine hOne.out.mono ?_
          rintro e y8 ⟨hK8, x, r2, ok3, rfl, hQ8, hq8⟩
          have hk8 := hK8.cell (p := ⟨y1.heap.size, 5, none⟩) hfr.out hHeld
          have d8 := (hK8.block y1.heap.size (row_lt (show wr.drew.heap[y1.heap.size]? = _ from hrow.out)) hfr.out).trans hrow.out
          replace d8 := Lib.hid d8
          unfold encVV
          go_simp
          refine hK.out _ _ hk8 (fun hHeld8 => ?_)
          clear hK K'
          try simp only [Act.put, List.setIfInBounds_toArray, List.set_cons_zero, List.set_cons_succ]
          clear hHeld hst
          have d9 := Lib.hid ((Below.heap_alloc y8 (.cells (encVV x).toArray 51) _ (row_lt d8.out)).trans d8.out)
          unfold encVV at d9
          refine AnyK.one 4 rfl (by kernel_rfl) (fun K' hK => ?_)
          go_simp
          refine hK.out _ _ ((row9 d9.out).1.2.2.2.2.2.1) (fun hHeld9 => ?_)
          clear hK K'
          try simp only [Act.put, List.setIfInBounds_toArray, List.set_cons_zero, List.set_cons_succ]
          refine AnyK.one 5 rfl (by kernel_rfl) (fun K' hK => ?_)
          have hown8 := Lib.hid ((own_kb (show wr.drew.ownsRow y6.heap.size 51 4 _ acc.length _ from hown.out) hK8 (fun r hr => by have := hord.out; have := hZ6.out; have := hfb.out; omega)).alloc (.cells (encVV x).toArray 51))
          refine step_append_lies _ rfl _ _ _ rfl y6.heap.size 51 iV _ 4 40 Tryz.underlying43 hiV zV0 zV1 zV2 rfl (by omega) (.slice pv acc.length cv) acc.length (acc.flatMap encVV) rfl hown8.out ⟨y8.heap.size, 0, none⟩ 1 1 (encVV x) rfl rfl (hnw.out y8 _) (oneV x) (by omega) (by have := hle9.out; unfold maxLen; omega) (by have := hle9.out; omega) (by have := hK8.size; have := hord1.out; simp at *; omega) (y8.heap.size + 1) (by simp) ?_
          intro gg cap w5 hown5 hg5 hat5 hlt5
          have d10 := (hg5.block y1.heap.size (row_lt d9.out) (fun e => by have := hob.out _ e.symm; have := hZ6.out; omega)).trans d9.out
          refine hK.out _ _ ((row9 d10).1.2.2.2.2.2.1) (fun hHeld10 => ?_)
          clear hK K'
          try simp only [Act.put, List.setIfInBounds_toArray, List.set_cons_zero, List.set_cons_succ]
          clear hHeld8 hHeld9
          refine AnyK.one 6 rfl (by kernel_rfl) (fun K' hK => ?_)
          go_simp
          refine hK.out _ _ hHeld10 (fun hHeld11 => ?_)
          clear hK K'
          try simp only [Act.put, List.setIfInBounds_toArray, List.set_cons_zero, List.set_cons_succ]
          have f10 := (row9 d10).2 5
          have hfin := Lib.hid (q_app (enc := encVV) (acc := acc) (x := x) (i := 5) (cs' := #[.string s, .int .i64 (p : Int), .bool re, .bool ar, .int .i64 (rg : Int), .slice (some ⟨gg, 0, none⟩) (acc.length + 1) cap, .slice none 0 0, .slice none 0 0, .slice none 0 0]) hQ8 (show KB (fun r => r = rb ∨ r = y1.heap.size) y6 y8 from KB.trans (show KB _ y6 wr.drew from ⟨hKr.out.os, hKr.out.tape, hKr.out.output, hKr.out.size, hKr.out.block⟩) hK8.wide2) hown5 hg5 hob.out hB.out (Nat.le_refl _) d10 (fun v hv x => by simp at hv; rcases hv with rfl | rfl | rfl | rfl | rfl | rfl | rfl | rfl | rfl <;> simp) rfl)
          have hLn := Lib.hid (hL.out.next (fun b v r h => rdConst_len h) hq8)
          refine AnyK.last rfl (by kernel_rfl) (fun K' hK => ?_)
          go_simp
          refine hK.out _ _ ?_
          clear hK K'
          try simp only [Act.put, List.setIfInBounds_toArray, List.set_cons_zero, List.set_cons_succ]
          refine AnyK.done (by kernel_rfl) ?_ _
          clear d10 hg5 hown5 hK8 hQ8 hq8
          go_wp2_with fail
          go_roundg g
          case measure => exact Nat.lt_succ_self _
          case rel => exact ⟨acc ++ [x], r2, ok3, _, rfl, hfin.out.1, hfin.out.2.1, hfin.out.2.2.1, hfin.out.2.2.2, hLn.out⟩
  obtain ⟨acc6, s6, o6, v6, hQR, hKR, ho6, eR, qR6⟩ := hcut
  obtain ⟨x6, rfl⟩ : ∃ x : World, x = wc := ⟨_, rfl⟩
  obtain ⟨pv6, cv6, rfl⟩ := own_form2 ho6
  have hT6' := Lib.hid (show s6.length ≤ 4194304 by
    have h2 := hT6.out
    have h3 := QRes.len (fun b v r h => rdNum_len h) q6.out
    rcases qR6 with ⟨_, _, h⟩ | ⟨_, _, h⟩
    · have h4 := rdConst_many h
      have h5 := hT5.out
      omega
    · have h5 := hT5.out
      omega)
  have hX6' := Lib.hid (kb_mix hX6.out hKR hfl.out)
  have hm6 := Lib.hid (show y6.heap.size ≤ x6.heap.size from hKR.size)
  replace ho6 := Lib.hid ho6
  have d7 := Lib.hid eR
  replace qR6 := Lib.hid qR6
  have hC7 := Lib.hid (m_Qnum hQR hrb)
  clear hKR eR hQR hX6 e6 hQ6 hT5 hT6
  go_wp2_with fail
  refine hC7.out.mono ?_
  rintro e y7 ⟨hK7, n7, r7, ok7, rfl, hQ7, q7⟩
  have e7 := (hK7.block _ (row_lt d7.out) hfr.out).trans d7.out
  have hX7 := Lib.hid (hX6'.out.trans hK7)
  have hZ7 := Lib.hid (show y1.heap.size < y7.heap.size from row_lt e7)
  have hT7 := Lib.hid (show r7.length ≤ 4194304 by have h1 := QRes.len (fun b v r h => rdNum_len h) q7; have h2 := hT6'.out; omega)
  replace ho6 := Lib.hid (own_kb ho6.out hK7 (fun r hr => by have := hZ6.out; have := hord.out; have := hfb.out; omega))
  replace e7 := Lib.hid e7
  replace q7 := Lib.hid q7
  replace hQ7 := Lib.hid hQ7
  clear hK7 hC7 d7 hX6'
  go_upto_block 2 with fail
  go_cut [5] from 46 to 62 (fun sl5 wx => ∃ (acc : List IV) (r1 : List Nat) (ok2 : Bool) (v : Value), QS rb bb wx r1 ok2 ∧ KB (fun r => r = rb ∨ r = y1.heap.size) y7 wx ∧ wx.ownsRow y7.heap.size 40 5 v acc.length (acc.flatMap encI) ∧ wx.heap[y1.heap.size]? = some (.cells #[.string s, .int .i64 (p : Int), .bool re, .bool ar, .int .i64 (rg : Int), .slice pv6 acc6.length cv6, v, .slice none 0 0, .slice none 0 0] 47 (0, 0)) ∧ QRes (rdMany rdIns) s6 o6 acc r1 ok2)
  case first =>
    go_wp2_with fail
    go_loopg [5] n7 (fun g sl5 wr => ∃ (acc : List IV) (r1 : List Nat) (ok2 : Bool) (v : Value), sl5 = .int .i64 (g : Int) ∧ QS rb bb wr r1 ok2 ∧ KB (fun r => r = rb ∨ r = y1.heap.size) y7 wr ∧ wr.ownsRow y7.heap.size 40 5 v acc.length (acc.flatMap encI) ∧ wr.heap[y1.heap.size]? = some (.cells #[.string s, .int .i64 (p : Int), .bool re, .bool ar, .int .i64 (rg : Int), .slice pv6 acc6.length cv6, v, .slice none 0 0, .slice none 0 0] 47 (0, 0)) ∧ LRes rdIns n7 r7 ok7 g acc r1 ok2)
    case atStart => exact ⟨[], r7, ok7, _, rfl, hQ7.out, KB.refl _ _, World.ownsRow_nil _ _ _ _, e7.out, lres_start (fun _ => trivial)⟩
    case round =>
      obtain ⟨acc, r1, ok2, v, rfl, hQr, hKr, hown, hrow, hL⟩ := hrel
      obtain ⟨ka, kb⟩ := hQr.facts
      cases ok2 with
      | false =>
        have hex := Lib.hid (hL.exit (.inl rfl) q7.out)
        replace hown := Lib.hid hown
        replace hrow := Lib.hid hrow
        replace hL := Lib.hid hL
        go_wp2_with fail
        go_meet
        case rel => exact ⟨acc, r1, false, v, hQr, hKr, hown.out, hrow.out, hex.out⟩
      | true =>
        cases gk with
        | zero =>
          have hex := Lib.hid (hL.exit (.inr rfl) q7.out)
          replace hown := Lib.hid hown
          replace hrow := Lib.hid hrow
          replace hL := Lib.hid hL
          go_wp2_with fail
          go_meet
          case rel => exact ⟨acc, r1, true, v, hQr, hKr, hown.out, hrow.out, hex.out⟩
        | succ g =>
          have hg63 := hL.lt q7.out
          have p0 : (0 : Int) < ((g + 1 : Nat) : Int) := by omega
          have hw1 : IntKind.i64.wrap (((g + 1 : Nat) : Int) - 1) = (g : Int) := by rw [IntKind.wrap_i64]; omega
          obtain ⟨pv, cv, rfl⟩ := own_form2 hown
          obtain ⟨hla1, hla2⟩ := hL.len
          have hle9 := Lib.hid (show acc.length ≤ 4194305 by have := hT7.out; omega)
          have hob : ∀ j, (Value.slice pv acc.length cv).ownBlock = some j → y7.heap.size ≤ j := own_blk hown
          have hls := hKr.size
          have hord1 := Lib.hid (show y7.heap.size ≤ wr.heap.size from hls)
          replace hown := Lib.hid hown
          replace hrow := Lib.hid hrow
          replace hL := Lib.hid hL
          replace hKr := Lib.hid hKr
          replace hob := Lib.hid hob
          have hnw : ∀ (y : World) (cs : Array Value), _ := fun y cs => World.news_of_block (cs := cs) (t := 40) (fr := (0, 0)) (heap_alloc_new y _)
          replace hnw := Lib.hid hnw
          have hB := Lib.hid (show (rb < y7.heap.size ∧ bb < y7.heap.size) ∧ y1.heap.size < y7.heap.size ∧ y7.heap.size ≤ y7.heap.size ∧ y1.heap.size ≠ rb from ⟨⟨by have := hZ7.out; have := hord.out; have := hfb.out; omega, by have := hZ7.out; have := hord.out; have := hfb.out; omega⟩, hZ7.out, Nat.le_refl _, hfr.out⟩)
          clear hla1 hla2 hls
          have hQd : QS rb bb wr.drew r1 true := hQr
          have hOne := Lib.hid (c_Qins hQd hrb)
          have hst : wr.drew.cell? ⟨y1.heap.size, 6, none⟩ = some (.slice pv acc.length cv) := (row9 hrow.out).1.2.2.2.2.2.2.1
          clear hQr hQd
          go_wp2_with fail
          refine regionK 7 (fun y => y.cell? ⟨y1.heap.size, 6, none⟩ = some (.slice pv acc.length cv)) (by kernel_rfl) hst (fun hHeld => ?_)
          simp only [List.size_toArray, List.length_cons, List.length_nil, Nat.reduceAdd, Array.replicate_succ]
          refine AnyK.take 0 (v := ?_) rfl (by kernel_rfl) (by kernel_rfl) (by kernel_rfl) (by kernel_rfl) (fun _ _ _ h => h) (by rfl) ?_ (by assumption) ?_
          rotate_left
          · intro y hSy; (try dsimp only at hSy); go_simp; (try with_reducible rfl)
          try simp only [Act.put, List.setIfInBounds_toArray, List.set_cons_zero, List.set_cons_succ]
          refine AnyK.take 1 (v := ?_) rfl (by kernel_rfl) (by kernel_rfl) (by kernel_rfl) (by kernel_rfl) (fun _ _ _ h => h) (by rfl) ?_ (by assumption) ?_
          rotate_left
          · intro y hSy; (try dsimp only at hSy); go_simp; (try with_reducible rfl)
          try simp only [Act.put, List.setIfInBounds_toArray, List.set_cons_zero, List.set_cons_succ]
          refine AnyK.take 2 (v := ?_) rfl (by kernel_rfl) (by kernel_rfl) (by kernel_rfl) (by kernel_rfl) (fun _ _ _ h => h) (by rfl) ?_ (by assumption) ?_
          rotate_left
          · intro y hSy; (try dsimp only at hSy); go_simp; (try with_reducible rfl)
          try simp only [Act.put, List.setIfInBounds_toArray, List.set_cons_zero, List.set_cons_succ]
          refine AnyK.one 3 rfl (by kernel_rfl) (fun K' hK => ?_)
          go_simp
          refine hOne.out.mono ?_
          rintro e y8 ⟨hK8, x, r2, ok3, rfl, hQ8, hq8⟩
          have hk8 := hK8.cell (p := ⟨y1.heap.size, 6, none⟩) hfr.out hHeld
          have d8 := (hK8.block y1.heap.size (row_lt (show wr.drew.heap[y1.heap.size]? = _ from hrow.out)) hfr.out).trans hrow.out
          replace d8 := Lib.hid d8
          unfold encI
          go_simp
          refine hK.out _ _ hk8 (fun hHeld8 => ?_)
          clear hK K'
          try simp only [Act.put, List.setIfInBounds_toArray, List.set_cons_zero, List.set_cons_succ]
          clear hHeld hst
          have d9 := Lib.hid ((Below.heap_alloc y8 (.cells (encI x).toArray 40) _ (row_lt d8.out)).trans d8.out)
          unfold encI at d9
          refine AnyK.one 4 rfl (by kernel_rfl) (fun K' hK => ?_)
          go_simp
          refine hK.out _ _ ((row9 d9.out).1.2.2.2.2.2.2.1) (fun hHeld9 => ?_)
          clear hK K'
          try simp only [Act.put, List.setIfInBounds_toArray, List.set_cons_zero, List.set_cons_succ]
          refine AnyK.one 5 rfl (by kernel_rfl) (fun K' hK => ?_)
          have hown8 := Lib.hid ((own_kb (show wr.drew.ownsRow y7.heap.size 40 5 _ acc.length _ from hown.out) hK8 (fun r hr => by have := hord.out; have := hZ7.out; have := hfb.out; omega)).alloc (.cells (encI x).toArray 40))
          refine step_append_lies _ rfl _ _ _ rfl y7.heap.size 40 iI _ 5 40 Tryz.underlying41 hiI zI0 zI1 zI2 rfl (by omega) (.slice pv acc.length cv) acc.length (acc.flatMap encI) rfl hown8.out ⟨y8.heap.size, 0, none⟩ 1 1 (encI x) rfl rfl (hnw.out y8 _) (oneI x) (by omega) (by have := hle9.out; unfold maxLen; omega) (by have := hle9.out; omega) (by have := hK8.size; have := hord1.out; simp at *; omega) (y8.heap.size + 1) (by simp) ?_
          intro gg cap w5 hown5 hg5 hat5 hlt5
          have d10 := (hg5.block y1.heap.size (row_lt d9.out) (fun e => by have := hob.out _ e.symm; have := hZ7.out; omega)).trans d9.out
          refine hK.out _ _ ((row9 d10).1.2.2.2.2.2.2.1) (fun hHeld10 => ?_)
          clear hK K'
          try simp only [Act.put, List.setIfInBounds_toArray, List.set_cons_zero, List.set_cons_succ]
          clear hHeld8 hHeld9
          refine AnyK.one 6 rfl (by kernel_rfl) (fun K' hK => ?_)
          go_simp
          refine hK.out _ _ hHeld10 (fun hHeld11 => ?_)
          clear hK K'
          try simp only [Act.put, List.setIfInBounds_toArray, List.set_cons_zero, List.set_cons_succ]
          have f10 := (row9 d10).2 6
          have hfin := Lib.hid (q_app (enc := encI) (acc := acc) (x := x) (i := 6) (cs' := #[.string s, .int .i64 (p : Int), .bool re, .bool ar, .int .i64 (rg : Int), .slice pv6 acc6.length cv6, .slice (some ⟨gg, 0, none⟩) (acc.length + 1) cap, .slice none 0 0, .slice none 0 0]) hQ8 (show KB (fun r => r = rb ∨ r = y1.heap.size) y7 y8 from KB.trans (show KB _ y7 wr.drew from ⟨hKr.out.os, hKr.out.tape, hKr.out.output, hKr.out.size, hKr.out.block⟩) hK8.wide2) hown5 hg5 hob.out hB.out (Nat.le_refl _) d10 (fun v hv x => by simp at hv; rcases hv with rfl | rfl | rfl | rfl | rfl | rfl | rfl | rfl | rfl <;> simp) rfl)
          have hLn := Lib.hid (hL.out.next (fun b v r h => rdIns_len h) hq8)
          refine AnyK.last rfl (by kernel_rfl) (fun K' hK => ?_)
          go_simp
          refine hK.out _ _ ?_
          clear hK K'
          try simp only [Act.put, List.setIfInBounds_toArray, List.set_cons_zero, List.set_cons_succ]
          refine AnyK.done (by kernel_rfl) ?_ _
          clear d10 hg5 hown5 hK8 hQ8 hq8
          go_wp2_with fail
          go_roundg g
          case measure => exact Nat.lt_succ_self _
          case rel => exact ⟨acc ++ [x], r2, ok3, _, rfl, hfin.out.1, hfin.out.2.1, hfin.out.2.2.1, hfin.out.2.2.2, hLn.out⟩
  obtain ⟨acc7, s7, o7, v7, hQR, hKR, ho7, eR, qR7⟩ := hcut
  obtain ⟨x7, rfl⟩ : ∃ x : World, x = wc := ⟨_, rfl⟩
  obtain ⟨pv7, cv7, rfl⟩ := own_form2 ho7
  have hT7' := Lib.hid (show s7.length ≤ 4194304 by
    have h2 := hT7.out
    have h3 := QRes.len (fun b v r h => rdNum_len h) q7.out
    rcases qR7 with ⟨_, _, h⟩ | ⟨_, _, h⟩
    · have h4 := rdIns_many h
      have h5 := hT6'.out
      omega
    · have h5 := hT6'.out
      omega)
  have hX7' := Lib.hid (kb_mix hX7.out hKR hfl.out)
  have hm7 := Lib.hid (show y7.heap.size ≤ x7.heap.size from hKR.size)
  replace ho6 := Lib.hid (own_kb ho6.out hKR (fun r hr => by have := hZ6.out; have := hord.out; have := hfb.out; omega))
  replace ho7 := Lib.hid ho7
  have d8 := Lib.hid eR
  replace qR7 := Lib.hid qR7
  have hC8 := Lib.hid (m_Qnum hQR hrb)
  clear hKR eR hQR hX7 e7 hQ7 hT6' hT7
  go_wp2_with fail
  refine hC8.out.mono ?_
  rintro e y8 ⟨hK8, n8, r8, ok8, rfl, hQ8, q8⟩
  have e8 := (hK8.block _ (row_lt d8.out) hfr.out).trans d8.out
  have hX8 := Lib.hid (hX7'.out.trans hK8)
  have hZ8 := Lib.hid (show y1.heap.size < y8.heap.size from row_lt e8)
  have hT8 := Lib.hid (show r8.length ≤ 4194304 by have h1 := QRes.len (fun b v r h => rdNum_len h) q8; have h2 := hT7'.out; omega)
  replace ho6 := Lib.hid (own_kb ho6.out hK8 (fun r hr => by have := hZ6.out; have := hord.out; have := hfb.out; omega))
  replace ho7 := Lib.hid (own_kb ho7.out hK8 (fun r hr => by have := hZ7.out; have := hord.out; have := hfb.out; omega))
  replace e8 := Lib.hid e8
  replace q8 := Lib.hid q8
  replace hQ8 := Lib.hid hQ8
  clear hK8 hC8 d8 hX7'
  go_upto_block 4 with fail
  go_cut [6] from 65 to 92 (fun sl6 wx => ∃ (acc : List TV4) (r1 : List Nat) (ok2 : Bool) (v : Value), QS rb bb wx r1 ok2 ∧ KB (fun r => r = rb ∨ r = y1.heap.size) y8 wx ∧ wx.ownsRow y8.heap.size 96 4 v acc.length (acc.flatMap encT) ∧ wx.heap[y1.heap.size]? = some (.cells #[.string s, .int .i64 (p : Int), .bool re, .bool ar, .int .i64 (rg : Int), .slice pv6 acc6.length cv6, .slice pv7 acc7.length cv7, v, .slice none 0 0] 47 (0, 0)) ∧ QRes (rdMany rdTry) s7 o7 acc r1 ok2)
  case first =>
    go_wp2_with fail
    go_loopg [6] n8 (fun g sl6 wr => ∃ (acc : List TV4) (r1 : List Nat) (ok2 : Bool) (v : Value), sl6 = .int .i64 (g : Int) ∧ QS rb bb wr r1 ok2 ∧ KB (fun r => r = rb ∨ r = y1.heap.size) y8 wr ∧ wr.ownsRow y8.heap.size 96 4 v acc.length (acc.flatMap encT) ∧ wr.heap[y1.heap.size]? = some (.cells #[.string s, .int .i64 (p : Int), .bool re, .bool ar, .int .i64 (rg : Int), .slice pv6 acc6.length cv6, .slice pv7 acc7.length cv7, v, .slice none 0 0] 47 (0, 0)) ∧ LRes rdTry n8 r8 ok8 g acc r1 ok2)
    case atStart => exact ⟨[], r8, ok8, _, rfl, hQ8.out, KB.refl _ _, World.ownsRow_nil _ _ _ _, e8.out, lres_start (fun _ => trivial)⟩
    case round =>
      obtain ⟨acc, r1, ok2, v, rfl, hQr, hKr, hown, hrow, hL⟩ := hrel
      obtain ⟨ka, kb⟩ := hQr.facts
      cases ok2 with
      | false =>
        have hex := Lib.hid (hL.exit (.inl rfl) q8.out)
        replace hown := Lib.hid hown
        replace hrow := Lib.hid hrow
        replace hL := Lib.hid hL
        go_wp2_with fail
        go_meet
        case rel => exact ⟨acc, r1, false, v, hQr, hKr, hown.out, hrow.out, hex.out⟩
      | true =>
        cases gk with
        | zero =>
          have hex := Lib.hid (hL.exit (.inr rfl) q8.out)
          replace hown := Lib.hid hown
          replace hrow := Lib.hid hrow
          replace hL := Lib.hid hL
          go_wp2_with fail
          go_meet
          case rel => exact ⟨acc, r1, true, v, hQr, hKr, hown.out, hrow.out, hex.out⟩
        | succ g =>
          have hg63 := hL.lt q8.out
          have p0 : (0 : Int) < ((g + 1 : Nat) : Int) := by omega
          have hw1 : IntKind.i64.wrap (((g + 1 : Nat) : Int) - 1) = (g : Int) := by rw [IntKind.wrap_i64]; omega
          obtain ⟨pv, cv, rfl⟩ := own_form2 hown
          obtain ⟨hla1, hla2⟩ := hL.len
          have hle9 := Lib.hid (show acc.length ≤ 4194305 by have := hT8.out; omega)
          have hob : ∀ j, (Value.slice pv acc.length cv).ownBlock = some j → y8.heap.size ≤ j := own_blk hown
          have hls := hKr.size
          have hord1 := Lib.hid (show y8.heap.size ≤ wr.heap.size from hls)
          replace hown := Lib.hid hown
          replace hrow := Lib.hid hrow
          replace hL := Lib.hid hL
          replace hKr := Lib.hid hKr
          replace hob := Lib.hid hob
          have hnw : ∀ (y : World) (cs : Array Value), _ := fun y cs => World.news_of_block (cs := cs) (t := 96) (fr := (0, 0)) (heap_alloc_new y _)
          replace hnw := Lib.hid hnw
          have hB := Lib.hid (show (rb < y8.heap.size ∧ bb < y8.heap.size) ∧ y1.heap.size < y8.heap.size ∧ y8.heap.size ≤ y8.heap.size ∧ y1.heap.size ≠ rb from ⟨⟨by have := hZ8.out; have := hord.out; have := hfb.out; omega, by have := hZ8.out; have := hord.out; have := hfb.out; omega⟩, hZ8.out, Nat.le_refl _, hfr.out⟩)
          clear hla1 hla2 hls
          have hD1 := Lib.hid (m_Qnum hQr hrb)
          clear hQr
          go_wp2_with fail
          refine hD1.out.mono ?_
          rintro e z1 ⟨hk1, a1, p1, k1, rfl, hq1, qq1⟩
          obtain ⟨Z1, hZ1⟩ : ∃ W, z1.alloc (.cells #[.int .i64 (a1 : Int), .int .i64 0, .int .i64 0, .int .i64 0] 96) = W := ⟨_, rfl⟩
          have hbz : Below z1.heap.size z1 Z1 := by rw [← hZ1]; exact (Below.refl _ z1).alloc (Nat.le_refl _) _
          have g1 : Z1.heap[z1.heap.size]? = some (.cells #[.int .i64 (a1 : Int), .int .i64 0, .int .i64 0, .int .i64 0] 96 (0, 0)) := by rw [← hZ1]; exact heap_alloc_new z1 _
          have hlz := Lib.hid (show y8.heap.size ≤ z1.heap.size by have := hKr.out.size; have := hk1.size; omega)
          have hzb : z1.heap.size ≠ rb := by have := hlz.out; have := hZ8.out; have := hfb.out; have := hord.out; omega
          have hzf : z1.heap.size ≠ y1.heap.size := by have := hlz.out; have := hZ8.out; omega
          have hx1 := Lib.hid ((hKr.out.trans hk1.wide2).trans (KB.of_below hbz))
          have dr1 := Lib.hid ((hbz.block _ (row_lt ((hk1.block _ (row_lt hrow.out) hfr.out).trans hrow.out))).trans ((hk1.block _ (row_lt hrow.out) hfr.out).trans hrow.out))
          have hw1' := Lib.hid (own_kb (own_kb hown.out hk1 (fun r hr => by have := hZ8.out; have := hfb.out; have := hord.out; omega)) (KB.of_below (ex := fun r => r = rb) hbz) (fun r hr => by have := hZ8.out; have := hfb.out; have := hord.out; omega))
          have hwz := Lib.hid (fun (k : Nat) (hk : (Value.slice pv acc.length cv).ownBlock = some k) => show k ≠ z1.heap.size by have := own_lt hown.out k hk; have := hk1.size; omega)
          have hD2 := Lib.hid (m_Qnum (hq1.below hbz) hrb)
          replace g1 := Lib.hid g1
          replace qq1 := Lib.hid qq1
          replace hzb := Lib.hid hzb
          replace hzf := Lib.hid hzf
          clear hbz hk1 hq1 hD1 hKr hown hrow
          subst hZ1
          go_wp2_with fail
          refine hD2.out.mono ?_
          rintro e z2 ⟨hk2, a2, p2, k2, rfl, hq2, qq2⟩
          have u2 := (hk2.block _ (row_lt g1.out) hzb.out).trans g1.out
          have c2 := (row4 u2).1.2.1
          have f2 := (row4 u2).2 1
          obtain ⟨hR2, g2⟩ := qs_put (i := 1) (v := .int .i64 (a2 : Int)) (cs' := #[.int .i64 (a1 : Int), .int .i64 (a2 : Int), .int .i64 0, .int .i64 0]) hq2 hzb.out u2 (fun v hv x => by simp at hv; rcases hv with rfl | rfl | rfl | rfl <;> simp) rfl
          have hne2 : ∀ r, r ≠ z1.heap.size → (z2.setCell ⟨z1.heap.size, 1, none⟩ (.int .i64 (a2 : Int))).heap[r]? = z2.heap[r]? := fun r hr => Below.heap_setCell _ _ _ _ hr
          have hx2 := Lib.hid ((hx1.out.trans hk2.wide2).set (b := z1.heap.size) (i := 1) (v := .int .i64 (a2 : Int)) hlz.out)
          have dr2 := Lib.hid ((hne2 _ (fun e => hzf.out e.symm)).trans ((hk2.block _ (row_lt dr1.out) hfr.out).trans dr1.out))
          have hw2' := Lib.hid (own_turn (own_kb hw1'.out hk2 (fun r hr => by have := hZ8.out; have := hfb.out; have := hord.out; omega)) (fun k _ he _ => hne2 k (hwz.out k he)))
          have hD3 := Lib.hid (m_Qnum hR2 hrb)
          replace g2 := Lib.hid g2
          replace qq2 := Lib.hid qq2
          clear u2 hne2 hk2 hq2 hD2 hR2 g1 hx1 dr1 hw1'
          go_wp2_with fail
          refine hD3.out.mono ?_
          rintro e z3 ⟨hk3, a3, p3, k3, rfl, hq3, qq3⟩
          have u3 := (hk3.block _ (row_lt g2.out) hzb.out).trans g2.out
          have c3 := (row4 u3).1.2.2.1
          have f3 := (row4 u3).2 2
          obtain ⟨hR3, g3⟩ := qs_put (i := 2) (v := .int .i64 (a3 : Int)) (cs' := #[.int .i64 (a1 : Int), .int .i64 (a2 : Int), .int .i64 (a3 : Int), .int .i64 0]) hq3 hzb.out u3 (fun v hv x => by simp at hv; rcases hv with rfl | rfl | rfl | rfl <;> simp) rfl
          have hne3 : ∀ r, r ≠ z1.heap.size → (z3.setCell ⟨z1.heap.size, 2, none⟩ (.int .i64 (a3 : Int))).heap[r]? = z3.heap[r]? := fun r hr => Below.heap_setCell _ _ _ _ hr
          have hx3 := Lib.hid ((hx2.out.trans hk3.wide2).set (b := z1.heap.size) (i := 2) (v := .int .i64 (a3 : Int)) hlz.out)
          have dr3 := Lib.hid ((hne3 _ (fun e => hzf.out e.symm)).trans ((hk3.block _ (row_lt dr2.out) hfr.out).trans dr2.out))
          have hw3' := Lib.hid (own_turn (own_kb hw2'.out hk3 (fun r hr => by have := hZ8.out; have := hfb.out; have := hord.out; omega)) (fun k _ he _ => hne3 k (hwz.out k he)))
          have hD4 := Lib.hid (m_Qnum hR3 hrb)
          replace g3 := Lib.hid g3
          replace qq3 := Lib.hid qq3
          clear u3 hne3 hk3 hq3 hD3 hR3 g2 hx2 dr2 hw2'
          go_wp2_with fail
          refine hD4.out.mono ?_
          rintro e z4 ⟨hk4, a4, p4, k4, rfl, hq4, qq4⟩
          have u4 := (hk4.block _ (row_lt g3.out) hzb.out).trans g3.out
          have c4 := (row4 u4).1.2.2.2
          have f4 := (row4 u4).2 3
          obtain ⟨hR4, g4⟩ := qs_put (i := 3) (v := .int .i64 (a4 : Int)) (cs' := #[.int .i64 (a1 : Int), .int .i64 (a2 : Int), .int .i64 (a3 : Int), .int .i64 (a4 : Int)]) hq4 hzb.out u4 (fun v hv x => by simp at hv; rcases hv with rfl | rfl | rfl | rfl <;> simp) rfl
          have hne4 : ∀ r, r ≠ z1.heap.size → (z4.setCell ⟨z1.heap.size, 3, none⟩ (.int .i64 (a4 : Int))).heap[r]? = z4.heap[r]? := fun r hr => Below.heap_setCell _ _ _ _ hr
          have hx4 := Lib.hid ((hx3.out.trans hk4.wide2).set (b := z1.heap.size) (i := 3) (v := .int .i64 (a4 : Int)) hlz.out)
          have dr4 := Lib.hid ((hne4 _ (fun e => hzf.out e.symm)).trans ((hk4.block _ (row_lt dr3.out) hfr.out).trans dr3.out))
          have hw4' := Lib.hid (own_turn (own_kb hw3'.out hk4 (fun r hr => by have := hZ8.out; have := hfb.out; have := hord.out; omega)) (fun k _ he _ => hne4 k (hwz.out k he)))
          have hQz := Lib.hid hR4
          replace g4 := Lib.hid g4
          replace qq4 := Lib.hid qq4
          clear u4 hne4 hk4 hq4 hD4 hR4 g3 hx3 dr3 hw3'
          obtain ⟨Zn, hZn⟩ : ∃ Z, (z4.setCell ⟨z1.heap.size, 3, none⟩ (.int .i64 (a4 : Int))) = Z := ⟨_, rfl⟩
          obtain ⟨x, hx⟩ : ∃ x : TV4, x = ⟨(a1 : Int), (a2 : Int), (a3 : Int), (a4 : Int)⟩ := ⟨_, rfl⟩
          have hen : encT x = [.int .i64 (a1 : Int), .int .i64 (a2 : Int), .int .i64 (a3 : Int), .int .i64 (a4 : Int)] := by rw [hx]; rfl
          have hqx : QRes rdTry r1 true x p4 k4 := by rw [hx]; exact try_res qq1.out qq2.out qq3.out qq4.out
          rw [hZn] at g4 hQz hx4 dr4 hw4'
          have gz := (row4 g4.out).1
          obtain ⟨gz0, gz1, gz2, gz3⟩ := gz
          have gf := (row9 dr4.out).1.2.2.2.2.2.2.2.1
          have hown8 := hw4'.out.alloc (.cells (encT x).toArray 96)
          have hsn := hx4.out.size
          have d9 := (Below.heap_alloc Zn (.cells (encT x).toArray 96) _ (row_lt dr4.out)).trans dr4.out
          have ha9 := hle9.out
          have hnx := hnw.out Zn (encT x).toArray
          rw [hen] at hown8 d9 hnx
          have hone := oneT x
          rw [hen] at hone
          replace hen := Lib.hid hen
          replace hqx := Lib.hid hqx
          replace hx := Lib.hid hx
          replace d9 := Lib.hid d9
          go_wp2_with (at_builtin; refine wpList_append_lies _ (by rfl) _ _ _ (by rfl) y8.heap.size 96 iT _ 4 32 Tryz.underlying44 hiT zT0 zT1 zT2 rfl (by omega) (.slice pv acc.length cv) acc.length (acc.flatMap encT) (by rfl) hown8 ⟨Zn.heap.size, 0, none⟩ 1 1 _ (by rfl) (by rfl) hnx hone (by omega) (by unfold maxLen; omega) (by omega) (by simp; omega) (Zn.heap.size + 1) (by simp) ?_; intro gg cap w5 hown5 hg5 hat5 hlt5; have d10 := (hg5.block y1.heap.size (row_lt d9.out) (fun e => by have := hob.out _ e.symm; have := hZ8.out; omega)).trans d9.out; have f10 := (row9 d10).2 7; have c10 := (row9 d10).1.2.2.2.2.2.2.2.1; have hfin := Lib.hid (q_app (enc := encT) (acc := acc) (x := x) (i := 7) (cs' := #[.string s, .int .i64 (p : Int), .bool re, .bool ar, .int .i64 (rg : Int), .slice pv6 acc6.length cv6, .slice pv7 acc7.length cv7, .slice (some ⟨gg, 0, none⟩) (acc.length + 1) cap, .slice none 0 0]) hQz.out hx4.out (by rw [hen.out]; exact hown5) hg5 hob.out hB.out (Nat.le_refl _) d10 (fun v hv x => by simp at hv; rcases hv with rfl | rfl | rfl | rfl | rfl | rfl | rfl | rfl | rfl <;> simp) rfl); clear d10 hg5 hown5 hat5 hlt5 hown8 hnx hone)
          have hLn := Lib.hid (hL.out.next (fun b v r h => rdTry_len h) hqx.out)
          go_roundg g
          case measure => exact Nat.lt_succ_self _
          case rel => exact ⟨acc ++ [x], p4, k4, _, rfl, hfin.out.1, hfin.out.2.1, hfin.out.2.2.1, hfin.out.2.2.2, hLn.out⟩
  obtain ⟨acc8, s8, o8, v8, hQR, hKR, ho8, eR, qR8⟩ := hcut
  obtain ⟨x8, rfl⟩ : ∃ x : World, x = wc := ⟨_, rfl⟩
  obtain ⟨pv8, cv8, rfl⟩ := own_form2 ho8
  have hT8' := Lib.hid (show s8.length ≤ 4194304 by
    have h2 := hT8.out
    have h3 := QRes.len (fun b v r h => rdNum_len h) q8.out
    rcases qR8 with ⟨_, _, h⟩ | ⟨_, _, h⟩
    · have h4 := rdTry_many h
      have h5 := hT7'.out
      omega
    · have h5 := hT7'.out
      omega)
  have hX8' := Lib.hid (kb_mix hX8.out hKR hfl.out)
  have hm8 := Lib.hid (show y8.heap.size ≤ x8.heap.size from hKR.size)
  replace ho6 := Lib.hid (own_kb ho6.out hKR (fun r hr => by have := hZ6.out; have := hord.out; have := hfb.out; omega))
  replace ho7 := Lib.hid (own_kb ho7.out hKR (fun r hr => by have := hZ7.out; have := hord.out; have := hfb.out; omega))
  replace ho8 := Lib.hid ho8
  have d9 := Lib.hid eR
  replace qR8 := Lib.hid qR8
  have hC9 := Lib.hid (m_Qnum hQR hrb)
  clear hKR eR hQR hX8 e8 hQ8 hT7' hT8
  go_wp2_with fail
  refine hC9.out.mono ?_
  rintro e y9 ⟨hK9, n9, r9, ok9, rfl, hQ9, q9⟩
  have e9 := (hK9.block _ (row_lt d9.out) hfr.out).trans d9.out
  have hX9 := Lib.hid (hX8'.out.trans hK9)
  have hZ9 := Lib.hid (show y1.heap.size < y9.heap.size from row_lt e9)
  have hT9 := Lib.hid (show r9.length ≤ 4194304 by have h1 := QRes.len (fun b v r h => rdNum_len h) q9; have h2 := hT8'.out; omega)
  replace ho6 := Lib.hid (own_kb ho6.out hK9 (fun r hr => by have := hZ6.out; have := hord.out; have := hfb.out; omega))
  replace ho7 := Lib.hid (own_kb ho7.out hK9 (fun r hr => by have := hZ7.out; have := hord.out; have := hfb.out; omega))
  replace ho8 := Lib.hid (own_kb ho8.out hK9 (fun r hr => by have := hZ8.out; have := hord.out; have := hfb.out; omega))
  replace e9 := Lib.hid e9
  replace q9 := Lib.hid q9
  replace hQ9 := Lib.hid hQ9
  clear hK9 hC9 d9 hX8'
  go_upto_block 6 with fail
  go_cut [8] from 95 to 116 (fun sl8 wx => ∃ (acc : List PV2) (r1 : List Nat) (ok2 : Bool) (v : Value), QS rb bb wx r1 ok2 ∧ KB (fun r => r = rb ∨ r = y1.heap.size) y9 wx ∧ wx.ownsRow y9.heap.size 98 2 v acc.length (acc.flatMap encK) ∧ wx.heap[y1.heap.size]? = some (.cells #[.string s, .int .i64 (p : Int), .bool re, .bool ar, .int .i64 (rg : Int), .slice pv6 acc6.length cv6, .slice pv7 acc7.length cv7, .slice pv8 acc8.length cv8, v] 47 (0, 0)) ∧ QRes (rdMany rdCap) s8 o8 acc r1 ok2)
  case first =>
    go_wp2_with fail
    go_loopg [8] n9 (fun g sl8 wr => ∃ (acc : List PV2) (r1 : List Nat) (ok2 : Bool) (v : Value), sl8 = .int .i64 (g : Int) ∧ QS rb bb wr r1 ok2 ∧ KB (fun r => r = rb ∨ r = y1.heap.size) y9 wr ∧ wr.ownsRow y9.heap.size 98 2 v acc.length (acc.flatMap encK) ∧ wr.heap[y1.heap.size]? = some (.cells #[.string s, .int .i64 (p : Int), .bool re, .bool ar, .int .i64 (rg : Int), .slice pv6 acc6.length cv6, .slice pv7 acc7.length cv7, .slice pv8 acc8.length cv8, v] 47 (0, 0)) ∧ LRes rdCap n9 r9 ok9 g acc r1 ok2)
    case atStart => exact ⟨[], r9, ok9, _, rfl, hQ9.out, KB.refl _ _, World.ownsRow_nil _ _ _ _, e9.out, lres_start (fun _ => trivial)⟩
    case round =>
      obtain ⟨acc, r1, ok2, v, rfl, hQr, hKr, hown, hrow, hL⟩ := hrel
      obtain ⟨ka, kb⟩ := hQr.facts
      cases ok2 with
      | false =>
        have hex := Lib.hid (hL.exit (.inl rfl) q9.out)
        replace hown := Lib.hid hown
        replace hrow := Lib.hid hrow
        replace hL := Lib.hid hL
        go_wp2_with fail
        go_meet
        case rel => exact ⟨acc, r1, false, v, hQr, hKr, hown.out, hrow.out, hex.out⟩
      | true =>
        cases gk with
        | zero =>
          have hex := Lib.hid (hL.exit (.inr rfl) q9.out)
          replace hown := Lib.hid hown
          replace hrow := Lib.hid hrow
          replace hL := Lib.hid hL
          go_wp2_with fail
          go_meet
          case rel => exact ⟨acc, r1, true, v, hQr, hKr, hown.out, hrow.out, hex.out⟩
        | succ g =>
          have hg63 := hL.lt q9.out
          have p0 : (0 : Int) < ((g + 1 : Nat) : Int) := by omega
          have hw1 : IntKind.i64.wrap (((g + 1 : Nat) : Int) - 1) = (g : Int) := by rw [IntKind.wrap_i64]; omega
          obtain ⟨pv, cv, rfl⟩ := own_form2 hown
          obtain ⟨hla1, hla2⟩ := hL.len
          have hle9 := Lib.hid (show acc.length ≤ 4194305 by have := hT9.out; omega)
          have hob : ∀ j, (Value.slice pv acc.length cv).ownBlock = some j → y9.heap.size ≤ j := own_blk hown
          have hls := hKr.size
          have hord1 := Lib.hid (show y9.heap.size ≤ wr.heap.size from hls)
          replace hown := Lib.hid hown
          replace hrow := Lib.hid hrow
          replace hL := Lib.hid hL
          replace hKr := Lib.hid hKr
          replace hob := Lib.hid hob
          have hnw : ∀ (y : World) (cs : Array Value), _ := fun y cs => World.news_of_block (cs := cs) (t := 98) (fr := (0, 0)) (heap_alloc_new y _)
          replace hnw := Lib.hid hnw
          have hB := Lib.hid (show (rb < y9.heap.size ∧ bb < y9.heap.size) ∧ y1.heap.size < y9.heap.size ∧ y9.heap.size ≤ y9.heap.size ∧ y1.heap.size ≠ rb from ⟨⟨by have := hZ9.out; have := hord.out; have := hfb.out; omega, by have := hZ9.out; have := hord.out; have := hfb.out; omega⟩, hZ9.out, Nat.le_refl _, hfr.out⟩)
          clear hla1 hla2 hls
          have hD1 := Lib.hid (m_Qflag hQr hrb)
          clear hQr
          go_wp2_with fail
          refine hD1.out.mono ?_
          rintro e z1 ⟨hk1, a1, p1, k1, rfl, hq1, qq1⟩
          obtain ⟨Z1, hZ1⟩ : ∃ W, z1.alloc (.cells #[.bool a1, .int .i64 0] 98) = W := ⟨_, rfl⟩
          have hbz : Below z1.heap.size z1 Z1 := by rw [← hZ1]; exact (Below.refl _ z1).alloc (Nat.le_refl _) _
          have g1 : Z1.heap[z1.heap.size]? = some (.cells #[.bool a1, .int .i64 0] 98 (0, 0)) := by rw [← hZ1]; exact heap_alloc_new z1 _
          have hlz := Lib.hid (show y9.heap.size ≤ z1.heap.size by have := hKr.out.size; have := hk1.size; omega)
          have hzb : z1.heap.size ≠ rb := by have := hlz.out; have := hZ9.out; have := hfb.out; have := hord.out; omega
          have hzf : z1.heap.size ≠ y1.heap.size := by have := hlz.out; have := hZ9.out; omega
          have hx1 := Lib.hid ((hKr.out.trans hk1.wide2).trans (KB.of_below hbz))
          have dr1 := Lib.hid ((hbz.block _ (row_lt ((hk1.block _ (row_lt hrow.out) hfr.out).trans hrow.out))).trans ((hk1.block _ (row_lt hrow.out) hfr.out).trans hrow.out))
          have hw1' := Lib.hid (own_kb (own_kb hown.out hk1 (fun r hr => by have := hZ9.out; have := hfb.out; have := hord.out; omega)) (KB.of_below (ex := fun r => r = rb) hbz) (fun r hr => by have := hZ9.out; have := hfb.out; have := hord.out; omega))
          have hwz := Lib.hid (fun (k : Nat) (hk : (Value.slice pv acc.length cv).ownBlock = some k) => show k ≠ z1.heap.size by have := own_lt hown.out k hk; have := hk1.size; omega)
          have hD2 := Lib.hid (m_Qnum (hq1.below hbz) hrb)
          replace g1 := Lib.hid g1
          replace qq1 := Lib.hid qq1
          replace hzb := Lib.hid hzb
          replace hzf := Lib.hid hzf
          clear hbz hk1 hq1 hD1 hKr hown hrow
          subst hZ1
          go_wp2_with fail
          refine hD2.out.mono ?_
          rintro e z2 ⟨hk2, a2, p2, k2, rfl, hq2, qq2⟩
          have u2 := (hk2.block _ (row_lt g1.out) hzb.out).trans g1.out
          have c2 := (row2 u2).1.2
          have f2 := (row2 u2).2 1
          obtain ⟨hR2, g2⟩ := qs_put (i := 1) (v := .int .i64 (a2 : Int)) (cs' := #[.bool a1, .int .i64 (a2 : Int)]) hq2 hzb.out u2 (fun v hv x => by simp at hv; rcases hv with rfl | rfl <;> simp) rfl
          have hne2 : ∀ r, r ≠ z1.heap.size → (z2.setCell ⟨z1.heap.size, 1, none⟩ (.int .i64 (a2 : Int))).heap[r]? = z2.heap[r]? := fun r hr => Below.heap_setCell _ _ _ _ hr
          have hx2 := Lib.hid ((hx1.out.trans hk2.wide2).set (b := z1.heap.size) (i := 1) (v := .int .i64 (a2 : Int)) hlz.out)
          have dr2 := Lib.hid ((hne2 _ (fun e => hzf.out e.symm)).trans ((hk2.block _ (row_lt dr1.out) hfr.out).trans dr1.out))
          have hw2' := Lib.hid (own_turn (own_kb hw1'.out hk2 (fun r hr => by have := hZ9.out; have := hfb.out; have := hord.out; omega)) (fun k _ he _ => hne2 k (hwz.out k he)))
          have hQz := Lib.hid hR2
          replace g2 := Lib.hid g2
          replace qq2 := Lib.hid qq2
          clear u2 hne2 hk2 hq2 hD2 hR2 g1 hx1 dr1 hw1'
          obtain ⟨Zn, hZn⟩ : ∃ Z, (z2.setCell ⟨z1.heap.size, 1, none⟩ (.int .i64 (a2 : Int))) = Z := ⟨_, rfl⟩
          obtain ⟨x, hx⟩ : ∃ x : PV2, x = ⟨a1, (a2 : Int)⟩ := ⟨_, rfl⟩
          have hen : encK x = [.bool a1, .int .i64 (a2 : Int)] := by rw [hx]; rfl
          have hqx : QRes rdCap r1 true x p2 k2 := by rw [hx]; exact cap_res qq1.out qq2.out
          rw [hZn] at g2 hQz hx2 dr2 hw2'
          have gz := (row2 g2.out).1
          obtain ⟨gz0, gz1⟩ := gz
          have gf := (row9 dr2.out).1.2.2.2.2.2.2.2.2
          have hown8 := hw2'.out.alloc (.cells (encK x).toArray 98)
          have hsn := hx2.out.size
          have d9 := (Below.heap_alloc Zn (.cells (encK x).toArray 98) _ (row_lt dr2.out)).trans dr2.out
          have ha9 := hle9.out
          have hnx := hnw.out Zn (encK x).toArray
          rw [hen] at hown8 d9 hnx
          have hone := oneC x
          rw [hen] at hone
          replace hen := Lib.hid hen
          replace hqx := Lib.hid hqx
          replace hx := Lib.hid hx
          replace d9 := Lib.hid d9
          go_wp2_with (at_builtin; refine wpList_append_lies _ (by rfl) _ _ _ (by rfl) y9.heap.size 98 iK _ 2 16 Tryz.underlying45 hiK zK0 zK1 zK2 rfl (by omega) (.slice pv acc.length cv) acc.length (acc.flatMap encK) (by rfl) hown8 ⟨Zn.heap.size, 0, none⟩ 1 1 _ (by rfl) (by rfl) hnx hone (by omega) (by unfold maxLen; omega) (by omega) (by simp; omega) (Zn.heap.size + 1) (by simp) ?_; intro gg cap w5 hown5 hg5 hat5 hlt5; have d10 := (hg5.block y1.heap.size (row_lt d9.out) (fun e => by have := hob.out _ e.symm; have := hZ9.out; omega)).trans d9.out; have f10 := (row9 d10).2 8; have c10 := (row9 d10).1.2.2.2.2.2.2.2.2; have hfin := Lib.hid (q_app (enc := encK) (acc := acc) (x := x) (i := 8) (cs' := #[.string s, .int .i64 (p : Int), .bool re, .bool ar, .int .i64 (rg : Int), .slice pv6 acc6.length cv6, .slice pv7 acc7.length cv7, .slice pv8 acc8.length cv8, .slice (some ⟨gg, 0, none⟩) (acc.length + 1) cap]) hQz.out hx2.out (by rw [hen.out]; exact hown5) hg5 hob.out hB.out (Nat.le_refl _) d10 (fun v hv x => by simp at hv; rcases hv with rfl | rfl | rfl | rfl | rfl | rfl | rfl | rfl | rfl <;> simp) rfl); clear d10 hg5 hown5 hat5 hlt5 hown8 hnx hone)
          have hLn := Lib.hid (hL.out.next (fun b v r h => rdCap_len h) hqx.out)
          go_roundg g
          case measure => exact Nat.lt_succ_self _
          case rel => exact ⟨acc ++ [x], p2, k2, _, rfl, hfin.out.1, hfin.out.2.1, hfin.out.2.2.1, hfin.out.2.2.2, hLn.out⟩
  obtain ⟨acc9, s9, o9, v9, hQR, hKR, ho9, eR, qR9⟩ := hcut
  obtain ⟨x9, rfl⟩ : ∃ x : World, x = wc := ⟨_, rfl⟩
  obtain ⟨pv9, cv9, rfl⟩ := own_form2 ho9
  have hT9' := Lib.hid (show s9.length ≤ 4194304 by
    have h2 := hT9.out
    have h3 := QRes.len (fun b v r h => rdNum_len h) q9.out
    rcases qR9 with ⟨_, _, h⟩ | ⟨_, _, h⟩
    · have h4 := rdCap_many h
      have h5 := hT8'.out
      omega
    · have h5 := hT8'.out
      omega)
  have hX9' := Lib.hid (kb_mix hX9.out hKR hfl.out)
  have hm9 := Lib.hid (show y9.heap.size ≤ x9.heap.size from hKR.size)
  replace ho6 := Lib.hid (own_kb ho6.out hKR (fun r hr => by have := hZ6.out; have := hord.out; have := hfb.out; omega))
  replace ho7 := Lib.hid (own_kb ho7.out hKR (fun r hr => by have := hZ7.out; have := hord.out; have := hfb.out; omega))
  replace ho8 := Lib.hid (own_kb ho8.out hKR (fun r hr => by have := hZ8.out; have := hord.out; have := hfb.out; omega))
  replace ho9 := Lib.hid ho9
  have d10 := Lib.hid eR
  replace qR9 := Lib.hid qR9
  replace hQR := Lib.hid hQR
  clear hKR eR hX9 e9 hQ9 hT8' hT9
  have z9 := (hX9'.out.block w.heap.size (row_lt d1.out) (fun e => by have := hord.out; omega)).trans d1.out
  unfold zeroFn at z9
  obtain ⟨⟨b0, b1, b2, b3, b4, b5, b6, b7, b8⟩, -⟩ := row9 d10.out
  obtain ⟨⟨t0, t1, t2, t3, t4, t5, t6, t7, t8⟩, tf⟩ := row9 z9
  have tf0 := tf 0
  have tf1 := tf 1
  have tf2 := tf 2
  have tf3 := tf 3
  have tf4 := tf 4
  have tf5 := tf 5
  have tf6 := tf 6
  have tf7 := tf 7
  have tf8 := tf 8
  replace z9 := Lib.hid z9
  clear tf
  go_wp2
  obtain ⟨cells, hcells⟩ : ∃ cells : List Value, cells = [.string s, .int .i64 (p : Int), .bool re, .bool ar, .int .i64 (rg : Int), .slice pv6 acc6.length cv6, .slice pv7 acc7.length cv7, .slice pv8 acc8.length cv8, .slice pv9 acc9.length cv9] := ⟨_, rfl⟩
  have hch : x9.setCells w.heap.size 0 cells = x9.setCells w.heap.size 0 [.string s, .int .i64 (p : Int), .bool re, .bool ar, .int .i64 (rg : Int), .slice pv6 acc6.length cv6, .slice pv7 acc7.length cv7, .slice pv8 acc8.length cv8, .slice pv9 acc9.length cv9] := by rw [hcells]
  have hl9 : cells.length = 9 := by rw [hcells]; rfl
  have g1 := heap_setCells_all (t := 47) (vs := cells) z9.out (by rw [hl9]; rfl)
  have hne : ∀ r, r ≠ w.heap.size → (x9.setCells w.heap.size 0 cells).heap[r]? = x9.heap[r]? := fun r hr => heap_setCells_ne cells 0 x9 hr
  obtain ⟨z1, z2, z3, z4⟩ := size_setCellsH w.heap.size cells 0 x9
  change bodyPost _ _ _ _ _ (x9.setCells w.heap.size 0 [.string s, .int .i64 (p : Int), .bool re, .bool ar, .int .i64 (rg : Int), .slice pv6 acc6.length cv6, .slice pv7 acc7.length cv7, .slice pv8 acc8.length cv8, .slice pv9 acc9.length cv9])
  rw [← hch]
  refine bodyPost_ret (results_cell_row rfl _ _ w.heap.size 47 _ (0, 0) _ rfl g1 Tryz.underlying47 rfl (by rw [List.size_toArray, hl9]; exact infoFn)) rfl ?_
  have hord2 := hord.out
  have hfb2 := hfb.out
  have hKy := hkw.out _ hX9'.out
  have hZ6' := hZ6.out
  have hZ7' := hZ7.out
  have hZ8' := hZ8.out
  have hZ9' := hZ9.out
  refine ⟨⟨z2.trans hKy.os, z3.trans hKy.tape, z4.trans hKy.output, by rw [z1]; exact hKy.size, fun r hr hn => (hne r (by omega)).trans (hKy.block r hr hn)⟩, _, s9, o9, cells, rfl, ⟨_, _, _, _, hcells, ⟨own_le (own_set ho6.out (by omega) hne) (by omega), own_le (own_set ho7.out (by omega) hne) (by omega)⟩, own_le (own_set ho8.out (by omega) hne) (by omega), own_le (own_set ho9.out (by omega) hne) (by omega)⟩, hQR.out.turn (hne rb (by omega)) (hne bb (by omega)), fn_res q1.out q2.out q3.out q4.out q5.out qR6.out qR7.out qR8.out qR9.out⟩
end
end Go.Proofs.YtjjogaenejdliaaGreatDoor
