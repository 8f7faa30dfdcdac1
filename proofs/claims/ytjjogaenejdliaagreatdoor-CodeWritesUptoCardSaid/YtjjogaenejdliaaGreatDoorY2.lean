/-
  Contracts: The contract of the reader's constant. Rows of cells that are laid at once (as in the heap's texts). The contracts of the instructions' table, and of find. The contract of find: an instruction's name and letters. The contracts of the reader's instruction, try, capture. The contracts of the reader's try and capture.
-/
import Derived.Test.YtjjogaenejdliaaGreatDoorY1
import Derived.Deep.MidRow
import Derived.Laws.RangeAny
import Derived.Deep.LoopGhost
namespace Go.Proofs.YtjjogaenejdliaaGreatDoor
open Go.RowKit Go.Lib
set_option linter.unusedVariables false
set_option linter.unusedSimpArgs false
set_option maxHeartbeats 1000000
set_option maxRecDepth 100000

def encVV (v : VV) : List Value := [.int .i64 v.k, .float .f64 v.x, .string v.s, .int .i64 v.r]
theorem infoVV : (Tryz.prog.info? 51).map (·.size) = some 4 := by kernel_rfl
theorem be8_snoc (l : List Nat) (c : Nat) : be8 (l ++ [c]) = be8 l * 256 + c := by simp [be8]
theorem be8_lt (l : List Nat) (h : ∀ x ∈ l, x < 256) : be8 l < 256 ^ l.length := by
  have h0 : ∀ n (l : List Nat), l.length = n → (∀ x ∈ l, x < 256) → be8 l < 256 ^ n := by
    intro n
    induction n with
    | zero => intro l hl _; rw [List.length_eq_zero_iff.1 hl]; decide
    | succ n ih =>
      intro l hl hx
      have hne : l ≠ [] := by rintro rfl; cases hl
      rw [← List.dropLast_concat_getLast hne, be8_snoc]
      have h1 := ih l.dropLast (by simp; omega) (fun x hx' => hx x (List.dropLast_subset l hx'))
      have h2 := hx (l.getLast hne) (List.getLast_mem hne)
      rw [Nat.pow_succ]
      omega
  exact h0 l.length l rfl h
theorem be_step (u c : Nat) (hu : u < 72057594037927936) (hc : c < 256) : bits BinOp.or IntKind.u64 (IntKind.u64.wrap ((u : Int) * 256)) (c : Int) = ((u * 256 + c : Nat) : Int) := by
  have hw : IntKind.u64.wrap ((u : Int) * 256) = ((u * 256 : Nat) : Int) := by rw [IntKind.wrap_u64]; omega
  rw [hw, u64_or_nat _ _ (by omega) (by omega)]
  have h := Nat.two_pow_add_eq_or_of_lt (i := 8) (b := c) (by omega) u
  have e : (2 : Nat) ^ 8 = 256 := by decide
  rw [e, Nat.mul_comm] at h
  rw [← h]
theorem KB.set {ex : Nat → Prop} {w y : World} (h : KB ex w y) {b i : Nat} {v : Value} (hb : w.heap.size ≤ b) : KB ex w (y.setCell ⟨b, i, none⟩ v) := ⟨h.os, h.tape, h.output, by simpa [World.setCell] using h.size, fun r hr hn => (Below.heap_setCell _ _ _ _ (by show r ≠ b; omega)).trans (h.block r hr hn)⟩
theorem RS.other {rb bb b : Nat} {y y' : World} {r : List Nat} (h : RS rb bb y r) (hb : b ≠ rb) (hn : ∀ (o : Nat) (x : Int), y.cell? ⟨b, o, none⟩ ≠ some (.int .u8 x)) (hk : ∀ r', r' ≠ b → y'.heap[r']? = y.heap[r']?) : RS rb bb y' r := by
  obtain ⟨v, h0, h1, h2⟩ := h
  refine ⟨v, h0, (hk rb (fun e => hb e.symm)).trans h1, h2.keep fun b' o x hc => ?_⟩
  have hne : b' ≠ b := fun e => hn o x (by rw [← e]; exact hc)
  rw [World.cell?_of_block (w := y) (a := ⟨b', o, none⟩) (hk b' hne)]
  exact hc
/-- a value's four cells are laid -/
theorem set4 {y : World} {b : Nat} {a0 a3 : Int} {a1 : Nat} {a2 : ByteArray} (h : y.heap[b]? = some (.cells #[.int .i64 a0, .float .f64 a1, .string a2, .int .i64 a3] 51 (0, 0))) (v : VV) :
    ((((y.setCell ⟨b, 0, none⟩ (.int .i64 v.k)).setCell ⟨b, 1, none⟩ (.float .f64 v.x)).setCell ⟨b, 2, none⟩ (.string v.s)).setCell ⟨b, 3, none⟩ (.int .i64 v.r)).heap[b]? = some (.cells (encVV v).toArray 51 (0, 0)) ∧
    (∀ (ex : Nat → Prop) (w : World), w.heap.size ≤ b → KB ex w y → KB ex w ((((y.setCell ⟨b, 0, none⟩ (.int .i64 v.k)).setCell ⟨b, 1, none⟩ (.float .f64 v.x)).setCell ⟨b, 2, none⟩ (.string v.s)).setCell ⟨b, 3, none⟩ (.int .i64 v.r))) ∧
    (∀ rb bb r, b ≠ rb → RS rb bb y r → RS rb bb ((((y.setCell ⟨b, 0, none⟩ (.int .i64 v.k)).setCell ⟨b, 1, none⟩ (.float .f64 v.x)).setCell ⟨b, 2, none⟩ (.string v.s)).setCell ⟨b, 3, none⟩ (.int .i64 v.r)) r) := by
  have h1 := heap_setCell_same y b 0 _ _ (.int .i64 v.k) h
  have h2 := heap_setCell_same _ b 1 _ _ (.float .f64 v.x) h1
  have h3 := heap_setCell_same _ b 2 _ _ (.string v.s) h2
  refine ⟨heap_setCell_same _ b 3 _ _ (.int .i64 v.r) h3, fun ex w hw hK => (((hK.set hw).set hw).set hw).set hw, fun rb bb r hb hR => hR.other hb (fun o x hc => ?_) (fun r' hr => ?_)⟩
  · rw [cell_of_row _ _ o _ _ _ h] at hc
    match o with
    | 0 => simp at hc
    | 1 => simp at hc
    | 2 => simp at hc
    | 3 => simp at hc
    | o + 4 => simp at hc
  · rw [Below.heap_setCell _ _ _ _ hr, Below.heap_setCell _ _ _ _ hr, Below.heap_setCell _ _ _ _ hr, Below.heap_setCell _ _ _ _ hr]
section
variable {rb bb : Nat} {w w' : World} {bs : List Nat}
theorem c_rconst (h : RS rb bb w bs) : Calls Tryz.prog 49 #[.pointer (some ⟨rb, 0, none⟩)] w fun e w' => KB (fun r => r = rb) w w' ∧ ((∃ v r, rdConst bs = some (v, r) ∧ e = .returned (.agg (encVV v).toArray) ∧ RS rb bb w' r) ∨ (rdConst bs = none ∧ e = .panicked wrongV)) := by
  obtain ⟨W1, hW1⟩ : ∃ W1, w.alloc (.cells #[.int .i64 0, .float .f64 0, .string ⟨#[]⟩, .int .i64 0] 51) = W1 := ⟨_, rfl⟩
  have hb1 : Below w.heap.size w W1 := by rw [← hW1]; exact (Below.refl _ w).alloc (Nat.le_refl _) _
  have d1 : W1.heap[w.heap.size]? = some (.cells #[.int .i64 0, .float .f64 0, .string ⟨#[]⟩, .int .i64 0] 51 (0, 0)) := by rw [← hW1]; exact heap_alloc_new w _
  have hR1 := h.below hb1
  have hlr := h.lt
  have hT := fun (w : World) => c_mustT w
  have hF := fun (w : World) => c_mustF w
  have hN := c_rflag hR1
  have hdef : rdConst bs = match rdFlag bs with
      | none => none
      | some (true, r) => match rdText r with
        | none => none
        | some (s, r) => some (textC s, r)
      | some (false, r) => if 8 ≤ r.length then (if fine64 (be8 (r.take 8)) then some (numC (be8 (r.take 8)), r.drop 8) else none) else none := rfl
  have hk1 : ∀ y, KB (fun r => r = rb) W1 y → y.heap[w.heap.size]? = some (.cells #[.int .i64 0, .float .f64 0, .string ⟨#[]⟩, .int .i64 0] 51 (0, 0)) := fun y hy => (hy.block _ (row_lt d1) (by omega)).trans d1
  have hkw : ∀ y, KB (fun r => r = rb) W1 y → KB (fun r => r = rb) w y := fun y hy => (KB.of_below hb1).trans hy
  replace hT := Lib.hid hT
  replace hF := Lib.hid hF
  replace hN := Lib.hid hN
  replace hdef := Lib.hid hdef
  replace hk1 := Lib.hid hk1
  replace hkw := Lib.hid hkw
  replace hlr := Lib.hid hlr
  clear h hR1 hb1 d1
  go_enter Tryz.func49, Tryz.ntmps49
  go_wp2_with fail
  refine hN.out.mono ?_
  rintro e y ⟨hK, ⟨b, r, hn, rfl, hR⟩ | ⟨hn, rfl⟩⟩
  · have hdef2 := hdef.out
    rw [hn] at hdef2
    replace hdef2 := Lib.hid hdef2
    clear hn hN hdef
    cases b with
    | true =>
      have hTx := c_rtext hR
      replace hTx := Lib.hid hTx
      replace hK := Lib.hid hK
      clear hR
      go_wp2_with fail
      refine hTx.out.mono ?_
      rintro e y2 ⟨hK2, ⟨s, r2, hn2, rfl, hR2⟩ | ⟨hn2, rfl⟩⟩
      · have hres : rdConst bs = some (textC s, r2) := by rw [hdef2.out, hn2]
        have hKK := hK.out.trans hK2
        have d2 := hk1.out y2 hKK
        obtain ⟨f0, f1, f2, f3⟩ : (y2.frozen? ⟨w.heap.size, 0, none⟩ = false ∧ y2.frozen? ⟨w.heap.size, 1, none⟩ = false ∧ y2.frozen? ⟨w.heap.size, 2, none⟩ = false ∧ y2.frozen? ⟨w.heap.size, 3, none⟩ = false) := by simp [World.frozen?, d2]
        have k0 : y2.cell? ⟨w.heap.size, 0, none⟩ = some (.int .i64 0) := by rw [cell_of_row _ _ 0 _ _ _ d2]; rfl
        have k1 : y2.cell? ⟨w.heap.size, 1, none⟩ = some (.float .f64 0) := by rw [cell_of_row _ _ 1 _ _ _ d2]; rfl
        have k2 : y2.cell? ⟨w.heap.size, 2, none⟩ = some (.string ⟨#[]⟩) := by rw [cell_of_row _ _ 2 _ _ _ d2]; rfl
        have k3 : y2.cell? ⟨w.heap.size, 3, none⟩ = some (.int .i64 0) := by rw [cell_of_row _ _ 3 _ _ _ d2]; rfl
        have rsf := fun (w : World) (a : Addr) (x : Nat) => run_store Tryz.prog w a (.float .f64 x) .plain rfl
        replace hres := Lib.hid hres
        replace hKK := Lib.hid hKK
        replace d2 := Lib.hid d2
        clear hn2 hTx hdef2 hK2
        go_wp2
        obtain ⟨g1, g2, g3⟩ := set4 d2.out (textC s)
        refine bodyPost_ret (results_cell_row rfl _ _ w.heap.size 51 _ (0, 0) _ rfl g1 Tryz.underlying51 rfl infoVV) rfl ?_
        exact ⟨g2 _ w (Nat.le_refl _) (hkw.out _ hKK.out), .inl ⟨_, _, hres.out, rfl, g3 rb _ r2 (by have := hlr.out; omega) hR2⟩⟩
      · have hres : rdConst bs = none := by rw [hdef2.out, hn2]
        have hKK := hkw.out _ (hK.out.trans hK2)
        replace hres := Lib.hid hres
        replace hKK := Lib.hid hKK
        clear hn2 hTx hdef2 hK2
        go_wp2
        exact ⟨rfl, hKK.out, .inr ⟨hres.out, rfl⟩⟩
    | false =>
      by_cases h8 : 8 ≤ r.length
      · have hTk := c_take hR 8 h8
        have hl8 : (r.take 8).length = 8 := by simp; omega
        replace hTk := Lib.hid hTk
        replace hK := Lib.hid hK
        have hall : ∀ x ∈ r.take 8, x < 256 := by
          obtain ⟨_, _, _, _, _, _, _, _, hc⟩ := hR
          intro x hx
          obtain ⟨k, hk⟩ := List.getElem?_of_mem (List.mem_of_mem_take hx)
          exact (hc k x hk).1
        clear hR
        go_wp2_with fail
        refine hTk.out.mono ?_
        rintro e y2 ⟨v, rfl, hv, hR2, hK2⟩
        obtain ⟨p, c, rfl, hlc, _, hcell⟩ := hv
        rw [hl8] at hlc ⊢
        have hKK := hK.out.trans hK2
        replace hall := Lib.hid hall
        replace hcell := Lib.hid hcell
        replace hKK := Lib.hid hKK
        obtain ⟨L, hL⟩ : ∃ L, r.take 8 = L := ⟨_, rfl⟩
        rw [hL] at hl8 hall hcell
        have hres : rdConst bs = if fine64 (be8 L) then some (numC (be8 L), r.drop 8) else none := by rw [hdef2.out, if_pos h8, hL]
        replace hres := Lib.hid hres
        replace hl8 := Lib.hid hl8
        clear hTk hK2 hdef2 hL h8
        go_wp2
        go_loopw [3, 15] (fun vu vi wr => ∃ k : Nat, k ≤ 8 ∧ vi = .int .i64 (k : Int) ∧ vu = .int .u64 ((be8 (L.take k) : Nat) : Int) ∧ wr = y2) (fun _ vi _ => 8 - (RowKit.intOf vi).toNat)
        case atStart => exact ⟨0, by decide, rfl, rfl, rfl⟩
        case round =>
          obtain ⟨k, hk, rfl, rfl, rfl⟩ := hrel
          rcases Nat.lt_or_ge k 8 with hlt | hge
          · obtain ⟨x, hx⟩ : ∃ x, L[k]? = some x := ⟨_, List.getElem?_eq_getElem (by have := hl8.out; omega)⟩
            obtain ⟨hx256, b, o, rfl, hc⟩ := hcell.out k x hx
            have q1 : (0 : Int) ≤ (k : Int) := by omega
            have q2 : (k : Int) < 8 := by omega
            have hT1 : L.take (k + 1) = L.take k ++ [x] := by
              rw [List.take_succ_eq_append_getElem (by have := hl8.out; omega)]
              have := (List.getElem?_eq_some_iff.1 hx).2
              rw [this]
            have hlt2 : be8 (L.take k) < 72057594037927936 := by
              have h1 := be8_lt (L.take k) (fun y hy => hall.out y (List.mem_of_mem_take hy))
              have h2 : (L.take k).length ≤ 7 := by simp; omega
              have h3 : 256 ^ (L.take k).length ≤ 256 ^ 7 := Nat.pow_le_pow_right (by decide) h2
              have h4 : (256 : Nat) ^ 7 = 72057594037927936 := by decide
              omega
            have hst := be_step (be8 (L.take k)) x hlt2 hx256
            have hnx : be8 (L.take (k + 1)) = be8 (L.take k) * 256 + x := by rw [hT1, be8_snoc]
            rw [← hnx] at hst
            obtain ⟨V, hV⟩ : ∃ V, be8 (L.take (k + 1)) = V := ⟨_, rfl⟩
            rw [hV] at hst
            replace hV := Lib.hid hV
            clear hx hT1 hlt2 hnx
            generalize be8 (L.take k) = U at *
            go_wp2
            exact ⟨⟨k + 1, by omega, by go_num, by rw [hV.out], trivial⟩, by simp [RowKit.intOf]; omega⟩
          · obtain rfl : k = 8 := by omega
            have hL8 : L.take 8 = L := List.take_of_length_le (Nat.le_of_eq hl8.out)
            rw [hL8]
            have hfr : ∀ (x : Int) (w : World), (callFunc 70 #[.int .u64 x]).run Tryz.prog w = .ok (.value (.float .f64 x.toNat)) w := fun x w => by kernel_rfl
            have d2 := hk1.out wr hKK.out
            obtain ⟨f0, f1, f2, f3⟩ : (wr.frozen? ⟨w.heap.size, 0, none⟩ = false ∧ wr.frozen? ⟨w.heap.size, 1, none⟩ = false ∧ wr.frozen? ⟨w.heap.size, 2, none⟩ = false ∧ wr.frozen? ⟨w.heap.size, 3, none⟩ = false) := by simp [World.frozen?, d2]
            have k0 : wr.cell? ⟨w.heap.size, 0, none⟩ = some (.int .i64 0) := by rw [cell_of_row _ _ 0 _ _ _ d2]; rfl
            have k1 : wr.cell? ⟨w.heap.size, 1, none⟩ = some (.float .f64 0) := by rw [cell_of_row _ _ 1 _ _ _ d2]; rfl
            have k2 : wr.cell? ⟨w.heap.size, 2, none⟩ = some (.string ⟨#[]⟩) := by rw [cell_of_row _ _ 2 _ _ _ d2]; rfl
            have k3 : wr.cell? ⟨w.heap.size, 3, none⟩ = some (.int .i64 0) := by rw [cell_of_row _ _ 3 _ _ _ d2]; rfl
            have rsf := fun (w : World) (a : Addr) (x : Nat) => run_store Tryz.prog w a (.float .f64 x) .plain rfl
            replace d2 := Lib.hid d2
            have hres2 := hres.out
            clear hL8 hall hcell
            generalize be8 L = U at *
            unfold fine64 at hres2
            cases ho : (FloatKind.f64.format.order U U == some Ordering.eq) with
            | true =>
              rw [ho] at hres2
              have hres3 : rdConst bs = some (numC U, r.drop 8) := hres2
              replace hres3 := Lib.hid hres3
              clear hres2 hres hk
              go_wp2_with (go_at_call 15; refine (hT.out _).mono ?_; rintro e y ⟨rfl, rfl⟩)
              obtain ⟨g1, g2, g3⟩ := set4 d2.out (numC U)
              refine bodyPost_ret (results_cell_row rfl _ _ w.heap.size 51 _ (0, 0) _ rfl g1 Tryz.underlying51 rfl infoVV) rfl ?_
              exact ⟨g2 _ w (Nat.le_refl _) (hkw.out _ hKK.out), .inl ⟨_, _, hres3.out, rfl, g3 rb _ _ (by have := hlr.out; omega) hR2⟩⟩
            | false =>
              rw [ho] at hres2
              by_cases hU : U = 9221120237041090560
              · have hz : ((U : Int) == 9221120237041090560) = true := by rw [hU]; rfl
                have hres3 : rdConst bs = some (numC U, r.drop 8) := by rw [hres2, hU]; rfl
                replace hres3 := Lib.hid hres3
                replace hU := Lib.hid hU
                clear hres2 hres hk
                go_wp2_with (go_at_call 15; refine (hT.out _).mono ?_; rintro e y ⟨rfl, rfl⟩)
                obtain ⟨g1, g2, g3⟩ := set4 d2.out (numC U)
                refine bodyPost_ret (results_cell_row rfl _ _ w.heap.size 51 _ (0, 0) _ rfl g1 Tryz.underlying51 rfl infoVV) rfl ?_
                exact ⟨g2 _ w (Nat.le_refl _) (hkw.out _ hKK.out), .inl ⟨_, _, hres3.out, rfl, g3 rb _ _ (by have := hlr.out; omega) hR2⟩⟩
              · have hz : ((U : Int) == 9221120237041090560) = false := by simp; omega
                have hb : (U == 9221120237041090560) = false := by simp; exact hU
                have hres3 : rdConst bs = none := by rw [hres2, hb]; rfl
                have hKw := hkw.out _ hKK.out
                replace hres3 := Lib.hid hres3
                replace hKw := Lib.hid hKw
                clear hres2 hres hk hb hU
                go_wp2_with (go_at_call 15; refine (hF.out _).mono ?_; rintro e y ⟨rfl, rfl⟩)
                exact ⟨rfl, hKw.out, .inr ⟨hres3.out, rfl⟩⟩
      · have hres : rdConst bs = none := by rw [hdef2.out]; dsimp only; rw [if_neg h8]
        have hTk := c_takeN hR 8 (by omega)
        have hKK := hkw.out _ hK
        replace hres := Lib.hid hres
        replace hKK := Lib.hid hKK
        replace hTk := Lib.hid hTk
        clear hR hdef2 h8
        go_wp2_with (go_at_call 22; refine hTk.out.mono ?_; rintro e y2 ⟨rfl, rfl⟩)
        exact ⟨rfl, hKK.out, .inr ⟨hres.out, rfl⟩⟩
  · have hres : rdConst bs = none := by rw [hdef.out, hn]
    have hKK := hkw.out _ hK
    replace hres := Lib.hid hres
    replace hKK := Lib.hid hKK
    clear hn hdef hN hK
    go_wp2
    exact ⟨rfl, hKK.out, .inr ⟨hres.out, rfl⟩⟩
end
end Go.Proofs.YtjjogaenejdliaaGreatDoor
namespace Go.Proofs.YtjjogaenejdliaaGreatDoor
open Go.RowKit Go.Lib
set_option maxHeartbeats 2000000
set_option maxRecDepth 100000

/-- several cells are set, one after the other -/
def setL : List Value → Nat → List Value → List Value
  | l, _, [] => l
  | l, o, v :: vs => setL (l.set o v) (o + 1) vs
theorem setL_len (l : List Value) (o : Nat) (vs : List Value) : (setL l o vs).length = l.length := by
  induction vs generalizing l o with
  | nil => rfl
  | cons v vs ih => rw [setL, ih]; simp
theorem setL_app (a l : List Value) (o : Nat) (vs : List Value) : setL (a ++ l) (a.length + o) vs = a ++ setL l o vs := by
  induction vs generalizing l o with
  | nil => rfl
  | cons v vs ih =>
    rw [setL, setL, List.set_append_right _ _ (by omega), show a.length + o - a.length = o by omega, Nat.add_assoc, ih]
theorem setL_front (a l vs : List Value) (h : a.length = vs.length) : setL (a ++ l) 0 vs = vs ++ l := by
  induction vs generalizing a with
  | nil => cases a <;> simp_all [setL]
  | cons v vs ih =>
    cases a with
    | nil => simp at h
    | cons x a =>
      rw [setL, List.cons_append, List.set_cons_zero]
      have := setL_app [v] (a ++ l) 0 vs
      rw [show ([v] : List Value).length + 0 = 0 + 1 by simp] at this
      rw [show (v :: (a ++ l)) = [v] ++ (a ++ l) from rfl, this, ih a (by simpa using h)]
      rfl
theorem fm_setL {α : Type} {enc : α → List Value} {k : Nat} (h : ∀ x, (enc x).length = k) {l : List α} : ∀ {i : Nat} {x' : α}, i < l.length → setL (l.flatMap enc) (i * k) (enc x') = (l.set i x').flatMap enc := by
  induction l with
  | nil => intro i x' hi; simp at hi
  | cons a l ih =>
    intro i x' hi
    cases i with
    | zero =>
      rw [List.set_cons_zero, List.flatMap_cons, List.flatMap_cons, Nat.zero_mul, setL_front _ _ _ (by rw [h, h])]
    | succ i =>
      rw [List.set_cons_succ, List.flatMap_cons, List.flatMap_cons, show (i + 1) * k = (enc a).length + i * k by rw [h, Nat.add_mul]; omega, setL_app, ih (by simpa using hi)]
theorem heap_setCells {b : Nat} {t : TypeId} : ∀ (vs : List Value) (o : Nat) (w : World) (cs : Array Value), w.heap[b]? = some (.cells cs t (0, 0)) → (w.setCells b o vs).heap[b]? = some (.cells (setL cs.toList o vs).toArray t (0, 0))
  | [], o, w, cs, h => by rw [World.setCells, setL]; exact h
  | v :: vs, o, w, cs, h => by
    rw [World.setCells, setL]
    have := heap_setCells vs (o + 1) _ _ (Go.heap_setCell_same w b o cs t v h)
    rwa [Array.toList_setIfInBounds] at this
theorem heap_setCells_all {b : Nat} {t : TypeId} {w : World} {cs : Array Value} {vs : List Value} (h : w.heap[b]? = some (.cells cs t (0, 0))) (hl : cs.size = vs.length) : (w.setCells b 0 vs).heap[b]? = some (.cells vs.toArray t (0, 0)) := by
  rw [heap_setCells vs 0 w cs h]
  have := setL_front cs.toList [] vs (by simpa using hl)
  simp at this
  rw [this]
theorem heap_setCells_ne {b r : Nat} : ∀ (vs : List Value) (o : Nat) (w : World), r ≠ b → (w.setCells b o vs).heap[r]? = w.heap[r]?
  | [], _, _, _ => rfl
  | v :: vs, o, w, h => by
    rw [World.setCells, heap_setCells_ne vs (o + 1) _ h, Below.heap_setCell _ _ _ _ h]
theorem size_setCellsH (b : Nat) : ∀ (vs : List Value) (o : Nat) (w : World), (w.setCells b o vs).heap.size = w.heap.size ∧ (w.setCells b o vs).os = w.os ∧ (w.setCells b o vs).tape = w.tape ∧ (w.setCells b o vs).output = w.output
  | [], _, _ => ⟨rfl, rfl, rfl, rfl⟩
  | v :: vs, o, w => by
    rw [World.setCells]
    have := size_setCellsH b vs (o + 1) (w.setCell ⟨b, o, none⟩ v)
    exact ⟨this.1.trans (by simp [World.setCell]), this.2.1, this.2.2.1, this.2.2.2⟩
theorem below_setC {B : Nat} {a w : World} (h : Below B a w) {b : Nat} (hb : B ≤ b) (vs : List Value) (o : Nat) : Below B a (w.setCells b o vs) := by
  obtain ⟨h1, h2, h3, h4⟩ := size_setCellsH b vs o w
  exact ⟨h2.trans h.os, h3.trans h.tape, h4.trans h.output, by rw [h1]; exact h.size, fun r hr => (heap_setCells_ne vs o w (by omega)).trans (h.block r hr)⟩
theorem there_of {w : World} {b o n : Nat} {cs : Array Value} {t : TypeId} (h : w.heap[b]? = some (.cells cs t (0, 0))) (hn : o + n ≤ cs.size) : w.there b o n := fun j hj => by
  refine ⟨?_, by simp [World.frozen?, h]⟩
  rw [cell_of_row w b (o + j) _ _ _ h]
  simp; omega
theorem fresh_set {w : World} {o : Array Value} {t : TypeId} {vs : List Value} (hl : o.size = vs.length) : Below w.heap.size w ((w.alloc (.cells o t)).setCells w.heap.size 0 vs) ∧ ((w.alloc (.cells o t)).setCells w.heap.size 0 vs).heap[w.heap.size]? = some (.cells vs.toArray t (0, 0)) ∧ ((w.alloc (.cells o t)).setCells w.heap.size 0 vs).heap.size = w.heap.size + 1 :=
  ⟨below_setC ((Below.refl _ w).alloc (Nat.le_refl _) _) (Nat.le_refl _) vs 0, heap_setCells_all (heap_alloc_new w _) hl, by rw [(size_setCellsH _ _ _ _).1]; simp⟩
theorem rangeL {y : World} {b : Nat} {t : TypeId} {xs : List Value} (h : y.heap[b]? = some (.cells xs.toArray t (0, 0))) : y.rangeAt b 0 xs := fun j v hv => by
  rw [Nat.zero_add, cell_of_row _ _ j _ _ _ h]
  simpa using hv
theorem range_at {w w' : World} {b o : Nat} {cs : List Value} (h : w.rangeAt b o cs) (hb : w'.heap[b]? = w.heap[b]?) : w'.rangeAt b o cs := fun j v hv => (World.cell?_of_block (w := w) (a := ⟨b, o + j, none⟩) hb).trans (h j v hv)
end Go.Proofs.YtjjogaenejdliaaGreatDoor
namespace Go.Proofs.YtjjogaenejdliaaGreatDoor
open Go.RowKit Go.Lib
set_option linter.unusedVariables false
set_option linter.unusedSimpArgs false
set_option maxHeartbeats 4000000
set_option maxRecDepth 1000000

/-- names and letters -/
def opsT : List (ByteArray × ByteArray) := [(⟨#[76, 111, 97, 100]⟩, ⟨#[114, 110]⟩), (⟨#[67, 111, 110, 115, 116]⟩, ⟨#[114, 107]⟩), (⟨#[77, 111, 118, 101]⟩, ⟨#[114, 114]⟩), (⟨#[84, 104, 105, 115]⟩, ⟨#[114]⟩), (⟨#[67, 97, 108, 108, 101, 101]⟩, ⟨#[114]⟩), (⟨#[71, 108, 111, 98, 97, 108]⟩, ⟨#[114, 115]⟩), (⟨#[84, 114, 121]⟩, ⟨#[114, 115]⟩), (⟨#[65, 115, 115, 105, 103, 110]⟩, ⟨#[115, 114]⟩), (⟨#[67, 101, 108, 108]⟩, ⟨#[114, 114]⟩), (⟨#[80, 101, 101, 107]⟩, ⟨#[114, 114]⟩), (⟨#[80, 111, 107, 101]⟩, ⟨#[114, 114]⟩), (⟨#[85, 112]⟩, ⟨#[114, 117]⟩), (⟨#[85, 112, 83, 101, 116]⟩, ⟨#[117, 114]⟩), (⟨#[65, 115, 107]⟩, ⟨#[114, 115]⟩), (⟨#[70, 105, 120, 101, 100]⟩, ⟨#[115]⟩), (⟨#[67, 108, 111, 115, 117, 114, 101]⟩, ⟨#[114, 102]⟩), (⟨#[74, 117, 109, 112]⟩, ⟨#[116]⟩), (⟨#[73, 102]⟩, ⟨#[114, 116]⟩), (⟨#[78, 111, 116]⟩, ⟨#[114, 116]⟩), (⟨#[83, 97, 109, 101]⟩, ⟨#[114, 110, 116]⟩), (⟨#[79, 98, 106, 101, 99, 116]⟩, ⟨#[114]⟩), (⟨#[65, 114, 114, 97, 121]⟩, ⟨#[114]⟩), (⟨#[76, 105, 115, 116]⟩, ⟨#[114]⟩), (⟨#[80, 117, 115, 104]⟩, ⟨#[114, 114]⟩), (⟨#[83, 112, 114, 101, 97, 100]⟩, ⟨#[114, 114]⟩), (⟨#[80, 117, 116]⟩, ⟨#[114, 114, 114]⟩), (⟨#[71, 101, 116, 116, 101, 114]⟩, ⟨#[114, 114, 114]⟩), (⟨#[83, 101, 116, 116, 101, 114]⟩, ⟨#[114, 114, 114]⟩), (⟨#[71, 101, 116]⟩, ⟨#[114, 114, 114]⟩), (⟨#[83, 101, 116]⟩, ⟨#[114, 114, 114]⟩), (⟨#[68, 101, 108, 101, 116, 101]⟩, ⟨#[114, 114, 114]⟩), (⟨#[75, 101, 121]⟩, ⟨#[114, 114]⟩), (⟨#[67, 97, 108, 108]⟩, ⟨#[114, 114, 114, 114]⟩), (⟨#[78, 101, 119]⟩, ⟨#[114, 114, 114]⟩), (⟨#[82, 101, 116, 117, 114, 110]⟩, ⟨#[114]⟩), (⟨#[84, 104, 114, 111, 119]⟩, ⟨#[114]⟩), (⟨#[75, 101, 121, 115]⟩, ⟨#[114, 114]⟩), (⟨#[78, 101, 120, 116]⟩, ⟨#[114, 114, 116]⟩), (⟨#[73, 116, 101, 114]⟩, ⟨#[114, 114]⟩), (⟨#[83, 116, 101, 112]⟩, ⟨#[114, 114, 116]⟩), (⟨#[67, 108, 111, 115, 101]⟩, ⟨#[114]⟩), (⟨#[81, 117, 105, 101, 116]⟩, ⟨#[114]⟩), (⟨#[84, 101, 120, 116]⟩, ⟨#[114, 114]⟩), (⟨#[68, 111, 110, 101]⟩, ⟨#[114]⟩), (⟨#[80, 108, 117, 115]⟩, ⟨#[114, 114]⟩), (⟨#[77, 105, 110, 117, 115]⟩, ⟨#[114, 114]⟩), (⟨#[70, 108, 105, 112]⟩, ⟨#[114, 114]⟩), (⟨#[66, 97, 110, 103]⟩, ⟨#[114, 114]⟩), (⟨#[84, 121, 112, 101]⟩, ⟨#[114, 114]⟩)]
def flatO (l : List (ByteArray × ByteArray)) : List Value := l.flatMap fun x => [.string x.1, .string x.2]
theorem infoOps : (Tryz.prog.info? 115).map (·.size) = some 98 := by kernel_rfl
theorem opsOne : ((flatO opsT).toArray).all (·.oneCell') = true := by decide +kernel
theorem opsSize : (flatO opsT).toArray.size = 98 := by decide +kernel
theorem zeroOps (w : World) : (w.alloc (.cells Tryz.zeroCells115 115)).there w.heap.size 0 (flatO opsT).toArray.size := by
  rw [opsSize]
  exact there_of (heap_alloc_new w _) (by decide +kernel)
theorem c_ops (w : World) : Calls Tryz.prog 61 #[] w fun e w' => e = .returned (.agg (flatO opsT).toArray) ∧ Below w.heap.size w w' := by
  have hi : (Tryz.prog.info? 115).map (·.size) = some (flatO opsT).toArray.size := by rw [opsSize]; exact infoOps
  have hth := zeroOps w
  have ho := opsOne
  obtain ⟨hb, hd, _⟩ := fresh_set (w := w) (o := Tryz.zeroCells115) (t := 115) (vs := flatO opsT) (by decide +kernel)
  replace hb := Lib.hid hb
  replace hd := Lib.hid hd
  go_enter Tryz.func61, Tryz.ntmps61
  go_wp2_with (refine wpList_store_mid rfl 115 (.tmp 0) (.tmp 50) rfl w.heap.size 0 (flatO opsT).toArray rfl (by kernel_rfl) hth hi ho ?_)
  refine bodyPost_ret (results_cell_row rfl _ _ w.heap.size 115 _ (0, 0) _ rfl hd.out Tryz.underlying115 rfl hi) rfl ?_
  exact ⟨rfl, hb.out⟩
end Go.Proofs.YtjjogaenejdliaaGreatDoor
namespace Go.Proofs.YtjjogaenejdliaaGreatDoor
open Go.RowKit Go.Lib
set_option linter.unusedVariables false
set_option linter.unusedSimpArgs false
set_option maxHeartbeats 4000000
set_option maxRecDepth 1000000

/-- the library's table of blanks -/
def Spc (w : World) : Prop := ∀ c : Nat, c < 256 → w.cell? ⟨0, c, none⟩ = some (.int .u8 (if Lib.isSp (UInt8.ofNat c) then 1 else 0))
theorem Spc.keep {w w' : World} (h : Spc w) (hb : Below w.heap.size w w') : Spc w' := fun c hc => (hb.cell (p := ⟨0, c, none⟩) (cell_lt (h c hc))).trans (h c hc)
theorem Spc.kb {w w' : World} {ex : Nat → Prop} (h : Spc w) (hk : KB ex w w') (hx : ¬ ex 0) : Spc w' := fun c hc => hk.cell (p := ⟨0, c, none⟩) hx (h c hc)
def binB : ByteArray := ⟨([43, 32, 45, 32, 42, 32, 47, 32, 37, 32, 42, 42, 32, 60, 60, 32, 62, 62, 32, 62, 62, 62, 32, 38, 32, 124, 32, 94, 32, 60, 32, 62, 32].append [60, 61, 32, 62, 61, 32, 61, 61, 32, 33, 61, 32, 61, 61, 61, 32, 33, 61, 61, 32, 105, 110, 32, 105, 110, 115, 116, 97, 110, 99, 101, 111, 102]).toArray⟩
def rrrB : ByteArray := ⟨#[114, 114, 114]⟩
def binL : List ByteArray := (Lib.fields binB.data.toList).map fun l => ⟨l.toArray⟩
theorem binL_len : (Lib.fields binB.data.toList).length = 22 := by decide +kernel
/-- an instruction's name, and its letters -/
def nmT (op : Nat) : ByteArray := if op < 49 then (opsT.getD op (⟨#[]⟩, ⟨#[]⟩)).1 else binL.getD (op - 49) ⟨#[]⟩
def ltT (op : Nat) : ByteArray := if op < 49 then (opsT.getD op (⟨#[]⟩, ⟨#[]⟩)).2 else rrrB
theorem ltT_len : ∀ op : Fin 71, (ltT op.val).size = nlOf op.val := by decide +kernel
theorem flatO_len : ∀ l : List (ByteArray × ByteArray), (flatO l).length = l.length * 2
  | [] => rfl
  | x :: l => by
    have := flatO_len l
    show (Value.string x.1 :: Value.string x.2 :: flatO l).length = _
    simp [this]; omega
theorem flatO_at : ∀ (l : List (ByteArray × ByteArray)) (i : Nat) (x : ByteArray × ByteArray), l[i]? = some x → (flatO l)[i * 2]? = some (.string x.1) ∧ (flatO l)[i * 2 + 1]? = some (.string x.2)
  | [], i, x, h => by simp at h
  | a :: l, 0, x, h => by
    obtain rfl : a = x := by simpa using h
    exact ⟨rfl, rfl⟩
  | a :: l, i + 1, x, h => by
    have := flatO_at l i x (by simpa using h)
    have e : flatO (a :: l) = .string a.1 :: .string a.2 :: flatO l := rfl
    rw [e, show (i + 1) * 2 = i * 2 + 1 + 1 by omega]
    simpa using this
theorem opsT_len : opsT.length = 49 := by decide +kernel
theorem infoOpT : (Tryz.prog.info? 75).map (·.size) = some 2 := by kernel_rfl
theorem results_cell_tmp_op {fn : Func} {p u : Tmp} (h : fn.results = #[.cell p 75, .tmp u]) (tmps : Array Value) (w : World) (g : Nat) (t : TypeId) (cs : Array Value) (fr : Nat × Nat) (x : Value)
    (hp : tmps.getD p undef = .pointer (some ⟨g, 0, none⟩)) (hx : tmps.getD u undef = x) (hg : w.heap[g]? = some (.cells cs t fr)) (hi : (Tryz.prog.info? 75).map (·.size) = some cs.size) :
    (results fn tmps).run Tryz.prog w = .ok (.tuple #[.agg cs, x]) w := by
  have hl := run_loadVar_row (P := Tryz.prog) w g t 75 cs fr _ hg Tryz.underlying75 rfl hi
  rw [results_cell_tmp h, hp, hx]
  simp [asAddr, hl, Result.andThen]
def findV (op : Int) : Value := if 0 ≤ op ∧ op ≤ 70 then .tuple #[.agg #[.string (nmT op.toNat), .string (ltT op.toNat)], .bool true] else .tuple #[.agg #[.string ⟨#[]⟩, .string ⟨#[]⟩], .bool false]
/-- an instruction's two cells are laid -/
theorem set2 {y : World} {b : Nat} {a0 a1 : ByteArray} (h : y.heap[b]? = some (.cells #[.string a0, .string a1] 75 (0, 0))) (n l : ByteArray) :
    ((y.setCell ⟨b, 0, none⟩ (.string n)).setCell ⟨b, 1, none⟩ (.string l)).heap[b]? = some (.cells #[.string n, .string l] 75 (0, 0)) ∧
    (∀ (w : World), w.heap.size ≤ b → Below w.heap.size w y → Below w.heap.size w ((y.setCell ⟨b, 0, none⟩ (.string n)).setCell ⟨b, 1, none⟩ (.string l))) := by
  have h1 := heap_setCell_same y b 0 _ _ (.string n) h
  exact ⟨heap_setCell_same _ b 1 _ _ (.string l) h1, fun w hw hB => (hB.setCell (p := ⟨b, 0, none⟩) hw _).setCell (p := ⟨b, 1, none⟩) hw _⟩
theorem binB_ascii : ∀ x ∈ binB.data.toList, x.toNat < 128 := by decide +kernel
theorem c_FieldsB (y : World) (hy : Spc y) : Calls Tryz.prog 62 #[.string binB] y fun e w' => e = .returned (.slice (some ⟨y.heap.size, 0, none⟩) 22 22) ∧ w'.heap[y.heap.size]? = some (.cells (binL.map Value.string).toArray 9 (0, 0)) ∧ Below y.heap.size y w' := by
  have hc := c_Fields (by kernel_rfl) binB y (by decide +kernel) (fun j b hb => binB_ascii b (List.mem_of_getElem? hb)) hy
  rw [binL_len] at hc
  refine hc.mono ?_
  rintro e w' ⟨rfl, rfl⟩
  refine ⟨rfl, ?_, (Below.refl _ y).alloc (Nat.le_refl _) _⟩
  have e : ((Lib.fields binB.data.toList).map fun l => Value.string ⟨l.toArray⟩) = binL.map Value.string := by unfold binL; rw [List.map_map]; rfl
  rw [e]
  exact heap_alloc_new y _
theorem c_find (op : Int) (w : World) (hS : Spc w) : Calls Tryz.prog 28 #[.int .i64 op] w fun e w' => e = .returned (findV op) ∧ Below w.heap.size w w' := by
  have hO := fun (y : World) => c_ops y
  have hi98 : (Tryz.prog.info? 115).map (·.size) = some (flatO opsT).toArray.size := by rw [opsSize]; exact infoOps
  have hth := fun (y : World) => zeroOps y
  have ho98 := opsOne
  have hset := fun (y : World) => (fresh_set (w := y) (o := Tryz.zeroCells115) (t := 115) (vs := flatO opsT) (by decide +kernel))
  obtain ⟨W1, hW1⟩ : ∃ W1, w.alloc (.cells #[.string ⟨#[]⟩, .string ⟨#[]⟩] 75) = W1 := ⟨_, rfl⟩
  have hb1 : Below w.heap.size w W1 := by rw [← hW1]; exact (Below.refl _ w).alloc (Nat.le_refl _) _
  have d1 : W1.heap[w.heap.size]? = some (.cells #[.string ⟨#[]⟩, .string ⟨#[]⟩] 75 (0, 0)) := by rw [← hW1]; exact heap_alloc_new w _
  have hk1 : ∀ y, Below W1.heap.size W1 y → y.heap[w.heap.size]? = some (.cells #[.string ⟨#[]⟩, .string ⟨#[]⟩] 75 (0, 0)) := fun y hy => (hy.block _ (row_lt d1)).trans d1
  obtain ⟨T, hT⟩ : ∃ T, flatO opsT = T := ⟨_, rfl⟩
  simp only [hT] at hO hi98 hth ho98 hset
  have hT' := Lib.hid hT
  clear hT
  replace hO := Lib.hid hO
  replace hset := Lib.hid hset
  replace hk1 := Lib.hid hk1
  replace hb1 := Lib.hid hb1
  replace hS := Lib.hid hS
  clear d1
  have tokA : True := trivial
  go_enter Tryz.func28, Tryz.ntmps28
  go_upto_region 2 with (first | (go_at_call 61; refine (hO.out _).mono ?_; rintro e y1 ⟨rfl, hb2⟩; have hth1 := hth y1; obtain ⟨hs1, hs2, _⟩ := hset.out y1) | (clear tokA; refine wpList_store_mid rfl 115 (.tmp 4) (.tmp 5) rfl y1.heap.size 0 T.toArray rfl rfl hth1 hi98 ho98 ?_; generalize hW3 : World.setCells _ _ _ _ = W3; rw [show (y1.alloc (.cells Tryz.zeroCells115 115)).setCells y1.heap.size 0 T = W3 from hW3] at hs1 hs2; clear hW3 hth1))
  have hB3 := hb2.trans (hs1.mono hb2.size)
  have hBw := hb1.out.trans (hB3.mono hb1.out.size)
  have d3 := hk1.out W3 hB3
  have hne : w.heap.size ≠ y1.heap.size := by
    have h1 := row_lt (hk1.out y1 hb2)
    omega
  obtain ⟨f0, f1⟩ : (W3.frozen? ⟨w.heap.size, 0, none⟩ = false ∧ W3.frozen? ⟨w.heap.size, 1, none⟩ = false) := by simp [World.frozen?, d3]
  have k0 : W3.cell? ⟨w.heap.size, 0, none⟩ = some (.string ⟨#[]⟩) := by rw [cell_of_row _ _ 0 _ _ _ d3]; rfl
  have k1 : W3.cell? ⟨w.heap.size, 1, none⟩ = some (.string ⟨#[]⟩) := by rw [cell_of_row _ _ 1 _ _ _ d3]; rfl
  have hd3 := Lib.hid d3
  replace hBw := Lib.hid hBw
  have hs2' := Lib.hid hs2
  clear hth hi98 ho98 hset hs1 hb2 d3 hs2
  by_cases hin : 0 ≤ op ∧ op ≤ 70
  · have hv : findV op = .tuple #[.agg #[.string (nmT op.toNat), .string (ltT op.toNat)], .bool true] := by unfold findV; rw [if_pos hin]
    obtain ⟨n, rfl⟩ := Int.eq_ofNat_of_zero_le hin.1
    have hn : n ≤ 70 := by omega
    have e1 : ((n : Int)).toNat = n := by omega
    rw [e1] at hv
    replace hv := Lib.hid hv
    clear hin e1
    have p0 : (0 : Int) ≤ (n : Int) := by omega
    have p1 : (n : Int) ≤ 70 := by omega
    by_cases h49 : n < 49
    · obtain ⟨x, hx⟩ : ∃ x, opsT[n]? = some x := ⟨_, List.getElem?_eq_getElem (by rw [opsT_len]; exact h49)⟩
      have hnm : nmT n = x.1 := by unfold nmT; rw [if_pos h49, List.getD_eq_getElem?_getD, hx]; rfl
      have hlt : ltT n = x.2 := by unfold ltT; rw [if_pos h49, List.getD_eq_getElem?_getD, hx]; rfl
      have hv2 := hv.out
      rw [hnm, hlt] at hv2
      replace hv2 := Lib.hid hv2
      obtain ⟨g1, g2⟩ := flatO_at opsT n x hx
      rw [hT'.out] at g1 g2
      have t0 : W3.cell? ⟨y1.heap.size, n * 2, none⟩ = some (.string x.1) := by rw [cell_of_row _ _ _ _ _ _ hs2'.out]; simpa using g1
      have t1 : W3.cell? ⟨y1.heap.size, n * 2 + 1, none⟩ = some (.string x.2) := by rw [cell_of_row _ _ _ _ _ _ hs2'.out]; simpa using g2
      have p2 : (n : Int) < 49 := by omega
      clear g1 g2 hnm hlt hx
      go_wp2
      obtain ⟨g1, g2⟩ := set2 hd3.out x.1 x.2
      refine bodyPost_ret (results_cell_tmp_op rfl _ _ w.heap.size 75 _ (0, 0) (.bool true) rfl rfl g1 infoOpT) rfl ?_
      exact ⟨by rw [hv2.out], g2 w (Nat.le_refl _) hBw.out⟩
    · have hnm : nmT n = binL.getD (n - 49) ⟨#[]⟩ := by unfold nmT; rw [if_neg h49]
      have hlt : ltT n = rrrB := by unfold ltT; rw [if_neg h49]
      have hv2 := hv.out
      rw [hnm, hlt] at hv2
      replace hv2 := Lib.hid hv2
      have hF := fun (y : World) (hy : Spc y) => c_FieldsB y hy
      have hS3 := hS.out.keep hBw.out
      obtain ⟨m, rfl⟩ : ∃ m, n = m + 49 := ⟨n - 49, by omega⟩
      rw [Nat.add_sub_cancel] at hv2
      have hm : m < 22 := by omega
      have hml : m < binL.length := by unfold binL; rw [List.length_map, binL_len]; exact hm
      obtain ⟨x, hx⟩ : ∃ x, binL[m]? = some x := ⟨_, List.getElem?_eq_getElem hml⟩
      have hcell : ∀ (y : World) (g : Nat), y.heap[g]? = some (.cells (binL.map Value.string).toArray 9 (0, 0)) → y.cell? ⟨g, m, none⟩ = some (.string x) := fun y g hy => by
        rw [cell_of_row _ _ _ _ _ _ hy]
        simp [hx]
      have hv3 : findV ((m + 49 : Nat) : Int) = .tuple #[.agg #[.string x, .string rrrB], .bool true] := by rw [hv2.out, List.getD_eq_getElem?_getD, hx]; rfl
      have p2 : ¬ ((m : Int) + 49 < 49) := by omega
      have p3 : (0 : Int) ≤ (m : Int) := by omega
      have p4 : (m : Int) < 22 := by omega
      replace hF := Lib.hid hF
      replace hv3 := Lib.hid hv3
      replace hcell := Lib.hid hcell
      replace hS3 := Lib.hid hS3
      clear hnm hlt hv hv2 hx hml
      go_wp2_with (go_at_call 62; refine (hF.out _ hS3.out).mono ?_; rintro e y4 ⟨rfl, hy4, hb4⟩; have c4 := hcell.out y4 _ hy4; replace hy4 := Lib.hid hy4; have d4 := (hb4.block _ (row_lt hd3.out)).trans hd3.out; clear f0 f1 k0 k1; obtain ⟨f0, f1⟩ : (y4.frozen? ⟨w.heap.size, 0, none⟩ = false ∧ y4.frozen? ⟨w.heap.size, 1, none⟩ = false) := (by simp [World.frozen?, d4]); have k0 : y4.cell? ⟨w.heap.size, 0, none⟩ = some (.string ⟨#[]⟩) := (by rw [cell_of_row _ _ 0 _ _ _ d4]; rfl); have k1 : y4.cell? ⟨w.heap.size, 1, none⟩ = some (.string ⟨#[]⟩) := (by rw [cell_of_row _ _ 1 _ _ _ d4]; rfl); replace d4 := Lib.hid d4)
      obtain ⟨g1, g2⟩ := set2 d4.out x rrrB
      refine bodyPost_ret (results_cell_tmp_op rfl _ _ w.heap.size 75 _ (0, 0) (.bool true) rfl rfl g1 infoOpT) rfl ?_
      exact ⟨by rw [hv3.out], g2 w (Nat.le_refl _) (hBw.out.trans (hb4.mono hBw.out.size))⟩
  · have hv : findV op = .tuple #[.agg #[.string ⟨#[]⟩, .string ⟨#[]⟩], .bool false] := by unfold findV; rw [if_neg hin]
    replace hv := Lib.hid hv
    by_cases h0 : op < 0
    · clear hin
      go_wp2
      obtain ⟨g1, g2⟩ := set2 hd3.out ⟨#[]⟩ ⟨#[]⟩
      refine bodyPost_ret (results_cell_tmp_op rfl _ _ w.heap.size 75 _ (0, 0) (.bool false) rfl rfl g1 infoOpT) rfl ?_
      exact ⟨by rw [hv.out], g2 w (Nat.le_refl _) hBw.out⟩
    · have h70 : (70 : Int) < op := by omega
      have h00 : (0 : Int) ≤ op := by omega
      clear hin h0
      go_wp2
      obtain ⟨g1, g2⟩ := set2 hd3.out ⟨#[]⟩ ⟨#[]⟩
      refine bodyPost_ret (results_cell_tmp_op rfl _ _ w.heap.size 75 _ (0, 0) (.bool false) rfl rfl g1 infoOpT) rfl ?_
      exact ⟨by rw [hv.out], g2 w (Nat.le_refl _) hBw.out⟩
end Go.Proofs.YtjjogaenejdliaaGreatDoor
namespace Go.Proofs.YtjjogaenejdliaaGreatDoor
open Go.RowKit Go.Lib
set_option linter.unusedVariables false
set_option linter.unusedSimpArgs false
set_option maxHeartbeats 2000000
set_option maxRecDepth 100000

/-- a block becomes another thing -/
def putO (w : World) (b : Nat) (o : Obj) : World := { w with heap := w.heap.setIfInBounds b o }
theorem putO_same {w : World} {b : Nat} {o o' : Obj} (h : w.heap[b]? = some o) : (putO w b o').heap[b]? = some o' := by
  have := row_lt h
  unfold putO
  simp [this]
theorem putO_ne {w : World} {b r : Nat} {o : Obj} (h : r ≠ b) : (putO w b o).heap[r]? = w.heap[r]? := by
  unfold putO
  simp only [Array.getElem?_setIfInBounds]
  rw [if_neg (fun e => h e.symm)]
theorem putO_size (w : World) (b : Nat) (o : Obj) : (putO w b o).heap.size = w.heap.size := by unfold putO; simp
theorem KB.putO {ex : Nat → Prop} {w y : World} (h : KB ex w y) {b : Nat} {o : Obj} (hb : w.heap.size ≤ b) : KB ex w (putO y b o) := ⟨h.os, h.tape, h.output, by rw [putO_size]; exact h.size, fun r hr hn => (putO_ne (by omega)).trans (h.block r hr hn)⟩
theorem run_next_at (w : World) (ib : Nat) (s : ByteArray) (pos : Nat) (ty : TypeId) (hh : w.heap[ib]? = some (.stringIter s pos)) (h : pos < s.size) :
    (Instr.next (.pointer (some ⟨ib, 0, none⟩)) true ty).run Tryz.prog w = .ok (.tuple #[.bool true, .int .i64 pos, .int .i32 (Utf8.decode s pos).1]) (putO w ib (.stringIter s (pos + (Utf8.decode s pos).2))) := by
  simp [Instr.next, getObj, setObj, Sem.run, Result.andThen, hh, h, putO, goInt]
theorem run_next_no (w : World) (ib : Nat) (s : ByteArray) (pos : Nat) (ty : TypeId) (hh : w.heap[ib]? = some (.stringIter s pos)) (h : ¬ pos < s.size) :
    (Instr.next (.pointer (some ⟨ib, 0, none⟩)) true ty).run Tryz.prog w = .ok (.tuple #[.bool false]) w := by
  simp [Instr.next, getObj, Sem.run, hh, h]
theorem decode_one (s : ByteArray) (pos : Nat) (h : pos < s.size) (ha : ∀ x ∈ s.data.toList, x.toNat < 128) : (Utf8.decode s pos).2 = 1 := by
  have hx : (s[pos]'h).toNat < 128 := ha _ (by
    have : s.data.toList[pos]? = some (s[pos]'h) := Lib.data_getElem? s pos h
    exact List.mem_of_getElem? this)
  rw [decode_ascii s pos h hx]
theorem ltT_ascii : ∀ op : Fin 71, ∀ x ∈ (ltT op.val).data.toList, x.toNat < 128 := by decide +kernel
def encI (i : IV) : List Value := [.int .i64 i.op, .int .i64 i.a, .int .i64 i.b, .int .i64 i.c, .int .i64 i.d]
theorem infoIns : (Tryz.prog.info? 40).map (·.size) = some 5 := by kernel_rfl
/-- an instruction of which some operands have come -/
def insR (op : Nat) (acc : List Nat) : List Value := [.int .i64 (op : Int), .int .i64 ((acc.getD 0 0 : Nat) : Int), .int .i64 ((acc.getD 1 0 : Nat) : Int), .int .i64 ((acc.getD 2 0 : Nat) : Int), .int .i64 ((acc.getD 3 0 : Nat) : Int)]
theorem ltT_size (op : Nat) (h : op ≤ 70) : (ltT op).size = nlOf op := ltT_len ⟨op, by omega⟩
section
variable {rb bb : Nat} {w w' : World} {bs : List Nat}
theorem noU8 {y : World} {b : Nat} {cs : Array Value} {t : TypeId} {f : Nat × Nat} (h : y.heap[b]? = some (.cells cs t f)) (hc : ∀ v ∈ cs.toList, ∀ x, v ≠ .int .u8 x) : ∀ (o : Nat) (x : Int), y.cell? ⟨b, o, none⟩ ≠ some (.int .u8 x) := fun o x he => by
  rw [cell_of_row _ _ o _ _ _ h] at he
  exact hc _ (Array.mem_toList_iff.2 (Array.mem_of_getElem? he)) x rfl
/-- five whole numbers are laid -/
theorem set5 {y : World} {b : Nat} {a0 a1 a2 a3 a4 : Int} (h : y.heap[b]? = some (.cells #[.int .i64 a0, .int .i64 a1, .int .i64 a2, .int .i64 a3, .int .i64 a4] 40 (0, 0))) (i : IV) :
    (((((y.setCell ⟨b, 0, none⟩ (.int .i64 i.op)).setCell ⟨b, 1, none⟩ (.int .i64 i.a)).setCell ⟨b, 2, none⟩ (.int .i64 i.b)).setCell ⟨b, 3, none⟩ (.int .i64 i.c)).setCell ⟨b, 4, none⟩ (.int .i64 i.d)).heap[b]? = some (.cells (encI i).toArray 40 (0, 0)) ∧
    (∀ (ex : Nat → Prop) (w : World), w.heap.size ≤ b → KB ex w y → KB ex w (((((y.setCell ⟨b, 0, none⟩ (.int .i64 i.op)).setCell ⟨b, 1, none⟩ (.int .i64 i.a)).setCell ⟨b, 2, none⟩ (.int .i64 i.b)).setCell ⟨b, 3, none⟩ (.int .i64 i.c)).setCell ⟨b, 4, none⟩ (.int .i64 i.d))) ∧
    (∀ rb bb r, b ≠ rb → RS rb bb y r → RS rb bb (((((y.setCell ⟨b, 0, none⟩ (.int .i64 i.op)).setCell ⟨b, 1, none⟩ (.int .i64 i.a)).setCell ⟨b, 2, none⟩ (.int .i64 i.b)).setCell ⟨b, 3, none⟩ (.int .i64 i.c)).setCell ⟨b, 4, none⟩ (.int .i64 i.d)) r) := by
  have h1 := heap_setCell_same y b 0 _ _ (.int .i64 i.op) h
  have h2 := heap_setCell_same _ b 1 _ _ (.int .i64 i.a) h1
  have h3 := heap_setCell_same _ b 2 _ _ (.int .i64 i.b) h2
  have h4 := heap_setCell_same _ b 3 _ _ (.int .i64 i.c) h3
  refine ⟨heap_setCell_same _ b 4 _ _ (.int .i64 i.d) h4, fun ex w hw hK => ((((hK.set hw).set hw).set hw).set hw).set hw, fun rb bb r hb hR => hR.other hb (noU8 h (fun v hv x => ?_)) (fun r' hr => ?_)⟩
  · simp at hv
    rcases hv with rfl | rfl | rfl | rfl | rfl <;> simp
  · rw [Below.heap_setCell _ _ _ _ hr, Below.heap_setCell _ _ _ _ hr, Below.heap_setCell _ _ _ _ hr, Below.heap_setCell _ _ _ _ hr, Below.heap_setCell _ _ _ _ hr]
theorem insR_next {op : Nat} {acc : List Nat} (h : acc.length < 4) (n : Nat) : insR op (acc ++ [n]) = (insR op acc).set (acc.length + 1) (.int .i64 (n : Int)) := by
  rcases acc with _ | ⟨a, _ | ⟨b, _ | ⟨c, _ | ⟨d, acc⟩⟩⟩⟩
  · rfl
  · rfl
  · rfl
  · rfl
  · simp at h; omega
theorem insR_no (op : Nat) (acc : List Nat) : ∀ v ∈ (insR op acc).toArray.toList, ∀ x, v ≠ .int .u8 x := fun v hv x => by
  simp [insR] at hv
  rcases hv with rfl | rfl | rfl | rfl | rfl <;> simp
theorem c_rins (h : RS rb bb w bs) (hS : Spc w) (hrb : rb ≠ 0) : Calls Tryz.prog 51 #[.pointer (some ⟨rb, 0, none⟩)] w fun e w' => KB (fun r => r = rb) w w' ∧ ((∃ v r, rdIns bs = some (v, r) ∧ e = .returned (.agg (encI v).toArray) ∧ RS rb bb w' r) ∨ (rdIns bs = none ∧ e = .panicked wrongV)) := by
  obtain ⟨W1, hW1⟩ : ∃ W1, w.alloc (.cells #[.int .i64 0, .int .i64 0, .int .i64 0, .int .i64 0, .int .i64 0] 40) = W1 := ⟨_, rfl⟩
  have hb1 : Below w.heap.size w W1 := by rw [← hW1]; exact (Below.refl _ w).alloc (Nat.le_refl _) _
  have d1 : W1.heap[w.heap.size]? = some (.cells #[.int .i64 0, .int .i64 0, .int .i64 0, .int .i64 0, .int .i64 0] 40 (0, 0)) := by rw [← hW1]; exact heap_alloc_new w _
  have hR1 := h.below hb1
  have hlr := h.lt
  have hT := fun (w : World) => c_mustT w
  have hF := fun (w : World) => c_mustF w
  have hN := c_rnum hR1
  have hdef : rdIns bs = match rdNum bs with
      | none => none
      | some (op, r) => if op ≤ 70 then (match rdTimes rdNum (nlOf op) r with
        | none => none
        | some (l, r) => some (⟨(op : Int), ((l.getD 0 0 : Nat) : Int), ((l.getD 1 0 : Nat) : Int), ((l.getD 2 0 : Nat) : Int), ((l.getD 3 0 : Nat) : Int)⟩, r)) else none := rfl
  have hkw : ∀ y, KB (fun r => r = rb) W1 y → KB (fun r => r = rb) w y := fun y hy => (KB.of_below hb1).trans hy
  have hS1 := hS.keep hb1
  have hfd := fun (op : Int) (y : World) (hy : KB (fun r => r = rb) W1 y) => c_find op y (hS1.kb hy (fun e => hrb e.symm))
  replace hT := Lib.hid hT
  replace hF := Lib.hid hF
  replace hN := Lib.hid hN
  replace hdef := Lib.hid hdef
  replace hkw := Lib.hid hkw
  replace hfd := Lib.hid hfd
  have hlr' := Lib.hid hlr
  replace d1 := Lib.hid d1
  replace hb1 := Lib.hid hb1
  clear h hR1 hS hS1 hlr
  go_enter Tryz.func51, Tryz.ntmps51
  go_wp2_with fail
  refine hN.out.mono ?_
  rintro e y ⟨hK, ⟨op, r, hn, rfl, hR⟩ | ⟨hn, rfl⟩⟩
  · have hdef2 := hdef.out
    rw [hn] at hdef2
    replace hdef2 := Lib.hid hdef2
    obtain ⟨W3, hW3⟩ : ∃ W3, y.alloc (.cells #[.int .i64 (op : Int), .int .i64 0, .int .i64 0, .int .i64 0, .int .i64 0] 40) = W3 := ⟨_, rfl⟩
    have hb3 : Below y.heap.size y W3 := by rw [← hW3]; exact (Below.refl _ y).alloc (Nat.le_refl _) _
    have d3 : W3.heap[y.heap.size]? = some (.cells #[.int .i64 (op : Int), .int .i64 0, .int .i64 0, .int .i64 0, .int .i64 0] 40 (0, 0)) := by rw [← hW3]; exact heap_alloc_new y _
    have hK3 := hK.trans (KB.of_below hb3)
    have hR3 := hR.below hb3
    have hFd := hfd.out (op : Int) W3 hK3
    have k0 : W3.cell? ⟨y.heap.size, 0, none⟩ = some (.int .i64 (op : Int)) := by rw [cell_of_row _ _ 0 _ _ _ d3]; rfl
    replace d3 := Lib.hid d3
    replace hK3 := Lib.hid hK3
    replace hR3 := Lib.hid hR3
    replace hFd := Lib.hid hFd
    have hKy := Lib.hid hK
    clear hn hN hdef hK hR hb3 k0
    subst hW3
    by_cases h70 : op ≤ 70
    · have hv : findV (op : Int) = .tuple #[.agg #[.string (nmT op), .string (ltT op)], .bool true] := by
        unfold findV
        rw [if_pos ⟨by omega, by omega⟩]
        rfl
      rw [hv] at hFd
      have hsz := ltT_size op h70
      have hasc := ltT_ascii ⟨op, by omega⟩
      simp only at hasc
      have hres : rdIns bs = match rdTimes rdNum (nlOf op) r with
        | none => none
        | some (l, r) => some (⟨(op : Int), ((l.getD 0 0 : Nat) : Int), ((l.getD 1 0 : Nat) : Int), ((l.getD 2 0 : Nat) : Int), ((l.getD 3 0 : Nat) : Int)⟩, r) := by rw [hdef2.out]; dsimp only; rw [if_pos h70]
      have h4 := nlOf_le op h70
      generalize nmT op = nm at *
      generalize ltT op = lt at *
      generalize nlOf op = L at *
      replace hsz := Lib.hid hsz
      replace hasc := Lib.hid hasc
      replace hres := Lib.hid hres
      replace h4 := Lib.hid h4
      clear hv hdef2
      go_upto_region 4 with (first | (go_at_call 28; refine hFd.out.mono ?_; rintro e y4 ⟨rfl, hb4⟩) | (go_at_call 15; refine (hT.out _).mono ?_; rintro e y5 ⟨rfl, rfl⟩))
      go_wp2_with fail
      obtain ⟨W6, hW6⟩ : ∃ W6, (y4.alloc (.cells #[.string nm, .string lt] 75)).iter lt 0 = W6 := ⟨_, rfl⟩
      rw [hW6]
      have hb6 : Below y4.heap.size y4 W6 := by rw [← hW6]; exact ((Below.refl _ y4).alloc (Nat.le_refl _) _).alloc (by simp) _
      have i6 : W6.heap[y4.heap.size + 1]? = some (.stringIter lt 0) := by
        rw [← hW6]
        have := World.iter_heap (y4.alloc (.cells #[.string nm, .string lt] 75)) lt 0
        simpa using this
      have hb36 := hb4.trans (hb6.mono hb4.size)
      have r6 : W6.heap[y.heap.size]? = some (.cells (insR op []).toArray 40 (0, 0)) := (hb36.block _ (row_lt d3.out)).trans d3.out
      have hK6 := hK3.out.trans (KB.of_below hb36)
      have hR6 := hR3.out.below hb36
      have hs1 := row_lt d1.out
      have hs2 := hKy.out.size
      have hs3 := row_lt d3.out
      have hs4 := hb4.size
      have hlr2 := hlr'.out
      have s6 : W6.heap[w.heap.size]? = some (.cells #[.int .i64 0, .int .i64 0, .int .i64 0, .int .i64 0, .int .i64 0] 40 (0, 0)) := (hK6.block _ hs1 (by omega)).trans d1.out
      have hpre := rdPre_start rdNum L r
      have hord := Lib.hid (show (rb < w.heap.size ∧ w.heap.size < y.heap.size) ∧ y.heap.size < y4.heap.size + 1 ∧ W1.heap.size ≤ y.heap.size from ⟨⟨hlr2, by omega⟩, by omega, hs2⟩)
      obtain ⟨ib, hib⟩ : ∃ ib, y4.heap.size + 1 = ib := ⟨_, rfl⟩
      rw [hib] at i6 hord ⊢
      replace i6 := Lib.hid i6
      replace r6 := Lib.hid r6
      replace s6 := Lib.hid s6
      replace hK6 := Lib.hid hK6
      replace hR6 := Lib.hid hR6
      replace hpre := Lib.hid hpre
      clear hW6 hb6 hb36 hs1 hs2 hs3 hs4 hlr2 hib hb4 d3 hK3 hR3 hFd
      go_loopg [] L (fun g wr => ∃ acc r1, acc.length + g = L ∧ rdPre rdNum L r g acc r1 ∧ RS rb bb wr r1 ∧ KB (fun r => r = rb) W1 wr ∧ wr.heap[ib]? = some (.stringIter lt acc.length) ∧ wr.heap[y.heap.size]? = some (.cells (insR op acc).toArray 40 (0, 0)) ∧ wr.heap[w.heap.size]? = some (.cells #[.int .i64 0, .int .i64 0, .int .i64 0, .int .i64 0, .int .i64 0] 40 (0, 0)))
      case atStart => exact ⟨[], r, by simp, hpre.out, hR6.out, hK6.out, i6.out, r6.out, s6.out⟩
      case round =>
        obtain ⟨acc, r1, hacc, hpr, hRr, hKr, hir, hrr, hsr⟩ := hrel
        have hord2 := hord.out
        cases gk with
        | zero =>
          have hk : ¬ acc.length < lt.size := by have := hsz.out; omega
          have hnx := fun (ty : TypeId) => run_next_no wr ib lt acc.length ty hir hk
          have hend := rdPre_end hpr
          have hres2 : rdIns bs = some (⟨(op : Int), ((acc.getD 0 0 : Nat) : Int), ((acc.getD 1 0 : Nat) : Int), ((acc.getD 2 0 : Nat) : Int), ((acc.getD 3 0 : Nat) : Int)⟩, r1) := by rw [hres.out, hend]
          have k0 : wr.cell? ⟨y.heap.size, 0, none⟩ = some (.int .i64 (op : Int)) := by rw [cell_of_row _ _ 0 _ _ _ hrr]; rfl
          have k1 : wr.cell? ⟨y.heap.size, 1, none⟩ = some (.int .i64 ((acc.getD 0 0 : Nat) : Int)) := by rw [cell_of_row _ _ 1 _ _ _ hrr]; rfl
          have k2 : wr.cell? ⟨y.heap.size, 2, none⟩ = some (.int .i64 ((acc.getD 1 0 : Nat) : Int)) := by rw [cell_of_row _ _ 2 _ _ _ hrr]; rfl
          have k3 : wr.cell? ⟨y.heap.size, 3, none⟩ = some (.int .i64 ((acc.getD 2 0 : Nat) : Int)) := by rw [cell_of_row _ _ 3 _ _ _ hrr]; rfl
          have k4 : wr.cell? ⟨y.heap.size, 4, none⟩ = some (.int .i64 ((acc.getD 3 0 : Nat) : Int)) := by rw [cell_of_row _ _ 4 _ _ _ hrr]; rfl
          have t0 : wr.cell? ⟨w.heap.size, 0, none⟩ = some (.int .i64 0) := by rw [cell_of_row _ _ 0 _ _ _ hsr]; rfl
          have t1 : wr.cell? ⟨w.heap.size, 1, none⟩ = some (.int .i64 0) := by rw [cell_of_row _ _ 1 _ _ _ hsr]; rfl
          have t2 : wr.cell? ⟨w.heap.size, 2, none⟩ = some (.int .i64 0) := by rw [cell_of_row _ _ 2 _ _ _ hsr]; rfl
          have t3 : wr.cell? ⟨w.heap.size, 3, none⟩ = some (.int .i64 0) := by rw [cell_of_row _ _ 3 _ _ _ hsr]; rfl
          have t4 : wr.cell? ⟨w.heap.size, 4, none⟩ = some (.int .i64 0) := by rw [cell_of_row _ _ 4 _ _ _ hsr]; rfl
          have f0 : wr.frozen? ⟨w.heap.size, 0, none⟩ = false := by simp [World.frozen?, hsr]
          have f1 : wr.frozen? ⟨w.heap.size, 1, none⟩ = false := by simp [World.frozen?, hsr]
          have f2 : wr.frozen? ⟨w.heap.size, 2, none⟩ = false := by simp [World.frozen?, hsr]
          have f3 : wr.frozen? ⟨w.heap.size, 3, none⟩ = false := by simp [World.frozen?, hsr]
          have f4 : wr.frozen? ⟨w.heap.size, 4, none⟩ = false := by simp [World.frozen?, hsr]
          have hKw := hkw.out _ hKr
          replace hres2 := Lib.hid hres2
          replace hKw := Lib.hid hKw
          replace hsr := Lib.hid hsr
          generalize acc.getD 0 0 = g0 at *
          generalize acc.getD 1 0 = g1 at *
          generalize acc.getD 2 0 = g2 at *
          generalize acc.getD 3 0 = g3 at *
          clear hend hpr hrr hir hKr hk hacc hord2 hord
          go_wp2
          obtain ⟨q1, q2, q3⟩ := set5 hsr.out ⟨(op : Int), (g0 : Int), (g1 : Int), (g2 : Int), (g3 : Int)⟩
          refine bodyPost_ret (results_cell_row rfl _ _ w.heap.size 40 _ (0, 0) _ rfl q1 Tryz.underlying40 rfl infoIns) rfl ?_
          exact ⟨q2 _ w (Nat.le_refl _) hKw.out, .inl ⟨_, _, hres2.out, rfl, q3 rb _ r1 (by have := hlr'.out; omega) hRr⟩⟩
        | succ g =>
          have hk : acc.length < lt.size := by have := hsz.out; omega
          have hnx := fun (ty : TypeId) => run_next_at wr ib lt acc.length ty hir hk
          have hd := decode_one lt acc.length hk hasc.out
          rw [hd] at hnx
          obtain ⟨W7, hW7⟩ : ∃ W7, putO wr ib (.stringIter lt (acc.length + 1)) = W7 := ⟨_, rfl⟩
          rw [hW7] at hnx
          have i7 : W7.heap[ib]? = some (.stringIter lt (acc.length + 1)) := by rw [← hW7]; exact putO_same hir
          have n7 : ∀ r', r' ≠ ib → W7.heap[r']? = wr.heap[r']? := fun r' hr => by rw [← hW7]; exact putO_ne hr
          have hR7 : RS rb bb W7 r1 := hRr.other (b := ib) (by omega) (fun o x => by simp [World.cell?, hir]) n7
          have hK7 : KB (fun r => r = rb) W1 W7 := by rw [← hW7]; exact hKr.putO (by omega)
          have hNm := c_rnum hR7
          replace hNm := Lib.hid hNm
          replace hK7 := Lib.hid hK7
          replace hpr := Lib.hid hpr
          replace hacc := Lib.hid hacc
          have r7 := Lib.hid ((n7 y.heap.size (by omega)).trans hrr)
          have s7 := Lib.hid ((n7 w.heap.size (by omega)).trans hsr)
          replace i7 := Lib.hid i7
          clear hW7 n7 hR7 hRr hKr hir hrr hsr hord2 hd
          go_wp2_with fail
          refine hNm.out.mono ?_
          rintro e W8 ⟨hK8, ⟨n, r2, hn, rfl, hR8⟩ | ⟨hn, rfl⟩⟩
          · have hord2 := hord.out
            have r8 := (hK8.block y.heap.size (row_lt r7.out) (by omega)).trans r7.out
            have s8 := (hK8.block w.heap.size (row_lt s7.out) (by omega)).trans s7.out
            have i8 := (hK8.block ib (row_lt i7.out) (by omega)).trans i7.out
            have hpr2 := rdPre_next hpr.out hn
            have hKK := hK7.out.trans hK8
            have hal : acc.length < 4 := by have := hacc.out; have := h4.out; omega
            have hset := insR_next (op := op) hal n
            have hln : (acc ++ [n]).length = acc.length + 1 := by simp
            have hfin : ∀ Y : World, Y = W8.setCell ⟨y.heap.size, acc.length + 1, none⟩ (.int .i64 (n : Int)) → RS rb bb Y r2 ∧ KB (fun r => r = rb) W1 Y ∧ Y.heap[ib]? = some (.stringIter lt (acc ++ [n]).length) ∧ Y.heap[y.heap.size]? = some (.cells (insR op (acc ++ [n])).toArray 40 (0, 0)) ∧ Y.heap[w.heap.size]? = some (.cells #[.int .i64 0, .int .i64 0, .int .i64 0, .int .i64 0, .int .i64 0] 40 (0, 0)) := by
              rintro Y rfl
              have hne : ∀ r', r' ≠ y.heap.size → (W8.setCell ⟨y.heap.size, acc.length + 1, none⟩ (.int .i64 (n : Int))).heap[r']? = W8.heap[r']? := fun r' hr => Below.heap_setCell _ _ _ _ hr
              refine ⟨hR8.other (b := y.heap.size) (by omega) (noU8 r8 (insR_no op acc)) hne, hKK.set (by omega), by rw [hne ib (by omega), i8, hln], ?_, by rw [hne w.heap.size (by omega), s8]⟩
              have := heap_setCell_same W8 y.heap.size (acc.length + 1) _ _ (.int .i64 (n : Int)) r8
              rw [this, hset]
              simp
            have hg : (acc ++ [n]).length + g = L := by rw [hln]; have := hacc.out; omega
            have k1 : W8.cell? ⟨y.heap.size, 1, none⟩ = some (.int .i64 ((acc.getD 0 0 : Nat) : Int)) := by rw [cell_of_row _ _ 1 _ _ _ r8]; rfl
            have k2 : W8.cell? ⟨y.heap.size, 2, none⟩ = some (.int .i64 ((acc.getD 1 0 : Nat) : Int)) := by rw [cell_of_row _ _ 2 _ _ _ r8]; rfl
            have k3 : W8.cell? ⟨y.heap.size, 3, none⟩ = some (.int .i64 ((acc.getD 2 0 : Nat) : Int)) := by rw [cell_of_row _ _ 3 _ _ _ r8]; rfl
            have k4 : W8.cell? ⟨y.heap.size, 4, none⟩ = some (.int .i64 ((acc.getD 3 0 : Nat) : Int)) := by rw [cell_of_row _ _ 4 _ _ _ r8]; rfl
            have f1 : W8.frozen? ⟨y.heap.size, 1, none⟩ = false := by simp [World.frozen?, r8]
            have f2 : W8.frozen? ⟨y.heap.size, 2, none⟩ = false := by simp [World.frozen?, r8]
            have f3 : W8.frozen? ⟨y.heap.size, 3, none⟩ = false := by simp [World.frozen?, r8]
            have f4 : W8.frozen? ⟨y.heap.size, 4, none⟩ = false := by simp [World.frozen?, r8]
            generalize acc.getD 0 0 = g0 at k1
            generalize acc.getD 1 0 = g1 at k2
            generalize acc.getD 2 0 = g2 at k3
            generalize acc.getD 3 0 = g3 at k4
            have hall : ∀ Y : World, Y = W8.setCell ⟨y.heap.size, acc.length + 1, none⟩ (.int .i64 (n : Int)) → ∃ acc r1, acc.length + g = L ∧ rdPre rdNum L r g acc r1 ∧ RS rb bb Y r1 ∧ KB (fun r => r = rb) W1 Y ∧ Y.heap[ib]? = some (.stringIter lt acc.length) ∧ Y.heap[y.heap.size]? = some (.cells (insR op acc).toArray 40 (0, 0)) ∧ Y.heap[w.heap.size]? = some (.cells #[.int .i64 0, .int .i64 0, .int .i64 0, .int .i64 0, .int .i64 0] 40 (0, 0)) := fun Y hY => by
              obtain ⟨q1, q2, q3, q4, q5⟩ := hfin Y hY
              exact ⟨_, _, hg, hpr2, q1, q2, q3, q4, q5⟩
            obtain ⟨k, hk'⟩ : ∃ k, acc.length = k := ⟨_, rfl⟩
            rw [hk'] at hall hal ⊢
            replace hall := Lib.hid hall
            clear hfin hg hset hln hpr2 hKK hR8 r8 s8 i8 hn hNm hK8 hk hnx hk' hord2
            rcases (by omega : k = 0 ∨ k = 1 ∨ k = 2 ∨ k = 3) with rfl | rfl | rfl | rfl
            all_goals
              go_wp2
              go_roundg g
              case measure => exact Nat.lt_succ_self _
              case rel => exact hall.out _ rfl
          · have hres2 : rdIns bs = none := by
              rw [hres.out, rdPre_none hpr.out hn]
            have hKK := hkw.out _ (hK7.out.trans hK8)
            replace hres2 := Lib.hid hres2
            replace hKK := Lib.hid hKK
            clear hn hNm hK8
            go_wp2
            exact ⟨rfl, hKK.out, .inr ⟨hres2.out, rfl⟩⟩
    · have hv : findV (op : Int) = .tuple #[.agg #[.string ⟨#[]⟩, .string ⟨#[]⟩], .bool false] := by
        unfold findV
        rw [if_neg (by omega)]
      rw [hv] at hFd
      have hres : rdIns bs = none := by rw [hdef2.out]; dsimp only; rw [if_neg h70]
      replace hres := Lib.hid hres
      clear hv hdef2 h70
      go_wp2_with (first | (go_at_call 28; refine hFd.out.mono ?_; rintro e y4 ⟨rfl, hb4⟩) | (go_at_call 15; refine (hF.out _).mono ?_; rintro e y5 ⟨rfl, rfl⟩))
      have hKK := hkw.out _ ((hK3.out.trans (KB.of_below hb4)).trans (KB.alloc (.cells #[.string ⟨#[]⟩, .string ⟨#[]⟩] 75)))
      exact ⟨rfl, hKK, .inr ⟨hres.out, rfl⟩⟩
  · have hres : rdIns bs = none := by rw [hdef.out, hn]
    have hKK := hkw.out _ hK
    replace hres := Lib.hid hres
    replace hKK := Lib.hid hKK
    clear hn hdef hN hK
    go_wp2
    exact ⟨rfl, hKK.out, .inr ⟨hres.out, rfl⟩⟩
end
end Go.Proofs.YtjjogaenejdliaaGreatDoor
namespace Go.Proofs.YtjjogaenejdliaaGreatDoor
open Go.RowKit Go.Lib
set_option linter.unusedVariables false
set_option linter.unusedSimpArgs false
set_option maxHeartbeats 2000000
set_option maxRecDepth 100000

def encT (t : TV4) : List Value := [.int .i64 t.f, .int .i64 t.t, .int .i64 t.a, .int .i64 t.g]
def encK (c : PV2) : List Value := [.bool c.up, .int .i64 c.n]
theorem infoTri : (Tryz.prog.info? 96).map (·.size) = some 4 := by kernel_rfl
theorem infoCapt : (Tryz.prog.info? 98).map (·.size) = some 2 := by kernel_rfl
/-- four whole numbers are laid -/
theorem set4i {y : World} {b : Nat} {a0 a1 a2 a3 : Int} (h : y.heap[b]? = some (.cells #[.int .i64 a0, .int .i64 a1, .int .i64 a2, .int .i64 a3] 96 (0, 0))) (i : TV4) :
    ((((y.setCell ⟨b, 0, none⟩ (.int .i64 i.f)).setCell ⟨b, 1, none⟩ (.int .i64 i.t)).setCell ⟨b, 2, none⟩ (.int .i64 i.a)).setCell ⟨b, 3, none⟩ (.int .i64 i.g)).heap[b]? = some (.cells (encT i).toArray 96 (0, 0)) ∧
    (∀ (ex : Nat → Prop) (w : World), w.heap.size ≤ b → KB ex w y → KB ex w ((((y.setCell ⟨b, 0, none⟩ (.int .i64 i.f)).setCell ⟨b, 1, none⟩ (.int .i64 i.t)).setCell ⟨b, 2, none⟩ (.int .i64 i.a)).setCell ⟨b, 3, none⟩ (.int .i64 i.g))) ∧
    (∀ rb bb r, b ≠ rb → RS rb bb y r → RS rb bb ((((y.setCell ⟨b, 0, none⟩ (.int .i64 i.f)).setCell ⟨b, 1, none⟩ (.int .i64 i.t)).setCell ⟨b, 2, none⟩ (.int .i64 i.a)).setCell ⟨b, 3, none⟩ (.int .i64 i.g)) r) := by
  have h1 := heap_setCell_same y b 0 _ _ (.int .i64 i.f) h
  have h2 := heap_setCell_same _ b 1 _ _ (.int .i64 i.t) h1
  have h3 := heap_setCell_same _ b 2 _ _ (.int .i64 i.a) h2
  refine ⟨heap_setCell_same _ b 3 _ _ (.int .i64 i.g) h3, fun ex w hw hK => (((hK.set hw).set hw).set hw).set hw, fun rb bb r hb hR => hR.other hb (noU8 h (fun v hv x => ?_)) (fun r' hr => ?_)⟩
  · simp at hv
    rcases hv with rfl | rfl | rfl | rfl <;> simp
  · rw [Below.heap_setCell _ _ _ _ hr, Below.heap_setCell _ _ _ _ hr, Below.heap_setCell _ _ _ _ hr, Below.heap_setCell _ _ _ _ hr]
theorem set2k {y : World} {b : Nat} {a0 : Bool} {a1 : Int} (h : y.heap[b]? = some (.cells #[.bool a0, .int .i64 a1] 98 (0, 0))) (i : PV2) :
    ((y.setCell ⟨b, 0, none⟩ (.bool i.up)).setCell ⟨b, 1, none⟩ (.int .i64 i.n)).heap[b]? = some (.cells (encK i).toArray 98 (0, 0)) ∧
    (∀ (ex : Nat → Prop) (w : World), w.heap.size ≤ b → KB ex w y → KB ex w ((y.setCell ⟨b, 0, none⟩ (.bool i.up)).setCell ⟨b, 1, none⟩ (.int .i64 i.n))) ∧
    (∀ rb bb r, b ≠ rb → RS rb bb y r → RS rb bb ((y.setCell ⟨b, 0, none⟩ (.bool i.up)).setCell ⟨b, 1, none⟩ (.int .i64 i.n)) r) := by
  have h1 := heap_setCell_same y b 0 _ _ (.bool i.up) h
  refine ⟨heap_setCell_same _ b 1 _ _ (.int .i64 i.n) h1, fun ex w hw hK => (hK.set hw).set hw, fun rb bb r hb hR => hR.other hb (noU8 h (fun v hv x => ?_)) (fun r' hr => ?_)⟩
  · simp at hv
    rcases hv with rfl | rfl <;> simp
  · rw [Below.heap_setCell _ _ _ _ hr, Below.heap_setCell _ _ _ _ hr]
def tryM (x : Option (List Nat × List Nat)) : Option (TV4 × List Nat) := match x with
  | none => none
  | some (l, r) => some (⟨((l.getD 0 0 : Nat) : Int), ((l.getD 1 0 : Nat) : Int), ((l.getD 2 0 : Nat) : Int), ((l.getD 3 0 : Nat) : Int)⟩, r)
section
variable {rb bb : Nat} {w w' : World} {bs : List Nat}
theorem c_rtry (h : RS rb bb w bs) : Calls Tryz.prog 53 #[.pointer (some ⟨rb, 0, none⟩)] w fun e w' => KB (fun r => r = rb) w w' ∧ ((∃ v r, rdTry bs = some (v, r) ∧ e = .returned (.agg (encT v).toArray) ∧ RS rb bb w' r) ∨ (rdTry bs = none ∧ e = .panicked wrongV)) := by
  obtain ⟨W1, hW1⟩ : ∃ W1, w.alloc (.cells #[.int .i64 0, .int .i64 0, .int .i64 0, .int .i64 0] 96) = W1 := ⟨_, rfl⟩
  have hb1 : Below w.heap.size w W1 := by rw [← hW1]; exact (Below.refl _ w).alloc (Nat.le_refl _) _
  have d1 : W1.heap[w.heap.size]? = some (.cells #[.int .i64 0, .int .i64 0, .int .i64 0, .int .i64 0] 96 (0, 0)) := by rw [← hW1]; exact heap_alloc_new w _
  have hR1 := h.below hb1
  have hlr := Lib.hid h.lt
  have hN := c_rnum hR1
  have hkw : ∀ y, KB (fun r => r = rb) W1 y → KB (fun r => r = rb) w y := fun y hy => (KB.of_below hb1).trans hy
  have hno : rdTry bs = tryM (rdTimes rdNum 4 bs) := rfl
  replace hN := Lib.hid hN
  replace hkw := Lib.hid hkw
  replace hno := Lib.hid hno
  replace d1 := Lib.hid d1
  clear h hR1 hb1
  go_enter Tryz.func53, Tryz.ntmps53
  go_wp2_with fail
  refine hN.out.mono ?_
  rintro e y1 ⟨hK1, ⟨n1, r1, hn1, rfl, hR1⟩ | ⟨hn1, rfl⟩⟩
  · have hN2 := Lib.hid (c_rnum hR1)
    replace hn1 := Lib.hid hn1
    replace hK1 := Lib.hid hK1
    clear hR1 hN
    go_wp2_with fail
    refine hN2.out.mono ?_
    rintro e y2 ⟨hK2, ⟨n2, r2, hn2, rfl, hR2⟩ | ⟨hn2, rfl⟩⟩
    · have hN3 := Lib.hid (c_rnum hR2)
      replace hn2 := Lib.hid hn2
      replace hK2 := Lib.hid (hK1.out.trans hK2)
      clear hR2 hN2 hK1
      go_wp2_with fail
      refine hN3.out.mono ?_
      rintro e y3 ⟨hK3, ⟨n3, r3, hn3, rfl, hR3⟩ | ⟨hn3, rfl⟩⟩
      · have hN4 := Lib.hid (c_rnum hR3)
        replace hn3 := Lib.hid hn3
        replace hK3 := Lib.hid (hK2.out.trans hK3)
        clear hR3 hN3 hK2
        go_wp2_with fail
        refine hN4.out.mono ?_
        rintro e y4 ⟨hK4, ⟨n4, r4, hn4, rfl, hR4⟩ | ⟨hn4, rfl⟩⟩
        · have hres : rdTry bs = some (⟨(n1 : Int), (n2 : Int), (n3 : Int), (n4 : Int)⟩, r4) := by
            rw [hno.out]
            simp [tryM, rdTimes, hn1.out, hn2.out, hn3.out, hn4]
          have hKK := hK3.out.trans hK4
          have d4 := (hKK.block _ (row_lt d1.out) (by have := hlr.out; omega)).trans d1.out
          have t0 : y4.cell? ⟨w.heap.size, 0, none⟩ = some (.int .i64 0) := by rw [cell_of_row _ _ 0 _ _ _ d4]; rfl
          have t1 : y4.cell? ⟨w.heap.size, 1, none⟩ = some (.int .i64 0) := by rw [cell_of_row _ _ 1 _ _ _ d4]; rfl
          have t2 : y4.cell? ⟨w.heap.size, 2, none⟩ = some (.int .i64 0) := by rw [cell_of_row _ _ 2 _ _ _ d4]; rfl
          have t3 : y4.cell? ⟨w.heap.size, 3, none⟩ = some (.int .i64 0) := by rw [cell_of_row _ _ 3 _ _ _ d4]; rfl
          have f0 : y4.frozen? ⟨w.heap.size, 0, none⟩ = false := by simp [World.frozen?, d4]
          have f1 : y4.frozen? ⟨w.heap.size, 1, none⟩ = false := by simp [World.frozen?, d4]
          have f2 : y4.frozen? ⟨w.heap.size, 2, none⟩ = false := by simp [World.frozen?, d4]
          have f3 : y4.frozen? ⟨w.heap.size, 3, none⟩ = false := by simp [World.frozen?, d4]
          replace hres := Lib.hid hres
          replace hKK := Lib.hid hKK
          replace d4 := Lib.hid d4
          clear hn4 hN4 hK4
          go_wp2
          obtain ⟨q1, q2, q3⟩ := set4i d4.out ⟨(n1 : Int), (n2 : Int), (n3 : Int), (n4 : Int)⟩
          refine bodyPost_ret (results_cell_row rfl _ _ w.heap.size 96 _ (0, 0) _ rfl q1 Tryz.underlying96 rfl infoTri) rfl ?_
          exact ⟨q2 _ w (Nat.le_refl _) (hkw.out _ hKK.out), .inl ⟨_, _, hres.out, rfl, q3 rb _ r4 (by have := hlr.out; omega) hR4⟩⟩
        · have hres : rdTry bs = none := by rw [hno.out]; simp [tryM, rdTimes, hn1.out, hn2.out, hn3.out, hn4]
          have hKK := hkw.out _ (hK3.out.trans hK4)
          replace hres := Lib.hid hres
          replace hKK := Lib.hid hKK
          clear hn4 hN4 hK4
          go_wp2
          exact ⟨rfl, hKK.out, .inr ⟨hres.out, rfl⟩⟩
      · have hres : rdTry bs = none := by rw [hno.out]; simp [tryM, rdTimes, hn1.out, hn2.out, hn3]
        have hKK := hkw.out _ (hK2.out.trans hK3)
        replace hres := Lib.hid hres
        replace hKK := Lib.hid hKK
        clear hn3 hN3 hK3
        go_wp2
        exact ⟨rfl, hKK.out, .inr ⟨hres.out, rfl⟩⟩
    · have hres : rdTry bs = none := by rw [hno.out]; simp [tryM, rdTimes, hn1.out, hn2]
      have hKK := hkw.out _ (hK1.out.trans hK2)
      replace hres := Lib.hid hres
      replace hKK := Lib.hid hKK
      clear hn2 hN2 hK2
      go_wp2
      exact ⟨rfl, hKK.out, .inr ⟨hres.out, rfl⟩⟩
  · have hres : rdTry bs = none := by rw [hno.out]; simp [tryM, rdTimes, hn1]
    have hKK := hkw.out _ hK1
    replace hres := Lib.hid hres
    replace hKK := Lib.hid hKK
    clear hn1 hN hK1
    go_wp2
    exact ⟨rfl, hKK.out, .inr ⟨hres.out, rfl⟩⟩
theorem c_rcap (h : RS rb bb w bs) : Calls Tryz.prog 55 #[.pointer (some ⟨rb, 0, none⟩)] w fun e w' => KB (fun r => r = rb) w w' ∧ ((∃ v r, rdCap bs = some (v, r) ∧ e = .returned (.agg (encK v).toArray) ∧ RS rb bb w' r) ∨ (rdCap bs = none ∧ e = .panicked wrongV)) := by
  obtain ⟨W1, hW1⟩ : ∃ W1, w.alloc (.cells #[.bool false, .int .i64 0] 98) = W1 := ⟨_, rfl⟩
  have hb1 : Below w.heap.size w W1 := by rw [← hW1]; exact (Below.refl _ w).alloc (Nat.le_refl _) _
  have d1 : W1.heap[w.heap.size]? = some (.cells #[.bool false, .int .i64 0] 98 (0, 0)) := by rw [← hW1]; exact heap_alloc_new w _
  have hR1 := h.below hb1
  have hlr := Lib.hid h.lt
  have hN := c_rflag hR1
  have hkw : ∀ y, KB (fun r => r = rb) W1 y → KB (fun r => r = rb) w y := fun y hy => (KB.of_below hb1).trans hy
  replace hN := Lib.hid hN
  replace hkw := Lib.hid hkw
  replace d1 := Lib.hid d1
  clear h hR1 hb1
  go_enter Tryz.func55, Tryz.ntmps55
  go_wp2_with fail
  refine hN.out.mono ?_
  rintro e y1 ⟨hK1, ⟨u, r1, hn1, rfl, hR1⟩ | ⟨hn1, rfl⟩⟩
  · have hN2 := Lib.hid (c_rnum hR1)
    replace hn1 := Lib.hid hn1
    replace hK1 := Lib.hid hK1
    clear hR1 hN
    go_wp2_with fail
    refine hN2.out.mono ?_
    rintro e y4 ⟨hK2, ⟨n, r4, hn2, rfl, hR4⟩ | ⟨hn2, rfl⟩⟩
    · have hres : rdCap bs = some (⟨u, (n : Int)⟩, r4) := by unfold rdCap; simp [hn1.out, hn2]
      have hKK := hK1.out.trans hK2
      have d4 := (hKK.block _ (row_lt d1.out) (by have := hlr.out; omega)).trans d1.out
      have t0 : y4.cell? ⟨w.heap.size, 0, none⟩ = some (.bool false) := by rw [cell_of_row _ _ 0 _ _ _ d4]; rfl
      have t1 : y4.cell? ⟨w.heap.size, 1, none⟩ = some (.int .i64 0) := by rw [cell_of_row _ _ 1 _ _ _ d4]; rfl
      have f0 : y4.frozen? ⟨w.heap.size, 0, none⟩ = false := by simp [World.frozen?, d4]
      have f1 : y4.frozen? ⟨w.heap.size, 1, none⟩ = false := by simp [World.frozen?, d4]
      replace hres := Lib.hid hres
      replace hKK := Lib.hid hKK
      replace d4 := Lib.hid d4
      clear hn2 hN2 hK2
      go_wp2
      obtain ⟨q1, q2, q3⟩ := set2k d4.out ⟨u, (n : Int)⟩
      refine bodyPost_ret (results_cell_row rfl _ _ w.heap.size 98 _ (0, 0) _ rfl q1 Tryz.underlying98 rfl infoCapt) rfl ?_
      exact ⟨q2 _ w (Nat.le_refl _) (hkw.out _ hKK.out), .inl ⟨_, _, hres.out, rfl, q3 rb _ r4 (by have := hlr.out; omega) hR4⟩⟩
    · have hres : rdCap bs = none := by unfold rdCap; simp [hn1.out, hn2]
      have hKK := hkw.out _ (hK1.out.trans hK2)
      replace hres := Lib.hid hres
      replace hKK := Lib.hid hKK
      clear hn2 hN2 hK2
      go_wp2
      exact ⟨rfl, hKK.out, .inr ⟨hres.out, rfl⟩⟩
  · have hres : rdCap bs = none := by unfold rdCap; simp [hn1]
    have hKK := hkw.out _ hK1
    replace hres := Lib.hid hres
    replace hKK := Lib.hid hKK
    clear hn1 hN hK1
    go_wp2
    exact ⟨rfl, hKK.out, .inr ⟨hres.out, rfl⟩⟩
end
end Go.Proofs.YtjjogaenejdliaaGreatDoor
