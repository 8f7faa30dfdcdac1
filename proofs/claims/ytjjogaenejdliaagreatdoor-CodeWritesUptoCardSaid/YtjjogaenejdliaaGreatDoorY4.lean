/-
  Contracts: The contract of Decode's closure. The contracts of caught over Decode's closure, and of Decode. The reference's reader: its state; num, flag, text. The reference's flag and text. The reference's bits and constant. The reference's constant. The reference's table of instructions, and an entry of it.
-/
import Derived.Test.YtjjogaenejdliaaGreatDoorY3
namespace Go.Proofs.YtjjogaenejdliaaGreatDoor
open Go.RowKit Go.Lib
set_option linter.unusedVariables false
set_option linter.unusedSimpArgs false
set_option maxHeartbeats 4000000
set_option maxRecDepth 100000

theorem own_form2 {y : World} {B size n : Nat} {e : TypeId} {v : Value} {xs : List Value} (h : y.ownsRow B e size v n xs) : ∃ p c, v = .slice p n c := by
  rcases h.2 with ⟨rfl, rfl⟩ | ⟨g, cap, cur, rfl, _⟩
  · exact ⟨_, _, rfl⟩
  · exact ⟨_, _, rfl⟩
theorem ba_eq {a b : ByteArray} (h : a.toList = b.toList) : a = b := by
  rw [ByteArray.toList_eq, ByteArray.toList_eq] at h
  cases a with | mk a => cases b with | mk b =>
  congr 1
  exact Array.toList_inj.1 h
def magB : ByteArray := ⟨#[76, 78, 84, 49]⟩
theorem mag_list : (magB.toList == [76, 78, 84, 49]) = true := by decide +kernel
theorem rdB_strS {w : World} {v : Value} {bs : List Nat} (h : RdB w v bs) : (convert 27 9 v).run Tryz.prog w = .ok (.string (strOf bs)) w := by
  obtain ⟨p, c, rfl, h1, h2, h3⟩ := h
  cases p with
  | none =>
    have : bs = [] := by
      cases bs with
      | nil => rfl
      | cons x l => obtain ⟨_, b, o, h, _⟩ := h3 0 x rfl; cases h
    subst this
    exact run_convert_bytes_nil (P := Tryz.prog) (w := w) 27 5 Tryz.underlying27 Tryz.underlying5 0 c 9 Tryz.underlying9
  | some a =>
    have hb := run_convert_bytes_back (P := Tryz.prog) w 27 9 5 a c (bs.map UInt8.ofNat) Tryz.underlying27 Tryz.underlying5 Tryz.underlying9 (fun j hj => by
      have hj' : j < bs.length := by simpa using hj
      obtain ⟨g1, b, o, e, g2⟩ := h3 j bs[j] (List.getElem?_eq_getElem hj')
      cases e
      have hadd : (⟨b, o, none⟩ : Addr).add j = ⟨b, o + j, none⟩ := by unfold Addr.add; split <;> simp_all
      rw [hadd, g2, List.getElem_map]
      congr 2
      simp
      omega)
    simp only [List.length_map] at hb
    exact hb
theorem strOf_inj {a b : List Nat} (ha : ∀ x ∈ a, x < 256) (hb : ∀ x ∈ b, x < 256) (h : strOf a = strOf b) : a = b := by
  have e := congrArg (fun s : ByteArray => s.data.toList.map (·.toNat)) h
  simp only [strOf, List.map_map] at e
  have hm : ∀ l : List Nat, (∀ x ∈ l, x < 256) → l.map ((fun x : UInt8 => x.toNat) ∘ UInt8.ofNat) = l := fun l hl => map_same l (fun x hx => by have := hl x hx; simp; omega)
  rw [hm a ha, hm b hb] at e
  exact e
section
variable {pb mb bb : Nat} {w w' : World} {bs : List Nat}
theorem c_DecodeF {v : Value} (hv : RdB w v bs) (hblk : Blk bb v) (hp : w.heap[pb]? = some (.cells #[v] 27 (0, 0))) (hm : w.heap[mb]? = some (.cells #[.slice none 0 0] 24 (0, 0))) (hS : Spc w) (hbm : bb < w.heap.size ∧ bb ≠ mb) (hm0 : mb ≠ 0) (hlen : bs.length ≤ 4194304) (hw0 : w.heap.size ≠ 0) :
    Calls Tryz.prog 21 #[.pointer (some ⟨pb, 0, none⟩), .pointer (some ⟨mb, 0, none⟩)] w fun e w' => KB (fun r => r = mb) w w' ∧ ((∃ fs u cs, rdMod bs = some fs ∧ e = .returned (.tuple #[]) ∧ w'.heap[mb]? = some (.cells #[u] 24 (0, 0)) ∧ w'.ownsRow w.heap.size 47 9 u fs.length cs.flatten ∧ FnL w.heap.size u.ownBlock w' fs cs) ∨ (rdMod bs = none ∧ e = .panicked wrongV)) := by
  obtain ⟨W1, hW1⟩ : ∃ W1, w.alloc (.cells #[v] 62) = W1 := ⟨_, rfl⟩
  have hb1 : Below w.heap.size w W1 := by rw [← hW1]; exact (Below.refl _ w).alloc (Nat.le_refl _) _
  have d1 : W1.heap[w.heap.size]? = some (.cells #[v] 62 (0, 0)) := by rw [← hW1]; exact heap_alloc_new w _
  have hR1 : RS w.heap.size bb W1 bs := ⟨v, hblk, d1, hv.below hb1⟩
  have hc0 : w.cell? ⟨pb, 0, none⟩ = some v := by rw [cell_of_row _ _ 0 _ _ _ hp]; rfl
  have hall : ∀ x ∈ bs, x < 256 := by
    obtain ⟨_, _, _, _, _, hc⟩ := hv
    intro x hx
    obtain ⟨k, hk⟩ := List.getElem?_of_mem hx
    exact (hc k x hk).1
  obtain ⟨p, n, c, rfl⟩ : ∃ p n c, v = .slice p n c := by
    obtain ⟨p, c, rfl, _⟩ := hv
    exact ⟨_, _, _, rfl⟩
  have hml := row_lt hm
  have hT := Lib.hid (fun (w : World) => c_mustT w)
  have hF := Lib.hid (fun (w : World) => c_mustF w)
  have hS1 := Lib.hid (hS.keep hb1)
  have hord := Lib.hid (show (bb < w.heap.size ∧ bb ≠ mb) ∧ (mb < w.heap.size ∧ W1.heap.size = w.heap.size + 1) from ⟨hbm, hml, by rw [← hW1]; simp⟩)
  have hm1 := (hb1.block _ hml).trans hm
  have hkw : ∀ y, KB (fun r => r = w.heap.size) W1 y → KB (fun r => r = mb) w y := fun y hy => ⟨hy.os.trans hb1.os, hy.tape.trans hb1.tape, hy.output.trans hb1.output, Nat.le_trans hb1.size hy.size, fun r hr hn => (hy.block r (Nat.lt_of_lt_of_le hr hb1.size) (fun e : r = w.heap.size => by omega)).trans (hb1.block r hr)⟩
  replace hkw := Lib.hid hkw
  replace hm1 := Lib.hid hm1
  have hmk : ∀ (fn : Fn) (first cap : Array Value) (y : World), (Instr.makeFunc fn first cap).run Tryz.prog y = .ok (.func fn first cap) y := fun _ _ _ _ => rfl
  by_cases h4 : 4 ≤ bs.length
  · have hTk := Lib.hid (c_take hR1 4 h4)
    have hall4 := Lib.hid (fun x (hx : x ∈ bs.take 4) => hall x (List.mem_of_mem_take hx))
    have hdef : rdMod bs = if bs.take 4 = [76, 78, 84, 49] then (match rdMany rdFn (bs.drop 4) with
      | none => none
      | some (l, r) => if r = [] ∧ l ≠ [] then some l else none) else none := rfl
    replace hdef := Lib.hid hdef
    have hld := Lib.hid (show (bs.drop 4).length ≤ 4194304 by simp; omega)
    clear hv hblk hp hm hS hbm hlen hR1 hb1 d1 hall hml h4
    go_enter Tryz.func21, Tryz.ntmps21
    go_wp2_with fail
    refine hTk.out.mono ?_
    rintro e y ⟨u, rfl, hu, hR2, hK2⟩
    have hcv := rdB_strS hu
    clear hu hTk
    by_cases hmag : bs.take 4 = [76, 78, 84, 49]
    · rw [hmag] at hcv
      have hst : strOf [76, 78, 84, 49] = magB := by decide +kernel
      rw [hst] at hcv
      have hml' := mag_list
      have hRy := hR2
      have hS2 := hS1.out.kb hK2 (fun e => hw0 e.symm)
      have hbw : bb < y.heap.size ∧ w.heap.size ≠ 0 := ⟨by have := hord.out; have := hK2.size; omega, hw0⟩
      have hMF := Lib.hid (c_manyF hRy hS2 hbw.2 hbw.1 hld.out)
      replace hK2 := Lib.hid hK2
      clear hR2 hRy hS2 hst hbw
      go_wp2_with (go_at_call 15; refine (hT.out _).mono ?_; rintro e y ⟨rfl, rfl⟩)
      refine hMF.out.mono ?_
      rintro e y3 ⟨hK3, ⟨fs, r3, v3, cs, hmn, rfl, ho3, hL3, hR3, hfl3⟩ | ⟨hmn, rfl⟩⟩
      · have hK23 := hK2.out.trans hK3
        have hord2 := hord.out
        have hm3 := (hK23.block mb (by omega) (fun e : mb = w.heap.size => by omega)).trans hm1.out
        have hdef2 := hdef.out
        rw [if_pos hmag, hmn] at hdef2
        dsimp only at hdef2
        obtain ⟨p3, c3, rfl⟩ := own_form2 ho3
        have k0 : y3.cell? ⟨mb, 0, none⟩ = some (.slice none 0 0) := by rw [cell_of_row _ _ 0 _ _ _ hm3]; rfl
        have f0 : y3.frozen? ⟨mb, 0, none⟩ = false := by simp [World.frozen?, hm3]
        obtain ⟨vr, _, hvr, pr, cr, rfl, _⟩ := hR3
        have hne4 : ∀ r, r ≠ mb → (y3.setCell ⟨mb, 0, none⟩ (.slice p3 fs.length c3)).heap[r]? = y3.heap[r]? := fun r hr => Below.heap_setCell _ _ _ _ hr
        have hm4 := heap_setCell_same y3 mb 0 _ _ (.slice p3 fs.length c3) hm3
        have k1 : (y3.setCell ⟨mb, 0, none⟩ (.slice p3 fs.length c3)).cell? ⟨mb, 0, none⟩ = some (.slice p3 fs.length c3) := by rw [cell_of_row _ _ 0 _ _ _ hm4]; rfl
        have k2 : (y3.setCell ⟨mb, 0, none⟩ (.slice p3 fs.length c3)).cell? ⟨w.heap.size, 0, none⟩ = some (.slice pr r3.length cr) := by rw [cell_of_row _ _ 0 _ _ _ ((hne4 w.heap.size (by omega)).trans hvr)]; rfl
        have hKw := hkw.out _ hK23
        have hK4 : KB (fun r => r = mb) w (y3.setCell ⟨mb, 0, none⟩ (.slice p3 fs.length c3)) := hKw.trans (KB.setCell rfl)
        have hsw : w.heap.size ≤ y.heap.size := by have := hK2.out.size; omega
        have ho4 : (y3.setCell ⟨mb, 0, none⟩ (.slice p3 fs.length c3)).ownsRow w.heap.size 47 9 (.slice p3 fs.length c3) fs.length cs.flatten := own_turn (own_le ho3 hsw) (fun k hk _ _ => hne4 k (by omega))
        have hL4 : FnL w.heap.size (Value.slice p3 fs.length c3).ownBlock (y3.setCell ⟨mb, 0, none⟩ (.slice p3 fs.length c3)) fs cs := (hL3.le hsw).turn (fun k hk _ _ => hne4 k (by omega)) (fun k _ h => h)
        replace hK4 := Lib.hid hK4
        replace ho4 := Lib.hid ho4
        replace hL4 := Lib.hid hL4
        replace hm4 := Lib.hid hm4
        clear hKw hK23 hord2 hm3 hvr hne4 ho3 hL3 hK3 hMF hmn hmag hfl3
        by_cases hr0 : r3 = []
        · have hd0 : ((r3.length : Int) == 0) = true := by rw [hr0]; rfl
          by_cases hf0 : fs = []
          · have hres : rdMod bs = none := by rw [hdef2]; simp [hf0]
            have hd : decide (0 < fs.length) = false := by rw [hf0]; rfl
            replace hres := Lib.hid hres
            clear hdef2 hf0 hr0
            go_wp2_with (go_at_call 15; refine (hF.out _).mono ?_; rintro e y ⟨rfl, rfl⟩)
            exact ⟨rfl, hK4.out, .inr ⟨hres.out, rfl⟩⟩
          · have hres : rdMod bs = some fs := by rw [hdef2]; simp [hf0, hr0]
            have hpos : 0 < fs.length := List.length_pos_iff.2 hf0
            have hd : decide (0 < fs.length) = true := by simp; omega
            replace hres := Lib.hid hres
            clear hdef2 hf0 hr0
            go_wp2_with (go_at_call 15; refine (hT.out _).mono ?_; rintro e y ⟨rfl, rfl⟩)
            go_end0
            exact ⟨hK4.out, .inl ⟨fs, _, cs, hres.out, rfl, hm4.out, ho4.out, hL4.out⟩⟩
        · have hres : rdMod bs = none := by rw [hdef2]; simp [hr0]
          have hd : ((r3.length : Int) == 0) = false := by simp; exact hr0
          replace hres := Lib.hid hres
          clear hdef2 hr0
          go_wp2_with (go_at_call 15; refine (hF.out _).mono ?_; rintro e y ⟨rfl, rfl⟩)
          exact ⟨rfl, hK4.out, .inr ⟨hres.out, rfl⟩⟩
      · have hres : rdMod bs = none := by rw [hdef.out, if_pos hmag, hmn]
        have hKK := hkw.out _ (hK2.out.trans hK3)
        replace hres := Lib.hid hres
        replace hKK := Lib.hid hKK
        clear hmn hK3 hMF hmag
        go_wp2
        exact ⟨rfl, hKK.out, .inr ⟨hres.out, rfl⟩⟩
    · have hne : strOf (bs.take 4) ≠ magB := fun h => hmag (strOf_inj hall4.out (by decide) (h.trans (by decide +kernel)))
      have hres : rdMod bs = none := by rw [hdef.out, if_neg hmag]
      generalize strOf (bs.take 4) = ss at *
      replace hres := Lib.hid hres
      have hsf : (ss.toList == [76, 78, 84, 49]) = false := by
        rw [beq_eq_false_iff_ne]
        intro e
        have h2 := mag_list
        rw [beq_iff_eq] at h2
        exact hne (ba_eq (e.trans h2.symm))
      have hKK := hkw.out _ hK2
      replace hKK := Lib.hid hKK
      clear hmag hne hK2 hR2
      go_wp2_with (go_at_call 15; refine (hF.out _).mono ?_; rintro e y ⟨rfl, rfl⟩)
      exact ⟨rfl, hKK.out, .inr ⟨hres.out, rfl⟩⟩
  · have hTk := Lib.hid (c_takeN hR1 4 (by omega))
    have hres : rdMod bs = none := by
      unfold rdMod
      rw [if_neg (fun e => by have := congrArg List.length e; simp at this; omega)]
    have hK1 := hkw.out W1 (KB.refl _ _)
    replace hres := Lib.hid hres
    replace hK1 := Lib.hid hK1
    clear hv hblk hp hm hS hbm hlen hR1 hb1 d1 hall hml h4
    go_enter Tryz.func21, Tryz.ntmps21
    go_wp2_with (go_at_call 22; refine hTk.out.mono ?_; rintro e y ⟨rfl, rfl⟩)
    exact ⟨rfl, hK1.out, .inr ⟨hres.out, rfl⟩⟩
end
end Go.Proofs.YtjjogaenejdliaaGreatDoor
namespace Go.Proofs.YtjjogaenejdliaaGreatDoor
open Go.RowKit Go.Lib
set_option linter.unusedVariables false
set_option linter.unusedSimpArgs false
set_option maxHeartbeats 4000000
set_option maxRecDepth 100000

section
variable {pb mb bb : Nat} {w w' : World} {bs : List Nat}
theorem c_caughtD {v : Value} (hv : RdB w v bs) (hblk : Blk bb v) (hp : w.heap[pb]? = some (.cells #[v] 27 (0, 0))) (hm : w.heap[mb]? = some (.cells #[.slice none 0 0] 24 (0, 0))) (hS : Spc w) (hbm : bb < w.heap.size ∧ bb ≠ mb) (hm0 : mb ≠ 0) (hlen : bs.length ≤ 4194304) :
    Calls Tryz.prog 13 #[.func (.func 21) #[] #[.pointer (some ⟨pb, 0, none⟩), .pointer (some ⟨mb, 0, none⟩)]] w fun e w' => KB (fun r => r = mb) w w' ∧ ((∃ fs u cs, rdMod bs = some fs ∧ e = .returned (.int .i64 0) ∧ w'.heap[mb]? = some (.cells #[u] 24 (0, 0)) ∧ w'.ownsRow (w.heap.size + 1) 47 9 u fs.length cs.flatten ∧ FnL (w.heap.size + 1) u.ownBlock w' fs cs) ∨ (rdMod bs = none ∧ e = .returned (.int .i64 110))) := by
  obtain ⟨W1, hW1⟩ : ∃ W1, w.alloc (.cells #[.int .i64 0] 28) = W1 := ⟨_, rfl⟩
  have hb1 : Below w.heap.size w W1 := by rw [← hW1]; exact (Below.refl _ w).alloc (Nat.le_refl _) _
  have d1 : W1.heap[w.heap.size]? = some (.cells #[.int .i64 0] 28 (0, 0)) := by rw [← hW1]; exact heap_alloc_new w _
  have hs1 : W1.heap.size = w.heap.size + 1 := by rw [← hW1]; simp
  have hml := row_lt hm
  have hD := c_DecodeF (hv.below hb1) hblk ((hb1.block _ (row_lt hp)).trans hp) ((hb1.block _ hml).trans hm) (hS.keep hb1) ⟨by omega, hbm.2⟩ hm0 hlen (by omega)
  rw [hs1] at hD
  have hmf : ∀ (fn : Fn) (first cap : Array Value) (y : World), (Instr.makeFunc fn first cap).run Tryz.prog y = .ok (.func fn first cap) y := fun _ _ _ _ => rfl
  have hord := Lib.hid (show mb < w.heap.size ∧ W1.heap.size = w.heap.size + 1 from ⟨hml, hs1⟩)
  have hkw : ∀ y, KB (fun r => r = mb) W1 y → KB (fun r => r = mb) w y := fun y hy => (KB.of_below hb1).trans hy
  replace hD := Lib.hid hD
  replace hkw := Lib.hid hkw
  replace d1 := Lib.hid d1
  clear hv hblk hp hm hS hbm hlen hb1 hml hs1
  go_enter_defers Tryz.func13, Tryz.ntmps13
  go_wp2_with fail
  refine hD.out.mono ?_
  rintro e y ⟨hK, ⟨fs, u, cs, hres, rfl, hmy, hoy, hLy⟩ | ⟨hres, rfl⟩⟩
  · have hord2 := hord.out
    have ey := (hK.block _ (row_lt d1.out) (fun e : w.heap.size = mb => by omega)).trans d1.out
    have k0 : y.cell? ⟨w.heap.size, 0, none⟩ = some (.int .i64 0) := by rw [cell_of_row _ _ 0 _ _ _ ey]; rfl
    have f0 : y.frozen? ⟨w.heap.size, 0, none⟩ = false := by simp [World.frozen?, ey]
    have e2 := heap_setCell_same y w.heap.size 0 _ _ (.int .i64 0) ey
    have k2 : (y.setCell ⟨w.heap.size, 0, none⟩ (.int .i64 0)).cell? ⟨w.heap.size, 0, none⟩ = some (.int .i64 0) := by rw [cell_of_row _ _ 0 _ _ _ e2]; rfl
    have hne : ∀ r, r ≠ w.heap.size → (y.setCell ⟨w.heap.size, 0, none⟩ (.int .i64 0)).heap[r]? = y.heap[r]? := fun r hr => Below.heap_setCell _ _ _ _ hr
    have hfin : KB (fun r => r = mb) w (y.setCell ⟨w.heap.size, 0, none⟩ (.int .i64 0)) ∧ (y.setCell ⟨w.heap.size, 0, none⟩ (.int .i64 0)).heap[mb]? = some (.cells #[u] 24 (0, 0)) ∧ (y.setCell ⟨w.heap.size, 0, none⟩ (.int .i64 0)).ownsRow (w.heap.size + 1) 47 9 u fs.length cs.flatten ∧ FnL (w.heap.size + 1) u.ownBlock (y.setCell ⟨w.heap.size, 0, none⟩ (.int .i64 0)) fs cs :=
      ⟨(hkw.out y hK).set (Nat.le_refl _), (hne mb (by omega)).trans hmy, own_turn hoy (fun k hk _ _ => hne k (by omega)), hLy.turn (fun k hk _ _ => hne k (by omega)) (fun k _ h => h)⟩
    replace hfin := Lib.hid hfin
    replace hres := Lib.hid hres
    clear hne hmy hoy hLy hK ey e2 hord2
    go_wp2
    refine leaves_cons (f := 35) (args := #[.pointer (some ⟨w.heap.size, 0, none⟩)]) (by simp) (by simp [go_sem]) ?_
    refine (catch_idle ⟨w.heap.size, 0, none⟩ _).mono ?_
    rintro e u' w'' ⟨rfl, rfl, rfl⟩
    simp [Leaves, settle, results, Tryz.results13, go_sem, k2]
    exact ⟨hfin.out.1, fs, hres.out, u, hfin.out.2.1, cs, hfin.out.2.2.1, hfin.out.2.2.2⟩
  · have hord2 := hord.out
    have ey := (hK.block _ (row_lt d1.out) (fun e : w.heap.size = mb => by omega)).trans d1.out
    have hcw := catch_wrong w.heap.size 0 y ey
    have e1 : (y.alloc (.cells #[] 89)).heap[w.heap.size]? = some (.cells #[.int .i64 0] 28 (0, 0)) := (Below.heap_alloc _ _ _ (row_lt ey)).trans ey
    have e2 := heap_setCell_same (y.alloc (.cells #[] 89)) w.heap.size 0 _ _ (.int .i64 110) e1
    have k2 : ((y.alloc (.cells #[] 89)).setCell ⟨w.heap.size, 0, none⟩ (.int .i64 110)).cell? ⟨w.heap.size, 0, none⟩ = some (.int .i64 110) := by rw [cell_of_row _ _ 0 _ _ _ e2]; rfl
    have hfin : KB (fun r => r = mb) w ((y.alloc (.cells #[] 89)).setCell ⟨w.heap.size, 0, none⟩ (.int .i64 110)) := ((hkw.out y hK).trans (KB.alloc _)).set (Nat.le_refl _)
    replace hfin := Lib.hid hfin
    replace hres := Lib.hid hres
    replace hcw := Lib.hid hcw
    clear hK ey e1 e2 hord2
    go_wp2
    refine leaves_cons (f := 35) (args := #[.pointer (some ⟨w.heap.size, 0, none⟩)]) (by simp) (by simp [go_sem]) ?_
    refine hcw.out.mono ?_
    rintro e u' w'' ⟨rfl, rfl, rfl⟩
    simp [Leaves, settle, results, Tryz.results13, go_sem, k2]
    exact ⟨hfin.out, hres.out⟩
end
theorem infoMod : (Tryz.prog.info? 24).map (·.size) = some 1 := by kernel_rfl
theorem results_cell_tmp_mod {fn : Func} {p u : Tmp} (h : fn.results = #[.cell p 24, .tmp u]) (tmps : Array Value) (w : World) (g : Nat) (t : TypeId) (cs : Array Value) (fr : Nat × Nat) (x : Value)
    (hp : tmps.getD p undef = .pointer (some ⟨g, 0, none⟩)) (hx : tmps.getD u undef = x) (hg : w.heap[g]? = some (.cells cs t fr)) (hi : (Tryz.prog.info? 24).map (·.size) = some cs.size) :
    (results fn tmps).run Tryz.prog w = .ok (.tuple #[.agg cs, x]) w := by
  have hl := run_loadVar_row (P := Tryz.prog) w g t 24 cs fr _ hg Tryz.underlying24 rfl hi
  rw [results_cell_tmp h, hp, hx]
  simp [asAddr, hl, Result.andThen]
theorem c_Decode {bb : Nat} {bs : List Nat} (v : Value) (w : World) (hv : RdB w v bs) (hblk : Blk bb v) (hbb : bb < w.heap.size) (hS : Spc w) (hlen : bs.length ≤ 4194304) :
    Calls Tryz.prog 9 #[v] w fun e w' => Below w.heap.size w w' ∧ ((∃ fs u cs, rdMod bs = some fs ∧ e = .returned (.tuple #[.agg #[u], .int .i64 0]) ∧ w'.ownsRow w.heap.size 47 9 u fs.length cs.flatten ∧ FnL w.heap.size u.ownBlock w' fs cs) ∨ (rdMod bs = none ∧ e = .returned (.tuple #[.agg #[.slice none 0 0], .int .i64 110]))) := by
  obtain ⟨W3, hW3⟩ : ∃ W3, ((w.alloc (.cells #[v] 27)).alloc (.cells #[.slice none 0 0] 24)).alloc (.cells #[.slice none 0 0] 24) = W3 := ⟨_, rfl⟩
  have hb3 : Below w.heap.size w W3 := by rw [← hW3]; exact (((Below.refl _ w).alloc (Nat.le_refl _) _).alloc (by simp) _).alloc (by simp; omega) _
  have d0 : W3.heap[w.heap.size]? = some (.cells #[v] 27 (0, 0)) := by
    rw [← hW3, Below.heap_alloc _ _ _ (by simp; omega), Below.heap_alloc _ _ _ (by simp)]
    exact heap_alloc_new w _
  have d1 : W3.heap[w.heap.size + 1]? = some (.cells #[.slice none 0 0] 24 (0, 0)) := by
    rw [← hW3, Below.heap_alloc _ _ _ (by simp)]
    have := heap_alloc_new (w.alloc (.cells #[v] 27)) (.cells #[.slice none 0 0] 24)
    simpa using this
  have d2 : W3.heap[w.heap.size + 1 + 1]? = some (.cells #[.slice none 0 0] 24 (0, 0)) := by
    rw [← hW3]
    have := heap_alloc_new ((w.alloc (.cells #[v] 27)).alloc (.cells #[.slice none 0 0] 24)) (.cells #[.slice none 0 0] 24)
    simpa using this
  have hs3 : W3.heap.size = w.heap.size + 3 := by rw [← hW3]; simp
  have hC := c_caughtD (hv.below hb3) hblk d0 d2 (hS.keep hb3) ⟨by omega, by omega⟩ (by omega) hlen
  have hlz : (bs.length : Int) ≤ 4194304 := by omega
  obtain ⟨p, c, rfl⟩ : ∃ p c, v = .slice p bs.length c := by
    obtain ⟨p, c, rfl, _⟩ := hv
    exact ⟨_, _, rfl⟩
  have hmf : ∀ (fn : Fn) (first cap : Array Value) (y : World), (Instr.makeFunc fn first cap).run Tryz.prog y = .ok (.func fn first cap) y := fun _ _ _ _ => rfl
  replace hC := Lib.hid hC
  replace hb3 := Lib.hid hb3
  replace d1 := Lib.hid d1
  replace hs3 := Lib.hid hs3
  clear hv hblk hbb hS hlen d0 d2
  go_enter Tryz.func9, Tryz.ntmps9
  go_wp2_with fail
  refine hC.out.mono ?_
  rintro e y ⟨hK, ⟨fs, u, cs, hres, rfl, hmy, hoy, hLy⟩ | ⟨hres, rfl⟩⟩
  · obtain ⟨pu, cu, rfl⟩ := own_form2 hoy
    have hz := hs3.out
    have ey := (hK.block (w.heap.size + 1) (row_lt d1.out) (fun e : w.heap.size + 1 = w.heap.size + 1 + 1 => by omega)).trans d1.out
    have k0 : y.cell? ⟨w.heap.size + 1, 0, none⟩ = some (.slice none 0 0) := by rw [cell_of_row _ _ 0 _ _ _ ey]; rfl
    have f0 : y.frozen? ⟨w.heap.size + 1, 0, none⟩ = false := by simp [World.frozen?, ey]
    have k1 : y.cell? ⟨w.heap.size + 1 + 1, 0, none⟩ = some (.slice pu fs.length cu) := by rw [cell_of_row _ _ 0 _ _ _ hmy]; rfl
    have e2 := heap_setCell_same y (w.heap.size + 1) 0 _ _ (.slice pu fs.length cu) ey
    have hne : ∀ r, r ≠ w.heap.size + 1 → (y.setCell ⟨w.heap.size + 1, 0, none⟩ (.slice pu fs.length cu)).heap[r]? = y.heap[r]? := fun r hr => Below.heap_setCell _ _ _ _ hr
    have hfin : Below w.heap.size w (y.setCell ⟨w.heap.size + 1, 0, none⟩ (.slice pu fs.length cu)) ∧ (y.setCell ⟨w.heap.size + 1, 0, none⟩ (.slice pu fs.length cu)).ownsRow w.heap.size 47 9 (.slice pu fs.length cu) fs.length cs.flatten ∧ FnL w.heap.size (Value.slice pu fs.length cu).ownBlock (y.setCell ⟨w.heap.size + 1, 0, none⟩ (.slice pu fs.length cu)) fs cs :=
      ⟨(hb3.out.trans (hK.below (by omega) (fun r (e : r = w.heap.size + 1 + 1) => by omega))).setCell (p := ⟨w.heap.size + 1, 0, none⟩) (Nat.le_succ _) _, own_le (own_turn hoy (fun k hk _ _ => hne k (by omega))) (by omega), (hLy.turn (fun k hk _ _ => hne k (by omega)) (fun k _ h => h)).le (by omega)⟩
    replace hfin := Lib.hid hfin
    replace hres := Lib.hid hres
    replace e2 := Lib.hid e2
    clear hne hmy hoy hLy hK ey hz hC
    go_wp2
    refine bodyPost_ret (results_cell_tmp_mod rfl _ _ (w.heap.size + 1) 24 _ (0, 0) (.int .i64 0) rfl rfl e2.out infoMod) rfl ?_
    exact ⟨hfin.out.1, .inl ⟨fs, _, cs, hres.out, rfl, hfin.out.2.1, hfin.out.2.2⟩⟩
  · have hz := hs3.out
    have ey := (hK.block (w.heap.size + 1) (row_lt d1.out) (fun e : w.heap.size + 1 = w.heap.size + 1 + 1 => by omega)).trans d1.out
    have k0 : y.cell? ⟨w.heap.size + 1, 0, none⟩ = some (.slice none 0 0) := by rw [cell_of_row _ _ 0 _ _ _ ey]; rfl
    have f0 : y.frozen? ⟨w.heap.size + 1, 0, none⟩ = false := by simp [World.frozen?, ey]
    have e2 := heap_setCell_same y (w.heap.size + 1) 0 _ _ (.slice none 0 0) ey
    have hfin : Below w.heap.size w (y.setCell ⟨w.heap.size + 1, 0, none⟩ (.slice none 0 0)) := (hb3.out.trans (hK.below (by omega) (fun r (e : r = w.heap.size + 1 + 1) => by omega))).setCell (p := ⟨w.heap.size + 1, 0, none⟩) (Nat.le_succ _) _
    replace hfin := Lib.hid hfin
    replace hres := Lib.hid hres
    replace e2 := Lib.hid e2
    clear hK ey hz hC
    go_wp2
    refine bodyPost_ret (results_cell_tmp_mod rfl _ _ (w.heap.size + 1) 24 _ (0, 0) (.int .i64 110) rfl rfl e2.out infoMod) rfl ?_
    exact ⟨hfin.out, .inr ⟨hres.out, rfl⟩⟩
end Go.Proofs.YtjjogaenejdliaaGreatDoor
namespace Go.Proofs.YtjjogaenejdliaaGreatDoor
open Go.RowKit Go.Lib
set_option linter.unusedVariables false
set_option linter.unusedSimpArgs false
set_option maxHeartbeats 2000000
set_option maxRecDepth 100000

/-- the reference's reader: what is left, and whether all was right -/
def QS (rb bb : Nat) (w : World) (bs : List Nat) (ok : Bool) : Prop := ∃ v, Blk bb v ∧ w.heap[rb]? = some (.cells #[v, .bool ok] 68 (0, 0)) ∧ RdB w v bs
section
variable {rb bb : Nat} {w w' y y' : World} {bs r : List Nat} {ok : Bool}
theorem QS.lt (h : QS rb bb w bs ok) : rb < w.heap.size := by
  obtain ⟨v, _, h1, _⟩ := h
  exact row_lt h1
theorem QS.turn (h : QS rb bb y r ok) (h1 : y'.heap[rb]? = y.heap[rb]?) (h2 : y'.heap[bb]? = y.heap[bb]?) : QS rb bb y' r ok := by
  obtain ⟨v, h0, h3, p, c, rfl, h4, h5, h6⟩ := h
  refine ⟨_, h0, h1.trans h3, p, c, rfl, h4, h5, fun k x hx => ?_⟩
  obtain ⟨g1, b, o, e, g2⟩ := h6 k x hx
  have hb : b = bb := h0 ⟨b, o, none⟩ _ _ (by rw [e])
  subst hb
  exact ⟨g1, b, o, e, by rw [World.cell?_of_block (w := y) (a := ⟨b, o + k, none⟩) h2]; exact g2⟩
theorem RdB.fresh {v v0 v1 : Value} {t : TypeId} (h : RdB w v bs) (hr : w.heap[rb]? = some (.cells #[v0, v1] t (0, 0))) (h0 : ∀ x, v0 ≠ .int .u8 x) (h1 : ∀ x, v1 ≠ .int .u8 x) (i : Nat) (u : Value) : RdB (w.setCell ⟨rb, i, none⟩ u) v bs := by
  refine h.keep fun b o x hc => ?_
  have hne : b ≠ rb := fun e => by
    subst e
    rw [cell_of_row _ _ o _ _ _ hr] at hc
    match o with
    | 0 => simp at hc; exact h0 x hc
    | 1 => simp at hc; exact h1 x hc
    | o + 2 => simp at hc
  rw [World.cell?_of_block (w := w) (a := ⟨b, o, none⟩) (Below.heap_setCell _ _ _ _ hne)]
  exact hc
theorem QS.set (h : QS rb bb w bs ok) (ok' : Bool) : QS rb bb (w.setCell ⟨rb, 1, none⟩ (.bool ok')) bs ok' := by
  obtain ⟨v, h0, h1, h2⟩ := h
  have hv : ∀ x, v ≠ .int .u8 x := by
    obtain ⟨p, c, rfl, _⟩ := h2
    simp
  exact ⟨v, h0, heap_setCell_same w rb 1 _ _ (.bool ok') h1, h2.fresh h1 hv (by simp) 1 _⟩
theorem qs_drop {p p' : Option Addr} {c c' n : Nat} (hblk : Blk bb (.slice p bs.length c)) (hr : w.heap[rb]? = some (.cells #[.slice p bs.length c, .bool ok] 68 (0, 0))) (hlc : bs.length ≤ c) (hcm : c ≤ 9223372036854775807) (hn : n ≤ bs.length)
    (hcell : ∀ (k : Nat) x, bs[k]? = some x → x < 256 ∧ ∃ b o, p = some ⟨b, o, none⟩ ∧ w.cell? ⟨b, o + k, none⟩ = some (.int .u8 (x : Int)))
    (hp : (p' = p.map (fun x => x.add n) ∧ c' = c - n) ∨ (p' = p ∧ c = n ∧ c' = 0)) :
    QS rb bb (w.setCell ⟨rb, 0, none⟩ (.slice p' (bs.length - n) c')) (bs.drop n) ok := by
  have h0 : RdB w (.slice p bs.length c) bs := ⟨p, c, rfl, hlc, hcm, hcell⟩
  obtain ⟨q, d, e1, e2, e3, e4⟩ := h0.fresh hr (by simp) (by simp) 0 (.slice p' (bs.length - n) c')
  injection e1 with e1 _ e5
  subst e1 e5
  have hblk' : Blk bb (.slice p' (bs.length - n) c') := fun q n' c'' h => by
    injection h with h _ _
    rcases hp with ⟨h2, _⟩ | ⟨h2, _⟩
    · rw [h2] at h
      cases p with
      | none => cases h
      | some a =>
        have := hblk a _ _ rfl
        injection h with h
        rw [← h]
        unfold Addr.add
        split <;> exact this
    · rw [h2] at h
      exact hblk q _ _ (by rw [h])
  refine ⟨_, hblk', heap_setCell_same w rb 0 _ _ _ hr, p', c', by rw [List.length_drop], ?_, ?_, fun k x hx => ?_⟩
  · rw [List.length_drop]; rcases hp with ⟨_, h⟩ | ⟨_, h1, h2⟩ <;> omega
  · rcases hp with ⟨_, h⟩ | ⟨_, h1, h2⟩ <;> omega
  · rw [List.getElem?_drop] at hx
    have hk := (List.getElem?_eq_some_iff.1 hx).1
    obtain ⟨g1, b, o, rfl, g2⟩ := e4 (n + k) x hx
    refine ⟨g1, b, o + n, ?_, by rw [show o + n + k = o + (n + k) by omega]; exact g2⟩
    rcases hp with ⟨h, _⟩ | ⟨_, h1, h2⟩
    · rw [h]
      simp only [Option.map_some, Addr.add]
      split
      · rename_i hz; subst hz; rfl
      · rfl
    · omega
theorem add_join (u m i : Nat) (hu : u < 2 ^ (7 * i)) (hi : i < 9) (hm : m < 128) : IntKind.u64.wrap ((u : Int) + IntKind.u64.wrap ((m : Int) * 2 ^ (7 * i))) = ((u + m * 2 ^ (7 * i) : Nat) : Int) := by
  have h3 : 2 ^ (7 * (i + 1)) ≤ 2 ^ 63 := Nat.pow_le_pow_right (by decide) (by omega)
  have e63 : (2 : Nat) ^ 63 = 9223372036854775808 := by decide
  have e : 2 ^ (7 * (i + 1)) = 128 * 2 ^ (7 * i) := by rw [Nat.mul_add, Nat.pow_add, Nat.mul_comm]
  have h2 : m * 2 ^ (7 * i) ≤ 127 * 2 ^ (7 * i) := Nat.mul_le_mul_right _ (by omega)
  have hc : ((m : Int) * 2 ^ (7 * i)) = ((m * 2 ^ (7 * i) : Nat) : Int) := by push_cast; rfl
  rw [hc]
  generalize m * 2 ^ (7 * i) = Q at *
  rw [IntKind.wrap_u64, IntKind.wrap_u64]
  omega
/-- a reading of the reference's: what came, or anything and ok is off -/
theorem c_Qnum (h : QS rb bb w bs ok) (hrb : bb ≠ rb) : Calls Tryz.prog 25 #[.pointer (some ⟨rb, 0, none⟩)] w fun e w' => KB (fun r => r = rb) w w' ∧ ((∃ n r, ok = true ∧ rdNum bs = some (n, r) ∧ e = .returned (.int .i64 (n : Int)) ∧ QS rb bb w' r true) ∨ ((ok = false ∨ rdNum bs = none) ∧ e = .returned (.int .i64 0) ∧ ∃ r, QS rb bb w' r false ∧ r.length ≤ bs.length)) := by
  have hk0 := KB.refl (fun r => r = rb) w
  have hoff : ∀ (y : World) (r : List Nat) (ok : Bool), QS rb bb y r ok → KB (fun r => r = rb) w y → y.cell? ⟨rb, 1, none⟩ = some (.bool ok) ∧ y.frozen? ⟨rb, 1, none⟩ = false ∧ QS rb bb (y.setCell ⟨rb, 1, none⟩ (.bool false)) r false ∧ KB (fun r => r = rb) w (y.setCell ⟨rb, 1, none⟩ (.bool false)) := fun y r ok hq hk => by
    have hq2 := hq.set false
    obtain ⟨v, _, h1, _⟩ := hq
    exact ⟨by rw [cell_of_row _ _ 1 _ _ _ h1]; rfl, by simp [World.frozen?, h1], hq2, hk.trans (KB.setCell rfl)⟩
  cases ok with
  | false =>
    obtain ⟨k1, f1, hq2, hk2⟩ := hoff w bs false h hk0
    replace hq2 := Lib.hid hq2
    replace hk2 := Lib.hid hk2
    clear h hk0 hoff
    go_enter Tryz.func25, Tryz.ntmps25
    go_wp2_with fail
    go_loopg [4] 0 (fun g v4 wr => v4 = .int .i64 0 ∧ wr = w)
    case atStart => exact ⟨rfl, rfl⟩
    case round =>
      obtain ⟨rfl, rfl⟩ := hrel
      go_wp2
      go_ret
      exact ⟨hk2.out, .inr ⟨by simp, rfl, bs, hq2.out, Nat.le_refl _⟩⟩
  | true =>
    replace h := Lib.hid h
    replace hoff := Lib.hid hoff
    go_enter Tryz.func25, Tryz.ntmps25
    go_wp2_with fail
    go_loopg [3, 4] bs.length (fun g v3 v4 wr => ∃ (i u : Nat) (r : List Nat), g = r.length ∧ i ≤ 9 ∧ v3 = .int .u64 (u : Int) ∧ v4 = .int .i64 (i : Int) ∧ rdNum bs = rdN i u r ∧ u < 2 ^ (7 * i) ∧ QS rb bb wr r true ∧ KB (fun r => r = rb) w wr ∧ r.length ≤ bs.length)
    case atStart => exact ⟨0, 0, bs, rfl, by decide, rfl, rfl, rfl, by decide, h.out, hk0, Nat.le_refl _⟩
    case round =>
      obtain ⟨i, u, r, rfl, hi, rfl, rfl, he, hu, hQ, hK, hle⟩ := hrel
      obtain ⟨k1, f1, hq2, hk2⟩ := hoff.out wr r true hQ hK
      obtain ⟨v, hblk, hrow, p, cp, rfl, hlc, hcm, hcell⟩ := hQ
      have k0 : wr.cell? ⟨rb, 0, none⟩ = some (.slice p r.length cp) := by rw [cell_of_row _ _ 0 _ _ _ hrow]; rfl
      have f0 : wr.frozen? ⟨rb, 0, none⟩ = false := by simp [World.frozen?, hrow]
      replace hq2 := Lib.hid hq2
      replace hk2 := Lib.hid hk2
      replace hK := Lib.hid hK
      replace hu := Lib.hid hu
      replace he := Lib.hid he
      clear hk0
      cases r with
      | nil =>
        have hres : rdNum bs = none := by rw [he.out]; rfl
        replace hres := Lib.hid hres
        clear hcell hrow hblk he hu
        go_wp2
        go_ret
        exact ⟨hk2.out, .inr ⟨.inr hres.out, rfl, [], hq2.out, by simp⟩⟩
      | cons c r =>
        obtain ⟨hc, b, o, rfl, hcc⟩ := hcell 0 c rfl
        rw [Nat.add_zero] at hcc
        have hcs : ∃ (p' : Option Addr) (c' : Nat), ((p' = (some (⟨b, o, none⟩ : Addr)).map (fun x => x.add 1) ∧ c' = cp - 1) ∨ (p' = some ⟨b, o, none⟩ ∧ cp = 1 ∧ c' = 0)) ∧ ((cp = 1 ∧ p' = some ⟨b, o, none⟩ ∧ c' = 0) ∨ (cp ≠ 1 ∧ p' = some ((⟨b, o, none⟩ : Addr).add 1) ∧ c' = cp - 1)) := by
          by_cases h1 : cp = 1
          · exact ⟨_, _, .inr ⟨rfl, h1, rfl⟩, .inl ⟨h1, rfl, rfl⟩⟩
          · exact ⟨_, _, .inl ⟨rfl, rfl⟩, .inr ⟨h1, rfl, rfl⟩⟩
        obtain ⟨p', c', hpp, hcs⟩ := hcs
        have hq3 := qs_drop (n := 1) hblk hrow hlc hcm (by simp) hcell hpp
        simp only [List.length_cons, Nat.add_sub_cancel, List.drop_succ_cons, List.drop_zero] at hq3 k0
        have hK3 : KB (fun r => r = rb) w (wr.setCell ⟨rb, 0, none⟩ (.slice p' r.length c')) := hK.out.trans (KB.setCell rfl)
        obtain ⟨k3, f3, hq4, hk4⟩ := hoff.out _ r true hq3 hK3
        have hl0 : ((r.length : Int) + 1 == 0) = false := by simp; omega
        have h9d : decide ((9 : Int) < (i : Int)) = false := by simp; omega
        have hle1 := Lib.hid hle
        have hle2 := Lib.hid (show r.length ≤ bs.length by simp at hle; omega)
        have hcp1 : 1 ≤ cp := by simp at hlc; omega
        have hcc3 : (wr.setCell ⟨rb, 0, none⟩ (.slice p' r.length c')).cell? ⟨b, o, none⟩ = some (.int .u8 (c : Int)) := by
          have hne : b ≠ rb := fun e => by
            subst e
            rw [cell_of_row _ _ o _ _ _ hrow] at hcc
            match o with
            | 0 => simp at hcc
            | 1 => simp at hcc
            | o + 2 => simp at hcc
          rw [World.cell?_of_block (w := wr) (a := ⟨b, o, none⟩) (Below.heap_setCell _ _ _ _ hne)]
          exact hcc
        have hstep : rdNum bs = if 9 ≤ i then none else if c < 128 then (if 0 < c ∨ i = 0 then some (u + c * 2 ^ (7 * i), r) else none) else rdN (i + 1) (u + (c % 128) * 2 ^ (7 * i)) r := by
          rw [he.out]
          simp only [rdN]
        replace hq3 := Lib.hid hq3
        replace hK3 := Lib.hid hK3
        replace hq4 := Lib.hid hq4
        replace hk4 := Lib.hid hk4
        replace hstep := Lib.hid hstep
        clear hcell hrow hblk hpp hle hlc he
        rcases hcs with ⟨rfl, rfl, rfl⟩ | ⟨hcp, rfl, rfl⟩
        all_goals
          by_cases h9 : i = 9
          · have h9e : ((i : Int) == 9) = true := by simp; omega
            have hres : rdNum bs = none := by rw [hstep.out, if_pos (by omega)]
            have h9p : decide (0 < i) = true := by simp; omega
            replace hres := Lib.hid hres
            clear hu h9 hstep
            by_cases hc0 : c = 0
            · subst hc0
              go_wp2
              go_ret
              exact ⟨hk4.out, .inr ⟨.inr hres.out, rfl, r, hq4.out, hle2.out⟩⟩
            · have hcd : decide (0 < c) = true := by simp; omega
              go_wp2
              go_ret
              exact ⟨hk2.out, .inr ⟨.inr hres.out, rfl, c :: r, hq2.out, hle1.out⟩⟩
          · have h9e : ((i : Int) == 9) = false := by simp; omega
            have hi9 : i < 9 := by omega
            have q0 : (0 : Int) ≤ (i : Int) := by omega
            have q1 : (i : Int) < 9 := by omega
            have hor := add_join u (c % 128) i hu.out hi9 (by omega)
            have hm : ((c % 128 : Nat) : Int) = (c : Int) % 128 := by omega
            rw [hm] at hor
            have hu2 : u + c % 128 * 2 ^ (7 * i) < 2 ^ (7 * (i + 1)) := by
              have e : 2 ^ (7 * (i + 1)) = 128 * 2 ^ (7 * i) := by rw [Nat.mul_add, Nat.pow_add, Nat.mul_comm]
              have h2 : (c % 128) * 2 ^ (7 * i) ≤ 127 * 2 ^ (7 * i) := Nat.mul_le_mul_right _ (by omega)
              have := hu.out
              omega
            have h63 : u + c % 128 * 2 ^ (7 * i) < 9223372036854775808 := by
              have h3 : 2 ^ (7 * (i + 1)) ≤ 2 ^ 63 := Nat.pow_le_pow_right (by decide) (by omega)
              have e63 : (2 : Nat) ^ 63 = 9223372036854775808 := by decide
              omega
            have hst := hstep.out
            rw [if_neg (by omega)] at hst
            obtain ⟨U, hU⟩ : ∃ U, u + c % 128 * 2 ^ (7 * i) = U := ⟨_, rfl⟩
            rw [hU] at hor hu2 h63 hst
            replace hst := Lib.hid hst
            replace hu2 := Lib.hid hu2
            replace hU := Lib.hid hU
            clear hm hu hstep
            have hw : IntKind.i64.wrap (U : Int) = (U : Int) := by rw [IntKind.wrap_i64]; omega
            by_cases hc8 : c < 128
            · have hcm : c % 128 = c := by omega
              have hU' := hU.out
              rw [hcm] at hU'
              replace hU' := Lib.hid hU'
              by_cases hc0 : c = 0
              · by_cases hi0 : i = 0
                · have hres : rdNum bs = some (U, r) := by rw [hst.out, if_pos hc8, if_pos (.inr hi0), hU'.out]
                  have hd : decide (0 < i) = false := by simp; omega
                  have hce : ((c : Int) == 0) = true := by rw [hc0]; rfl
                  replace hres := Lib.hid hres
                  clear hcm hi0 hst hc0
                  go_wp2
                  go_ret
                  exact ⟨hK3.out, .inl ⟨U, r, by simp, hres.out, rfl, hq3.out⟩⟩
                · have hres : rdNum bs = none := by rw [hst.out, if_pos hc8, if_neg (by omega)]
                  have hd : decide (0 < i) = true := by simp; omega
                  have hce : ((c : Int) == 0) = true := by rw [hc0]; rfl
                  replace hres := Lib.hid hres
                  clear hcm hi0 hst hc0
                  go_wp2
                  go_ret
                  exact ⟨hk4.out, .inr ⟨.inr hres.out, rfl, r, hq4.out, hle2.out⟩⟩
              · have hres : rdNum bs = some (U, r) := by rw [hst.out, if_pos hc8, if_pos (.inl (by omega)), hU'.out]
                have hce : ((c : Int) == 0) = false := by simp; omega
                replace hres := Lib.hid hres
                clear hcm hst
                go_wp2
                go_ret
                exact ⟨hK3.out, .inl ⟨U, r, by simp, hres.out, rfl, hq3.out⟩⟩
            · have hres : rdNum bs = rdN (i + 1) U r := by rw [hst.out, if_neg hc8]
              replace hres := Lib.hid hres
              clear hst
              go_wp2
              go_roundg r.length
              case measure => simp
              case rel => exact ⟨i + 1, U, r, rfl, by omega, rfl, by go_num, hres.out, hu2.out, hq3.out, hK3.out, hle2.out⟩
end
end Go.Proofs.YtjjogaenejdliaaGreatDoor
namespace Go.Proofs.YtjjogaenejdliaaGreatDoor
open Go.RowKit Go.Lib
set_option linter.unusedVariables false
set_option linter.unusedSimpArgs false
set_option maxHeartbeats 2000000
set_option maxRecDepth 100000

section
variable {rb bb : Nat} {w w' y y' : World} {bs r : List Nat} {ok : Bool}
theorem QS.facts (h : QS rb bb y r ok) : y.cell? ⟨rb, 1, none⟩ = some (.bool ok) ∧ y.frozen? ⟨rb, 1, none⟩ = false := by
  obtain ⟨v, _, h1, _⟩ := h
  exact ⟨by rw [cell_of_row _ _ 1 _ _ _ h1]; rfl, by simp [World.frozen?, h1]⟩
theorem c_Qflag (h : QS rb bb w bs ok) (hrb : bb ≠ rb) : Calls Tryz.prog 57 #[.pointer (some ⟨rb, 0, none⟩)] w fun e w' => KB (fun r => r = rb) w w' ∧ ((∃ b r, ok = true ∧ rdFlag bs = some (b, r) ∧ e = .returned (.bool b) ∧ QS rb bb w' r true) ∨ ((ok = false ∨ rdFlag bs = none) ∧ e = .returned (.bool false) ∧ ∃ r, QS rb bb w' r false ∧ r.length ≤ bs.length)) := by
  have hN := c_Qnum h hrb
  have hdef : rdFlag bs = match rdNum bs with
    | none => none
    | some (n, r) => if n ≤ 1 then some (n == 1, r) else none := rfl
  replace hN := Lib.hid hN
  replace hdef := Lib.hid hdef
  clear h
  go_enter Tryz.func57, Tryz.ntmps57
  go_wp2_with fail
  refine hN.out.mono ?_
  rintro e y ⟨hK, ⟨n, r, hok, hn, rfl, hQ⟩ | ⟨hor, rfl, r, hQ, hle⟩⟩
  · obtain ⟨k1, f1⟩ := hQ.facts
    have hle := rdNum_len hn
    have hd2 := hdef.out
    rw [hn] at hd2
    replace hd2 := Lib.hid hd2
    by_cases h1 : n ≤ 1
    · have hd : decide ((n : Int) ≤ 1) = true := by simp; omega
      have hres : rdFlag bs = some (n == 1, r) := by rw [hd2.out]; dsimp only; rw [if_pos h1]
      have he : ((n : Int) == 1) = (n == 1) := by rw [Bool.eq_iff_iff]; simp; omega
      have hq2 := hQ.set true
      have hK2 : KB (fun r => r = rb) w (y.setCell ⟨rb, 1, none⟩ (.bool true)) := hK.trans (KB.setCell rfl)
      replace hres := Lib.hid hres
      replace hq2 := Lib.hid hq2
      replace hK2 := Lib.hid hK2
      clear hN hK hn hQ hd2 hdef h1
      go_wp2
      go_ret
      exact ⟨hK2.out, .inl ⟨_, r, hok, hres.out, by first | rfl | rw [he], hq2.out⟩⟩
    · have hd : decide ((n : Int) ≤ 1) = false := by simp; omega
      have hres : rdFlag bs = none := by rw [hd2.out]; dsimp only; rw [if_neg h1]
      have he : ((n : Int) == 1) = false := by simp; omega
      have hq2 := hQ.set false
      have hK2 : KB (fun r => r = rb) w (y.setCell ⟨rb, 1, none⟩ (.bool false)) := hK.trans (KB.setCell rfl)
      replace hres := Lib.hid hres
      replace hq2 := Lib.hid hq2
      replace hK2 := Lib.hid hK2
      replace hle := Lib.hid hle
      clear hN hK hn hQ hd2 hdef h1
      go_wp2
      go_ret
      exact ⟨hK2.out, .inr ⟨.inr hres.out, rfl, r, hq2.out, by have := hle.out; omega⟩⟩
  · obtain ⟨k1, f1⟩ := hQ.facts
    have hq2 := hQ.set false
    have hK2 : KB (fun r => r = rb) w (y.setCell ⟨rb, 1, none⟩ (.bool false)) := hK.trans (KB.setCell rfl)
    have hor2 : ok = false ∨ rdFlag bs = none := hor.imp id (fun h => by rw [hdef.out, h])
    replace hor2 := Lib.hid hor2
    replace hq2 := Lib.hid hq2
    replace hK2 := Lib.hid hK2
    clear hN hK hor hQ hdef
    go_wp2
    go_ret
    exact ⟨hK2.out, .inr ⟨hor2.out, rfl, r, hq2.out, hle⟩⟩
theorem c_Qtext (h : QS rb bb w bs ok) (hrb : bb ≠ rb) : Calls Tryz.prog 56 #[.pointer (some ⟨rb, 0, none⟩)] w fun e w' => KB (fun r => r = rb) w w' ∧ ((∃ s r, ok = true ∧ rdText bs = some (s, r) ∧ e = .returned (.string s) ∧ QS rb bb w' r true) ∨ ((ok = false ∨ rdText bs = none) ∧ e = .returned (.string ⟨#[]⟩) ∧ ∃ r, QS rb bb w' r false ∧ r.length ≤ bs.length)) := by
  have hN := c_Qnum h hrb
  have hdef : rdText bs = match rdNum bs with
    | none => none
    | some (n, r) => if n % 2 = 0 then (if n ≤ r.length then some (strOf (r.take n), r.drop n) else none) else none := rfl
  replace hN := Lib.hid hN
  replace hdef := Lib.hid hdef
  clear h
  go_enter Tryz.func56, Tryz.ntmps56
  go_wp2_with fail
  refine hN.out.mono ?_
  rintro e y ⟨hK, ⟨n, r, hok, hn, rfl, hQ⟩ | ⟨hor, rfl, r, hQ, hle⟩⟩
  · obtain ⟨k1, f1⟩ := hQ.facts
    have hle := rdNum_len hn
    have h63 := (rdNum_some hn).1
    have e63 : (2 : Nat) ^ 63 = 9223372036854775808 := by decide
    rw [e63] at h63
    have hd2 := hdef.out
    rw [hn] at hd2
    have hqf := hQ.set false
    have hKf : KB (fun r => r = rb) w (y.setCell ⟨rb, 1, none⟩ (.bool false)) := hK.trans (KB.setCell rfl)
    obtain ⟨v, hblk, hrow, p, c, rfl, hlc, hcm, hcell⟩ := hQ
    have k0 : y.cell? ⟨rb, 0, none⟩ = some (.slice p r.length c) := by rw [cell_of_row _ _ 0 _ _ _ hrow]; rfl
    have f0 : y.frozen? ⟨rb, 0, none⟩ = false := by simp [World.frozen?, hrow]
    replace hd2 := Lib.hid hd2
    replace hqf := Lib.hid hqf
    replace hKf := Lib.hid hKf
    replace hle := Lib.hid hle
    replace hcell := Lib.hid hcell
    replace hblk := Lib.hid hblk
    clear hN hn hdef e63
    have hmod : ((n : Int) % 2 == 1) = decide (n % 2 = 1) := by rw [Bool.eq_iff_iff]; simp; omega
    by_cases h1 : n ≤ r.length
    · have hgt : decide (r.length < n) = false := by simp; omega
      by_cases h2 : n % 2 = 0
      · have hres : rdText bs = some (strOf (r.take n), r.drop n) := by rw [hd2.out]; dsimp only; rw [if_pos h2, if_pos h1]
        rw [decide_eq_false (by omega)] at hmod
        have hB0 : RdB y (.slice p n c) (r.take n) := by
          refine ⟨p, c, by simp [Nat.min_eq_left h1], by simp; omega, hcm, fun k x hx => ?_⟩
          have hk : k < n := by have := (List.getElem?_eq_some_iff.1 hx).1; simp at this; omega
          rw [List.getElem?_take, if_pos hk] at hx
          exact hcell.out k x hx
        have hcv := rdB_str hB0
        have p0 : (0 : Int) ≤ (n : Int) := by omega
        have p1 : (n : Int) ≤ (r.length : Int) := by omega
        have p2 : (n : Int) ≤ (c : Int) := by omega
        have p3 : (r.length : Int) ≤ (c : Int) := by omega
        have hK1 := Lib.hid hK
        have hrow' := Lib.hid hrow
        have h1' := Lib.hid h1
        have hlc' := Lib.hid hlc
        replace hres := Lib.hid hres
        clear hK hd2 hB0 h2 hrow
        by_cases hcn : c = n
        · subst hcn
          have hq3 := qs_drop (p' := p) (c' := 0) hblk.out hrow'.out hlc hcm h1 hcell.out (.inr ⟨rfl, rfl, rfl⟩)
          replace hq3 := Lib.hid hq3
          clear h1 hlc
          go_wp2
          go_ret
          exact ⟨hK1.out.trans (KB.setCell rfl), .inl ⟨_, _, hok, hres.out, rfl, hq3.out⟩⟩
        · have hq3 := qs_drop (n := n) hblk.out hrow'.out hlc hcm h1 hcell.out (.inl ⟨rfl, rfl⟩)
          replace hq3 := Lib.hid hq3
          clear h1 hlc
          go_wp2
          go_ret
          exact ⟨hK1.out.trans (KB.setCell rfl), .inl ⟨_, _, hok, hres.out, rfl, hq3.out⟩⟩
      · have hres : rdText bs = none := by rw [hd2.out]; dsimp only; rw [if_neg h2]
        rw [decide_eq_true (by omega)] at hmod
        replace hres := Lib.hid hres
        clear hK hd2 h1 h2 hrow hlc
        go_wp2
        go_ret
        exact ⟨hKf.out, .inr ⟨.inr hres.out, rfl, r, hqf.out, by have := hle.out; omega⟩⟩
    · have hgt : decide (r.length < n) = true := by simp; omega
      have hres : rdText bs = none := by
        rw [hd2.out]; dsimp only
        by_cases hx : n % 2 = 0
        · rw [if_pos hx, if_neg h1]
        · rw [if_neg hx]
      replace hres := Lib.hid hres
      clear hK hd2 h1 hrow hlc hmod
      go_wp2
      go_ret
      exact ⟨hKf.out, .inr ⟨.inr hres.out, rfl, r, hqf.out, by have := hle.out; omega⟩⟩
  · obtain ⟨k1, f1⟩ := hQ.facts
    have hq2 := hQ.set false
    have hK2 : KB (fun r => r = rb) w (y.setCell ⟨rb, 1, none⟩ (.bool false)) := hK.trans (KB.setCell rfl)
    have hor2 : ok = false ∨ rdText bs = none := hor.imp id (fun h => by rw [hdef.out, h])
    replace hor2 := Lib.hid hor2
    replace hq2 := Lib.hid hq2
    replace hK2 := Lib.hid hK2
    clear hN hK hor hQ hdef
    go_wp2
    go_ret
    exact ⟨hK2.out, .inr ⟨hor2.out, rfl, r, hq2.out, hle⟩⟩
end
end Go.Proofs.YtjjogaenejdliaaGreatDoor
namespace Go.Proofs.YtjjogaenejdliaaGreatDoor
open Go.RowKit Go.Lib
set_option linter.unusedVariables false
set_option linter.unusedSimpArgs false
set_option maxHeartbeats 2000000
set_option maxRecDepth 100000

theorem c_Qbits (x : Nat) (w : World) : Calls Tryz.prog 44 #[.float .f64 x] w fun e w' => e = .returned (.int .u64 ((nanB x : Nat) : Int)) ∧ w' = w := by
  have hr : ∀ (x : Nat) (w : World), (callFunc 68 #[.float .f64 x]).run Tryz.prog w = .ok (.value (.int .u64 x)) w := fun x w => by kernel_rfl
  cases ho : (FloatKind.f64.format.order x x == some Ordering.eq) with
  | true =>
    have hb : nanB x = x := by unfold nanB; rw [ho]; rfl
    have hne : (FloatKind.f64.format.order x x != some Ordering.eq) = false := by rw [bne, ho]; rfl
    rw [hb]
    clear hb
    go_enter Tryz.func44, Tryz.ntmps44
    go_wp2
    go_ret
    exact ⟨rfl, rfl⟩
  | false =>
    have hb : nanB x = 9221120237041090560 := by unfold nanB; rw [ho]; rfl
    have hne : (FloatKind.f64.format.order x x != some Ordering.eq) = true := by rw [bne, ho]; rfl
    rw [hb]
    clear hb
    go_enter Tryz.func44, Tryz.ntmps44
    go_wp2
    go_ret
    exact ⟨rfl, rfl⟩
theorem nanB_iff (u : Nat) : (nanB u = u) ↔ fine64 u = true := by
  unfold nanB fine64
  by_cases h : (FloatKind.f64.format.order u u == some Ordering.eq) = true
  · simp [h]
  · rw [if_neg h]
    simp at h
    simp [h]
    exact ⟨fun e => e.symm, fun e => e.symm⟩
/-- the u64 of a step: the reference's way -/
theorem be_step2 (u c : Nat) (hu : u < 72057594037927936) (hc : c < 256) : IntKind.u64.wrap (IntKind.u64.wrap ((u : Int) * 256) + (c : Int)) = ((u * 256 + c : Nat) : Int) := by
  rw [IntKind.wrap_u64, IntKind.wrap_u64]
  omega
section
variable {rb bb : Nat} {w w' y y' : World} {bs r : List Nat} {ok : Bool}
theorem QS.below (h : QS rb bb w bs ok) (hb : Below w.heap.size w w') : QS rb bb w' bs ok := by
  have hl := h.lt
  obtain ⟨v, h0, h1, h2⟩ := h
  exact ⟨v, h0, (hb.block _ hl).trans h1, h2.below hb⟩
/-- a value's four cells are laid: of the reference's reader -/
theorem QS.set4 {a0 a3 : Int} {a1 : Nat} {a2 : ByteArray} {b : Nat} (hq : QS rb bb y r ok) (hb : b ≠ rb) (h : y.heap[b]? = some (.cells #[.int .i64 a0, .float .f64 a1, .string a2, .int .i64 a3] 51 (0, 0))) (v : VV) :
    QS rb bb ((((y.setCell ⟨b, 0, none⟩ (.int .i64 v.k)).setCell ⟨b, 1, none⟩ (.float .f64 v.x)).setCell ⟨b, 2, none⟩ (.string v.s)).setCell ⟨b, 3, none⟩ (.int .i64 v.r)) r ok := by
  have hne : ∀ r', r' ≠ b → ((((y.setCell ⟨b, 0, none⟩ (.int .i64 v.k)).setCell ⟨b, 1, none⟩ (.float .f64 v.x)).setCell ⟨b, 2, none⟩ (.string v.s)).setCell ⟨b, 3, none⟩ (.int .i64 v.r)).heap[r']? = y.heap[r']? := fun r' hr => by
    rw [Below.heap_setCell _ _ _ _ hr, Below.heap_setCell _ _ _ _ hr, Below.heap_setCell _ _ _ _ hr, Below.heap_setCell _ _ _ _ hr]
  obtain ⟨v0, h0, h1, h2⟩ := hq
  refine ⟨v0, h0, (hne rb (fun e => hb e.symm)).trans h1, h2.keep fun b' o x hc => ?_⟩
  have hb' : b' ≠ b := fun e => by
    subst e
    exact noU8 h (fun u hu x => by simp at hu; rcases hu with rfl | rfl | rfl | rfl <;> simp) o x hc
  rw [World.cell?_of_block (w := y) (a := ⟨b', o, none⟩) (hne b' hb')]
  exact hc
end
end Go.Proofs.YtjjogaenejdliaaGreatDoor
namespace Go.Proofs.YtjjogaenejdliaaGreatDoor
open Go.RowKit Go.Lib
set_option linter.unusedVariables false
set_option linter.unusedSimpArgs false
set_option maxHeartbeats 4000000
set_option maxRecDepth 100000

section
variable {rb bb : Nat} {w w' y y' : World} {bs r : List Nat} {ok : Bool}
theorem c_Qconst (h : QS rb bb w bs ok) (hrb : bb ≠ rb) : Calls Tryz.prog 58 #[.pointer (some ⟨rb, 0, none⟩)] w fun e w' => KB (fun r => r = rb) w w' ∧ ((∃ v r, ok = true ∧ rdConst bs = some (v, r) ∧ e = .returned (.agg (encVV v).toArray) ∧ QS rb bb w' r true) ∨ ((ok = false ∨ rdConst bs = none) ∧ (∃ v, e = .returned (.agg (encVV v).toArray)) ∧ ∃ r, QS rb bb w' r false ∧ r.length ≤ bs.length)) := by
  obtain ⟨W1, hW1⟩ : ∃ W1, w.alloc (.cells #[.int .i64 0, .float .f64 0, .string ⟨#[]⟩, .int .i64 0] 51) = W1 := ⟨_, rfl⟩
  have hb1 : Below w.heap.size w W1 := by rw [← hW1]; exact (Below.refl _ w).alloc (Nat.le_refl _) _
  have d1 : W1.heap[w.heap.size]? = some (.cells #[.int .i64 0, .float .f64 0, .string ⟨#[]⟩, .int .i64 0] 51 (0, 0)) := by rw [← hW1]; exact heap_alloc_new w _
  have hlr := h.lt
  have hN := c_Qflag (h.below hb1) hrb
  have hdef : rdConst bs = match rdFlag bs with
      | none => none
      | some (true, r) => match rdText r with
        | none => none
        | some (s, r) => some (textC s, r)
      | some (false, r) => if 8 ≤ r.length then (if fine64 (be8 (r.take 8)) then some (numC (be8 (r.take 8)), r.drop 8) else none) else none := rfl
  have hk1 : ∀ y, KB (fun r => r = rb) W1 y → y.heap[w.heap.size]? = some (.cells #[.int .i64 0, .float .f64 0, .string ⟨#[]⟩, .int .i64 0] 51 (0, 0)) := fun y hy => (hy.block _ (row_lt d1) (fun e : w.heap.size = rb => by omega)).trans d1
  have hkw : ∀ y, KB (fun r => r = rb) W1 y → KB (fun r => r = rb) w y := fun y hy => (KB.of_below hb1).trans hy
  have hcl : ∀ y : World, y.heap[w.heap.size]? = some (.cells #[.int .i64 0, .float .f64 0, .string ⟨#[]⟩, .int .i64 0] 51 (0, 0)) → ((y.cell? ⟨w.heap.size, 0, none⟩ = some (.int .i64 0) ∧ y.cell? ⟨w.heap.size, 1, none⟩ = some (.float .f64 0)) ∧ y.cell? ⟨w.heap.size, 2, none⟩ = some (.string ⟨#[]⟩) ∧ y.cell? ⟨w.heap.size, 3, none⟩ = some (.int .i64 0)) ∧ (y.frozen? ⟨w.heap.size, 0, none⟩ = false ∧ y.frozen? ⟨w.heap.size, 1, none⟩ = false) ∧ y.frozen? ⟨w.heap.size, 2, none⟩ = false ∧ y.frozen? ⟨w.heap.size, 3, none⟩ = false := fun y hy =>
    ⟨⟨⟨by rw [cell_of_row _ _ 0 _ _ _ hy]; rfl, by rw [cell_of_row _ _ 1 _ _ _ hy]; rfl⟩, by rw [cell_of_row _ _ 2 _ _ _ hy]; rfl, by rw [cell_of_row _ _ 3 _ _ _ hy]; rfl⟩, ⟨by simp [World.frozen?, hy], by simp [World.frozen?, hy]⟩, by simp [World.frozen?, hy], by simp [World.frozen?, hy]⟩
  have rsf := fun (w : World) (a : Addr) (x : Nat) => run_store Tryz.prog w a (.float .f64 x) .plain rfl
  replace hN := Lib.hid hN
  replace hdef := Lib.hid hdef
  replace hk1 := Lib.hid hk1
  replace hkw := Lib.hid hkw
  replace hcl := Lib.hid hcl
  have hlr' := Lib.hid hlr
  clear h hb1 d1 hlr
  go_enter Tryz.func58, Tryz.ntmps58
  go_wp2_with fail
  refine hN.out.mono ?_
  rintro e y ⟨hK, ⟨b, r, hok, hn, rfl, hQ⟩ | ⟨hor, rfl, r, hQ, hle⟩⟩
  · have hdef2 := hdef.out
    rw [hn] at hdef2
    replace hdef2 := Lib.hid hdef2
    have hle := Lib.hid (rdFlag_len hn)
    clear hn hN hdef
    cases b with
    | true =>
      have hTx := Lib.hid (c_Qtext hQ hrb)
      replace hK := Lib.hid hK
      clear hQ
      go_wp2_with fail
      refine hTx.out.mono ?_
      rintro e y2 ⟨hK2, hcase⟩
      obtain ⟨s, r2, ok2, hres, rfl, hQ2⟩ : ∃ s r2 ok2, ((ok2 = true ∧ rdConst bs = some (textC s, r2)) ∨ (ok2 = false ∧ rdConst bs = none ∧ r2.length ≤ bs.length)) ∧ e = .returned (.string s) ∧ QS rb bb y2 r2 ok2 := by
        rcases hcase with ⟨s, r2, _, hn2, rfl, hQ2⟩ | ⟨hor, rfl, r2, hQ2, hl2⟩
        · exact ⟨s, r2, true, .inl ⟨rfl, by rw [hdef2.out, hn2]⟩, rfl, hQ2⟩
        · refine ⟨_, r2, false, .inr ⟨rfl, ?_, by have := hle.out; omega⟩, rfl, hQ2⟩
          rcases hor with h | h
          · cases h
          · rw [hdef2.out, h]
      have hKK := hK.out.trans hK2
      have d2 := hk1.out y2 hKK
      obtain ⟨⟨⟨k0, k1⟩, k2, k3⟩, ⟨f0, f1⟩, f2, f3⟩ := hcl.out y2 d2
      replace hres := Lib.hid hres
      replace hKK := Lib.hid hKK
      replace d2 := Lib.hid d2
      clear hcase hTx hdef2 hK2
      go_wp2
      obtain ⟨g1, g2, _⟩ := set4 d2.out (textC s)
      have hq4 := hQ2.set4 (b := w.heap.size) (by have := hlr'.out; omega) d2.out (textC s)
      refine bodyPost_ret (results_cell_row rfl _ _ w.heap.size 51 _ (0, 0) _ rfl g1 Tryz.underlying51 rfl infoVV) rfl ?_
      refine ⟨g2 _ w (Nat.le_refl _) (hkw.out _ hKK.out), ?_⟩
      rcases hres.out with ⟨rfl, hr⟩ | ⟨rfl, hr, hl⟩
      · exact .inl ⟨_, r2, hok, hr, rfl, hq4⟩
      · exact .inr ⟨.inr hr, ⟨_, rfl⟩, r2, hq4, hl⟩
    | false =>
      obtain ⟨k1, f1⟩ := hQ.facts
      have hqf := hQ.set false
      have hKf : KB (fun r => r = rb) W1 (y.setCell ⟨rb, 1, none⟩ (.bool false)) := hK.trans (KB.setCell rfl)
      have df := hk1.out _ hKf
      obtain ⟨⟨⟨c0, c1⟩, c2, c3⟩, ⟨e0, e1⟩, e2, e3⟩ := hcl.out _ df
      obtain ⟨v, hblk, hrow, p, c, rfl, hlc, hcm, hcell⟩ := hQ
      have k0 : y.cell? ⟨rb, 0, none⟩ = some (.slice p r.length c) := by rw [cell_of_row _ _ 0 _ _ _ hrow]; rfl
      have f0 : y.frozen? ⟨rb, 0, none⟩ = false := by simp [World.frozen?, hrow]
      replace hqf := Lib.hid hqf
      replace hKf := Lib.hid hKf
      replace df := Lib.hid df
      by_cases h8 : 8 ≤ r.length
      · have hl8 : (r.take 8).length = 8 := by simp; omega
        have hall : ∀ x ∈ r.take 8, x < 256 := fun x hx => by
          obtain ⟨k, hk⟩ := List.getElem?_of_mem (List.mem_of_mem_take hx)
          exact (hcell k x hk).1
        have hc8 : ∀ (k : Nat) x, (r.take 8)[k]? = some x → x < 256 ∧ ∃ b o, p = some ⟨b, o, none⟩ ∧ y.cell? ⟨b, o + k, none⟩ = some (.int .u8 (x : Int)) := fun k x hx => by
          have hk : k < 8 := by have := (List.getElem?_eq_some_iff.1 hx).1; omega
          rw [List.getElem?_take, if_pos hk] at hx
          exact hcell k x hx
        obtain ⟨L, hL⟩ : ∃ L, r.take 8 = L := ⟨_, rfl⟩
        rw [hL] at hl8 hall hc8
        have hres : rdConst bs = if fine64 (be8 L) then some (numC (be8 L), r.drop 8) else none := by rw [hdef2.out]; dsimp only; rw [if_pos h8, hL]
        have p0 : (8 : Int) ≤ (r.length : Int) := by omega
        have p1 : (8 : Int) ≤ (c : Int) := by omega
        have p3 : (r.length : Int) ≤ (c : Int) := by omega
        have hlt8 : decide ((r.length : Int) < 8) = false := by simp; omega
        have hK1 := Lib.hid hK
        have hrow' := Lib.hid hrow
        have h8' := Lib.hid h8
        have hlc' := Lib.hid hlc
        replace hres := Lib.hid hres
        replace hl8 := Lib.hid hl8
        replace hall := Lib.hid hall
        replace hc8 := Lib.hid hc8
        replace hcell := Lib.hid hcell
        replace hblk := Lib.hid hblk
        clear hK hdef2 hrow hL h8 hlc c0 c1 c2 c3 e0 e1 e2 e3
        go_wp2
        go_loopw [3, 35] (fun vu vi wr => ∃ k : Nat, k ≤ 8 ∧ vi = .int .i64 (k : Int) ∧ vu = .int .u64 ((be8 (L.take k) : Nat) : Int) ∧ wr = y) (fun _ vi _ => 8 - (Lib.intOf vi).toNat)
        case atStart => exact ⟨0, by decide, rfl, rfl, rfl⟩
        case round =>
          obtain ⟨k, hk, rfl, rfl, rfl⟩ := hrel
          rcases Nat.lt_or_ge k 8 with hlt | hge
          · obtain ⟨x, hx⟩ : ∃ x, L[k]? = some x := ⟨_, List.getElem?_eq_getElem (by have := hl8.out; omega)⟩
            obtain ⟨hx256, b, o, rfl, hc⟩ := hc8.out k x hx
            have q1 : (0 : Int) ≤ (k : Int) := by omega
            have q2 : (k : Int) < 8 := by omega
            have hT1 : L.take (k + 1) = L.take k ++ [x] := by
              rw [List.take_succ_eq_append_getElem (by have := hl8.out; omega)]
              have := (List.getElem?_eq_some_iff.1 hx).2
              rw [this]
            have hlt2 : be8 (L.take k) < 72057594037927936 := by
              have h1 := be8_lt (L.take k) (fun y hy => hall.out y (List.mem_of_mem_take hy))
              have h2 : (L.take k).length ≤ 7 := by simp; omega
              have h3 : 256 ^ (L.take k).length ≤ 256 ^ 7 := Nat.pow_le_pow_right (by decide) h2
              have h4 : (256 : Nat) ^ 7 = 72057594037927936 := by decide
              omega
            have hst := be_step2 (be8 (L.take k)) x hlt2 hx256
            have hnx : be8 (L.take (k + 1)) = be8 (L.take k) * 256 + x := by rw [hT1, be8_snoc]
            rw [← hnx] at hst
            obtain ⟨V, hV⟩ : ∃ V, be8 (L.take (k + 1)) = V := ⟨_, rfl⟩
            rw [hV] at hst
            replace hV := Lib.hid hV
            clear hx hT1 hlt2 hnx
            generalize be8 (L.take k) = U at *
            go_wp2
            exact ⟨⟨k + 1, by omega, by go_num, by rw [hV.out], trivial⟩, by simp [Lib.intOf]; omega⟩
          · obtain rfl : k = 8 := by omega
            have hL8 : L.take 8 = L := List.take_of_length_le (Nat.le_of_eq hl8.out)
            rw [hL8]
            have hfr : ∀ (x : Int) (w : World), (callFunc 70 #[.int .u64 x]).run Tryz.prog w = .ok (.value (.float .f64 x.toNat)) w := fun x w => by kernel_rfl
            have hres2 := hres.out
            have hBt := fun (w : World) => c_Qbits (be8 L) w
            have hiff := nanB_iff (be8 L)
            clear hL8 hall hc8 hk hge hres
            generalize be8 L = U at *
            generalize hNB : nanB U = NB at *
            replace hBt := Lib.hid hBt
            replace hNB := Lib.hid hNB
            obtain ⟨p', c', hpp, hcs⟩ : ∃ (p' : Option Addr) (c' : Nat), ((p' = p.map (fun x => x.add 8) ∧ c' = c - 8) ∨ (p' = p ∧ c = 8 ∧ c' = 0)) ∧ ((c = 8 ∧ p' = p ∧ c' = 0) ∨ (c ≠ 8 ∧ p' = p.map (fun x => (⟨x.block, x.off + 8, none⟩ : Addr)) ∧ c' = c - 8)) := by
              by_cases h1 : c = 8
              · exact ⟨_, _, .inr ⟨rfl, h1, rfl⟩, .inl ⟨h1, rfl, rfl⟩⟩
              · exact ⟨_, _, .inl ⟨rfl, rfl⟩, .inr ⟨h1, rfl, rfl⟩⟩
            have hq3 := qs_drop (n := 8) hblk.out hrow'.out hlc'.out hcm h8'.out hcell.out hpp
            have hK3 : KB (fun r => r = rb) W1 (wr.setCell ⟨rb, 0, none⟩ (.slice p' (r.length - 8) c')) := hK1.out.trans (KB.setCell rfl)
            have d3 := hk1.out _ hK3
            obtain ⟨⟨⟨c0, c1⟩, c2, c3⟩, ⟨e0, e1⟩, e2, e3⟩ := hcl.out _ d3
            obtain ⟨k3, f3⟩ := hq3.facts
            have hq4 := hq3.set false
            have hK4 : KB (fun r => r = rb) W1 ((wr.setCell ⟨rb, 0, none⟩ (.slice p' (r.length - 8) c')).setCell ⟨rb, 1, none⟩ (.bool false)) := hK3.trans (KB.setCell rfl)
            have d4 := hk1.out _ hK4
            obtain ⟨⟨⟨i0, i1⟩, i2, i3⟩, ⟨j0, j1⟩, j2, j3⟩ := hcl.out _ d4
            replace hq3 := Lib.hid hq3
            replace hK3 := Lib.hid hK3
            replace d3 := Lib.hid d3
            replace hq4 := Lib.hid hq4
            replace hK4 := Lib.hid hK4
            replace d4 := Lib.hid d4
            have hrd := Lib.hid (show (r.drop 8).length ≤ bs.length by have := hle.out; simp; omega)
            clear hpp
            rcases hcs with ⟨rfl, rfl, rfl⟩ | ⟨hcp, rfl, rfl⟩
            all_goals
              by_cases hfi : NB = U
              · have hnd : ((NB : Int) != (U : Int)) = false := by simp [hfi]
                have hres3 : rdConst bs = some (numC U, r.drop 8) := by rw [hres2, if_pos (hiff.1 hfi)]
                replace hres3 := Lib.hid hres3
                clear hres2 hiff hfi
                go_wp2_with (go_at_call 44; refine (hBt.out _).mono ?_; rintro e y5 ⟨rfl, rfl⟩)
                obtain ⟨g1, g2, _⟩ := set4 d3.out (numC U)
                have hq5 := hq3.out.set4 (b := w.heap.size) (by have := hlr'.out; omega) d3.out (numC U)
                refine bodyPost_ret (results_cell_row rfl _ _ w.heap.size 51 _ (0, 0) _ rfl g1 Tryz.underlying51 rfl infoVV) rfl ?_
                exact ⟨g2 _ w (Nat.le_refl _) (hkw.out _ hK3.out), .inl ⟨_, _, hok, hres3.out, rfl, hq5⟩⟩
              · have hnd : ((NB : Int) != (U : Int)) = true := by simp; omega
                have hres3 : rdConst bs = none := by rw [hres2, if_neg (fun h => hfi (hiff.2 h))]
                replace hres3 := Lib.hid hres3
                clear hres2 hiff hfi
                go_wp2_with (go_at_call 44; refine (hBt.out _).mono ?_; rintro e y5 ⟨rfl, rfl⟩)
                obtain ⟨g1, g2, _⟩ := set4 d4.out (numC U)
                have hq5 := hq4.out.set4 (b := w.heap.size) (by have := hlr'.out; omega) d4.out (numC U)
                refine bodyPost_ret (results_cell_row rfl _ _ w.heap.size 51 _ (0, 0) _ rfl g1 Tryz.underlying51 rfl infoVV) rfl ?_
                exact ⟨g2 _ w (Nat.le_refl _) (hkw.out _ hK4.out), .inr ⟨.inr hres3.out, ⟨_, rfl⟩, _, hq5, hrd.out⟩⟩
      · have hres : rdConst bs = none := by rw [hdef2.out]; dsimp only; rw [if_neg h8]
        have hlt8 : decide ((r.length : Int) < 8) = true := by simp; omega
        replace hres := Lib.hid hres
        clear hK hdef2 hrow h8 hlc hcell hblk
        go_wp2
        obtain ⟨g1, g2, _⟩ := set4 df.out ⟨0, 0, ⟨#[]⟩, 0⟩
        have hq4 := hqf.out.set4 (b := w.heap.size) (by have := hlr'.out; omega) df.out ⟨0, 0, ⟨#[]⟩, 0⟩
        refine bodyPost_ret (results_cell_row rfl _ _ w.heap.size 51 _ (0, 0) _ rfl g1 Tryz.underlying51 rfl infoVV) rfl ?_
        exact ⟨g2 _ w (Nat.le_refl _) (hkw.out _ hKf.out), .inr ⟨.inr hres.out, ⟨_, rfl⟩, r, hq4, by have := hle.out; omega⟩⟩
  · obtain ⟨k1, f1⟩ := hQ.facts
    have hq2 := hQ.set false
    have hK2 : KB (fun r => r = rb) W1 (y.setCell ⟨rb, 1, none⟩ (.bool false)) := hK.trans (KB.setCell rfl)
    have d2 := hk1.out _ hK2
    obtain ⟨⟨⟨c0, c1⟩, c2, c3⟩, ⟨e0, e1⟩, e2, e3⟩ := hcl.out _ d2
    have hor2 : ok = false ∨ rdConst bs = none := hor.imp id (fun h => by rw [hdef.out, h])
    replace hor2 := Lib.hid hor2
    replace hq2 := Lib.hid hq2
    replace hK2 := Lib.hid hK2
    replace d2 := Lib.hid d2
    clear hN hK hor hQ hdef
    go_wp2
    obtain ⟨g1, g2, _⟩ := set4 d2.out ⟨0, 0, ⟨#[]⟩, 0⟩
    have hq4 := hq2.out.set4 (b := w.heap.size) (by have := hlr'.out; omega) d2.out ⟨0, 0, ⟨#[]⟩, 0⟩
    refine bodyPost_ret (results_cell_row rfl _ _ w.heap.size 51 _ (0, 0) _ rfl g1 Tryz.underlying51 rfl infoVV) rfl ?_
    exact ⟨g2 _ w (Nat.le_refl _) (hkw.out _ hK2.out), .inr ⟨hor2.out, ⟨_, rfl⟩, r, hq4, hle⟩⟩
end
end Go.Proofs.YtjjogaenejdliaaGreatDoor
namespace Go.Proofs.YtjjogaenejdliaaGreatDoor
open Go.RowKit Go.Lib
set_option linter.unusedVariables false
set_option linter.unusedSimpArgs false
set_option maxHeartbeats 4000000
set_option maxRecDepth 1000000

/-- the reference's rows: name, a blank, letters -/
def tabT : List ByteArray := opsT.map fun x => ⟨x.1.data ++ #[32] ++ x.2.data⟩
theorem tabT_len : tabT.length = 49 := by decide +kernel
theorem c_Qtable (w : World) : Calls Tryz.prog 81 #[] w fun e w' => e = .returned (.slice (some ⟨w.heap.size, 0, none⟩) 49 49) ∧ w'.heap[w.heap.size]? = some (.cells (tabT.map Value.string).toArray 9 (0, 0)) ∧ Below w.heap.size w w' := by
  go_enter Tryz.func81, Tryz.ntmps81
  go_wp2
  go_ret
  refine ⟨rfl, ?_, (Below.refl _ w).alloc (Nat.le_refl _) _⟩
  exact (heap_alloc_new w _).trans (by kernel_rfl)
theorem c_Operators6 (w : World) : Calls Tryz.prog 82 #[.int .i64 22] w fun e w' => e = .returned (.slice (some ⟨w.heap.size, 0, none⟩) 22 22) ∧ w'.heap[w.heap.size]? = some (.cells (binL.map Value.string).toArray 9 (0, 0)) ∧ Below w.heap.size w w' := by
  go_enter Tryz.func82, Tryz.ntmps82
  go_wp2
  go_ret
  refine ⟨rfl, ?_, (Below.refl _ w).alloc (Nat.le_refl _) _⟩
  exact (heap_alloc_new w _).trans (by kernel_rfl)
/-- a row, cut at its blank -/
theorem nm_no32 : ∀ op : Fin 49, ∀ x ∈ (nmT op.val).data.toList, x ≠ 32 := by decide +kernel
theorem nm_short : ∀ op : Fin 49, (nmT op.val).size ≤ 10 := by decide +kernel
theorem tab_at {op : Nat} (h : op < 49) : tabT[op]? = some ⟨(nmT op).data ++ #[32] ++ (ltT op).data⟩ := by
  unfold tabT nmT ltT
  rw [if_pos h, if_pos h, List.getElem?_map, List.getD_eq_getElem?_getD, List.getElem?_eq_getElem (by rw [opsT_len]; exact h)]
  rfl
theorem row_cut {s nm lt : ByteArray} (h : s = ⟨nm.data ++ #[32] ++ lt.data⟩) : s.size = nm.size + 1 + lt.size ∧ s.extract 0 nm.size = nm ∧ s.extract (nm.size + 1) s.size = lt ∧ (∀ k, k < nm.size → s.data.toList.getD k 0 = nm.data.toList.getD k 0) ∧ s.data.toList.getD nm.size 0 = 32 := by
  have e1 : nm.size = nm.data.toList.length := Lib.size_eq nm
  have e2 : lt.size = lt.data.toList.length := Lib.size_eq lt
  have e3 : s.size = s.data.toList.length := Lib.size_eq s
  have e4 : s.data.toList = nm.data.toList ++ (32 :: lt.data.toList) := by rw [h, Array.toList_append, Array.toList_append, List.append_assoc]; rfl
  have e5 : s.size = nm.size + 1 + lt.size := by rw [e3, e4, List.length_append, List.length_cons, ← e1, ← e2]; omega
  refine ⟨e5, ?_, ?_, fun k hk => ?_, ?_⟩
  · apply ByteArray.ext
    apply Array.ext'
    rw [Lib.extract_data, e4, List.drop_zero, e1, Nat.sub_zero, List.take_left]
  · apply ByteArray.ext
    apply Array.ext'
    rw [Lib.extract_data, e4, show nm.size + 1 = nm.data.toList.length + 1 by rw [e1], ← List.drop_drop, List.drop_left]
    rw [List.drop_succ_cons, List.drop_zero]
    exact List.take_of_length_le (by rw [← e2, ← e1, e5]; omega)
  · rw [List.getD_eq_getElem?_getD, List.getD_eq_getElem?_getD, e4, List.getElem?_append_left (by rw [← e1]; exact hk)]
  · rw [List.getD_eq_getElem?_getD, e4, List.getElem?_append_right (by rw [e1]; exact Nat.le_refl _), e1, Nat.sub_self]; rfl
end Go.Proofs.YtjjogaenejdliaaGreatDoor
