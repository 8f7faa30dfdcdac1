/-
  The walk of the law KeysSymbols.
-/
import Derived.Test.YtkbjakadngnokaaT5
import Derived.Test.YtkbjakadngnokaaW2
namespace Go.Proofs.Ytkbjakadngnokaa
open Go.RowKit Go.Shelf Go.Lib Go.Sort Go.Proofs Go.Maps
set_option maxHeartbeats 1000000
set_option maxRecDepth 8000

/-- v reads as a list of texts -/
def RdS (w : World) (v : Value) (l : List ByteArray) : Prop :=
  (v = .slice none 0 0 ∧ l = []) ∨ ∃ p c, v = .slice (some p) l.length c ∧ l.length ≤ c ∧ ∀ k x, l[k]? = some x → p.spot = none ∧ w.cell? ⟨p.block, p.off + k, none⟩ = some (.string x)
theorem RdS.form {w : World} {v : Value} {l : List ByteArray} (h : RdS w v l) : ∃ p c, v = .slice p l.length c ∧ l.length ≤ c ∧
    ∀ k, k < l.length → ∃ x b o, l[k]? = some x ∧ p = some ⟨b, o, none⟩ ∧ ∀ y, Below w.heap.size w y → y.cell? ⟨b, o + k, none⟩ = some (.string x) := by
  rcases h with ⟨rfl, rfl⟩ | ⟨a, c, h1, h2, h3⟩
  · exact ⟨none, 0, rfl, (by simp), (fun k hk => by simp at hk)⟩
  · refine ⟨some a, c, h1, h2, fun k hk => ?_⟩
    have hx : l[k]? = some l[k] := List.getElem?_eq_getElem hk
    obtain ⟨h4, h5⟩ := h3 k _ hx
    refine ⟨_, a.block, a.off, hx, by rw [← h4], fun y hy => ?_⟩
    rw [hy.cell (p := ⟨a.block, a.off + k, none⟩) (cell_lt h5)]; exact h5
theorem box1 (w : World) (a : KK) (y : World) (hb : Below (w.alloc (.cells #[.string a.1, .int .i64 a.2] 29)).heap.size (w.alloc (.cells #[.string a.1, .int .i64 a.2] 29)) y) :
    y.cell? ⟨w.heap.size, 0, none⟩ = some (.string a.1) ∧ y.cell? ⟨w.heap.size, 1, none⟩ = some (.int .i64 a.2) := by
  have h1 := (hb.block w.heap.size (by simp)).trans (heap_alloc_new w _)
  refine ⟨?_, ?_⟩
  · rw [cell_of_row _ _ _ _ _ _ h1]; rfl
  · rw [cell_of_row _ _ _ _ _ _ h1]; rfl
/-- the two tables that nobody made, in a row -/
theorem two_tabs (w : World) (y : World) (hb : Below ((w.alloc (.cells #[.int .i64 0, .map none, .slice none 0 0, .slice none 0 0] 52)).alloc (.cells #[.pointer none, .pointer (some ⟨w.heap.size, 0, none⟩)] 34)).heap.size ((w.alloc (.cells #[.int .i64 0, .map none, .slice none 0 0, .slice none 0 0] 52)).alloc (.cells #[.pointer none, .pointer (some ⟨w.heap.size, 0, none⟩)] 34)) y) :
    ∀ i : Nat, i < 2 → ∃ q, y.cell? ⟨w.heap.size + 1, i, none⟩ = some (.pointer q) ∧ NotT y (.pointer q) := by
  have h1 := (hb.block w.heap.size (by simp; omega)).trans ((Below.heap_alloc _ _ _ (by simp)).trans (heap_alloc_new w _))
  have h2 := (hb.block (w.heap.size + 1) (by simp)).trans (heap_alloc2_new w _ _)
  intro i hi
  match i, hi with
  | 0, _ => exact ⟨none, by rw [cell_of_row _ _ _ _ _ _ h2]; rfl, .inl rfl⟩
  | 1, _ => exact ⟨some ⟨w.heap.size, 0, none⟩, by rw [cell_of_row _ _ _ _ _ _ h2]; rfl, .inr ⟨w.heap.size, rfl, h1⟩⟩
theorem c_KeysSymbols (v : Value) (l : List ByteArray) (k : KK) (hl0 : l.length ≤ 1099511627776) (hsz : ∀ x ∈ l, x.size ≤ 1099511627776) (hN2 : fewN [k] ≤ 1099511627776) (w : World) (h : RdS w v l) :
    Calls Try.prog 6 #[v, .agg #[.string k.1, .int .i64 k.2]] w fun e w' => e = .returned (.bool true) ∧ Below w.heap.size w w' := by
  obtain ⟨p, c, rfl, hlc, hL⟩ := h.form
  have hF2 := fun y q (h : RdK y q [k]) => Lib.hid (c_few q [k] hN2 y h)
  have hB0 := Lib.hid ((Below.refl _ w).alloc (Nat.le_refl _) (.cells #[.string k.1, .int .i64 k.2] 29))
  have hbox := Lib.hid (box1 w k)
  clear h hN2
  by_cases hl : l.length ≤ 100
  · have hl1 : decide ((100 : Int) < (l.length : Int)) = false := decide_eq_false (by omega)
    by_cases hd2 : fewN [k] ≤ 3000
    · have hd2 : decide (fewN [k] ≤ 3000) = true := by simpa using hd2
      rw [hd2] at hF2
      clear hd2
      have hl100 := Lib.hid hl
      clear hl
      go_enter Try.func6, Try.ntmps6
      go_wp2_with (first | (go_at_call 7; refine (c_awake _).mono ?_; rintro e w1 ⟨rfl, hb1⟩; obtain ⟨k1, k2⟩ := hbox.out w1 hb1) | (go_at_call 8; have hrd := show RdK (w1.alloc (.cells #[.string k.1, .int .i64 k.2] 29)) (.slice (some ⟨w1.heap.size, 0, none⟩) 1 1) [k] from rdk_block (l := [k]) (heap_alloc_new w1 (.cells #[.string k.1, .int .i64 k.2] 29)) rfl; with_reducible refine (hF2 _ _ hrd).out.mono ?_; rintro e w2 ⟨rfl, hb2⟩; have hb12 := below_after (below_after hb1 ((Below.refl _ w1).alloc (Nat.le_refl _) (.cells #[.string k.1, .int .i64 k.2] 29))) hb2) | (go_at_call 14; refine (c_New _).mono ?_; rintro e w3 ⟨rfl, hT0, hb3⟩))
      have hW2 := Lib.hid (hB0.out.trans (hb12.mono (by simp)))
      have hL2 : ∀ i, i < l.length → ∃ x b o, l[i]? = some x ∧ x.size ≤ 1099511627776 ∧ p = some ⟨b, o, none⟩ ∧ ∀ y, Below w2.heap.size w2 y → y.cell? ⟨b, o + i, none⟩ = some (.string x) := by
        intro i hi
        obtain ⟨x, b, o, q1, q2, q3⟩ := hL i hi
        exact ⟨x, b, o, q1, hsz x (List.mem_of_getElem? q1), q2, fun y hy => q3 y (below_after hW2.out hy)⟩
      have hbox2 := Lib.hid (fun y (hy : Below w2.heap.size w2 y) => hbox.out y (below_after hb12 hy))
      have hL2 := Lib.hid hL2
      have hb3 := Lib.hid hb3
      have hT0 := Lib.hid hT0
      have hl0 : l.length ≤ 100 := hl100.out
      clear hbox hF2 hrd hb1 hb2 hb12 k1 k2 hL hsz hlc
      go_loopw [41] (fun vi wr => ∃ i : Nat, i ≤ l.length ∧ vi = .int .i64 (i : Int) ∧ TabS wr w2.heap.size (w2.heap.size + 1) [] (l.take i) ∧ Below w2.heap.size w2 wr) (fun vi _ => l.length - (intOf vi).toNat)
      case atStart => exact ⟨0, by omega, rfl, by simpa using hT0.out, hb3.out⟩
      case round =>
        obtain ⟨i, hi, rfl, hT, hbel⟩ := hrel
        clear hT0 hb3
        rcases Nat.lt_or_ge i l.length with hlt | hge
        · obtain ⟨x, b, o, hx, hxs, rfl, hcell⟩ := hL2.out i hlt
          have d1 := hcell wr hbel
          have hlt' : (i : Int) < (l.length : Int) := by omega
          have htl : (l.take i).length = i := by rw [List.length_take]; omega
          have hS := c_Symbol w2.heap.size (w2.heap.size + 1) [] (l.take i) x (by omega) wr hbel.size hT
          rw [htl] at hS
          have htk : l.take i ++ [x] = l.take (i + 1) := by rw [List.take_add_one, hx]; rfl
          rw [htk] at hS
          have hS := Lib.hid hS
          have hw1 : IntKind.i64.wrap ((i : Int) + 1) = (i : Int) + 1 := by rw [IntKind.wrap_i64]; omega
          have hbel := Lib.hid hbel
          clear hT hcell hx htl htk
          go_wp2_with (go_at_call 21; refine hS.out.mono ?_; rintro e w4 ⟨rfl, hT4, hb4⟩; have hT4 := Lib.hid hT4; have hb4 := Lib.hid hb4)
          have hT5 := hT4.out.keep ((Below.refl _ w4).alloc (Nat.le_refl _) (.cells #[.string ⟨#[]⟩, .int .i64 ((i : Int) + 1)] 29))
          have hb5 := (hbel.out.trans hb4.out).alloc (Nat.le_trans hbel.out.size hb4.out.size) (.cells #[.string ⟨#[]⟩, .int .i64 ((i : Int) + 1)] 29)
          have hT5 := Lib.hid hT5
          have hb5 := Lib.hid hb5
          go_roundw
          case rel => exact ⟨i + 1, by omega, by go_num, hT5.out, hb5.out⟩
          case measure => simp [intOf]; omega
        · obtain rfl : i = l.length := by omega
          rw [List.take_length] at hT
          have hT := Lib.hid hT
          have hbel := Lib.hid hbel
          go_wp2
          go_loopw [69] (fun vi wr2 => ∃ i : Nat, i ≤ l.length ∧ vi = .int .i64 (i : Int) ∧ TabS wr2 w2.heap.size (w2.heap.size + 1) [] l ∧ Below w2.heap.size w2 wr2) (fun vi _ => l.length - (intOf vi).toNat)
          case atStart => exact ⟨0, by omega, rfl, hT.out, hbel.out⟩
          case round =>
            obtain ⟨i, hi, rfl, hT2, hbel2⟩ := hrel
            clear hT hbel
            rcases Nat.lt_or_ge i l.length with hlt | hge
            · obtain ⟨x, b, o, hx, hxs, rfl, hcell⟩ := hL2.out i hlt
              have d1 := hcell wr hbel2
              have hlt' : (i : Int) < (l.length : Int) := by omega
              have hA := c_AboutYes w2.heap.size (w2.heap.size + 1) [] l (⟨#[]⟩, (i : Int) + 1) (by show (0 : Int) < (i : Int) + 1; omega) (by show (i : Int) + 1 ≤ (l.length : Int); omega) (by omega) wr hT2
              have hi1 : (((i : Int) + 1) - 1).toNat = i := by omega
              simp only [hi1] at hA
              have hA := Lib.hid hA
              have hC := fun y => Lib.hid (c_CompareR x x hxs hxs y)
              simp only [cmpU_self] at hC
              have hx := Lib.hid hx
              have hw1 : IntKind.i64.wrap ((i : Int) + 1) = (i : Int) + 1 := by rw [IntKind.wrap_i64]; omega
              have hT2 := Lib.hid hT2
              have hbel2 := Lib.hid hbel2
              clear hcell hi1
              go_wp2_with (first | (go_at_call 22; refine hA.out.mono ?_; rintro e w4 ⟨s, hs, rfl, hb4⟩; have e1 : s = x := Option.some.inj (hs.symm.trans hx.out); subst e1) | (go_at_call 15; refine (hC _).out.mono ?_; rintro e w5 ⟨rfl, hb5⟩))
              have hT3 := Lib.hid ((hT2.out.keep hb4).keep hb5)
              have hb6 := Lib.hid (hbel2.out.trans ((below_after hb4 hb5).mono hbel2.out.size))
              go_roundw
              case rel => exact ⟨i + 1, by omega, by go_num, hT3.out, hb6.out⟩
              case measure => simp [intOf]; omega
            · obtain rfl : i = l.length := by omega
              obtain ⟨k1, k2⟩ := hbox2.out wr hbel2
              have hbel2' := hbel2
              have hbel2 := Lib.hid hbel2
              rcases Int.lt_or_le 0 k.2 with hk0 | hk0
              · rcases Int.lt_or_le (l.length : Int) k.2 with hk1 | hk1
                · have hA := Lib.hid (c_AboutNo w2.heap.size (w2.heap.size + 1) [] l k (by omega) wr hT2)
                  have hz0 : decide (0 < k.2) = true := decide_eq_true hk0
                  have hz1 : decide (k.2 ≤ (l.length : Int)) = false := decide_eq_false (by omega)
                  clear hT2 hbel2' hL2
                  go_wp2_with (go_at_call 22; refine (hA).out.mono ?_; rintro e w6 ⟨rfl, hb4⟩; have hb6 := hbel2.out.trans (hb4.mono hbel2.out.size); obtain ⟨k1, k2⟩ := hbox2.out w6 hb6; have hb6 := Lib.hid hb6)
                  have hN2 := Lib.hid (two_tabs w6)
                  have hb7 := Lib.hid ((hb6.out.alloc (Nat.le_trans (by simp) hb6.out.size) (.cells #[.int .i64 0, .map none, .slice none 0 0, .slice none 0 0] 52)).alloc (by have := hb6.out.size; simp; omega) (.cells #[.pointer none, .pointer (some ⟨w6.heap.size, 0, none⟩)] 34))
                  obtain ⟨W7, hW7⟩ : ∃ W7, (w6.alloc (.cells #[.int .i64 0, .map none, .slice none 0 0, .slice none 0 0] 52)).alloc (.cells #[.pointer none, .pointer (some ⟨w6.heap.size, 0, none⟩)] 34) = W7 := ⟨_, rfl⟩
                  rw [hW7] at hN2 hb7
                  have hW7 := Lib.hid hW7
                  go_loopw [115] (fun vi wr3 => ∃ i : Nat, i ≤ 2 ∧ vi = .int .i64 (i : Int) ∧ Below W7.heap.size W7 wr3) (fun vi _ => 2 - (intOf vi).toNat)
                  case atStart => exact ⟨0, by omega, rfl, by rw [← hW7.out]; exact Below.refl _ _⟩
                  case round =>
                    obtain ⟨i, hi, rfl, hbel3⟩ := hrel
                    rcases Nat.lt_or_ge i 2 with hlt | hge
                    · obtain ⟨q, d1, hNq⟩ := hN2.out wr hbel3 i hlt
                      have hN3 := Lib.hid (fun y (hb : Below wr.heap.size wr y) => hNq.keep hb)
                      have hlt' : (i : Int) < 2 := by omega
                      have hk3 := Lib.hid (fun y (hb : Below wr.heap.size wr y) => hbox2.out y (hb7.out.trans ((below_after hbel3 hb).mono hb7.out.size)))
                      have hbel3 := Lib.hid hbel3
                      clear hNq
                      go_wp2_with (first | (go_at_call 19; refine (c_Name0 (hN3.out _ (Below.refl _ _)) 0).mono ?_; rintro e y1 ⟨rfl, rfl⟩) | (go_at_call 21; refine (c_Symbol0 (hN3.out _ (Below.refl _ _)) ⟨#[]⟩).mono ?_; rintro e y2 ⟨rfl, hc2⟩; have hcA := below_after hc2 ((Below.refl _ y2).alloc (Nat.le_refl _) (.cells #[.string ⟨#[]⟩, .int .i64 0] 29)); obtain ⟨k1, k2⟩ := hk3.out _ hcA) | (go_at_call 22; refine (c_About0 (hN3.out _ hcA) k).mono ?_; rintro e y3 ⟨rfl, hc3⟩; have hcB := below_after hcA hc3) | (go_at_call 17; refine (c_Intern0 (hN3.out _ hcB) ⟨#[]⟩).mono ?_; rintro e y4 ⟨rfl, rfl⟩) | (go_at_call 18; refine (c_Len0 (hN3.out _ hcB)).mono ?_; rintro e y5 ⟨rfl, rfl⟩) | (go_at_call 23; refine (c_tells (hN3.out _ hcB)).mono ?_; rintro e y6 ⟨rfl, hc6⟩; have hcC := below_after hcB hc6))
                      have hb9 := Lib.hid (below_after hbel3.out hcC)
                      go_roundw
                      case rel => exact ⟨i + 1, by omega, by go_num, hb9.out⟩
                      case measure => simp [intOf]; omega
                    · obtain rfl : i = 2 := by omega
                      have hend := Lib.hid (below_after hW2.out (hb7.out.trans (hbel3.mono hb7.out.size)))
                      go_wp2
                      go_ret
                      exact ⟨rfl, hend.out⟩
                · have hA := Lib.hid (c_AboutYes w2.heap.size (w2.heap.size + 1) [] l k hk0 hk1 (by omega) wr hT2)
                  have hz0 : decide (0 < k.2) = true := decide_eq_true hk0
                  have hz1 : decide (k.2 ≤ (l.length : Int)) = true := decide_eq_true hk1
                  clear hT2 hbel2' hL2
                  go_wp2_with (go_at_call 22; refine (hA).out.mono ?_; rintro e w6 ⟨s, hs, rfl, hb4⟩; clear hs; have hb6 := hbel2.out.trans (hb4.mono hbel2.out.size); obtain ⟨k1, k2⟩ := hbox2.out w6 hb6; have hb6 := Lib.hid hb6)
                  have hN2 := Lib.hid (two_tabs w6)
                  have hb7 := Lib.hid ((hb6.out.alloc (Nat.le_trans (by simp) hb6.out.size) (.cells #[.int .i64 0, .map none, .slice none 0 0, .slice none 0 0] 52)).alloc (by have := hb6.out.size; simp; omega) (.cells #[.pointer none, .pointer (some ⟨w6.heap.size, 0, none⟩)] 34))
                  obtain ⟨W7, hW7⟩ : ∃ W7, (w6.alloc (.cells #[.int .i64 0, .map none, .slice none 0 0, .slice none 0 0] 52)).alloc (.cells #[.pointer none, .pointer (some ⟨w6.heap.size, 0, none⟩)] 34) = W7 := ⟨_, rfl⟩
                  rw [hW7] at hN2 hb7
                  have hW7 := Lib.hid hW7
                  go_loopw [115] (fun vi wr3 => ∃ i : Nat, i ≤ 2 ∧ vi = .int .i64 (i : Int) ∧ Below W7.heap.size W7 wr3) (fun vi _ => 2 - (intOf vi).toNat)
                  case atStart => exact ⟨0, by omega, rfl, by rw [← hW7.out]; exact Below.refl _ _⟩
                  case round =>
                    obtain ⟨i, hi, rfl, hbel3⟩ := hrel
                    rcases Nat.lt_or_ge i 2 with hlt | hge
                    · obtain ⟨q, d1, hNq⟩ := hN2.out wr hbel3 i hlt
                      have hN3 := Lib.hid (fun y (hb : Below wr.heap.size wr y) => hNq.keep hb)
                      have hlt' : (i : Int) < 2 := by omega
                      have hk3 := Lib.hid (fun y (hb : Below wr.heap.size wr y) => hbox2.out y (hb7.out.trans ((below_after hbel3 hb).mono hb7.out.size)))
                      have hbel3 := Lib.hid hbel3
                      clear hNq
                      go_wp2_with (first | (go_at_call 19; refine (c_Name0 (hN3.out _ (Below.refl _ _)) 0).mono ?_; rintro e y1 ⟨rfl, rfl⟩) | (go_at_call 21; refine (c_Symbol0 (hN3.out _ (Below.refl _ _)) ⟨#[]⟩).mono ?_; rintro e y2 ⟨rfl, hc2⟩; have hcA := below_after hc2 ((Below.refl _ y2).alloc (Nat.le_refl _) (.cells #[.string ⟨#[]⟩, .int .i64 0] 29)); obtain ⟨k1, k2⟩ := hk3.out _ hcA) | (go_at_call 22; refine (c_About0 (hN3.out _ hcA) k).mono ?_; rintro e y3 ⟨rfl, hc3⟩; have hcB := below_after hcA hc3) | (go_at_call 17; refine (c_Intern0 (hN3.out _ hcB) ⟨#[]⟩).mono ?_; rintro e y4 ⟨rfl, rfl⟩) | (go_at_call 18; refine (c_Len0 (hN3.out _ hcB)).mono ?_; rintro e y5 ⟨rfl, rfl⟩) | (go_at_call 23; refine (c_tells (hN3.out _ hcB)).mono ?_; rintro e y6 ⟨rfl, hc6⟩; have hcC := below_after hcB hc6))
                      have hb9 := Lib.hid (below_after hbel3.out hcC)
                      go_roundw
                      case rel => exact ⟨i + 1, by omega, by go_num, hb9.out⟩
                      case measure => simp [intOf]; omega
                    · obtain rfl : i = 2 := by omega
                      have hend := Lib.hid (below_after hW2.out (hb7.out.trans (hbel3.mono hb7.out.size)))
                      go_wp2
                      go_ret
                      exact ⟨rfl, hend.out⟩
              · have hA := Lib.hid (c_AboutNo w2.heap.size (w2.heap.size + 1) [] l k (by omega) wr hT2)
                have hz0 : decide (0 < k.2) = false := decide_eq_false (by omega)
                clear hT2 hbel2' hL2
                go_wp2_with (go_at_call 22; refine (hA).out.mono ?_; rintro e w6 ⟨rfl, hb4⟩; have hb6 := hbel2.out.trans (hb4.mono hbel2.out.size); obtain ⟨k1, k2⟩ := hbox2.out w6 hb6; have hb6 := Lib.hid hb6)
                have hN2 := Lib.hid (two_tabs w6)
                have hb7 := Lib.hid ((hb6.out.alloc (Nat.le_trans (by simp) hb6.out.size) (.cells #[.int .i64 0, .map none, .slice none 0 0, .slice none 0 0] 52)).alloc (by have := hb6.out.size; simp; omega) (.cells #[.pointer none, .pointer (some ⟨w6.heap.size, 0, none⟩)] 34))
                obtain ⟨W7, hW7⟩ : ∃ W7, (w6.alloc (.cells #[.int .i64 0, .map none, .slice none 0 0, .slice none 0 0] 52)).alloc (.cells #[.pointer none, .pointer (some ⟨w6.heap.size, 0, none⟩)] 34) = W7 := ⟨_, rfl⟩
                rw [hW7] at hN2 hb7
                have hW7 := Lib.hid hW7
                go_loopw [115] (fun vi wr3 => ∃ i : Nat, i ≤ 2 ∧ vi = .int .i64 (i : Int) ∧ Below W7.heap.size W7 wr3) (fun vi _ => 2 - (intOf vi).toNat)
                case atStart => exact ⟨0, by omega, rfl, by rw [← hW7.out]; exact Below.refl _ _⟩
                case round =>
                  obtain ⟨i, hi, rfl, hbel3⟩ := hrel
                  rcases Nat.lt_or_ge i 2 with hlt | hge
                  · obtain ⟨q, d1, hNq⟩ := hN2.out wr hbel3 i hlt
                    have hN3 := Lib.hid (fun y (hb : Below wr.heap.size wr y) => hNq.keep hb)
                    have hlt' : (i : Int) < 2 := by omega
                    have hk3 := Lib.hid (fun y (hb : Below wr.heap.size wr y) => hbox2.out y (hb7.out.trans ((below_after hbel3 hb).mono hb7.out.size)))
                    have hbel3 := Lib.hid hbel3
                    clear hNq
                    go_wp2_with (first | (go_at_call 19; refine (c_Name0 (hN3.out _ (Below.refl _ _)) 0).mono ?_; rintro e y1 ⟨rfl, rfl⟩) | (go_at_call 21; refine (c_Symbol0 (hN3.out _ (Below.refl _ _)) ⟨#[]⟩).mono ?_; rintro e y2 ⟨rfl, hc2⟩; have hcA := below_after hc2 ((Below.refl _ y2).alloc (Nat.le_refl _) (.cells #[.string ⟨#[]⟩, .int .i64 0] 29)); obtain ⟨k1, k2⟩ := hk3.out _ hcA) | (go_at_call 22; refine (c_About0 (hN3.out _ hcA) k).mono ?_; rintro e y3 ⟨rfl, hc3⟩; have hcB := below_after hcA hc3) | (go_at_call 17; refine (c_Intern0 (hN3.out _ hcB) ⟨#[]⟩).mono ?_; rintro e y4 ⟨rfl, rfl⟩) | (go_at_call 18; refine (c_Len0 (hN3.out _ hcB)).mono ?_; rintro e y5 ⟨rfl, rfl⟩) | (go_at_call 23; refine (c_tells (hN3.out _ hcB)).mono ?_; rintro e y6 ⟨rfl, hc6⟩; have hcC := below_after hcB hc6))
                    have hb9 := Lib.hid (below_after hbel3.out hcC)
                    go_roundw
                    case rel => exact ⟨i + 1, by omega, by go_num, hb9.out⟩
                    case measure => simp [intOf]; omega
                  · obtain rfl : i = 2 := by omega
                    have hend := Lib.hid (below_after hW2.out (hb7.out.trans (hbel3.mono hb7.out.size)))
                    go_wp2
                    go_ret
                    exact ⟨rfl, hend.out⟩
    · have hd2 : decide (fewN [k] ≤ 3000) = false := by simpa using hd2
      rw [hd2] at hF2
      clear hd2 hl hl0 hsz hlc
      go_enter Try.func6, Try.ntmps6
      go_wp2_with (first | (go_at_call 7; refine (c_awake _).mono ?_; rintro e w1 ⟨rfl, hb1⟩; obtain ⟨k1, k2⟩ := hbox.out w1 hb1) | (go_at_call 8; have hrd := show RdK (w1.alloc (.cells #[.string k.1, .int .i64 k.2] 29)) (.slice (some ⟨w1.heap.size, 0, none⟩) 1 1) [k] from rdk_block (l := [k]) (heap_alloc_new w1 (.cells #[.string k.1, .int .i64 k.2] 29)) rfl; with_reducible refine (hF2 _ _ hrd).out.mono ?_; rintro e w2 ⟨rfl, hb2⟩; have hb12 := below_after (below_after hb1 ((Below.refl _ w1).alloc (Nat.le_refl _) (.cells #[.string k.1, .int .i64 k.2] 29))) hb2))
      go_ret
      exact ⟨rfl, hB0.out.trans (hb12.mono (by simp))⟩
  · have hl1 : decide ((100 : Int) < (l.length : Int)) = true := decide_eq_true (by omega)
    clear hF2 hl hl0 hsz hlc
    go_enter Try.func6, Try.ntmps6
    go_wp2_with (first | (go_at_call 7; refine (c_awake _).mono ?_; rintro e w1 ⟨rfl, hb1⟩; obtain ⟨k1, k2⟩ := hbox.out w1 hb1))
    go_ret
    exact ⟨rfl, hB0.out.trans (hb1.mono (by simp))⟩
end Go.Proofs.Ytkbjakadngnokaa
