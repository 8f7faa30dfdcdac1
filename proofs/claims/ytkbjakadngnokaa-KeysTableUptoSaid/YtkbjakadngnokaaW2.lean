/-
  The walk of the law KeysOrder.
-/
import Derived.Test.YtkbjakadngnokaaL1
import Derived.Test.YtkbjakadngnokaaR2
import Derived.Test.YtkbjakadngnokaaW1
namespace Go.Proofs.Ytkbjakadngnokaa
open Go.RowKit Go.Shelf Go.Lib Go.Sort Go.Proofs
set_option maxHeartbeats 1000000
set_option maxRecDepth 8000

theorem cmpK_small (s t : ByteArray) (m n : Int) : -1 ≤ cmpK s t m n ∧ cmpK s t m n ≤ 1 := by
  unfold cmpK
  have hz : ∀ a b : Int, -1 ≤ cmpZ a b ∧ cmpZ a b ≤ 1 := by
    intro a b; unfold cmpZ; split
    · omega
    · split <;> omega
  have h := cmpU_cases (U s) (U t)
  have h2 := hz m n
  split
  · split
    · exact h2
    · omega
  · split
    · omega
    · omega
/-- two boxes of keys -/
theorem boxes (w : World) (a b : KK) (y : World) (hb : Below ((w.alloc (.cells #[.string a.1, .int .i64 a.2] 29)).alloc (.cells #[.string b.1, .int .i64 b.2] 29)).heap.size ((w.alloc (.cells #[.string a.1, .int .i64 a.2] 29)).alloc (.cells #[.string b.1, .int .i64 b.2] 29)) y) :
    y.cell? ⟨w.heap.size, 0, none⟩ = some (.string a.1) ∧ y.cell? ⟨w.heap.size, 1, none⟩ = some (.int .i64 a.2) ∧ y.cell? ⟨w.heap.size + 1, 0, none⟩ = some (.string b.1) ∧ y.cell? ⟨w.heap.size + 1, 1, none⟩ = some (.int .i64 b.2) := by
  have h1 := (hb.block w.heap.size (by simp; omega)).trans ((Below.heap_alloc _ _ _ (by simp)).trans (heap_alloc_new w _))
  have h2 := (hb.block (w.heap.size + 1) (by simp)).trans (heap_alloc2_new w _ _)
  refine ⟨?_, ?_, ?_, ?_⟩
  · rw [cell_of_row _ _ _ _ _ _ h1]; rfl
  · rw [cell_of_row _ _ _ _ _ _ h1]; rfl
  · rw [cell_of_row _ _ _ _ _ _ h2]; rfl
  · rw [cell_of_row _ _ _ _ _ _ h2]; rfl
theorem c_KeysOrder (v : Value) (l : List KK) (a b : KK) (hN : fewN l ≤ 1099511627776) (hN2 : fewN [a, b] ≤ 1099511627776) (w : World) (h : RdK w v l) :
    Calls Try.prog 4 #[v, .agg #[.string a.1, .int .i64 a.2], .agg #[.string b.1, .int .i64 b.2]] w fun e w' => e = .returned (.bool true) ∧ Below w.heap.size w w' := by
  have hF := fun y (hb : Below w.heap.size w y) => Lib.hid (c_few v l hN y (h.keep hb))
  have hF2 := fun y q (h : RdK y q [a, b]) => Lib.hid (c_few q [a, b] hN2 y h)
  have hB0 := Lib.hid (((Below.refl _ w).alloc (Nat.le_refl _) (.cells #[.string a.1, .int .i64 a.2] 29)).alloc (by simp) (.cells #[.string b.1, .int .i64 b.2] 29))
  have hbox := Lib.hid (boxes w a b)
  by_cases hd : fewN l ≤ 3000
  · by_cases hd2 : fewN [a, b] ≤ 3000
    · obtain ⟨hl, hs⟩ := few_small hd
      obtain ⟨_, hs2⟩ := few_small hd2
      have ha := hs2 a (by simp)
      have hbs := hs2 b (by simp)
      have hd : decide (fewN l ≤ 3000) = true := by simpa using hd
      have hd2 : decide (fewN [a, b] ≤ 3000) = true := by simpa using hd2
      rw [hd] at hF
      rw [hd2] at hF2
      have hsm : Small l := fun x hx => Nat.le_trans (hs x hx) (by omega)
      have hO1 := fun q y (h : RdK y q l) => Lib.hid (c_Order q l (by omega) hsm y h)
      have hO2 := fun y (hb : Below w.heap.size w y) => Lib.hid (c_Order4 v l (by omega) hsm y (h.keep hb))
      have hK1 := fun y => Lib.hid (c_KCompare a.1 b.1 a.2 b.2 (by omega) (by omega) y)
      have hK2 := fun y => Lib.hid (c_KCompare b.1 a.1 b.2 a.2 (by omega) (by omega) y)
      have hK3 := fun y => Lib.hid (c_Compare4 a.1 b.1 a.2 b.2 (by omega) (by omega) y)
      have hK4 := fun y => Lib.hid (c_Same4 a.1 b.1 a.2 b.2 (by omega) (by omega) y)
      have hneg := cmpK_neg a.1 b.1 a.2 b.2
      have hzero := cmpK_zero a.1 b.1 a.2 b.2
      have hsmall := cmpK_small a.1 b.1 a.2 b.2
      have hS := fun (x : KK) (hx : x.1.size ≤ 1099511627776) (y : World) => Lib.hid (c_Same4 x.1 x.1 x.2 x.2 hx hx y)
      have hkk : ∀ x : KK, sameK x.1 x.1 x.2 x.2 = true := fun x => by rw [same_kc]; simp
      simp only [hkk] at hS
      unfold keyV at hS hK1 hK2 hK3 hK4
      rw [hneg] at hK2
      rw [← hzero] at hK4
      generalize cmpK a.1 b.1 a.2 b.2 = z at *
      have hF1 := fun y (hb : Below ((w.alloc (.cells #[.string a.1, .int .i64 a.2] 29)).alloc (.cells #[.string b.1, .int .i64 b.2] 29)).heap.size ((w.alloc (.cells #[.string a.1, .int .i64 a.2] 29)).alloc (.cells #[.string b.1, .int .i64 b.2] 29)) y) => hF y (hB0.out.trans (hb.mono (by simp; omega)))
      have hsm := Lib.hid hsm
      clear hd hd2 hN hN2 hs hs2 hneg hzero hkk
      obtain ⟨i0, hi0, hz0, hz1, hz2⟩ := info_parts infoKey
      rcases h with ⟨rfl, rfl⟩ | ⟨p, c, rfl, hlc, hcell⟩
      · go_enter Try.func4, Try.ntmps4
        go_wp2_with (first | (go_at_call 7; refine (c_awake _).mono ?_; rintro e w1 ⟨rfl, hb1⟩) | (go_at_call 8; with_reducible refine (hF1 _ hb1).out.mono ?_; rintro e w2 ⟨rfl, hb2⟩; have hb12 := below_after hb1 hb2; obtain ⟨a1, a2, b1, b2⟩ := hbox.out w2 hb12) | (go_at_call 8; have hrd := show RdK (w2.alloc (.cells #[.string a.1, .int .i64 a.2, .string b.1, .int .i64 b.2] 29)) (.slice (some ⟨w2.heap.size, 0, none⟩) 2 2) [a, b] from rdk_block (l := [a, b]) (heap_alloc_new w2 (.cells #[.string a.1, .int .i64 a.2, .string b.1, .int .i64 b.2] 29)) rfl; with_reducible refine (hF2 _ _ hrd).out.mono ?_; rintro e w3 ⟨rfl, hb3⟩))
        have hr24 : RdK w3 (.slice none 0 0) [] := .inl ⟨rfl, rfl⟩
        have hW4 := Lib.hid (below_after (below_after hb12 ((Below.refl _ w2).alloc (Nat.le_refl _) (.cells #[.string a.1, .int .i64 a.2, .string b.1, .int .i64 b.2] 29))) hb3)
        clear hb1 hb2 hb12 hb3 a1 a2 b1 b2
        refine (hO1 _ _ hr24).out.mono ?_
        rintro e w5 ⟨v1, Z, rfl, hr1, hs1, he1, hb5⟩
        have hW5 := below_after hW4.out hb5
        have hZs : Small Z := he1.small hsm.out
        have hZl := he1.len
        clear hO1 hr24 hb5
        have hr1 := Lib.hid hr1
        have hs1 := Lib.hid hs1
        have he1 := Lib.hid he1
        have hW5 := Lib.hid hW5
        go_wp2_with fail
        refine (hO2 _ (hB0.out.trans (hW5.out.mono (by simp; omega)))).out.mono ?_
        rintro e w6 ⟨v2, Z2, rfl, hr2, hs2, he2, hb6⟩
        obtain rfl : Z2 = Z := srt_eqv_eq hs2 hs1.out (he2.trans he1.out.symm)
        obtain ⟨p1, c1, rfl, hpc1, hlc1, hZ1⟩ := hr1.out.form
        obtain ⟨p2, c2, rfl, hpc2, hlc2, hZ2⟩ := hr2.form
        have hW6 := below_after hW5.out hb6
        have hZ3 : ∀ k, k < Z2.length → ∃ x b o b' o', Z2[k]? = some x ∧ x.1.size ≤ 1099511627776 ∧ p1 = some ⟨b, o, none⟩ ∧ p2 = some ⟨b', o', none⟩ ∧ ∀ y, Below w6.heap.size w6 y → y.cell? ⟨b, o + k * 2, none⟩ = some (.string x.1) ∧ y.cell? ⟨b, o + k * 2 + 1, none⟩ = some (.int .i64 x.2) ∧ y.cell? ⟨b', o' + k * 2, none⟩ = some (.string x.1) ∧ y.cell? ⟨b', o' + k * 2 + 1, none⟩ = some (.int .i64 x.2) := by
          intro k hk
          have hx : Z2[k]? = some Z2[k] := List.getElem?_eq_getElem hk
          obtain ⟨b, o, q1, q2, q3⟩ := hZ1 k _ hx
          obtain ⟨b', o', r1, r2, r3⟩ := hZ2 k _ hx
          refine ⟨_, b, o, b', o', hx, hZs _ (List.getElem_mem hk), q1, r1, fun y hy => ?_⟩
          obtain ⟨a1, a2⟩ := q3 y (below_after hb6 hy)
          obtain ⟨a3, a4⟩ := r3 y hy
          exact ⟨a1, a2, a3, a4⟩
        clear hs2 hr2 hpc1 hpc2 hZ1 hZ2 hb6 hr1 hs1 he1 he2 hZs hW5 hO2 hF hF1 hF2
        have hlm : Z2.length ≤ 3000 := by rw [hZl]; first | exact hl | (simp)
        clear hZl
        generalize hm : Z2.length = m at *
        clear hm
        replace hZ3 := Lib.hid hZ3
        have hW6 := Lib.hid hW6
        go_wp2
        go_loopw [35] (fun vi wr => ∃ i : Nat, i ≤ m ∧ vi = .int .i64 (i : Int) ∧ Below w6.heap.size w6 wr) (fun vi _ => m - (intOf vi).toNat)
        case atStart => exact ⟨0, by omega, rfl, Below.refl _ _⟩
        case round =>
          obtain ⟨i, hi, rfl, hbel⟩ := hrel
          rcases Nat.lt_or_ge i m with hlt | hge
          · obtain ⟨k, g1, o1, g2, o2, hk, hks, rfl, rfl, hcell⟩ := hZ3.out i hlt
            obtain ⟨d1, d2, d3, d4⟩ := hcell wr hbel
            have hlt' : (i : Int) < (m : Int) := by omega
            have hg1 := cell_lt d1
            have hg2 := cell_lt d3
            have hC := fun y => hS k hks y
            have hbel0 := Lib.hid hbel
            have hS0 : wr.drew.cell? ⟨g1, o1 + i * 2, none⟩ = some (.string k.1) ∧ wr.drew.cell? ⟨g1, o1 + i * 2 + 1, none⟩ = some (.int .i64 k.2) ∧ wr.drew.cell? ⟨g2, o2 + i * 2, none⟩ = some (.string k.1) ∧ wr.drew.cell? ⟨g2, o2 + i * 2 + 1, none⟩ = some (.int .i64 k.2) ∧ Below wr.heap.size wr wr.drew := ⟨d1, d2, d3, d4, (Below.refl _ _).drew⟩
            clear hbel d1 d2 d3 d4 hcell hk hZ3 hK1 hK2 hK3 hK4
            go_wp2_with fail
            go_region_held3 (fun y => y.cell? ⟨g1, o1 + i * 2, none⟩ = some (.string k.1) ∧ y.cell? ⟨g1, o1 + i * 2 + 1, none⟩ = some (.int .i64 k.2) ∧ y.cell? ⟨g2, o2 + i * 2, none⟩ = some (.string k.1) ∧ y.cell? ⟨g2, o2 + i * 2 + 1, none⟩ = some (.int .i64 k.2) ∧ Below wr.heap.size wr y) (first | assumption | exact peek2_keep hg1 hg2 (by assumption) (by assumption)) (first | (go_at_call 10; with_reducible refine (hC _).out.mono ?_; rintro e y' ⟨rfl, hb⟩))
            obtain ⟨_, _, _, _, hbW⟩ := peek2_keep hg1 hg2 hS0 hb
            have hbel3 := Lib.hid (hbel0.out.trans (hbW.mono hbel0.out.size))
            clear hS0 hb hbW hg1 hg2
            go_wp2
            go_roundw
            case rel => exact ⟨i + 1, by omega, by go_num, hbel3.out⟩
            case measure => simp [intOf]; omega
          · obtain rfl : i = m := by omega
            have hWr := below_after hW6.out hbel
            obtain ⟨a1, a2, b1, b2⟩ := hbox.out wr hWr
            have hWr := Lib.hid hWr
            clear hZ3 hbel hS
            have hneg2 : IntKind.i64.wrap (-z) = -z := by rw [IntKind.wrap_i64]; omega
            go_wp2_with (first | (go_at_call 12; with_reducible refine (hK1 _).out.mono ?_; rintro e y1 ⟨rfl, hc1⟩; have hY1 := below_after hWr.out hc1; obtain ⟨a1, a2, b1, b2⟩ := hbox.out y1 hY1; have hY1 := Lib.hid hY1) | (go_at_call 13; with_reducible refine (hK3 _).out.mono ?_; rintro e y2 ⟨rfl, hc2⟩; have hY2 := below_after hY1.out hc2; obtain ⟨a1, a2, b1, b2⟩ := hbox.out y2 hY2; have hY2 := Lib.hid hY2) | (go_at_call 12; with_reducible refine (hK2 _).out.mono ?_; rintro e y3 ⟨rfl, hc3⟩; have hY3 := below_after hY2.out hc3; obtain ⟨a1, a2, b1, b2⟩ := hbox.out y3 hY3; have hY3 := Lib.hid hY3) | (go_at_call 10; with_reducible refine (hK4 _).out.mono ?_; rintro e y4 ⟨rfl, hc4⟩; have hY4 := Lib.hid (below_after hY3.out hc4)))
            go_ret
            refine ⟨?_, hB0.out.trans (hY4.out.mono (by simp; omega))⟩
            show Ending.returned (.bool ((z == 0) == decide (z = 0))) = _
            exact ret_bool (by by_cases h : z = 0 <;> simp [h])
      · cases l with
        | nil =>
          simp only [List.length_nil] at hF1 hO2 ⊢
          go_enter Try.func4, Try.ntmps4
          go_wp2_with (first | (go_at_call 7; refine (c_awake _).mono ?_; rintro e w1 ⟨rfl, hb1⟩) | (go_at_call 8; with_reducible refine (hF1 _ hb1).out.mono ?_; rintro e w2 ⟨rfl, hb2⟩; have hb12 := below_after hb1 hb2; obtain ⟨a1, a2, b1, b2⟩ := hbox.out w2 hb12) | (go_at_call 8; have hrd := show RdK (w2.alloc (.cells #[.string a.1, .int .i64 a.2, .string b.1, .int .i64 b.2] 29)) (.slice (some ⟨w2.heap.size, 0, none⟩) 2 2) [a, b] from rdk_block (l := [a, b]) (heap_alloc_new w2 (.cells #[.string a.1, .int .i64 a.2, .string b.1, .int .i64 b.2] 29)) rfl; with_reducible refine (hF2 _ _ hrd).out.mono ?_; rintro e w3 ⟨rfl, hb3⟩))
          have hr24 : RdK w3 (.slice none 0 0) [] := .inl ⟨rfl, rfl⟩
          have hW4 := Lib.hid (below_after (below_after hb12 ((Below.refl _ w2).alloc (Nat.le_refl _) (.cells #[.string a.1, .int .i64 a.2, .string b.1, .int .i64 b.2] 29))) hb3)
          clear hb1 hb2 hb12 hb3 a1 a2 b1 b2
          refine (hO1 _ _ hr24).out.mono ?_
          rintro e w5 ⟨v1, Z, rfl, hr1, hs1, he1, hb5⟩
          have hW5 := below_after hW4.out hb5
          have hZs : Small Z := he1.small hsm.out
          have hZl := he1.len
          clear hO1 hr24 hb5
          have hr1 := Lib.hid hr1
          have hs1 := Lib.hid hs1
          have he1 := Lib.hid he1
          have hW5 := Lib.hid hW5
          go_wp2_with fail
          refine (hO2 _ (hB0.out.trans (hW5.out.mono (by simp; omega)))).out.mono ?_
          rintro e w6 ⟨v2, Z2, rfl, hr2, hs2, he2, hb6⟩
          obtain rfl : Z2 = Z := srt_eqv_eq hs2 hs1.out (he2.trans he1.out.symm)
          obtain ⟨p1, c1, rfl, hpc1, hlc1, hZ1⟩ := hr1.out.form
          obtain ⟨p2, c2, rfl, hpc2, hlc2, hZ2⟩ := hr2.form
          have hW6 := below_after hW5.out hb6
          have hZ3 : ∀ k, k < Z2.length → ∃ x b o b' o', Z2[k]? = some x ∧ x.1.size ≤ 1099511627776 ∧ p1 = some ⟨b, o, none⟩ ∧ p2 = some ⟨b', o', none⟩ ∧ ∀ y, Below w6.heap.size w6 y → y.cell? ⟨b, o + k * 2, none⟩ = some (.string x.1) ∧ y.cell? ⟨b, o + k * 2 + 1, none⟩ = some (.int .i64 x.2) ∧ y.cell? ⟨b', o' + k * 2, none⟩ = some (.string x.1) ∧ y.cell? ⟨b', o' + k * 2 + 1, none⟩ = some (.int .i64 x.2) := by
            intro k hk
            have hx : Z2[k]? = some Z2[k] := List.getElem?_eq_getElem hk
            obtain ⟨b, o, q1, q2, q3⟩ := hZ1 k _ hx
            obtain ⟨b', o', r1, r2, r3⟩ := hZ2 k _ hx
            refine ⟨_, b, o, b', o', hx, hZs _ (List.getElem_mem hk), q1, r1, fun y hy => ?_⟩
            obtain ⟨a1, a2⟩ := q3 y (below_after hb6 hy)
            obtain ⟨a3, a4⟩ := r3 y hy
            exact ⟨a1, a2, a3, a4⟩
          clear hs2 hr2 hpc1 hpc2 hZ1 hZ2 hb6 hr1 hs1 he1 he2 hZs hW5 hO2 hF hF1 hF2
          have hlm : Z2.length ≤ 3000 := by rw [hZl]; first | exact hl | (simp)
          clear hZl
          generalize hm : Z2.length = m at *
          clear hm
          replace hZ3 := Lib.hid hZ3
          have hW6 := Lib.hid hW6
          go_wp2
          go_loopw [35] (fun vi wr => ∃ i : Nat, i ≤ m ∧ vi = .int .i64 (i : Int) ∧ Below w6.heap.size w6 wr) (fun vi _ => m - (intOf vi).toNat)
          case atStart => exact ⟨0, by omega, rfl, Below.refl _ _⟩
          case round =>
            obtain ⟨i, hi, rfl, hbel⟩ := hrel
            rcases Nat.lt_or_ge i m with hlt | hge
            · obtain ⟨k, g1, o1, g2, o2, hk, hks, rfl, rfl, hcell⟩ := hZ3.out i hlt
              obtain ⟨d1, d2, d3, d4⟩ := hcell wr hbel
              have hlt' : (i : Int) < (m : Int) := by omega
              have hg1 := cell_lt d1
              have hg2 := cell_lt d3
              have hC := fun y => hS k hks y
              have hbel0 := Lib.hid hbel
              have hS0 : wr.drew.cell? ⟨g1, o1 + i * 2, none⟩ = some (.string k.1) ∧ wr.drew.cell? ⟨g1, o1 + i * 2 + 1, none⟩ = some (.int .i64 k.2) ∧ wr.drew.cell? ⟨g2, o2 + i * 2, none⟩ = some (.string k.1) ∧ wr.drew.cell? ⟨g2, o2 + i * 2 + 1, none⟩ = some (.int .i64 k.2) ∧ Below wr.heap.size wr wr.drew := ⟨d1, d2, d3, d4, (Below.refl _ _).drew⟩
              clear hbel d1 d2 d3 d4 hcell hk hZ3 hK1 hK2 hK3 hK4
              go_wp2_with fail
              go_region_held3 (fun y => y.cell? ⟨g1, o1 + i * 2, none⟩ = some (.string k.1) ∧ y.cell? ⟨g1, o1 + i * 2 + 1, none⟩ = some (.int .i64 k.2) ∧ y.cell? ⟨g2, o2 + i * 2, none⟩ = some (.string k.1) ∧ y.cell? ⟨g2, o2 + i * 2 + 1, none⟩ = some (.int .i64 k.2) ∧ Below wr.heap.size wr y) (first | assumption | exact peek2_keep hg1 hg2 (by assumption) (by assumption)) (first | (go_at_call 10; with_reducible refine (hC _).out.mono ?_; rintro e y' ⟨rfl, hb⟩))
              obtain ⟨_, _, _, _, hbW⟩ := peek2_keep hg1 hg2 hS0 hb
              have hbel3 := Lib.hid (hbel0.out.trans (hbW.mono hbel0.out.size))
              clear hS0 hb hbW hg1 hg2
              go_wp2
              go_roundw
              case rel => exact ⟨i + 1, by omega, by go_num, hbel3.out⟩
              case measure => simp [intOf]; omega
            · obtain rfl : i = m := by omega
              have hWr := below_after hW6.out hbel
              obtain ⟨a1, a2, b1, b2⟩ := hbox.out wr hWr
              have hWr := Lib.hid hWr
              clear hZ3 hbel hS
              have hneg2 : IntKind.i64.wrap (-z) = -z := by rw [IntKind.wrap_i64]; omega
              go_wp2_with (first | (go_at_call 12; with_reducible refine (hK1 _).out.mono ?_; rintro e y1 ⟨rfl, hc1⟩; have hY1 := below_after hWr.out hc1; obtain ⟨a1, a2, b1, b2⟩ := hbox.out y1 hY1; have hY1 := Lib.hid hY1) | (go_at_call 13; with_reducible refine (hK3 _).out.mono ?_; rintro e y2 ⟨rfl, hc2⟩; have hY2 := below_after hY1.out hc2; obtain ⟨a1, a2, b1, b2⟩ := hbox.out y2 hY2; have hY2 := Lib.hid hY2) | (go_at_call 12; with_reducible refine (hK2 _).out.mono ?_; rintro e y3 ⟨rfl, hc3⟩; have hY3 := below_after hY2.out hc3; obtain ⟨a1, a2, b1, b2⟩ := hbox.out y3 hY3; have hY3 := Lib.hid hY3) | (go_at_call 10; with_reducible refine (hK4 _).out.mono ?_; rintro e y4 ⟨rfl, hc4⟩; have hY4 := Lib.hid (below_after hY3.out hc4)))
              go_ret
              refine ⟨?_, hB0.out.trans (hY4.out.mono (by simp; omega))⟩
              show Ending.returned (.bool ((z == 0) == decide (z = 0))) = _
              exact ret_bool (by by_cases h : z = 0 <;> simp [h])
        | cons x l =>
          have hn := Lib.hid (fun y (hb : Below w.heap.size w y) => show ∀ j u, (flatK (x :: l))[j]? = some u → y.cell? (p.add j) = some u from fun j u hu => by have := news_of hcell j u hu; rw [hb.cell (p := p.add j) (cell_lt this)]; exact this)
          clear hcell
          simp only [List.length_cons] at hF1 hO2 ⊢
          have hl2 : l.length + 1 ≤ 3000 := by simpa using hl
          go_enter Try.func4, Try.ntmps4
          go_wp2_with (first | (go_at_call 7; refine (c_awake _).mono ?_; rintro e w1 ⟨rfl, hb1⟩) | (go_at_call 8; with_reducible refine (hF1 _ hb1).out.mono ?_; rintro e w2 ⟨rfl, hb2⟩; have hb12 := below_after hb1 hb2; obtain ⟨a1, a2, b1, b2⟩ := hbox.out w2 hb12) | (go_at_call 8; have hrd := show RdK (w2.alloc (.cells #[.string a.1, .int .i64 a.2, .string b.1, .int .i64 b.2] 29)) (.slice (some ⟨w2.heap.size, 0, none⟩) 2 2) [a, b] from rdk_block (l := [a, b]) (heap_alloc_new w2 (.cells #[.string a.1, .int .i64 a.2, .string b.1, .int .i64 b.2] 29)) rfl; with_reducible refine (hF2 _ _ hrd).out.mono ?_; rintro e w3 ⟨rfl, hb3⟩) | (at_builtin; refine wpList_append_lies _ (by rfl) _ _ _ (by rfl) w3.heap.size 29 i0 _ 2 24 Try.underlying22 hi0 hz0 hz1 hz2 rfl (by omega) (.slice none 0 0) 0 [] (by rfl) (World.ownsRow_nil w3 _ _ _) p (l.length + 1) c (flatK (x :: l)) (by rfl) (by rw [flatK_len]; rfl) (hn.out _ (hB0.out.trans ((below_after (below_after hb12 ((Below.refl _ w2).alloc (Nat.le_refl _) (.cells #[.string a.1, .int .i64 a.2, .string b.1, .int .i64 b.2] 29))) hb3).mono (by simp; omega)))) (flatK_one _) (by omega) (by unfold maxLen; omega) (by omega) (Nat.le_refl _) _ rfl ?_; intro gg cap w4 hown4 hgrow hat hlt2))
          rw [Nat.zero_add] at hown4
          have hr24 := own_rdk (Z := x :: l) hown4
          have hW4 := Lib.hid (below_after (below_after (below_after hb12 ((Below.refl _ w2).alloc (Nat.le_refl _) (.cells #[.string a.1, .int .i64 a.2, .string b.1, .int .i64 b.2] 29))) hb3) ((Below.refl _ w3).grown hgrow (Nat.le_refl _) (fun k hk => by cases hk)))
          clear hb1 hb2 hb12 hb3 a1 a2 b1 b2 hown4 hgrow
          refine (hO1 _ _ hr24).out.mono ?_
          rintro e w5 ⟨v1, Z, rfl, hr1, hs1, he1, hb5⟩
          have hW5 := below_after hW4.out hb5
          have hZs : Small Z := he1.small hsm.out
          have hZl := he1.len
          clear hO1 hr24 hb5
          have hr1 := Lib.hid hr1
          have hs1 := Lib.hid hs1
          have he1 := Lib.hid he1
          have hW5 := Lib.hid hW5
          go_wp2_with fail
          refine (hO2 _ (hB0.out.trans (hW5.out.mono (by simp; omega)))).out.mono ?_
          rintro e w6 ⟨v2, Z2, rfl, hr2, hs2, he2, hb6⟩
          obtain rfl : Z2 = Z := srt_eqv_eq hs2 hs1.out (he2.trans he1.out.symm)
          obtain ⟨p1, c1, rfl, hpc1, hlc1, hZ1⟩ := hr1.out.form
          obtain ⟨p2, c2, rfl, hpc2, hlc2, hZ2⟩ := hr2.form
          have hW6 := below_after hW5.out hb6
          have hZ3 : ∀ k, k < Z2.length → ∃ x b o b' o', Z2[k]? = some x ∧ x.1.size ≤ 1099511627776 ∧ p1 = some ⟨b, o, none⟩ ∧ p2 = some ⟨b', o', none⟩ ∧ ∀ y, Below w6.heap.size w6 y → y.cell? ⟨b, o + k * 2, none⟩ = some (.string x.1) ∧ y.cell? ⟨b, o + k * 2 + 1, none⟩ = some (.int .i64 x.2) ∧ y.cell? ⟨b', o' + k * 2, none⟩ = some (.string x.1) ∧ y.cell? ⟨b', o' + k * 2 + 1, none⟩ = some (.int .i64 x.2) := by
            intro k hk
            have hx : Z2[k]? = some Z2[k] := List.getElem?_eq_getElem hk
            obtain ⟨b, o, q1, q2, q3⟩ := hZ1 k _ hx
            obtain ⟨b', o', r1, r2, r3⟩ := hZ2 k _ hx
            refine ⟨_, b, o, b', o', hx, hZs _ (List.getElem_mem hk), q1, r1, fun y hy => ?_⟩
            obtain ⟨a1, a2⟩ := q3 y (below_after hb6 hy)
            obtain ⟨a3, a4⟩ := r3 y hy
            exact ⟨a1, a2, a3, a4⟩
          clear hs2 hr2 hpc1 hpc2 hZ1 hZ2 hb6 hr1 hs1 he1 he2 hZs hW5 hO2 hF hF1 hF2
          have hlm : Z2.length ≤ 3000 := by rw [hZl]; first | exact hl | (simp)
          clear hZl
          generalize hm : Z2.length = m at *
          clear hm
          replace hZ3 := Lib.hid hZ3
          have hW6 := Lib.hid hW6
          go_wp2
          go_loopw [35] (fun vi wr => ∃ i : Nat, i ≤ m ∧ vi = .int .i64 (i : Int) ∧ Below w6.heap.size w6 wr) (fun vi _ => m - (intOf vi).toNat)
          case atStart => exact ⟨0, by omega, rfl, Below.refl _ _⟩
          case round =>
            obtain ⟨i, hi, rfl, hbel⟩ := hrel
            rcases Nat.lt_or_ge i m with hlt | hge
            · obtain ⟨k, g1, o1, g2, o2, hk, hks, rfl, rfl, hcell⟩ := hZ3.out i hlt
              obtain ⟨d1, d2, d3, d4⟩ := hcell wr hbel
              have hlt' : (i : Int) < (m : Int) := by omega
              have hg1 := cell_lt d1
              have hg2 := cell_lt d3
              have hC := fun y => hS k hks y
              have hbel0 := Lib.hid hbel
              have hS0 : wr.drew.cell? ⟨g1, o1 + i * 2, none⟩ = some (.string k.1) ∧ wr.drew.cell? ⟨g1, o1 + i * 2 + 1, none⟩ = some (.int .i64 k.2) ∧ wr.drew.cell? ⟨g2, o2 + i * 2, none⟩ = some (.string k.1) ∧ wr.drew.cell? ⟨g2, o2 + i * 2 + 1, none⟩ = some (.int .i64 k.2) ∧ Below wr.heap.size wr wr.drew := ⟨d1, d2, d3, d4, (Below.refl _ _).drew⟩
              clear hbel d1 d2 d3 d4 hcell hk hZ3 hK1 hK2 hK3 hK4
              go_wp2_with fail
              go_region_held3 (fun y => y.cell? ⟨g1, o1 + i * 2, none⟩ = some (.string k.1) ∧ y.cell? ⟨g1, o1 + i * 2 + 1, none⟩ = some (.int .i64 k.2) ∧ y.cell? ⟨g2, o2 + i * 2, none⟩ = some (.string k.1) ∧ y.cell? ⟨g2, o2 + i * 2 + 1, none⟩ = some (.int .i64 k.2) ∧ Below wr.heap.size wr y) (first | assumption | exact peek2_keep hg1 hg2 (by assumption) (by assumption)) (first | (go_at_call 10; with_reducible refine (hC _).out.mono ?_; rintro e y' ⟨rfl, hb⟩))
              obtain ⟨_, _, _, _, hbW⟩ := peek2_keep hg1 hg2 hS0 hb
              have hbel3 := Lib.hid (hbel0.out.trans (hbW.mono hbel0.out.size))
              clear hS0 hb hbW hg1 hg2
              go_wp2
              go_roundw
              case rel => exact ⟨i + 1, by omega, by go_num, hbel3.out⟩
              case measure => simp [intOf]; omega
            · obtain rfl : i = m := by omega
              have hWr := below_after hW6.out hbel
              obtain ⟨a1, a2, b1, b2⟩ := hbox.out wr hWr
              have hWr := Lib.hid hWr
              clear hZ3 hbel hS
              have hneg2 : IntKind.i64.wrap (-z) = -z := by rw [IntKind.wrap_i64]; omega
              go_wp2_with (first | (go_at_call 12; with_reducible refine (hK1 _).out.mono ?_; rintro e y1 ⟨rfl, hc1⟩; have hY1 := below_after hWr.out hc1; obtain ⟨a1, a2, b1, b2⟩ := hbox.out y1 hY1; have hY1 := Lib.hid hY1) | (go_at_call 13; with_reducible refine (hK3 _).out.mono ?_; rintro e y2 ⟨rfl, hc2⟩; have hY2 := below_after hY1.out hc2; obtain ⟨a1, a2, b1, b2⟩ := hbox.out y2 hY2; have hY2 := Lib.hid hY2) | (go_at_call 12; with_reducible refine (hK2 _).out.mono ?_; rintro e y3 ⟨rfl, hc3⟩; have hY3 := below_after hY2.out hc3; obtain ⟨a1, a2, b1, b2⟩ := hbox.out y3 hY3; have hY3 := Lib.hid hY3) | (go_at_call 10; with_reducible refine (hK4 _).out.mono ?_; rintro e y4 ⟨rfl, hc4⟩; have hY4 := Lib.hid (below_after hY3.out hc4)))
              go_ret
              refine ⟨?_, hB0.out.trans (hY4.out.mono (by simp; omega))⟩
              show Ending.returned (.bool ((z == 0) == decide (z = 0))) = _
              exact ret_bool (by by_cases h : z = 0 <;> simp [h])
    · have hd : decide (fewN l ≤ 3000) = true := by simpa using hd
      have hd2 : decide (fewN [a, b] ≤ 3000) = false := by simpa using hd2
      rw [hd] at hF
      rw [hd2] at hF2
      clear hd hd2 hN hN2 h
      have hF1 := fun y (hb : Below ((w.alloc (.cells #[.string a.1, .int .i64 a.2] 29)).alloc (.cells #[.string b.1, .int .i64 b.2] 29)).heap.size ((w.alloc (.cells #[.string a.1, .int .i64 a.2] 29)).alloc (.cells #[.string b.1, .int .i64 b.2] 29)) y) => hF y (hB0.out.trans (hb.mono (by simp; omega)))
      go_enter Try.func4, Try.ntmps4
      go_wp2_with (first | (go_at_call 7; refine (c_awake _).mono ?_; rintro e w1 ⟨rfl, hb1⟩) | (go_at_call 8; with_reducible refine (hF1 _ hb1).out.mono ?_; rintro e w2 ⟨rfl, hb2⟩; have hb12 := below_after hb1 hb2; obtain ⟨a1, a2, b1, b2⟩ := hbox.out w2 hb12) | (go_at_call 8; have hrd := show RdK (w2.alloc (.cells #[.string a.1, .int .i64 a.2, .string b.1, .int .i64 b.2] 29)) (.slice (some ⟨w2.heap.size, 0, none⟩) 2 2) [a, b] from rdk_block (l := [a, b]) (heap_alloc_new w2 (.cells #[.string a.1, .int .i64 a.2, .string b.1, .int .i64 b.2] 29)) rfl; with_reducible refine (hF2 _ _ hrd).out.mono ?_; rintro e w3 ⟨rfl, hb3⟩))
      go_ret
      exact ⟨rfl, hB0.out.trans ((below_after (below_after hb12 ((Below.refl _ w2).alloc (Nat.le_refl _) (.cells #[.string a.1, .int .i64 a.2, .string b.1, .int .i64 b.2] 29))) hb3).mono (by simp; omega))⟩
  · have hd : decide (fewN l ≤ 3000) = false := by simpa using hd
    rw [hd] at hF
    clear hd hN hN2 h hF2
    have hF1 := fun y (hb : Below ((w.alloc (.cells #[.string a.1, .int .i64 a.2] 29)).alloc (.cells #[.string b.1, .int .i64 b.2] 29)).heap.size ((w.alloc (.cells #[.string a.1, .int .i64 a.2] 29)).alloc (.cells #[.string b.1, .int .i64 b.2] 29)) y) => hF y (hB0.out.trans (hb.mono (by simp; omega)))
    go_enter Try.func4, Try.ntmps4
    go_wp2_with (first | (go_at_call 7; refine (c_awake _).mono ?_; rintro e w1 ⟨rfl, hb1⟩) | (go_at_call 8; with_reducible refine (hF1 _ hb1).out.mono ?_; rintro e w2 ⟨rfl, hb2⟩; have hb12 := below_after hb1 hb2; obtain ⟨a1, a2, b1, b2⟩ := hbox.out w2 hb12))
    go_ret
    exact ⟨rfl, hB0.out.trans (hb12.mono (by simp; omega))⟩
end Go.Proofs.Ytkbjakadngnokaa
