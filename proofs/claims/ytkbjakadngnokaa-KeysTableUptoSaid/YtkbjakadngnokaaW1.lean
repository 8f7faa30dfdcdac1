/-
  The walk of the law KeysStable.
-/
import Derived.Test.YtkbjakadngnokaaL1
import Derived.Test.YtkbjakadngnokaaP1
namespace Go.Proofs.Ytkbjakadngnokaa
open Go.RowKit Go.Shelf Go.Lib Go.Sort Go.Proofs
set_option maxHeartbeats 1000000
set_option maxRecDepth 8000

def bools (u : List Bool) : List Value := u.map Value.bool
theorem infoBool : (Try.prog.info? 4).map (fun i => (i.zero, i.size, i.bytes)) = some (some (.bool false), 1, 1) := by kernel_rfl
theorem le_sum {l : List Nat} {n : Nat} (h : n ∈ l) : n ≤ l.sum := by
  induction l with
  | nil => cases h
  | cons x l ih =>
    rw [List.sum_cons]
    rcases List.mem_cons.1 h with rfl | h
    · omega
    · have := ih h; omega
theorem few_small {l : List KK} (h : fewN l ≤ 3000) : l.length ≤ 3000 ∧ ∀ x ∈ l, x.1.size ≤ 3000 := by
  unfold fewN at h
  refine ⟨by omega, fun x hx => ?_⟩
  have : x.1.size ≤ (l.map fun x => x.1.size).sum := le_sum (List.mem_map.2 ⟨x, hx, rfl⟩)
  omega
theorem peek2_keep {w y y' : World} {a b i i' j j' : Nat} {v0 v1 v2 v3 : Value} (hA : a < w.heap.size) (hB : b < w.heap.size)
    (h : y.cell? ⟨a, i, none⟩ = some v0 ∧ y.cell? ⟨a, i', none⟩ = some v1 ∧ y.cell? ⟨b, j, none⟩ = some v2 ∧ y.cell? ⟨b, j', none⟩ = some v3 ∧ Below w.heap.size w y) (hb : Below y.heap.size y y') :
    y'.cell? ⟨a, i, none⟩ = some v0 ∧ y'.cell? ⟨a, i', none⟩ = some v1 ∧ y'.cell? ⟨b, j, none⟩ = some v2 ∧ y'.cell? ⟨b, j', none⟩ = some v3 ∧ Below w.heap.size w y' := by
  obtain ⟨h1, h2, h3, h4, h5⟩ := h
  have hl1 := Nat.lt_of_lt_of_le hA h5.size
  have hl2 := Nat.lt_of_lt_of_le hB h5.size
  refine ⟨?_, ?_, ?_, ?_, below_after h5 hb⟩
  · rw [hb.cell (p := ⟨a, i, none⟩) hl1]; exact h1
  · rw [hb.cell (p := ⟨a, i', none⟩) hl1]; exact h2
  · rw [hb.cell (p := ⟨b, j, none⟩) hl2]; exact h3
  · rw [hb.cell (p := ⟨b, j', none⟩) hl2]; exact h4
theorem own_below {w w' : World} {B e size n : Nat} {v : Value} {xs : List Value} (h : w.ownsRow B e size v n xs) (hb : Below w.heap.size w w') : w'.ownsRow B e size v n xs :=
  h.kept (row := none) ⟨hb.os, hb.tape, hb.output, hb.size, fun k hk _ => hb.block k hk⟩ (by cases h : v.ownBlock with | none => exact .inl rfl | some q => exact .inr (by simp))
theorem c_KeysStable (v : Value) (l : List KK) (hN : fewN l ≤ 1099511627776) (w : World) (h : RdK w v l) :
    Calls Try.prog 3 #[v] w fun e w' => e = .returned (.bool true) ∧ Below w.heap.size w w' := by
  have hF := fun y (hb : Below w.heap.size w y) => Lib.hid (c_few v l hN y (h.keep hb))
  by_cases hd : fewN l ≤ 3000
  · obtain ⟨hl, hs⟩ := few_small hd
    have hd : decide (fewN l ≤ 3000) = true := by simpa using hd
    rw [hd] at hF
    have hsm : Small l := fun x hx => Nat.le_trans (hs x hx) (by omega)
    have hO1 := fun y (hb : Below w.heap.size w y) => Lib.hid (c_Order v l (by omega) hsm y (h.keep hb))
    have h := Lib.hid h
    clear hd hN
    obtain ⟨i0, hi0, hz0, hz1, hz2⟩ := info_parts infoBool
    go_enter Try.func3, Try.ntmps3
    go_wp2_with (first | (go_at_call 7; refine (c_awake _).mono ?_; rintro e w1 ⟨rfl, hb1⟩) | (go_at_call 8; refine (hF _ hb1).out.mono ?_; rintro e w2 ⟨rfl, hb2⟩))
    have hb2' := below_after hb1 hb2
    refine (hO1 _ hb2').out.mono ?_
    rintro e w3 ⟨v1, Z, rfl, hr1, hs1, he1, hb3⟩
    have hZs : Small Z := he1.small hsm
    have hZl : Z.length = l.length := he1.len
    have hO2 := Lib.hid (c_Order v1 Z (by omega) hZs w3 hr1)
    have hb3' := below_after hb2' hb3
    clear hb1 hb2 hb3 hb2' hF hO1
    have hs1 := Lib.hid hs1
    have he1 := Lib.hid he1
    have hr1 := Lib.hid hr1
    have hb3' := Lib.hid hb3'
    go_wp2_with fail
    refine hO2.out.mono ?_
    rintro e w4 ⟨v2, Z2, rfl, hr2, hs2, he2, hb4⟩
    obtain rfl : Z2 = Z := srt_eqv_eq hs2 hs1.out he2
    obtain ⟨p, c, rfl, hpc, hlc, hL⟩ := h.out.form
    obtain ⟨p1, c1, rfl, hpc1, hlc1, hZ1⟩ := hr1.out.form
    obtain ⟨p2, c2, rfl, hpc2, hlc2, hZ2⟩ := hr2.form
    have hb4' := below_after hb3'.out hb4
    have hL2 : ∀ k, k < l.length → ∃ x b o, l[k]? = some x ∧ x.1.size ≤ 1099511627776 ∧ p = some ⟨b, o, none⟩ ∧ ∀ y, Below w4.heap.size w4 y → y.cell? ⟨b, o + k * 2, none⟩ = some (.string x.1) ∧ y.cell? ⟨b, o + k * 2 + 1, none⟩ = some (.int .i64 x.2) := by
      intro k hk
      have hx : l[k]? = some l[k] := List.getElem?_eq_getElem hk
      obtain ⟨b, o, q1, q2, q3⟩ := hL k _ hx
      exact ⟨_, b, o, hx, hsm _ (List.getElem_mem hk), q1, fun y hy => q3 y (below_after hb4' hy)⟩
    have hZ3 : ∀ k, k < l.length → ∃ x b o b' o', Z2[k]? = some x ∧ x.1.size ≤ 1099511627776 ∧ p1 = some ⟨b, o, none⟩ ∧ p2 = some ⟨b', o', none⟩ ∧ ∀ y, Below w4.heap.size w4 y → y.cell? ⟨b, o + k * 2, none⟩ = some (.string x.1) ∧ y.cell? ⟨b, o + k * 2 + 1, none⟩ = some (.int .i64 x.2) ∧ y.cell? ⟨b', o' + k * 2, none⟩ = some (.string x.1) ∧ y.cell? ⟨b', o' + k * 2 + 1, none⟩ = some (.int .i64 x.2) := by
      intro k hk
      have hx : Z2[k]? = some Z2[k] := List.getElem?_eq_getElem (by omega)
      obtain ⟨b, o, q1, q2, q3⟩ := hZ1 k _ hx
      obtain ⟨b', o', r1, r2, r3⟩ := hZ2 k _ hx
      refine ⟨_, b, o, b', o', hx, hZs _ (List.getElem_mem (by omega)), q1, r1, fun y hy => ?_⟩
      obtain ⟨a1, a2⟩ := q3 y (below_after hb4 hy)
      obtain ⟨a3, a4⟩ := r3 y hy
      exact ⟨a1, a2, a3, a4⟩
    obtain ⟨f0, f1, f2, f3, f4, f5⟩ := stable_facts l Z2 (eqv_perm he1.out)
    have hsame := fun (x : KK) (hx : x.1.size ≤ 1099511627776) (y : KK) (hy : y.1.size ≤ 1099511627776) (wy : World) => Lib.hid (c_Same4 x.1 y.1 x.2 y.2 hx hy wy)
    have hkc := same_kc
    clear hO2 hs2 he2 hr2 hpc hlc hL hpc1 hZ1 hpc2 hZ2 hb4 hsm hZs hs1 he1 hr1 hb3' h hs
    have hlc1 : l.length ≤ c1 := by omega
    have hlc2 : l.length ≤ c2 := by omega
    rw [hZl]
    generalize SI l Z2 = S1 at *
    generalize SN l Z2 = S2 at *
    generalize l.length = n at *
    replace hL2 := Lib.hid hL2
    replace hZ3 := Lib.hid hZ3
    replace f0 := Lib.hid f0
    replace f1 := Lib.hid f1
    replace f2 := Lib.hid f2
    replace f3 := Lib.hid f3
    replace f4 := Lib.hid f4
    replace f5 := Lib.hid f5
    replace hkc := Lib.hid hkc
    replace hb4' := Lib.hid hb4'
    clear hZl hlc1 hlc2
    go_wp2_with (at_make; refine wpList_make_full _ rfl _ _ 26 rfl w4.heap.size 4 i0 (.bool false) 1 Try.underlying26 hi0 hz0 hz1 _ _ _ _ n rfl rfl (by simp) (by simp) (by rw [hz2]; omega) (by unfold maxLen; omega) (Nat.le_refl _) ?_; intro w5 hown5 hg5)
    have hb5 : Below w4.heap.size w4 w5 := (Below.refl _ _).grown hg5 (Nat.le_refl _) (fun k hk => by cases hk)
    have hrep : (madeCells (Value.cells (.bool false)) (n * 1)).toList = bools (List.replicate n false) := by
      show (madeCells #[.bool false] (n * 1)).toList = _
      rw [toList_madeCells_one, Nat.mul_one]
      simp [bools]
    rw [hrep] at hown5
    clear hrep hg5
    have hb5 := Lib.hid hb5
    go_loopw [37] (fun vi wr => ∃ (i : Nat) (u : List Bool), i ≤ n ∧ vi = .int .i64 (i : Int) ∧ S1 i u ∧ wr.ownsRow w4.heap.size 4 1 (.slice (some ⟨w4.heap.size, 0, none⟩) n n) n (bools u) ∧ Below w4.heap.size w4 wr) (fun vi _ => n - (intOf vi).toNat)
    case atStart => exact ⟨0, _, by omega, rfl, f0.out, hown5, hb5.out⟩
    case round =>
      obtain ⟨i, u, hi, rfl, hS, hown, hbel⟩ := hrel
      clear f0 hown5 hb5
      rcases Nat.lt_or_ge i n with hlt | hge
      · obtain ⟨k, b1, o1, b2, o2, hk, hks, rfl, rfl, hcell⟩ := hZ3.out i hlt
        obtain ⟨c1, c2, _, _⟩ := hcell wr hbel
        have hlt' : (i : Int) < (n : Int) := by omega
        have hS2 := Lib.hid (f1.out _ _ hS).2
        have hown := Lib.hid hown
        have hbel0 := Lib.hid hbel
        have hbel1 : Below w4.heap.size w4 (wr.alloc (.cells #[.string k.1, .int .i64 k.2] 29)) := hbel.alloc hbel.size _
        obtain ⟨_, _, c3, c4⟩ := hcell _ hbel1
        have hb2 : b2 < (wr.alloc (.cells #[.string k.1, .int .i64 k.2] 29)).heap.size := cell_lt c3
        have hhk := heap_alloc_new wr (.cells #[.string k.1, .int .i64 k.2] 29)
        have e1 : (wr.alloc (.cells #[.string k.1, .int .i64 k.2] 29)).cell? ⟨wr.heap.size, 0, none⟩ = some (.string k.1) := by rw [cell_of_row _ _ _ _ _ _ hhk]; rfl
        have e2 : (wr.alloc (.cells #[.string k.1, .int .i64 k.2] 29)).cell? ⟨wr.heap.size, 1, none⟩ = some (.int .i64 k.2) := by rw [cell_of_row _ _ _ _ _ _ hhk]; rfl
        have hC := fun y => hsame k hks k hks y
        have hkk : sameK k.1 k.1 k.2 k.2 = true := by rw [hkc.out]; simp
        rw [hkk] at hC
        unfold keyV at hC
        have hk := Lib.hid hk
        have hcell := Lib.hid hcell
        clear hkk hbel hhk hS
        have hbel1 := Lib.hid hbel1
        have hown2 := Lib.hid (hown.out.alloc (.cells #[.string k.1, .int .i64 k.2] 29))
        have hkb : wr.heap.size < (wr.alloc (.cells #[.string k.1, .int .i64 k.2] 29)).heap.size := by simp
        have hgk := Lib.hid ((hown.out.lt w4.heap.size rfl).2)
        go_wp2_with fail
        generalize hW : wr.alloc (.cells #[.string k.1, .int .i64 k.2] 29) = W at *
        generalize hkbn : wr.heap.size = kb at *
        clear hW hkbn hown hbel0 c1 c2
        have hS0 : W.drew.cell? ⟨kb, 0, none⟩ = some (.string k.1) ∧ W.drew.cell? ⟨kb, 1, none⟩ = some (.int .i64 k.2) ∧ W.drew.cell? ⟨b2, o2 + i * 2, none⟩ = some (.string k.1) ∧ W.drew.cell? ⟨b2, o2 + i * 2 + 1, none⟩ = some (.int .i64 k.2) ∧ Below W.heap.size W W.drew := ⟨e1, e2, c3, c4, (Below.refl _ _).drew⟩
        go_region_held3 (fun y => y.cell? ⟨kb, 0, none⟩ = some (.string k.1) ∧ y.cell? ⟨kb, 1, none⟩ = some (.int .i64 k.2) ∧ y.cell? ⟨b2, o2 + i * 2, none⟩ = some (.string k.1) ∧ y.cell? ⟨b2, o2 + i * 2 + 1, none⟩ = some (.int .i64 k.2) ∧ Below W.heap.size W y) (first | assumption | exact peek2_keep hkb hb2 (by assumption) (by assumption)) (first | (go_at_call 10; refine (hC _).out.mono ?_; rintro e y' ⟨rfl, hb⟩))
        obtain ⟨d1, d2, _, _, hbW⟩ := peek2_keep hkb hb2 hS0 hb
        have hown3 := Lib.hid (own_below hown2.out hbW)
        have hbel3 := Lib.hid (hbel1.out.trans (hbW.mono hbel1.out.size))
        have hkb3 := Lib.hid (Nat.lt_of_lt_of_le hkb hbW.size)
        have d1 := Lib.hid d1
        have d2 := Lib.hid d2
        clear hS0 e1 e2 c3 c4 hb hbW hb2 hkb hown2 hbel1 hC hZ3
        go_wp2
        go_loopw [8, 51] (fun vf vq wr2 => ∃ (q : Nat) (f : Bool) (u' : List Bool), q ≤ n ∧ vf = .bool f ∧ vq = .int .i64 (q : Int) ∧ S2 i q f u' ∧ wr2.ownsRow w4.heap.size 4 1 (.slice (some ⟨w4.heap.size, 0, none⟩) n n) n (bools u') ∧ Below w4.heap.size w4 wr2 ∧ wr2.cell? ⟨kb, 0, none⟩ = some (.string k.1) ∧ wr2.cell? ⟨kb, 1, none⟩ = some (.int .i64 k.2)) (fun _ vq _ => n - (intOf vq).toNat)
        case atStart => exact ⟨0, false, u, by omega, rfl, rfl, hS2.out, hown3.out, hbel3.out, d1.out, d2.out⟩
        case round =>
          obtain ⟨q, f, u', hq, rfl, rfl, hSN, hown, hbel, c1, c2⟩ := hrel
          clear hS2 hown3 hbel3 hkb3
          rcases Nat.lt_or_ge q n with hlt2 | hge2
          · obtain ⟨x, b, o, hx, hxs, rfl, hcl⟩ := hL2.out q hlt2
            obtain ⟨l1, l2⟩ := hcl wr hbel
            have hlt2' : (q : Int) < (n : Int) := by omega
            have hul := f2.out _ _ _ _ hSN
            obtain ⟨bq, hbq⟩ : ∃ bq, u'[q]? = some bq := ⟨u'[q]'(by omega), List.getElem?_eq_getElem (by omega)⟩
            have hxk := heap_alloc_new wr (.cells #[.string x.1, .int .i64 x.2] 29)
            have x1 : (wr.alloc (.cells #[.string x.1, .int .i64 x.2] 29)).cell? ⟨wr.heap.size, 0, none⟩ = some (.string x.1) := by rw [cell_of_row _ _ _ _ _ _ hxk]; rfl
            have x2 : (wr.alloc (.cells #[.string x.1, .int .i64 x.2] 29)).cell? ⟨wr.heap.size, 1, none⟩ = some (.int .i64 x.2) := by rw [cell_of_row _ _ _ _ _ _ hxk]; rfl
            have hbA : Below wr.heap.size wr (wr.alloc (.cells #[.string x.1, .int .i64 x.2] 29)) := (Below.refl _ _).alloc (Nat.le_refl _) _
            have hkl := cell_lt c1
            have y1 : (wr.alloc (.cells #[.string x.1, .int .i64 x.2] 29)).cell? ⟨kb, 0, none⟩ = some (.string k.1) := by rw [hbA.cell (p := ⟨kb, 0, none⟩) hkl]; exact c1
            have y2 : (wr.alloc (.cells #[.string x.1, .int .i64 x.2] 29)).cell? ⟨kb, 1, none⟩ = some (.int .i64 k.2) := by rw [hbA.cell (p := ⟨kb, 1, none⟩) hkl]; exact c2
            have hownA := hown.alloc (.cells #[.string x.1, .int .i64 x.2] 29)
            have hbelA : Below w4.heap.size w4 (wr.alloc (.cells #[.string x.1, .int .i64 x.2] 29)) := hbel.alloc hbel.size _
            have hu1 : (wr.alloc (.cells #[.string x.1, .int .i64 x.2] 29)).cell? ⟨w4.heap.size, q, none⟩ = some (.bool bq) := by
              rw [hownA.cellAt q (by omega)]; simp [bools, hbq]
            have hgk2 := hgk.out
            have hC := fun y => hsame x hxs k hks y
            have hb1 := hkc.out x k
            cases f with
            | true =>
              have hs := Lib.hid (f4.out _ _ _ hSN)
              clear hSN hC hb1 hx hcl hbq hxk hbA hown hbel
              have hownA := Lib.hid hownA
              have hbelA := Lib.hid hbelA
              go_wp2
              go_roundw
              case rel => exact ⟨q + 1, true, u', by omega, rfl, by go_num, hs.out, hownA.out, hbelA.out, y1, y2⟩
              case measure => simp [intOf]; omega
            | false =>
              obtain ⟨g1, g2⟩ := f3.out _ _ _ x k hSN hx hk.out
              cases bq with
              | true =>
                have hs := Lib.hid (g2 (fun h => by rw [h] at hbq; cases hbq))
                clear hSN hC hb1 hx hcl hbq hxk hbA hown hbel g1 g2
                have hownA := Lib.hid hownA
                have hbelA := Lib.hid hbelA
                go_wp2
                go_roundw
                case rel => exact ⟨q + 1, false, u', by omega, rfl, by go_num, hs.out, hownA.out, hbelA.out, y1, y2⟩
                case measure => simp [intOf]; omega
              | false =>
                by_cases hsm : kc x = kc k
                · have hs := Lib.hid (g1 hbq hsm)
                  have hb2 : sameK x.1 k.1 x.2 k.2 = true := by rw [hb1]; simpa using hsm
                  rw [hb2] at hC
                  unfold keyV at hC
                  have hc3 := Lib.hid hbA
                  clear hSN hb1 hb2 hx hcl hbq hxk hbA hown hbel g1 g2 hsm
                  have hownA := Lib.hid hownA
                  have hbelA := Lib.hid hbelA
                  go_wp2_with fail
                  refine (hC _).out.mono ?_
                  rintro e y' ⟨rfl, hb⟩
                  have hownB := own_below hownA.out hb
                  have hu2 : y'.cell? ⟨w4.heap.size, q, none⟩ = some (.bool false) := by rw [hb.cell (p := ⟨w4.heap.size, q, none⟩) (cell_lt hu1)]; exact hu1
                  have hu3 := hownB.frozenAt q
                  have z1 : y'.cell? ⟨kb, 0, none⟩ = some (.string k.1) := by rw [hb.cell (p := ⟨kb, 0, none⟩) (cell_lt y1)]; exact y1
                  have z2 : y'.cell? ⟨kb, 1, none⟩ = some (.int .i64 k.2) := by rw [hb.cell (p := ⟨kb, 1, none⟩) (cell_lt y2)]; exact y2
                  obtain ⟨hownC, hgC⟩ := hownB.stored q (.bool true)
                  have hne : kb ≠ w4.heap.size := by omega
                  have z3 : (y'.setCell ⟨w4.heap.size, q, none⟩ (.bool true)).cell? ⟨kb, 0, none⟩ = some (.string k.1) := by rw [World.cell?_of_block (Below.heap_setCell _ _ _ _ hne)]; exact z1
                  have z4 : (y'.setCell ⟨w4.heap.size, q, none⟩ (.bool true)).cell? ⟨kb, 1, none⟩ = some (.int .i64 k.2) := by rw [World.cell?_of_block (Below.heap_setCell _ _ _ _ hne)]; exact z2
                  have hset : bools (u'.set q true) = (bools u').set q (.bool true) := by simp [bools, List.map_set]
                  have hbelB : Below w4.heap.size w4 (y'.setCell ⟨w4.heap.size, q, none⟩ (.bool true)) := (hbelA.out.trans (hb.mono hbelA.out.size)).setCell (Nat.le_refl _) _
                  rw [← hset] at hownC
                  have hownC := Lib.hid hownC
                  have hbelB := Lib.hid hbelB
                  have z3 := Lib.hid z3
                  have z4 := Lib.hid z4
                  clear hset hgC hownB z1 z2 hb hC x1 x2 y1 y2 hu1
                  go_wp2
                  go_roundw
                  case rel => exact ⟨q + 1, true, u'.set q true, by omega, rfl, by go_num, hs.out, hownC.out, hbelB.out, z3.out, z4.out⟩
                  case measure => simp [intOf]; omega
                · have hs := Lib.hid (g2 (fun _ => hsm))
                  have hb2 : sameK x.1 k.1 x.2 k.2 = false := by rw [hb1]; simpa using hsm
                  rw [hb2] at hC
                  unfold keyV at hC
                  clear hSN hb1 hb2 hx hcl hbq hxk hbA hown hbel g1 g2 hsm
                  have hownA := Lib.hid hownA
                  have hbelA := Lib.hid hbelA
                  go_wp2_with fail
                  refine (hC _).out.mono ?_
                  rintro e y' ⟨rfl, hb⟩
                  have hownB := Lib.hid (own_below hownA.out hb)
                  have z1 : y'.cell? ⟨kb, 0, none⟩ = some (.string k.1) := by rw [hb.cell (p := ⟨kb, 0, none⟩) (cell_lt y1)]; exact y1
                  have z2 : y'.cell? ⟨kb, 1, none⟩ = some (.int .i64 k.2) := by rw [hb.cell (p := ⟨kb, 1, none⟩) (cell_lt y2)]; exact y2
                  have hbelB := Lib.hid (hbelA.out.trans (hb.mono hbelA.out.size))
                  clear hb hC x1 x2 y1 y2 hu1
                  go_wp2
                  go_roundw
                  case rel => exact ⟨q + 1, false, u', by omega, rfl, by go_num, hs.out, hownB.out, hbelB.out, z1, z2⟩
                  case measure => simp [intOf]; omega
          · obtain rfl : q = n := by omega
            obtain ⟨rfl, hS1⟩ := f5.out _ _ _ hSN hlt
            have hS1 := Lib.hid hS1
            clear hSN c1 c2
            go_wp2
            go_roundw
            case rel => exact ⟨i + 1, u', by omega, by go_num, hS1.out, hown, hbel⟩
            case measure => simp [intOf]; omega
      · obtain rfl : i = n := by omega
        go_wp2
        go_ret
        exact ⟨rfl, below_after hb4'.out hbel⟩
  · have hd : decide (fewN l ≤ 3000) = false := by simpa using hd
    rw [hd] at hF
    clear hd hN h
    go_enter Try.func3, Try.ntmps3
    go_wp2_with (first | (go_at_call 7; refine (c_awake _).mono ?_; rintro e w1 ⟨rfl, hb1⟩) | (go_at_call 8; refine (hF _ hb1).out.mono ?_; rintro e w2 ⟨rfl, hb2⟩))
    go_ret
    exact ⟨rfl, below_after hb1 hb2⟩
end Go.Proofs.Ytkbjakadngnokaa
