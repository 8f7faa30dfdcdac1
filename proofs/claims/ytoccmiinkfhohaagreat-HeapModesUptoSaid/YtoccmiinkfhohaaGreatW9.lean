/-
  Contracts: A dictionary drops a property: the walk, up to the loop. Objects and heaps. What a heap tells of an object, and what is laid into one. A heap of which one object has turned; SetProto, Shut, Fast. What a heap tells of a key. What a heap tells of a key: the walks.
-/
import Derived.Test.YtoccmiinkfhohaaGreatW8
namespace Go.Proofs.YtoccmiinkfhohaaGreat
open Go.RowKit Go.Shelf Go.Lib Go.Sort Go.Proofs Go.Maps
set_option maxHeartbeats 2000000
set_option maxRecDepth 100000

/-- a dictionary has dropped a property -/
def DropD (w : World) (f : Nat → Nat) (c db b : Nat) (l : List (KK × PV)) (w' : World) : Prop := ∃ (f' : Nat → Nat) (es' : List EN), Turn (fun x => x = c) f f' w w' ∧ SlowO w' f' c db b es' ∧ live es' = l
theorem c_SWdrop {w : World} {f : Nat → Nat} {c db b : Nat} {es : List EN} (hN : Norm f w) (h : SlowO w f c db b es) (hbb : b ≤ 100000) (k : KK) (hk : okK k) (j : Nat) (hj : idx (gk (live es)) (pk k) = some j) :
    Calls Tryz.prog 53 #[.pointer (some ⟨db, 0, none⟩), keyV k.1 k.2] w fun e w' => e = .returned (.tuple #[]) ∧ DropD w f c db b ((live es).eraseIdx j) w' := by
  obtain ⟨mb, n, g, lv, h1, h2, h3, h4, h5, h6, h7⟩ := h
  have hel : es.length ≤ 100000 := by omega
  have hnl : n ≤ 100000 := by omega
  have hP := Lib.hid (c_Hplain k hk.1)
  have hP1 := fun x (hx : okK x) => c_Hplain x hx.1
  have lm := h3.lt
  obtain ⟨i, hli⟩ : ∃ i, lidx es (pk k) = some i := by
    cases hq : lidx es (pk k) with
    | none => rw [lidx_none.1 hq] at hj; cases hj
    | some i => exact ⟨i, rfl⟩
  have hlk := look_K1 h3 (pk k) (pk_ok hk) (i : Int) (by rw [h7 _ (pk_ok hk), hli]; rfl)
  have hkey := keyOf_K (pk k) (pk_ok hk)
  have hil := lidx_lt hli
  obtain ⟨en, j', e1, e2, e3, e4, e5, e6, e7⟩ := lidx_some hli
  obtain rfl : j' = j := by rw [hj] at e4; exact (Option.some.inj e4).symm
  unfold keyV at *
  obtain ⟨k0, kn⟩ := k
  dsimp only at *
  generalize hK : pk (k0, kn) = K at *
  obtain ⟨W2, hW2⟩ : ∃ W2, w.alloc (.cells #[.string k0, .int .i64 kn] 31) = W2 := ⟨_, rfl⟩
  have hb2 : Below w.heap.size w W2 := by rw [← hW2]; exact (Below.refl _ w).alloc (Nat.le_refl _) _
  have hs2 : W2.heap.size = w.heap.size + 1 := by rw [← hW2]; simp
  have d0 : W2.heap[w.heap.size]? = some (.cells #[.string k0, .int .i64 kn] 31 (0, 0)) := by rw [← hW2]; exact heap_alloc_new w _
  have kc0 : W2.cell? ⟨w.heap.size, 0, none⟩ = some (.string k0) := by rw [cell_of_row _ _ 0 _ _ _ d0]; rfl
  have kc1 : W2.cell? ⟨w.heap.size, 1, none⟩ = some (.int .i64 kn) := by rw [cell_of_row _ _ 1 _ _ _ d0]; rfl
  have lf := heapH_lt h1.1
  have c0 : W2.cell? ⟨db, 0, none⟩ = some (.map (some mb)) := by rw [hb2.cell (p := ⟨db, 0, none⟩) lf, cell_of_row _ _ 0 _ _ _ h1.1]; rfl
  rw [← hb2.block mb lm] at hlk
  have t1 : w.heap.size < W2.heap.size := by omega
  have t2 : db < W2.heap.size := by omega
  have t3 : mb < W2.heap.size := by omega
  obtain ⟨g', cap, rfl, g1, g2⟩ := h2.1.form (by omega)
  have hg := (h2.1.lt g' rfl).2
  have ng : db ≠ g' := fun e => row_not h2.1 h1.1 (by decide) (congrArg some e.symm)
  obtain ⟨cur, hcur⟩ := row_type h2.1 (r := g') rfl
  have nm : mb ≠ g' := fun e => by
    subst e
    obtain ⟨D, ⟨es', cl, hm, _⟩, _⟩ := h3.1
    rw [hcur] at hm
    cases hm
  have ndm : db ≠ mb := fun e => by
    obtain ⟨D, ⟨es', cl, hm, _⟩, _⟩ := h3.1
    rw [← e, h1.1] at hm
    cases hm
  have p3 : (0 : Int) ≤ (i : Int) := by omega
  have p4 : (i : Int) < (es.length : Int) := by omega
  replace hs2 := Lib.hid hs2
  replace h1 := Lib.hid h1
  replace h4 := Lib.hid h4
  replace h2 := Lib.hid h2
  replace h3 := Lib.hid h3
  replace h5 := Lib.hid h5
  replace h6 := Lib.hid h6
  replace h7 := Lib.hid h7
  replace hN := Lib.hid hN
  replace e1 := Lib.hid e1
  replace e2 := Lib.hid e2
  replace e3 := Lib.hid e3
  replace e7 := Lib.hid e7
  replace hcur := Lib.hid hcur
  replace hK := Lib.hid hK
  replace d0 := Lib.hid d0
  replace hkey := Lib.hid hkey
  replace hP1 := Lib.hid hP1
  replace hli := Lib.hid hli
  clear hk e4 e5 e6 hj
  go_enter Tryz.func53, Tryz.ntmps53
  go_wp2_with fail
  go_region_held3 (fun y => (∀ a : Addr, a.block < W2.heap.size → y.cell? a = W2.cell? a) ∧ (∀ b : Nat, b < W2.heap.size → y.heap[b]? = W2.heap[b]?) ∧ Below W2.heap.size W2 y) (first | assumption | exact onto_drew W2 | exact onto_below (by assumption) (by assumption)) (first | (go_at_call 57; refine (hP.out _).mono ?_; rintro e y' ⟨rfl, hb⟩))
  have hO := onto_below (onto_drew W2) hb
  clear kc0 kc1 c0
  have hbw := hb2.trans (hO.2.2.mono hb2.size)
  have d1 : y'.heap[w.heap.size]? = some (.cells #[.string k0, .int .i64 kn] 31 (0, 0)) := (hO.2.1 _ t1).trans d0.out
  have k1 : y'.heap[db]? = some (.cells #[.map (some mb), .slice (some ⟨g', 0, none⟩) es.length cap] 97 (0, 0)) := (hbw.block db lf).trans h1.out.1
  have k2 : y'.heap[g']? = some (.cells cur 129 (0, 0)) := (hbw.block g' hg).trans hcur.out
  clear hO hb t1 t2 t3 hlk
  have c0 : y'.cell? ⟨db, 0, none⟩ = some (.map (some mb)) := by rw [cell_of_row _ _ 0 _ _ _ k1]; rfl
  have c1 : y'.cell? ⟨db, 1, none⟩ = some (.slice (some ⟨g', 0, none⟩) es.length cap) := by rw [cell_of_row _ _ 1 _ _ _ k1]; rfl
  have u15 : y'.cell? ⟨g', i * 16 + 15, none⟩ = some (.bool en.gone) := by
    have := h2.out.1.cells (g := g') rfl _ _ (flatN_get e1.out (j := 15) (v := .bool en.gone) rfl)
    rw [Addr.add_lit, Nat.zero_add] at this
    rw [World.cell?_of_block (w := w) (a := ⟨g', i * 16 + 15, none⟩) (hbw.block g' hg)]
    exact this
  have fz : ∀ o, y'.frozen? ⟨g', o, none⟩ = false := fun o => by simp [World.frozen?, k2]
  replace hbw := Lib.hid hbw
  replace k1 := Lib.hid k1
  replace k2 := Lib.hid k2
  replace d1 := Lib.hid d1
  go_wp2_with fail
  have hT1 : Turn (fun x => x = c) f f w y' := Turn.of_below _ hN.out hbw.out
  have hT0 : Turn (fun _ => False) f f w y' := Turn.of_below _ hN.out hbw.out
  have hgone := fun (w4 : World) hg hm => slow_gone (w4 := w4) (e := en) hT1 ⟨k1.out, h1.out.2⟩ (h2.out.turn hT0 id) h3.out.2 (Nat.lt_of_lt_of_le lm hbw.out.size) nm ndm h4.out h5.out h6.out h7.out e1.out e2.out e3.out e7.out hg hm
  obtain ⟨W3, hW3⟩ : ∃ W3, y'.setCell ⟨g', i * 16 + 15, none⟩ (.bool true) = W3 := ⟨_, rfl⟩
  have s3 : W3.heap.size = y'.heap.size := by rw [← hW3]; simp [World.setCell]
  have q1 : W3.heap[db]? = some (.cells #[.map (some mb), .slice (some ⟨g', 0, none⟩) es.length cap] 97 (0, 0)) := by rw [← hW3, Below.heap_setCell _ _ _ _ ng]; exact k1.out
  have q2 : W3.heap[w.heap.size]? = some (.cells #[.string k0, .int .i64 kn] 31 (0, 0)) := by rw [← hW3, Below.heap_setCell _ _ _ _ (show w.heap.size ≠ g' by omega)]; exact d1.out
  have q3 : MapG W3 31 mb n g := h3.out.1.at (by rw [← hW3, Below.heap_setCell _ _ _ _ nm]; exact hbw.out.block mb lm)
  rw [hW3] at hgone ⊢
  replace hgone := Lib.hid hgone
  have a0 : W3.cell? ⟨db, 0, none⟩ = some (.map (some mb)) := by rw [cell_of_row _ _ 0 _ _ _ q1]; rfl
  have b0 : W3.cell? ⟨w.heap.size, 0, none⟩ = some (.string k0) := by rw [cell_of_row _ _ 0 _ _ _ q2]; rfl
  have b1 : W3.cell? ⟨w.heap.size, 1, none⟩ = some (.int .i64 kn) := by rw [cell_of_row _ _ 1 _ _ _ q2]; rfl
  have r1 := heapH_lt q1
  have r2 := heapH_lt q2
  have hm2 := butV_start (kl := klK K) q3
  have r3 : w.heap.size ≠ mb := by omega
  clear hW3 hT1 hT0 c0 c1 u15 fz q1 q2 q3 s3
  go_region_held3 (fun y => ((∀ a : Addr, a.block < W3.heap.size → a.block ≠ mb → y.cell? a = W3.cell? a) ∧ W3.grownBy y (some mb)) ∧ MapV y 31 mb n g (klK K) ∧ mb < W3.heap.size) (first | assumption | exact hm2 | exact butV_below (by assumption) (by assumption) | exact butV_turn (by assumption) (by assumption) (by assumption)) (first | (go_at_call 57; refine (hP.out _).mono ?_; rintro e y2 ⟨rfl, hb⟩) | (refine step_del rfl _ _ _ _ rfl lawKey Tryz.underlying94 mb n g rfl _ _ rfl hkey.out (And.left (And.right (by assumption))) ?_; intro w4 hm4 ht4))
  have hbT := butV_turn (butV_below hm2 hb) hm4 ht4
  obtain ⟨f2, T4, S4⟩ := hgone.out w4 hbT.1.2 hm4
  have hl4 := e7.out
  obtain ⟨es2, hes2⟩ : ∃ es2, es.set i { en with gone := true } = es2 := ⟨_, rfl⟩
  rw [hes2] at S4 hl4
  replace T4 := Lib.hid T4
  replace hl4 := Lib.hid hl4
  clear hbT hm4 ht4 hb hm2 a0 b0 b1 r1 r2 r3 h1 h2 h3 h4 h5 h6 h7 e1 e2 e3 e7 hgone hes2 hN hcur hP hkey hli hbw k1 k2 d1 nm ndm p3 p4 hil ng lm lf hg g1 g2 hel hnl
  obtain ⟨mb, n, g, lv, h1, h2, h3, h4, h5, h6, h7⟩ := S4
  have hlf : ∃ q cp, lv = .slice q es2.length cp := by
    rcases h2.1.2 with ⟨e, h⟩ | ⟨g, cap, cur, e, _⟩
    · rw [h]; exact ⟨_, _, e⟩
    · exact ⟨_, _, e⟩
  obtain ⟨q, cp, rfl⟩ := hlf
  have a0 : w4.cell? ⟨db, 0, none⟩ = some (.map (some mb)) := by rw [cell_of_row _ _ 0 _ _ _ h1.1]; rfl
  have a1 : w4.cell? ⟨db, 1, none⟩ = some (.slice q es2.length cp) := by rw [cell_of_row _ _ 1 _ _ _ h1.1]; rfl
  have f1 : w4.frozen? ⟨db, 1, none⟩ = false := by simp [World.frozen?, h1.1]
  obtain ⟨sz, hsz, hlen⟩ := len_of h3.1 Tryz.underlying94
  have lm4 := h3.lt
  have lf4 := heapH_lt h1.1
  have hel2 := h4.2
  replace h1 := Lib.hid h1
  replace h2 := Lib.hid h2
  replace h3 := Lib.hid h3
  replace h4 := Lib.hid h4
  replace h5 := Lib.hid h5
  replace h6 := Lib.hid h6
  replace h7 := Lib.hid h7
  go_wp2_with fail
  by_cases hsm : es2.length < 16
  · have hsm' : decide ((es2.length : Int) < 16) = true := decide_eq_true (by omega)
    go_quiet (fail)
    go_wp2
    refine bodyPost_ret (results_none rfl _ _ _) rfl ?_
    exact ⟨rfl, f2, es2, T4.out.then (below_drewN (Below.refl _ w4) _), SlowO.turn ⟨mb, n, g, _, h1.out, h2.out, h3.out, h4.out, h5.out, h6.out, h7.out⟩ (Turn.of_below (fun _ => False) T4.out.norm (below_drewN (Below.refl _ w4) _)) id, hl4.out⟩
  · have hsm' : decide ((es2.length : Int) < 16) = false := decide_eq_false (by omega)
    have hst := Lib.hid (DropI.start h3.out.1 h7.out)
    obtain ⟨i0, hi0, hz0, hz1, hz2⟩ := info_parts infoEntry
    obtain ⟨m2, hm2⟩ : ∃ m2, IntKind.i64.wrap ((es2.length : Int) / 2) = m2 := ⟨_, rfl⟩
    cases hbq : decide (m2 < (sz : Int)) with
    | true =>
      go_region_held3 (fun y => (∀ a : Addr, a.block < w4.heap.size → y.cell? a = w4.cell? a) ∧ (∀ b : Nat, b < w4.heap.size → y.heap[b]? = w4.heap[b]?) ∧ Below w4.heap.size w4 y) (first | assumption | exact onto_drew w4) (fail)
      go_wp2
      refine bodyPost_ret (results_none rfl _ _ _) rfl ?_
      exact ⟨rfl, f2, es2, T4.out.drew, SlowO.turn ⟨mb, n, g, _, h1.out, h2.out, h3.out, h4.out, h5.out, h6.out, h7.out⟩ (Turn.of_below (fun _ => False) T4.out.norm (Below.refl _ w4).drew) id, hl4.out⟩
    | false =>
      go_region_held3 (fun y => (∀ a : Addr, a.block < w4.heap.size → y.cell? a = w4.cell? a) ∧ (∀ b : Nat, b < w4.heap.size → y.heap[b]? = w4.heap[b]?) ∧ Below w4.heap.size w4 y) (first | assumption | exact onto_drew w4) (fail)
      go_wp2
      clear hlen hsz hbq hm2
      generalize w4.drew = wd at *
      go_loopw [5, 53] (fun v vi wr => ∃ i : Nat, i ≤ es2.length ∧ vi = .int .i64 (i : Int) ∧ DropI w4 mb n es2 i v wr) (fun _ vi _ => es2.length - (intOf vi).toNat)
      case atStart => exact ⟨0, by omega, rfl, hst.out⟩
      case round =>
        obtain ⟨i, hi, rfl, hD⟩ := hrel
        obtain ⟨p5, c5, rfl⟩ := own_slice hD.1.1
        rcases Nat.lt_or_ge i es2.length with hlt | hge
        · obtain ⟨⟨hown, hbu⟩, gi, hmi, hgi⟩ := hD
          obtain ⟨g', cap, heq, g1, g2⟩ := h2.out.1.form (by omega)
          injection heq with e1 e2 e3
          subst e1
          subst e3
          clear e2
          obtain ⟨en, hen⟩ : ∃ en, es2[i]? = some en := ⟨_, List.getElem?_eq_getElem hlt⟩
          have hgm : g' ≠ mb := fun e => by
            obtain ⟨cur, hc⟩ := row_type h2.out.1 (r := g') rfl
            obtain ⟨D, ⟨es', cl, hm, _⟩, _⟩ := h3.out.1
            rw [← e, hc] at hm
            cases hm
          have ndm : db ≠ mb := fun e => by
            obtain ⟨D, ⟨es', cl, hm, _⟩, _⟩ := h3.out.1
            rw [← e, h1.out.1] at hm
            cases hm
          have hrg := range_at (rangeE h2.out.1 hen) (hbu.block g' g2 (fun e => hgm (Option.some.inj e)))
          have k1 : wr.heap[db]? = some (.cells #[.map (some mb), .slice (some ⟨g', 0, none⟩) es2.length cp] 97 (0, 0)) := (hbu.block db lf4 (fun e => ndm (Option.some.inj e))).trans h1.out.1
          have hi16 : (Tryz.prog.info? 129).map (·.size) = some (encN en).length := infoEntryS
          have hj16 : (Tryz.prog.info? 129).map (·.size) = some (encN en).toArray.size := infoEntryS
          have ho16 := all_oneCell_toArray (encN_one en)
          have hon := encN_one en
          have hl16 : (encN en).length = 1 * 16 := rfl
          have q1 : (0 : Int) ≤ (i : Int) := by omega
          have q2 : (i : Int) < (es2.length : Int) := by omega
          have hfs := fresh_cells (w := wr) en
          have hfb := (fresh_set (w := wr) (o := zeroN) (t := 129) (vs := encN en) rfl).2.1
          have hth : (wr.alloc (.cells zeroN 129)).there wr.heap.size 0 (encN en).toArray.size := zeroN_there wr
          have hal := alive_len (es2.take i)
          have hlt2 : (es2.take i).length ≤ i := List.length_take_le _ _
          have hsz := hbu.size
          have hok := h5.out en (List.mem_of_getElem? hen)
          have hlm := hmi.lt
          have tokA : True := trivial
          have tokB : True := trivial
          cases hgn : en.gone with
          | true =>
            have hsk := fun y hb => DropI.skip (y := y) ⟨⟨hown, hbu⟩, gi, hmi, hgi⟩ hen hgn hb
            rw [hgn] at hfs
            replace hsk := Lib.hid hsk
            replace hfs := Lib.hid hfs
            replace hfb := Lib.hid hfb
            replace hgn := Lib.hid hgn
            replace hen := Lib.hid hen
            generalize encN en = E at *
            clear k1 hown hbu hmi hgi hon hl16 hok
            go_wp2_with (first | (clear tokA; refine wpList_load_mid rfl 129 (.tmp 55) rfl g' (i * 16) rfl E _ hrg Tryz.underlying129 rfl hi16 ?_) | (clear tokB; refine wpList_store_mid rfl 129 (.tmp 7) (.tmp 56) rfl wr.heap.size 0 E.toArray rfl rfl hth hj16 ho16 ?_; obtain ⟨hb4, d0, d1, d2⟩ := hfs.out; generalize hW4 : World.setCells _ _ _ _ = W4; rw [show (wr.alloc (.cells zeroN 129)).setCells wr.heap.size 0 E = W4 from hW4] at hb4 d0 d1 d2; clear hW4 hth hrg; replace hb4 := Lib.hid hb4))
            go_roundw
            case rel => exact ⟨i + 1, by omega, by go_num, hsk.out _ hb4.out⟩
            case measure => simp [intOf]; omega
          | false =>
            have hP2 := hP1.out en.k hok
            have hfold := fold_encN en
            have hE16 : (encN en).length = 16 := rfl
            have hi1 : ∃ z, mixI es2 i (pk en.k) = some z := by
              unfold mixI
              cases idx (gk (live (es2.take i))) (pk en.k) with
              | some z => exact ⟨z, rfl⟩
              | none => exact Option.isSome_iff_exists.1 (lidx_has hen hgn)
            obtain ⟨Um, hU⟩ := store_X lawKey Tryz.underlying94 (b := mb) (n := n) (g := gi) (keyOf_K (pk en.k) (pk_ok hok)) (isKey_klK _) (v := ((alive (es2.take i)).length : Int)) (WalkArith.wf_i64 (by omega)) (by have := h4.out; unfold maxLen; omega) (by obtain ⟨z, hz⟩ := hi1; rw [hgi _ (pk_ok hok), hz]; rfl)
            have hstp := fun (W4 y w5 : World) (v' : Value) (o : Obj) hb hgr hm hg5 hown5 => DropI.step (n := n) (W4 := W4) (y := y) (w5 := w5) (v' := v') (o := o) hown hbu hgi hen hgn h6.out hok h3.lt hb hgr hm hg5 hown5
            rw [hgn] at hfs
            have hUr := fun y h => (hU y h).1
            have hUt := Lib.hid (fun y h => (hU y h).2)
            have hm1 : (alive (es2.take i)).length + 1 ≤ maxLen ∧ ((alive (es2.take i)).length + 1) * 160 ≤ 140737488355328 := by unfold maxLen; omega
            have hown' := Lib.hid hown
            have hsv : w4.heap.size ≤ wr.heap.size := hbu.size
            obtain ⟨⟨ek0, ekn⟩, ep, egn⟩ := en
            unfold keyV at hUr
            dsimp only at *
            generalize pk (ek0, ekn) = EK at *
            generalize encN ⟨(ek0, ekn), ep, egn⟩ = E at *
            generalize (alive (es2.take i)).length = m5 at *
            generalize flatN (alive (es2.take i)) = F5 at *
            replace hstp := Lib.hid hstp
            replace hfs := Lib.hid hfs
            replace hfb := Lib.hid hfb
            replace hgn := Lib.hid hgn
            replace hen := Lib.hid hen
            replace hP2 := Lib.hid hP2
            replace hUr := Lib.hid hUr
            replace hm1 := Lib.hid hm1
            replace k1 := Lib.hid k1
            replace hmi := Lib.hid hmi
            replace hon := Lib.hid hon
            replace hl16 := Lib.hid hl16
            clear hown hgi hok hi1 hU hal hlt2 hbu
            go_wp2_with (first | (clear tokA; refine wpList_load_mid rfl 129 (.tmp 55) rfl g' (i * 16) rfl E _ hrg Tryz.underlying129 rfl hi16 ?_) | (clear tokB; refine wpList_store_mid rfl 129 (.tmp 7) (.tmp 56) rfl wr.heap.size 0 E.toArray rfl rfl hth hj16 ho16 ?_; obtain ⟨hb4, d0, d1, d2⟩ := hfs.out; have d3 := hfb.out; generalize hW4 : World.setCells _ _ _ _ = W4; rw [show (wr.alloc (.cells zeroN 129)).setCells wr.heap.size 0 E = W4 from hW4] at hb4 d0 d1 d2 d3; clear hW4 hth hrg; replace hb4 := Lib.hid hb4; replace d3 := Lib.hid d3))
            have k2 : W4.heap[db]? = some (.cells #[.map (some mb), .slice (some ⟨g', 0, none⟩) es2.length cp] 97 (0, 0)) := (hb4.out.block db (Nat.lt_of_lt_of_le lf4 hsv)).trans k1.out
            have c0 : W4.cell? ⟨db, 0, none⟩ = some (.map (some mb)) := by rw [cell_of_row _ _ 0 _ _ _ k2]; rfl
            have hm2 := butX_start (kl := klK EK) (v := (m5 : Int)) (hmi.out.at (hb4.out.block mb hlm))
            have r1 := heapH_lt k2
            have r2 := heapH_lt d3.out
            have r3 : wr.heap.size ≠ mb := by omega
            have hUr2 := hUr.out
            have r4 : (0 : Int) ≤ (m5 : Int) := by omega
            clear d2
            go_region_held3 (fun y => ((∀ a : Addr, a.block < W4.heap.size → a.block ≠ mb → y.cell? a = W4.cell? a) ∧ W4.grownBy y (some mb)) ∧ MapX y 31 mb n gi (klK EK) (m5 : Int) ∧ mb < W4.heap.size) (first | assumption | exact hm2 | exact butX_below (by assumption) (by assumption) | exact butX_turn (by assumption) (hUt.out _ (And.left (And.right (by assumption))))) (first | (go_at_call 57; refine (hP2.out _).mono ?_; rintro e y2 ⟨rfl, hb⟩))
            have hbX := butX_below hm2 hb
            have hbT := butX_turn hbX (hUt.out _ hbX.2.1)
            have hfin := (hUt.out y2 hbX.2.1).1
            have hg5 := hbT.1.2
            generalize Um y2 = y5 at *
            have d5 : y5.heap[wr.heap.size]? = some (.cells E.toArray 129 (0, 0)) := (hg5.block _ r2 (fun e => r3 (Option.some.inj e))).trans d3.out
            have hr5 : y5.rangeAt wr.heap.size 0 E := fun j v hv => by rw [cell_of_row _ _ (0 + j) _ _ _ d5]; simpa using hv
            have nv : ∀ r, (Value.slice p5 m5 c5).ownBlock = some r → r < w4.heap.size → False := fun r hr hlt => by have := (hown'.out.lt r hr).1; omega
            have hown5 : y5.ownsRow w4.heap.size 129 16 (.slice p5 m5 c5) m5 F5 := own_at hown'.out fun r hr => by
              have hl := hown'.out.lt r hr
              rw [hg5.block r (Nat.lt_of_lt_of_le hl.2 hb4.out.size) (fun e => by have := Option.some.inj e; have := h3.out.lt; omega)]
              exact hb4.out.block r hl.2
            have hsz5 : w4.heap.size ≤ y5.heap.size := Nat.le_trans hsv (Nat.le_trans hb4.out.size hg5.size)
            have hstp2 := fun (w5 : World) (v' : Value) (o : Obj) hq5 hown6 => hstp.out W4 y5 w5 v' o hb4.out hg5 hfin hq5 hown6
            replace hstp2 := Lib.hid hstp2
            replace d5 := Lib.hid d5
            replace hfin := Lib.hid hfin
            have tokC : True := trivial
            clear hbX hbT hb hUr hUt hUr2 hm2 c0 d0 d1 r1 r2 hg5 k2
            go_wp2_with (first | (clear tokC; refine wpList_load_mid rfl 129 (.tmp 7) rfl wr.heap.size 0 rfl E _ hr5 Tryz.underlying129 rfl hi16 ?_) | (at_builtin; refine wpList_append_lies _ (by rfl) _ _ _ (by rfl) w4.heap.size 129 i0 _ 16 160 Tryz.underlying95 hi0 hz0 hz1 hz2 rfl (by omega) (.slice p5 m5 c5) m5 F5 (by rfl) (hown5.alloc _) ⟨_, 0, none⟩ 1 1 E (by rfl) hl16.out (World.news_of_block (cs := E.toArray) (t := 129) (fr := (0, 0)) (by exact heap_alloc_new _ _)) hon.out (by omega) hm1.out.1 hm1.out.2 (by simp; omega) _ rfl ?_; intro gg cap w7 hown7 hgrow hat hlt7; have hfin2 := Lib.hid (hstp2.out _ _ _ hgrow hown7); clear hgrow hat hlt7 hown7))
            go_roundw
            case rel => exact ⟨i + 1, by omega, by go_num, hfin2.out⟩
            case measure => simp [intOf]; omega
        · obtain rfl : i = es2.length := by omega
          obtain ⟨f3, T5, S5⟩ := DropI.done T4.out.norm h1.out h3.out h4.out h5.out h6.out hD
          have ndm : db ≠ mb := fun e => by
            obtain ⟨D, ⟨es', cl, hm, _⟩, _⟩ := h3.out.1
            rw [← e, h1.out.1] at hm
            cases hm
          have k1 : wr.heap[db]? = some (.cells #[.map (some mb), .slice q es2.length cp] 97 (0, 0)) := (hD.1.2.block db lf4 (fun e => ndm (Option.some.inj e))).trans h1.out.1
          have c1 : wr.cell? ⟨db, 1, none⟩ = some (.slice q es2.length cp) := by rw [cell_of_row _ _ 1 _ _ _ k1]; rfl
          have f1 : wr.frozen? ⟨db, 1, none⟩ = false := by simp [World.frozen?, k1]
          replace hD := Lib.hid hD
          replace k1 := Lib.hid k1
          replace T5 := Lib.hid T5
          replace S5 := Lib.hid S5
          go_wp2
          go_end0
          exact ⟨rfl, f3, alive es2, by have := T4.out.trans T5.out; rwa [List.take_length] at this, by have := S5.out; rwa [List.take_length] at this, by rw [live_alive]; exact hl4.out⟩
end Go.Proofs.YtoccmiinkfhohaaGreat
namespace Go.Proofs.YtoccmiinkfhohaaGreat
open Go.RowKit Go.Shelf Go.Lib Go.Sort Go.Proofs Go.Maps
set_option maxHeartbeats 2000000
set_option maxRecDepth 100000

/-- an object, as it tells itself -/
structure OB where
  cls : Int
  pro : Int
  shut : Bool
  fast : Bool
  l : List (KK × PV)
def ptrV (b : Nat) : Value := .pointer (some ⟨b, 0, none⟩)
/-- how an object keeps its properties -/
def ModeO (w : World) (f : Nat → Nat) (c : Nat) (L : List (List KK)) (B : Nat) (mv : Value) (fast : Bool) (l : List (KK × PV)) : Prop :=
  (fast = true ∧ ∃ fb ks ps, mv = .iface 85 (ptrV fb) ∧ FastO w f c fb L ks ps ∧ ks.length ≤ 128 ∧ l = ks.zip ps) ∨
  (fast = false ∧ ∃ db es, mv = .iface 93 (ptrV db) ∧ SlowO w f c db B es ∧ l = live es)
theorem ModeO.keep {C : Nat → Prop} {f f' : Nat → Nat} {w w' : World} {c B B' : Nat} {L L' : List (List KK)} {mv : Value} {fast : Bool} {l : List (KK × PV)} (h : ModeO w f c L B mv fast l) (ht : Turn C f f' w w') (hc : ¬ C c) (hL : ∀ (i : Nat) ks, L[i]? = some ks → L'[i]? = some ks) (hB : B ≤ B') : ModeO w' f' c L' B' mv fast l := by
  rcases h with ⟨h1, fb, ks, ps, h2, h3, h4⟩ | ⟨h1, db, es, h2, h3, h4⟩
  · exact .inl ⟨h1, fb, ks, ps, h2, h3.turn ht hc hL, h4⟩
  · exact .inr ⟨h1, db, es, h2, (h3.turn ht hc).mono hB, h4⟩
/-- an object in memory -/
def ObjO (w : World) (f : Nat → Nat) (c ob : Nat) (L : List (List KK)) (B : Nat) (a : OB) : Prop :=
  ∃ (many : Int) (mv : Value), (w.heap[ob]? = some (.cells #[.int .i64 a.cls, .int .i64 a.pro, .bool a.shut, .int .i64 many, mv] 92 (0, 0)) ∧ f ob = c + 1) ∧ ModeO w f c L B mv a.fast a.l
theorem ObjO.keep {C : Nat → Prop} {f f' : Nat → Nat} {w w' : World} {c ob B B' : Nat} {L L' : List (List KK)} {a : OB} (h : ObjO w f c ob L B a) (ht : Turn C f f' w w') (hc : ¬ C c) (hc1 : ¬ C (c + 1)) (hL : ∀ (i : Nat) ks, L[i]? = some ks → L'[i]? = some ks) (hB : B ≤ B') : ObjO w' f' c ob L' B' a := by
  obtain ⟨many, mv, h1, h2⟩ := h
  exact ⟨many, mv, blk_turn h1 ht hc1, h2.keep ht hc hL hB⟩
/-- the cells that are taken -/
def usedH (H : List OB) : Nat := H.length + (H.map fun a => a.l.length).sum
def objRow (obs : List Nat) : List Value := .pointer none :: obs.map ptrV
theorem objRow_len (obs : List Nat) : (objRow obs).length = obs.length + 1 := by simp [objRow]
theorem objRow_get {obs : List Nat} {i ob : Nat} (h : obs[i]? = some ob) : (objRow obs)[i + 1]? = some (ptrV ob) := by simp [objRow, h]
/-- a heap -/
def HeapO (w : World) (f : Nat → Nat) (hb : Nat) (lim : Int) (u B : Nat) (H : List OB) : Prop :=
  ∃ (tb : Nat) (L : List (List KK)) (rv : Value) (obs : List Nat), (w.heap[hb]? = some (.cells #[.int .i64 1, .int .i64 lim, .int .i64 (u : Int), ptrV tb, rv] 66 (0, 0)) ∧ f hb = 1) ∧ (TreeO w f tb L ∧ L.length ≤ B) ∧
    RowO w f 2 84 1 rv (H.length + 1) (objRow obs) ∧ (obs.length = H.length ∧ L[0]? = some []) ∧ ∀ (i : Nat) a, H[i]? = some a → ∃ ob, obs[i]? = some ob ∧ ObjO w f (10 + 2 * i) ob L B a
theorem HeapO.turn {C : Nat → Prop} {f f' : Nat → Nat} {w w' : World} {hb B u : Nat} {lim : Int} {H : List OB} (h : HeapO w f hb lim u B H) (ht : Turn C f f' w w') (hC : ∀ c, C c → c = 0) : HeapO w' f' hb lim u B H := by
  obtain ⟨tb, L, rv, obs, h1, h2, h3, h4, h5⟩ := h
  have hn : ∀ c, 0 < c → ¬ C c := fun c hc h => by have := hC c h; omega
  exact ⟨tb, L, rv, obs, blk_turn h1 ht (hn _ (by omega)), ⟨h2.1.turn ht (hn _ (by omega)) (hn _ (by omega)) (hn _ (by omega)) (hn _ (by omega)), h2.2⟩, h3.turn ht (hn _ (by omega)), h4, fun i a hi => by
    obtain ⟨ob, q1, q2⟩ := h5 i a hi
    exact ⟨ob, q1, q2.keep ht (hn _ (by omega)) (hn _ (by omega)) (fun _ _ h => h) (Nat.le_refl _)⟩⟩
theorem HeapO.below {f : Nat → Nat} {w w' : World} {hb B u : Nat} {lim : Int} {H : List OB} (h : HeapO w f hb lim u B H) (hN : Norm f w) (hb' : Below w.heap.size w w') : HeapO w' f hb lim u B H := h.turn (Turn.of_below (fun _ => False) hN hb') (fun _ h => h.elim)
/-- a heap's cells -/
theorem HeapO.form {f : Nat → Nat} {w : World} {hb B u : Nat} {lim : Int} {H : List OB} (h : HeapO w f hb lim u B H) :
    ∃ rb c tb, w.cell? ⟨hb, 0, none⟩ = some (.int .i64 1) ∧ w.cell? ⟨hb, 1, none⟩ = some (.int .i64 lim) ∧ w.cell? ⟨hb, 2, none⟩ = some (.int .i64 (u : Int)) ∧ w.cell? ⟨hb, 3, none⟩ = some (ptrV tb) ∧ w.cell? ⟨hb, 4, none⟩ = some (.slice (some ⟨rb, 0, none⟩) (H.length + 1) c) ∧ hb < w.heap.size ∧ rb < w.heap.size ∧
      ∀ (i : Nat) a, H[i]? = some a → ∃ ob many mv, w.cell? ⟨rb, i + 1, none⟩ = some (.pointer (some ⟨ob, 0, none⟩)) ∧ ob < w.heap.size ∧ w.heap[ob]? = some (.cells #[.int .i64 a.cls, .int .i64 a.pro, .bool a.shut, .int .i64 many, mv] 92 (0, 0)) := by
  obtain ⟨tb, L, rv, obs, h1, h2, h3, h4, h5⟩ := h
  obtain ⟨rb, c, rfl, _, hlt⟩ := h3.1.form (by omega)
  have hc := h3.1.cells (g := rb) rfl
  refine ⟨rb, c, tb, ?_, ?_, ?_, ?_, ?_, heapH_lt h1.1, hlt, fun i a hi => ?_⟩
  · rw [cell_of_row _ _ 0 _ _ _ h1.1]; rfl
  · rw [cell_of_row _ _ 1 _ _ _ h1.1]; rfl
  · rw [cell_of_row _ _ 2 _ _ _ h1.1]; rfl
  · rw [cell_of_row _ _ 3 _ _ _ h1.1]; rfl
  · rw [cell_of_row _ _ 4 _ _ _ h1.1]; rfl
  · obtain ⟨ob, q1, many, mv, q2, _⟩ := h5 i a hi
    have := hc (i + 1) _ (objRow_get q1)
    rw [Addr.add_lit, Nat.zero_add] at this
    exact ⟨ob, many, mv, this, heapH_lt q2.1, q2.1⟩
/-- is there such an object? -/
def hasH (H : List OB) (o : Int) : Bool := decide (0 < o) && decide (o < ((H.length + 1 : Nat) : Int))
theorem c_HHas {w : World} {f : Nat → Nat} {hb B u : Nat} {lim : Int} {H : List OB} (h : HeapO w f hb lim u B H) (o : Int) :
    Calls Tryz.prog 35 #[ptrV hb, .int .i64 o] w fun e w' => e = .returned (.bool (hasH H o)) ∧ w' = w := by
  obtain ⟨rb, c, tb, c0, c1, c2, c3, c4, l1, l2, _⟩ := h.form
  unfold ptrV at *
  cases h1 : decide (0 < o) with
  | false =>
    have e : hasH H o = false := by unfold hasH; rw [h1]; rfl
    rw [e]
    go_enter Tryz.func35, Tryz.ntmps35
    go_wp2
    go_ret
    exact ⟨rfl, rfl⟩
  | true =>
    have e : hasH H o = decide (o < ((H.length + 1 : Nat) : Int)) := by unfold hasH; rw [h1]; rfl
    rw [e]
    clear e
    generalize H.length + 1 = n at *
    go_enter Tryz.func35, Tryz.ntmps35
    go_wp2
    go_ret
    exact ⟨rfl, rfl⟩
end Go.Proofs.YtoccmiinkfhohaaGreat
namespace Go.Proofs.YtoccmiinkfhohaaGreat
open Go.RowKit Go.Shelf Go.Lib Go.Sort Go.Proofs Go.Maps
set_option maxHeartbeats 2000000
set_option maxRecDepth 100000

theorem hasH_of {H : List OB} {o : Nat} {a : OB} (h0 : 0 < o) (h : H[o - 1]? = some a) : hasH H (o : Int) = true := by
  have := (List.getElem?_eq_some_iff.1 h).1
  unfold hasH
  simp; omega
/-- an object's cells -/
theorem HeapO.obj {f : Nat → Nat} {w : World} {hb B u : Nat} {lim : Int} {H : List OB} (h : HeapO w f hb lim u B H) {o : Nat} {a : OB} (h0 : 0 < o) (ha : H[o - 1]? = some a) :
    ∃ rb c ob many mv n, w.cell? ⟨hb, 4, none⟩ = some (.slice (some ⟨rb, 0, none⟩) n c) ∧ (0 : Int) ≤ (o : Int) ∧ (o : Int) < (n : Int) ∧ w.cell? ⟨rb, o, none⟩ = some (.pointer (some ⟨ob, 0, none⟩)) ∧
      w.cell? ⟨ob, 0, none⟩ = some (.int .i64 a.cls) ∧ w.cell? ⟨ob, 1, none⟩ = some (.int .i64 a.pro) ∧ w.cell? ⟨ob, 2, none⟩ = some (.bool a.shut) ∧ w.cell? ⟨ob, 3, none⟩ = some (.int .i64 many) ∧ w.cell? ⟨ob, 4, none⟩ = some mv ∧ (∀ j, w.frozen? ⟨ob, j, none⟩ = false) ∧ (hb < w.heap.size ∧ rb < w.heap.size ∧ ob < w.heap.size) := by
  obtain ⟨rb, c, tb, c0, c1, c2, c3, c4, l1, l2, l3⟩ := h.form
  obtain ⟨ob, many, mv, q1, q2, q3⟩ := l3 (o - 1) a ha
  have e : o - 1 + 1 = o := by omega
  rw [e] at q1
  have := (List.getElem?_eq_some_iff.1 ha).1
  refine ⟨rb, c, ob, many, mv, _, c4, by omega, by omega, q1, ?_, ?_, ?_, ?_, ?_, fun j => by simp [World.frozen?, q3], l1, l2, q2⟩
  · rw [cell_of_row _ _ 0 _ _ _ q3]; rfl
  · rw [cell_of_row _ _ 1 _ _ _ q3]; rfl
  · rw [cell_of_row _ _ 2 _ _ _ q3]; rfl
  · rw [cell_of_row _ _ 3 _ _ _ q3]; rfl
  · rw [cell_of_row _ _ 4 _ _ _ q3]; rfl
theorem c_HClass0 {w : World} {f : Nat → Nat} {hb B u : Nat} {lim : Int} {H : List OB} (h : HeapO w f hb lim u B H) (o : Int) (ho : hasH H o = false) :
    Calls Tryz.prog 36 #[ptrV hb, .int .i64 o] w fun e w' => e = .returned (.int .i64 0) ∧ w' = w := by
  have hH := c_HHas h o
  rw [ho] at hH
  replace hH := Lib.hid hH
  clear h ho
  go_enter Tryz.func36, Tryz.ntmps36
  go_wp2_with (go_at_call 35; refine hH.out.mono ?_; rintro e w1 ⟨rfl, rfl⟩)
  go_ret
  exact ⟨rfl, rfl⟩
theorem c_HClass1 {w : World} {f : Nat → Nat} {hb B u : Nat} {lim : Int} {H : List OB} (h : HeapO w f hb lim u B H) (o : Nat) (a : OB) (h0 : 0 < o) (ho : H[o - 1]? = some a) :
    Calls Tryz.prog 36 #[ptrV hb, .int .i64 (o : Int)] w fun e w' => e = .returned (.int .i64 a.cls) ∧ w' = w := by
  have hH := c_HHas h (o : Int)
  rw [hasH_of h0 ho] at hH
  obtain ⟨rb, c, ob, many, mv, n, c4, p1, p2, q0, q1, q2, q3, q4, q5, _, _⟩ := h.obj h0 ho
  unfold ptrV at *
  replace hH := Lib.hid hH
  clear h ho
  go_enter Tryz.func36, Tryz.ntmps36
  go_wp2_with (go_at_call 35; refine hH.out.mono ?_; rintro e w1 ⟨rfl, rfl⟩)
  go_ret
  exact ⟨rfl, rfl⟩
theorem c_HProto0 {w : World} {f : Nat → Nat} {hb B u : Nat} {lim : Int} {H : List OB} (h : HeapO w f hb lim u B H) (o : Int) (ho : hasH H o = false) :
    Calls Tryz.prog 38 #[ptrV hb, .int .i64 o] w fun e w' => e = .returned (.int .i64 0) ∧ w' = w := by
  have hH := c_HHas h o
  rw [ho] at hH
  replace hH := Lib.hid hH
  clear h ho
  go_enter Tryz.func38, Tryz.ntmps38
  go_wp2_with (go_at_call 35; refine hH.out.mono ?_; rintro e w1 ⟨rfl, rfl⟩)
  go_ret
  exact ⟨rfl, rfl⟩
theorem c_HProto1 {w : World} {f : Nat → Nat} {hb B u : Nat} {lim : Int} {H : List OB} (h : HeapO w f hb lim u B H) (o : Nat) (a : OB) (h0 : 0 < o) (ho : H[o - 1]? = some a) :
    Calls Tryz.prog 38 #[ptrV hb, .int .i64 (o : Int)] w fun e w' => e = .returned (.int .i64 a.pro) ∧ w' = w := by
  have hH := c_HHas h (o : Int)
  rw [hasH_of h0 ho] at hH
  obtain ⟨rb, c, ob, many, mv, n, c4, p1, p2, q0, q1, q2, q3, q4, q5, _, _⟩ := h.obj h0 ho
  unfold ptrV at *
  replace hH := Lib.hid hH
  clear h ho
  go_enter Tryz.func38, Tryz.ntmps38
  go_wp2_with (go_at_call 35; refine hH.out.mono ?_; rintro e w1 ⟨rfl, rfl⟩)
  go_ret
  exact ⟨rfl, rfl⟩
theorem c_HOpen0 {w : World} {f : Nat → Nat} {hb B u : Nat} {lim : Int} {H : List OB} (h : HeapO w f hb lim u B H) (o : Int) (ho : hasH H o = false) :
    Calls Tryz.prog 40 #[ptrV hb, .int .i64 o] w fun e w' => e = .returned (.bool false) ∧ w' = w := by
  have hH := c_HHas h o
  rw [ho] at hH
  replace hH := Lib.hid hH
  clear h ho
  go_enter Tryz.func40, Tryz.ntmps40
  go_wp2_with (go_at_call 35; refine hH.out.mono ?_; rintro e w1 ⟨rfl, rfl⟩)
  go_ret
  exact ⟨rfl, rfl⟩
theorem c_HOpen1 {w : World} {f : Nat → Nat} {hb B u : Nat} {lim : Int} {H : List OB} (h : HeapO w f hb lim u B H) (o : Nat) (a : OB) (h0 : 0 < o) (ho : H[o - 1]? = some a) :
    Calls Tryz.prog 40 #[ptrV hb, .int .i64 (o : Int)] w fun e w' => e = .returned (.bool (!a.shut)) ∧ w' = w := by
  have hH := c_HHas h (o : Int)
  rw [hasH_of h0 ho] at hH
  obtain ⟨rb, c, ob, many, mv, n, c4, p1, p2, q0, q1, q2, q3, q4, q5, _, _⟩ := h.obj h0 ho
  unfold ptrV at *
  replace hH := Lib.hid hH
  clear h ho
  go_enter Tryz.func40, Tryz.ntmps40
  go_wp2_with (go_at_call 35; refine hH.out.mono ?_; rintro e w1 ⟨rfl, rfl⟩)
  go_ret
  exact ⟨rfl, rfl⟩
theorem c_HUsed {w : World} {f : Nat → Nat} {hb B u : Nat} {lim : Int} {H : List OB} (h : HeapO w f hb lim u B H) :
    Calls Tryz.prog 21 #[ptrV hb] w fun e w' => e = .returned (.int .i64 (u : Int)) ∧ w' = w := by
  obtain ⟨rb, c, tb, c0, c1, c2, c3, c4, l1, l2, _⟩ := h.form
  unfold ptrV at *
  clear h
  go_enter Tryz.func21, Tryz.ntmps21
  go_wp2
  go_ret
  exact ⟨rfl, rfl⟩
theorem c_HLen {w : World} {f : Nat → Nat} {hb B u : Nat} {lim : Int} {H : List OB} (h : HeapO w f hb lim u B H) (hH : H.length ≤ 1000000) :
    Calls Tryz.prog 34 #[ptrV hb] w fun e w' => e = .returned (.int .i64 (H.length : Int)) ∧ w' = w := by
  obtain ⟨rb, c, tb, c0, c1, c2, c3, c4, l1, l2, _⟩ := h.form
  have e1 : ((H.length + 1 : Nat) : Int) - 1 = (H.length : Int) := by omega
  have e0 : (0 : Int) ≤ ((H.length + 1 : Nat) : Int) := by omega
  have e2 : ((H.length + 1 : Nat) : Int) ≤ 1000001 := by omega
  generalize H.length + 1 = n at *
  unfold ptrV at *
  clear h hH
  go_enter Tryz.func34, Tryz.ntmps34
  go_wp2
  go_ret
  exact ⟨rfl, rfl⟩
end Go.Proofs.YtoccmiinkfhohaaGreat
namespace Go.Proofs.YtoccmiinkfhohaaGreat
open Go.RowKit Go.Shelf Go.Lib Go.Sort Go.Proofs Go.Maps
set_option maxHeartbeats 2000000
set_option maxRecDepth 100000

/-- a heap, of which all is named -/
def HeapX (w : World) (f : Nat → Nat) (hb : Nat) (lim : Int) (u B : Nat) (H : List OB) (tb : Nat) (L : List (List KK)) (rv : Value) (obs : List Nat) : Prop :=
  (w.heap[hb]? = some (.cells #[.int .i64 1, .int .i64 lim, .int .i64 (u : Int), ptrV tb, rv] 66 (0, 0)) ∧ f hb = 1) ∧ (TreeO w f tb L ∧ L.length ≤ B) ∧
    RowO w f 2 84 1 rv (H.length + 1) (objRow obs) ∧ (obs.length = H.length ∧ L[0]? = some []) ∧ ∀ (i : Nat) a, H[i]? = some a → ∃ ob, obs[i]? = some ob ∧ ObjO w f (10 + 2 * i) ob L B a
theorem HeapX.heap {w : World} {f : Nat → Nat} {hb B u tb : Nat} {lim : Int} {H : List OB} {L : List (List KK)} {rv : Value} {obs : List Nat} (h : HeapX w f hb lim u B H tb L rv obs) : HeapO w f hb lim u B H := ⟨tb, L, rv, obs, h⟩
/-- what a call on an object turns -/
def CO (i c : Nat) : Prop := c = 1 ∨ C3 c ∨ c = 10 + 2 * i ∨ c = 11 + 2 * i
theorem HeapX.upd {C : Nat → Prop} {w w' : World} {f f' : Nat → Nat} {hb B B' u u' tb i ob : Nat} {lim : Int} {H : List OB} {L L' : List (List KK)} {rv : Value} {obs : List Nat} {a a' : OB} (h : HeapX w f hb lim u B H tb L rv obs)
    (hi : H[i]? = some a) (ho : obs[i]? = some ob) (ht : Turn C f f' w w') (hC : ∀ c, C c → CO i c) (h1 : w'.heap[hb]? = some (.cells #[.int .i64 1, .int .i64 lim, .int .i64 (u' : Int), ptrV tb, rv] 66 (0, 0))) (hT : TreeO w' f' tb L') (hL : ∀ (j : Nat) ks, L[j]? = some ks → L'[j]? = some ks) (hLB : L'.length ≤ B') (hB : B ≤ B')
    (hO : ObjO w' f' (10 + 2 * i) ob L' B' a') : HeapX w' f' hb lim u' B' (H.set i a') tb L' rv obs := by
  obtain ⟨q1, q2, q3, q4, q5⟩ := h
  have hn : ∀ c, ¬ CO i c → ¬ C c := fun c hc h => hc (hC c h)
  have hlen : (H.set i a').length = H.length := by simp
  refine ⟨⟨h1, (ht.agree hb (heapH_lt q1.1)).trans q1.2⟩, ⟨hT, hLB⟩, ?_, ⟨by rw [hlen]; exact q4.1, hL 0 _ q4.2⟩, fun j b hj => ?_⟩
  · rw [hlen]
    exact q3.turn ht (hn 2 (by unfold CO C3; omega))
  · rw [List.getElem?_set] at hj
    by_cases e : i = j
    · subst e
      have hlt := (List.getElem?_eq_some_iff.1 hi).1
      rw [if_pos rfl, if_pos hlt] at hj
      obtain rfl := Option.some.inj hj
      exact ⟨ob, ho, hO⟩
    · rw [if_neg e] at hj
      obtain ⟨ob', r1, r2⟩ := q5 j b hj
      exact ⟨ob', r1, r2.keep ht (hn _ (by unfold CO C3; omega)) (hn _ (by unfold CO C3; omega)) hL hB⟩
theorem usedH_set {H : List OB} {i : Nat} {a a' : OB} (hi : H[i]? = some a) : usedH (H.set i a') + a.l.length = usedH H + a'.l.length := by
  unfold usedH
  rw [List.length_set]
  have : ∀ (H : List OB) (i : Nat), H[i]? = some a → ((H.set i a').map fun a => a.l.length).sum + a.l.length = (H.map fun a => a.l.length).sum + a'.l.length := by
    intro H
    induction H with
    | nil => intro i h; simp at h
    | cons b H ih =>
      intro i h
      cases i with
      | zero => simp at h; subst h; simp; omega
      | succ i =>
        have := ih i (by simpa using h)
        rw [List.set_cons_succ, List.map_cons, List.map_cons, List.sum_cons, List.sum_cons]
        omega
  have := this H i hi
  omega
theorem HeapX.obj {w : World} {f : Nat → Nat} {hb B u tb : Nat} {lim : Int} {H : List OB} {L : List (List KK)} {rv : Value} {obs : List Nat} (h : HeapX w f hb lim u B H tb L rv obs) {o : Nat} {a : OB} (h0 : 0 < o) (ha : H[o - 1]? = some a) :
    ∃ rb c ob many mv n, (w.cell? ⟨hb, 4, none⟩ = some (.slice (some ⟨rb, 0, none⟩) n c) ∧ (0 : Int) ≤ (o : Int) ∧ (o : Int) < (n : Int) ∧ w.cell? ⟨rb, o, none⟩ = some (.pointer (some ⟨ob, 0, none⟩))) ∧ obs[o - 1]? = some ob ∧
      (w.heap[ob]? = some (.cells #[.int .i64 a.cls, .int .i64 a.pro, .bool a.shut, .int .i64 many, mv] 92 (0, 0)) ∧ f ob = 11 + 2 * (o - 1)) ∧ ModeO w f (10 + 2 * (o - 1)) L B mv a.fast a.l ∧ (hb < w.heap.size ∧ rb < w.heap.size ∧ ob < w.heap.size) ∧ (ob ≠ hb ∧ rb ≠ hb ∧ ob ≠ rb) := by
  obtain ⟨q1, q2, q3, q4, q5⟩ := h
  obtain ⟨rb, c, rfl, _, hlt⟩ := q3.1.form (by omega)
  have hc := q3.1.cells (g := rb) rfl
  obtain ⟨ob, r1, many, mv, r2, r3⟩ := q5 _ a ha
  have e : o - 1 + 1 = o := by omega
  have c1 := hc (o - 1 + 1) _ (objRow_get r1)
  rw [Addr.add_lit, Nat.zero_add, e] at c1
  have := (List.getElem?_eq_some_iff.1 ha).1
  have rf := q3.2 rb rfl
  refine ⟨rb, c, ob, many, mv, _, ⟨by rw [cell_of_row _ _ 4 _ _ _ q1.1]; rfl, by omega, by omega, c1⟩, r1, ⟨r2.1, by rw [r2.2]; omega⟩, r3, ⟨heapH_lt q1.1, hlt, heapH_lt r2.1⟩, fun e => ?_, fun e => ?_, fun e => ?_⟩
  · rw [e] at r2; have := q1.2; have := r2.2; omega
  · rw [e] at rf; have := q1.2; omega
  · rw [e] at r2; have := r2.2; omega
/-- an object's own fields -/
theorem HeapX.field {w : World} {f : Nat → Nat} {hb B u tb j : Nat} {lim : Int} {H : List OB} {L : List (List KK)} {rv : Value} {obs : List Nat} (hN : Norm f w) (h : HeapX w f hb lim u B H tb L rv obs) {o : Nat} {a a' : OB} (h0 : 0 < o) (ha : H[o - 1]? = some a) {ob : Nat} (ho : obs[o - 1]? = some ob) {v : Value} {many : Int} {mv : Value}
    (hob : w.heap[ob]? = some (.cells #[.int .i64 a.cls, .int .i64 a.pro, .bool a.shut, .int .i64 many, mv] 92 (0, 0))) (hl : a'.l = a.l) (hf : a'.fast = a.fast) (hv : ∃ many', (#[.int .i64 a.cls, .int .i64 a.pro, .bool a.shut, .int .i64 many, mv] : Array Value).setIfInBounds j v = #[.int .i64 a'.cls, .int .i64 a'.pro, .bool a'.shut, .int .i64 many', mv]) :
    ∃ f', Turn (CO (o - 1)) f f' w (w.setCell ⟨ob, j, none⟩ v) ∧ HeapX (w.setCell ⟨ob, j, none⟩ v) f' hb lim u B (H.set (o - 1) a') tb L rv obs := by
  obtain ⟨rb, c, ob', many', mv', n, _, p1, p2, p3, p4, p5⟩ := h.obj h0 ha
  obtain rfl : ob' = ob := by rw [ho] at p1; exact (Option.some.inj p1).symm
  obtain ⟨rfl, rfl⟩ : many' = many ∧ mv' = mv := by
    have := p2.1
    rw [hob] at this
    simp at this
    exact ⟨this.1.symm, this.2.symm⟩
  have hX := h
  obtain ⟨q1, q2, q3, q4, q5⟩ := h
  have t1 : Turn (fun x => x = 11 + 2 * (o - 1)) f f w (w.setCell ⟨ob', j, none⟩ v) := (Turn.refl _ hN).set ob' j v p2.2
  obtain ⟨m2, hm2⟩ := hv
  refine ⟨f, t1.mono (fun x hx => by unfold CO; omega), hX.upd ha ho t1 (fun x hx => by unfold CO; omega) ?_ (q2.1.turn t1 (by omega) (by omega) (by omega) (by omega)) (fun _ _ h => h) q2.2 (Nat.le_refl _) ⟨m2, mv', ⟨?_, by rw [p2.2]; omega⟩, ?_⟩⟩
  · rw [Below.heap_setCell _ _ _ _ (fun e => p5.1 e.symm)]
    exact q1.1
  · rw [heap_setCell_same w ob' j _ _ _ hob, hm2]
  · rw [hl, hf]
    exact p3.keep t1 (by omega) (fun _ _ h => h) (Nat.le_refl _)
/-- a heap's tree -/
def TreeAt (w : World) (f : Nat → Nat) (hb tb : Nat) (L : List (List KK)) : Prop :=
  Norm f w ∧ (∃ (a b c : Value) (rv : Value), w.heap[hb]? = some (.cells #[a, b, c, ptrV tb, rv] 66 (0, 0)) ∧ f hb = 1) ∧ TreeO w f tb L
/-- a heap's tree only gets more shapes -/
def Grows (w : World) (f : Nat → Nat) (hb : Nat) (w' : World) (f' : Nat → Nat) : Prop :=
  ∀ (t : Nat) (L : List (List KK)), TreeAt w f hb t L → ∃ L', TreeAt w' f' hb t L' ∧ ∀ (i : Nat) ks, L[i]? = some ks → L'[i]? = some ks
theorem Grows.trans {w w' w'' : World} {f f' f'' : Nat → Nat} {hb : Nat} (h : Grows w f hb w' f') (h' : Grows w' f' hb w'' f'') : Grows w f hb w'' f'' := fun tb L hT => by
  obtain ⟨L1, h1, e1⟩ := h tb L hT
  obtain ⟨L2, h2, e2⟩ := h' tb L1 h1
  exact ⟨L2, h2, fun i ks hi => e2 i ks (e1 i ks hi)⟩
theorem TreeAt.turn {C : Nat → Prop} {w w' : World} {f f' : Nat → Nat} {hb tb : Nat} {L : List (List KK)} (h : TreeAt w f hb tb L) (ht : Turn C f f' w w') (hC : ∀ c, C c → c = 0 ∨ 9 < c) : TreeAt w' f' hb tb L := by
  obtain ⟨h1, ⟨a, b, c, rv, h2⟩, h3⟩ := h
  have hn : ∀ c, 0 < c → c ≤ 9 → ¬ C c := fun c h0 h9 h => by have := hC c h; omega
  exact ⟨ht.norm, ⟨a, b, c, rv, blk_turn h2 ht (hn _ (by omega) (by omega))⟩, h3.turn ht (hn _ (by omega) (by omega)) (hn _ (by omega) (by omega)) (hn _ (by omega) (by omega)) (hn _ (by omega) (by omega))⟩
theorem Grows.turn {C : Nat → Prop} {w w' : World} {f f' : Nat → Nat} {hb : Nat} (ht : Turn C f f' w w') (hC : ∀ c, C c → c = 0 ∨ 9 < c) : Grows w f hb w' f' := fun _ L hT => ⟨L, hT.turn ht hC, fun _ _ h => h⟩
theorem Grows.below {w w' : World} (f : Nat → Nat) {hb : Nat} (hb' : Below w.heap.size w w') : Grows w f hb w' f := fun _ L hT => ⟨L, hT.turn (Turn.of_below (fun _ => False) hT.1 hb') (fun _ h => h.elim), fun _ _ h => h⟩
theorem own_forms {w : World} {B size n : Nat} {e : TypeId} {v : Value} {xs : List Value} (h : w.ownsRow B e size v n xs) : (v = .slice none 0 0 ∧ n = 0) ∨ ∃ g cap, v = .slice (some ⟨g, 0, none⟩) n cap := by
  rcases h.2 with ⟨h1, h2⟩ | ⟨g, cap, cur, h1, _⟩
  · exact .inl ⟨h1, h2⟩
  · exact .inr ⟨g, cap, h1⟩
theorem row_inj {w : World} {B B' size n n' : Nat} {e : TypeId} {v : Value} {xs xs' : List Value} (h : w.ownsRow B e size v n xs) (h' : w.ownsRow B' e size v n' xs') : n = n' ∧ xs = xs' := by
  rcases own_forms h with ⟨e1, rfl⟩ | ⟨g, cap, e1⟩
  · rcases own_forms h' with ⟨e2, rfl⟩ | ⟨g', cap', e2⟩
    · have l1 := h.1
      have l2 := h'.1
      simp at l1 l2
      exact ⟨rfl, by rw [l1, l2]⟩
    · rw [e1] at e2; cases e2
  · rcases own_forms h' with ⟨e2, rfl⟩ | ⟨g', cap', e2⟩
    · rw [e1] at e2; cases e2
    · have e3 := e2
      rw [e1] at e3
      injection e3 with e4 e5 e6
      injection e4 with e4
      injection e4 with e4
      subst e4 e5 e6
      subst e1
      refine ⟨rfl, List.ext_getElem? fun j => ?_⟩
      by_cases hj : j < n * size
      · rw [← h.cellAt j hj, ← h'.cellAt j hj]
      · rw [List.getElem?_eq_none (by rw [h.1]; omega), List.getElem?_eq_none (by rw [h'.1]; omega)]
theorem flatE_inj {l : List (Value × Nat)} : ∀ {l' : List (Value × Nat)}, flatE l = flatE l' → l = l' := by
  induction l with
  | nil =>
    intro l' h
    cases l' with
    | nil => rfl
    | cons a l' => simp [flatE, encE] at h
  | cons a l ih =>
    intro l' h
    cases l' with
    | nil => simp [flatE, encE] at h
    | cons b l' =>
      simp only [flatE, List.flatMap_cons, encE, List.cons_append, List.nil_append, List.cons.injEq, Value.map.injEq, Option.some.injEq] at h
      obtain ⟨e1, e2, e3⟩ := h
      rw [ih e3, Prod.ext e1 e2]
theorem flatS_inj {l : List SL} : ∀ {l' : List SL}, flatS l = flatS l' → l = l' := by
  induction l with
  | nil =>
    intro l' h
    cases l' with
    | nil => rfl
    | cons a l' => simp [flatS, encS] at h
  | cons a l ih =>
    intro l' h
    cases l' with
    | nil => simp [flatS, encS] at h
    | cons b l' =>
      simp only [flatS, List.flatMap_cons, encS, List.cons_append, List.nil_append, List.cons.injEq, Value.string.injEq, Value.int.injEq, true_and] at h
      obtain ⟨e1, e2, e3, e4⟩ := h
      rw [ih e4, Prod.ext (Prod.ext e1 e2) e3]
theorem TreeO.inj {w : World} {f f' : Nat → Nat} {tb : Nat} {L L' : List (List KK)} (h : TreeO w f tb L) (h' : TreeO w f' tb L') : L = L' := by
  obtain ⟨rv, bw, n, ents, gw, ⟨q1, _⟩, ⟨q2, _⟩, q3, _, _, _, q7⟩ := h
  obtain ⟨rv', bw', n', ents', gw', ⟨p1, _⟩, ⟨p2, _⟩, p3, _, _, _, p7⟩ := h'
  rw [q1] at p1
  injection p1 with p1
  injection p1 with p1
  simp at p1
  obtain ⟨rfl, rfl⟩ := p1
  obtain ⟨hl, he⟩ := row_inj q2 p2
  obtain rfl := flatE_inj he
  refine List.ext_getElem? fun i => ?_
  cases hi : L[i]? with
  | none =>
    rw [List.getElem?_eq_none_iff] at hi
    exact (List.getElem?_eq_none (by omega)).symm
  | some ks =>
    have hlt : i < L'.length := by have := (List.getElem?_eq_some_iff.1 hi).1; omega
    have hi' : L'[i]? = some L'[i] := List.getElem?_eq_getElem hlt
    obtain ⟨e, a1, ss, _, _, ⟨a2, _⟩, a3, _⟩ := q7 i ks hi
    obtain ⟨e', b1, ss', _, _, ⟨b2, _⟩, b3, _⟩ := p7 i _ hi'
    rw [a1] at b1
    obtain rfl := Option.some.inj b1
    obtain ⟨_, hs⟩ := row_inj a2 b2
    obtain rfl := flatS_inj hs
    rw [hi', ← a3, ← b3]
theorem HeapX.grows {w w' : World} {f f' : Nat → Nat} {hb B B' u u' tb : Nat} {lim lim' : Int} {H H' : List OB} {L L' : List (List KK)} {rv rv' : Value} {obs obs' : List Nat} (hN : Norm f' w') (h : HeapX w f hb lim u B H tb L rv obs) (h' : HeapX w' f' hb lim' u' B' H' tb L' rv' obs') (hL : ∀ (i : Nat) ks, L[i]? = some ks → L'[i]? = some ks) : Grows w f hb w' f' := by
  rintro tb2 L2 ⟨_, ⟨a, b, c, rv2, e1, _⟩, e2⟩
  have h1 := h.1.1
  rw [h1] at e1
  injection e1 with e1
  injection e1 with e1
  simp [ptrV] at e1
  obtain ⟨_, _, _, rfl, _⟩ := e1
  obtain rfl := h.2.1.1.inj e2
  exact ⟨L', ⟨hN, ⟨_, _, _, _, h'.1⟩, h'.2.1.1⟩, hL⟩
/-- a heap after one object has turned -/
def HeapT (w : World) (f : Nat → Nat) (hb : Nat) (lim : Int) (u B : Nat) (H' : List OB) (w' : World) : Prop := ∃ f', Turn (fun c => c ≠ 9 ∧ c ≠ 0) f f' w w' ∧ HeapO w' f' hb lim u B H' ∧ Grows w f hb w' f'
theorem CO_ne9 {i : Nat} : ∀ c, CO i c → c ≠ 9 ∧ c ≠ 0 := fun c h => by unfold CO C3 at h; omega
theorem HeapT.same {w w' : World} {f : Nat → Nat} {hb B u : Nat} {lim : Int} {H : List OB} (hN : Norm f w) (h : HeapO w f hb lim u B H) (hb' : Below w.heap.size w w') : HeapT w f hb lim u B H w' := ⟨f, Turn.of_below _ hN hb', h.below hN hb', Grows.below f hb'⟩
theorem c_HShut0 {w : World} {f : Nat → Nat} {hb B u : Nat} {lim : Int} {H : List OB} (h : HeapO w f hb lim u B H) (o : Int) (ho : hasH H o = false) :
    Calls Tryz.prog 30 #[ptrV hb, .int .i64 o] w fun e w' => e = .returned (.int .i64 151) ∧ w' = w := by
  have hH := c_HHas h o
  rw [ho] at hH
  replace hH := Lib.hid hH
  clear h ho
  go_enter Tryz.func30, Tryz.ntmps30
  go_wp2_with (go_at_call 35; refine hH.out.mono ?_; rintro e w1 ⟨rfl, rfl⟩)
  go_ret
  exact ⟨rfl, rfl⟩
theorem c_HShut1 {w : World} {f : Nat → Nat} {hb B u : Nat} {lim : Int} {H : List OB} (hN : Norm f w) (h : HeapO w f hb lim u B H) (o : Nat) (a : OB) (h0 : 0 < o) (ho : H[o - 1]? = some a) :
    Calls Tryz.prog 30 #[ptrV hb, .int .i64 (o : Int)] w fun e w' => e = .returned (.int .i64 0) ∧ HeapT w f hb lim u B (H.set (o - 1) { a with shut := true }) w' := by
  have hH := c_HHas h (o : Int)
  rw [hasH_of h0 ho] at hH
  obtain ⟨tb, L, rv, obs, hX⟩ := h
  obtain ⟨rb, c, ob, many, mv, n, ⟨c4, p1, p2, q0⟩, r1, r2, r3, r4, r5⟩ := HeapX.obj hX h0 ho
  have hfin0 := HeapX.field (a' := { a with shut := true }) (j := 2) (v := .bool true) hN hX h0 ho r1 r2.1 rfl rfl ⟨many, rfl⟩
  have hfin := hfin0.imp fun f' s => And.intro s.1 (And.intro s.2 (HeapX.grows s.1.norm hX s.2 (fun _ _ h => h)))
  clear hfin0
  have q2 : w.cell? ⟨ob, 2, none⟩ = some (.bool a.shut) := by rw [cell_of_row _ _ 2 _ _ _ r2.1]; rfl
  have fz : w.frozen? ⟨ob, 2, none⟩ = false := by simp [World.frozen?, r2.1]
  unfold ptrV at *
  replace hH := Lib.hid hH
  replace hfin := Lib.hid hfin
  clear hX ho r1 r2 r3 r4 r5 hN
  go_enter Tryz.func30, Tryz.ntmps30
  go_wp2_with (go_at_call 35; refine hH.out.mono ?_; rintro e w1 ⟨rfl, rfl⟩)
  go_ret
  obtain ⟨f', s1, s2, s3⟩ := hfin.out
  exact ⟨rfl, f', s1.mono CO_ne9, s2.heap, s3⟩
theorem c_HSetProto0 {w : World} {f : Nat → Nat} {hb B u : Nat} {lim : Int} {H : List OB} (h : HeapO w f hb lim u B H) (o p : Int) (ho : hasH H o = false) :
    Calls Tryz.prog 28 #[ptrV hb, .int .i64 o, .int .i64 p] w fun e w' => e = .returned (.int .i64 151) ∧ w' = w := by
  have hH := c_HHas h o
  rw [ho] at hH
  replace hH := Lib.hid hH
  clear h ho
  go_enter Tryz.func28, Tryz.ntmps28
  go_wp2_with (go_at_call 35; refine hH.out.mono ?_; rintro e w1 ⟨rfl, rfl⟩)
  go_ret
  exact ⟨rfl, rfl⟩
theorem c_HSetProtoN {w : World} {f : Nat → Nat} {hb B u : Nat} {lim : Int} {H : List OB} (h : HeapO w f hb lim u B H) (o p : Int) (ho : hasH H o = true) (hp : p ≠ 0) (hp2 : hasH H p = false) :
    Calls Tryz.prog 28 #[ptrV hb, .int .i64 o, .int .i64 p] w fun e w' => e = .returned (.int .i64 151) ∧ w' = w := by
  have hH := fun q => c_HHas h q
  have h1 := hH o
  have h2 := hH p
  rw [ho] at h1
  rw [hp2] at h2
  have hpe : (p == 0) = false := by simpa using hp
  have hpn : (p != 0) = true := by simpa using hp
  replace h1 := Lib.hid h1
  replace h2 := Lib.hid h2
  clear h ho hH hp hp2
  go_enter Tryz.func28, Tryz.ntmps28
  go_wp2_with (first | (go_at_call 35; with_reducible refine h1.out.mono ?_; rintro e w1 ⟨rfl, rfl⟩) | (go_at_call 35; with_reducible refine h2.out.mono ?_; rintro e w1 ⟨rfl, rfl⟩))
  go_ret
  exact ⟨rfl, rfl⟩
theorem c_HSetProto1 {w : World} {f : Nat → Nat} {hb B u : Nat} {lim : Int} {H : List OB} (hN : Norm f w) (h : HeapO w f hb lim u B H) (o : Nat) (a : OB) (h0 : 0 < o) (ho : H[o - 1]? = some a) (p : Int) (hp : p = 0 ∨ hasH H p = true) :
    Calls Tryz.prog 28 #[ptrV hb, .int .i64 (o : Int), .int .i64 p] w fun e w' => e = .returned (.int .i64 0) ∧ HeapT w f hb lim u B (H.set (o - 1) { a with pro := p }) w' := by
  have hH := c_HHas h (o : Int)
  rw [hasH_of h0 ho] at hH
  have hH2 := c_HHas h p
  obtain ⟨tb, L, rv, obs, hX⟩ := h
  obtain ⟨rb, c, ob, many, mv, n, ⟨c4, p1, p2, q0⟩, r1, r2, r3, r4, r5⟩ := HeapX.obj hX h0 ho
  have hfin0 := HeapX.field (a' := { a with pro := p }) (j := 1) (v := .int .i64 p) hN hX h0 ho r1 r2.1 rfl rfl ⟨many, rfl⟩
  have hfin := hfin0.imp fun f' s => And.intro s.1 (And.intro s.2 (HeapX.grows s.1.norm hX s.2 (fun _ _ h => h)))
  clear hfin0
  have q2 : w.cell? ⟨ob, 1, none⟩ = some (.int .i64 a.pro) := by rw [cell_of_row _ _ 1 _ _ _ r2.1]; rfl
  have fz : w.frozen? ⟨ob, 1, none⟩ = false := by simp [World.frozen?, r2.1]
  unfold ptrV at *
  replace hH := Lib.hid hH
  replace hfin := Lib.hid hfin
  clear hX ho r1 r2 r3 r4 r5 hN
  by_cases hpz : p = 0
  · subst hpz
    clear hH2 hp
    go_enter Tryz.func28, Tryz.ntmps28
    go_wp2_with (go_at_call 35; refine hH.out.mono ?_; rintro e w1 ⟨rfl, rfl⟩)
    go_ret
    obtain ⟨f', s1, s2, s3⟩ := hfin.out
    exact ⟨rfl, f', s1.mono CO_ne9, s2.heap, s3⟩
  · have hp' : hasH H p = true := by rcases hp with h | h; exact absurd h hpz; exact h
    rw [hp'] at hH2
    have hpe : (p == 0) = false := by simpa using hpz
    have hpn : (p != 0) = true := by simpa using hpz
    replace hH2 := Lib.hid hH2
    clear hp hp' hpz
    go_enter Tryz.func28, Tryz.ntmps28
    go_wp2_with (first | (go_at_call 35; with_reducible refine hH.out.mono ?_; rintro e w1 ⟨rfl, rfl⟩) | (go_at_call 35; with_reducible refine hH2.out.mono ?_; rintro e w1 ⟨rfl, rfl⟩))
    go_ret
    obtain ⟨f', s1, s2, s3⟩ := hfin.out
    exact ⟨rfl, f', s1.mono CO_ne9, s2.heap, s3⟩
end Go.Proofs.YtoccmiinkfhohaaGreat
namespace Go.Proofs.YtoccmiinkfhohaaGreat
open Go.RowKit Go.Shelf Go.Lib Go.Sort Go.Proofs Go.Maps
set_option maxHeartbeats 2000000
set_option maxRecDepth 100000

/-- what a list tells of a key -/
def getL (l : List (KK × PV)) (x : KK) : Option PV := (idx (gk l) x).bind fun i => l[i]?.map Prod.snd
def tellV (x : Option PV) : Value := .tuple #[propV (x.getD zeroPV), .bool x.isSome]
theorem gk_zip {ks : List KK} {ps : List PV} (h : ks.length = ps.length) : gk (ks.zip ps) = ks := by
  unfold gk
  rw [List.map_fst_zip (by omega)]
theorem zip_get {ks : List KK} {ps : List PV} {i : Nat} {k : KK} {p : PV} (hk : ks[i]? = some k) (hp : ps[i]? = some p) : (ks.zip ps)[i]? = some (k, p) := by
  rw [List.getElem?_zip_eq_some]; exact ⟨hk, hp⟩
theorem getL_some {l : List (KK × PV)} {x : KK} {i : Nat} {p : PV} (h : idx (gk l) x = some i) (hp : l[i]? = some (x, p)) : getL l x = some p := by unfold getL; rw [h]; simp [hp]
theorem getL_none {l : List (KK × PV)} {x : KK} (h : idx (gk l) x = none) : getL l x = none := by unfold getL; rw [h]; rfl
/-- the contract of own, at an object's mode -/
theorem mode_own {w : World} {f : Nat → Nat} {tb c B : Nat} {L : List (List KK)} {mv : Value} {fast : Bool} {l : List (KK × PV)} (hN : Norm f w) (hT : TreeO w f tb L) (h : ModeO w f c L B mv fast l) (k : KK) (hk : okK k) :
    ∃ (T : TypeId) (b fn : Nat), mv = .iface T (ptrV b) ∧ (∀ y, (nilAhead 295 T (ptrV b) "lintel/heap.own").run Tryz.prog y = .ok (some false) y) ∧ (∀ y, (method 295 T (ptrV b) "lintel/heap.own").run Tryz.prog y = .ok (fn, ptrV b) y) ∧ (∀ args y, (callFunc fn args).run Tryz.prog y = .ok (.enter fn args) y) ∧
      Calls Tryz.prog fn #[ptrV b, ptrV tb, .pointer none, keyV k.1 k.2] w fun e w' => Below w.heap.size w w' ∧ e = .returned (tellV (getL l (pk k))) := by
  rcases h with ⟨_, fb, ks, ps, rfl, h1, h2, rfl⟩ | ⟨_, db, es, rfl, h1, rfl⟩
  · have hlen : ks.length = ps.length := by obtain ⟨_, _, _, _, _, h4⟩ := h1; exact h4
    refine ⟨_, _, 108, rfl, fun y => by kernel_rfl, fun y => by kernel_rfl, Tryz.call108, ?_⟩
    refine (c_FAown hN hT h1 k hk).mono ?_
    rintro e w' ⟨hb, ⟨i, p, q1, q2, rfl⟩ | ⟨q1, rfl⟩⟩
    · refine ⟨hb, ?_⟩
      rw [getL_some (by rw [gk_zip hlen]; exact q1) (zip_get (idx_some q1) q2)]; rfl
    · refine ⟨hb, ?_⟩
      rw [getL_none (by rw [gk_zip hlen]; exact q1)]; rfl
  · refine ⟨_, _, 120, rfl, fun y => by kernel_rfl, fun y => by kernel_rfl, Tryz.call120, ?_⟩
    refine (c_SWown h1 _ _ k hk).mono ?_
    rintro e w' ⟨hb, ⟨i, p, q1, q2, rfl⟩ | ⟨q1, rfl⟩⟩
    · exact ⟨hb, by rw [getL_some q1 q2]; rfl⟩
    · exact ⟨hb, by rw [getL_none q1]; rfl⟩
/-- a block of thirteen cells -/
def ZB (y : World) (b : Nat) : Prop := ∃ cs : Array Value, y.heap[b]? = some (.cells cs 36 (0, 0)) ∧ cs.size = 13
theorem ZB.store {y : World} {b : Nat} (h : ZB y b) (p : PV) : (storeCells ⟨b, 0, none⟩ (encP p)).run Tryz.prog y = .ok () (y.setCells b 0 (encP p)) := by
  obtain ⟨cs, h1, h2⟩ := h
  have hth := there_of (n := 13) (o := 0) h1 (by omega)
  have := run_storeCells_cells (P := Tryz.prog) b 0 (encP p) 0 y (fun j hj => by simpa using (hth j hj).1) (fun j hj => by simpa using (hth j hj).2) (encP_one p)
  simpa using this
theorem ZB.below {y y' : World} {b : Nat} (h : ZB y b) (hb : Below y.heap.size y y') : ZB y' b := by obtain ⟨cs, h1, h2⟩ := h; exact ⟨cs, (hb.block b (heapH_lt h1)).trans h1, h2⟩
/-- S of a region that fills a result's block -/
theorem zbS_drew {W : World} {zb : Nat} (h : ZB W zb) : ((∀ a : Addr, a.block < W.heap.size → a.block ≠ zb → W.drew.cell? a = W.cell? a) ∧ W.grownBy W.drew (some zb)) ∧ ZB W.drew zb := ⟨but_drew W zb, h⟩
theorem zbS_below {W y y' : World} {zb : Nat} (h : ((∀ a : Addr, a.block < W.heap.size → a.block ≠ zb → y.cell? a = W.cell? a) ∧ W.grownBy y (some zb)) ∧ ZB y zb) (hb : Below y.heap.size y y') :
    ((∀ a : Addr, a.block < W.heap.size → a.block ≠ zb → y'.cell? a = W.cell? a) ∧ W.grownBy y' (some zb)) ∧ ZB y' zb := ⟨but_below h.1 hb, h.2.below hb⟩
theorem zbS_set {W y : World} {zb : Nat} (h : ((∀ a : Addr, a.block < W.heap.size → a.block ≠ zb → y.cell? a = W.cell? a) ∧ W.grownBy y (some zb)) ∧ ZB y zb) (vs : List Value) :
    ((∀ a : Addr, a.block < W.heap.size → a.block ≠ zb → (y.setCells zb 0 vs).cell? a = W.cell? a) ∧ W.grownBy (y.setCells zb 0 vs) (some zb)) ∧ ZB (y.setCells zb 0 vs) zb := by
  obtain ⟨h1, cs, h4, h5⟩ := h
  obtain ⟨s1, s2, s3, s4⟩ := size_setCellsH zb vs 0 y
  refine ⟨⟨fun a ha hne => ?_, ⟨s2.trans h1.2.os, s3.trans h1.2.tape, s4.trans h1.2.output, by rw [s1]; exact h1.2.size, fun r hr hne => ?_⟩⟩, ⟨_, heap_setCells vs 0 y cs h4, by simp [setL_len, h5]⟩⟩
  · rw [World.cell?_of_block (heap_setCells_ne vs 0 y hne)]; exact h1.1 a ha hne
  · rw [heap_setCells_ne vs 0 y (fun e => hne (by rw [e]))]; exact h1.2.block r hr hne
end Go.Proofs.YtoccmiinkfhohaaGreat
namespace Go.Proofs.YtoccmiinkfhohaaGreat
open Go.RowKit Go.Shelf Go.Lib Go.Sort Go.Proofs Go.Maps
set_option maxHeartbeats 2000000
set_option maxRecDepth 100000

theorem c_HBy1 {w : World} {f : Nat → Nat} {hb B u : Nat} {lim : Int} {H : List OB} (hN : Norm f w) (h : HeapO w f hb lim u B H) (o : Nat) (a : OB) (h0 : 0 < o) (ho : H[o - 1]? = some a) (k : KK) (hk : okK k) :
    Calls Tryz.prog 13 #[ptrV hb, .pointer none, .int .i64 (o : Int), keyV k.1 k.2] w fun e w' => Below w.heap.size w w' ∧ e = .returned (tellV (getL a.l (pk k))) := by
  obtain ⟨tb, L, rv, obs, hX⟩ := h
  obtain ⟨rb, c, ob, many, mv, n, ⟨c4, p1, p2, q0⟩, r1, r2, r3, r4, r5⟩ := HeapX.obj hX h0 ho
  unfold keyV
  obtain ⟨k0, kn⟩ := k
  dsimp only
  obtain ⟨W2, hW2⟩ : ∃ W2, (w.alloc (.cells #[.string k0, .int .i64 kn] 31)).alloc (.cells (encP zeroPV).toArray 36) = W2 := ⟨_, rfl⟩
  have hb2 : Below w.heap.size w W2 := by rw [← hW2]; exact ((Below.refl _ w).alloc (Nat.le_refl _) _).alloc (by simp) _
  have hs2 : W2.heap.size = w.heap.size + 2 := by rw [← hW2]; simp
  have d0 : W2.heap[w.heap.size]? = some (.cells #[.string k0, .int .i64 kn] 31 (0, 0)) := by rw [← hW2, Below.heap_alloc _ _ _ (by simp)]; exact heap_alloc_new w _
  have z0 : W2.heap[w.heap.size + 1]? = some (.cells (encP zeroPV).toArray 36 (0, 0)) := by rw [← hW2]; exact heap_alloc2_new w _ _
  have kc0 : W2.cell? ⟨w.heap.size, 0, none⟩ = some (.string k0) := by rw [cell_of_row _ _ 0 _ _ _ d0]; rfl
  have kc1 : W2.cell? ⟨w.heap.size, 1, none⟩ = some (.int .i64 kn) := by rw [cell_of_row _ _ 1 _ _ _ d0]; rfl
  have hN2 : Norm f W2.drew := fun r hr => hN r (Nat.le_trans hb2.size hr)
  have hX2 := (HeapX.heap hX).below hN hb2
  have hH := c_HHas hX2 (o : Int)
  rw [hasH_of h0 ho] at hH
  have c3 : w.cell? ⟨hb, 3, none⟩ = some (ptrV tb) := by rw [cell_of_row _ _ 3 _ _ _ hX.1.1]; rfl
  have q4 : w.cell? ⟨ob, 4, none⟩ = some mv := by rw [cell_of_row _ _ 4 _ _ _ r2.1]; rfl
  have hT0 : Turn (fun _ => False) f f w W2.drew := Turn.of_below _ hN hb2.drew
  obtain ⟨T, mb, fn, rfl, m1, m2, mc, m3⟩ := mode_own hN2 (hX.2.1.1.turn hT0 id id id id) (r3.keep hT0 id (fun _ _ h => h) (Nat.le_refl _)) (k0, kn) hk
  have e4 := hb2.cell (p := ⟨hb, 4, none⟩) r4.1
  have e3 := hb2.cell (p := ⟨hb, 3, none⟩) r4.1
  have e0 := hb2.cell (p := ⟨rb, o, none⟩) r4.2.1
  have e5 := hb2.cell (p := ⟨ob, 4, none⟩) r4.2.2
  rw [← e4] at c4
  rw [← e3] at c3
  rw [← e0] at q0
  rw [← e5] at q4
  have t1 : w.heap.size < W2.heap.size := by omega
  have t2 : hb < W2.heap.size := by omega
  have t3 : rb < W2.heap.size := by omega
  have t4 : ob < W2.heap.size := by omega
  have u1 : w.heap.size ≠ w.heap.size + 1 := by omega
  have u2 : hb ≠ w.heap.size + 1 := by omega
  have u3 : rb ≠ w.heap.size + 1 := by omega
  have u4 : ob ≠ w.heap.size + 1 := by omega
  have hzb := zbS_drew (W := W2) (zb := w.heap.size + 1) ⟨_, z0, rfl⟩
  unfold ptrV keyV at *
  unfold tellV at m3 ⊢
  generalize hP : (getL a.l (pk (k0, kn))).getD zeroPV = P at *
  generalize hB : (getL a.l (pk (k0, kn))).isSome = bo at *
  unfold propV at m3 ⊢
  replace hH := Lib.hid hH
  replace m3 := Lib.hid m3
  replace hb2 := Lib.hid hb2
  replace hs2 := Lib.hid hs2
  replace z0 := Lib.hid z0
  simp only [encP, zeroPV, zeroVV] at hW2
  clear hX hX2 hT0 hN2 r1 r2 r3 r4 r5 ho hN e0 e3 e4 e5 hP hB d0
  have hst := fun (y : World) (hy : ZB y (w.heap.size + 1)) => hy.store P
  go_enter Tryz.func13, Tryz.ntmps13
  go_wp2_with (first | (go_at_call 35; refine hH.out.mono ?_; rintro e w1 ⟨rfl, e1⟩; cases e1))
  go_region_held3 (fun y => ((∀ a : Addr, a.block < W2.heap.size → a.block ≠ w.heap.size + 1 → y.cell? a = W2.cell? a) ∧ W2.grownBy y (some (w.heap.size + 1))) ∧ ZB y (w.heap.size + 1)) (first | with_reducible assumption | with_reducible exact hzb | with_reducible exact zbS_below (by assumption) (by assumption) | with_reducible exact zbS_set (by assumption) (encP P)) (first | (refine m3.out.mono ?_; rintro e y2 ⟨hb5, rfl⟩))
  all_goals
    have z2 : y2.heap[w.heap.size + 1]? = some (.cells (encP zeroPV).toArray 36 (0, 0)) := (hb5.block _ (by show _ < W2.heap.size; have := hs2.out; omega)).trans z0.out
    have hz := heap_setCells_all (t := 36) (vs := encP P) z2 rfl
    have hbel := below_setC (hb2.out.drew.trans (hb5.mono (show w.heap.size ≤ W2.drew.heap.size from hb2.out.size))) (b := w.heap.size + 1) (by omega) (encP P) 0
    generalize y2.setCells (w.heap.size + 1) 0 (encP P) = w6 at *
    replace hz := Lib.hid hz
    replace hbel := Lib.hid hbel
    clear hzb hst hb5 z2 m1 m2 mc
    go_wp2_with fail
    refine bodyPost_ret (results_cell_tmp_row rfl _ _ (w.heap.size + 1) 36 (encP P).toArray (0, 0) _ rfl rfl hz.out infoProp) rfl ?_
    exact ⟨hbel.out, rfl⟩
theorem c_HBy0 {w : World} {f : Nat → Nat} {hb B u : Nat} {lim : Int} {H : List OB} (hN : Norm f w) (h : HeapO w f hb lim u B H) (cv : Value) (o : Int) (ho : hasH H o = false) (k : KK) :
    Calls Tryz.prog 13 #[ptrV hb, cv, .int .i64 o, keyV k.1 k.2] w fun e w' => Below w.heap.size w w' ∧ e = .returned (tellV none) := by
  unfold keyV tellV
  obtain ⟨k0, kn⟩ := k
  dsimp only [Option.getD, Option.isSome]
  obtain ⟨W2, hW2⟩ : ∃ W2, (w.alloc (.cells #[.string k0, .int .i64 kn] 31)).alloc (.cells (encP zeroPV).toArray 36) = W2 := ⟨_, rfl⟩
  have hb2 : Below w.heap.size w W2 := by rw [← hW2]; exact ((Below.refl _ w).alloc (Nat.le_refl _) _).alloc (by simp) _
  have z0 : W2.heap[w.heap.size + 1]? = some (.cells (encP zeroPV).toArray 36 (0, 0)) := by rw [← hW2]; exact heap_alloc2_new w _ _
  have hH := c_HHas (h.below hN hb2) o
  rw [ho] at hH
  have hth := there_of (n := 13) (o := 0) z0 (by simp [encP])
  have hi13 : (Tryz.prog.info? 36).map (·.size) = some (encP zeroPV).toArray.size := infoProp
  have ho13 := all_oneCell_toArray (encP_one zeroPV)
  unfold ptrV at *
  replace hH := Lib.hid hH
  replace hb2 := Lib.hid hb2
  replace z0 := Lib.hid z0
  simp only [encP, zeroPV, zeroVV] at hW2
  clear h ho hN
  go_enter Tryz.func13, Tryz.ntmps13
  go_wp2_with (first | (go_at_call 35; refine hH.out.mono ?_; rintro e w1 ⟨rfl, e1⟩; cases e1) | (refine wpList_store_mid (by rfl) 36 _ _ (by rfl) (w.heap.size + 1) 0 (encP zeroPV).toArray (by rfl) (by rfl) hth hi13 ho13 ?_))
  have hz' := heap_setCells_all (t := 36) (vs := encP zeroPV) z0.out rfl
  refine bodyPost_ret (results_cell_tmp_row rfl _ _ (w.heap.size + 1) 36 (encP zeroPV).toArray (0, 0) _ rfl rfl hz' infoProp) rfl ?_
  exact ⟨below_setC hb2.out (by omega) _ _, rfl⟩
/-- the object of a number -/
def objH (H : List OB) (o : Int) : Option OB := if hasH H o then H[o.toNat - 1]? else none
theorem objH_cases (H : List OB) (o : Int) : (hasH H o = false ∧ objH H o = none) ∨ ∃ (n : Nat) (a : OB), o = (n : Int) ∧ 0 < n ∧ H[n - 1]? = some a ∧ objH H o = some a ∧ hasH H o = true := by
  unfold objH
  cases h : hasH H o with
  | false => exact .inl ⟨rfl, rfl⟩
  | true =>
    right
    unfold hasH at h
    simp at h
    obtain ⟨n, rfl⟩ := Int.eq_ofNat_of_zero_le (show 0 ≤ o by omega)
    have hn : n - 1 < H.length := by omega
    refine ⟨n, H[n - 1], rfl, by omega, List.getElem?_eq_getElem hn, ?_, rfl⟩
    simp [List.getElem?_eq_getElem hn]
/-- what a heap tells of a key -/
def ownH (H : List OB) (o : Int) (x : KK) : Option PV := (objH H o).bind fun a => getL a.l x
theorem c_HBy {w : World} {f : Nat → Nat} {hb B u : Nat} {lim : Int} {H : List OB} (hN : Norm f w) (h : HeapO w f hb lim u B H) (o : Int) (k : KK) (hk : okK k) :
    Calls Tryz.prog 13 #[ptrV hb, .pointer none, .int .i64 o, keyV k.1 k.2] w fun e w' => Below w.heap.size w w' ∧ e = .returned (tellV (ownH H o (pk k))) := by
  rcases objH_cases H o with ⟨h1, h2⟩ | ⟨n, a, rfl, h1, h2, h3, h4⟩
  · have : ownH H o (pk k) = none := by unfold ownH; rw [h2]; rfl
    rw [this]
    exact c_HBy0 hN h _ o h1 k
  · have : ownH H (n : Int) (pk k) = getL a.l (pk k) := by unfold ownH; rw [h3]; rfl
    rw [this]
    exact c_HBy1 hN h n a h1 h2 k hk
theorem c_HOwn {w : World} {f : Nat → Nat} {hb B u : Nat} {lim : Int} {H : List OB} (hN : Norm f w) (h : HeapO w f hb lim u B H) (o : Int) (k : KK) (hk : okK k) :
    Calls Tryz.prog 44 #[ptrV hb, .int .i64 o, keyV k.1 k.2] w fun e w' => Below w.heap.size w w' ∧ e = .returned (tellV (ownH H o (pk k))) := by
  have hBy := fun (y : World) (hy : Below w.heap.size w y) => c_HBy (w := y) (fun r hr => hN r (Nat.le_trans hy.size hr)) (h.below hN hy) o k hk
  unfold keyV tellV at *
  generalize (ownH H o (pk k)).getD zeroPV = P at *
  generalize (ownH H o (pk k)).isSome = bo at *
  obtain ⟨k0, kn⟩ := k
  dsimp only at *
  obtain ⟨W2, hW2⟩ : ∃ W2, (w.alloc (.cells #[.string k0, .int .i64 kn] 31)).alloc (.cells (encP zeroPV).toArray 36) = W2 := ⟨_, rfl⟩
  have hb2 : Below w.heap.size w W2 := by rw [← hW2]; exact ((Below.refl _ w).alloc (Nat.le_refl _) _).alloc (by simp) _
  have z0 : W2.heap[w.heap.size + 1]? = some (.cells (encP zeroPV).toArray 36 (0, 0)) := by rw [← hW2]; exact heap_alloc2_new w _ _
  have d0 : W2.heap[w.heap.size]? = some (.cells #[.string k0, .int .i64 kn] 31 (0, 0)) := by rw [← hW2, Below.heap_alloc _ _ _ (by simp)]; exact heap_alloc_new w _
  have kc0 : W2.cell? ⟨w.heap.size, 0, none⟩ = some (.string k0) := by rw [cell_of_row _ _ 0 _ _ _ d0]; rfl
  have kc1 : W2.cell? ⟨w.heap.size, 1, none⟩ = some (.int .i64 kn) := by rw [cell_of_row _ _ 1 _ _ _ d0]; rfl
  have hi13 : (Tryz.prog.info? 36).map (·.size) = some (encP P).toArray.size := infoProp
  have ho13 := all_oneCell_toArray (encP_one P)
  have hBy := Lib.hid (hBy W2 hb2)
  have hst := fun (y : World) (hy : ZB y (w.heap.size + 1)) => hy.store P
  unfold ptrV propV at *
  replace hb2 := Lib.hid hb2
  replace z0 := Lib.hid z0
  replace d0 := Lib.hid d0
  simp only [encP, zeroPV, zeroVV] at hW2
  clear h hN
  rename_i hByo
  clear hByo
  go_enter Tryz.func44, Tryz.ntmps44
  go_wp2_with (first | (go_at_call 13; refine hBy.out.mono ?_; rintro e y2 ⟨hb5, rfl⟩; have hz2 : ZB y2 (w.heap.size + 1) := ZB.below ⟨_, z0.out, rfl⟩ hb5; clear kc0 kc1; replace hb5 := Lib.hid hb5))
  have z2 : y2.heap[w.heap.size + 1]? = some (.cells (encP zeroPV).toArray 36 (0, 0)) := (hb5.out.block _ (heapH_lt z0.out)).trans z0.out
  have hz := heap_setCells_all (t := 36) (vs := encP P) z2 rfl
  refine bodyPost_ret (results_cell_tmp_row rfl _ _ (w.heap.size + 1) 36 (encP P).toArray (0, 0) _ rfl rfl hz infoProp) rfl ?_
  exact ⟨below_setC (hb2.out.trans (hb5.out.mono hb2.out.size)) (by omega) _ _, rfl⟩
end Go.Proofs.YtoccmiinkfhohaaGreat
