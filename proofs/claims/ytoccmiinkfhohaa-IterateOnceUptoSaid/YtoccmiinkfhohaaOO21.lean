/-
  IterateOnce: no key is told twice, and none that nothing has at its turn; where what it reads is of bulk at most 1048576.
-/
import Derived.Test.YtoccmiinkfhohaaOO20
import Derived.Test.YtoccmiinkfhohaaOO14
import Derived.Test.YtoccmiinkfhohaaRows
import Derived.Deep.SlicePairs
import Derived.ProofKit
import Derived.OpenShut
import Derived.JoinedCond
import Derived.Carry
import Derived.Lib.SmallJoins
namespace Go.Proofs.Ytoccmiinkfhohaa
open Go.RowKit Go.Shelf Go.Lib Go.Sort Go.Proofs Go.Maps
set_option linter.unusedVariables false
set_option maxHeartbeats 4000000
set_option maxRecDepth 100000

theorem RdQ.keep {w y : World} {v : Value} {l : List OQ} (h : RdQ w v l) (hy : Below w.heap.size w y) : RdQ y v l := by
  rcases h with ⟨h1, h2⟩ | ⟨p', c', h1, h2, h3⟩
  · exact .inl ⟨h1, h2⟩
  · refine .inr ⟨p', c', h1, h2, fun k x hx => ?_⟩
    obtain ⟨g1, g2⟩ := h3 k x hx
    exact ⟨g1, range_at g2 (hy.block _ (by have := cell_lt (g2 0 _ rfl); exact this))⟩
/-- where the law's great loop stands -/
def OnceR (W2 : World) (hb rb n0 : Nat) (b : EB) (i : Nat) (v : Value) (w : World) : Prop :=
  ∃ (H : List OB) (B : Nat) (st : ES) (T : List KK), (128 ≤ B ∧ B ≤ 128 + 2 * (n0 + i) ∧ usedH H ≤ n0 + i ∧ NodH H) ∧ OnceS W2 hb rb B H b st v T w ∧ T.length ≤ i
theorem OnceR.same {W2 w' : World} {hb rb n0 i : Nat} {b : EB} {v : Value} {H : List OB} {B : Nat} {st' : ES} {T : List KK} (h1 : 128 ≤ B ∧ B ≤ 128 + 2 * (n0 + i) ∧ usedH H ≤ n0 + i ∧ NodH H) (h2 : OnceS W2 hb rb B H b st' v T w') (h3 : T.length ≤ i) : OnceR W2 hb rb n0 b (i + 1) v w' :=
  ⟨H, B, st', T, ⟨h1.1, by omega, by omega, h1.2.2.2⟩, h2, by omega⟩
theorem c_IterateOnce (v v2 : Value) (l m : List OQ) (hs : fewQ l l.length ≤ 4194304) (hz : ∀ x ∈ l, x.k.1.size ≤ 4194304 ∧ okK x.k) (hs2 : fewQ m m.length ≤ 4194304) (hz2 : ∀ x ∈ m, x.k.1.size ≤ 4194304 ∧ okK x.k) (ob : Int) (w : World) (h : RdQ w v l) (h2 : RdQ w v2 m) :
    Calls Try.prog 7 #[v, .int .i64 ob, v2] w fun e w' => e = .returned (.bool true) ∧ Below w.heap.size w w' := by
  obtain ⟨p, c, rfl, hlc, hL⟩ := h.form
  obtain ⟨p2, c2, rfl, hlc2, hL2⟩ := h2.form
  have hfew := fun (y : World) (hy : Below w.heap.size w y) => c_few20 (.slice p l.length c) l hs (fun x hx => (hz x hx).1) y (h.keep hy)
  have hfew2 := fun (y : World) (hy : Below w.heap.size w y) => c_few20 (.slice p2 m.length c2) m hs2 (fun x hx => (hz2 x hx).1) y (h2.keep hy)
  have hlen : l.length ≤ fewQ l l.length := Nat.le_add_right _ _
  have hlen2 : m.length ≤ fewQ m m.length := Nat.le_add_right _ _
  replace hfew := Lib.hid hfew
  replace hfew2 := Lib.hid hfew2
  replace hL := Lib.hid hL
  replace hL2 := Lib.hid hL2
  replace hz := Lib.hid hz
  replace hz2 := Lib.hid hz2
  clear h h2 hlc hlc2
  cases hd : decide (fewQ l l.length ≤ 300) with
  | false =>
    rw [hd] at hfew
    clear hd
    go_enter Try.func7, Try.ntmps7
    go_wp2_with (first | (go_at_call 30; refine (c_awake20 _).mono ?_; rintro e w1 ⟨rfl, hb1⟩) | (go_at_call 31; refine (hfew.out _ hb1).mono ?_; rintro e w2 ⟨rfl, hb2⟩))
    go_ret
    exact ⟨rfl, hb1.trans (hb2.mono hb1.size)⟩
  | true =>
    rw [hd] at hfew
    have hl3 : l.length ≤ 300 := Nat.le_trans hlen (of_decide_eq_true hd)
    clear hd hlen hs
    cases hd2 : decide (fewQ m m.length ≤ 300) with
    | false =>
      rw [hd2] at hfew2
      clear hd2
      go_enter Try.func7, Try.ntmps7
      go_wp2_with (first | (go_at_call 30; refine (c_awake20 _).mono ?_; rintro e w1 ⟨rfl, hb1⟩) | (go_at_call 31; with_reducible refine (hfew.out _ hb1).mono ?_; rintro e w2 ⟨rfl, hb2⟩; have hb12 := hb1.trans (hb2.mono hb1.size)) | (go_at_call 31; with_reducible refine (hfew2.out _ hb12).mono ?_; rintro e w3 ⟨rfl, hb3⟩))
      go_ret
      exact ⟨rfl, hb12.trans (hb3.mono hb12.size)⟩
    | true =>
      rw [hd2] at hfew2
      have hm3 : m.length ≤ 300 := Nat.le_trans hlen2 (of_decide_eq_true hd2)
      clear hd2 hlen2 hs2
      go_enter Try.func7, Try.ntmps7
      go_wp2_with (first | (go_at_call 30; refine (c_awake20 _).mono ?_; rintro e w1 ⟨rfl, hb1⟩) | (go_at_call 31; with_reducible refine (hfew.out _ hb1).mono ?_; rintro e wf ⟨rfl, hb2⟩; have hb12 := hb1.trans (hb2.mono hb1.size)) | (go_at_call 31; with_reducible refine (hfew2.out _ hb12).mono ?_; rintro e w2 ⟨rfl, hb3⟩) | (go_at_call 10; refine (c_Hnew (f := fun _ => 0) (fun _ _ => rfl) 2000).mono ?_; rintro e w3 ⟨hb, f1, rfl, t1, h1⟩; unfold ptrV) | (go_at_call 11; refine (l_new t1 h1).mono ?_; rintro e w4 ⟨rb, rfl, hS⟩))
      have hB2 := hb12.trans (hb3.mono hb12.size)
      replace hB2 := Lib.hid hB2
      replace hS := Lib.hid hS
      clear t1 h1 hb1 hb2 hb3 hb12 hfew hfew2
      obtain ⟨W2, rfl⟩ : ∃ W2, W2 = w2 := ⟨_, rfl⟩
      go_loopw [41] (fun vi wr => ∃ i : Nat, i ≤ l.length ∧ vi = .int .i64 (i : Int) ∧ LawS W2 wr hb rb 2000 (128 + 2 * i) (runQ 2000 (l.take i))) (fun vi _ => l.length - (intOf vi).toNat)
      case atStart => exact ⟨0, by omega, rfl, hS.out⟩
      case round =>
        obtain ⟨i, hi, rfl, hT⟩ := hrel
        rcases Nat.lt_or_ge i l.length with hlt | hge
        · obtain ⟨x, hx⟩ : ∃ x, l[i]? = some x := ⟨_, List.getElem?_eq_getElem hlt⟩
          obtain ⟨b, o, rfl, lb, hrg⟩ := hL.out i x hx
          replace hrg := hrg wr (hB2.out.trans (hT.base.mono hB2.out.size))
          have hi6 : (Try.prog.info? 70).map (·.size) = some (encQ x).length := infoOq
          have hj6 : (Try.prog.info? 70).map (·.size) = some (encQ x).toArray.size := infoOq
          have ho6 := all_oneCell_toArray (encQ_one x)
          have q1 : (0 : Int) ≤ (i : Int) := by omega
          have q2 : (i : Int) < (l.length : Int) := by omega
          obtain ⟨hfb, hfh⟩ := fresh_cellsQ (w := wr) x
          have hrg2 := range_of_block hfh
          have hth : (wr.alloc (.cells zeroOq 70)).there wr.heap.size 0 (encQ x).toArray.size := zeroOq_there wr
          have hu0 := runQ_used (lim := 2000) (l := l) (i := i) hi
          have hu1 := runQ_used (lim := 2000) (l := l) (i := i + 1) hlt
          have hnx := runQ_next (lim := 2000) hx
          have hdo := fun (y : World) (hy : LawS W2 y hb rb 2000 (128 + 2 * i) (runQ 2000 (l.take i))) => l_do20 hy (by omega) (by omega) (by omega) x (hz.out x (List.mem_of_getElem? hx)).2
          rw [← hnx] at hdo
          replace hdo := Lib.hid hdo
          replace hfb := Lib.hid hfb
          replace hT := Lib.hid hT
          clear hx hfh hnx
          generalize encQ x = E at *
          generalize hH' : runQ 2000 (l.take (i + 1)) = H' at *
          replace hH' := Lib.hid hH'
          have tokA : True := trivial
          have tokB : True := trivial
          have tokC : True := trivial
          go_wp2_with (first | (clear tokA; refine wpList_load_mid rfl 70 (.tmp 43) rfl b (o + i * 6) rfl E _ hrg Try.underlying70 rfl hi6 ?_) | (clear tokB; refine wpList_store_mid rfl 70 (.tmp 10) (.tmp 44) rfl wr.heap.size 0 E.toArray rfl rfl hth hj6 ho6 ?_; generalize hW4 : World.setCells _ _ _ _ = W4; rw [show (wr.alloc (.cells zeroOq 70)).setCells wr.heap.size 0 E = W4 from hW4] at hfb hrg2; clear hW4 hth hrg; have hT4 := hT.out.below hfb.out) | (clear tokC; refine wpList_load_mid rfl 70 (.tmp 10) rfl wr.heap.size 0 rfl E _ hrg2 Try.underlying70 rfl hi6 ?_; clear hrg2) | (go_at_call 32; refine (hdo.out _ hT4).mono ?_; rintro e w5 ⟨rfl, hT5⟩))
          exact ⟨⟨i + 1, by omega, by go_num, by rw [hH'.out]; exact hT5⟩, by simp [intOf]; omega⟩
        · obtain rfl : i = l.length := by omega
          have hu := runQ_used (lim := 2000) (l := l) (i := l.length) (Nat.le_refl _)
          have hnod : NodH (runQ 2000 (l.take l.length)) := nod_run (fun a ha => by cases ha)
          generalize runQ 2000 (l.take l.length) = H at *
          have hN := Lib.hid (c_INew hT.toK0 (by omega) (by omega) (by omega) ob)
          have hbT := hT.base
          obtain ⟨W3, rfl⟩ : ∃ W3, W3 = wr := ⟨_, rfl⟩
          replace hbT := Lib.hid hbT
          clear hi hge hT hS hL
          go_upto_region 12 with (first | (go_at_call 38; refine hN.out.mono ?_; rintro e y1 ⟨b, rfl, hE⟩))
          have hstart : OnceR W2 hb rb l.length b 0 (.slice none 0 0) y1 := ⟨H, 128 + 2 * l.length, _, [], ⟨by omega, by omega, by omega, hnod⟩, once_start hE hbT.out (told_start hnod ob), by simp⟩
          replace hstart := Lib.hid hstart
          clear hN hE hu hnod hbT
          go_wp2_with fail
          go_loopw [12, 13] (fun v12 v13 wr => ∃ i : Nat, i ≤ m.length + 60 ∧ v13 = .int .i64 (i : Int) ∧ OnceR W2 hb rb l.length b i v12 wr) (fun _ v13 _ => m.length + 60 - (intOf v13).toNat)
          case atStart => exact ⟨0, by omega, rfl, hstart.out⟩
          case round =>
            obtain ⟨i, hi, rfl, hR⟩ := hrel
            obtain ⟨W4, rfl⟩ : ∃ W4, W4 = wr := ⟨_, rfl⟩
            obtain ⟨H', B, st, T, ⟨hB1, hBB, hu, hnod⟩, hS, hTl⟩ := hR
            clear hstart
            have hbW := hS.base
            rcases Nat.lt_or_ge i (m.length + 60) with hlt | hge
            · have q1 : (0 : Int) ≤ (i : Int) := by omega
              have q3 : (i : Int) < (m.length : Int) + 60 := by omega
              have hBY := Lib.hid (hB2.out.trans (hbW.mono hB2.out.size))
              clear hbW
              by_cases hA : ∃ x, m[i]? = some x ∧ x.kd < 4
              · obtain ⟨x, hx, hkd⟩ := hA
                obtain ⟨b2, o2, rfl, lb, hrg⟩ := hL2.out i x hx
                replace hrg := hrg W4 hBY.out
                have hlm : i < m.length := (List.getElem?_eq_some_iff.1 hx).1
                have q2 : (i : Int) < (m.length : Int) := by omega
                have c0 : W4.cell? ⟨b2, o2 + i * 6, none⟩ = some (.int .i64 x.kd) := by have := hrg 0 _ rfl; simpa using this
                have hi6 : (Try.prog.info? 70).map (·.size) = some (encQ x).length := infoOq
                have hdo := Lib.hid (l_doE hS.2.2.1 hB1 (by omega) (by omega) x (hz2.out x (List.mem_of_getElem? hx)).2)
                have hop := opQ_used 2000 H' x
                have hnod' := nod_op (lim := 2000) hnod x
                generalize opQ 2000 H' x = H2 at *
                obtain ⟨kx, hkx⟩ : ∃ kx, kx = x.kd := ⟨_, rfl⟩
                rw [← hkx] at c0 hkd
                replace hS := Lib.hid hS
                replace hnod' := Lib.hid hnod'
                clear hx hkx hnod lb
                generalize encQ x = E at *
                have tokA : True := trivial
                go_wp2_with (first | (clear tokA; refine wpList_load_mid rfl 70 (.tmp 78) rfl b2 (o2 + i * 6) rfl E _ hrg Try.underlying70 rfl hi6 ?_) | (go_at_call 32; refine hdo.out.mono ?_; rintro e w5 ⟨rfl, hE5, hs5⟩))
                have hS5 := hS.out.next hE5 hS.out.2.2.2.2
                exact ⟨⟨i + 1, by omega, by go_num, ⟨H2, B + 2, st, T, ⟨by omega, by omega, by omega, hnod'.out⟩, hS5, by omega⟩⟩, by simp [intOf]; omega⟩
              · have hNx := Lib.hid (c_ENext hS.2.2.1 hB1 (by omega) (by omega))
                have hcase : m.length ≤ i ∨ ∃ x, m[i]? = some x ∧ 4 ≤ x.kd := by
                  by_cases hlm : i < m.length
                  · refine .inr ⟨m[i], List.getElem?_eq_getElem hlm, ?_⟩
                    by_cases h4 : m[i].kd < 4
                    · exact absurd ⟨_, List.getElem?_eq_getElem hlm, h4⟩ hA
                    · omega
                  · exact .inl (by omega)
                clear hA
                rcases hcase with hlm | ⟨x, hx, hkd⟩
                · have q2 : ¬ (i : Int) < (m.length : Int) := by omega
                  go_upto_region 20 with fail
                  clear q2
                  go_upto_region 21 with (first | (go_at_call 39; refine hNx.out.mono ?_; rintro e y5 hP; obtain ⟨st', k, t, hE5, rfl, hq⟩ := hP.form))
                  obtain ⟨W6, hW6⟩ : ∃ W6, y5.alloc (.cells #[.string k.1, .int .i64 k.2] 32) = W6 := ⟨_, rfl⟩
                  rw [hW6]
                  have hb6 : Below y5.heap.size y5 W6 := by rw [← hW6]; exact (Below.refl _ _).alloc (Nat.le_refl _) _
                  have d6 : W6.heap[y5.heap.size]? = some (.cells #[.string k.1, .int .i64 k.2] 32 (0, 0)) := by rw [← hW6]; exact heap_alloc_new y5 _
                  have hnx := told_next hnod (1000 - st.lv) st (T.map pk) hS.2.2.2.2
                  have hHl : H'.length ≤ 1000 := by have := used_len H'; omega
                  cases t with
                  | false =>
                    have hI' : ToldI st' (T.map pk) := by
                      rcases hq with ⟨h, _⟩ | ⟨_, _, hq⟩
                      · cases h
                      · rw [hq] at hnx; exact hnx
                    have hS6 := Lib.hid ((hS.next hE5 hI').below hb6)
                    clear hE5 hq hP hNx d6 hW6 hb6 hS hnx
                    go_wp2_with fail
                    exact ⟨⟨i + 1, by omega, by go_num, OnceR.same ⟨hB1, hBB, hu, hnod⟩ hS6.out hTl⟩, by simp [intOf]; omega⟩
                  | true =>
                    obtain ⟨hk, hnT, hI', hk2, o', ho'⟩ : okK k ∧ pk k ∉ T.map pk ∧ ToldI st' (T.map pk ++ [pk k]) ∧ (pk k).2 ≤ 0 ∧ ∃ o, (ownH H' o (pk k)).isSome = true := by
                      rcases hq with ⟨_, hk, hq⟩ | ⟨h, _⟩
                      · rw [hq] at hnx
                        exact ⟨hk, hnx⟩
                      · cases h
                    have hany := anyO_some ho'
                    have hS6 := (hS.next hE5 (told_less hI')).below hb6
                    have hL6 := hS6.2.2.1.law
                    have hLen := fun (y : World) (hy : Below W6.heap.size W6 y) => l_Len (hL6.below hy) (by omega)
                    have hOw := fun (y : World) (hy : Below W6.heap.size W6 y) (j : Nat) => l_HOwnV (hL6.below hy) ((j : Int) + 1) k hk
                    have hkc : ∀ y, Below W6.heap.size W6 y → y.cell? ⟨y5.heap.size, 0, none⟩ = some (.string k.1) ∧ y.cell? ⟨y5.heap.size, 1, none⟩ = some (.int .i64 k.2) ∧ y5.heap.size < y.heap.size := fun y hy => by
                      have h1 := (hy.block _ (heapH_lt d6)).trans d6
                      exact ⟨by rw [cell_of_row _ _ 0 _ _ _ h1]; rfl, by rw [cell_of_row _ _ 1 _ _ _ h1]; rfl, heapH_lt h1⟩
                    have hk0 : ¬ 0 < k.2 := fun h0 => by
                      unfold pk at hk2
                      rw [if_pos h0] at hk2
                      dsimp only at hk2
                      omega
                    obtain ⟨p6, c6, rfl, -, -, hcell⟩ := (own_rdk hS6.1).form
                    generalize hqk : y5.heap.size = qk at *
                    replace hS6 := Lib.hid hS6
                    replace hLen := Lib.hid hLen
                    replace hOw := Lib.hid hOw
                    replace hkc := Lib.hid hkc
                    replace hcell := Lib.hid hcell
                    replace hany := Lib.hid hany
                    replace hnod := Lib.hid hnod
                    replace hnT := Lib.hid hnT
                    replace hI' := Lib.hid hI'
                    have hk' := Lib.hid hk
                    clear hE5 hq hP hNx d6 hW6 hb6 hS hnx hk2 ho' hL6 hqk hk
                    go_wp2_with fail
                    go_loopw [16, 17] (fun v16 v17 wr => ∃ j : Nat, j ≤ H'.length ∧ v17 = .int .i64 ((j : Int) + 1) ∧ v16 = .bool (anyO H' (pk k) j) ∧ Below W6.heap.size W6 wr) (fun _ v17 _ => H'.length + 1 - (intOf v17).toNat)
                    case atStart => exact ⟨0, by omega, rfl, rfl, Below.refl _ _⟩
                    case round =>
                      obtain ⟨j, hj, rfl, rfl, hbj⟩ := hrel
                      obtain ⟨W7, rfl⟩ : ∃ W7, W7 = wr := ⟨_, rfl⟩
                      have hLn := hLen.out W7 hbj
                      obtain ⟨kc0, kc1, lqk⟩ := hkc.out W7 hbj
                      rcases Nat.lt_or_ge j H'.length with hjl | hjg
                      · have q5 : (j : Int) + 1 ≤ (H'.length : Int) := by omega
                        have hOx := hOw.out W7 hbj j
                        have hnx := anyO_next H' (pk k) j
                        generalize hP : (ownH H' ((j : Int) + 1) (pk k)).getD zeroPV = P at *
                        generalize hI : (ownH H' ((j : Int) + 1) (pk k)).isSome = bI at *
                        have hi13 : (Try.prog.info? 37).map (·.size) = some (encP P).toArray.size := infoProp
                        have ho13 := all_oneCell_toArray (encP_one P)
                        have hq := fun (y : World) => zeroQ_set y P
                        have hth := fun (y : World) => (zeroQ_there y : (y.alloc (.cells zeroQ 37)).there y.heap.size 0 (encP P).toArray.size)
                        replace hOx := Lib.hid hOx
                        replace hLn := Lib.hid hLn
                        replace hq := Lib.hid hq
                        replace hnx := Lib.hid hnx
                        clear hP hI
                        have tokD : True := trivial
                        go_upto_region 27 with (first | (go_at_call 16; refine hLn.out.mono ?_; rintro e y1 ⟨rfl, rfl⟩) | (go_at_call 20; refine hOx.out.mono ?_; rintro e y11 ⟨rfl, hb11⟩; have hth11 := hth y11; obtain ⟨hq1, hq2⟩ := hq.out y11; clear kc0 kc1) | (clear tokD; refine wpList_store_mid rfl 37 (.tmp 18) (.tmp 99) rfl y11.heap.size 0 (encP P).toArray rfl rfl hth11 hi13 ho13 ?_; generalize hW12 : World.setCells _ _ _ _ = W12; rw [show (y11.alloc (.cells zeroQ 37)).setCells y11.heap.size 0 (encP P) = W12 from hW12] at hq1 hq2; clear hW12 hth11))
                        have hb12 := hb11.trans (hq1.mono hb11.size)
                        have hend := hbj.trans (hb12.mono hbj.size)
                        clear hb11 hq1 hq2 hq hth hi13 ho13 hOx hLn hb12
                        cases bI with
                        | true =>
                          go_wp2_with fail
                          exact ⟨⟨j + 1, by omega, by go_num, by rw [hnx.out]; simp, hend⟩, by simp [intOf]; omega⟩
                        | false =>
                          go_wp2_with fail
                          exact ⟨⟨j + 1, by omega, by go_num, by rw [hnx.out]; simp, hend⟩, by simp [intOf]; omega⟩
                      · obtain rfl : j = H'.length := by omega
                        rw [hany.out]
                        have q5 : ¬ ((H'.length : Int) + 1 ≤ (H'.length : Int)) := by omega
                        replace hLn := Lib.hid hLn
                        have hS7 := hS6.out.below hbj
                        have hc7 := fun (q : Nat) (x : KK) (hx : T[q]? = some x) => hcell.out q x hx
                        replace hS7 := Lib.hid hS7
                        replace hc7 := Lib.hid hc7
                        clear hj hjg
                        go_wp2_with (first | (go_at_call 16; refine hLn.out.mono ?_; rintro e y1 ⟨rfl, rfl⟩))
                        obtain ⟨W7, rfl⟩ : ∃ W7, W7 = y1 := ⟨_, rfl⟩
                        go_loopw [111] (fun vq wr => ∃ q : Nat, q ≤ T.length ∧ vq = .int .i64 (q : Int) ∧ Below W7.heap.size W7 wr) (fun vq _ => T.length - (intOf vq).toNat)
                        case atStart => exact ⟨0, by omega, rfl, Below.refl _ _⟩
                        case round =>
                          obtain ⟨q, hql, rfl, hbq⟩ := hrel
                          obtain ⟨W8, rfl⟩ : ∃ W8, W8 = wr := ⟨_, rfl⟩
                          clear kc0 kc1 lqk
                          have hB8 := hbj.trans (hbq.mono hbj.size)
                          obtain ⟨kc0, kc1, lqk⟩ := hkc.out W8 hB8
                          rcases Nat.lt_or_ge q T.length with hqt | hqg
                          · obtain ⟨x, hx⟩ : ∃ x, T[q]? = some x := ⟨_, List.getElem?_eq_getElem hqt⟩
                            obtain ⟨bx, ox, rfl, lbx, hyx⟩ := hc7.out q x hx
                            obtain ⟨x0, x1⟩ := hyx W8 hB8
                            have hxT := List.mem_of_getElem? hx
                            have hokx := hS6.out.2.1 x hxT
                            have hne : decide (pk x = pk k) = false := decide_eq_false fun e => hnT.out (e ▸ List.mem_map_of_mem hxT)
                            have q6 : (0 : Int) ≤ (q : Int) := by omega
                            have q7 : (q : Int) < (T.length : Int) := by omega
                            have hSm := fun (y : World) => c_Same4 x.1 k.1 x.2 k.2 hokx.1 hk'.out.1 y
                            rw [sameK_pk x k, hne] at hSm
                            unfold keyV at hSm
                            obtain ⟨W9, hW9⟩ : ∃ W9, W8.alloc (.cells #[.string x.1, .int .i64 x.2] 32) = W9 := ⟨_, rfl⟩
                            have hb9 : Below W8.heap.size W8 W9 := by rw [← hW9]; exact (Below.refl _ _).alloc (Nat.le_refl _) _
                            have d9 : W9.heap[W8.heap.size]? = some (.cells #[.string x.1, .int .i64 x.2] 32 (0, 0)) := by rw [← hW9]; exact heap_alloc_new W8 _
                            have e0 : W9.cell? ⟨W8.heap.size, 0, none⟩ = some (.string x.1) := by rw [cell_of_row _ _ 0 _ _ _ d9]; rfl
                            have e1 : W9.cell? ⟨W8.heap.size, 1, none⟩ = some (.int .i64 x.2) := by rw [cell_of_row _ _ 1 _ _ _ d9]; rfl
                            obtain ⟨f0, f1, lf⟩ := hkc.out W9 (hB8.trans (hb9.mono hB8.size))
                            have hb79 := hbq.trans (hb9.mono hbq.size)
                            replace hSm := Lib.hid hSm
                            clear hx hyx d9 hne hokx hxT hb9 lbx
                            go_wp2_with (first | (go_at_call 40; refine (hSm.out _).mono ?_; rintro e y10 ⟨rfl, hb10⟩))
                            exact ⟨⟨q + 1, by omega, by go_num, hb79.trans (hb10.mono hb79.size)⟩, by simp [intOf]; omega⟩
                          · obtain rfl : q = T.length := by omega
                            have hS8 := hS7.out.below hbq
                            have hown := hS8.1
                            have hlw := hS8.2.2.2.1
                            have hTl' : T.length ≤ 400 := by omega
                            have hpush := fun (n : Nat) (w5 : World) (gg cap : Nat) (ob : Obj) (hn : n = T.length) (ho : w5.ownsRow W2.heap.size 32 2 (.slice (some ⟨gg, 0, none⟩) (n + 1) cap) (n + 1) (flatK T ++ [.string k.1, .int .i64 k.2])) (hg : (W8.alloc ob).grownBy w5 (Value.slice p6 T.length c6).ownBlock) (hat : (Value.slice p6 T.length c6).ownBlock = some gg ∨ gg = W8.heap.size + 1) => hS8.push hn hk'.out ho hg hat (by rw [List.map_append]; exact hI'.out)
                            obtain ⟨i0, hi0, hz0, hz1, hz2'⟩ := info_parts infoKey
                            replace hpush := Lib.hid hpush
                            clear hS8 hql hqg
                            go_wp2_with (first | (at_builtin; go_loud (refine wpList_append_lies _ (by rfl) _ _ _ (by rfl) W2.heap.size 32 i0 _ 2 24 Try.underlying51 hi0 hz0 hz1 hz2' rfl (by omega) (.slice p6 T.length c6) T.length (flatK T) (by rfl) (hown.alloc _) ⟨_, 0, none⟩ 1 1 [.string k.1, .int .i64 k.2] (by rfl) (by rfl) (World.news_of_block (cs := #[.string k.1, .int .i64 k.2]) (t := 32) (fr := (0, 0)) (by exact heap_alloc_new _ _)) (by simp [Value.oneCell']) (by omega) (by unfold maxLen; omega) (by omega) (by simp; omega) _ rfl ?_); intro gg cap w5 hown5 hgrow hat hlt5; have hS9 := Lib.hid (hpush.out _ w5 gg cap _ rfl hown5 hgrow (by simpa using hat)); clear hgrow hat hown5))
                            exact ⟨⟨i + 1, by omega, by go_num, ⟨H', B, st', T ++ [k], ⟨hB1, by omega, by omega, hnod.out⟩, hS9.out, by simp; omega⟩⟩, by simp [intOf]; omega⟩
                · obtain ⟨b2, o2, rfl, lb, hrg⟩ := hL2.out i x hx
                  replace hrg := hrg W4 hBY.out
                  have hlm : i < m.length := (List.getElem?_eq_some_iff.1 hx).1
                  have q2 : (i : Int) < (m.length : Int) := by omega
                  have c0 : W4.cell? ⟨b2, o2 + i * 6, none⟩ = some (.int .i64 x.kd) := by have := hrg 0 _ rfl; simpa using this
                  obtain ⟨kx, hkx⟩ : ∃ kx, kx = x.kd := ⟨_, rfl⟩
                  rw [← hkx] at c0 hkd
                  clear hrg hx hkx lb
                  go_upto_region 20 with fail
                  clear c0 q2
                  go_upto_region 21 with (first | (go_at_call 39; refine hNx.out.mono ?_; rintro e y5 hP; obtain ⟨st', k, t, hE5, rfl, hq⟩ := hP.form))
                  obtain ⟨W6, hW6⟩ : ∃ W6, y5.alloc (.cells #[.string k.1, .int .i64 k.2] 32) = W6 := ⟨_, rfl⟩
                  rw [hW6]
                  have hb6 : Below y5.heap.size y5 W6 := by rw [← hW6]; exact (Below.refl _ _).alloc (Nat.le_refl _) _
                  have d6 : W6.heap[y5.heap.size]? = some (.cells #[.string k.1, .int .i64 k.2] 32 (0, 0)) := by rw [← hW6]; exact heap_alloc_new y5 _
                  have hnx := told_next hnod (1000 - st.lv) st (T.map pk) hS.2.2.2.2
                  have hHl : H'.length ≤ 1000 := by have := used_len H'; omega
                  cases t with
                  | false =>
                    have hI' : ToldI st' (T.map pk) := by
                      rcases hq with ⟨h, _⟩ | ⟨_, _, hq⟩
                      · cases h
                      · rw [hq] at hnx; exact hnx
                    have hS6 := Lib.hid ((hS.next hE5 hI').below hb6)
                    clear hE5 hq hP hNx d6 hW6 hb6 hS hnx
                    go_wp2_with fail
                    exact ⟨⟨i + 1, by omega, by go_num, OnceR.same ⟨hB1, hBB, hu, hnod⟩ hS6.out hTl⟩, by simp [intOf]; omega⟩
                  | true =>
                    obtain ⟨hk, hnT, hI', hk2, o', ho'⟩ : okK k ∧ pk k ∉ T.map pk ∧ ToldI st' (T.map pk ++ [pk k]) ∧ (pk k).2 ≤ 0 ∧ ∃ o, (ownH H' o (pk k)).isSome = true := by
                      rcases hq with ⟨_, hk, hq⟩ | ⟨h, _⟩
                      · rw [hq] at hnx
                        exact ⟨hk, hnx⟩
                      · cases h
                    have hany := anyO_some ho'
                    have hS6 := (hS.next hE5 (told_less hI')).below hb6
                    have hL6 := hS6.2.2.1.law
                    have hLen := fun (y : World) (hy : Below W6.heap.size W6 y) => l_Len (hL6.below hy) (by omega)
                    have hOw := fun (y : World) (hy : Below W6.heap.size W6 y) (j : Nat) => l_HOwnV (hL6.below hy) ((j : Int) + 1) k hk
                    have hkc : ∀ y, Below W6.heap.size W6 y → y.cell? ⟨y5.heap.size, 0, none⟩ = some (.string k.1) ∧ y.cell? ⟨y5.heap.size, 1, none⟩ = some (.int .i64 k.2) ∧ y5.heap.size < y.heap.size := fun y hy => by
                      have h1 := (hy.block _ (heapH_lt d6)).trans d6
                      exact ⟨by rw [cell_of_row _ _ 0 _ _ _ h1]; rfl, by rw [cell_of_row _ _ 1 _ _ _ h1]; rfl, heapH_lt h1⟩
                    have hk0 : ¬ 0 < k.2 := fun h0 => by
                      unfold pk at hk2
                      rw [if_pos h0] at hk2
                      dsimp only at hk2
                      omega
                    obtain ⟨p6, c6, rfl, -, -, hcell⟩ := (own_rdk hS6.1).form
                    generalize hqk : y5.heap.size = qk at *
                    replace hS6 := Lib.hid hS6
                    replace hLen := Lib.hid hLen
                    replace hOw := Lib.hid hOw
                    replace hkc := Lib.hid hkc
                    replace hcell := Lib.hid hcell
                    replace hany := Lib.hid hany
                    replace hnod := Lib.hid hnod
                    replace hnT := Lib.hid hnT
                    replace hI' := Lib.hid hI'
                    have hk' := Lib.hid hk
                    clear hE5 hq hP hNx d6 hW6 hb6 hS hnx hk2 ho' hL6 hqk hk
                    go_wp2_with fail
                    go_loopw [16, 17] (fun v16 v17 wr => ∃ j : Nat, j ≤ H'.length ∧ v17 = .int .i64 ((j : Int) + 1) ∧ v16 = .bool (anyO H' (pk k) j) ∧ Below W6.heap.size W6 wr) (fun _ v17 _ => H'.length + 1 - (intOf v17).toNat)
                    case atStart => exact ⟨0, by omega, rfl, rfl, Below.refl _ _⟩
                    case round =>
                      obtain ⟨j, hj, rfl, rfl, hbj⟩ := hrel
                      obtain ⟨W7, rfl⟩ : ∃ W7, W7 = wr := ⟨_, rfl⟩
                      have hLn := hLen.out W7 hbj
                      obtain ⟨kc0, kc1, lqk⟩ := hkc.out W7 hbj
                      rcases Nat.lt_or_ge j H'.length with hjl | hjg
                      · have q5 : (j : Int) + 1 ≤ (H'.length : Int) := by omega
                        have hOx := hOw.out W7 hbj j
                        have hnx := anyO_next H' (pk k) j
                        generalize hP : (ownH H' ((j : Int) + 1) (pk k)).getD zeroPV = P at *
                        generalize hI : (ownH H' ((j : Int) + 1) (pk k)).isSome = bI at *
                        have hi13 : (Try.prog.info? 37).map (·.size) = some (encP P).toArray.size := infoProp
                        have ho13 := all_oneCell_toArray (encP_one P)
                        have hq := fun (y : World) => zeroQ_set y P
                        have hth := fun (y : World) => (zeroQ_there y : (y.alloc (.cells zeroQ 37)).there y.heap.size 0 (encP P).toArray.size)
                        replace hOx := Lib.hid hOx
                        replace hLn := Lib.hid hLn
                        replace hq := Lib.hid hq
                        replace hnx := Lib.hid hnx
                        clear hP hI
                        have tokD : True := trivial
                        go_upto_region 27 with (first | (go_at_call 16; refine hLn.out.mono ?_; rintro e y1 ⟨rfl, rfl⟩) | (go_at_call 20; refine hOx.out.mono ?_; rintro e y11 ⟨rfl, hb11⟩; have hth11 := hth y11; obtain ⟨hq1, hq2⟩ := hq.out y11; clear kc0 kc1) | (clear tokD; refine wpList_store_mid rfl 37 (.tmp 18) (.tmp 99) rfl y11.heap.size 0 (encP P).toArray rfl rfl hth11 hi13 ho13 ?_; generalize hW12 : World.setCells _ _ _ _ = W12; rw [show (y11.alloc (.cells zeroQ 37)).setCells y11.heap.size 0 (encP P) = W12 from hW12] at hq1 hq2; clear hW12 hth11))
                        have hb12 := hb11.trans (hq1.mono hb11.size)
                        have hend := hbj.trans (hb12.mono hbj.size)
                        clear hb11 hq1 hq2 hq hth hi13 ho13 hOx hLn hb12
                        cases bI with
                        | true =>
                          go_wp2_with fail
                          exact ⟨⟨j + 1, by omega, by go_num, by rw [hnx.out]; simp, hend⟩, by simp [intOf]; omega⟩
                        | false =>
                          go_wp2_with fail
                          exact ⟨⟨j + 1, by omega, by go_num, by rw [hnx.out]; simp, hend⟩, by simp [intOf]; omega⟩
                      · obtain rfl : j = H'.length := by omega
                        rw [hany.out]
                        have q5 : ¬ ((H'.length : Int) + 1 ≤ (H'.length : Int)) := by omega
                        replace hLn := Lib.hid hLn
                        have hS7 := hS6.out.below hbj
                        have hc7 := fun (q : Nat) (x : KK) (hx : T[q]? = some x) => hcell.out q x hx
                        replace hS7 := Lib.hid hS7
                        replace hc7 := Lib.hid hc7
                        clear hj hjg
                        go_wp2_with (first | (go_at_call 16; refine hLn.out.mono ?_; rintro e y1 ⟨rfl, rfl⟩))
                        obtain ⟨W7, rfl⟩ : ∃ W7, W7 = y1 := ⟨_, rfl⟩
                        go_loopw [111] (fun vq wr => ∃ q : Nat, q ≤ T.length ∧ vq = .int .i64 (q : Int) ∧ Below W7.heap.size W7 wr) (fun vq _ => T.length - (intOf vq).toNat)
                        case atStart => exact ⟨0, by omega, rfl, Below.refl _ _⟩
                        case round =>
                          obtain ⟨q, hql, rfl, hbq⟩ := hrel
                          obtain ⟨W8, rfl⟩ : ∃ W8, W8 = wr := ⟨_, rfl⟩
                          clear kc0 kc1 lqk
                          have hB8 := hbj.trans (hbq.mono hbj.size)
                          obtain ⟨kc0, kc1, lqk⟩ := hkc.out W8 hB8
                          rcases Nat.lt_or_ge q T.length with hqt | hqg
                          · obtain ⟨x, hx⟩ : ∃ x, T[q]? = some x := ⟨_, List.getElem?_eq_getElem hqt⟩
                            obtain ⟨bx, ox, rfl, lbx, hyx⟩ := hc7.out q x hx
                            obtain ⟨x0, x1⟩ := hyx W8 hB8
                            have hxT := List.mem_of_getElem? hx
                            have hokx := hS6.out.2.1 x hxT
                            have hne : decide (pk x = pk k) = false := decide_eq_false fun e => hnT.out (e ▸ List.mem_map_of_mem hxT)
                            have q6 : (0 : Int) ≤ (q : Int) := by omega
                            have q7 : (q : Int) < (T.length : Int) := by omega
                            have hSm := fun (y : World) => c_Same4 x.1 k.1 x.2 k.2 hokx.1 hk'.out.1 y
                            rw [sameK_pk x k, hne] at hSm
                            unfold keyV at hSm
                            obtain ⟨W9, hW9⟩ : ∃ W9, W8.alloc (.cells #[.string x.1, .int .i64 x.2] 32) = W9 := ⟨_, rfl⟩
                            have hb9 : Below W8.heap.size W8 W9 := by rw [← hW9]; exact (Below.refl _ _).alloc (Nat.le_refl _) _
                            have d9 : W9.heap[W8.heap.size]? = some (.cells #[.string x.1, .int .i64 x.2] 32 (0, 0)) := by rw [← hW9]; exact heap_alloc_new W8 _
                            have e0 : W9.cell? ⟨W8.heap.size, 0, none⟩ = some (.string x.1) := by rw [cell_of_row _ _ 0 _ _ _ d9]; rfl
                            have e1 : W9.cell? ⟨W8.heap.size, 1, none⟩ = some (.int .i64 x.2) := by rw [cell_of_row _ _ 1 _ _ _ d9]; rfl
                            obtain ⟨f0, f1, lf⟩ := hkc.out W9 (hB8.trans (hb9.mono hB8.size))
                            have hb79 := hbq.trans (hb9.mono hbq.size)
                            replace hSm := Lib.hid hSm
                            clear hx hyx d9 hne hokx hxT hb9 lbx
                            go_wp2_with (first | (go_at_call 40; refine (hSm.out _).mono ?_; rintro e y10 ⟨rfl, hb10⟩))
                            exact ⟨⟨q + 1, by omega, by go_num, hb79.trans (hb10.mono hb79.size)⟩, by simp [intOf]; omega⟩
                          · obtain rfl : q = T.length := by omega
                            have hS8 := hS7.out.below hbq
                            have hown := hS8.1
                            have hlw := hS8.2.2.2.1
                            have hTl' : T.length ≤ 400 := by omega
                            have hpush := fun (n : Nat) (w5 : World) (gg cap : Nat) (ob : Obj) (hn : n = T.length) (ho : w5.ownsRow W2.heap.size 32 2 (.slice (some ⟨gg, 0, none⟩) (n + 1) cap) (n + 1) (flatK T ++ [.string k.1, .int .i64 k.2])) (hg : (W8.alloc ob).grownBy w5 (Value.slice p6 T.length c6).ownBlock) (hat : (Value.slice p6 T.length c6).ownBlock = some gg ∨ gg = W8.heap.size + 1) => hS8.push hn hk'.out ho hg hat (by rw [List.map_append]; exact hI'.out)
                            obtain ⟨i0, hi0, hz0, hz1, hz2'⟩ := info_parts infoKey
                            replace hpush := Lib.hid hpush
                            clear hS8 hql hqg
                            go_wp2_with (first | (at_builtin; go_loud (refine wpList_append_lies _ (by rfl) _ _ _ (by rfl) W2.heap.size 32 i0 _ 2 24 Try.underlying51 hi0 hz0 hz1 hz2' rfl (by omega) (.slice p6 T.length c6) T.length (flatK T) (by rfl) (hown.alloc _) ⟨_, 0, none⟩ 1 1 [.string k.1, .int .i64 k.2] (by rfl) (by rfl) (World.news_of_block (cs := #[.string k.1, .int .i64 k.2]) (t := 32) (fr := (0, 0)) (by exact heap_alloc_new _ _)) (by simp [Value.oneCell']) (by omega) (by unfold maxLen; omega) (by omega) (by simp; omega) _ rfl ?_); intro gg cap w5 hown5 hgrow hat hlt5; have hS9 := Lib.hid (hpush.out _ w5 gg cap _ rfl hown5 hgrow (by simpa using hat)); clear hgrow hat hown5))
                            exact ⟨⟨i + 1, by omega, by go_num, ⟨H', B, st', T ++ [k], ⟨hB1, by omega, by omega, hnod.out⟩, hS9.out, by simp; omega⟩⟩, by simp [intOf]; omega⟩
            · obtain rfl : i = m.length + 60 := by omega
              have q3 : ¬ ((((m.length + 60 : Nat) : Int)) < (m.length : Int) + 60) := by omega
              have hBY := Lib.hid (hB2.out.trans (hbW.mono hB2.out.size))
              have hr3 := heap_alloc2_new W4 (.cells #[.nilFunc, .int .i64 0] 82) (.cells #[.pointer none, .pointer (some ⟨W4.heap.size, 0, none⟩)] 76)
              have hb3 := two_belowH W4 (.cells #[.nilFunc, .int .i64 0] 82) (.cells #[.pointer none, .pointer (some ⟨W4.heap.size, 0, none⟩)] 76)
              have hn3 : ((W4.alloc (.cells #[.nilFunc, .int .i64 0] 82)).alloc (.cells #[.pointer none, .pointer (some ⟨W4.heap.size, 0, none⟩)] 76)).heap[W4.heap.size]? = some (.cells #[.nilFunc, .int .i64 0] 82 (0, 0)) := by
                rw [Below.heap_alloc _ _ _ (by simp)]; exact heap_alloc_new W4 _
              clear hS hnod hTl hB1 hBB hu hi hge hbW
              go_wp2_with fail
              generalize hW5 : (W4.alloc (.cells #[.nilFunc, .int .i64 0] 82)).alloc (.cells #[.pointer none, .pointer (some ⟨W4.heap.size, 0, none⟩)] 76) = W5 at *
              have hfin := Lib.hid (hBY.out.trans (hb3.mono hBY.out.size))
              have hrc : ∀ y, Below W5.heap.size W5 y → (y.cell? ⟨W4.heap.size + 1, 0, none⟩ = some (.pointer none) ∧ y.cell? ⟨W4.heap.size + 1, 1, none⟩ = some (.pointer (some ⟨W4.heap.size, 0, none⟩))) ∧ y.heap[W4.heap.size]? = some (.cells #[.nilFunc, .int .i64 0] 82 (0, 0)) := fun y hy => by
                have h1 := (hy.block _ (heapH_lt hr3)).trans hr3
                exact ⟨⟨by rw [cell_of_row _ _ 0 _ _ _ h1]; rfl, by rw [cell_of_row _ _ 1 _ _ _ h1]; rfl⟩, (hy.block _ (heapH_lt hn3)).trans hn3⟩
              generalize W4.heap.size = b0 at *
              replace hrc := Lib.hid hrc
              clear hr3 hb3 hn3 hW5 hBY
              go_loopw [128] (fun vi wr => ∃ z : Int, (z = 0 ∨ z = 1 ∨ z = 2) ∧ vi = .int .i64 z ∧ Below W5.heap.size W5 wr) (fun vi _ => 2 - (intOf vi).toNat)
              case atStart => exact ⟨0, .inl rfl, rfl, Below.refl _ _⟩
              case round =>
                obtain ⟨z, hz5, rfl, hbel⟩ := hrel
                obtain ⟨W6, rfl⟩ : ∃ W6, W6 = wr := ⟨_, rfl⟩
                obtain ⟨⟨c0, c1⟩, cb⟩ := hrc.out W6 hbel
                rcases hz5 with rfl | rfl | rfl
                · clear cb
                  go_upto_region 43 with (first | (go_at_call 39; refine (c_ENext0 _).mono ?_; rintro e y1 ⟨rfl, hy1⟩))
                  have hbel2 := Lib.hid (hbel.trans ((hy1.alloc hy1.size (.cells #[.string ⟨#[]⟩, .int .i64 0] 32)).mono hbel.size))
                  clear hy1 c0 c1
                  go_wp2_with (first | (go_at_call 41; refine (c_ELooked0 _).mono ?_; rintro e y2 ⟨rfl, rfl⟩))
                  exact ⟨⟨1, by simp, rfl, hbel2.out⟩, by simp [intOf]⟩
                · have hNz := c_ENextZ W6 b0 0 cb
                  replace hNz := Lib.hid hNz
                  clear cb
                  go_upto_region 43 with (first | (go_at_call 39; refine hNz.out.mono ?_; rintro e y1 ⟨rfl, hy1⟩))
                  have hbel2 := hbel.trans ((hy1.alloc hy1.size (.cells #[.string ⟨#[]⟩, .int .i64 0] 32)).mono hbel.size)
                  have hLz := fun (y : World) (hy : Below W5.heap.size W5 y) => c_ELookedZ y b0 0 (hrc.out y hy).2
                  replace hLz := Lib.hid hLz
                  clear hy1 c0 c1
                  go_wp2_with (first | (go_at_call 41; refine (hLz.out _ hbel2).mono ?_; rintro e y2 ⟨rfl, rfl⟩))
                  exact ⟨⟨2, by simp, rfl, hbel2⟩, by simp [intOf]⟩
                · clear cb c0 c1
                  go_wp2_with fail
                  go_ret
                  exact ⟨rfl, hfin.out.trans (hbel.mono hfin.out.size)⟩
end Go.Proofs.Ytoccmiinkfhohaa
namespace Go.Proofs.Ytoccmiinkfhohaa
open Go.RowKit Go.Shelf Go.Lib Go.Sort Go.Proofs Go.ChangeShapes Go.WideShapes Go.ChangeAt
set_option maxHeartbeats 1000000
set_option maxRecDepth 8000

theorem bulk_small {H : Type} {ds : List (DataW H)} (hk : Rows.uptoSmall H ds = true) : Rows.uptoBulkAll ds ≤ 1048576 := of_decide_eq_true hk
theorem bulk_part {H : Type} {d : DataW H} {l : List (DataW H)} (h : d ∈ l) : Rows.uptoBulk d ≤ Rows.uptoBulkAll l := by
  induction l with
  | nil => cases h
  | cons x r ih =>
    simp only [Rows.uptoBulkAll]
    rcases List.mem_cons.1 h with rfl | e
    · omega
    · have := ih e; omega
theorem cellsOp : Try.prog.cellsOf 39 = 18 := by kernel_rfl
theorem cellsValue : Try.prog.cellsOf 35 = 4 := by kernel_rfl
theorem cellsProp : Try.prog.cellsOf 37 = 13 := by kernel_rfl
theorem cellsFloat : Try.prog.cellsOf 33 = 1 := by kernel_rfl
section
variable {H : Type} {enc : TypeId × Value → H} {P : Program} {w : World} {base : Nat} {spare : Nat → Bool} {held : Bool}
theorem trod_float5 {t : TypeId} {k : FloatKind} {fuel : Nat} {cs : List Value} {x : DataW H × List MemPlace} (ht : P.underlying t = some (.float k)) (h : DataW.trod enc P w base spare held fuel t cs = some x) : ∃ b, cs = [.float k b] ∧ x = (.lit (.float k b), []) := by
  cases fuel with
  | zero => simp [DataW.trod] at h
  | succ n =>
    unfold DataW.trod at h
    rw [ht] at h
    split at h <;> simp_all
end
section
variable {H : Type} {enc : TypeId × Value → H} {w : World} {base : Nat} {spare : Nat → Bool} {held : Bool}
def encV (v : VV) : List Value := [.int .i64 v.k, .float .f64 v.x, .string v.s, .int .i64 v.r]
theorem value_open {fuel : Nat} {cs : List Value} {x : DataW H × List MemPlace} (h : DataW.trod enc Try.prog w base spare held fuel 35 cs = some x) : ∃ v : VV, cs = encV v ∧ v.s.size ≤ Rows.uptoBulk x.1 := by
  obtain ⟨y0, y1, y2, y3, n, rfl, hl, h0, h1, h2, h3⟩ := Go.Joins.trod_struct4 Try.underlying35 h
  rw [cellsValue] at hl
  match cs, hl with
  | [c0, c1, c2, c3], _ =>
    obtain ⟨k, e0, _, _⟩ := DataW.trod_int Try.underlying3 h0
    obtain ⟨f, e1, _⟩ := trod_float5 Try.underlying33 h1
    obtain ⟨s, e2, g2, _⟩ := DataW.trod_string Try.underlying30 h2
    obtain ⟨r, e3, _, _⟩ := DataW.trod_int Try.underlying3 h3
    simp [cellsInt, cellsFloat, cellsStr] at e0 e1 e2 e3
    subst e0 e1 e2 e3
    refine ⟨⟨k, f, s, r⟩, rfl, ?_⟩
    have h3 : s.data.toList.length = s.size := rfl
    subst g2
    simp only [Rows.uptoBulk, Rows.uptoBulkAll]
    omega
theorem prop_open {fuel : Nat} {cs : List Value} {x : DataW H × List MemPlace} (h : DataW.trod enc Try.prog w base spare held fuel 37 cs = some x) : ∃ p : PV, cs = encP p ∧ p.v.s.size ≤ Rows.uptoBulk x.1 := by
  obtain ⟨y0, y1, y2, y3, n, rfl, hl, h0, h1, h2, h3⟩ := Go.Joins.trod_struct4 Try.underlying37 h
  rw [cellsProp] at hl
  match cs, hl with
  | [c0, c1, c2, c3, c4, c5, c6, c7, c8, c9, c10, c11, c12], _ =>
    obtain ⟨v, e0, g0⟩ := value_open h0
    obtain ⟨g, e1, _⟩ := value_open h1
    obtain ⟨t, e2, _⟩ := value_open h2
    obtain ⟨r, e3, _, _⟩ := DataW.trod_int Try.underlying3 h3
    simp [cellsValue, cellsInt, encV] at e0 e1 e2 e3
    obtain ⟨rfl, rfl, rfl, rfl⟩ := e0
    obtain ⟨rfl, rfl, rfl, rfl⟩ := e1
    obtain ⟨rfl, rfl, rfl, rfl⟩ := e2
    subst e3
    refine ⟨⟨v, g, t, r⟩, rfl, ?_⟩
    show v.s.size ≤ _
    simp only [Rows.uptoBulk, Rows.uptoBulkAll]
    omega
theorem keyc_open {fuel : Nat} {cs : List Value} {x : DataW H × List MemPlace} (h : DataW.trod enc Try.prog w base spare held fuel 32 cs = some x) : ∃ k : KK, cs = [.string k.1, .int .i64 k.2] ∧ k.1.size ≤ Rows.uptoBulk x.1 ∧ (Lit.int .i64 k.2).wf = true := by
  obtain ⟨y0, y1, n, rfl, hl, h0, h1⟩ := Go.ChangeShapes.trod_struct2 Try.underlying32 h
  rw [cellsKey] at hl
  match cs, hl with
  | [c0, c1], _ =>
    obtain ⟨s, e0, g0, _⟩ := DataW.trod_string Try.underlying30 h0
    obtain ⟨r, e1, _, hw⟩ := DataW.trod_int Try.underlying3 h1
    simp [cellsInt, cellsStr] at e0 e1
    subst e0 e1
    refine ⟨(s, r), rfl, ?_, hw⟩
    subst g0
    have h3 : s.data.toList.length = s.size := rfl
    simp only [Rows.uptoBulk, Rows.uptoBulkAll]
    show s.size ≤ _
    omega
theorem op_open {fuel : Nat} {cs : List Value} {x : DataW H × List MemPlace} (h : DataW.trod enc Try.prog w base spare held fuel 39 cs = some x) : ∃ z : OP, cs = encO z ∧ z.k.1.size + z.p.v.s.size + 1 ≤ Rows.uptoBulk x.1 ∧ (Lit.int .i64 z.k.2).wf = true := by
  obtain ⟨xs, n, _, rfl, hl, hlen, hf⟩ := DataW.trod_struct Try.underlying39 h
  rw [cellsOp] at hl
  match xs, hlen with
  | [y0, y1, y2, y3, y4], _ =>
    have h0 := hf 0 _ rfl
    have h1 := hf 1 _ rfl
    have h2 := hf 2 _ rfl
    have h3 := hf 3 _ rfl
    have h4 := hf 4 _ rfl
    match cs, hl with
    | [c0, c1, c2, c3, c4, c5, c6, c7, c8, c9, c10, c11, c12, c13, c14, c15, c16, c17], _ =>
      obtain ⟨a, e0, _, _⟩ := DataW.trod_int Try.underlying3 h0
      obtain ⟨b, e1, _, _⟩ := DataW.trod_int Try.underlying3 h1
      obtain ⟨c, e2, _, _⟩ := DataW.trod_int Try.underlying3 h2
      obtain ⟨k, e3, g3, hw⟩ := keyc_open h3
      obtain ⟨p, e4, g4⟩ := prop_open h4
      simp [cellsInt, cellsKey, cellsProp, encP] at e0 e1 e2 e3 e4
      subst e0 e1 e2
      obtain ⟨rfl, rfl⟩ := e3
      obtain ⟨rfl, rfl, rfl, rfl, rfl, rfl, rfl, rfl, rfl, rfl, rfl, rfl, rfl⟩ := e4
      refine ⟨⟨a, b, c, k, p⟩, rfl, ?_, hw⟩
      show k.1.size + p.v.s.size + 1 ≤ _
      simp only [List.map_cons, Rows.uptoBulk, Rows.uptoBulkAll]
      omega
theorem bulk_ops (q : Nat → OP) (D : Nat → DataW H) (is : List Nat) (h : ∀ i ∈ is, (q i).k.1.size + (q i).p.v.s.size + 1 ≤ Rows.uptoBulk (D i)) : (is.map fun i => (q i).k.1.size + (q i).p.v.s.size + 1).sum ≤ Rows.uptoBulkAll (is.map D) := by
  induction is with
  | nil => simp
  | cons i is ih =>
    have h1 := ih (fun j hj => h j (by simp [hj]))
    have h2 := h i (by simp)
    simp only [List.map_cons, List.sum_cons, Rows.uptoBulkAll]
    omega
end
theorem ops_open {H : Type} {enc : TypeId × Value → H} {W : World} {base : Nat} {v : Value} {d : DataW H} {p : List MemPlace} (hok : Value.okWide Try.prog W .any base 22 v) (h : DataW.Trod enc Try.prog W 0 (fun _ => true) true 22 v d p) (hb : Rows.uptoBulk d ≤ 1048576) :
    ∃ l : List OP, RdO W v l ∧ (l.map fun x => x.k.1.size + x.p.v.s.size + 1).sum ≤ 1048576 ∧ ∀ x ∈ l, okK x.k := by
  obtain ⟨a0, len0, cap0, rfl⟩ := okWide_slice Try.underlying22 hok
  obtain ⟨fuel, hf⟩ := h
  rcases Go.Deep.open_slice Try.underlying22 hf with ⟨hcs, hx⟩ | ⟨a, len, cap, m, n, D, Pl, hcs, hba, hlc, hcm, hm, hx, hcell⟩
  · simp [Value.cells] at hcs
    obtain ⟨rfl, rfl, rfl⟩ := hcs
    exact ⟨[], .inl ⟨rfl, rfl⟩, by simp, by simp⟩
  · simp [Value.cells] at hcs
    obtain ⟨rfl, rfl, rfl⟩ := hcs
    rw [cellsOp] at hcell
    have each : ∀ i, i < len0 → ∃ q : OP, (∀ j u, (encO q)[j]? = some u → W.cell? (a.add (i * 18 + j)) = some u) ∧ q.k.1.size + q.p.v.s.size + 1 ≤ Rows.uptoBulk (D i) ∧ (Lit.int .i64 q.k.2).wf = true := by
      intro i hi
      obtain ⟨cs', c0, t0⟩ := hcell i (by rw [hm]; split <;> omega)
      obtain ⟨q, rfl, g1, g2⟩ := op_open t0
      obtain ⟨_, hl, hat⟩ := World.cells?_some c0
      refine ⟨q, fun j u hu => ?_, g1, g2⟩
      have hj : j < 18 := (List.getElem?_eq_some_iff.1 hu).1
      rw [← Go.Deep.add_add, hat j hj, hu]
    obtain ⟨q, hq⟩ := Go.Deep.choose_lt each
    have hl : ((List.range len0).map q).length = len0 := by simp
    have hbk := bulk_ops q D (List.range len0) (fun i hi => (hq i (List.mem_range.1 hi)).2.1)
    have hd : d = _ := congrArg Prod.fst hx
    rw [hd] at hb
    simp only [Rows.uptoBulk] at hb
    have hsum : (((List.range len0).map q).map fun x => x.k.1.size + x.p.v.s.size + 1).sum ≤ 1048576 := by
      rw [List.map_map]
      have : ((fun x : OP => x.k.1.size + x.p.v.s.size + 1) ∘ q) = fun i => (q i).k.1.size + (q i).p.v.s.size + 1 := rfl
      rw [this]
      omega
    refine ⟨(List.range len0).map q, .inr ⟨a, cap0, by rw [hl], by rw [hl]; exact hlc, ?_⟩, hsum, ?_⟩
    · intro k x hx
      have hk : k < len0 := by have := (List.getElem?_eq_some_iff.1 hx).1; simpa using this
      have hxe : q k = x := by simpa [hk] using hx
      obtain ⟨e0, _⟩ := hq k hk
      obtain ⟨d0, _⟩ := hq 0 (by omega)
      have hsp : a.spot = none := by
        have d1 := d0 0 _ rfl
        have h00 : a.add (0 * 18 + 0) = a := by simp [Addr.add]
        rw [h00] at d1
        unfold World.cell? at d1
        cases hs : a.spot with
        | none => rfl
        | some z =>
          rw [hs] at d1
          cases hh : W.heap[a.block]? with
          | none => simp [hh] at d1
          | some o => cases o <;> simp [hh] at d1
      have hadd : ∀ j, a.add j = ⟨a.block, a.off + j, none⟩ := by
        intro j
        unfold Addr.add
        split
        · rename_i h0; subst h0; rw [← hsp]; simp
        · rfl
      refine ⟨hsp, fun j u hu => ?_⟩
      have := e0 j u (by rw [hxe]; exact hu)
      rw [hadd, ← Nat.add_assoc] at this
      exact this
    · intro x hx
      obtain ⟨i, hi, rfl⟩ := List.mem_map.1 hx
      have hi' := List.mem_range.1 hi
      obtain ⟨_, g1, g2⟩ := hq i hi'
      have hle : (q i).k.1.size + (q i).p.v.s.size + 1 ≤ (((List.range len0).map q).map fun x => x.k.1.size + x.p.v.s.size + 1).sum := mem_le_sum (List.mem_map.2 ⟨q i, hx, rfl⟩)
      exact ⟨by omega, g2⟩
theorem key_open5 {H : Type} {enc : TypeId × Value → H} {W : World} {base : Nat} {v : Value} {d : DataW H} {p : List MemPlace} (hok : Value.okWide Try.prog W .any base 32 v) (h : DataW.Trod enc Try.prog W 0 (fun _ => true) true 32 v d p) :
    ∃ x : KK, v = keyV x.1 x.2 := by
  obtain ⟨v0, v1, y0, y1, n, rfl, rfl, _, h0, h1⟩ := Go.Joins.open_agg2 Try.underlying32 (by kernel_rfl) cellsKey hok h
  obtain ⟨s, e1, e2, _⟩ := DataW.trod_string Try.underlying30 h0
  obtain ⟨z, e3, e4, _⟩ := DataW.trod_int Try.underlying3 h1
  simp at e1 e3
  subst e1; subst e3
  exact ⟨(s, z), rfl⟩
theorem ops_few {l : List OP} (h : (l.map fun x => x.k.1.size + x.p.v.s.size + 1).sum ≤ 1048576) (hk : ∀ x ∈ l, okK x.k) : fewO l l.length ≤ 4194304 ∧ ∀ x ∈ l, (x.k.1.size ≤ 4194304 ∧ x.p.v.s.size ≤ 4194304) ∧ okK x.k := by
  have h1 : fewO l l.length ≤ (l.map fun x => x.k.1.size + x.p.v.s.size + 1).sum := by
    unfold fewO
    rw [List.take_length]
    clear h hk
    induction l with
    | nil => simp
    | cons a l ih =>
      simp only [List.map_cons, List.sum_cons, List.length_cons]
      unfold fewS at *
      omega
  refine ⟨by omega, fun x hx => ?_⟩
  have : x.k.1.size + x.p.v.s.size + 1 ≤ (l.map fun x => x.k.1.size + x.p.v.s.size + 1).sum := mem_le_sum (List.mem_map.2 ⟨x, hx, rfl⟩)
  exact ⟨⟨by omega, by omega⟩, hk x hx⟩
end Go.Proofs.Ytoccmiinkfhohaa
namespace Go.Proofs.Ytoccmiinkfhohaa
open Go.RowKit Go.Shelf Go.Lib Go.Sort Go.Proofs Go.ChangeShapes Go.WideShapes Go.ChangeAt
set_option maxHeartbeats 1000000
set_option maxRecDepth 8000

theorem cellsOq : Try.prog.cellsOf 70 = 6 := by kernel_rfl
section
variable {H : Type} {enc : TypeId × Value → H} {w : World} {base : Nat} {spare : Nat → Bool} {held : Bool}
theorem oq_open {fuel : Nat} {cs : List Value} {x : DataW H × List MemPlace} (h : DataW.trod enc Try.prog w base spare held fuel 70 cs = some x) : ∃ z : OQ, cs = encQ z ∧ z.k.1.size + 1 ≤ Rows.uptoBulk x.1 ∧ (Lit.int .i64 z.k.2).wf = true := by
  obtain ⟨xs, n, _, rfl, hl, hlen, hf⟩ := DataW.trod_struct Try.underlying70 h
  rw [cellsOq] at hl
  match xs, hlen with
  | [y0, y1, y2, y3, y4], _ =>
    have h0 := hf 0 _ rfl
    have h1 := hf 1 _ rfl
    have h2 := hf 2 _ rfl
    have h3 := hf 3 _ rfl
    have h4 := hf 4 _ rfl
    match cs, hl with
    | [c0, c1, c2, c3, c4, c5], _ =>
      obtain ⟨a, e0, _, _⟩ := DataW.trod_int Try.underlying3 h0
      obtain ⟨b, e1, _, _⟩ := DataW.trod_int Try.underlying3 h1
      obtain ⟨c, e2, _, _⟩ := DataW.trod_int Try.underlying3 h2
      obtain ⟨k, e3, g3, hw⟩ := keyc_open h3
      obtain ⟨p, e4, _, _⟩ := DataW.trod_int Try.underlying3 h4
      simp [cellsInt, cellsKey] at e0 e1 e2 e3 e4
      subst e0 e1 e2 e4
      obtain ⟨rfl, rfl⟩ := e3
      refine ⟨⟨a, b, c, k, p⟩, rfl, ?_, hw⟩
      show k.1.size + 1 ≤ _
      simp only [List.map_cons, Rows.uptoBulk, Rows.uptoBulkAll]
      omega
theorem bulk_oqs (q : Nat → OQ) (D : Nat → DataW H) (is : List Nat) (h : ∀ i ∈ is, (q i).k.1.size + 1 ≤ Rows.uptoBulk (D i)) : (is.map fun i => (q i).k.1.size + 1).sum ≤ Rows.uptoBulkAll (is.map D) := by
  induction is with
  | nil => simp
  | cons i is ih =>
    have h1 := ih (fun j hj => h j (by simp [hj]))
    have h2 := h i (by simp)
    simp only [List.map_cons, List.sum_cons, Rows.uptoBulkAll]
    omega
end
theorem oqs_open {H : Type} {enc : TypeId × Value → H} {W : World} {base : Nat} {v : Value} {d : DataW H} {p : List MemPlace} (hok : Value.okWide Try.prog W .any base 67 v) (h : DataW.Trod enc Try.prog W 0 (fun _ => true) true 67 v d p) (hb : Rows.uptoBulk d ≤ 1048576) :
    ∃ l : List OQ, RdQ W v l ∧ (l.map fun x => x.k.1.size + 1).sum ≤ 1048576 ∧ ∀ x ∈ l, okK x.k := by
  obtain ⟨a0, len0, cap0, rfl⟩ := okWide_slice Try.underlying67 hok
  obtain ⟨fuel, hf⟩ := h
  rcases Go.Deep.open_slice Try.underlying67 hf with ⟨hcs, hx⟩ | ⟨a, len, cap, m, n, D, Pl, hcs, hba, hlc, hcm, hm, hx, hcell⟩
  · simp [Value.cells] at hcs
    obtain ⟨rfl, rfl, rfl⟩ := hcs
    exact ⟨[], .inl ⟨rfl, rfl⟩, by simp, by simp⟩
  · simp [Value.cells] at hcs
    obtain ⟨rfl, rfl, rfl⟩ := hcs
    rw [cellsOq] at hcell
    have each : ∀ i, i < len0 → ∃ q : OQ, (∀ j u, (encQ q)[j]? = some u → W.cell? (a.add (i * 6 + j)) = some u) ∧ q.k.1.size + 1 ≤ Rows.uptoBulk (D i) ∧ (Lit.int .i64 q.k.2).wf = true := by
      intro i hi
      obtain ⟨cs', c0, t0⟩ := hcell i (by rw [hm]; split <;> omega)
      obtain ⟨q, rfl, g1, g2⟩ := oq_open t0
      obtain ⟨_, hl, hat⟩ := World.cells?_some c0
      refine ⟨q, fun j u hu => ?_, g1, g2⟩
      have hj : j < 6 := (List.getElem?_eq_some_iff.1 hu).1
      rw [← Go.Deep.add_add, hat j hj, hu]
    obtain ⟨q, hq⟩ := Go.Deep.choose_lt each
    have hl : ((List.range len0).map q).length = len0 := by simp
    have hbk := bulk_oqs q D (List.range len0) (fun i hi => (hq i (List.mem_range.1 hi)).2.1)
    have hd : d = _ := congrArg Prod.fst hx
    rw [hd] at hb
    simp only [Rows.uptoBulk] at hb
    have hsum : (((List.range len0).map q).map fun x => x.k.1.size + 1).sum ≤ 1048576 := by
      rw [List.map_map]
      have : ((fun x : OQ => x.k.1.size + 1) ∘ q) = fun i => (q i).k.1.size + 1 := rfl
      rw [this]
      omega
    refine ⟨(List.range len0).map q, .inr ⟨a, cap0, by rw [hl], by rw [hl]; exact hlc, ?_⟩, hsum, ?_⟩
    · intro k x hx
      have hk : k < len0 := by have := (List.getElem?_eq_some_iff.1 hx).1; simpa using this
      have hxe : q k = x := by simpa [hk] using hx
      obtain ⟨e0, _⟩ := hq k hk
      obtain ⟨d0, _⟩ := hq 0 (by omega)
      have hsp : a.spot = none := by
        have d1 := d0 0 _ rfl
        have h00 : a.add (0 * 6 + 0) = a := by simp [Addr.add]
        rw [h00] at d1
        unfold World.cell? at d1
        cases hs : a.spot with
        | none => rfl
        | some z =>
          rw [hs] at d1
          cases hh : W.heap[a.block]? with
          | none => simp [hh] at d1
          | some o => cases o <;> simp [hh] at d1
      have hadd : ∀ j, a.add j = ⟨a.block, a.off + j, none⟩ := by
        intro j
        unfold Addr.add
        split
        · rename_i h0; subst h0; rw [← hsp]; simp
        · rfl
      refine ⟨hsp, fun j u hu => ?_⟩
      have := e0 j u (by rw [hxe]; exact hu)
      rw [hadd, ← Nat.add_assoc] at this
      exact this
    · intro x hx
      obtain ⟨i, hi, rfl⟩ := List.mem_map.1 hx
      have hi' := List.mem_range.1 hi
      obtain ⟨_, g1, g2⟩ := hq i hi'
      have hle : (q i).k.1.size + 1 ≤ (((List.range len0).map q).map fun x => x.k.1.size + 1).sum := mem_le_sum (List.mem_map.2 ⟨q i, hx, rfl⟩)
      exact ⟨by omega, g2⟩
theorem oqs_few {l : List OQ} (h : (l.map fun x => x.k.1.size + 1).sum ≤ 1048576) (hk : ∀ x ∈ l, okK x.k) : fewQ l l.length ≤ 4194304 ∧ ∀ x ∈ l, x.k.1.size ≤ 4194304 ∧ okK x.k := by
  have h1 : fewQ l l.length ≤ (l.map fun x => x.k.1.size + 1).sum := by
    unfold fewQ
    rw [List.take_length]
    clear h hk
    induction l with
    | nil => simp
    | cons a l ih =>
      simp only [List.map_cons, List.sum_cons, List.length_cons]
      unfold fewT at *
      omega
  refine ⟨by omega, fun x hx => ?_⟩
  have : x.k.1.size + 1 ≤ (l.map fun x => x.k.1.size + 1).sum := mem_le_sum (List.mem_map.2 ⟨x, hx, rfl⟩)
  exact ⟨by omega, hk x hx⟩
end Go.Proofs.Ytoccmiinkfhohaa
namespace Go.Proofs.Ytoccmiinkfhohaa.iterateOnce
open Go.ChangeShapes Go.WideShapes Go.ChangeAt Go.RowKit
set_option linter.unusedVariables false

theorem own : ownKnob Try.prog.godebug = none := by kernel_rfl
set_option maxRecDepth 100000 in
theorem contract (H : Type) (enc : TypeId × Value → H) (W : World) (base : Nat) (args : Array Value) (ds gs : List (DataW H)) (before : List MemPlace)
    (hval : ∀ (j : Nat) t v, Try.f7.params[j]? = some t → args[j]? = some v → Value.okWide Try.prog W .any base t v)
    (hW : DataW.Whole enc Try.prog Try.f7.params.toList Rows.iterateOnceSpec.vars false W args.toList ds gs before) (hk : Rows.uptoSmall H (ds ++ gs) = true) :
    Calls Try.prog 7 args W fun e W' => ∃ v, e = .returned v ∧ Rows.iterateOnceSpec.post enc Try.prog Try.f7 false true false false W args v W' := by
  have hW' := hW
  obtain ⟨p, q, hA0, hV, rfl, hfz, hnd⟩ := hW
  have hA : DataW.TrodAll enc Try.prog W 0 (fun _ => true) true Try.f7.params.toList args.toList ds p := hA0
  rw [Try.params7] at hA hval
  obtain ⟨v0, vs0, d0, ds0, p0, q0, hargs, rfl, rfl, h0, r0⟩ := trodAll_cons hA
  obtain ⟨v1, vs1, d1, ds1, p1, q1, rfl, rfl, rfl, h1, r1⟩ := trodAll_cons r0
  obtain ⟨v2, vs2, d2, ds2, p2, q2, rfl, rfl, rfl, h2, r2⟩ := trodAll_cons r1
  obtain ⟨rfl, rfl, rfl⟩ := trodAll_nil r2
  obtain rfl : args = #[v0, v1, v2] := by cases args; simp_all
  obtain ⟨rfl, rfl⟩ := trodVars_none hV
  have hb := bulk_small hk
  simp only [List.append_nil] at hW' hb
  obtain ⟨z0, rfl⟩ := okWide_int Try.underlying3 (hval 1 3 v1 rfl rfl)
  obtain ⟨l1, hr1, hs1, ho1⟩ := oqs_open (hval 0 67 v0 rfl rfl) h0 (Nat.le_trans (bulk_part (by simp)) hb)
  obtain ⟨hf1, hg1⟩ := oqs_few hs1 ho1
  obtain ⟨l2, hr2, hs2, ho2⟩ := oqs_open (hval 2 67 v2 rfl rfl) h2 (Nat.le_trans (bulk_part (by simp)) hb)
  obtain ⟨hf2, hg2⟩ := oqs_few hs2 ho2
  have hlt0 : ∀ x ∈ p0, x.block < W.heap.size := fun x hx => by simpa using hW'.lt x (by simp [hx])
  have hlt1 : ∀ x ∈ p1, x.block < W.heap.size := fun x hx => by simpa using hW'.lt x (by simp [hx])
  have hlt2 : ∀ x ∈ p2, x.block < W.heap.size := fun x hx => by simpa using hW'.lt x (by simp [hx])
  clear hA0
  refine (c_IterateOnce v0 v2 l1 l2 hf1 hg1 hf2 hg2 z0 W hr1 hr2).mono fun e W' ⟨he, hg⟩ => ?_
  subst he
  exact ⟨_, rfl, [d0, d1, d2], [], _, [], p0 ++ (p1 ++ (p2 ++ [])), [], by simpa using hW', trodAll_mk1 (shut_bool Try.underlying4 _), trodAll_cons_mk (Below.trod laidOut (by kernel_rfl) (of_decide_eq_true (by kernel_rfl)) h0 hg hlt0) (trodAll_cons_mk (Below.trod laidOut (by kernel_rfl) (of_decide_eq_true (by kernel_rfl)) h1 hg hlt1) (trodAll_cons_mk (Below.trod laidOut (by kernel_rfl) (of_decide_eq_true (by kernel_rfl)) h2 hg hlt2) trodAll_mk0)), rfl, hg.frame _, fun h => by cases h⟩
set_option maxRecDepth 100000 in
theorem lifted (os : Os) (started : os.Started) (H : Type) (enc : TypeId × Value → H) (F : Stop.Interp) :
    ReturnsInHanded {} Try.checked os 7 .any ((Rows.OpenSpec.upto Rows.iterateOnceSpec).pre6 enc Try.prog Try.f7 Rows.iterateOnceUptoRow.domain false) (((Rows.OpenSpec.upto Rows.iterateOnceSpec).at F).post enc Try.prog Try.f7 false true false false) := by
  refine returnsInHanded_of_cond (C := Try.checked) (s := Rows.OpenSpec.upto Rows.iterateOnceSpec) (k := Rows.uptoSmall) rfl own started (by kernel_rfl) Try.func7
    (OpenSpec.witness (enc := enc) (C := Try.checked) (s := Rows.OpenSpec.upto Rows.iterateOnceSpec) (k := Rows.uptoSmall) rfl false ⟨#[], #[.slice none 0 0, .int .i64 0, .slice none 0 0], []⟩ 8 (by kernel_rfl) (by kernel_rfl) (by kernel_rfl)
      (x := ([.nil, .lit (.int .i64 0), .nil], [], [])) (by kernel_rfl) rfl (by kernel_rfl)) ?_
  intro W base args ds gs before hval hW _ hk _
  exact contract H enc W base args ds gs before hval hW hk
theorem over : Rows.iterateOnceUptoRow.holds Try.pinned (Rows.OpenSpec.upto Rows.iterateOnceSpec) :=
  OpenClaim.holds_of_cond 7 Try.f7 rfl rfl rfl rfl rfl rfl rfl ⟨rfl, rfl, rfl, rfl, rfl⟩ rfl rfl rfl rfl rfl (by kernel_rfl) Try.func7 (by kernel_rfl)
    (of_decide_eq_true (by kernel_rfl)) (by unfold Func.isWrapper; first | (rw [if_pos (by decide +kernel)]; kernel_rfl) | (rw [if_neg (by decide +kernel)]; exact ⟨rfl, rfl⟩))
    (fun os started H enc _ F => lifted os started H enc F)
theorem proved : Rows.IterateOnceUptoSaid :=
  over
end Go.Proofs.Ytoccmiinkfhohaa.iterateOnce
