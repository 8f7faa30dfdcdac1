/-
  The walk of the law KeysTable.
-/
import Derived.Test.YtkbjakadngnokaaW4
import Derived.Test.YtkbjakadngnokaaY4
namespace Go.Proofs.Ytkbjakadngnokaa
open Go.RowKit Go.Shelf Go.Lib Go.Sort Go.Proofs Go.Maps
set_option maxHeartbeats 1000000
set_option maxRecDepth 100000
attribute [local go_sem] Oper.semAt_some

theorem own_obj {β : Type} {B kb : Nat} (hk : kb < B) (f : β → Obj) : OwnFrom B (fun (pre : β) Z => Z.heap[kb]? = some (f pre)) := fun s A C row hs hg hr => by
  have h2 : A.heap[kb]? = some (f s) := hs
  show C.heap[kb]? = some (f s)
  rw [hg.block kb (heap_lt h2) (fun e => by have := (hr kb e.symm).1; omega)]; exact h2
theorem numb_at {l : List ByteArray} {n : Nat} {pre : List (Nat × ByteArray)} {x : Nat × ByteArray} (h : (pre ++ [x]) <+: numb l n) : pre.length < n ∧ x = (pre.length, nth l pre.length) := by
  obtain ⟨t, ht⟩ := h
  have hlen : (numb l n).length = n := by simp [numb]
  have h1 : pre.length < n := by
    rw [← hlen, ← ht]; simp
  refine ⟨h1, ?_⟩
  have h2 : (pre ++ [x] ++ t)[pre.length]? = some x := by simp
  rw [ht] at h2
  simp [numb, h1] at h2
  exact h2.symm
theorem below_put {n : Nat} {A W : World} (h : RowKit.Below n A W) (D : Nat) (o : Obj) (hD : n ≤ D) : RowKit.Below n A (W.putObj D o) :=
  h.trans ⟨rfl, rfl, rfl, by simp [World.putObj], fun k hk => World.putObj_heap_other (by omega)⟩
theorem box_int {Z : World} {kb : Nat} {v : Value} {t : TypeId} (h : Z.heap[kb]? = some (.cells #[v] t (0, 0))) : Z.cell? ⟨kb, 0, none⟩ = some v ∧ Z.frozen? ⟨kb, 0, none⟩ = false :=
  ⟨by rw [cell_of_row _ _ _ _ _ _ h]; rfl, by simp [World.frozen?, h]⟩
/-- behind a round -/
theorem round_post {wA W8 Z2 Z3 : World} {kb n m : Nat} {t : TypeId} (i1 : Z2.heap[kb]? = some (.cells #[.int .i64 (n : Int)] t (0, 0))) (i2 : KeepBut (fun r => r = kb) W8 Z2) (i3 : RowKit.Below wA.heap.size wA Z2) (hbz : RowKit.Below Z2.heap.size Z2 Z3) (hkA : wA.heap.size ≤ kb) (hm : m = n + 1) :
    KeepBut (fun r => r = kb) Z2 (Z3.setCell ⟨kb, 0, none⟩ (.int .i64 ((n : Int) + 1))) ∧ (Z3.setCell ⟨kb, 0, none⟩ (.int .i64 ((n : Int) + 1))).heap[kb]? = some (.cells #[.int .i64 (m : Int)] t (0, 0)) ∧ KeepBut (fun r => r = kb) W8 (Z3.setCell ⟨kb, 0, none⟩ (.int .i64 ((n : Int) + 1))) ∧ RowKit.Below wA.heap.size wA (Z3.setCell ⟨kb, 0, none⟩ (.int .i64 ((n : Int) + 1))) := by
  have hk : KeepBut (fun r => r = kb) Z2 (Z3.setCell ⟨kb, 0, none⟩ (.int .i64 ((n : Int) + 1))) := KeepBut.trans (B := Z3) ⟨hbz.size, fun r hr _ => hbz.block r hr⟩ (set_keep _ _ _ _ rfl)
  refine ⟨hk, ?_, i2.trans hk, ((below_after i3 hbz).setCell (p := ⟨kb, 0, none⟩) hkA _)⟩
  rw [heap_setCell_same Z3 kb 0 _ _ _ ((hbz.block kb (heap_lt i1)).trans i1), hm]; rfl
theorem results_bool {fn : Func} {p : Tmp} (h : fn.results = #[.cell p 4]) (tmps : Array Value) (w : World) (a : Addr) (v : Value) (hp : tmps.getD p undef = .pointer (some a)) (hc : w.cell? a = some v) :
    (results fn tmps).run Try.prog w = .ok v w := by
  have hp' : tmps[p]?.getD undef = .pointer (some a) := by simpa using hp
  simp [results, h, hp', asAddr, loadVar, isAgg, go_sem, hc]
theorem c_KeysTable (v : Value) (l : List ByteArray) (n : Int) (hl0 : l.length ≤ 1048576) (hsm : sumT l l.length ≤ 4194304) (w : World) (h : RdS w v l) :
    Calls Try.prog 5 #[v, .int .i64 n] w fun e w' => e = .returned (.bool true) ∧ Below w.heap.size w w' := by
  obtain ⟨p, c, rfl, hlc, hL⟩ := h.form
  obtain ⟨wA, hwA⟩ : ∃ wA, w.alloc (.cells #[.bool false] 4) = wA := ⟨_, rfl⟩
  have hB0 : Below w.heap.size w wA := by rw [← hwA]; exact (Below.refl _ w).alloc (Nat.le_refl _) _
  have hres : wA.heap[w.heap.size]? = some (.cells #[.bool false] 4 (0, 0)) := by rw [← hwA]; exact heap_alloc_new w _
  have hres2 : ∀ y, Below wA.heap.size wA y → y.cell? ⟨w.heap.size, 0, none⟩ = some (.bool false) ∧ y.frozen? ⟨w.heap.size, 0, none⟩ = false := by
    intro y hy
    have h1 := (hy.block w.heap.size (heap_lt hres)).trans hres
    exact ⟨by rw [cell_of_row _ _ _ _ _ _ h1]; rfl, by simp [World.frozen?, h1]⟩
  have hL1 : ∀ i, i < l.length → ∃ x b o, l[i]? = some x ∧ x.size + 1 ≤ sumT l l.length ∧ p = some ⟨b, o, none⟩ ∧ ∀ y, Below wA.heap.size wA y → y.cell? ⟨b, o + i, none⟩ = some (.string x) := by
    intro i hi
    obtain ⟨x, b, o, q1, q2, q3⟩ := hL i hi
    exact ⟨x, b, o, q1, sumT_get q1, q2, fun y hy => q3 y (below_after hB0 hy)⟩
  replace hL1 := Lib.hid hL1
  replace hB0 := Lib.hid hB0
  replace hres2 := Lib.hid hres2
  clear h hL hres hlc
  refine (callsIn_wide (n := 5)).1 ?_
  refine callsIn_of_wp_marks Try.func5 rfl trivial ?_ rfl
  simp only [Try.ntmps5, List.size_toArray, List.length_cons, List.length_nil, Nat.reduceAdd, Nat.reduceSub, Array.replicate_succ, Array.replicate_zero, List.push_toArray, List.append_toArray, List.nil_append, List.cons_append]
  refine wpIn_wide.2 ?_
  go_wp2_with (go_at_call 7; refine (c_awake _).mono ?_; rintro e w1 ⟨rfl, hb1⟩)
  go_loopw [5, 25] (fun vm vi wr => ∃ i : Nat, i ≤ l.length ∧ vi = .int .i64 (i : Int) ∧ vm = .int .i64 (sumT l i : Int) ∧ wr = w1) (fun _ vi _ => l.length - (intOf vi).toNat)
  case atStart => exact ⟨0, by omega, rfl, rfl, rfl⟩
  case round =>
    obtain ⟨i, hi, rfl, rfl, rfl⟩ := hrel
    rcases Nat.lt_or_ge i l.length with hlt | hge
    · obtain ⟨x, b, o, hx, hxs, rfl, hcell⟩ := hL1.out i hlt
      have d1 := hcell _ hb1
      have hlt' : (i : Int) < (l.length : Int) := by omega
      have hst := sumT_step hx
      have hmo := sumT_mono l (i + 1)
      have hw1 : IntKind.i64.wrap ((x.size : Int) + 1) = (x.size : Int) + 1 := by rw [IntKind.wrap_i64]; omega
      have hw2 : IntKind.i64.wrap ((sumT l i : Int) + ((x.size : Int) + 1)) = (sumT l (i + 1) : Int) := by rw [IntKind.wrap_i64]; omega
      have hw3 : IntKind.i64.wrap ((i : Int) + 1) = (i : Int) + 1 := by rw [IntKind.wrap_i64]; omega
      clear hcell hx hst hmo
      go_wp2
      go_roundw
      case rel => exact ⟨i + 1, by omega, by go_num, by first | trivial | rfl | (rw [← hw2]; go_num), by trivial⟩
      case measure => simp [intOf]; omega
    · obtain rfl : i = l.length := by omega
      obtain ⟨W1, rfl⟩ : ∃ W1, W1 = wr := ⟨_, rfl⟩
      by_cases hbig : sumT l l.length ≤ 3000
      · have hdec : decide ((3000 : Int) < (sumT l l.length : Int)) = false := decide_eq_false (by omega)
        clear hdec
        go_wp2_with fail
        refine (c_New _).mono ?_
        rintro e w3 ⟨rfl, hT0, hb3⟩
        have hk0 := KnV.start hT0
        have hbA := hb1.trans ((hb3.mono hb1.size).alloc (Nat.le_trans hb1.size hb3.size) (.cells #[.slice none 0 0] 33))
        have hb4 := hb3.alloc hb3.size (.cells #[.slice none 0 0] 33)
        have hl3 : l.length ≤ 3000 := Nat.le_trans (sumT_len l) hbig
        have hBgb0 : W1.heap.size ≤ w3.heap.size := hb3.size
        replace hBgb0 := Lib.hid hBgb0
        replace hk0 := Lib.hid hk0
        replace hbA := Lib.hid hbA
        replace hb4 := Lib.hid hb4
        clear hT0 hb3 hl0 hsm hi hge
        replace hbig := Lib.hid hbig
        generalize hBB : W1.heap.size = B at *
        generalize hgb : w3.heap.size = gb at *
        generalize htb : B + 1 = tb at *
        go_wp2
        go_loopw [42] (fun vi wr => ∃ (i : Nat) (kv : Value) (known : List ByteArray), i ≤ l.length ∧ vi = .int .i64 (i : Int) ∧ KnV wr B tb gb kv known known ∧ known.Nodup ∧ (∀ x ∈ known, evenB x = x ∧ x.size ≤ 3000) ∧ known.length ≤ i ∧ Below B W1 wr) (fun vi _ => l.length - (intOf vi).toNat)
        case atStart => exact ⟨0, _, [], by omega, rfl, hk0.out, List.nodup_nil, by simp, by simp, hb4.out⟩
        case round =>
          obtain ⟨W2, rfl⟩ : ∃ W2, W2 = wr := ⟨_, rfl⟩
          obtain ⟨i, kv, known, hi, rfl, hkn, hnd, hev, hkl, hbel⟩ := hrel
          obtain ⟨kp, kc, rfl, hrow⟩ := hkn.form
          obtain ⟨f1, f2, f3⟩ := hkn.cells
          clear hk0 hb4 hbA
          rcases Nat.lt_or_ge i l.length with hlt | hge
          · obtain ⟨x, b, o, hx, hxs, rfl, hcell⟩ := hL1.out i hlt
            have d1 := hcell W2 (hb1.trans (hbel.mono (by rw [← hBB]; exact hb1.size)))
            have hlt' : (i : Int) < (l.length : Int) := by omega
            replace hcell := Lib.hid hcell
            have hbs := hbig.out
            have hkr : ∀ k, k < known.length → ∃ g, kp = some ⟨g, 0, none⟩ ∧ ∀ y, Below W2.heap.size W2 y → y.cell? ⟨g, k, none⟩ = some (.string (nth known k)) := by
              intro k hk
              obtain ⟨g, e, hg, hc⟩ := hrow k hk
              exact ⟨g, e, fun y hy => by rw [hy.cell (p := ⟨g, k, none⟩) hg]; exact hc⟩
            replace hkr := Lib.hid hkr
            replace hev := Lib.hid hev
            replace hnd := Lib.hid hnd
            replace hkn := Lib.hid hkn
            replace hbel := Lib.hid hbel
            clear hrow
            go_wp2
            go_loopw [12, 48] (fun va vj wr => ∃ (j : Nat) (a : Int), j ≤ known.length ∧ vj = .int .i64 (j : Int) ∧ va = .int .i64 a ∧ AtI known (evenB x) j a ∧ Below W2.heap.size W2 wr) (fun _ vj _ => known.length - (intOf vj).toNat)
            case atStart => exact ⟨0, -1, by omega, rfl, rfl, .inl ⟨rfl, fun i hi => by omega⟩, Below.refl _ _⟩
            case round =>
              obtain ⟨j, a, hj, rfl, rfl, hat, hbel3⟩ := hrel
              rcases Nat.lt_or_ge j known.length with hjl | hjg
              · obtain ⟨g, rfl, hkc⟩ := hkr.out j hjl
                have d2 := hkc _ hbel3
                have hjl' : (j : Int) < (known.length : Int) := by omega
                have hev2 := hev.out (nth known j) (List.mem_of_getElem? (nth_get hjl))
                have hce := cmpU_even (nth known j) x hev2.1
                have hCR := Lib.hid (c_CompareR (nth known j) x (by omega) (by omega) wr)
                have hw3 : IntKind.i64.wrap ((j : Int) + 1) = (j : Int) + 1 := by rw [IntKind.wrap_i64]; omega
                replace hbel3 := Lib.hid hbel3
                clear hkc hev2
                by_cases hq : nth known j = evenB x
                · have hat2 := Lib.hid (AtI.yes hq)
                  have hc0 := hce.2 hq
                  rw [hc0] at hCR
                  clear hce hq hc0 hat
                  go_wp2_with (go_at_call 15; refine hCR.out.mono ?_; rintro e y ⟨rfl, hby⟩)
                  go_roundw
                  case rel => exact ⟨j + 1, _, by omega, by go_num, rfl, hat2.out, below_after hbel3.out hby⟩
                  case measure => simp [intOf]; omega
                · have hat2 := Lib.hid (hat.no hq)
                  have hc0 : ¬ cmpU (U (nth known j)) (U x) = 0 := fun h => hq (hce.1 h)
                  generalize cmpU (U (nth known j)) (U x) = z at *
                  clear hce hq hat
                  go_wp2_with (go_at_call 15; refine hCR.out.mono ?_; rintro e y ⟨rfl, hby⟩)
                  go_roundw
                  case rel => exact ⟨j + 1, _, by omega, by go_num, rfl, hat2.out, below_after hbel3.out hby⟩
                  case measure => simp [intOf]; omega
              · obtain rfl : j = known.length := by omega
                rcases hat.found with ⟨rfl, hnE⟩ | ⟨m, rfl, hm, hmE⟩
                · obtain ⟨W3, rfl⟩ : ∃ W3, W3 = wr := ⟨_, rfl⟩
                  obtain ⟨i0, hi0, hz0, hz1, hz2⟩ := info_parts infoStr
                  have hB1 : B ≤ W1.heap.size := by omega
                  have hBW2 : B ≤ W2.heap.size := Nat.le_trans hB1 hbel.out.size
                  have hb13 : Below B W1 W3 := hbel.out.trans (hbel3.mono hBW2)
                  have hBW3 : B ≤ W3.heap.size := Nat.le_trans hBW2 hbel3.size
                  have hkn3 := hkn.out.keep hbel3
                  obtain ⟨g1, g2, g3⟩ := hkn3.cells
                  have hE := fun y => Lib.hid (c_EvenR x (by omega) y)
                  have hown := hkn3.2.1
                  have hBgb : B ≤ gb := hBgb0.out
                  replace hb13 := Lib.hid hb13
                  clear hat hj hjg hbel3 hb1 f1 f2 f3 d1 hkr
                  replace hev := Lib.hid hev
                  replace hkn3 := Lib.hid hkn3
                  replace hnE := Lib.hid hnE
                  go_wp2_with fail
                  have g4 : ∀ o, (W3.drew.alloc o).cell? ⟨gb, 0, none⟩ = some (.slice kp known.length kc) := fun o => by rw [((Below.refl W3.heap.size W3.drew).alloc (Nat.le_refl _) o).cell (p := ⟨gb, 0, none⟩) g3]; exact g1
                  refine wp_region_noPanic ?_
                  go_region_law (first | (refine step_append_lies _ rfl _ _ _ rfl (gb + 1) 27 i0 _ 1 16 Try.underlying33 hi0 hz0 hz1 hz2 rfl (by omega) (.slice kp known.length kc) known.length (strs known) rfl ((hown.alloc _).drew) ⟨W3.heap.size, 0, none⟩ 1 1 [.string (evenB x)] rfl rfl (World.news_of_block (cs := #[.string (evenB x)]) (t := 27) (fr := (0, 0)) (by exact heap_alloc_new W3 _)) (by simp [Value.oneCell']) (by omega) (by unfold maxLen; omega) (by omega) (by simp; omega) (W3.heap.size + 1) (by simp) ?_; intro gg cap w5 hown5 hg5 hat5 hlt5; obtain ⟨hc5, hf5⟩ := push_box (w := W3.drew) (hkn3.out.keep (Below.refl _ _).drew) hg5) | (go_simp; go_at_call 16; with_reducible refine (hE _).out.mono ?_; rintro e y2 ⟨rfl, rfl⟩))
                  all_goals
                    refine NoPanic.normal ?_
                    have hkp := KnV.push (w := W3.drew) (hkn3.out.keep (Below.refl _ _).drew) hown5 hg5 hat5
                    have hb5 := ((((Below.refl B W3).drew).alloc (by exact hBW3) (.cells #[.string (evenB x)] 27)).grown hg5 (by simp; omega) (fun k hk => by have := (hown.lt k hk).1; omega)).setCell (p := ⟨gb, 0, none⟩) hBgb (.slice (some ⟨gg, 0, none⟩) (known.length + 1) cap)
                    obtain ⟨W5, hW5⟩ : ∃ W5, w5.setCell ⟨gb, 0, none⟩ (.slice (some ⟨gg, 0, none⟩) (known.length + 1) cap) = W5 := ⟨_, rfl⟩
                    rw [hW5] at hkp hb5 ⊢
                    have hlen : (known ++ [evenB x]).length = known.length + 1 := by simp
                    have hnd2 : (known ++ [evenB x]).Nodup := by
                      rw [List.nodup_append]
                      exact ⟨hnd.out, by simp, fun a ha b hb e => hnE.out (by simp at hb; rw [← hb, ← e]; exact ha)⟩
                    have hev2 : ∀ y ∈ known ++ [evenB x], evenB y = y ∧ y.size ≤ 3000 := by
                      intro y hy
                      rcases List.mem_append.1 hy with h | h
                      · exact hev.out y h
                      · simp at h
                        subst h
                        exact ⟨evenB_even x, by rw [evenB_size]; omega⟩
                    have hint := fun y => Lib.hid (c_InternT (B := B) (tb := tb) (gb := gb) (kv := .slice (some ⟨gg, 0, none⟩) (known.length + 1) cap) (known := known ++ [evenB x]) (names := known) (W := W5) (y := y) x known.length (by omega) (by omega) ⟨by simp, hnd2⟩ (.inr ⟨hnE.out, rfl, rfl⟩))
                    obtain ⟨e1, e2, e3⟩ := hkp.cells
                    have hBW5 := Nat.le_trans hBW3 hb5.size
                    have hS0 : W5.drew.cell? ⟨gb, 0, none⟩ = some (.slice (some ⟨gg, 0, none⟩) (known.length + 1) cap) ∧ TwoS B tb gb (.slice (some ⟨gg, 0, none⟩) (known.length + 1) cap) (known ++ [evenB x]) known W5 W5.drew := ⟨e1, .inl (hkp.keep (Below.refl _ _).drew), (Below.refl _ _).drew, hBW5⟩
                    have hLn := fun y (h : KnV y B tb gb (.slice (some ⟨gg, 0, none⟩) (known.length + 1) cap) (known ++ [evenB x]) (known ++ [evenB x])) => Lib.hid (c_LenK h)
                    rw [hlen] at hLn
                    replace hb5 := Lib.hid (hb13.out.trans hb5)
                    replace hnd2 := Lib.hid hnd2
                    replace hev2 := Lib.hid hev2
                    have hw4 : IntKind.i64.wrap ((i : Int) + 1) = (i : Int) + 1 := by rw [IntKind.wrap_i64]; omega
                    clear hkp hW5 hown5 hg5 hat5 hlt5 hown hc5 hf5 hE g1 g2 g3 g4 hkn3 hev hnd hnE hkn hbel e2 hb13
                    go_wp2_with fail
                    go_region_held3 (fun y => y.cell? ⟨gb, 0, none⟩ = some (.slice (some ⟨gg, 0, none⟩) (known.length + 1) cap) ∧ TwoS B tb gb (.slice (some ⟨gg, 0, none⟩) (known.length + 1) cap) (known ++ [evenB x]) known W5 y) (first | assumption | exact two_keep (by assumption) (by assumption)) (first | (go_at_call 17; with_reducible refine ((hint _).out (And.right (by assumption))).mono ?_; rintro e y' ⟨rfl, hb, hk⟩) | (go_at_call 18; refine (hLn _ (by first | assumption | exact KnV.keep (by assumption) (Below.refl _ _).drew)).out.mono ?_; rintro e y2 ⟨rfl, rfl⟩))
                    have hbf := Lib.hid (hb5.out.trans hb.2.2.1)
                    replace hk := Lib.hid hk
                    clear hb hS0 hint hLn e1
                    go_wp2
                    go_roundw
                    case rel => exact ⟨i + 1, _, known ++ [evenB x], by omega, by go_num, hk.out, hnd2.out, hev2.out, by omega, hbf.out⟩
                    case measure => simp [intOf]; omega
                · obtain ⟨W3, rfl⟩ : ∃ W3, W3 = wr := ⟨_, rfl⟩
                  have hB1 : B ≤ W1.heap.size := by omega
                  have hBW2 : B ≤ W2.heap.size := Nat.le_trans hB1 hbel.out.size
                  have hb13 : Below B W1 W3 := hbel.out.trans (hbel3.mono hBW2)
                  have hBW3 : B ≤ W3.heap.size := Nat.le_trans hBW2 hbel3.size
                  have hkn3 := hkn.out.keep hbel3
                  obtain ⟨g1, g2, g3⟩ := hkn3.cells
                  have hint := fun y => Lib.hid (c_InternT (B := B) (tb := tb) (gb := gb) (kv := .slice kp known.length kc) (known := known) (names := known) (W := W3) (y := y) x m (by omega) (by omega) ⟨hmE, hnd.out⟩ (.inl rfl))
                  have hS0 : W3.drew.cell? ⟨gb, 0, none⟩ = some (.slice kp known.length kc) ∧ TwoS B tb gb (.slice kp known.length kc) known known W3 W3.drew := ⟨g1, .inl (hkn3.keep (Below.refl _ _).drew), (Below.refl _ _).drew, hBW3⟩
                  replace hb13 := Lib.hid hb13
                  have hm0 : ¬ ((m : Int) < 0) := by omega
                  clear hat hkn3 hmE hj hjg hbel3 hb1 f1 f2 f3 d1
                  go_wp2_with fail
                  go_region_held3 (fun y => y.cell? ⟨gb, 0, none⟩ = some (.slice kp known.length kc) ∧ TwoS B tb gb (.slice kp known.length kc) known known W3 y) (first | assumption | exact two_keep (by assumption) (by assumption)) (first | (go_at_call 17; with_reducible refine ((hint _).out (And.right (by assumption))).mono ?_; rintro e y' ⟨rfl, hb, hk⟩) | (go_at_call 18; refine (c_LenK (by first | assumption | exact KnV.keep (by assumption) (Below.refl _ _).drew)).mono ?_; rintro e y2 ⟨rfl, rfl⟩))
                  all_goals
                    have hbf := Lib.hid (hb13.out.trans hb.2.2.1)
                    replace hk := Lib.hid hk
                    have hw4 : IntKind.i64.wrap ((i : Int) + 1) = (i : Int) + 1 := by rw [IntKind.wrap_i64]; omega
                    clear hb hS0 hint
                    go_wp2
                    go_roundw
                    case rel => exact ⟨i + 1, _, known, by omega, by go_num, hk.out, hnd.out, hev.out, by omega, hbf.out⟩
                    case measure => simp [intOf]; omega
          · obtain rfl : i = l.length := by omega
            have hB1 : wA.heap.size ≤ B := by rw [← hBB]; exact hb1.size
            have hb14 : RowKit.Below wA.heap.size wA W2 := hb1.trans (hbel.mono hB1)
            have hwAs : w.heap.size < wA.heap.size := by rw [← hwA]; simp
            have hkl3 : known.length ≤ 1099511627776 := by omega
            replace hev := Lib.hid hev
            clear hL1 hnd hkl hl3 hi hge hgb hBgb0 hbig hBB hb1 hbel hwA
            have htab := hkn.2.2.tab
            have reach : ∃ K : Nat, K = 0 := ⟨0, rfl⟩
            rcases Int.lt_or_le n 0 with hn0 | hn0
            · have hNm := Lib.hid (c_NameNo htab n (.inl hn0))
              replace hkn := Lib.hid hkn
              replace hb14 := Lib.hid hb14
              clear hrow htab
              go_wp2_with (go_at_call 19; refine hNm.out.mono ?_; rintro e w5 ⟨rfl, rfl⟩)
              obtain ⟨W6, rfl⟩ : ∃ W6, W6 = w5 := ⟨_, rfl⟩
              have hk6 := hkn.out
              have hb6 := hb14.out
              clear hkn hb14 hNm
              have hbE := (Below.refl W6.heap.size W6).alloc (Nat.le_refl _) (.cells #[.pointer (some ⟨tb, 0, none⟩)] 34)
              have hk7 := hk6.keep hbE
              have hc7 : (W6.alloc (.cells #[.pointer (some ⟨tb, 0, none⟩)] 34)).cell? ⟨W6.heap.size, 0, none⟩ = some (.pointer (some ⟨tb, 0, none⟩)) := by rw [cell_of_row _ _ _ _ _ _ (heap_alloc_new W6 _)]; rfl
              have hb7 := below_after hb6 hbE
              refine (c_Each W6 (some ⟨tb, 0, none⟩)).mono ?_
              rintro e w7 ⟨rfl, rfl⟩
              obtain ⟨W7, hW7⟩ : ∃ W7, W6.alloc (.cells #[.pointer (some ⟨tb, 0, none⟩)] 34) = W7 := ⟨_, rfl⟩
              generalize heb : W6.heap.size = eb at *
              rw [hW7] at hk7 hc7 hb7 ⊢
              have hq := eql_fn W7 (.func 40) #[] #[.pointer (some ⟨eb, 0, none⟩)]
              replace hk7 := Lib.hid hk7
              replace hc7 := Lib.hid hc7
              replace hb7 := Lib.hid hb7
              clear hbE hb6 hk6 hW7 heb
              go_wp2_with fail
              refine (wpIn_wide (n := 5)).1 ?_
              refine rangeR (n := 5) (gf := 40) (lb := #[.pointer (some ⟨eb, 0, none⟩)]) (kb := w.heap.size) (w0 := W7) rfl (enters_of Try.func40 (by kernel_rfl) rfl) (each_seq known B tb eb w.heap.size W7 (.inr (by omega)) hc7.out hk7.out.2.2.tab hkl3) (Below.refl _ _) (Nat.lt_of_lt_of_le hwAs hb7.out.size) (fun _ => rfl)
                (fun _ Y => RowKit.Below W7.heap.size W7 Y) (fun c _ Y => c = .exit 6 ∧ RowKit.Below W7.heap.size W7 Y) (ownFrom_below (Nat.le_refl _) (Nat.le_refl _)) (fun c s A B row hs hg hr => ⟨hs.1, (ownFrom_below (Nat.le_refl _) (Nat.le_refl _)) s A B row hs.2 hg hr⟩) (Below.refl _ _) ?round ?done ?stop
              case round =>
                intro l2 pre x Y hI hpre hl2 hl3
                gi_wp2
                refine ⟨trivial, fun Y2 hI2 hl4 => ?_⟩
                gi_wp2
                exact ⟨KeepBut.refl _ _, rfl, hI2⟩
              case done =>
                rintro Y hI hK
                have hY7 := below_after hb7.out hI
                have hbK := (Below.refl Y.heap.size Y).alloc (Nat.le_refl _) (.cells #[.int .i64 0] 3)
                have hk7Y := hk7.out.keep hI
                have hk8 := hk7Y.keep hbK
                have hcY : Y.cell? ⟨eb, 0, none⟩ = some (.pointer (some ⟨tb, 0, none⟩)) := by rw [hI.cell (p := ⟨eb, 0, none⟩) (cell_lt hc7.out)]; exact hc7.out
                have hb8 := below_after hY7 hbK
                have hkb8 := heap_alloc_new Y (.cells #[.int .i64 0] 3)
                have hK8 := (hbK.block W7.heap.size (heap_lt hK)).trans hK
                have hsz8 : Y.heap.size < (Y.alloc (.cells #[.int .i64 0] 3)).heap.size := by simp
                have hkA : wA.heap.size ≤ Y.heap.size := hY7.size
                have hA7 : wA.heap.size ≤ W7.heap.size := hb7.out.size
                have hK7 := heap_lt hK
                replace hk7Y := Lib.hid hk7Y
                replace hk8 := Lib.hid hk8
                replace hcY := Lib.hid hcY
                replace hb8 := Lib.hid hb8
                replace hkb8 := Lib.hid hkb8
                replace hK8 := Lib.hid hK8
                replace hbK := Lib.hid hbK
                replace hsz8 := Lib.hid hsz8
                clear hI hK hY7 hc7 hk7 hb7
                go_wp2_with fail
                obtain ⟨W8, hW8⟩ : ∃ W8, Y.alloc (.cells #[.int .i64 0] 3) = W8 := ⟨_, rfl⟩
                rw [hW8] at hk8 hb8 hkb8 hK8 hbK hsz8 ⊢
                clear hW8
                have hgbY := heap_lt hk7Y.out.1
                have hrow8 : ∀ k, k < known.length → ∃ g, kp = some ⟨g, 0, none⟩ ∧ g < Y.heap.size ∧ W8.cell? ⟨g, k, none⟩ = some (.string (nth known k)) := by
                  obtain ⟨p1, c1, e1, h1⟩ := hk7Y.out.form
                  intro k hk
                  obtain ⟨g, e2, h2, h3⟩ := h1 k hk
                  cases e1
                  exact ⟨g, e2, h2, by rw [hbK.out.cell (p := ⟨g, k, none⟩) h2]; exact h3⟩
                replace hrow8 := Lib.hid hrow8
                refine (wpIn_wide (n := 5)).1 ?_
                refine rangeR (n := 5) (gf := 40) (lb := #[.pointer (some ⟨eb, 0, none⟩)]) (kb := Y.heap.size) (w0 := Y) rfl (enters_of Try.func40 (by kernel_rfl) rfl) (each_seq known B tb eb Y.heap.size Y (.inl (Nat.le_refl _)) hcY.out hk7Y.out.2.2.tab hkl3) hbK.out hsz8.out (fun _ => rfl)
                  (fun pre Z => Z.heap[Y.heap.size]? = some (.cells #[.int .i64 (pre.length : Int)] 3 (0, 0)) ∧ KeepBut (fun r => r = Y.heap.size) W8 Z ∧ RowKit.Below wA.heap.size wA Z) (fun _ _ _ => False)
                  (fun s A C row hs hg hr => ⟨own_obj hsz8.out (fun pre : List (Nat × ByteArray) => .cells #[.int .i64 (pre.length : Int)] 3 (0, 0)) s A C row hs.1 hg hr, own_keepBut _ W8 s A C row hs.2.1 hg hr, ownFrom_below (Nat.le_refl _) (Nat.le_trans hkA (Nat.le_of_lt hsz8.out)) s A C row hs.2.2 hg hr⟩) (fun _ _ _ _ _ hs _ _ => hs) ⟨hkb8.out, KeepBut.refl _ _, hb8.out⟩ ?round2 ?done2 ?stop2
                case round2 =>
                  rintro l2 pre x Z hI0 hpre hl2 hl3
                  obtain ⟨hkn1, rfl⟩ := numb_at hpre
                  simp only [enc2]
                  gi_wp2
                  refine ⟨trivial, fun Z2 hI2 hl4 => ?_⟩
                  obtain ⟨i1, i2, i3⟩ := hI2
                  have b1 : Z2.cell? ⟨Y.heap.size, 0, none⟩ = some (.int .i64 (pre.length : Int)) := by rw [cell_of_row _ _ _ _ _ _ i1]; rfl
                  have b2 : Z2.cell? ⟨gb, 0, none⟩ = some (.slice kp known.length kc) := i2.cell (by omega) hk8.out.cells.1
                  obtain ⟨g, rfl, hgY, hgc⟩ := hrow8.out pre.length hkn1
                  have b3 : Z2.cell? ⟨g, pre.length, none⟩ = some (.string (nth known pre.length)) := i2.cell (by omega) hgc
                  have hsz := hev.out (nth known pre.length) (List.mem_of_getElem? (nth_get hkn1))
                  have hCR := (callsIn_wide (n := 5 - 1 - 1 - 1)).2 (c_CompareR (nth known pre.length) (nth known pre.length) (by omega) (by omega) Z2)
                  rw [cmpU_self] at hCR
                  replace hCR := Lib.hid (hCR.inRound l2)
                  have hlt' : (pre.length : Int) < (known.length : Int) := by omega
                  have hw5 : IntKind.i64.wrap ((pre.length : Int) + 1) = (pre.length : Int) + 1 := by rw [IntKind.wrap_i64]; omega
                  replace i1 := Lib.hid i1
                  replace i2 := Lib.hid i2
                  replace i3 := Lib.hid i3
                  clear hgc hsz hI0
                  gi_wp2_with (refine ⟨trivial, ?_⟩; gi_at_call 15; refine hCR.out.mono ?_; rintro e Z3 ⟨rfl, hbz⟩; obtain ⟨c1, c2⟩ := box_int ((hbz.block _ (heap_lt i1.out)).trans i1.out))
                  exact round_post i1.out i2.out i3.out hbz hkA (by simp)
                case done2 =>
                  rintro Z ⟨h1, h2, h3⟩ hK2
                  have hln : (numb known known.length).length = known.length := by simp [numb]
                  rw [hln] at h1
                  have b1 : Z.cell? ⟨Y.heap.size, 0, none⟩ = some (.int .i64 (known.length : Int)) := by rw [cell_of_row _ _ _ _ _ _ h1]; rfl
                  have b2 : Z.cell? ⟨gb, 0, none⟩ = some (.slice kp known.length kc) := h2.cell (by omega) hk8.out.cells.1
                  obtain ⟨b3, b4⟩ := hres2.out Z h3
                  have hsz9 := hsz8.out
                  have ne8 : W8.heap.size ≠ w.heap.size := by omega
                  have ne7 : W7.heap.size ≠ w.heap.size := by omega
                  have ne78 : W7.heap.size ≠ W8.heap.size := by omega
                  have ne7k : W7.heap.size ≠ Y.heap.size := by omega
                  have ne8s := ne8.symm
                  have ne7s := ne7.symm
                  have hK9 : (Z.setCell ⟨w.heap.size, 0, none⟩ (.bool true)).heap[W8.heap.size]? = some (.deferred (some [])) := by rw [Below.heap_setCell _ _ _ _ ne8]; exact hK2
                  have hK10 : ((Z.setCell ⟨w.heap.size, 0, none⟩ (.bool true)).putObj W8.heap.size (.deferred none)).heap[W7.heap.size]? = some (.deferred (some [])) := by
                    rw [World.putObj_heap_other ne78, Below.heap_setCell _ _ _ _ ne7, h2.2 W7.heap.size (by omega) ne7k]; exact hK8.out
                  have hbz := below_put (below_put (hB0.out.trans ((h3.mono (Nat.le_of_lt hwAs)).setCell (p := ⟨w.heap.size, 0, none⟩) (Nat.le_refl _) (.bool true))) W8.heap.size (.deferred none) (by have := hsz8.out; omega)) W7.heap.size (.deferred none) (by omega)
                  have hcz : (((Z.setCell ⟨w.heap.size, 0, none⟩ (.bool true)).putObj W8.heap.size (.deferred none)).putObj W7.heap.size (.deferred none)).cell? ⟨w.heap.size, 0, none⟩ = some (.bool true) := by
                    rw [World.cell?_of_block (World.putObj_heap_other ne7s), World.cell?_of_block (World.putObj_heap_other ne8s)]
                    exact World.cell?_setCell_same _ _ _ b3
                  go_wp2
                  refine ⟨by simp, .inl ⟨_, _, rfl, run_takeDeferred hK9, ?_⟩⟩
                  refine ⟨by simp, .inl ⟨_, _, rfl, run_takeDeferred hK10, ?_⟩⟩
                  exact ⟨_, results_bool rfl _ _ _ _ rfl hcz, rfl, hbz⟩
                case stop2 =>
                  rintro c pre Z h _
                  exact h.elim
              case stop =>
                rintro c pre Y ⟨rfl, hI⟩ hK
                gi_wp2
                have hY7 := below_after hb7.out hI
                have hbK := (Below.refl Y.heap.size Y).alloc (Nat.le_refl _) (.cells #[.int .i64 0] 3)
                have hk7Y := hk7.out.keep hI
                have hk8 := hk7Y.keep hbK
                have hcY : Y.cell? ⟨eb, 0, none⟩ = some (.pointer (some ⟨tb, 0, none⟩)) := by rw [hI.cell (p := ⟨eb, 0, none⟩) (cell_lt hc7.out)]; exact hc7.out
                have hb8 := below_after hY7 hbK
                have hkb8 := heap_alloc_new Y (.cells #[.int .i64 0] 3)
                have hK8 := (hbK.block W7.heap.size (heap_lt hK)).trans hK
                have hsz8 : Y.heap.size < (Y.alloc (.cells #[.int .i64 0] 3)).heap.size := by simp
                have hkA : wA.heap.size ≤ Y.heap.size := hY7.size
                have hA7 : wA.heap.size ≤ W7.heap.size := hb7.out.size
                have hK7 := heap_lt hK
                replace hk7Y := Lib.hid hk7Y
                replace hk8 := Lib.hid hk8
                replace hcY := Lib.hid hcY
                replace hb8 := Lib.hid hb8
                replace hkb8 := Lib.hid hkb8
                replace hK8 := Lib.hid hK8
                replace hbK := Lib.hid hbK
                replace hsz8 := Lib.hid hsz8
                clear hI hK hY7 hc7 hk7 hb7
                go_wp2_with fail
                obtain ⟨W8, hW8⟩ : ∃ W8, Y.alloc (.cells #[.int .i64 0] 3) = W8 := ⟨_, rfl⟩
                rw [hW8] at hk8 hb8 hkb8 hK8 hbK hsz8 ⊢
                clear hW8
                have hgbY := heap_lt hk7Y.out.1
                have hrow8 : ∀ k, k < known.length → ∃ g, kp = some ⟨g, 0, none⟩ ∧ g < Y.heap.size ∧ W8.cell? ⟨g, k, none⟩ = some (.string (nth known k)) := by
                  obtain ⟨p1, c1, e1, h1⟩ := hk7Y.out.form
                  intro k hk
                  obtain ⟨g, e2, h2, h3⟩ := h1 k hk
                  cases e1
                  exact ⟨g, e2, h2, by rw [hbK.out.cell (p := ⟨g, k, none⟩) h2]; exact h3⟩
                replace hrow8 := Lib.hid hrow8
                refine (wpIn_wide (n := 5)).1 ?_
                refine rangeR (n := 5) (gf := 40) (lb := #[.pointer (some ⟨eb, 0, none⟩)]) (kb := Y.heap.size) (w0 := Y) rfl (enters_of Try.func40 (by kernel_rfl) rfl) (each_seq known B tb eb Y.heap.size Y (.inl (Nat.le_refl _)) hcY.out hk7Y.out.2.2.tab hkl3) hbK.out hsz8.out (fun _ => rfl)
                  (fun pre Z => Z.heap[Y.heap.size]? = some (.cells #[.int .i64 (pre.length : Int)] 3 (0, 0)) ∧ KeepBut (fun r => r = Y.heap.size) W8 Z ∧ RowKit.Below wA.heap.size wA Z) (fun _ _ _ => False)
                  (fun s A C row hs hg hr => ⟨own_obj hsz8.out (fun pre : List (Nat × ByteArray) => .cells #[.int .i64 (pre.length : Int)] 3 (0, 0)) s A C row hs.1 hg hr, own_keepBut _ W8 s A C row hs.2.1 hg hr, ownFrom_below (Nat.le_refl _) (Nat.le_trans hkA (Nat.le_of_lt hsz8.out)) s A C row hs.2.2 hg hr⟩) (fun _ _ _ _ _ hs _ _ => hs) ⟨hkb8.out, KeepBut.refl _ _, hb8.out⟩ ?round2 ?done2 ?stop2
                case round2 =>
                  rintro l2 pre x Z hI0 hpre hl2 hl3
                  obtain ⟨hkn1, rfl⟩ := numb_at hpre
                  simp only [enc2]
                  gi_wp2
                  refine ⟨trivial, fun Z2 hI2 hl4 => ?_⟩
                  obtain ⟨i1, i2, i3⟩ := hI2
                  have b1 : Z2.cell? ⟨Y.heap.size, 0, none⟩ = some (.int .i64 (pre.length : Int)) := by rw [cell_of_row _ _ _ _ _ _ i1]; rfl
                  have b2 : Z2.cell? ⟨gb, 0, none⟩ = some (.slice kp known.length kc) := i2.cell (by omega) hk8.out.cells.1
                  obtain ⟨g, rfl, hgY, hgc⟩ := hrow8.out pre.length hkn1
                  have b3 : Z2.cell? ⟨g, pre.length, none⟩ = some (.string (nth known pre.length)) := i2.cell (by omega) hgc
                  have hsz := hev.out (nth known pre.length) (List.mem_of_getElem? (nth_get hkn1))
                  have hCR := (callsIn_wide (n := 5 - 1 - 1 - 1)).2 (c_CompareR (nth known pre.length) (nth known pre.length) (by omega) (by omega) Z2)
                  rw [cmpU_self] at hCR
                  replace hCR := Lib.hid (hCR.inRound l2)
                  have hlt' : (pre.length : Int) < (known.length : Int) := by omega
                  have hw5 : IntKind.i64.wrap ((pre.length : Int) + 1) = (pre.length : Int) + 1 := by rw [IntKind.wrap_i64]; omega
                  replace i1 := Lib.hid i1
                  replace i2 := Lib.hid i2
                  replace i3 := Lib.hid i3
                  clear hgc hsz hI0
                  gi_wp2_with (refine ⟨trivial, ?_⟩; gi_at_call 15; refine hCR.out.mono ?_; rintro e Z3 ⟨rfl, hbz⟩; obtain ⟨c1, c2⟩ := box_int ((hbz.block _ (heap_lt i1.out)).trans i1.out))
                  exact round_post i1.out i2.out i3.out hbz hkA (by simp)
                case done2 =>
                  rintro Z ⟨h1, h2, h3⟩ hK2
                  have hln : (numb known known.length).length = known.length := by simp [numb]
                  rw [hln] at h1
                  have b1 : Z.cell? ⟨Y.heap.size, 0, none⟩ = some (.int .i64 (known.length : Int)) := by rw [cell_of_row _ _ _ _ _ _ h1]; rfl
                  have b2 : Z.cell? ⟨gb, 0, none⟩ = some (.slice kp known.length kc) := h2.cell (by omega) hk8.out.cells.1
                  obtain ⟨b3, b4⟩ := hres2.out Z h3
                  have hsz9 := hsz8.out
                  have ne8 : W8.heap.size ≠ w.heap.size := by omega
                  have ne7 : W7.heap.size ≠ w.heap.size := by omega
                  have ne78 : W7.heap.size ≠ W8.heap.size := by omega
                  have ne7k : W7.heap.size ≠ Y.heap.size := by omega
                  have ne8s := ne8.symm
                  have ne7s := ne7.symm
                  have hK9 : (Z.setCell ⟨w.heap.size, 0, none⟩ (.bool true)).heap[W8.heap.size]? = some (.deferred (some [])) := by rw [Below.heap_setCell _ _ _ _ ne8]; exact hK2
                  have hK10 : ((Z.setCell ⟨w.heap.size, 0, none⟩ (.bool true)).putObj W8.heap.size (.deferred none)).heap[W7.heap.size]? = some (.deferred (some [])) := by
                    rw [World.putObj_heap_other ne78, Below.heap_setCell _ _ _ _ ne7, h2.2 W7.heap.size (by omega) ne7k]; exact hK8.out
                  have hbz := below_put (below_put (hB0.out.trans ((h3.mono (Nat.le_of_lt hwAs)).setCell (p := ⟨w.heap.size, 0, none⟩) (Nat.le_refl _) (.bool true))) W8.heap.size (.deferred none) (by have := hsz8.out; omega)) W7.heap.size (.deferred none) (by omega)
                  have hcz : (((Z.setCell ⟨w.heap.size, 0, none⟩ (.bool true)).putObj W8.heap.size (.deferred none)).putObj W7.heap.size (.deferred none)).cell? ⟨w.heap.size, 0, none⟩ = some (.bool true) := by
                    rw [World.cell?_of_block (World.putObj_heap_other ne7s), World.cell?_of_block (World.putObj_heap_other ne8s)]
                    exact World.cell?_setCell_same _ _ _ b3
                  go_wp2
                  refine ⟨by simp, .inl ⟨_, _, rfl, run_takeDeferred hK9, ?_⟩⟩
                  refine ⟨by simp, .inl ⟨_, _, rfl, run_takeDeferred hK10, ?_⟩⟩
                  exact ⟨_, results_bool rfl _ _ _ _ rfl hcz, rfl, hbz⟩
                case stop2 =>
                  rintro c pre Z h _
                  exact h.elim
            · have hn1 : ¬ (n < 0) := by omega
              rcases Int.lt_or_le n (known.length : Int) with hn2 | hn2
              · obtain ⟨j, rfl⟩ : ∃ j : Nat, n = (j : Int) := ⟨n.toNat, by omega⟩
                have hjl : j < known.length := by omega
                have hNm := Lib.hid (c_NameYes htab j hjl)
                obtain ⟨g, rfl, hg, hc⟩ := hrow j hjl
                have hsz := hev.out (nth known j) (List.mem_of_getElem? (nth_get hjl))
                have hCR := Lib.hid (c_CompareR (nth known j) (nth known j) (by omega) (by omega) W2)
                rw [cmpU_self] at hCR
                replace hkn := Lib.hid hkn
                replace hb14 := Lib.hid hb14
                clear hrow htab hg hsz
                go_wp2_with (first | (go_at_call 19; refine hNm.out.mono ?_; rintro e w5 ⟨rfl, rfl⟩) | (go_at_call 15; refine hCR.out.mono ?_; rintro e y ⟨rfl, hby⟩))
                obtain ⟨W6, rfl⟩ : ∃ W6, W6 = y := ⟨_, rfl⟩
                have hk6 := hkn.out.keep hby
                have hb6 := below_after hb14.out hby
                clear hkn hb14 hNm hby hCR hc
                generalize hkp : (some ⟨g, 0, none⟩ : Option Addr) = kp at *
                clear hkp
                have hbE := (Below.refl W6.heap.size W6).alloc (Nat.le_refl _) (.cells #[.pointer (some ⟨tb, 0, none⟩)] 34)
                have hk7 := hk6.keep hbE
                have hc7 : (W6.alloc (.cells #[.pointer (some ⟨tb, 0, none⟩)] 34)).cell? ⟨W6.heap.size, 0, none⟩ = some (.pointer (some ⟨tb, 0, none⟩)) := by rw [cell_of_row _ _ _ _ _ _ (heap_alloc_new W6 _)]; rfl
                have hb7 := below_after hb6 hbE
                refine (c_Each W6 (some ⟨tb, 0, none⟩)).mono ?_
                rintro e w7 ⟨rfl, rfl⟩
                obtain ⟨W7, hW7⟩ : ∃ W7, W6.alloc (.cells #[.pointer (some ⟨tb, 0, none⟩)] 34) = W7 := ⟨_, rfl⟩
                generalize heb : W6.heap.size = eb at *
                rw [hW7] at hk7 hc7 hb7 ⊢
                have hq := eql_fn W7 (.func 40) #[] #[.pointer (some ⟨eb, 0, none⟩)]
                replace hk7 := Lib.hid hk7
                replace hc7 := Lib.hid hc7
                replace hb7 := Lib.hid hb7
                clear hbE hb6 hk6 hW7 heb
                go_wp2_with fail
                refine (wpIn_wide (n := 5)).1 ?_
                refine rangeR (n := 5) (gf := 40) (lb := #[.pointer (some ⟨eb, 0, none⟩)]) (kb := w.heap.size) (w0 := W7) rfl (enters_of Try.func40 (by kernel_rfl) rfl) (each_seq known B tb eb w.heap.size W7 (.inr (by omega)) hc7.out hk7.out.2.2.tab hkl3) (Below.refl _ _) (Nat.lt_of_lt_of_le hwAs hb7.out.size) (fun _ => rfl)
                  (fun _ Y => RowKit.Below W7.heap.size W7 Y) (fun c _ Y => c = .exit 6 ∧ RowKit.Below W7.heap.size W7 Y) (ownFrom_below (Nat.le_refl _) (Nat.le_refl _)) (fun c s A B row hs hg hr => ⟨hs.1, (ownFrom_below (Nat.le_refl _) (Nat.le_refl _)) s A B row hs.2 hg hr⟩) (Below.refl _ _) ?round ?done ?stop
                case round =>
                  intro l2 pre x Y hI hpre hl2 hl3
                  gi_wp2
                  refine ⟨trivial, fun Y2 hI2 hl4 => ?_⟩
                  gi_wp2
                  exact ⟨KeepBut.refl _ _, rfl, hI2⟩
                case done =>
                  rintro Y hI hK
                  have hY7 := below_after hb7.out hI
                  have hbK := (Below.refl Y.heap.size Y).alloc (Nat.le_refl _) (.cells #[.int .i64 0] 3)
                  have hk7Y := hk7.out.keep hI
                  have hk8 := hk7Y.keep hbK
                  have hcY : Y.cell? ⟨eb, 0, none⟩ = some (.pointer (some ⟨tb, 0, none⟩)) := by rw [hI.cell (p := ⟨eb, 0, none⟩) (cell_lt hc7.out)]; exact hc7.out
                  have hb8 := below_after hY7 hbK
                  have hkb8 := heap_alloc_new Y (.cells #[.int .i64 0] 3)
                  have hK8 := (hbK.block W7.heap.size (heap_lt hK)).trans hK
                  have hsz8 : Y.heap.size < (Y.alloc (.cells #[.int .i64 0] 3)).heap.size := by simp
                  have hkA : wA.heap.size ≤ Y.heap.size := hY7.size
                  have hA7 : wA.heap.size ≤ W7.heap.size := hb7.out.size
                  have hK7 := heap_lt hK
                  replace hk7Y := Lib.hid hk7Y
                  replace hk8 := Lib.hid hk8
                  replace hcY := Lib.hid hcY
                  replace hb8 := Lib.hid hb8
                  replace hkb8 := Lib.hid hkb8
                  replace hK8 := Lib.hid hK8
                  replace hbK := Lib.hid hbK
                  replace hsz8 := Lib.hid hsz8
                  clear hI hK hY7 hc7 hk7 hb7
                  go_wp2_with fail
                  obtain ⟨W8, hW8⟩ : ∃ W8, Y.alloc (.cells #[.int .i64 0] 3) = W8 := ⟨_, rfl⟩
                  rw [hW8] at hk8 hb8 hkb8 hK8 hbK hsz8 ⊢
                  clear hW8
                  have hgbY := heap_lt hk7Y.out.1
                  have hrow8 : ∀ k, k < known.length → ∃ g, kp = some ⟨g, 0, none⟩ ∧ g < Y.heap.size ∧ W8.cell? ⟨g, k, none⟩ = some (.string (nth known k)) := by
                    obtain ⟨p1, c1, e1, h1⟩ := hk7Y.out.form
                    intro k hk
                    obtain ⟨g, e2, h2, h3⟩ := h1 k hk
                    cases e1
                    exact ⟨g, e2, h2, by rw [hbK.out.cell (p := ⟨g, k, none⟩) h2]; exact h3⟩
                  replace hrow8 := Lib.hid hrow8
                  refine (wpIn_wide (n := 5)).1 ?_
                  refine rangeR (n := 5) (gf := 40) (lb := #[.pointer (some ⟨eb, 0, none⟩)]) (kb := Y.heap.size) (w0 := Y) rfl (enters_of Try.func40 (by kernel_rfl) rfl) (each_seq known B tb eb Y.heap.size Y (.inl (Nat.le_refl _)) hcY.out hk7Y.out.2.2.tab hkl3) hbK.out hsz8.out (fun _ => rfl)
                    (fun pre Z => Z.heap[Y.heap.size]? = some (.cells #[.int .i64 (pre.length : Int)] 3 (0, 0)) ∧ KeepBut (fun r => r = Y.heap.size) W8 Z ∧ RowKit.Below wA.heap.size wA Z) (fun _ _ _ => False)
                    (fun s A C row hs hg hr => ⟨own_obj hsz8.out (fun pre : List (Nat × ByteArray) => .cells #[.int .i64 (pre.length : Int)] 3 (0, 0)) s A C row hs.1 hg hr, own_keepBut _ W8 s A C row hs.2.1 hg hr, ownFrom_below (Nat.le_refl _) (Nat.le_trans hkA (Nat.le_of_lt hsz8.out)) s A C row hs.2.2 hg hr⟩) (fun _ _ _ _ _ hs _ _ => hs) ⟨hkb8.out, KeepBut.refl _ _, hb8.out⟩ ?round2 ?done2 ?stop2
                  case round2 =>
                    rintro l2 pre x Z hI0 hpre hl2 hl3
                    obtain ⟨hkn1, rfl⟩ := numb_at hpre
                    simp only [enc2]
                    gi_wp2
                    refine ⟨trivial, fun Z2 hI2 hl4 => ?_⟩
                    obtain ⟨i1, i2, i3⟩ := hI2
                    have b1 : Z2.cell? ⟨Y.heap.size, 0, none⟩ = some (.int .i64 (pre.length : Int)) := by rw [cell_of_row _ _ _ _ _ _ i1]; rfl
                    have b2 : Z2.cell? ⟨gb, 0, none⟩ = some (.slice kp known.length kc) := i2.cell (by omega) hk8.out.cells.1
                    obtain ⟨g, rfl, hgY, hgc⟩ := hrow8.out pre.length hkn1
                    have b3 : Z2.cell? ⟨g, pre.length, none⟩ = some (.string (nth known pre.length)) := i2.cell (by omega) hgc
                    have hsz := hev.out (nth known pre.length) (List.mem_of_getElem? (nth_get hkn1))
                    have hCR := (callsIn_wide (n := 5 - 1 - 1 - 1)).2 (c_CompareR (nth known pre.length) (nth known pre.length) (by omega) (by omega) Z2)
                    rw [cmpU_self] at hCR
                    replace hCR := Lib.hid (hCR.inRound l2)
                    have hlt' : (pre.length : Int) < (known.length : Int) := by omega
                    have hw5 : IntKind.i64.wrap ((pre.length : Int) + 1) = (pre.length : Int) + 1 := by rw [IntKind.wrap_i64]; omega
                    replace i1 := Lib.hid i1
                    replace i2 := Lib.hid i2
                    replace i3 := Lib.hid i3
                    clear hgc hsz hI0
                    gi_wp2_with (refine ⟨trivial, ?_⟩; gi_at_call 15; refine hCR.out.mono ?_; rintro e Z3 ⟨rfl, hbz⟩; obtain ⟨c1, c2⟩ := box_int ((hbz.block _ (heap_lt i1.out)).trans i1.out))
                    exact round_post i1.out i2.out i3.out hbz hkA (by simp)
                  case done2 =>
                    rintro Z ⟨h1, h2, h3⟩ hK2
                    have hln : (numb known known.length).length = known.length := by simp [numb]
                    rw [hln] at h1
                    have b1 : Z.cell? ⟨Y.heap.size, 0, none⟩ = some (.int .i64 (known.length : Int)) := by rw [cell_of_row _ _ _ _ _ _ h1]; rfl
                    have b2 : Z.cell? ⟨gb, 0, none⟩ = some (.slice kp known.length kc) := h2.cell (by omega) hk8.out.cells.1
                    obtain ⟨b3, b4⟩ := hres2.out Z h3
                    have hsz9 := hsz8.out
                    have ne8 : W8.heap.size ≠ w.heap.size := by omega
                    have ne7 : W7.heap.size ≠ w.heap.size := by omega
                    have ne78 : W7.heap.size ≠ W8.heap.size := by omega
                    have ne7k : W7.heap.size ≠ Y.heap.size := by omega
                    have ne8s := ne8.symm
                    have ne7s := ne7.symm
                    have hK9 : (Z.setCell ⟨w.heap.size, 0, none⟩ (.bool true)).heap[W8.heap.size]? = some (.deferred (some [])) := by rw [Below.heap_setCell _ _ _ _ ne8]; exact hK2
                    have hK10 : ((Z.setCell ⟨w.heap.size, 0, none⟩ (.bool true)).putObj W8.heap.size (.deferred none)).heap[W7.heap.size]? = some (.deferred (some [])) := by
                      rw [World.putObj_heap_other ne78, Below.heap_setCell _ _ _ _ ne7, h2.2 W7.heap.size (by omega) ne7k]; exact hK8.out
                    have hbz := below_put (below_put (hB0.out.trans ((h3.mono (Nat.le_of_lt hwAs)).setCell (p := ⟨w.heap.size, 0, none⟩) (Nat.le_refl _) (.bool true))) W8.heap.size (.deferred none) (by have := hsz8.out; omega)) W7.heap.size (.deferred none) (by omega)
                    have hcz : (((Z.setCell ⟨w.heap.size, 0, none⟩ (.bool true)).putObj W8.heap.size (.deferred none)).putObj W7.heap.size (.deferred none)).cell? ⟨w.heap.size, 0, none⟩ = some (.bool true) := by
                      rw [World.cell?_of_block (World.putObj_heap_other ne7s), World.cell?_of_block (World.putObj_heap_other ne8s)]
                      exact World.cell?_setCell_same _ _ _ b3
                    go_wp2
                    refine ⟨by simp, .inl ⟨_, _, rfl, run_takeDeferred hK9, ?_⟩⟩
                    refine ⟨by simp, .inl ⟨_, _, rfl, run_takeDeferred hK10, ?_⟩⟩
                    exact ⟨_, results_bool rfl _ _ _ _ rfl hcz, rfl, hbz⟩
                  case stop2 =>
                    rintro c pre Z h _
                    exact h.elim
                case stop =>
                  rintro c pre Y ⟨rfl, hI⟩ hK
                  gi_wp2
                  have hY7 := below_after hb7.out hI
                  have hbK := (Below.refl Y.heap.size Y).alloc (Nat.le_refl _) (.cells #[.int .i64 0] 3)
                  have hk7Y := hk7.out.keep hI
                  have hk8 := hk7Y.keep hbK
                  have hcY : Y.cell? ⟨eb, 0, none⟩ = some (.pointer (some ⟨tb, 0, none⟩)) := by rw [hI.cell (p := ⟨eb, 0, none⟩) (cell_lt hc7.out)]; exact hc7.out
                  have hb8 := below_after hY7 hbK
                  have hkb8 := heap_alloc_new Y (.cells #[.int .i64 0] 3)
                  have hK8 := (hbK.block W7.heap.size (heap_lt hK)).trans hK
                  have hsz8 : Y.heap.size < (Y.alloc (.cells #[.int .i64 0] 3)).heap.size := by simp
                  have hkA : wA.heap.size ≤ Y.heap.size := hY7.size
                  have hA7 : wA.heap.size ≤ W7.heap.size := hb7.out.size
                  have hK7 := heap_lt hK
                  replace hk7Y := Lib.hid hk7Y
                  replace hk8 := Lib.hid hk8
                  replace hcY := Lib.hid hcY
                  replace hb8 := Lib.hid hb8
                  replace hkb8 := Lib.hid hkb8
                  replace hK8 := Lib.hid hK8
                  replace hbK := Lib.hid hbK
                  replace hsz8 := Lib.hid hsz8
                  clear hI hK hY7 hc7 hk7 hb7
                  go_wp2_with fail
                  obtain ⟨W8, hW8⟩ : ∃ W8, Y.alloc (.cells #[.int .i64 0] 3) = W8 := ⟨_, rfl⟩
                  rw [hW8] at hk8 hb8 hkb8 hK8 hbK hsz8 ⊢
                  clear hW8
                  have hgbY := heap_lt hk7Y.out.1
                  have hrow8 : ∀ k, k < known.length → ∃ g, kp = some ⟨g, 0, none⟩ ∧ g < Y.heap.size ∧ W8.cell? ⟨g, k, none⟩ = some (.string (nth known k)) := by
                    obtain ⟨p1, c1, e1, h1⟩ := hk7Y.out.form
                    intro k hk
                    obtain ⟨g, e2, h2, h3⟩ := h1 k hk
                    cases e1
                    exact ⟨g, e2, h2, by rw [hbK.out.cell (p := ⟨g, k, none⟩) h2]; exact h3⟩
                  replace hrow8 := Lib.hid hrow8
                  refine (wpIn_wide (n := 5)).1 ?_
                  refine rangeR (n := 5) (gf := 40) (lb := #[.pointer (some ⟨eb, 0, none⟩)]) (kb := Y.heap.size) (w0 := Y) rfl (enters_of Try.func40 (by kernel_rfl) rfl) (each_seq known B tb eb Y.heap.size Y (.inl (Nat.le_refl _)) hcY.out hk7Y.out.2.2.tab hkl3) hbK.out hsz8.out (fun _ => rfl)
                    (fun pre Z => Z.heap[Y.heap.size]? = some (.cells #[.int .i64 (pre.length : Int)] 3 (0, 0)) ∧ KeepBut (fun r => r = Y.heap.size) W8 Z ∧ RowKit.Below wA.heap.size wA Z) (fun _ _ _ => False)
                    (fun s A C row hs hg hr => ⟨own_obj hsz8.out (fun pre : List (Nat × ByteArray) => .cells #[.int .i64 (pre.length : Int)] 3 (0, 0)) s A C row hs.1 hg hr, own_keepBut _ W8 s A C row hs.2.1 hg hr, ownFrom_below (Nat.le_refl _) (Nat.le_trans hkA (Nat.le_of_lt hsz8.out)) s A C row hs.2.2 hg hr⟩) (fun _ _ _ _ _ hs _ _ => hs) ⟨hkb8.out, KeepBut.refl _ _, hb8.out⟩ ?round2 ?done2 ?stop2
                  case round2 =>
                    rintro l2 pre x Z hI0 hpre hl2 hl3
                    obtain ⟨hkn1, rfl⟩ := numb_at hpre
                    simp only [enc2]
                    gi_wp2
                    refine ⟨trivial, fun Z2 hI2 hl4 => ?_⟩
                    obtain ⟨i1, i2, i3⟩ := hI2
                    have b1 : Z2.cell? ⟨Y.heap.size, 0, none⟩ = some (.int .i64 (pre.length : Int)) := by rw [cell_of_row _ _ _ _ _ _ i1]; rfl
                    have b2 : Z2.cell? ⟨gb, 0, none⟩ = some (.slice kp known.length kc) := i2.cell (by omega) hk8.out.cells.1
                    obtain ⟨g, rfl, hgY, hgc⟩ := hrow8.out pre.length hkn1
                    have b3 : Z2.cell? ⟨g, pre.length, none⟩ = some (.string (nth known pre.length)) := i2.cell (by omega) hgc
                    have hsz := hev.out (nth known pre.length) (List.mem_of_getElem? (nth_get hkn1))
                    have hCR := (callsIn_wide (n := 5 - 1 - 1 - 1)).2 (c_CompareR (nth known pre.length) (nth known pre.length) (by omega) (by omega) Z2)
                    rw [cmpU_self] at hCR
                    replace hCR := Lib.hid (hCR.inRound l2)
                    have hlt' : (pre.length : Int) < (known.length : Int) := by omega
                    have hw5 : IntKind.i64.wrap ((pre.length : Int) + 1) = (pre.length : Int) + 1 := by rw [IntKind.wrap_i64]; omega
                    replace i1 := Lib.hid i1
                    replace i2 := Lib.hid i2
                    replace i3 := Lib.hid i3
                    clear hgc hsz hI0
                    gi_wp2_with (refine ⟨trivial, ?_⟩; gi_at_call 15; refine hCR.out.mono ?_; rintro e Z3 ⟨rfl, hbz⟩; obtain ⟨c1, c2⟩ := box_int ((hbz.block _ (heap_lt i1.out)).trans i1.out))
                    exact round_post i1.out i2.out i3.out hbz hkA (by simp)
                  case done2 =>
                    rintro Z ⟨h1, h2, h3⟩ hK2
                    have hln : (numb known known.length).length = known.length := by simp [numb]
                    rw [hln] at h1
                    have b1 : Z.cell? ⟨Y.heap.size, 0, none⟩ = some (.int .i64 (known.length : Int)) := by rw [cell_of_row _ _ _ _ _ _ h1]; rfl
                    have b2 : Z.cell? ⟨gb, 0, none⟩ = some (.slice kp known.length kc) := h2.cell (by omega) hk8.out.cells.1
                    obtain ⟨b3, b4⟩ := hres2.out Z h3
                    have hsz9 := hsz8.out
                    have ne8 : W8.heap.size ≠ w.heap.size := by omega
                    have ne7 : W7.heap.size ≠ w.heap.size := by omega
                    have ne78 : W7.heap.size ≠ W8.heap.size := by omega
                    have ne7k : W7.heap.size ≠ Y.heap.size := by omega
                    have ne8s := ne8.symm
                    have ne7s := ne7.symm
                    have hK9 : (Z.setCell ⟨w.heap.size, 0, none⟩ (.bool true)).heap[W8.heap.size]? = some (.deferred (some [])) := by rw [Below.heap_setCell _ _ _ _ ne8]; exact hK2
                    have hK10 : ((Z.setCell ⟨w.heap.size, 0, none⟩ (.bool true)).putObj W8.heap.size (.deferred none)).heap[W7.heap.size]? = some (.deferred (some [])) := by
                      rw [World.putObj_heap_other ne78, Below.heap_setCell _ _ _ _ ne7, h2.2 W7.heap.size (by omega) ne7k]; exact hK8.out
                    have hbz := below_put (below_put (hB0.out.trans ((h3.mono (Nat.le_of_lt hwAs)).setCell (p := ⟨w.heap.size, 0, none⟩) (Nat.le_refl _) (.bool true))) W8.heap.size (.deferred none) (by have := hsz8.out; omega)) W7.heap.size (.deferred none) (by omega)
                    have hcz : (((Z.setCell ⟨w.heap.size, 0, none⟩ (.bool true)).putObj W8.heap.size (.deferred none)).putObj W7.heap.size (.deferred none)).cell? ⟨w.heap.size, 0, none⟩ = some (.bool true) := by
                      rw [World.cell?_of_block (World.putObj_heap_other ne7s), World.cell?_of_block (World.putObj_heap_other ne8s)]
                      exact World.cell?_setCell_same _ _ _ b3
                    go_wp2
                    refine ⟨by simp, .inl ⟨_, _, rfl, run_takeDeferred hK9, ?_⟩⟩
                    refine ⟨by simp, .inl ⟨_, _, rfl, run_takeDeferred hK10, ?_⟩⟩
                    exact ⟨_, results_bool rfl _ _ _ _ rfl hcz, rfl, hbz⟩
                  case stop2 =>
                    rintro c pre Z h _
                    exact h.elim
              · have hNm := Lib.hid (c_NameNo htab n (.inr hn2))
                replace hkn := Lib.hid hkn
                replace hb14 := Lib.hid hb14
                clear hrow htab
                go_wp2_with (go_at_call 19; refine hNm.out.mono ?_; rintro e w5 ⟨rfl, rfl⟩)
                obtain ⟨W6, rfl⟩ : ∃ W6, W6 = w5 := ⟨_, rfl⟩
                have hk6 := hkn.out
                have hb6 := hb14.out
                clear hkn hb14 hNm
                have hbE := (Below.refl W6.heap.size W6).alloc (Nat.le_refl _) (.cells #[.pointer (some ⟨tb, 0, none⟩)] 34)
                have hk7 := hk6.keep hbE
                have hc7 : (W6.alloc (.cells #[.pointer (some ⟨tb, 0, none⟩)] 34)).cell? ⟨W6.heap.size, 0, none⟩ = some (.pointer (some ⟨tb, 0, none⟩)) := by rw [cell_of_row _ _ _ _ _ _ (heap_alloc_new W6 _)]; rfl
                have hb7 := below_after hb6 hbE
                refine (c_Each W6 (some ⟨tb, 0, none⟩)).mono ?_
                rintro e w7 ⟨rfl, rfl⟩
                obtain ⟨W7, hW7⟩ : ∃ W7, W6.alloc (.cells #[.pointer (some ⟨tb, 0, none⟩)] 34) = W7 := ⟨_, rfl⟩
                generalize heb : W6.heap.size = eb at *
                rw [hW7] at hk7 hc7 hb7 ⊢
                have hq := eql_fn W7 (.func 40) #[] #[.pointer (some ⟨eb, 0, none⟩)]
                replace hk7 := Lib.hid hk7
                replace hc7 := Lib.hid hc7
                replace hb7 := Lib.hid hb7
                clear hbE hb6 hk6 hW7 heb
                go_wp2_with fail
                refine (wpIn_wide (n := 5)).1 ?_
                refine rangeR (n := 5) (gf := 40) (lb := #[.pointer (some ⟨eb, 0, none⟩)]) (kb := w.heap.size) (w0 := W7) rfl (enters_of Try.func40 (by kernel_rfl) rfl) (each_seq known B tb eb w.heap.size W7 (.inr (by omega)) hc7.out hk7.out.2.2.tab hkl3) (Below.refl _ _) (Nat.lt_of_lt_of_le hwAs hb7.out.size) (fun _ => rfl)
                  (fun _ Y => RowKit.Below W7.heap.size W7 Y) (fun c _ Y => c = .exit 6 ∧ RowKit.Below W7.heap.size W7 Y) (ownFrom_below (Nat.le_refl _) (Nat.le_refl _)) (fun c s A B row hs hg hr => ⟨hs.1, (ownFrom_below (Nat.le_refl _) (Nat.le_refl _)) s A B row hs.2 hg hr⟩) (Below.refl _ _) ?round ?done ?stop
                case round =>
                  intro l2 pre x Y hI hpre hl2 hl3
                  gi_wp2
                  refine ⟨trivial, fun Y2 hI2 hl4 => ?_⟩
                  gi_wp2
                  exact ⟨KeepBut.refl _ _, rfl, hI2⟩
                case done =>
                  rintro Y hI hK
                  have hY7 := below_after hb7.out hI
                  have hbK := (Below.refl Y.heap.size Y).alloc (Nat.le_refl _) (.cells #[.int .i64 0] 3)
                  have hk7Y := hk7.out.keep hI
                  have hk8 := hk7Y.keep hbK
                  have hcY : Y.cell? ⟨eb, 0, none⟩ = some (.pointer (some ⟨tb, 0, none⟩)) := by rw [hI.cell (p := ⟨eb, 0, none⟩) (cell_lt hc7.out)]; exact hc7.out
                  have hb8 := below_after hY7 hbK
                  have hkb8 := heap_alloc_new Y (.cells #[.int .i64 0] 3)
                  have hK8 := (hbK.block W7.heap.size (heap_lt hK)).trans hK
                  have hsz8 : Y.heap.size < (Y.alloc (.cells #[.int .i64 0] 3)).heap.size := by simp
                  have hkA : wA.heap.size ≤ Y.heap.size := hY7.size
                  have hA7 : wA.heap.size ≤ W7.heap.size := hb7.out.size
                  have hK7 := heap_lt hK
                  replace hk7Y := Lib.hid hk7Y
                  replace hk8 := Lib.hid hk8
                  replace hcY := Lib.hid hcY
                  replace hb8 := Lib.hid hb8
                  replace hkb8 := Lib.hid hkb8
                  replace hK8 := Lib.hid hK8
                  replace hbK := Lib.hid hbK
                  replace hsz8 := Lib.hid hsz8
                  clear hI hK hY7 hc7 hk7 hb7
                  go_wp2_with fail
                  obtain ⟨W8, hW8⟩ : ∃ W8, Y.alloc (.cells #[.int .i64 0] 3) = W8 := ⟨_, rfl⟩
                  rw [hW8] at hk8 hb8 hkb8 hK8 hbK hsz8 ⊢
                  clear hW8
                  have hgbY := heap_lt hk7Y.out.1
                  have hrow8 : ∀ k, k < known.length → ∃ g, kp = some ⟨g, 0, none⟩ ∧ g < Y.heap.size ∧ W8.cell? ⟨g, k, none⟩ = some (.string (nth known k)) := by
                    obtain ⟨p1, c1, e1, h1⟩ := hk7Y.out.form
                    intro k hk
                    obtain ⟨g, e2, h2, h3⟩ := h1 k hk
                    cases e1
                    exact ⟨g, e2, h2, by rw [hbK.out.cell (p := ⟨g, k, none⟩) h2]; exact h3⟩
                  replace hrow8 := Lib.hid hrow8
                  refine (wpIn_wide (n := 5)).1 ?_
                  refine rangeR (n := 5) (gf := 40) (lb := #[.pointer (some ⟨eb, 0, none⟩)]) (kb := Y.heap.size) (w0 := Y) rfl (enters_of Try.func40 (by kernel_rfl) rfl) (each_seq known B tb eb Y.heap.size Y (.inl (Nat.le_refl _)) hcY.out hk7Y.out.2.2.tab hkl3) hbK.out hsz8.out (fun _ => rfl)
                    (fun pre Z => Z.heap[Y.heap.size]? = some (.cells #[.int .i64 (pre.length : Int)] 3 (0, 0)) ∧ KeepBut (fun r => r = Y.heap.size) W8 Z ∧ RowKit.Below wA.heap.size wA Z) (fun _ _ _ => False)
                    (fun s A C row hs hg hr => ⟨own_obj hsz8.out (fun pre : List (Nat × ByteArray) => .cells #[.int .i64 (pre.length : Int)] 3 (0, 0)) s A C row hs.1 hg hr, own_keepBut _ W8 s A C row hs.2.1 hg hr, ownFrom_below (Nat.le_refl _) (Nat.le_trans hkA (Nat.le_of_lt hsz8.out)) s A C row hs.2.2 hg hr⟩) (fun _ _ _ _ _ hs _ _ => hs) ⟨hkb8.out, KeepBut.refl _ _, hb8.out⟩ ?round2 ?done2 ?stop2
                  case round2 =>
                    rintro l2 pre x Z hI0 hpre hl2 hl3
                    obtain ⟨hkn1, rfl⟩ := numb_at hpre
                    simp only [enc2]
                    gi_wp2
                    refine ⟨trivial, fun Z2 hI2 hl4 => ?_⟩
                    obtain ⟨i1, i2, i3⟩ := hI2
                    have b1 : Z2.cell? ⟨Y.heap.size, 0, none⟩ = some (.int .i64 (pre.length : Int)) := by rw [cell_of_row _ _ _ _ _ _ i1]; rfl
                    have b2 : Z2.cell? ⟨gb, 0, none⟩ = some (.slice kp known.length kc) := i2.cell (by omega) hk8.out.cells.1
                    obtain ⟨g, rfl, hgY, hgc⟩ := hrow8.out pre.length hkn1
                    have b3 : Z2.cell? ⟨g, pre.length, none⟩ = some (.string (nth known pre.length)) := i2.cell (by omega) hgc
                    have hsz := hev.out (nth known pre.length) (List.mem_of_getElem? (nth_get hkn1))
                    have hCR := (callsIn_wide (n := 5 - 1 - 1 - 1)).2 (c_CompareR (nth known pre.length) (nth known pre.length) (by omega) (by omega) Z2)
                    rw [cmpU_self] at hCR
                    replace hCR := Lib.hid (hCR.inRound l2)
                    have hlt' : (pre.length : Int) < (known.length : Int) := by omega
                    have hw5 : IntKind.i64.wrap ((pre.length : Int) + 1) = (pre.length : Int) + 1 := by rw [IntKind.wrap_i64]; omega
                    replace i1 := Lib.hid i1
                    replace i2 := Lib.hid i2
                    replace i3 := Lib.hid i3
                    clear hgc hsz hI0
                    gi_wp2_with (refine ⟨trivial, ?_⟩; gi_at_call 15; refine hCR.out.mono ?_; rintro e Z3 ⟨rfl, hbz⟩; obtain ⟨c1, c2⟩ := box_int ((hbz.block _ (heap_lt i1.out)).trans i1.out))
                    exact round_post i1.out i2.out i3.out hbz hkA (by simp)
                  case done2 =>
                    rintro Z ⟨h1, h2, h3⟩ hK2
                    have hln : (numb known known.length).length = known.length := by simp [numb]
                    rw [hln] at h1
                    have b1 : Z.cell? ⟨Y.heap.size, 0, none⟩ = some (.int .i64 (known.length : Int)) := by rw [cell_of_row _ _ _ _ _ _ h1]; rfl
                    have b2 : Z.cell? ⟨gb, 0, none⟩ = some (.slice kp known.length kc) := h2.cell (by omega) hk8.out.cells.1
                    obtain ⟨b3, b4⟩ := hres2.out Z h3
                    have hsz9 := hsz8.out
                    have ne8 : W8.heap.size ≠ w.heap.size := by omega
                    have ne7 : W7.heap.size ≠ w.heap.size := by omega
                    have ne78 : W7.heap.size ≠ W8.heap.size := by omega
                    have ne7k : W7.heap.size ≠ Y.heap.size := by omega
                    have ne8s := ne8.symm
                    have ne7s := ne7.symm
                    have hK9 : (Z.setCell ⟨w.heap.size, 0, none⟩ (.bool true)).heap[W8.heap.size]? = some (.deferred (some [])) := by rw [Below.heap_setCell _ _ _ _ ne8]; exact hK2
                    have hK10 : ((Z.setCell ⟨w.heap.size, 0, none⟩ (.bool true)).putObj W8.heap.size (.deferred none)).heap[W7.heap.size]? = some (.deferred (some [])) := by
                      rw [World.putObj_heap_other ne78, Below.heap_setCell _ _ _ _ ne7, h2.2 W7.heap.size (by omega) ne7k]; exact hK8.out
                    have hbz := below_put (below_put (hB0.out.trans ((h3.mono (Nat.le_of_lt hwAs)).setCell (p := ⟨w.heap.size, 0, none⟩) (Nat.le_refl _) (.bool true))) W8.heap.size (.deferred none) (by have := hsz8.out; omega)) W7.heap.size (.deferred none) (by omega)
                    have hcz : (((Z.setCell ⟨w.heap.size, 0, none⟩ (.bool true)).putObj W8.heap.size (.deferred none)).putObj W7.heap.size (.deferred none)).cell? ⟨w.heap.size, 0, none⟩ = some (.bool true) := by
                      rw [World.cell?_of_block (World.putObj_heap_other ne7s), World.cell?_of_block (World.putObj_heap_other ne8s)]
                      exact World.cell?_setCell_same _ _ _ b3
                    go_wp2
                    refine ⟨by simp, .inl ⟨_, _, rfl, run_takeDeferred hK9, ?_⟩⟩
                    refine ⟨by simp, .inl ⟨_, _, rfl, run_takeDeferred hK10, ?_⟩⟩
                    exact ⟨_, results_bool rfl _ _ _ _ rfl hcz, rfl, hbz⟩
                  case stop2 =>
                    rintro c pre Z h _
                    exact h.elim
                case stop =>
                  rintro c pre Y ⟨rfl, hI⟩ hK
                  gi_wp2
                  have hY7 := below_after hb7.out hI
                  have hbK := (Below.refl Y.heap.size Y).alloc (Nat.le_refl _) (.cells #[.int .i64 0] 3)
                  have hk7Y := hk7.out.keep hI
                  have hk8 := hk7Y.keep hbK
                  have hcY : Y.cell? ⟨eb, 0, none⟩ = some (.pointer (some ⟨tb, 0, none⟩)) := by rw [hI.cell (p := ⟨eb, 0, none⟩) (cell_lt hc7.out)]; exact hc7.out
                  have hb8 := below_after hY7 hbK
                  have hkb8 := heap_alloc_new Y (.cells #[.int .i64 0] 3)
                  have hK8 := (hbK.block W7.heap.size (heap_lt hK)).trans hK
                  have hsz8 : Y.heap.size < (Y.alloc (.cells #[.int .i64 0] 3)).heap.size := by simp
                  have hkA : wA.heap.size ≤ Y.heap.size := hY7.size
                  have hA7 : wA.heap.size ≤ W7.heap.size := hb7.out.size
                  have hK7 := heap_lt hK
                  replace hk7Y := Lib.hid hk7Y
                  replace hk8 := Lib.hid hk8
                  replace hcY := Lib.hid hcY
                  replace hb8 := Lib.hid hb8
                  replace hkb8 := Lib.hid hkb8
                  replace hK8 := Lib.hid hK8
                  replace hbK := Lib.hid hbK
                  replace hsz8 := Lib.hid hsz8
                  clear hI hK hY7 hc7 hk7 hb7
                  go_wp2_with fail
                  obtain ⟨W8, hW8⟩ : ∃ W8, Y.alloc (.cells #[.int .i64 0] 3) = W8 := ⟨_, rfl⟩
                  rw [hW8] at hk8 hb8 hkb8 hK8 hbK hsz8 ⊢
                  clear hW8
                  have hgbY := heap_lt hk7Y.out.1
                  have hrow8 : ∀ k, k < known.length → ∃ g, kp = some ⟨g, 0, none⟩ ∧ g < Y.heap.size ∧ W8.cell? ⟨g, k, none⟩ = some (.string (nth known k)) := by
                    obtain ⟨p1, c1, e1, h1⟩ := hk7Y.out.form
                    intro k hk
                    obtain ⟨g, e2, h2, h3⟩ := h1 k hk
                    cases e1
                    exact ⟨g, e2, h2, by rw [hbK.out.cell (p := ⟨g, k, none⟩) h2]; exact h3⟩
                  replace hrow8 := Lib.hid hrow8
                  refine (wpIn_wide (n := 5)).1 ?_
                  refine rangeR (n := 5) (gf := 40) (lb := #[.pointer (some ⟨eb, 0, none⟩)]) (kb := Y.heap.size) (w0 := Y) rfl (enters_of Try.func40 (by kernel_rfl) rfl) (each_seq known B tb eb Y.heap.size Y (.inl (Nat.le_refl _)) hcY.out hk7Y.out.2.2.tab hkl3) hbK.out hsz8.out (fun _ => rfl)
                    (fun pre Z => Z.heap[Y.heap.size]? = some (.cells #[.int .i64 (pre.length : Int)] 3 (0, 0)) ∧ KeepBut (fun r => r = Y.heap.size) W8 Z ∧ RowKit.Below wA.heap.size wA Z) (fun _ _ _ => False)
                    (fun s A C row hs hg hr => ⟨own_obj hsz8.out (fun pre : List (Nat × ByteArray) => .cells #[.int .i64 (pre.length : Int)] 3 (0, 0)) s A C row hs.1 hg hr, own_keepBut _ W8 s A C row hs.2.1 hg hr, ownFrom_below (Nat.le_refl _) (Nat.le_trans hkA (Nat.le_of_lt hsz8.out)) s A C row hs.2.2 hg hr⟩) (fun _ _ _ _ _ hs _ _ => hs) ⟨hkb8.out, KeepBut.refl _ _, hb8.out⟩ ?round2 ?done2 ?stop2
                  case round2 =>
                    rintro l2 pre x Z hI0 hpre hl2 hl3
                    obtain ⟨hkn1, rfl⟩ := numb_at hpre
                    simp only [enc2]
                    gi_wp2
                    refine ⟨trivial, fun Z2 hI2 hl4 => ?_⟩
                    obtain ⟨i1, i2, i3⟩ := hI2
                    have b1 : Z2.cell? ⟨Y.heap.size, 0, none⟩ = some (.int .i64 (pre.length : Int)) := by rw [cell_of_row _ _ _ _ _ _ i1]; rfl
                    have b2 : Z2.cell? ⟨gb, 0, none⟩ = some (.slice kp known.length kc) := i2.cell (by omega) hk8.out.cells.1
                    obtain ⟨g, rfl, hgY, hgc⟩ := hrow8.out pre.length hkn1
                    have b3 : Z2.cell? ⟨g, pre.length, none⟩ = some (.string (nth known pre.length)) := i2.cell (by omega) hgc
                    have hsz := hev.out (nth known pre.length) (List.mem_of_getElem? (nth_get hkn1))
                    have hCR := (callsIn_wide (n := 5 - 1 - 1 - 1)).2 (c_CompareR (nth known pre.length) (nth known pre.length) (by omega) (by omega) Z2)
                    rw [cmpU_self] at hCR
                    replace hCR := Lib.hid (hCR.inRound l2)
                    have hlt' : (pre.length : Int) < (known.length : Int) := by omega
                    have hw5 : IntKind.i64.wrap ((pre.length : Int) + 1) = (pre.length : Int) + 1 := by rw [IntKind.wrap_i64]; omega
                    replace i1 := Lib.hid i1
                    replace i2 := Lib.hid i2
                    replace i3 := Lib.hid i3
                    clear hgc hsz hI0
                    gi_wp2_with (refine ⟨trivial, ?_⟩; gi_at_call 15; refine hCR.out.mono ?_; rintro e Z3 ⟨rfl, hbz⟩; obtain ⟨c1, c2⟩ := box_int ((hbz.block _ (heap_lt i1.out)).trans i1.out))
                    exact round_post i1.out i2.out i3.out hbz hkA (by simp)
                  case done2 =>
                    rintro Z ⟨h1, h2, h3⟩ hK2
                    have hln : (numb known known.length).length = known.length := by simp [numb]
                    rw [hln] at h1
                    have b1 : Z.cell? ⟨Y.heap.size, 0, none⟩ = some (.int .i64 (known.length : Int)) := by rw [cell_of_row _ _ _ _ _ _ h1]; rfl
                    have b2 : Z.cell? ⟨gb, 0, none⟩ = some (.slice kp known.length kc) := h2.cell (by omega) hk8.out.cells.1
                    obtain ⟨b3, b4⟩ := hres2.out Z h3
                    have hsz9 := hsz8.out
                    have ne8 : W8.heap.size ≠ w.heap.size := by omega
                    have ne7 : W7.heap.size ≠ w.heap.size := by omega
                    have ne78 : W7.heap.size ≠ W8.heap.size := by omega
                    have ne7k : W7.heap.size ≠ Y.heap.size := by omega
                    have ne8s := ne8.symm
                    have ne7s := ne7.symm
                    have hK9 : (Z.setCell ⟨w.heap.size, 0, none⟩ (.bool true)).heap[W8.heap.size]? = some (.deferred (some [])) := by rw [Below.heap_setCell _ _ _ _ ne8]; exact hK2
                    have hK10 : ((Z.setCell ⟨w.heap.size, 0, none⟩ (.bool true)).putObj W8.heap.size (.deferred none)).heap[W7.heap.size]? = some (.deferred (some [])) := by
                      rw [World.putObj_heap_other ne78, Below.heap_setCell _ _ _ _ ne7, h2.2 W7.heap.size (by omega) ne7k]; exact hK8.out
                    have hbz := below_put (below_put (hB0.out.trans ((h3.mono (Nat.le_of_lt hwAs)).setCell (p := ⟨w.heap.size, 0, none⟩) (Nat.le_refl _) (.bool true))) W8.heap.size (.deferred none) (by have := hsz8.out; omega)) W7.heap.size (.deferred none) (by omega)
                    have hcz : (((Z.setCell ⟨w.heap.size, 0, none⟩ (.bool true)).putObj W8.heap.size (.deferred none)).putObj W7.heap.size (.deferred none)).cell? ⟨w.heap.size, 0, none⟩ = some (.bool true) := by
                      rw [World.cell?_of_block (World.putObj_heap_other ne7s), World.cell?_of_block (World.putObj_heap_other ne8s)]
                      exact World.cell?_setCell_same _ _ _ b3
                    go_wp2
                    refine ⟨by simp, .inl ⟨_, _, rfl, run_takeDeferred hK9, ?_⟩⟩
                    refine ⟨by simp, .inl ⟨_, _, rfl, run_takeDeferred hK10, ?_⟩⟩
                    exact ⟨_, results_bool rfl _ _ _ _ rfl hcz, rfl, hbz⟩
                  case stop2 =>
                    rintro c pre Z h _
                    exact h.elim
      · have hdec : decide ((3000 : Int) < (sumT l l.length : Int)) = true := decide_eq_true (by omega)
        obtain ⟨r1, r2⟩ := hres2.out _ hb1
        clear hbig
        have hbz := hB0.out.trans ((hb1.mono hB0.out.size).setCell (p := ⟨w.heap.size, 0, none⟩) (Nat.le_refl _) (.bool true))
        have hcz : (W1.setCell ⟨w.heap.size, 0, none⟩ (.bool true)).cell? ⟨w.heap.size, 0, none⟩ = some (.bool true) := World.cell?_setCell_same _ _ _ r1
        go_wp2
        exact ⟨_, results_bool rfl _ _ _ _ rfl hcz, rfl, hbz⟩
end Go.Proofs.Ytkbjakadngnokaa
