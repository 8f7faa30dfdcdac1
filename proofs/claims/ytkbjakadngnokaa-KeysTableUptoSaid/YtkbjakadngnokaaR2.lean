/-
  The contract of the reference's Order.
-/
import Derived.Test.YtkbjakadngnokaaR1
namespace Go.Proofs.Ytkbjakadngnokaa
open Go.RowKit Go.Shelf Go.Lib Go.Sort Go.Proofs
set_option maxHeartbeats 1000000
set_option maxRecDepth 8000

theorem c_Order4 (v : Value) (l : List KK) (hl : l.length ≤ 1099511627776) (hsm : Small l) (w : World) (h : RdK w v l) :
    Calls Try.prog 11 #[v] w fun e w' => ∃ v' Z, e = .returned v' ∧ RdK w' v' Z ∧ Srt Z ∧ Eqv Z l ∧ Below w.heap.size w w' := by
  obtain ⟨p, c, rfl, hpc, hlc, hcell⟩ := h.form
  obtain ⟨i0, hi0, hz0, hz1, hz2⟩ := info_parts infoKey
  have hL : ∀ k, k < l.length → ∃ x b o, l[k]? = some x ∧ x.1.size ≤ 1099511627776 ∧ p = some ⟨b, o, none⟩ ∧ ∀ y, Below w.heap.size w y → y.cell? ⟨b, o + k * 2, none⟩ = some (.string x.1) ∧ y.cell? ⟨b, o + k * 2 + 1, none⟩ = some (.int .i64 x.2) := by
    intro k hk
    have hx : l[k]? = some l[k] := List.getElem?_eq_getElem hk
    obtain ⟨b, o, q1, q2, q3⟩ := hcell k _ hx
    exact ⟨_, b, o, hx, hsm _ (List.getElem_mem hk), q1, q3⟩
  have hO0 := own3_start w
  have hR0 := ref_start l
  have hsm := Lib.hid hsm
  have hL := Lib.hid hL
  clear h hpc hcell hlc
  go_enter Try.func11, Try.ntmps11
  go_wp2
  go_loopw [3, 4, 5, 15] (fun vf vt vs vk wr => ∃ (k : Nat) (F T S : List KK), k ≤ l.length ∧ vk = .int .i64 (k : Int) ∧ RefI l k F T S ∧ Own3 wr w.heap.size vf vt vs F T S ∧ Below w.heap.size w wr) (fun _ _ _ vk _ => l.length - (intOf vk).toNat)
  case atStart => exact ⟨0, [], [], [], by omega, rfl, hR0, hO0, Below.refl _ _⟩
  case round =>
    obtain ⟨k, F, T, S, hk, rfl, hR, hO, hbel⟩ := hrel
    clear hR0 hO0
    rcases Nat.lt_or_ge k l.length with hlt | hge
    · obtain ⟨x, b, o, hx, hxs, rfl, hy⟩ := hL.out k hlt
      obtain ⟨d1, d2⟩ := hy wr hbel
      have hlt' : (k : Int) < (l.length : Int) := by omega
      have hFl := hR.len hk
      have hsz0 := hbel.size
      by_cases hsym : 0 < x.2
      · have hR2 := Lib.hid (ref_sym hR hx hsym)
        have hbelA := hbel.alloc hbel.size (.cells #[.string x.1, .int .i64 x.2] 29)
        have hOA := hO.keep ((Below.refl _ wr).alloc (Nat.le_refl _) (.cells #[.string x.1, .int .i64 x.2] 29))
        have hOB := hOA.keep ((Below.refl _ _).alloc (Nat.le_refl _) (.cells #[.string x.1, .int .i64 x.2] 29))
        have hown := hOB.2.2.1
        have hO1 := Lib.hid hOB
        have hszA := hbelA.size
        clear hR hO hOA hOB hx hy
        go_wp2_with (at_builtin; refine wpList_append_lies _ (by rfl) _ _ _ (by rfl) w.heap.size 29 i0 _ 2 24 Try.underlying22 hi0 hz0 hz1 hz2 rfl (by omega) u5 S.length (flatK S) (by rfl) hown ⟨wr.heap.size + 1, 0, none⟩ 1 1 [.string x.1, .int .i64 x.2] (by rfl) (by rfl) (World.news_of_block (cs := #[.string x.1, .int .i64 x.2]) (t := 29) (fr := (0, 0)) (by exact heap_alloc2_new wr _ _)) (by simp [Value.oneCell']) (by omega) (by unfold maxLen; omega) (by omega) (by simp; omega) _ rfl ?_; intro gg cap w2 hown2 hgrow hat hlt2)
        have hO3 := Lib.hid (own3_sym hO1.out rfl hown2 hgrow hat)
        have hbel2 := Lib.hid ((hbelA.alloc hszA _).grown hgrow (by simp; omega) (own_base hown))
        go_roundw
        case rel => exact ⟨k + 1, F, T, S ++ [x], by omega, by go_num, hR2.out, hO3.out, hbel2.out⟩
        case measure => simp [intOf]; omega
      · have hbelA := hbel.alloc hbel.size (.cells #[.string x.1, .int .i64 x.2] 29)
        have hOA := hO.keep ((Below.refl _ wr).alloc (Nat.le_refl _) (.cells #[.string x.1, .int .i64 x.2] 29))
        have hI := Lib.hid (c_Index4 x.1 hxs (wr.alloc (.cells #[.string x.1, .int .i64 x.2] 29)))
        have hxk := heap_alloc_new wr (.cells #[.string x.1, .int .i64 x.2] 29)
        cases hix : idxOf (U x.1) with
        | none =>
          rw [hix] at hI
          unfold idxV at hI
          simp only [Option.getD, Option.isSome] at hI
          have hR2 := Lib.hid (ref_txt hR hx hsym hix)
          clear hR hO hx hy hix
          have hbelA := Lib.hid hbelA
          have hOA := Lib.hid hOA
          have hxk := Lib.hid hxk
          go_wp2_with fail
          refine hI.out.mono ?_
          rintro e w1 ⟨rfl, hb1⟩
          have hh1 := (hb1.block wr.heap.size (by simp)).trans hxk.out
          have e1 : w1.cell? ⟨wr.heap.size, 0, none⟩ = some (.string x.1) := by rw [cell_of_row _ _ _ _ _ _ hh1]; rfl
          have e2 : w1.cell? ⟨wr.heap.size, 1, none⟩ = some (.int .i64 x.2) := by rw [cell_of_row _ _ _ _ _ _ hh1]; rfl
          have hbel1 := hbelA.out.trans (hb1.mono hbelA.out.size)
          have hOB := (hOA.out.keep hb1).keep ((Below.refl _ w1).alloc (Nat.le_refl _) (.cells #[.string x.1, .int .i64 x.2] 29))
          have hown := hOB.2.1
          have hO1 := Lib.hid hOB
          have hsz1 := hbel1.size
          clear hb1 hh1 hOB hI
          go_wp2_with (at_builtin; refine wpList_append_lies _ (by rfl) _ _ _ (by rfl) w.heap.size 29 i0 _ 2 24 Try.underlying22 hi0 hz0 hz1 hz2 rfl (by omega) u4 T.length (flatK T) (by rfl) hown ⟨w1.heap.size, 0, none⟩ 1 1 [.string x.1, .int .i64 x.2] (by rfl) (by rfl) (World.news_of_block (cs := #[.string x.1, .int .i64 x.2]) (t := 29) (fr := (0, 0)) (by exact heap_alloc_new w1 _)) (by simp [Value.oneCell']) (by omega) (by unfold maxLen; omega) (by omega) (by simp; omega) _ rfl ?_; intro gg cap w2 hown2 hgrow hat hlt2)
          have hO3 := Lib.hid (own3_txt hO1.out rfl hown2 hgrow hat)
          have hbel2 := Lib.hid ((hbel1.alloc hsz1 _).grown hgrow (by simp; omega) (own_base hown))
          go_roundw
          case rel => exact ⟨k + 1, F, T ++ [x], S, by omega, by go_num, hR2.out, hO3.out, hbel2.out⟩
          case measure => simp [intOf]; omega
        | some m =>
          rw [hix] at hI
          unfold idxV at hI
          simp only [Option.getD, Option.isSome] at hI
          obtain ⟨hrx, hxx, hmle⟩ := rk_idx hsym hix
          have hF : ∀ j, j < F.length → ∃ y, F[j]? = some y ∧ y.1.size ≤ 1099511627776 ∧ ∃ n : Nat, idxOf (U y.1) = some n ∧ rk y = n := by
            intro j hj
            have h1 : F[j]? = some F[j] := List.getElem?_eq_getElem hj
            have h2 := hR.2.1 _ (List.getElem_mem hj)
            exact ⟨_, h1, hsm.out _ (hR.mem (List.getElem_mem hj)), _, h2.2, rfl⟩
          have hSF := hR.1
          have hR2 := fun F1 F2 (e : F = F1 ++ F2) => Lib.hid (fun h1 h2 => ref_idx (e ▸ hR) hx hsym hix h1 h2)
          have hF := Lib.hid hF
          have hSF := Lib.hid hSF
          clear hR hO hx hy hix
          have hbelA := Lib.hid hbelA
          have hOA := Lib.hid hOA
          have hxk := Lib.hid hxk
          have hvf : (F = [] ∧ u3 = .slice none 0 0) ∨ (0 < F.length ∧ ∃ g cq, u3 = .slice (some ⟨g, 0, none⟩) F.length cq ∧ F.length ≤ cq ∧ g < wr.heap.size + 1 ∧ ∀ y, Below (wr.alloc (.cells #[.string x.1, .int .i64 x.2] 29)).heap.size (wr.alloc (.cells #[.string x.1, .int .i64 x.2] 29)) y → ∀ j z, (flatK F)[j]? = some z → y.cell? ⟨g, j, none⟩ = some z) := by
            by_cases hF0 : F = []
            · exact .inl ⟨hF0, hOA.out.2.2.2.2.2.2.2 hF0⟩
            · have hpos : 0 < F.length := List.length_pos_iff.2 hF0
              obtain ⟨g, cq, e, hgB, hgl⟩ := hOA.out.1.form hpos
              have ho := hOA.out.1
              rw [e] at ho
              refine .inr ⟨hpos, g, cq, e, (rowL_own ho).2.2.2, by simpa using hgl, fun y hy j z hz => ?_⟩
              have := (own_below' ho hy).cells (g := g) rfl j z hz
              rw [add_zero_addr] at this
              exact this
          have hxc : ∀ y, Below (wr.alloc (.cells #[.string x.1, .int .i64 x.2] 29)).heap.size (wr.alloc (.cells #[.string x.1, .int .i64 x.2] 29)) y → y.cell? ⟨wr.heap.size, 0, none⟩ = some (.string x.1) ∧ y.cell? ⟨wr.heap.size, 1, none⟩ = some (.int .i64 x.2) := by
            intro y hy
            have hh := (hy.block wr.heap.size (by simp)).trans hxk.out
            exact ⟨by rw [cell_of_row _ _ _ _ _ _ hh]; rfl, by rw [cell_of_row _ _ _ _ _ _ hh]; rfl⟩
          have hxc := Lib.hid hxc
          have hR2 := Lib.hid hR2
          rcases hvf with ⟨hF0, rfl⟩ | ⟨hpos, g, cq, rfl, hcq, hgl, hgc⟩
          · subst hF0
            go_wp2_with fail
            refine hI.out.mono ?_
            rintro e w1 ⟨rfl, hb1⟩
            obtain ⟨e1, e2⟩ := hxc.out w1 hb1
            have hbel1 := Lib.hid (hbelA.out.trans (hb1.mono hbelA.out.size))
            have hO1 := Lib.hid (hOA.out.keep hb1)
            clear hb1 hI hOA hbelA hxk hxc
            go_wp2
            go_loopw [10] (fun va wr2 => va = .int .i64 0 ∧ wr2 = w1) (fun va _ => 0)
            case atStart => exact ⟨rfl, rfl⟩
            case round =>
              obtain ⟨rfl, rfl⟩ := hrel
              go_wp2
              go_region_law (first | (refine step_append_grows rfl _ _ _ rfl 29 i0 _ 2 24 Try.underlying22 hi0 hz0 hz1 hz2 rfl (by omega) none 0 0 [] rfl (fun _ => ⟨rfl, rfl⟩) rfl (fun b hb => by cases hb) ⟨wr.heap.size, 0, none⟩ 1 1 [.string x.1, .int .i64 x.2] rfl rfl (World.news_of_block (cs := #[.string x.1, .int .i64 x.2]) (t := 29) (fr := (0, 0)) (by exact heap_alloc_new _ _)) (by simp [Value.oneCell']) (by omega) (by unfold maxLen; omega) (by omega) ?_; intro v' w2 hown2 hgrow))
              have hO2 := own3_fst (F' := [x]) (hO1.out.keep ((Below.refl _ wr).drew.alloc (Nat.le_refl _) (.cells #[.string x.1, .int .i64 x.2] 29))) (by have := hbel1.out.size; simp; omega) hown2 (by simp) hgrow
              have hbel2 := Lib.hid (((hbel1.out.drew).alloc (by exact hbel1.out.size) (.cells #[.string x.1, .int .i64 x.2] 29)).grown hgrow (by have := hbel1.out.size; simp; omega) (fun k hk => by cases hk))
              have hO2 := Lib.hid hO2
              have hR3 := Lib.hid ((hR2.out [] [] rfl).out (by simp) (by simp))
              clear hown2 hgrow hO1 hbel1
              go_wp2
              go_roundw
              case rel => exact ⟨k + 1, [x], T, S, by omega, by go_num, hR3.out, hO2.out, hbel2.out⟩
              case measure => simp [intOf]; omega
          · have hzz : ∀ y, Below (wr.alloc (.cells #[.string x.1, .int .i64 x.2] 29)).heap.size (wr.alloc (.cells #[.string x.1, .int .i64 x.2] 29)) y → ∀ j z, F[j]? = some z → y.cell? ⟨g, j * 2, none⟩ = some (.string z.1) ∧ y.cell? ⟨g, j * 2 + 1, none⟩ = some (.int .i64 z.2) := by
              intro y hy j z hz
              obtain ⟨q1, q2⟩ := flatK_get F j z hz
              exact ⟨hgc y hy _ _ q1, hgc y hy _ _ q2⟩
            replace hgc := Lib.hid hgc
            replace hzz := Lib.hid hzz
            have hFl2 : F.length ≤ 1099511627776 := by omega
            go_wp2_with fail
            refine hI.out.mono ?_
            rintro e w1 ⟨rfl, hb1⟩
            have hbel1 := Lib.hid (hbelA.out.trans (hb1.mono hbelA.out.size))
            have hO1 := Lib.hid (hOA.out.keep hb1)
            have hb1 := Lib.hid hb1
            clear hI hOA hbelA hxk
            go_wp2
            go_loopw [10] (fun va wr2 => ∃ a : Nat, a ≤ F.length ∧ va = .int .i64 (a : Int) ∧ (∀ y ∈ F.drop a, rk x < rk y) ∧ Below w1.heap.size w1 wr2) (fun va _ => (intOf va).toNat)
            case atStart => exact ⟨F.length, Nat.le_refl _, rfl, by simp, Below.refl _ _⟩
            case round =>
              obtain ⟨a, ha, rfl, hdr, hb2⟩ := hrel
              have hdr := Lib.hid hdr
              have hb12 := below_after hb1.out hb2
              have hb2 := Lib.hid hb2
              obtain ⟨e1, e2⟩ := hxc.out _ hb12
              have hb12 := Lib.hid hb12
              rcases Nat.eq_zero_or_pos a with ha0 | ha0
              · subst ha0
                have hc2 := Lib.hid (fun (y : World) (hy : Below w1.heap.size w1 y) (j : Nat) z (hz : (flatK (F))[j]? = some z) => show y.cell? ((⟨g, 0, none⟩ : Addr).add j) = some z by
                  rw [add_zero_addr]; exact hgc.out y (below_after hb1.out hy) j z hz)
                have hc1 := Lib.hid (fun (y : World) (hy : Below w1.heap.size w1 y) (j : Nat) z (hz : (flatK ([]))[j]? = some z) => show y.cell? ((⟨g, 0, none⟩ : Addr).add j) = some z by
                  simp [flatK] at hz)
                have hW := Lib.hid (below_after hb2.out ((Below.refl _ wr).drew.alloc (Nat.le_refl _) (.cells #[.string x.1, .int .i64 x.2] 29)))
                go_wp2
                go_region_law (first | (refine step_append_grows rfl _ _ _ rfl 29 i0 _ 2 24 Try.underlying22 hi0 hz0 hz1 hz2 rfl (by omega) (some ⟨wr.heap.size, 0, none⟩) 1 1 [.string x.1, .int .i64 x.2] rfl (fun h => by cases h) rfl (fun b hb => by cases hb; exact World.news_of_block (cs := #[.string x.1, .int .i64 x.2]) (t := 29) (fr := (0, 0)) (by exact heap_alloc_new _ _)) ⟨g, 0, none⟩ (F.length) (cq) (flatK (F)) rfl (flatK_len F) (hc2.out _ hW.out) (flatK_one _) (by omega) (by unfold maxLen; omega) (by omega) ?_; intro v6 w5 hown6 hgrow6; obtain ⟨g6, c6, rfl, _, hl6⟩ := hown6.form (by omega); have hb5 := Lib.hid (below_after hW.out ((Below.refl _ _).grown hgrow6 (Nat.le_refl _) (fun k hk => by cases hk))); have hcc := hown6.cells (g := g6) rfl) | (refine step_append_grows rfl _ _ _ rfl 29 i0 _ 2 24 Try.underlying22 hi0 hz0 hz1 hz2 rfl (by omega) (some ⟨g, 0, none⟩) 0 0 (flatK ([])) rfl (fun h => by cases h) rfl (fun b hb => by cases hb; exact hc1.out _ hb5.out) ⟨g6, 0, none⟩ (1 + (F.length)) c6 ([.string x.1, .int .i64 x.2] ++ flatK (F)) rfl (by simp [flatK_len]; omega) hcc (flatK_one (x :: (F))) (by omega) (by unfold maxLen; omega) (by omega) ?_; intro v7 w6 hown7 hgrow7))
                have hO2 := own3_fst (F' := [] ++ x :: (F)) (hO1.out.keep hb5.out) (by have := hbel1.out.size; have := hb5.out.size; omega) (by rw [show ([] ++ x :: F : List KK).length = 0 + (1 + F.length) from (by simp; omega)]; exact hown7) (by simp) hgrow7
                have hbel2 := Lib.hid ((hbel1.out.trans (hb5.out.mono hbel1.out.size)).grown hgrow7 (by have := hbel1.out.size; have := hb5.out.size; omega) (fun k hk => by cases hk))
                have hO2 := Lib.hid hO2
                have hR3 := Lib.hid ((hR2.out ([]) (F) (rfl)).out (by simp) (by simpa using hdr.out))
                clear hown6 hgrow6 hown7 hgrow7 hO1 hbel1 hcc hb5 hW
                go_wp2
                go_roundw
                case rel => exact ⟨k + 1, [] ++ x :: (F), T, S, by omega, by go_num, hR3.out, hO2.out, hbel2.out⟩
                case measure => simp [intOf]; omega
              · obtain ⟨ap, rfl⟩ : ∃ ap, a = ap + 1 := ⟨a - 1, by omega⟩
                obtain ⟨y, hy1, hy2, n, hy3, hy4⟩ := hF.out ap (by omega)
                obtain ⟨c1, c2⟩ := hzz.out wr hb12.out ap y hy1
                have hw1 : IntKind.i64.wrap (ap : Int) = (ap : Int) := by rw [IntKind.wrap_i64]; omega
                have hp1 : (0 : Int) < (ap : Int) + 1 := by omega
                have hp2 : (ap : Int) < (F.length : Int) := by omega
                have hp3 : (ap : Int) + 1 ≤ (F.length : Int) := by omega
                have hp4 : (ap : Int) + 1 ≤ (cq : Int) := by omega
                have hp5 : ((ap : Int) + 1).toNat = ap + 1 := by omega
                have hp6 : (0 : Int) ≤ (ap : Int) + 1 := by omega
                have hI2 := Lib.hid (c_Index4 y.1 hy2 wr)
                rw [hy3] at hI2
                unfold idxV at hI2
                simp only [Option.getD, Option.isSome] at hI2
                have hdc : F.drop ap = y :: F.drop (ap + 1) := by
                  obtain ⟨h1, h2⟩ := List.getElem?_eq_some_iff.1 hy1
                  rw [List.drop_eq_getElem_cons h1, h2]
                have htc : F.take (ap + 1) = F.take ap ++ [y] := by rw [List.take_add_one, hy1]; rfl
                have hsplit := Lib.hid (List.take_append_drop (ap + 1) F).symm
                have hlenT : (F.take (ap + 1)).length = ap + 1 := by rw [List.length_take]; omega
                have hlenT := Lib.hid hlenT
                by_cases hnm : n ≤ m
                · have hT1 := Lib.hid (fun z (hz : z ∈ F.take (ap + 1)) => show rk z ≤ rk x from Nat.le_trans (last_ge (A := F.take ap) (x := y) (B := F.drop (ap + 1)) hSF.out (by rw [← hdc, List.take_append_drop]) (htc ▸ hz)) (by omega))
                  have hnm' : (n : Int) ≤ (m : Int) := by omega
                  clear hdc htc hy1 hy3 hy4 hnm
                  go_wp2_with fail
                  refine hI2.out.mono ?_
                  rintro e w3 ⟨rfl, hb3⟩
                  have hb13 := below_after hb12.out hb3
                  obtain ⟨e1, e2⟩ := hxc.out _ hb13
                  have hb3 := below_after hb2.out hb3
                  clear hI2 hb13 c1 c2
                  rcases Nat.lt_or_ge (ap + 1) F.length with hm | hm
                  · have hcne : ¬ cq = ap + 1 := by omega
                    have hc2 := Lib.hid (fun (y : World) (hy : Below w1.heap.size w1 y) (j : Nat) z (hz : (flatK (F.drop (ap + 1)))[j]? = some z) => show y.cell? ((⟨g, (ap + 1) * 2, none⟩ : Addr).add j) = some z by
                      obtain ⟨hz1, hz2⟩ := List.getElem?_eq_some_iff.1 hz
                      have e1 : (⟨g, (ap + 1) * 2, none⟩ : Addr).add j = ⟨g, (ap + 1) * 2 + j, none⟩ := by unfold Addr.add; split <;> simp_all
                      rw [e1]
                      refine hgc.out y (below_after hb1.out hy) _ z ?_
                      rw [hsplit.out, flatK_app, List.getElem?_append_right (by rw [flatK_len, hlenT.out]; omega), flatK_len, hlenT.out, Nat.add_sub_cancel_left]
                      exact hz)
                    have hc1 := Lib.hid (fun (y : World) (hy : Below w1.heap.size w1 y) (j : Nat) z (hz : (flatK (F.take (ap + 1)))[j]? = some z) => show y.cell? ((⟨g, 0, none⟩ : Addr).add j) = some z by
                      rw [add_zero_addr]
                      refine hgc.out y (below_after hb1.out hy) _ z ?_
                      obtain ⟨hz1, hz2⟩ := List.getElem?_eq_some_iff.1 hz
                      rw [hsplit.out, flatK_app, List.getElem?_append_left hz1]
                      exact hz)
                    have hW := Lib.hid (below_after hb3 ((Below.refl _ w3).drew.alloc (Nat.le_refl _) (.cells #[.string x.1, .int .i64 x.2] 29)))
                    go_wp2
                    go_region_law (first | (refine step_append_grows rfl _ _ _ rfl 29 i0 _ 2 24 Try.underlying22 hi0 hz0 hz1 hz2 rfl (by omega) (some ⟨w3.heap.size, 0, none⟩) 1 1 [.string x.1, .int .i64 x.2] rfl (fun h => by cases h) rfl (fun b hb => by cases hb; exact World.news_of_block (cs := #[.string x.1, .int .i64 x.2]) (t := 29) (fr := (0, 0)) (by exact heap_alloc_new _ _)) ⟨g, (ap + 1) * 2, none⟩ (F.length - (ap + 1)) (cq - (ap + 1)) (flatK (F.drop (ap + 1))) rfl (by rw [flatK_len, List.length_drop]) (hc2.out _ hW.out) (flatK_one _) (by omega) (by unfold maxLen; omega) (by omega) ?_; intro v6 w5 hown6 hgrow6; obtain ⟨g6, c6, rfl, _, hl6⟩ := hown6.form (by omega); have hb5 := Lib.hid (below_after hW.out ((Below.refl _ _).grown hgrow6 (Nat.le_refl _) (fun k hk => by cases hk))); have hcc := hown6.cells (g := g6) rfl) | (refine step_append_grows rfl _ _ _ rfl 29 i0 _ 2 24 Try.underlying22 hi0 hz0 hz1 hz2 rfl (by omega) (some ⟨g, 0, none⟩) (ap + 1) (ap + 1) (flatK (F.take (ap + 1))) rfl (fun h => by cases h) (by rw [flatK_len, hlenT.out]) (fun b hb => by cases hb; exact hc1.out _ hb5.out) ⟨g6, 0, none⟩ (1 + (F.length - (ap + 1))) c6 ([.string x.1, .int .i64 x.2] ++ flatK (F.drop (ap + 1))) rfl (by simp [flatK_len]; omega) hcc (flatK_one (x :: (F.drop (ap + 1)))) (by omega) (by unfold maxLen; omega) (by omega) ?_; intro v7 w6 hown7 hgrow7))
                    have hO2 := own3_fst (F' := F.take (ap + 1) ++ x :: (F.drop (ap + 1))) (hO1.out.keep hb5.out) (by have := hbel1.out.size; have := hb5.out.size; omega) (by rw [show (F.take (ap + 1) ++ x :: F.drop (ap + 1)).length = ap + 1 + (1 + (F.length - (ap + 1))) from (by simp; omega), flatK_app]; exact hown7) (by simp) hgrow7
                    have hbel2 := Lib.hid ((hbel1.out.trans (hb5.out.mono hbel1.out.size)).grown hgrow7 (by have := hbel1.out.size; have := hb5.out.size; omega) (fun k hk => by cases hk))
                    have hO2 := Lib.hid hO2
                    have hR3 := Lib.hid ((hR2.out (F.take (ap + 1)) (F.drop (ap + 1)) (hsplit.out)).out hT1.out hdr.out)
                    clear hown6 hgrow6 hown7 hgrow7 hO1 hbel1 hcc hb5 hW
                    go_wp2
                    go_roundw
                    case rel => exact ⟨k + 1, F.take (ap + 1) ++ x :: (F.drop (ap + 1)), T, S, by omega, by go_num, hR3.out, hO2.out, hbel2.out⟩
                    case measure => simp [intOf]; omega
                  · obtain hm : F.length = ap + 1 := by omega
                    by_cases hcq1 : cq = ap + 1
                    · skip
                      have hc1 := Lib.hid (fun (y : World) (hy : Below w1.heap.size w1 y) (j : Nat) z (hz : (flatK (F.take (ap + 1)))[j]? = some z) => show y.cell? ((⟨g, 0, none⟩ : Addr).add j) = some z by
                        rw [add_zero_addr]
                        refine hgc.out y (below_after hb1.out hy) _ z ?_
                        obtain ⟨hz1, hz2⟩ := List.getElem?_eq_some_iff.1 hz
                        rw [hsplit.out, flatK_app, List.getElem?_append_left hz1]
                        exact hz)
                      have hW := Lib.hid (below_after hb3 ((Below.refl _ w3).drew.alloc (Nat.le_refl _) (.cells #[.string x.1, .int .i64 x.2] 29)))
                      go_wp2
                      go_region_law (first | (refine step_append_grows rfl _ _ _ rfl 29 i0 _ 2 24 Try.underlying22 hi0 hz0 hz1 hz2 rfl (by omega) (some ⟨g, 0, none⟩) (ap + 1) (ap + 1) (flatK (F.take (ap + 1))) rfl (fun h => by cases h) (by rw [flatK_len, hlenT.out]) (fun b hb => by cases hb; exact hc1.out _ hW.out) ⟨w3.heap.size, 0, none⟩ 1 1 [.string x.1, .int .i64 x.2] rfl rfl (World.news_of_block (cs := #[.string x.1, .int .i64 x.2]) (t := 29) (fr := (0, 0)) (by exact heap_alloc_new _ _)) (by simp [Value.oneCell']) (by omega) (by unfold maxLen; omega) (by omega) ?_; intro v7 w6 hown7 hgrow7))
                      have hO2 := own3_fst (F' := F.take (ap + 1) ++ [x]) (hO1.out.keep hW.out) (by have := hbel1.out.size; have := hW.out.size; omega) (by rw [show (F.take (ap + 1) ++ [x]).length = ap + 1 + 1 from (by simp; omega), flatK_app]; exact hown7) (by simp) hgrow7
                      have hbel2 := Lib.hid ((hbel1.out.trans (hW.out.mono hbel1.out.size)).grown hgrow7 (by have := hbel1.out.size; have := hW.out.size; omega) (fun k hk => by cases hk))
                      have hO2 := Lib.hid hO2
                      have hR3 := Lib.hid ((hR2.out (F.take (ap + 1)) [] (by rw [List.append_nil, List.take_of_length_le (by omega)])).out hT1.out (by simp))
                      clear hown7 hgrow7 hO1 hbel1 hW
                      go_wp2
                      go_roundw
                      case rel => exact ⟨k + 1, F.take (ap + 1) ++ [x], T, S, by omega, by go_num, hR3.out, hO2.out, hbel2.out⟩
                      case measure => simp [intOf]; omega
                    · skip
                      have hc1 := Lib.hid (fun (y : World) (hy : Below w1.heap.size w1 y) (j : Nat) z (hz : (flatK (F.take (ap + 1)))[j]? = some z) => show y.cell? ((⟨g, 0, none⟩ : Addr).add j) = some z by
                        rw [add_zero_addr]
                        refine hgc.out y (below_after hb1.out hy) _ z ?_
                        obtain ⟨hz1, hz2⟩ := List.getElem?_eq_some_iff.1 hz
                        rw [hsplit.out, flatK_app, List.getElem?_append_left hz1]
                        exact hz)
                      have hW := Lib.hid (below_after hb3 ((Below.refl _ w3).drew.alloc (Nat.le_refl _) (.cells #[.string x.1, .int .i64 x.2] 29)))
                      go_wp2
                      go_region_law (first | (refine step_append_grows rfl _ _ _ rfl 29 i0 _ 2 24 Try.underlying22 hi0 hz0 hz1 hz2 rfl (by omega) (some ⟨g, 0, none⟩) (ap + 1) (ap + 1) (flatK (F.take (ap + 1))) rfl (fun h => by cases h) (by rw [flatK_len, hlenT.out]) (fun b hb => by cases hb; exact hc1.out _ hW.out) ⟨w3.heap.size, 0, none⟩ 1 1 [.string x.1, .int .i64 x.2] rfl rfl (World.news_of_block (cs := #[.string x.1, .int .i64 x.2]) (t := 29) (fr := (0, 0)) (by exact heap_alloc_new _ _)) (by simp [Value.oneCell']) (by omega) (by unfold maxLen; omega) (by omega) ?_; intro v7 w6 hown7 hgrow7))
                      have hO2 := own3_fst (F' := F.take (ap + 1) ++ [x]) (hO1.out.keep hW.out) (by have := hbel1.out.size; have := hW.out.size; omega) (by rw [show (F.take (ap + 1) ++ [x]).length = ap + 1 + 1 from (by simp; omega), flatK_app]; exact hown7) (by simp) hgrow7
                      have hbel2 := Lib.hid ((hbel1.out.trans (hW.out.mono hbel1.out.size)).grown hgrow7 (by have := hbel1.out.size; have := hW.out.size; omega) (fun k hk => by cases hk))
                      have hO2 := Lib.hid hO2
                      have hR3 := Lib.hid ((hR2.out (F.take (ap + 1)) [] (by rw [List.append_nil, List.take_of_length_le (by omega)])).out hT1.out (by simp))
                      clear hown7 hgrow7 hO1 hbel1 hW
                      go_wp2
                      go_roundw
                      case rel => exact ⟨k + 1, F.take (ap + 1) ++ [x], T, S, by omega, by go_num, hR3.out, hO2.out, hbel2.out⟩
                      case measure => simp [intOf]; omega
                · have hd2 := Lib.hid (show ∀ z ∈ F.drop ap, rk x < rk z by
                    rw [hdc]
                    intro z hz
                    rcases List.mem_cons.1 hz with rfl | hz
                    · omega
                    · exact hdr.out z hz)
                  have hnm' : ¬ (n : Int) ≤ (m : Int) := by omega
                  clear hdc htc hy1 hy3 hy4 hnm
                  go_wp2_with fail
                  refine hI2.out.mono ?_
                  rintro e w3 ⟨rfl, hb3⟩
                  have hb3 := Lib.hid (below_after hb2.out hb3)
                  clear hI2 c1 c2
                  go_wp2
                  go_roundw
                  case rel => exact ⟨ap, by omega, by go_num, hd2.out, hb3.out⟩
                  case measure => simp [intOf]
    · obtain rfl : k = l.length := by omega
      have hend := ref_end hR
      have hlen := hR.len hk
      have hend := Lib.hid hend
      obtain ⟨q1, q2, q3, q4, q5, q6, q7, q8⟩ := hO
      have hB := hbel.size
      have hFT : flatK (F ++ T) = flatK F ++ flatK T := flatK_app F T
      have hFT := Lib.hid hFT
      have hFTS : flatK (F ++ T ++ S) = flatK (F ++ T) ++ flatK S := flatK_app _ S
      have hFTS := Lib.hid hFTS
      replace q4 := Lib.hid q4
      replace q5 := Lib.hid q5
      have hbel := Lib.hid hbel
      clear hR
      by_cases hT : T = []
      · have hv4 := q6 hT
        subst hT
        subst hv4
        by_cases hS : S = []
        · have hv5 := q7 hS
          subst hS
          subst hv5
          have q1' := Lib.hid q1
          clear q2 q3 q6 q7 q8
          go_wp2_with (first | (at_builtin; refine wpList_append_own_none (by rfl) _ _ _ (by rfl) w.heap.size 29 i0 2 Try.underlying22 hi0 u3 F.length (flatK F) rfl q1'.out rfl ?_))
          go_ret
          have e : F ++ [] ++ [] = F := by simp
          rw [e] at hend
          exact ⟨_, F, rfl, own_rdk q1'.out, hend.out.1, hend.out.2, hbel.out⟩
        · have hSp : 0 < S.length := List.length_pos_iff.2 hS
          obtain ⟨gs, cs, e5, _, _⟩ := q3.form hSp
          subst e5
          have hcs := Lib.hid (q3.cells (g := gs) rfl)
          clear q2 q6 q7 q8
          go_wp2_with (first | (at_builtin; refine wpList_append_own_none (by rfl) _ _ _ (by rfl) w.heap.size 29 i0 2 Try.underlying22 hi0 u3 F.length (flatK F) rfl q1 rfl ?_) | (at_builtin; refine wpList_append_lies _ (by rfl) _ _ _ (by rfl) w.heap.size 29 i0 _ 2 24 Try.underlying22 hi0 hz0 hz1 hz2 rfl (by omega) u3 F.length (flatK F) rfl q1 ⟨gs, 0, none⟩ S.length cs (flatK S) (by rfl) (flatK_len S) hcs.out (flatK_one _) (by omega) (by unfold maxLen; omega) (by omega) hB _ rfl ?_; intro gg cap w2 hown2 hgrow hat hlt2))
          go_ret
          have e : F ++ [] ++ S = F ++ S := by simp
          rw [e] at hend
          rw [← flatK_app] at hown2
          exact ⟨_, F ++ S, rfl, own_rdk hown2, hend.out.1, hend.out.2, hbel.out.grown hgrow hB (own_base q1)⟩
      · have hTp : 0 < T.length := List.length_pos_iff.2 hT
        obtain ⟨gt, ct, e4, _, _⟩ := q2.form hTp
        subst e4
        have hct := Lib.hid (q2.cells (g := gt) rfl)
        by_cases hS : S = []
        · have hv5 := q7 hS
          subst hS
          subst hv5
          clear q2 q6 q7 q8
          go_wp2_with (first | (at_builtin; refine wpList_append_lies _ (by rfl) _ _ _ (by rfl) w.heap.size 29 i0 _ 2 24 Try.underlying22 hi0 hz0 hz1 hz2 rfl (by omega) u3 F.length (flatK F) rfl q1 ⟨gt, 0, none⟩ T.length ct (flatK T) (by rfl) (flatK_len T) hct.out (flatK_one _) (by omega) (by unfold maxLen; omega) (by omega) hB _ rfl ?_; intro gg cap w2 hown2 hgrow hat hlt2) | (at_builtin; refine wpList_append_own_none (by rfl) _ _ _ (by rfl) w.heap.size 29 i0 2 Try.underlying22 hi0 (.slice (some ⟨gg, 0, none⟩) (F.length + T.length) cap) (F.length + T.length) (flatK F ++ flatK T) rfl hown2 rfl ?_))
          go_ret
          have e : F ++ T ++ [] = F ++ T := by simp
          rw [e] at hend
          rw [← flatK_app] at hown2
          exact ⟨_, F ++ T, rfl, own_rdk hown2, hend.out.1, hend.out.2, hbel.out.grown hgrow hB (own_base q1)⟩
        · have hSp : 0 < S.length := List.length_pos_iff.2 hS
          obtain ⟨gs, cs, e5, _, _⟩ := q3.form hSp
          subst e5
          clear q2 q6 q7 q8
          go_wp2_with (first | (at_builtin; refine wpList_append_lies _ (by rfl) _ _ _ (by rfl) w.heap.size 29 i0 _ 2 24 Try.underlying22 hi0 hz0 hz1 hz2 rfl (by omega) u3 F.length (flatK F) rfl q1 ⟨gt, 0, none⟩ T.length ct (flatK T) (by rfl) (flatK_len T) hct.out (flatK_one _) (by omega) (by unfold maxLen; omega) (by omega) hB _ rfl ?_; intro gg cap w2 hown2 hgrow hat hlt2; have hks := row_kept q3 hgrow (fun k hk e => (q4.out k hk).2 e) hat; have hcs := Lib.hid (hks.1.cells (g := gs) rfl)) | (at_builtin; refine wpList_append_lies _ (by rfl) _ _ _ (by rfl) w.heap.size 29 i0 _ 2 24 Try.underlying22 hi0 hz0 hz1 hz2 rfl (by omega) (.slice (some ⟨gg, 0, none⟩) (F.length + T.length) cap) (F.length + T.length) (flatK F ++ flatK T) rfl hown2 ⟨gs, 0, none⟩ S.length cs (flatK S) (by rfl) (flatK_len S) hcs.out (flatK_one _) (by omega) (by unfold maxLen; omega) (by omega) (Nat.le_trans hB hgrow.size) _ rfl ?_; intro gg3 cap3 w3 hown3 hgrow3 hat3 hlt3))
          go_ret
          rw [← flatK_app, ← flatK_app, hlen] at hown3
          exact ⟨_, F ++ T ++ S, rfl, own_rdk hown3, hend.out.1, hend.out.2, (hbel.out.grown hgrow hB (own_base q1)).grown hgrow3 (Nat.le_trans hB hgrow.size) (own_base hown2)⟩
end Go.Proofs.Ytkbjakadngnokaa
