/-
  Contracts: Enumerations: the reference's own keys. Enumerations: the reference's had. The reference's enumerations: their state; come. The reference's enumerations: the next key. The reference's enumerations: a new one; all keys.
-/
import Derived.Test.YtoccmiinkfhohaaOO17
import Derived.Test.YtoccmiinkfhohaaOO13
import Derived.Test.YtoccmiinkfhohaaOO14
import Derived.StillTailTactics
namespace Go.Proofs.Ytoccmiinkfhohaa
open Go.RowKit Go.Shelf Go.Lib Go.Sort Go.Proofs Go.Maps
set_option linter.unusedVariables false
set_option maxHeartbeats 4000000
set_option maxRecDepth 100000

section
variable {w0 w w' : World} {hb rb B : Nat} {lim : Int} {H : List OB}
theorem goodB_pk2 (H : List OB) (o : Int) (k : KK) : goodB H o (pk k) = (decide (k.2 ≤ 0) && numB ((ownH H o (pk k)).getD zeroPV).fl) := by
  rw [goodB_pk]
  cases ownH H o (pk k) with
  | none => rw [show numB ((none : Option PV).getD zeroPV).fl = false by decide]; simp
  | some p => rfl
theorem c_RIOwn (h : LawS w0 w hb rb lim B H) (hB1 : 128 ≤ B) (hB : B ≤ 100000) (hu : usedH H ≤ 100000) (o : Int) :
    Calls Try.prog 37 #[.pointer (some ⟨rb, 0, none⟩), .int .i64 o] w fun e w' => ∃ v Z, e = .returned v ∧ RdK w' v Z ∧ (∀ x ∈ Z, okK x) ∧ Z.map pk = ownF H o ∧ Z.length ≤ 100000 ∧ Below w.heap.size w w' := by
  have hKs := l_RKeys h hu o
  obtain ⟨i0, hi0, hz0, hz1, hz2⟩ := info_parts infoKey
  have hL := fun (y : World) (hy : Below w.heap.size w y) => h.below hy
  replace hL := Lib.hid hL
  clear h
  go_enter Try.func37, Try.ntmps37
  go_wp2_with (first | (go_at_call 58; refine hKs.mono ?_; rintro e y8 ⟨v8, Z8, rfl, hr8, hk8, hb8⟩; obtain ⟨p8, cp8, rfl, -, hcp8, hcell8⟩ := hr8.form))
  have hok8 := Lib.hid hk8.ok
  have hZ8 := keys_few hu hk8
  have hord : Z8.map pk = keysH H o := ordK_eq hk8
  replace hcell8 := Lib.hid hcell8
  replace hord := Lib.hid hord
  obtain ⟨W8, rfl⟩ : ∃ W8, W8 = y8 := ⟨_, rfl⟩
  have hs8 := hb8.size
  replace hb8 := Lib.hid hb8
  clear hr8 hk8 hKs
  go_loopw [5, 14] (fun v vi wr => ∃ i : Nat, i ≤ Z8.length ∧ vi = .int .i64 (i : Int) ∧ (∃ L, L = (Z8.take i).filter (fun x => goodB H o (pk x)) ∧ wr.ownsRow W8.heap.size 32 2 v L.length (flatK L)) ∧ Below W8.heap.size W8 wr) (fun _ vi _ => Z8.length - (intOf vi).toNat)
  case atStart => exact ⟨0, by omega, rfl, ⟨[], by simp, ⟨rfl, .inl ⟨rfl, rfl⟩⟩⟩, Below.refl _ _⟩
  case round =>
    obtain ⟨i, hi, rfl, ⟨L, hLe, hown⟩, hbj⟩ := hrel
    obtain ⟨W9, rfl⟩ : ∃ W9, W9 = wr := ⟨_, rfl⟩
    rcases Nat.lt_or_ge i Z8.length with hlj | hgj
    · obtain ⟨x, hx⟩ : ∃ x, Z8[i]? = some x := ⟨_, List.getElem?_eq_getElem hlj⟩
      obtain ⟨bk, ok8, rfl, lk8, hy8⟩ := hcell8.out i x hx
      obtain ⟨d1, d2⟩ := hy8 W9 hbj
      have hokx := hok8.out x (List.mem_of_getElem? hx)
      have q1 : (0 : Int) ≤ (i : Int) := by omega
      have q2 : (i : Int) < (Z8.length : Int) := by omega
      have hLl : L.length ≤ i := by rw [hLe]; exact Nat.le_trans (List.length_filter_le _ _) (List.length_take_le _ _)
      have hfs := filter_snoc (p := fun x => goodB H o (pk x)) hx
      rw [← hLe] at hfs
      obtain ⟨W10, hW10⟩ : ∃ W10, W9.alloc (.cells #[.string x.1, .int .i64 x.2] 32) = W10 := ⟨_, rfl⟩
      have hb10 : Below W9.heap.size W9 W10 := by rw [← hW10]; exact (Below.refl _ _).alloc (Nat.le_refl _) _
      have d10 : W10.heap[W9.heap.size]? = some (.cells #[.string x.1, .int .i64 x.2] 32 (0, 0)) := by rw [← hW10]; exact heap_alloc_new W9 _
      have hbw10 : Below w.heap.size w W10 := hb8.out.trans ((hbj.trans (hb10.mono hbj.size)).mono hs8)
      have hgd := goodB_pk2 H o x
      have hOx := l_ROwnV (hL.out W10 hbw10) hu o x hokx
      have hown10 := own_at hown fun r hr => hb10.block r (hown.lt r hr).2
      obtain ⟨x0, xn⟩ := x
      dsimp only at *
      generalize hP : (ownH H o (pk (x0, xn))).getD zeroPV = P at *
      generalize hI : (ownH H o (pk (x0, xn))).isSome = bI at *
      have hi13 : (Try.prog.info? 37).map (·.size) = some (encP P).toArray.size := infoProp
      have hi13l : (Try.prog.info? 37).map (·.size) = some (encP P).length := infoProp
      have ho13 := all_oneCell_toArray (encP_one P)
      have hq := fun (y : World) => zeroQ_set y P
      have hth := fun (y : World) => (zeroQ_there y : (y.alloc (.cells zeroQ 37)).there y.heap.size 0 (encP P).toArray.size)
      replace hOx := Lib.hid hOx
      replace hq := Lib.hid hq
      have hkc : ∀ y, Below W10.heap.size W10 y → y.cell? ⟨W9.heap.size, 0, none⟩ = some (.string x0) ∧ y.cell? ⟨W9.heap.size, 1, none⟩ = some (.int .i64 xn) := fun y hy => by
        have h1 := (hy.block _ (heapH_lt d10)).trans d10
        exact ⟨by rw [cell_of_row _ _ 0 _ _ _ h1]; rfl, by rw [cell_of_row _ _ 1 _ _ _ h1]; rfl⟩
      obtain ⟨kc0, kc1⟩ := hkc W10 (Below.refl _ _)
      replace hkc := Lib.hid hkc
      have hbj10 := Lib.hid (hbj.trans (hb10.mono hbj.size))
      replace hfs := Lib.hid hfs
      replace hbw10 := Lib.hid hbw10
      have hs9 := hbj.size
      have tokD : True := trivial
      replace hown10 := Lib.hid hown10
      clear hx hy8 d10 hokx hP hI hown hb10 hbj hLe
      go_upto_region 6 with (first | (go_at_call 13; refine hOx.out.mono ?_; rintro e y11 ⟨rfl, hb11⟩; have hth11 := hth y11; obtain ⟨hq1, hq2⟩ := hq.out y11; clear kc0 kc1) | (clear tokD; refine wpList_store_mid rfl 37 (.tmp 8) (.tmp 23) rfl y11.heap.size 0 (encP P).toArray rfl rfl hth11 hi13 ho13 ?_; generalize hW12 : World.setCells _ _ _ _ = W12; rw [show (y11.alloc (.cells zeroQ 37)).setCells y11.heap.size 0 (encP P) = W12 from hW12] at hq1 hq2; clear hW12 hth11))
      have hb12 := hb11.trans (hq1.mono hb11.size)
      obtain ⟨kc0, kc1⟩ := hkc.out W12 hb12
      obtain ⟨-, -, -, -, -, -, -, -, -, -, -, -, a12⟩ := cells13 hq2
      have hown12 := own_at hown10.out fun r hr => hb12.block r (hown10.out.lt r hr).2
      have hbj12 := hbj10.out.trans (hb12.mono hbj10.out.size)
      have hs12 := hbj12.size
      have hno : goodB H o (pk (x0, xn)) = false → ∃ L', L' = (Z8.take (i + 1)).filter (fun x => goodB H o (pk x)) ∧ W12.ownsRow W8.heap.size 32 2 u5 L'.length (flatK L') := fun e => ⟨L, by rw [hfs.out, e]; simp, hown12⟩
      have hyes : goodB H o (pk (x0, xn)) = true → (Z8.take (i + 1)).filter (fun x => goodB H o (pk x)) = L ++ [(x0, xn)] := fun e => by rw [hfs.out, e]; simp
      rw [hgd] at hno hyes
      replace hno := Lib.hid hno
      replace hyes := Lib.hid hyes
      replace hbj12 := Lib.hid hbj12
      clear hb11 hq1 hq2 hb12 hkc hOx hq hth hi13 hi13l ho13 hbw10 hbj10 hown10 hfs hgd
      by_cases g1 : xn ≤ 0
      · by_cases g2 : numB P.fl = true
        · have g3 : (bits BinOp.and IntKind.i64 P.fl 2 != 0) = true := g2
          have hend := hyes.out (by simp [g1, g2])
          clear hno
          go_wp2_with (at_builtin; go_loud (refine wpList_append_lies _ (by rfl) _ _ _ (by rfl) W8.heap.size 32 i0 _ 2 24 Try.underlying51 hi0 hz0 hz1 hz2 rfl (by omega) u5 L.length (flatK L) (by rfl) (hown12.alloc _) ⟨_, 0, none⟩ 1 1 [.string x0, .int .i64 xn] (by rfl) (by rfl) (World.news_of_block (cs := #[.string x0, .int .i64 xn]) (t := 32) (fr := (0, 0)) (by exact heap_alloc_new _ _)) (by simp [Value.oneCell']) (by omega) (by unfold maxLen; omega) (by omega) (by simp; omega) _ rfl ?_); intro gg cap w5 hown5 hgrow hat hlt5; have hbel5 := Lib.hid ((hbj12.out.alloc hs12 _).grown hgrow (by simp; omega) (own_base hown12)); clear hgrow hat hlt5)
          exact ⟨⟨i + 1, by omega, by go_num, ⟨L ++ [(x0, xn)], hend.symm, by simpa [flatK_app, flatK, encK] using hown5⟩, hbel5.out⟩, by simp [intOf]; omega⟩
        · have g3 : (bits BinOp.and IntKind.i64 P.fl 2 != 0) = false := by rw [← Bool.not_eq_true]; exact g2
          have hend := hno.out (by simp [g2])
          go_wp2_with fail
          exact ⟨⟨i + 1, by omega, by go_num, hend, hbj12.out⟩, by simp [intOf]; omega⟩
      · have hend := hno.out (by simp [g1])
        go_wp2_with fail
        exact ⟨⟨i + 1, by omega, by go_num, hend, hbj12.out⟩, by simp [intOf]; omega⟩
    · obtain rfl : i = Z8.length := by omega
      rw [List.take_length] at hLe
      replace hown := Lib.hid hown
      replace hbj := Lib.hid hbj
      clear hi hgj
      go_wp2
      go_ret
      refine ⟨_, L, rfl, own_rdk hown.out, fun x hx => hok8.out x ?_, ?_, ?_, hb8.out.trans (hbj.out.mono hs8)⟩
      · rw [hLe] at hx; exact (List.mem_filter.1 hx).1
      · rw [hLe, ownF, ← hord.out, List.filter_map]; rfl
      · rw [hLe]; exact Nat.le_trans (List.length_filter_le _ _) hZ8
end
end Go.Proofs.Ytoccmiinkfhohaa
namespace Go.Proofs.Ytoccmiinkfhohaa
open Go.RowKit Go.Shelf Go.Lib Go.Sort Go.Proofs Go.Maps
set_option linter.unusedVariables false
set_option maxHeartbeats 4000000
set_option maxRecDepth 100000

theorem hadB_take {S : List KK} {i : Nat} {x : KK} (h : S[i]? = some x) (K : KK) : hadB ((S.take (i + 1)).map pk) K = (hadB ((S.take i).map pk) K || decide (pk x = K)) := by
  rw [List.take_add_one, h, List.map_append]
  unfold hadB
  rw [List.any_append]
  simp
theorem c_R20had {w : World} {eb : Nat} {v5 : Value} {S : List KK} (c5 : w.cell? ⟨eb, 5, none⟩ = some v5) (h : RdK w v5 S) (hok : ∀ x ∈ S, okK x) (hl : S.length ≤ 1099511627776) (k : KK) (hk : okK k) :
    Calls Try.prog 76 #[.pointer (some ⟨eb, 0, none⟩), .agg #[.string k.1, .int .i64 k.2]] w fun e w' => e = .returned (.bool (hadB (S.map pk) (pk k))) ∧ Below w.heap.size w w' := by
  obtain ⟨p, c, rfl, _, hc, hcell⟩ := h.form
  obtain ⟨W1, hW1⟩ : ∃ W1, w.alloc (.cells #[.string k.1, .int .i64 k.2] 32) = W1 := ⟨_, rfl⟩
  have hb1 : Below w.heap.size w W1 := by rw [← hW1]; exact (Below.refl _ _).alloc (Nat.le_refl _) _
  have d1 : W1.heap[w.heap.size]? = some (.cells #[.string k.1, .int .i64 k.2] 32 (0, 0)) := by rw [← hW1]; exact heap_alloc_new w _
  have leb : eb < w.heap.size := cell_lt c5
  have c5' : W1.cell? ⟨eb, 5, none⟩ = some (.slice p S.length c) := (hb1.cell (p := ⟨eb, 5, none⟩) leb).trans c5
  obtain ⟨rk, hrk⟩ : ∃ rk, rk = w.heap.size := ⟨_, rfl⟩
  rw [← hrk] at d1
  have hat : ∀ (i : Nat) x, S[i]? = some x → ∀ y : World, Calls Try.prog 40 #[keyV x.1 x.2, keyV k.1 k.2] y fun e w' => e = .returned (.bool (decide (pk x = pk k))) ∧ Below y.heap.size y w' := fun i x hx y => by
    have h1 := c_Same4 x.1 k.1 x.2 k.2 (hok x (List.mem_of_getElem? hx)).1 hk.1 y
    rw [sameK_pk x k] at h1
    exact h1
  have hcell2 : ∀ (i : Nat) x, S[i]? = some x → ∃ b o, p = some ⟨b, o, none⟩ ∧ b < W1.heap.size ∧ ∀ y, Below W1.heap.size W1 y → y.cell? ⟨b, o + i * 2, none⟩ = some (.string x.1) ∧ y.cell? ⟨b, o + i * 2 + 1, none⟩ = some (.int .i64 x.2) := fun i x hx => by
    obtain ⟨b, o, e, hb, hy⟩ := hcell i x hx
    exact ⟨b, o, e, Nat.lt_of_lt_of_le hb hb1.size, fun y hY => hy y (hb1.trans (hY.mono hb1.size))⟩
  have hk1 : ∀ y, Below W1.heap.size W1 y → y.cell? ⟨rk, 0, none⟩ = some (.string k.1) ∧ y.cell? ⟨rk, 1, none⟩ = some (.int .i64 k.2) := fun y hY => by
    have h1 := (hY.block _ (heapH_lt d1)).trans d1
    exact ⟨by rw [cell_of_row _ _ 0 _ _ _ h1]; rfl, by rw [cell_of_row _ _ 1 _ _ _ h1]; rfl⟩
  have hs1 := hb1.size
  replace hb1 := Lib.hid hb1
  replace hcell2 := Lib.hid hcell2
  replace hat := Lib.hid hat
  replace hk1 := Lib.hid hk1
  clear hcell hok h c5 d1
  go_enter Try.func76, Try.ntmps76
  go_wp2_with fail
  rw [← hrk]
  clear hW1 hrk
  go_loopw [12] (fun vi wr => ∃ i : Nat, i ≤ S.length ∧ vi = .int .i64 (i : Int) ∧ hadB ((S.take i).map pk) (pk k) = false ∧ Below W1.heap.size W1 wr) (fun vi _ => S.length - (intOf vi).toNat)
  case atStart => exact ⟨0, by omega, rfl, rfl, Below.refl _ _⟩
  case round =>
    obtain ⟨i, hi, rfl, hno, hbel⟩ := hrel
    obtain ⟨W2, rfl⟩ : ∃ W2, W2 = wr := ⟨_, rfl⟩
    rcases Nat.lt_or_ge i S.length with hlt | hge
    · obtain ⟨x, hx⟩ : ∃ x, S[i]? = some x := ⟨_, List.getElem?_eq_getElem hlt⟩
      obtain ⟨b, o, rfl, hb, hy⟩ := hcell2.out i x hx
      obtain ⟨c1, c2⟩ := hy W2 hbel
      obtain ⟨c3, c4⟩ := hk1.out W2 hbel
      have q1 : (0 : Int) ≤ (i : Int) := by omega
      have q2 : (i : Int) < (S.length : Int) := by omega
      have hS := hat.out i x hx
      have htk := hadB_take hx (pk k)
      rw [hno, Bool.false_or] at htk
      unfold keyV at hS
      replace hS := Lib.hid hS
      obtain ⟨W3, hW3⟩ : ∃ W3, W2.alloc (.cells #[.string x.1, .int .i64 x.2] 32) = W3 := ⟨_, rfl⟩
      have hb3 : Below W2.heap.size W2 W3 := by rw [← hW3]; exact (Below.refl _ _).alloc (Nat.le_refl _) _
      have hb13 := hbel.trans (hb3.mono hbel.size)
      obtain ⟨c5, c6⟩ := hk1.out W3 hb13
      have d3 : W3.heap[W2.heap.size]? = some (.cells #[.string x.1, .int .i64 x.2] 32 (0, 0)) := by rw [← hW3]; exact heap_alloc_new W2 _
      have c7 : W3.cell? ⟨W2.heap.size, 0, none⟩ = some (.string x.1) := by rw [cell_of_row _ _ 0 _ _ _ d3]; rfl
      have c8 : W3.cell? ⟨W2.heap.size, 1, none⟩ = some (.int .i64 x.2) := by rw [cell_of_row _ _ 1 _ _ _ d3]; rfl
      clear d3
      replace hb13 := Lib.hid hb13
      have hxm := List.mem_of_getElem? hx
      clear hx hy hb hb3 hbel
      have hmem : decide (pk x = pk k) = true → hadB (S.map pk) (pk k) = true := fun e => hadB_iff.2 (by rw [← of_decide_eq_true e]; exact List.mem_map_of_mem hxm)
      cases hd : decide (pk x = pk k) with
      | true =>
        rw [hd] at hS htk
        go_wp2_with (first | (go_at_call 40; refine (hS.out _).mono ?_; rintro e y4 ⟨rfl, hb4⟩))
        have hfin := hb13.out.trans (hb4.mono hb13.out.size)
        go_ret
        exact ⟨by rw [hmem hd]; rfl, hb1.out.trans (hfin.mono hs1)⟩
      | false =>
        rw [hd] at hS htk
        go_wp2_with (first | (go_at_call 40; refine (hS.out _).mono ?_; rintro e y4 ⟨rfl, hb4⟩))
        have hfin := hb13.out.trans (hb4.mono hb13.out.size)
        exact ⟨⟨i + 1, by omega, by go_num, htk, hfin⟩, by simp [intOf]; omega⟩
    · obtain rfl : i = S.length := by omega
      rw [List.take_length] at hno
      clear hi hge
      go_wp2
      go_ret
      exact ⟨by rw [hno]; rfl, hb1.out.trans (hbel.mono hs1)⟩
end Go.Proofs.Ytoccmiinkfhohaa
namespace Go.Proofs.Ytoccmiinkfhohaa
open Go.RowKit Go.Shelf Go.Lib Go.Sort Go.Proofs Go.Maps
set_option linter.unusedVariables false
set_option maxHeartbeats 4000000
set_option maxRecDepth 100000

theorem l_RKeysF {w0 w : World} {hb rb B : Nat} {lim : Int} {H : List OB} (h : LawS w0 w hb rb lim B H) (hu : usedH H ≤ 100000) (o : Int) : Calls Try.prog 58 #[.pointer (some ⟨rb, 0, none⟩), .int .i64 o] w fun e w' => ∃ v Z, e = .returned v ∧ RdK w' v Z ∧ KeysOf (gk (listH H o)) Z ∧ Below w.heap.size w w' ∧ FreshL w.heap.size v := by
  obtain ⟨f, f2, h1, h2, h3⟩ := h
  have hc := c_RKeysF h1.2.2.2.1 (stp_small hu) o
  rw [stp_list] at hc
  exact hc
theorem keys_run {y : World} {B n m c : Nat} {v : Value} {xs news : List Value} {q : Option Addr} (ty : TypeId) (hr : y.ownsRow B 32 2 v n xs) (hB : B ≤ y.heap.size) (hq : q = none → m = 0 ∧ c = 0) (hsrc : ∀ ad, q = some ad → ∀ j u, news[j]? = some u → y.cell? (ad.add j) = some u) (hl : news.length = m * 2) (h1 : ∀ u ∈ news, u.oneCell' = true) (hm : n + m ≤ 1000000000) :
    ∃ v' w', (Builtin.append_ #[51, 51] ty #[v, .slice q m c]).run Try.prog y = .ok v' w' ∧ w'.ownsRow B 32 2 v' (n + m) (xs ++ news) ∧ Below B y w' := by
  obtain ⟨i0, hi0, hz0, hz1, hz2⟩ := info_parts infoKey
  cases q with
  | none =>
    obtain ⟨rfl, rfl⟩ := hq rfl
    obtain rfl : news = [] := List.eq_nil_of_length_eq_zero (by simpa using hl)
    refine ⟨v, y, run_append_owned_none (P := Try.prog) y B 51 ty 32 i0 2 Try.underlying51 hi0 v n xs hr, by simpa using hr, Below.refl _ _⟩
  | some ad =>
    obtain ⟨v', w', e1, e2, e3, _⟩ := run_append_own (P := Try.prog) y B 51 ty 32 i0 _ 2 24 Try.underlying51 hi0 hz0 hz1 hz2 rfl (by omega) v n xs hr ad m c news hl (hsrc ad rfl) h1 (by unfold maxLen; omega) (by omega) hB
    refine ⟨v', w', e1, e2, e3.os, e3.tape, e3.output, e3.size, fun r hr' => e3.block r (by omega) (fun e => ?_)⟩
    have := (hr.lt r e.symm).1
    omega
/-- one list of keys behind another one, at a step of a region that draws its order -/
theorem keys_step {ops : Array Oper} {o : Oper} {a : Act} {y : World} {K : Act → World → Prop} {Q : Exit → Act → World → Prop} {E : Prop} (hgd : o.guard = none) (s x : Operand) (hop : o.op = .call { callee := .builtin .append, args := #[s, x], argTypes := #[51, 51] })
    {B n m c : Nat} {v : Value} {xs news : List Value} {q : Option Addr} (hs : a.eval s = v) (hx : a.eval x = .slice q m c) (hr : y.ownsRow B 32 2 v n xs) (hB : B ≤ y.heap.size) (hq : q = none → m = 0 ∧ c = 0) (hsrc : ∀ ad, q = some ad → ∀ j u, news[j]? = some u → y.cell? (ad.add j) = some u) (hl : news.length = m * 2) (h1 : ∀ u ∈ news, u.oneCell' = true) (hm : n + m ≤ 1000000000)
    (h : ∀ v' w', w'.ownsRow B 32 2 v' (n + m) (xs ++ news) → Below B y w' → K (a.put o.dst v') w') : if Region.wanted o (yielded ops a.tmps) = true then Oper.wp Try.prog o a y K Q else E := by
  have hw : Region.wanted o (yielded ops a.tmps) = true := by simp [Region.wanted, hgd]
  rw [if_pos hw]
  obtain ⟨v', w', hrun, e2, e3⟩ := keys_run o.type hr hB hq hsrc hl h1 hm
  unfold Oper.wp
  simp [execOp, hop, resolve, invoke, builtin, hs, hx, hrun, Result.andThen]
  exact h v' w' e2 e3
/-- what a list tells, to an append -/
theorem keySrc {w y : World} {q : Option Addr} {c : Nat} {Z : List KK} (h : RdK w (.slice q Z.length c) Z) (hb : Below w.heap.size w y) :
    (q = none → Z.length = 0 ∧ c = 0) ∧ ∀ ad, q = some ad → ∀ j u, (flatK Z)[j]? = some u → y.cell? (ad.add j) = some u := by
  rcases h with ⟨e, rfl⟩ | ⟨p, c', e, _, h3⟩
  · injection e with e1 e2 e3
    subst e1
    exact ⟨fun _ => ⟨rfl, e3⟩, fun ad h => by cases h⟩
  · injection e with e1 e2 e3
    subst e1
    refine ⟨fun h => (by cases h), fun ad had j u hu => ?_⟩
    injection had with had
    subst had
    have hj : j < Z.length * 2 := by have := (List.getElem?_eq_some_iff.1 hu).1; rwa [flatK_len] at this
    have hk : j / 2 < Z.length := by omega
    obtain ⟨x, hx⟩ : ∃ x, Z[j / 2]? = some x := ⟨_, List.getElem?_eq_getElem hk⟩
    obtain ⟨h4, h5, h6⟩ := h3 (j / 2) x hx
    obtain ⟨pb, po, pn⟩ := p
    dsimp only at h4 h5 h6
    subst h4
    have hblk := hb.block pb (cell_lt h5)
    rw [World.cell?_of_block (w := w) (a := (⟨pb, po, none⟩ : Addr).add j) (by rw [Addr.add_lit]; exact hblk), Addr.add_lit]
    have hf := flatK_get Z (j / 2) x hx
    rcases Nat.mod_two_eq_zero_or_one j with hm | hm
    · have e : j = j / 2 * 2 := by omega
      rw [e] at hu ⊢
      rw [hf.1] at hu
      injection hu with hu
      rw [← hu]; exact h5
    · have e : j = j / 2 * 2 + 1 := by omega
      rw [e] at hu ⊢
      rw [hf.2] at hu
      injection hu with hu
      rw [← hu]; exact h6
theorem gb_trans {w w1 w2 : World} {k : Option Nat} (h1 : w.grownBy w1 k) (h2 : w1.grownBy w2 k) : w.grownBy w2 k :=
  ⟨h2.os.trans h1.os, h2.tape.trans h1.tape, h2.output.trans h1.output, Nat.le_trans h1.size h2.size, fun r hr hne => (h2.block r (Nat.lt_of_lt_of_le hr h1.size) hne).trans (h1.block r hr hne)⟩
theorem gb_below {w w1 : World} {k : Option Nat} (h : Below w.heap.size w w1) : w.grownBy w1 k := ⟨h.os, h.tape, h.output, h.size, fun r hr _ => h.block r hr⟩
theorem gb_set (w : World) (b i : Nat) (v : Value) : w.grownBy (w.setCell ⟨b, i, none⟩ v) (some b) := ⟨rfl, rfl, rfl, by simp, fun r _ hne => Below.heap_setCell _ _ _ _ (fun e => hne (by rw [show r = b from e]))⟩
theorem gb_weak {w w1 : World} {b : Nat} (h : w.grownBy w1 none) : w.grownBy w1 (some b) := ⟨h.os, h.tape, h.output, h.size, fun r hr _ => h.block r hr (by simp)⟩
def encRE (rb : Nat) (o : Int) (n : Nat) (vL vA vS : Value) : Array Value := #[.pointer (some ⟨rb, 0, none⟩), .int .i64 o, .int .i64 (n : Int), vL, vA, vS]
/-- the reference's enumeration: its block and lists, above the heaps as they were at w0 -/
def EnR (w0 w : World) (rb eb : Nat) (o : Int) (n : Nat) (vL vA vS : Value) (L A S : List KK) : Prop :=
  Below w0.heap.size w0 w ∧ w0.heap.size ≤ eb ∧ w.heap[eb]? = some (.cells (encRE rb o n vL vA vS) 145 (0, 0)) ∧ (RdK w vL L ∧ RdK w vA A ∧ RdK w vS S) ∧ (∀ x ∈ L, okK x) ∧ (∀ x ∈ A, okK x) ∧ ∀ x ∈ S, okK x
section
variable {w0 w w' : World} {rb eb n : Nat} {o : Int} {vL vA vS : Value} {L A S : List KK}
theorem EnR.below (h : EnR w0 w rb eb o n vL vA vS L A S) (hb : Below w.heap.size w w') : EnR w0 w' rb eb o n vL vA vS L A S := by
  obtain ⟨h1, h2, h3, ⟨h4, h5, h6⟩, h7⟩ := h
  exact ⟨h1.trans (hb.mono h1.size), h2, (hb.block _ (heapH_lt h3)).trans h3, ⟨h4.keep hb, h5.keep hb, h6.keep hb⟩, h7⟩
theorem EnR.untexty (h : EnR w0 w rb eb o n vL vA vS L A S) : ¬ texty w eb := by
  obtain ⟨h1, h2, h3, ⟨h4, h5, h6⟩, h7⟩ := h
  rintro ⟨j, s, hc⟩
  rw [cell_of_row _ _ j _ _ _ h3] at hc
  unfold encRE at hc
  match j, hc with
  | 0, hc => simp at hc
  | 1, hc => simp at hc
  | 2, hc => simp at hc
  | 3, hc => simp at hc; exact h4.notext _ hc
  | 4, hc => simp at hc; exact h5.notext _ hc
  | 5, hc => simp at hc; exact h6.notext _ hc
  | j + 6, hc => simp at hc
theorem EnR.set {o' : Int} {n' : Nat} {vL' vA' vS' : Value} {L' A' S' : List KK} (i : Nat) (v : Value) (h : EnR w0 w rb eb o n vL vA vS L A S) (he : (encRE rb o n vL vA vS).setIfInBounds i v = encRE rb o' n' vL' vA' vS') (hr : RdK w vL' L' ∧ RdK w vA' A' ∧ RdK w vS' S') (hk : (∀ x ∈ L', okK x) ∧ (∀ x ∈ A', okK x) ∧ ∀ x ∈ S', okK x) :
    EnR w0 (w.setCell ⟨eb, i, none⟩ v) rb eb o' n' vL' vA' vS' L' A' S' := by
  have hu := h.untexty
  obtain ⟨h1, h2, h3, ⟨h4, h5, h6⟩, h7⟩ := h
  refine ⟨h1.setCell (p := ⟨eb, i, none⟩) h2 v, h2, ?_, ⟨hr.1.set hu, hr.2.1.set hu, hr.2.2.set hu⟩, hk⟩
  rw [← he]
  exact heap_setCell_same w eb i _ _ v h3
theorem EnR.cells (h : EnR w0 w rb eb o n vL vA vS L A S) : (w.cell? ⟨eb, 0, none⟩ = some (.pointer (some ⟨rb, 0, none⟩)) ∧ w.cell? ⟨eb, 1, none⟩ = some (.int .i64 o) ∧ w.cell? ⟨eb, 2, none⟩ = some (.int .i64 (n : Int)) ∧ w.cell? ⟨eb, 3, none⟩ = some vL ∧ w.cell? ⟨eb, 4, none⟩ = some vA ∧ w.cell? ⟨eb, 5, none⟩ = some vS) ∧ (∀ j, w.frozen? ⟨eb, j, none⟩ = false) ∧ eb < w.heap.size := by
  obtain ⟨h1, h2, h3, _⟩ := h
  refine ⟨⟨?_, ?_, ?_, ?_, ?_, ?_⟩, froz_of h3, heapH_lt h3⟩ <;> (rw [cell_of_row _ _ _ _ _ _ h3]; rfl)
end
/-- .. as one state; K: blocks in which no list of it lies -/
def EnS (K : Nat → Prop) (w0 w : World) (rb eb : Nat) (st : ES) : Prop :=
  ∃ vL vA vS L A S, EnR w0 w rb eb st.o st.lv vL vA vS L A S ∧ (L.map pk = st.rem ∧ A.map pk = st.cur ∧ S.map pk = st.seen) ∧ (st.lv ≤ 1000 ∧ L.length ≤ 100000 ∧ A.length ≤ 100000 ∧ S.length ≤ st.lv * 100000) ∧ ∀ c, K c → c < w.heap.size ∧ c ≠ eb ∧ offL vL c ∧ offL vA c ∧ offL vS c
theorem row_fresh {w : World} {B n : Nat} {v : Value} {xs : List Value} (h : w.ownsRow B 32 2 v n xs) : FreshL B v := fun p m c e => by
  rcases h.2 with ⟨e1, _⟩ | ⟨g, cap, cur, e1, hg, _⟩
  · rw [e1] at e; injection e with e; cases e
  · rw [e1] at e; injection e with e; injection e with e; rw [← e]; exact hg
section
variable {K : Nat → Prop} {w00 w0 w w' : World} {hb rb B eb : Nat} {lim : Int} {H : List OB}
theorem EnS.below {st : ES} (h : EnS K w0 w rb eb st) (hb : Below w.heap.size w w') : EnS K w0 w' rb eb st := by
  obtain ⟨vL, vA, vS, L, A, S, h1, h2, h3, h4⟩ := h
  exact ⟨vL, vA, vS, L, A, S, h1.below hb, h2, h3, fun c hc => ⟨Nat.lt_of_lt_of_le (h4 c hc).1 hb.size, (h4 c hc).2⟩⟩
theorem c_R20come {st : ES} (hL : LawS w00 w0 hb rb lim B H) (hu : usedH H ≤ 100000) (hE : EnS K w0 w rb eb st) (hlv : st.lv < 1000) (o : Int) :
    Calls Try.prog 75 #[.pointer (some ⟨eb, 0, none⟩), .int .i64 o] w fun e w' => e = .returned (.tuple #[]) ∧ EnS K w0 w' rb eb ⟨o, st.lv + 1, keysH H o, st.seen ++ st.cur, keysH H o⟩ ∧ w.grownBy w' (some eb) := by
  obtain ⟨vL, vA, vS, L, A, S, hR, ⟨m1, m2, m3⟩, ⟨s1, s2, s3, s4⟩, hK⟩ := hE
  obtain ⟨⟨c0, c1, c2, c3, c4, c5⟩, hf, leb⟩ := hR.cells
  obtain ⟨pA, cA, rfl, -, -, -⟩ := hR.2.2.2.1.2.1.form
  obtain ⟨pS, cS, rfl, -, -, -⟩ := hR.2.2.2.1.2.2.form
  have f1 := hf 1
  have f2 := hf 2
  have f3 := hf 3
  have f4 := hf 4
  have f5 := hf 5
  have hsS := fun (y : World) (hy : Below w.heap.size w y) => keySrc hR.2.2.2.1.2.2 hy
  have hsA := fun (y : World) (hy : Below w.heap.size w y) => keySrc hR.2.2.2.1.2.1 hy
  have hfS := Lib.hid (flatK_len S)
  have hfA := Lib.hid (flatK_len A)
  have hSl : S.length ≤ 100000000 := by have : st.lv * 100000 ≤ 1000 * 100000 := Nat.mul_le_mul_right _ s1; omega
  replace hSl := Lib.hid hSl
  replace s3 := Lib.hid s3
  replace s4 := Lib.hid s4
  replace hsS := Lib.hid hsS
  replace hsA := Lib.hid hsA
  obtain ⟨Sm, hSm⟩ : ∃ m, m = S.length := ⟨_, rfl⟩
  obtain ⟨Am, hAm⟩ : ∃ m, m = A.length := ⟨_, rfl⟩
  rw [← hSm] at c5
  rw [← hAm] at c4
  replace hSm := Lib.hid hSm
  replace hAm := Lib.hid hAm
  obtain ⟨st0, lv0, rm0, sn0, cu0⟩ := st
  dsimp only at *
  have hR' := Lib.hid hR
  have hK' := Lib.hid hK
  have hst := onto_drew w
  have m1' := Lib.hid m1
  have m2' := Lib.hid m2
  have m3' := Lib.hid m3
  clear hR hK hf m1 m2 m3
  go_enter Try.func75, Try.ntmps75
  go_wp2_with fail
  refine regionK 13 (fun y => (∀ a : Addr, a.block < w.heap.size → y.cell? a = w.cell? a) ∧ (∀ b : Nat, b < w.heap.size → y.heap[b]? = w.heap[b]?) ∧ Below w.heap.size w y) (by kernel_rfl) hst (fun hHeld => ?_)
  simp only [List.size_toArray, List.length_cons, List.length_nil, Nat.reduceAdd, Array.replicate_succ]
  refine AnyK.take 0 (v := ?_) rfl (by kernel_rfl) (by kernel_rfl) (by kernel_rfl) (by kernel_rfl) (fun _ _ _ h => h) (by rfl) ?_ (by assumption) ?_
  rotate_left
  · intro y hSy; (try dsimp only at hSy); go_simp; (try with_reducible rfl)
  try simp only [Act.put, List.setIfInBounds_toArray, List.set_cons_zero, List.set_cons_succ]
  refine AnyK.take 1 (v := ?_) rfl (by kernel_rfl) (by kernel_rfl) (by kernel_rfl) (by kernel_rfl) (fun _ _ _ h => h) (by rfl) ?_ (by assumption) ?_
  rotate_left
  · intro y hSy; (try dsimp only at hSy); go_simp; (try with_reducible rfl)
  try simp only [Act.put, List.setIfInBounds_toArray, List.set_cons_zero, List.set_cons_succ]
  refine AnyK.take 2 (v := ?_) rfl (by kernel_rfl) (by kernel_rfl) (by kernel_rfl) (by kernel_rfl) (fun _ _ _ h => h) (by rfl) ?_ (by assumption) ?_
  rotate_left
  · intro y hSy; (try dsimp only at hSy); go_simp; (try with_reducible rfl)
  try simp only [Act.put, List.setIfInBounds_toArray, List.set_cons_zero, List.set_cons_succ]
  refine AnyK.take 3 (v := ?_) rfl (by kernel_rfl) (by kernel_rfl) (by kernel_rfl) (by kernel_rfl) (fun _ _ _ h => h) (by rfl) ?_ (by assumption) ?_
  rotate_left
  · intro y hSy; (try dsimp only at hSy); go_simp; (try with_reducible rfl)
  try simp only [Act.put, List.setIfInBounds_toArray, List.set_cons_zero, List.set_cons_succ]
  refine AnyK.take 4 (v := ?_) rfl (by kernel_rfl) (by kernel_rfl) (by kernel_rfl) (by kernel_rfl) (fun _ _ _ h => h) (by rfl) ?_ (by assumption) ?_
  rotate_left
  · intro y hSy; (try dsimp only at hSy); go_simp; (try with_reducible rfl)
  try simp only [Act.put, List.setIfInBounds_toArray, List.set_cons_zero, List.set_cons_succ]
  refine AnyK.take 6 (v := ?_) rfl (by kernel_rfl) (by kernel_rfl) (by kernel_rfl) (by kernel_rfl) (fun _ _ _ h => h) (by rfl) ?_ (by assumption) ?_
  rotate_left
  · intro y hSy; (try dsimp only at hSy); go_simp; (try with_reducible rfl)
  try simp only [Act.put, List.setIfInBounds_toArray, List.set_cons_zero, List.set_cons_succ]
  refine AnyK.take 7 (v := ?_) rfl (by kernel_rfl) (by kernel_rfl) (by kernel_rfl) (by kernel_rfl) (fun _ _ _ h => h) (by rfl) ?_ (by assumption) ?_
  rotate_left
  · intro y hSy; (try dsimp only at hSy); go_simp; (try with_reducible rfl)
  try simp only [Act.put, List.setIfInBounds_toArray, List.set_cons_zero, List.set_cons_succ]
  refine AnyK.take 8 (v := ?_) rfl (by kernel_rfl) (by kernel_rfl) (by kernel_rfl) (by kernel_rfl) (fun _ _ _ h => h) (by rfl) ?_ (by assumption) ?_
  rotate_left
  · intro y hSy; (try dsimp only at hSy); go_simp; (try with_reducible rfl)
  try simp only [Act.put, List.setIfInBounds_toArray, List.set_cons_zero, List.set_cons_succ]
  refine AnyK.take 9 (v := ?_) rfl (by kernel_rfl) (by kernel_rfl) (by kernel_rfl) (by kernel_rfl) (fun _ _ _ h => h) (by rfl) ?_ (by assumption) ?_
  rotate_left
  · intro y hSy; (try dsimp only at hSy); go_simp; (try with_reducible rfl)
  try simp only [Act.put, List.setIfInBounds_toArray, List.set_cons_zero, List.set_cons_succ]
  refine AnyK.one 5 rfl (by kernel_rfl) (fun K' hK => ?_)
  have hx1 := (hsS.out _ hHeld.2.2).1
  have hx2 := (hsS.out _ hHeld.2.2).2
  refine keys_step rfl _ _ rfl (v := .slice none 0 0) (n := 0) (m := Sm) (xs := []) (news := flatK S) rfl rfl (World.ownsRow_nil w.drew w.heap.size _ _) (Nat.le_refl _) (by rw [hSm.out]; exact hx1) hx2 (by rw [hSm.out]; exact hfS.out) (flatK_one _) (by rw [hSm.out]; have := hSl.out; omega) ?_
  intro u1 w7 hown7 hbe7
  rw [Nat.zero_add, List.nil_append] at hown7
  clear hx1 hx2
  refine hK.out _ _ (onto_belowB hHeld hbe7) (fun hHeld7 => ?_)
  clear hK K'
  try simp only [Act.put, List.setIfInBounds_toArray, List.set_cons_zero, List.set_cons_succ]
  clear hHeld hst
  refine AnyK.one 10 rfl (by kernel_rfl) (fun K' hK => ?_)
  have hx1 := (hsA.out _ hHeld7.2.2).1
  have hx2 := (hsA.out _ hHeld7.2.2).2
  refine keys_step rfl _ _ rfl (v := u1) (n := Sm) (m := Am) (xs := flatK S) (news := flatK A) rfl rfl hown7 hHeld7.2.2.size (by rw [hAm.out]; exact hx1) hx2 (by rw [hAm.out]; exact hfA.out) (flatK_one _) (by rw [hSm.out, hAm.out]; have := hSl.out; have := s3.out; omega) ?_
  intro u2 w8 hown8 hbe8
  rw [← flatK_app] at hown8
  clear hx1 hx2
  refine hK.out _ _ (onto_belowB hHeld7 hbe8) (fun hHeld8 => ?_)
  clear hK K'
  try simp only [Act.put, List.setIfInBounds_toArray, List.set_cons_zero, List.set_cons_succ]
  clear hHeld7
  obtain ⟨SA, hSA⟩ : ∃ SA, SA = S ++ A := ⟨_, rfl⟩
  rw [← hSA] at hown8
  obtain ⟨p2, cp2, rfl, -⟩ := (own_rdk hown8).form
  have hSA' := Lib.hid hSA
  clear hSA
  refine AnyK.one 11 rfl (by kernel_rfl) (fun K' hK => ?_)
  go_simp
  refine hK.out _ _ hHeld8 (fun hHeld9 => ?_)
  clear hK K'
  try simp only [Act.put, List.setIfInBounds_toArray, List.set_cons_zero, List.set_cons_succ]
  refine AnyK.one 12 rfl (by kernel_rfl) (fun K' hK => ?_)
  go_simp
  refine hK.out _ _ hHeld8 (fun hHeld10 => ?_)
  clear hK K'
  try simp only [Act.put, List.setIfInBounds_toArray, List.set_cons_zero, List.set_cons_succ]
  clear hHeld9 hHeld10
  have f8 := (hHeld8.2.2.frozen (p := ⟨eb, 5, none⟩) leb).trans f5
  refine AnyK.last rfl (by kernel_rfl) (fun K' hK => ?_)
  go_simp
  refine hK.out _ _ ?_
  clear hK K'
  try simp only [Act.put, List.setIfInBounds_toArray, List.set_cons_zero, List.set_cons_succ]
  refine AnyK.done (by kernel_rfl) ?_ _
  obtain ⟨W1, hW1⟩ : ∃ W1, w8.setCell ⟨eb, 5, none⟩ (.slice p2 SA.length cp2) = W1 := ⟨_, rfl⟩
  have hB8 := hHeld8.2.2
  have hR8 := hR'.out.below hB8
  have hoks : ∀ x ∈ SA, okK x := fun x hx => (List.mem_append.1 (hSA'.out ▸ hx)).elim (hR8.2.2.2.2.2.2 x) (hR8.2.2.2.2.2.1 x)
  have hR1 : EnR w0 W1 rb eb st0 lv0 vL (.slice pA A.length cA) (.slice p2 SA.length cp2) L A SA := by
    rw [← hW1]; exact hR8.set 5 _ rfl ⟨hR8.2.2.2.1.1, hR8.2.2.2.1.2.1, own_rdk hown8⟩ ⟨hR8.2.2.2.2.1, hR8.2.2.2.2.2.1, hoks⟩
  have hg1 : w.grownBy W1 (some eb) := by rw [← hW1]; exact gb_trans (gb_below hB8) (gb_set _ _ _ _)
  have hfr := row_fresh hown8
  rw [hW1]
  obtain ⟨W2, hW2⟩ : ∃ W2, W1.setCell ⟨eb, 1, none⟩ (.int .i64 o) = W2 := ⟨_, rfl⟩
  have hR2 : EnR w0 W2 rb eb o lv0 vL (.slice pA A.length cA) (.slice p2 SA.length cp2) L A SA := by
    rw [← hW2]; exact hR1.set 1 _ rfl hR1.2.2.2.1 hR1.2.2.2.2
  have hg2 : w.grownBy W2 (some eb) := by rw [← hW2]; exact gb_trans hg1 (gb_set _ _ _ _)
  obtain ⟨W3, hW3⟩ : ∃ W3, W2.setCell ⟨eb, 2, none⟩ (.int .i64 ((lv0 : Int) + 1)) = W3 := ⟨_, rfl⟩
  have hR3 : EnR w0 W3 rb eb o (lv0 + 1) vL (.slice pA A.length cA) (.slice p2 SA.length cp2) L A SA := by
    rw [← hW3]; exact hR2.set 2 _ (by unfold encRE; simp) hR2.2.2.2.1 hR2.2.2.2.2
  have hg3 : w.grownBy W3 (some eb) := by rw [← hW3]; exact gb_trans hg2 (gb_set _ _ _ _)
  have hKs := Lib.hid (l_RKeysF (hL.below hR3.1) hu o)
  have e1 := Lib.hid hR1.cells
  have e2 := Lib.hid hR2.cells
  have e3 := Lib.hid hR3.cells
  replace hR1 := Lib.hid hR1
  replace hR2 := Lib.hid hR2
  replace hR3 := Lib.hid hR3
  replace hg3 := Lib.hid hg3
  replace hown8 := Lib.hid hown8
  replace hR8 := Lib.hid hR8
  replace hfr := Lib.hid hfr
  replace hoks := Lib.hid hoks
  clear hW1 hg1 hg2 hB8 hHeld8 hbe8 hbe7 hown7 c0 c1 c2 c3 c4 c5 f1 f2 f3 f4 f5 f8 leb
  obtain ⟨⟨-, c1, -⟩, f, leb⟩ := e1.out
  have f1 := f 1
  clear f
  go_upto_region 2 with fail
  clear hW2 f1 leb c1
  obtain ⟨⟨-, -, c2, -⟩, f, leb⟩ := e2.out
  have f2 := f 2
  clear f
  go_upto_region 3 with fail
  clear hW3 f2 leb c2
  obtain ⟨⟨c0, -⟩, -⟩ := e3.out
  go_upto_region 4 with (first | (go_at_call 58; refine hKs.out.mono ?_; rintro e y7 ⟨v7, Z7, rfl, hr7, hk7, hb7, hf7⟩; obtain ⟨p7, cp7, rfl, -⟩ := hr7.form; have hR7 := hR3.out.below hb7; obtain ⟨⟨-, -, -, -, c4, -⟩, f, leb⟩ := hR7.cells; have f4 := f 4; clear f c0))
  clear f4 leb c4
  obtain ⟨W8, hW8⟩ : ∃ W8, y7.setCell ⟨eb, 4, none⟩ (.slice p7 Z7.length cp7) = W8 := ⟨_, rfl⟩
  have hR9 : EnR w0 W8 rb eb o (lv0 + 1) vL (.slice p7 Z7.length cp7) (.slice p2 SA.length cp2) L Z7 SA := by
    rw [← hW8]; exact hR7.set 4 _ rfl ⟨hR7.2.2.2.1.1, hr7, hR7.2.2.2.1.2.2⟩ ⟨hR7.2.2.2.2.1, hk7.ok, hR7.2.2.2.2.2.2⟩
  obtain ⟨W9, hW9⟩ : ∃ W9, W8.setCell ⟨eb, 3, none⟩ (.slice p7 Z7.length cp7) = W9 := ⟨_, rfl⟩
  have hR10 : EnR w0 W9 rb eb o (lv0 + 1) (.slice p7 Z7.length cp7) (.slice p7 Z7.length cp7) (.slice p2 SA.length cp2) Z7 Z7 SA := by
    rw [← hW9]; exact hR9.set 3 _ rfl ⟨hR9.2.2.2.1.2.1, hR9.2.2.2.1.2⟩ ⟨hk7.ok, hR9.2.2.2.2.2⟩
  have hg9 : w.grownBy W9 (some eb) := by
    rw [← hW9, ← hW8]; exact gb_trans (gb_trans (gb_trans hg3.out (gb_below hb7)) (gb_set _ _ _ _)) (gb_set _ _ _ _)
  have hK9 := Lib.hid (show ∀ c, c < w.heap.size → offL (.slice p7 Z7.length cp7) c from fun c hc => hf7.off (Nat.lt_of_lt_of_le hc hg3.out.size))
  have hkl := keys_few hu hk7
  have hkm : Z7.map pk = keysH H o := ordK_eq hk7
  rw [hW8]
  obtain ⟨⟨-, -, -, c3, c4, -⟩, f, leb⟩ := hR9.cells
  have f3 := f 3
  clear f
  replace hR10 := Lib.hid hR10
  replace hg9 := Lib.hid hg9
  replace hkm := Lib.hid hkm
  replace hkl := Lib.hid hkl
  clear hR9 hR7 hr7 hk7 hb7 hf7 hW8 e1 e2 e3 hKs
  go_wp2_with fail
  go_end0
  have hk0 := hK'.out
  refine ⟨rfl, ⟨_, _, _, Z7, Z7, SA, hR10.out, ⟨hkm.out, hkm.out, by rw [hSA'.out, List.map_append, m3'.out, m2'.out]⟩, ⟨hlv, hkl.out, hkl.out, ?_⟩, fun c hc => ?_⟩, hg9.out⟩
  · have := s3.out
    have := s4.out
    rw [hSA'.out, List.length_append]
    dsimp only
    omega
  · obtain ⟨k1, k2, k3, k4, k5⟩ := hk0 c hc
    exact ⟨Nat.lt_of_lt_of_le k1 hg9.out.size, k2, hK9.out c k1, hK9.out c k1, hfr.out.off k1⟩
end
end Go.Proofs.Ytoccmiinkfhohaa
namespace Go.Proofs.Ytoccmiinkfhohaa
open Go.RowKit Go.Shelf Go.Lib Go.Sort Go.Proofs Go.Maps
set_option linter.unusedVariables false
set_option maxHeartbeats 4000000
set_option maxRecDepth 100000

theorem zb_flag {y : World} {b : Nat} (h : ZB y b) (P : PV) : (y.setCells b 0 (encP P)).cell? ⟨b, 12, none⟩ = some (.int .i64 P.fl) := by
  obtain ⟨cs, h1, h2⟩ := h
  have h3 := heap_setCells_all (vs := encP P) h1 (by rw [h2]; rfl)
  exact (cells13 h3).2.2.2.2.2.2.2.2.2.2.2.2
theorem zb_lt {y : World} {b : Nat} (h : ZB y b) (P : PV) : b < (y.setCells b 0 (encP P)).heap.size := by
  obtain ⟨cs, h1, h2⟩ := h
  exact heapH_lt (heap_setCells_all (vs := encP P) h1 (by rw [h2]; rfl))
/-- what the reference's next key leaves -/
def NextQ (K : Nat → Prop) (w0 w : World) (rb eb : Nat) (H : List OB) (st : ES) (e : Ending) (w' : World) : Prop :=
  ∃ st' : ES, EnS K w0 w' rb eb st' ∧ w.grownBy w' (some eb) ∧ 1 ≤ st'.lv ∧ ((∃ k : KK, okK k ∧ nextE H (1000 - st.lv) st = (some (pk k), st') ∧ e = .returned (.tuple #[.agg #[.string k.1, .int .i64 k.2], .bool true])) ∨ (nextE H (1000 - st.lv) st = (none, st') ∧ e = .returned (.tuple #[.agg #[.string ⟨#[]⟩, .int .i64 0], .bool false])))
def lvR (eb : Nat) (w : World) : Nat := match w.cell? ⟨eb, 2, none⟩ with | some (.int _ z) => (1000 - z).toNat | _ => 0
def lnR (eb : Nat) (w : World) : Nat := match w.cell? ⟨eb, 3, none⟩ with | some v => lenW v | none => 0
section
variable {K : Nat → Prop} {w00 w0 w w' : World} {hb rb B eb : Nat} {lim : Int} {H : List OB}
theorem EnR.lvR {o : Int} {n : Nat} {vL vA vS : Value} {L A S : List KK} (h : EnR w0 w rb eb o n vL vA vS L A S) : lvR eb w = 1000 - n := by
  unfold Go.Proofs.Ytoccmiinkfhohaa.lvR; rw [h.cells.1.2.2.1]; simp
theorem EnR.lnR {o : Int} {n : Nat} {vL vA vS : Value} {L A S : List KK} (h : EnR w0 w rb eb o n vL vA vS L A S) : lnR eb w = lenW vL := by
  unfold Go.Proofs.Ytoccmiinkfhohaa.lnR; rw [h.cells.1.2.2.2.1]
theorem EnS.lvR {st : ES} (h : EnS K w0 w rb eb st) : lvR eb w = 1000 - st.lv := by
  obtain ⟨vL, vA, vS, L, A, S, h1, _⟩ := h
  exact h1.lvR
/-- a change of a watched block alone -/
theorem EnS.free {K' : Nat → Prop} {c : Nat} {st : ES} (h : EnS K' w0 w rb eb st) (hK : K' c) (ho : w'.os = w.os) (ht : w'.tape = w.tape) (hp : w'.output = w.output) (hs : w.heap.size ≤ w'.heap.size) (hk : ∀ r, r ≠ c → w'.heap[r]? = w.heap[r]?) (hc0 : w0.heap.size ≤ c) (hK' : ∀ x, K x → K' x) : EnS K w0 w' rb eb st := by
  obtain ⟨vL, vA, vS, L, A, S, ⟨h1, h2, h3, ⟨h4, h5, h6⟩, h7⟩, m, s, q⟩ := h
  obtain ⟨q1, q2, q3, q4, q5⟩ := q c hK
  refine ⟨vL, vA, vS, L, A, S, ⟨⟨ho.trans h1.os, ht.trans h1.tape, hp.trans h1.output, Nat.le_trans h1.size hs, fun r hr => (hk r (by omega)).trans (h1.block r hr)⟩, h2, (hk eb (Ne.symm q2)).trans h3, ⟨h4.off q3 hk, h5.off q4 hk, h6.off q5 hk⟩, h7⟩, m, s, fun x hx => ?_⟩
  obtain ⟨e1, e2⟩ := q x (hK' x hx)
  exact ⟨Nat.lt_of_lt_of_le e1 hs, e2⟩
/-- a block more is watched -/
theorem EnS.watch {st : ES} (h : EnS K w0 w rb eb st) (hb' : Below w.heap.size w w') (hs : w.heap.size < w'.heap.size) : EnS (fun x => K x ∨ x = w.heap.size) w0 w' rb eb st := by
  obtain ⟨vL, vA, vS, L, A, S, h1, m, s, q⟩ := h
  have hl := h1.cells.2.2
  refine ⟨vL, vA, vS, L, A, S, h1.below hb', m, s, fun c hc => ?_⟩
  rcases hc with hc | rfl
  · obtain ⟨e1, e2⟩ := q c hc
    exact ⟨Nat.lt_of_lt_of_le e1 hb'.size, e2⟩
  · obtain ⟨h3, h4, h5⟩ := h1.2.2.2.1
    exact ⟨hs, by omega, h3.offNew (Nat.le_refl _), h4.offNew (Nat.le_refl _), h5.offNew (Nat.le_refl _)⟩
theorem gb_held {b : Nat} {o : Obj} {k : Nat} (h : w.grownBy w' (some k)) (hb : w.heap[b]? = some o) (hne : b ≠ k) : w'.heap[b]? = some o :=
  (h.block b (heapH_lt hb) (fun e => hne (Option.some.inj e))).trans hb
theorem c_R20Next {st : ES} (hL : LawS w00 w0 hb rb lim B H) (hu : usedH H ≤ 100000) (hE : EnS K w0 w rb eb st) (hlv : 1 ≤ st.lv) :
    Calls Try.prog 57 #[.pointer (some ⟨eb, 0, none⟩)] w (NextQ K w0 w rb eb H st) := by
  obtain ⟨W1, hW1⟩ : ∃ W1, w.alloc (.cells #[.string ⟨#[]⟩, .int .i64 0] 32) = W1 := ⟨_, rfl⟩
  have hb1 : Below w.heap.size w W1 := by rw [← hW1]; exact (Below.refl _ _).alloc (Nat.le_refl _) _
  have d0 : W1.heap[w.heap.size]? = some (.cells #[.string ⟨#[]⟩, .int .i64 0] 32 (0, 0)) := by rw [← hW1]; exact heap_alloc_new w _
  have hE1 := hE.watch hb1 (heapH_lt d0)
  have hw0 : w0.heap.size ≤ w.heap.size := by obtain ⟨vL, vA, vS, L, A, S, h1, _⟩ := hE; exact h1.1.size
  have hne : w.heap.size ≠ eb := by obtain ⟨vL, vA, vS, L, A, S, h1, _⟩ := hE; have := h1.cells.2.2; omega
  obtain ⟨rx, hrx⟩ : ∃ rx, rx = w.heap.size := ⟨_, rfl⟩
  rw [← hrx] at d0 hE1 hne
  obtain ⟨K', hK'⟩ : ∃ K' : Nat → Prop, K' = fun x => K x ∨ x = rx := ⟨_, rfl⟩
  rw [← hK'] at hE1
  have hKx : K' rx := by rw [hK']; exact .inr rfl
  have hKK : ∀ x, K x → K' x := fun x hx => by rw [hK']; exact .inl hx
  have hgb1 : w.grownBy W1 (some eb) := gb_below hb1
  have hrw : rx < W1.heap.size := heapH_lt d0
  have hrx' := Lib.hid hrx
  have hw0' := Lib.hid (show w0.heap.size ≤ rx by rw [hrx]; exact hw0)
  replace d0 := Lib.hid d0
  replace hgb1 := Lib.hid hgb1
  replace hL := Lib.hid hL
  replace hKx := Lib.hid hKx
  replace hKK := Lib.hid hKK
  clear hE hb1 hw0
  go_enter Try.func57, Try.ntmps57
  go_wp2_with fail
  rw [← hrx]
  clear hW1 hrx hK'
  go_loopw [3] (fun v3 wr => v3 = .bool false ∧ W1.grownBy wr (some eb) ∧ ∃ st1 : ES, EnS K' w0 wr rb eb st1 ∧ 1 ≤ st1.lv ∧ nextE H (1000 - st1.lv) st1 = nextE H (1000 - st.lv) st) (fun _ wr => lvR eb wr)
  case atStart => exact ⟨rfl, ⟨rfl, rfl, rfl, Nat.le_refl _, fun _ _ _ => rfl⟩, st, hE1, hlv, rfl⟩
  case round =>
    obtain ⟨rfl, hg2, st1, hE2, hlv2, hq1⟩ := hrel
    obtain ⟨W2, rfl⟩ : ∃ W2, W2 = wr := ⟨_, rfl⟩
    obtain ⟨lv1, hlv1⟩ : ∃ lv1, st1.lv = lv1 := ⟨_, rfl⟩
    have hm1 : lvR eb W2 = 1000 - lv1 := by rw [hE2.lvR, hlv1]
    replace hm1 := Lib.hid hm1
    clear hE1
    go_wp2_with fail
    go_loopw [3] (fun v3 wr => v3 = .bool false ∧ W1.grownBy wr (some eb) ∧ ∃ st2 : ES, EnS K' w0 wr rb eb st2 ∧ nextE H (1000 - lv1) st2 = nextE H (1000 - st.lv) st ∧ st2.lv = lv1) (fun _ wr => lnR eb wr)
    case atStart => exact ⟨rfl, hg2, st1, hE2, by rw [← hlv1]; exact hq1, hlv1⟩
    case round =>
      obtain ⟨rfl, hg3, st2, hE3, hq2, hlv3⟩ := hrel
      obtain ⟨W3, rfl⟩ : ∃ W3, W3 = wr := ⟨_, rfl⟩
      have hlvp : 1 ≤ lv1 := by omega
      clear hE2 hq1 hlv1 hg2 hlv2
      obtain ⟨o2, lv2, rem2, seen2, cur2⟩ := st2
      dsimp only at *
      subst hlv3
      obtain ⟨vL, vA, vS, L, A, S, hR, ⟨m1, m2, m3⟩, ⟨s1, s2, s3, s4⟩, hKo⟩ := hE3
      dsimp only at *
      have hlnM := Lib.hid hR.lnR
      have kx3 := gb_held hg3 d0.out hne
      have kx0 : W3.cell? ⟨rx, 0, none⟩ = some (.string ⟨#[]⟩) := by rw [cell_of_row _ _ 0 _ _ _ kx3]; rfl
      have kx1 : W3.cell? ⟨rx, 1, none⟩ = some (.int .i64 0) := by rw [cell_of_row _ _ 1 _ _ _ kx3]; rfl
      obtain ⟨⟨c0, c1, c2, c3, c4, c5⟩, hf, leb⟩ := hR.cells
      cases L with
      | nil =>
        have hrem : rem2 = [] := m1.symm
        obtain ⟨p, c, rfl, -, -, -⟩ := hR.2.2.2.1.1.form
        have q0 : ¬ ((0 : Int) < ((([] : List KK).length : Nat) : Int)) := by simp
        have hHas := fun (y : World) (hy : Below W3.heap.size W3 y) => l_RHas (hL.out.below (hR.1.trans (hy.mono hR.1.size))) o2
        have hPro := fun (y : World) (hy : Below W3.heap.size W3 y) => l_RProto (hL.out.below (hR.1.trans (hy.mono hR.1.size))) o2
        have hES3 : EnS K' w0 W3 rb eb ⟨o2, lv2, rem2, seen2, cur2⟩ := ⟨_, _, _, _, _, _, hR, ⟨m1, m2, m3⟩, ⟨s1, s2, s3, s4⟩, hKo⟩
        have hstop : (hasH H o2 = false ∨ 1000 - lv2 = 0) → ∀ y, Below W3.heap.size W3 y → NextQ K w0 w rb eb H st (.returned (.tuple #[.agg #[.string ⟨#[]⟩, .int .i64 0], .bool false])) ((y.setCell ⟨rx, 0, none⟩ (.string ⟨#[]⟩)).setCell ⟨rx, 1, none⟩ (.int .i64 0)) := fun hs y hy => by
          have hk' : ∀ r, r ≠ rx → ((y.setCell ⟨rx, 0, none⟩ (.string ⟨#[]⟩)).setCell ⟨rx, 1, none⟩ (.int .i64 0)).heap[r]? = y.heap[r]? := fun r hr => set2_other r hr
          refine ⟨⟨o2, lv2, rem2, seen2, cur2⟩, (hES3.below hy).free hKx.out rfl rfl rfl (by simp) hk' hw0'.out hKK.out, ?_, hlvp, .inr ⟨?_, rfl⟩⟩
          · have g1 := gb_trans (gb_trans hgb1.out hg3) (gb_below hy)
            exact ⟨g1.os, g1.tape, g1.output, Nat.le_trans g1.size (by simp), fun r hr hne => (hk' r (by rw [hrx'.out]; omega)).trans (g1.block r hr hne)⟩
          · rw [← hq2]
            exact nextE_stop (st := ⟨o2, lv2, rem2, seen2, cur2⟩) hrem hs
        have hst := onto_drew W3
        have f0 := froz_of kx3 0
        have f1 := froz_of kx3 1
        have lx := heapH_lt kx3
        replace hHas := Lib.hid hHas
        replace hPro := Lib.hid hPro
        replace hstop := Lib.hid hstop
        replace hES3 := Lib.hid hES3
        have hq2' := Lib.hid hq2
        have s1' := Lib.hid s1
        have hg3' := Lib.hid hg3
        have hm1' := hm1
        replace hR := Lib.hid hR
        have kx3' := Lib.hid kx3
        clear hq2 m1 m2 m3 s1 s2 s3 s4 hKo hg3 hf hm1 c4 c5 kx3
        cases hh : hasH H o2 with
        | false =>
          rw [hh] at hHas
          go_wp2_with fail
          go_quiet ((go_at_call 12; exact Calls.quiet_of_same (hHas.out _ ⟨rfl, rfl, rfl, Nat.le_refl _, fun _ _ => rfl⟩)))
          have hfin := Lib.hid (fun n => hstop.out (.inl hh) (W3.drewN n) ⟨rfl, rfl, rfl, Nat.le_refl _, fun _ _ => rfl⟩)
          go_wp2_with fail
          refine bodyPost_ret (results_ck rfl _ _ rx 32 #[.string ⟨#[]⟩, .int .i64 0] (0, 0) _ rfl rfl (set2_block (show (W3.drewN _).heap[rx]? = _ from kx3'.out)) infoKeyRowZ) rfl ?_
          exact hfin.out _
        | true =>
          rw [hh] at hHas
          by_cases g1 : (1000 : Int) ≤ (lv2 : Int)
          · have g1d : decide ((1000 : Int) ≤ (lv2 : Int)) = true := decide_eq_true g1
            have hfin := fun n => hstop.out (.inr (by omega)) (W3.drewN n) ⟨rfl, rfl, rfl, Nat.le_refl _, fun _ _ => rfl⟩
            clear g1
            replace hfin := Lib.hid hfin
            go_wp2_with fail
            go_quiet ((go_at_call 12; exact Calls.quiet_of_same (hHas.out _ ⟨rfl, rfl, rfl, Nat.le_refl _, fun _ _ => rfl⟩)))
            go_wp2_with fail
            refine bodyPost_ret (results_ck rfl _ _ rx 32 #[.string ⟨#[]⟩, .int .i64 0] (0, 0) _ rfl rfl (set2_block (show (W3.drewN _).heap[rx]? = _ from kx3'.out)) infoKeyRowZ) rfl ?_
            exact hfin.out _
          · have g1d : decide ((1000 : Int) ≤ (lv2 : Int)) = false := decide_eq_false g1
            have hlt : lv2 < 1000 := by omega
            clear g1 hstop kx0 kx1 f0 f1 lx
            replace hlt := Lib.hid hlt
            go_wp2_with fail
            go_quiet ((go_at_call 12; exact Calls.quiet_of_same (hHas.out _ ⟨rfl, rfl, rfl, Nat.le_refl _, fun _ _ => rfl⟩)))
            go_wp2_with fail
            have hB4 : Below W3.heap.size W3 (W3.drewN nq) := ⟨rfl, rfl, rfl, Nat.le_refl _, fun _ _ => rfl⟩
            have hES4 := hES3.out.below hB4
            clear g1d c2 c3
            generalize W3.drewN nq = W4 at *
            obtain ⟨o4, ho4⟩ : ∃ o4, o4 = proV H o2 := ⟨_, rfl⟩
            rw [← ho4] at hPro
            replace ho4 := Lib.hid ho4
            have lW4 : eb < W4.heap.size := Nat.lt_of_lt_of_le leb hB4.size
            have c0 := (hB4.cell (p := ⟨eb, 0, none⟩) leb).trans c0
            have c1 := (hB4.cell (p := ⟨eb, 1, none⟩) leb).trans c1
            have hCome := fun (y : World) (hy : Below W4.heap.size W4 y) => c_R20come hL.out hu (hES4.below hy) (show lv2 < 1000 from hlt.out) o4
            replace hCome := Lib.hid hCome
            refine wp_region_still_tail 10 (by kernel_rfl) (by kernel_rfl) ?_
            simp only [List.take_succ_cons, List.take_zero, List.drop_succ_cons, List.drop_zero]
            iterate 9 still_step
            still_call (hPro.out _ (hB4.trans (Below.mono ⟨rfl, rfl, rfl, Nat.le_refl _, fun _ _ => rfl⟩ hB4.size)))
            refine wpStill_nil ?_
            change wpList _ _ _ _ _ W4.drew
            go_wp2_with (first | (go_at_call 75; refine (hCome.out _ (Below.drew (Below.refl _ _))).mono ?_; rintro e y6 ⟨rfl, hE6, hg6⟩))
            refine ⟨⟨rfl, gb_trans (gb_trans hg3'.out (gb_below (hB4.trans (Below.drew (Below.refl _ _))))) hg6, ⟨o4, lv2 + 1, keysH H o4, seen2 ++ cur2, keysH H o4⟩, hE6, by simp, ?_⟩, ?_⟩
            · obtain ⟨m, hm⟩ : ∃ m, 1000 - lv2 = m + 1 := ⟨1000 - lv2 - 1, by have := hlt.out; omega⟩
              rw [← hq2'.out, hm, nextE_adv (st := ⟨o2, lv2, rem2, seen2, cur2⟩) hrem hh]
              dsimp only
              rw [show 1000 - (lv2 + 1) = m by omega]
              unfold advE
              rw [show proZ H o2 = o4 from ho4.out.symm]
            · rw [hE6.lvR, hm1'.out]
              have := hlt.out
              dsimp only
              omega
      | cons x Z =>
        obtain ⟨L2, hR2, hsl, hoff⟩ := slice_tail hR.2.2.2.1.1
        obtain ⟨p2, cp2, rfl, -⟩ := hR2.form
        obtain ⟨p, c, rfl, -, hc, hcell⟩ := hR.2.2.2.1.1.form
        obtain ⟨bk, ok, rfl, lbk, hy⟩ := hcell 0 x rfl
        obtain ⟨y1, y2⟩ := hy _ (Below.refl _ _)
        rw [show ok + 0 * 2 = ok by omega] at y1 y2
        clear hcell hy
        rw [List.length_cons] at *
        have q1 : (0 : Int) < ((Z.length + 1 : Nat) : Int) := by omega
        have hokx := hR.2.2.2.2.1 x (List.mem_cons_self ..)
        obtain ⟨x0, xn⟩ := x
        dsimp only at y1 y2
        obtain ⟨W4, hW4⟩ : ∃ W4, W3.alloc (.cells #[.string x0, .int .i64 xn] 32) = W4 := ⟨_, rfl⟩
        have hb4 : Below W3.heap.size W3 W4 := by rw [← hW4]; exact (Below.refl _ _).alloc (Nat.le_refl _) _
        have d4 : W4.heap[W3.heap.size]? = some (.cells #[.string x0, .int .i64 xn] 32 (0, 0)) := by rw [← hW4]; exact heap_alloc_new W3 _
        obtain ⟨rk, hrk⟩ : ∃ rk, rk = W3.heap.size := ⟨_, rfl⟩
        have hkeb : rk ≠ eb := by omega
        have hR4 := hR.below hb4
        obtain ⟨W5, hW5⟩ : ∃ W5, W4.setCell ⟨eb, 3, none⟩ (.slice p2 Z.length cp2) = W5 := ⟨_, rfl⟩
        have hR5 : EnR w0 W5 rb eb o2 lv2 (.slice p2 Z.length cp2) vA vS Z A S := by
          rw [← hW5]; exact hR4.set 3 _ rfl ⟨hR2.keep hb4, hR4.2.2.2.1.2⟩ ⟨fun z hz => hR4.2.2.2.2.1 z (List.mem_cons_of_mem _ hz), hR4.2.2.2.2.2⟩
        have kb5 : W5.heap[rk]? = some (.cells #[.string x0, .int .i64 xn] 32 (0, 0)) := by rw [← hW5, hrk]; exact set_other d4 (by omega)
        have hg5 : W1.grownBy W5 (some eb) := by rw [← hW5]; exact gb_trans (gb_trans hg3 (gb_below hb4)) (gb_set _ _ _ _)
        have hrem : rem2 = pk (x0, xn) :: Z.map pk := m1.symm
        have hgd := goodB_pk H o2 (x0, xn)
        have hOx := fun (y : World) (hy : Below W5.heap.size W5 y) => l_ROwnV (hL.out.below (hR5.1.trans (hy.mono hR5.1.size))) hu o2 (x0, xn) hokx
        dsimp only at hOx hgd
        generalize (ownH H o2 (pk (x0, xn))).getD zeroPV = P at *
        generalize (ownH H o2 (pk (x0, xn))).isSome = bI at *
        obtain ⟨tb, htb⟩ : ∃ tb, toldB H o2 seen2 (pk (x0, xn)) = tb := ⟨_, rfl⟩
        have hES5 : ∀ y, Below W5.heap.size W5 y → EnS K' w0 y rb eb ⟨o2, lv2, Z.map pk, seen2, cur2⟩ := fun y hy => by
          have hsz := hg5.size
          have hs35 : W3.heap.size ≤ W5.heap.size := by rw [← hW5]; simpa using hb4.size
          refine ⟨_, _, _, Z, A, S, hR5.below hy, ⟨rfl, m2, m3⟩, ⟨s1, by omega, s3, s4⟩, fun b hb => ?_⟩
          obtain ⟨e1, e2, e3, e4⟩ := hKo b hb
          exact ⟨Nat.lt_of_lt_of_le e1 (Nat.le_trans hs35 hy.size), e2, hoff b e3, e4⟩
        have hround : ∀ y, Below W5.heap.size W5 y → tb = false → (W1.grownBy y (some eb) ∧ ∃ st' : ES, EnS K' w0 y rb eb st' ∧ nextE H (1000 - lv2) st' = nextE H (1000 - st.lv) st ∧ st'.lv = lv2) ∧ lnR eb y < lnR eb W3 := fun y hy e => by
          rw [e] at htb
          refine ⟨⟨gb_trans hg5 (gb_below hy), _, hES5 y hy, ?_, rfl⟩, ?_⟩
          · rw [← hq2]; exact (nextE_skip (st := ⟨o2, lv2, rem2, seen2, cur2⟩) hrem htb).symm
          · rw [(hR5.below hy).lnR, hlnM.out]; show Z.length < Z.length + 1; omega
        have htold : ∀ y, Below W5.heap.size W5 y → tb = true → NextQ K w0 w rb eb H st (.returned (.tuple #[.agg #[.string x0, .int .i64 xn], .bool true])) ((y.setCell ⟨rx, 0, none⟩ (.string x0)).setCell ⟨rx, 1, none⟩ (.int .i64 xn)) := fun y hy e => by
          rw [e] at htb
          have hk' : ∀ r, r ≠ rx → ((y.setCell ⟨rx, 0, none⟩ (.string x0)).setCell ⟨rx, 1, none⟩ (.int .i64 xn)).heap[r]? = y.heap[r]? := fun r hr => set2_other r hr
          refine ⟨_, (hES5 y hy).free hKx.out rfl rfl rfl (by simp) hk' hw0'.out hKK.out, ?_, hlvp, .inl ⟨(x0, xn), hokx, ?_, rfl⟩⟩
          · have g1 := gb_trans (gb_trans hgb1.out hg5) (gb_below hy)
            exact ⟨g1.os, g1.tape, g1.output, Nat.le_trans g1.size (by simp), fun r hr hne => (hk' r (by rw [hrx'.out]; omega)).trans (g1.block r hr hne)⟩
          · rw [← hq2]
            exact nextE_told (st := ⟨o2, lv2, rem2, seen2, cur2⟩) hrem htb
        have htb0 := htb
        rw [toldB, hgd, ← m3] at htb
        have hHad := fun (y : World) (hy : Below W5.heap.size W5 y) => c_R20had (hR5.below hy).cells.1.2.2.2.2.2 (hR5.below hy).2.2.2.1.2.2 hR5.2.2.2.2.2.2 (by have : lv2 * 100000 ≤ 1000 * 100000 := Nat.mul_le_mul_right _ s1; omega) (x0, xn) hokx
        have kx5 := gb_held hg5 d0.out hne
        have e4 := Lib.hid hR4.cells
        have e5 := Lib.hid hR5.cells
        have lk5 : rk < W5.heap.size := heapH_lt kb5
        replace hOx := Lib.hid hOx
        replace hHad := Lib.hid hHad
        replace hround := Lib.hid hround
        replace htold := Lib.hid htold
        replace kb5 := Lib.hid kb5
        replace kx5 := Lib.hid kx5
        have hsl0 := Lib.hid hsl
        have hst := fun (y : World) (b : Nat) (hy : ZB y b) => hy.store P
        have hzb := zb_new
        have honto := onto_drew W5
        clear htb0 hES5 hg5 hR5 hR4 hb4 d4 hR hg3 hq2 hgd hrem hKo hlnM m1 m2 m3 s1 s2 s3 s4 hR2 hsl hoff hc hm1 c0 c1 c2 c4 c5 hf kx0 kx1 kx3 hkeb hokx
        go_upto_region 3 with (fail)
        rw [← hrk]
        clear hrk
        clear c3 y1 y2 hW4 leb lbk q1
        obtain ⟨⟨-, -, -, c3, -⟩, f, leb⟩ := e4.out
        have f3 := f 3
        clear f e4
        have hslc := hsl0.out
        go_upto_region 4 with (fail)
        clear hslc hsl0 hW5 c3 f3 leb
        obtain ⟨⟨c0, c1, -⟩, -, leb⟩ := e5.out
        have kc0 : W5.cell? ⟨rk, 0, none⟩ = some (.string x0) := by rw [cell_of_row _ _ 0 _ _ _ kb5.out]; rfl
        have kc1 : W5.cell? ⟨rk, 1, none⟩ = some (.int .i64 xn) := by rw [cell_of_row _ _ 1 _ _ _ kb5.out]; rfl
        have hW50 : W5.heap.size ≤ W5.heap.size := Nat.le_refl _
        go_region_held3 (fun y => (∀ a : Addr, a.block < W5.heap.size → y.cell? a = W5.cell? a) ∧ (∀ b : Nat, b < W5.heap.size → y.heap[b]? = W5.heap[b]?) ∧ Below W5.heap.size W5 y) (first | with_reducible assumption | with_reducible exact honto | with_reducible exact onto_fresh W5 _ | with_reducible exact onto_below (by assumption) (by assumption) | with_reducible exact onto_alloc (by assumption) _ | exact onto_setC (by assumption) (by first | exact Nat.le_refl _ | assumption) _) (first | (go_at_call 13; refine (hOx.out _ (And.right (And.right (by assumption)))).mono ?_; rintro e y6 ⟨rfl, hb6⟩; have hsz6 : W5.heap.size ≤ y6.heap.size := Nat.le_trans (by simp) hb6.size; try (have hzb2 : ZB y6 W5.heap.size := ZB.below (zb_newD W5) hb6)))
        all_goals
          rename_i hO7
          first
            | have a12 := zb_flag hzb2 P; have l12 := zb_lt hzb2 P
            | have a12 := zb_flag (hzb y6) P; have l12 := zb_lt (hzb y6) P
          generalize World.setCells _ _ _ _ = y7 at *
          have hB7 := hO7.2.2
          have kb7 := (hO7.2.1 rk lk5).trans kb5.out
          have hHad7 := Lib.hid (hHad.out y7 hB7)
          clear hst hzb hO7 kc0 kc1 c0 c1 hb6 hsz6 honto
          try clear hzb2
          have kc0 : y7.cell? ⟨rk, 0, none⟩ = some (.string x0) := by rw [cell_of_row _ _ 0 _ _ _ kb7]; rfl
          have kc1 : y7.cell? ⟨rk, 1, none⟩ = some (.int .i64 xn) := by rw [cell_of_row _ _ 1 _ _ _ kb7]; rfl
          have lk7 := heapH_lt kb7
          replace hB7 := Lib.hid hB7
          replace kb7 := Lib.hid kb7
          clear lk5 leb hW50
          by_cases g1 : xn ≤ 0
          · cases bI with
            | false =>
              have hend := hround.out y7 hB7.out (by rw [← htb]; simp)
              replace hend := Lib.hid hend
              clear htb
              go_wp2_with fail
              exact ⟨⟨rfl, hend.out.1⟩, hend.out.2⟩
            | true =>
              by_cases g2 : numB P.fl = true
              · have g3 : (bits BinOp.and IntKind.i64 P.fl 2 != 0) = true := g2
                cases hd : hadB (S.map pk) (pk (x0, xn)) with
                | true =>
                  rw [hd] at hHad7
                  have htb' : tb = false := by rw [← htb, hd]; simp
                  clear htb
                  go_wp2_with (first | (go_at_call 76; refine hHad7.out.mono ?_; rintro e y8 ⟨rfl, hb8⟩))
                  have hend := hround.out y8 (hB7.out.trans (hb8.mono hB7.out.size)) htb'
                  exact ⟨⟨rfl, hend.1⟩, hend.2⟩
                | false =>
                  rw [hd] at hHad7
                  have htb' : tb = true := by rw [← htb, hd]; simp [g1, g2]
                  clear htb
                  go_wp2_with (first | (go_at_call 76; refine hHad7.out.mono ?_; rintro e y8 ⟨rfl, hb8⟩; clear kc0 kc1; have kb8 := (hb8.block rk lk7).trans kb7.out; have kc0 : y8.cell? ⟨rk, 0, none⟩ = some (.string x0) := (by rw [cell_of_row _ _ 0 _ _ _ kb8]; rfl); have kc1 : y8.cell? ⟨rk, 1, none⟩ = some (.int .i64 xn) := (by rw [cell_of_row _ _ 1 _ _ _ kb8]; rfl); have hB8 := hB7.out.trans (hb8.mono hB7.out.size); have kx8 := (hB8.block rx (heapH_lt kx5.out)).trans kx5.out; have kx0 : y8.cell? ⟨rx, 0, none⟩ = some (.string ⟨#[]⟩) := (by rw [cell_of_row _ _ 0 _ _ _ kx8]; rfl); have kx1 : y8.cell? ⟨rx, 1, none⟩ = some (.int .i64 0) := (by rw [cell_of_row _ _ 1 _ _ _ kx8]; rfl); have kf0 := froz_of kx8 0; have kf1 := froz_of kx8 1; have lx8 := heapH_lt kx8; have hfin := Lib.hid (htold.out y8 hB8 htb'); replace kx8 := Lib.hid kx8; clear hB8 hb8 kb8))
                  refine bodyPost_ret (results_ck rfl _ _ rx 32 #[.string x0, .int .i64 xn] (0, 0) _ rfl rfl (set2_block kx8.out) infoKeyRowZ) rfl ?_
                  exact hfin.out
              · have g3 : (bits BinOp.and IntKind.i64 P.fl 2 != 0) = false := by rw [← Bool.not_eq_true]; exact g2
                have hend := hround.out y7 hB7.out (by rw [← htb]; simp [g2])
                replace hend := Lib.hid hend
                clear htb
                go_wp2_with fail
                exact ⟨⟨rfl, hend.out.1⟩, hend.out.2⟩
          · have hend := hround.out y7 hB7.out (by rw [← htb]; simp [g1])
            replace hend := Lib.hid hend
            clear htb
            go_wp2_with fail
            exact ⟨⟨rfl, hend.out.1⟩, hend.out.2⟩
    all_goals done
end
end Go.Proofs.Ytoccmiinkfhohaa
namespace Go.Proofs.Ytoccmiinkfhohaa
open Go.RowKit Go.Shelf Go.Lib Go.Sort Go.Proofs Go.Maps
set_option linter.unusedVariables false
set_option maxHeartbeats 4000000
set_option maxRecDepth 100000

theorem NextQ.form {K : Nat → Prop} {w0 w w' : World} {rb eb : Nat} {H : List OB} {st : ES} {e : Ending} (h : NextQ K w0 w rb eb H st e w') : ∃ (st' : ES) (k : KK) (t : Bool), EnS K w0 w' rb eb st' ∧ w.grownBy w' (some eb) ∧ 1 ≤ st'.lv ∧ e = .returned (.tuple #[.agg #[.string k.1, .int .i64 k.2], .bool t]) ∧ ((t = true ∧ okK k ∧ nextE H (1000 - st.lv) st = (some (pk k), st')) ∨ (t = false ∧ nextE H (1000 - st.lv) st = (none, st'))) := by
  obtain ⟨st', h1, h2, h3, ⟨k, h4, h5, h6⟩ | ⟨h4, h5⟩⟩ := h
  · exact ⟨st', k, true, h1, h2, h3, h6, .inl ⟨rfl, h4, h5⟩⟩
  · exact ⟨st', (⟨#[]⟩, 0), false, h1, h2, h3, h5, .inr ⟨rfl, h4⟩⟩
section
variable {w00 w0 w w' : World} {hb rb B eb : Nat} {lim : Int} {H : List OB}
theorem c_R20New (hL : LawS w00 w hb rb lim B H) (hu : usedH H ≤ 100000) (o : Int) :
    Calls Try.prog 56 #[.pointer (some ⟨rb, 0, none⟩), .int .i64 o] w fun e w' => ∃ eb, e = .returned (.pointer (some ⟨eb, 0, none⟩)) ∧ EnS (fun _ => False) w w' rb eb ⟨o, 1, keysH H o, [], keysH H o⟩ := by
  obtain ⟨W1, hW1⟩ : ∃ W1, w.alloc (.cells (encRE rb 0 0 (.slice none 0 0) (.slice none 0 0) (.slice none 0 0)) 145) = W1 := ⟨_, rfl⟩
  have hb1 : Below w.heap.size w W1 := by rw [← hW1]; exact (Below.refl _ _).alloc (Nat.le_refl _) _
  have d0 : W1.heap[w.heap.size]? = some (.cells (encRE rb 0 0 (.slice none 0 0) (.slice none 0 0) (.slice none 0 0)) 145 (0, 0)) := by rw [← hW1]; exact heap_alloc_new w _
  have hn : RdK W1 (.slice none 0 0) [] := .inl ⟨rfl, rfl⟩
  have hE : EnS (fun _ => False) w W1 rb w.heap.size ⟨0, 0, [], [], []⟩ := ⟨_, _, _, [], [], [], ⟨hb1, Nat.le_refl _, d0, ⟨hn, hn, hn⟩, fun x h => (by cases h), fun x h => (by cases h), fun x h => (by cases h)⟩, ⟨rfl, rfl, rfl⟩, ⟨by simp, by simp, by simp, by simp⟩, fun c hc => hc.elim⟩
  have hC := c_R20come hL hu hE (show (0 : Nat) < 1000 by omega) o
  replace hC := Lib.hid hC
  unfold encRE at hW1
  rw [show (((0 : Nat) : Int)) = 0 from rfl] at hW1
  clear hE d0 hb1 hn
  go_enter Try.func56, Try.ntmps56
  go_wp2_with (first | (go_at_call 75; refine hC.out.mono ?_; rintro e y ⟨rfl, hE2, hg2⟩))
  go_ret
  exact ⟨_, rfl, hE2⟩
/-- a row of the call's own has grown -/
theorem EnS.grown {w5 : World} {v : Value} {gg : Nat} {st : ES} (h : EnS (fun c => v.ownBlock = some c) w0 w rb eb st) (hg : w.grownBy w5 v.ownBlock) (hat : v.ownBlock = some gg ∨ w.heap.size ≤ gg) (hlt : gg < w5.heap.size) (hbase : ∀ c, v.ownBlock = some c → w0.heap.size ≤ c) : EnS (fun c => gg = c) w0 w5 rb eb st := by
  obtain ⟨vL, vA, vS, L, A, S, ⟨h1, h2, h3, ⟨h4, h5, h6⟩, h7⟩, m, s, q⟩ := h
  have hl := heapH_lt h3
  have hbk : ∀ r, r < w.heap.size → v.ownBlock ≠ some r → w5.heap[r]? = w.heap[r]? := fun r hr hne => hg.block r hr (fun e => hne e.symm)
  have hkeep : ∀ {L : Value} {Z : List KK}, RdK w L Z → (∀ c, v.ownBlock = some c → offL L c) → RdK w5 L Z := by
    intro L Z hR ho
    cases hv : v.ownBlock with
    | none => exact hR.keep ⟨hg.os, hg.tape, hg.output, hg.size, fun r hr => hbk r hr (by rw [hv]; simp)⟩
    | some c =>
      have hRc := hR.block (w' := w5)
      rcases hR with hR | ⟨p, cc, e1, e2, e3⟩
      · exact .inl hR
      · refine .inr ⟨p, cc, e1, e2, fun k x hx => ?_⟩
        obtain ⟨g1, g2, g3⟩ := e3 k x hx
        have hne : p.block ≠ c := by
          cases Z with
          | nil => simp at hx
          | cons a Z => exact ho c hv p Z.length cc e1
        have e := hbk p.block (by have := cell_lt g2; exact this) (by rw [hv]; simp; exact fun h => hne h.symm)
        exact ⟨g1, (World.cell?_of_block (w := w) (a := ⟨p.block, p.off + k * 2, none⟩) e).trans g2, (World.cell?_of_block (w := w) (a := ⟨p.block, p.off + k * 2 + 1, none⟩) e).trans g3⟩
  refine ⟨vL, vA, vS, L, A, S, ⟨⟨hg.os.trans h1.os, hg.tape.trans h1.tape, hg.output.trans h1.output, Nat.le_trans h1.size hg.size, fun r hr => (hbk r (Nat.lt_of_lt_of_le hr h1.size) (fun e => by have := hbase r e; omega)).trans (h1.block r hr)⟩, h2, (hbk eb hl (fun e => (q eb e).2.1 rfl)).trans h3, ⟨hkeep h4 (fun c hc => (q c hc).2.2.1), hkeep h5 (fun c hc => (q c hc).2.2.2.1), hkeep h6 (fun c hc => (q c hc).2.2.2.2)⟩, h7⟩, m, s, fun c hc => ?_⟩
  subst hc
  refine ⟨hlt, ?_⟩
  rcases hat with hat | hat
  · exact (q gg hat).2
  · exact ⟨by omega, h4.offNew hat, h5.offNew hat, h6.offNew hat⟩
theorem EnS.weak {K K' : Nat → Prop} {st : ES} (h : EnS K w0 w rb eb st) (hK : ∀ c, K' c → K c) : EnS K' w0 w rb eb st := by
  obtain ⟨vL, vA, vS, L, A, S, h1, m, s, q⟩ := h
  exact ⟨vL, vA, vS, L, A, S, h1, m, s, fun c hc => q c (hK c hc)⟩
theorem EnS.base {K : Nat → Prop} {st : ES} (h : EnS K w0 w rb eb st) : w0.heap.size ≤ w.heap.size ∧ Below w0.heap.size w0 w := by
  obtain ⟨vL, vA, vS, L, A, S, h1, _⟩ := h
  exact ⟨h1.1.size, h1.1⟩
/-- how far all keys have been gathered -/
def KeysQ (w : World) (rb eb : Nat) (H : List OB) (all : List KK) (v6 : Value) (wr : World) : Prop :=
  ∃ (L : List KK) (st : ES), wr.ownsRow w.heap.size 32 2 v6 L.length (flatK L) ∧ (∀ x ∈ L, okK x) ∧ EnS (fun c => v6.ownBlock = some c) w wr rb eb st ∧ 1 ≤ st.lv ∧ st.cur = keysH H st.o ∧ L.map pk ++ restF H (1000 - st.lv) st = all
theorem c_R20Keys (hL : LawS w00 w hb rb lim B H) (hu : usedH H ≤ 100000) (o : Int) :
    Calls Try.prog 36 #[.pointer (some ⟨rb, 0, none⟩), .int .i64 o] w fun e w' => ∃ v Z, e = .returned v ∧ RdK w' v Z ∧ (∀ x ∈ Z, okK x) ∧ Z.map pk = allF H 999 o [] ∧ Below w.heap.size w w' := by
  have hN := Lib.hid (c_R20New hL hu o)
  obtain ⟨i0, hi0, hz0, hz1, hz2⟩ := info_parts infoKey
  have hall := allF_len hu 999 o []
  have hrest : restF H 999 ⟨o, 1, keysH H o, [], keysH H o⟩ = allF H 999 o [] := rfl
  generalize allF H 999 o [] = all at *
  go_enter Try.func36, Try.ntmps36
  go_wp2_with (first | (go_at_call 56; refine hN.out.mono ?_; rintro e y1 ⟨eb, rfl, hE1⟩))
  have hstart : KeysQ w rb eb H all (.slice none 0 0) y1 := ⟨[], _, ⟨rfl, .inl ⟨rfl, rfl⟩⟩, fun x hx => (by cases hx), hE1.weak (fun c hc => (by cases hc)), Nat.le_refl _, rfl, hrest⟩
  clear hE1 hN hrest
  go_loopw [6] (fun v6 wr => KeysQ w rb eb H all v6 wr) (fun v6 _ => all.length + 1 - lenW v6)
  case atStart => exact hstart
  case round =>
    obtain ⟨L, st, hown, hokL, hE, hlv, hcur, hq⟩ := hrel
    obtain ⟨W4, rfl⟩ : ∃ W4, W4 = wr := ⟨_, rfl⟩
    have hNx := Lib.hid (c_R20Next hL hu hE hlv)
    have hrs := Lib.hid (nextE_rest H (1000 - st.lv) st hcur rfl)
    have hlw := Lib.hid (show lenW u6 = L.length by rcases hown.2 with ⟨e, h⟩ | ⟨g, cap, cur, e, _⟩ <;> (rw [e]; try rw [h]) <;> rfl)
    have hne : ∀ c, u6.ownBlock = some c → c ≠ eb ∧ w.heap.size ≤ c := fun c hc => by
      obtain ⟨vL, vA, vS, L, A, S, _, _, _, q⟩ := hE
      exact ⟨(q c hc).2.1, (hown.lt c hc).1⟩
    replace hne := Lib.hid hne
    replace hown := Lib.hid hown
    replace hq := Lib.hid hq
    clear hstart hE
    go_upto_region 4 with (first | (go_at_call 57; refine hNx.out.mono ?_; rintro e y5 hP5; obtain ⟨st5, k5, t5, hE5, hg5, hlv5, rfl, hq5⟩ := hP5.form))
    obtain ⟨W6, hW6⟩ : ∃ W6, y5.alloc (.cells #[.string k5.1, .int .i64 k5.2] 32) = W6 := ⟨_, rfl⟩
    rw [hW6]
    have hb6 : Below y5.heap.size y5 W6 := by rw [← hW6]; exact (Below.refl _ _).alloc (Nat.le_refl _) _
    have d6 : W6.heap[y5.heap.size]? = some (.cells #[.string k5.1, .int .i64 k5.2] 32 (0, 0)) := by rw [← hW6]; exact heap_alloc_new y5 _
    have hown6 := own_at hown.out (w' := W6) fun r hr => by
      obtain ⟨n1, n2⟩ := hne.out r hr
      have hlr := (hown.out.lt r hr).2
      exact (hb6.block r (Nat.lt_of_lt_of_le hlr hg5.size)).trans (hg5.block r hlr (fun e => n1 (Option.some.inj e)))
    have hE6 := hE5.below hb6
    clear hW6 hE5 hb6 hg5 hNx
    cases t5 with
    | false =>
      rcases hq5 with ⟨h, _⟩ | ⟨_, hn5⟩
      · cases h
      have hbs := Lib.hid hE6.base.2
      have hrs2 := hrs.out
      rw [hn5] at hrs2
      have hfin : L.map pk = all := by rw [← hq.out, show restF H (1000 - st.lv) st = [] from hrs2]; simp
      replace hfin := Lib.hid hfin
      have hown6' := Lib.hid hown6
      clear hE6 d6 hown6 hrs2 hn5
      go_wp2
      go_ret
      refine ⟨_, rfl, L, ?_, fun a b h => hokL (a, b) h, hfin.out, hbs.out⟩
      exact own_rdk hown6'.out
    | true =>
      rcases hq5 with ⟨_, hk5, hn5⟩ | ⟨h, _⟩
      · have kc0 : W6.cell? ⟨y5.heap.size, 0, none⟩ = some (.string k5.1) := by rw [cell_of_row _ _ 0 _ _ _ d6]; rfl
        have kc1 : W6.cell? ⟨y5.heap.size, 1, none⟩ = some (.int .i64 k5.2) := by rw [cell_of_row _ _ 1 _ _ _ d6]; rfl
        have lc7 := heapH_lt d6
        have hrs2 := hrs.out
        rw [hn5] at hrs2
        have hLl : L.length + 1 ≤ all.length := by rw [← hq.out, hrs2.1]; simp
        have hsw := hE6.base.1
        have hpush := fun (w5 : World) (gg cap : Nat) (ob : Obj) (hg : (W6.alloc ob).grownBy w5 u6.ownBlock) (hat : u6.ownBlock = some gg ∨ gg = W6.heap.size + 1) (hlt : gg < w5.heap.size) => EnS.grown (gg := gg) (hE6.below ((Below.refl _ _).alloc (Nat.le_refl _) ob)) hg (by rcases hat with h | h <;> simp [h]) hlt (fun c hc => (hne.out c hc).2)
        replace hpush := Lib.hid hpush
        replace hq := Lib.hid hq
        replace hrs2 := Lib.hid hrs2
        replace hE6 := Lib.hid hE6
        clear d6 hn5
        go_wp2_with (first | (at_builtin; go_loud (refine wpList_append_lies _ (by rfl) _ _ _ (by rfl) w.heap.size 32 i0 _ 2 24 Try.underlying51 hi0 hz0 hz1 hz2 rfl (by omega) u6 L.length (flatK L) (by rfl) (hown6.alloc _) ⟨_, 0, none⟩ 1 1 [.string k5.1, .int .i64 k5.2] (by rfl) (by rfl) (World.news_of_block (cs := #[.string k5.1, .int .i64 k5.2]) (t := 32) (fr := (0, 0)) (by exact heap_alloc_new _ _)) (by simp [Value.oneCell']) (by omega) (by unfold maxLen; omega) (by omega) (by simp; omega) _ rfl ?_); intro gg cap w5 hown5 hgrow hat hlt5; have hE7 := Lib.hid (hpush.out w5 gg cap _ hgrow (by simpa using hat) hlt5); clear hgrow hat))
        refine ⟨⟨L ++ [k5], st5, ?_, ?_, ?_, hlv5, hrs2.out.2, ?_⟩, ?_⟩
        · simpa [flatK_app, flatK, encK] using hown5
        · intro x hx
          rcases List.mem_append.1 hx with h | h
          · exact hokL x h
          · rw [List.mem_singleton.1 h]; exact hk5
        · exact hE7.out.weak (fun c hc => Option.some.inj hc)
        · rw [← hq.out.out, hrs2.out.1]; simp
        · have := hlw.out
          show all.length + 1 - (L.length + 1) < _
          omega
      · cases h
end
end Go.Proofs.Ytoccmiinkfhohaa
