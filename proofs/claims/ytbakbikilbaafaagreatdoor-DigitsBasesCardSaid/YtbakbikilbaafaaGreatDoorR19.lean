/-
  Contracts: The contract of the reference's Whole, at any text and base (printed by gen_XYL.py). The contract of DigitsShow. Trunc of any finite float, the float as a whole number; the contracts of both Bases. The contract of the reference's Base (printed by gen_XYN.py out of XYM). The contract of DigitsBlanks. The contracts of DigitsReads and DigitsLiterals. The contract of DigitsBases. From the row's condition to what the walks ask of the library's variables.
-/
import Derived.Test.YtbakbikilbaafaaGreatDoorR18
import Derived.Test.YtbakbikilbaafaaGreatDoorR16
import Derived.Test.YtbakbikilbaafaaGreatDoorR14
import Derived.Test.YtbakbikilbaafaaGreatDoorR12
import Derived.Test.YtbakbikilbaafaaGreatDoorRows
import Derived.Lib.LaidU8
import Derived.Lib.LaidPrint
import Derived.Shelf.Vars
import Derived.OpenShut
import Derived.MakeChecks
namespace Go.Proofs.YtbakbikilbaafaaGreatDoor
open Go.RowKit F64 Ieee
set_option linter.unusedVariables false
set_option maxHeartbeats 8000000
set_option maxRecDepth 100000

theorem mn_take (l : List Nat) (i : Nat) : mnL (l.take i) = (mnL l).take i := by simp [mnL, List.map_take]
theorem mn_idrun {n : Nat} {l : List Nat} (hn : n ≤ 36) (h : ∀ c ∈ l, c < 256) : (mnL l).take (runL n (mnL l)) = l.take (runL n l) := by
  have h2 : ∀ c ∈ (mnL l).take (runL n (mnL l)), c < 127 := run_lt127 hn (fun c hc => by
    have := List.mem_of_mem_take hc
    unfold mnL at this
    obtain ⟨x, -, rfl⟩ := List.mem_map.1 this
    omega) (fun c hc => run_mem c hc)
  rw [← mn_take] at h2 ⊢
  rw [mn_id h2, mn_run n h]
theorem mn_whole {T : List Nat} {ng : Bool} {r : Int} {v : Nat} (h256 : ∀ c ∈ T, c < 256) (h : WholeR (mnL T) ng r v) : WholeR T ng r v := by
  have hd : ∀ c ∈ T.drop 2, c < 256 := fun c hc => h256 c (List.mem_of_mem_drop hc)
  have hp := mn_pre h256
  cases h with
  | hexN hp1 hr h =>
    rw [hp] at hp1
    rw [← mn_drop, mn_run 16 hd] at h
    exact .hexN hp1 hr h
  | hex hp1 hr h =>
    rw [hp] at hp1
    rw [← mn_drop] at h ⊢
    rw [mn_idrun (by decide) hd]
    rw [mn_run 16 hd] at h
    exact .hex hp1 hr h
  | tenN hp1 hr h =>
    rw [hp] at hp1
    rw [mn_run 10 h256] at h
    exact .tenN hp1 hr h
  | ten hp1 hr h =>
    rw [hp] at hp1
    rw [mn_idrun (by decide) h256]
    rw [mn_run 10 h256] at h
    exact .ten hp1 hr h
  | none hr h => exact .none hr h
  | anyN hp1 hr h2 h36 h =>
    rw [hp] at hp1
    rw [mn_run _ h256] at h
    exact .anyN hp1 hr h2 h36 h
  | any hp1 hr h2 h36 h =>
    rw [hp] at hp1
    rw [mn_idrun h36 h256]
    rw [mn_run _ h256] at h
    exact .any hp1 hr h2 h36 h
theorem RdO.up {B B' : Nat} {w : World} {v : Value} {us : List Nat} (h : RdO B w v us) (hB : B ≤ B') : RdO B' w v us := by
  obtain ⟨b, c, h1, h0, h2⟩ := h
  exact ⟨b, c, h1, h0, fun j u hu => by
    obtain ⟨g, o, k1, k2⟩ := h2 j u hu
    exact ⟨g, o, by omega, k2⟩⟩
/-- the test whether a text begins with a sign -/
def sgB (L : List Nat) : Bool := decide (L.head? = some 43) || decide (L.head? = some 45)
theorem c_RWholeG (s : ByteArray) (k : Nat) (L : List Nat) (b : Int) (v : Nat) (hs : s.size ≤ 800) (hF : FrA (blkS s) (s.size / 2) k)
    (hLe : asL (unitsN (s.extract (2 * k) (2 * (s.size / 2))) ((s.extract (2 * k) (2 * (s.size / 2))).size / 2)) = L) (hL : ∀ c ∈ L, c < 256) (hl : L.length ≤ 800)
    (hR : WholeR (sgnL L).2 (ngL L) (r32 b) v) (w : World) (hW : LibW w) :
    Calls Tryz.prog 25 #[.string s, .int .i64 b] w fun r w' => r = .returned (.float .f64 v) ∧ Below w.heap.size w w' := by
  have hU := Lib.hid (c_UnitsR s (by omega) w)
  have htx : textU ((unitsN s (s.size / 2)).drop k) = s.extract (2 * k) (2 * (s.size / 2)) := by
    have := text_cut s k (s.size / 2) (Nat.le_refl _)
    rwa [List.take_of_length_le (by rw [List.length_drop, unitsN_len]; exact Nat.le_refl _)] at this
  have hg0 := fun i (h : i < s.size / 2) => unitsN_get s (s.size / 2) i h
  have hm0 := unitsN_mem s (s.size / 2)
  have hl0 := unitsN_len s (s.size / 2)
  have hsz2 : (s.extract (2 * k) (2 * (s.size / 2))).size ≤ 1099511627776 := by rw [ByteArray.size_extract]; omega
  have hAs := Lib.hid (fun W => c_Rascii (s.extract (2 * k) (2 * (s.size / 2))) hsz2 W)
  rw [hLe] at hAs
  obtain ⟨f1, f2, f3⟩ := hF
  have hD : ∀ i, i < s.size / 2 → blkS s i = blkL (unitsN s (s.size / 2)) i := fun i hi => by
    unfold blkS blkL
    rw [List.getD_eq_getElem?_getD, hg0 i hi]; rfl
  have hF : FrA (blkL (unitsN s (s.size / 2))) (unitsN s (s.size / 2)).length k := by
    rw [hl0]
    exact ⟨f1, fun i hi => by rw [← hD i (by omega)]; exact f2 i hi, fun h => by rw [← hD k h]; exact f3 h⟩
  clear hD hg0 hsz2 hLe
  have hN : s.size / 2 ≤ 400 := by omega
  generalize s.extract (2 * k) (2 * (s.size / 2)) = X at *
  generalize unitsN s (s.size / 2) = us at *
  generalize s.size / 2 = n at *
  have hFr := Lib.hid (fun v W h => c_Rfront us v k hm0 (by omega) hF W h)
  have hMk := Lib.hid (fun v W h => c_MakeO (us.drop k) v (fun u hu => hm0 u (List.mem_of_mem_drop hu)) (by rw [List.length_drop]; omega) W h)
  rw [htx] at hMk
  replace hm0 := Lib.hid hm0
  replace hl0 := Lib.hid hl0
  clear hF htx f2 f3
  have hLk := Lib.hid (fun W (hb : Below w.heap.size w W) => hW.keep hb)
  have hS := sgnL_mem (L := L)
  have hTl := sgnL_len L
  -- the test of the sign and what it makes of the text
  have hsgn : Hid ((L = [] ∧ sgB L = false ∧ (sgnL L).2 = L ∧ ngL L = false) ∨ (∃ D, L = 43 :: D ∧ (sgnL L).2 = D ∧ ngL L = false ∧ sgB L = true) ∨ (∃ D, L = 45 :: D ∧ (sgnL L).2 = D ∧ ngL L = true ∧ sgB L = true) ∨ ∃ c M, L = c :: M ∧ c ≠ 43 ∧ c ≠ 45 ∧ (sgnL L).2 = L ∧ ngL L = false ∧ sgB L = false) := by
    refine Lib.hid ?_
    by_cases h0 : L = []
    · subst h0; exact .inl ⟨rfl, rfl, rfl, rfl⟩
    · rcases sgn_cases h0 with ⟨D, g1, g2, g3⟩ | ⟨D, g1, g2, g3⟩ | ⟨c, M, g1, g4, g5, g2, g3⟩
      · exact .inr (.inl ⟨D, g1, g2, g3, by rw [g1]; rfl⟩)
      · exact .inr (.inr (.inl ⟨D, g1, g2, g3, by rw [g1]; rfl⟩))
      · refine .inr (.inr (.inr ⟨c, M, g1, g4, g5, g2, g3, ?_⟩))
        rw [g1]; unfold sgB; simp [g4, g5]
  have hT256 : Hid (∀ c ∈ (sgnL L).2, c < 256) := Lib.hid (fun c hc => hL c (hS c hc))
  have hTl8 : Hid ((sgnL L).2.length ≤ 800) := Lib.hid (Nat.le_trans hTl hl)
  generalize hTe : (sgnL L).2 = T at *
  generalize hng : ngL L = ng at *
  have hr32 : IntKind.i32.wrap b = r32 b := rfl
  have hrb : Hid (-2147483648 ≤ r32 b ∧ r32 b ≤ 2147483647) := Lib.hid (wrap_i32_b b)
  generalize r32 b = r at *
  replace hR : Hid (∃ v', v' = v ∧ WholeR T ng r v') := Lib.hid ⟨v, rfl, hR⟩
  replace hL := Lib.hid hL
  replace hl := Lib.hid hl
  replace hTe := Lib.hid hTe
  replace hng := Lib.hid hng
  clear hS hTl hW hs
  generalize hsb : sgB L = sb at *
  replace hsb := Lib.hid hsb
  go_enter Tryz.func25, Tryz.ntmps25
  go_wp2_with fail
  refine hU.out.mono ?_
  rintro e w1 ⟨vs, rfl, hown, hb1⟩
  have hRd := RdO_own hown
  obtain ⟨p, c, rfl⟩ := hRd.form
  rw [hl0.out] at hRd ⊢
  clear hown
  have hFr1 := Lib.hid (hFr.out _ _ hRd)
  have hs1 := fun W => sl16_from (p := p) (n := n) (c := c) f1 W
  have hR1 := Lib.hid (hRd.drop k f1)
  clear hRd
  generalize (if c = k then p else p.map (fun x => x.add k)) = q at *
  generalize c - k = c2 at *
  go_wp2_with fail
  refine hFr1.out.mono ?_
  rintro e w2 ⟨rfl, hb2⟩
  have hR2 := Lib.hid (hMk.out _ _ ((RdO.keep hR1.out hb2 (Nat.le_refl _)).up hb2.size))
  have hb3 : Below w.heap.size w w2 := hb1.trans (hb2.mono hb1.size)
  clear hR1 hb1 hb2 hFr1
  go_wp2_with fail
  refine hR2.out.mono ?_
  rintro e w3 ⟨rfl, hb4⟩
  have hb5 : Below w.heap.size w w3 := hb3.trans (hb4.mono hb3.size)
  clear hR2 hb3 hb4
  go_wp2_with fail
  refine (hAs.out _).mono ?_
  rintro e w4 ⟨rfl, hb6⟩
  have hbA : Below w.heap.size w w4 := hb5.trans (hb6.mono hb5.size)
  clear hb5 hb6 hAs hs1
  go_upto_region 4 with fail
  go_cut [29] (fun v29 wx => v29 = .bool sb ∧ wx = w4)
  case first =>
    obtain ⟨hem, hem2⟩ := u_empty L
    have hsz : (u8sG L).size = L.length := uG_size L
    rcases hsgn.out with ⟨g1, g2, -, -⟩ | ⟨D, g1, -, -, g2⟩ | ⟨D, g1, -, -, g2⟩ | ⟨c, M, g1, g4, g5, -, -, g2⟩
    · subst g2
      replace hem := hem.trans (decide_eq_true g1)
      replace hem2 := hem2.trans (decide_eq_true g1)
      clear hsgn hsb g1 hsz
      generalize u8sG L = S at *
      go_wp2_with fail
      go_meet
      exact ⟨rfl, rfl⟩
    · subst g2
      replace hem := hem.trans (decide_eq_false (by rw [g1]; simp))
      replace hem2 := hem2.trans (decide_eq_false (by rw [g1]; simp))
      have hs0 : 0 < (u8sG L).size := by rw [hsz, g1]; simp
      have hs0I : (0 : Int) < ((u8sG L).size : Int) := by omega
      have hs8 : (u8sG L).size ≤ 800 := by have := hl.out; omega
      have hg0 := uG_get L 0 43 (by rw [g1]; rfl) (by decide) hs0
      clear hsgn hsb g1 hsz
      generalize u8sG L = S at *
      go_wp2_with fail
      go_meet
      exact ⟨rfl, rfl⟩
    · subst g2
      replace hem := hem.trans (decide_eq_false (by rw [g1]; simp))
      replace hem2 := hem2.trans (decide_eq_false (by rw [g1]; simp))
      have hs0 : 0 < (u8sG L).size := by rw [hsz, g1]; simp
      have hs0I : (0 : Int) < ((u8sG L).size : Int) := by omega
      have hs8 : (u8sG L).size ≤ 800 := by have := hl.out; omega
      have hg0 := uG_get L 0 45 (by rw [g1]; rfl) (by decide) hs0
      clear hsgn hsb g1 hsz
      generalize u8sG L = S at *
      go_wp2_with fail
      go_meet
      exact ⟨rfl, rfl⟩
    · subst g2
      replace hem := hem.trans (decide_eq_false (by rw [g1]; simp))
      replace hem2 := hem2.trans (decide_eq_false (by rw [g1]; simp))
      have hs0 : 0 < (u8sG L).size := by rw [hsz, g1]; simp
      have hs0I : (0 : Int) < ((u8sG L).size : Int) := by omega
      have hs8 : (u8sG L).size ≤ 800 := by have := hl.out; omega
      have hg0 := uG_get L 0 c (by rw [g1]; rfl) (hL.out c (by rw [g1]; simp)) hs0
      have n43 : ((c : Int) == 43) = false := beq_eq_false_iff_ne.2 (by omega)
      have n45 : ((c : Int) == 45) = false := beq_eq_false_iff_ne.2 (by omega)
      clear hsgn hsb g1 hsz g4 g5
      generalize u8sG L = S at *
      go_wp2_with fail
      go_meet
      exact ⟨rfl, rfl⟩
  case rest =>
    obtain ⟨rfl, rfl⟩ := hcut
    go_upto_if 29 with fail
    go_cut [6, 7] (fun v6 v7 wx => v6 = .string (u8sG T) ∧ v7 = .float .f64 (oneB ng) ∧ wx = wc)
    case first =>
      obtain ⟨hem, hem2⟩ := u_empty L
      have hsz : (u8sG L).size = L.length := uG_size L
      rcases hsgn.out with ⟨g1, g2, g3, g4⟩ | ⟨D, g1, g3, g4, g2⟩ | ⟨D, g1, g3, g4, g2⟩ | ⟨c, M, g1, -, -, g3, g4, g2⟩
      · subst g2 g3 g4
        clear hsgn hsb g1 hsz hem hem2
        go_wp2_with fail
        go_meet
        exact ⟨rfl, rfl, rfl⟩
      · subst g2 g3 g4
        replace hem := hem.trans (decide_eq_false (by rw [g1]; simp))
        replace hem2 := hem2.trans (decide_eq_false (by rw [g1]; simp))
        have hs0 : 0 < (u8sG L).size := by rw [hsz, g1]; simp
        have hs0I : (0 : Int) < ((u8sG L).size : Int) := by omega
        have hs1I : (1 : Int) ≤ ((u8sG L).size : Int) := by omega
        have hs8 : (u8sG L).size ≤ 800 := by have := hl.out; omega
        have hg0 := uG_get L 0 43 (by rw [g1]; rfl) (by decide) hs0
        have hex : (u8sG L).extract 1 (u8sG L).size = u8sG T := by
          rw [uG_ext, hsz, List.take_length, g1]; rfl
        clear hsgn hsb g1 hsz hem hem2
        replace hex := Lib.hid hex
        generalize u8sG T = DD at *
        generalize u8sG L = S at *
        replace hex := hex.out
        go_wp2_with fail
        go_meet
        exact ⟨rfl, rfl, rfl⟩
      · subst g2 g3 g4
        replace hem := hem.trans (decide_eq_false (by rw [g1]; simp))
        replace hem2 := hem2.trans (decide_eq_false (by rw [g1]; simp))
        have hs0 : 0 < (u8sG L).size := by rw [hsz, g1]; simp
        have hs0I : (0 : Int) < ((u8sG L).size : Int) := by omega
        have hs1I : (1 : Int) ≤ ((u8sG L).size : Int) := by omega
        have hs8 : (u8sG L).size ≤ 800 := by have := hl.out; omega
        have hg0 := uG_get L 0 45 (by rw [g1]; rfl) (by decide) hs0
        have hex : (u8sG L).extract 1 (u8sG L).size = u8sG T := by
          rw [uG_ext, hsz, List.take_length, g1]; rfl
        clear hsgn hsb g1 hsz hem hem2
        replace hex := Lib.hid hex
        generalize u8sG T = DD at *
        generalize u8sG L = S at *
        replace hex := hex.out
        go_wp2_with fail
        go_meet
        exact ⟨rfl, rfl, rfl⟩
      · subst g2 g3 g4
        clear hsgn hsb g1 hsz hem hem2
        go_wp2_with fail
        go_meet
        exact ⟨rfl, rfl, rfl⟩
    case rest =>
      obtain ⟨rfl, rfl, rfl⟩ := hcut
      have hW4 := hLk
      have hrI := hrb.out
      obtain ⟨hr1, hr2⟩ := hrI
      clear hsgn hsb
      obtain ⟨v', hv, hR'⟩ := hR.out
      cases hR' with
      | hexN hp hr h =>
        subst hv
        rcases hr with rfl | rfl
        · clear hr1 hr2
          have hPr := Lib.hid (fun W => c_Rprefixed T hT256.out (by have := hTl8.out; omega) W)
          have hT := hT256.out
          have hT8 := hTl8.out
          have hszT : (u8sG T).size = T.length := uG_size T
          have hs5 : (u8sG T).size ≤ 800 := by omega
          rw [hp] at hPr
          have hPr : Hid (∀ W, Calls Tryz.prog 50 #[.string (u8sG T)] W fun r w' => r = .returned (.int .i64 16) ∧ W = w') := hPr
          have h2 : 2 ≤ T.length := by
            rcases Nat.lt_or_ge T.length 2 with h | h
            · exfalso
              have : preL T = 0 := by unfold preL; rw [if_neg (by omega)]
              omega
            · exact h
          have hs2 : (2 : Int) ≤ ((u8sG T).size : Int) := by omega
          have hex0 : (u8sG T).extract 2 (u8sG T).size = u8sG (T.drop 2) := by
            rw [uG_ext, hszT, List.take_length]
          have hRu := Lib.hid (fun W => c_Rrun (T.drop 2) (fun c hc => hT c (List.mem_of_mem_drop hc)) 0 16 (Nat.zero_le _) (by rw [List.length_drop]; omega) W)
          rw [List.drop_zero] at hRu
          rw [h] at hRu
          have hRu : Hid (∀ W, Calls Tryz.prog 51 #[.string (u8sG (T.drop 2)), .int .i64 0, .int .i64 ((16 : Nat) : Int)] W fun r w' => r = .returned (.int .i64 0) ∧ W = w') := hRu
          replace hex0 := Lib.hid hex0
          clear h2 hp
          generalize u8sG (T.drop 2) = TD at *
          generalize u8sG T = TT at *
          generalize oneB ng = OB at *
          clear hT hT8 hszT
          replace hex0 := hex0.out
          go_wp2_with fail
          refine (hPr.out _).mono ?_
          rintro e w5 ⟨rfl, rfl⟩
          go_wp2_with fail
          refine (hRu.out _).mono ?_
          rintro e w6 ⟨rfl, rfl⟩
          go_wp2_with (go_at_call 41; refine (c_mNaN _).mono ?_; rintro e w' ⟨rfl, rfl⟩)
          go_ret
          exact ⟨rfl, hbA⟩
        · clear hr1 hr2
          have hPr := Lib.hid (fun W => c_Rprefixed T hT256.out (by have := hTl8.out; omega) W)
          have hT := hT256.out
          have hT8 := hTl8.out
          have hszT : (u8sG T).size = T.length := uG_size T
          have hs5 : (u8sG T).size ≤ 800 := by omega
          rw [hp] at hPr
          have hPr : Hid (∀ W, Calls Tryz.prog 50 #[.string (u8sG T)] W fun r w' => r = .returned (.int .i64 16) ∧ W = w') := hPr
          have h2 : 2 ≤ T.length := by
            rcases Nat.lt_or_ge T.length 2 with h | h
            · exfalso
              have : preL T = 0 := by unfold preL; rw [if_neg (by omega)]
              omega
            · exact h
          have hs2 : (2 : Int) ≤ ((u8sG T).size : Int) := by omega
          have hex0 : (u8sG T).extract 2 (u8sG T).size = u8sG (T.drop 2) := by
            rw [uG_ext, hszT, List.take_length]
          have hRu := Lib.hid (fun W => c_Rrun (T.drop 2) (fun c hc => hT c (List.mem_of_mem_drop hc)) 0 16 (Nat.zero_le _) (by rw [List.length_drop]; omega) W)
          rw [List.drop_zero] at hRu
          rw [h] at hRu
          have hRu : Hid (∀ W, Calls Tryz.prog 51 #[.string (u8sG (T.drop 2)), .int .i64 0, .int .i64 ((16 : Nat) : Int)] W fun r w' => r = .returned (.int .i64 0) ∧ W = w') := hRu
          replace hex0 := Lib.hid hex0
          clear h2 hp
          generalize u8sG (T.drop 2) = TD at *
          generalize u8sG T = TT at *
          generalize oneB ng = OB at *
          clear hT hT8 hszT
          replace hex0 := hex0.out
          go_wp2_with fail
          refine (hPr.out _).mono ?_
          rintro e w5 ⟨rfl, rfl⟩
          go_wp2_with fail
          refine (hRu.out _).mono ?_
          rintro e w6 ⟨rfl, rfl⟩
          go_wp2_with (go_at_call 41; refine (c_mNaN _).mono ?_; rintro e w' ⟨rfl, rfl⟩)
          go_ret
          exact ⟨rfl, hbA⟩
      | hex hp hr h =>
        rcases hr with rfl | rfl
        · clear hr1 hr2
          have hPr := Lib.hid (fun W => c_Rprefixed T hT256.out (by have := hTl8.out; omega) W)
          have hT := hT256.out
          have hT8 := hTl8.out
          have hszT : (u8sG T).size = T.length := uG_size T
          have hs5 : (u8sG T).size ≤ 800 := by omega
          rw [hp] at hPr
          have hPr : Hid (∀ W, Calls Tryz.prog 50 #[.string (u8sG T)] W fun r w' => r = .returned (.int .i64 16) ∧ W = w') := hPr
          have h2 : 2 ≤ T.length := by
            rcases Nat.lt_or_ge T.length 2 with h | h
            · exfalso
              have : preL T = 0 := by unfold preL; rw [if_neg (by omega)]
              omega
            · exact h
          have hs2 : (2 : Int) ≤ ((u8sG T).size : Int) := by omega
          have hex0 : (u8sG T).extract 2 (u8sG T).size = u8sG (T.drop 2) := by
            rw [uG_ext, hszT, List.take_length]
          have hRu := Lib.hid (fun W => c_Rrun (T.drop 2) (fun c hc => hT c (List.mem_of_mem_drop hc)) 0 16 (Nat.zero_le _) (by rw [List.length_drop]; omega) W)
          rw [List.drop_zero] at hRu
          have hrl := runL_le 16 (T.drop 2)
          have hrm := run_mem (n := 16) (l := (T.drop 2))
          rw [List.length_drop] at hrl
          have hX := Lib.hid (fun W hW => W3.c_Rnearest ((T.drop 2).take (runL 16 (T.drop 2))) 16 (by omega) (by omega) (fun c hc => ⟨(fun c hc => hT c (List.mem_of_mem_drop hc)) c (List.mem_of_mem_take hc), hrm c hc⟩) (by rw [List.length_take, List.length_drop]; omega) W hW)
          have hm := fun w => run_float_arith (P := Tryz.prog) w .mul 22 .f64 (oneB ng) (nN (numB 16 ((T.drop 2).take (runL 16 (T.drop 2))))) (sgW ng (nN (numB 16 ((T.drop 2).take (runL 16 (T.drop 2)))))) (mul_sg ng (nN_le _))
          have hrn0 : ((runL 16 (T.drop 2) : Int) == 0) = false := beq_eq_false_iff_ne.2 (by omega)
          have hexr : (u8sG (T.drop 2)).extract 0 (runL 16 (T.drop 2)) = u8sG ((T.drop 2).take (runL 16 (T.drop 2))) := by rw [uG_ext]; rfl
          have hDz : (u8sG (T.drop 2)).size = (T.drop 2).length := uG_size _
          have hrI : (runL 16 (T.drop 2) : Int) ≤ ((u8sG (T.drop 2)).size : Int) := by rw [hDz, List.length_drop]; omega
          have hrN : runL 16 (T.drop 2) ≤ (u8sG (T.drop 2)).size := by rw [hDz, List.length_drop]; omega
          have hDz5 : (u8sG (T.drop 2)).size ≤ 800 := by rw [hDz, List.length_drop]; omega
          clear hDz
          generalize hV : nN (numB 16 ((T.drop 2).take (runL 16 (T.drop 2)))) = V at *
          generalize hSV : sgW ng V = SV at *
          clear hV hSV hrl hrm h
          subst hv
          generalize u8sG ((T.drop 2).take (runL 16 (T.drop 2))) = TK at *
          generalize runL 16 (T.drop 2) = RL at *
          replace hex0 := Lib.hid hex0
          clear h2 hp
          generalize u8sG (T.drop 2) = TD at *
          generalize u8sG T = TT at *
          generalize oneB ng = OB at *
          clear hT hT8 hszT
          replace hex0 := hex0.out
          go_wp2_with fail
          refine (hPr.out _).mono ?_
          rintro e w5 ⟨rfl, rfl⟩
          go_wp2_with fail
          refine (hRu.out _).mono ?_
          rintro e w6 ⟨rfl, rfl⟩
          go_wp2_with fail
          refine (hX.out _ (hLk.out _ hbA)).mono ?_
          rintro e w7 ⟨rfl, hb7⟩
          have hbE : Below w.heap.size w w7 := hbA.trans (hb7.mono hbA.size)
          go_wp2_with fail
          go_ret
          exact ⟨rfl, hbE⟩
        · clear hr1 hr2
          have hPr := Lib.hid (fun W => c_Rprefixed T hT256.out (by have := hTl8.out; omega) W)
          have hT := hT256.out
          have hT8 := hTl8.out
          have hszT : (u8sG T).size = T.length := uG_size T
          have hs5 : (u8sG T).size ≤ 800 := by omega
          rw [hp] at hPr
          have hPr : Hid (∀ W, Calls Tryz.prog 50 #[.string (u8sG T)] W fun r w' => r = .returned (.int .i64 16) ∧ W = w') := hPr
          have h2 : 2 ≤ T.length := by
            rcases Nat.lt_or_ge T.length 2 with h | h
            · exfalso
              have : preL T = 0 := by unfold preL; rw [if_neg (by omega)]
              omega
            · exact h
          have hs2 : (2 : Int) ≤ ((u8sG T).size : Int) := by omega
          have hex0 : (u8sG T).extract 2 (u8sG T).size = u8sG (T.drop 2) := by
            rw [uG_ext, hszT, List.take_length]
          have hRu := Lib.hid (fun W => c_Rrun (T.drop 2) (fun c hc => hT c (List.mem_of_mem_drop hc)) 0 16 (Nat.zero_le _) (by rw [List.length_drop]; omega) W)
          rw [List.drop_zero] at hRu
          have hrl := runL_le 16 (T.drop 2)
          have hrm := run_mem (n := 16) (l := (T.drop 2))
          rw [List.length_drop] at hrl
          have hX := Lib.hid (fun W hW => W3.c_Rnearest ((T.drop 2).take (runL 16 (T.drop 2))) 16 (by omega) (by omega) (fun c hc => ⟨(fun c hc => hT c (List.mem_of_mem_drop hc)) c (List.mem_of_mem_take hc), hrm c hc⟩) (by rw [List.length_take, List.length_drop]; omega) W hW)
          have hm := fun w => run_float_arith (P := Tryz.prog) w .mul 22 .f64 (oneB ng) (nN (numB 16 ((T.drop 2).take (runL 16 (T.drop 2))))) (sgW ng (nN (numB 16 ((T.drop 2).take (runL 16 (T.drop 2)))))) (mul_sg ng (nN_le _))
          have hrn0 : ((runL 16 (T.drop 2) : Int) == 0) = false := beq_eq_false_iff_ne.2 (by omega)
          have hexr : (u8sG (T.drop 2)).extract 0 (runL 16 (T.drop 2)) = u8sG ((T.drop 2).take (runL 16 (T.drop 2))) := by rw [uG_ext]; rfl
          have hDz : (u8sG (T.drop 2)).size = (T.drop 2).length := uG_size _
          have hrI : (runL 16 (T.drop 2) : Int) ≤ ((u8sG (T.drop 2)).size : Int) := by rw [hDz, List.length_drop]; omega
          have hrN : runL 16 (T.drop 2) ≤ (u8sG (T.drop 2)).size := by rw [hDz, List.length_drop]; omega
          have hDz5 : (u8sG (T.drop 2)).size ≤ 800 := by rw [hDz, List.length_drop]; omega
          clear hDz
          generalize hV : nN (numB 16 ((T.drop 2).take (runL 16 (T.drop 2)))) = V at *
          generalize hSV : sgW ng V = SV at *
          clear hV hSV hrl hrm h
          subst hv
          generalize u8sG ((T.drop 2).take (runL 16 (T.drop 2))) = TK at *
          generalize runL 16 (T.drop 2) = RL at *
          replace hex0 := Lib.hid hex0
          clear h2 hp
          generalize u8sG (T.drop 2) = TD at *
          generalize u8sG T = TT at *
          generalize oneB ng = OB at *
          clear hT hT8 hszT
          replace hex0 := hex0.out
          go_wp2_with fail
          refine (hPr.out _).mono ?_
          rintro e w5 ⟨rfl, rfl⟩
          go_wp2_with fail
          refine (hRu.out _).mono ?_
          rintro e w6 ⟨rfl, rfl⟩
          go_wp2_with fail
          refine (hX.out _ (hLk.out _ hbA)).mono ?_
          rintro e w7 ⟨rfl, hb7⟩
          have hbE : Below w.heap.size w w7 := hbA.trans (hb7.mono hbA.size)
          go_wp2_with fail
          go_ret
          exact ⟨rfl, hbE⟩
      | tenN hp hr h =>
        subst hv
        subst hr
        clear hr1 hr2
        have hPr := Lib.hid (fun W => c_Rprefixed T hT256.out (by have := hTl8.out; omega) W)
        have hT := hT256.out
        have hT8 := hTl8.out
        have hszT : (u8sG T).size = T.length := uG_size T
        have hs5 : (u8sG T).size ≤ 800 := by omega
        have hq16 : ((preL T : Int) == 16) = false := beq_eq_false_iff_ne.2 (by omega)
        have hRu := Lib.hid (fun W => c_Rrun T hT 0 10 (Nat.zero_le _) (by omega) W)
        rw [List.drop_zero] at hRu
        rw [h] at hRu
        have hRu : Hid (∀ W, Calls Tryz.prog 51 #[.string (u8sG T), .int .i64 0, .int .i64 ((10 : Nat) : Int)] W fun r w' => r = .returned (.int .i64 0) ∧ W = w') := hRu
        clear hp
        generalize preL T = pp at *
        generalize u8sG T = TT at *
        generalize oneB ng = OB at *
        clear hT hT8 hszT
        go_wp2_with fail
        refine (hPr.out _).mono ?_
        rintro e w5 ⟨rfl, rfl⟩
        go_wp2_with fail
        refine (hRu.out _).mono ?_
        rintro e w6 ⟨rfl, rfl⟩
        go_wp2_with (go_at_call 41; refine (c_mNaN _).mono ?_; rintro e w' ⟨rfl, rfl⟩)
        go_ret
        exact ⟨rfl, hbA⟩
      | ten hp hr h =>
        subst hr
        clear hr1 hr2
        have hPr := Lib.hid (fun W => c_Rprefixed T hT256.out (by have := hTl8.out; omega) W)
        have hT := hT256.out
        have hT8 := hTl8.out
        have hszT : (u8sG T).size = T.length := uG_size T
        have hs5 : (u8sG T).size ≤ 800 := by omega
        have hq16 : ((preL T : Int) == 16) = false := beq_eq_false_iff_ne.2 (by omega)
        have hRu := Lib.hid (fun W => c_Rrun T hT 0 10 (Nat.zero_le _) (by omega) W)
        rw [List.drop_zero] at hRu
        have hrl := runL_le 10 T
        have hrm := run_mem (n := 10) (l := T)
        have hX := Lib.hid (fun W hW => W3.c_Rnearest (T.take (runL 10 T)) 10 (by omega) (by omega) (fun c hc => ⟨hT c (List.mem_of_mem_take hc), hrm c hc⟩) (by rw [List.length_take]; omega) W hW)
        have hm := fun w => run_float_arith (P := Tryz.prog) w .mul 22 .f64 (oneB ng) (nN (numB 10 (T.take (runL 10 T)))) (sgW ng (nN (numB 10 (T.take (runL 10 T))))) (mul_sg ng (nN_le _))
        have hrn0 : ((runL 10 T : Int) == 0) = false := beq_eq_false_iff_ne.2 (by omega)
        have hexr : (u8sG T).extract 0 (runL 10 T) = u8sG (T.take (runL 10 T)) := by rw [uG_ext]; rfl
        have hDz : (u8sG T).size = T.length := uG_size _
        have hrI : (runL 10 T : Int) ≤ ((u8sG T).size : Int) := by rw [hDz]; omega
        have hrN : runL 10 T ≤ (u8sG T).size := by omega
        have hDz5 : (u8sG T).size ≤ 800 := by rw [hDz]; omega
        clear hDz
        generalize hV : nN (numB 10 (T.take (runL 10 T))) = V at *
        generalize hSV : sgW ng V = SV at *
        clear hV hSV hrl hrm h
        subst hv
        generalize u8sG (T.take (runL 10 T)) = TK at *
        generalize runL 10 T = RL at *
        clear hp
        generalize preL T = pp at *
        generalize u8sG T = TT at *
        generalize oneB ng = OB at *
        clear hT hT8 hszT
        go_wp2_with fail
        refine (hPr.out _).mono ?_
        rintro e w5 ⟨rfl, rfl⟩
        go_wp2_with fail
        refine (hRu.out _).mono ?_
        rintro e w6 ⟨rfl, rfl⟩
        go_wp2_with fail
        refine (hX.out _ (hLk.out _ hbA)).mono ?_
        rintro e w7 ⟨rfl, hb7⟩
        have hbE : Below w.heap.size w w7 := hbA.trans (hb7.mono hbA.size)
        go_wp2_with fail
        go_ret
        exact ⟨rfl, hbE⟩
      | none hr0 h =>
        subst hv
        by_cases h16 : r = 16
        · omega
        · have hn0 : (r == 0) = false := beq_eq_false_iff_ne.2 hr0
          have hn16 : (r == 16) = false := beq_eq_false_iff_ne.2 h16
          clear hr0 h16
          generalize u8sG T = TT at *
          generalize oneB ng = OB at *
          rcases Int.lt_or_le r 2 with h1 | h1
          · clear h
            go_wp2_with (go_at_call 41; refine (c_mNaN _).mono ?_; rintro e w' ⟨rfl, rfl⟩)
            go_ret
            exact ⟨rfl, hbA⟩
          · have h3 : ¬ r < 2 := by omega
            have h4 : 36 < r := by omega
            clear h h1
            go_wp2_with (go_at_call 41; refine (c_mNaN _).mono ?_; rintro e w' ⟨rfl, rfl⟩)
            go_ret
            exact ⟨rfl, hbA⟩
      | @anyN m hp hr h2 h36 h =>
        subst hv
        subst hr
        clear hr1 hr2
        by_cases h16 : m = 16
        · subst h16
          have hq16 : ((preL T : Int) == 16) = false := beq_eq_false_iff_ne.2 (by omega)
          clear hp h2 h36
          have hPr := Lib.hid (fun W => c_Rprefixed T hT256.out (by have := hTl8.out; omega) W)
          have hT := hT256.out
          have hT8 := hTl8.out
          have hszT : (u8sG T).size = T.length := uG_size T
          have hs5 : (u8sG T).size ≤ 800 := by omega
          have hRu := Lib.hid (fun W => c_Rrun T hT 0 16 (Nat.zero_le _) (by omega) W)
          rw [List.drop_zero] at hRu
          rw [h] at hRu
          have hRu : Hid (∀ W, Calls Tryz.prog 51 #[.string (u8sG T), .int .i64 0, .int .i64 ((16 : Nat) : Int)] W fun r w' => r = .returned (.int .i64 0) ∧ W = w') := hRu
          generalize preL T = pp at *
          generalize u8sG T = TT at *
          generalize oneB ng = OB at *
          clear hT hT8 hszT
          go_wp2_with fail
          refine (hPr.out _).mono ?_
          rintro e w5 ⟨rfl, rfl⟩
          go_wp2_with fail
          refine (hRu.out _).mono ?_
          rintro e w6 ⟨rfl, rfl⟩
          go_wp2_with (go_at_call 41; refine (c_mNaN _).mono ?_; rintro e w' ⟨rfl, rfl⟩)
          go_ret
          exact ⟨rfl, hbA⟩
        · have hn0 : ((m : Int) == 0) = false := beq_eq_false_iff_ne.2 (by omega)
          have hn16 : ((m : Int) == 16) = false := beq_eq_false_iff_ne.2 (by omega)
          have hn2 : ¬ (m : Int) < 2 := by omega
          have hn36 : ¬ (36 : Int) < (m : Int) := by omega
          have hmI : (m : Int) ≤ 36 := by omega
          clear hp h16
          have hPr := Lib.hid (fun W => c_Rprefixed T hT256.out (by have := hTl8.out; omega) W)
          have hT := hT256.out
          have hT8 := hTl8.out
          have hszT : (u8sG T).size = T.length := uG_size T
          have hs5 : (u8sG T).size ≤ 800 := by omega
          have hRu := Lib.hid (fun W => c_Rrun T hT 0 m (Nat.zero_le _) (by omega) W)
          rw [List.drop_zero] at hRu
          rw [h] at hRu
          have hRu : Hid (∀ W, Calls Tryz.prog 51 #[.string (u8sG T), .int .i64 0, .int .i64 ((m : Nat) : Int)] W fun r w' => r = .returned (.int .i64 0) ∧ W = w') := hRu
          generalize u8sG T = TT at *
          generalize oneB ng = OB at *
          clear hT hT8 hszT h2 h36
          go_wp2_with fail
          refine (hRu.out _).mono ?_
          rintro e w6 ⟨rfl, rfl⟩
          go_wp2_with (go_at_call 41; refine (c_mNaN _).mono ?_; rintro e w' ⟨rfl, rfl⟩)
          go_ret
          exact ⟨rfl, hbA⟩
      | @any m hp hr h2 h36 h =>
        subst hr
        clear hr1 hr2
        by_cases h16 : m = 16
        · subst h16
          have hq16 : ((preL T : Int) == 16) = false := beq_eq_false_iff_ne.2 (by omega)
          clear hp h2 h36
          have hPr := Lib.hid (fun W => c_Rprefixed T hT256.out (by have := hTl8.out; omega) W)
          have hT := hT256.out
          have hT8 := hTl8.out
          have hszT : (u8sG T).size = T.length := uG_size T
          have hs5 : (u8sG T).size ≤ 800 := by omega
          have hRu := Lib.hid (fun W => c_Rrun T hT 0 16 (Nat.zero_le _) (by omega) W)
          rw [List.drop_zero] at hRu
          have hrl := runL_le 16 T
          have hrm := run_mem (n := 16) (l := T)
          have hX := Lib.hid (fun W hW => W3.c_Rnearest (T.take (runL 16 T)) 16 (by omega) (by omega) (fun c hc => ⟨hT c (List.mem_of_mem_take hc), hrm c hc⟩) (by rw [List.length_take]; omega) W hW)
          have hm := fun w => run_float_arith (P := Tryz.prog) w .mul 22 .f64 (oneB ng) (nN (numB 16 (T.take (runL 16 T)))) (sgW ng (nN (numB 16 (T.take (runL 16 T))))) (mul_sg ng (nN_le _))
          have hrn0 : ((runL 16 T : Int) == 0) = false := beq_eq_false_iff_ne.2 (by omega)
          have hexr : (u8sG T).extract 0 (runL 16 T) = u8sG (T.take (runL 16 T)) := by rw [uG_ext]; rfl
          have hDz : (u8sG T).size = T.length := uG_size _
          have hrI : (runL 16 T : Int) ≤ ((u8sG T).size : Int) := by rw [hDz]; omega
          have hrN : runL 16 T ≤ (u8sG T).size := by omega
          have hDz5 : (u8sG T).size ≤ 800 := by rw [hDz]; omega
          clear hDz
          generalize hV : nN (numB 16 (T.take (runL 16 T))) = V at *
          generalize hSV : sgW ng V = SV at *
          clear hV hSV hrl hrm h
          subst hv
          generalize u8sG (T.take (runL 16 T)) = TK at *
          generalize runL 16 T = RL at *
          generalize preL T = pp at *
          generalize u8sG T = TT at *
          generalize oneB ng = OB at *
          clear hT hT8 hszT
          go_wp2_with fail
          refine (hPr.out _).mono ?_
          rintro e w5 ⟨rfl, rfl⟩
          go_wp2_with fail
          refine (hRu.out _).mono ?_
          rintro e w6 ⟨rfl, rfl⟩
          go_wp2_with fail
          refine (hX.out _ (hLk.out _ hbA)).mono ?_
          rintro e w7 ⟨rfl, hb7⟩
          have hbE : Below w.heap.size w w7 := hbA.trans (hb7.mono hbA.size)
          go_wp2_with fail
          go_ret
          exact ⟨rfl, hbE⟩
        · have hn0 : ((m : Int) == 0) = false := beq_eq_false_iff_ne.2 (by omega)
          have hn16 : ((m : Int) == 16) = false := beq_eq_false_iff_ne.2 (by omega)
          have hn2 : ¬ (m : Int) < 2 := by omega
          have hn36 : ¬ (36 : Int) < (m : Int) := by omega
          have hmI : (m : Int) ≤ 36 := by omega
          clear hp h16
          have hPr := Lib.hid (fun W => c_Rprefixed T hT256.out (by have := hTl8.out; omega) W)
          have hT := hT256.out
          have hT8 := hTl8.out
          have hszT : (u8sG T).size = T.length := uG_size T
          have hs5 : (u8sG T).size ≤ 800 := by omega
          have hRu := Lib.hid (fun W => c_Rrun T hT 0 m (Nat.zero_le _) (by omega) W)
          rw [List.drop_zero] at hRu
          have hrl := runL_le m T
          have hrm := run_mem (n := m) (l := T)
          have hX := Lib.hid (fun W hW => W3.c_Rnearest (T.take (runL m T)) m (by omega) (by omega) (fun c hc => ⟨hT c (List.mem_of_mem_take hc), hrm c hc⟩) (by rw [List.length_take]; omega) W hW)
          have hm := fun w => run_float_arith (P := Tryz.prog) w .mul 22 .f64 (oneB ng) (nN (numB m (T.take (runL m T)))) (sgW ng (nN (numB m (T.take (runL m T))))) (mul_sg ng (nN_le _))
          have hrn0 : ((runL m T : Int) == 0) = false := beq_eq_false_iff_ne.2 (by omega)
          have hexr : (u8sG T).extract 0 (runL m T) = u8sG (T.take (runL m T)) := by rw [uG_ext]; rfl
          have hDz : (u8sG T).size = T.length := uG_size _
          have hrI : (runL m T : Int) ≤ ((u8sG T).size : Int) := by rw [hDz]; omega
          have hrN : runL m T ≤ (u8sG T).size := by omega
          have hDz5 : (u8sG T).size ≤ 800 := by rw [hDz]; omega
          clear hDz
          generalize hV : nN (numB m (T.take (runL m T))) = V at *
          generalize hSV : sgW ng V = SV at *
          clear hV hSV hrl hrm h
          subst hv
          generalize u8sG (T.take (runL m T)) = TK at *
          generalize runL m T = RL at *
          generalize u8sG T = TT at *
          generalize oneB ng = OB at *
          clear hT hT8 hszT h2 h36
          go_wp2_with fail
          refine (hRu.out _).mono ?_
          rintro e w6 ⟨rfl, rfl⟩
          go_wp2_with fail
          refine (hX.out _ (hLk.out _ hbA)).mono ?_
          rintro e w7 ⟨rfl, hb7⟩
          have hbE : Below w.heap.size w w7 := hbA.trans (hb7.mono hbA.size)
          go_wp2_with fail
          go_ret
          exact ⟨rfl, hbE⟩
end Go.Proofs.YtbakbikilbaafaaGreatDoor
namespace Go.Proofs.YtbakbikilbaafaaGreatDoor
open Go.RowKit F64 Ieee
set_option linter.unusedVariables false
set_option maxHeartbeats 4000000
set_option maxRecDepth 100000

theorem ti_numG (nm : String) (way : Ieee.Toward) (x : Nat) (s : Bool) (m : Nat) (e : Int) (hd : FloatKind.f64.decode x = .number s m e) :
    Extern.MathFloor.toIntegral nm way #[.float .f64 x] = Sem.pure (.float .f64 (FloatKind.f64.encode ((Ieee.Datum.number s m e).integral way))) := by
  obtain ⟨g, h⟩ : ∃ g : Bool → Nat → Sem Value, Extern.MathFloor.toIntegral nm way #[.float .f64 x] = (match FloatKind.f64.decode x with
    | .nan s t => g s t
    | d => pure (.float .f64 (FloatKind.f64.encode (d.integral way)))) := ⟨_, rfl⟩
  rw [h, hd]; rfl
/-- Trunc's word -/
def trW (x : Nat) : Nat := FloatKind.f64.encode ((FloatKind.f64.decode x).integral .zero)
theorem dec_fin {x : Nat} (h : fin x = true) : FloatKind.f64.decode x = .number (sgn x) (man (rung x)) (-1074 + (ex (rung x) : Int)) := read_fin h
theorem c_TruncG (x : Nat) (hf : fin x = true) (w : World) : Calls Tryz.prog 57 #[.float .f64 x] w fun e w' => e = .returned (.float .f64 (trW x)) ∧ w = w' := by
  have hr : ∀ w, (callFunc 85 #[.float .f64 x]).run Tryz.prog w = .ok (.value (.float .f64 (trW x))) w := fun w => by
    have e : ∀ (args : Array Value) (w : World), (callFunc 85 args).run Tryz.prog w = ((Extern.MathFloor.toIntegral "math.archTrunc" .zero args).run Tryz.prog w).andThen fun v w' => .ok (.value v) w' := run_callFunc_extern Tryz.func85 (by kernel_rfl) (by kernel_rfl) (by kernel_rfl) (by kernel_rfl)
    have h2 : Extern.MathFloor.toIntegral "math.archTrunc" .zero #[.float .f64 x] = Sem.pure (.float .f64 (trW x)) := by
      rw [ti_numG _ _ _ _ _ _ (dec_fin hf), ← dec_fin hf]; rfl
    rw [e, h2]
    rfl
  generalize trW x = y at *
  clear hf
  go_enter Tryz.func57, Tryz.ntmps57
  go_wp2
  go_ret
  exact ⟨rfl, rfl⟩
theorem cmp_eq_comm (a b : Int) : (compare a b = Ordering.eq) ↔ (compare b a = Ordering.eq) := by
  simp only [compare, compareOfLessAndEq]
  constructor <;> (intro h; split at h <;> (try split at h) <;> simp_all)
theorem dat_comm (a b : Datum) : (a.order b = some Ordering.eq) ↔ (b.order a = some Ordering.eq) := by
  cases a with
  | nan s t => cases b <;> simp [Datum.order]
  | infinity s =>
    cases b with
    | nan t u => simp [Datum.order]
    | infinity t => cases s <;> cases t <;> decide
    | number t m i => cases s <;> simp [Datum.order]
  | number s m i =>
    cases b with
    | nan t u => simp [Datum.order]
    | infinity t => cases t <;> simp [Datum.order]
    | number t n j =>
      simp only [Datum.order, Option.some.injEq]
      rw [Int.min_comm j i]
      exact cmp_eq_comm _ _
theorem order_comm (x y : Nat) : (FloatKind.f64.format.order x y != some Ordering.eq) = (FloatKind.f64.format.order y x != some Ordering.eq) := by
  have h := dat_comm (double.read x) (double.read y)
  have e : ∀ o : Option Ordering, (o != some Ordering.eq) = !decide (o = some Ordering.eq) := fun o => by cases o with
    | none => rfl
    | some o => cases o <;> rfl
  rw [e, e]
  congr 1
  exact decide_eq_decide.2 h
/-- a float below 2^53 as a whole number -/
theorem to_int {x : Nat} (hx : rung x < 4845873199050653696) : ∃ n : Int, floatToIntVal .f64 x .i64 = some n ∧ -9007199254740992 ≤ n ∧ n ≤ 9007199254740992 := by
  have hf : fin x = true := decide_eq_true (by omega)
  unfold floatToIntVal
  rw [dec_fin hf]
  simp only [Datum.toInt, Datum.integral]
  have hm : man (rung x) < 9007199254740992 := by unfold man; split <;> omega
  have he : ex (rung x) ≤ 1074 := by unfold ex; split <;> omega
  rw [show (-1074 + (ex (rung x) : Int)).toNat = 0 by omega, Nat.shiftLeft_zero]
  have hc : Toward.cut .zero (sgn x) (man (rung x)) (-(-1074 + (ex (rung x) : Int))).toNat ≤ man (rung x) := by
    unfold Toward.cut
    exact Nat.div_le_self _ _
  generalize Toward.cut .zero (sgn x) (man (rung x)) (-(-1074 + (ex (rung x) : Int))).toNat = c at *
  have hs : signed (sgn x) c 0 = if sgn x then -(c : Int) else (c : Int) := by
    unfold signed
    rw [Nat.shiftLeft_zero]
  rw [hs]
  refine ⟨if sgn x then -(c : Int) else (c : Int), ?_, ?_, ?_⟩
  · rw [if_pos]
    have : IntKind.i64.min = -9223372036854775808 := rfl
    have : IntKind.i64.max = 9223372036854775807 := rfl
    split <;> omega
  · split <;> omega
  · split <;> omega
/-- what Base makes of a float -/
inductive BaseR (x : Nat) (b : Int) : List Nat → Int → Prop
  | low (h : b < 2) : BaseR x b [] 1
  | high (h : 36 < b) : BaseR x b [] 1
  | ten {L : List Nat} (h : b = 10) (hS : ShowT x L) : BaseR x b L 0
  | nan {L : List Nat} (h2 : ¬ b < 2) (h36 : ¬ 36 < b) (h10 : b ≠ 10) (hn : isNaN x = true) (hS : ShowT x L) : BaseR x b L 0
  | inf {L : List Nat} (h2 : ¬ b < 2) (h36 : ¬ 36 < b) (h10 : b ≠ 10) (hn : isNaN x = false) (hi : rung x = 9218868437227405312) (hS : ShowT x L) : BaseR x b L 0
  | frac (h2 : ¬ b < 2) (h36 : ¬ 36 < b) (h10 : b ≠ 10) (hf : fin x = true) (ht : (FloatKind.f64.format.order x (trW x) != some Ordering.eq) = true) : BaseR x b [] 1
  | big (h2 : ¬ b < 2) (h36 : ¬ 36 < b) (h10 : b ≠ 10) (hf : fin x = true) (ht : (FloatKind.f64.format.order x (trW x) != some Ordering.eq) = false) (hb : 4845873199050653696 ≤ rung x) : BaseR x b [] 1
  | num {L : List Nat} {n : Int} (h2 : ¬ b < 2) (h36 : ¬ 36 < b) (h10 : b ≠ 10) (hf : fin x = true) (ht : (FloatKind.f64.format.order x (trW x) != some Ordering.eq) = false) (hb : rung x < 4845873199050653696)
      (hc : floatToIntVal .f64 x .i64 = some n) (hL : ∀ c ∈ L, c < 128) (hl : L.length ≤ 70) (hF : ∀ w, LibW w → Calls Tryz.prog 59 #[.int .i64 n, .int .i64 b] w fun r w' => r = .returned (.string (u8sG L)) ∧ Below w.heap.size w w') : BaseR x b L 0
theorem baseR_ex (x : Nat) (b : Int) (hS : ∃ L, ShowT x L) : ∃ L e, BaseR x b L e := by
  obtain ⟨L, hS⟩ := hS
  by_cases h2 : b < 2
  · exact ⟨_, _, .low h2⟩
  by_cases h36 : 36 < b
  · exact ⟨_, _, .high h36⟩
  by_cases h10 : b = 10
  · exact ⟨_, _, .ten h10 hS⟩
  by_cases hn : isNaN x = true
  · exact ⟨_, _, .nan h2 h36 h10 hn hS⟩
  by_cases hi : rung x = 9218868437227405312
  · exact ⟨_, _, .inf h2 h36 h10 (by simpa using hn) hi hS⟩
  have hf : fin x = true := by
    unfold isNaN at hn; unfold fin
    simp at hn ⊢; omega
  cases ht : (FloatKind.f64.format.order x (trW x) != some Ordering.eq) with
  | true => exact ⟨_, _, .frac h2 h36 h10 hf ht⟩
  | false =>
    by_cases hb : 4845873199050653696 ≤ rung x
    · exact ⟨_, _, .big h2 h36 h10 hf ht hb⟩
    · obtain ⟨n, hc, n1, n2⟩ := to_int (x := x) (by omega)
      obtain ⟨m, rfl⟩ : ∃ m : Nat, b = (m : Int) := ⟨b.toNat, by omega⟩
      obtain ⟨L, hL, hl, hF⟩ := c_FormatInt m n (by omega) (by omega) (by omega) n1 n2
      exact ⟨_, _, .num h2 h36 h10 hf ht (by omega) hc hL hl hF⟩
theorem c_dBase {x : Nat} {b : Int} {L : List Nat} {e : Int} (hx : x < 18446744073709551616) (h : BaseR x b L e) (w : World) (hW : LibW w) :
    Calls Tryz.prog 22 #[.float .f64 x, .int .i64 b] w fun r w' => r = .returned (.tuple #[.string (textU L), .int .i64 e]) ∧ Below w.heap.size w w' := by
  have hN := ord_self x
  have hI := Lib.hid (fun W => c_IsInfG x hx W)
  have hA := Lib.hid (fun W => c_AbsG x hx W)
  cases h with
  | low h =>
    clear hN hI hA hx hW
    rw [show textU ([] : List Nat) = ⟨#[]⟩ from rfl]
    go_enter Tryz.func22, Tryz.ntmps22
    go_wp2
    go_ret2
    exact ⟨rfl, Below.refl _ _⟩
  | high h =>
    have h2 : ¬ b < 2 := by omega
    clear hN hI hA hx hW
    rw [show textU ([] : List Nat) = ⟨#[]⟩ from rfl]
    go_enter Tryz.func22, Tryz.ntmps22
    go_wp2
    go_ret2
    exact ⟨rfl, Below.refl _ _⟩
  | ten h hS =>
    subst h
    have hSh := Lib.hid (c_dShow hx hS w hW)
    clear hN hI hA hx hW hS
    go_enter Tryz.func22, Tryz.ntmps22
    go_wp2_with fail
    refine hSh.out.mono ?_
    rintro e w1 ⟨rfl, hb1⟩
    go_wp2_with fail
    go_ret2
    exact ⟨rfl, hb1⟩
  | nan h2 h36 h10 hn hS =>
    rw [hn] at hN
    have hSh := Lib.hid (c_dShow hx hS w hW)
    have hn10 : (b == 10) = false := beq_eq_false_iff_ne.2 h10
    clear hI hA hx hW hS h10 hn
    go_enter Tryz.func22, Tryz.ntmps22
    go_wp2_with fail
    refine hSh.out.mono ?_
    rintro e w1 ⟨rfl, hb1⟩
    go_wp2_with fail
    go_ret2
    exact ⟨rfl, hb1⟩
  | inf h2 h36 h10 hn hi hS =>
    rw [hn] at hN
    have hSh := Lib.hid (c_dShow hx hS w hW)
    have hn10 : (b == 10) = false := beq_eq_false_iff_ne.2 h10
    rw [hi] at hI
    have hI : Hid (∀ W, Calls Tryz.prog 56 #[.float .f64 x, .int .i64 0] W fun r w' => r = .returned (.bool true) ∧ W = w') := hI
    clear hA hx hW hS h10 hn hi
    go_enter Tryz.func22, Tryz.ntmps22
    go_wp2_with (go_at_call 56; refine (hI.out _).mono ?_; rintro e w1 ⟨rfl, rfl⟩)
    refine hSh.out.mono ?_
    rintro e w1 ⟨rfl, hb1⟩
    go_wp2_with fail
    go_ret2
    exact ⟨rfl, hb1⟩
  | frac h2 h36 h10 hf ht =>
    have hf2 : rung x < 9218868437227405312 := of_decide_eq_true hf
    have hnn : isNaN x = false := by unfold isNaN; simp; omega
    rw [hnn] at hN
    rw [show decide (rung x = 9218868437227405312) = false by simp; omega] at hI
    have hI : Hid (∀ W, Calls Tryz.prog 56 #[.float .f64 x, .int .i64 0] W fun r w' => r = .returned (.bool false) ∧ W = w') := hI
    have hn10 : (b == 10) = false := beq_eq_false_iff_ne.2 h10
    have hT := Lib.hid (fun W => c_TruncG x hf W)
    generalize trW x = y at *
    clear hA hx hW h10 hf hf2 hnn
    rw [show textU ([] : List Nat) = ⟨#[]⟩ from rfl]
    go_enter Tryz.func22, Tryz.ntmps22
    go_wp2_with (first | (go_at_call 56; refine (hI.out _).mono ?_; rintro e w1 ⟨rfl, rfl⟩) | (go_at_call 57; refine (hT.out _).mono ?_; rintro e w1 ⟨rfl, rfl⟩))
    go_ret2
    exact ⟨rfl, Below.refl _ _⟩
  | big h2 h36 h10 hf ht hb =>
    have hf2 : rung x < 9218868437227405312 := of_decide_eq_true hf
    have hnn : isNaN x = false := by unfold isNaN; simp; omega
    rw [hnn] at hN
    rw [show decide (rung x = 9218868437227405312) = false by simp; omega] at hI
    have hI : Hid (∀ W, Calls Tryz.prog 56 #[.float .f64 x, .int .i64 0] W fun r w' => r = .returned (.bool false) ∧ W = w') := hI
    have hn10 : (b == 10) = false := beq_eq_false_iff_ne.2 h10
    have hT := Lib.hid (fun W => c_TruncG x hf W)
    have hge := ord_lt (x := rung x) (y := 4845873199050653696) hf2 (by decide)
    rw [show decide (rung x < 4845873199050653696) = false by simp; omega] at hge
    have hgt := ord_gt (x := rung x) (y := 4845873199050653696) hf2 (by decide)
    have heq := ord_eq (x := rung x) (y := 4845873199050653696) hf2 (by decide)
    have hgq : (FloatKind.f64.format.order (rung x) 4845873199050653696 == some Ordering.gt || FloatKind.f64.format.order (rung x) 4845873199050653696 == some Ordering.eq) = true := by
      rw [hgt, heq]; simp; omega
    clear hgt heq
    generalize trW x = y at *
    generalize rung x = z at *
    clear hx hW h10 hf hf2 hnn hb
    rw [show textU ([] : List Nat) = ⟨#[]⟩ from rfl]
    go_enter Tryz.func22, Tryz.ntmps22
    go_wp2_with (first | (go_at_call 56; refine (hI.out _).mono ?_; rintro e w1 ⟨rfl, rfl⟩) | (go_at_call 57; refine (hT.out _).mono ?_; rintro e w1 ⟨rfl, rfl⟩) | (go_at_call 58; refine (hA.out _).mono ?_; rintro e w1 ⟨rfl, rfl⟩))
    go_ret2
    exact ⟨rfl, Below.refl _ _⟩
  | num h2 h36 h10 hf ht hb hc hL hl hF =>
    have hf2 : rung x < 9218868437227405312 := of_decide_eq_true hf
    have hnn : isNaN x = false := by unfold isNaN; simp; omega
    rw [hnn] at hN
    rw [show decide (rung x = 9218868437227405312) = false by simp; omega] at hI
    have hI : Hid (∀ W, Calls Tryz.prog 56 #[.float .f64 x, .int .i64 0] W fun r w' => r = .returned (.bool false) ∧ W = w') := hI
    have hn10 : (b == 10) = false := beq_eq_false_iff_ne.2 h10
    have hT := Lib.hid (fun W => c_TruncG x hf W)
    rename_i n
    have hge := ord_lt (x := rung x) (y := 4845873199050653696) hf2 (by decide)
    rw [show decide (rung x < 4845873199050653696) = true by simp; omega] at hge
    have hgt := ord_gt (x := rung x) (y := 4845873199050653696) hf2 (by decide)
    have heq := ord_eq (x := rung x) (y := 4845873199050653696) hf2 (by decide)
    have hgq : (FloatKind.f64.format.order (rung x) 4845873199050653696 == some Ordering.gt || FloatKind.f64.format.order (rung x) 4845873199050653696 == some Ordering.eq) = false := by
      rw [hgt, heq]; simp; omega
    rw [show decide (4845873199050653696 < rung x) = false by simp; omega] at hgt
    rw [show decide (rung x = 4845873199050653696) = false by simp; omega] at heq
    have hcv := fun w => run_convert_float_int (P := Tryz.prog) (w := w) 22 2 .f64 .i64 x n (by kernel_rfl) Tryz.underlying2 hc
    have hFI := Lib.hid (hF w hW)
    have hAs := Lib.hid (fun W => c_dascii L (by omega) hL W)
    generalize u8sG L = S at *
    generalize textU L = TU at *
    generalize trW x = y at *
    generalize rung x = z at *
    clear hx hW h10 hf hf2 hnn hb hc hL hl hF
    go_enter Tryz.func22, Tryz.ntmps22
    go_wp2_with (first | (go_at_call 56; refine (hI.out _).mono ?_; rintro e w1 ⟨rfl, rfl⟩) | (go_at_call 57; refine (hT.out _).mono ?_; rintro e w1 ⟨rfl, rfl⟩) | (go_at_call 58; refine (hA.out _).mono ?_; rintro e w1 ⟨rfl, rfl⟩))
    refine hFI.out.mono ?_
    rintro e w1 ⟨rfl, hb1⟩
    go_wp2_with fail
    refine (hAs.out _).mono ?_
    rintro e w2 ⟨rfl, hb2⟩
    have hb3 : Below w.heap.size w w2 := hb1.trans (hb2.mono hb1.size)
    go_wp2_with fail
    go_ret2
    exact ⟨rfl, hb3⟩
end Go.Proofs.YtbakbikilbaafaaGreatDoor
namespace Go.Proofs.YtbakbikilbaafaaGreatDoor
open Go.RowKit F64 Ieee
set_option linter.unusedVariables false
set_option maxHeartbeats 4000000
set_option maxRecDepth 100000

theorem c_RBase {x : Nat} {b : Int} {L : List Nat} {e : Int} (hx : x < 18446744073709551616) (h : BaseR x b L e) (w : World) (hW : LibW w) :
    Calls Tryz.prog 23 #[.float .f64 x, .int .i64 b] w fun r w' => r = .returned (.tuple #[.string (textU L), .int .i64 e]) ∧ Below w.heap.size w w' := by
  have hN := ord_self x
  have hI := Lib.hid (fun W => c_IsInfG x hx W)
  have hA := Lib.hid (fun W => c_AbsG x hx W)
  cases h with
  | low h =>
    clear hN hI hA hx hW
    rw [show textU ([] : List Nat) = ⟨#[]⟩ from rfl]
    go_enter Tryz.func23, Tryz.ntmps23
    go_wp2
    go_ret2
    exact ⟨rfl, Below.refl _ _⟩
  | high h =>
    have h2 : ¬ b < 2 := by omega
    clear hN hI hA hx hW
    rw [show textU ([] : List Nat) = ⟨#[]⟩ from rfl]
    go_enter Tryz.func23, Tryz.ntmps23
    go_wp2
    go_ret2
    exact ⟨rfl, Below.refl _ _⟩
  | ten h hS =>
    subst h
    have hSh := Lib.hid (c_RShow hx hS w hW)
    clear hN hI hA hx hW hS
    go_enter Tryz.func23, Tryz.ntmps23
    go_wp2_with fail
    refine hSh.out.mono ?_
    rintro e w1 ⟨rfl, hb1⟩
    go_wp2_with fail
    go_ret2
    exact ⟨rfl, hb1⟩
  | nan h2 h36 h10 hn hS =>
    rw [hn] at hN
    have hSh := Lib.hid (c_RShow hx hS w hW)
    have hn10 : (b == 10) = false := beq_eq_false_iff_ne.2 h10
    clear hI hA hx hW hS h10 hn
    go_enter Tryz.func23, Tryz.ntmps23
    go_wp2_with fail
    refine hSh.out.mono ?_
    rintro e w1 ⟨rfl, hb1⟩
    go_wp2_with fail
    go_ret2
    exact ⟨rfl, hb1⟩
  | inf h2 h36 h10 hn hi hS =>
    rw [hn] at hN
    have hSh := Lib.hid (c_RShow hx hS w hW)
    have hn10 : (b == 10) = false := beq_eq_false_iff_ne.2 h10
    rw [hi] at hI
    have hI : Hid (∀ W, Calls Tryz.prog 56 #[.float .f64 x, .int .i64 0] W fun r w' => r = .returned (.bool true) ∧ W = w') := hI
    clear hA hx hW hS h10 hn hi
    go_enter Tryz.func23, Tryz.ntmps23
    go_wp2_with (go_at_call 56; refine (hI.out _).mono ?_; rintro e w1 ⟨rfl, rfl⟩)
    refine hSh.out.mono ?_
    rintro e w1 ⟨rfl, hb1⟩
    go_wp2_with fail
    go_ret2
    exact ⟨rfl, hb1⟩
  | frac h2 h36 h10 hf ht =>
    have hf2 : rung x < 9218868437227405312 := of_decide_eq_true hf
    have hnn : isNaN x = false := by unfold isNaN; simp; omega
    rw [hnn] at hN
    rw [show decide (rung x = 9218868437227405312) = false by simp; omega] at hI
    have hI : Hid (∀ W, Calls Tryz.prog 56 #[.float .f64 x, .int .i64 0] W fun r w' => r = .returned (.bool false) ∧ W = w') := hI
    have hn10 : (b == 10) = false := beq_eq_false_iff_ne.2 h10
    have hT := Lib.hid (fun W => c_TruncG x hf W)
    rw [order_comm] at ht
    generalize trW x = y at *
    clear hA hx hW h10 hf hf2 hnn
    rw [show textU ([] : List Nat) = ⟨#[]⟩ from rfl]
    go_enter Tryz.func23, Tryz.ntmps23
    go_wp2_with (first | (go_at_call 56; refine (hI.out _).mono ?_; rintro e w1 ⟨rfl, rfl⟩) | (go_at_call 57; refine (hT.out _).mono ?_; rintro e w1 ⟨rfl, rfl⟩))
    go_ret2
    exact ⟨rfl, Below.refl _ _⟩
  | big h2 h36 h10 hf ht hb =>
    have hf2 : rung x < 9218868437227405312 := of_decide_eq_true hf
    have hnn : isNaN x = false := by unfold isNaN; simp; omega
    rw [hnn] at hN
    rw [show decide (rung x = 9218868437227405312) = false by simp; omega] at hI
    have hI : Hid (∀ W, Calls Tryz.prog 56 #[.float .f64 x, .int .i64 0] W fun r w' => r = .returned (.bool false) ∧ W = w') := hI
    have hn10 : (b == 10) = false := beq_eq_false_iff_ne.2 h10
    have hT := Lib.hid (fun W => c_TruncG x hf W)
    have hge := ord_lt (x := rung x) (y := 4845873199050653696) hf2 (by decide)
    rw [show decide (rung x < 4845873199050653696) = false by simp; omega] at hge
    have hgt := ord_gt (x := rung x) (y := 4845873199050653696) hf2 (by decide)
    have heq := ord_eq (x := rung x) (y := 4845873199050653696) hf2 (by decide)
    have hgq : (FloatKind.f64.format.order (rung x) 4845873199050653696 == some Ordering.gt || FloatKind.f64.format.order (rung x) 4845873199050653696 == some Ordering.eq) = true := by
      rw [hgt, heq]; simp; omega
    clear hgt heq
    rw [order_comm] at ht
    generalize trW x = y at *
    generalize rung x = z at *
    clear hx hW h10 hf hf2 hnn hb
    rw [show textU ([] : List Nat) = ⟨#[]⟩ from rfl]
    go_enter Tryz.func23, Tryz.ntmps23
    go_wp2_with (first | (go_at_call 56; refine (hI.out _).mono ?_; rintro e w1 ⟨rfl, rfl⟩) | (go_at_call 57; refine (hT.out _).mono ?_; rintro e w1 ⟨rfl, rfl⟩) | (go_at_call 58; refine (hA.out _).mono ?_; rintro e w1 ⟨rfl, rfl⟩))
    go_ret2
    exact ⟨rfl, Below.refl _ _⟩
  | num h2 h36 h10 hf ht hb hc hL hl hF =>
    have hf2 : rung x < 9218868437227405312 := of_decide_eq_true hf
    have hnn : isNaN x = false := by unfold isNaN; simp; omega
    rw [hnn] at hN
    rw [show decide (rung x = 9218868437227405312) = false by simp; omega] at hI
    have hI : Hid (∀ W, Calls Tryz.prog 56 #[.float .f64 x, .int .i64 0] W fun r w' => r = .returned (.bool false) ∧ W = w') := hI
    have hn10 : (b == 10) = false := beq_eq_false_iff_ne.2 h10
    have hT := Lib.hid (fun W => c_TruncG x hf W)
    rename_i n
    have hge := ord_lt (x := rung x) (y := 4845873199050653696) hf2 (by decide)
    rw [show decide (rung x < 4845873199050653696) = true by simp; omega] at hge
    have hgt := ord_gt (x := rung x) (y := 4845873199050653696) hf2 (by decide)
    have heq := ord_eq (x := rung x) (y := 4845873199050653696) hf2 (by decide)
    have hgq : (FloatKind.f64.format.order (rung x) 4845873199050653696 == some Ordering.gt || FloatKind.f64.format.order (rung x) 4845873199050653696 == some Ordering.eq) = false := by
      rw [hgt, heq]; simp; omega
    rw [show decide (4845873199050653696 < rung x) = false by simp; omega] at hgt
    rw [show decide (rung x = 4845873199050653696) = false by simp; omega] at heq
    have hcv := fun w => run_convert_float_int (P := Tryz.prog) (w := w) 22 2 .f64 .i64 x n (by kernel_rfl) Tryz.underlying2 hc
    have hFI := Lib.hid (hF w hW)
    have hAs := Lib.hid (fun W => aw_ascii L (by omega) hL W)
    generalize u8sG L = S at *
    generalize textU L = TU at *
    rw [order_comm] at ht
    generalize trW x = y at *
    generalize rung x = z at *
    clear hx hW h10 hf hf2 hnn hb hc hL hl hF
    go_enter Tryz.func23, Tryz.ntmps23
    go_wp2_with (first | (go_at_call 56; refine (hI.out _).mono ?_; rintro e w1 ⟨rfl, rfl⟩) | (go_at_call 57; refine (hT.out _).mono ?_; rintro e w1 ⟨rfl, rfl⟩) | (go_at_call 58; refine (hA.out _).mono ?_; rintro e w1 ⟨rfl, rfl⟩))
    refine hFI.out.mono ?_
    rintro e w1 ⟨rfl, hb1⟩
    go_wp2_with fail
    refine (hAs.out _).mono ?_
    rintro e w2 ⟨rfl, hb2⟩
    have hb3 : Below w.heap.size w w2 := hb1.trans (hb2.mono hb1.size)
    go_wp2_with fail
    go_ret2
    exact ⟨rfl, hb3⟩
end Go.Proofs.YtbakbikilbaafaaGreatDoor
namespace Go.Proofs.YtbakbikilbaafaaGreatDoor
open Go.RowKit F64 Ieee
set_option linter.unusedVariables false
set_option maxHeartbeats 4000000
set_option maxRecDepth 100000

/-- is a number equal to itself? -/
def oE (x : Nat) : Bool := (FloatKind.f64.format.order x x == some Ordering.eq)
theorem v_bad (x : Nat) (w : World) : Calls Tryz.prog 120 #[.float .f64 x] w fun e w' => e = .returned (.bool (!oE x)) ∧ w' = w := by
  go_enter Tryz.func120, Tryz.ntmps120
  go_wp2
  go_ret
  exact ⟨rfl, rfl⟩
theorem v_bits (x : Nat) (w : World) : (callFunc 87 #[.float .f64 x]).run Tryz.prog w = .ok (.value (.int .u64 x)) w := by kernel_rfl
attribute [local go_sem] v_bits
theorem v_sign (x : Nat) : ∃ s : Bool, ∀ w : World, Calls Tryz.prog 121 #[.float .f64 x] w fun e w' => e = .returned (.bool s) ∧ w' = w := by
  refine ⟨decide (wrap64 (x : Int) < 0), fun w => ?_⟩
  go_enter Tryz.func121, Tryz.ntmps121
  go_wp2
  go_ret
  exact ⟨rfl, rfl⟩
theorem v_Same2 (x : Nat) (w : World) : Calls Tryz.prog 81 #[.float .f64 x, .float .f64 x, .int .i64 2] w fun e w' => e = .returned (.bool true) ∧ w' = w := by
  obtain ⟨s, hs⟩ := v_sign x
  have hb := v_bad x
  cases he : oE x with
  | true =>
    rw [he] at hb
    have he' : (FloatKind.f64.format.order x x == some Ordering.eq) = true := he
    replace hs := Lib.hid hs
    replace hb := Lib.hid hb
    clear he
    go_enter Tryz.func81, Tryz.ntmps81
    go_wp2_with (first | (go_at_call 120; refine (hb.out _).mono ?_; rintro e w1 ⟨rfl, rfl⟩) | (go_at_call 121; refine (hs.out _).mono ?_; rintro e w1 ⟨rfl, rfl⟩))
    go_ret
    exact ⟨by cases s <;> rfl, rfl⟩
  | false =>
    rw [he] at hb
    have he' : (FloatKind.f64.format.order x x == some Ordering.eq) = false := he
    replace hs := Lib.hid hs
    replace hb := Lib.hid hb
    clear he
    go_enter Tryz.func81, Tryz.ntmps81
    go_wp2_with (first | (go_at_call 120; refine (hb.out _).mono ?_; rintro e w1 ⟨rfl, rfl⟩) | (go_at_call 121; refine (hs.out _).mono ?_; rintro e w1 ⟨rfl, rfl⟩))
    go_ret
    exact ⟨rfl, rfl⟩
theorem c_RSame3 (x : Nat) (w : World) : Calls Tryz.prog 18 #[.float .f64 x, .float .f64 x] w fun e w' => e = .returned (.bool true) ∧ w = w' := by
  have h2 : ∀ W, Calls Tryz.prog 47 #[.float .f64 x, .float .f64 x] W fun e w' => e = .returned (.bool true) ∧ W = w' := fun W => by
    have hS := Lib.hid (fun W => v_Same2 x W)
    go_enter Tryz.func47, Tryz.ntmps47
    go_wp2_with (go_at_call 81; refine (hS.out _).mono ?_; rintro e w1 ⟨rfl, rfl⟩)
    go_ret
    exact ⟨rfl, rfl⟩
  replace h2 := Lib.hid h2
  go_enter Tryz.func18, Tryz.ntmps18
  go_wp2_with (go_at_call 47; refine (h2.out _).mono ?_; rintro e w1 ⟨rfl, rfl⟩)
  go_ret
  exact ⟨rfl, rfl⟩
theorem plL_lt (us : List Nat) : ∀ c ∈ plL us, c < 256 := fun c hc => by
  obtain ⟨u, -, rfl⟩ := List.mem_map.1 hc
  omega
theorem plL_len (us : List Nat) : (plL us).length = us.length := by simp [plL]
end Go.Proofs.YtbakbikilbaafaaGreatDoor
namespace Go.Proofs.YtbakbikilbaafaaGreatDoor
open Go.RowKit F64 Ieee
set_option linter.unusedVariables false
set_option maxHeartbeats 4000000
set_option maxRecDepth 100000

/-- both read a text's beginning alike -/
theorem whole_both (s : ByteArray) (b : Int) (hs : s.size ≤ 800) : ∃ r : Nat, (∀ w, LibW w → Calls Tryz.prog 24 #[.string s, .int .i64 b] w fun e w' => e = .returned (.float .f64 r) ∧ Below w.heap.size w w') ∧ (∀ w, LibW w → Calls Tryz.prog 25 #[.string s, .int .i64 b] w fun e w' => e = .returned (.float .f64 r) ∧ Below w.heap.size w w') := by
  obtain ⟨k, hF⟩ := FrA.ex (blkS s) (s.size / 2)
  have hlen : (unitsN (s.extract (2 * k) (2 * (s.size / 2))) ((s.extract (2 * k) (2 * (s.size / 2))).size / 2)).length ≤ 400 := by
    rw [unitsN_len, ByteArray.size_extract]; omega
  generalize hus : unitsN (s.extract (2 * k) (2 * (s.size / 2))) ((s.extract (2 * k) (2 * (s.size / 2))).size / 2) = us at hlen
  obtain ⟨r, hr⟩ := wholeR_ex (sgnL (plL us)).2 (ngL (plL us)) (r32 b)
  refine ⟨r, fun w hW => c_dWholeG s k _ b hs hF (by rw [hus]) (plL_lt us) (by rw [plL_len]; omega) hr w hW, fun w hW => c_RWholeG s k _ b r hs hF (by rw [hus]) (asL_lt us) (by rw [asL_len]; omega) ?_ w hW⟩
  obtain ⟨g1, g2⟩ := mn_sgn (asL_lt us)
  rw [← mn_as, g1, g2] at hr
  exact mn_whole (fun c hc => asL_lt us c (sgnL_mem c hc)) hr
theorem c_LBases (x : Nat) (b : Int) (s : ByteArray) (hx : x < 18446744073709551616) (w : World) (hL : LibW w) : Calls Tryz.prog 8 #[.float .f64 x, .int .i64 b, .string s] w fun e w' => e = .returned (.bool true) ∧ Below w.heap.size w w' := by
  have hA := Lib.hid (c_awake3 w hL)
  by_cases hg : 800 < s.size
  · have hg2 : 800 < (s.size : Int) := by omega
    go_enter Tryz.func8, Tryz.ntmps8
    go_wp2_with fail
    refine hA.out.mono ?_
    rintro e w1 ⟨rfl, b1⟩
    go_wp2_with fail
    go_ret
    exact ⟨rfl, b1⟩
  · have hg2 : ¬ 800 < (s.size : Int) := by omega
    obtain ⟨r, h1, h2⟩ := whole_both s b (by omega)
    obtain ⟨L, er, hB⟩ := baseR_ex x b (showT_ex x hx)
    have k1 := Lib.hid (fun W hW => c_dBase hx hB W hW)
    have k2 := Lib.hid (fun W hW => c_RBase hx hB W hW)
    have hLk := Lib.hid (fun W (hb : Below w.heap.size w W) => hL.keep hb)
    have hS := Lib.hid (fun W => c_RSame3 r W)
    replace h1 := Lib.hid h1
    replace h2 := Lib.hid h2
    replace hL := Lib.hid hL
    clear hB hx
    generalize textU L = T at *
    have he : (er == er) = true := beq_self_eq_true _
    go_enter Tryz.func8, Tryz.ntmps8
    go_wp2_with fail
    refine hA.out.mono ?_
    rintro e w1 ⟨rfl, b1⟩
    go_wp2_with fail
    refine (k1.out _ (hLk.out _ b1)).mono ?_
    rintro e w2 ⟨rfl, b2⟩
    have c2 := b1.trans (b2.mono b1.size)
    clear b1 b2
    go_wp2_with fail
    refine (k2.out _ (hLk.out _ c2)).mono ?_
    rintro e w3 ⟨rfl, b3⟩
    have c3 := c2.trans (b3.mono c2.size)
    clear c2 b3
    go_wp2_with fail
    refine (h1.out _ (hLk.out _ c3)).mono ?_
    rintro e w4 ⟨rfl, b4⟩
    have c4 := c3.trans (b4.mono c3.size)
    clear c3 b4
    go_wp2_with fail
    refine (h2.out _ (hLk.out _ c4)).mono ?_
    rintro e w5 ⟨rfl, b5⟩
    have c5 := c4.trans (b5.mono c4.size)
    clear c4 b5
    go_wp2_with (go_at_call 18; refine (hS.out _).mono ?_; rintro e w' ⟨rfl, rfl⟩)
    go_ret
    exact ⟨rfl, c5⟩
end Go.Proofs.YtbakbikilbaafaaGreatDoor
namespace Go.Proofs.YtbakbikilbaafaaGreatDoor
open Go.RowKit Go.Lib
set_option linter.unusedVariables false
set_option linter.unusedSimpArgs false
set_option maxHeartbeats 4000000
set_option maxRecDepth 100000

theorem slice_reads {P : Program} {w : World} {name : String} {g c : Nat} {t e : TypeId} {D : List (DataW Unit)} (hn : P.globalNamed name = some g) (hy : (P.globals[g]?).map (·.type) = some t)
    (ht : P.underlying t = some (.slice e)) (hce : P.cellsOf e = c) (hc : 0 < c) (hD : 0 < D.length) (E : Nat → List Value) (hE0 : ∀ i, (E i).length = c)
    (hE : ∀ (base : Nat) (sp : Nat → Bool) (held : Bool) (i m : Nat) (cs : List Value) (d : DataW Unit) (p : List MemPlace), D[i]? = some d → DataW.trod (fun _ => ()) P w base sp held m e cs = some (d, p) → cs = E i)
    (h : VarReads P w name (.slice D [])) : ∃ b o cap, w.cell? ⟨g, 0, none⟩ = some (.slice (some ⟨b, o, none⟩) D.length cap) ∧ ∀ (i j : Nat) (v : Value), i < D.length → (E i)[j]? = some v → w.cell? ⟨b, o + i * c + j, none⟩ = some v := by
  obtain ⟨g', t', cs, fuel, p, hg, hty, hvar, hd⟩ := h
  obtain rfl := Option.some.inj (hn.symm.trans hg)
  obtain rfl := Option.some.inj (hy.symm.trans hty)
  rcases DataW.trod_slice ht hd with ⟨_, hx⟩ | ⟨a, len, cap, el, rs, m, rfl, hcs, hx, _, hlc, _, hel, helem, hsp, _⟩
  · cases hx
  have e0 := congrArg Prod.fst hx
  simp only [DataW.slice.injEq] at e0
  obtain ⟨eE, eR⟩ := e0
  have hlen : len = D.length := by
    have := congrArg List.length eE
    simp at this
    omega
  have hcell : ∀ (i j : Nat) (v : Value), i < D.length → (E i)[j]? = some v → w.cell? ((a.add (i * c)).add j) = some v := by
    intro i j v hi hv
    have h1 := helem i (by omega)
    rw [hce] at h1
    obtain ⟨b, hb⟩ : ∃ b, el[i]? = some b := ⟨el[i]'(by omega), List.getElem?_eq_getElem (by omega)⟩
    rw [hb] at h1
    obtain ⟨ce, hcc, hte⟩ := Option.bind_eq_some_iff.1 h1
    have hdi : D[i]? = some b.1 := by rw [eE, List.getElem?_map, hb]; rfl
    have hEi := hE _ _ _ i _ ce b.1 b.2 hdi hte
    obtain ⟨_, _, hcell⟩ := World.cells?_some hcc
    have hj : j < c := by rw [← hE0 i]; exact (List.getElem?_eq_some_iff.1 hv).1
    rw [hcell j hj, hEi, hv]
  obtain ⟨R, o, sR⟩ := a
  have v0 : (E 0)[0]? = some ((E 0)[0]'(by rw [hE0]; exact hc)) := List.getElem?_eq_getElem _
  obtain rfl : sR = none := by
    have h00 := hcell 0 0 _ hD v0
    have : ((Addr.add ⟨R, o, sR⟩ (0 * c)).add 0) = ⟨R, o, sR⟩ := by simp [Addr.add]
    rw [this] at h00
    exact Go.Proofs.cell_spot h00
  refine ⟨R, o, cap, ?_, fun i j v hi hv => ?_⟩
  · rw [World.var?_cell hg hvar 0, ← Array.getElem?_toList, hcs, hlen]
    rfl
  · have := hcell i j v hi hv
    rw [Addr.add_lit, Addr.add_lit] at this
    exact this
theorem trod_lit {H : Type} {enc : TypeId × Value → H} {P : Program} {w : World} {base : Nat} {sp : Nat → Bool} {held : Bool} {fuel : Nat} {t : TypeId} {cs : List Value} {l : Lit} {p : List MemPlace}
    (h : DataW.trod enc P w base sp held fuel t cs = some (.lit l, p)) : cs = [l.value] := by
  cases fuel with
  | zero => simp [DataW.trod] at h
  | succ n =>
    unfold DataW.trod at h
    split at h
    all_goals first
      | (simp only [Option.some.injEq, Prod.mk.injEq, DataW.lit.injEq] at h; obtain ⟨rfl, _⟩ := h; rfl)
      | (split at h
         · simp only [Option.some.injEq, Prod.mk.injEq, DataW.lit.injEq] at h
           obtain ⟨rfl, _⟩ := h
           first | rfl | (simp_all [Lit.value])
         · cases h)
      | (simp [Option.map_eq_some_iff, Option.bind_eq_some_iff] at h; done)
      | (exfalso; revert h; simp [Option.map_eq_some_iff, Option.bind_eq_some_iff]; done)
      | (exfalso; revert h; split <;> simp [Option.map_eq_some_iff, Option.bind_eq_some_iff]; done)
      | (exfalso; revert h; split <;> (try split) <;> simp [Option.map_eq_some_iff, Option.bind_eq_some_iff])
theorem lits_of_struct {H : Type} {enc : TypeId × Value → H} {P : Program} {w : World} {base : Nat} {sp : Nat → Bool} {held : Bool} {fuel : Nat} {t : TypeId} {fs : Array Field} {cs : List Value} {ls : List Lit} {p : List MemPlace} (ht : P.underlying t = some (.struct fs))
    (hf : ∀ (i : Nat) (f : Field), fs[i]? = some f → f.offset = i ∧ P.cellsOf f.type = 1) (hct : P.cellsOf t = fs.size)
    (h : DataW.trod enc P w base sp held fuel t cs = some (.agg (ls.map fun z => .lit z), p)) : cs = ls.map Lit.value := by
  obtain ⟨xs, n, rfl, hx, hl, hxl, hall⟩ := DataW.trod_struct ht h
  have hxs : xs.map (·.1) = ls.map fun z => (DataW.lit z : DataW H) := by
    have := congrArg Prod.fst hx
    simpa using this.symm
  have hzl : ls.length = fs.size := by
    have := congrArg List.length hxs
    simp at this
    omega
  apply List.ext_getElem?
  intro i
  by_cases hi : i < fs.size
  · obtain ⟨ho, hc⟩ := hf i fs[i] (by simp [hi])
    have h1 := hall i fs[i] (by simp [hi])
    obtain ⟨b, hb⟩ : ∃ b, xs[i]? = some b := ⟨xs[i]'(by omega), List.getElem?_eq_getElem (by omega)⟩
    obtain ⟨z, hz⟩ : ∃ z, ls[i]? = some z := ⟨ls[i]'(by omega), List.getElem?_eq_getElem (by omega)⟩
    have h3 : (xs.map (·.1))[i]? = some (DataW.lit z : DataW H) := by rw [hxs, List.getElem?_map, hz]; rfl
    rw [List.getElem?_map, hb] at h3
    have h4 : b.1 = DataW.lit z := Option.some.inj h3
    rw [hb, ho, hc, show b = (DataW.lit z, b.2) by rw [← h4]] at h1
    have hcz := trod_lit h1
    have h2 : cs[i]? = some z.value := by
      have := congrArg (·[0]?) hcz
      simpa [List.getElem?_take, List.getElem?_drop] using this
    rw [h2, List.getElem?_map, hz]; rfl
  · rw [List.getElem?_eq_none (by omega), List.getElem?_eq_none (by simp; omega)]
def laidL : List (String × DataW Unit) := Rows.digitsShowRow.laid
theorem gPow : Tryz.prog.globalNamed "internal/strconv.pow10Tab" = some 12 := by kernel_rfl
theorem tPow : (Tryz.prog.globals[12]?).map (·.type) = some 238 := by kernel_rfl
theorem gP10 : Tryz.prog.globalNamed "internal/strconv.uint64pow10" = some 1 := by kernel_rfl
theorem tP10 : (Tryz.prog.globals[1]?).map (·.type) = some 161 := by kernel_rfl
theorem gFI : Tryz.prog.globalNamed "internal/strconv.float64info" = some 9 := by kernel_rfl
theorem tFI : (Tryz.prog.globals[9]?).map (·.type) = some 222 := by kernel_rfl
theorem gF10 : Tryz.prog.globalNamed "internal/strconv.float64pow10" = some 16 := by kernel_rfl
theorem tF10 : (Tryz.prog.globals[16]?).map (·.type) = some 247 := by kernel_rfl
theorem gPT : Tryz.prog.globalNamed "internal/strconv.powtab" = some 15 := by kernel_rfl
theorem tPT : (Tryz.prog.globals[15]?).map (·.type) = some 246 := by kernel_rfl
theorem gLC : Tryz.prog.globalNamed "internal/strconv.leftcheats" = some 13 := by kernel_rfl
theorem tLC : (Tryz.prog.globals[13]?).map (·.type) = some 242 := by kernel_rfl
theorem gOp : Tryz.prog.globalNamed "internal/strconv.optimize" = some 5 := by kernel_rfl
theorem gEr : Tryz.prog.globalNamed "strconv.ErrRange" = some 7 := by kernel_rfl
theorem tEr : (Tryz.prog.globals[7]?).map (·.type) = some 83 := by kernel_rfl
theorem cTab20 : Tryz.prog.cellsOf 161 = 20 := by kernel_rfl
theorem cU64 : Tryz.prog.cellsOf 102 = 1 := by kernel_rfl
theorem cHiLo : Tryz.prog.cellsOf 237 = 2 := by kernel_rfl
theorem cF64 : Tryz.prog.cellsOf 22 = 1 := by kernel_rfl
theorem cInt : Tryz.prog.cellsOf 3 = 1 := by kernel_rfl
theorem cStr : Tryz.prog.cellsOf 9 = 1 := by kernel_rfl
theorem cCheat : Tryz.prog.cellsOf 241 = 2 := by kernel_rfl
theorem cFInfo : Tryz.prog.cellsOf 222 = 3 := by kernel_rfl
theorem pow_of {W : World} (h : VarReads Tryz.prog W "internal/strconv.pow10Tab" Pinned.pow10Tab) : PowT W := by
  obtain ⟨g, t, cs, fuel, p, hg, ht, hv, hd⟩ := h
  obtain rfl := Option.some.inj (gPow.symm.trans hg)
  obtain rfl := Option.some.inj (tPow.symm.trans ht)
  obtain ⟨xs, m, rfl, hx, hlen, hn, hel⟩ := DataW.trod_array Tryz.underlying238 hd
  rw [cHiLo] at hel
  have hxs : xs.map (·.1) = Pinned.pow10Rows.map fun x => (DataW.agg [.lit (.int .u64 x.1), .lit (.int .u64 x.2)] : DataW Unit) := by
    have := congrArg Prod.fst hx
    simpa [Pinned.pow10Tab] using this.symm
  intro i x hxi
  have hil : i < 696 := by
    have := (List.getElem?_eq_some_iff.1 hxi).1
    rw [rows_len] at this
    exact this
  have hi := hel i hil
  have hxi2 : (xs.map (·.1))[i]? = some (.agg [.lit (.int .u64 x.1), .lit (.int .u64 x.2)]) := by
    rw [hxs, List.getElem?_map, hxi]; rfl
  rw [List.getElem?_map, Option.map_eq_some_iff] at hxi2
  obtain ⟨⟨d, pp⟩, hxe, rfl⟩ := hxi2
  rw [hxe] at hi
  have hz := lits_of_struct (ls := [.int .u64 x.1, .int .u64 x.2]) Tryz.underlying237 (by
    intro i f hf
    rcases i with _ | _ | i
    · simp at hf; subst hf; exact ⟨rfl, cU64⟩
    · simp at hf; subst hf; exact ⟨rfl, cU64⟩
    · simp at hf) cHiLo hi
  have c0 := congrArg (·[0]?) hz
  have c1 := congrArg (·[1]?) hz
  simp only [List.getElem?_take, List.getElem?_drop] at c0 c1
  simp [Lit.value] at c0 c1
  exact ⟨(World.var?_cell hg hv _).trans c0, (World.var?_cell hg hv _).trans c1⟩
theorem p10_of {W : World} (h : VarReads Tryz.prog W "internal/strconv.uint64pow10" Rows.laid_internal_strconv_uint64pow10) : P10 W ∧ Lib.TabIs Tryz.prog W "internal/strconv.uint64pow10" .u64 Lib.pow10Tab := by
  obtain ⟨g, t, cs, fuel, p, hg, ht, hv, hd⟩ := h
  obtain rfl := Option.some.inj (gP10.symm.trans hg)
  obtain rfl := Option.some.inj (tP10.symm.trans ht)
  have hz := cells_of_tab (zs := Lib.pow10Tab) Tryz.underlying161 Tryz.underlying102 cU64 cTab20 hd
  have hT : Lib.TabIs Tryz.prog W "internal/strconv.uint64pow10" .u64 Lib.pow10Tab := by
    unfold TabIs
    rw [hv, ← hz]
  refine ⟨fun i hi => ?_, hT⟩
  have hc := hT.cell gP10 i (by show i < 20; exact hi)
  rw [hc]
  have all : ∀ i : Fin 20, Lib.pow10Tab.getD i.val 0 = ((10 ^ i.val : Nat) : Int) := by decide +kernel
  rw [all ⟨i, hi⟩]
theorem fi_of {W : World} (h : VarReads Tryz.prog W "internal/strconv.float64info" Rows.laid_internal_strconv_float64info) : FI W := by
  obtain ⟨g, t, cs, fuel, p, hg, ht, hv, hd⟩ := h
  obtain rfl := Option.some.inj (gFI.symm.trans hg)
  obtain rfl := Option.some.inj (tFI.symm.trans ht)
  have hz := lits_of_struct (ls := [.int .u64 52, .int .u64 11, .int .i64 (-1023)]) Tryz.underlying222 (by
    intro i f hf
    rcases i with _ | _ | _ | i
    · simp at hf; subst hf; exact ⟨rfl, by kernel_rfl⟩
    · simp at hf; subst hf; exact ⟨rfl, by kernel_rfl⟩
    · simp at hf; subst hf; exact ⟨rfl, cInt⟩
    · simp at hf) cFInfo hd
  refine ⟨?_, ?_, ?_⟩
  · have := congrArg (·[0]?) hz
    rw [Array.getElem?_toList] at this
    exact (World.var?_cell hg hv _).trans this
  · have := congrArg (·[1]?) hz
    rw [Array.getElem?_toList] at this
    exact (World.var?_cell hg hv _).trans this
  · have := congrArg (·[2]?) hz
    rw [Array.getElem?_toList] at this
    exact (World.var?_cell hg hv _).trans this
theorem f10_of {W : World} (h : VarReads Tryz.prog W "internal/strconv.float64pow10" Rows.laid_internal_strconv_float64pow10) : F10 W := by
  obtain ⟨b, o, cap, h0, h1⟩ := slice_reads (c := 1) gF10 tF10 Tryz.underlying247 cF64 (by decide) (by decide) (fun i => [.float .f64 (pow10W.getD i 0)]) (fun _ => rfl) (by
    intro base sp held i m cs d p hd htr
    have hall : ∀ i : Fin 23, ([.lit (.float .f64 4607182418800017408)] : List (DataW Unit)).length = 1 := fun _ => rfl
    have hdi : d = .lit (.float .f64 (pow10W.getD i 0)) := by
      have hi : i < 23 := (List.getElem?_eq_some_iff.1 hd).1
      rcases i with _ | _ | _ | _ | _ | _ | _ | _ | _ | _ | _ | _ | _ | _ | _ | _ | _ | _ | _ | _ | _ | _ | _ | i
      all_goals first | (exact (Option.some.inj hd).symm) | omega
    subst hdi
    exact trod_lit htr) h
  refine ⟨b, o, cap, h0, fun i hi => ?_⟩
  have := h1 i 0 _ hi rfl
  rw [Nat.mul_one, Nat.add_zero] at this
  exact this
theorem pt_of {W : World} (h : VarReads Tryz.prog W "internal/strconv.powtab" Rows.laid_internal_strconv_powtab) : PT W := by
  obtain ⟨b, o, cap, h0, h1⟩ := slice_reads (c := 1) gPT tPT Tryz.underlying246 cInt (by decide) (by decide) (fun i => [.int .i64 (PTL.getD i 0)]) (fun _ => rfl) (by
    intro base sp held i m cs d p hd htr
    have hdi : d = .lit (.int .i64 (PTL.getD i 0)) := by
      have hi : i < 9 := (List.getElem?_eq_some_iff.1 hd).1
      rcases i with _ | _ | _ | _ | _ | _ | _ | _ | _ | i
      all_goals first | (exact (Option.some.inj hd).symm) | omega
    subst hdi
    exact trod_lit htr) h
  refine ⟨b, o, cap, h0, fun i hi => ?_⟩
  have := h1 i 0 _ hi rfl
  rw [Nat.mul_one, Nat.add_zero] at this
  exact this
theorem cheat_len : Pinned.cheatRows.length = 61 := by decide +kernel
theorem lc_of {W : World} (h : VarReads Tryz.prog W "internal/strconv.leftcheats" Pinned.leftcheats) : LC W := by
  have hlen : (Pinned.cheatRows.map fun x => (DataW.agg [.lit (.int .i64 x.1), .lit (.string x.2)] : DataW Unit)).length = 61 := by rw [List.length_map, cheat_len]
  obtain ⟨b, o, cap, h0, h1⟩ := slice_reads (c := 2) (D := Pinned.cheatRows.map fun x => (DataW.agg [.lit (.int .i64 x.1), .lit (.string x.2)] : DataW Unit)) gLC tLC Tryz.underlying242 cCheat (by decide) (by rw [hlen]; decide)
    (fun i => match Pinned.cheatRows[i]? with | some x => [.int .i64 x.1, .string ⟨x.2.toArray⟩] | none => [.int .i64 0, .int .i64 0]) (by
    intro i
    cases Pinned.cheatRows[i]? <;> rfl) (by
    intro base sp held i m cs d p hd htr
    rw [List.getElem?_map, Option.map_eq_some_iff] at hd
    obtain ⟨x, hx, rfl⟩ := hd
    have hz := lits_of_struct (ls := [.int .i64 x.1, .string x.2]) Tryz.underlying241 (by
      intro i f hf
      rcases i with _ | _ | i
      · simp at hf; subst hf; exact ⟨rfl, cInt⟩
      · simp at hf; subst hf; exact ⟨rfl, cStr⟩
      · simp at hf) cCheat htr
    rw [hz]
    simp only [hx]
    rfl) h
  rw [hlen] at h0 h1
  refine ⟨b, o, cap, h0, fun i x hx => ?_⟩
  have hi : i < 61 := by
    have := (List.getElem?_eq_some_iff.1 hx).1
    rw [cheat_len] at this
    exact this
  have c0 := h1 i 0 (.int .i64 x.1) hi (by simp only [hx]; rfl)
  have c1 := h1 i 1 (.string ⟨x.2.toArray⟩) hi (by simp only [hx]; rfl)
  rw [Nat.add_zero, Nat.mul_comm] at c0
  rw [Nat.mul_comm i 2] at c1
  exact ⟨c0, c1⟩
theorem op_of {W : World} (h : VarReads Tryz.prog W "internal/strconv.optimize" Rows.laid_internal_strconv_optimize) : W.cell? ⟨5, 0, none⟩ = some (.bool true) := by
  obtain ⟨g, t, cs, fuel, p, hg, ht, hv, hd⟩ := h
  obtain rfl := Option.some.inj (gOp.symm.trans hg)
  have hz := trod_lit (l := .bool true) hd
  have := congrArg (·[0]?) hz
  rw [Array.getElem?_toList] at this
  exact (World.var?_cell hg hv _).trans this
theorem er_of {W : World} (h : VarReads Tryz.prog W "strconv.ErrRange" Rows.laid_strconv_ErrRange) : ∃ te pe, W.cell? ⟨7, 0, none⟩ = some (.iface te pe) := by
  obtain ⟨g, t, cs, fuel, p, hg, ht, hv, hd⟩ := h
  obtain rfl := Option.some.inj (gEr.symm.trans hg)
  obtain rfl := Option.some.inj (tEr.symm.trans ht)
  have hcs : ∃ u v, cs.toList = [.iface u v] := by
    cases fuel with
    | zero => simp [DataW.trod] at hd
    | succ n =>
      unfold DataW.trod at hd
      rw [Tryz.underlying83] at hd
      unfold Rows.laid_strconv_ErrRange at hd
      split at hd
      all_goals first
        | (cases hd; done)
        | (rename_i e; cases e; done)
        | (rename_i e _; cases e; done)
        | (rename_i e _ _; cases e; done)
        | exact ⟨_, _, by assumption⟩
  obtain ⟨u, v, hcs⟩ := hcs
  have := congrArg (·[0]?) hcs
  rw [Array.getElem?_toList] at this
  exact ⟨u, v, (World.var?_cell hg hv _).trans this⟩
theorem gTZ : Tryz.prog.globalNamed "math/bits.deBruijn64tab" = some 11 := by kernel_rfl
theorem tTZ : (Tryz.prog.globals[11]?).map (·.type) = some 235 := by kernel_rfl
theorem cTab64 : Tryz.prog.cellsOf 235 = 64 := by kernel_rfl
theorem cU8 : Tryz.prog.cellsOf 5 = 1 := by kernel_rfl
theorem tz_of {W : World} (h : VarReads Tryz.prog W "math/bits.deBruijn64tab" Rows.laid_math_bits_deBruijn64tab) : ∀ (i x : Nat), Lib.deBruijn64tab[i]? = some x → W.cell? ⟨11, i, none⟩ = some (.int .u8 (x : Int)) := by
  obtain ⟨g, t, cs, fuel, p, hg, ht, hv, hd⟩ := h
  obtain rfl := Option.some.inj (gTZ.symm.trans hg)
  obtain rfl := Option.some.inj (tTZ.symm.trans ht)
  have hz := cells_of_tab (zs := Lib.deBruijn64tab.map fun n : Nat => (n : Int)) Tryz.underlying235 Tryz.underlying5 cU8 cTab64 hd
  intro i x hx
  have hc : cs[i]? = some (.int .u8 (x : Int)) := by
    rw [← Array.getElem?_toList, hz]
    simp [hx]
  exact (World.var?_cell hg hv _).trans hc
theorem rowOfG {W : World} (hS : W.ShapedOpen Tryz.prog) (g : Nat) (zero : Array Value) (t : TypeId) (hg : g < Tryz.prog.globals.size) (h0 : ((begin Tryz.prog (fun _ _ => 0) default).world.heap[g]?).bind Obj.row? = some (zero, t)) : ∃ c t, W.heap[g]? = some (.cells c t (0, 0)) := by
  obtain ⟨cs, hh, -, -⟩ := hS.1 g zero t hg h0
  exact ⟨cs, t, hh⟩
theorem lib_of {W : World} (hS : W.ShapedOpen Tryz.prog) (h : laidMet Tryz.prog laidL W) : LibW W := by
  have hp := p10_of (laidMet.reads h (n := "internal/strconv.uint64pow10") (.tail _ (.tail _ (.tail _ (.tail _ (.tail _ (.tail _ (.tail _ (.tail _ (.head _))))))))))
  exact ⟨pow_of (laidMet.reads h (.tail _ (.tail _ (.tail _ (.tail _ (.tail _ (.tail _ (.tail _ (.tail _ (.tail _ (.tail _ (.tail _ (.tail _ (.tail _ (.head _))))))))))))))), hp.1,
    fi_of (laidMet.reads h (.tail _ (.tail _ (.tail _ (.head _))))),
    f10_of (laidMet.reads h (.tail _ (.tail _ (.tail _ (.tail _ (.tail _ (.tail _ (.head _)))))))),
    op_of (laidMet.reads h (.tail _ (.tail _ (.tail _ (.tail _ (.head _)))))),
    er_of (laidMet.reads h (.tail _ (.tail _ (.tail _ (.tail _ (.tail _ (.tail _ (.tail _ (.tail _ (.tail _ (.tail _ (.head _)))))))))))),
    pt_of (laidMet.reads h (.tail _ (.tail _ (.tail _ (.tail _ (.tail _ (.head _))))))),
    lc_of (laidMet.reads h (.tail _ (.tail _ (.tail _ (.tail _ (.tail _ (.tail _ (.tail _ (.tail _ (.tail _ (.tail _ (.tail _ (.tail _ (.head _)))))))))))))),
    Go.Proofs.cell_of_shapedOpen_int hS (of_decide_eq_true (by kernel_rfl)) (t := 3) (zero := #[.int .i64 0]) (by kernel_rfl) rfl (by kernel_rfl) (by kernel_rfl) Tryz.underlying3, hp.2, tz_of (laidMet.reads h (.tail _ (.head _))), rowOfG hS 9 #[.int .u64 0, .int .u64 0, .int .i64 0] 222 (of_decide_eq_true (by kernel_rfl)) (by kernel_rfl), rowOfG hS 8 #[.int .u64 0, .int .u64 0, .int .i64 0] 222 (of_decide_eq_true (by kernel_rfl)) (by kernel_rfl)⟩
end Go.Proofs.YtbakbikilbaafaaGreatDoor
