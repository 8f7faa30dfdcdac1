/-
  Contracts: The contract of the reference's decimal (printed by gen_XYC.py). The contract of the reference's ascii.
-/
import Derived.Test.YtbakbikilbaafaaGreatDoorQ16
namespace Go.Proofs.YtbakbikilbaafaaGreatDoor
open Go.RowKit F64 Ieee
set_option linter.unusedVariables false
set_option maxHeartbeats 4000000
set_option maxRecDepth 100000

theorem or32_e (c : Nat) (hc : c < 256) : (c ||| 32 = 101 ↔ c = 101 ∨ c = 69) := by
  have all : ∀ c : Fin 256, (c.val ||| 32 = 101 ↔ c.val = 101 ∨ c.val = 69) := by decide +kernel
  exact all ⟨c, hc⟩
theorem c_Rdecimal (L : List Nat) (hL : ∀ c ∈ L, c < 256) (hl : L.length ≤ 10000000) (w : World) :
    Calls Tryz.prog 53 #[.string (u8sG L), .int .i64 0] w fun r w' => r = .returned (.int .i64 (decN L : Int)) ∧ w = w' := by
  have hsz : (u8sG L).size = L.length := uG_size L
  have hRun := Lib.hid (fun at_ (hat : at_ ≤ L.length) W => c_Rrun L hL at_ 10 hat hl W)
  have hget := Lib.hid (fun i c (h : L.getD i 0 = c) (hi : i < L.length) (h3 : i < (u8sG L).size) => uG_get L i c (getD_lt h hi) (hL _ (List.mem_of_getElem? (getD_lt h hi))) h3)
  have hc256 := Lib.hid (fun i (hi : i < L.length) => hL (L.getD i 0) (List.mem_of_getElem? (getD_lt rfl hi)))
  have hdef : Hid (decN L = if L.getD (runL 10 L) 0 = 46 then (if runL 10 L + runL 10 (L.drop (runL 10 L + 1)) = 0 then 0 else decE L (runL 10 L + 1 + runL 10 (L.drop (runL 10 L + 1)))) else if runL 10 L = 0 then 0 else decE L (runL 10 L)) := rfl
  have hdE : Hid (∀ n, decE L n = if L.getD n 0 ||| 32 = 101 then (if 0 < runL 10 (L.drop (decM L n)) then decM L n + runL 10 (L.drop (decM L n)) else n) else n) := fun n => rfl
  have hdM : Hid (∀ n, decM L n = if L.getD (n + 1) 0 = 43 ∨ L.getD (n + 1) 0 = 45 then n + 2 else n + 1) := fun n => rfl
  have hle := Lib.hid (fun at_ (hat : at_ ≤ L.length) => (show at_ + runL 10 (L.drop at_) ≤ L.length by have := runL_le 10 (L.drop at_); rw [List.length_drop] at this; omega))
  have hge0 := Lib.hid (fun i (hi : L.length ≤ i) => getD_ge (L := L) hi)
  have hdn := Lib.hid (fun i (hi : L.length ≤ i) => (show runL 10 (L.drop i) = 0 by rw [List.drop_eq_nil_of_le hi]; rfl))
  have hal := hle.out 0 (Nat.zero_le _)
  have hR0 := Lib.hid (fun W => hRun.out 0 (Nat.zero_le _) W)
  rw [List.drop_zero] at hal hR0
  have hszl : (u8sG L).size ≤ 10000000 := by omega
  replace hsz := Lib.hid hsz
  generalize u8sG L = S at *
  generalize hN : decN L = N at *
  replace hN := Lib.hid hN
  clear hL
  generalize runL 10 L = a at *
  have hR0 : Hid (∀ W, Calls Tryz.prog 51 #[.string S, .int .i64 0, .int .i64 10] W fun r w' => r = .returned (.int .i64 (a : Int)) ∧ W = w') := hR0
  have hsN := hsz.out
  go_enter Tryz.func53, Tryz.ntmps53
  go_wp2_with fail
  refine (hR0.out _).mono ?_
  rintro e w1 ⟨rfl, rfl⟩
  clear hR0
  by_cases hdot : L.getD a 0 = 46
  · have hd0 := hdef.out
    rw [if_pos hdot] at hd0
    have hal2 : a < L.length := by
      rcases Nat.lt_or_ge a L.length with h | h
      · exact h
      · rw [hge0.out a h] at hdot; omega
    have hlS0 : a < S.size := by omega
    have hg0 := hget.out a 46 hdot hal2 hlS0
    have hlI0 : (a : Int) < (S.size : Int) := by omega
    have hbl2 := hle.out (a + 1) (by omega)
    have hR1 : Hid (∀ W, Calls Tryz.prog 51 #[.string S, .int .i64 ((a : Int) + 1), .int .i64 10] W fun r w' => r = .returned (.int .i64 (runL 10 (L.drop (a + 1)) : Int)) ∧ W = w') := fun W => hRun.out (a + 1) (by omega) W
    generalize runL 10 (L.drop (a + 1)) = b at *
    obtain ⟨n, hn⟩ : ∃ n, a + 1 + b = n := ⟨_, rfl⟩
    rw [hn] at hd0 hbl2
    have hnI : (a : Int) + (1 + (b : Int)) = (n : Int) := by omega
    have hn0 : ((n : Int) == 0) = false := beq_eq_false_iff_ne.2 (by omega)
    clear hdot hn
    replace hsN := Lib.hid hsN
    go_wp2_with fail
    refine (hR1.out _).mono ?_
    rintro e w3 ⟨rfl, rfl⟩
    clear hR1
    have hsN := hsN.out
    by_cases hz : a + b = 0
    · rw [if_pos hz] at hd0
      have hfin := Lib.hid (hd0)
      have hq : ((a : Int) + (b : Int) == 0) = true := by simp; omega
      clear hsN hd0 hz
      go_wp2_with fail
      go_ret
      exact ⟨by rw [hfin.out]; rfl, rfl⟩
    · rw [if_neg hz] at hd0
      have hq : ((a : Int) + (b : Int) == 0) = false := beq_eq_false_iff_ne.2 (by omega)
      have hres := hd0
      clear hd0 hz
      have hsE := hdE.out n
      by_cases hend : n < L.length
      · have hc2 := hc256.out n hend
        have hlS : n < S.size := by omega
        have hg := hget.out n _ rfl hend hlS
        have hlI : (n : Int) < (S.size : Int) := by omega
        have hsM := hdM.out n
        have hoe := or32_e _ hc2
        by_cases h101 : L.getD n 0 = 101
        · rw [if_pos (hoe.2 (.inl h101))] at hsE
          rw [h101] at hg hc2
          clear h101 hoe
          by_cases hend2 : n + 1 < L.length
          · have hc3 := hc256.out (n + 1) hend2
            have hlS2 : n + 1 < S.size := by omega
            have hg2 := hget.out (n + 1) _ rfl hend2 hlS2
            have hlI2 : (n : Int) + 1 < (S.size : Int) := by omega
            have hnI2 : ((n : Int) + 1).toNat = n + 1 := by omega
            by_cases h43 : L.getD (n + 1) 0 = 43
            · rw [if_pos (Or.inl h43)] at hsM
              rw [hsM] at hsE
              rw [h43] at hg2 hc3
              clear h43
              have hkk := hle.out (n + 2) (by omega)
              have hRk : Hid (∀ W, Calls Tryz.prog 51 #[.string S, .int .i64 ((n : Int) + 1 + 1), .int .i64 10] W fun r w' => r = .returned (.int .i64 (runL 10 (L.drop (n + 2)) : Int)) ∧ W = w') := fun W => hRun.out (n + 2) (by omega) W
              generalize runL 10 (L.drop (n + 2)) = k at *
              by_cases hk : 0 < k
              · rw [if_pos hk] at hsE
                have hfin := Lib.hid (hres.trans hsE)
                clear hsE hsM hsN
                go_wp2_with fail
                refine (hRk.out _).mono ?_
                rintro e w9 ⟨rfl, rfl⟩
                go_wp2_with fail
                go_ret
                exact ⟨by rw [hfin.out]; rfl, rfl⟩
              · rw [if_neg hk] at hsE
                obtain rfl : k = 0 := by omega
                have hfin := Lib.hid (hres.trans hsE)
                clear hsE hsM hsN hk
                go_wp2_with fail
                refine (hRk.out _).mono ?_
                rintro e w9 ⟨rfl, rfl⟩
                go_wp2_with fail
                go_ret
                exact ⟨by rw [hfin.out]; rfl, rfl⟩
            by_cases h45 : L.getD (n + 1) 0 = 45
            · rw [if_pos (Or.inr h45)] at hsM
              rw [hsM] at hsE
              rw [h45] at hg2 hc3
              clear h45 h43
              have hkk := hle.out (n + 2) (by omega)
              have hRk : Hid (∀ W, Calls Tryz.prog 51 #[.string S, .int .i64 ((n : Int) + 1 + 1), .int .i64 10] W fun r w' => r = .returned (.int .i64 (runL 10 (L.drop (n + 2)) : Int)) ∧ W = w') := fun W => hRun.out (n + 2) (by omega) W
              generalize runL 10 (L.drop (n + 2)) = k at *
              by_cases hk : 0 < k
              · rw [if_pos hk] at hsE
                have hfin := Lib.hid (hres.trans hsE)
                clear hsE hsM hsN
                go_wp2_with fail
                refine (hRk.out _).mono ?_
                rintro e w9 ⟨rfl, rfl⟩
                go_wp2_with fail
                go_ret
                exact ⟨by rw [hfin.out]; rfl, rfl⟩
              · rw [if_neg hk] at hsE
                obtain rfl : k = 0 := by omega
                have hfin := Lib.hid (hres.trans hsE)
                clear hsE hsM hsN hk
                go_wp2_with fail
                refine (hRk.out _).mono ?_
                rintro e w9 ⟨rfl, rfl⟩
                go_wp2_with fail
                go_ret
                exact ⟨by rw [hfin.out]; rfl, rfl⟩
            rw [if_neg (by omega)] at hsM
            rw [hsM] at hsE
            generalize L.getD (n + 1) 0 = d at *
            have n43 : ((d : Int) == 43) = false := beq_eq_false_iff_ne.2 (by omega)
            have n45 : ((d : Int) == 45) = false := beq_eq_false_iff_ne.2 (by omega)
            clear h43 h45
            have hkk := hle.out (n + 1) (by omega)
            have hRk : Hid (∀ W, Calls Tryz.prog 51 #[.string S, .int .i64 ((n : Int) + 1), .int .i64 10] W fun r w' => r = .returned (.int .i64 (runL 10 (L.drop (n + 1)) : Int)) ∧ W = w') := fun W => hRun.out (n + 1) (by omega) W
            generalize runL 10 (L.drop (n + 1)) = k at *
            by_cases hk : 0 < k
            · rw [if_pos hk] at hsE
              have hfin := Lib.hid (hres.trans hsE)
              clear hsE hsM hsN
              go_wp2_with fail
              refine (hRk.out _).mono ?_
              rintro e w9 ⟨rfl, rfl⟩
              go_wp2_with fail
              go_ret
              exact ⟨by rw [hfin.out]; rfl, rfl⟩
            · rw [if_neg hk] at hsE
              obtain rfl : k = 0 := by omega
              have hfin := Lib.hid (hres.trans hsE)
              clear hsE hsM hsN hk
              go_wp2_with fail
              refine (hRk.out _).mono ?_
              rintro e w9 ⟨rfl, rfl⟩
              go_wp2_with fail
              go_ret
              exact ⟨by rw [hfin.out]; rfl, rfl⟩
          · have hz0 := hge0.out (n + 1) (by omega)
            rw [hz0, if_neg (by decide)] at hsM
            rw [hsM, hdn.out (n + 1) (by omega), if_neg (by decide)] at hsE
            have hlI2 : ¬ (n : Int) + 1 < (S.size : Int) := by omega
            have hfin := Lib.hid (hres.trans hsE)
            have hRk : Hid (∀ W, Calls Tryz.prog 51 #[.string S, .int .i64 ((n : Int) + 1), .int .i64 10] W fun r w' => r = .returned (.int .i64 0) ∧ W = w') := fun W => by
              have := hRun.out (n + 1) (by omega) W
              rw [hdn.out (n + 1) (by omega)] at this
              exact this
            clear hsE hsM hz0 hsN
            go_wp2_with fail
            refine (hRk.out _).mono ?_
            rintro e w9 ⟨rfl, rfl⟩
            go_wp2_with fail
            go_ret
            exact ⟨by rw [hfin.out]; rfl, rfl⟩
        by_cases h69 : L.getD n 0 = 69
        · rw [if_pos (hoe.2 (.inr h69))] at hsE
          rw [h69] at hg hc2
          clear h69 hoe h101
          by_cases hend2 : n + 1 < L.length
          · have hc3 := hc256.out (n + 1) hend2
            have hlS2 : n + 1 < S.size := by omega
            have hg2 := hget.out (n + 1) _ rfl hend2 hlS2
            have hlI2 : (n : Int) + 1 < (S.size : Int) := by omega
            have hnI2 : ((n : Int) + 1).toNat = n + 1 := by omega
            by_cases h43 : L.getD (n + 1) 0 = 43
            · rw [if_pos (Or.inl h43)] at hsM
              rw [hsM] at hsE
              rw [h43] at hg2 hc3
              clear h43
              have hkk := hle.out (n + 2) (by omega)
              have hRk : Hid (∀ W, Calls Tryz.prog 51 #[.string S, .int .i64 ((n : Int) + 1 + 1), .int .i64 10] W fun r w' => r = .returned (.int .i64 (runL 10 (L.drop (n + 2)) : Int)) ∧ W = w') := fun W => hRun.out (n + 2) (by omega) W
              generalize runL 10 (L.drop (n + 2)) = k at *
              by_cases hk : 0 < k
              · rw [if_pos hk] at hsE
                have hfin := Lib.hid (hres.trans hsE)
                clear hsE hsM hsN
                go_wp2_with fail
                refine (hRk.out _).mono ?_
                rintro e w9 ⟨rfl, rfl⟩
                go_wp2_with fail
                go_ret
                exact ⟨by rw [hfin.out]; rfl, rfl⟩
              · rw [if_neg hk] at hsE
                obtain rfl : k = 0 := by omega
                have hfin := Lib.hid (hres.trans hsE)
                clear hsE hsM hsN hk
                go_wp2_with fail
                refine (hRk.out _).mono ?_
                rintro e w9 ⟨rfl, rfl⟩
                go_wp2_with fail
                go_ret
                exact ⟨by rw [hfin.out]; rfl, rfl⟩
            by_cases h45 : L.getD (n + 1) 0 = 45
            · rw [if_pos (Or.inr h45)] at hsM
              rw [hsM] at hsE
              rw [h45] at hg2 hc3
              clear h45 h43
              have hkk := hle.out (n + 2) (by omega)
              have hRk : Hid (∀ W, Calls Tryz.prog 51 #[.string S, .int .i64 ((n : Int) + 1 + 1), .int .i64 10] W fun r w' => r = .returned (.int .i64 (runL 10 (L.drop (n + 2)) : Int)) ∧ W = w') := fun W => hRun.out (n + 2) (by omega) W
              generalize runL 10 (L.drop (n + 2)) = k at *
              by_cases hk : 0 < k
              · rw [if_pos hk] at hsE
                have hfin := Lib.hid (hres.trans hsE)
                clear hsE hsM hsN
                go_wp2_with fail
                refine (hRk.out _).mono ?_
                rintro e w9 ⟨rfl, rfl⟩
                go_wp2_with fail
                go_ret
                exact ⟨by rw [hfin.out]; rfl, rfl⟩
              · rw [if_neg hk] at hsE
                obtain rfl : k = 0 := by omega
                have hfin := Lib.hid (hres.trans hsE)
                clear hsE hsM hsN hk
                go_wp2_with fail
                refine (hRk.out _).mono ?_
                rintro e w9 ⟨rfl, rfl⟩
                go_wp2_with fail
                go_ret
                exact ⟨by rw [hfin.out]; rfl, rfl⟩
            rw [if_neg (by omega)] at hsM
            rw [hsM] at hsE
            generalize L.getD (n + 1) 0 = d at *
            have n43 : ((d : Int) == 43) = false := beq_eq_false_iff_ne.2 (by omega)
            have n45 : ((d : Int) == 45) = false := beq_eq_false_iff_ne.2 (by omega)
            clear h43 h45
            have hkk := hle.out (n + 1) (by omega)
            have hRk : Hid (∀ W, Calls Tryz.prog 51 #[.string S, .int .i64 ((n : Int) + 1), .int .i64 10] W fun r w' => r = .returned (.int .i64 (runL 10 (L.drop (n + 1)) : Int)) ∧ W = w') := fun W => hRun.out (n + 1) (by omega) W
            generalize runL 10 (L.drop (n + 1)) = k at *
            by_cases hk : 0 < k
            · rw [if_pos hk] at hsE
              have hfin := Lib.hid (hres.trans hsE)
              clear hsE hsM hsN
              go_wp2_with fail
              refine (hRk.out _).mono ?_
              rintro e w9 ⟨rfl, rfl⟩
              go_wp2_with fail
              go_ret
              exact ⟨by rw [hfin.out]; rfl, rfl⟩
            · rw [if_neg hk] at hsE
              obtain rfl : k = 0 := by omega
              have hfin := Lib.hid (hres.trans hsE)
              clear hsE hsM hsN hk
              go_wp2_with fail
              refine (hRk.out _).mono ?_
              rintro e w9 ⟨rfl, rfl⟩
              go_wp2_with fail
              go_ret
              exact ⟨by rw [hfin.out]; rfl, rfl⟩
          · have hz0 := hge0.out (n + 1) (by omega)
            rw [hz0, if_neg (by decide)] at hsM
            rw [hsM, hdn.out (n + 1) (by omega), if_neg (by decide)] at hsE
            have hlI2 : ¬ (n : Int) + 1 < (S.size : Int) := by omega
            have hfin := Lib.hid (hres.trans hsE)
            have hRk : Hid (∀ W, Calls Tryz.prog 51 #[.string S, .int .i64 ((n : Int) + 1), .int .i64 10] W fun r w' => r = .returned (.int .i64 0) ∧ W = w') := fun W => by
              have := hRun.out (n + 1) (by omega) W
              rw [hdn.out (n + 1) (by omega)] at this
              exact this
            clear hsE hsM hz0 hsN
            go_wp2_with fail
            refine (hRk.out _).mono ?_
            rintro e w9 ⟨rfl, rfl⟩
            go_wp2_with fail
            go_ret
            exact ⟨by rw [hfin.out]; rfl, rfl⟩
        rw [if_neg (fun h => by have := hoe.1 h; omega)] at hsE
        have hfin := Lib.hid (hres.trans hsE)
        generalize L.getD n 0 = c at *
        have n101 : ((c : Int) == 101) = false := beq_eq_false_iff_ne.2 (by omega)
        have n69 : ((c : Int) == 69) = false := beq_eq_false_iff_ne.2 (by omega)
        clear hsE hsM hsN h101 h69 hoe
        go_wp2_with fail
        go_ret
        exact ⟨by rw [hfin.out]; rfl, rfl⟩
      · rw [hge0.out n (by omega), if_neg (by decide)] at hsE
        have hlI : ¬ (n : Int) < (S.size : Int) := by omega
        have hfin := Lib.hid (hres.trans hsE)
        clear hsE hsN
        go_wp2_with fail
        go_ret
        exact ⟨by rw [hfin.out]; rfl, rfl⟩
  · have hd0 := hdef.out
    rw [if_neg hdot] at hd0
    by_cases ha0 : a = 0
    · rw [if_pos ha0] at hd0
      have hfin := Lib.hid (hd0)
      subst ha0
      by_cases hal2 : 0 < L.length
      · have hlS0 : 0 < S.size := by omega
        have hg0 := hget.out 0 _ rfl hal2 hlS0
        have hlI0 : (0 : Int) < (S.size : Int) := by omega
        generalize L.getD 0 0 = c at *
        have n46 : ((c : Int) == 46) = false := beq_eq_false_iff_ne.2 (by omega)
        clear hd0 hsN hdot
        go_wp2_with fail
        go_ret
        exact ⟨by rw [hfin.out]; rfl, rfl⟩
      · have hlI0 : ¬ (0 : Int) < (S.size : Int) := by omega
        clear hd0 hsN hdot
        go_wp2_with fail
        go_ret
        exact ⟨by rw [hfin.out]; rfl, rfl⟩
    · rw [if_neg ha0] at hd0
      have hres := hd0
      have ha0I : ((a : Int) == 0) = false := beq_eq_false_iff_ne.2 (by omega)
      clear hd0
      by_cases hal2 : a < L.length
      · have hdotH := Lib.hid hdot
        clear hdot
        have hsE := hdE.out a
        by_cases hend : a < L.length
        · have hc2 := hc256.out a hend
          have hlS : a < S.size := by omega
          have hg := hget.out a _ rfl hend hlS
          have hlI : (a : Int) < (S.size : Int) := by omega
          have hsM := hdM.out a
          have hoe := or32_e _ hc2
          by_cases h101 : L.getD a 0 = 101
          · rw [if_pos (hoe.2 (.inl h101))] at hsE
            rw [h101] at hg hc2
            clear h101 hoe
            by_cases hend2 : a + 1 < L.length
            · have hc3 := hc256.out (a + 1) hend2
              have hlS2 : a + 1 < S.size := by omega
              have hg2 := hget.out (a + 1) _ rfl hend2 hlS2
              have hlI2 : (a : Int) + 1 < (S.size : Int) := by omega
              have hnI2 : ((a : Int) + 1).toNat = a + 1 := by omega
              by_cases h43 : L.getD (a + 1) 0 = 43
              · rw [if_pos (Or.inl h43)] at hsM
                rw [hsM] at hsE
                rw [h43] at hg2 hc3
                clear h43
                have hkk := hle.out (a + 2) (by omega)
                have hRk : Hid (∀ W, Calls Tryz.prog 51 #[.string S, .int .i64 ((a : Int) + 1 + 1), .int .i64 10] W fun r w' => r = .returned (.int .i64 (runL 10 (L.drop (a + 2)) : Int)) ∧ W = w') := fun W => hRun.out (a + 2) (by omega) W
                generalize runL 10 (L.drop (a + 2)) = k at *
                by_cases hk : 0 < k
                · rw [if_pos hk] at hsE
                  have hfin := Lib.hid (hres.trans hsE)
                  clear hsE hsM hsN
                  go_wp2_with fail
                  refine (hRk.out _).mono ?_
                  rintro e w9 ⟨rfl, rfl⟩
                  go_wp2_with fail
                  go_ret
                  exact ⟨by rw [hfin.out]; rfl, rfl⟩
                · rw [if_neg hk] at hsE
                  obtain rfl : k = 0 := by omega
                  have hfin := Lib.hid (hres.trans hsE)
                  clear hsE hsM hsN hk
                  go_wp2_with fail
                  refine (hRk.out _).mono ?_
                  rintro e w9 ⟨rfl, rfl⟩
                  go_wp2_with fail
                  go_ret
                  exact ⟨by rw [hfin.out]; rfl, rfl⟩
              by_cases h45 : L.getD (a + 1) 0 = 45
              · rw [if_pos (Or.inr h45)] at hsM
                rw [hsM] at hsE
                rw [h45] at hg2 hc3
                clear h45 h43
                have hkk := hle.out (a + 2) (by omega)
                have hRk : Hid (∀ W, Calls Tryz.prog 51 #[.string S, .int .i64 ((a : Int) + 1 + 1), .int .i64 10] W fun r w' => r = .returned (.int .i64 (runL 10 (L.drop (a + 2)) : Int)) ∧ W = w') := fun W => hRun.out (a + 2) (by omega) W
                generalize runL 10 (L.drop (a + 2)) = k at *
                by_cases hk : 0 < k
                · rw [if_pos hk] at hsE
                  have hfin := Lib.hid (hres.trans hsE)
                  clear hsE hsM hsN
                  go_wp2_with fail
                  refine (hRk.out _).mono ?_
                  rintro e w9 ⟨rfl, rfl⟩
                  go_wp2_with fail
                  go_ret
                  exact ⟨by rw [hfin.out]; rfl, rfl⟩
                · rw [if_neg hk] at hsE
                  obtain rfl : k = 0 := by omega
                  have hfin := Lib.hid (hres.trans hsE)
                  clear hsE hsM hsN hk
                  go_wp2_with fail
                  refine (hRk.out _).mono ?_
                  rintro e w9 ⟨rfl, rfl⟩
                  go_wp2_with fail
                  go_ret
                  exact ⟨by rw [hfin.out]; rfl, rfl⟩
              rw [if_neg (by omega)] at hsM
              rw [hsM] at hsE
              generalize L.getD (a + 1) 0 = d at *
              have n43 : ((d : Int) == 43) = false := beq_eq_false_iff_ne.2 (by omega)
              have n45 : ((d : Int) == 45) = false := beq_eq_false_iff_ne.2 (by omega)
              clear h43 h45
              have hkk := hle.out (a + 1) (by omega)
              have hRk : Hid (∀ W, Calls Tryz.prog 51 #[.string S, .int .i64 ((a : Int) + 1), .int .i64 10] W fun r w' => r = .returned (.int .i64 (runL 10 (L.drop (a + 1)) : Int)) ∧ W = w') := fun W => hRun.out (a + 1) (by omega) W
              generalize runL 10 (L.drop (a + 1)) = k at *
              by_cases hk : 0 < k
              · rw [if_pos hk] at hsE
                have hfin := Lib.hid (hres.trans hsE)
                clear hsE hsM hsN
                go_wp2_with fail
                refine (hRk.out _).mono ?_
                rintro e w9 ⟨rfl, rfl⟩
                go_wp2_with fail
                go_ret
                exact ⟨by rw [hfin.out]; rfl, rfl⟩
              · rw [if_neg hk] at hsE
                obtain rfl : k = 0 := by omega
                have hfin := Lib.hid (hres.trans hsE)
                clear hsE hsM hsN hk
                go_wp2_with fail
                refine (hRk.out _).mono ?_
                rintro e w9 ⟨rfl, rfl⟩
                go_wp2_with fail
                go_ret
                exact ⟨by rw [hfin.out]; rfl, rfl⟩
            · have hz0 := hge0.out (a + 1) (by omega)
              rw [hz0, if_neg (by decide)] at hsM
              rw [hsM, hdn.out (a + 1) (by omega), if_neg (by decide)] at hsE
              have hlI2 : ¬ (a : Int) + 1 < (S.size : Int) := by omega
              have hfin := Lib.hid (hres.trans hsE)
              have hRk : Hid (∀ W, Calls Tryz.prog 51 #[.string S, .int .i64 ((a : Int) + 1), .int .i64 10] W fun r w' => r = .returned (.int .i64 0) ∧ W = w') := fun W => by
                have := hRun.out (a + 1) (by omega) W
                rw [hdn.out (a + 1) (by omega)] at this
                exact this
              clear hsE hsM hz0 hsN
              go_wp2_with fail
              refine (hRk.out _).mono ?_
              rintro e w9 ⟨rfl, rfl⟩
              go_wp2_with fail
              go_ret
              exact ⟨by rw [hfin.out]; rfl, rfl⟩
          by_cases h69 : L.getD a 0 = 69
          · rw [if_pos (hoe.2 (.inr h69))] at hsE
            rw [h69] at hg hc2
            clear h69 hoe h101
            by_cases hend2 : a + 1 < L.length
            · have hc3 := hc256.out (a + 1) hend2
              have hlS2 : a + 1 < S.size := by omega
              have hg2 := hget.out (a + 1) _ rfl hend2 hlS2
              have hlI2 : (a : Int) + 1 < (S.size : Int) := by omega
              have hnI2 : ((a : Int) + 1).toNat = a + 1 := by omega
              by_cases h43 : L.getD (a + 1) 0 = 43
              · rw [if_pos (Or.inl h43)] at hsM
                rw [hsM] at hsE
                rw [h43] at hg2 hc3
                clear h43
                have hkk := hle.out (a + 2) (by omega)
                have hRk : Hid (∀ W, Calls Tryz.prog 51 #[.string S, .int .i64 ((a : Int) + 1 + 1), .int .i64 10] W fun r w' => r = .returned (.int .i64 (runL 10 (L.drop (a + 2)) : Int)) ∧ W = w') := fun W => hRun.out (a + 2) (by omega) W
                generalize runL 10 (L.drop (a + 2)) = k at *
                by_cases hk : 0 < k
                · rw [if_pos hk] at hsE
                  have hfin := Lib.hid (hres.trans hsE)
                  clear hsE hsM hsN
                  go_wp2_with fail
                  refine (hRk.out _).mono ?_
                  rintro e w9 ⟨rfl, rfl⟩
                  go_wp2_with fail
                  go_ret
                  exact ⟨by rw [hfin.out]; rfl, rfl⟩
                · rw [if_neg hk] at hsE
                  obtain rfl : k = 0 := by omega
                  have hfin := Lib.hid (hres.trans hsE)
                  clear hsE hsM hsN hk
                  go_wp2_with fail
                  refine (hRk.out _).mono ?_
                  rintro e w9 ⟨rfl, rfl⟩
                  go_wp2_with fail
                  go_ret
                  exact ⟨by rw [hfin.out]; rfl, rfl⟩
              by_cases h45 : L.getD (a + 1) 0 = 45
              · rw [if_pos (Or.inr h45)] at hsM
                rw [hsM] at hsE
                rw [h45] at hg2 hc3
                clear h45 h43
                have hkk := hle.out (a + 2) (by omega)
                have hRk : Hid (∀ W, Calls Tryz.prog 51 #[.string S, .int .i64 ((a : Int) + 1 + 1), .int .i64 10] W fun r w' => r = .returned (.int .i64 (runL 10 (L.drop (a + 2)) : Int)) ∧ W = w') := fun W => hRun.out (a + 2) (by omega) W
                generalize runL 10 (L.drop (a + 2)) = k at *
                by_cases hk : 0 < k
                · rw [if_pos hk] at hsE
                  have hfin := Lib.hid (hres.trans hsE)
                  clear hsE hsM hsN
                  go_wp2_with fail
                  refine (hRk.out _).mono ?_
                  rintro e w9 ⟨rfl, rfl⟩
                  go_wp2_with fail
                  go_ret
                  exact ⟨by rw [hfin.out]; rfl, rfl⟩
                · rw [if_neg hk] at hsE
                  obtain rfl : k = 0 := by omega
                  have hfin := Lib.hid (hres.trans hsE)
                  clear hsE hsM hsN hk
                  go_wp2_with fail
                  refine (hRk.out _).mono ?_
                  rintro e w9 ⟨rfl, rfl⟩
                  go_wp2_with fail
                  go_ret
                  exact ⟨by rw [hfin.out]; rfl, rfl⟩
              rw [if_neg (by omega)] at hsM
              rw [hsM] at hsE
              generalize L.getD (a + 1) 0 = d at *
              have n43 : ((d : Int) == 43) = false := beq_eq_false_iff_ne.2 (by omega)
              have n45 : ((d : Int) == 45) = false := beq_eq_false_iff_ne.2 (by omega)
              clear h43 h45
              have hkk := hle.out (a + 1) (by omega)
              have hRk : Hid (∀ W, Calls Tryz.prog 51 #[.string S, .int .i64 ((a : Int) + 1), .int .i64 10] W fun r w' => r = .returned (.int .i64 (runL 10 (L.drop (a + 1)) : Int)) ∧ W = w') := fun W => hRun.out (a + 1) (by omega) W
              generalize runL 10 (L.drop (a + 1)) = k at *
              by_cases hk : 0 < k
              · rw [if_pos hk] at hsE
                have hfin := Lib.hid (hres.trans hsE)
                clear hsE hsM hsN
                go_wp2_with fail
                refine (hRk.out _).mono ?_
                rintro e w9 ⟨rfl, rfl⟩
                go_wp2_with fail
                go_ret
                exact ⟨by rw [hfin.out]; rfl, rfl⟩
              · rw [if_neg hk] at hsE
                obtain rfl : k = 0 := by omega
                have hfin := Lib.hid (hres.trans hsE)
                clear hsE hsM hsN hk
                go_wp2_with fail
                refine (hRk.out _).mono ?_
                rintro e w9 ⟨rfl, rfl⟩
                go_wp2_with fail
                go_ret
                exact ⟨by rw [hfin.out]; rfl, rfl⟩
            · have hz0 := hge0.out (a + 1) (by omega)
              rw [hz0, if_neg (by decide)] at hsM
              rw [hsM, hdn.out (a + 1) (by omega), if_neg (by decide)] at hsE
              have hlI2 : ¬ (a : Int) + 1 < (S.size : Int) := by omega
              have hfin := Lib.hid (hres.trans hsE)
              have hRk : Hid (∀ W, Calls Tryz.prog 51 #[.string S, .int .i64 ((a : Int) + 1), .int .i64 10] W fun r w' => r = .returned (.int .i64 0) ∧ W = w') := fun W => by
                have := hRun.out (a + 1) (by omega) W
                rw [hdn.out (a + 1) (by omega)] at this
                exact this
              clear hsE hsM hz0 hsN
              go_wp2_with fail
              refine (hRk.out _).mono ?_
              rintro e w9 ⟨rfl, rfl⟩
              go_wp2_with fail
              go_ret
              exact ⟨by rw [hfin.out]; rfl, rfl⟩
          rw [if_neg (fun h => by have := hoe.1 h; omega)] at hsE
          have hfin := Lib.hid (hres.trans hsE)
          generalize L.getD a 0 = c at *
          have n101 : ((c : Int) == 101) = false := beq_eq_false_iff_ne.2 (by omega)
          have n69 : ((c : Int) == 69) = false := beq_eq_false_iff_ne.2 (by omega)
          have n46 : ((c : Int) == 46) = false := beq_eq_false_iff_ne.2 (by have := hdotH.out; omega)
          clear hsE hsM hsN h101 h69 hoe
          go_wp2_with fail
          go_ret
          exact ⟨by rw [hfin.out]; rfl, rfl⟩
        · exact absurd hal2 hend
      · have hlI0 : ¬ (a : Int) < (S.size : Int) := by omega
        have hsE := hdE.out a
        rw [hge0.out a (by omega), if_neg (by decide)] at hsE
        have hfin := Lib.hid (hres.trans hsE)
        clear hsE hsN hdot hres
        go_wp2_with fail
        go_ret
        exact ⟨by rw [hfin.out]; rfl, rfl⟩
end Go.Proofs.YtbakbikilbaafaaGreatDoor
namespace Go.Proofs.YtbakbikilbaafaaGreatDoor
open Go.RowKit F64 Ieee
set_option linter.unusedVariables false
set_option maxHeartbeats 4000000
set_option maxRecDepth 100000

def b8N (l : List Nat) : List Value := l.map fun n : Nat => .int .u8 (n : Int)
end Go.Proofs.YtbakbikilbaafaaGreatDoor
