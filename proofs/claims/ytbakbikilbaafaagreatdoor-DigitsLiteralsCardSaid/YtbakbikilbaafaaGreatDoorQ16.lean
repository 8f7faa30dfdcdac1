/-
  Contracts: The contract of the program's Literal, at any bytes (printed by gen_XVW.py). The contract of the program's Whole, at any text and base (printed by gen_XVX.py). Contracts of the reference's digit, run, prefixed.
-/
import Derived.Test.YtbakbikilbaafaaGreatDoorQ15
namespace Go.Proofs.YtbakbikilbaafaaGreatDoor
open Go.RowKit F64 Ieee
set_option linter.unusedVariables false
set_option maxHeartbeats 4000000
set_option maxRecDepth 100000

/-- a byte that may not follow a number -/
def litC (c : Nat) : Bool := decide (wth c < 36) || c == 36 || c == 95 || decide (128 ≤ c)
def litBad (L : List Nat) (n : Nat) : Prop := ∃ c, L[n]? = some c ∧ litC c = true
/-- what a literal is: number, length, error -/
inductive LitR (L : List Nat) : Nat → Nat → Nat → Prop
  | preZ {base : Nat} (hp : preL L = base) (hb : 0 < base) (hk : runL base (L.drop 2) = 0) : LitR L 0 0 30
  | preB {base k : Nat} (hp : preL L = base) (hb : 0 < base) (hk : runL base (L.drop 2) = k) (h0 : 0 < k) (h : litBad L (2 + k)) : LitR L 0 0 30
  | pre {base k : Nat} (hp : preL L = base) (hb : 0 < base) (hk : runL base (L.drop 2) = k) (h0 : 0 < k) (h : ¬ litBad L (2 + k)) : LitR L (nN (numB base ((L.drop 2).take k))) (2 + k) 0
  | none (hp : preL L = 0) (hn : decN L = 0) : LitR L 0 0 30
  | zero (hp : preL L = 0) (h0 : 0 < decN L) (h : L.getD 0 0 = 48 ∧ 1 < decN L ∧ wth (L.getD 1 0) < 10) : LitR L 0 0 30
  | bad (hp : preL L = 0) (h0 : 0 < decN L) (hz : ¬ (L.getD 0 0 = 48 ∧ 1 < decN L ∧ wth (L.getD 1 0) < 10)) (h : litBad L (decN L)) : LitR L 0 0 30
  | ok {v : Nat} (hp : preL L = 0) (h0 : 0 < decN L) (hz : ¬ (L.getD 0 0 = 48 ∧ 1 < decN L ∧ wth (L.getD 1 0) < 10)) (h : ¬ litBad L (decN L)) (hd : DcT (L.take (decN L)) v) : LitR L v (decN L) 0
theorem litR_ex (L : List Nat) (h256 : ∀ c ∈ L, c < 256) : ∃ x n e, LitR L x n e := by
  rcases Nat.eq_zero_or_pos (preL L) with hp | hp
  · rcases Nat.eq_zero_or_pos (decN L) with hn | hn
    · exact ⟨_, _, _, .none hp hn⟩
    · by_cases hz : L.getD 0 0 = 48 ∧ 1 < decN L ∧ wth (L.getD 1 0) < 10
      · exact ⟨_, _, _, .zero hp hn hz⟩
      · by_cases hb : litBad L (decN L)
        · exact ⟨_, _, _, .bad hp hn hz hb⟩
        · obtain ⟨v, hv⟩ := dec_form h256 hn
          exact ⟨_, _, _, .ok hp hn hz hb hv⟩
  · rcases Nat.eq_zero_or_pos (runL (preL L) (L.drop 2)) with hn | hn
    · exact ⟨_, _, _, .preZ rfl hp hn⟩
    · by_cases hb : litBad L (2 + runL (preL L) (L.drop 2))
      · exact ⟨_, _, _, .preB rfl hp rfl hn hb⟩
      · exact ⟨_, _, _, .pre rfl hp rfl hn hb⟩
theorem uG_ext (L : List Nat) (i j : Nat) : (u8sG L).extract i j = u8sG ((L.take j).drop i) := by
  apply ByteArray.ext
  rw [ByteArray.data_extract]
  apply Array.ext'
  rw [Array.toList_extract, uG_data, uG_data, List.map_drop, List.map_take]
  simp only [List.extract, List.take_drop]
  rcases Nat.le_total i j with h | h
  · rw [show i + (j - i) = j by omega]
  · rw [List.drop_of_length_le (by rw [List.length_take]; omega), List.drop_of_length_le (by rw [List.length_take]; omega)]
/-- the ways in which a literal may end -/
def EndF (S : ByteArray) (n : Nat) (ok : Bool) : Prop := n = S.size ∧ ok = true ∨ ∃ (h : n < S.size) (c : Nat), (S[n]'h).toNat = c ∧ litC c = !ok
theorem endF_of {L : List Nat} {n : Nat} (h256 : ∀ c ∈ L, c < 256) (hn : n ≤ L.length) (ok : Bool) (h : if ok then ¬ litBad L n else litBad L n) : EndF (u8sG L) n ok := by
  have hsz := uG_size L
  rcases Nat.eq_or_lt_of_le hn with h1 | h1
  · left
    refine ⟨by omega, ?_⟩
    cases ok with
    | true => rfl
    | false =>
      simp only [Bool.false_eq_true, if_false] at h
      obtain ⟨c, hc, -⟩ := h
      rw [List.getElem?_eq_none (by omega)] at hc
      cases hc
  · right
    have hg : L[n]? = some L[n] := List.getElem?_eq_getElem h1
    refine ⟨by omega, L[n], uG_get L n _ hg (h256 _ (List.getElem_mem h1)) (by omega), ?_⟩
    cases ok with
    | true =>
      simp only [if_true] at h
      cases hx : litC L[n] with
      | false => rfl
      | true => exact absurd ⟨_, hg, hx⟩ h
    | false =>
      simp only [Bool.false_eq_true, if_false] at h
      obtain ⟨c, hc, hx⟩ := h
      rw [hg] at hc
      cases hc
      exact hx
/-- the byte behind, as the walk asks -/
inductive EndC (S : ByteArray) (n : Nat) : Bool → Prop
  | e0 (h : n = S.size) : EndC S n true
  | e1 (h : n < S.size) (c : Nat) (hc : ∀ h : n < S.size, (S[n]'h).toNat = c) (hc8 : c < 256) (h1 : wth c < 36) : EndC S n false
  | e2 (h : n < S.size) (hc : ∀ h : n < S.size, (S[n]'h).toNat = 36) : EndC S n false
  | e3 (h : n < S.size) (hc : ∀ h : n < S.size, (S[n]'h).toNat = 95) : EndC S n false
  | e4 (h : n < S.size) (c : Nat) (hc : ∀ h : n < S.size, (S[n]'h).toNat = c) (hc8 : c < 256) (h1 : 128 ≤ c) : EndC S n false
  | e5 (h : n < S.size) (c : Nat) (hc : ∀ h : n < S.size, (S[n]'h).toNat = c) (hc8 : c < 256) (h1 : ¬ wth c < 36) (h2 : c ≠ 36) (h3 : c ≠ 95) (h4 : c < 128) : EndC S n true
theorem endC_of {S : ByteArray} {n : Nat} {ok : Bool} (h : EndF S n ok) : EndC S n ok := by
  rcases h with ⟨h, rfl⟩ | ⟨h, c, hc, hb⟩
  · exact .e0 h
  · have hc8 : c < 256 := by rw [← hc]; exact (S[n]'h).toNat_lt
    have hcc : ∀ h : n < S.size, (S[n]'h).toNat = c := fun _ => hc
    unfold litC at hb
    by_cases h1 : wth c < 36
    · have : ok = false := by cases ok with
        | false => rfl
        | true => simp [h1] at hb
      subst this
      exact .e1 h c hcc hc8 h1
    · by_cases h2 : c = 36
      · have : ok = false := by cases ok with
          | false => rfl
          | true => simp [h2] at hb
        subst this h2
        exact .e2 h hcc
      · by_cases h3 : c = 95
        · have : ok = false := by cases ok with
            | false => rfl
            | true => simp [h3] at hb
          subst this h3
          exact .e3 h hcc
        · by_cases h4 : 128 ≤ c
          · have : ok = false := by cases ok with
              | false => rfl
              | true => simp [h4] at hb
            subst this
            exact .e4 h c hcc hc8 h4
          · have : ok = true := by cases ok with
              | true => rfl
              | false => simp [h1, h2, h3, h4] at hb
            subst this
            exact .e5 h c hcc hc8 h1 h2 h3 (by omega)
theorem wth_36 : wth 36 = 99 := by decide +kernel
theorem wth_95 : wth 95 = 99 := by decide +kernel
theorem wth_128 {c : Nat} (h : 128 ≤ c) (hc : c < 256) : wth c = 99 := by
  have all : ∀ c : Fin 256, 128 ≤ c.val → wth c.val = 99 := by decide +kernel
  exact all ⟨c, hc⟩ h
theorem decE_le (L : List Nat) (n : Nat) (h : n ≤ L.length) : decE L n ≤ L.length := by
  unfold decE
  split
  · split
    · rename_i h1 h2
      have := runL_le 10 (L.drop (decM L n))
      rw [List.length_drop] at this
      omega
    · exact h
  · exact h
theorem decN_le (L : List Nat) : decN L ≤ L.length := by
  have h1 := runL_le 10 L
  unfold decN
  split
  · split
    · exact Nat.zero_le _
    · rename_i h2 h3
      apply decE_le
      have := runL_le 10 (L.drop (runL 10 L + 1))
      rw [List.length_drop] at this
      have h4 := (List.getElem?_eq_some_iff.1 (getD_some h2 (by decide))).1
      omega
  · split
    · exact Nat.zero_le _
    · exact decE_le _ _ h1
theorem c_dLit_preZ (L : List Nat) (base : Nat) (hL : ∀ c ∈ L, c < 256) (hl : L.length ≤ 800) (hpre : preL L = base) (hb : 0 < base) (hk : runL base (L.drop 2) = 0) (w : World) :
    Calls Tryz.prog 17 #[.string (u8sG L)] w fun r w' => r = .returned (.tuple #[.float .f64 0, .int .i64 0, .int .i64 30]) ∧ Below w.heap.size w w' := by
  have h2 : 2 ≤ L.length := by
    rcases Nat.lt_or_ge L.length 2 with h | h
    · exfalso
      have : preL L = 0 := by unfold preL; rw [if_neg (by omega)]
      omega
    · exact h
  have hPr := Lib.hid (fun W => c_dprefix L hL (by omega) W)
  rw [hpre] at hPr
  have hDo := Lib.hid (fun W => c_ddigitsOf (base : Int) W)
  have hRu := Lib.hid (fun b W h => c_drun L hL 2 base b (by omega) (by omega) W h)
  rw [hk] at hRu
  have hRu : Hid (∀ b W, W.cell? ⟨b, 0, none⟩ = some (.int .i64 (base : Int)) → Calls Tryz.prog 38 #[.string (u8sG L), .int .i64 2, DigF b] W fun r w' => r = .returned (.int .i64 0) ∧ Below W.heap.size W w') := hRu
  have hbI : (0 : Int) < (base : Int) := by omega
  clear hk hL hl hpre hb h2
  generalize u8sG L = S at *
  go_enter Tryz.func17, Tryz.ntmps17
  go_wp2_with fail
  refine (hPr.out _).mono ?_
  rintro e w3 ⟨rfl, hbB⟩
  go_wp2_with fail
  refine (hDo.out _).mono ?_
  rintro e w4 ⟨rfl, hc4, hb4⟩
  have hbC : Below w.heap.size w w4 := hbB.trans (hb4.mono hbB.size)
  have hRu4 := Lib.hid (hRu.out _ _ hc4)
  clear hb4 hbB hc4
  go_wp2_with fail
  refine hRu4.out.mono ?_
  rintro e w5 ⟨rfl, hb5⟩
  have hbD : Below w.heap.size w w5 := hbC.trans (hb5.mono hbC.size)
  clear hb5 hbC
  go_wp2_with fail
  go_ret3
  exact ⟨rfl, hbD⟩
theorem c_dLit_pre (L : List Nat) (base k : Nat) (hL : ∀ c ∈ L, c < 256) (hl : L.length ≤ 800) (hpre : preL L = base) (hb : 0 < base) (hk : runL base (L.drop 2) = k) (hk0 : 0 < k) (hEnd : EndC (u8sG L) (2 + k) true) (w : World) (hW : LibW w) :
    Calls Tryz.prog 17 #[.string (u8sG L)] w fun r w' => r = .returned (.tuple #[.float .f64 (nN (numB base ((L.drop 2).take k))), .int .i64 ((2 + k : Nat) : Int), .int .i64 0]) ∧ Below w.heap.size w w' := by
  have h2 : 2 ≤ L.length := by
    rcases Nat.lt_or_ge L.length 2 with h | h
    · exfalso
      have : preL L = 0 := by unfold preL; rw [if_neg (by omega)]
      omega
    · exact h
  have hLk := Lib.hid (fun W (hb : Below w.heap.size w W) => hW.keep hb)
  have hPr := Lib.hid (fun W => c_dprefix L hL (by omega) W)
  have hbase := preL_le L
  rw [hpre] at hPr hbase
  have hDo := Lib.hid (fun W => c_ddigitsOf (base : Int) W)
  have hRu := Lib.hid (fun b W h => c_drun L hL 2 base b (by omega) (by omega) W h)
  rw [hk] at hRu
  have hRu : Hid (∀ b W, W.cell? ⟨b, 0, none⟩ = some (.int .i64 (base : Int)) → Calls Tryz.prog 38 #[.string (u8sG L), .int .i64 2, DigF b] W fun r w' => r = .returned (.int .i64 (k : Int)) ∧ Below W.heap.size W w') := hRu
  have hrl := runL_le base (L.drop 2)
  rw [List.length_drop, hk] at hrl
  have hsz : (u8sG L).size = L.length := uG_size L
  have hX := Lib.hid (fun W => c_dexactB ((L.drop 2).take k) base (by omega) (by omega) (by omega) (fun c hc => ⟨hL c (List.mem_of_mem_drop (List.mem_of_mem_take hc)), by
    rw [← hk] at hc
    exact run_mem c hc⟩) (by rw [List.length_take, List.length_drop]; omega) W)
  have hex : (u8sG L).extract 2 (2 + k) = u8sG ((L.drop 2).take k) := by
    rw [uG_ext]; congr 1
    rw [List.drop_take, show 2 + k - 2 = k by omega]
  have hs4 : (2 : Int) + (k : Int) ≤ ((u8sG L).size : Int) := by omega
  have hs5 : (u8sG L).size ≤ 800 := by omega
  have hs6 : 2 + k ≤ (u8sG L).size := by omega
  have hbI : (0 : Int) < (base : Int) := by omega
  have hk1 : ((k : Int) == 0) = false := beq_eq_false_iff_ne.2 (by omega)
  have htn : ((2 : Int) + (k : Int)).toNat = 2 + k := by omega
  have hn0 : ((2 : Int) + (k : Int) == 0) = false := beq_eq_false_iff_ne.2 (by omega)
  have h2k : (2 : Int) ≤ 2 + (k : Int) := by omega
  have h2k0 : (0 : Int) ≤ 2 + (k : Int) := by omega
  generalize hV : nN (numB base ((L.drop 2).take k)) = V at *
  clear hV hrl hk hL hl hpre hsz hb h2 hbase hW hk0
  generalize u8sG ((L.drop 2).take k) = D at *
  generalize u8sG L = S at *
  go_enter Tryz.func17, Tryz.ntmps17
  go_wp2_with fail
  refine (hPr.out _).mono ?_
  rintro e w3 ⟨rfl, hbB⟩
  go_wp2_with fail
  refine (hDo.out _).mono ?_
  rintro e w4 ⟨rfl, hc4, hb4⟩
  have hbC : Below w.heap.size w w4 := hbB.trans (hb4.mono hbB.size)
  have hRu4 := Lib.hid (hRu.out _ _ hc4)
  clear hb4 hbB hc4
  go_wp2_with fail
  refine hRu4.out.mono ?_
  rintro e w5 ⟨rfl, hb5⟩
  have hbD : Below w.heap.size w w5 := hbC.trans (hb5.mono hbC.size)
  clear hb5 hbC
  go_wp2_with fail
  refine (hX.out _).mono ?_
  rintro e w6 ⟨rfl, hb6⟩
  have hbE : Below w.heap.size w w6 := hbD.trans (hb6.mono hbD.size)
  clear hb6 hbD
  cases hEnd with
  | e0 hE =>
    have hE1 : ¬ ((2 : Int) + (k : Int)) < (S.size : Int) := by omega
    clear hE
    go_wp2_with fail
    go_ret3
    exact ⟨rfl, hbE⟩
  | e5 hE c hc hc8 h1 h2 h3 h4 =>
    have hE1 : ((2 : Int) + (k : Int)) < (S.size : Int) := by omega
    have hgc := hc hE
    have hWo := Lib.hid (fun W => c_dworth c hc8 W)
    have hE2 : ¬ (wth c : Int) < 36 := by omega
    have hE3 : ((c : Int) == 36) = false := beq_eq_false_iff_ne.2 (by omega)
    have hE4 : ((c : Int) == 95) = false := beq_eq_false_iff_ne.2 (by omega)
    have hE5 : ¬ (128 : Int) ≤ (c : Int) := by omega
    generalize wth c = wc at *
    clear h1 h2 h3 h4
    go_wp2_with (go_at_call 46; refine (hWo.out _).mono ?_; rintro e w' ⟨rfl, rfl⟩)
    go_ret3
    exact ⟨rfl, hbE⟩
theorem c_dLit_preB (L : List Nat) (base k : Nat) (hL : ∀ c ∈ L, c < 256) (hl : L.length ≤ 800) (hpre : preL L = base) (hb : 0 < base) (hk : runL base (L.drop 2) = k) (hk0 : 0 < k) (hEnd : EndC (u8sG L) (2 + k) false) (w : World) (hW : LibW w) :
    Calls Tryz.prog 17 #[.string (u8sG L)] w fun r w' => r = .returned (.tuple #[.float .f64 0, .int .i64 0, .int .i64 30]) ∧ Below w.heap.size w w' := by
  have h2 : 2 ≤ L.length := by
    rcases Nat.lt_or_ge L.length 2 with h | h
    · exfalso
      have : preL L = 0 := by unfold preL; rw [if_neg (by omega)]
      omega
    · exact h
  have hLk := Lib.hid (fun W (hb : Below w.heap.size w W) => hW.keep hb)
  have hPr := Lib.hid (fun W => c_dprefix L hL (by omega) W)
  have hbase := preL_le L
  rw [hpre] at hPr hbase
  have hDo := Lib.hid (fun W => c_ddigitsOf (base : Int) W)
  have hRu := Lib.hid (fun b W h => c_drun L hL 2 base b (by omega) (by omega) W h)
  rw [hk] at hRu
  have hRu : Hid (∀ b W, W.cell? ⟨b, 0, none⟩ = some (.int .i64 (base : Int)) → Calls Tryz.prog 38 #[.string (u8sG L), .int .i64 2, DigF b] W fun r w' => r = .returned (.int .i64 (k : Int)) ∧ Below W.heap.size W w') := hRu
  have hrl := runL_le base (L.drop 2)
  rw [List.length_drop, hk] at hrl
  have hsz : (u8sG L).size = L.length := uG_size L
  have hX := Lib.hid (fun W => c_dexactB ((L.drop 2).take k) base (by omega) (by omega) (by omega) (fun c hc => ⟨hL c (List.mem_of_mem_drop (List.mem_of_mem_take hc)), by
    rw [← hk] at hc
    exact run_mem c hc⟩) (by rw [List.length_take, List.length_drop]; omega) W)
  have hex : (u8sG L).extract 2 (2 + k) = u8sG ((L.drop 2).take k) := by
    rw [uG_ext]; congr 1
    rw [List.drop_take, show 2 + k - 2 = k by omega]
  have hs4 : (2 : Int) + (k : Int) ≤ ((u8sG L).size : Int) := by omega
  have hs5 : (u8sG L).size ≤ 800 := by omega
  have hs6 : 2 + k ≤ (u8sG L).size := by omega
  have hbI : (0 : Int) < (base : Int) := by omega
  have hk1 : ((k : Int) == 0) = false := beq_eq_false_iff_ne.2 (by omega)
  have htn : ((2 : Int) + (k : Int)).toNat = 2 + k := by omega
  have hn0 : ((2 : Int) + (k : Int) == 0) = false := beq_eq_false_iff_ne.2 (by omega)
  have h2k : (2 : Int) ≤ 2 + (k : Int) := by omega
  have h2k0 : (0 : Int) ≤ 2 + (k : Int) := by omega
  generalize hV : nN (numB base ((L.drop 2).take k)) = V at *
  clear hV hrl hk hL hl hpre hsz hb h2 hbase hW hk0
  generalize u8sG ((L.drop 2).take k) = D at *
  generalize u8sG L = S at *
  go_enter Tryz.func17, Tryz.ntmps17
  go_wp2_with fail
  refine (hPr.out _).mono ?_
  rintro e w3 ⟨rfl, hbB⟩
  go_wp2_with fail
  refine (hDo.out _).mono ?_
  rintro e w4 ⟨rfl, hc4, hb4⟩
  have hbC : Below w.heap.size w w4 := hbB.trans (hb4.mono hbB.size)
  have hRu4 := Lib.hid (hRu.out _ _ hc4)
  clear hb4 hbB hc4
  go_wp2_with fail
  refine hRu4.out.mono ?_
  rintro e w5 ⟨rfl, hb5⟩
  have hbD : Below w.heap.size w w5 := hbC.trans (hb5.mono hbC.size)
  clear hb5 hbC
  go_wp2_with fail
  refine (hX.out _).mono ?_
  rintro e w6 ⟨rfl, hb6⟩
  have hbE : Below w.heap.size w w6 := hbD.trans (hb6.mono hbD.size)
  clear hb6 hbD
  cases hEnd with
  | e1 hE c hc hc8 h1 =>
    have hE1 : ((2 : Int) + (k : Int)) < (S.size : Int) := by omega
    have hgc := hc hE
    have hWo := Lib.hid (fun W => c_dworth c hc8 W)
    have hE2 : (wth c : Int) < 36 := by omega
    generalize wth c = wc at *
    go_wp2_with (go_at_call 46; refine (hWo.out _).mono ?_; rintro e w' ⟨rfl, rfl⟩)
    go_ret3
    exact ⟨rfl, hbE⟩
  | e2 hE hc =>
    have hE1 : ((2 : Int) + (k : Int)) < (S.size : Int) := by omega
    have hgc := hc hE
    have hWo := Lib.hid (fun W => c_dworth 36 (by decide) W)
    rw [wth_36] at hWo
    have hWo : Hid (∀ W, Calls Tryz.prog 46 #[.int .u8 36] W fun r w' => r = .returned (.int .i64 99) ∧ W = w') := hWo
    go_wp2_with (go_at_call 46; refine (hWo.out _).mono ?_; rintro e w' ⟨rfl, rfl⟩)
    go_ret3
    exact ⟨rfl, hbE⟩
  | e3 hE hc =>
    have hE1 : ((2 : Int) + (k : Int)) < (S.size : Int) := by omega
    have hgc := hc hE
    have hWo := Lib.hid (fun W => c_dworth 95 (by decide) W)
    rw [wth_95] at hWo
    have hWo : Hid (∀ W, Calls Tryz.prog 46 #[.int .u8 95] W fun r w' => r = .returned (.int .i64 99) ∧ W = w') := hWo
    go_wp2_with (go_at_call 46; refine (hWo.out _).mono ?_; rintro e w' ⟨rfl, rfl⟩)
    go_ret3
    exact ⟨rfl, hbE⟩
  | e4 hE c hc hc8 h1 =>
    have hE1 : ((2 : Int) + (k : Int)) < (S.size : Int) := by omega
    have hgc := hc hE
    have hWo := Lib.hid (fun W => c_dworth c hc8 W)
    rw [wth_128 h1 hc8] at hWo
    have hWo : Hid (∀ W, Calls Tryz.prog 46 #[.int .u8 (c : Int)] W fun r w' => r = .returned (.int .i64 99) ∧ W = w') := hWo
    have hE3 : ((c : Int) == 36) = false := beq_eq_false_iff_ne.2 (by omega)
    have hE4 : ((c : Int) == 95) = false := beq_eq_false_iff_ne.2 (by omega)
    have hE5 : (128 : Int) ≤ (c : Int) := by omega
    clear h1
    go_wp2_with (go_at_call 46; refine (hWo.out _).mono ?_; rintro e w' ⟨rfl, rfl⟩)
    go_ret3
    exact ⟨rfl, hbE⟩
theorem c_dLit_none (L : List Nat) (hL : ∀ c ∈ L, c < 256) (hl : L.length ≤ 800) (hpre : preL L = 0) (hn : decN L = 0) (w : World) :
    Calls Tryz.prog 17 #[.string (u8sG L)] w fun r w' => r = .returned (.tuple #[.float .f64 0, .int .i64 0, .int .i64 30]) ∧ Below w.heap.size w w' := by
  have hPr := Lib.hid (fun W => c_dprefix L hL (by omega) W)
  rw [hpre] at hPr
  have hPr : Hid (∀ W, Calls Tryz.prog 37 #[.string (u8sG L)] W fun r w' => r = .returned (.int .i64 0) ∧ Below W.heap.size W w') := hPr
  have hDe := Lib.hid (fun W => c_ddecimal L hL (by omega) W)
  rw [hn] at hDe
  have hDe : Hid (∀ W, Calls Tryz.prog 43 #[.string (u8sG L)] W fun r w' => r = .returned (.int .i64 0) ∧ Below W.heap.size W w') := hDe
  clear hL hl hpre hn
  generalize u8sG L = S at *
  go_enter Tryz.func17, Tryz.ntmps17
  go_wp2_with fail
  refine (hPr.out _).mono ?_
  rintro e w3 ⟨rfl, hbB⟩
  go_wp2_with fail
  refine (hDe.out _).mono ?_
  rintro e w4 ⟨rfl, hb4⟩
  have hbC : Below w.heap.size w w4 := hbB.trans (hb4.mono hbB.size)
  clear hb4 hbB
  go_wp2_with fail
  go_ret3
  exact ⟨rfl, hbC⟩
theorem c_dLit_deczB (L : List Nat) (v : Nat) (hL : ∀ c ∈ L, c < 256) (hl : L.length ≤ 800) (hpre : preL L = 0) (h0 : 0 < decN L) (hz : L.getD 0 0 = 48) (hz1 : 1 < decN L) (hz2 : wth (L.getD 1 0) < 10) (w : World) (hW : LibW w) :
    Calls Tryz.prog 17 #[.string (u8sG L)] w fun r w' => r = .returned (.tuple #[.float .f64 0, .int .i64 0, .int .i64 30]) ∧ Below w.heap.size w w' := by
  have hLk := Lib.hid (fun W (hb : Below w.heap.size w W) => hW.keep hb)
  have hPr := Lib.hid (fun W => c_dprefix L hL (by omega) W)
  rw [hpre] at hPr
  have hPr : Hid (∀ W, Calls Tryz.prog 37 #[.string (u8sG L)] W fun r w' => r = .returned (.int .i64 0) ∧ Below W.heap.size W w') := hPr
  have hDe := Lib.hid (fun W => c_ddecimal L hL (by omega) W)
  have hsz : (u8sG L).size = L.length := uG_size L
  have hnl := decN_le L
  have hs0 : 0 < (u8sG L).size := by omega
  have hs0I : (0 : Int) < ((u8sG L).size : Int) := by omega
  have hg0 := uG_get L 0 (L.getD 0 0) (getD_lt rfl (by omega)) (hL _ (List.mem_of_getElem? (getD_lt rfl (by omega)))) hs0
  have hs5 : (u8sG L).size ≤ 800 := by omega
  have hs6 : decN L ≤ (u8sG L).size := by omega
  have hs7 : (decN L : Int) ≤ ((u8sG L).size : Int) := by omega
  have hnI : (0 : Int) < (decN L : Int) := by omega
  have hn0 : ((decN L : Int) == 0) = false := beq_eq_false_iff_ne.2 (by omega)
  rw [hz] at hg0
  have hs1 : 1 < (u8sG L).size := by omega
  have hs1I : (1 : Int) < ((u8sG L).size : Int) := by omega
  have hc1 := hL _ (List.mem_of_getElem? (getD_lt (L := L) (i := 1) rfl (by omega)))
  have hg1 := uG_get L 1 (L.getD 1 0) (getD_lt rfl (by omega)) hc1 hs1
  have hW1 := Lib.hid (fun W => c_dworth (L.getD 1 0) hc1 W)
  have hn1 : (1 : Int) < (decN L : Int) := by omega
  have hw1 :  (wth (L.getD 1 0) : Int) < 10 := by omega
  generalize wth (L.getD 1 0) = wc1 at *
  generalize L.getD 1 0 = c1 at *
  clear hz hz1 hz2 hc1
  clear hL hl hpre hsz hnl hW h0
  generalize decN L = n at *
  generalize u8sG L = S at *
  go_enter Tryz.func17, Tryz.ntmps17
  go_wp2_with fail
  refine (hPr.out _).mono ?_
  rintro e w3 ⟨rfl, hbB⟩
  go_wp2_with fail
  refine (hDe.out _).mono ?_
  rintro e w4 ⟨rfl, hb4⟩
  have hbC : Below w.heap.size w w4 := hbB.trans (hb4.mono hbB.size)
  clear hb4 hbB
  go_wp2_with (go_at_call 46; refine (hW1.out _).mono ?_; rintro e w' ⟨rfl, rfl⟩)
  go_ret3
  exact ⟨rfl, hbC⟩
theorem c_dLit_deca (L : List Nat) (v : Nat) (hL : ∀ c ∈ L, c < 256) (hl : L.length ≤ 800) (hpre : preL L = 0) (h0 : 0 < decN L) (hz : L.getD 0 0 ≠ 48) (hd : DcT (L.take (decN L)) v) (hEnd : EndC (u8sG L) (decN L) true) (w : World) (hW : LibW w) :
    Calls Tryz.prog 17 #[.string (u8sG L)] w fun r w' => r = .returned (.tuple #[.float .f64 v, .int .i64 (decN L : Int), .int .i64 0]) ∧ Below w.heap.size w w' := by
  have hLk := Lib.hid (fun W (hb : Below w.heap.size w W) => hW.keep hb)
  have hPr := Lib.hid (fun W => c_dprefix L hL (by omega) W)
  rw [hpre] at hPr
  have hPr : Hid (∀ W, Calls Tryz.prog 37 #[.string (u8sG L)] W fun r w' => r = .returned (.int .i64 0) ∧ Below W.heap.size W w') := hPr
  have hDe := Lib.hid (fun W => c_ddecimal L hL (by omega) W)
  have hsz : (u8sG L).size = L.length := uG_size L
  have hnl := decN_le L
  have hs0 : 0 < (u8sG L).size := by omega
  have hs0I : (0 : Int) < ((u8sG L).size : Int) := by omega
  have hg0 := uG_get L 0 (L.getD 0 0) (getD_lt rfl (by omega)) (hL _ (List.mem_of_getElem? (getD_lt rfl (by omega)))) hs0
  have hs5 : (u8sG L).size ≤ 800 := by omega
  have hs6 : decN L ≤ (u8sG L).size := by omega
  have hs7 : (decN L : Int) ≤ ((u8sG L).size : Int) := by omega
  have hnI : (0 : Int) < (decN L : Int) := by omega
  have hn0 : ((decN L : Int) == 0) = false := beq_eq_false_iff_ne.2 (by omega)
  have hq0 : ((L.getD 0 0 : Int) == 48) = false := beq_eq_false_iff_ne.2 (by omega)
  generalize L.getD 0 0 = c0 at *
  clear hz
  have hFl := Lib.hid (fun W hW => c_dfloat hd (by rw [List.length_take]; omega) W hW)
  have hex : (u8sG L).extract 0 (decN L) = u8sG (L.take (decN L)) := by rw [uG_ext]; rfl
  generalize u8sG (L.take (decN L)) = D at *
  clear hL hl hpre hsz hnl hW h0 hd
  generalize decN L = n at *
  generalize u8sG L = S at *
  go_enter Tryz.func17, Tryz.ntmps17
  go_wp2_with fail
  refine (hPr.out _).mono ?_
  rintro e w3 ⟨rfl, hbB⟩
  go_wp2_with fail
  refine (hDe.out _).mono ?_
  rintro e w4 ⟨rfl, hb4⟩
  have hbC : Below w.heap.size w w4 := hbB.trans (hb4.mono hbB.size)
  clear hb4 hbB
  go_wp2_with fail
  refine (hFl.out _ (hLk.out _ hbC)).mono ?_
  rintro e w5 ⟨rfl, hb5⟩
  have hbD : Below w.heap.size w w5 := hbC.trans (hb5.mono hbC.size)
  clear hb5 hbC
  cases hEnd with
  | e0 hE =>
    have hE1 : ¬ ((n : Int)) < (S.size : Int) := by omega
    clear hE
    go_wp2_with fail
    go_ret3
    exact ⟨rfl, hbD⟩
  | e5 hE c hc hc8 h1 h2 h3 h4 =>
    have hE1 : ((n : Int)) < (S.size : Int) := by omega
    have hgc := hc hE
    have hWo := Lib.hid (fun W => c_dworth c hc8 W)
    have hE2 : ¬ (wth c : Int) < 36 := by omega
    have hE3 : ((c : Int) == 36) = false := beq_eq_false_iff_ne.2 (by omega)
    have hE4 : ((c : Int) == 95) = false := beq_eq_false_iff_ne.2 (by omega)
    have hE5 : ¬ (128 : Int) ≤ (c : Int) := by omega
    generalize wth c = wc at *
    clear h1 h2 h3 h4
    go_wp2_with (go_at_call 46; refine (hWo.out _).mono ?_; rintro e w' ⟨rfl, rfl⟩)
    go_ret3
    exact ⟨rfl, hbD⟩
theorem c_dLit_decaB (L : List Nat) (v : Nat) (hL : ∀ c ∈ L, c < 256) (hl : L.length ≤ 800) (hpre : preL L = 0) (h0 : 0 < decN L) (hz : L.getD 0 0 ≠ 48) (hd : DcT (L.take (decN L)) v) (hEnd : EndC (u8sG L) (decN L) false) (w : World) (hW : LibW w) :
    Calls Tryz.prog 17 #[.string (u8sG L)] w fun r w' => r = .returned (.tuple #[.float .f64 0, .int .i64 0, .int .i64 30]) ∧ Below w.heap.size w w' := by
  have hLk := Lib.hid (fun W (hb : Below w.heap.size w W) => hW.keep hb)
  have hPr := Lib.hid (fun W => c_dprefix L hL (by omega) W)
  rw [hpre] at hPr
  have hPr : Hid (∀ W, Calls Tryz.prog 37 #[.string (u8sG L)] W fun r w' => r = .returned (.int .i64 0) ∧ Below W.heap.size W w') := hPr
  have hDe := Lib.hid (fun W => c_ddecimal L hL (by omega) W)
  have hsz : (u8sG L).size = L.length := uG_size L
  have hnl := decN_le L
  have hs0 : 0 < (u8sG L).size := by omega
  have hs0I : (0 : Int) < ((u8sG L).size : Int) := by omega
  have hg0 := uG_get L 0 (L.getD 0 0) (getD_lt rfl (by omega)) (hL _ (List.mem_of_getElem? (getD_lt rfl (by omega)))) hs0
  have hs5 : (u8sG L).size ≤ 800 := by omega
  have hs6 : decN L ≤ (u8sG L).size := by omega
  have hs7 : (decN L : Int) ≤ ((u8sG L).size : Int) := by omega
  have hnI : (0 : Int) < (decN L : Int) := by omega
  have hn0 : ((decN L : Int) == 0) = false := beq_eq_false_iff_ne.2 (by omega)
  have hq0 : ((L.getD 0 0 : Int) == 48) = false := beq_eq_false_iff_ne.2 (by omega)
  generalize L.getD 0 0 = c0 at *
  clear hz
  have hFl := Lib.hid (fun W hW => c_dfloat hd (by rw [List.length_take]; omega) W hW)
  have hex : (u8sG L).extract 0 (decN L) = u8sG (L.take (decN L)) := by rw [uG_ext]; rfl
  generalize u8sG (L.take (decN L)) = D at *
  clear hL hl hpre hsz hnl hW h0 hd
  generalize decN L = n at *
  generalize u8sG L = S at *
  go_enter Tryz.func17, Tryz.ntmps17
  go_wp2_with fail
  refine (hPr.out _).mono ?_
  rintro e w3 ⟨rfl, hbB⟩
  go_wp2_with fail
  refine (hDe.out _).mono ?_
  rintro e w4 ⟨rfl, hb4⟩
  have hbC : Below w.heap.size w w4 := hbB.trans (hb4.mono hbB.size)
  clear hb4 hbB
  go_wp2_with fail
  refine (hFl.out _ (hLk.out _ hbC)).mono ?_
  rintro e w5 ⟨rfl, hb5⟩
  have hbD : Below w.heap.size w w5 := hbC.trans (hb5.mono hbC.size)
  clear hb5 hbC
  cases hEnd with
  | e1 hE c hc hc8 h1 =>
    have hE1 : ((n : Int)) < (S.size : Int) := by omega
    have hgc := hc hE
    have hWo := Lib.hid (fun W => c_dworth c hc8 W)
    have hE2 : (wth c : Int) < 36 := by omega
    generalize wth c = wc at *
    go_wp2_with (go_at_call 46; refine (hWo.out _).mono ?_; rintro e w' ⟨rfl, rfl⟩)
    go_ret3
    exact ⟨rfl, hbD⟩
  | e2 hE hc =>
    have hE1 : ((n : Int)) < (S.size : Int) := by omega
    have hgc := hc hE
    have hWo := Lib.hid (fun W => c_dworth 36 (by decide) W)
    rw [wth_36] at hWo
    have hWo : Hid (∀ W, Calls Tryz.prog 46 #[.int .u8 36] W fun r w' => r = .returned (.int .i64 99) ∧ W = w') := hWo
    go_wp2_with (go_at_call 46; refine (hWo.out _).mono ?_; rintro e w' ⟨rfl, rfl⟩)
    go_ret3
    exact ⟨rfl, hbD⟩
  | e3 hE hc =>
    have hE1 : ((n : Int)) < (S.size : Int) := by omega
    have hgc := hc hE
    have hWo := Lib.hid (fun W => c_dworth 95 (by decide) W)
    rw [wth_95] at hWo
    have hWo : Hid (∀ W, Calls Tryz.prog 46 #[.int .u8 95] W fun r w' => r = .returned (.int .i64 99) ∧ W = w') := hWo
    go_wp2_with (go_at_call 46; refine (hWo.out _).mono ?_; rintro e w' ⟨rfl, rfl⟩)
    go_ret3
    exact ⟨rfl, hbD⟩
  | e4 hE c hc hc8 h1 =>
    have hE1 : ((n : Int)) < (S.size : Int) := by omega
    have hgc := hc hE
    have hWo := Lib.hid (fun W => c_dworth c hc8 W)
    rw [wth_128 h1 hc8] at hWo
    have hWo : Hid (∀ W, Calls Tryz.prog 46 #[.int .u8 (c : Int)] W fun r w' => r = .returned (.int .i64 99) ∧ W = w') := hWo
    have hE3 : ((c : Int) == 36) = false := beq_eq_false_iff_ne.2 (by omega)
    have hE4 : ((c : Int) == 95) = false := beq_eq_false_iff_ne.2 (by omega)
    have hE5 : (128 : Int) ≤ (c : Int) := by omega
    clear h1
    go_wp2_with (go_at_call 46; refine (hWo.out _).mono ?_; rintro e w' ⟨rfl, rfl⟩)
    go_ret3
    exact ⟨rfl, hbD⟩
theorem c_dLit_decb (L : List Nat) (v : Nat) (hL : ∀ c ∈ L, c < 256) (hl : L.length ≤ 800) (hpre : preL L = 0) (h0 : 0 < decN L) (hz : L.getD 0 0 = 48) (hz1 : decN L = 1) (hd : DcT (L.take (decN L)) v) (hEnd : EndC (u8sG L) (decN L) true) (w : World) (hW : LibW w) :
    Calls Tryz.prog 17 #[.string (u8sG L)] w fun r w' => r = .returned (.tuple #[.float .f64 v, .int .i64 (decN L : Int), .int .i64 0]) ∧ Below w.heap.size w w' := by
  have hLk := Lib.hid (fun W (hb : Below w.heap.size w W) => hW.keep hb)
  have hPr := Lib.hid (fun W => c_dprefix L hL (by omega) W)
  rw [hpre] at hPr
  have hPr : Hid (∀ W, Calls Tryz.prog 37 #[.string (u8sG L)] W fun r w' => r = .returned (.int .i64 0) ∧ Below W.heap.size W w') := hPr
  have hDe := Lib.hid (fun W => c_ddecimal L hL (by omega) W)
  have hsz : (u8sG L).size = L.length := uG_size L
  have hnl := decN_le L
  have hs0 : 0 < (u8sG L).size := by omega
  have hs0I : (0 : Int) < ((u8sG L).size : Int) := by omega
  have hg0 := uG_get L 0 (L.getD 0 0) (getD_lt rfl (by omega)) (hL _ (List.mem_of_getElem? (getD_lt rfl (by omega)))) hs0
  have hs5 : (u8sG L).size ≤ 800 := by omega
  have hs6 : decN L ≤ (u8sG L).size := by omega
  have hs7 : (decN L : Int) ≤ ((u8sG L).size : Int) := by omega
  have hnI : (0 : Int) < (decN L : Int) := by omega
  have hn0 : ((decN L : Int) == 0) = false := beq_eq_false_iff_ne.2 (by omega)
  rw [hz] at hg0
  rw [hz1] at *
  have hDe : Hid (∀ W, Calls Tryz.prog 43 #[.string (u8sG L)] W fun r w' => r = .returned (.int .i64 1) ∧ Below W.heap.size W w') := hDe
  clear hz hz1
  have hFl := Lib.hid (fun W hW => c_dfloat hd (by rw [List.length_take]; omega) W hW)
  have hex : (u8sG L).extract 0 (1) = u8sG (L.take (1)) := by rw [uG_ext]; rfl
  generalize u8sG (L.take (1)) = D at *
  clear hL hl hpre hsz hnl hW h0 hd
  generalize u8sG L = S at *
  go_enter Tryz.func17, Tryz.ntmps17
  go_wp2_with fail
  refine (hPr.out _).mono ?_
  rintro e w3 ⟨rfl, hbB⟩
  go_wp2_with fail
  refine (hDe.out _).mono ?_
  rintro e w4 ⟨rfl, hb4⟩
  have hbC : Below w.heap.size w w4 := hbB.trans (hb4.mono hbB.size)
  clear hb4 hbB
  go_wp2_with fail
  refine (hFl.out _ (hLk.out _ hbC)).mono ?_
  rintro e w5 ⟨rfl, hb5⟩
  have hbD : Below w.heap.size w w5 := hbC.trans (hb5.mono hbC.size)
  clear hb5 hbC
  cases hEnd with
  | e0 hE =>
    have hE1 : ¬ (((1 : Nat) : Int)) < (S.size : Int) := by omega
    clear hE
    go_wp2_with fail
    go_ret3
    exact ⟨rfl, hbD⟩
  | e5 hE c hc hc8 h1 h2 h3 h4 =>
    have hE1 : (((1 : Nat) : Int)) < (S.size : Int) := by omega
    have hgc := hc hE
    have hWo := Lib.hid (fun W => c_dworth c hc8 W)
    have hE2 : ¬ (wth c : Int) < 36 := by omega
    have hE3 : ((c : Int) == 36) = false := beq_eq_false_iff_ne.2 (by omega)
    have hE4 : ((c : Int) == 95) = false := beq_eq_false_iff_ne.2 (by omega)
    have hE5 : ¬ (128 : Int) ≤ (c : Int) := by omega
    generalize wth c = wc at *
    clear h1 h2 h3 h4
    go_wp2_with (go_at_call 46; refine (hWo.out _).mono ?_; rintro e w' ⟨rfl, rfl⟩)
    go_ret3
    exact ⟨rfl, hbD⟩
theorem c_dLit_decbB (L : List Nat) (v : Nat) (hL : ∀ c ∈ L, c < 256) (hl : L.length ≤ 800) (hpre : preL L = 0) (h0 : 0 < decN L) (hz : L.getD 0 0 = 48) (hz1 : decN L = 1) (hd : DcT (L.take (decN L)) v) (hEnd : EndC (u8sG L) (decN L) false) (w : World) (hW : LibW w) :
    Calls Tryz.prog 17 #[.string (u8sG L)] w fun r w' => r = .returned (.tuple #[.float .f64 0, .int .i64 0, .int .i64 30]) ∧ Below w.heap.size w w' := by
  have hLk := Lib.hid (fun W (hb : Below w.heap.size w W) => hW.keep hb)
  have hPr := Lib.hid (fun W => c_dprefix L hL (by omega) W)
  rw [hpre] at hPr
  have hPr : Hid (∀ W, Calls Tryz.prog 37 #[.string (u8sG L)] W fun r w' => r = .returned (.int .i64 0) ∧ Below W.heap.size W w') := hPr
  have hDe := Lib.hid (fun W => c_ddecimal L hL (by omega) W)
  have hsz : (u8sG L).size = L.length := uG_size L
  have hnl := decN_le L
  have hs0 : 0 < (u8sG L).size := by omega
  have hs0I : (0 : Int) < ((u8sG L).size : Int) := by omega
  have hg0 := uG_get L 0 (L.getD 0 0) (getD_lt rfl (by omega)) (hL _ (List.mem_of_getElem? (getD_lt rfl (by omega)))) hs0
  have hs5 : (u8sG L).size ≤ 800 := by omega
  have hs6 : decN L ≤ (u8sG L).size := by omega
  have hs7 : (decN L : Int) ≤ ((u8sG L).size : Int) := by omega
  have hnI : (0 : Int) < (decN L : Int) := by omega
  have hn0 : ((decN L : Int) == 0) = false := beq_eq_false_iff_ne.2 (by omega)
  rw [hz] at hg0
  rw [hz1] at *
  have hDe : Hid (∀ W, Calls Tryz.prog 43 #[.string (u8sG L)] W fun r w' => r = .returned (.int .i64 1) ∧ Below W.heap.size W w') := hDe
  clear hz hz1
  have hFl := Lib.hid (fun W hW => c_dfloat hd (by rw [List.length_take]; omega) W hW)
  have hex : (u8sG L).extract 0 (1) = u8sG (L.take (1)) := by rw [uG_ext]; rfl
  generalize u8sG (L.take (1)) = D at *
  clear hL hl hpre hsz hnl hW h0 hd
  generalize u8sG L = S at *
  go_enter Tryz.func17, Tryz.ntmps17
  go_wp2_with fail
  refine (hPr.out _).mono ?_
  rintro e w3 ⟨rfl, hbB⟩
  go_wp2_with fail
  refine (hDe.out _).mono ?_
  rintro e w4 ⟨rfl, hb4⟩
  have hbC : Below w.heap.size w w4 := hbB.trans (hb4.mono hbB.size)
  clear hb4 hbB
  go_wp2_with fail
  refine (hFl.out _ (hLk.out _ hbC)).mono ?_
  rintro e w5 ⟨rfl, hb5⟩
  have hbD : Below w.heap.size w w5 := hbC.trans (hb5.mono hbC.size)
  clear hb5 hbC
  cases hEnd with
  | e1 hE c hc hc8 h1 =>
    have hE1 : (((1 : Nat) : Int)) < (S.size : Int) := by omega
    have hgc := hc hE
    have hWo := Lib.hid (fun W => c_dworth c hc8 W)
    have hE2 : (wth c : Int) < 36 := by omega
    generalize wth c = wc at *
    go_wp2_with (go_at_call 46; refine (hWo.out _).mono ?_; rintro e w' ⟨rfl, rfl⟩)
    go_ret3
    exact ⟨rfl, hbD⟩
  | e2 hE hc =>
    have hE1 : (((1 : Nat) : Int)) < (S.size : Int) := by omega
    have hgc := hc hE
    have hWo := Lib.hid (fun W => c_dworth 36 (by decide) W)
    rw [wth_36] at hWo
    have hWo : Hid (∀ W, Calls Tryz.prog 46 #[.int .u8 36] W fun r w' => r = .returned (.int .i64 99) ∧ W = w') := hWo
    go_wp2_with (go_at_call 46; refine (hWo.out _).mono ?_; rintro e w' ⟨rfl, rfl⟩)
    go_ret3
    exact ⟨rfl, hbD⟩
  | e3 hE hc =>
    have hE1 : (((1 : Nat) : Int)) < (S.size : Int) := by omega
    have hgc := hc hE
    have hWo := Lib.hid (fun W => c_dworth 95 (by decide) W)
    rw [wth_95] at hWo
    have hWo : Hid (∀ W, Calls Tryz.prog 46 #[.int .u8 95] W fun r w' => r = .returned (.int .i64 99) ∧ W = w') := hWo
    go_wp2_with (go_at_call 46; refine (hWo.out _).mono ?_; rintro e w' ⟨rfl, rfl⟩)
    go_ret3
    exact ⟨rfl, hbD⟩
  | e4 hE c hc hc8 h1 =>
    have hE1 : (((1 : Nat) : Int)) < (S.size : Int) := by omega
    have hgc := hc hE
    have hWo := Lib.hid (fun W => c_dworth c hc8 W)
    rw [wth_128 h1 hc8] at hWo
    have hWo : Hid (∀ W, Calls Tryz.prog 46 #[.int .u8 (c : Int)] W fun r w' => r = .returned (.int .i64 99) ∧ W = w') := hWo
    have hE3 : ((c : Int) == 36) = false := beq_eq_false_iff_ne.2 (by omega)
    have hE4 : ((c : Int) == 95) = false := beq_eq_false_iff_ne.2 (by omega)
    have hE5 : (128 : Int) ≤ (c : Int) := by omega
    clear h1
    go_wp2_with (go_at_call 46; refine (hWo.out _).mono ?_; rintro e w' ⟨rfl, rfl⟩)
    go_ret3
    exact ⟨rfl, hbD⟩
theorem c_dLit_decc (L : List Nat) (v : Nat) (hL : ∀ c ∈ L, c < 256) (hl : L.length ≤ 800) (hpre : preL L = 0) (h0 : 0 < decN L) (hz : L.getD 0 0 = 48) (hz1 : 1 < decN L) (hz2 : ¬ wth (L.getD 1 0) < 10) (hd : DcT (L.take (decN L)) v) (hEnd : EndC (u8sG L) (decN L) true) (w : World) (hW : LibW w) :
    Calls Tryz.prog 17 #[.string (u8sG L)] w fun r w' => r = .returned (.tuple #[.float .f64 v, .int .i64 (decN L : Int), .int .i64 0]) ∧ Below w.heap.size w w' := by
  have hLk := Lib.hid (fun W (hb : Below w.heap.size w W) => hW.keep hb)
  have hPr := Lib.hid (fun W => c_dprefix L hL (by omega) W)
  rw [hpre] at hPr
  have hPr : Hid (∀ W, Calls Tryz.prog 37 #[.string (u8sG L)] W fun r w' => r = .returned (.int .i64 0) ∧ Below W.heap.size W w') := hPr
  have hDe := Lib.hid (fun W => c_ddecimal L hL (by omega) W)
  have hsz : (u8sG L).size = L.length := uG_size L
  have hnl := decN_le L
  have hs0 : 0 < (u8sG L).size := by omega
  have hs0I : (0 : Int) < ((u8sG L).size : Int) := by omega
  have hg0 := uG_get L 0 (L.getD 0 0) (getD_lt rfl (by omega)) (hL _ (List.mem_of_getElem? (getD_lt rfl (by omega)))) hs0
  have hs5 : (u8sG L).size ≤ 800 := by omega
  have hs6 : decN L ≤ (u8sG L).size := by omega
  have hs7 : (decN L : Int) ≤ ((u8sG L).size : Int) := by omega
  have hnI : (0 : Int) < (decN L : Int) := by omega
  have hn0 : ((decN L : Int) == 0) = false := beq_eq_false_iff_ne.2 (by omega)
  rw [hz] at hg0
  have hs1 : 1 < (u8sG L).size := by omega
  have hs1I : (1 : Int) < ((u8sG L).size : Int) := by omega
  have hc1 := hL _ (List.mem_of_getElem? (getD_lt (L := L) (i := 1) rfl (by omega)))
  have hg1 := uG_get L 1 (L.getD 1 0) (getD_lt rfl (by omega)) hc1 hs1
  have hW1 := Lib.hid (fun W => c_dworth (L.getD 1 0) hc1 W)
  have hn1 : (1 : Int) < (decN L : Int) := by omega
  have hw1 : ¬ (wth (L.getD 1 0) : Int) < 10 := by omega
  generalize wth (L.getD 1 0) = wc1 at *
  generalize L.getD 1 0 = c1 at *
  clear hz hz1 hz2 hc1
  have hFl := Lib.hid (fun W hW => c_dfloat hd (by rw [List.length_take]; omega) W hW)
  have hex : (u8sG L).extract 0 (decN L) = u8sG (L.take (decN L)) := by rw [uG_ext]; rfl
  generalize u8sG (L.take (decN L)) = D at *
  clear hL hl hpre hsz hnl hW h0 hd
  generalize decN L = n at *
  generalize u8sG L = S at *
  go_enter Tryz.func17, Tryz.ntmps17
  go_wp2_with fail
  refine (hPr.out _).mono ?_
  rintro e w3 ⟨rfl, hbB⟩
  go_wp2_with fail
  refine (hDe.out _).mono ?_
  rintro e w4 ⟨rfl, hb4⟩
  have hbC : Below w.heap.size w w4 := hbB.trans (hb4.mono hbB.size)
  clear hb4 hbB
  go_wp2_with (go_at_call 46; refine (hW1.out _).mono ?_; rintro e w' ⟨rfl, rfl⟩)
  refine (hFl.out _ (hLk.out _ hbC)).mono ?_
  rintro e w5 ⟨rfl, hb5⟩
  have hbD : Below w.heap.size w w5 := hbC.trans (hb5.mono hbC.size)
  clear hb5 hbC
  cases hEnd with
  | e0 hE =>
    have hE1 : ¬ ((n : Int)) < (S.size : Int) := by omega
    clear hE
    go_wp2_with fail
    go_ret3
    exact ⟨rfl, hbD⟩
  | e5 hE c hc hc8 h1 h2 h3 h4 =>
    have hE1 : ((n : Int)) < (S.size : Int) := by omega
    have hgc := hc hE
    have hWo := Lib.hid (fun W => c_dworth c hc8 W)
    have hE2 : ¬ (wth c : Int) < 36 := by omega
    have hE3 : ((c : Int) == 36) = false := beq_eq_false_iff_ne.2 (by omega)
    have hE4 : ((c : Int) == 95) = false := beq_eq_false_iff_ne.2 (by omega)
    have hE5 : ¬ (128 : Int) ≤ (c : Int) := by omega
    generalize wth c = wc at *
    clear h1 h2 h3 h4
    go_wp2_with (go_at_call 46; refine (hWo.out _).mono ?_; rintro e w' ⟨rfl, rfl⟩)
    go_ret3
    exact ⟨rfl, hbD⟩
theorem c_dLit_deccB (L : List Nat) (v : Nat) (hL : ∀ c ∈ L, c < 256) (hl : L.length ≤ 800) (hpre : preL L = 0) (h0 : 0 < decN L) (hz : L.getD 0 0 = 48) (hz1 : 1 < decN L) (hz2 : ¬ wth (L.getD 1 0) < 10) (hd : DcT (L.take (decN L)) v) (hEnd : EndC (u8sG L) (decN L) false) (w : World) (hW : LibW w) :
    Calls Tryz.prog 17 #[.string (u8sG L)] w fun r w' => r = .returned (.tuple #[.float .f64 0, .int .i64 0, .int .i64 30]) ∧ Below w.heap.size w w' := by
  have hLk := Lib.hid (fun W (hb : Below w.heap.size w W) => hW.keep hb)
  have hPr := Lib.hid (fun W => c_dprefix L hL (by omega) W)
  rw [hpre] at hPr
  have hPr : Hid (∀ W, Calls Tryz.prog 37 #[.string (u8sG L)] W fun r w' => r = .returned (.int .i64 0) ∧ Below W.heap.size W w') := hPr
  have hDe := Lib.hid (fun W => c_ddecimal L hL (by omega) W)
  have hsz : (u8sG L).size = L.length := uG_size L
  have hnl := decN_le L
  have hs0 : 0 < (u8sG L).size := by omega
  have hs0I : (0 : Int) < ((u8sG L).size : Int) := by omega
  have hg0 := uG_get L 0 (L.getD 0 0) (getD_lt rfl (by omega)) (hL _ (List.mem_of_getElem? (getD_lt rfl (by omega)))) hs0
  have hs5 : (u8sG L).size ≤ 800 := by omega
  have hs6 : decN L ≤ (u8sG L).size := by omega
  have hs7 : (decN L : Int) ≤ ((u8sG L).size : Int) := by omega
  have hnI : (0 : Int) < (decN L : Int) := by omega
  have hn0 : ((decN L : Int) == 0) = false := beq_eq_false_iff_ne.2 (by omega)
  rw [hz] at hg0
  have hs1 : 1 < (u8sG L).size := by omega
  have hs1I : (1 : Int) < ((u8sG L).size : Int) := by omega
  have hc1 := hL _ (List.mem_of_getElem? (getD_lt (L := L) (i := 1) rfl (by omega)))
  have hg1 := uG_get L 1 (L.getD 1 0) (getD_lt rfl (by omega)) hc1 hs1
  have hW1 := Lib.hid (fun W => c_dworth (L.getD 1 0) hc1 W)
  have hn1 : (1 : Int) < (decN L : Int) := by omega
  have hw1 : ¬ (wth (L.getD 1 0) : Int) < 10 := by omega
  generalize wth (L.getD 1 0) = wc1 at *
  generalize L.getD 1 0 = c1 at *
  clear hz hz1 hz2 hc1
  have hFl := Lib.hid (fun W hW => c_dfloat hd (by rw [List.length_take]; omega) W hW)
  have hex : (u8sG L).extract 0 (decN L) = u8sG (L.take (decN L)) := by rw [uG_ext]; rfl
  generalize u8sG (L.take (decN L)) = D at *
  clear hL hl hpre hsz hnl hW h0 hd
  generalize decN L = n at *
  generalize u8sG L = S at *
  go_enter Tryz.func17, Tryz.ntmps17
  go_wp2_with fail
  refine (hPr.out _).mono ?_
  rintro e w3 ⟨rfl, hbB⟩
  go_wp2_with fail
  refine (hDe.out _).mono ?_
  rintro e w4 ⟨rfl, hb4⟩
  have hbC : Below w.heap.size w w4 := hbB.trans (hb4.mono hbB.size)
  clear hb4 hbB
  go_wp2_with (go_at_call 46; refine (hW1.out _).mono ?_; rintro e w' ⟨rfl, rfl⟩)
  refine (hFl.out _ (hLk.out _ hbC)).mono ?_
  rintro e w5 ⟨rfl, hb5⟩
  have hbD : Below w.heap.size w w5 := hbC.trans (hb5.mono hbC.size)
  clear hb5 hbC
  cases hEnd with
  | e1 hE c hc hc8 h1 =>
    have hE1 : ((n : Int)) < (S.size : Int) := by omega
    have hgc := hc hE
    have hWo := Lib.hid (fun W => c_dworth c hc8 W)
    have hE2 : (wth c : Int) < 36 := by omega
    generalize wth c = wc at *
    go_wp2_with (go_at_call 46; refine (hWo.out _).mono ?_; rintro e w' ⟨rfl, rfl⟩)
    go_ret3
    exact ⟨rfl, hbD⟩
  | e2 hE hc =>
    have hE1 : ((n : Int)) < (S.size : Int) := by omega
    have hgc := hc hE
    have hWo := Lib.hid (fun W => c_dworth 36 (by decide) W)
    rw [wth_36] at hWo
    have hWo : Hid (∀ W, Calls Tryz.prog 46 #[.int .u8 36] W fun r w' => r = .returned (.int .i64 99) ∧ W = w') := hWo
    go_wp2_with (go_at_call 46; refine (hWo.out _).mono ?_; rintro e w' ⟨rfl, rfl⟩)
    go_ret3
    exact ⟨rfl, hbD⟩
  | e3 hE hc =>
    have hE1 : ((n : Int)) < (S.size : Int) := by omega
    have hgc := hc hE
    have hWo := Lib.hid (fun W => c_dworth 95 (by decide) W)
    rw [wth_95] at hWo
    have hWo : Hid (∀ W, Calls Tryz.prog 46 #[.int .u8 95] W fun r w' => r = .returned (.int .i64 99) ∧ W = w') := hWo
    go_wp2_with (go_at_call 46; refine (hWo.out _).mono ?_; rintro e w' ⟨rfl, rfl⟩)
    go_ret3
    exact ⟨rfl, hbD⟩
  | e4 hE c hc hc8 h1 =>
    have hE1 : ((n : Int)) < (S.size : Int) := by omega
    have hgc := hc hE
    have hWo := Lib.hid (fun W => c_dworth c hc8 W)
    rw [wth_128 h1 hc8] at hWo
    have hWo : Hid (∀ W, Calls Tryz.prog 46 #[.int .u8 (c : Int)] W fun r w' => r = .returned (.int .i64 99) ∧ W = w') := hWo
    have hE3 : ((c : Int) == 36) = false := beq_eq_false_iff_ne.2 (by omega)
    have hE4 : ((c : Int) == 95) = false := beq_eq_false_iff_ne.2 (by omega)
    have hE5 : (128 : Int) ≤ (c : Int) := by omega
    clear h1
    go_wp2_with (go_at_call 46; refine (hWo.out _).mono ?_; rintro e w' ⟨rfl, rfl⟩)
    go_ret3
    exact ⟨rfl, hbD⟩
theorem c_dLiteralG (L : List Nat) (hL : ∀ c ∈ L, c < 256) (hl : L.length ≤ 800) {x n er : Nat} (h : LitR L x n er) (w : World) (hW : LibW w) :
    Calls Tryz.prog 17 #[.string (u8sG L)] w fun r w' => r = .returned (.tuple #[.float .f64 x, .int .i64 (n : Int), .int .i64 (er : Int)]) ∧ Below w.heap.size w w' := by
  have hrl : ∀ base, runL base (L.drop 2) ≤ L.length - 2 := fun base => by
    have := runL_le base (L.drop 2); rwa [List.length_drop] at this
  have hlen2 : 0 < preL L → 2 ≤ L.length := fun hp => by
    rcases Nat.lt_or_ge L.length 2 with h | h
    · exfalso
      have : preL L = 0 := by unfold preL; rw [if_neg (by omega)]
      omega
    · exact h
  cases h with
  | preZ hp hb hk => exact c_dLit_preZ L _ hL hl hp hb hk w
  | preB hp hb hk h0 h =>
    rename_i base k
    have := hrl base
    have := hlen2 (by omega)
    exact c_dLit_preB L _ _ hL hl hp hb hk h0 (endC_of (endF_of hL (by omega) false h)) w hW
  | pre hp hb hk h0 h =>
    rename_i base k
    have := hrl base
    have := hlen2 (by omega)
    exact c_dLit_pre L _ _ hL hl hp hb hk h0 (endC_of (endF_of hL (by omega) true h)) w hW
  | none hp hn => exact c_dLit_none L hL hl hp hn w
  | zero hp h0 h => exact c_dLit_deczB L 0 hL hl hp h0 h.1 h.2.1 h.2.2 w hW
  | bad hp h0 hz h =>
    obtain ⟨v, hd⟩ := dec_form hL h0
    have hE := endC_of (endF_of hL (decN_le L) false h)
    by_cases h1 : L.getD 0 0 = 48
    · by_cases h2 : decN L = 1
      · exact c_dLit_decbB L v hL hl hp h0 h1 h2 hd hE w hW
      · exact c_dLit_deccB L v hL hl hp h0 h1 (by omega) (fun h3 => hz ⟨h1, by omega, h3⟩) hd hE w hW
    · exact c_dLit_decaB L v hL hl hp h0 h1 hd hE w hW
  | ok hp h0 hz h hd =>
    have hE := endC_of (endF_of hL (decN_le L) true h)
    by_cases h1 : L.getD 0 0 = 48
    · by_cases h2 : decN L = 1
      · exact c_dLit_decb L x hL hl hp h0 h1 h2 hd hE w hW
      · exact c_dLit_decc L x hL hl hp h0 h1 (by omega) (fun h3 => hz ⟨h1, by omega, h3⟩) hd hE w hW
    · exact c_dLit_deca L x hL hl hp h0 h1 hd hE w hW
end Go.Proofs.YtbakbikilbaafaaGreatDoor
namespace Go.Proofs.YtbakbikilbaafaaGreatDoor
open Go.RowKit F64 Ieee
set_option linter.unusedVariables false
set_option maxHeartbeats 4000000
set_option maxRecDepth 100000

theorem FrA.units {s : ByteArray} (k : Nat) (h : k ≤ s.size / 2) : (s.extract (2 * k) (2 * (s.size / 2))).size / 2 = s.size / 2 - k := by
  rw [ByteArray.size_extract]; omega
end Go.Proofs.YtbakbikilbaafaaGreatDoor
namespace Go.Proofs.YtbakbikilbaafaaGreatDoor
open Go.RowKit F64 Ieee
set_option linter.unusedVariables false
set_option maxHeartbeats 4000000
set_option maxRecDepth 100000

/-- a digit's worth, as the reference tells it -/
def dgR (c : Nat) : Nat := if 48 ≤ c ∧ c ≤ 57 then c - 48 else if 97 ≤ c ∧ c ≤ 122 then c - 97 + 10 else if 65 ≤ c ∧ c ≤ 90 then c - 65 + 10 else 99
theorem dgR_wth {c : Nat} (hc : c < 256) : dgR c = wth c := by
  have all : ∀ c : Fin 256, dgR c.val = wth c.val := by decide +kernel
  exact all ⟨c, hc⟩
theorem c_Rdigit (c : Nat) (hc : c < 256) (w : World) : Calls Tryz.prog 55 #[.int .u8 (c : Int)] w fun r w' => r = .returned (.int .i64 (wth c : Int)) ∧ w = w' := by
  rw [← dgR_wth hc]
  unfold dgR
  by_cases a1 : 48 ≤ c
  · by_cases a2 : c ≤ 57
    · rw [if_pos ⟨a1, a2⟩, show ((c - 48 : Nat) : Int) = (c : Int) - 48 by omega]
      go_enter Tryz.func55, Tryz.ntmps55
      go_wp2
      go_ret
      exact ⟨rfl, rfl⟩
    · rw [if_neg (fun h => a2 h.2)]
      by_cases b1 : 97 ≤ c
      · by_cases b2 : c ≤ 122
        · rw [if_pos ⟨b1, b2⟩, show ((c - 97 + 10 : Nat) : Int) = (c : Int) - 97 + 10 by omega]
          go_enter Tryz.func55, Tryz.ntmps55
          go_wp2
          go_ret
          exact ⟨rfl, rfl⟩
        · have c1 : 65 ≤ c := by omega
          have c2 : ¬ c ≤ 90 := by omega
          rw [if_neg (fun h => b2 h.2), if_neg (fun h => c2 h.2)]
          go_enter Tryz.func55, Tryz.ntmps55
          go_wp2
          go_ret
          exact ⟨rfl, rfl⟩
      · rw [if_neg (fun h => b1 h.1)]
        by_cases c1 : 65 ≤ c
        · by_cases c2 : c ≤ 90
          · rw [if_pos ⟨c1, c2⟩, show ((c - 65 + 10 : Nat) : Int) = (c : Int) - 65 + 10 by omega]
            go_enter Tryz.func55, Tryz.ntmps55
            go_wp2
            go_ret
            exact ⟨rfl, rfl⟩
          · rw [if_neg (fun h => c2 h.2)]
            go_enter Tryz.func55, Tryz.ntmps55
            go_wp2
            go_ret
            exact ⟨rfl, rfl⟩
        · rw [if_neg (fun h => c1 h.1)]
          go_enter Tryz.func55, Tryz.ntmps55
          go_wp2
          go_ret
          exact ⟨rfl, rfl⟩
  · have b1 : ¬ 97 ≤ c := by omega
    have c1 : ¬ 65 ≤ c := by omega
    rw [if_neg (fun h => a1 h.1), if_neg (fun h => b1 h.1), if_neg (fun h => c1 h.1)]
    go_enter Tryz.func55, Tryz.ntmps55
    go_wp2
    go_ret
    exact ⟨rfl, rfl⟩
theorem c_Rrun (L : List Nat) (hL : ∀ c ∈ L, c < 256) (at_ n : Nat) (hat : at_ ≤ L.length) (hl : L.length ≤ 10000000) (w : World) :
    Calls Tryz.prog 51 #[.string (u8sG L), .int .i64 (at_ : Int), .int .i64 (n : Int)] w fun r w' => r = .returned (.int .i64 (runL n (L.drop at_) : Int)) ∧ w = w' := by
  have hsz : (u8sG L).size = L.length := uG_size L
  have hle := runL_le n (L.drop at_)
  have hlt := Lib.hid (runL_lt n (L.drop at_))
  have hen := Lib.hid (runL_end n (L.drop at_))
  rw [List.length_drop] at hle
  have hget := Lib.hid (fun j c (h1 : L[j]? = some c) (h2 : c < 256) h3 => uG_get L j c h1 h2 h3)
  have hdr : ∀ i, (L.drop at_)[i]? = L[at_ + i]? := fun i => by rw [List.getElem?_drop]
  replace hdr := Lib.hid hdr
  have hI := Lib.hid (fun (c : Nat) (hc : c < 256) W => c_Rdigit c hc W)
  replace hL := Lib.hid hL
  generalize runL n (L.drop at_) = R at *
  generalize u8sG L = S at *
  have hszle : S.size ≤ 10000000 := by omega
  replace hsz := Lib.hid hsz
  go_enter Tryz.func51, Tryz.ntmps51
  go_wp2
  go_loopw [7] (fun v7 wr => ∃ k : Nat, k ≤ R ∧ v7 = .int .i64 (k : Int) ∧ wr = w) (fun v7 _ => R - (intOf v7).toNat)
  case atStart => exact ⟨0, Nat.zero_le _, rfl, rfl⟩
  case round =>
    obtain ⟨k, hk, rfl, rfl⟩ := hrel
    by_cases hd : at_ + k < L.length
    · obtain ⟨c, hc⟩ : ∃ c, L[at_ + k]? = some c := ⟨L[at_ + k], List.getElem?_eq_getElem hd⟩
      have hc256 := hL.out c (List.mem_of_getElem? hc)
      have hjs : at_ + k < S.size := by have := hsz.out; omega
      have hg := hget.out (at_ + k) c hc hc256 hjs
      have hIc := Lib.hid (fun W => hI.out c hc256 W)
      have hjs2 : (at_ : Int) + (k : Int) < (S.size : Int) := by omega
      have e1 : ((at_ : Int) + (k : Int)).toNat = at_ + k := by omega
      by_cases hkR : k < R
      · have hw := hlt.out k c (by rw [hdr.out]; exact hc) hkR
        have hdd : (wth c : Int) < (n : Int) := by omega
        clear hw hc hc256 hI
        generalize wth c = wc at *
        go_wp2_with (go_at_call 55; refine (hIc.out _).mono ?_; rintro e w' ⟨rfl, rfl⟩)
        exact ⟨⟨k + 1, by omega, by go_num, by trivial⟩, by simp [intOf]; omega⟩
      · obtain rfl : k = R := by omega
        have hw := hen.out c (by rw [hdr.out]; exact hc)
        have hdd : ¬ (wth c : Int) < (n : Int) := by omega
        clear hw hc hc256 hI
        generalize wth c = wc at *
        go_wp2_with (go_at_call 55; refine (hIc.out _).mono ?_; rintro e w' ⟨rfl, rfl⟩)
        go_ret
        exact ⟨rfl, rfl⟩
    · obtain rfl : k = R := by omega
      have hjs2 : ¬ (at_ : Int) + (k : Int) < (S.size : Int) := by have := hsz.out; omega
      clear hI
      go_wp2_with fail
      go_ret
      exact ⟨rfl, rfl⟩
theorem or32_x (c : Nat) (hc : c < 256) : (c ||| 32 = 120 ↔ c = 120 ∨ c = 88) ∧ (c ||| 32 = 111 ↔ c = 111 ∨ c = 79) ∧ (c ||| 32 = 98 ↔ c = 98 ∨ c = 66) := by
  have all : ∀ c : Fin 256, (c.val ||| 32 = 120 ↔ c.val = 120 ∨ c.val = 88) ∧ (c.val ||| 32 = 111 ↔ c.val = 111 ∨ c.val = 79) ∧ (c.val ||| 32 = 98 ↔ c.val = 98 ∨ c.val = 66) := by decide +kernel
  exact all ⟨c, hc⟩
theorem c_Rprefixed (L : List Nat) (hL : ∀ c ∈ L, c < 256) (hl : L.length ≤ 10000000) (w : World) :
    Calls Tryz.prog 50 #[.string (u8sG L)] w fun r w' => r = .returned (.int .i64 (preL L : Int)) ∧ w = w' := by
  have hsz : (u8sG L).size = L.length := uG_size L
  by_cases h2 : 2 ≤ L.length
  · obtain ⟨a, b, M, rfl⟩ : ∃ a b M, L = a :: b :: M := by
      cases L with
      | nil => simp at h2
      | cons a L => cases L with
        | nil => simp at h2
        | cons b M => exact ⟨a, b, M, rfl⟩
    have ha := hL a (by simp)
    have hb := hL b (by simp)
    have hs2 : 2 ≤ (u8sG (a :: b :: M)).size := by omega
    have hs0N : 0 < (u8sG (a :: b :: M)).size := by omega
    have hs1N : 1 < (u8sG (a :: b :: M)).size := by omega
    have hg0 := uG_get (a :: b :: M) 0 a rfl ha hs0N
    have hg1 := uG_get (a :: b :: M) 1 b rfl hb hs1N
    have hs2' : (1 : Int) < ((u8sG (a :: b :: M)).size : Int) := by omega
    have hs0' : (0 : Int) < ((u8sG (a :: b :: M)).size : Int) := by omega
    have hs3 : ¬ ((u8sG (a :: b :: M)).size : Int) < 2 := by omega
    have hsl : (u8sG (a :: b :: M)).size ≤ 10000000 := by omega
    have e : preL (a :: b :: M) = if a = 48 then (if b ||| 32 = 120 then 16 else if b ||| 32 = 111 then 8 else if b ||| 32 = 98 then 2 else 0) else 0 := by unfold preL; simp
    obtain ⟨o1, o2, o3⟩ := or32_x b hb
    rw [e]
    simp only [o1, o2, o3]
    clear e hsz hL hl h2 o1 o2 o3
    generalize u8sG (a :: b :: M) = S at *
    by_cases h48 : a = 48
    · rw [if_pos h48]
      subst h48
      by_cases e1 : b = 120
      · subst e1
        rw [if_pos (.inl rfl)]
        go_enter Tryz.func50, Tryz.ntmps50
        go_wp2
        go_ret
        exact ⟨rfl, rfl⟩
      by_cases e2 : b = 88
      · subst e2
        rw [if_pos (.inr rfl)]
        go_enter Tryz.func50, Tryz.ntmps50
        go_wp2
        go_ret
        exact ⟨rfl, rfl⟩
      rw [if_neg (by omega)]
      by_cases e3 : b = 111
      · subst e3
        rw [if_pos (.inl rfl)]
        go_enter Tryz.func50, Tryz.ntmps50
        go_wp2
        go_ret
        exact ⟨rfl, rfl⟩
      by_cases e4 : b = 79
      · subst e4
        rw [if_pos (.inr rfl)]
        go_enter Tryz.func50, Tryz.ntmps50
        go_wp2
        go_ret
        exact ⟨rfl, rfl⟩
      rw [if_neg (by omega)]
      by_cases e5 : b = 98
      · subst e5
        rw [if_pos (.inl rfl)]
        go_enter Tryz.func50, Tryz.ntmps50
        go_wp2
        go_ret
        exact ⟨rfl, rfl⟩
      by_cases e6 : b = 66
      · subst e6
        rw [if_pos (.inr rfl)]
        go_enter Tryz.func50, Tryz.ntmps50
        go_wp2
        go_ret
        exact ⟨rfl, rfl⟩
      rw [if_neg (by omega)]
      have n1 : ((b : Int) == 120) = false := beq_eq_false_iff_ne.2 (by omega)
      have n2 : ((b : Int) == 88) = false := beq_eq_false_iff_ne.2 (by omega)
      have n3 : ((b : Int) == 111) = false := beq_eq_false_iff_ne.2 (by omega)
      have n4 : ((b : Int) == 79) = false := beq_eq_false_iff_ne.2 (by omega)
      have n5 : ((b : Int) == 98) = false := beq_eq_false_iff_ne.2 (by omega)
      have n6 : ((b : Int) == 66) = false := beq_eq_false_iff_ne.2 (by omega)
      clear e1 e2 e3 e4 e5 e6
      go_enter Tryz.func50, Tryz.ntmps50
      go_wp2
      go_ret
      exact ⟨rfl, rfl⟩
    · rw [if_neg h48]
      have n1 : ((a : Int) != 48) = true := by simp; omega
      clear h48
      go_enter Tryz.func50, Tryz.ntmps50
      go_wp2
      go_ret
      exact ⟨rfl, rfl⟩
  · have e : preL L = 0 := by unfold preL; rw [if_neg (by omega)]
    rw [e]
    have hs3 : ((u8sG L).size : Int) < 2 := by omega
    clear hsz h2 hl hL e
    generalize u8sG L = S at *
    go_enter Tryz.func50, Tryz.ntmps50
    go_wp2
    go_ret
    exact ⟨rfl, rfl⟩
end Go.Proofs.YtbakbikilbaafaaGreatDoor
