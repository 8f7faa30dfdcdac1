/-
  Contracts: The contract of the program's Literal, at any bytes (printed by gen_XVW.py). The contract of the program's Whole, at any text and base (printed by gen_XVX.py). Contracts of the reference's digit, run, prefixed. The contract of the reference's decimal (printed by gen_XYC.py). The contract of the reference's ascii. The contract of the reference's value of a decimal text (printed by gen_XYD.py). The contract of the library's readFloat at 0x..p0 (printed by gen_XYE.py). The contract of the library's atofHex: the float nearest to a whole number that is given by its upper bits. The contract of ParseFloat at 0x..p0: the nearest float. Contracts of the library's formatBits, FormatInt, FormatUint to a base that is not ten (printed by gen_XVY.py). Contracts of the library's FormatInt and FormatUint to a base that is not ten. The contract of the reference's nearest (printed by gen_XYH.py). The contract of the reference's Literal, at any bytes (printed by gen_XYI.py). The contract of the reference's Read, at any text (printed by gen_XYJ.py). The contract of DigitsShow. The contract of DigitsBlanks. The contracts of DigitsReads and DigitsLiterals. Plain law of the round trip: the shortest digits of a positive float are nearest to it.
-/
import Derived.Test.YtbakbikilbaafaaGreatDoorS16
import Derived.Test.YtbakbikilbaafaaGreatDoorS6
import Derived.Test.YtbakbikilbaafaaGreatDoorS13
import Derived.LaidEqlPtr
import Derived.Test.YtbakbikilbaafaaGreatDoorS2
import Derived.Test.YtbakbikilbaafaaGreatDoorS9
import Derived.Laws.Bits64b
import Derived.Laws.IdiomStrings
import Derived.Shelf.Spec.TrailingZeros
import Derived.Test.YtbakbikilbaafaaGreatDoorS8
import Derived.Test.YtbakbikilbaafaaGreatDoorS15
import Derived.Test.YtbakbikilbaafaaGreatDoorS12
namespace Go.Proofs.YtbakbikilbaafaaGreatDoor
open Go.RowKit F64 Ieee
set_option linter.unusedVariables false
set_option maxHeartbeats 4000000
set_option maxRecDepth 100000

/-- a byte that may not follow a number -/
def litC (c : Nat) : Bool := decide (wth c < 36) || c == 36 || c == 95 || decide (128 ≤ c)
def litBad (L : List Nat) (n : Nat) : Prop := ∃ c, L[n]? = some c ∧ litC c = true
/-- what a literal is: number, length, error -/
inductive LitR (L : List Nat) : Nat → Nat → Nat → Prop
  | preZ {base : Nat} (hp : preL L = base) (hb : 0 < base) (hk : runL base (L.drop 2) = 0) : LitR L 0 0 30
  | preB {base k : Nat} (hp : preL L = base) (hb : 0 < base) (hk : runL base (L.drop 2) = k) (h0 : 0 < k) (h : litBad L (2 + k)) : LitR L 0 0 30
  | pre {base k : Nat} (hp : preL L = base) (hb : 0 < base) (hk : runL base (L.drop 2) = k) (h0 : 0 < k) (h : ¬ litBad L (2 + k)) : LitR L (nN (numB base ((L.drop 2).take k))) (2 + k) 0
  | none (hp : preL L = 0) (hn : decN L = 0) : LitR L 0 0 30
  | zero (hp : preL L = 0) (h0 : 0 < decN L) (h : L.getD 0 0 = 48 ∧ 1 < decN L ∧ wth (L.getD 1 0) < 10) : LitR L 0 0 30
  | bad (hp : preL L = 0) (h0 : 0 < decN L) (hz : ¬ (L.getD 0 0 = 48 ∧ 1 < decN L ∧ wth (L.getD 1 0) < 10)) (h : litBad L (decN L)) : LitR L 0 0 30
  | ok {v : Nat} (hp : preL L = 0) (h0 : 0 < decN L) (hz : ¬ (L.getD 0 0 = 48 ∧ 1 < decN L ∧ wth (L.getD 1 0) < 10)) (h : ¬ litBad L (decN L)) (hd : DcT (L.take (decN L)) v) : LitR L v (decN L) 0
theorem litR_ex (L : List Nat) (h256 : ∀ c ∈ L, c < 256) : ∃ x n e, LitR L x n e := by
  rcases Nat.eq_zero_or_pos (preL L) with hp | hp
  · rcases Nat.eq_zero_or_pos (decN L) with hn | hn
    · exact ⟨_, _, _, .none hp hn⟩
    · by_cases hz : L.getD 0 0 = 48 ∧ 1 < decN L ∧ wth (L.getD 1 0) < 10
      · exact ⟨_, _, _, .zero hp hn hz⟩
      · by_cases hb : litBad L (decN L)
        · exact ⟨_, _, _, .bad hp hn hz hb⟩
        · obtain ⟨v, hv⟩ := dec_form h256 hn
          exact ⟨_, _, _, .ok hp hn hz hb hv⟩
  · rcases Nat.eq_zero_or_pos (runL (preL L) (L.drop 2)) with hn | hn
    · exact ⟨_, _, _, .preZ rfl hp hn⟩
    · by_cases hb : litBad L (2 + runL (preL L) (L.drop 2))
      · exact ⟨_, _, _, .preB rfl hp rfl hn hb⟩
      · exact ⟨_, _, _, .pre rfl hp rfl hn hb⟩
theorem uG_ext (L : List Nat) (i j : Nat) : (u8sG L).extract i j = u8sG ((L.take j).drop i) := by
  apply ByteArray.ext
  rw [ByteArray.data_extract]
  apply Array.ext'
  rw [Array.toList_extract, uG_data, uG_data, List.map_drop, List.map_take]
  simp only [List.extract, List.take_drop]
  rcases Nat.le_total i j with h | h
  · rw [show i + (j - i) = j by omega]
  · rw [List.drop_of_length_le (by rw [List.length_take]; omega), List.drop_of_length_le (by rw [List.length_take]; omega)]
/-- the ways in which a literal may end -/
def EndF (S : ByteArray) (n : Nat) (ok : Bool) : Prop := n = S.size ∧ ok = true ∨ ∃ (h : n < S.size) (c : Nat), (S[n]'h).toNat = c ∧ litC c = !ok
theorem endF_of {L : List Nat} {n : Nat} (h256 : ∀ c ∈ L, c < 256) (hn : n ≤ L.length) (ok : Bool) (h : if ok then ¬ litBad L n else litBad L n) : EndF (u8sG L) n ok := by
  have hsz := uG_size L
  rcases Nat.eq_or_lt_of_le hn with h1 | h1
  · left
    refine ⟨by omega, ?_⟩
    cases ok with
    | true => rfl
    | false =>
      simp only [Bool.false_eq_true, if_false] at h
      obtain ⟨c, hc, -⟩ := h
      rw [List.getElem?_eq_none (by omega)] at hc
      cases hc
  · right
    have hg : L[n]? = some L[n] := List.getElem?_eq_getElem h1
    refine ⟨by omega, L[n], uG_get L n _ hg (h256 _ (List.getElem_mem h1)) (by omega), ?_⟩
    cases ok with
    | true =>
      simp only [if_true] at h
      cases hx : litC L[n] with
      | false => rfl
      | true => exact absurd ⟨_, hg, hx⟩ h
    | false =>
      simp only [Bool.false_eq_true, if_false] at h
      obtain ⟨c, hc, hx⟩ := h
      rw [hg] at hc
      cases hc
      exact hx
/-- the byte behind, as the walk asks -/
inductive EndC (S : ByteArray) (n : Nat) : Bool → Prop
  | e0 (h : n = S.size) : EndC S n true
  | e1 (h : n < S.size) (c : Nat) (hc : ∀ h : n < S.size, (S[n]'h).toNat = c) (hc8 : c < 256) (h1 : wth c < 36) : EndC S n false
  | e2 (h : n < S.size) (hc : ∀ h : n < S.size, (S[n]'h).toNat = 36) : EndC S n false
  | e3 (h : n < S.size) (hc : ∀ h : n < S.size, (S[n]'h).toNat = 95) : EndC S n false
  | e4 (h : n < S.size) (c : Nat) (hc : ∀ h : n < S.size, (S[n]'h).toNat = c) (hc8 : c < 256) (h1 : 128 ≤ c) : EndC S n false
  | e5 (h : n < S.size) (c : Nat) (hc : ∀ h : n < S.size, (S[n]'h).toNat = c) (hc8 : c < 256) (h1 : ¬ wth c < 36) (h2 : c ≠ 36) (h3 : c ≠ 95) (h4 : c < 128) : EndC S n true
theorem endC_of {S : ByteArray} {n : Nat} {ok : Bool} (h : EndF S n ok) : EndC S n ok := by
  rcases h with ⟨h, rfl⟩ | ⟨h, c, hc, hb⟩
  · exact .e0 h
  · have hc8 : c < 256 := by rw [← hc]; exact (S[n]'h).toNat_lt
    have hcc : ∀ h : n < S.size, (S[n]'h).toNat = c := fun _ => hc
    unfold litC at hb
    by_cases h1 : wth c < 36
    · have : ok = false := by cases ok with
        | false => rfl
        | true => simp [h1] at hb
      subst this
      exact .e1 h c hcc hc8 h1
    · by_cases h2 : c = 36
      · have : ok = false := by cases ok with
          | false => rfl
          | true => simp [h2] at hb
        subst this h2
        exact .e2 h hcc
      · by_cases h3 : c = 95
        · have : ok = false := by cases ok with
            | false => rfl
            | true => simp [h3] at hb
          subst this h3
          exact .e3 h hcc
        · by_cases h4 : 128 ≤ c
          · have : ok = false := by cases ok with
              | false => rfl
              | true => simp [h4] at hb
            subst this
            exact .e4 h c hcc hc8 h4
          · have : ok = true := by cases ok with
              | true => rfl
              | false => simp [h1, h2, h3, h4] at hb
            subst this
            exact .e5 h c hcc hc8 h1 h2 h3 (by omega)
theorem wth_36 : wth 36 = 99 := by decide +kernel
theorem wth_95 : wth 95 = 99 := by decide +kernel
theorem wth_128 {c : Nat} (h : 128 ≤ c) (hc : c < 256) : wth c = 99 := by
  have all : ∀ c : Fin 256, 128 ≤ c.val → wth c.val = 99 := by decide +kernel
  exact all ⟨c, hc⟩ h
theorem decE_le (L : List Nat) (n : Nat) (h : n ≤ L.length) : decE L n ≤ L.length := by
  unfold decE
  split
  · split
    · rename_i h1 h2
      have := runL_le 10 (L.drop (decM L n))
      rw [List.length_drop] at this
      omega
    · exact h
  · exact h
theorem decN_le (L : List Nat) : decN L ≤ L.length := by
  have h1 := runL_le 10 L
  unfold decN
  split
  · split
    · exact Nat.zero_le _
    · rename_i h2 h3
      apply decE_le
      have := runL_le 10 (L.drop (runL 10 L + 1))
      rw [List.length_drop] at this
      have h4 := (List.getElem?_eq_some_iff.1 (getD_some h2 (by decide))).1
      omega
  · split
    · exact Nat.zero_le _
    · exact decE_le _ _ h1
theorem c_dLit_preZ (L : List Nat) (base : Nat) (hL : ∀ c ∈ L, c < 256) (hl : L.length ≤ 800) (hpre : preL L = base) (hb : 0 < base) (hk : runL base (L.drop 2) = 0) (w : World) :
    Calls Tryz.prog 17 #[.string (u8sG L)] w fun r w' => r = .returned (.tuple #[.float .f64 0, .int .i64 0, .int .i64 30]) ∧ Below w.heap.size w w' := by
  have h2 : 2 ≤ L.length := by
    rcases Nat.lt_or_ge L.length 2 with h | h
    · exfalso
      have : preL L = 0 := by unfold preL; rw [if_neg (by omega)]
      omega
    · exact h
  have hPr := Lib.hid (fun W => c_dprefix L hL (by omega) W)
  rw [hpre] at hPr
  have hDo := Lib.hid (fun W => c_ddigitsOf (base : Int) W)
  have hRu := Lib.hid (fun b W h => c_drun L hL 2 base b (by omega) (by omega) W h)
  rw [hk] at hRu
  have hRu : Hid (∀ b W, W.cell? ⟨b, 0, none⟩ = some (.int .i64 (base : Int)) → Calls Tryz.prog 38 #[.string (u8sG L), .int .i64 2, DigF b] W fun r w' => r = .returned (.int .i64 0) ∧ Below W.heap.size W w') := hRu
  have hbI : (0 : Int) < (base : Int) := by omega
  clear hk hL hl hpre hb h2
  generalize u8sG L = S at *
  go_enter Tryz.func17, Tryz.ntmps17
  go_wp2_with fail
  refine (hPr.out _).mono ?_
  rintro e w3 ⟨rfl, hbB⟩
  go_wp2_with fail
  refine (hDo.out _).mono ?_
  rintro e w4 ⟨rfl, hc4, hb4⟩
  have hbC : Below w.heap.size w w4 := hbB.trans (hb4.mono hbB.size)
  have hRu4 := Lib.hid (hRu.out _ _ hc4)
  clear hb4 hbB hc4
  go_wp2_with fail
  refine hRu4.out.mono ?_
  rintro e w5 ⟨rfl, hb5⟩
  have hbD : Below w.heap.size w w5 := hbC.trans (hb5.mono hbC.size)
  clear hb5 hbC
  go_wp2_with fail
  go_ret3
  exact ⟨rfl, hbD⟩
theorem c_dLit_pre (L : List Nat) (base k : Nat) (hL : ∀ c ∈ L, c < 256) (hl : L.length ≤ 800) (hpre : preL L = base) (hb : 0 < base) (hk : runL base (L.drop 2) = k) (hk0 : 0 < k) (hEnd : EndC (u8sG L) (2 + k) true) (w : World) (hW : LibW w) :
    Calls Tryz.prog 17 #[.string (u8sG L)] w fun r w' => r = .returned (.tuple #[.float .f64 (nN (numB base ((L.drop 2).take k))), .int .i64 ((2 + k : Nat) : Int), .int .i64 0]) ∧ Below w.heap.size w w' := by
  have h2 : 2 ≤ L.length := by
    rcases Nat.lt_or_ge L.length 2 with h | h
    · exfalso
      have : preL L = 0 := by unfold preL; rw [if_neg (by omega)]
      omega
    · exact h
  have hLk := Lib.hid (fun W (hb : Below w.heap.size w W) => hW.keep hb)
  have hPr := Lib.hid (fun W => c_dprefix L hL (by omega) W)
  have hbase := preL_le L
  rw [hpre] at hPr hbase
  have hDo := Lib.hid (fun W => c_ddigitsOf (base : Int) W)
  have hRu := Lib.hid (fun b W h => c_drun L hL 2 base b (by omega) (by omega) W h)
  rw [hk] at hRu
  have hRu : Hid (∀ b W, W.cell? ⟨b, 0, none⟩ = some (.int .i64 (base : Int)) → Calls Tryz.prog 38 #[.string (u8sG L), .int .i64 2, DigF b] W fun r w' => r = .returned (.int .i64 (k : Int)) ∧ Below W.heap.size W w') := hRu
  have hrl := runL_le base (L.drop 2)
  rw [List.length_drop, hk] at hrl
  have hsz : (u8sG L).size = L.length := uG_size L
  have hX := Lib.hid (fun W => c_dexactB ((L.drop 2).take k) base (by omega) (by omega) (by omega) (fun c hc => ⟨hL c (List.mem_of_mem_drop (List.mem_of_mem_take hc)), by
    rw [← hk] at hc
    exact run_mem c hc⟩) (by rw [List.length_take, List.length_drop]; omega) W)
  have hex : (u8sG L).extract 2 (2 + k) = u8sG ((L.drop 2).take k) := by
    rw [uG_ext]; congr 1
    rw [List.drop_take, show 2 + k - 2 = k by omega]
  have hs4 : (2 : Int) + (k : Int) ≤ ((u8sG L).size : Int) := by omega
  have hs5 : (u8sG L).size ≤ 800 := by omega
  have hs6 : 2 + k ≤ (u8sG L).size := by omega
  have hbI : (0 : Int) < (base : Int) := by omega
  have hk1 : ((k : Int) == 0) = false := beq_eq_false_iff_ne.2 (by omega)
  have htn : ((2 : Int) + (k : Int)).toNat = 2 + k := by omega
  have hn0 : ((2 : Int) + (k : Int) == 0) = false := beq_eq_false_iff_ne.2 (by omega)
  have h2k : (2 : Int) ≤ 2 + (k : Int) := by omega
  have h2k0 : (0 : Int) ≤ 2 + (k : Int) := by omega
  generalize hV : nN (numB base ((L.drop 2).take k)) = V at *
  clear hV hrl hk hL hl hpre hsz hb h2 hbase hW hk0
  generalize u8sG ((L.drop 2).take k) = D at *
  generalize u8sG L = S at *
  go_enter Tryz.func17, Tryz.ntmps17
  go_wp2_with fail
  refine (hPr.out _).mono ?_
  rintro e w3 ⟨rfl, hbB⟩
  go_wp2_with fail
  refine (hDo.out _).mono ?_
  rintro e w4 ⟨rfl, hc4, hb4⟩
  have hbC : Below w.heap.size w w4 := hbB.trans (hb4.mono hbB.size)
  have hRu4 := Lib.hid (hRu.out _ _ hc4)
  clear hb4 hbB hc4
  go_wp2_with fail
  refine hRu4.out.mono ?_
  rintro e w5 ⟨rfl, hb5⟩
  have hbD : Below w.heap.size w w5 := hbC.trans (hb5.mono hbC.size)
  clear hb5 hbC
  go_wp2_with fail
  refine (hX.out _).mono ?_
  rintro e w6 ⟨rfl, hb6⟩
  have hbE : Below w.heap.size w w6 := hbD.trans (hb6.mono hbD.size)
  clear hb6 hbD
  cases hEnd with
  | e0 hE =>
    have hE1 : ¬ ((2 : Int) + (k : Int)) < (S.size : Int) := by omega
    clear hE
    go_wp2_with fail
    go_ret3
    exact ⟨rfl, hbE⟩
  | e5 hE c hc hc8 h1 h2 h3 h4 =>
    have hE1 : ((2 : Int) + (k : Int)) < (S.size : Int) := by omega
    have hgc := hc hE
    have hWo := Lib.hid (fun W => c_dworth c hc8 W)
    have hE2 : ¬ (wth c : Int) < 36 := by omega
    have hE3 : ((c : Int) == 36) = false := beq_eq_false_iff_ne.2 (by omega)
    have hE4 : ((c : Int) == 95) = false := beq_eq_false_iff_ne.2 (by omega)
    have hE5 : ¬ (128 : Int) ≤ (c : Int) := by omega
    generalize wth c = wc at *
    clear h1 h2 h3 h4
    go_wp2_with (go_at_call 46; refine (hWo.out _).mono ?_; rintro e w' ⟨rfl, rfl⟩)
    go_ret3
    exact ⟨rfl, hbE⟩
theorem c_dLit_preB (L : List Nat) (base k : Nat) (hL : ∀ c ∈ L, c < 256) (hl : L.length ≤ 800) (hpre : preL L = base) (hb : 0 < base) (hk : runL base (L.drop 2) = k) (hk0 : 0 < k) (hEnd : EndC (u8sG L) (2 + k) false) (w : World) (hW : LibW w) :
    Calls Tryz.prog 17 #[.string (u8sG L)] w fun r w' => r = .returned (.tuple #[.float .f64 0, .int .i64 0, .int .i64 30]) ∧ Below w.heap.size w w' := by
  have h2 : 2 ≤ L.length := by
    rcases Nat.lt_or_ge L.length 2 with h | h
    · exfalso
      have : preL L = 0 := by unfold preL; rw [if_neg (by omega)]
      omega
    · exact h
  have hLk := Lib.hid (fun W (hb : Below w.heap.size w W) => hW.keep hb)
  have hPr := Lib.hid (fun W => c_dprefix L hL (by omega) W)
  have hbase := preL_le L
  rw [hpre] at hPr hbase
  have hDo := Lib.hid (fun W => c_ddigitsOf (base : Int) W)
  have hRu := Lib.hid (fun b W h => c_drun L hL 2 base b (by omega) (by omega) W h)
  rw [hk] at hRu
  have hRu : Hid (∀ b W, W.cell? ⟨b, 0, none⟩ = some (.int .i64 (base : Int)) → Calls Tryz.prog 38 #[.string (u8sG L), .int .i64 2, DigF b] W fun r w' => r = .returned (.int .i64 (k : Int)) ∧ Below W.heap.size W w') := hRu
  have hrl := runL_le base (L.drop 2)
  rw [List.length_drop, hk] at hrl
  have hsz : (u8sG L).size = L.length := uG_size L
  have hX := Lib.hid (fun W => c_dexactB ((L.drop 2).take k) base (by omega) (by omega) (by omega) (fun c hc => ⟨hL c (List.mem_of_mem_drop (List.mem_of_mem_take hc)), by
    rw [← hk] at hc
    exact run_mem c hc⟩) (by rw [List.length_take, List.length_drop]; omega) W)
  have hex : (u8sG L).extract 2 (2 + k) = u8sG ((L.drop 2).take k) := by
    rw [uG_ext]; congr 1
    rw [List.drop_take, show 2 + k - 2 = k by omega]
  have hs4 : (2 : Int) + (k : Int) ≤ ((u8sG L).size : Int) := by omega
  have hs5 : (u8sG L).size ≤ 800 := by omega
  have hs6 : 2 + k ≤ (u8sG L).size := by omega
  have hbI : (0 : Int) < (base : Int) := by omega
  have hk1 : ((k : Int) == 0) = false := beq_eq_false_iff_ne.2 (by omega)
  have htn : ((2 : Int) + (k : Int)).toNat = 2 + k := by omega
  have hn0 : ((2 : Int) + (k : Int) == 0) = false := beq_eq_false_iff_ne.2 (by omega)
  have h2k : (2 : Int) ≤ 2 + (k : Int) := by omega
  have h2k0 : (0 : Int) ≤ 2 + (k : Int) := by omega
  generalize hV : nN (numB base ((L.drop 2).take k)) = V at *
  clear hV hrl hk hL hl hpre hsz hb h2 hbase hW hk0
  generalize u8sG ((L.drop 2).take k) = D at *
  generalize u8sG L = S at *
  go_enter Tryz.func17, Tryz.ntmps17
  go_wp2_with fail
  refine (hPr.out _).mono ?_
  rintro e w3 ⟨rfl, hbB⟩
  go_wp2_with fail
  refine (hDo.out _).mono ?_
  rintro e w4 ⟨rfl, hc4, hb4⟩
  have hbC : Below w.heap.size w w4 := hbB.trans (hb4.mono hbB.size)
  have hRu4 := Lib.hid (hRu.out _ _ hc4)
  clear hb4 hbB hc4
  go_wp2_with fail
  refine hRu4.out.mono ?_
  rintro e w5 ⟨rfl, hb5⟩
  have hbD : Below w.heap.size w w5 := hbC.trans (hb5.mono hbC.size)
  clear hb5 hbC
  go_wp2_with fail
  refine (hX.out _).mono ?_
  rintro e w6 ⟨rfl, hb6⟩
  have hbE : Below w.heap.size w w6 := hbD.trans (hb6.mono hbD.size)
  clear hb6 hbD
  cases hEnd with
  | e1 hE c hc hc8 h1 =>
    have hE1 : ((2 : Int) + (k : Int)) < (S.size : Int) := by omega
    have hgc := hc hE
    have hWo := Lib.hid (fun W => c_dworth c hc8 W)
    have hE2 : (wth c : Int) < 36 := by omega
    generalize wth c = wc at *
    go_wp2_with (go_at_call 46; refine (hWo.out _).mono ?_; rintro e w' ⟨rfl, rfl⟩)
    go_ret3
    exact ⟨rfl, hbE⟩
  | e2 hE hc =>
    have hE1 : ((2 : Int) + (k : Int)) < (S.size : Int) := by omega
    have hgc := hc hE
    have hWo := Lib.hid (fun W => c_dworth 36 (by decide) W)
    rw [wth_36] at hWo
    have hWo : Hid (∀ W, Calls Tryz.prog 46 #[.int .u8 36] W fun r w' => r = .returned (.int .i64 99) ∧ W = w') := hWo
    go_wp2_with (go_at_call 46; refine (hWo.out _).mono ?_; rintro e w' ⟨rfl, rfl⟩)
    go_ret3
    exact ⟨rfl, hbE⟩
  | e3 hE hc =>
    have hE1 : ((2 : Int) + (k : Int)) < (S.size : Int) := by omega
    have hgc := hc hE
    have hWo := Lib.hid (fun W => c_dworth 95 (by decide) W)
    rw [wth_95] at hWo
    have hWo : Hid (∀ W, Calls Tryz.prog 46 #[.int .u8 95] W fun r w' => r = .returned (.int .i64 99) ∧ W = w') := hWo
    go_wp2_with (go_at_call 46; refine (hWo.out _).mono ?_; rintro e w' ⟨rfl, rfl⟩)
    go_ret3
    exact ⟨rfl, hbE⟩
  | e4 hE c hc hc8 h1 =>
    have hE1 : ((2 : Int) + (k : Int)) < (S.size : Int) := by omega
    have hgc := hc hE
    have hWo := Lib.hid (fun W => c_dworth c hc8 W)
    rw [wth_128 h1 hc8] at hWo
    have hWo : Hid (∀ W, Calls Tryz.prog 46 #[.int .u8 (c : Int)] W fun r w' => r = .returned (.int .i64 99) ∧ W = w') := hWo
    have hE3 : ((c : Int) == 36) = false := beq_eq_false_iff_ne.2 (by omega)
    have hE4 : ((c : Int) == 95) = false := beq_eq_false_iff_ne.2 (by omega)
    have hE5 : (128 : Int) ≤ (c : Int) := by omega
    clear h1
    go_wp2_with (go_at_call 46; refine (hWo.out _).mono ?_; rintro e w' ⟨rfl, rfl⟩)
    go_ret3
    exact ⟨rfl, hbE⟩
theorem c_dLit_none (L : List Nat) (hL : ∀ c ∈ L, c < 256) (hl : L.length ≤ 800) (hpre : preL L = 0) (hn : decN L = 0) (w : World) :
    Calls Tryz.prog 17 #[.string (u8sG L)] w fun r w' => r = .returned (.tuple #[.float .f64 0, .int .i64 0, .int .i64 30]) ∧ Below w.heap.size w w' := by
  have hPr := Lib.hid (fun W => c_dprefix L hL (by omega) W)
  rw [hpre] at hPr
  have hPr : Hid (∀ W, Calls Tryz.prog 37 #[.string (u8sG L)] W fun r w' => r = .returned (.int .i64 0) ∧ Below W.heap.size W w') := hPr
  have hDe := Lib.hid (fun W => c_ddecimal L hL (by omega) W)
  rw [hn] at hDe
  have hDe : Hid (∀ W, Calls Tryz.prog 43 #[.string (u8sG L)] W fun r w' => r = .returned (.int .i64 0) ∧ Below W.heap.size W w') := hDe
  clear hL hl hpre hn
  generalize u8sG L = S at *
  go_enter Tryz.func17, Tryz.ntmps17
  go_wp2_with fail
  refine (hPr.out _).mono ?_
  rintro e w3 ⟨rfl, hbB⟩
  go_wp2_with fail
  refine (hDe.out _).mono ?_
  rintro e w4 ⟨rfl, hb4⟩
  have hbC : Below w.heap.size w w4 := hbB.trans (hb4.mono hbB.size)
  clear hb4 hbB
  go_wp2_with fail
  go_ret3
  exact ⟨rfl, hbC⟩
theorem c_dLit_deczB (L : List Nat) (v : Nat) (hL : ∀ c ∈ L, c < 256) (hl : L.length ≤ 800) (hpre : preL L = 0) (h0 : 0 < decN L) (hz : L.getD 0 0 = 48) (hz1 : 1 < decN L) (hz2 : wth (L.getD 1 0) < 10) (w : World) (hW : LibW w) :
    Calls Tryz.prog 17 #[.string (u8sG L)] w fun r w' => r = .returned (.tuple #[.float .f64 0, .int .i64 0, .int .i64 30]) ∧ Below w.heap.size w w' := by
  have hLk := Lib.hid (fun W (hb : Below w.heap.size w W) => hW.keep hb)
  have hPr := Lib.hid (fun W => c_dprefix L hL (by omega) W)
  rw [hpre] at hPr
  have hPr : Hid (∀ W, Calls Tryz.prog 37 #[.string (u8sG L)] W fun r w' => r = .returned (.int .i64 0) ∧ Below W.heap.size W w') := hPr
  have hDe := Lib.hid (fun W => c_ddecimal L hL (by omega) W)
  have hsz : (u8sG L).size = L.length := uG_size L
  have hnl := decN_le L
  have hs0 : 0 < (u8sG L).size := by omega
  have hs0I : (0 : Int) < ((u8sG L).size : Int) := by omega
  have hg0 := uG_get L 0 (L.getD 0 0) (getD_lt rfl (by omega)) (hL _ (List.mem_of_getElem? (getD_lt rfl (by omega)))) hs0
  have hs5 : (u8sG L).size ≤ 800 := by omega
  have hs6 : decN L ≤ (u8sG L).size := by omega
  have hs7 : (decN L : Int) ≤ ((u8sG L).size : Int) := by omega
  have hnI : (0 : Int) < (decN L : Int) := by omega
  have hn0 : ((decN L : Int) == 0) = false := beq_eq_false_iff_ne.2 (by omega)
  rw [hz] at hg0
  have hs1 : 1 < (u8sG L).size := by omega
  have hs1I : (1 : Int) < ((u8sG L).size : Int) := by omega
  have hc1 := hL _ (List.mem_of_getElem? (getD_lt (L := L) (i := 1) rfl (by omega)))
  have hg1 := uG_get L 1 (L.getD 1 0) (getD_lt rfl (by omega)) hc1 hs1
  have hW1 := Lib.hid (fun W => c_dworth (L.getD 1 0) hc1 W)
  have hn1 : (1 : Int) < (decN L : Int) := by omega
  have hw1 :  (wth (L.getD 1 0) : Int) < 10 := by omega
  generalize wth (L.getD 1 0) = wc1 at *
  generalize L.getD 1 0 = c1 at *
  clear hz hz1 hz2 hc1
  clear hL hl hpre hsz hnl hW h0
  generalize decN L = n at *
  generalize u8sG L = S at *
  go_enter Tryz.func17, Tryz.ntmps17
  go_wp2_with fail
  refine (hPr.out _).mono ?_
  rintro e w3 ⟨rfl, hbB⟩
  go_wp2_with fail
  refine (hDe.out _).mono ?_
  rintro e w4 ⟨rfl, hb4⟩
  have hbC : Below w.heap.size w w4 := hbB.trans (hb4.mono hbB.size)
  clear hb4 hbB
  go_wp2_with (go_at_call 46; refine (hW1.out _).mono ?_; rintro e w' ⟨rfl, rfl⟩)
  go_ret3
  exact ⟨rfl, hbC⟩
theorem c_dLit_deca (L : List Nat) (v : Nat) (hL : ∀ c ∈ L, c < 256) (hl : L.length ≤ 800) (hpre : preL L = 0) (h0 : 0 < decN L) (hz : L.getD 0 0 ≠ 48) (hd : DcT (L.take (decN L)) v) (hEnd : EndC (u8sG L) (decN L) true) (w : World) (hW : LibW w) :
    Calls Tryz.prog 17 #[.string (u8sG L)] w fun r w' => r = .returned (.tuple #[.float .f64 v, .int .i64 (decN L : Int), .int .i64 0]) ∧ Below w.heap.size w w' := by
  have hLk := Lib.hid (fun W (hb : Below w.heap.size w W) => hW.keep hb)
  have hPr := Lib.hid (fun W => c_dprefix L hL (by omega) W)
  rw [hpre] at hPr
  have hPr : Hid (∀ W, Calls Tryz.prog 37 #[.string (u8sG L)] W fun r w' => r = .returned (.int .i64 0) ∧ Below W.heap.size W w') := hPr
  have hDe := Lib.hid (fun W => c_ddecimal L hL (by omega) W)
  have hsz : (u8sG L).size = L.length := uG_size L
  have hnl := decN_le L
  have hs0 : 0 < (u8sG L).size := by omega
  have hs0I : (0 : Int) < ((u8sG L).size : Int) := by omega
  have hg0 := uG_get L 0 (L.getD 0 0) (getD_lt rfl (by omega)) (hL _ (List.mem_of_getElem? (getD_lt rfl (by omega)))) hs0
  have hs5 : (u8sG L).size ≤ 800 := by omega
  have hs6 : decN L ≤ (u8sG L).size := by omega
  have hs7 : (decN L : Int) ≤ ((u8sG L).size : Int) := by omega
  have hnI : (0 : Int) < (decN L : Int) := by omega
  have hn0 : ((decN L : Int) == 0) = false := beq_eq_false_iff_ne.2 (by omega)
  have hq0 : ((L.getD 0 0 : Int) == 48) = false := beq_eq_false_iff_ne.2 (by omega)
  generalize L.getD 0 0 = c0 at *
  clear hz
  have hFl := Lib.hid (fun W hW => c_dfloat hd (by rw [List.length_take]; omega) W hW)
  have hex : (u8sG L).extract 0 (decN L) = u8sG (L.take (decN L)) := by rw [uG_ext]; rfl
  generalize u8sG (L.take (decN L)) = D at *
  clear hL hl hpre hsz hnl hW h0 hd
  generalize decN L = n at *
  generalize u8sG L = S at *
  go_enter Tryz.func17, Tryz.ntmps17
  go_wp2_with fail
  refine (hPr.out _).mono ?_
  rintro e w3 ⟨rfl, hbB⟩
  go_wp2_with fail
  refine (hDe.out _).mono ?_
  rintro e w4 ⟨rfl, hb4⟩
  have hbC : Below w.heap.size w w4 := hbB.trans (hb4.mono hbB.size)
  clear hb4 hbB
  go_wp2_with fail
  refine (hFl.out _ (hLk.out _ hbC)).mono ?_
  rintro e w5 ⟨rfl, hb5⟩
  have hbD : Below w.heap.size w w5 := hbC.trans (hb5.mono hbC.size)
  clear hb5 hbC
  cases hEnd with
  | e0 hE =>
    have hE1 : ¬ ((n : Int)) < (S.size : Int) := by omega
    clear hE
    go_wp2_with fail
    go_ret3
    exact ⟨rfl, hbD⟩
  | e5 hE c hc hc8 h1 h2 h3 h4 =>
    have hE1 : ((n : Int)) < (S.size : Int) := by omega
    have hgc := hc hE
    have hWo := Lib.hid (fun W => c_dworth c hc8 W)
    have hE2 : ¬ (wth c : Int) < 36 := by omega
    have hE3 : ((c : Int) == 36) = false := beq_eq_false_iff_ne.2 (by omega)
    have hE4 : ((c : Int) == 95) = false := beq_eq_false_iff_ne.2 (by omega)
    have hE5 : ¬ (128 : Int) ≤ (c : Int) := by omega
    generalize wth c = wc at *
    clear h1 h2 h3 h4
    go_wp2_with (go_at_call 46; refine (hWo.out _).mono ?_; rintro e w' ⟨rfl, rfl⟩)
    go_ret3
    exact ⟨rfl, hbD⟩
theorem c_dLit_decaB (L : List Nat) (v : Nat) (hL : ∀ c ∈ L, c < 256) (hl : L.length ≤ 800) (hpre : preL L = 0) (h0 : 0 < decN L) (hz : L.getD 0 0 ≠ 48) (hd : DcT (L.take (decN L)) v) (hEnd : EndC (u8sG L) (decN L) false) (w : World) (hW : LibW w) :
    Calls Tryz.prog 17 #[.string (u8sG L)] w fun r w' => r = .returned (.tuple #[.float .f64 0, .int .i64 0, .int .i64 30]) ∧ Below w.heap.size w w' := by
  have hLk := Lib.hid (fun W (hb : Below w.heap.size w W) => hW.keep hb)
  have hPr := Lib.hid (fun W => c_dprefix L hL (by omega) W)
  rw [hpre] at hPr
  have hPr : Hid (∀ W, Calls Tryz.prog 37 #[.string (u8sG L)] W fun r w' => r = .returned (.int .i64 0) ∧ Below W.heap.size W w') := hPr
  have hDe := Lib.hid (fun W => c_ddecimal L hL (by omega) W)
  have hsz : (u8sG L).size = L.length := uG_size L
  have hnl := decN_le L
  have hs0 : 0 < (u8sG L).size := by omega
  have hs0I : (0 : Int) < ((u8sG L).size : Int) := by omega
  have hg0 := uG_get L 0 (L.getD 0 0) (getD_lt rfl (by omega)) (hL _ (List.mem_of_getElem? (getD_lt rfl (by omega)))) hs0
  have hs5 : (u8sG L).size ≤ 800 := by omega
  have hs6 : decN L ≤ (u8sG L).size := by omega
  have hs7 : (decN L : Int) ≤ ((u8sG L).size : Int) := by omega
  have hnI : (0 : Int) < (decN L : Int) := by omega
  have hn0 : ((decN L : Int) == 0) = false := beq_eq_false_iff_ne.2 (by omega)
  have hq0 : ((L.getD 0 0 : Int) == 48) = false := beq_eq_false_iff_ne.2 (by omega)
  generalize L.getD 0 0 = c0 at *
  clear hz
  have hFl := Lib.hid (fun W hW => c_dfloat hd (by rw [List.length_take]; omega) W hW)
  have hex : (u8sG L).extract 0 (decN L) = u8sG (L.take (decN L)) := by rw [uG_ext]; rfl
  generalize u8sG (L.take (decN L)) = D at *
  clear hL hl hpre hsz hnl hW h0 hd
  generalize decN L = n at *
  generalize u8sG L = S at *
  go_enter Tryz.func17, Tryz.ntmps17
  go_wp2_with fail
  refine (hPr.out _).mono ?_
  rintro e w3 ⟨rfl, hbB⟩
  go_wp2_with fail
  refine (hDe.out _).mono ?_
  rintro e w4 ⟨rfl, hb4⟩
  have hbC : Below w.heap.size w w4 := hbB.trans (hb4.mono hbB.size)
  clear hb4 hbB
  go_wp2_with fail
  refine (hFl.out _ (hLk.out _ hbC)).mono ?_
  rintro e w5 ⟨rfl, hb5⟩
  have hbD : Below w.heap.size w w5 := hbC.trans (hb5.mono hbC.size)
  clear hb5 hbC
  cases hEnd with
  | e1 hE c hc hc8 h1 =>
    have hE1 : ((n : Int)) < (S.size : Int) := by omega
    have hgc := hc hE
    have hWo := Lib.hid (fun W => c_dworth c hc8 W)
    have hE2 : (wth c : Int) < 36 := by omega
    generalize wth c = wc at *
    go_wp2_with (go_at_call 46; refine (hWo.out _).mono ?_; rintro e w' ⟨rfl, rfl⟩)
    go_ret3
    exact ⟨rfl, hbD⟩
  | e2 hE hc =>
    have hE1 : ((n : Int)) < (S.size : Int) := by omega
    have hgc := hc hE
    have hWo := Lib.hid (fun W => c_dworth 36 (by decide) W)
    rw [wth_36] at hWo
    have hWo : Hid (∀ W, Calls Tryz.prog 46 #[.int .u8 36] W fun r w' => r = .returned (.int .i64 99) ∧ W = w') := hWo
    go_wp2_with (go_at_call 46; refine (hWo.out _).mono ?_; rintro e w' ⟨rfl, rfl⟩)
    go_ret3
    exact ⟨rfl, hbD⟩
  | e3 hE hc =>
    have hE1 : ((n : Int)) < (S.size : Int) := by omega
    have hgc := hc hE
    have hWo := Lib.hid (fun W => c_dworth 95 (by decide) W)
    rw [wth_95] at hWo
    have hWo : Hid (∀ W, Calls Tryz.prog 46 #[.int .u8 95] W fun r w' => r = .returned (.int .i64 99) ∧ W = w') := hWo
    go_wp2_with (go_at_call 46; refine (hWo.out _).mono ?_; rintro e w' ⟨rfl, rfl⟩)
    go_ret3
    exact ⟨rfl, hbD⟩
  | e4 hE c hc hc8 h1 =>
    have hE1 : ((n : Int)) < (S.size : Int) := by omega
    have hgc := hc hE
    have hWo := Lib.hid (fun W => c_dworth c hc8 W)
    rw [wth_128 h1 hc8] at hWo
    have hWo : Hid (∀ W, Calls Tryz.prog 46 #[.int .u8 (c : Int)] W fun r w' => r = .returned (.int .i64 99) ∧ W = w') := hWo
    have hE3 : ((c : Int) == 36) = false := beq_eq_false_iff_ne.2 (by omega)
    have hE4 : ((c : Int) == 95) = false := beq_eq_false_iff_ne.2 (by omega)
    have hE5 : (128 : Int) ≤ (c : Int) := by omega
    clear h1
    go_wp2_with (go_at_call 46; refine (hWo.out _).mono ?_; rintro e w' ⟨rfl, rfl⟩)
    go_ret3
    exact ⟨rfl, hbD⟩
theorem c_dLit_decb (L : List Nat) (v : Nat) (hL : ∀ c ∈ L, c < 256) (hl : L.length ≤ 800) (hpre : preL L = 0) (h0 : 0 < decN L) (hz : L.getD 0 0 = 48) (hz1 : decN L = 1) (hd : DcT (L.take (decN L)) v) (hEnd : EndC (u8sG L) (decN L) true) (w : World) (hW : LibW w) :
    Calls Tryz.prog 17 #[.string (u8sG L)] w fun r w' => r = .returned (.tuple #[.float .f64 v, .int .i64 (decN L : Int), .int .i64 0]) ∧ Below w.heap.size w w' := by
  have hLk := Lib.hid (fun W (hb : Below w.heap.size w W) => hW.keep hb)
  have hPr := Lib.hid (fun W => c_dprefix L hL (by omega) W)
  rw [hpre] at hPr
  have hPr : Hid (∀ W, Calls Tryz.prog 37 #[.string (u8sG L)] W fun r w' => r = .returned (.int .i64 0) ∧ Below W.heap.size W w') := hPr
  have hDe := Lib.hid (fun W => c_ddecimal L hL (by omega) W)
  have hsz : (u8sG L).size = L.length := uG_size L
  have hnl := decN_le L
  have hs0 : 0 < (u8sG L).size := by omega
  have hs0I : (0 : Int) < ((u8sG L).size : Int) := by omega
  have hg0 := uG_get L 0 (L.getD 0 0) (getD_lt rfl (by omega)) (hL _ (List.mem_of_getElem? (getD_lt rfl (by omega)))) hs0
  have hs5 : (u8sG L).size ≤ 800 := by omega
  have hs6 : decN L ≤ (u8sG L).size := by omega
  have hs7 : (decN L : Int) ≤ ((u8sG L).size : Int) := by omega
  have hnI : (0 : Int) < (decN L : Int) := by omega
  have hn0 : ((decN L : Int) == 0) = false := beq_eq_false_iff_ne.2 (by omega)
  rw [hz] at hg0
  rw [hz1] at *
  have hDe : Hid (∀ W, Calls Tryz.prog 43 #[.string (u8sG L)] W fun r w' => r = .returned (.int .i64 1) ∧ Below W.heap.size W w') := hDe
  clear hz hz1
  have hFl := Lib.hid (fun W hW => c_dfloat hd (by rw [List.length_take]; omega) W hW)
  have hex : (u8sG L).extract 0 (1) = u8sG (L.take (1)) := by rw [uG_ext]; rfl
  generalize u8sG (L.take (1)) = D at *
  clear hL hl hpre hsz hnl hW h0 hd
  generalize u8sG L = S at *
  go_enter Tryz.func17, Tryz.ntmps17
  go_wp2_with fail
  refine (hPr.out _).mono ?_
  rintro e w3 ⟨rfl, hbB⟩
  go_wp2_with fail
  refine (hDe.out _).mono ?_
  rintro e w4 ⟨rfl, hb4⟩
  have hbC : Below w.heap.size w w4 := hbB.trans (hb4.mono hbB.size)
  clear hb4 hbB
  go_wp2_with fail
  refine (hFl.out _ (hLk.out _ hbC)).mono ?_
  rintro e w5 ⟨rfl, hb5⟩
  have hbD : Below w.heap.size w w5 := hbC.trans (hb5.mono hbC.size)
  clear hb5 hbC
  cases hEnd with
  | e0 hE =>
    have hE1 : ¬ (((1 : Nat) : Int)) < (S.size : Int) := by omega
    clear hE
    go_wp2_with fail
    go_ret3
    exact ⟨rfl, hbD⟩
  | e5 hE c hc hc8 h1 h2 h3 h4 =>
    have hE1 : (((1 : Nat) : Int)) < (S.size : Int) := by omega
    have hgc := hc hE
    have hWo := Lib.hid (fun W => c_dworth c hc8 W)
    have hE2 : ¬ (wth c : Int) < 36 := by omega
    have hE3 : ((c : Int) == 36) = false := beq_eq_false_iff_ne.2 (by omega)
    have hE4 : ((c : Int) == 95) = false := beq_eq_false_iff_ne.2 (by omega)
    have hE5 : ¬ (128 : Int) ≤ (c : Int) := by omega
    generalize wth c = wc at *
    clear h1 h2 h3 h4
    go_wp2_with (go_at_call 46; refine (hWo.out _).mono ?_; rintro e w' ⟨rfl, rfl⟩)
    go_ret3
    exact ⟨rfl, hbD⟩
theorem c_dLit_decbB (L : List Nat) (v : Nat) (hL : ∀ c ∈ L, c < 256) (hl : L.length ≤ 800) (hpre : preL L = 0) (h0 : 0 < decN L) (hz : L.getD 0 0 = 48) (hz1 : decN L = 1) (hd : DcT (L.take (decN L)) v) (hEnd : EndC (u8sG L) (decN L) false) (w : World) (hW : LibW w) :
    Calls Tryz.prog 17 #[.string (u8sG L)] w fun r w' => r = .returned (.tuple #[.float .f64 0, .int .i64 0, .int .i64 30]) ∧ Below w.heap.size w w' := by
  have hLk := Lib.hid (fun W (hb : Below w.heap.size w W) => hW.keep hb)
  have hPr := Lib.hid (fun W => c_dprefix L hL (by omega) W)
  rw [hpre] at hPr
  have hPr : Hid (∀ W, Calls Tryz.prog 37 #[.string (u8sG L)] W fun r w' => r = .returned (.int .i64 0) ∧ Below W.heap.size W w') := hPr
  have hDe := Lib.hid (fun W => c_ddecimal L hL (by omega) W)
  have hsz : (u8sG L).size = L.length := uG_size L
  have hnl := decN_le L
  have hs0 : 0 < (u8sG L).size := by omega
  have hs0I : (0 : Int) < ((u8sG L).size : Int) := by omega
  have hg0 := uG_get L 0 (L.getD 0 0) (getD_lt rfl (by omega)) (hL _ (List.mem_of_getElem? (getD_lt rfl (by omega)))) hs0
  have hs5 : (u8sG L).size ≤ 800 := by omega
  have hs6 : decN L ≤ (u8sG L).size := by omega
  have hs7 : (decN L : Int) ≤ ((u8sG L).size : Int) := by omega
  have hnI : (0 : Int) < (decN L : Int) := by omega
  have hn0 : ((decN L : Int) == 0) = false := beq_eq_false_iff_ne.2 (by omega)
  rw [hz] at hg0
  rw [hz1] at *
  have hDe : Hid (∀ W, Calls Tryz.prog 43 #[.string (u8sG L)] W fun r w' => r = .returned (.int .i64 1) ∧ Below W.heap.size W w') := hDe
  clear hz hz1
  have hFl := Lib.hid (fun W hW => c_dfloat hd (by rw [List.length_take]; omega) W hW)
  have hex : (u8sG L).extract 0 (1) = u8sG (L.take (1)) := by rw [uG_ext]; rfl
  generalize u8sG (L.take (1)) = D at *
  clear hL hl hpre hsz hnl hW h0 hd
  generalize u8sG L = S at *
  go_enter Tryz.func17, Tryz.ntmps17
  go_wp2_with fail
  refine (hPr.out _).mono ?_
  rintro e w3 ⟨rfl, hbB⟩
  go_wp2_with fail
  refine (hDe.out _).mono ?_
  rintro e w4 ⟨rfl, hb4⟩
  have hbC : Below w.heap.size w w4 := hbB.trans (hb4.mono hbB.size)
  clear hb4 hbB
  go_wp2_with fail
  refine (hFl.out _ (hLk.out _ hbC)).mono ?_
  rintro e w5 ⟨rfl, hb5⟩
  have hbD : Below w.heap.size w w5 := hbC.trans (hb5.mono hbC.size)
  clear hb5 hbC
  cases hEnd with
  | e1 hE c hc hc8 h1 =>
    have hE1 : (((1 : Nat) : Int)) < (S.size : Int) := by omega
    have hgc := hc hE
    have hWo := Lib.hid (fun W => c_dworth c hc8 W)
    have hE2 : (wth c : Int) < 36 := by omega
    generalize wth c = wc at *
    go_wp2_with (go_at_call 46; refine (hWo.out _).mono ?_; rintro e w' ⟨rfl, rfl⟩)
    go_ret3
    exact ⟨rfl, hbD⟩
  | e2 hE hc =>
    have hE1 : (((1 : Nat) : Int)) < (S.size : Int) := by omega
    have hgc := hc hE
    have hWo := Lib.hid (fun W => c_dworth 36 (by decide) W)
    rw [wth_36] at hWo
    have hWo : Hid (∀ W, Calls Tryz.prog 46 #[.int .u8 36] W fun r w' => r = .returned (.int .i64 99) ∧ W = w') := hWo
    go_wp2_with (go_at_call 46; refine (hWo.out _).mono ?_; rintro e w' ⟨rfl, rfl⟩)
    go_ret3
    exact ⟨rfl, hbD⟩
  | e3 hE hc =>
    have hE1 : (((1 : Nat) : Int)) < (S.size : Int) := by omega
    have hgc := hc hE
    have hWo := Lib.hid (fun W => c_dworth 95 (by decide) W)
    rw [wth_95] at hWo
    have hWo : Hid (∀ W, Calls Tryz.prog 46 #[.int .u8 95] W fun r w' => r = .returned (.int .i64 99) ∧ W = w') := hWo
    go_wp2_with (go_at_call 46; refine (hWo.out _).mono ?_; rintro e w' ⟨rfl, rfl⟩)
    go_ret3
    exact ⟨rfl, hbD⟩
  | e4 hE c hc hc8 h1 =>
    have hE1 : (((1 : Nat) : Int)) < (S.size : Int) := by omega
    have hgc := hc hE
    have hWo := Lib.hid (fun W => c_dworth c hc8 W)
    rw [wth_128 h1 hc8] at hWo
    have hWo : Hid (∀ W, Calls Tryz.prog 46 #[.int .u8 (c : Int)] W fun r w' => r = .returned (.int .i64 99) ∧ W = w') := hWo
    have hE3 : ((c : Int) == 36) = false := beq_eq_false_iff_ne.2 (by omega)
    have hE4 : ((c : Int) == 95) = false := beq_eq_false_iff_ne.2 (by omega)
    have hE5 : (128 : Int) ≤ (c : Int) := by omega
    clear h1
    go_wp2_with (go_at_call 46; refine (hWo.out _).mono ?_; rintro e w' ⟨rfl, rfl⟩)
    go_ret3
    exact ⟨rfl, hbD⟩
theorem c_dLit_decc (L : List Nat) (v : Nat) (hL : ∀ c ∈ L, c < 256) (hl : L.length ≤ 800) (hpre : preL L = 0) (h0 : 0 < decN L) (hz : L.getD 0 0 = 48) (hz1 : 1 < decN L) (hz2 : ¬ wth (L.getD 1 0) < 10) (hd : DcT (L.take (decN L)) v) (hEnd : EndC (u8sG L) (decN L) true) (w : World) (hW : LibW w) :
    Calls Tryz.prog 17 #[.string (u8sG L)] w fun r w' => r = .returned (.tuple #[.float .f64 v, .int .i64 (decN L : Int), .int .i64 0]) ∧ Below w.heap.size w w' := by
  have hLk := Lib.hid (fun W (hb : Below w.heap.size w W) => hW.keep hb)
  have hPr := Lib.hid (fun W => c_dprefix L hL (by omega) W)
  rw [hpre] at hPr
  have hPr : Hid (∀ W, Calls Tryz.prog 37 #[.string (u8sG L)] W fun r w' => r = .returned (.int .i64 0) ∧ Below W.heap.size W w') := hPr
  have hDe := Lib.hid (fun W => c_ddecimal L hL (by omega) W)
  have hsz : (u8sG L).size = L.length := uG_size L
  have hnl := decN_le L
  have hs0 : 0 < (u8sG L).size := by omega
  have hs0I : (0 : Int) < ((u8sG L).size : Int) := by omega
  have hg0 := uG_get L 0 (L.getD 0 0) (getD_lt rfl (by omega)) (hL _ (List.mem_of_getElem? (getD_lt rfl (by omega)))) hs0
  have hs5 : (u8sG L).size ≤ 800 := by omega
  have hs6 : decN L ≤ (u8sG L).size := by omega
  have hs7 : (decN L : Int) ≤ ((u8sG L).size : Int) := by omega
  have hnI : (0 : Int) < (decN L : Int) := by omega
  have hn0 : ((decN L : Int) == 0) = false := beq_eq_false_iff_ne.2 (by omega)
  rw [hz] at hg0
  have hs1 : 1 < (u8sG L).size := by omega
  have hs1I : (1 : Int) < ((u8sG L).size : Int) := by omega
  have hc1 := hL _ (List.mem_of_getElem? (getD_lt (L := L) (i := 1) rfl (by omega)))
  have hg1 := uG_get L 1 (L.getD 1 0) (getD_lt rfl (by omega)) hc1 hs1
  have hW1 := Lib.hid (fun W => c_dworth (L.getD 1 0) hc1 W)
  have hn1 : (1 : Int) < (decN L : Int) := by omega
  have hw1 : ¬ (wth (L.getD 1 0) : Int) < 10 := by omega
  generalize wth (L.getD 1 0) = wc1 at *
  generalize L.getD 1 0 = c1 at *
  clear hz hz1 hz2 hc1
  have hFl := Lib.hid (fun W hW => c_dfloat hd (by rw [List.length_take]; omega) W hW)
  have hex : (u8sG L).extract 0 (decN L) = u8sG (L.take (decN L)) := by rw [uG_ext]; rfl
  generalize u8sG (L.take (decN L)) = D at *
  clear hL hl hpre hsz hnl hW h0 hd
  generalize decN L = n at *
  generalize u8sG L = S at *
  go_enter Tryz.func17, Tryz.ntmps17
  go_wp2_with fail
  refine (hPr.out _).mono ?_
  rintro e w3 ⟨rfl, hbB⟩
  go_wp2_with fail
  refine (hDe.out _).mono ?_
  rintro e w4 ⟨rfl, hb4⟩
  have hbC : Below w.heap.size w w4 := hbB.trans (hb4.mono hbB.size)
  clear hb4 hbB
  go_wp2_with (go_at_call 46; refine (hW1.out _).mono ?_; rintro e w' ⟨rfl, rfl⟩)
  refine (hFl.out _ (hLk.out _ hbC)).mono ?_
  rintro e w5 ⟨rfl, hb5⟩
  have hbD : Below w.heap.size w w5 := hbC.trans (hb5.mono hbC.size)
  clear hb5 hbC
  cases hEnd with
  | e0 hE =>
    have hE1 : ¬ ((n : Int)) < (S.size : Int) := by omega
    clear hE
    go_wp2_with fail
    go_ret3
    exact ⟨rfl, hbD⟩
  | e5 hE c hc hc8 h1 h2 h3 h4 =>
    have hE1 : ((n : Int)) < (S.size : Int) := by omega
    have hgc := hc hE
    have hWo := Lib.hid (fun W => c_dworth c hc8 W)
    have hE2 : ¬ (wth c : Int) < 36 := by omega
    have hE3 : ((c : Int) == 36) = false := beq_eq_false_iff_ne.2 (by omega)
    have hE4 : ((c : Int) == 95) = false := beq_eq_false_iff_ne.2 (by omega)
    have hE5 : ¬ (128 : Int) ≤ (c : Int) := by omega
    generalize wth c = wc at *
    clear h1 h2 h3 h4
    go_wp2_with (go_at_call 46; refine (hWo.out _).mono ?_; rintro e w' ⟨rfl, rfl⟩)
    go_ret3
    exact ⟨rfl, hbD⟩
theorem c_dLit_deccB (L : List Nat) (v : Nat) (hL : ∀ c ∈ L, c < 256) (hl : L.length ≤ 800) (hpre : preL L = 0) (h0 : 0 < decN L) (hz : L.getD 0 0 = 48) (hz1 : 1 < decN L) (hz2 : ¬ wth (L.getD 1 0) < 10) (hd : DcT (L.take (decN L)) v) (hEnd : EndC (u8sG L) (decN L) false) (w : World) (hW : LibW w) :
    Calls Tryz.prog 17 #[.string (u8sG L)] w fun r w' => r = .returned (.tuple #[.float .f64 0, .int .i64 0, .int .i64 30]) ∧ Below w.heap.size w w' := by
  have hLk := Lib.hid (fun W (hb : Below w.heap.size w W) => hW.keep hb)
  have hPr := Lib.hid (fun W => c_dprefix L hL (by omega) W)
  rw [hpre] at hPr
  have hPr : Hid (∀ W, Calls Tryz.prog 37 #[.string (u8sG L)] W fun r w' => r = .returned (.int .i64 0) ∧ Below W.heap.size W w') := hPr
  have hDe := Lib.hid (fun W => c_ddecimal L hL (by omega) W)
  have hsz : (u8sG L).size = L.length := uG_size L
  have hnl := decN_le L
  have hs0 : 0 < (u8sG L).size := by omega
  have hs0I : (0 : Int) < ((u8sG L).size : Int) := by omega
  have hg0 := uG_get L 0 (L.getD 0 0) (getD_lt rfl (by omega)) (hL _ (List.mem_of_getElem? (getD_lt rfl (by omega)))) hs0
  have hs5 : (u8sG L).size ≤ 800 := by omega
  have hs6 : decN L ≤ (u8sG L).size := by omega
  have hs7 : (decN L : Int) ≤ ((u8sG L).size : Int) := by omega
  have hnI : (0 : Int) < (decN L : Int) := by omega
  have hn0 : ((decN L : Int) == 0) = false := beq_eq_false_iff_ne.2 (by omega)
  rw [hz] at hg0
  have hs1 : 1 < (u8sG L).size := by omega
  have hs1I : (1 : Int) < ((u8sG L).size : Int) := by omega
  have hc1 := hL _ (List.mem_of_getElem? (getD_lt (L := L) (i := 1) rfl (by omega)))
  have hg1 := uG_get L 1 (L.getD 1 0) (getD_lt rfl (by omega)) hc1 hs1
  have hW1 := Lib.hid (fun W => c_dworth (L.getD 1 0) hc1 W)
  have hn1 : (1 : Int) < (decN L : Int) := by omega
  have hw1 : ¬ (wth (L.getD 1 0) : Int) < 10 := by omega
  generalize wth (L.getD 1 0) = wc1 at *
  generalize L.getD 1 0 = c1 at *
  clear hz hz1 hz2 hc1
  have hFl := Lib.hid (fun W hW => c_dfloat hd (by rw [List.length_take]; omega) W hW)
  have hex : (u8sG L).extract 0 (decN L) = u8sG (L.take (decN L)) := by rw [uG_ext]; rfl
  generalize u8sG (L.take (decN L)) = D at *
  clear hL hl hpre hsz hnl hW h0 hd
  generalize decN L = n at *
  generalize u8sG L = S at *
  go_enter Tryz.func17, Tryz.ntmps17
  go_wp2_with fail
  refine (hPr.out _).mono ?_
  rintro e w3 ⟨rfl, hbB⟩
  go_wp2_with fail
  refine (hDe.out _).mono ?_
  rintro e w4 ⟨rfl, hb4⟩
  have hbC : Below w.heap.size w w4 := hbB.trans (hb4.mono hbB.size)
  clear hb4 hbB
  go_wp2_with (go_at_call 46; refine (hW1.out _).mono ?_; rintro e w' ⟨rfl, rfl⟩)
  refine (hFl.out _ (hLk.out _ hbC)).mono ?_
  rintro e w5 ⟨rfl, hb5⟩
  have hbD : Below w.heap.size w w5 := hbC.trans (hb5.mono hbC.size)
  clear hb5 hbC
  cases hEnd with
  | e1 hE c hc hc8 h1 =>
    have hE1 : ((n : Int)) < (S.size : Int) := by omega
    have hgc := hc hE
    have hWo := Lib.hid (fun W => c_dworth c hc8 W)
    have hE2 : (wth c : Int) < 36 := by omega
    generalize wth c = wc at *
    go_wp2_with (go_at_call 46; refine (hWo.out _).mono ?_; rintro e w' ⟨rfl, rfl⟩)
    go_ret3
    exact ⟨rfl, hbD⟩
  | e2 hE hc =>
    have hE1 : ((n : Int)) < (S.size : Int) := by omega
    have hgc := hc hE
    have hWo := Lib.hid (fun W => c_dworth 36 (by decide) W)
    rw [wth_36] at hWo
    have hWo : Hid (∀ W, Calls Tryz.prog 46 #[.int .u8 36] W fun r w' => r = .returned (.int .i64 99) ∧ W = w') := hWo
    go_wp2_with (go_at_call 46; refine (hWo.out _).mono ?_; rintro e w' ⟨rfl, rfl⟩)
    go_ret3
    exact ⟨rfl, hbD⟩
  | e3 hE hc =>
    have hE1 : ((n : Int)) < (S.size : Int) := by omega
    have hgc := hc hE
    have hWo := Lib.hid (fun W => c_dworth 95 (by decide) W)
    rw [wth_95] at hWo
    have hWo : Hid (∀ W, Calls Tryz.prog 46 #[.int .u8 95] W fun r w' => r = .returned (.int .i64 99) ∧ W = w') := hWo
    go_wp2_with (go_at_call 46; refine (hWo.out _).mono ?_; rintro e w' ⟨rfl, rfl⟩)
    go_ret3
    exact ⟨rfl, hbD⟩
  | e4 hE c hc hc8 h1 =>
    have hE1 : ((n : Int)) < (S.size : Int) := by omega
    have hgc := hc hE
    have hWo := Lib.hid (fun W => c_dworth c hc8 W)
    rw [wth_128 h1 hc8] at hWo
    have hWo : Hid (∀ W, Calls Tryz.prog 46 #[.int .u8 (c : Int)] W fun r w' => r = .returned (.int .i64 99) ∧ W = w') := hWo
    have hE3 : ((c : Int) == 36) = false := beq_eq_false_iff_ne.2 (by omega)
    have hE4 : ((c : Int) == 95) = false := beq_eq_false_iff_ne.2 (by omega)
    have hE5 : (128 : Int) ≤ (c : Int) := by omega
    clear h1
    go_wp2_with (go_at_call 46; refine (hWo.out _).mono ?_; rintro e w' ⟨rfl, rfl⟩)
    go_ret3
    exact ⟨rfl, hbD⟩
theorem c_dLiteralG (L : List Nat) (hL : ∀ c ∈ L, c < 256) (hl : L.length ≤ 800) {x n er : Nat} (h : LitR L x n er) (w : World) (hW : LibW w) :
    Calls Tryz.prog 17 #[.string (u8sG L)] w fun r w' => r = .returned (.tuple #[.float .f64 x, .int .i64 (n : Int), .int .i64 (er : Int)]) ∧ Below w.heap.size w w' := by
  have hrl : ∀ base, runL base (L.drop 2) ≤ L.length - 2 := fun base => by
    have := runL_le base (L.drop 2); rwa [List.length_drop] at this
  have hlen2 : 0 < preL L → 2 ≤ L.length := fun hp => by
    rcases Nat.lt_or_ge L.length 2 with h | h
    · exfalso
      have : preL L = 0 := by unfold preL; rw [if_neg (by omega)]
      omega
    · exact h
  cases h with
  | preZ hp hb hk => exact c_dLit_preZ L _ hL hl hp hb hk w
  | preB hp hb hk h0 h =>
    rename_i base k
    have := hrl base
    have := hlen2 (by omega)
    exact c_dLit_preB L _ _ hL hl hp hb hk h0 (endC_of (endF_of hL (by omega) false h)) w hW
  | pre hp hb hk h0 h =>
    rename_i base k
    have := hrl base
    have := hlen2 (by omega)
    exact c_dLit_pre L _ _ hL hl hp hb hk h0 (endC_of (endF_of hL (by omega) true h)) w hW
  | none hp hn => exact c_dLit_none L hL hl hp hn w
  | zero hp h0 h => exact c_dLit_deczB L 0 hL hl hp h0 h.1 h.2.1 h.2.2 w hW
  | bad hp h0 hz h =>
    obtain ⟨v, hd⟩ := dec_form hL h0
    have hE := endC_of (endF_of hL (decN_le L) false h)
    by_cases h1 : L.getD 0 0 = 48
    · by_cases h2 : decN L = 1
      · exact c_dLit_decbB L v hL hl hp h0 h1 h2 hd hE w hW
      · exact c_dLit_deccB L v hL hl hp h0 h1 (by omega) (fun h3 => hz ⟨h1, by omega, h3⟩) hd hE w hW
    · exact c_dLit_decaB L v hL hl hp h0 h1 hd hE w hW
  | ok hp h0 hz h hd =>
    have hE := endC_of (endF_of hL (decN_le L) true h)
    by_cases h1 : L.getD 0 0 = 48
    · by_cases h2 : decN L = 1
      · exact c_dLit_decb L x hL hl hp h0 h1 h2 hd hE w hW
      · exact c_dLit_decc L x hL hl hp h0 h1 (by omega) (fun h3 => hz ⟨h1, by omega, h3⟩) hd hE w hW
    · exact c_dLit_deca L x hL hl hp h0 h1 hd hE w hW
end Go.Proofs.YtbakbikilbaafaaGreatDoor
namespace Go.Proofs.YtbakbikilbaafaaGreatDoor
open Go.RowKit F64 Ieee
set_option linter.unusedVariables false
set_option maxHeartbeats 4000000
set_option maxRecDepth 100000

theorem FrA.units {s : ByteArray} (k : Nat) (h : k ≤ s.size / 2) : (s.extract (2 * k) (2 * (s.size / 2))).size / 2 = s.size / 2 - k := by
  rw [ByteArray.size_extract]; omega
end Go.Proofs.YtbakbikilbaafaaGreatDoor
namespace Go.Proofs.YtbakbikilbaafaaGreatDoor
open Go.RowKit F64 Ieee
set_option linter.unusedVariables false
set_option maxHeartbeats 8000000
set_option maxRecDepth 100000

/-- how far hexadecimal digits are read -/
structure HF where
  nd : Nat
  nm : Nat
  dp : Int
  m : Nat
  tr : Bool
def hS (σ : HF) (c : Nat) : HF := if c = 48 ∧ σ.nd = 0 then { σ with dp := σ.dp - 1 } else if σ.nm < 16 then ⟨σ.nd + 1, σ.nm + 1, σ.dp, σ.m * 16 + wth c, σ.tr⟩ else ⟨σ.nd + 1, σ.nm, σ.dp, σ.m, σ.tr || decide (c ≠ 48)⟩
def hF0 : HF := ⟨0, 0, 0, 0, false⟩
def hFF (l : List Nat) : HF := l.foldl hS hF0
def IsHx (c : Nat) : Prop := 48 ≤ c ∧ c ≤ 57 ∨ 97 ≤ c ∧ c ≤ 102
theorem wth_hx {c : Nat} (h : IsHx c) : wth c < 16 ∧ (48 ≤ c ∧ c ≤ 57 → wth c = c - 48) ∧ (97 ≤ c ∧ c ≤ 102 → wth c = c - 87) := by
  have all : ∀ c : Fin 103, (48 ≤ c.val ∧ c.val ≤ 57 ∨ 97 ≤ c.val ∧ c.val ≤ 102) → wth c.val < 16 ∧ (48 ≤ c.val ∧ c.val ≤ 57 → wth c.val = c.val - 48) ∧ (97 ≤ c.val ∧ c.val ≤ 102 → wth c.val = c.val - 87) := by decide +kernel
  have hc : c < 103 := by rcases h with h | h <;> omega
  exact all ⟨c, hc⟩ h
end Go.Proofs.YtbakbikilbaafaaGreatDoor
namespace Go.Proofs.YtbakbikilbaafaaGreatDoor
open Go.RowKit F64 Ieee
set_option linter.unusedVariables false
set_option maxHeartbeats 4000000
set_option maxRecDepth 100000

theorem hx_zero {c : Nat} (h : IsHx c) : wth c = 0 ↔ c = 48 := by
  obtain ⟨-, h1, h2⟩ := wth_hx h
  rcases h with h | h
  · rw [h1 h]; omega
  · rw [h2 h]; omega
structure HFv (σ : HF) (N : Nat) : Prop where
  le : σ.nm ≤ σ.nd
  v : ∃ R, N = σ.m * 16 ^ (σ.nd - σ.nm) + R ∧ R < 16 ^ (σ.nd - σ.nm) ∧ σ.tr = decide (R ≠ 0)
  f : σ.nm < 16 → σ.nd = σ.nm
  p : 0 < σ.nd → 0 < σ.nm ∧ 16 ^ (σ.nm - 1) ≤ σ.m
  z : σ.nd = 0 → σ.m = 0
theorem HFv.step {σ : HF} {N c : Nat} (h : HFv σ N) (hc : IsHx c) : HFv (hS σ c) (N * 16 + wth c) := by
  obtain ⟨l, ⟨R, h1, h2, h3⟩, h4, h5, h6⟩ := h
  obtain ⟨w1, -, -⟩ := wth_hx hc
  have wz := hx_zero hc
  obtain ⟨nd, nm, dp, m, tr⟩ := σ
  simp only at l h1 h2 h3 h4 h5 h6
  unfold hS
  simp only
  by_cases hz : c = 48 ∧ nd = 0
  · rw [if_pos hz]
    obtain ⟨rfl, rfl⟩ := hz
    have hm := h6 rfl
    have hn : nm = 0 := by omega
    subst hn hm
    simp at h1 h2
    subst h2
    exact ⟨Nat.le_refl _, ⟨0, by simp [h1, wz.2 rfl], by simp, h3⟩, fun _ => rfl, fun h => absurd h (by simp), fun _ => rfl⟩
  · rw [if_neg hz]
    by_cases hn : nm < 16
    · rw [if_pos hn]
      have hnd := h4 hn
      subst hnd
      rw [Nat.sub_self, Nat.pow_zero] at h1 h2
      have hR : R = 0 := by omega
      subst hR
      refine ⟨by simp only; omega, ⟨0, by simp only; rw [Nat.sub_self]; omega, by simp only; rw [Nat.sub_self]; decide, h3⟩, fun _ => rfl, fun _ => ⟨by simp only; omega, ?_⟩, fun h => absurd h (by simp)⟩
      simp only [Nat.add_sub_cancel]
      rcases Nat.eq_zero_or_pos nd with h0 | h0
      · subst h0
        have : wth c ≠ 0 := fun g => hz ⟨wz.1 g, rfl⟩
        rw [Nat.pow_zero]; omega
      · have h7 := (h5 h0).2
        obtain ⟨k, rfl⟩ : ∃ k, nd = k + 1 := ⟨nd - 1, by omega⟩
        rw [Nat.add_sub_cancel] at h7
        rw [Nat.pow_succ]
        omega
    · rw [if_neg hn]
      have hs : nd + 1 - nm = nd - nm + 1 := by omega
      refine ⟨by simp only; omega, ⟨R * 16 + wth c, ?_, ?_, ?_⟩, fun h => absurd h hn, fun _ => ⟨by simp only; omega, (h5 (by omega)).2⟩, fun h => absurd h (by simp)⟩
      · simp only
        rw [hs, Nat.pow_succ, h1, Nat.add_mul, Nat.mul_assoc]; omega
      · simp only
        rw [hs, Nat.pow_succ]; omega
      · simp only
        rw [h3]
        by_cases hR : R = 0
        · subst hR
          by_cases h48 : c = 48
          · have hw := wz.2 h48
            rw [hw]; simp [h48]
          · have : wth c ≠ 0 := fun g => h48 (wz.1 g)
            simp [h48, this]
        · rw [decide_eq_true hR, decide_eq_true (show R * 16 + wth c ≠ 0 by omega)]; rfl
end Go.Proofs.YtbakbikilbaafaaGreatDoor
namespace Go.Proofs.YtbakbikilbaafaaGreatDoor
open Go.RowKit F64 Ieee
set_option linter.unusedVariables false
set_option maxHeartbeats 4000000
set_option maxRecDepth 100000

/-- an array of 65 bytes -/
def ArrF (b : Nat) (D : Nat → Nat) (w : World) : Prop := (∀ x, x < 65 → w.cell? ⟨b, x, none⟩ = some (.int .u8 (D x : Int))) ∧ ∀ x, w.frozen? ⟨b, x, none⟩ = false
theorem ArrF.put {b : Nat} {D : Nat → Nat} {w : World} (h : ArrF b D w) {i : Nat} (hi : i < 65) (v : Nat) : ArrF b (upd D i v) (w.setCell ⟨b, i, none⟩ (.int .u8 (v : Int))) := by
  refine ⟨fun x hx => ?_, fun x => by rw [World.frozen?_setCell]; exact h.2 x⟩
  by_cases e : i = x
  · subst e; rw [upd_same]; exact set_sameG (h.1 i hi)
  · rw [set_otherG e, upd_other D v (Ne.symm e)]; exact h.1 x hx
theorem zc65_0 : (Tryz.zeroCells162).toList = List.replicate 65 (Value.int .u8 0) := by kernel_rfl
theorem ArrF.zero (w : World) : ArrF w.heap.size (fun _ => 0) (w.alloc (.cells Tryz.zeroCells162 162)) := by
  refine ⟨fun x hx => ?_, fun x => World.frozen?_alloc_new _ _ _ _⟩
  rw [World.cell?_alloc_new, ← Array.getElem?_toList, zc65_0, List.getElem?_replicate, if_pos hx]
  rfl
end Go.Proofs.YtbakbikilbaafaaGreatDoor
namespace Go.Proofs.YtbakbikilbaafaaGreatDoor.W3
open Go.RowKit F64 Ieee
set_option linter.unusedVariables false
set_option maxHeartbeats 4000000
set_option maxRecDepth 100000

def B32 : Nat := 4294967296
/-- words times a base plus a carry, and the carry out -/
def mulA (base : Nat) : List Nat → Nat → List Nat × Nat
  | [], c => ([], c)
  | x :: xs, c => ((x * base + c) % B32 :: (mulA base xs ((x * base + c) / B32)).1, (mulA base xs ((x * base + c) / B32)).2)
/-- what words are worth -/
def valW : List Nat → Nat
  | [] => 0
  | x :: xs => x + B32 * valW xs
theorem mulA_len (base : Nat) (ws : List Nat) (c : Nat) : (mulA base ws c).1.length = ws.length := by
  induction ws generalizing c with
  | nil => rfl
  | cons x xs ih => simp [mulA, ih]
theorem mulA_val (base : Nat) (ws : List Nat) (c : Nat) : valW (mulA base ws c).1 + B32 ^ ws.length * (mulA base ws c).2 = valW ws * base + c := by
  induction ws generalizing c with
  | nil => simp [mulA, valW]
  | cons x xs ih =>
    have h := ih ((x * base + c) / B32)
    simp only [mulA, valW, List.length_cons]
    have hd := Nat.div_add_mod (x * base + c) B32
    generalize (x * base + c) / B32 = q at *
    generalize (x * base + c) % B32 = r at *
    rw [Nat.pow_succ, Nat.add_mul, Nat.mul_assoc B32 (valW xs) base]
    have e : B32 ^ xs.length * B32 * (mulA base xs q).2 = B32 * (B32 ^ xs.length * (mulA base xs q).2) := by rw [Nat.mul_comm (B32 ^ xs.length) B32, Nat.mul_assoc]
    rw [e]
    have := congrArg (B32 * ·) h
    simp only [Nat.mul_add] at this
    omega
theorem mulA_lt (base : Nat) (ws : List Nat) (c : Nat) : ∀ x ∈ (mulA base ws c).1, x < B32 := by
  induction ws generalizing c with
  | nil => simp [mulA]
  | cons x xs ih =>
    intro y hy
    simp only [mulA, List.mem_cons] at hy
    rcases hy with rfl | hy
    · exact Nat.mod_lt _ (by decide)
    · exact ih _ y hy
theorem mulA_carry (base : Nat) (hb : 1 ≤ base) (ws : List Nat) (c : Nat) (hc : c < base) (hw : ∀ x ∈ ws, x < B32) : (mulA base ws c).2 < base := by
  induction ws generalizing c with
  | nil => exact hc
  | cons x xs ih =>
    simp only [mulA]
    refine ih _ ?_ (fun y hy => hw y (List.mem_cons_of_mem _ hy))
    have hx := hw x (List.mem_cons_self ..)
    rw [Nat.div_lt_iff_lt_mul (by decide)]
    have : x * base ≤ (B32 - 1) * base := Nat.mul_le_mul_right _ (by omega)
    rw [Nat.sub_mul] at this
    have h2 : 1 * base ≤ B32 * base := Nat.mul_le_mul_right _ (by decide)
    rw [Nat.mul_comm base B32]
    omega
theorem mulA_snoc (base : Nat) (ws : List Nat) (k x c : Nat) (h : ws[k]? = some x) : mulA base (ws.take (k + 1)) c = ((mulA base (ws.take k) c).1 ++ [(x * base + (mulA base (ws.take k) c).2) % B32], (x * base + (mulA base (ws.take k) c).2) / B32) := by
  induction ws generalizing c k with
  | nil => simp at h
  | cons y ys ih =>
    cases k with
    | zero => simp at h; subst h; simp [mulA]
    | succ k =>
      simp only [List.take_succ_cons, mulA]
      rw [ih k _ (by simpa using h)]
      simp
/-- a word more if something is carried out -/
def stepW (base : Nat) (ws : List Nat) (d : Nat) : List Nat := if (mulA base ws d).2 = 0 then (mulA base ws d).1 else (mulA base ws d).1 ++ [(mulA base ws d).2]
theorem valW_app (a b : List Nat) : valW (a ++ b) = valW a + B32 ^ a.length * valW b := by
  induction a with
  | nil => simp [valW]
  | cons x xs ih => simp only [List.cons_append, valW, ih, List.length_cons, Nat.pow_succ, Nat.mul_add, Nat.add_assoc]; rw [Nat.mul_comm (B32 ^ xs.length) B32, Nat.mul_assoc]
theorem stepW_val (base : Nat) (ws : List Nat) (d : Nat) : valW (stepW base ws d) = valW ws * base + d := by
  have h := mulA_val base ws d
  unfold stepW
  split
  · rename_i h0; rw [h0, Nat.mul_zero] at h; exact h
  · rw [valW_app, mulA_len]; simp only [valW, Nat.mul_zero, Nat.add_zero]; exact h
/-- the words of digits -/
def stkW (base : Nat) (l : List Nat) : List Nat := l.foldl (fun ws c => stepW base ws (wth c)) []
theorem stkW_snoc (base : Nat) (l : List Nat) (k c : Nat) (h : l[k]? = some c) : stkW base (l.take (k + 1)) = stepW base (stkW base (l.take k)) (wth c) := by
  unfold stkW
  rw [List.take_add_one, h, List.foldl_append]; rfl
/-- the row within a round -/
def inW (base : Nat) (ws : List Nat) (d k : Nat) : List Nat := (mulA base (ws.take k) d).1 ++ ws.drop k
theorem inW_len (base : Nat) (ws : List Nat) (d k : Nat) (hk : k ≤ ws.length) : (inW base ws d k).length = ws.length := by
  unfold inW; rw [List.length_append, mulA_len, List.length_take, List.length_drop]; omega
theorem inW_get (base : Nat) (ws : List Nat) (d k : Nat) (hk : k < ws.length) : (inW base ws d k)[k]? = ws[k]? := by
  unfold inW
  have hl : (mulA base (ws.take k) d).1.length = k := by rw [mulA_len, List.length_take]; omega
  rw [List.getElem?_append_right (by omega), hl, List.getElem?_drop]; simp
theorem inW_set (base : Nat) (ws : List Nat) (d k x : Nat) (h : ws[k]? = some x) : (inW base ws d k).set k ((x * base + (mulA base (ws.take k) d).2) % B32) = inW base ws d (k + 1) := by
  have hk := (List.getElem?_eq_some_iff.1 h).1
  have hl : (mulA base (ws.take k) d).1.length = k := by rw [mulA_len, List.length_take]; omega
  unfold inW
  have e : ∀ y, (ws.drop k).set 0 y = y :: ws.drop (k + 1) := fun y => by rw [List.drop_eq_getElem_cons hk]; rfl
  rw [mulA_snoc base ws k x d h, List.set_append_right _ _ (by omega), hl, Nat.sub_self, e]
  simp
theorem stkW_len (base : Nat) (l : List Nat) : (stkW base l).length ≤ l.length := by
  have key : ∀ (l : List Nat) (ws : List Nat), (l.foldl (fun ws c => stepW base ws (wth c)) ws).length ≤ ws.length + l.length := by
    intro l
    induction l with
    | nil => intro ws; simp
    | cons c l ih =>
      intro ws
      simp only [List.foldl_cons, List.length_cons]
      refine Nat.le_trans (ih _) ?_
      have : (stepW base ws (wth c)).length ≤ ws.length + 1 := by
        unfold stepW
        split
        · rw [mulA_len]; omega
        · simp [mulA_len]
      omega
  have := key l []
  simpa [stkW] using this
theorem stepW_lt {base : Nat} (hb : 1 ≤ base) (hb2 : base ≤ 36) {ws : List Nat} {d : Nat} (hd : d < base) (hw : ∀ x ∈ ws, x < B32) : ∀ x ∈ stepW base ws d, x < B32 := by
  have h1 := mulA_lt base ws d
  have h2 := mulA_carry base hb ws d hd hw
  unfold stepW
  split
  · exact h1
  · intro x hx
    rcases List.mem_append.1 hx with h | h
    · exact h1 x h
    · simp at h; subst h; unfold B32; omega
theorem stkW_lt {base : Nat} (hb : 1 ≤ base) (hb2 : base ≤ 36) {l : List Nat} (hl : ∀ c ∈ l, wth c < base) : ∀ k, ∀ x ∈ stkW base (l.take k), x < B32 := by
  intro k
  induction k with
  | zero => simp [stkW]
  | succ k ih =>
    rcases Nat.lt_or_ge k l.length with h | h
    · have hx : l[k]? = some l[k] := List.getElem?_eq_getElem h
      rw [stkW_snoc base l k _ hx]
      exact stepW_lt hb hb2 (hl _ (List.getElem_mem h)) ih
    · rw [List.take_of_length_le (by omega)] at ih ⊢
      exact ih
theorem valW_stk (base : Nat) (l : List Nat) : valW (stkW base l) = numB base l := by
  have key : ∀ (l ws : List Nat) (n : Nat), valW ws = n → valW (l.foldl (fun ws c => stepW base ws (wth c)) ws) = l.foldl (fun n c => n * base + wth c) n := by
    intro l
    induction l with
    | nil => intro ws n h; exact h
    | cons c l ih =>
      intro ws n h
      simp only [List.foldl_cons]
      exact ih _ _ (by rw [stepW_val, h])
  exact key l [] 0 rfl
end Go.Proofs.YtbakbikilbaafaaGreatDoor.W3
namespace Go.Proofs.YtbakbikilbaafaaGreatDoor
open Go.RowKit F64 Ieee
set_option linter.unusedVariables false
set_option maxHeartbeats 4000000
set_option maxRecDepth 100000

/-- is a number equal to itself? -/
def oE (x : Nat) : Bool := (FloatKind.f64.format.order x x == some Ordering.eq)
theorem v_bad (x : Nat) (w : World) : Calls Tryz.prog 120 #[.float .f64 x] w fun e w' => e = .returned (.bool (!oE x)) ∧ w' = w := by
  go_enter Tryz.func120, Tryz.ntmps120
  go_wp2
  go_ret
  exact ⟨rfl, rfl⟩
theorem v_bits (x : Nat) (w : World) : (callFunc 87 #[.float .f64 x]).run Tryz.prog w = .ok (.value (.int .u64 x)) w := by kernel_rfl
attribute [local go_sem] v_bits
theorem v_sign (x : Nat) : ∃ s : Bool, ∀ w : World, Calls Tryz.prog 121 #[.float .f64 x] w fun e w' => e = .returned (.bool s) ∧ w' = w := by
  refine ⟨decide (wrap64 (x : Int) < 0), fun w => ?_⟩
  go_enter Tryz.func121, Tryz.ntmps121
  go_wp2
  go_ret
  exact ⟨rfl, rfl⟩
theorem v_Same2 (x : Nat) (w : World) : Calls Tryz.prog 81 #[.float .f64 x, .float .f64 x, .int .i64 2] w fun e w' => e = .returned (.bool true) ∧ w' = w := by
  obtain ⟨s, hs⟩ := v_sign x
  have hb := v_bad x
  cases he : oE x with
  | true =>
    rw [he] at hb
    have he' : (FloatKind.f64.format.order x x == some Ordering.eq) = true := he
    replace hs := Lib.hid hs
    replace hb := Lib.hid hb
    clear he
    go_enter Tryz.func81, Tryz.ntmps81
    go_wp2_with (first | (go_at_call 120; refine (hb.out _).mono ?_; rintro e w1 ⟨rfl, rfl⟩) | (go_at_call 121; refine (hs.out _).mono ?_; rintro e w1 ⟨rfl, rfl⟩))
    go_ret
    exact ⟨by cases s <;> rfl, rfl⟩
  | false =>
    rw [he] at hb
    have he' : (FloatKind.f64.format.order x x == some Ordering.eq) = false := he
    replace hs := Lib.hid hs
    replace hb := Lib.hid hb
    clear he
    go_enter Tryz.func81, Tryz.ntmps81
    go_wp2_with (first | (go_at_call 120; refine (hb.out _).mono ?_; rintro e w1 ⟨rfl, rfl⟩) | (go_at_call 121; refine (hs.out _).mono ?_; rintro e w1 ⟨rfl, rfl⟩))
    go_ret
    exact ⟨rfl, rfl⟩
theorem c_RSame3 (x : Nat) (w : World) : Calls Tryz.prog 18 #[.float .f64 x, .float .f64 x] w fun e w' => e = .returned (.bool true) ∧ w = w' := by
  have h2 : ∀ W, Calls Tryz.prog 47 #[.float .f64 x, .float .f64 x] W fun e w' => e = .returned (.bool true) ∧ W = w' := fun W => by
    have hS := Lib.hid (fun W => v_Same2 x W)
    go_enter Tryz.func47, Tryz.ntmps47
    go_wp2_with (go_at_call 81; refine (hS.out _).mono ?_; rintro e w1 ⟨rfl, rfl⟩)
    go_ret
    exact ⟨rfl, rfl⟩
  replace h2 := Lib.hid h2
  go_enter Tryz.func18, Tryz.ntmps18
  go_wp2_with (go_at_call 47; refine (h2.out _).mono ?_; rintro e w1 ⟨rfl, rfl⟩)
  go_ret
  exact ⟨rfl, rfl⟩
theorem bytes_uG (s : ByteArray) : ∃ L : List Nat, s = u8sG L ∧ (∀ c ∈ L, c < 256) ∧ L.length = s.size := by
  refine ⟨s.data.toList.map UInt8.toNat, ?_, ?_, by rw [List.length_map, Array.length_toList]; rfl⟩
  · rw [← uG_mk]
  · intro c hc
    obtain ⟨b, -, rfl⟩ := List.mem_map.1 hc
    exact b.toNat_lt
end Go.Proofs.YtbakbikilbaafaaGreatDoor
namespace Go.Proofs.YtbakbikilbaafaaGreatDoor
open F64 Ieee
set_option linter.unusedVariables false
set_option maxHeartbeats 1000000
set_option maxRecDepth 100000

theorem unr_parts (X Y : Nat) (hY : 0 < Y) : ∃ q, q * Y ≤ X ∧ X < (q + 1) * Y ∧ (X = q * Y ∧ unr X Y = q ∨ q * Y < X ∧ unr X Y = q / 2 * 2 + 1) := by
  refine ⟨X / Y, Nat.div_mul_le_self _ _, ?_, ?_⟩
  · have := Nat.lt_div_mul_add (a := X) hY
    rw [Nat.succ_mul]; exact this
  · have h := Nat.div_add_mod X Y
    rw [Nat.mul_comm] at h
    unfold unr
    by_cases hr : X % Y = 0
    · left; rw [if_pos hr]; exact ⟨by omega, rfl⟩
    · right; rw [if_neg hr]; exact ⟨by omega, rfl⟩
theorem unr_le4 {X Y d o : Nat} (hY : 0 < Y) (ho : o ≤ 1) (h : unr X Y + o ≤ 4 * d) : X ≤ 4 * d * Y ∧ (o = 1 → X < 4 * d * Y) := by
  obtain ⟨q, h1, h2, h3⟩ := unr_parts X Y hY
  rcases h3 with ⟨h3, h4⟩ | ⟨h3, h4⟩
  · have m1 := Nat.mul_le_mul_right Y (show q + o ≤ 4 * d by omega)
    rw [Nat.add_mul] at m1
    refine ⟨by omega, fun h => ?_⟩
    subst h
    omega
  · have m1 := Nat.mul_le_mul_right Y (show q + 1 ≤ 4 * d by omega)
    exact ⟨by omega, fun _ => by omega⟩
theorem unr_ge4 {X Y d o : Nat} (hY : 0 < Y) (ho : o ≤ 1) (h : 4 * d + o ≤ unr X Y) : 4 * d * Y ≤ X ∧ (o = 1 → 4 * d * Y < X) := by
  obtain ⟨q, h1, h2, h3⟩ := unr_parts X Y hY
  rcases h3 with ⟨h3, h4⟩ | ⟨h3, h4⟩
  · have m1 := Nat.mul_le_mul_right Y (show 4 * d + o ≤ q by omega)
    rw [Nat.add_mul] at m1
    refine ⟨by omega, fun h => ?_⟩
    subst h
    omega
  · have m1 := Nat.mul_le_mul_right Y (show 4 * d ≤ q by omega)
    exact ⟨by omega, fun _ => by omega⟩
theorem unr_lt4 {X Y d : Nat} (hY : 0 < Y) (h : X < 4 * d * Y) : unr X Y + 1 ≤ 4 * d := by
  obtain ⟨q, h1, h2, h3⟩ := unr_parts X Y hY
  have m1 : q < 4 * d := by
    rcases Nat.lt_or_ge q (4 * d) with h4 | h4
    · exact h4
    · have := Nat.mul_le_mul_right Y h4; omega
  rcases h3 with ⟨h3, h4⟩ | ⟨h3, h4⟩ <;> omega
theorem unr_gt4 {X Y d : Nat} (hY : 0 < Y) (h : 4 * d * Y < X) : 4 * d + 1 ≤ unr X Y := by
  obtain ⟨q, h1, h2, h3⟩ := unr_parts X Y hY
  have m1 : 4 * d ≤ q := by
    rcases Nat.lt_or_ge q (4 * d) with h4 | h4
    · have := Nat.mul_le_mul_right Y (show q + 1 ≤ 4 * d by omega); omega
    · exact h4
  rcases h3 with ⟨h3, h4⟩ | ⟨h3, h4⟩
  · have m2 : 4 * d ≠ q := fun h5 => by subst h5; omega
    omega
  · omega
/-- d is between the bounds; at an odd mantissa not on them -/
def Btw (X1 X2 b o d : Nat) : Prop := X1 ≤ 4 * d * b ∧ 4 * d * b ≤ X2 ∧ (o = 1 → X1 < 4 * d * b ∧ 4 * d * b < X2)
theorem btw_of {X1 X2 b o d lo hi : Nat} (hb : 0 < b) (ho : o ≤ 1) (hlo : lo = (unr X1 b + o + 3) / 4) (hhi : hi = (unr X2 b - o) / 4) (h0 : o ≤ unr X2 b) (h1 : lo ≤ d) (h2 : d ≤ hi) : Btw X1 X2 b o d := by
  obtain ⟨a1, a2⟩ := unr_le4 (X := X1) (d := d) hb ho (by omega)
  obtain ⟨b1, b2⟩ := unr_ge4 (X := X2) (d := d) hb ho (by omega)
  exact ⟨a1, b1, fun h => ⟨a2 h, b2 h⟩⟩
theorem lo_hi {X1 X2 b o d lo hi : Nat} (hb : 0 < b) (ho : o ≤ 1) (hlo : lo = (unr X1 b + o + 3) / 4) (hhi : hi = (unr X2 b - o) / 4) (h1 : X1 < 4 * d * b) (h2 : 4 * d * b < X2) : lo ≤ d ∧ d ≤ hi ∧ o ≤ unr X2 b := by
  have a1 := unr_lt4 hb h1
  have a2 := unr_gt4 hb h2
  omega
theorem unr_lo {X1 b o lo : Nat} (hb : 0 < b) (ho : o ≤ 1) (hlo : lo = (unr X1 b + o + 3) / 4) (h1 : 1 ≤ lo) : (lo - 1) * (4 * b) ≤ X1 := by
  rcases Nat.lt_or_ge X1 ((lo - 1) * (4 * b)) with h | h
  · exfalso
    have := unr_lt4 (X := X1) (d := lo - 1) hb (by rw [show 4 * (lo - 1) * b = (lo - 1) * (4 * b) by ac_rfl]; exact h)
    omega
  · exact h
theorem unr_hi {X2 b o hi : Nat} (hb : 0 < b) (ho : o ≤ 1) (hhi : hi = (unr X2 b - o) / 4) : X2 ≤ (hi + 1) * (4 * b) := by
  rcases Nat.lt_or_ge ((hi + 1) * (4 * b)) X2 with h | h
  · exfalso
    have := unr_gt4 (X := X2) (d := hi + 1) hb (by rw [show 4 * (hi + 1) * b = (hi + 1) * (4 * b) by ac_rfl]; exact h)
    omega
  · exact h
theorem rou_in {Xm A1 A2 b o K lo hi : Nat} (hb : 0 < b) (ho : o ≤ 1) (hA : A1 ≤ Xm) (h2 : A2 = A1 ∨ A2 = 2 * A1) (hlo : lo = (unr (Xm - A1) b + o + 3) / 4) (hhi : hi = (unr (Xm + A2) b - o) / 4) (h0 : o ≤ unr (Xm + A2) b)
    (hK : Half K Xm (4 * b)) (hlt : lo < hi) : lo ≤ K ∧ K ≤ hi := by
  have y1 := (btw_of (d := lo) hb ho hlo hhi h0 (Nat.le_refl _) (by omega)).1
  have z1 := (btw_of (d := hi) hb ho hlo hhi h0 (by omega) (Nat.le_refl _)).2.1
  rw [show 4 * lo * b = lo * (4 * b) by ac_rfl] at y1
  rw [show 4 * hi * b = hi * (4 * b) by ac_rfl] at z1
  have z2 := unr_hi hb ho hhi
  have y2 := unr_lo (X1 := Xm - A1) hb ho hlo
  have hyz := Nat.mul_le_mul_right (4 * b) (show lo + 1 ≤ hi by omega)
  rw [Nat.add_mul, Nat.one_mul] at hyz z2
  obtain ⟨k1, k2⟩ := hK
  have k1 : 2 * Xm ≤ 2 * (K * (4 * b)) + 4 * b := by
    have e : 4 * b * (2 * K + 1) = 2 * (K * (4 * b)) + 4 * b := by rw [Nat.mul_add, Nat.mul_one, show 4 * b * (2 * K) = 2 * (K * (4 * b)) by ac_rfl]
    rw [e] at k1; omega
  have hB : 0 < 4 * b := by omega
  constructor
  · rcases Nat.lt_or_ge K lo with h | h
    · exfalso
      have y2 := y2 (by omega)
      obtain ⟨l, rfl⟩ : ∃ l, lo = l + 1 := ⟨lo - 1, by omega⟩
      have m1 := Nat.mul_le_mul_right (4 * b) (show K ≤ l by omega)
      rw [Nat.add_mul, Nat.one_mul] at hyz y1
      rw [Nat.add_sub_cancel] at y2
      generalize K * (4 * b) = k at *
      generalize l * (4 * b) = y at *
      generalize hi * (4 * b) = z at *
      generalize 4 * b = B at *
      omega
    · exact h
  · rcases Nat.lt_or_ge hi K with h | h
    · exfalso
      obtain ⟨j, rfl⟩ : ∃ j, K = j + 1 := ⟨K - 1, by omega⟩
      have m1 := Nat.mul_le_mul_right (4 * b) (show hi ≤ j by omega)
      have k3 : 2 * (j * (4 * b)) + 4 * b ≤ 2 * Xm := by
        have e : 4 * b * (2 * (j + 1) - 1) = 2 * (j * (4 * b)) + 4 * b := by
          rw [show 2 * (j + 1) - 1 = 2 * j + 1 by omega, Nat.mul_add, Nat.mul_one, show 4 * b * (2 * j) = 2 * (j * (4 * b)) by ac_rfl]
        rcases k2 with k2 | k2 | k2
        · omega
        · rw [e] at k2; omega
        · rw [e] at k2; omega
      generalize j * (4 * b) = k at *
      generalize lo * (4 * b) = y at *
      generalize hi * (4 * b) = z at *
      generalize 4 * b = B at *
      omega
    · exact h
theorem width {Xm A1 A2 b : Nat} (hb : 0 < b) (hA : A1 ≤ Xm) (h : 4 * b < A1 + A2 ∨ (0 < A1 ∧ 0 < A2 ∧ ∃ d, Xm = 4 * d * b)) : ∃ d, Xm - A1 < 4 * d * b ∧ 4 * d * b < Xm + A2 := by
  rcases h with h | ⟨h1, h2, d, h3⟩
  · refine ⟨(Xm - A1) / (4 * b) + 1, ?_⟩
    have d1 := Nat.div_add_mod (Xm - A1) (4 * b)
    have d2 := Nat.mod_lt (Xm - A1) (show 0 < 4 * b by omega)
    have e : 4 * ((Xm - A1) / (4 * b) + 1) * b = 4 * b * ((Xm - A1) / (4 * b)) + 4 * b := by
      rw [show 4 * ((Xm - A1) / (4 * b) + 1) * b = 4 * b * ((Xm - A1) / (4 * b) + 1) by ac_rfl, Nat.mul_add, Nat.mul_one]
    rw [e]
    generalize 4 * b * ((Xm - A1) / (4 * b)) = y at *
    omega
  · exact ⟨d, by omega⟩
def wdG (e : Int) : Bool := decide (4 * frD (-((e + sfZ e) * 78913 / 262144)) (e + 2) < 2 ^ sfZ e * frN (-((e + sfZ e) * 78913 / 262144)) (e + 2)) || decide (e = -11)
def wdS (e : Int) : Bool := decide (4 * frD (-(((e + 11) * 631305 - 261663) / 2097152)) (e + 2) < 1536 * frN (-(((e + 11) * 631305 - 261663) / 2097152)) (e + 2))
theorem wdG_all : ∀ k : Fin 2098, wdG ((k.val : Int) - 1137) = true := by decide +kernel
theorem wdS_all : ∀ k : Fin 2045, wdS ((k.val : Int) - 1084) = true := by decide +kernel
theorem wdG_of {e : Int} (h1 : -1137 ≤ e) (h2 : e ≤ 960) : wdG e = true := by
  have h := wdG_all ⟨(e + 1137).toNat, by omega⟩
  rwa [show (((⟨(e + 1137).toNat, by omega⟩ : Fin 2098).val : Nat) : Int) - 1137 = e by show (((e + 1137).toNat : Nat) : Int) - 1137 = e; omega] at h
theorem wdS_of {e : Int} (h1 : -1084 ≤ e) (h2 : e ≤ 960) : wdS e = true := by
  have h := wdS_all ⟨(e + 1084).toNat, by omega⟩
  rwa [show (((⟨(e + 1084).toNat, by omega⟩ : Fin 2045).val : Nat) : Int) - 1084 = e by show (((e + 1084).toNat : Nat) : Int) - 1084 = e; omega] at h
end Go.Proofs.YtbakbikilbaafaaGreatDoor
