/-
  Contracts: Contracts of the program's At, Cut, front, Trim. Contracts of the program's plain, signed, bases, prefix. Plain facts of the program's sticky: words times a base plus a digit. The contract of the program's sticky: the loop that reads the digits. Contracts of the reference's front, Make (of a slice of a row) and Trim (printed by gen_XTD.py). Contracts of the program's plain and decimal. Contracts of the program's exact, and its float (given what ParseFloat returns).
-/
import Derived.Test.YtbakbikilbaafaaGreatDoorS13
import Derived.Shelf.Strings.BuilderK
import Derived.Test.YtbakbikilbaafaaGreatDoorS1
import Derived.Laws.IdiomStrings
import Derived.Laws.BytesArg
namespace Go.Proofs.YtbakbikilbaafaaGreatDoor
open Go.RowKit F64 Ieee
set_option linter.unusedVariables false
set_option maxHeartbeats 4000000
set_option maxRecDepth 100000

theorem c_UAt (s : ByteArray) (k : Nat) (hs : s.size ≤ 1099511627776) (hk : k < s.size / 2) (w : World) :
    Calls Tryz.prog 31 #[.string s, .int .i64 (k : Int)] w fun e w' => e = .returned (.tuple #[.int .u16 (unitAt s k : Int), .bool true]) ∧ ∃ nq, w' = w.drewN nq := by
  have h1 := Lib.hid (fun W => c_ULen s hs W)
  have h2 := Lib.hid (fun W => c_unit s k hs (by omega) W)
  generalize s.size / 2 = n at *
  generalize unitAt s k = x at *
  go_enter Tryz.func31, Tryz.ntmps31
  go_wp2_with (go_at_call 30; refine (h1.out _).mono ?_; rintro e w1 ⟨rfl, rfl⟩)
  refine (h2.out _).mono ?_
  rintro e w1 ⟨rfl, nq, rfl⟩
  go_wp2_with fail
  go_ret2
  exact ⟨rfl, _, rfl⟩
theorem c_UAt0 (s : ByteArray) (k : Nat) (hs : s.size ≤ 1099511627776) (hk : s.size / 2 ≤ k) (hk2 : k ≤ 1099511627776) (w : World) :
    Calls Tryz.prog 31 #[.string s, .int .i64 (k : Int)] w fun e w' => e = .returned (.tuple #[.int .u16 0, .bool false]) ∧ w' = w := by
  have h1 := Lib.hid (fun W => c_ULen s hs W)
  generalize s.size / 2 = n at *
  have hk3 : (n : Int) ≤ (k : Int) := by omega
  go_enter Tryz.func31, Tryz.ntmps31
  go_wp2_with (go_at_call 30; refine (h1.out _).mono ?_; rintro e w1 ⟨rfl, rfl⟩)
  go_ret2
  exact ⟨rfl, rfl⟩
theorem c_UCutG (s : ByteArray) (k t : Nat) (hs : s.size ≤ 1099511627776) (hk : k ≤ t) (ht : t ≤ s.size / 2) (w : World) :
    Calls Tryz.prog 32 #[.string s, .int .i64 (k : Int), .int .i64 (t : Int)] w fun e w' => e = .returned (.string (s.extract (2 * k) (2 * t))) ∧ w' = w := by
  have hL := Lib.hid (fun W => c_ULen s hs W)
  have hm2 : 2 * t ≤ s.size := by omega
  generalize hm : s.size / 2 = m at *
  clear hm
  rcases Nat.eq_or_lt_of_le hk with h0 | h0
  · subst h0
    have e : s.extract (2 * k) (2 * k) = ⟨#[]⟩ := by simp; rfl
    rw [e]
    clear e
    go_enter Tryz.func32, Tryz.ntmps32
    go_wp2_with (go_at_call 30; refine (hL.out _).mono ?_; rintro e w1 ⟨rfl, rfl⟩)
    go_ret
    exact ⟨rfl, rfl⟩
  · have e1 : (0 : Int) ≤ (t : Int) := by omega
    have e2 : ¬ (t : Int) ≤ (k : Int) := by omega
    have e3 : (2 : Int) * (t : Int) ≤ (s.size : Int) := by omega
    have a1 : min (k : Int) (m : Int) = (k : Int) := by omega
    have a2 : min (t : Int) (m : Int) = (t : Int) := by omega
    have e4 : (2 * (t : Int)).toNat = 2 * t := by omega
    have e5 : (2 * (k : Int)).toNat = 2 * k := by omega
    go_enter Tryz.func32, Tryz.ntmps32
    go_wp2_with (go_at_call 30; refine (hL.out _).mono ?_; rintro e w1 ⟨rfl, rfl⟩)
    go_ret
    exact ⟨rfl, rfl⟩
/-- where the blanks ahead end -/
structure FrA (p : Nat → Bool) (n k : Nat) : Prop where
  le : k ≤ n
  lt : ∀ i, i < k → p i = true
  nd : k < n → p k = false
theorem FrA.ex (p : Nat → Bool) (n : Nat) : ∃ k, FrA p n k := by
  induction n with
  | zero => exact ⟨0, Nat.le_refl _, fun i hi => by omega, fun h => by omega⟩
  | succ n ih =>
    obtain ⟨k, h1, h2, h3⟩ := ih
    rcases Nat.eq_or_lt_of_le h1 with h | h
    · subst h
      cases hp : p k
      · exact ⟨k, by omega, h2, fun _ => hp⟩
      · exact ⟨k + 1, by omega, fun i hi => by
          rcases Nat.eq_or_lt_of_le (Nat.le_of_lt_succ hi) with h | h
          · rw [h]; exact hp
          · exact h2 i h, fun h => by omega⟩
    · exact ⟨k, by omega, h2, fun _ => h3 h⟩
/-- where the blanks behind begin -/
structure BkA (p : Nat → Bool) (k n t : Nat) : Prop where
  ge : k ≤ t
  le : t ≤ n
  lt : ∀ i, t ≤ i → i < n → p i = true
  nd : k < t → p (t - 1) = false
theorem BkA.ex (p : Nat → Bool) (k n : Nat) (h : k ≤ n) : ∃ t, BkA p k n t := by
  induction n with
  | zero => exact ⟨0, h, Nat.le_refl _, fun i _ hi => by omega, fun h => by omega⟩
  | succ n ih =>
    rcases Nat.eq_or_lt_of_le h with e | e
    · exact ⟨n + 1, h, Nat.le_refl _, fun i a b => by omega, fun h => by omega⟩
    · cases hp : p n
      · exact ⟨n + 1, h, Nat.le_refl _, fun i a b => by omega, fun _ => hp⟩
      · obtain ⟨t, h1, h2, h3, h4⟩ := ih (by omega)
        exact ⟨t, h1, by omega, fun i a b => by
          rcases Nat.eq_or_lt_of_le (Nat.le_of_lt_succ b) with h | h
          · rw [h]; exact hp
          · exact h3 i a h, h4⟩
def blkS (s : ByteArray) (i : Nat) : Bool := blkN (unitAt s i)
theorem unitAt_lt (s : ByteArray) (k : Nat) : unitAt s k < 65536 := by
  unfold unitAt
  have h : ∀ i, ub s i < 256 := fun i => by unfold ub; exact UInt8.toNat_lt _
  have h1 := h (2 * k)
  have h2 := h (2 * k + 1)
  omega
theorem c_dfront (s : ByteArray) (k : Nat) (hs : s.size ≤ 1099511627776) (hF : FrA (blkS s) (s.size / 2) k) (w : World) :
    Calls Tryz.prog 29 #[.string s] w fun e w' => e = .returned (.int .i64 (k : Int)) ∧ ∃ nq, w' = w.drewN nq := by
  obtain ⟨h1, h2, h3⟩ := hF
  have hA := Lib.hid (fun j W hj => c_UAt s j hs hj W)
  have hA0 := Lib.hid (fun j W hj h2 => c_UAt0 s j hs hj h2 W)
  have hB := Lib.hid (fun j W => c_dBlank (unitAt s j) (unitAt_lt s j) W)
  have hN : s.size / 2 ≤ 549755813888 := by omega
  unfold blkS at h2 h3
  generalize s.size / 2 = n at *
  replace h2 := Lib.hid h2
  replace h3 := Lib.hid h3
  go_enter Tryz.func29, Tryz.ntmps29
  rcases Nat.eq_zero_or_pos n with hz | hz
  · subst hz
    obtain rfl : k = 0 := by omega
    have hA00 := Lib.hid (fun W => hA0.out 0 W (Nat.le_refl _) (by omega))
    go_wp2_with (go_at_call 31; refine (hA00.out _).mono ?_; rintro e w1 ⟨rfl, rfl⟩)
    go_loop [3, 4, 5] (fun v3 v4 v5 => v3 = .int .i64 0 ∧ v4 = .int .u16 0 ∧ v5 = .bool false) (fun _ _ _ => 0)
    case atStart => exact ⟨rfl, rfl, rfl⟩
    case round =>
      obtain ⟨rfl, rfl, rfl⟩ := hrel
      go_wp2
      go_ret
      exact ⟨rfl, 0, rfl⟩
  · have hAz := Lib.hid (fun W => hA.out 0 W hz)
    go_wp2_with (go_at_call 31; refine (hAz.out _).mono ?_; rintro e w1 ⟨rfl, n1, rfl⟩)
    go_loopw [3, 4, 5] (fun v3 v4 v5 wr => ∃ j : Nat, j ≤ k ∧ v3 = .int .i64 (j : Int) ∧ (j < n ∧ v4 = .int .u16 (unitAt s j : Int) ∧ v5 = .bool true ∨ ¬ j < n ∧ v4 = .int .u16 0 ∧ v5 = .bool false) ∧ ∃ q, wr = w.drewN q) (fun v3 _ _ _ => k - (intOf v3).toNat)
    case atStart => exact ⟨0, Nat.zero_le _, rfl, .inl ⟨hz, rfl, rfl⟩, _, rfl⟩
    case round =>
      obtain ⟨j, hj, rfl, h, q, rfl⟩ := hrel
      rcases h with ⟨hjn, rfl, rfl⟩ | ⟨hjn, rfl, rfl⟩
      · have hBj := Lib.hid (fun W => hB.out j W)
        rcases Nat.eq_or_lt_of_le hj with e | e
        · subst e
          have hf := h3.out hjn
          rw [hf] at hBj
          clear hf
          generalize unitAt s j = x at *
          go_wp2_with fail
          refine (hBj.out _).mono ?_
          rintro e w1 ⟨rfl, rfl⟩
          go_wp2_with fail
          go_ret
          exact ⟨rfl, _, rfl⟩
        · have hf := h2.out j e
          rw [hf] at hBj
          clear hf
          generalize unitAt s j = x at *
          rcases Nat.lt_or_ge (j + 1) n with hn1 | hn1
          · have hAj := Lib.hid (fun W => hA.out (j + 1) W hn1)
            generalize hx1 : unitAt s (j + 1) = x1 at *
            replace hx1 := Lib.hid hx1
            have hAj : Hid (∀ W, Calls Tryz.prog 31 #[.string s, .int .i64 ((j : Int) + 1)] W fun e w' => e = .returned (.tuple #[.int .u16 (x1 : Int), .bool true]) ∧ ∃ nq, w' = W.drewN nq) := hAj
            go_wp2_with fail
            refine (hBj.out _).mono ?_
            rintro e1 w1 ⟨rfl, rfl⟩
            go_wp2_with fail
            refine (hAj.out _).mono ?_
            rintro e1 w1 ⟨rfl, q1, rfl⟩
            go_wp2_with fail
            exact ⟨⟨j + 1, by omega, by go_num, .inl ⟨hn1, by rw [hx1.out], rfl⟩, _, rfl⟩, by simp [intOf]; omega⟩
          · have hAj := Lib.hid (fun W => hA0.out (j + 1) W hn1 (by omega))
            have hAj : Hid (∀ W, Calls Tryz.prog 31 #[.string s, .int .i64 ((j : Int) + 1)] W fun e w' => e = .returned (.tuple #[.int .u16 0, .bool false]) ∧ w' = W) := hAj
            go_wp2_with fail
            refine (hBj.out _).mono ?_
            rintro e1 w1 ⟨rfl, rfl⟩
            go_wp2_with fail
            refine (hAj.out _).mono ?_
            rintro e1 w1 ⟨rfl, rfl⟩
            go_wp2_with fail
            exact ⟨⟨j + 1, by omega, by go_num, .inr ⟨by omega, rfl, rfl⟩, _, rfl⟩, by simp [intOf]; omega⟩
      · obtain rfl : j = k := by omega
        go_wp2_with fail
        go_ret
        exact ⟨rfl, _, rfl⟩
theorem c_dTrim (s : ByteArray) (k t : Nat) (hs : s.size ≤ 1099511627776) (hF : FrA (blkS s) (s.size / 2) k) (hT : BkA (blkS s) k (s.size / 2) t) (w : World) :
    Calls Tryz.prog 14 #[.string s] w fun e w' => e = .returned (.string (s.extract (2 * k) (2 * t))) ∧ ∃ nq, w' = w.drewN nq := by
  have hFr := Lib.hid (fun W => c_dfront s k hs hF W)
  have hLn := Lib.hid (fun W => c_ULen s hs W)
  obtain ⟨h1, h2, h3, h4⟩ := hT
  have hCt := Lib.hid (fun W => c_UCutG s k t hs h1 h2 W)
  have hA := Lib.hid (fun j W hj => c_UAt s j hs hj W)
  have hB := Lib.hid (fun j W => c_dBlank (unitAt s j) (unitAt_lt s j) W)
  have hN : s.size / 2 ≤ 549755813888 := by omega
  clear hF
  unfold blkS at h3 h4
  generalize s.extract (2 * k) (2 * t) = R at *
  generalize s.size / 2 = n at *
  replace h3 := Lib.hid h3
  replace h4 := Lib.hid h4
  go_enter Tryz.func14, Tryz.ntmps14
  go_wp2_with fail
  refine (hFr.out _).mono ?_
  rintro e w1 ⟨rfl, n1, rfl⟩
  go_wp2_with (go_at_call 30; refine (hLn.out _).mono ?_; rintro e w1 ⟨rfl, rfl⟩)
  go_loopw [4, 5, 6] (fun v4 v5 v6 wr => ∃ j : Nat, t ≤ j ∧ j ≤ n ∧ v4 = .int .i64 (j : Int) ∧ ∃ q, wr = w.drewN q) (fun v4 _ _ _ => (intOf v4).toNat)
  case atStart => exact ⟨n, h2, Nat.le_refl _, rfl, _, rfl⟩
  case round =>
    obtain ⟨j, htj, hjn, rfl, q, rfl⟩ := hrel
    rcases Nat.eq_or_lt_of_le htj with e | e
    · subst e
      rcases Nat.eq_or_lt_of_le h1 with e2 | e2
      · subst e2
        go_wp2_with fail
        refine (hCt.out _).mono ?_
        rintro e w1 ⟨rfl, rfl⟩
        go_wp2_with fail
        go_ret
        exact ⟨rfl, _, rfl⟩
      · have hf := h4.out e2
        have hBj := Lib.hid (fun W => hB.out (t - 1) W)
        rw [hf] at hBj
        have hAj := Lib.hid (fun W => hA.out (t - 1) W (by omega))
        rw [show ((t - 1 : Nat) : Int) = (t : Int) - 1 by omega] at hAj
        clear hf
        generalize unitAt s (t - 1) = x at *
        have e3 : ¬ t ≤ k := by omega
        go_wp2_with fail
        refine (hAj.out _).mono ?_
        rintro e1 w1 ⟨rfl, q1, rfl⟩
        go_wp2_with fail
        refine (hBj.out _).mono ?_
        rintro e1 w1 ⟨rfl, rfl⟩
        go_wp2_with fail
        refine (hCt.out _).mono ?_
        rintro e1 w1 ⟨rfl, rfl⟩
        go_wp2_with fail
        go_ret
        exact ⟨rfl, _, rfl⟩
    · have hf := h3.out (j - 1) (by omega) (by omega)
      have hBj := Lib.hid (fun W => hB.out (j - 1) W)
      rw [hf] at hBj
      have hAj := Lib.hid (fun W => hA.out (j - 1) W (by omega))
      have e9 : ((j - 1 : Nat) : Int) = (j : Int) - 1 := by omega
      rw [e9] at hAj
      clear hf e9
      generalize unitAt s (j - 1) = x at *
      have e2 : k < j := by omega
      have e3 : ¬ j ≤ k := by omega
      go_wp2_with fail
      refine (hAj.out _).mono ?_
      rintro e1 w1 ⟨rfl, q1, rfl⟩
      go_wp2_with fail
      refine (hBj.out _).mono ?_
      rintro e1 w1 ⟨rfl, rfl⟩
      go_wp2_with fail
      exact ⟨⟨j - 1, by omega, by omega, by rw [show ((j - 1 : Nat) : Int) = (j : Int) - 1 by omega], _, rfl⟩, by simp [intOf]; omega⟩
end Go.Proofs.YtbakbikilbaafaaGreatDoor
namespace Go.Proofs.YtbakbikilbaafaaGreatDoor
open Go.RowKit F64 Ieee
set_option linter.unusedVariables false
set_option maxHeartbeats 4000000
set_option maxRecDepth 100000

/-- a sign taken off -/
def sgnL : List Nat → Nat × List Nat
  | [] => (4607182418800017408, [])
  | c :: M => if c = 45 then (13830554455654793216, M) else if c = 43 then (4607182418800017408, M) else (4607182418800017408, c :: M)
theorem trimP_43 (c : Nat) (M : List Nat) (hc : c < 256) : (⟨(Lib.trimPrefix (u8sG (c :: M)).data.toList (⟨#[43]⟩ : ByteArray).data.toList).toArray⟩ : ByteArray) = if c = 43 then u8sG M else u8sG (c :: M) := by
  rw [uG_data]
  have e1 : (⟨#[43]⟩ : ByteArray).data.toList = [43] := rfl
  rw [e1]
  unfold Lib.trimPrefix Lib.hasPrefix
  by_cases h : c = 43
  · subst h
    rw [if_pos rfl]
    simp [u8sG]
  · rw [if_neg h]
    have hn : ¬ UInt8.ofNat c = 43 := fun e => h (by
      have := congrArg UInt8.toNat e
      simp at this
      omega)
    have hn2 : ¬ (43 : UInt8) = UInt8.ofNat c := fun e => hn e.symm
    simp [u8sG, List.isPrefixOf, hn2]
theorem c_dsigned (L : List Nat) (hL : ∀ c ∈ L, c < 256) (hl : L.length ≤ 10000000) (w : World) :
    Calls Tryz.prog 42 #[.string (u8sG L)] w fun r w' => r = .returned (.tuple #[.float .f64 (sgnL L).1, .string (u8sG (sgnL L).2)]) ∧ ∃ n, w' = w.drewN n := by
  cases L with
  | nil =>
    have hT := Lib.hid (fun W => s_TrimPrefix (u8sG []) ⟨#[43]⟩ W)
    rw [show (⟨(Lib.trimPrefix (u8sG []).data.toList (⟨#[43]⟩ : ByteArray).data.toList).toArray⟩ : ByteArray) = u8sG [] from rfl] at hT
    unfold sgnL
    clear hL hl
    have e0 : u8sG [] = ⟨#[]⟩ := rfl
    rw [e0] at hT ⊢
    go_enter Tryz.func42, Tryz.ntmps42
    go_wp2_with (go_at_call 78; refine (hT.out _).mono ?_; rintro e w1 ⟨rfl, rfl⟩)
    go_ret2
    exact ⟨rfl, 0, rfl⟩
  | cons c M =>
    have hc := hL c (by simp)
    have hT := Lib.hid (fun W => s_TrimPrefix (u8sG (c :: M)) ⟨#[43]⟩ W)
    rw [trimP_43 c M hc] at hT
    have hsz : (u8sG (c :: M)).size ≤ 10000000 := by rw [uG_size]; exact hl
    have hs0 : 0 < (u8sG (c :: M)).size := by rw [uG_size]; simp
    have hg := uG_get (c :: M) 0 c rfl hc hs0
    have hex : (u8sG (c :: M)).extract 1 (u8sG (c :: M)).size = u8sG M := by
      have := uG_extract [c] M (u8sG (c :: M)).size 1 (by rw [uG_size]; rfl) rfl
      exact this
    have hem : (u8sG (c :: M)).toList.isEmpty = false := by rw [ByteArray.toList_eq, uG_data]; rfl
    clear hL hl
    have hs0I : (0 : Int) < ((u8sG (c :: M)).size : Int) := by omega
    have hs1I : (1 : Int) ≤ ((u8sG (c :: M)).size : Int) := by omega
    have hs1 : 1 ≤ (u8sG (c :: M)).size := by omega
    rw [show sgnL (c :: M) = if c = 45 then (13830554455654793216, M) else if c = 43 then (4607182418800017408, M) else (4607182418800017408, c :: M) from rfl]
    by_cases h45 : c = 45
    · rw [if_pos h45]
      dsimp only
      subst h45
      clear hT
      generalize u8sG (45 :: M) = S at *
      generalize u8sG M = T at *
      go_enter Tryz.func42, Tryz.ntmps42
      go_wp2
      go_quiet (fail)
      go_wp2
      go_ret2
      exact ⟨rfl, _, rfl⟩
    · have n1 : ((c : Int) == 45) = false := beq_eq_false_iff_ne.2 (by omega)
      rw [if_neg h45]
      clear hex
      by_cases h43 : c = 43
      · subst h43
        rw [if_pos rfl] at hT ⊢
        dsimp only
        generalize u8sG (43 :: M) = S at *
        generalize u8sG M = T at *
        go_enter Tryz.func42, Tryz.ntmps42
        go_wp2_with (go_at_call 78; refine (hT.out _).mono ?_; rintro e w1 ⟨rfl, rfl⟩)
        go_ret2
        exact ⟨rfl, 0, rfl⟩
      · rw [if_neg h43] at hT ⊢
        dsimp only
        clear h45 h43
        generalize u8sG (c :: M) = S at *
        go_enter Tryz.func42, Tryz.ntmps42
        go_wp2_with (go_at_call 78; refine (hT.out _).mono ?_; rintro e w1 ⟨rfl, rfl⟩)
        go_ret2
        exact ⟨rfl, 0, rfl⟩
/-- the base that a text's beginning tells -/
def preL (L : List Nat) : Nat := if L.getD 0 0 = 48 ∧ 2 ≤ L.length then (if L.getD 1 0 ||| 32 = 120 then 16 else if L.getD 1 0 ||| 32 = 111 then 8 else if L.getD 1 0 ||| 32 = 98 then 2 else 0) else 0
theorem infoArr3 : (Tryz.prog.info? 97).map (·.size) = some 3 := by kernel_rfl
theorem c_dbases (w : World) : Calls Tryz.prog 73 #[] w fun r w' => r = .returned (.agg #[.int .i64 16, .int .i64 8, .int .i64 2]) ∧ Below w.heap.size w w' := by
  go_enter Tryz.func73, Tryz.ntmps73
  go_wp2
  refine bodyPost_ret (results_cell_row rfl _ _ w.heap.size 97 #[.int .i64 16, .int .i64 8, .int .i64 2] (0, 0) _ rfl (heap_alloc_new w _) Tryz.underlying97 rfl infoArr3) rfl ?_
  exact ⟨rfl, (Below.refl _ w).alloc (Nat.le_refl _) _⟩
theorem ix3_0 (W : World) : (Instr.index 97 (.agg #[.int .i64 16, .int .i64 8, .int .i64 2]) (.int .i64 0)).run Tryz.prog W = .ok (.int .i64 16) W := by kernel_rfl
theorem ix3_1 (W : World) : (Instr.index 97 (.agg #[.int .i64 16, .int .i64 8, .int .i64 2]) (.int .i64 1)).run Tryz.prog W = .ok (.int .i64 8) W := by kernel_rfl
theorem ix3_2 (W : World) : (Instr.index 97 (.agg #[.int .i64 16, .int .i64 8, .int .i64 2]) (.int .i64 2)).run Tryz.prog W = .ok (.int .i64 2) W := by kernel_rfl
theorem xob (c : Nat) (hc : c < 256) : Lib.indexByte (⟨#[120, 111, 98]⟩ : ByteArray).data.toList (c : Int).toNat.toUInt8 = if c = 120 then 0 else if c = 111 then 1 else if c = 98 then 2 else -1 := by
  have all : ∀ c : Fin 256, Lib.indexByte (⟨#[120, 111, 98]⟩ : ByteArray).data.toList ((c.val : Nat) : Int).toNat.toUInt8 = if c.val = 120 then 0 else if c.val = 111 then 1 else if c.val = 98 then 2 else -1 := by decide +kernel
  exact all ⟨c, hc⟩
theorem or32_ge (c : Nat) (hc : c < 256) (h : c ||| 32 = 120 ∨ c ||| 32 = 111 ∨ c ||| 32 = 98) : 65 ≤ c := by
  have all : ∀ c : Fin 256, (c.val ||| 32 = 120 ∨ c.val ||| 32 = 111 ∨ c.val ||| 32 = 98) → 65 ≤ c.val := by decide +kernel
  exact all ⟨c, hc⟩ h
theorem c_dprefix (L : List Nat) (hL : ∀ c ∈ L, c < 256) (hl : L.length ≤ 10000000) (w : World) :
    Calls Tryz.prog 37 #[.string (u8sG L)] w fun r w' => r = .returned (.int .i64 (preL L : Int)) ∧ Below w.heap.size w w' := by
  have hsz : (u8sG L).size = L.length := uG_size L
  by_cases h2 : 2 ≤ L.length
  · obtain ⟨a, b, M, rfl⟩ : ∃ a b M, L = a :: b :: M := by
      cases L with
      | nil => simp at h2
      | cons a L => cases L with
        | nil => simp at h2
        | cons b M => exact ⟨a, b, M, rfl⟩
    have ha := hL a (by simp)
    have hb := hL b (by simp)
    have hs2 : 2 ≤ (u8sG (a :: b :: M)).size := by omega
    have hs0N : 0 < (u8sG (a :: b :: M)).size := by omega
    have hs1N : 1 < (u8sG (a :: b :: M)).size := by omega
    have hg0 := uG_get (a :: b :: M) 0 a rfl ha hs0N
    have hg1 := uG_get (a :: b :: M) 1 b rfl hb hs1N
    have hs2' : (1 : Int) < ((u8sG (a :: b :: M)).size : Int) := by omega
    have hs0' : (0 : Int) < ((u8sG (a :: b :: M)).size : Int) := by omega
    have hs3 : ¬ ((u8sG (a :: b :: M)).size : Int) < 2 := by omega
    have hsl : (u8sG (a :: b :: M)).size ≤ 10000000 := by omega
    have e : preL (a :: b :: M) = if a = 48 then (if b ||| 32 = 120 then 16 else if b ||| 32 = 111 then 8 else if b ||| 32 = 98 then 2 else 0) else 0 := by unfold preL; simp
    rw [e]
    clear e hsz hL hl h2
    generalize u8sG (a :: b :: M) = S at *
    by_cases h48 : a = 48
    · rw [if_pos h48]
      subst h48
      have hor := or8 b hb
      have hob : b ||| 32 < 256 := Nat.or_lt_two_pow (n := 8) hb (by decide)
      have h65 := or32_ge b hb
      have hI := Lib.hid (fun W => s_IndexByte ⟨#[120, 111, 98]⟩ ((b ||| 32 : Nat) : Int) W)
      rw [xob _ hob] at hI
      have hBs := Lib.hid (fun W => c_dbases W)
      have i0 := ix3_0
      have i1 := ix3_1
      have i2 := ix3_2
      generalize b ||| 32 = o at *
      by_cases e1 : o = 120
      · rw [if_pos e1] at hI ⊢
        have h65 := h65 (.inl e1)
        clear e1
        go_enter Tryz.func37, Tryz.ntmps37
        go_wp2_with (go_at_call 72; refine (hI.out _).mono ?_; rintro e w1 ⟨rfl, rfl⟩)
        refine (hBs.out _).mono ?_
        rintro e w1 ⟨rfl, hb1⟩
        go_wp2
        go_ret
        exact ⟨rfl, hb1⟩
      · rw [if_neg e1] at hI ⊢
        by_cases e2 : o = 111
        · rw [if_pos e2] at hI ⊢
          have h65 := h65 (.inr (.inl e2))
          clear e1 e2
          go_enter Tryz.func37, Tryz.ntmps37
          go_wp2_with (go_at_call 72; refine (hI.out _).mono ?_; rintro e w1 ⟨rfl, rfl⟩)
          refine (hBs.out _).mono ?_
          rintro e w1 ⟨rfl, hb1⟩
          go_wp2
          go_ret
          exact ⟨rfl, hb1⟩
        · rw [if_neg e2] at hI ⊢
          by_cases e3 : o = 98
          · rw [if_pos e3] at hI ⊢
            have h65 := h65 (.inr (.inr e3))
            clear e1 e2 e3
            go_enter Tryz.func37, Tryz.ntmps37
            go_wp2_with (go_at_call 72; refine (hI.out _).mono ?_; rintro e w1 ⟨rfl, rfl⟩)
            refine (hBs.out _).mono ?_
            rintro e w1 ⟨rfl, hb1⟩
            go_wp2
            go_ret
            exact ⟨rfl, hb1⟩
          · rw [if_neg e3] at hI ⊢
            clear e1 e2 e3 h65
            go_enter Tryz.func37, Tryz.ntmps37
            go_wp2_with (go_at_call 72; refine (hI.out _).mono ?_; rintro e w1 ⟨rfl, rfl⟩)
            go_ret
            exact ⟨rfl, Below.refl _ _⟩
    · rw [if_neg h48]
      have n1 : ((a : Int) != 48) = true := by simp; omega
      clear h48
      go_enter Tryz.func37, Tryz.ntmps37
      go_wp2
      go_ret
      exact ⟨rfl, Below.refl _ _⟩
  · have e : preL L = 0 := by unfold preL; rw [if_neg (by omega)]
    rw [e]
    have hs3 : ((u8sG L).size : Int) < 2 := by omega
    clear hsz h2 hl hL e
    generalize u8sG L = S at *
    go_enter Tryz.func37, Tryz.ntmps37
    go_wp2
    go_ret
    exact ⟨rfl, Below.refl _ _⟩
end Go.Proofs.YtbakbikilbaafaaGreatDoor
namespace Go.Proofs.YtbakbikilbaafaaGreatDoor
open Go.RowKit F64 Ieee
set_option linter.unusedVariables false
set_option maxHeartbeats 4000000
set_option maxRecDepth 100000

theorem r_Add64 (x y : Nat) (w : World) : (callFunc 108 #[.int .u64 (x : Int), .int .u64 (y : Int), .int .u64 0]).run Tryz.prog w = .ok (.value (.tuple #[.int .u64 (((x + y) % 18446744073709551616 : Nat) : Int), .int .u64 (((x + y) / 18446744073709551616 : Nat) : Int)])) w := by kernel_rfl
def B64 : Nat := 18446744073709551616
/-- words times a base plus a carry, and the carry out -/
def mulA (base : Nat) : List Nat → Nat → List Nat × Nat
  | [], c => ([], c)
  | x :: xs, c => ((x * base + c) % B64 :: (mulA base xs ((x * base + c) / B64)).1, (mulA base xs ((x * base + c) / B64)).2)
/-- what words are worth -/
def valW : List Nat → Nat
  | [] => 0
  | x :: xs => x + B64 * valW xs
theorem mulA_len (base : Nat) (ws : List Nat) (c : Nat) : (mulA base ws c).1.length = ws.length := by
  induction ws generalizing c with
  | nil => rfl
  | cons x xs ih => simp [mulA, ih]
theorem mulA_val (base : Nat) (ws : List Nat) (c : Nat) : valW (mulA base ws c).1 + B64 ^ ws.length * (mulA base ws c).2 = valW ws * base + c := by
  induction ws generalizing c with
  | nil => simp [mulA, valW]
  | cons x xs ih =>
    have h := ih ((x * base + c) / B64)
    simp only [mulA, valW, List.length_cons]
    have hd := Nat.div_add_mod (x * base + c) B64
    generalize (x * base + c) / B64 = q at *
    generalize (x * base + c) % B64 = r at *
    rw [Nat.pow_succ, Nat.add_mul, Nat.mul_assoc B64 (valW xs) base]
    have e : B64 ^ xs.length * B64 * (mulA base xs q).2 = B64 * (B64 ^ xs.length * (mulA base xs q).2) := by rw [Nat.mul_comm (B64 ^ xs.length) B64, Nat.mul_assoc]
    rw [e]
    have := congrArg (B64 * ·) h
    simp only [Nat.mul_add] at this
    omega
theorem mulA_lt (base : Nat) (ws : List Nat) (c : Nat) : ∀ x ∈ (mulA base ws c).1, x < B64 := by
  induction ws generalizing c with
  | nil => simp [mulA]
  | cons x xs ih =>
    intro y hy
    simp only [mulA, List.mem_cons] at hy
    rcases hy with rfl | hy
    · exact Nat.mod_lt _ (by decide)
    · exact ih _ y hy
theorem mulA_carry (base : Nat) (hb : 1 ≤ base) (ws : List Nat) (c : Nat) (hc : c < base) (hw : ∀ x ∈ ws, x < B64) : (mulA base ws c).2 < base := by
  induction ws generalizing c with
  | nil => exact hc
  | cons x xs ih =>
    simp only [mulA]
    refine ih _ ?_ (fun y hy => hw y (List.mem_cons_of_mem _ hy))
    have hx := hw x (List.mem_cons_self ..)
    rw [Nat.div_lt_iff_lt_mul (by decide)]
    have : x * base ≤ (B64 - 1) * base := Nat.mul_le_mul_right _ (by omega)
    rw [Nat.sub_mul] at this
    have h2 : 1 * base ≤ B64 * base := Nat.mul_le_mul_right _ (by decide)
    rw [Nat.mul_comm base B64]
    omega
theorem mulA_snoc (base : Nat) (ws : List Nat) (k x c : Nat) (h : ws[k]? = some x) : mulA base (ws.take (k + 1)) c = ((mulA base (ws.take k) c).1 ++ [(x * base + (mulA base (ws.take k) c).2) % B64], (x * base + (mulA base (ws.take k) c).2) / B64) := by
  induction ws generalizing c k with
  | nil => simp at h
  | cons y ys ih =>
    cases k with
    | zero => simp at h; subst h; simp [mulA]
    | succ k =>
      simp only [List.take_succ_cons, mulA]
      rw [ih k _ (by simpa using h)]
      simp
/-- a word more if something is carried out -/
def stepW (base : Nat) (ws : List Nat) (d : Nat) : List Nat := if (mulA base ws d).2 = 0 then (mulA base ws d).1 else (mulA base ws d).1 ++ [(mulA base ws d).2]
theorem valW_app (a b : List Nat) : valW (a ++ b) = valW a + B64 ^ a.length * valW b := by
  induction a with
  | nil => simp [valW]
  | cons x xs ih => simp only [List.cons_append, valW, ih, List.length_cons, Nat.pow_succ, Nat.mul_add, Nat.add_assoc]; rw [Nat.mul_comm (B64 ^ xs.length) B64, Nat.mul_assoc]
theorem stepW_val (base : Nat) (ws : List Nat) (d : Nat) : valW (stepW base ws d) = valW ws * base + d := by
  have h := mulA_val base ws d
  unfold stepW
  split
  · rename_i h0; rw [h0, Nat.mul_zero] at h; exact h
  · rw [valW_app, mulA_len]; simp only [valW, Nat.mul_zero, Nat.add_zero]; exact h
/-- the words of digits -/
def stkW (base : Nat) (l : List Nat) : List Nat := l.foldl (fun ws c => stepW base ws (wth c)) []
theorem stkW_snoc (base : Nat) (l : List Nat) (k c : Nat) (h : l[k]? = some c) : stkW base (l.take (k + 1)) = stepW base (stkW base (l.take k)) (wth c) := by
  unfold stkW
  rw [List.take_add_one, h, List.foldl_append]; rfl
end Go.Proofs.YtbakbikilbaafaaGreatDoor
namespace Go.Proofs.YtbakbikilbaafaaGreatDoor
open Go.RowKit F64 Ieee
set_option linter.unusedVariables false
set_option maxHeartbeats 4000000
set_option maxRecDepth 100000

def u64s (l : List Nat) : List Value := l.map fun n : Nat => .int .u64 (n : Int)
theorem infoU64 : (Tryz.prog.info? 102).map (fun i => (i.zero, i.size, i.bytes)) = some (some (.int .u64 0), 1, 8) := by kernel_rfl
/-- the row within a round -/
def inW (base : Nat) (ws : List Nat) (d k : Nat) : List Nat := (mulA base (ws.take k) d).1 ++ ws.drop k
theorem inW_len (base : Nat) (ws : List Nat) (d k : Nat) (hk : k ≤ ws.length) : (inW base ws d k).length = ws.length := by
  unfold inW; rw [List.length_append, mulA_len, List.length_take, List.length_drop]; omega
theorem inW_get (base : Nat) (ws : List Nat) (d k : Nat) (hk : k < ws.length) : (inW base ws d k)[k]? = ws[k]? := by
  unfold inW
  have hl : (mulA base (ws.take k) d).1.length = k := by rw [mulA_len, List.length_take]; omega
  rw [List.getElem?_append_right (by omega), hl, List.getElem?_drop]; simp
theorem inW_set (base : Nat) (ws : List Nat) (d k x : Nat) (h : ws[k]? = some x) : (inW base ws d k).set k ((x * base + (mulA base (ws.take k) d).2) % B64) = inW base ws d (k + 1) := by
  have hk := (List.getElem?_eq_some_iff.1 h).1
  have hl : (mulA base (ws.take k) d).1.length = k := by rw [mulA_len, List.length_take]; omega
  unfold inW
  have e : ∀ y, (ws.drop k).set 0 y = y :: ws.drop (k + 1) := fun y => by rw [List.drop_eq_getElem_cons hk]; rfl
  rw [mulA_snoc base ws k x d h, List.set_append_right _ _ (by omega), hl, Nat.sub_self, e]
  simp
theorem u64s_set (l : List Nat) (k y : Nat) : (u64s l).set k (.int .u64 (y : Int)) = u64s (l.set k y) := by
  unfold u64s; rw [List.map_set]
theorem stkW_len (base : Nat) (l : List Nat) : (stkW base l).length ≤ l.length := by
  have key : ∀ (l : List Nat) (ws : List Nat), (l.foldl (fun ws c => stepW base ws (wth c)) ws).length ≤ ws.length + l.length := by
    intro l
    induction l with
    | nil => intro ws; simp
    | cons c l ih =>
      intro ws
      simp only [List.foldl_cons, List.length_cons]
      refine Nat.le_trans (ih _) ?_
      have : (stepW base ws (wth c)).length ≤ ws.length + 1 := by
        unfold stepW
        split
        · rw [mulA_len]; omega
        · simp [mulA_len]
      omega
  have := key l []
  simpa [stkW] using this
theorem stepW_lt {base : Nat} (hb : 1 ≤ base) (hb2 : base ≤ 36) {ws : List Nat} {d : Nat} (hd : d < base) (hw : ∀ x ∈ ws, x < B64) : ∀ x ∈ stepW base ws d, x < B64 := by
  have h1 := mulA_lt base ws d
  have h2 := mulA_carry base hb ws d hd hw
  unfold stepW
  split
  · exact h1
  · intro x hx
    rcases List.mem_append.1 hx with h | h
    · exact h1 x h
    · simp at h; subst h; unfold B64; omega
theorem stkW_lt {base : Nat} (hb : 1 ≤ base) (hb2 : base ≤ 36) {l : List Nat} (hl : ∀ c ∈ l, wth c < base) : ∀ k, ∀ x ∈ stkW base (l.take k), x < B64 := by
  intro k
  induction k with
  | zero => simp [stkW]
  | succ k ih =>
    rcases Nat.lt_or_ge k l.length with h | h
    · have hx : l[k]? = some l[k] := List.getElem?_eq_getElem h
      rw [stkW_snoc base l k _ hx]
      exact stepW_lt hb hb2 (hl _ (List.getElem_mem h)) ih
    · rw [List.take_of_length_le (by omega)] at ih ⊢
      exact ih
/-- the digits of a number of one word -/
theorem c_dsticky1 (L : List Nat) (base v s : Nat) (hb : 2 ≤ base) (hb2 : base ≤ 36) (hL : ∀ c ∈ L, c < 256 ∧ wth c < base) (hl : L.length ≤ 10000000) (hv : stkW base L = [v]) (hs : s ≤ 63) (hbl : Lib.bitLen v = 64 - s) (hv1 : 9223372036854775808 ≤ v * 2 ^ s) (hv2 : v * 2 ^ s < 18446744073709551616) (w : World) :
    Calls Tryz.prog 76 #[.string (u8sG L), .int .i64 (base : Int)] w fun r w' => r = .returned (.float .f64 (wEK (1085 - (s : Int)) (rnd (v * 2 ^ s)))) ∧ Below w.heap.size w w' := by
  have hvB : v < 18446744073709551616 := by
    have := stkW_lt (base := base) (l := L) (by omega) hb2 (fun c hc => (hL c hc).2) L.length v (by rw [List.take_length, hv]; simp)
    exact this
  have hLZ := Lib.hid (fun W => s_LZ64 (v : Int) W (by omega) (by omega))
  rw [Int.toNat_natCast, hbl] at hLZ
  have hLZ : Hid (∀ W, Calls Tryz.prog 109 #[.int .u64 (v : Int)] W fun e w' => e = .returned (.int .i64 (s : Int)) ∧ w' = W) := by
    have e : (64 : Int) - ((64 - s : Nat) : Int) = (s : Int) := by omega
    rw [e] at hLZ; exact hLZ
  have hRd := Lib.hid (fun W => c_drounded (v * 2 ^ s) hv1 hv2 W)
  obtain ⟨rk1, rk2⟩ := rnd_le hv1 hv2
  have hshl : IntKind.u64.wrap ((v : Int) * 2 ^ s) = ((v * 2 ^ s : Nat) : Int) := by
    have e : (v : Int) * 2 ^ s = ((v * 2 ^ s : Nat) : Int) := by rw [Int.natCast_mul, Int.natCast_pow]; rfl
    rw [e]
    generalize v * 2 ^ s = y at *
    rw [IntKind.wrap_u64]
    omega
  have hw85 : wEK 1085 (rnd (v * 2 ^ s)) = 1085 * 4503599627370496 + rnd (v * 2 ^ s) := by
    unfold wEK
    rw [show (1085 : Int).toNat = 1085 from rfl, if_pos (by omega)]
  have hLd := Lib.hid (fun W => c_LdexpG 1085 (rnd (v * 2 ^ s)) (-(s : Int)) rk1 rk2 (by omega) (by omega) (by decide) W)
  rw [← hw85, show -(s : Int) + ((1085 : Nat) : Int) = 1085 - (s : Int) by omega] at hLd
  generalize wEK (1085 - (s : Int)) (rnd (v * 2 ^ s)) = RR at *
  generalize wEK 1085 (rnd (v * 2 ^ s)) = R0 at *
  generalize v * 2 ^ s = mm at *
  clear hw85 rk1 rk2 hbl
  obtain ⟨i0, hi0, hz0, hz1, hz2⟩ := info_parts infoU64
  have hsz : (u8sG L).size = L.length := uG_size L
  have hget := Lib.hid (fun j c (h1 : L[j]? = some c) (h2 : c < 256) h3 => uG_get L j c h1 h2 h3)
  have hwl := Lib.hid (stkW_lt (base := base) (l := L) (by omega) hb2 (fun c hc => (hL c hc).2))
  have hst := Lib.hid (stkW_snoc base L)
  have hwlen := Lib.hid (fun k => stkW_len base (L.take k))
  have hW := Lib.hid (fun (c : Nat) (hc : c < 256) W => c_dworth c hc W)
  have hM := Lib.hid (fun x (hx : x < 18446744073709551616) W => d_Mul64 x base hx (by omega) W)
  have hA := r_Add64
  have hLc := Lib.hid hL
  have hszl : (u8sG L).size ≤ 10000000 := by omega
  replace hsz := Lib.hid hsz
  generalize u8sG L = S at *
  clear hL
  go_enter Tryz.func76, Tryz.ntmps76
  go_wp2
  go_loopw [5, 19] (fun v5 v19 wr => ∃ j : Nat, j ≤ L.length ∧ v19 = .int .i64 (j : Int) ∧ wr.ownsRow w.heap.size 102 1 v5 (stkW base (L.take j)).length (u64s (stkW base (L.take j))) ∧ Below w.heap.size w wr) (fun _ v19 _ => L.length - (intOf v19).toNat)
  case atStart => exact ⟨0, Nat.zero_le _, rfl, World.ownsRow_nil _ _ _ _, Below.refl _ _⟩
  case round =>
    obtain ⟨j, hj, rfl, hown, hbel⟩ := hrel
    by_cases hjl : j < L.length
    · obtain ⟨c, hc⟩ : ∃ c, L[j]? = some c := ⟨L[j], List.getElem?_eq_getElem hjl⟩
      obtain ⟨hc1, hc2⟩ := hLc.out c (List.mem_of_getElem? hc)
      have hjs : j < S.size := by have := hsz.out; omega
      have hg := hget.out j c hc hc1 hjs
      have hjI : (j : Int) < (S.size : Int) := by omega
      have hWc := Lib.hid (fun W => hW.out c hc1 W)
      have hs := Lib.hid (hst.out j c hc)
      have hlt := Lib.hid (hwl.out j)
      have hwn := hwlen.out j
      rw [List.length_take] at hwn
      generalize stkW base (L.take j) = ws at *
      generalize wth c = d at *
      have hwn2 : ws.length ≤ 10000000 := by omega
      replace hwn := Lib.hid hwn
      have hIn : ∀ k, (inW base ws d k).length = ws.length ∨ ws.length < k := fun k => by
        rcases Nat.lt_or_ge ws.length k with h | h
        · exact .inr h
        · exact .inl (inW_len base ws d k h)
      have hIg := Lib.hid (inW_get base ws d)
      have hIs := Lib.hid (inW_set base ws d)
      have hMs := Lib.hid (fun k x (h : ws[k]? = some x) => mulA_snoc base ws k x d h)
      have hMc := Lib.hid (fun k => mulA_carry base (by omega) (ws.take k) d hc2 (fun x hx => hlt.out x (List.mem_of_mem_take hx)))
      have hstep : Hid (stepW base ws d = if (mulA base (ws.take ws.length) d).2 = 0 then inW base ws d ws.length else inW base ws d ws.length ++ [(mulA base (ws.take ws.length) d).2]) := by
        show _ = _
        unfold stepW inW
        rw [List.take_length, List.drop_length, List.append_nil]
      have hI0 : inW base ws d 0 = ws := by unfold inW; simp [mulA]
      have hM0 : (mulA base (ws.take 0) d).2 = d := by simp [mulA]
      obtain ⟨p, cap, rfl⟩ : ∃ p cap, u5 = .slice p ws.length cap := by
        rcases hown.2 with ⟨rfl, h0⟩ | ⟨g, cap, cur, rfl, _⟩
        · exact ⟨none, 0, by rw [h0]⟩
        · exact ⟨_, _, rfl⟩
      rw [← hI0] at hown
      replace hI0 := Lib.hid hI0
      replace hM0 := Lib.hid hM0
      replace hIn := Lib.hid hIn
      have hown := Lib.hid hown
      replace hbel := Lib.hid hbel
      clear hc hc1
      go_wp2_with (go_at_call 46; refine (hWc.out _).mono ?_; rintro e w' ⟨rfl, rfl⟩)
      go_loopw [7, 29] (fun v7 v29 wi => ∃ k : Nat, k ≤ ws.length ∧ v29 = .int .i64 (k : Int) ∧ v7 = .int .u64 ((mulA base (ws.take k) d).2 : Int) ∧ wi.ownsRow w.heap.size 102 1 (.slice p ws.length cap) ws.length (u64s (inW base ws d k)) ∧ Below w.heap.size w wi) (fun _ v29 _ => ws.length - (intOf v29).toNat)
      case atStart => exact ⟨0, Nat.zero_le _, rfl, by rw [hM0.out], by rw [hI0.out] at hown ⊢; exact hown.out, hbel.out⟩
      case round =>
        obtain ⟨k, hk, rfl, rfl, hown, hbel⟩ := hrel
        by_cases hkl : k < ws.length
        · obtain ⟨x, hx⟩ : ∃ x, ws[k]? = some x := ⟨ws[k], List.getElem?_eq_getElem hkl⟩
          have hxB : x < 18446744073709551616 := hlt.out x (List.mem_of_getElem? hx)
          have hset := Lib.hid (hIs.out k x hx)
          have hms := Lib.hid (hMs.out k x hx)
          have hmc := hMc.out k
          have hIgk := hIg.out k hkl
          rw [hx] at hIgk
          obtain ⟨g, cap2, e1, hr⟩ := hown.form (by omega)
          injection e1 with e1 _ e2
          subst e1 e2
          have hcell := World.ownsRow.cells hown (g := g) rfl k (.int .u64 (x : Int)) (by simp [u64s, hIgk])
          rw [add_zero_addr] at hcell
          have hfz := World.ownsRow.frozenAt hown k
          obtain ⟨hown2, hgr⟩ := World.ownsRow.stored hown k (.int .u64 (((x * base + (mulA base (ws.take k) d).2) % B64 : Nat) : Int))
          rw [u64s_set, hset.out] at hown2
          have hbel2 : Below w.heap.size w (wr.setCell ⟨g, k, none⟩ (.int .u64 (((x * base + (mulA base (ws.take k) d).2) % B64 : Nat) : Int))) := hbel.grown hgr hbel.size (own_base hown)
          have hms2 : (mulA base (ws.take (k + 1)) d).2 = (x * base + (mulA base (ws.take k) d).2) / B64 := by rw [hms.out]
          rw [show B64 = 18446744073709551616 from rfl] at hms2 hown2 hbel2
          have hMx := Lib.hid (fun W => hM.out x hxB W)
          generalize (mulA base (ws.take k) d).2 = cr at *
          have hAx := Lib.hid (hA (x * base % 18446744073709551616) cr)
          have hyb : x * base ≤ 18446744073709551615 * 36 := Nat.mul_le_mul (by omega) hb2
          have q0 : (x * base % 18446744073709551616 + cr) % 18446744073709551616 = (x * base + cr) % 18446744073709551616 := by omega
          have q1 : x * base / 18446744073709551616 + (x * base % 18446744073709551616 + cr) / 18446744073709551616 = (x * base + cr) / 18446744073709551616 := by omega
          have q2 : x * base / 18446744073709551616 + (x * base % 18446744073709551616 + cr) / 18446744073709551616 < 100 := by omega
          rw [← q0] at hown2 hbel2
          rw [← q1] at hms2
          generalize x * base / 18446744073709551616 = y1 at *
          generalize x * base % 18446744073709551616 = y0 at *
          generalize (y0 + cr) % 18446744073709551616 = z0 at *
          generalize (y0 + cr) / 18446744073709551616 = z1 at *
          have hAx := hAx.out
          have hkI : (k : Int) < (ws.length : Int) := by omega
          replace hown2 := Lib.hid hown2
          replace hms2 := Lib.hid hms2
          clear q0 q1 hyb hown hgr hms hset hx hIgk hxB hmc hA hr
          go_wp2_with (go_at_call 107; refine (hMx.out _).mono ?_; rintro e w' ⟨rfl, rfl⟩)
          exact ⟨⟨k + 1, by omega, by go_num, by rw [hms2.out, Int.natCast_add], hown2.out, hbel2⟩, by simp [intOf]; omega⟩
        · obtain rfl : k = ws.length := by omega
          have hst2 := hs.out.trans hstep.out
          have hcr := hMc.out ws.length
          clear hstep hs
          have hkI : ¬ ((ws.length : Nat) : Int) < (ws.length : Int) := by omega
          have hlen := inW_len base ws d ws.length (Nat.le_refl _)
          generalize (mulA base (ws.take ws.length) d).2 = cr at *
          generalize inW base ws d ws.length = vs at *
          clear hIg hIs hMs hMc hA hI0 hM0 hIn
          by_cases h0 : cr = 0
          · rw [if_pos h0] at hst2
            subst h0
            rw [← hlen, ← hst2] at hown
            rw [← hlen, ← hst2]
            replace hown := Lib.hid hown
            clear hst2 hlen
            have hkI2 : ¬ ((stkW base (L.take (j + 1))).length : Int) < ((stkW base (L.take (j + 1))).length : Int) := by omega
            go_wp2_with fail
            go_roundw
            case rel => exact ⟨j + 1, by omega, by go_num, hown.out, hbel⟩
            case measure => simp [intOf]; omega
          · rw [if_neg h0] at hst2
            have hcr0 : 0 < cr := by omega
            have hcB : u64s vs ++ [.int .u64 (cr : Int)] = u64s (stkW base (L.take (j + 1))) := by rw [hst2]; simp [u64s]
            have hsl : (stkW base (L.take (j + 1))).length = ws.length + 1 := by rw [hst2]; simp [hlen]
            replace hcB := Lib.hid hcB
            replace hsl := Lib.hid hsl
            clear hst2 h0 hlen
            go_wp2_with (at_builtin; refine wpList_append_lies _ (by rfl) _ _ _ (by rfl) w.heap.size 102 i0 _ 1 8 Tryz.underlying121 hi0 hz0 hz1 hz2 rfl (by omega) (.slice p ws.length cap) ws.length (u64s vs) (by rfl) (hown.alloc _) ⟨wr.heap.size, 0, none⟩ 1 1 [.int .u64 (cr : Int)] (by rfl) (by rfl) (World.news_of_block (cs := #[.int .u64 (cr : Int)]) (t := 102) (fr := (0, 0)) (by exact heap_alloc_new wr _)) (by simp [Value.oneCell']) (by omega) (by unfold maxLen; omega) (by omega) (by have := hbel.size; simp; omega) (wr.heap.size + 1) (by simp) ?_; intro gg cap2 w2 hown2 hgrow hat hlt2)
            have hown3 : w2.ownsRow w.heap.size 102 1 (.slice (some ⟨gg, 0, none⟩) (ws.length + 1) cap2) (stkW base (L.take (j + 1))).length (u64s (stkW base (L.take (j + 1)))) := by
              rw [← hcB.out, hsl.out]; exact hown2
            have hbel2 : Below w.heap.size w w2 := (hbel.alloc hbel.size _).grown hgrow (by have := hbel.size; simp; omega) (own_base hown)
            clear hown2 hgrow
            go_roundw
            case rel => exact ⟨j + 1, by omega, by go_num, hown3, hbel2⟩
            case measure => simp [intOf]; omega
    · obtain rfl : j = L.length := by omega
      rw [List.take_length, hv] at hown
      have hjI : ¬ (L.length : Int) < (S.size : Int) := by have := hsz.out; omega
      obtain ⟨g, cap, rfl, hr⟩ := hown.form (by simp)
      have hcell := World.ownsRow.cells hown (g := g) rfl 0 (.int .u64 (v : Int)) rfl
      rw [add_zero_addr] at hcell
      have n0 : ((mm : Int) == 0) = false := beq_eq_false_iff_ne.2 (by omega)
      clear hM hW hLc hst hwlen hwl hget hv hown hr
      go_wp2_with (go_at_call 109; refine (hLZ.out _).mono ?_; rintro e w' ⟨rfl, rfl⟩)
      go_loop [15, 16] (fun v15 v16 => v15 = .int .u64 0 ∧ v16 = .int .i64 0) (fun _ _ => 0)
      case atStart => exact ⟨rfl, rfl⟩
      case round =>
        obtain ⟨rfl, rfl⟩ := hrel
        go_wp2_with (first | (go_at_call 111; refine (hRd.out _).mono ?_; rintro e w'' ⟨rfl, rfl⟩) | (go_at_call 110; refine (hLd.out _).mono ?_; rintro e w'' ⟨rfl, rfl⟩))
        go_ret
        exact ⟨rfl, hbel⟩
end Go.Proofs.YtbakbikilbaafaaGreatDoor
namespace Go.Proofs.YtbakbikilbaafaaGreatDoor
open Go.RowKit Go.Shelf Go.Lib Go.Sort Go.Proofs
set_option linter.unusedVariables false
set_option maxHeartbeats 4000000
set_option maxRecDepth 100000

/-- v reads as units; it may be a slice of a row -/
def RdO (B : Nat) (w : World) (v : Value) (us : List Nat) : Prop :=
  ∃ b c, v = .slice b us.length c ∧ us.length ≤ c ∧ ∀ (j u : Nat), us[j]? = some u → ∃ g o, g < B ∧ b = some ⟨g, o, none⟩ ∧ w.cell? ⟨g, o + j, none⟩ = some (.int .u16 (u : Int))
theorem RdO.keep {B B' : Nat} {w w' : World} {v : Value} {us : List Nat} (h : RdO B w v us) (hb : Below B' w w') (hB : B ≤ B') : RdO B w' v us := by
  obtain ⟨b, c, h1, h0, h2⟩ := h
  refine ⟨b, c, h1, h0, fun j u hu => ?_⟩
  obtain ⟨g, o, k1, k2, k4⟩ := h2 j u hu
  exact ⟨g, o, k1, k2, by rw [hb.cell (p := ⟨g, o + j, none⟩) (by show g < B'; omega)]; exact k4⟩
theorem RdO_own {w : World} {base n : Nat} {e : TypeId} {v : Value} {us : List Nat} (h : w.ownsRow base e 1 v n (u16s us)) : RdO w.heap.size w v us := by
  have hl := h.lt
  have hc := fun g hg => World.ownsRow.cells h (g := g) hg
  have hlen : (u16s us).length = us.length := by simp [u16s]
  rcases h with ⟨hn, ⟨rfl, rfl⟩ | ⟨g, cap, cur, rfl, hb, hh, h1, h2, h3, h4⟩⟩
  · have : us = [] := List.length_eq_zero_iff.1 (by omega)
    subst this
    exact ⟨none, 0, rfl, Nat.le_refl _, fun j u hu => by simp at hu⟩
  · have hn' : n = us.length := by omega
    subst hn'
    refine ⟨_, cap, rfl, h1, ?_⟩
    intro j u hu
    have := hc g rfl j (.int .u16 (u : Int)) (by simp [u16s, hu])
    rw [add_zero_addr] at this
    exact ⟨g, 0, (hl g rfl).2, rfl, by rw [Nat.zero_add]; exact this⟩
theorem RdO.drop {B : Nat} {w : World} {p : Option Addr} {n c : Nat} {us : List Nat} (h : RdO B w (.slice p n c) us) (k : Nat) (hk : k ≤ n) : RdO B w (.slice (if c = k then p else p.map (fun x => x.add k)) (n - k) (c - k)) (us.drop k) := by
  obtain ⟨b, d, e1, e2, e3⟩ := h
  injection e1 with e1 e4 e5
  subst e1 e4 e5
  refine ⟨_, _, by rw [List.length_drop], by rw [List.length_drop]; omega, fun j u hu => ?_⟩
  rw [List.getElem?_drop] at hu
  have hj := (List.getElem?_eq_some_iff.1 hu).1
  obtain ⟨g, o, g1, rfl, g2⟩ := e3 (k + j) u hu
  refine ⟨g, o + k, g1, ?_, by rw [show o + k + j = o + (k + j) by omega]; exact g2⟩
  rw [if_neg (by omega)]
  simp [Addr.add]
theorem RdO.take {B : Nat} {w : World} {p : Option Addr} {n c : Nat} {us : List Nat} (h : RdO B w (.slice p n c) us) (k : Nat) (hk : k ≤ n) : RdO B w (.slice p k c) (us.take k) := by
  obtain ⟨b, d, e1, e2, e3⟩ := h
  injection e1 with e1 e4 e5
  subst e1 e4 e5
  have hl : (us.take k).length = k := by rw [List.length_take]; omega
  refine ⟨_, _, by rw [hl], by omega, fun j u hu => ?_⟩
  have hj : j < k := by have := (List.getElem?_eq_some_iff.1 hu).1; omega
  exact e3 j u (by rw [List.getElem?_take, if_pos hj] at hu; exact hu)
theorem RdO.form {B : Nat} {w : World} {v : Value} {us : List Nat} (h : RdO B w v us) : ∃ p c, v = .slice p us.length c := by
  obtain ⟨b, c, h1, _, _⟩ := h
  exact ⟨b, c, h1⟩
theorem unitsN_get (s : ByteArray) (n i : Nat) (h : i < n) : (unitsN s n)[i]? = some (unitAt s i) := by
  induction n with
  | zero => omega
  | succ n ih =>
    unfold unitsN
    rcases Nat.lt_or_ge i n with h1 | h1
    · rw [List.getElem?_append_left (by rw [unitsN_len]; exact h1)]; exact ih h1
    · obtain rfl : i = n := by omega
      rw [List.getElem?_append_right (by rw [unitsN_len]; exact Nat.le_refl _), unitsN_len]; simp
theorem unitsN_mem (s : ByteArray) (n : Nat) : ∀ u ∈ unitsN s n, u < 65536 := fun u hu => by
  obtain ⟨i, hi⟩ := List.mem_iff_getElem?.1 hu
  have hl := (List.getElem?_eq_some_iff.1 hi).1
  rw [unitsN_len] at hl
  rw [unitsN_get s n i hl] at hi
  injection hi with hi
  rw [← hi]; exact unitAt_lt s i
theorem byteU_unit (s : ByteArray) (k : Nat) (h : 2 * k + 1 < s.size) : byteU (unitAt s k) = [s.data.toList[2 * k]'(by simpa using (by omega : 2 * k < s.size)), s.data.toList[2 * k + 1]'(by simpa using h)] := by
  have h1 : 2 * k < s.data.toList.length := by simpa using (by omega : 2 * k < s.size)
  have h2 : 2 * k + 1 < s.data.toList.length := by simpa using h
  have e1 : ub s (2 * k) = s.data.toList[2 * k].toNat := by unfold ub; rw [List.getD_eq_getElem?_getD, List.getElem?_eq_getElem h1]; rfl
  have e2 : ub s (2 * k + 1) = s.data.toList[2 * k + 1].toNat := by unfold ub; rw [List.getD_eq_getElem?_getD, List.getElem?_eq_getElem h2]; rfl
  have b1 := s.data.toList[2 * k].toNat_lt
  have b2 := s.data.toList[2 * k + 1].toNat_lt
  unfold byteU unitAt
  rw [e1, e2]
  generalize s.data.toList[2 * k] = x at *
  generalize s.data.toList[2 * k + 1] = y at *
  rw [show (x.toNat * 256 + y.toNat) / 256 = x.toNat by omega, show (x.toNat * 256 + y.toNat) % 256 = y.toNat by omega]
  simp
theorem bytesU_units (s : ByteArray) (k : Nat) (h : k ≤ s.size / 2) : bytesU (unitsN s k) = s.data.toList.take (2 * k) := by
  induction k with
  | zero => rfl
  | succ k ih =>
    have h1 : 2 * k < s.data.toList.length := by simpa using (by omega : 2 * k < s.size)
    have h2 : 2 * k + 1 < s.data.toList.length := by simpa using (by omega : 2 * k + 1 < s.size)
    have e : bytesU (unitsN s (k + 1)) = bytesU (unitsN s k) ++ byteU (unitAt s k) := by rw [show unitsN s (k + 1) = unitsN s k ++ [unitAt s k] from rfl]; unfold bytesU; simp
    rw [e, ih (by omega), byteU_unit s k (by omega), show 2 * (k + 1) = 2 * k + 1 + 1 by omega, List.take_add_one, List.take_add_one, List.getElem?_eq_getElem h1, List.getElem?_eq_getElem h2]
    simp
theorem bytesU_take2 (us : List Nat) (k : Nat) : bytesU (us.take k) = (bytesU us).take (2 * k) := by
  induction us generalizing k with
  | nil => simp [bytesU]
  | cons u us ih =>
    cases k with
    | zero => simp [bytesU]
    | succ k =>
      have e : ∀ l, bytesU (u :: l) = byteU u ++ bytesU l := fun l => by simp [bytesU]
      rw [List.take_succ_cons, e, e, ih]
      unfold byteU
      rw [show 2 * (k + 1) = 2 * k + 1 + 1 by omega]
      simp
theorem bytesU_drop2 (us : List Nat) (k : Nat) : bytesU (us.drop k) = (bytesU us).drop (2 * k) := by
  induction us generalizing k with
  | nil => simp [bytesU]
  | cons u us ih =>
    cases k with
    | zero => simp
    | succ k =>
      have e : ∀ l, bytesU (u :: l) = byteU u ++ bytesU l := fun l => by simp [bytesU]
      rw [List.drop_succ_cons, e, ih]
      unfold byteU
      rw [show 2 * (k + 1) = 2 * k + 1 + 1 by omega]
      simp
theorem text_cut (s : ByteArray) (k t : Nat) (h : t ≤ s.size / 2) : textU (((unitsN s (s.size / 2)).drop k).take (t - k)) = s.extract (2 * k) (2 * t) := by
  unfold textU
  rw [bytesU_take2, bytesU_drop2, bytesU_units s _ (Nat.le_refl _)]
  have : ∀ a b : ByteArray, a.data = b.data → a = b := fun a b h => by cases a; cases b; simp at h; rw [h]
  apply this
  rw [ByteArray.data_extract]
  apply Array.toList_inj.1
  rw [Array.toList_extract, List.toList_toArray, List.extract_eq_take_drop]
  have hl : (s.data.toList).length = s.size := by simp
  rw [List.drop_take, List.take_take]
  congr 1
  omega
end Go.Proofs.YtbakbikilbaafaaGreatDoor
namespace Go.Proofs.YtbakbikilbaafaaGreatDoor
open Go.RowKit F64 Ieee
set_option linter.unusedVariables false
set_option maxHeartbeats 4000000
set_option maxRecDepth 100000

/-- units as bytes -/
def plL (us : List Nat) : List Nat := us.map fun u => min u 127
theorem plL_take (us : List Nat) (k u : Nat) (h : us[k]? = some u) : Lib.byteCells ((plL (us.take (k + 1))).map UInt8.ofNat) = Lib.byteCells ((plL (us.take k)).map UInt8.ofNat) ++ [.int .u8 ((min u 127 : Nat) : Int)] := by
  rw [List.take_add_one, h]
  unfold plL
  simp only [Option.toList, List.map_append, List.map_cons, List.map_nil]
  rw [Lib.byteCells_append]
  congr 1
  unfold Lib.byteCells
  simp
  omega
theorem c_dplain (s : ByteArray) (hs : s.size ≤ 1099511627776) (w : World) :
    Calls Tryz.prog 36 #[.string s] w fun e w' => e = .returned (.string (u8sG (plL (unitsN s (s.size / 2))))) ∧ Below w.heap.size w w' := by
  have hU := Lib.hid (fun W => c_Units s hs W)
  have hm0 := Lib.hid (unitsN_mem s (s.size / 2))
  have hl0 := Lib.hid (unitsN_len s (s.size / 2))
  have hN : s.size / 2 ≤ 549755813888 := by omega
  have hst := Lib.hid (plL_take (unitsN s (s.size / 2)))
  have hend : Hid (u8sG (plL (unitsN s (s.size / 2))) = ⟨((plL ((unitsN s (s.size / 2)).take (s.size / 2))).map UInt8.ofNat).toArray⟩) := by
    show _ = _
    rw [List.take_of_length_le (by rw [hl0.out]; exact Nat.le_refl _)]; rfl
  have hbl : Hid (∀ k, (Lib.byteCells ((plL ((unitsN s (s.size / 2)).take k)).map UInt8.ofNat)).length ≤ 549755813888) := fun k => by
    rw [Lib.byteCells_length]
    unfold plL
    simp
    have := hl0.out
    omega
  generalize u8sG (plL (unitsN s (s.size / 2))) = R at *
  generalize unitsN s (s.size / 2) = us at *
  generalize s.size / 2 = n at *
  have hW := Lib.hid (fun bs c W h hl hB => Any.Builder_WriteByte_k lays167 bextra w.heap.size w.heap.size bs c W h hl hB)
  have hS := Lib.hid (fun l W h hB => Any.Builder_String_any_k lays169 bextra w.heap.size w.heap.size l W h hB)
  have hfr := Lib.hid (Lib.IsBuilderF.of (Lib.fresh_isBuilder 93 5 w))
  have hW0 : Hid (Below w.heap.size w (w.alloc (.cells #[.pointer none, .slice none 0 0] 93))) := (Below.refl _ w).alloc (Nat.le_refl _) _
  have hsz0 : (w.alloc (.cells #[.pointer none, .slice none 0 0] 93)).heap.size = w.heap.size + 1 := by simp
  replace hsz0 := Lib.hid hsz0
  go_enter Tryz.func36, Tryz.ntmps36
  go_wp2_with fail
  refine (hU.out _).mono ?_
  rintro e w2 ⟨v, rfl, hown, hb2⟩
  have hI2 := Lib.hid (builderF_keep hfr.out hb2)
  have hbel2 : Below w.heap.size w w2 := hW0.out.trans (hb2.mono hW0.out.size)
  have hget : ∀ k, k < n → ∃ u g, us[k]? = some u ∧ u < 65536 ∧ (∃ c, v = .slice (some ⟨g, 0, none⟩) n c ∧ n ≤ c) ∧ ∀ y, Lib.OthersKept 5 (some w.heap.size) w2 y → y.cell? ⟨g, k, none⟩ = some (.int .u16 (u : Int)) := by
    intro k hk
    have hku : k < us.length := by rw [hl0.out]; exact hk
    have hx : us[k]? = some us[k] := List.getElem?_eq_getElem hku
    have hc := fun g hg => World.ownsRow.cells hown (g := g) hg
    have hlen : (u16s us).length = us.length := by simp [u16s]
    rcases hown with ⟨hn, ⟨rfl, rfl⟩ | ⟨g, cap, cur, rfl, hbg, hh, h1, h2, h3, h4⟩⟩
    · omega
    · refine ⟨us[k], g, hx, hm0.out _ (List.getElem_mem hku), ⟨cap, rfl, by omega⟩, fun y hy => ?_⟩
      have h6 := hc g rfl k (.int .u16 (us[k] : Int)) (by simp [u16s, hx])
      rw [add_zero_addr] at h6
      have h7 := hy g _ hh (by have := hsz0.out; simp; omega) (fun c fz he => by cases he)
      rw [cell_of_row y _ _ _ _ _ h7, ← cell_of_row w2 _ _ _ _ _ hh]
      exact h6
  obtain ⟨p, c, rfl⟩ : ∃ p c, v = .slice p n c := by
    obtain ⟨p, c, h⟩ := (RdO_own hown).form
    rw [hl0.out] at h
    exact ⟨p, c, h⟩
  replace hget := Lib.hid hget
  have hB2 := hbel2.size
  clear hown hb2
  go_wp2_with fail
  go_loopw [5, 9] (fun v5 v9 wr => ∃ k : Nat, k ≤ n ∧ v9 = .int .i64 (k : Int) ∧ Lib.IsBuilderF 93 5 w.heap.size w.heap.size (Lib.byteCells ((plL (us.take k)).map UInt8.ofNat)) wr ∧ Below w.heap.size w wr ∧ Lib.OthersKept 5 (some w.heap.size) w2 wr) (fun _ v9 _ => n - (intOf v9).toNat)
  case atStart => exact ⟨0, Nat.zero_le _, rfl, hI2.out, hbel2, Lib.OthersKept.refl _ _ _⟩
  case round =>
    obtain ⟨k, hk, rfl, hI, hb, ho⟩ := hrel
    rcases Nat.lt_or_ge k n with hkn | hkn
    · obtain ⟨u, g, hu, hu2, ⟨c1, e1, hc1⟩, hy⟩ := hget.out k hkn
      injection e1 with e1 _ e2
      subst e1 e2
      have d1 := hy wr ho
      have hs2 := Lib.hid (hst.out k u hu)
      have hlb := hbl.out k
      have hWk := Lib.hid (hW.out _ ((min u 127 : Nat) : Int) wr hI (by omega) hb.size)
      have hmin : min (u : Int) 127 = ((min u 127 : Nat) : Int) := by omega
      have hm8 : min u 127 ≤ 127 := Nat.min_le_right _ _
      clear hu hy hlb hI
      generalize hmu : min u 127 = mu at *
      clear hmu
      go_wp2_with fail
      refine hWk.out.mono ?_
      rintro e w3 ⟨rfl, h1, b1, k1⟩
      have hb3 := hb.trans (b1.mono (Nat.le_refl _))
      have ho3 := ho.trans k1
      go_wp2_with fail
      go_roundw
      case rel => exact ⟨k + 1, by omega, by go_num, by rw [hs2.out]; exact .inr h1, hb3, ho3⟩
      case measure => simp [intOf]; omega
    · obtain rfl : k = n := by omega
      have hSk := Lib.hid (hS.out _ wr hI hb.size)
      rw [← hend.out] at hSk
      clear hI
      go_wp2_with fail
      refine hSk.out.mono ?_
      rintro e w3 ⟨rfl, _, b1, _⟩
      go_wp2_with fail
      go_ret
      exact ⟨rfl, hb.trans b1⟩
/-- digits, a point, digits; an exponent -/
def decM (L : List Nat) (n : Nat) : Nat := if L.getD (n + 1) 0 = 43 ∨ L.getD (n + 1) 0 = 45 then n + 2 else n + 1
def decE (L : List Nat) (n : Nat) : Nat := if L.getD n 0 ||| 32 = 101 then (if 0 < runL 10 (L.drop (decM L n)) then decM L n + runL 10 (L.drop (decM L n)) else n) else n
def decN (L : List Nat) : Nat :=
  if L.getD (runL 10 L) 0 = 46 then (if runL 10 L + runL 10 (L.drop (runL 10 L + 1)) = 0 then 0 else decE L (runL 10 L + 1 + runL 10 (L.drop (runL 10 L + 1))))
  else if runL 10 L = 0 then 0 else decE L (runL 10 L)
theorem getD_lt {L : List Nat} {i c : Nat} (h : L.getD i 0 = c) (hi : i < L.length) : L[i]? = some c := by
  rw [List.getD_eq_getElem?_getD, List.getElem?_eq_getElem hi] at h
  rw [List.getElem?_eq_getElem hi]
  simpa using h
theorem getD_ge {L : List Nat} {i : Nat} (hi : L.length ≤ i) : L.getD i 0 = 0 := by
  rw [List.getD_eq_getElem?_getD, List.getElem?_eq_none hi]; rfl
theorem c_ddecimal (L : List Nat) (hL : ∀ c ∈ L, c < 256) (hl : L.length ≤ 10000000) (w : World) :
    Calls Tryz.prog 43 #[.string (u8sG L)] w fun r w' => r = .returned (.int .i64 (decN L : Int)) ∧ Below w.heap.size w w' := by
  have hsz : (u8sG L).size = L.length := uG_size L
  have hD := Lib.hid (c_ddigitsOf 10 w)
  have hRun := Lib.hid (fun at_ (hat : at_ ≤ L.length) W (h : W.cell? ⟨w.heap.size, 0, none⟩ = some (.int .i64 ((10 : Nat) : Int))) => c_drun L hL at_ 10 w.heap.size hat hl W h)
  have hget := Lib.hid (fun i c (h : L.getD i 0 = c) (hi : i < L.length) (h3 : i < (u8sG L).size) => uG_get L i c (getD_lt h hi) (hL _ (List.mem_of_getElem? (getD_lt h hi))) h3)
  have hc256 := Lib.hid (fun i (hi : i < L.length) => hL (L.getD i 0) (List.mem_of_getElem? (getD_lt rfl hi)))
  have hdef : Hid (decN L = if L.getD (runL 10 L) 0 = 46 then (if runL 10 L + runL 10 (L.drop (runL 10 L + 1)) = 0 then 0 else decE L (runL 10 L + 1 + runL 10 (L.drop (runL 10 L + 1)))) else if runL 10 L = 0 then 0 else decE L (runL 10 L)) := rfl
  have hdE : Hid (∀ n, decE L n = if L.getD n 0 ||| 32 = 101 then (if 0 < runL 10 (L.drop (decM L n)) then decM L n + runL 10 (L.drop (decM L n)) else n) else n) := fun n => rfl
  have hdM : Hid (∀ n, decM L n = if L.getD (n + 1) 0 = 43 ∨ L.getD (n + 1) 0 = 45 then n + 2 else n + 1) := fun n => rfl
  have hle := Lib.hid (fun at_ (hat : at_ ≤ L.length) => (show at_ + runL 10 (L.drop at_) ≤ L.length by have := runL_le 10 (L.drop at_); rw [List.length_drop] at this; omega))
  have hge0 := Lib.hid (fun i (hi : L.length ≤ i) => getD_ge (L := L) hi)
  have hdn := Lib.hid (fun i (hi : L.length ≤ i) => (show runL 10 (L.drop i) = 0 by rw [List.drop_eq_nil_of_le hi]; rfl))
  have hal := hle.out 0 (Nat.zero_le _)
  have hR0 := Lib.hid (fun W h => hRun.out 0 (Nat.zero_le _) W h)
  rw [List.drop_zero] at hal hR0
  have hszl : (u8sG L).size ≤ 10000000 := by omega
  replace hsz := Lib.hid hsz
  generalize u8sG L = S at *
  generalize hN : decN L = N at *
  replace hN := Lib.hid hN
  clear hL
  generalize runL 10 L = a at *
  have hR0 : Hid (∀ W, W.cell? ⟨w.heap.size, 0, none⟩ = some (.int .i64 10) → Calls Tryz.prog 38 #[.string S, .int .i64 0, DigF w.heap.size] W fun r w' => r = .returned (.int .i64 (a : Int)) ∧ Below W.heap.size W w') := hR0
  go_enter Tryz.func43, Tryz.ntmps43
  go_wp2_with fail
  refine hD.out.mono ?_
  rintro e w1 ⟨rfl, hcell, hb1⟩
  have hlt1 := lt_ofC hcell
  have hcellK := Lib.hid (fun W (hb : Below w1.heap.size w1 W) => (hb.cell (p := ⟨w.heap.size, 0, none⟩) hlt1).trans hcell)
  have hcell := Lib.hid hcell
  have hlt1 := Lib.hid hlt1
  go_wp2_with fail
  refine (hR0.out _ hcell.out).mono ?_
  rintro e w2 ⟨rfl, hb2⟩
  clear hR0
  have hsN := hsz.out
  have hb12 : Below w.heap.size w w2 := hb1.trans (hb2.mono hb1.size)
  by_cases hdot : L.getD a 0 = 46
  · have hd0 := hdef.out
    rw [if_pos hdot] at hd0
    have hal2 : a < L.length := by
      rcases Nat.lt_or_ge a L.length with h | h
      · exact h
      · rw [hge0.out a h] at hdot; omega
    have hlS0 : a < S.size := by omega
    have hg0 := hget.out a 46 hdot hal2 hlS0
    have hlI0 : (a : Int) < (S.size : Int) := by omega
    have hbl2 := hle.out (a + 1) (by omega)
    have hR1 : Hid (∀ W, W.cell? ⟨w.heap.size, 0, none⟩ = some (.int .i64 10) → Calls Tryz.prog 38 #[.string S, .int .i64 ((a : Int) + 1), DigF w.heap.size] W fun r w' => r = .returned (.int .i64 (runL 10 (L.drop (a + 1)) : Int)) ∧ Below W.heap.size W w') := fun W h => hRun.out (a + 1) (by omega) W h
    generalize runL 10 (L.drop (a + 1)) = b at *
    have hcK1 := Lib.hid (hcellK.out _ hb2)
    obtain ⟨n, hn⟩ : ∃ n, a + 1 + b = n := ⟨_, rfl⟩
    rw [hn] at hd0 hbl2
    have hnI : (a : Int) + (1 + (b : Int)) = (n : Int) := by omega
    clear hdot hn
    replace hsN := Lib.hid hsN
    go_wp2_with fail
    refine (hR1.out _ hcK1.out).mono ?_
    rintro e w3 ⟨rfl, hb3⟩
    have hb23 : Below w1.heap.size w1 w3 := hb2.trans (hb3.mono hb2.size)
    have hb13 : Below w.heap.size w w3 := hb12.trans (hb3.mono hb12.size)
    clear hb1 hb2 hb3 hb12 hR1
    have hsN := hsN.out
    by_cases hz : a + b = 0
    · rw [if_pos hz] at hd0
      have hfin := Lib.hid hd0
      have hq : ((a : Int) + (b : Int) == 0) = true := by simp; omega
      clear hsN hd0 hz
      go_wp2_with fail
      go_ret
      exact ⟨by rw [hfin.out]; rfl, hb13⟩
    · rw [if_neg hz] at hd0
      have hq : ((a : Int) + (b : Int) == 0) = false := beq_eq_false_iff_ne.2 (by omega)
      have hnd := Lib.hid hd0
      clear hd0 hz
      have hsE := hdE.out n
      by_cases hend : n < L.length
      · have hc2 := hc256.out n hend
        have hlS : n < S.size := by omega
        have hg := hget.out n _ rfl hend hlS
        have hor := or8 _ hc2
        have hlI : (n : Int) < (S.size : Int) := by omega
        have hsM := hdM.out n
        by_cases hE : L.getD n 0 ||| 32 = 101
        · rw [if_pos hE] at hsE
          rw [hE] at hor
          generalize L.getD n 0 = c at *
          have hor : bits BinOp.or IntKind.u8 (c : Int) 32 = 101 := hor
          clear hE
          by_cases hend2 : n + 1 < L.length
          · have hc3 := hc256.out (n + 1) hend2
            have hlS2 : n + 1 < S.size := by omega
            have hg2 := hget.out (n + 1) _ rfl hend2 hlS2
            have hlI2 : (n : Int) + 1 < (S.size : Int) := by omega
            have hnI2 : ((n : Int) + 1).toNat = n + 1 := by omega
            by_cases h43 : L.getD (n + 1) 0 = 43
            · rw [if_pos (Or.inl h43)] at hsM
              rw [hsM] at hsE
              rw [h43] at hg2 hc3
              clear h43
              have hkk := hle.out (n + 2) (by omega)
              have hRk : Hid (∀ W, W.cell? ⟨w.heap.size, 0, none⟩ = some (.int .i64 10) → Calls Tryz.prog 38 #[.string S, .int .i64 ((n : Int) + 1 + 1), DigF w.heap.size] W fun r w' => r = .returned (.int .i64 (runL 10 (L.drop (n + 2)) : Int)) ∧ Below W.heap.size W w') := fun W h => hRun.out (n + 2) (by omega) W h
              generalize runL 10 (L.drop (n + 2)) = k at *
              have hcK := Lib.hid (hcellK.out _ hb23)
              by_cases hk : 0 < k
              · rw [if_pos hk] at hsE
                have hfin := Lib.hid (hnd.out.trans hsE)
                clear hsE hsM hc2 hc3 hend hend2 hsN
                go_wp2_with fail
                refine (hRk.out _ hcK.out).mono ?_
                rintro e w9 ⟨rfl, hb9⟩
                have hbz := (hb13).trans (hb9.mono (hb13).size)
                go_wp2_with fail
                go_ret
                exact ⟨by rw [hfin.out]; rfl, hbz⟩
              · rw [if_neg hk] at hsE
                obtain rfl : k = 0 := by omega
                have hfin := Lib.hid (hnd.out.trans hsE)
                clear hsE hsM hc2 hc3 hend hend2 hsN hk
                go_wp2_with fail
                refine (hRk.out _ hcK.out).mono ?_
                rintro e w9 ⟨rfl, hb9⟩
                have hbz := (hb13).trans (hb9.mono (hb13).size)
                go_wp2_with fail
                go_ret
                exact ⟨by rw [hfin.out]; rfl, hbz⟩
            by_cases h45 : L.getD (n + 1) 0 = 45
            · rw [if_pos (Or.inr h45)] at hsM
              rw [hsM] at hsE
              rw [h45] at hg2 hc3
              clear h45 h43
              have hkk := hle.out (n + 2) (by omega)
              have hRk : Hid (∀ W, W.cell? ⟨w.heap.size, 0, none⟩ = some (.int .i64 10) → Calls Tryz.prog 38 #[.string S, .int .i64 ((n : Int) + 1 + 1), DigF w.heap.size] W fun r w' => r = .returned (.int .i64 (runL 10 (L.drop (n + 2)) : Int)) ∧ Below W.heap.size W w') := fun W h => hRun.out (n + 2) (by omega) W h
              generalize runL 10 (L.drop (n + 2)) = k at *
              have hcK := Lib.hid (hcellK.out _ hb23)
              by_cases hk : 0 < k
              · rw [if_pos hk] at hsE
                have hfin := Lib.hid (hnd.out.trans hsE)
                clear hsE hsM hc2 hc3 hend hend2 hsN
                go_wp2_with fail
                refine (hRk.out _ hcK.out).mono ?_
                rintro e w9 ⟨rfl, hb9⟩
                have hbz := (hb13).trans (hb9.mono (hb13).size)
                go_wp2_with fail
                go_ret
                exact ⟨by rw [hfin.out]; rfl, hbz⟩
              · rw [if_neg hk] at hsE
                obtain rfl : k = 0 := by omega
                have hfin := Lib.hid (hnd.out.trans hsE)
                clear hsE hsM hc2 hc3 hend hend2 hsN hk
                go_wp2_with fail
                refine (hRk.out _ hcK.out).mono ?_
                rintro e w9 ⟨rfl, hb9⟩
                have hbz := (hb13).trans (hb9.mono (hb13).size)
                go_wp2_with fail
                go_ret
                exact ⟨by rw [hfin.out]; rfl, hbz⟩
            rw [if_neg (by omega)] at hsM
            rw [hsM] at hsE
            generalize L.getD (n + 1) 0 = d at *
            have n43 : ((d : Int) == 43) = false := beq_eq_false_iff_ne.2 (by omega)
            have n45 : ((d : Int) == 45) = false := beq_eq_false_iff_ne.2 (by omega)
            clear h43 h45
            have hkk := hle.out (n + 1) (by omega)
            have hRk : Hid (∀ W, W.cell? ⟨w.heap.size, 0, none⟩ = some (.int .i64 10) → Calls Tryz.prog 38 #[.string S, .int .i64 ((n : Int) + 1), DigF w.heap.size] W fun r w' => r = .returned (.int .i64 (runL 10 (L.drop (n + 1)) : Int)) ∧ Below W.heap.size W w') := fun W h => hRun.out (n + 1) (by omega) W h
            generalize runL 10 (L.drop (n + 1)) = k at *
            have hcK := Lib.hid (hcellK.out _ hb23)
            by_cases hk : 0 < k
            · rw [if_pos hk] at hsE
              have hfin := Lib.hid (hnd.out.trans hsE)
              clear hsE hsM hc2 hc3 hend hend2 hsN
              go_wp2_with fail
              refine (hRk.out _ hcK.out).mono ?_
              rintro e w9 ⟨rfl, hb9⟩
              have hbz := (hb13).trans (hb9.mono (hb13).size)
              go_wp2_with fail
              go_ret
              exact ⟨by rw [hfin.out]; rfl, hbz⟩
            · rw [if_neg hk] at hsE
              obtain rfl : k = 0 := by omega
              have hfin := Lib.hid (hnd.out.trans hsE)
              clear hsE hsM hc2 hc3 hend hend2 hsN hk
              go_wp2_with fail
              refine (hRk.out _ hcK.out).mono ?_
              rintro e w9 ⟨rfl, hb9⟩
              have hbz := (hb13).trans (hb9.mono (hb13).size)
              go_wp2_with fail
              go_ret
              exact ⟨by rw [hfin.out]; rfl, hbz⟩
          · have hz0 := hge0.out (n + 1) (by omega)
            rw [hz0, if_neg (by decide)] at hsM
            rw [hsM, hdn.out (n + 1) (by omega), if_neg (by decide)] at hsE
            have hlI2 : ¬ (n : Int) + 1 < (S.size : Int) := by omega
            have hfin := Lib.hid (hnd.out.trans hsE)
            have hRk : Hid (∀ W, W.cell? ⟨w.heap.size, 0, none⟩ = some (.int .i64 10) → Calls Tryz.prog 38 #[.string S, .int .i64 ((n : Int) + 1), DigF w.heap.size] W fun r w' => r = .returned (.int .i64 0) ∧ Below W.heap.size W w') := fun W h => by
              have := hRun.out (n + 1) (by omega) W h
              rw [hdn.out (n + 1) (by omega)] at this
              exact this
            have hcK := Lib.hid (hcellK.out _ hb23)
            clear hsE hsM hc2 hend hend2 hz0 hsN
            go_wp2_with fail
            refine (hRk.out _ hcK.out).mono ?_
            rintro e w9 ⟨rfl, hb9⟩
            have hbz := (hb13).trans (hb9.mono (hb13).size)
            go_wp2_with fail
            go_ret
            exact ⟨by rw [hfin.out]; rfl, hbz⟩
        · rw [if_neg hE] at hsE
          have hob : L.getD n 0 ||| 32 < 256 := Nat.or_lt_two_pow (n := 8) hc2 (by decide)
          have hfin := Lib.hid (hnd.out.trans hsE)
          generalize L.getD n 0 = c at *
          generalize c ||| 32 = o at *
          have n101 : ((o : Int) == 101) = false := beq_eq_false_iff_ne.2 (by omega)
          have hbz := hb13
          clear hsE hsM hc2 hend hE hsN
          go_wp2_with fail
          go_ret
          exact ⟨by rw [hfin.out]; rfl, hbz⟩
      · rw [hge0.out n (by omega), if_neg (by decide)] at hsE
        have hlI : ¬ (n : Int) < (S.size : Int) := by omega
        have hfin := Lib.hid (hnd.out.trans hsE)
        have hbz := hb13
        clear hsE hend hsN
        go_wp2_with fail
        go_ret
        exact ⟨by rw [hfin.out]; rfl, hbz⟩
  · have hd0 := hdef.out
    rw [if_neg hdot] at hd0
    by_cases hend : a < L.length
    · have hlS0 : a < S.size := by omega
      have hg0 := hget.out a _ rfl hend hlS0
      have hlI0 : (a : Int) < (S.size : Int) := by omega
      have n46 : ((L.getD a 0 : Int) == 46) = false := beq_eq_false_iff_ne.2 (by omega)
      clear hdot
      by_cases hz : a = 0
      · rw [if_pos hz] at hd0
        have hfin := Lib.hid hd0
        generalize L.getD a 0 = c at *
        subst hz
        clear hsN hd0
        go_wp2_with fail
        go_ret
        exact ⟨by rw [hfin.out]; rfl, hb12⟩
      · rw [if_neg hz] at hd0
        have hq : ((a : Int) == 0) = false := beq_eq_false_iff_ne.2 (by omega)
        have hnd := Lib.hid hd0
        clear hd0 hz
        have hsE := hdE.out a
        have hc2 := hc256.out a hend
        have hlS : a < S.size := by omega
        have hg := hget.out a _ rfl hend hlS
        have hor := or8 _ hc2
        have hlI : (a : Int) < (S.size : Int) := by omega
        have hsM := hdM.out a
        by_cases hE : L.getD a 0 ||| 32 = 101
        · rw [if_pos hE] at hsE
          rw [hE] at hor
          generalize L.getD a 0 = c at *
          have hor : bits BinOp.or IntKind.u8 (c : Int) 32 = 101 := hor
          clear hE
          by_cases hend2 : a + 1 < L.length
          · have hc3 := hc256.out (a + 1) hend2
            have hlS2 : a + 1 < S.size := by omega
            have hg2 := hget.out (a + 1) _ rfl hend2 hlS2
            have hlI2 : (a : Int) + 1 < (S.size : Int) := by omega
            have hnI2 : ((a : Int) + 1).toNat = a + 1 := by omega
            by_cases h43 : L.getD (a + 1) 0 = 43
            · rw [if_pos (Or.inl h43)] at hsM
              rw [hsM] at hsE
              rw [h43] at hg2 hc3
              clear h43
              have hkk := hle.out (a + 2) (by omega)
              have hRk : Hid (∀ W, W.cell? ⟨w.heap.size, 0, none⟩ = some (.int .i64 10) → Calls Tryz.prog 38 #[.string S, .int .i64 ((a : Int) + 1 + 1), DigF w.heap.size] W fun r w' => r = .returned (.int .i64 (runL 10 (L.drop (a + 2)) : Int)) ∧ Below W.heap.size W w') := fun W h => hRun.out (a + 2) (by omega) W h
              generalize runL 10 (L.drop (a + 2)) = k at *
              have hcK := Lib.hid (hcellK.out _ hb2)
              by_cases hk : 0 < k
              · rw [if_pos hk] at hsE
                have hfin := Lib.hid (hnd.out.trans hsE)
                clear hsE hsM hc2 hc3 hend hend2 hsN
                go_wp2_with fail
                refine (hRk.out _ hcK.out).mono ?_
                rintro e w9 ⟨rfl, hb9⟩
                have hbz := (hb12).trans (hb9.mono (hb12).size)
                go_wp2_with fail
                go_ret
                exact ⟨by rw [hfin.out]; rfl, hbz⟩
              · rw [if_neg hk] at hsE
                obtain rfl : k = 0 := by omega
                have hfin := Lib.hid (hnd.out.trans hsE)
                clear hsE hsM hc2 hc3 hend hend2 hsN hk
                go_wp2_with fail
                refine (hRk.out _ hcK.out).mono ?_
                rintro e w9 ⟨rfl, hb9⟩
                have hbz := (hb12).trans (hb9.mono (hb12).size)
                go_wp2_with fail
                go_ret
                exact ⟨by rw [hfin.out]; rfl, hbz⟩
            by_cases h45 : L.getD (a + 1) 0 = 45
            · rw [if_pos (Or.inr h45)] at hsM
              rw [hsM] at hsE
              rw [h45] at hg2 hc3
              clear h45 h43
              have hkk := hle.out (a + 2) (by omega)
              have hRk : Hid (∀ W, W.cell? ⟨w.heap.size, 0, none⟩ = some (.int .i64 10) → Calls Tryz.prog 38 #[.string S, .int .i64 ((a : Int) + 1 + 1), DigF w.heap.size] W fun r w' => r = .returned (.int .i64 (runL 10 (L.drop (a + 2)) : Int)) ∧ Below W.heap.size W w') := fun W h => hRun.out (a + 2) (by omega) W h
              generalize runL 10 (L.drop (a + 2)) = k at *
              have hcK := Lib.hid (hcellK.out _ hb2)
              by_cases hk : 0 < k
              · rw [if_pos hk] at hsE
                have hfin := Lib.hid (hnd.out.trans hsE)
                clear hsE hsM hc2 hc3 hend hend2 hsN
                go_wp2_with fail
                refine (hRk.out _ hcK.out).mono ?_
                rintro e w9 ⟨rfl, hb9⟩
                have hbz := (hb12).trans (hb9.mono (hb12).size)
                go_wp2_with fail
                go_ret
                exact ⟨by rw [hfin.out]; rfl, hbz⟩
              · rw [if_neg hk] at hsE
                obtain rfl : k = 0 := by omega
                have hfin := Lib.hid (hnd.out.trans hsE)
                clear hsE hsM hc2 hc3 hend hend2 hsN hk
                go_wp2_with fail
                refine (hRk.out _ hcK.out).mono ?_
                rintro e w9 ⟨rfl, hb9⟩
                have hbz := (hb12).trans (hb9.mono (hb12).size)
                go_wp2_with fail
                go_ret
                exact ⟨by rw [hfin.out]; rfl, hbz⟩
            rw [if_neg (by omega)] at hsM
            rw [hsM] at hsE
            generalize L.getD (a + 1) 0 = d at *
            have n43 : ((d : Int) == 43) = false := beq_eq_false_iff_ne.2 (by omega)
            have n45 : ((d : Int) == 45) = false := beq_eq_false_iff_ne.2 (by omega)
            clear h43 h45
            have hkk := hle.out (a + 1) (by omega)
            have hRk : Hid (∀ W, W.cell? ⟨w.heap.size, 0, none⟩ = some (.int .i64 10) → Calls Tryz.prog 38 #[.string S, .int .i64 ((a : Int) + 1), DigF w.heap.size] W fun r w' => r = .returned (.int .i64 (runL 10 (L.drop (a + 1)) : Int)) ∧ Below W.heap.size W w') := fun W h => hRun.out (a + 1) (by omega) W h
            generalize runL 10 (L.drop (a + 1)) = k at *
            have hcK := Lib.hid (hcellK.out _ hb2)
            by_cases hk : 0 < k
            · rw [if_pos hk] at hsE
              have hfin := Lib.hid (hnd.out.trans hsE)
              clear hsE hsM hc2 hc3 hend hend2 hsN
              go_wp2_with fail
              refine (hRk.out _ hcK.out).mono ?_
              rintro e w9 ⟨rfl, hb9⟩
              have hbz := (hb12).trans (hb9.mono (hb12).size)
              go_wp2_with fail
              go_ret
              exact ⟨by rw [hfin.out]; rfl, hbz⟩
            · rw [if_neg hk] at hsE
              obtain rfl : k = 0 := by omega
              have hfin := Lib.hid (hnd.out.trans hsE)
              clear hsE hsM hc2 hc3 hend hend2 hsN hk
              go_wp2_with fail
              refine (hRk.out _ hcK.out).mono ?_
              rintro e w9 ⟨rfl, hb9⟩
              have hbz := (hb12).trans (hb9.mono (hb12).size)
              go_wp2_with fail
              go_ret
              exact ⟨by rw [hfin.out]; rfl, hbz⟩
          · have hz0 := hge0.out (a + 1) (by omega)
            rw [hz0, if_neg (by decide)] at hsM
            rw [hsM, hdn.out (a + 1) (by omega), if_neg (by decide)] at hsE
            have hlI2 : ¬ (a : Int) + 1 < (S.size : Int) := by omega
            have hfin := Lib.hid (hnd.out.trans hsE)
            have hRk : Hid (∀ W, W.cell? ⟨w.heap.size, 0, none⟩ = some (.int .i64 10) → Calls Tryz.prog 38 #[.string S, .int .i64 ((a : Int) + 1), DigF w.heap.size] W fun r w' => r = .returned (.int .i64 0) ∧ Below W.heap.size W w') := fun W h => by
              have := hRun.out (a + 1) (by omega) W h
              rw [hdn.out (a + 1) (by omega)] at this
              exact this
            have hcK := Lib.hid (hcellK.out _ hb2)
            clear hsE hsM hc2 hend hend2 hz0 hsN
            go_wp2_with fail
            refine (hRk.out _ hcK.out).mono ?_
            rintro e w9 ⟨rfl, hb9⟩
            have hbz := (hb12).trans (hb9.mono (hb12).size)
            go_wp2_with fail
            go_ret
            exact ⟨by rw [hfin.out]; rfl, hbz⟩
        · rw [if_neg hE] at hsE
          have hob : L.getD a 0 ||| 32 < 256 := Nat.or_lt_two_pow (n := 8) hc2 (by decide)
          have hfin := Lib.hid (hnd.out.trans hsE)
          generalize L.getD a 0 = c at *
          generalize c ||| 32 = o at *
          have n101 : ((o : Int) == 101) = false := beq_eq_false_iff_ne.2 (by omega)
          have hbz := hb12
          clear hsE hsM hc2 hend hE hsN
          go_wp2_with fail
          go_ret
          exact ⟨by rw [hfin.out]; rfl, hbz⟩
    · have hlI0 : ¬ (a : Int) < (S.size : Int) := by omega
      have hz0 := hge0.out a (by omega)
      have hsE := hdE.out a
      rw [hz0, if_neg (by decide)] at hsE
      rw [hsE] at hd0
      have hd1 : N = a := by
        rw [hd0]; split
        · omega
        · rfl
      have hfin := Lib.hid hd1
      clear hd0 hd1 hsE hz0 hdot hend hsN
      by_cases hz : a = 0
      · subst hz
        go_wp2_with fail
        go_ret
        exact ⟨by rw [hfin.out]; rfl, hb12⟩
      · have hq : ((a : Int) == 0) = false := beq_eq_false_iff_ne.2 (by omega)
        clear hz
        go_wp2_with fail
        go_ret
        exact ⟨by rw [hfin.out]; rfl, hb12⟩
end Go.Proofs.YtbakbikilbaafaaGreatDoor
namespace Go.Proofs.YtbakbikilbaafaaGreatDoor
open Go.RowKit F64 Ieee
set_option linter.unusedVariables false
set_option maxHeartbeats 4000000
set_option maxRecDepth 100000

theorem c_dexact10 (S : ByteArray) (v : Nat) (w : World) (hP : Calls Tryz.prog 75 #[.string S, .int .i64 64] w fun r w' => PfR v r ∧ Below w.heap.size w w') :
    Calls Tryz.prog 40 #[.string S, .int .i64 10] w fun r w' => r = .returned (.float .f64 v) ∧ Below w.heap.size w w' := by
  replace hP := Lib.hid hP
  go_enter Tryz.func40, Tryz.ntmps40
  go_wp2_with fail
  refine hP.out.mono ?_
  rintro e w1 ⟨⟨er, rfl⟩, hb⟩
  go_wp2_with fail
  go_ret
  exact ⟨rfl, hb⟩
theorem c_dexactS (S : ByteArray) (base v : Nat) (hb : base ≠ 10) (hb2 : base ≤ 36) (w : World) (hP : Calls Tryz.prog 76 #[.string S, .int .i64 (base : Int)] w fun r w' => r = .returned (.float .f64 v) ∧ Below w.heap.size w w') :
    Calls Tryz.prog 40 #[.string S, .int .i64 (base : Int)] w fun r w' => r = .returned (.float .f64 v) ∧ Below w.heap.size w w' := by
  replace hP := Lib.hid hP
  have n1 : ((base : Int) == 10) = false := beq_eq_false_iff_ne.2 (by omega)
  clear hb
  go_enter Tryz.func40, Tryz.ntmps40
  go_wp2_with fail
  refine hP.out.mono ?_
  rintro e w1 ⟨rfl, hb⟩
  go_wp2_with fail
  go_ret
  exact ⟨rfl, hb⟩
/-- a text of 0x, 0o, 0b and digits is read -/
theorem c_dReadH (s : ByteArray) (k t : Nat) (L : List Nat) (base v : Nat) (hs : s.size ≤ 1099511627776) (hF : FrA (blkS s) (s.size / 2) k) (hT : BkA (blkS s) k (s.size / 2) t)
    (hLe : plL (unitsN (s.extract (2 * k) (2 * t)) ((s.extract (2 * k) (2 * t)).size / 2)) = L) (hL : ∀ c ∈ L, c < 256) (hl : L.length ≤ 10000000) (hpre : preL L = base) (hb : 0 < base) (hb2 : base ≤ 16) (hrun : runL base (L.drop 2) = L.length - 2) (hlen : 2 < L.length) (w : World)
    (hX : ∀ W, Below w.heap.size w W → Calls Tryz.prog 40 #[.string (u8sG (L.drop 2)), .int .i64 (base : Int)] W fun r w' => r = .returned (.float .f64 v) ∧ Below W.heap.size W w') :
    Calls Tryz.prog 16 #[.string s] w fun r w' => r = .returned (.float .f64 v) ∧ Below w.heap.size w w' := by
  have hTr := Lib.hid (fun W => c_dTrim s k t hs hF hT W)
  have hsz2 : (s.extract (2 * k) (2 * t)).size ≤ 1099511627776 := by rw [ByteArray.size_extract]; omega
  have hPl := Lib.hid (fun W => c_dplain (s.extract (2 * k) (2 * t)) hsz2 W)
  rw [hLe] at hPl
  have hPr := Lib.hid (fun W => c_dprefix L hL hl W)
  rw [hpre] at hPr
  have hDo := Lib.hid (fun W => c_ddigitsOf (base : Int) W)
  have hRu := Lib.hid (fun b W h => c_drun L hL 2 base b (by omega) hl W h)
  rw [hrun] at hRu
  have hRu : Hid (∀ b W, W.cell? ⟨b, 0, none⟩ = some (.int .i64 (base : Int)) → Calls Tryz.prog 38 #[.string (u8sG L), .int .i64 2, DigF b] W fun r w' => r = .returned (.int .i64 ((L.length - 2 : Nat) : Int)) ∧ Below W.heap.size W w') := hRu
  have hex : (u8sG L).extract 2 (u8sG L).size = u8sG (L.drop 2) := by
    have h := uG_extract (L.take 2) (L.drop 2) L.length 2 (by rw [List.take_append_drop]) (by rw [List.length_take]; omega)
    rw [List.take_append_drop] at h
    rw [uG_size]; exact h
  have hsz : (u8sG L).size = L.length := uG_size L
  have hem : (u8sG L).toList.isEmpty = false := by
    rw [ByteArray.toList_eq, uG_data]
    cases L with
    | nil => simp at hlen
    | cons a l => rfl
  have hne : ((u8sG L).toList == []) = false := by
    rw [ByteArray.toList_eq, uG_data]
    cases L with
    | nil => simp at hlen
    | cons a l => rfl
  rw [show ((L.length - 2 : Nat) : Int) = (L.length : Int) - 2 by omega, ← hsz] at hRu
  have hs3 : 2 < (u8sG L).size := by omega
  have hs4 : (2 : Int) ≤ ((u8sG L).size : Int) := by omega
  have hs5 : (u8sG L).size ≤ 10000000 := by omega
  have hs6 : (0 : Int) < ((u8sG L).size : Int) - 2 := by omega
  have hbI : (0 : Int) < (base : Int) := by omega
  replace hX := Lib.hid hX
  clear hF hT hLe hL hl hpre hrun hlen hsz hsz2 hb
  generalize u8sG (L.drop 2) = D at *
  generalize u8sG L = S at *
  generalize s.extract (2 * k) (2 * t) = T at *
  go_enter Tryz.func16, Tryz.ntmps16
  go_wp2_with fail
  refine (hTr.out _).mono ?_
  rintro e w1 ⟨rfl, q1, rfl⟩
  go_wp2_with fail
  refine (hPl.out _).mono ?_
  rintro e w2 ⟨rfl, hb2'⟩
  have hbA : Below w.heap.size w w2 := (below_drewN (Below.refl _ w) q1).trans hb2'
  clear hb2'
  go_wp2_with fail
  refine (hPr.out _).mono ?_
  rintro e w3 ⟨rfl, hb3⟩
  have hbB : Below w.heap.size w w3 := hbA.trans (hb3.mono hbA.size)
  clear hb3 hbA
  go_wp2_with fail
  refine (hDo.out _).mono ?_
  rintro e w4 ⟨rfl, hc4, hb4⟩
  have hbC : Below w.heap.size w w4 := hbB.trans (hb4.mono hbB.size)
  have hRu4 := Lib.hid (hRu.out _ _ hc4)
  clear hb4 hbB hc4
  go_wp2_with fail
  refine hRu4.out.mono ?_
  rintro e w5 ⟨rfl, hb5⟩
  have hbD : Below w.heap.size w w5 := hbC.trans (hb5.mono hbC.size)
  clear hb5 hbC
  go_wp2_with fail
  refine (hX.out _ hbD).mono ?_
  rintro e w6 ⟨rfl, hb6⟩
  have hbE : Below w.heap.size w w6 := hbD.trans (hb6.mono hbD.size)
  go_wp2_with fail
  go_ret
  exact ⟨rfl, hbE⟩
end Go.Proofs.YtbakbikilbaafaaGreatDoor
