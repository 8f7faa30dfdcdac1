/-
  Contracts: The contract of the library's readFloat at 0x..p0 (printed by gen_XYE.py). The contract of the library's atofHex: the float nearest to a whole number that is given by its upper bits. The contract of ParseFloat at 0x..p0: the nearest float.
-/
import Derived.Test.YtbakbikilbaafaaGreatDoorR4
import Derived.Test.YtbakbikilbaafaaGreatDoorR13
import Derived.Test.YtbakbikilbaafaaGreatDoorR15
import Derived.LaidEqlPtr
namespace Go.Proofs.YtbakbikilbaafaaGreatDoor
open Go.RowKit F64 Ieee
set_option linter.unusedVariables false
set_option maxHeartbeats 8000000
set_option maxRecDepth 100000

/-- how far hexadecimal digits are read -/
structure HF where
  nd : Nat
  nm : Nat
  dp : Int
  m : Nat
  tr : Bool
def hS (σ : HF) (c : Nat) : HF := if c = 48 ∧ σ.nd = 0 then { σ with dp := σ.dp - 1 } else if σ.nm < 16 then ⟨σ.nd + 1, σ.nm + 1, σ.dp, σ.m * 16 + wth c, σ.tr⟩ else ⟨σ.nd + 1, σ.nm, σ.dp, σ.m, σ.tr || decide (c ≠ 48)⟩
def hF0 : HF := ⟨0, 0, 0, 0, false⟩
def hFF (l : List Nat) : HF := l.foldl hS hF0
theorem hFF_take {l : List Nat} {k c : Nat} (h : l[k]? = some c) : hFF (l.take (k + 1)) = hS (hFF (l.take k)) c := by
  rw [List.take_add_one, h]; unfold hFF; rw [Option.toList, List.foldl_append]; rfl
def IsHx (c : Nat) : Prop := 48 ≤ c ∧ c ≤ 57 ∨ 97 ≤ c ∧ c ≤ 102
theorem wth_hx {c : Nat} (h : IsHx c) : wth c < 16 ∧ (48 ≤ c ∧ c ≤ 57 → wth c = c - 48) ∧ (97 ≤ c ∧ c ≤ 102 → wth c = c - 87) := by
  have all : ∀ c : Fin 103, (48 ≤ c.val ∧ c.val ≤ 57 ∨ 97 ≤ c.val ∧ c.val ≤ 102) → wth c.val < 16 ∧ (48 ≤ c.val ∧ c.val ≤ 57 → wth c.val = c.val - 48) ∧ (97 ≤ c.val ∧ c.val ≤ 102 → wth c.val = c.val - 87) := by decide +kernel
  have hc : c < 103 := by rcases h with h | h <;> omega
  exact all ⟨c, hc⟩ h
structure HFb (σ : HF) (k : Nat) : Prop where
  nd : σ.nd ≤ k
  nm : σ.nm ≤ σ.nd
  nm16 : σ.nm ≤ 16
  m : σ.m < 16 ^ σ.nm
  dp1 : -(k : Int) ≤ σ.dp
  dp2 : σ.dp ≤ (k : Int)
theorem hFF_b (l : List Nat) (h : ∀ c ∈ l, IsHx c) : ∀ k, k ≤ l.length → HFb (hFF (l.take k)) k := by
  intro k
  induction k with
  | zero => intro _; exact (⟨Nat.le_refl _, Nat.le_refl _, by decide, by decide, by decide, by decide⟩ : HFb hF0 0)
  | succ k ih =>
    intro hk
    have hx : l[k]? = some l[k] := List.getElem?_eq_getElem (by omega)
    have hc := (wth_hx (h _ (List.mem_of_getElem? hx))).1
    rw [hFF_take hx]
    obtain ⟨b1, b2, b3, b4, b5, b6⟩ := ih (by omega)
    unfold hS
    split
    · exact ⟨by simp only; omega, b2, b3, b4, by simp only; omega, by simp only; omega⟩
    · split
      · refine ⟨by simp only; omega, by simp only; omega, by simp only; omega, ?_, by simp only; omega, by simp only; omega⟩
        simp only [Nat.pow_succ]
        omega
      · exact ⟨by simp only; omega, by simp only; omega, b3, b4, by simp only; omega, by simp only; omega⟩
def expH (σ : HF) : Int := if σ.m = 0 then 0 else (σ.nd : Int) * 4 - (σ.nm : Int) * 4
theorem lower_hx (c : Nat) (h : 97 ≤ c ∧ c ≤ 120) (w : World) : Calls Tryz.prog 183 #[.int .u8 (c : Int)] w fun r w' => r = .returned (.int .u8 (c : Int)) ∧ w = w' := by
  have := d_lower c (by omega) w
  have e : c ||| 32 = c := by
    have all : ∀ c : Fin 121, 97 ≤ c.val → c.val ||| 32 = c.val := by decide +kernel
    exact all ⟨c, by omega⟩ h.1
  rwa [e] at this
theorem c_readHex (A : List Nat) (S : ByteArray) (hsz : S.size = A.length + 4) (hA0 : ∀ c ∈ A, IsHx c) (hal : 1 ≤ A.length) (hlen : A.length ≤ 100000)
    (hget0 : ∀ (j c : Nat), (48 :: 120 :: (A ++ [112, 48]))[j]? = some c → ∀ h : j < S.size, (S[j]'h).toNat = c) (w : World) :
    Calls Tryz.prog 202 #[.string S] w fun r w' => r = .returned (.tuple #[.int .u64 ((hFF A).m : Int), .int .i64 (expH (hFF A)), .bool false, .bool (hFF A).tr, .bool true, .int .i64 (S.size : Int), .bool true]) ∧ w = w' := by
  have hA := Lib.hid hA0
  have hS0 : 0 < S.size := by omega
  have hS1 : 1 < S.size := by omega
  have hg0 := hget0 0 48 rfl hS0
  have hg1 := hget0 1 120 rfl hS1
  have hSp : A.length + 2 < S.size := by omega
  have hSz : A.length + 2 + 1 < S.size := by omega
  have hgA : Hid (∀ j c, A[j]? = some c → ∀ h : j + 2 < S.size, (S[j + 2]'h).toNat = c) := fun j c hc h => hget0 (j + 2) c (by
    rw [List.getElem?_cons_succ, List.getElem?_cons_succ, List.getElem?_append_left (List.getElem?_eq_some_iff.1 hc).1]; exact hc) h
  have hgp := hget0 (A.length + 2) 112 (by rw [List.getElem?_cons_succ, List.getElem?_cons_succ, List.getElem?_append_right (Nat.le_refl _)]; simp) hSp
  have hgz := hget0 (A.length + 2 + 1) 48 (by rw [List.getElem?_cons_succ, List.getElem?_cons_succ, List.getElem?_append_right (by omega)]; simp) hSz
  have hb := Lib.hid (hFF_b A hA0)
  have hst := Lib.hid (fun k c (h : A[k]? = some c) => hFF_take h)
  have hlx := Lib.hid (fun W => lower_hx 120 (by decide) W)
  have hlp := Lib.hid (fun W => lower_hx 112 (by decide) W)
  have hend : Hid (hFF (A.take A.length) = hFF A) := by show _ = _; rw [List.take_length]
  have hAl : Hid (∀ k, k < A.length → ∃ c, A[k]? = some c) := fun k hk => ⟨A[k], List.getElem?_eq_getElem hk⟩
  have hsI : (2 : Int) < (S.size : Int) := by omega
  have hsI1 : (1 : Int) < (S.size : Int) := by omega
  have hsI0 : (0 : Int) < (S.size : Int) := by omega
  have hsI3 : ¬ (S.size : Int) ≤ 0 := by omega
  have hsN : ¬ S.size = 0 := by omega
  have hSl : S.size ≤ 100004 := by omega
  have hsz2 := Lib.hid hsz
  replace hgp := Lib.hid hgp
  replace hgz := Lib.hid hgz
  clear hget0 hA0 hsz
  generalize A.length = n at *
  go_enter Tryz.func202, Tryz.ntmps202
  go_wp2_with fail
  go_step3
  go_wp2_with (go_at_call 183; refine (hlx.out _).mono ?_; rintro e w1 ⟨rfl, rfl⟩)
  go_step3
  go_wp2_with fail
  clear hg0 hg1
  go_loop [2, 5, 7, 9, 13, 14, 15, 16, 17] (fun v2 v5 v7 v9 v13 v14 v15 v16 v17 => ∃ k : Nat, k ≤ n ∧ (v2 = .int .u64 ((hFF (A.take k)).m : Int) ∧ v5 = .bool (hFF (A.take k)).tr ∧ v7 = .int .i64 ((k + 2 : Nat) : Int) ∧ v9 = .bool false ∧ v13 = .bool false ∧ v14 = .bool (decide (0 < k)) ∧ v15 = .int .i64 ((hFF (A.take k)).nd : Int) ∧ v16 = .int .i64 ((hFF (A.take k)).nm : Int) ∧ v17 = .int .i64 (hFF (A.take k)).dp)) (fun _ _ v7 _ _ _ _ _ _ => n + 2 - (intOf v7).toNat)
  case atStart => exact ⟨0, Nat.zero_le _, rfl, rfl, rfl, rfl, rfl, rfl, rfl, rfl, rfl⟩
  case round =>
    obtain ⟨k, hk, hu⟩ := hrel
    have hbk := hb.out k hk
    generalize hσ : hFF (A.take k) = σ at *
    obtain ⟨rfl, rfl, rfl, rfl, rfl, rfl, rfl, rfl, rfl⟩ := hu
    obtain ⟨b1, b2, b3, b5, b6, b7⟩ := hbk
    generalize hdd : decide (0 < k) = dd at *
    by_cases hlt : k < n
    · obtain ⟨c, hc⟩ := hAl.out k hlt
      have hcx := hA.out c (List.mem_of_getElem? hc)
      obtain ⟨hw1, hw2, hw3⟩ := wth_hx hcx
      have hkS : k + 2 < S.size := by have := hsz2.out; omega
      have hg := hgA.out k c hc hkS
      have hkS2 : ((k + 2 : Nat) : Int) < (S.size : Int) := by omega
      have hstk := hst.out k c hc
      rw [hσ] at hstk
      have hk1 : k + 1 ≤ n := hlt
      have hhd : Hid (decide (0 < k + 1) = true) := by show _ = _; simp
      have q95 : ((c : Int) == 95) = false := beq_eq_false_iff_ne.2 (by unfold IsHx at hcx; omega)
      have q46 : ((c : Int) == 46) = false := beq_eq_false_iff_ne.2 (by unfold IsHx at hcx; omega)
      obtain ⟨nd, nm, dp, m, tr⟩ := σ
      simp only at b1 b2 b3 b5 b6 b7
      have hs0 : hFF (A.take (k + 1)) = if c = 48 ∧ nd = 0 then ⟨nd, nm, dp - 1, m, tr⟩ else if nm < 16 then ⟨nd + 1, nm + 1, dp, m * 16 + wth c, tr⟩ else ⟨nd + 1, nm, dp, m, tr || decide (c ≠ 48)⟩ := hstk
      clear hst hstk hσ hlt hdd hb hgA hAl hA hgp hgz hend
      generalize hkk : k + 2 = q at *
      have hq : Hid (k + 1 + 2 = q + 1) := by show _ = _; omega
      have hqb : q ≤ 100010 := by have := hsz2.out; omega
      replace hkk := Lib.hid hkk
      by_cases hdig : 48 ≤ c ∧ c ≤ 57
      · rw [hw2 hdig] at hs0
        have hc1 : (48 : Int) ≤ (c : Int) := by omega
        have hc2 : (c : Int) ≤ 57 := by omega
        have w3 : IntKind.u8.wrap ((c : Int) - 48) = (c : Int) - 48 := by rw [IntKind.wrap_u8]; omega
        have w4 : IntKind.u64.wrap ((c : Int) - 48) = (c : Int) - 48 := by rw [IntKind.wrap_u64]; omega
        clear hcx hw1 hw2 hw3 hc
        by_cases hz : c = 48
        · have q48 : ((c : Int) == 48) = true := by simp; omega
          have q48n : ((c : Int) != 48) = false := by simp; omega
          by_cases hn0 : nd = 0
          · rw [if_pos ⟨hz, hn0⟩] at hs0
            have qn : ((nd : Int) == 0) = true := by simp; omega
            clear hz hn0 b5
            replace hs0 := Lib.hid hs0
            go_wp2_with fail
            go_round
            case rel => exact ⟨k + 1, hk1, by rw [hs0.out, hhd.out, hq.out]; exact ⟨by first | rfl | go_num, rfl, by go_num, rfl, rfl, rfl, by first | rfl | go_num, by first | rfl | go_num, by first | rfl | go_num⟩⟩
            case measure => have := hkk.out; simp [intOf]; omega
          · have qn : ((nd : Int) == 0) = false := beq_eq_false_iff_ne.2 (by omega)
            rw [if_neg (fun h => hn0 h.2)] at hs0
            by_cases hm16 : nm < 16
            · rw [if_pos hm16] at hs0
              have hp : 16 ^ nm ≤ 16 ^ 15 := Nat.pow_le_pow_right (by decide) (by omega)
              have hmb : m < 1152921504606846976 := Nat.lt_of_lt_of_le b5 hp
              have qm : (nm : Int) < 16 := by omega
              have w1 : IntKind.u64.wrap ((m : Int) * 16) = (m : Int) * 16 := by rw [IntKind.wrap_u64]; omega
              have w2 : IntKind.u64.wrap ((m : Int) * 16 + ((c : Int) - 48)) = ((m * 16 + (c - 48) : Nat) : Int) := by rw [IntKind.wrap_u64]; omega
              clear hp
              clear hz hn0 hm16 b5
              replace hs0 := Lib.hid hs0
              go_wp2_with fail
              go_round
              case rel => exact ⟨k + 1, hk1, by rw [hs0.out, hhd.out, hq.out]; exact ⟨by first | rfl | go_num, rfl, by go_num, rfl, rfl, rfl, by first | rfl | go_num, by first | rfl | go_num, by first | rfl | go_num⟩⟩
              case measure => have := hkk.out; simp [intOf]; omega
            · rw [if_neg hm16, show (tr || decide (c ≠ 48)) = tr by simp [hz]] at hs0
              have qm : ¬ (nm : Int) < 16 := by omega
              clear hz hn0 hm16 b5
              replace hs0 := Lib.hid hs0
              go_wp2_with fail
              go_round
              case rel => exact ⟨k + 1, hk1, by rw [hs0.out, hhd.out, hq.out]; exact ⟨by first | rfl | go_num, rfl, by go_num, rfl, rfl, rfl, by first | rfl | go_num, by first | rfl | go_num, by first | rfl | go_num⟩⟩
              case measure => have := hkk.out; simp [intOf]; omega
        · have q48 : ((c : Int) == 48) = false := beq_eq_false_iff_ne.2 (by omega)
          have q48n : ((c : Int) != 48) = true := by simp; omega
          rw [if_neg (fun h => hz h.1)] at hs0
          by_cases hm16 : nm < 16
          · rw [if_pos hm16] at hs0
            have hp : 16 ^ nm ≤ 16 ^ 15 := Nat.pow_le_pow_right (by decide) (by omega)
            have hmb : m < 1152921504606846976 := Nat.lt_of_lt_of_le b5 hp
            have qm : (nm : Int) < 16 := by omega
            have w1 : IntKind.u64.wrap ((m : Int) * 16) = (m : Int) * 16 := by rw [IntKind.wrap_u64]; omega
            have w2 : IntKind.u64.wrap ((m : Int) * 16 + ((c : Int) - 48)) = ((m * 16 + (c - 48) : Nat) : Int) := by rw [IntKind.wrap_u64]; omega
            clear hp
            clear hz hm16 b5
            replace hs0 := Lib.hid hs0
            go_wp2_with fail
            go_round
            case rel => exact ⟨k + 1, hk1, by rw [hs0.out, hhd.out, hq.out]; exact ⟨by first | rfl | go_num, rfl, by go_num, rfl, rfl, rfl, by first | rfl | go_num, by first | rfl | go_num, by first | rfl | go_num⟩⟩
            case measure => have := hkk.out; simp [intOf]; omega
          · rw [if_neg hm16, show (tr || decide (c ≠ 48)) = true by simp [hz]] at hs0
            have qm : ¬ (nm : Int) < 16 := by omega
            clear hz hm16 b5
            replace hs0 := Lib.hid hs0
            go_wp2_with fail
            go_round
            case rel => exact ⟨k + 1, hk1, by rw [hs0.out, hhd.out, hq.out]; exact ⟨by first | rfl | go_num, rfl, by go_num, rfl, rfl, rfl, by first | rfl | go_num, by first | rfl | go_num, by first | rfl | go_num⟩⟩
            case measure => have := hkk.out; simp [intOf]; omega
      · have hlet : 97 ≤ c ∧ c ≤ 102 := by unfold IsHx at hcx; omega
        rw [hw3 hlet, if_neg (fun h => by omega)] at hs0
        have hc1 : ¬ (c : Int) ≤ 57 := by omega
        have hc3 : (48 : Int) ≤ (c : Int) := by omega
        have hc4 : (97 : Int) ≤ (c : Int) := by omega
        have hc5 : (c : Int) ≤ 102 := by omega
        have hlc := Lib.hid (fun W => lower_hx c (by omega) W)
        have w3 : IntKind.u8.wrap ((c : Int) - 97) = (c : Int) - 97 := by rw [IntKind.wrap_u8]; omega
        have w5 : IntKind.u8.wrap ((c : Int) - 97 + 10) = (c : Int) - 97 + 10 := by rw [IntKind.wrap_u8]; omega
        have w4 : IntKind.u64.wrap ((c : Int) - 97 + 10) = (c : Int) - 97 + 10 := by rw [IntKind.wrap_u64]; omega
        have hz : ¬ c = 48 := by omega
        clear hcx hw1 hw2 hw3 hc hdig
        by_cases hm16 : nm < 16
        · rw [if_pos hm16] at hs0
          have hp : 16 ^ nm ≤ 16 ^ 15 := Nat.pow_le_pow_right (by decide) (by omega)
          have hmb : m < 1152921504606846976 := Nat.lt_of_lt_of_le b5 hp
          have qm : (nm : Int) < 16 := by omega
          have w1 : IntKind.u64.wrap ((m : Int) * 16) = (m : Int) * 16 := by rw [IntKind.wrap_u64]; omega
          have w2 : IntKind.u64.wrap ((m : Int) * 16 + ((c : Int) - 97 + 10)) = ((m * 16 + (c - 87) : Nat) : Int) := by rw [IntKind.wrap_u64]; omega
          clear hp
          clear hz hm16 b5 hlet
          replace hs0 := Lib.hid hs0
          go_wp2_with (go_at_call 183; refine (hlc.out _).mono ?_; rintro e w1 ⟨rfl, rfl⟩)
          go_round
          case rel => exact ⟨k + 1, hk1, by rw [hs0.out, hhd.out, hq.out]; exact ⟨by first | rfl | go_num, rfl, by go_num, rfl, rfl, rfl, by first | rfl | go_num, by first | rfl | go_num, by first | rfl | go_num⟩⟩
          case measure => have := hkk.out; simp [intOf]; omega
        · rw [if_neg hm16, show (tr || decide (c ≠ 48)) = true by simp [hz]] at hs0
          have qm : ¬ (nm : Int) < 16 := by omega
          clear hz hm16 b5 hlet
          replace hs0 := Lib.hid hs0
          go_wp2_with (go_at_call 183; refine (hlc.out _).mono ?_; rintro e w1 ⟨rfl, rfl⟩)
          go_round
          case rel => exact ⟨k + 1, hk1, by rw [hs0.out, hhd.out, hq.out]; exact ⟨by first | rfl | go_num, rfl, by go_num, rfl, rfl, rfl, by first | rfl | go_num, by first | rfl | go_num, by first | rfl | go_num⟩⟩
          case measure => have := hkk.out; simp [intOf]; omega
    · obtain rfl : k = n := by omega
      rw [hend.out] at hσ
      obtain ⟨nd, nm, dp, m, tr⟩ := σ
      simp only at b1 b2 b3 b5 b6 b7
      have hd1 : dd = true := by rw [← hdd]; simp; omega
      subst hd1
      have hsz3 := hsz2.out
      have hgp2 := hgp.out
      have hgz2 := hgz.out
      have hkS : k + 2 < S.size := by omega
      have hkS2 : ((k + 2 : Nat) : Int) < (S.size : Int) := by omega
      have hkI : ((k + 2 : Nat) : Int) + 1 < (S.size : Int) := by omega
      have hkn : (((k + 2 : Nat) : Int) + 1).toNat = k + 2 + 1 := by omega
      have hk0 : (0 : Int) ≤ ((k + 2 : Nat) : Int) + 1 := by omega
      replace hσ := Lib.hid hσ
      replace hsz3 := Lib.hid hsz3
      clear b5 hk hlt hst hdd hb hgA hAl hA hgp hgz hend
      generalize hq : k + 2 = q at *
      have hsq : Hid ((S.size : Int) = (q : Int) + 2) := by show _ = _; have := hsz3.out; omega
      replace hq := Lib.hid hq
      go_wp2_with (go_at_call 183; refine (hlp.out _).mono ?_; rintro e w1 ⟨rfl, rfl⟩)
      clear hgp2 hkS2
      go_loop [7, 9, 20] (fun v7 v9 v20 => ∃ j : Nat, j ≤ 1 ∧ v9 = .bool false ∧ v7 = .int .i64 ((q : Int) + 1 + (j : Int)) ∧ v20 = .int .i64 0) (fun v7 _ _ => q + 2 - (intOf v7).toNat)
      case atStart => exact ⟨0, by decide, rfl, by simp, rfl⟩
      case round =>
        obtain ⟨j, hj, rfl, rfl, rfl⟩ := hrel
        by_cases hj0 : j = 0
        · subst hj0
          have hqq : (q : Int) + 1 + ((0 : Nat) : Int) = (q : Int) + 1 := by omega
          rw [hqq]
          clear hqq hj
          go_wp2_with fail
          go_round
          case rel => exact ⟨1, by decide, rfl, by go_num, rfl⟩
          case measure => simp [intOf]; omega
        · obtain rfl : j = 1 := by omega
          have hqq : (q : Int) + 1 + ((1 : Nat) : Int) = (S.size : Int) := by rw [hsq.out]; omega
          rw [hqq]
          have hle : ¬ (S.size : Int) < (S.size : Int) := by omega
          clear hqq hj hj0 hkI hkn hk0 hgz2
          by_cases hm0 : m = 0
          · have hm3 : ((m : Int) != 0) = false := by simp; omega
            have hif : Hid (expH (hFF A) = 0) := by show _ = _; rw [hσ.out]; exact if_pos hm0
            clear hm0
            go_wp2_with fail
            refine bodyPost_ret (v := .tuple #[.int .u64 (m : Int), .int .i64 0, .bool false, .bool tr, .bool true, .int .i64 (S.size : Int), .bool true]) (by simp [results, Tryz.results202, go_sem]) rfl ?_
            exact ⟨by rw [hif.out, hσ.out], rfl⟩
          · have hm3 : ((m : Int) != 0) = true := by simp; omega
            have hif : Hid (expH (hFF A) = (nd : Int) * 4 - (nm : Int) * 4) := by show _ = _; rw [hσ.out]; exact if_neg hm0
            clear hm0
            go_wp2_with fail
            refine bodyPost_ret (v := .tuple #[.int .u64 (m : Int), .int .i64 ((nd : Int) * 4 - (nm : Int) * 4), .bool false, .bool tr, .bool true, .int .i64 (S.size : Int), .bool true]) (by simp [results, Tryz.results202, go_sem]) rfl ?_
            exact ⟨by rw [hif.out, hσ.out], rfl⟩
end Go.Proofs.YtbakbikilbaafaaGreatDoor
namespace Go.Proofs.YtbakbikilbaafaaGreatDoor
open Go.RowKit F64 Ieee
set_option linter.unusedVariables false
set_option maxHeartbeats 8000000
set_option maxRecDepth 100000

theorem and_3 (m : Nat) (h : m < 18446744073709551616) : bits BinOp.and IntKind.u64 (m : Int) 3 = ((m % 4 : Nat) : Int) := by
  have := bits_and_u64_nat m 3 h (by decide)
  rw [show m &&& 3 = m % 4 from Nat.and_two_pow_sub_one_eq_mod m 2] at this
  exact this
theorem or_small (r : Nat) (hr : r < 4) (b : Nat) (hb : b < 2) : bits BinOp.or IntKind.u64 (r : Int) (b : Int) = ((if r % 2 = 0 then r + b else r : Nat) : Int) := by
  have all : ∀ r : Fin 4, ∀ b : Fin 2, r.val ||| b.val = if r.val % 2 = 0 then r.val + b.val else r.val := by decide +kernel
  rw [bits_or_u64_nat _ _ (by omega) (by omega), all ⟨r, hr⟩ ⟨b, hb⟩]
/-- rounded by two bits -/
def rd2 (m : Nat) : Nat := if m % 4 = 3 ∨ m % 4 = 2 ∧ m / 4 % 2 = 1 then m / 4 + 1 else m / 4
theorem rd2_half (m : Nat) : Half (rd2 m) m (2 ^ 2) := by
  rw [show (2 : Nat) ^ 2 = 4 from rfl]
  unfold Half rd2
  split <;> omega
theorem stk_rd (m : Nat) (y z e R : Nat) : stk (y / 2 ^ z) (y % 2 ^ z * 2 ^ e + R) / 2 ||| stk (y / 2 ^ z) (y % 2 ^ z * 2 ^ e + R) % 2 = stk (y / 2 ^ (z + 1)) (y % 2 ^ (z + 1) * 2 ^ e + R) := by
  rw [stk_half _ _ (2 ^ z * 2 ^ e) (Nat.mul_pos (Nat.two_pow_pos z) (Nat.two_pow_pos e))]
  have h1 : y / 2 ^ z / 2 = y / 2 ^ (z + 1) := by rw [Nat.div_div_eq_div_mul, Nat.pow_succ]
  have h2 : y % 2 ^ (z + 1) = y / 2 ^ z % 2 * 2 ^ z + y % 2 ^ z := by
    rw [Nat.pow_succ, Nat.mod_mul]
    rw [Nat.mul_comm (2 ^ z) (y / 2 ^ z % 2)]; omega
  rw [h1, h2, Nat.add_mul]
  congr 1
  rw [Nat.mul_assoc]; omega
theorem hx_fin {N m e R a z E : Nat} (hN : N = m * 2 ^ e + R) (hR : R < 2 ^ e) (ha : 0 < a → R = 0) (hq1 : 18014398509481984 ≤ m * 2 ^ a / 2 ^ z) (hs : stk (m * 2 ^ a / 2 ^ z) (m * 2 ^ a % 2 ^ z * 2 ^ e + R) < 36028797018963968) (hE : E + a = 1076 + e + z) :
    wEK (E : Int) (rd2 (stk (m * 2 ^ a / 2 ^ z) (m * 2 ^ a % 2 ^ z * 2 ^ e + R))) = nN N := by
  have hz : 0 < 2 ^ z := Nat.two_pow_pos z
  have he : 0 < 2 ^ e := Nat.two_pow_pos e
  have hNa : N * 2 ^ a = m * 2 ^ a * 2 ^ e + R := by
    rw [hN, Nat.add_mul]
    rcases Nat.eq_zero_or_pos a with h | h
    · subst h; simp
    · rw [ha h]; simp; ac_rfl
  generalize m * 2 ^ a = y at *
  have hy := Nat.div_add_mod y (2 ^ z)
  have hyl := Nat.mod_lt y hz
  generalize hq : y / 2 ^ z = q at *
  generalize hr : y % 2 ^ z = r at *
  have hRz : r * 2 ^ e + R < 2 ^ (z + e) := by
    rw [Nat.pow_add]
    have := Nat.mul_le_mul_right (2 ^ e) (show r + 1 ≤ 2 ^ z from hyl)
    rw [Nat.add_mul, Nat.one_mul] at this
    omega
  have hsum : N * 2 ^ a = q * 2 ^ (z + e) + (r * 2 ^ e + R) := by
    rw [hNa, ← hy, Nat.pow_add, Nat.add_mul]
    rw [Nat.mul_comm (2 ^ z) q, Nat.mul_assoc]; omega
  have hH := half_stk (Nat.two_pow_pos (z + e)) hRz (by decide) (rd2_half (stk q (r * 2 ^ e + R)))
  rw [← hsum, ← Nat.pow_add] at hH
  refine nN_of hH (by omega) ?_ ?_
  · rw [hsum, Nat.pow_add]
    have : 4503599627370496 * (2 ^ (z + e) * 2 ^ 2) = 18014398509481984 * 2 ^ (z + e) := by
      rw [show (18014398509481984 : Nat) = 4503599627370496 * 2 ^ 2 from rfl]; ac_rfl
    rw [this]
    have := Nat.mul_le_mul_right (2 ^ (z + e)) hq1
    omega
  · unfold rd2; split <;> omega
theorem or_52b (K X : Nat) (hX : X < 2048) : bits BinOp.or IntKind.u64 ((K % 4503599627370496 : Nat) : Int) ((X : Int) * 4503599627370496) = ((X * 4503599627370496 + K % 4503599627370496 : Nat) : Int) := by
  have h := or_52 (K % 4503599627370496) X (Nat.mod_lt _ (by decide)) hX
  rw [Int.natCast_mul] at h
  exact h
theorem infoFI : (Tryz.prog.info? 222).map (·.size) = some 3 := by kernel_rfl
theorem ne_info {w : World} (h : LibW w) : (binOp .eql 220 (.pointer (some ⟨9, 0, none⟩)) (.pointer (some ⟨8, 0, none⟩))).run Tryz.prog w = .ok (.bool false) w := by
  obtain ⟨⟨c1, t1, h1⟩, c2, t2, h2⟩ := h.hp
  obtain ⟨j, hj, hs⟩ : ∃ j, Tryz.prog.info? 222 = some j ∧ j.size = 3 := by
    have := infoFI
    cases hx : Tryz.prog.info? 222 with
    | none => rw [hx] at this; simp at this
    | some j => rw [hx] at this; simp at this; exact ⟨j, rfl, this⟩
  exact run_eql_ptr_other w Tryz.underlying220 hj (by rw [hs]; decide) (by decide) h1 h2
theorem ne_infoN {w : World} (h : LibW w) : ∀ n, (binOp .eql 220 (.pointer (some ⟨9, 0, none⟩)) (.pointer (some ⟨8, 0, none⟩))).run Tryz.prog (w.drewN n) = .ok (.bool false) (w.drewN n) := fun n => ne_info (h.keep (below_drewN (Below.refl _ w) n))
theorem c_atofHex0 (S : ByteArray) (w : World) (hL : LibW w) :
    Calls Tryz.prog 203 #[.string S, .pointer (some ⟨9, 0, none⟩), .int .u64 0, .int .i64 0, .bool false, .bool false] w fun r w' => r = .returned (.tuple #[.float .f64 0, .nilIface]) ∧ ∃ n, w' = w.drewN n := by
  obtain ⟨f0, f1, f2⟩ := hL.fi
  have hf0 := r_ffb
  have hne := ne_infoN hL
  have k1 : bits BinOp.and IntKind.u64 0 3 = 0 := by decide
  have k2 : bits BinOp.and IntKind.u64 0 1 = 0 := by decide
  have k3 : bits BinOp.or IntKind.u64 0 0 = 0 := by decide
  have k4 : bits BinOp.and IntKind.u64 0 4503599627370495 = 0 := by decide
  have k5 : bits BinOp.and IntKind.i64 0 2047 = 0 := by decide
  replace hL := Lib.hid hL
  go_enter Tryz.func203, Tryz.ntmps203
  go_wp2_with fail
  go_quiet (fail)
  go_wp2_with fail
  go_loop [2, 3] (fun v2 v3 => v2 = .int .u64 0 ∧ v3 = .int .i64 52) (fun _ _ => 0)
  case atStart => exact ⟨rfl, rfl⟩
  case round =>
    obtain ⟨rfl, rfl⟩ := hrel
    go_wp2_with fail
    go_loop [2, 3] (fun v2 v3 => v2 = .int .u64 0 ∧ v3 = .int .i64 52) (fun _ _ => 0)
    case atStart => exact ⟨rfl, rfl⟩
    case round =>
      obtain ⟨rfl, rfl⟩ := hrel
      go_wp2_with fail
      go_loop [2, 3] (fun v2 v3 => v2 = .int .u64 0 ∧ v3 = .int .i64 52) (fun _ _ => 0)
      case atStart => exact ⟨rfl, rfl⟩
      case round =>
        obtain ⟨rfl, rfl⟩ := hrel
        go_wp2_with fail
        go_quiet (fail)
        go_wp2_with fail
        go_ret2
        exact ⟨rfl, _, rfl⟩
theorem c_atofHex (S : ByteArray) (m e R N : Nat) (tr : Bool) (hN : N = m * 2 ^ e + R) (hR : R < 2 ^ e) (htr : tr = decide (R ≠ 0)) (hm0 : 0 < m) (hm : m < 18446744073709551616) (hm2 : R ≠ 0 → 36028797018963968 ≤ m) (he : e ≤ 1000000) (w : World) (hL : LibW w) :
    Calls Tryz.prog 203 #[.string S, .pointer (some ⟨9, 0, none⟩), .int .u64 (m : Int), .int .i64 (e : Int), .bool false, .bool tr] w fun r w' => (∃ er, r = .returned (.tuple #[.float .f64 (nN N), er]) ∧ (er = .nilIface ∨ er = errR)) ∧ ∃ n, w' = w.drewN n := by
  obtain ⟨f0, f1, f2⟩ := hL.fi
  have hf0 := r_ffb
  have hne := ne_infoN hL
  have hfinL := Lib.hid (fun a z E (ha : 0 < a → R = 0) h1 h2 h3 => hx_fin (a := a) (z := z) (E := E) hN hR ha h1 h2 h3)
  generalize nN N = V at *
  have hm2' := Lib.hid hm2
  have htr' := Lib.hid htr
  replace hL := Lib.hid hL
  clear hN hR hm2 htr
  go_enter Tryz.func203, Tryz.ntmps203
  go_wp2_with fail
  go_quiet (fail)
  go_wp2_with fail
  go_loop [2, 3] (fun v2 v3 => ∃ a y : Nat, y = m * 2 ^ a ∧ y < 18446744073709551616 ∧ 0 < y ∧ (a = 0 ∨ y < 36028797018963968) ∧ v2 = .int .u64 (y : Int) ∧ v3 = .int .i64 ((e : Int) + 52 - (a : Int)) ∧ a ≤ 60) (fun v2 _ => 18446744073709551616 - (intOf v2).toNat)
  case atStart => exact ⟨0, m, by simp, hm, hm0, .inl rfl, rfl, by simp, by decide⟩
  case round =>
    obtain ⟨a, y, hy, hy64, hy0, hya, rfl, rfl, ha60⟩ := hrel
    have n0 : ((y : Int) != 0) = true := by simp; omega
    by_cases hlo : y < 18014398509481984
    · have n1 : ((y : Int) / 18014398509481984 == 0) = true := by
        have : (y : Int) / 18014398509481984 = 0 := by omega
        rw [this]; rfl
      have ha54 : a ≤ 54 := by
        rcases Nat.lt_or_ge 54 a with h | h
        · exfalso
          have h1 := Nat.pow_le_pow_right (n := 2) (by decide) (show 55 ≤ a from h)
          have h2 := Nat.mul_le_mul_left m h1
          have h3 : (2 : Nat) ^ 55 = 36028797018963968 := by decide
          rw [← hy, h3] at h2
          omega
        · exact h
      have hsh : IntKind.u64.wrap ((y : Int) * 2) = ((y * 2 : Nat) : Int) := by rw [IntKind.wrap_u64]; omega
      have hy2 : Hid (y * 2 = m * 2 ^ (a + 1)) := by show _ = _; rw [hy, Nat.pow_succ, Nat.mul_assoc]
      clear hy hya
      go_wp2_with fail
      go_round
      case rel => exact ⟨a + 1, y * 2, hy2.out, by omega, by omega, .inr (by omega), by first | rfl | go_num, by go_num, by omega⟩
      case measure => simp [intOf]; omega
    · have n1 : ((y : Int) / 18014398509481984 == 0) = false := by
        have : 1 ≤ (y : Int) / 18014398509481984 := by omega
        exact beq_eq_false_iff_ne.2 (by omega)
      have hR0 : Hid (0 < a → R = 0) := fun ha => by
        rcases Nat.eq_zero_or_pos R with h | h
        · exact h
        · exfalso
          have h1 := hm2'.out (by omega)
          have h2 := Nat.le_mul_of_pos_right m (Nat.two_pow_pos a)
          rw [← hy] at h2
          rcases hya with h3 | h3 <;> omega
      have hfy := Lib.hid (fun z E h1 h2 h3 => hfinL.out a z E hR0.out h1 h2 h3)
      rw [← hy] at hfy
      have hs0 : Hid (stk (y / 2 ^ 0) (y % 2 ^ 0 * 2 ^ e + R) = if tr then y ||| 1 else y) := by
        show _ = _
        rw [Nat.pow_zero, Nat.div_one, Nat.mod_one, Nat.zero_mul, Nat.zero_add, htr'.out]
        unfold stk
        by_cases h : R = 0
        · simp [h]
        · simp [h]
      have hst := Lib.hid (fun z => stk_rd m y z e R)
      have hsb := Lib.hid (fun z => stk_le (y / 2 ^ z) (y % 2 ^ z * 2 ^ e + R))
      have hdz : Hid (∀ z, y / 2 ^ (z + 1) = y / 2 ^ z / 2) := fun z => by rw [Nat.pow_succ, Nat.div_div_eq_div_mul]
      have hd0 : Hid (y / 2 ^ 0 = y) := by show _ = _; rw [Nat.pow_zero, Nat.div_one]
      have hor1 := or_one64 y hy64
      have hzb : Hid (∀ z, 18014398509481984 ≤ y / 2 ^ z → z ≤ 10) := fun z h => by
        rcases Nat.lt_or_ge 10 z with h1 | h1
        · exfalso
          have h2 := Nat.pow_le_pow_right (n := 2) (by decide) (show 10 ≤ z by omega)
          have h3 := (Nat.le_div_iff_mul_le (Nat.two_pow_pos z)).1 h
          have h4 := Nat.mul_le_mul_left 18014398509481984 h2
          have e : (2 : Nat) ^ 10 = 1024 := by decide
          rw [e] at h4
          omega
        · exact h1
      generalize hF : (fun z => stk (y / 2 ^ z) (y % 2 ^ z * 2 ^ e + R)) = F at *
      have hFz : ∀ z, stk (y / 2 ^ z) (y % 2 ^ z * 2 ^ e + R) = F z := fun z => by rw [← hF]
      simp only [hFz] at hfy hs0 hst hsb
      generalize hQ : (fun z => y / 2 ^ z) = Q at *
      have hQz : ∀ z, y / 2 ^ z = Q z := fun z => by rw [← hQ]
      simp only [hQz] at hfy hsb hdz hd0 hzb
      clear hF hFz hQ hQz hfinL hy hya hR0 hm2' htr'
      have hyo : y ||| 1 = y / 2 * 2 + 1 := or_one y
      have hgo : ∀ X0 : Nat, F 0 = X0 → X0 < 18446744073709551616 → True := fun _ _ _ => trivial
      clear hgo
      cases tr with
      | true =>
        rw [if_pos rfl] at hs0
        rw [hyo] at hs0 hor1
        have hx64 : y / 2 * 2 + 1 < 18446744073709551616 := by omega
        generalize y / 2 * 2 + 1 = y1 at *
        go_wp2_with fail
        go_loop [2, 3] (fun v2 v3 => ∃ z : Nat, v2 = .int .u64 (F z : Int) ∧ v3 = .int .i64 ((e : Int) + 52 - (a : Int) + (z : Int)) ∧ F z < 18446744073709551616 ∧ 18014398509481984 ≤ Q z) (fun v2 _ => (intOf v2).toNat)
        case atStart => exact ⟨0, by rw [hs0.out], by simp, by rw [hs0.out]; exact hx64, by rw [hd0.out]; omega⟩
        case round =>
          obtain ⟨z, rfl, rfl, hF64, hQ1⟩ := hrel
          have hz10 := hzb.out z hQ1
          obtain ⟨s1, s2⟩ := hsb.out z
          by_cases hbig : 36028797018963968 ≤ F z
          · have n2 : ((F z : Int) / 36028797018963968 != 0) = true := by
              have : 1 ≤ (F z : Int) / 36028797018963968 := by omega
              simp; omega
            have hF1 := Lib.hid (hst.out z)
            have hQ2 := Lib.hid (hdz.out z)
            have hsb1 := hsb.out (z + 1)
            have hand := and_u64_one (F z) hF64
            have hor := bits_or_u64_nat (F z / 2) (F z % 2) (by omega) (by omega)
            rw [hF1.out] at hor
            have hdv : (F z : Int) / 2 = ((F z / 2 : Nat) : Int) := by omega
            rw [← hdv] at hor
            have hmd : (F z : Int) % 2 = ((F z % 2 : Nat) : Int) := by omega
            rw [← hmd] at hor hand
            clear hdv hmd
            have hQ3 := hQ2.out
            generalize hFz1 : F (z + 1) = f1 at *
            generalize hQz1 : Q (z + 1) = q1 at *
            generalize hFz0 : F z = f0' at *
            go_wp2_with fail
            exact ⟨⟨z + 1, by rw [hFz1], by go_num, by omega, by rw [hQz1]; omega⟩, by simp [intOf]; omega⟩
          · have n2 : ((F z : Int) / 36028797018963968 != 0) = false := by
              have : (F z : Int) / 36028797018963968 = 0 := by omega
              rw [this]; rfl
            obtain ⟨X0, hX0⟩ : ∃ X0 : Nat, X0 + a = 1077 + e + z := ⟨1077 + e + z - a, by omega⟩
            have hx3 : (e : Int) + 52 - (a : Int) + (z : Int) = (X0 : Int) - 1025 := by omega
            have hres := hfy.out z (X0 - 1) hQ1 (by omega) (by omega)
            have hX1 : 1 ≤ X0 := by omega
            have hXb : X0 ≤ 2000000 := by omega
            have hXlo : 1017 ≤ X0 := by omega
            rw [hx3]
            generalize F z = fm at *
            have hand3 := and_3 fm (by omega)
            have hd4 : (fm : Int) / 4 = ((fm / 4 : Nat) : Int) := by omega
            have hk64 : fm / 4 < 18446744073709551616 := by omega
            have ho := and_u64_one (fm / 4) hk64
            have hor := or_small (fm % 4) (by omega) (fm / 4 % 2) (by omega)
            have hK : rd2 fm = if (if fm % 4 % 2 = 0 then fm % 4 + fm / 4 % 2 else fm % 4) = 3 then fm / 4 + 1 else fm / 4 := by
              unfold rd2
              by_cases h : fm % 4 = 3 ∨ fm % 4 = 2 ∧ fm / 4 % 2 = 1
              · rw [if_pos h, if_pos (by split <;> omega)]
              · rw [if_neg h, if_neg (by split <;> omega)]
            have hk1 : 4503599627370496 ≤ fm / 4 := by omega
            have hk2 : fm / 4 < 9007199254740992 := by omega
            generalize (if fm % 4 % 2 = 0 then fm % 4 + fm / 4 % 2 else fm % 4) = rr at *
            generalize fm / 4 % 2 = o at *
            generalize fm % 4 = r4 at *
            generalize fm / 4 = k4 at *
            have kI1 : bits BinOp.and IntKind.u64 4503599627370496 4503599627370495 = 0 := by decide +kernel
            have kI2 : bits BinOp.and IntKind.i64 2047 2047 = 2047 := by decide
            have kI3 : bits BinOp.or IntKind.u64 0 9218868437227405312 = 9218868437227405312 := by decide +kernel
            have hxa : (X0 : Int) - 1025 + 2 = (X0 : Int) - 1023 := by omega
            have hxb : (X0 : Int) - 1023 + 1023 = (X0 : Int) := by omega
            have hxc : (X0 : Int) - 1023 - -1023 = (X0 : Int) := by omega
            have hxd : (X0 : Int) - 1023 + 1 = (X0 : Int) - 1022 := by omega
            have hxe : (X0 : Int) - 1022 + 1023 = (X0 : Int) + 1 := by omega
            have hxf : (X0 : Int) - 1022 - -1023 = (X0 : Int) + 1 := by omega
            have hne0 : ¬ (X0 : Int) - 1025 < -1024 := by omega
            clear hfy hsb hdz hd0 hzb hst hs0 hQ1 s1 s2 hbig hx3 hX0
            go_wp2_with fail
            go_loop [2, 3] (fun v2 v3 => v2 = .int .u64 (fm : Int) ∧ v3 = .int .i64 ((X0 : Int) - 1025)) (fun _ _ => 0)
            case atStart => exact ⟨rfl, rfl⟩
            case round =>
              obtain ⟨rfl, rfl⟩ := hrel
              have hk1I : ¬ (k4 : Int) / 4503599627370496 = 0 := by omega
              by_cases hr3 : rr = 3
              · rw [if_pos hr3] at hK
                rw [hK] at hres
                have hr3b : ((rr : Int) == 3) = true := by simp; omega
                have hw1 : IntKind.u64.wrap ((k4 : Int) + 1) = (k4 : Int) + 1 := by rw [IntKind.wrap_u64]; omega
                by_cases hK53 : k4 = 9007199254740991
                · have hkb : ((k4 : Int) + 1 == 9007199254740992) = true := by simp; omega
                  have hkc : ((k4 : Int) + 1) / 2 = 4503599627370496 := by omega
                  have hK53' := Lib.hid hK53
                  clear hw1 hK53
                  by_cases hinf : 1023 < (X0 : Int) - 1022
                  · have hV : Hid (V = 9218868437227405312) := by
                      show _ = _
                      rw [← hres]; unfold wEK
                      rw [if_neg (by have := hK53'.out; omega)]
                    clear hres hK
                    go_wp2_with fail
                    go_quiet (fail)
                    go_wp2_with fail
                    go_ret2
                    exact ⟨⟨_, by rw [hV.out]; rfl, .inr rfl⟩, _, rfl⟩
                  · have hV : Hid (V = (X0 + 1) * 4503599627370496) := by
                      show _ = _
                      rw [← hres]; unfold wEK
                      rw [if_pos (by have := hK53'.out; omega)]; have := hK53'.out; omega
                    have hX2 : X0 + 1 < 2048 := by omega
                    have hb2 := and_11 (X0 + 1) hX2
                    have hb3 : bits BinOp.or IntKind.u64 0 (((X0 : Int) + 1) * 4503599627370496) = (V : Int) := by
                      have h := or_52b 0 (X0 + 1) hX2
                      rw [Nat.zero_mod, Nat.add_zero, ← hV.out] at h
                      exact h
                    rw [show ((X0 + 1 : Nat) : Int) = (X0 : Int) + 1 by omega] at hb2
                    clear hres hK hV
                    go_wp2_with fail
                    go_quiet (fail)
                    go_wp2_with fail
                    go_ret2
                    exact ⟨⟨_, rfl, .inl rfl⟩, _, rfl⟩
                · have hkb : ((k4 : Int) + 1 == 9007199254740992) = false := beq_eq_false_iff_ne.2 (by omega)
                  have hk1J : (((k4 : Int) + 1) / 4503599627370496 == 0) = false := beq_eq_false_iff_ne.2 (by omega)
                  by_cases hinf : 1023 < (X0 : Int) - 1023
                  · have hV : Hid (V = 9218868437227405312) := by
                      show _ = _
                      rw [← hres]; unfold wEK
                      rw [if_neg (by omega)]
                    clear hres hK
                    go_wp2_with fail
                    go_quiet (fail)
                    go_wp2_with fail
                    go_ret2
                    exact ⟨⟨_, by rw [hV.out]; rfl, .inr rfl⟩, _, rfl⟩
                  · have hV : Hid (V = (X0) * 4503599627370496 + (k4 + 1) % 4503599627370496) := by
                      show _ = _
                      rw [← hres]; unfold wEK
                      rw [if_pos (by omega)]; omega
                    have hX2 : X0 < 2048 := by omega
                    have hb1 := and_52m (k4 + 1) (by omega)
                    have hb2 := and_11 (X0) hX2
                    have hb3 := or_52b (k4 + 1) (X0) hX2
                    rw [show ((k4 + 1 : Nat) : Int) = (k4 : Int) + 1 by omega] at hb1
                    generalize (k4 + 1) % 4503599627370496 = kk at *
                    have hkk : (X0) * 4503599627370496 + kk = V := hV.out.symm
                    rw [hkk] at hb3
                    clear hres hK hkk hV
                    go_wp2_with fail
                    go_quiet (fail)
                    go_wp2_with fail
                    go_ret2
                    exact ⟨⟨_, rfl, .inl rfl⟩, _, rfl⟩
              · have hr3b : ((rr : Int) == 3) = false := beq_eq_false_iff_ne.2 (by omega)
                rw [if_neg hr3] at hK
                rw [hK] at hres
                have hk1J : ((k4 : Int) / 4503599627370496 == 0) = false := beq_eq_false_iff_ne.2 (by omega)
                by_cases hinf : 1023 < (X0 : Int) - 1023
                · have hV : Hid (V = 9218868437227405312) := by
                    show _ = _
                    rw [← hres]; unfold wEK
                    rw [if_neg (by omega)]
                  clear hres hK
                  go_wp2_with fail
                  go_quiet (fail)
                  go_wp2_with fail
                  go_ret2
                  exact ⟨⟨_, by rw [hV.out]; rfl, .inr rfl⟩, _, rfl⟩
                · have hV : Hid (V = (X0) * 4503599627370496 + (k4) % 4503599627370496) := by
                    show _ = _
                    rw [← hres]; unfold wEK
                    rw [if_pos (by omega)]; omega
                  have hX2 : X0 < 2048 := by omega
                  have hb1 := and_52m (k4) (by omega)
                  have hb2 := and_11 (X0) hX2
                  have hb3 := or_52b (k4) (X0) hX2
                  generalize (k4) % 4503599627370496 = kk at *
                  have hkk : (X0) * 4503599627370496 + kk = V := hV.out.symm
                  rw [hkk] at hb3
                  clear hres hK hkk hV
                  go_wp2_with fail
                  go_quiet (fail)
                  go_wp2_with fail
                  go_ret2
                  exact ⟨⟨_, rfl, .inl rfl⟩, _, rfl⟩
      | false =>
        rw [if_neg (by decide)] at hs0
        go_wp2_with fail
        go_loop [2, 3] (fun v2 v3 => ∃ z : Nat, v2 = .int .u64 (F z : Int) ∧ v3 = .int .i64 ((e : Int) + 52 - (a : Int) + (z : Int)) ∧ F z < 18446744073709551616 ∧ 18014398509481984 ≤ Q z) (fun v2 _ => (intOf v2).toNat)
        case atStart => exact ⟨0, by rw [hs0.out], by simp, by rw [hs0.out]; exact hy64, by rw [hd0.out]; omega⟩
        case round =>
          obtain ⟨z, rfl, rfl, hF64, hQ1⟩ := hrel
          have hz10 := hzb.out z hQ1
          obtain ⟨s1, s2⟩ := hsb.out z
          by_cases hbig : 36028797018963968 ≤ F z
          · have n2 : ((F z : Int) / 36028797018963968 != 0) = true := by
              have : 1 ≤ (F z : Int) / 36028797018963968 := by omega
              simp; omega
            have hF1 := Lib.hid (hst.out z)
            have hQ2 := Lib.hid (hdz.out z)
            have hsb1 := hsb.out (z + 1)
            have hand := and_u64_one (F z) hF64
            have hor := bits_or_u64_nat (F z / 2) (F z % 2) (by omega) (by omega)
            rw [hF1.out] at hor
            have hdv : (F z : Int) / 2 = ((F z / 2 : Nat) : Int) := by omega
            rw [← hdv] at hor
            have hmd : (F z : Int) % 2 = ((F z % 2 : Nat) : Int) := by omega
            rw [← hmd] at hor hand
            clear hdv hmd
            have hQ3 := hQ2.out
            generalize hFz1 : F (z + 1) = f1 at *
            generalize hQz1 : Q (z + 1) = q1 at *
            generalize hFz0 : F z = f0' at *
            go_wp2_with fail
            exact ⟨⟨z + 1, by rw [hFz1], by go_num, by omega, by rw [hQz1]; omega⟩, by simp [intOf]; omega⟩
          · have n2 : ((F z : Int) / 36028797018963968 != 0) = false := by
              have : (F z : Int) / 36028797018963968 = 0 := by omega
              rw [this]; rfl
            obtain ⟨X0, hX0⟩ : ∃ X0 : Nat, X0 + a = 1077 + e + z := ⟨1077 + e + z - a, by omega⟩
            have hx3 : (e : Int) + 52 - (a : Int) + (z : Int) = (X0 : Int) - 1025 := by omega
            have hres := hfy.out z (X0 - 1) hQ1 (by omega) (by omega)
            have hX1 : 1 ≤ X0 := by omega
            have hXb : X0 ≤ 2000000 := by omega
            have hXlo : 1017 ≤ X0 := by omega
            rw [hx3]
            generalize F z = fm at *
            have hand3 := and_3 fm (by omega)
            have hd4 : (fm : Int) / 4 = ((fm / 4 : Nat) : Int) := by omega
            have hk64 : fm / 4 < 18446744073709551616 := by omega
            have ho := and_u64_one (fm / 4) hk64
            have hor := or_small (fm % 4) (by omega) (fm / 4 % 2) (by omega)
            have hK : rd2 fm = if (if fm % 4 % 2 = 0 then fm % 4 + fm / 4 % 2 else fm % 4) = 3 then fm / 4 + 1 else fm / 4 := by
              unfold rd2
              by_cases h : fm % 4 = 3 ∨ fm % 4 = 2 ∧ fm / 4 % 2 = 1
              · rw [if_pos h, if_pos (by split <;> omega)]
              · rw [if_neg h, if_neg (by split <;> omega)]
            have hk1 : 4503599627370496 ≤ fm / 4 := by omega
            have hk2 : fm / 4 < 9007199254740992 := by omega
            generalize (if fm % 4 % 2 = 0 then fm % 4 + fm / 4 % 2 else fm % 4) = rr at *
            generalize fm / 4 % 2 = o at *
            generalize fm % 4 = r4 at *
            generalize fm / 4 = k4 at *
            have kI1 : bits BinOp.and IntKind.u64 4503599627370496 4503599627370495 = 0 := by decide +kernel
            have kI2 : bits BinOp.and IntKind.i64 2047 2047 = 2047 := by decide
            have kI3 : bits BinOp.or IntKind.u64 0 9218868437227405312 = 9218868437227405312 := by decide +kernel
            have hxa : (X0 : Int) - 1025 + 2 = (X0 : Int) - 1023 := by omega
            have hxb : (X0 : Int) - 1023 + 1023 = (X0 : Int) := by omega
            have hxc : (X0 : Int) - 1023 - -1023 = (X0 : Int) := by omega
            have hxd : (X0 : Int) - 1023 + 1 = (X0 : Int) - 1022 := by omega
            have hxe : (X0 : Int) - 1022 + 1023 = (X0 : Int) + 1 := by omega
            have hxf : (X0 : Int) - 1022 - -1023 = (X0 : Int) + 1 := by omega
            have hne0 : ¬ (X0 : Int) - 1025 < -1024 := by omega
            clear hfy hsb hdz hd0 hzb hst hs0 hQ1 s1 s2 hbig hx3 hX0
            go_wp2_with fail
            go_loop [2, 3] (fun v2 v3 => v2 = .int .u64 (fm : Int) ∧ v3 = .int .i64 ((X0 : Int) - 1025)) (fun _ _ => 0)
            case atStart => exact ⟨rfl, rfl⟩
            case round =>
              obtain ⟨rfl, rfl⟩ := hrel
              have hk1I : ¬ (k4 : Int) / 4503599627370496 = 0 := by omega
              by_cases hr3 : rr = 3
              · rw [if_pos hr3] at hK
                rw [hK] at hres
                have hr3b : ((rr : Int) == 3) = true := by simp; omega
                have hw1 : IntKind.u64.wrap ((k4 : Int) + 1) = (k4 : Int) + 1 := by rw [IntKind.wrap_u64]; omega
                by_cases hK53 : k4 = 9007199254740991
                · have hkb : ((k4 : Int) + 1 == 9007199254740992) = true := by simp; omega
                  have hkc : ((k4 : Int) + 1) / 2 = 4503599627370496 := by omega
                  have hK53' := Lib.hid hK53
                  clear hw1 hK53
                  by_cases hinf : 1023 < (X0 : Int) - 1022
                  · have hV : Hid (V = 9218868437227405312) := by
                      show _ = _
                      rw [← hres]; unfold wEK
                      rw [if_neg (by have := hK53'.out; omega)]
                    clear hres hK
                    go_wp2_with fail
                    go_quiet (fail)
                    go_wp2_with fail
                    go_ret2
                    exact ⟨⟨_, by rw [hV.out]; rfl, .inr rfl⟩, _, rfl⟩
                  · have hV : Hid (V = (X0 + 1) * 4503599627370496) := by
                      show _ = _
                      rw [← hres]; unfold wEK
                      rw [if_pos (by have := hK53'.out; omega)]; have := hK53'.out; omega
                    have hX2 : X0 + 1 < 2048 := by omega
                    have hb2 := and_11 (X0 + 1) hX2
                    have hb3 : bits BinOp.or IntKind.u64 0 (((X0 : Int) + 1) * 4503599627370496) = (V : Int) := by
                      have h := or_52b 0 (X0 + 1) hX2
                      rw [Nat.zero_mod, Nat.add_zero, ← hV.out] at h
                      exact h
                    rw [show ((X0 + 1 : Nat) : Int) = (X0 : Int) + 1 by omega] at hb2
                    clear hres hK hV
                    go_wp2_with fail
                    go_quiet (fail)
                    go_wp2_with fail
                    go_ret2
                    exact ⟨⟨_, rfl, .inl rfl⟩, _, rfl⟩
                · have hkb : ((k4 : Int) + 1 == 9007199254740992) = false := beq_eq_false_iff_ne.2 (by omega)
                  have hk1J : (((k4 : Int) + 1) / 4503599627370496 == 0) = false := beq_eq_false_iff_ne.2 (by omega)
                  by_cases hinf : 1023 < (X0 : Int) - 1023
                  · have hV : Hid (V = 9218868437227405312) := by
                      show _ = _
                      rw [← hres]; unfold wEK
                      rw [if_neg (by omega)]
                    clear hres hK
                    go_wp2_with fail
                    go_quiet (fail)
                    go_wp2_with fail
                    go_ret2
                    exact ⟨⟨_, by rw [hV.out]; rfl, .inr rfl⟩, _, rfl⟩
                  · have hV : Hid (V = (X0) * 4503599627370496 + (k4 + 1) % 4503599627370496) := by
                      show _ = _
                      rw [← hres]; unfold wEK
                      rw [if_pos (by omega)]; omega
                    have hX2 : X0 < 2048 := by omega
                    have hb1 := and_52m (k4 + 1) (by omega)
                    have hb2 := and_11 (X0) hX2
                    have hb3 := or_52b (k4 + 1) (X0) hX2
                    rw [show ((k4 + 1 : Nat) : Int) = (k4 : Int) + 1 by omega] at hb1
                    generalize (k4 + 1) % 4503599627370496 = kk at *
                    have hkk : (X0) * 4503599627370496 + kk = V := hV.out.symm
                    rw [hkk] at hb3
                    clear hres hK hkk hV
                    go_wp2_with fail
                    go_quiet (fail)
                    go_wp2_with fail
                    go_ret2
                    exact ⟨⟨_, rfl, .inl rfl⟩, _, rfl⟩
              · have hr3b : ((rr : Int) == 3) = false := beq_eq_false_iff_ne.2 (by omega)
                rw [if_neg hr3] at hK
                rw [hK] at hres
                have hk1J : ((k4 : Int) / 4503599627370496 == 0) = false := beq_eq_false_iff_ne.2 (by omega)
                by_cases hinf : 1023 < (X0 : Int) - 1023
                · have hV : Hid (V = 9218868437227405312) := by
                    show _ = _
                    rw [← hres]; unfold wEK
                    rw [if_neg (by omega)]
                  clear hres hK
                  go_wp2_with fail
                  go_quiet (fail)
                  go_wp2_with fail
                  go_ret2
                  exact ⟨⟨_, by rw [hV.out]; rfl, .inr rfl⟩, _, rfl⟩
                · have hV : Hid (V = (X0) * 4503599627370496 + (k4) % 4503599627370496) := by
                    show _ = _
                    rw [← hres]; unfold wEK
                    rw [if_pos (by omega)]; omega
                  have hX2 : X0 < 2048 := by omega
                  have hb1 := and_52m (k4) (by omega)
                  have hb2 := and_11 (X0) hX2
                  have hb3 := or_52b (k4) (X0) hX2
                  generalize (k4) % 4503599627370496 = kk at *
                  have hkk : (X0) * 4503599627370496 + kk = V := hV.out.symm
                  rw [hkk] at hb3
                  clear hres hK hkk hV
                  go_wp2_with fail
                  go_quiet (fail)
                  go_wp2_with fail
                  go_ret2
                  exact ⟨⟨_, rfl, .inl rfl⟩, _, rfl⟩
end Go.Proofs.YtbakbikilbaafaaGreatDoor
namespace Go.Proofs.YtbakbikilbaafaaGreatDoor
open Go.RowKit F64 Ieee
set_option linter.unusedVariables false
set_option maxHeartbeats 4000000
set_option maxRecDepth 100000

theorem hx_zero {c : Nat} (h : IsHx c) : wth c = 0 ↔ c = 48 := by
  obtain ⟨-, h1, h2⟩ := wth_hx h
  rcases h with h | h
  · rw [h1 h]; omega
  · rw [h2 h]; omega
structure HFv (σ : HF) (N : Nat) : Prop where
  le : σ.nm ≤ σ.nd
  v : ∃ R, N = σ.m * 16 ^ (σ.nd - σ.nm) + R ∧ R < 16 ^ (σ.nd - σ.nm) ∧ σ.tr = decide (R ≠ 0)
  f : σ.nm < 16 → σ.nd = σ.nm
  p : 0 < σ.nd → 0 < σ.nm ∧ 16 ^ (σ.nm - 1) ≤ σ.m
  z : σ.nd = 0 → σ.m = 0
theorem HFv.step {σ : HF} {N c : Nat} (h : HFv σ N) (hc : IsHx c) : HFv (hS σ c) (N * 16 + wth c) := by
  obtain ⟨l, ⟨R, h1, h2, h3⟩, h4, h5, h6⟩ := h
  obtain ⟨w1, -, -⟩ := wth_hx hc
  have wz := hx_zero hc
  obtain ⟨nd, nm, dp, m, tr⟩ := σ
  simp only at l h1 h2 h3 h4 h5 h6
  unfold hS
  simp only
  by_cases hz : c = 48 ∧ nd = 0
  · rw [if_pos hz]
    obtain ⟨rfl, rfl⟩ := hz
    have hm := h6 rfl
    have hn : nm = 0 := by omega
    subst hn hm
    simp at h1 h2
    subst h2
    exact ⟨Nat.le_refl _, ⟨0, by simp [h1, wz.2 rfl], by simp, h3⟩, fun _ => rfl, fun h => absurd h (by simp), fun _ => rfl⟩
  · rw [if_neg hz]
    by_cases hn : nm < 16
    · rw [if_pos hn]
      have hnd := h4 hn
      subst hnd
      rw [Nat.sub_self, Nat.pow_zero] at h1 h2
      have hR : R = 0 := by omega
      subst hR
      refine ⟨by simp only; omega, ⟨0, by simp only; rw [Nat.sub_self]; omega, by simp only; rw [Nat.sub_self]; decide, h3⟩, fun _ => rfl, fun _ => ⟨by simp only; omega, ?_⟩, fun h => absurd h (by simp)⟩
      simp only [Nat.add_sub_cancel]
      rcases Nat.eq_zero_or_pos nd with h0 | h0
      · subst h0
        have : wth c ≠ 0 := fun g => hz ⟨wz.1 g, rfl⟩
        rw [Nat.pow_zero]; omega
      · have h7 := (h5 h0).2
        obtain ⟨k, rfl⟩ : ∃ k, nd = k + 1 := ⟨nd - 1, by omega⟩
        rw [Nat.add_sub_cancel] at h7
        rw [Nat.pow_succ]
        omega
    · rw [if_neg hn]
      have hs : nd + 1 - nm = nd - nm + 1 := by omega
      refine ⟨by simp only; omega, ⟨R * 16 + wth c, ?_, ?_, ?_⟩, fun h => absurd h hn, fun _ => ⟨by simp only; omega, (h5 (by omega)).2⟩, fun h => absurd h (by simp)⟩
      · simp only
        rw [hs, Nat.pow_succ, h1, Nat.add_mul, Nat.mul_assoc]; omega
      · simp only
        rw [hs, Nat.pow_succ]; omega
      · simp only
        rw [h3]
        by_cases hR : R = 0
        · subst hR
          by_cases h48 : c = 48
          · have hw := wz.2 h48
            rw [hw]; simp [h48]
          · have : wth c ≠ 0 := fun g => h48 (wz.1 g)
            simp [h48, this]
        · rw [decide_eq_true hR, decide_eq_true (show R * 16 + wth c ≠ 0 by omega)]; rfl
theorem hFF_v : ∀ (l : List Nat), (∀ c ∈ l, IsHx c) → HFv (hFF l) (numB 16 l) := by
  have key : ∀ (l : List Nat) (σ : HF) (N : Nat), (∀ c ∈ l, IsHx c) → HFv σ N → HFv (l.foldl hS σ) (l.foldl (fun n c => n * 16 + wth c) N) := by
    intro l
    induction l with
    | nil => intro σ N _ h; exact h
    | cons c l ih =>
      intro σ N hl h
      simp only [List.foldl_cons]
      exact ih _ _ (fun x hx => hl x (List.mem_cons_of_mem _ hx)) (h.step (hl c (List.mem_cons_self ..)))
  exact fun l hl => key l hF0 0 hl ⟨Nat.le_refl _, ⟨0, by decide, by decide, rfl⟩, fun _ => rfl, fun h => absurd h (by decide), fun _ => rfl⟩
theorem c_atof64H (S : ByteArray) (m : Nat) (e : Int) (tr : Bool) (v : Nat) (h0 : 0 < S.size) (hc : (S[0]'h0).toNat = 48) (w : World) (hL : LibW w) (hs : S.size ≤ 200000)
    (hR0 : ∀ W, Calls Tryz.prog 202 #[.string S] W fun r w' => r = .returned (.tuple #[.int .u64 (m : Int), .int .i64 e, .bool false, .bool tr, .bool true, .int .i64 (S.size : Int), .bool true]) ∧ W = w')
    (hH0 : ∀ W, LibW W → Calls Tryz.prog 203 #[.string S, .pointer (some ⟨9, 0, none⟩), .int .u64 (m : Int), .int .i64 e, .bool false, .bool tr] W fun r w' => (∃ er, r = .returned (.tuple #[.float .f64 v, er]) ∧ (er = .nilIface ∨ er = errR)) ∧ ∃ n, w' = W.drewN n) :
    Calls Tryz.prog 175 #[.string S] w fun r w' => AtR v S.size r ∧ Below w.heap.size w w' := by
  have hS := Lib.hid (fun W => c_special S 48 h0 hc (by decide) W)
  have hR := Lib.hid hR0
  have hH := Lib.hid (hH0 w hL)
  have hex : S.extract 0 S.size = S := by simp
  replace hL := Lib.hid hL
  clear hR0 hH0 hc
  go_enter Tryz.func175, Tryz.ntmps175
  go_wp2_with (first | (go_at_call 201; refine (hS.out _).mono ?_; rintro e w1 ⟨rfl, rfl⟩) | (go_at_call 202; refine (hR.out _).mono ?_; rintro e w1 ⟨rfl, rfl⟩))
  refine hH.out.mono ?_
  rintro e w1 ⟨⟨er, rfl, her⟩, n, rfl⟩
  replace her := Lib.hid her
  go_wp2_with fail
  go_ret3
  exact ⟨⟨_, rfl, her.out⟩, below_drewN (Below.refl _ _) _⟩
theorem c_PFhex (A : List Nat) (hA : ∀ c ∈ A, IsHx c) (hal : 1 ≤ A.length) (hlen : A.length ≤ 100000) (w : World) (hL : LibW w) :
    Calls Tryz.prog 75 #[.string (u8sG (48 :: 120 :: (A ++ [112, 48]))), .int .i64 64] w fun r w' => PfR (nN (numB 16 A)) r ∧ Below w.heap.size w w' := by
  have hsz : (u8sG (48 :: 120 :: (A ++ [112, 48]))).size = A.length + 4 := by rw [uG_size]; simp
  have hall : ∀ c ∈ (48 :: 120 :: (A ++ [112, 48])), c < 256 := by
    intro c hc
    simp only [List.mem_cons, List.mem_append, List.not_mem_nil, or_false] at hc
    rcases hc with rfl | rfl | hc | rfl | rfl
    · decide
    · decide
    · have := hA c hc; unfold IsHx at this; omega
    · decide
    · decide
  have hget := fun j c hc h => uG_get (48 :: 120 :: (A ++ [112, 48])) j c hc (hall c (List.mem_of_getElem? hc)) h
  refine c_ParseFloat _ _ w hL (by rw [hsz]; omega) ?_
  have hv := hFF_v A hA
  have hb := hFF_b A hA A.length (Nat.le_refl _)
  rw [List.take_length] at hb
  have hR := fun W => c_readHex A _ hsz hA hal hlen hget W
  have h0 : 0 < (u8sG (48 :: 120 :: (A ++ [112, 48]))).size := by omega
  have hc0 := hget 0 48 rfl h0
  have hs : (u8sG (48 :: 120 :: (A ++ [112, 48]))).size ≤ 200000 := by omega
  obtain ⟨l, ⟨R, e1, e2, e3⟩, hf, hp, hz⟩ := hv
  by_cases hm : (hFF A).m = 0
  · have hnd : (hFF A).nd = 0 := by
      rcases Nat.eq_zero_or_pos (hFF A).nd with h | h
      · exact h
      · have h2 := (hp h).2
        have := Nat.pow_pos (n := (hFF A).nm - 1) (show 0 < 16 by decide)
        omega
    have hnm : (hFF A).nm = 0 := by omega
    rw [hnd, hnm, hm] at e1
    rw [hnd, hnm] at e2
    simp at e1 e2
    have hN : numB 16 A = 0 := by rw [e1, e2]
    have htr : (hFF A).tr = false := by rw [e3, e2]; rfl
    have hex : expH (hFF A) = 0 := if_pos hm
    rw [hN, nN_zero]
    rw [hm, htr, hex] at hR
    refine c_atof64H _ 0 0 false 0 h0 hc0 w hL hs hR (fun W hW => (c_atofHex0 _ W hW).mono ?_)
    rintro r w' ⟨rfl, hn⟩
    exact ⟨⟨_, rfl, .inl rfl⟩, hn⟩
  · have hexp : expH (hFF A) = ((4 * ((hFF A).nd - (hFF A).nm) : Nat) : Int) := by
      unfold expH; rw [if_neg hm]; omega
    have h16 : ∀ k : Nat, (16 : Nat) ^ k = 2 ^ (4 * k) := fun k => by rw [Nat.pow_mul]
    rw [h16] at e1 e2
    rw [hexp] at hR
    refine c_atof64H _ _ _ _ _ h0 hc0 w hL hs hR (fun W hW => c_atofHex _ _ _ R _ _ e1 e2 e3 (by omega) ?_ ?_ ?_ W hW)
    · refine Nat.lt_of_lt_of_le hb.m (Nat.le_trans (Nat.pow_le_pow_right (by decide) hb.nm16) (by decide))
    · intro hR0
      have h1 : (hFF A).nm < (hFF A).nd := by
        rcases Nat.lt_or_ge (hFF A).nm (hFF A).nd with h | h
        · exact h
        · exfalso
          rw [show (hFF A).nd - (hFF A).nm = 0 by omega] at e2
          simp at e2; exact hR0 e2
      have h2 : (hFF A).nm = 16 := by
        rcases Nat.lt_or_ge (hFF A).nm 16 with h | h
        · have := hf h; omega
        · have := hb.nm16; omega
      have h3 := (hp (by omega)).2
      rw [h2] at h3
      exact Nat.le_trans (by decide) h3
    · have := hb.nd; omega
end Go.Proofs.YtbakbikilbaafaaGreatDoor
