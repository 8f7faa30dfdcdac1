/-
  Contracts: The contract of the library's readFloat at decimal texts (printed by gen_XRB.py). The contract of the library's readFloat at texts of digits alone (printed by gen_XRB.py, MODE=I). The contracts of the library's pack64, unmin, parseFloat64. The contract of the library's shortFloat at whole numbers below 2^32. The contract of numDigits.
-/
import Derived.Test.YtbakbikilbaafaaGreatDoorS5
import Derived.Test.YtbakbikilbaafaaGreatDoorChecked
import Derived.Laws.FloatBits
import Derived.WalkKit
import Derived.LoopTactic
import Derived.Below
import Derived.WalkSpells
import Derived.WalkLawsBesides
import Derived.BigCall
import Derived.BigGuard
import Derived.WalkMore
import Derived.Outline
import Derived.Test.YtbakbikilbaafaaGreatDoorS2
import Derived.Test.YtbakbikilbaafaaGreatDoorS1
namespace Go.Proofs.YtbakbikilbaafaaGreatDoor
open Go.RowKit
set_option linter.unusedVariables false
set_option maxHeartbeats 8000000
set_option maxRecDepth 100000

theorem or8 (c : Nat) (hc : c < 256) : bits BinOp.or IntKind.u8 (c : Int) 32 = ((c ||| 32 : Nat) : Int) := by
  have all : ∀ c : Fin 256, bits BinOp.or IntKind.u8 ((c.val : Nat) : Int) 32 = ((c.val ||| 32 : Nat) : Int) := by decide +kernel
  exact all ⟨c, hc⟩
theorem d_lower (c : Nat) (hc : c < 256) (w : World) : Calls Tryz.prog 183 #[.int .u8 (c : Int)] w fun r w' => r = .returned (.int .u8 ((c ||| 32 : Nat) : Int)) ∧ w = w' := by
  have h := or8 c hc
  generalize c ||| 32 = x at *
  go_enter Tryz.func183, Tryz.ntmps183
  go_wp2
  go_ret
  exact ⟨rfl, rfl⟩
/-- some byte that is a digit -/
def hasD (l : List Nat) : Bool := l.any fun c => !(c == 46)
theorem hasD_snoc (l : List Nat) (c : Nat) : hasD (l ++ [c]) = (hasD l || !(c == 46)) := by unfold hasD; simp
theorem hasD_take {l : List Nat} {k c : Nat} (h : l[k]? = some c) : hasD (l.take (k + 1)) = (hasD (l.take k) || !(c == 46)) := by
  rw [List.take_add_one, h]; exact hasD_snoc _ _
def evF (l : List Nat) : Nat := l.foldl (fun e c => e * 10 + (c - 48)) 0
theorem evF_take {l : List Nat} {k c : Nat} (h : l[k]? = some c) : evF (l.take (k + 1)) = evF (l.take k) * 10 + (c - 48) := by
  rw [List.take_add_one, h]; unfold evF; rw [Option.toList, List.foldl_append]; rfl
theorem evF_lt (l : List Nat) (h : ∀ c ∈ l, 48 ≤ c ∧ c ≤ 57) : evF l < 10 ^ l.length := by
  have key : ∀ (l : List Nat) (e k : Nat), (∀ c ∈ l, 48 ≤ c ∧ c ≤ 57) → e < 10 ^ k → l.foldl (fun e c => e * 10 + (c - 48)) e < 10 ^ (k + l.length) := by
    intro l
    induction l with
    | nil => intro e k _ h; exact h
    | cons c l ih =>
      intro e k hl h
      rw [List.foldl_cons, List.length_cons, show k + (l.length + 1) = (k + 1) + l.length by omega]
      apply ih _ _ (fun x hx => hl x (List.mem_cons_of_mem _ hx))
      have := hl c (List.mem_cons_self ..)
      rw [Nat.pow_succ]; omega
  have := key l 0 0 h (by decide)
  rwa [Nat.zero_add] at this
theorem c_readEp (A es : List Nat) (S : ByteArray) (hsz : S.size = A.length + 1 + es.length) (hA0 : ∀ c ∈ A, c = 46 ∨ 48 ≤ c ∧ c ≤ 57) (h0 : A[0]? = some 48) (h1 : A[1]? = some 46) (hdot0 : ∀ k, A[k]? = some 46 → (rfF (A.take k)).dot = false)
    (he0 : ∀ c ∈ es, 48 ≤ c ∧ c ≤ 57) (hel : 1 ≤ es.length) (hel2 : es.length ≤ 4) (hm0 : 0 < (rfF A).m) (hdt : (rfF A).dot = true) (hlen : A.length ≤ 100000)
    (hget0 : ∀ (j c : Nat), (A ++ ([101] ++ es))[j]? = some c → ∀ h : j < S.size, (S[j]'h).toNat = c) (w : World) :
    Calls Tryz.prog 202 #[.string S] w fun r w' => r = .returned (.tuple #[.int .u64 ((rfF A).m : Int), .int .i64 ((rfF A).dp +(evF es : Int) - ((rfF A).nm : Int)), .bool false, .bool (rfF A).tr, .bool false, .int .i64 (S.size : Int), .bool true]) ∧ w = w' := by
  have hA := Lib.hid hA0
  have he := Lib.hid he0
  have hdot := Lib.hid hdot0
  have hget := Lib.hid hget0
  have hLA : ∀ j, j < A.length → (A ++ ([101] ++ es))[j]? = A[j]? := fun j hj => List.getElem?_append_left hj
  have hLe : (A ++ ([101] ++ es))[A.length]? = some 101 := by rw [List.getElem?_append_right (Nat.le_refl _)]; simp
  skip
  have hLs : ∀ j, j < es.length → (A ++ ([101] ++ es))[A.length + 1 + j]? = es[j]? := fun j hj => by
    rw [List.getElem?_append_right (by omega), List.getElem?_append_right (by simp; omega)]
    congr 1; simp; omega
  have hal : 2 ≤ A.length := by
    have := (List.getElem?_eq_some_iff.1 h1).1
    omega
  have hSge : A.length + 1 + 1 ≤ S.size := by omega
  have hS0 : 0 < S.size := by omega
  have hS1 : 1 < S.size := by omega
  have hg0 := hget.out 0 48 (by rw [hLA 0 (by omega)]; exact h0) hS0
  have hg1 := hget.out 1 46 (by rw [hLA 1 (by omega)]; exact h1) hS1
  have hgS := Lib.hid hget0
  have hDA : hasD A = true := by
    unfold hasD
    rw [List.any_eq_true]
    exact ⟨48, List.mem_of_getElem? h0, by decide⟩
  replace hDA := Lib.hid hDA
  replace hLA := Lib.hid hLA
  replace hLe := Lib.hid hLe
  replace hLs := Lib.hid hLs
  have hsI : (2 : Int) < (S.size : Int) := by omega
  have hsI1 : (1 : Int) < (S.size : Int) := by omega
  have hsI0 : (0 : Int) < (S.size : Int) := by omega
  have hsI3 : ¬ (S.size : Int) ≤ 0 := by omega
  have hsN : ¬ S.size = 0 := by omega
  have hlow := Lib.hid (fun c (hc : c < 256) W => d_lower c hc W)
  have hl46 := Lib.hid (fun W => (show Calls Tryz.prog 183 #[.int .u8 46] W fun r w' => r = .returned (.int .u8 46) ∧ W = w' from d_lower 46 (by decide) W))
  have hl101 := Lib.hid (fun W => (show Calls Tryz.prog 183 #[.int .u8 101] W fun r w' => r = .returned (.int .u8 101) ∧ W = w' from d_lower 101 (by decide) W))
  replace hsz := Lib.hid hsz
  clear hA0 he0 hdot0 hget0 h0 h1
  have hm0 := Lib.hid hm0
  have hdt := Lib.hid hdt
  have hel := Lib.hid hel
  have hel2 := Lib.hid hel2
  go_enter Tryz.func202, Tryz.ntmps202
  go_wp2_with fail
  go_step3
  go_wp2_with (go_at_call 183; refine (hl46.out _).mono ?_; rintro e w1 ⟨rfl, rfl⟩)
  go_step3
  go_wp2_with fail
  go_loop [2, 5, 7, 9, 13, 14, 15, 16, 17] (fun v2 v5 v7 v9 v13 v14 v15 v16 v17 => ∃ k : Nat, k ≤ A.length ∧ (v2 = .int .u64 ((rfF (A.take k)).m : Int) ∧ v5 = .bool (rfF (A.take k)).tr ∧ v7 = .int .i64 (k : Int) ∧ v9 = .bool false ∧ v13 = .bool (rfF (A.take k)).dot ∧ v14 = .bool (hasD (A.take k)) ∧ v15 = .int .i64 ((rfF (A.take k)).nd : Int) ∧ v16 = .int .i64 ((rfF (A.take k)).nm : Int) ∧ v17 = .int .i64 (rfF (A.take k)).dp)) (fun _ _ v7 _ _ _ _ _ _ => A.length - (intOf v7).toNat)
  case atStart => exact ⟨0, Nat.zero_le _, rfl, rfl, rfl, rfl, rfl, rfl, rfl, rfl, rfl⟩
  case round =>
    obtain ⟨k, hk, hu⟩ := hrel
    obtain ⟨σ, hσ⟩ : ∃ σ, rfF (A.take k) = σ := ⟨_, rfl⟩
    rw [hσ] at hu
    obtain ⟨rfl, rfl, rfl, rfl, rfl, rfl, rfl, rfl, rfl⟩ := hu
    have hbd := rfF_b (A.take k) (fun c hc => hA.out c (List.mem_of_mem_take hc))
    rw [hσ, List.length_take, Nat.min_eq_left hk] at hbd
    obtain ⟨b1, b2, b3, b4, b5, b6, b7⟩ := hbd
    by_cases hlt : k < A.length
    · obtain ⟨c, hc⟩ : ∃ c, A[k]? = some c := ⟨A[k], List.getElem?_eq_getElem hlt⟩
      have hcm := hA.out c (List.mem_of_getElem? hc)
      have hkS : k < S.size := by omega
      have hg := hget.out k c (by rw [hLA.out k hlt]; exact hc) hkS
      have hkS2 : (k : Int) < (S.size : Int) := by omega
      have hst := rfF_take hc
      have hhd := hasD_take hc
      rw [hσ] at hst
      have hk1 : k + 1 ≤ A.length := hlt
      generalize hdd : hasD (A.take k) = dd at *
      have q95 : ((c : Int) == 95) = false := by simp; omega
      obtain ⟨dot, nd, nm, dp, m, tr⟩ := σ
      simp only at b1 b2 b3 b4 b5 b6 b7
      by_cases h46 : c = 46
      · skip
        have hdt := hdot.out k (by rw [hc, h46])
        rw [hσ] at hdt
        simp only at hdt
        subst hdt
        subst h46
        have hst' : rfF (A.take (k + 1)) = ⟨true, nd, nm, (nd : Int), m, tr⟩ := by rw [hst]; rfl
        rw [show (dd || !(46 == 46)) = dd by simp] at hhd
        replace hst' := Lib.hid hst'
        replace hhd := Lib.hid hhd
        clear hst hσ hcm hc hlt b4 b5 hdd
        go_wp2_with fail
        go_round
        case rel => exact ⟨k + 1, hk1, by rw [hst'.out, hhd.out]; exact ⟨rfl, rfl, by go_num, rfl, rfl, rfl, rfl, rfl, rfl⟩⟩
        case measure => simp [intOf]; omega
      · have q46 : ((c : Int) == 46) = false := by simp; omega
        have hc1 : (48 : Int) ≤ (c : Int) := by omega
        have hc2 : (c : Int) ≤ 57 := by omega
        have hs0 : rfF (A.take (k + 1)) = if c = 48 ∧ nd = 0 then ⟨dot, nd, nm, dp - 1, m, tr⟩ else if nm < 19 then ⟨dot, nd + 1, nm + 1, dp, m * 10 + (c - 48), tr⟩ else ⟨dot, nd + 1, nm, dp, m, tr || decide (c ≠ 48)⟩ := by
          rw [hst]; unfold rfS; rw [if_neg h46]
        have hhd2 : hasD (A.take (k + 1)) = true := by rw [hhd]; simp [h46]
        replace hhd := Lib.hid hhd2
        clear hhd2 hst hσ hcm hlt hdd
        by_cases hz : c = 48
        · skip
          have q48 : ((c : Int) == 48) = true := by simp; omega
          have q48n : ((c : Int) != 48) = false := by simp; omega
          by_cases hn0 : nd = 0
          · skip
            rw [if_pos ⟨hz, hn0⟩] at hs0
            have qn : ((nd : Int) == 0) = true := by simp; omega
            clear hz hn0
            replace hs0 := Lib.hid hs0
            clear hc h46
            go_wp2_with fail
            go_round
            case rel => exact ⟨k + 1, hk1, by rw [hs0.out, hhd.out]; exact ⟨rfl, rfl, by go_num, rfl, rfl, rfl, rfl, rfl, rfl⟩⟩
            case measure => simp [intOf]; omega
          · have qn : ((nd : Int) == 0) = false := by simp; omega
            rw [if_neg (by omega)] at hs0
            by_cases hm19 : nm < 19
            · skip
              rw [if_pos hm19] at hs0
              have hp : 10 ^ nm ≤ 10 ^ 18 := Nat.pow_le_pow_right (by decide) (by omega)
              have hmb : m < 1000000000000000000 := Nat.lt_of_lt_of_le b5 hp
              have qm : (nm : Int) < 19 := by omega
              have w1 : IntKind.u64.wrap ((m : Int) * 10) = (m : Int) * 10 := by rw [IntKind.wrap_u64]; omega
              have w2 : IntKind.u64.wrap ((m : Int) * 10 + ((c : Int) - 48)) = ((m * 10 + (c - 48) : Nat) : Int) := by rw [IntKind.wrap_u64]; omega
              have w3 : IntKind.u8.wrap ((c : Int) - 48) = (c : Int) - 48 := by rw [IntKind.wrap_u8]; omega
              have w4 : IntKind.u64.wrap ((c : Int) - 48) = (c : Int) - 48 := by rw [IntKind.wrap_u64]; omega
              clear hp b4 b5
              clear hz hn0 hm19
              replace hs0 := Lib.hid hs0
              clear hc h46
              go_wp2_with fail
              go_round
              case rel => exact ⟨k + 1, hk1, by rw [hs0.out, hhd.out]; exact ⟨by first | rfl | go_num, rfl, by go_num, rfl, rfl, rfl, by go_num, by go_num, rfl⟩⟩
              case measure => simp [intOf]; omega
            · skip
              rw [if_neg hm19] at hs0
              have qm : ¬ (nm : Int) < 19 := by omega
              rw [show (tr || decide (c ≠ 48)) = tr by simp [hz]] at hs0
              clear hz hn0 hm19 b4 b5
              replace hs0 := Lib.hid hs0
              clear hc h46
              go_wp2_with fail
              go_round
              case rel => exact ⟨k + 1, hk1, by rw [hs0.out, hhd.out]; exact ⟨rfl, rfl, by go_num, rfl, rfl, rfl, by go_num, rfl, rfl⟩⟩
              case measure => simp [intOf]; omega
        · have q48 : ((c : Int) == 48) = false := by simp; omega
          have q48n : ((c : Int) != 48) = true := by simp; omega
          rw [if_neg (by omega)] at hs0
          by_cases hm19 : nm < 19
          · skip
            rw [if_pos hm19] at hs0
            have hp : 10 ^ nm ≤ 10 ^ 18 := Nat.pow_le_pow_right (by decide) (by omega)
            have hmb : m < 1000000000000000000 := Nat.lt_of_lt_of_le b5 hp
            have qm : (nm : Int) < 19 := by omega
            have w1 : IntKind.u64.wrap ((m : Int) * 10) = (m : Int) * 10 := by rw [IntKind.wrap_u64]; omega
            have w2 : IntKind.u64.wrap ((m : Int) * 10 + ((c : Int) - 48)) = ((m * 10 + (c - 48) : Nat) : Int) := by rw [IntKind.wrap_u64]; omega
            have w3 : IntKind.u8.wrap ((c : Int) - 48) = (c : Int) - 48 := by rw [IntKind.wrap_u8]; omega
            have w4 : IntKind.u64.wrap ((c : Int) - 48) = (c : Int) - 48 := by rw [IntKind.wrap_u64]; omega
            clear hp b4 b5
            clear hz hm19
            replace hs0 := Lib.hid hs0
            clear hc h46
            go_wp2_with fail
            go_round
            case rel => exact ⟨k + 1, hk1, by rw [hs0.out, hhd.out]; exact ⟨by first | rfl | go_num, rfl, by go_num, rfl, rfl, rfl, by go_num, by go_num, rfl⟩⟩
            case measure => simp [intOf]; omega
          · skip
            rw [if_neg hm19] at hs0
            have qm : ¬ (nm : Int) < 19 := by omega
            rw [show (tr || decide (c ≠ 48)) = true by simp [hz]] at hs0
            clear hz hm19 b4 b5
            replace hs0 := Lib.hid hs0
            clear hc h46
            go_wp2_with fail
            go_round
            case rel => exact ⟨k + 1, hk1, by rw [hs0.out, hhd.out]; exact ⟨rfl, rfl, by go_num, rfl, rfl, rfl, by go_num, rfl, rfl⟩⟩
            case measure => simp [intOf]; omega
    · obtain rfl : k = A.length := by omega
      rw [List.take_length] at hσ
      obtain ⟨dot, nd, nm, dp, m, tr⟩ := σ
      simp only at b1 b2 b3 b4 b5 b6 b7
      have hdt2 := hdt.out
      rw [hσ] at hdt2
      simp only at hdt2
      subst hdt2
      have hm2 := hm0.out
      rw [hσ] at hm2
      simp only at hm2
      have hD : hasD (A.take A.length) = true := by rw [List.take_length]; exact hDA.out
      rw [hD]
      have hkS : A.length < S.size := by have := hel.out; omega
      have hg := hgS.out A.length 101 hLe.out hkS
      have hel1 := hel.out
      have hel3 := hel2.out
      have hkS2 : (A.length : Int) < (S.size : Int) := by omega
      have hkS3 : A.length + 1 < S.size := by omega
      have hkS4 : (A.length : Int) + 1 < (S.size : Int) := by omega
      obtain ⟨c0, hc0⟩ : ∃ c0, es[0]? = some c0 := ⟨es[0]'(by have := hel.out; omega), List.getElem?_eq_getElem _⟩
      have hc0m := he.out c0 (List.mem_of_getElem? hc0)
      have hg43 := hgS.out (A.length + 1) c0 (by have := hLs.out 0 (by have := hel.out; omega); rw [Nat.add_zero] at this; rw [this]; exact hc0) (by omega)
      have q43 : ((c0 : Int) == 43) = false := by simp; omega
      have q45 : ((c0 : Int) == 45) = false := by simp; omega
      have hx1 : (48 : Int) ≤ (c0 : Int) := by omega
      have hx2 : (c0 : Int) ≤ 57 := by omega
      have qx1 : ¬ (c0 : Int) < 48 := by omega
      have qx2 : ¬ (57 : Int) < (c0 : Int) := by omega
      replace hσ := Lib.hid hσ
      clear b4 b5 hD
      skip
      have hgsn := Lib.hid (fun (j c : Nat) (hc : es[j]? = some c) (h : A.length + 1 + j < S.size) => hgS.out (A.length + 1 + j) c (by rw [hLs.out j (List.getElem?_eq_some_iff.1 hc).1]; exact hc) h)
      have hsz2 := Lib.hid hsz.out
      generalize A.length = n at *
      go_wp2_with (go_at_call 183; refine (hl101.out _).mono ?_; rintro e w1 ⟨rfl, rfl⟩)
      go_loop [7, 9, 20] (fun v7 v9 v20 => ∃ j : Nat, j ≤ es.length ∧ v9 = .bool false ∧ v7 = .int .i64 ((n + 1 + j : Nat) : Int) ∧ v20 = .int .i64 (evF (es.take j) : Int)) (fun v7 _ _ => (n + 1 + es.length) - (intOf v7).toNat)
      case atStart => exact ⟨0, Nat.zero_le _, rfl, by first | rfl | go_num, rfl⟩
      case round =>
        obtain ⟨j, hj, rfl, rfl, rfl⟩ := hrel
        have hsz3 := hsz2.out
        by_cases hjl : j < es.length
        · obtain ⟨x, hx⟩ : ∃ x, es[j]? = some x := ⟨es[j], List.getElem?_eq_getElem hjl⟩
          have hxm := he.out x (List.mem_of_getElem? hx)
          have hxS : n + 1 + j < S.size := by omega
          have hgx := hgsn.out j x hx hxS
          have hxS2 : ((n + 1 + j : Nat) : Int) < (S.size : Int) := by omega
          have hev := Lib.hid (evF_take hx)
          have hlt4 := evF_lt (es.take j) (fun c hc => he.out c (List.mem_of_mem_take hc))
          have hl4 : (es.take j).length ≤ 3 := by rw [List.length_take]; omega
          have hp4 : 10 ^ (es.take j).length ≤ 10 ^ 3 := Nat.pow_le_pow_right (by decide) hl4
          generalize evF (es.take j) = E at *
          have hE : E < 1000 := Nat.lt_of_lt_of_le hlt4 hp4
          clear hlt4 hl4 hp4 hsz3 hx
          have y1 : (48 : Int) ≤ (x : Int) := by omega
          have y2 : (x : Int) ≤ 57 := by omega
          have y3 : ((x : Int) == 95) = false := by simp; omega
          have y4 : (E : Int) < 10000 := by omega
          have hqb : n + 1 + j ≤ 100010 := by omega
          have hjl' := Lib.hid hjl
          clear hjl hj
          generalize hq : n + 1 + j = q at *
          have hq' := Lib.hid hq
          clear hq
          go_wp2_with fail
          go_round
          case rel => exact ⟨j + 1, hjl'.out, rfl, by have := hq'.out; first | go_num | (congr 1; omega), by rw [hev.out]; first | go_num | (congr 1; omega)⟩
          case measure => have := hq'.out; have := hjl'.out; simp [intOf]; omega
        · obtain rfl : j = es.length := by omega
          have hjS : ((n + 1 + es.length : Nat) : Int) = (S.size : Int) := by omega
          have hjN : n + 1 + es.length = S.size := by omega
          rw [List.take_length]
          have hlt4 := evF_lt es (fun c hc => he.out c hc)
          have hp4 : 10 ^ es.length ≤ 10 ^ 4 := Nat.pow_le_pow_right (by decide) hel3
          have hE : evF es < 10000 := Nat.lt_of_lt_of_le hlt4 hp4
          rw [hjN]
          have hm3 : ((m : Int) != 0) = true := by simp; omega
          clear hlt4 hp4 hjS hjN hsz3
          generalize hEd : evF es = E at *
          replace hEd := Lib.hid hEd
          clear hj hjl hel1 hel3 hm2 hg hg0 hg1 b1 b2
          go_wp2_with fail
          refine bodyPost_ret (v := .tuple #[.int .u64 (m : Int), .int .i64 (dp +(E : Int) - (nm : Int)), .bool false, .bool tr, .bool false, .int .i64 (S.size : Int), .bool true]) (by simp [results, Tryz.results202, go_sem]) rfl ?_
          exact ⟨by rw [hσ.out, hEd.out], rfl⟩
theorem c_readEn (A es : List Nat) (S : ByteArray) (hsz : S.size = A.length + 2 + es.length) (hA0 : ∀ c ∈ A, c = 46 ∨ 48 ≤ c ∧ c ≤ 57) (h0 : A[0]? = some 48) (h1 : A[1]? = some 46) (hdot0 : ∀ k, A[k]? = some 46 → (rfF (A.take k)).dot = false)
    (he0 : ∀ c ∈ es, 48 ≤ c ∧ c ≤ 57) (hel : 1 ≤ es.length) (hel2 : es.length ≤ 4) (hm0 : 0 < (rfF A).m) (hdt : (rfF A).dot = true) (hlen : A.length ≤ 100000)
    (hget0 : ∀ (j c : Nat), (A ++ ([101, 45] ++ es))[j]? = some c → ∀ h : j < S.size, (S[j]'h).toNat = c) (w : World) :
    Calls Tryz.prog 202 #[.string S] w fun r w' => r = .returned (.tuple #[.int .u64 ((rfF A).m : Int), .int .i64 ((rfF A).dp + -(evF es : Int) - ((rfF A).nm : Int)), .bool false, .bool (rfF A).tr, .bool false, .int .i64 (S.size : Int), .bool true]) ∧ w = w' := by
  have hA := Lib.hid hA0
  have he := Lib.hid he0
  have hdot := Lib.hid hdot0
  have hget := Lib.hid hget0
  have hLA : ∀ j, j < A.length → (A ++ ([101, 45] ++ es))[j]? = A[j]? := fun j hj => List.getElem?_append_left hj
  have hLe : (A ++ ([101, 45] ++ es))[A.length]? = some 101 := by rw [List.getElem?_append_right (Nat.le_refl _)]; simp
  have hLm : (A ++ ([101, 45] ++ es))[A.length + 1]? = some 45 := by rw [List.getElem?_append_right (by omega)]; simp
  replace hLm := Lib.hid hLm
  have hLs : ∀ j, j < es.length → (A ++ ([101, 45] ++ es))[A.length + 2 + j]? = es[j]? := fun j hj => by
    rw [List.getElem?_append_right (by omega), List.getElem?_append_right (by simp; omega)]
    congr 1; simp; omega
  have hal : 2 ≤ A.length := by
    have := (List.getElem?_eq_some_iff.1 h1).1
    omega
  have hSge : A.length + 2 + 1 ≤ S.size := by omega
  have hS0 : 0 < S.size := by omega
  have hS1 : 1 < S.size := by omega
  have hg0 := hget.out 0 48 (by rw [hLA 0 (by omega)]; exact h0) hS0
  have hg1 := hget.out 1 46 (by rw [hLA 1 (by omega)]; exact h1) hS1
  have hgS := Lib.hid hget0
  have hDA : hasD A = true := by
    unfold hasD
    rw [List.any_eq_true]
    exact ⟨48, List.mem_of_getElem? h0, by decide⟩
  replace hDA := Lib.hid hDA
  replace hLA := Lib.hid hLA
  replace hLe := Lib.hid hLe
  replace hLs := Lib.hid hLs
  have hsI : (2 : Int) < (S.size : Int) := by omega
  have hsI1 : (1 : Int) < (S.size : Int) := by omega
  have hsI0 : (0 : Int) < (S.size : Int) := by omega
  have hsI3 : ¬ (S.size : Int) ≤ 0 := by omega
  have hsN : ¬ S.size = 0 := by omega
  have hlow := Lib.hid (fun c (hc : c < 256) W => d_lower c hc W)
  have hl46 := Lib.hid (fun W => (show Calls Tryz.prog 183 #[.int .u8 46] W fun r w' => r = .returned (.int .u8 46) ∧ W = w' from d_lower 46 (by decide) W))
  have hl101 := Lib.hid (fun W => (show Calls Tryz.prog 183 #[.int .u8 101] W fun r w' => r = .returned (.int .u8 101) ∧ W = w' from d_lower 101 (by decide) W))
  replace hsz := Lib.hid hsz
  clear hA0 he0 hdot0 hget0 h0 h1
  have hm0 := Lib.hid hm0
  have hdt := Lib.hid hdt
  have hel := Lib.hid hel
  have hel2 := Lib.hid hel2
  go_enter Tryz.func202, Tryz.ntmps202
  go_wp2_with fail
  go_step3
  go_wp2_with (go_at_call 183; refine (hl46.out _).mono ?_; rintro e w1 ⟨rfl, rfl⟩)
  go_step3
  go_wp2_with fail
  go_loop [2, 5, 7, 9, 13, 14, 15, 16, 17] (fun v2 v5 v7 v9 v13 v14 v15 v16 v17 => ∃ k : Nat, k ≤ A.length ∧ (v2 = .int .u64 ((rfF (A.take k)).m : Int) ∧ v5 = .bool (rfF (A.take k)).tr ∧ v7 = .int .i64 (k : Int) ∧ v9 = .bool false ∧ v13 = .bool (rfF (A.take k)).dot ∧ v14 = .bool (hasD (A.take k)) ∧ v15 = .int .i64 ((rfF (A.take k)).nd : Int) ∧ v16 = .int .i64 ((rfF (A.take k)).nm : Int) ∧ v17 = .int .i64 (rfF (A.take k)).dp)) (fun _ _ v7 _ _ _ _ _ _ => A.length - (intOf v7).toNat)
  case atStart => exact ⟨0, Nat.zero_le _, rfl, rfl, rfl, rfl, rfl, rfl, rfl, rfl, rfl⟩
  case round =>
    obtain ⟨k, hk, hu⟩ := hrel
    obtain ⟨σ, hσ⟩ : ∃ σ, rfF (A.take k) = σ := ⟨_, rfl⟩
    rw [hσ] at hu
    obtain ⟨rfl, rfl, rfl, rfl, rfl, rfl, rfl, rfl, rfl⟩ := hu
    have hbd := rfF_b (A.take k) (fun c hc => hA.out c (List.mem_of_mem_take hc))
    rw [hσ, List.length_take, Nat.min_eq_left hk] at hbd
    obtain ⟨b1, b2, b3, b4, b5, b6, b7⟩ := hbd
    by_cases hlt : k < A.length
    · obtain ⟨c, hc⟩ : ∃ c, A[k]? = some c := ⟨A[k], List.getElem?_eq_getElem hlt⟩
      have hcm := hA.out c (List.mem_of_getElem? hc)
      have hkS : k < S.size := by omega
      have hg := hget.out k c (by rw [hLA.out k hlt]; exact hc) hkS
      have hkS2 : (k : Int) < (S.size : Int) := by omega
      have hst := rfF_take hc
      have hhd := hasD_take hc
      rw [hσ] at hst
      have hk1 : k + 1 ≤ A.length := hlt
      generalize hdd : hasD (A.take k) = dd at *
      have q95 : ((c : Int) == 95) = false := by simp; omega
      obtain ⟨dot, nd, nm, dp, m, tr⟩ := σ
      simp only at b1 b2 b3 b4 b5 b6 b7
      by_cases h46 : c = 46
      · skip
        have hdt := hdot.out k (by rw [hc, h46])
        rw [hσ] at hdt
        simp only at hdt
        subst hdt
        subst h46
        have hst' : rfF (A.take (k + 1)) = ⟨true, nd, nm, (nd : Int), m, tr⟩ := by rw [hst]; rfl
        rw [show (dd || !(46 == 46)) = dd by simp] at hhd
        replace hst' := Lib.hid hst'
        replace hhd := Lib.hid hhd
        clear hst hσ hcm hc hlt b4 b5 hdd
        go_wp2_with fail
        go_round
        case rel => exact ⟨k + 1, hk1, by rw [hst'.out, hhd.out]; exact ⟨rfl, rfl, by go_num, rfl, rfl, rfl, rfl, rfl, rfl⟩⟩
        case measure => simp [intOf]; omega
      · have q46 : ((c : Int) == 46) = false := by simp; omega
        have hc1 : (48 : Int) ≤ (c : Int) := by omega
        have hc2 : (c : Int) ≤ 57 := by omega
        have hs0 : rfF (A.take (k + 1)) = if c = 48 ∧ nd = 0 then ⟨dot, nd, nm, dp - 1, m, tr⟩ else if nm < 19 then ⟨dot, nd + 1, nm + 1, dp, m * 10 + (c - 48), tr⟩ else ⟨dot, nd + 1, nm, dp, m, tr || decide (c ≠ 48)⟩ := by
          rw [hst]; unfold rfS; rw [if_neg h46]
        have hhd2 : hasD (A.take (k + 1)) = true := by rw [hhd]; simp [h46]
        replace hhd := Lib.hid hhd2
        clear hhd2 hst hσ hcm hlt hdd
        by_cases hz : c = 48
        · skip
          have q48 : ((c : Int) == 48) = true := by simp; omega
          have q48n : ((c : Int) != 48) = false := by simp; omega
          by_cases hn0 : nd = 0
          · skip
            rw [if_pos ⟨hz, hn0⟩] at hs0
            have qn : ((nd : Int) == 0) = true := by simp; omega
            clear hz hn0
            replace hs0 := Lib.hid hs0
            clear hc h46
            go_wp2_with fail
            go_round
            case rel => exact ⟨k + 1, hk1, by rw [hs0.out, hhd.out]; exact ⟨rfl, rfl, by go_num, rfl, rfl, rfl, rfl, rfl, rfl⟩⟩
            case measure => simp [intOf]; omega
          · have qn : ((nd : Int) == 0) = false := by simp; omega
            rw [if_neg (by omega)] at hs0
            by_cases hm19 : nm < 19
            · skip
              rw [if_pos hm19] at hs0
              have hp : 10 ^ nm ≤ 10 ^ 18 := Nat.pow_le_pow_right (by decide) (by omega)
              have hmb : m < 1000000000000000000 := Nat.lt_of_lt_of_le b5 hp
              have qm : (nm : Int) < 19 := by omega
              have w1 : IntKind.u64.wrap ((m : Int) * 10) = (m : Int) * 10 := by rw [IntKind.wrap_u64]; omega
              have w2 : IntKind.u64.wrap ((m : Int) * 10 + ((c : Int) - 48)) = ((m * 10 + (c - 48) : Nat) : Int) := by rw [IntKind.wrap_u64]; omega
              have w3 : IntKind.u8.wrap ((c : Int) - 48) = (c : Int) - 48 := by rw [IntKind.wrap_u8]; omega
              have w4 : IntKind.u64.wrap ((c : Int) - 48) = (c : Int) - 48 := by rw [IntKind.wrap_u64]; omega
              clear hp b4 b5
              clear hz hn0 hm19
              replace hs0 := Lib.hid hs0
              clear hc h46
              go_wp2_with fail
              go_round
              case rel => exact ⟨k + 1, hk1, by rw [hs0.out, hhd.out]; exact ⟨by first | rfl | go_num, rfl, by go_num, rfl, rfl, rfl, by go_num, by go_num, rfl⟩⟩
              case measure => simp [intOf]; omega
            · skip
              rw [if_neg hm19] at hs0
              have qm : ¬ (nm : Int) < 19 := by omega
              rw [show (tr || decide (c ≠ 48)) = tr by simp [hz]] at hs0
              clear hz hn0 hm19 b4 b5
              replace hs0 := Lib.hid hs0
              clear hc h46
              go_wp2_with fail
              go_round
              case rel => exact ⟨k + 1, hk1, by rw [hs0.out, hhd.out]; exact ⟨rfl, rfl, by go_num, rfl, rfl, rfl, by go_num, rfl, rfl⟩⟩
              case measure => simp [intOf]; omega
        · have q48 : ((c : Int) == 48) = false := by simp; omega
          have q48n : ((c : Int) != 48) = true := by simp; omega
          rw [if_neg (by omega)] at hs0
          by_cases hm19 : nm < 19
          · skip
            rw [if_pos hm19] at hs0
            have hp : 10 ^ nm ≤ 10 ^ 18 := Nat.pow_le_pow_right (by decide) (by omega)
            have hmb : m < 1000000000000000000 := Nat.lt_of_lt_of_le b5 hp
            have qm : (nm : Int) < 19 := by omega
            have w1 : IntKind.u64.wrap ((m : Int) * 10) = (m : Int) * 10 := by rw [IntKind.wrap_u64]; omega
            have w2 : IntKind.u64.wrap ((m : Int) * 10 + ((c : Int) - 48)) = ((m * 10 + (c - 48) : Nat) : Int) := by rw [IntKind.wrap_u64]; omega
            have w3 : IntKind.u8.wrap ((c : Int) - 48) = (c : Int) - 48 := by rw [IntKind.wrap_u8]; omega
            have w4 : IntKind.u64.wrap ((c : Int) - 48) = (c : Int) - 48 := by rw [IntKind.wrap_u64]; omega
            clear hp b4 b5
            clear hz hm19
            replace hs0 := Lib.hid hs0
            clear hc h46
            go_wp2_with fail
            go_round
            case rel => exact ⟨k + 1, hk1, by rw [hs0.out, hhd.out]; exact ⟨by first | rfl | go_num, rfl, by go_num, rfl, rfl, rfl, by go_num, by go_num, rfl⟩⟩
            case measure => simp [intOf]; omega
          · skip
            rw [if_neg hm19] at hs0
            have qm : ¬ (nm : Int) < 19 := by omega
            rw [show (tr || decide (c ≠ 48)) = true by simp [hz]] at hs0
            clear hz hm19 b4 b5
            replace hs0 := Lib.hid hs0
            clear hc h46
            go_wp2_with fail
            go_round
            case rel => exact ⟨k + 1, hk1, by rw [hs0.out, hhd.out]; exact ⟨rfl, rfl, by go_num, rfl, rfl, rfl, by go_num, rfl, rfl⟩⟩
            case measure => simp [intOf]; omega
    · obtain rfl : k = A.length := by omega
      rw [List.take_length] at hσ
      obtain ⟨dot, nd, nm, dp, m, tr⟩ := σ
      simp only at b1 b2 b3 b4 b5 b6 b7
      have hdt2 := hdt.out
      rw [hσ] at hdt2
      simp only at hdt2
      subst hdt2
      have hm2 := hm0.out
      rw [hσ] at hm2
      simp only at hm2
      have hD : hasD (A.take A.length) = true := by rw [List.take_length]; exact hDA.out
      rw [hD]
      have hkS : A.length < S.size := by have := hel.out; omega
      have hg := hgS.out A.length 101 hLe.out hkS
      have hel1 := hel.out
      have hel3 := hel2.out
      have hkS2 : (A.length : Int) < (S.size : Int) := by omega
      have hkS3 : A.length + 1 < S.size := by omega
      have hkS4 : (A.length : Int) + 1 < (S.size : Int) := by omega
      have hLm45 := hgS.out (A.length + 1) 45 hLm.out hkS3
      have q43 : ((45 : Int) == 43) = false := by decide
      have hkS5 : A.length + 2 < S.size := by omega
      obtain ⟨c1, hc1⟩ : ∃ c1, es[0]? = some c1 := ⟨es[0]'(by have := hel.out; omega), List.getElem?_eq_getElem _⟩
      have hc1m := he.out c1 (List.mem_of_getElem? hc1)
      have hgc1 := hgS.out (A.length + 2) c1 (by have := hLs.out 0 (by have := hel.out; omega); rw [Nat.add_zero] at this; rw [this]; exact hc1) hkS5
      have hx1 : (48 : Int) ≤ (c1 : Int) := by omega
      have hx2 : (c1 : Int) ≤ 57 := by omega
      have qx1 : ¬ (c1 : Int) < 48 := by omega
      have qx2 : ¬ (57 : Int) < (c1 : Int) := by omega
      replace hσ := Lib.hid hσ
      clear b4 b5 hD
      skip
      have hgsn := Lib.hid (fun (j c : Nat) (hc : es[j]? = some c) (h : A.length + 2 + j < S.size) => hgS.out (A.length + 2 + j) c (by rw [hLs.out j (List.getElem?_eq_some_iff.1 hc).1]; exact hc) h)
      have hsz2 := Lib.hid hsz.out
      generalize A.length = n at *
      go_wp2_with (go_at_call 183; refine (hl101.out _).mono ?_; rintro e w1 ⟨rfl, rfl⟩)
      go_loop [7, 9, 20] (fun v7 v9 v20 => ∃ j : Nat, j ≤ es.length ∧ v9 = .bool false ∧ v7 = .int .i64 ((n + 2 + j : Nat) : Int) ∧ v20 = .int .i64 (evF (es.take j) : Int)) (fun v7 _ _ => (n + 2 + es.length) - (intOf v7).toNat)
      case atStart => exact ⟨0, Nat.zero_le _, rfl, by first | rfl | go_num, rfl⟩
      case round =>
        obtain ⟨j, hj, rfl, rfl, rfl⟩ := hrel
        have hsz3 := hsz2.out
        by_cases hjl : j < es.length
        · obtain ⟨x, hx⟩ : ∃ x, es[j]? = some x := ⟨es[j], List.getElem?_eq_getElem hjl⟩
          have hxm := he.out x (List.mem_of_getElem? hx)
          have hxS : n + 2 + j < S.size := by omega
          have hgx := hgsn.out j x hx hxS
          have hxS2 : ((n + 2 + j : Nat) : Int) < (S.size : Int) := by omega
          have hev := Lib.hid (evF_take hx)
          have hlt4 := evF_lt (es.take j) (fun c hc => he.out c (List.mem_of_mem_take hc))
          have hl4 : (es.take j).length ≤ 3 := by rw [List.length_take]; omega
          have hp4 : 10 ^ (es.take j).length ≤ 10 ^ 3 := Nat.pow_le_pow_right (by decide) hl4
          generalize evF (es.take j) = E at *
          have hE : E < 1000 := Nat.lt_of_lt_of_le hlt4 hp4
          clear hlt4 hl4 hp4 hsz3 hx
          have y1 : (48 : Int) ≤ (x : Int) := by omega
          have y2 : (x : Int) ≤ 57 := by omega
          have y3 : ((x : Int) == 95) = false := by simp; omega
          have y4 : (E : Int) < 10000 := by omega
          have hqb : n + 2 + j ≤ 100010 := by omega
          have hjl' := Lib.hid hjl
          clear hjl hj
          generalize hq : n + 2 + j = q at *
          have hq' := Lib.hid hq
          clear hq
          go_wp2_with fail
          go_round
          case rel => exact ⟨j + 1, hjl'.out, rfl, by have := hq'.out; first | go_num | (congr 1; omega), by rw [hev.out]; first | go_num | (congr 1; omega)⟩
          case measure => have := hq'.out; have := hjl'.out; simp [intOf]; omega
        · obtain rfl : j = es.length := by omega
          have hjS : ((n + 2 + es.length : Nat) : Int) = (S.size : Int) := by omega
          have hjN : n + 2 + es.length = S.size := by omega
          rw [List.take_length]
          have hlt4 := evF_lt es (fun c hc => he.out c hc)
          have hp4 : 10 ^ es.length ≤ 10 ^ 4 := Nat.pow_le_pow_right (by decide) hel3
          have hE : evF es < 10000 := Nat.lt_of_lt_of_le hlt4 hp4
          rw [hjN]
          have hm3 : ((m : Int) != 0) = true := by simp; omega
          clear hlt4 hp4 hjS hjN hsz3
          generalize hEd : evF es = E at *
          replace hEd := Lib.hid hEd
          clear hj hjl hel1 hel3 hm2 hg hg0 hg1 b1 b2
          go_wp2_with fail
          refine bodyPost_ret (v := .tuple #[.int .u64 (m : Int), .int .i64 (dp + -(E : Int) - (nm : Int)), .bool false, .bool tr, .bool false, .int .i64 (S.size : Int), .bool true]) (by simp [results, Tryz.results202, go_sem]) rfl ?_
          exact ⟨by rw [hσ.out, hEd.out], rfl⟩
end Go.Proofs.YtbakbikilbaafaaGreatDoor
namespace Go.Proofs.YtbakbikilbaafaaGreatDoor
open Go.RowKit
set_option linter.unusedVariables false
set_option maxHeartbeats 8000000
set_option maxRecDepth 100000

def expI (σ : RF) : Int := if σ.m = 0 then 0 else (σ.nd : Int) - (σ.nm : Int)
theorem rfF_nodot (A : List Nat) (h : ∀ c ∈ A, 48 ≤ c ∧ c ≤ 57) : (rfF A).dot = false := by
  have key : ∀ (l : List Nat) (σ : RF), (∀ c ∈ l, 48 ≤ c ∧ c ≤ 57) → σ.dot = false → (l.foldl rfS σ).dot = false := by
    intro l
    induction l with
    | nil => intro σ _ h; exact h
    | cons c l ih =>
      intro σ hl h
      rw [List.foldl_cons]
      apply ih _ (fun x hx => hl x (List.mem_cons_of_mem _ hx))
      have := hl c (List.mem_cons_self ..)
      unfold rfS
      rw [if_neg (by omega)]
      split
      · exact h
      · split <;> exact h
  exact key A rf0 h rfl
theorem c_readI1 (A : List Nat) (S : ByteArray) (hsz : S.size = A.length) (hA0 : ∀ c ∈ A, 48 ≤ c ∧ c ≤ 57) (hv : A.length ≤ 2) (hal : 1 ≤ A.length) (hlen : A.length ≤ 100000)
    (hget0 : ∀ (j c : Nat), A[j]? = some c → ∀ h : j < S.size, (S[j]'h).toNat = c) (w : World) :
    Calls Tryz.prog 202 #[.string S] w fun r w' => r = .returned (.tuple #[.int .u64 ((rfF A).m : Int), .int .i64 (expI (rfF A)), .bool false, .bool (rfF A).tr, .bool false, .int .i64 (S.size : Int), .bool true]) ∧ w = w' := by
  have hA : Hid (∀ c ∈ A, c = 46 ∨ 48 ≤ c ∧ c ≤ 57) := fun c hc => .inr (hA0 c hc)
  have hA9 := Lib.hid hA0
  have hdot : Hid (∀ k, A[k]? = some 46 → (rfF (A.take k)).dot = false) := fun k hk => by
    have := hA0 46 (List.mem_of_getElem? hk)
    omega
  have hnod := Lib.hid (rfF_nodot A hA0)
  have hget := Lib.hid hget0
  have hLA : Hid (∀ j, j < A.length → A[j]? = A[j]?) := fun j hj => rfl
  have hSge : A.length ≤ S.size := by omega
  have hS0 : 0 < S.size := by omega
  obtain ⟨x0, hx0⟩ : ∃ x0, A[0]? = some x0 := ⟨A[0]'(by omega), List.getElem?_eq_getElem _⟩
  have hx0m := hA0 x0 (List.mem_of_getElem? hx0)
  have hg0 := hget.out 0 x0 hx0 hS0
  have hDA : hasD A = true := by
    unfold hasD
    rw [List.any_eq_true]
    exact ⟨x0, List.mem_of_getElem? hx0, by simp; omega⟩
  replace hDA := Lib.hid hDA
  have q43 : ((x0 : Int) == 43) = false := by simp; omega
  have q45 : ((x0 : Int) == 45) = false := by simp; omega
  have hsI0 : (0 : Int) < (S.size : Int) := by omega
  have hsI3 : ¬ (S.size : Int) ≤ 0 := by omega
  have hsN : ¬ S.size = 0 := by omega
  have hsI : ¬ (2 : Int) < (S.size : Int) := by omega
  have hsIb : decide ((2 : Int) < (S.size : Int)) = false := by simp; omega
  have hsIc : decide (2 < S.size) = false := by simp; omega
  replace hsz := Lib.hid hsz
  clear hA0 hget0 hx0
  go_enter Tryz.func202, Tryz.ntmps202
  go_wp2_with fail
  go_step3
  go_wp2_with fail
  go_step3
  go_wp2_with fail
  go_loop [2, 5, 7, 9, 13, 14, 15, 16, 17] (fun v2 v5 v7 v9 v13 v14 v15 v16 v17 => ∃ k : Nat, k ≤ A.length ∧ (v2 = .int .u64 ((rfF (A.take k)).m : Int) ∧ v5 = .bool (rfF (A.take k)).tr ∧ v7 = .int .i64 (k : Int) ∧ v9 = .bool false ∧ v13 = .bool (rfF (A.take k)).dot ∧ v14 = .bool (hasD (A.take k)) ∧ v15 = .int .i64 ((rfF (A.take k)).nd : Int) ∧ v16 = .int .i64 ((rfF (A.take k)).nm : Int) ∧ v17 = .int .i64 (rfF (A.take k)).dp)) (fun _ _ v7 _ _ _ _ _ _ => A.length - (intOf v7).toNat)
  case atStart => exact ⟨0, Nat.zero_le _, rfl, rfl, rfl, rfl, rfl, rfl, rfl, rfl, rfl⟩
  case round =>
    obtain ⟨k, hk, hu⟩ := hrel
    obtain ⟨σ, hσ⟩ : ∃ σ, rfF (A.take k) = σ := ⟨_, rfl⟩
    rw [hσ] at hu
    obtain ⟨rfl, rfl, rfl, rfl, rfl, rfl, rfl, rfl, rfl⟩ := hu
    have hbd := rfF_b (A.take k) (fun c hc => hA.out c (List.mem_of_mem_take hc))
    rw [hσ, List.length_take, Nat.min_eq_left hk] at hbd
    obtain ⟨b1, b2, b3, b4, b5, b6, b7⟩ := hbd
    by_cases hlt : k < A.length
    · obtain ⟨c, hc⟩ : ∃ c, A[k]? = some c := ⟨A[k], List.getElem?_eq_getElem hlt⟩
      have hcm := hA.out c (List.mem_of_getElem? hc)
      have hkS : k < S.size := by omega
      have hg := hget.out k c hc hkS
      have hkS2 : (k : Int) < (S.size : Int) := by omega
      have hst := rfF_take hc
      have hhd := hasD_take hc
      rw [hσ] at hst
      have hk1 : k + 1 ≤ A.length := hlt
      generalize hdd : hasD (A.take k) = dd at *
      have q95 : ((c : Int) == 95) = false := by simp; omega
      obtain ⟨dot, nd, nm, dp, m, tr⟩ := σ
      simp only at b1 b2 b3 b4 b5 b6 b7
      by_cases h46 : c = 46
      · skip
        have hdt := hdot.out k (by rw [hc, h46])
        rw [hσ] at hdt
        simp only at hdt
        subst hdt
        subst h46
        have hst' : rfF (A.take (k + 1)) = ⟨true, nd, nm, (nd : Int), m, tr⟩ := by rw [hst]; rfl
        rw [show (dd || !(46 == 46)) = dd by simp] at hhd
        replace hst' := Lib.hid hst'
        replace hhd := Lib.hid hhd
        clear hst hσ hcm hc hlt b4 b5 hdd
        go_wp2_with fail
        go_round
        case rel => exact ⟨k + 1, hk1, by rw [hst'.out, hhd.out]; exact ⟨rfl, rfl, by go_num, rfl, rfl, rfl, rfl, rfl, rfl⟩⟩
        case measure => simp [intOf]; omega
      · have q46 : ((c : Int) == 46) = false := by simp; omega
        have hc1 : (48 : Int) ≤ (c : Int) := by omega
        have hc2 : (c : Int) ≤ 57 := by omega
        have hs0 : rfF (A.take (k + 1)) = if c = 48 ∧ nd = 0 then ⟨dot, nd, nm, dp - 1, m, tr⟩ else if nm < 19 then ⟨dot, nd + 1, nm + 1, dp, m * 10 + (c - 48), tr⟩ else ⟨dot, nd + 1, nm, dp, m, tr || decide (c ≠ 48)⟩ := by
          rw [hst]; unfold rfS; rw [if_neg h46]
        have hhd2 : hasD (A.take (k + 1)) = true := by rw [hhd]; simp [h46]
        replace hhd := Lib.hid hhd2
        clear hhd2 hst hσ hcm hlt hdd
        by_cases hz : c = 48
        · skip
          have q48 : ((c : Int) == 48) = true := by simp; omega
          have q48n : ((c : Int) != 48) = false := by simp; omega
          by_cases hn0 : nd = 0
          · skip
            rw [if_pos ⟨hz, hn0⟩] at hs0
            have qn : ((nd : Int) == 0) = true := by simp; omega
            clear hz hn0
            replace hs0 := Lib.hid hs0
            clear hc h46
            go_wp2_with fail
            go_round
            case rel => exact ⟨k + 1, hk1, by rw [hs0.out, hhd.out]; exact ⟨rfl, rfl, by go_num, rfl, rfl, rfl, rfl, rfl, rfl⟩⟩
            case measure => simp [intOf]; omega
          · have qn : ((nd : Int) == 0) = false := by simp; omega
            rw [if_neg (by omega)] at hs0
            by_cases hm19 : nm < 19
            · skip
              rw [if_pos hm19] at hs0
              have hp : 10 ^ nm ≤ 10 ^ 18 := Nat.pow_le_pow_right (by decide) (by omega)
              have hmb : m < 1000000000000000000 := Nat.lt_of_lt_of_le b5 hp
              have qm : (nm : Int) < 19 := by omega
              have w1 : IntKind.u64.wrap ((m : Int) * 10) = (m : Int) * 10 := by rw [IntKind.wrap_u64]; omega
              have w2 : IntKind.u64.wrap ((m : Int) * 10 + ((c : Int) - 48)) = ((m * 10 + (c - 48) : Nat) : Int) := by rw [IntKind.wrap_u64]; omega
              have w3 : IntKind.u8.wrap ((c : Int) - 48) = (c : Int) - 48 := by rw [IntKind.wrap_u8]; omega
              have w4 : IntKind.u64.wrap ((c : Int) - 48) = (c : Int) - 48 := by rw [IntKind.wrap_u64]; omega
              clear hp b4 b5
              clear hz hn0 hm19
              replace hs0 := Lib.hid hs0
              clear hc h46
              go_wp2_with fail
              go_round
              case rel => exact ⟨k + 1, hk1, by rw [hs0.out, hhd.out]; exact ⟨by first | rfl | go_num, rfl, by go_num, rfl, rfl, rfl, by go_num, by go_num, rfl⟩⟩
              case measure => simp [intOf]; omega
            · skip
              rw [if_neg hm19] at hs0
              have qm : ¬ (nm : Int) < 19 := by omega
              rw [show (tr || decide (c ≠ 48)) = tr by simp [hz]] at hs0
              clear hz hn0 hm19 b4 b5
              replace hs0 := Lib.hid hs0
              clear hc h46
              go_wp2_with fail
              go_round
              case rel => exact ⟨k + 1, hk1, by rw [hs0.out, hhd.out]; exact ⟨rfl, rfl, by go_num, rfl, rfl, rfl, by go_num, rfl, rfl⟩⟩
              case measure => simp [intOf]; omega
        · have q48 : ((c : Int) == 48) = false := by simp; omega
          have q48n : ((c : Int) != 48) = true := by simp; omega
          rw [if_neg (by omega)] at hs0
          by_cases hm19 : nm < 19
          · skip
            rw [if_pos hm19] at hs0
            have hp : 10 ^ nm ≤ 10 ^ 18 := Nat.pow_le_pow_right (by decide) (by omega)
            have hmb : m < 1000000000000000000 := Nat.lt_of_lt_of_le b5 hp
            have qm : (nm : Int) < 19 := by omega
            have w1 : IntKind.u64.wrap ((m : Int) * 10) = (m : Int) * 10 := by rw [IntKind.wrap_u64]; omega
            have w2 : IntKind.u64.wrap ((m : Int) * 10 + ((c : Int) - 48)) = ((m * 10 + (c - 48) : Nat) : Int) := by rw [IntKind.wrap_u64]; omega
            have w3 : IntKind.u8.wrap ((c : Int) - 48) = (c : Int) - 48 := by rw [IntKind.wrap_u8]; omega
            have w4 : IntKind.u64.wrap ((c : Int) - 48) = (c : Int) - 48 := by rw [IntKind.wrap_u64]; omega
            clear hp b4 b5
            clear hz hm19
            replace hs0 := Lib.hid hs0
            clear hc h46
            go_wp2_with fail
            go_round
            case rel => exact ⟨k + 1, hk1, by rw [hs0.out, hhd.out]; exact ⟨by first | rfl | go_num, rfl, by go_num, rfl, rfl, rfl, by go_num, by go_num, rfl⟩⟩
            case measure => simp [intOf]; omega
          · skip
            rw [if_neg hm19] at hs0
            have qm : ¬ (nm : Int) < 19 := by omega
            rw [show (tr || decide (c ≠ 48)) = true by simp [hz]] at hs0
            clear hz hm19 b4 b5
            replace hs0 := Lib.hid hs0
            clear hc h46
            go_wp2_with fail
            go_round
            case rel => exact ⟨k + 1, hk1, by rw [hs0.out, hhd.out]; exact ⟨rfl, rfl, by go_num, rfl, rfl, rfl, by go_num, rfl, rfl⟩⟩
            case measure => simp [intOf]; omega
    · obtain rfl : k = A.length := by omega
      rw [List.take_length] at hσ
      have hno := hnod.out
      rw [hσ] at hno
      obtain ⟨dot, nd, nm, dp, m, tr⟩ := σ
      simp only at b1 b2 b3 b4 b5 b6 b7 hno
      subst hno
      have hD : hasD (A.take A.length) = true := by rw [List.take_length]; exact hDA.out
      rw [hD]
      have hSn : A.length = S.size := hsz.out.symm
      rw [hSn]
      have hlast : ¬ (S.size : Int) < (S.size : Int) := by omega
      replace hσ := Lib.hid hσ
      clear b4 b5 hD hSn hk hlt
      by_cases hm0 : m = 0
      · have hm3 : ((m : Int) != 0) = false := by simp; omega
        have hif : expI (rfF A) = 0 := by rw [hσ.out]; exact if_pos hm0
        replace hif := Lib.hid hif
        clear hm0
        go_wp2_with fail
        refine bodyPost_ret (v := .tuple #[.int .u64 (m : Int), .int .i64 0, .bool false, .bool tr, .bool false, .int .i64 (S.size : Int), .bool true]) (by simp [results, Tryz.results202, go_sem]) rfl ?_
        exact ⟨by rw [hif.out, hσ.out], rfl⟩
      · have hm3 : ((m : Int) != 0) = true := by simp; omega
        have hif : expI (rfF A) = (nd : Int) - (nm : Int) := by rw [hσ.out]; exact if_neg hm0
        replace hif := Lib.hid hif
        clear hm0
        go_wp2_with fail
        refine bodyPost_ret (v := .tuple #[.int .u64 (m : Int), .int .i64 ((nd : Int) - (nm : Int)), .bool false, .bool tr, .bool false, .int .i64 (S.size : Int), .bool true]) (by simp [results, Tryz.results202, go_sem]) rfl ?_
        exact ⟨by rw [hif.out, hσ.out], rfl⟩
end Go.Proofs.YtbakbikilbaafaaGreatDoor
namespace Go.Proofs.YtbakbikilbaafaaGreatDoor
open Go.RowKit F64
set_option linter.unusedVariables false
set_option maxHeartbeats 4000000
set_option maxRecDepth 100000

theorem r_ffb (x : Int) (w : World) : (callFunc 211 #[.int .u64 x]).run Tryz.prog w = .ok (.value (.float .f64 x.toNat)) w := by kernel_rfl
/-- the error of a number beyond all floats -/
def errR : Value := .iface 145 (.int .i64 1)
def pfErr (X m : Nat) : Value := if 4503599627370496 ≤ m ∧ 2046 ≤ X then errR else .nilIface
theorem and_52 {m : Nat} (h1 : m < 9007199254740992) : bits BinOp.and IntKind.u64 (m : Int) 4503599627370496 = (((if m < 4503599627370496 then 0 else 4503599627370496) : Nat) : Int) := by
  rw [show (4503599627370496 : Int) = ((4503599627370496 : Nat) : Int) from rfl, u64_and_nat _ _ (by omega) (by decide), show (4503599627370496 : Nat) = 2 ^ 52 from rfl, nat_bit]
  congr 1
  split
  · rename_i h
    rw [Nat.div_eq_of_lt h]
  · rename_i h
    have : m / 2 ^ 52 = 1 := by
      have e : (2 : Nat) ^ 52 = 4503599627370496 := by decide
      rw [e] at h ⊢
      omega
    rw [this]
theorem andNot_nat {m : Nat} (h0 : 4503599627370496 ≤ m) (h1 : m < 9007199254740992) : m &&& (18446744073709551615 - 4503599627370496) = m - 4503599627370496 := by
  have e : 18446744073709551615 - 4503599627370496 = (2 ^ 11 - 1) * 2 ^ 53 ||| (2 ^ 52 - 1) := by decide
  rw [e, Nat.and_or_distrib_left, Nat.and_two_pow_sub_one_eq_mod]
  have z : m &&& (2 ^ 11 - 1) * 2 ^ 53 = 0 := by
    apply Nat.eq_of_testBit_eq
    intro i
    rw [Nat.testBit_and, Nat.testBit_mul_two_pow, Nat.zero_testBit]
    by_cases hi : 53 ≤ i
    · have : m.testBit i = false := Nat.testBit_lt_two_pow (Nat.lt_of_lt_of_le h1 (Nat.pow_le_pow_right (n := 2) (by decide) hi))
      rw [this]; rfl
    · simp [hi]
  rw [z, Nat.zero_or]
  have e2 : (2 : Nat) ^ 52 = 4503599627370496 := by decide
  rw [e2]; omega
theorem andNot_52 {m : Nat} (h0 : 4503599627370496 ≤ m) (h1 : m < 9007199254740992) : bits BinOp.andNot IntKind.u64 (m : Int) 4503599627370496 = ((m - 4503599627370496 : Nat) : Int) := by
  rw [show (4503599627370496 : Int) = ((4503599627370496 : Nat) : Int) from rfl, u64_andNot_nat _ _ (by omega) (by decide), andNot_nat h0 h1]
theorem or_field {t f : Nat} (ht : t < 4503599627370496) (hf : f < 4096) : bits BinOp.or IntKind.u64 (t : Int) ((f * 4503599627370496 : Nat) : Int) = ((f * 4503599627370496 + t : Nat) : Int) := by
  rw [u64_or_nat _ _ (by omega) (by omega), Nat.or_comm, nat_join 52 _ _ (by simp) (by omega)]
theorem c_pack64 (m X : Nat) (e : Int) (hm : m < 9007199254740992) (he : e = (X : Int) - 1074) (hX : X ≤ 4000) (h : X = 0 ∨ 4503599627370496 ≤ m) (w : World) :
    Calls Tryz.prog 221 #[.int .u64 (m : Int), .int .i64 e] w fun r w' => r = .returned (.tuple #[.float .f64 (min (X * 4503599627370496 + m) 9218868437227405312), pfErr X m]) ∧ w = w' := by
  have hr := r_ffb
  have a1 := and_52 hm
  unfold pfErr
  by_cases h1 : m < 4503599627370496
  · have hX0 : X = 0 := by omega
    subst hX0
    rw [if_pos h1] at a1
    have e1 : min (0 * 4503599627370496 + m) 9218868437227405312 = m := by omega
    rw [if_neg (by omega), e1]
    clear e1 h he h1
    go_enter Tryz.func221, Tryz.ntmps221
    go_wp2
    go_ret2
    exact ⟨by simp, rfl⟩
  · rw [if_neg h1] at a1
    by_cases h2 : 2046 ≤ X
    · rw [if_pos ⟨by omega, h2⟩, Nat.min_eq_right (by omega)]
      have a2 : bits BinOp.and IntKind.u64 (m : Int) 9223372036854775808 = 0 := by
        rw [show (9223372036854775808 : Int) = ((9223372036854775808 : Nat) : Int) from rfl, u64_and_nat _ _ (by omega) (by decide), show (9223372036854775808 : Nat) = 2 ^ 63 from rfl, nat_bit]
        rw [Nat.div_eq_of_lt (by omega)]; rfl
      have a3 : bits BinOp.or IntKind.u64 0 9218868437227405312 = 9218868437227405312 := by decide +kernel
      have h3 : (972 : Int) ≤ e := by omega
      clear h he h1 h2 hX
      unfold errR
      go_enter Tryz.func221, Tryz.ntmps221
      go_wp2
      go_ret2
      exact ⟨rfl, rfl⟩
    · rw [if_neg (by omega), Nat.min_eq_left (by omega)]
      have a2 := andNot_52 (m := m) (by omega) hm
      have h3 : ¬ (972 : Int) ≤ e := by omega
      have a4 : IntKind.u64.wrap (1075 + e) = (X : Int) + 1 := by rw [IntKind.wrap_u64]; omega
      have a5 : IntKind.u64.wrap (((X : Int) + 1) * 4503599627370496) = (((X + 1) * 4503599627370496 : Nat) : Int) := by rw [IntKind.wrap_u64]; omega
      have a6 := or_field (t := m - 4503599627370496) (f := X + 1) (by omega) (by omega)
      have e2 : X * 4503599627370496 + m = (X + 1) * 4503599627370496 + (m - 4503599627370496) := by omega
      rw [e2]
      have h4 : (-1074 : Int) ≤ e := by omega
      have h5 : e < 972 := by omega
      clear h he h1 h2 hX e2
      generalize (X + 1) * 4503599627370496 = Y at *
      generalize m - 4503599627370496 = t at *
      go_enter Tryz.func221, Tryz.ntmps221
      go_wp2
      go_ret2
      exact ⟨by simp, rfl⟩
theorem d_unmin53 (w : World) : Calls Tryz.prog 192 #[.int .u64 9007199254740992] w fun r w' => r = .returned (.int .u64 36028797018963966) ∧ w = w' := by
  go_enter Tryz.func192, Tryz.ntmps192
  go_wp2
  go_ret
  exact ⟨rfl, rfl⟩
theorem fr_neg {p : Int} (h1 : -348 ≤ p) (h2 : p ≤ 347) {e : Int} {n : Nat} (hn : (n : Int) = -(e + tabL p)) : 2 ^ n * frN p e ≤ 2 * frD p e := by
  have h := fr_le h1 h2 (e := e + (n : Int)) (k := 0) (by omega)
  have h3 := fr_add p e n
  have g := frD_pos p (e + (n : Int))
  rw [Nat.pow_zero, Nat.one_mul] at h
  apply Nat.le_of_mul_le_mul_right _ g
  rw [h3]
  have m := Nat.mul_le_mul_right (frD p e) h
  have e1 : 1024 * frN p (e + (n : Int)) * frD p e = 1024 * (frN p (e + (n : Int)) * frD p e) := by ac_rfl
  have e2 : 2047 * frD p (e + (n : Int)) * frD p e = 2047 * (frD p (e + (n : Int)) * frD p e) := by ac_rfl
  have e3 : 2 * frD p e * frD p (e + (n : Int)) = 2 * (frD p (e + (n : Int)) * frD p e) := by ac_rfl
  omega
/-- too small a number for any float -/
theorem pf_tiny {d b : Nat} {p : Int} (h1 : -348 ≤ p) (h2 : p ≤ 347) (hd2 : d < 2 ^ b) (hs : (b : Int) + tabL p ≤ -1077) : pf d b p = 0 ∧ pfErr (pfX d b p) (pfK d b p) = .nilIface := by
  have he : pfe b p = 1074 := by unfold pfe; omega
  have hu : pfu d b p ≤ 1 := by
    unfold pfu
    rw [he]
    have h := fr_neg h1 h2 (e := 1074 + 2) (n := (-(1074 + 2 + tabL p)).toNat) (by omega)
    have g := frD_pos p (1074 + 2)
    have hlt : d * frN p (1074 + 2) < 1 * frD p (1074 + 2) := by
      have m : d * frN p (1074 + 2) < 2 ^ b * frN p (1074 + 2) := Nat.mul_lt_mul_of_pos_right hd2 (frN_pos _ _)
      have m2 : 2 ^ (b + 1) * frN p (1074 + 2) ≤ 2 ^ (-(1074 + 2 + tabL p)).toNat * frN p (1074 + 2) := Nat.mul_le_mul_right _ (Nat.pow_le_pow_right (by decide) (by omega))
      rw [Nat.pow_succ, Nat.mul_right_comm] at m2
      omega
    have : d * frN p (1074 + 2) / frD p (1074 + 2) = 0 := Nat.div_eq_of_lt (by omega)
    unfold unr
    rw [this]
    split <;> omega
  have hr : rou (pfu d b p) = 0 := by unfold rou; omega
  unfold pf pfErr pfX pfK
  rw [if_pos (by omega), if_pos (by omega), hr, he]
  exact ⟨by decide, rfl⟩
theorem or_u64_self (u : Nat) (hu : u < 18446744073709551616) : bits BinOp.or IntKind.u64 (u : Int) ((u % 2 : Nat) : Int) = (u : Int) := by
  rw [u64_or_nat _ _ hu (by omega)]
  congr 1
  rcases Nat.mod_two_eq_zero_or_one u with h | h
  · rw [h]; simp
  · rw [h, or_one]; omega
theorem or_u64_hlf (u : Nat) (hu : u < 18446744073709551616) : bits BinOp.or IntKind.u64 ((u / 2 : Nat) : Int) ((u % 2 : Nat) : Int) = (hlf u : Int) := by
  rw [u64_or_nat _ _ (by omega) (by omega)]
  unfold hlf
  rcases Nat.mod_two_eq_zero_or_one u with h | h
  · rw [h, if_pos rfl]; simp
  · rw [h, if_neg (by decide), or_one]
theorem and_u64_one (u : Nat) (hu : u < 18446744073709551616) : bits BinOp.and IntKind.u64 (u : Int) 1 = ((u % 2 : Nat) : Int) := by
  have := bits_and_u64_nat u 1 (by omega) (by omega)
  rw [Nat.and_one_is_mod] at this
  exact this
/-- reading a number: the float nearest to d times 10 to p -/
theorem c_parseFloat64 (d b : Nat) (p : Int) (h1 : -348 ≤ p) (h2 : p ≤ 347) (hb0 : Lib.bitLen d = b) (hb : 1 ≤ b) (hb2 : b ≤ 64) (hd1 : 2 ^ (b - 1) ≤ d) (hd2 : d < 2 ^ b) (w : World) (hT : PowT w) :
    Calls Tryz.prog 213 #[.int .u64 (d : Int), .int .i64 p, .int .u64 0] w fun r w' => r = .returned (.tuple #[.float .f64 (pf d b p), pfErr (pfX d b p) (pfK d b p)]) ∧ Below w.heap.size w w' := by
  obtain ⟨-, hK, hX⟩ := pf_near (p := p) (by omega) (by omega) hb hb2 hd1 hd2
  have hd64 : d < 18446744073709551616 := by
    have := Nat.pow_le_pow_right (n := 2) (by decide) hb2
    have e : (2 : Nat) ^ 64 = 18446744073709551616 := by decide
    omega
  obtain ⟨r1, r2, r3⟩ := row_b (p := p) (by omega) (by omega)
  obtain ⟨t0, t1⟩ := hT _ _ (row_of (p := p) (by omega) (by omega))
  have hT0 : 12 < w.heap.size := lt_ofC t0
  have hlp : p * 108853 / 32768 = tabL p := rfl
  have hlb : -1157 ≤ tabL p ∧ tabL p ≤ 1157 := by unfold tabL; omega
  have hL : Hid (∀ w, Calls Tryz.prog 146 #[.int .u64 (d : Int)] w fun e w' => e = .returned (.int .i64 (b : Int)) ∧ w = w') := by
    intro w
    have := d_Len64 (d : Int) w (by omega) (by omega)
    rw [show (d : Int).toNat = d from rfl, hb0] at this
    exact this
  have hl2 := Lib.hid (fun W => d_log2Pow10 p (by omega) (by omega) W)
  rw [hlp] at hl2
  have he : pfe b p = min 1074 (53 - (b : Int) - tabL p) := rfl
  obtain ⟨s, hs⟩ : ∃ s : Nat, -(pfe b p - (64 - (b : Int)) + tabL p + 3) = (s : Int) := ⟨(-(pfe b p - (64 - (b : Int)) + tabL p + 3)).toNat, by omega⟩
  have hs8 : 8 ≤ s := by omega
  have hsI : (s : Int) = -(pfe b p - (64 - (b : Int)) + tabL p + 3) := hs.symm
  have hm : min 1074 (53 - (b : Int) - tabL p) = pfe b p := he.symm
  have he1 : -1200 ≤ pfe b p ∧ pfe b p ≤ 1074 := by omega
  have hst : 64 ≤ s → (b : Int) + tabL p ≤ -1077 := by omega
  have hP := Lib.hid (fun W hW => c_prescaleG w.heap.size (rowOf p).1 (rowOf p).2 s p (tabL p) (pfe b p - (64 - (b : Int))) (by omega) (by omega) (by omega) (by omega) (by omega) (by omega) hs w W hW)
  clear he
  have htiny := pf_tiny (d := d) (b := b) (p := p) h1 h2 hd2
  have hu0 : pfu d b p = unr (d * frN p (pfe b p + 2)) (frD p (pfe b p + 2)) := rfl
  have hKd : pfK d b p = if pfu d b p < 36028797018963966 then rou (pfu d b p) else rou (hlf (pfu d b p)) := rfl
  have hXd : pfX d b p = if pfu d b p < 36028797018963966 then (1074 - pfe b p).toNat else (1075 - pfe b p).toNat := rfl
  have hpf : pf d b p = min (pfX d b p * 4503599627370496 + pfK d b p) 9218868437227405312 := rfl
  have husc : usc (d * 2 ^ (64 - b)) (rowOf p).1 (rowOf p).2 s = pfu d b p := by
    have hx1 : 9223372036854775808 ≤ d * 2 ^ (64 - b) := by
      have := Nat.mul_le_mul_right (2 ^ (64 - b)) hd1
      rw [← Nat.pow_add, show b - 1 + (64 - b) = 63 by omega] at this
      exact this
    have hx2 : d * 2 ^ (64 - b) < 18446744073709551616 := by
      have := Nat.mul_lt_mul_of_pos_right hd2 (Nat.two_pow_pos (64 - b))
      rw [← Nat.pow_add, show b + (64 - b) = 64 by omega] at this
      exact this
    rw [usc_R (e := pfe b p - ((64 - b : Nat) : Int)) (by omega) (by omega) hs8 (by omega) hx1 hx2, hu0]
    apply unr_cross (frD_pos _ _) (frD_pos _ _)
    have h3 := fr_add p (pfe b p - ((64 - b : Nat) : Int) + 2) (64 - b)
    rw [show pfe b p - ((64 - b : Nat) : Int) + 2 + ((64 - b : Nat) : Int) = pfe b p + 2 by omega] at h3
    rw [show d * 2 ^ (64 - b) * frN p (pfe b p - ((64 - b : Nat) : Int) + 2) * frD p (pfe b p + 2) = d * (2 ^ (64 - b) * frN p (pfe b p - ((64 - b : Nat) : Int) + 2) * frD p (pfe b p + 2)) by ac_rfl, h3]
    ac_rfl
  have hx2 : d * 2 ^ (64 - b) < 18446744073709551616 := by
    have := Nat.mul_lt_mul_of_pos_right hd2 (Nat.two_pow_pos (64 - b))
    rw [← Nat.pow_add, show b + (64 - b) = 64 by omega] at this
    exact this
  have hul := usc_le (pl := (rowOf p).2) (s := s) hx2 r2 (by omega)
  rw [husc] at hul
  have hbx : ((64 : Int) - (b : Int)).toNat = 64 - b := by omega
  have hxw : IntKind.u64.wrap ((d : Int) * 2 ^ (64 - b)) = ((d * 2 ^ (64 - b) : Nat) : Int) := by
    rw [IntKind.wrap_u64]
    have : (d : Int) * 2 ^ (64 - b) = ((d * 2 ^ (64 - b) : Nat) : Int) := by rw [Int.natCast_mul]; congr 1
    rw [this]; omega
  clear hu0 hd1 hd2 hb0 hlp
  generalize hX' : d * 2 ^ (64 - b) = xx at *
  have hf0 := r_ffb
  by_cases hs64 : 64 ≤ s
  · obtain ⟨z1, z2⟩ := htiny (hst hs64)
    rw [z1, z2]
    clear hKd hXd hpf hX hK husc hul hsI hs htiny hst z1 z2 hX' hxw hx2
    generalize (rowOf p).1 = ph at *
    generalize (rowOf p).2 = pl at *
    generalize pfe b p = e at *
    generalize tabL p = lp at *
    have g1 : (64 : Int) ≤ (s : Int) := by omega
    have g2 : bits BinOp.or IntKind.u64 0 0 = 0 := by decide
    go_enter Tryz.func213, Tryz.ntmps213
    go_wp2_with (first | (go_at_call 146; refine (hL.out _).mono ?_; rintro e' w1 ⟨rfl, rfl⟩) | (go_at_call 186; refine (hl2.out _).mono ?_; rintro e' w1 ⟨rfl, rfl⟩))
    refine (hP.out _ ((Below.refl _ _).alloc (Nat.le_refl _) _) ?_ ?_ ?_ ?_ ?_ ?_ ?_ ?_).mono ?_
    case refine_9 =>
      rintro e' w1 ⟨rfl, hsc⟩
      obtain ⟨k0, k1, k2, hbel⟩ := hsc
      replace hbel := Lib.hid hbel
      go_wp2_with fail
      go_ret2
      exact ⟨rfl, hbel.out⟩
    case refine_1 => simp
    case refine_2 => simp
    case refine_3 => simp
    case refine_4 => simp
    case refine_5 => simp
    case refine_6 => simp
    case refine_7 => exact (World.cell?_alloc_lt _ _ _ hT0).trans t0
    case refine_8 => exact (World.cell?_alloc_lt _ _ _ hT0).trans t1
  · have g1 : ¬ (64 : Int) ≤ (s : Int) := by omega
    have hsb : s < 64 := by omega
    have hU := Lib.hid (fun W => c_uscaleG xx (rowOf p).1 (rowOf p).2 s w.heap.size hx2 r2 r3 hsb w W)
    rw [husc] at hU
    clear htiny hst hs hsb hs8 husc
    generalize (rowOf p).1 = ph at *
    generalize (rowOf p).2 = pl at *
    have hpk := Lib.hid (fun (e : Int) (he : e = (pfX d b p : Int) - 1074) (hXX : pfX d b p ≤ 4000) W => c_pack64 (pfK d b p) (pfX d b p) e hK he hXX hX W)
    rw [← hpf] at hpk
    clear hpf hX
    generalize pf d b p = R at *
    generalize pfErr (pfX d b p) (pfK d b p) = RE at *
    have hum := Lib.hid (fun W => d_unmin53 W)
    have hb2 := Lib.hid (fun b W => d_bool2int b W)
    by_cases hlt : pfu d b p < 36028797018963966
    · rw [if_pos hlt] at hKd hXd
      have hr := Lib.hid (fun W => d_uround (pfu d b p) (by omega) W)
      rw [← hKd] at hr
      have a1 := and_u64_one (pfu d b p) (by omega)
      have a2 := or_u64_self (pfu d b p) (by omega)
      have a0 : ((pfu d b p % 2 : Nat) : Int) = (pfu d b p : Int) % 2 := by omega
      rw [a0] at a1 a2
      clear a0
      have hXe : -pfe b p = (pfX d b p : Int) - 1074 := by omega
      have hpk2 := Lib.hid (hpk.out (-pfe b p) hXe (by omega))
      have o1 : decide ((36028797018963966 : Int) ≤ (pfu d b p : Int)) = false := by simp; omega
      have o2 : decide (36028797018963966 ≤ pfu d b p) = false := by simp; omega
      have o3 : bits BinOp.or IntKind.u64 0 (pfK d b p : Int) = (pfK d b p : Int) := by
        have := u64_or_nat 0 (pfK d b p) (by omega) (by omega)
        rw [Nat.zero_or] at this
        exact this
      clear hXd hKd hpk hXe hK
      generalize pfX d b p = X at *
      generalize pfK d b p = K at *
      generalize pfu d b p = u at *
      generalize pfe b p = e at *
      generalize tabL p = lp at *
      clear hlt hX' hsI
      go_enter Tryz.func213, Tryz.ntmps213
      go_wp2_with (first | (go_at_call 146; refine (hL.out _).mono ?_; rintro e' w1 ⟨rfl, rfl⟩) | (go_at_call 186; refine (hl2.out _).mono ?_; rintro e' w1 ⟨rfl, rfl⟩))
      refine (hP.out _ ((Below.refl _ _).alloc (Nat.le_refl _) _) ?_ ?_ ?_ ?_ ?_ ?_ ?_ ?_).mono ?_
      case refine_9 =>
        rintro e' w1 ⟨rfl, hsc⟩
        obtain ⟨k0, k1, k2, hbel⟩ := id hsc
        replace hbel := Lib.hid hbel
        go_wp2_with fail
        refine (hU.out _ hsc).mono ?_
        rintro e' w2 ⟨rfl, hsc2⟩
        clear k0 k1 k2 hsc
        have hbel2 := Lib.hid hsc2.2.2.2
        clear hsc2
        go_wp2_with fail
        refine (hum.out _).mono ?_
        rintro e' w3 ⟨rfl, rfl⟩
        go_wp2_with fail
        refine (hb2.out _ _).mono ?_
        rintro e' w3 ⟨rfl, rfl⟩
        simp only [b2n]
        go_wp2_with fail
        refine (hr.out _).mono ?_
        rintro e' w3 ⟨rfl, rfl⟩
        go_wp2_with fail
        refine (hpk2.out _).mono ?_
        rintro e' w3 ⟨rfl, rfl⟩
        go_wp2_with fail
        go_ret2
        exact ⟨rfl, hbel2.out⟩
      case refine_1 => simp
      case refine_2 => simp
      case refine_3 => simp
      case refine_4 => simp
      case refine_5 => simp
      case refine_6 => simp
      case refine_7 => exact (World.cell?_alloc_lt _ _ _ hT0).trans t0
      case refine_8 => exact (World.cell?_alloc_lt _ _ _ hT0).trans t1
    · rw [if_neg hlt] at hKd hXd
      have hr := Lib.hid (fun W => d_uround (hlf (pfu d b p)) (by unfold hlf; split <;> omega) W)
      rw [← hKd] at hr
      have a1 := and_u64_one (pfu d b p) (by omega)
      have a2 := or_u64_hlf (pfu d b p) (by omega)
      have a0 : ((pfu d b p % 2 : Nat) : Int) = (pfu d b p : Int) % 2 := by omega
      have a00 : ((pfu d b p / 2 : Nat) : Int) = (pfu d b p : Int) / 2 := by omega
      rw [a0] at a1 a2
      rw [a00] at a2
      clear a0 a00
      have hXe : -(pfe b p - 1) = (pfX d b p : Int) - 1074 := by omega
      have hpk2 := Lib.hid (hpk.out (-(pfe b p - 1)) hXe (by omega))
      have o1 : decide ((36028797018963966 : Int) ≤ (pfu d b p : Int)) = true := by simp; omega
      have o2 : decide (36028797018963966 ≤ pfu d b p) = true := by simp; omega
      have o3 : bits BinOp.or IntKind.u64 0 (pfK d b p : Int) = (pfK d b p : Int) := by
        have := u64_or_nat 0 (pfK d b p) (by omega) (by omega)
        rw [Nat.zero_or] at this
        exact this
      clear hXd hKd hpk hXe hK
      generalize pfX d b p = X at *
      generalize pfK d b p = K at *
      generalize hlf (pfu d b p) = hu at *
      generalize pfu d b p = u at *
      generalize pfe b p = e at *
      generalize tabL p = lp at *
      clear hlt hX' hsI
      go_enter Tryz.func213, Tryz.ntmps213
      go_wp2_with (first | (go_at_call 146; refine (hL.out _).mono ?_; rintro e' w1 ⟨rfl, rfl⟩) | (go_at_call 186; refine (hl2.out _).mono ?_; rintro e' w1 ⟨rfl, rfl⟩))
      refine (hP.out _ ((Below.refl _ _).alloc (Nat.le_refl _) _) ?_ ?_ ?_ ?_ ?_ ?_ ?_ ?_).mono ?_
      case refine_9 =>
        rintro e' w1 ⟨rfl, hsc⟩
        obtain ⟨k0, k1, k2, hbel⟩ := id hsc
        replace hbel := Lib.hid hbel
        go_wp2_with fail
        refine (hU.out _ hsc).mono ?_
        rintro e' w2 ⟨rfl, hsc2⟩
        clear k0 k1 k2 hsc
        have hbel2 := Lib.hid hsc2.2.2.2
        clear hsc2
        go_wp2_with fail
        refine (hum.out _).mono ?_
        rintro e' w3 ⟨rfl, rfl⟩
        go_wp2_with fail
        refine (hb2.out _ _).mono ?_
        rintro e' w3 ⟨rfl, rfl⟩
        simp only [b2n]
        go_wp2_with fail
        refine (hr.out _).mono ?_
        rintro e' w3 ⟨rfl, rfl⟩
        go_wp2_with fail
        refine (hpk2.out _).mono ?_
        rintro e' w3 ⟨rfl, rfl⟩
        go_wp2_with fail
        go_ret2
        exact ⟨rfl, hbel2.out⟩
      case refine_1 => simp
      case refine_2 => simp
      case refine_3 => simp
      case refine_4 => simp
      case refine_5 => simp
      case refine_6 => simp
      case refine_7 => exact (World.cell?_alloc_lt _ _ _ hT0).trans t0
      case refine_8 => exact (World.cell?_alloc_lt _ _ _ hT0).trans t1
end Go.Proofs.YtbakbikilbaafaaGreatDoor
namespace Go.Proofs.YtbakbikilbaafaaGreatDoor
open Go.RowKit
set_option maxHeartbeats 1000000
set_option maxRecDepth 100000

theorem below_drewN {B : Nat} {a w : World} (h : Below B a w) (n : Nat) : Below B a (w.drewN n) := ⟨h.os, h.tape, h.output, h.size, h.block⟩
theorem set_other {w : World} {b i j : Nat} {v : Value} (h : i ≠ j) : (w.setCell ⟨b, i, none⟩ v).cell? ⟨b, j, none⟩ = w.cell? ⟨b, j, none⟩ :=
  World.cell?_setCell_other w _ _ v (fun e => h (by injection e))
theorem set_sameD {w : World} {b i : Nat} {u v : Value} (h : w.cell? ⟨b, i, none⟩ = some u) : (w.setCell ⟨b, i, none⟩ v).cell? ⟨b, i, none⟩ = some v :=
  World.cell?_setCell_same w _ v h
end Go.Proofs.YtbakbikilbaafaaGreatDoor
namespace Go.Proofs.YtbakbikilbaafaaGreatDoor
open Go.RowKit
set_option maxHeartbeats 1000000
set_option maxRecDepth 100000

/-- the table of powers of ten as words -/
def P10 (w : World) : Prop := ∀ i : Nat, i < 20 → w.cell? ⟨1, i, none⟩ = some (.int .u64 ((10 ^ i : Nat) : Int))
def ndFacts (L : Nat) : Bool :=
  let l := L * 78913 / 262144
  decide (2 ^ L ≤ 10 ^ (l + 1)) && decide (l < 20) && (decide (l = 0) || decide (10 ^ (l - 1) ≤ 2 ^ (L - 1)))
theorem ndFacts_all : ∀ L : Nat, L < 65 → ndFacts L = true := by decide +kernel
theorem bitLen_lib (d : Nat) (hd : d < 2 ^ 64) : d < 2 ^ Lib.bitLen d ∧ (d ≠ 0 → 2 ^ (Lib.bitLen d - 1) ≤ d) := by
  induction d using Nat.strongRecOn with
  | ind d ih =>
    by_cases h : d = 0
    · subst h; exact ⟨by decide, fun h => absurd rfl h⟩
    · by_cases hd1 : d = 1
      · subst hd1; exact ⟨by decide, fun _ => by decide⟩
      rw [Lib.bitLen_half d h hd]
      obtain ⟨h1, h2⟩ := ih (d / 2) (by omega) (by omega)
      generalize Lib.bitLen (d / 2) = L at *
      have e : 2 ^ (1 + L) = 2 * 2 ^ L := by rw [Nat.pow_add]
      rw [e]
      refine ⟨by omega, fun _ => ?_⟩
      have : 1 + L - 1 = L := by omega
      rw [this]
      have h3 := h2 (by omega)
      · have hL : 1 ≤ L := by
          rcases Nat.eq_zero_or_pos L with h' | h'
          · subst h'; simp at h1; omega
          · exact h'
        have e2 : 2 ^ L = 2 * 2 ^ (L - 1) := by rw [← Nat.pow_succ']; congr 1; omega
        omega
theorem c_numDigits (d : Nat) (h0 : 0 < d) (h1 : d < 1000000000000000000) (w : World) (hT : P10 w) :
    Calls Tryz.prog 125 #[.int .u64 (d : Int)] w fun e w' => ∃ n : Nat, e = .returned (.int .i64 (n : Int)) ∧ IsNd d n ∧ w = w' := by
  have e64 : (2 : Nat) ^ 64 = 18446744073709551616 := by decide
  obtain ⟨b1, b2⟩ := bitLen_lib d (by omega)
  clear e64
  have b2 := b2 (by omega)
  have hlen := fun w => d_Len64 (d : Int) w (by omega) (by omega)
  have et : (d : Int).toNat = d := by omega
  rw [et] at hlen
  have hL : Lib.bitLen d < 65 := by
    rcases Nat.lt_or_ge (Lib.bitLen d) 65 with h | h
    · exact h
    · exfalso
      have := Nat.pow_le_pow_right (n := 2) (by decide) (show 64 ≤ Lib.bitLen d - 1 by omega)
      have e : (2 : Nat) ^ 64 = 18446744073709551616 := by decide
      omega
  have hL1 : 1 ≤ Lib.bitLen d := by
    rcases Nat.eq_zero_or_pos (Lib.bitLen d) with h | h
    · rw [h] at b1; simp at b1; omega
    · exact h
  have hf := ndFacts_all _ hL
  generalize Lib.bitLen d = L at *
  unfold ndFacts at hf
  have hlog0 := fun w => d_log10Pow2 (L : Int) (by omega) (by omega) w
  have hlog : ∀ w : World, Calls Tryz.prog 153 #[.int .i64 (L : Int)] w fun e w' => e = .returned (.int .i64 ((L * 78913 / 262144 : Nat) : Int)) ∧ w = w' := hlog0
  clear hlog0
  generalize L * 78913 / 262144 = l at *
  simp only [Bool.and_eq_true, Bool.or_eq_true, decide_eq_true_eq] at hf
  obtain ⟨⟨f1, f2⟩, f3⟩ := hf
  have hc := hT l f2
  have hres : IsNd d (l + b2n (decide (10 ^ l ≤ d))) := by
    by_cases h : 10 ^ l ≤ d
    · have e : b2n (decide (10 ^ l ≤ d)) = 1 := by rw [decide_eq_true h]; rfl
      rw [e]
      exact ⟨by omega, by simpa using h, Nat.lt_of_lt_of_le b1 f1⟩
    · have e : b2n (decide (10 ^ l ≤ d)) = 0 := by rw [decide_eq_false h]; rfl
      rw [e, Nat.add_zero]
      rcases f3 with f3 | f3
      · subst f3; simp at h; omega
      · have hl1 : 1 ≤ l := by
          rcases Nat.eq_zero_or_pos l with h' | h'
          · subst h'; simp at h; omega
          · exact h'
        exact ⟨hl1, Nat.le_trans f3 b2, by omega⟩
  have hB := Lib.hid (fun w => d_bool2int (decide (10 ^ l ≤ d)) w)
  have hb1 : b2n (decide (10 ^ l ≤ d)) ≤ 1 := by cases decide (10 ^ l ≤ d) <;> decide
  generalize hbb : decide (10 ^ l ≤ d) = bb at *
  generalize b2n bb = r at *
  replace hlen := Lib.hid hlen
  replace hlog := Lib.hid hlog
  replace hres := Lib.hid hres
  clear hT f1 f3 b1 b2 et
  generalize 10 ^ l = T at *
  go_enter Tryz.func125, Tryz.ntmps125
  go_wp2_with (first | (go_at_call 146; refine (hlen.out _).mono ?_; rintro e w1 ⟨rfl, rfl⟩) | (go_at_call 153; refine (hlog.out _).mono ?_; rintro e w1 ⟨rfl, rfl⟩) | (go_at_call 154; refine (hB.out _).mono ?_; rintro e w1 ⟨rfl, rfl⟩))
  go_ret
  exact ⟨l + r, by go_num, hres.out, rfl⟩
end Go.Proofs.YtbakbikilbaafaaGreatDoor
