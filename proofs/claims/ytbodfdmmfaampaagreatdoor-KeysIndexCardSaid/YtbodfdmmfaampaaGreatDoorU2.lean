/-
  Contracts of the program's even, unit, Len, Units. Condition: the text is shorter than 2^40 bytes.
-/
import Derived.Test.YtbodfdmmfaampaaGreatDoorU1
namespace Go.Proofs.YtbodfdmmfaampaaGreatDoor
open Go.RowKit
set_option maxHeartbeats 400000
set_option maxRecDepth 100000

/-- a text without an odd byte -/
def evenB (s : ByteArray) : ByteArray := s.extract 0 (s.size / 2 * 2)
theorem evenB_size (s : ByteArray) : (evenB s).size = s.size / 2 * 2 := by unfold evenB; rw [ByteArray.size_extract]; omega
theorem and_not1 (n : Nat) (h : n < 9223372036854775808) : bits BinOp.andNot IntKind.i64 (n : Int) 1 = ((n / 2 * 2 : Nat) : Int) := by
  have key : (BitVec.ofInt 64 (n : Int) &&& ~~~ BitVec.ofInt 64 1).toNat = n / 2 * 2 := by
    rw [BitVec.toNat_and, ofInt_u64 n (by omega)]
    have : (~~~ BitVec.ofInt 64 1).toNat = 18446744073709551614 := by decide
    rw [this]
    have e : n &&& 18446744073709551614 = n / 2 * 2 := by
      have h1 : n = n / 2 * 2 + n % 2 := by omega
      apply Nat.eq_of_testBit_eq
      intro i
      rw [Nat.testBit_and]
      cases i with
      | zero => simp [Nat.testBit_zero]
      | succ j =>
        rw [Nat.testBit_succ, Nat.testBit_succ]
        have h2 : n / 2 * 2 / 2 = n / 2 := by omega
        rw [Nat.testBit_succ, h2]
        have h3 : (18446744073709551614 : Nat) / 2 = 2 ^ 63 - 1 := by decide
        rw [h3, Nat.testBit_two_pow_sub_one]
        by_cases hj : j < 63
        · simp [hj]
        · have : (n / 2).testBit j = false := Nat.testBit_lt_two_pow (Nat.lt_of_lt_of_le (by omega : n / 2 < 2 ^ 63) (Nat.pow_le_pow_right (by decide) (by omega)))
          rw [this]; simp
    exact e
  show IntKind.i64.wrap ((BitVec.ofInt 64 (n : Int) &&& ~~~ BitVec.ofInt 64 1).toNat : Nat) = _
  rw [key, IntKind.wrap_i64]
  omega

theorem c_even (s : ByteArray) (hs : s.size ≤ 1099511627776) (w : World) :
    Calls Tryz.prog 32 #[.string s] w fun e w' => e = .returned (.string (evenB s)) ∧ w = w' := by
  have h := and_not1 s.size (by omega)
  have h1 : s.size / 2 * 2 ≤ s.size := by omega
  unfold evenB
  generalize s.size / 2 * 2 = n at *
  go_enter Tryz.func32, Tryz.ntmps32
  go_wp2
  go_ret
  exact ⟨rfl, rfl⟩
theorem c_ULen (s : ByteArray) (hs : s.size ≤ 1099511627776) (w : World) :
    Calls Tryz.prog 15 #[.string s] w fun e w' => e = .returned (.int .i64 ((s.size / 2 : Nat) : Int)) ∧ w = w' := by
  go_enter Tryz.func15, Tryz.ntmps15
  go_wp2
  go_ret
  exact ⟨rfl, rfl⟩
theorem unit_or (s : ByteArray) (k : Nat) (i j : Int) (hi : i = 2 * (k : Int)) (hj : j = 2 * (k : Int) + 1) (h1 : i.toNat < s.size) (h2 : j.toNat < s.size) :
    bits BinOp.or IntKind.u16 (IntKind.u16.wrap (IntKind.u16.wrap (s[i.toNat].toNat : Int) * 256)) (IntKind.u16.wrap (s[j.toNat].toNat : Int)) = (unitAt s k : Int) := by
  have e1 : i.toNat = 2 * k := by omega
  have e2 : j.toNat = 2 * k + 1 := by omega
  have a1 := ub_get s i.toNat h1
  have a2 := ub_get s j.toNat h2
  have b1 : s[i.toNat].toNat < 256 := s[i.toNat].toNat_lt
  have b2 : s[j.toNat].toNat < 256 := s[j.toNat].toNat_lt
  unfold unitAt
  rw [← a1, ← a2, e1, e2]
  rw [← a1, e1] at b1
  rw [← a2, e2] at b2
  generalize ub s (2 * k) = x at *
  generalize ub s (2 * k + 1) = y at *
  have w1 : IntKind.u16.wrap (IntKind.u16.wrap (x : Int) * 256) = ((x * 256 : Nat) : Int) := by simp only [IntKind.wrap_u16]; omega
  have w2 : IntKind.u16.wrap (y : Int) = (y : Int) := by simp only [IntKind.wrap_u16]; omega
  rw [w1, w2, u16_or_nat _ _ (by omega) (by omega), nat_join 8 _ _ (by omega) (by omega)]
theorem ret_int {k : IntKind} {a b : Int} (h : a = b) : Ending.returned (.int k a) = .returned (.int k b) := by rw [h]
theorem c_unit (s : ByteArray) (k : Nat) (hs : s.size ≤ 1099511627776) (hk : 2 * k + 1 < s.size) (w : World) :
    Calls Tryz.prog 33 #[.string s, .int .i64 (k : Int)] w fun e w' => e = .returned (.int .u16 (unitAt s k)) ∧ ∃ nq, w' = w.drewN nq := by
  have h0 : (0 : Int) ≤ 2 * (k : Int) := by omega
  have h1 : 2 * (k : Int) < (s.size : Int) := by omega
  have h2 : (0 : Int) ≤ 2 * (k : Int) + 1 := by omega
  have h3 : 2 * (k : Int) + 1 < (s.size : Int) := by omega
  have s1 : IntKind.i64.wrap (2 * (k : Int)) = 2 * (k : Int) := IntWalk.i64_in _ (by omega)
  have s2 : IntKind.i64.wrap (2 * (k : Int) + 1) = 2 * (k : Int) + 1 := IntWalk.i64_in _ (by omega)
  have hval := unit_or s k (2 * (k : Int)) (2 * (k : Int) + 1) rfl rfl (by omega) (by omega)
  go_enter Tryz.func33, Tryz.ntmps33
  go_wp2
  go_quiet (fail)
  go_wp2
  go_ret
  exact ⟨ret_int hval, _, rfl⟩
end Go.Proofs.YtbodfdmmfaampaaGreatDoor
