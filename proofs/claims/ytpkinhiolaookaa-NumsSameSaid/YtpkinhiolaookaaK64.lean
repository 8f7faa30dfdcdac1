/-
  Plain facts: the bit fields of float words. Conditions: as each theorem says.
-/
import Derived.Test.YtpkinhiolaookaaH64
namespace F64
open Ieee Go Go.RowKit

theorem b_exp_u {z : Nat} (hz : z < 9223372036854775808) : bits BinOp.and IntKind.u64 ((z : Int) / 4503599627370496) 2047 = ((z / 4503599627370496 : Nat) : Int) := by
  rw [show ((z : Int) / 4503599627370496) = ((z / 4503599627370496 : Nat) : Int) by omega, show (2047 : Int) = ((2047 : Nat) : Int) from rfl, u64_and_nat _ _ (by omega) (by decide), nat_mask11, Nat.mod_eq_of_lt (by omega)]
theorem i64_and_nat (a b : Nat) (ha : a < 9223372036854775808) (hb : b < 9223372036854775808) : bits .and .i64 (a : Int) (b : Int) = ((a &&& b : Nat) : Int) := by
  have key : (BitVec.ofInt 64 (a : Int) &&& BitVec.ofInt 64 (b : Int)).toNat = a &&& b := by
    rw [BitVec.toNat_and, ofInt_u64 a (by omega), ofInt_u64 b (by omega)]
  show IntKind.i64.wrap ((BitVec.ofInt 64 (a : Int) &&& BitVec.ofInt 64 (b : Int)).toNat : Nat) = ((a &&& b : Nat) : Int)
  rw [key, IntKind.wrap_i64]
  have : a &&& b ≤ a := Nat.and_le_left
  omega
theorem b_exp_i {z : Nat} (hz : z < 9223372036854775808) : bits BinOp.and IntKind.i64 (wrap64 ((z : Int) / 4503599627370496)) 2047 = ((z / 4503599627370496 : Nat) : Int) := by
  have e : wrap64 ((z : Int) / 4503599627370496) = ((z / 4503599627370496 : Nat) : Int) := by unfold wrap64; omega
  rw [e, show (2047 : Int) = ((2047 : Nat) : Int) from rfl, i64_and_nat _ _ (by omega) (by decide), nat_mask11, Nat.mod_eq_of_lt (by omega)]
theorem b_frac {z : Nat} (hz : z < 9223372036854775808) : bits BinOp.andNot IntKind.u64 (z : Int) 9218868437227405312 = ((z % 4503599627370496 : Nat) : Int) := by
  rw [show (9218868437227405312 : Int) = ((9218868437227405312 : Nat) : Int) from rfl, u64_andNot_nat _ _ (by omega) (by decide)]
  congr 1
  rw [show 18446744073709551615 - 9218868437227405312 = 9223372036854775808 ||| (2 ^ 52 - 1) from rfl, Nat.and_or_distrib_left, Nat.and_two_pow_sub_one_eq_mod]
  rw [show (9223372036854775808 : Nat) = 2 ^ 63 from rfl, nat_bit, Nat.div_eq_of_lt (by omega)]
  simp
theorem b_or52 {t f : Nat} (ht : t < 4503599627370496) (hf : f < 2048) : bits BinOp.or IntKind.u64 (t : Int) ((f * 4503599627370496 : Nat) : Int) = ((f * 4503599627370496 + t : Nat) : Int) := by
  rw [u64_or_nat _ _ (by omega) (by omega), Nat.or_comm, nat_join 52 _ _ (by simp) (by omega)]
theorem b_half {t : Nat} (ht : t < 4503599627370496) : bits BinOp.or IntKind.u64 (t : Int) 4602678819172646912 = ((4602678819172646912 + t : Nat) : Int) := by
  have := b_or52 (t := t) (f := 1022) ht (by decide)
  exact this

theorem word_V {f t : Nat} (hf : 1 ≤ f) (ht : t < 4503599627370496) : V (f * 4503599627370496 + t) = (4503599627370496 + t) * 2 ^ (f - 1) := by
  unfold V man ex
  rw [if_neg (by omega), if_neg (by omega)]
  have h1 : (f * 4503599627370496 + t) % 4503599627370496 = t := by omega
  have h2 : (f * 4503599627370496 + t) / 4503599627370496 = f := by omega
  rw [h1, h2]

theorem nz_field {x : Nat} (h0 : 0 < x) : nz x / 4503599627370496 = if x < 4503599627370496 then ne x + 1 else ne x - 51 := by
  rw [nz_div h0]; unfold ne
  split
  · rfl
  · omega
theorem ne_ge {x : Nat} (h : 4503599627370496 ≤ x) : 52 ≤ ne x := by unfold ne; rw [if_neg (by omega)]; omega
end F64
