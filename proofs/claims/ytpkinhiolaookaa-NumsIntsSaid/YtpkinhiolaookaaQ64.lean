/-
  Plain facts: the power of two floats as the document defines it. Conditions: as each theorem says.
-/
import Derived.Test.YtpkinhiolaookaaP64
namespace F64
open Ieee Go Go.RowKit

/-- the power's loop: so many digits of the exponent are still to come -/
def pl (N : Nat) (a : Option Nat) : Nat → Option Nat → Option Nat
  | 0, p => p
  | k + 1, p => pl N a k (if N / 2 ^ k % 2 = 1 then om (om p p) a else om p p)
/-- the digit that comes next, as a number -/
def bitOf (k : Nat) : Nat := 2 ^ k / 2
theorem bitOf_zero : bitOf 0 = 0 := rfl
theorem bitOf_succ (k : Nat) : bitOf (k + 1) = 2 ^ k := by unfold bitOf; rw [Nat.pow_succ, Nat.mul_div_cancel _ (by decide)]
theorem bitOf_half (k : Nat) : bitOf (k + 1) / 2 = bitOf k := by rw [bitOf_succ]; rfl

theorem and_bit (N k : Nat) (hN : N < 9223372036854775808) (hk : k ≤ 10) : (bits BinOp.and IntKind.i64 (N : Int) (bitOf (k + 1) : Int) != 0) = decide (N / 2 ^ k % 2 = 1) := by
  rw [bitOf_succ]
  have hp : 2 ^ k ≤ 2 ^ 10 := pow_ge hk
  rw [i64_and_nat _ _ hN (by omega), nat_bit]
  have h2 : N / 2 ^ k % 2 = 0 ∨ N / 2 ^ k % 2 = 1 := by omega
  have hpos := Nat.two_pow_pos k
  rcases h2 with h | h
  · rw [h, Nat.zero_mul]; rfl
  · rw [h, Nat.one_mul, decide_eq_true rfl, bne_iff_ne]
    generalize 2 ^ k = p at *
    omega
end F64
namespace F64
open Ieee Go Go.RowKit

abbrev ONE : Nat := 4607182418800017408
def oEq (x y : Nat) : Bool := FloatKind.f64.format.order x y == some Ordering.eq
def oGt (x y : Nat) : Bool := FloatKind.f64.format.order x y == some Ordering.gt
def oLt (x y : Nat) : Bool := FloatKind.f64.format.order x y == some Ordering.lt
def oNe (x y : Nat) : Bool := FloatKind.f64.format.order x y != some Ordering.eq

/-- as if the exponent were infinite -/
def farO (a : Nat) (up : Bool) : Option Nat :=
  if oEq (rung a) 4607182418800017408 = true then none else if oGt (rung a) 4607182418800017408 = up then some 9218868437227405312 else some 0
/-- numbers of whose great powers nothing is left but a sign -/
def big (a : Nat) : Bool := oNe a 0 && oNe a 4607182418800017408 && oNe a 13830554455654793216 && !decide (rung a = 9218868437227405312)
def lastO (b : Nat) (p : Option Nat) : Option Nat := if oLt b 0 = true then od (some 4607182418800017408) p else p
/-- the power to a whole exponent: K is its magnitude -/
def wholeO (a b K : Nat) : Option Nat :=
  if oGt (rung b) 4652218415073722368 = true then
    if big a = true then (farO a (oGt b 0)).map fun r => if (oLt a 0 && K % 2 == 1) = true then r ^^^ 9223372036854775808 else r
    else lastO b (pl (2 + K % 2) (some a) 11 (some 4607182418800017408))
  else lastO b (pl K (some a) 11 (some 4607182418800017408))
def powO (a b : Nat) : Option Nat :=
  if isNaN b = true then none
  else if oEq b 0 = true then some 4607182418800017408
  else if isNaN a = true then none
  else if rung b = 9218868437227405312 then farO a (oGt b 0)
  else if oEq b 4602678819172646912 = true then (if rung a = 9218868437227405312 then some 9218868437227405312 else oa (double.sqrt a) (some 0))
  else if V (rung b) / U * U = V (rung b) then wholeO a b (V (rung b) / U) else none

/-- 2, 1024 as words -/
theorem V_1024 : V 4652218415073722368 = 2 ^ 10 * U := V_pow (m := 52) (e := 1032) (by decide) (by decide) rfl
theorem V_two : V 4611686018427387904 = 2 ^ 1 * U := V_pow (m := 52) (e := 1023) (by decide) (by decide) rfl
theorem le_1024 {n K : Nat} (hn : n < 9218868437227405312) (hv : V n = K * U) (h : (FloatKind.f64.format.order n 4652218415073722368 == some Ordering.gt) = false) : K ≤ 1024 := by
  rw [ord_gt hn (by decide)] at h
  have h1 := V_le (Nat.le_of_not_lt (of_decide_eq_false h))
  rw [hv, V_1024] at h1
  have h2 : K ≤ 2 ^ 10 := Nat.le_of_mul_le_mul_right h1 U_pos
  omega
theorem conv_i64 {m K : Nat} (hm : m < 9218868437227405312) (hv : V m = K * U) (hk : K < 9223372036854775808) : floatToIntVal .f64 m .i64 = some (K : Int) := by
  have h := TI_whole hm hv
  rw [← h]
  apply toIntVal_fin (fin_small hm)
  · rw [h]; simp [IntKind.min, IntKind.signed, IntKind.bits]
  · rw [h]; simp [IntKind.max, IntKind.signed, IntKind.bits]; omega
/-- the rest by 2 of a whole number -/
theorem rest_two {n r K : Nat} (hv : V n = K * U) (hr : V r = V n % V 4611686018427387904) : r = if K % 2 = 1 then 4607182418800017408 else 0 := by
  rw [V_two, hv, Nat.mul_mod_mul_right] at hr
  have h2 : K % 2 = 0 ∨ K % 2 = 1 := by omega
  apply V_inj
  rw [hr]
  rcases h2 with h | h
  · rw [Nat.pow_one, h, if_neg (by decide), V_zero, Nat.zero_mul]
  · rw [Nat.pow_one, h, if_pos rfl, V_one, Nat.one_mul]
theorem two_and_one : double.add 4607182418800017408 4611686018427387904 = some 4613937818241073152 := by decide +kernel
theorem two_and_none : double.add 0 4611686018427387904 = some 4611686018427387904 := by decide +kernel
theorem V_times {r c m e : Nat} (hm : man r = c * 2 ^ m) (he : ex r = e) (h : m + e = 1074) : V r = c * U := by
  unfold V; rw [hm, he, Nat.mul_assoc, U_parts m e h]
theorem V_three : V 4613937818241073152 = 3 * U := V_times (m := 51) (e := 1023) (by decide) (by decide) rfl
theorem whole_test {b t : Nat} (hb : fin b = true) (ht : t < 9218868437227405312) (hv : V t = V (rung b) / U * U) :
    oNe b (wd (sgn b) t) = !decide (V (rung b) / U * U = V (rung b)) ∧ oNe (wd (sgn b) t) b = !decide (V (rung b) / U * U = V (rung b)) := by
  have hs : SV (wd (sgn b) t) = if sgn b then -(V t : Int) else (V t : Int) := by
    unfold SV; rw [sgn_wd _ _ (by omega), rung_wd _ _ (by omega)]
  have h1 : oNe b (wd (sgn b) t) = !decide (SV b = SV (wd (sgn b) t)) := by
    unfold oNe bne; rw [ord_fin_eq hb (fin_wd ht)]
  have h2 : oNe (wd (sgn b) t) b = !decide (SV (wd (sgn b) t) = SV b) := by
    unfold oNe bne; rw [ord_fin_eq (fin_wd ht) hb]
  rw [h1, h2, hs, ← hv]
  unfold SV
  constructor
  · congr 1; rw [decide_eq_decide]; cases sgn b <;> simp <;> omega
  · congr 1; rw [decide_eq_decide]; cases sgn b <;> simp <;> omega
end F64
