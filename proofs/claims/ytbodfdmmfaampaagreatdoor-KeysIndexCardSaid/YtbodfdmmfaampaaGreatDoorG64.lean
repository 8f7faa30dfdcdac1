/-
  Plain facts: comparisons and bit operations of float words. Conditions: as each theorem says.
-/
import Derived.Laws.FloatArith
import Derived.Laws.BitsAllLaws
import Derived.WalkKit
import Derived.Test.YtbodfdmmfaampaaGreatDoorF64
namespace F64
open Ieee Go Go.RowKit

abbrev O (x y : Nat) := FloatKind.f64.format.order x y
theorem O_eq (x y : Nat) : FloatKind.f64.format.order x y = double.order x y := rfl

theorem sgn_small {x : Nat} (h : x < 9223372036854775808) : sgn x = false := by unfold sgn; rw [beq_eq_false_iff_ne]; omega
theorem rung_small {x : Nat} (h : x < 9223372036854775808) : rung x = x := Nat.mod_eq_of_lt h
theorem fin_small {x : Nat} (h : x < 9218868437227405312) : fin x = true := by
  unfold fin; rw [rung_small (by omega)]; exact decide_eq_true h
theorem SV_small {x : Nat} (h : x < 9223372036854775808) : SV x = (V x : Int) := by
  unfold SV; rw [sgn_small h, rung_small h]; rfl

theorem order_small {x y : Nat} (hx : x < 9218868437227405312) (hy : y < 9218868437227405312) : double.order x y = some (compare x y) := by
  rw [order_fin (fin_small hx) (fin_small hy), SV_small (by omega), SV_small (by omega)]
  congr 1
  have h1 : ((V x : Int) < (V y : Int)) ↔ x < y := by rw [Int.ofNat_lt]; exact V_lt_iff
  have h2 : ((V x : Int) = (V y : Int)) ↔ x = y := by
    constructor
    · intro h; exact V_inj (Int.ofNat_inj.1 h)
    · intro h; rw [h]
  simp only [compare, compareOfLessAndEq, h1, h2]

theorem cmp_lt (x y : Nat) : (some (compare x y) == some Ordering.lt) = decide (x < y) := by
  simp only [compare, compareOfLessAndEq]
  by_cases h : x < y
  · simp [h]
  · by_cases h2 : x = y
    · simp [h2]
    · simp [h, h2]
theorem cmp_gt (x y : Nat) : (some (compare x y) == some Ordering.gt) = decide (y < x) := by
  simp only [compare, compareOfLessAndEq]
  by_cases h : x < y
  · simp [h]; omega
  · by_cases h2 : x = y
    · simp [h2]
    · simp [h, h2]; omega
theorem cmp_eq (x y : Nat) : (some (compare x y) == some Ordering.eq) = decide (x = y) := by
  simp only [compare, compareOfLessAndEq]
  by_cases h : x < y
  · simp [h]; omega
  · by_cases h2 : x = y
    · simp [h2]
    · simp [h, h2]

theorem ord_lt {x y : Nat} (hx : x < 9218868437227405312) (hy : y < 9218868437227405312) : (FloatKind.f64.format.order x y == some Ordering.lt) = decide (x < y) := by
  rw [O_eq, order_small hx hy, cmp_lt]
theorem ord_gt {x y : Nat} (hx : x < 9218868437227405312) (hy : y < 9218868437227405312) : (FloatKind.f64.format.order x y == some Ordering.gt) = decide (y < x) := by
  rw [O_eq, order_small hx hy, cmp_gt]
theorem ord_eq {x y : Nat} (hx : x < 9218868437227405312) (hy : y < 9218868437227405312) : (FloatKind.f64.format.order x y == some Ordering.eq) = decide (x = y) := by
  rw [O_eq, order_small hx hy, cmp_eq]

/-- a NaN is told by x != x -/
theorem ord_self (x : Nat) : (FloatKind.f64.format.order x x != some Ordering.eq) = isNaN x := by
  rw [O_eq]
  by_cases h : isNaN x = true
  · obtain ⟨f, hf⟩ := read_nan h
    unfold Format.order; rw [hf, h]; rfl
  · have h' : ¬ 9218868437227405312 < rung x := by simpa [isNaN] using h
    have hn : isNaN x = false := by simpa using h
    rw [hn]
    rcases Nat.lt_or_ge (rung x) 9218868437227405312 with h1 | h1
    · rw [order_fin (decide_eq_true h1) (decide_eq_true h1)]
      simp [compare, compareOfLessAndEq]
    · have h2 : rung x = 9218868437227405312 := by omega
      unfold Format.order; rw [read_inf h2]
      simp [Datum.order, compare, compareOfLessAndEq]

/-- infinity is told by x > MaxFloat64 -/
theorem ord_max {x : Nat} (hx : x < 18446744073709551616) : (FloatKind.f64.format.order x 9218868437227405311 == some Ordering.gt) = decide (x = 9218868437227405312) := by
  rw [O_eq]
  by_cases h : isNaN x = true
  · obtain ⟨f, hf⟩ := read_nan h
    have h' : 9218868437227405312 < rung x := of_decide_eq_true h
    have : x ≠ 9218868437227405312 := by intro e; subst e; simp [rung] at h'
    unfold Format.order; rw [hf]; simp [Datum.order, this]
  · have h' : ¬ 9218868437227405312 < rung x := by simpa [isNaN] using h
    rcases Nat.lt_or_ge (rung x) 9218868437227405312 with h1 | h1
    · have h3 : x ≠ 9218868437227405312 := by intro e; subst e; simp [rung] at h1
      rw [order_fin (decide_eq_true h1) (fin_small (by decide)), SV_small (x := 9218868437227405311) (by decide)]
      have h4 : SV x ≤ (V 9218868437227405311 : Int) := by
        have := V_le (show rung x ≤ 9218868437227405311 by omega)
        unfold SV; split <;> omega
      have h5 : ¬ (V 9218868437227405311 : Int) < SV x := by omega
      rw [decide_eq_false h3]
      simp only [compare, compareOfLessAndEq]
      by_cases h6 : SV x < (V 9218868437227405311 : Int)
      · simp [h6]
      · have : SV x = (V 9218868437227405311 : Int) := by omega
        simp [this]
    · have h2 : rung x = 9218868437227405312 := by omega
      have hr : double.read 9218868437227405311 = .number false (man 9218868437227405311) (-1074 + (ex 9218868437227405311 : Int)) := by
        have := read_fin (w := 9218868437227405311) (fin_small (by decide))
        rw [sgn_small (by decide), rung_small (by decide)] at this
        exact this
      unfold Format.order; rw [read_inf h2, hr]
      have hp := wd_parts x hx
      rw [h2] at hp
      cases hs : sgn x
      · rw [hs] at hp
        have : x = 9218868437227405312 := hp.symm
        simp [Datum.order, this]
      · rw [hs] at hp
        have : x ≠ 9218868437227405312 := by rw [← hp]; decide
        simp [Datum.order, this]

/- bits -/
theorem b_abs {x : Nat} (hx : x < 18446744073709551616) : (bits BinOp.andNot IntKind.u64 (x : Int) 9223372036854775808) = (rung x : Int) := by
  rw [show (9223372036854775808 : Int) = ((9223372036854775808 : Nat) : Int) from rfl, u64_andNot_nat _ _ hx (by decide)]
  rw [show 18446744073709551615 - 9223372036854775808 = 2 ^ 63 - 1 from rfl, Nat.and_two_pow_sub_one_eq_mod]; rfl
theorem b_sgn {x : Nat} (hx : x < 18446744073709551616) : (bits BinOp.and IntKind.u64 (x : Int) 9223372036854775808) = ((wd (sgn x) 0 : Nat) : Int) := by
  rw [show (9223372036854775808 : Int) = ((9223372036854775808 : Nat) : Int) from rfl, u64_and_nat _ _ hx (by decide)]
  rw [show (9223372036854775808 : Nat) = 2 ^ 63 from rfl, nat_bit]
  congr 1
  unfold wd sgn
  have : x / 9223372036854775808 % 2 = 0 ∨ x / 9223372036854775808 % 2 = 1 := by omega
  rcases this with h | h <;> simp [h]
theorem b_join {x : Nat} (s : Bool) (hx : x < 9223372036854775808) : (bits BinOp.or IntKind.u64 (x : Int) ((wd s 0 : Nat) : Int)) = ((wd s x : Nat) : Int) := by
  rw [u64_or_nat _ _ (by omega) (wd_lt _ _ (by decide))]
  congr 1
  cases s
  · simp [wd]
  · rw [Nat.or_comm]
    unfold wd
    simp only [if_true, Nat.add_zero]
    rw [nat_join 63 _ _ (by decide) (by omega)]
theorem w64_neg {x : Nat} (hx : x < 18446744073709551616) : decide (wrap64 (x : Int) < 0) = sgn x := by
  unfold wrap64 sgn
  rw [Bool.eq_iff_iff, decide_eq_true_iff, beq_iff_eq]
  by_cases h : x < 9223372036854775808
  · constructor <;> intro _ <;> omega
  · constructor <;> intro _ <;> omega
theorem b_neg {x : Nat} (hx : x < 18446744073709551616) : x ^^^ 9223372036854775808 = wd (!sgn x) (rung x) := by
  have hp := wd_parts x hx
  have hl := rung_lt x
  generalize rung x = r at *
  have hx1 : r ^^^ 9223372036854775808 = 9223372036854775808 + r := by
    have h1 : r &&& 9223372036854775808 = 0 := by
      rw [show (9223372036854775808 : Nat) = 2 ^ 63 from rfl, nat_bit, Nat.div_eq_of_lt (by omega)]
    rw [Nat.xor_comm]
    have h2 := nat_join 63 9223372036854775808 r (by decide) (by omega)
    rw [← h2]
    apply Nat.eq_of_testBit_eq
    intro i
    have h3 := congrArg (Nat.testBit · i) h1
    simp only [Nat.testBit_and, Nat.zero_testBit] at h3
    rw [Nat.testBit_xor, Nat.testBit_or]
    cases ha : r.testBit i <;> cases hb : (9223372036854775808 : Nat).testBit i <;> simp_all
  cases hs : sgn x
  · rw [hs] at hp
    have : x = r := hp.symm
    rw [this, hx1]; rfl
  · rw [hs] at hp
    have : x = 9223372036854775808 + r := hp.symm
    rw [this, ← hx1, Nat.xor_assoc, Nat.xor_self, Nat.xor_zero]; rfl
end F64
