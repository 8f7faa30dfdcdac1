/-
  Plain facts: a positive float by its leading 53 digits. Conditions: as each theorem says.
-/
import Derived.Test.YtpkinhiolaookaaG64
namespace F64
open Ieee Go Go.RowKit

/-- a positive number by its leading 53 digits: V r * 2^52 = nm r * 2^ne r -/
def nm (r : Nat) : Nat := if r < 4503599627370496 then r * 2 ^ (52 - r.log2) else man r
def ne (r : Nat) : Nat := if r < 4503599627370496 then r.log2 else ex r + 52
def nz (r : Nat) : Nat := if r < 4503599627370496 then (r.log2 + 1) * 4503599627370496 + (nm r - 4503599627370496) else r

theorem log2_lt52 {r : Nat} (h0 : 0 < r) (h : r < 4503599627370496) : r.log2 < 52 :=
  (Nat.log2_lt (by omega)).2 (by omega)

theorem nm_bounds {r : Nat} (h0 : 0 < r) : 4503599627370496 ≤ nm r ∧ nm r < 9007199254740992 := by
  unfold nm
  by_cases h : r < 4503599627370496
  · rw [if_pos h]
    have hl := log2_lt52 h0 h
    have h1 := Nat.log2_self_le (n := r) (by omega)
    have h2 := @Nat.lt_log2_self r
    have e1 : (4503599627370496 : Nat) = 2 ^ r.log2 * 2 ^ (52 - r.log2) := by
      rw [← Nat.pow_add, show r.log2 + (52 - r.log2) = 52 by omega]
    have e2 : (9007199254740992 : Nat) = 2 ^ (r.log2 + 1) * 2 ^ (52 - r.log2) := by
      rw [← Nat.pow_add, show r.log2 + 1 + (52 - r.log2) = 53 by omega]
    constructor
    · rw [e1]; exact Nat.mul_le_mul_right _ h1
    · rw [e2]; exact Nat.mul_lt_mul_of_pos_right h2 (Nat.two_pow_pos _)
  · rw [if_neg h]
    unfold man
    rw [if_neg h]
    omega

theorem nm_V {r : Nat} (h0 : 0 < r) : V r * 4503599627370496 = nm r * 2 ^ ne r := by
  unfold nm ne V
  by_cases h : r < 4503599627370496
  · rw [if_pos h, if_pos h]
    have hl := log2_lt52 h0 h
    have : man r = r := by unfold man; rw [if_pos h]
    have e : ex r = 0 := by unfold ex; rw [if_pos h]
    rw [this, e, Nat.pow_zero, Nat.mul_one, Nat.mul_assoc, ← Nat.pow_add, show 52 - r.log2 + r.log2 = 52 by omega]
  · rw [if_neg h, if_neg h, Nat.mul_assoc, show (4503599627370496 : Nat) = 2 ^ 52 from rfl, ← Nat.pow_add]

theorem ex_lt {r : Nat} (h : r < 9218868437227405312) : ex r ≤ 2045 := by unfold ex; split <;> omega
theorem ne_le {r : Nat} (h0 : 0 < r) (h : r < 9218868437227405312) : ne r ≤ 2097 := by
  unfold ne
  split
  · rename_i h1; have := log2_lt52 h0 h1; omega
  · have := ex_lt h; omega

theorem nz_div {r : Nat} (h0 : 0 < r) : nz r / 4503599627370496 = (if r < 4503599627370496 then r.log2 + 1 else ex r + 1) := by
  have hb := nm_bounds h0
  unfold nz
  by_cases h : r < 4503599627370496
  · rw [if_pos h, if_pos h]; omega
  · rw [if_neg h, if_neg h]; unfold ex; rw [if_neg h]; omega
theorem nz_mod {r : Nat} (h0 : 0 < r) : nz r % 4503599627370496 = nm r - 4503599627370496 := by
  have hb := nm_bounds h0
  by_cases h : r < 4503599627370496
  · unfold nz; rw [if_pos h]; omega
  · unfold nz nm; rw [if_neg h, if_neg h]; unfold man; rw [if_neg h]; omega
theorem nz_lt {r : Nat} (h0 : 0 < r) (h : r < 9218868437227405312) : nz r < 9218868437227405312 := by
  have hb := nm_bounds h0
  unfold nz; split
  · rename_i h1; have := log2_lt52 h0 h1; omega
  · exact h
theorem nz_V {r : Nat} (h0 : 0 < r) (h : r < 4503599627370496) : V (nz r) = V r * 4503599627370496 := by
  rw [nm_V h0]
  have hb := nm_bounds h0
  have hd := nz_div h0
  have hm := nz_mod h0
  rw [if_pos h] at hd
  have hn : ¬ nz r < 4503599627370496 := by
    unfold nz; rw [if_pos h]; omega
  unfold V man ex
  rw [if_neg hn, if_neg hn, hd, hm]
  unfold ne; rw [if_pos h]
  rw [show 4503599627370496 + (nm r - 4503599627370496) = nm r by omega, Nat.add_sub_cancel]

/-- 2^52 as a word -/
theorem V_c52 : V 4841369599423283200 = 4503599627370496 * U := by
  have hm : man 4841369599423283200 = 4503599627370496 := by decide
  have he : ex 4841369599423283200 = PL := by decide
  unfold V U; rw [hm, he]

theorem norm_mul {x : Nat} (h0 : 0 < x) (h : x < 4503599627370496) : double.mul x 4841369599423283200 = some (nz x) := by
  have := mul_exact (x := x) (y := 4841369599423283200) (r := nz x) (fin_small (by omega)) (fin_small (by decide)) (nz_lt h0 (by omega)) (by
    rw [rung_small (by omega), rung_small (by decide), V_c52, nz_V h0 h, Nat.mul_assoc])
  rw [this, sgn_small (by omega), sgn_small (by decide)]; rfl
end F64
