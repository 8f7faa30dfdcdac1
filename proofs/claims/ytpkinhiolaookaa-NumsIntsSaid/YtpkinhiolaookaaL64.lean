/-
  Plain facts: scaling a float by a power of two, exactly. Conditions: as each theorem says.
-/
import Derived.Test.YtpkinhiolaookaaK64
namespace F64
open Ieee Go Go.RowKit

theorem U_parts (a b : Nat) (h : a + b = 1074) : 2 ^ a * 2 ^ b = U := by
  unfold U; rw [← Nat.pow_add, h, ← PL_eq]
theorem V_of {r m e : Nat} (hm : man r = 2 ^ m) (he : ex r = e) (h : m + e = 1074) : V r = U := by
  unfold V; rw [hm, he]; exact U_parts m e h
theorem V_one : V 4607182418800017408 = U := V_of (m := 52) (e := 1022) (by decide) (by decide) rfl
theorem mul_one {d : Nat} (h : d < 9218868437227405312) : double.mul 4607182418800017408 d = some d := by
  have := mul_exact (x := 4607182418800017408) (y := d) (r := d) (fin_small (by decide)) (fin_small h) h (by
    rw [rung_small (by decide), rung_small (by omega), V_one, Nat.mul_comm])
  rw [this, sgn_small (by decide), sgn_small (by omega)]; rfl
theorem U_parts3 (a b c : Nat) (h : a + b + c = 1074) : 2 ^ a * 2 ^ b * 2 ^ c = U := by
  unfold U; rw [← Nat.pow_add, ← Nat.pow_add, h, ← PL_eq]
theorem V_of3 {r m e c : Nat} (hm : man r = 2 ^ m) (he : ex r = e) (h : m + e + c = 1074) : V r * 2 ^ c = U := by
  unfold V; rw [hm, he]; exact U_parts3 m e c h
theorem V_m53 : V 4368491638549381120 * 2 ^ 53 = U := V_of3 (m := 52) (e := 969) (by decide) (by decide) rfl
theorem mul_m53 {x d : Nat} (hx : x < 9218868437227405312) (h : d < 9218868437227405312) (hv : V d * 2 ^ 53 = V x) : double.mul 4368491638549381120 x = some d := by
  have := mul_exact (x := 4368491638549381120) (y := x) (r := d) (fin_small (by decide)) (fin_small hx) h (by
    rw [rung_small (by decide), rung_small (by omega), ← hv, ← V_m53, Nat.mul_left_comm])
  rw [this, sgn_small (by decide), sgn_small (by omega)]; rfl

theorem ld_hi {x d : Nat} {k : Int} (h0 : 0 < x) (h1 : 52 ≤ k + ne x)
    (hv : V d * 2 ^ 53 = nm x * 2 ^ (k + ne x + 1).toNat) : d = (k + ne x - 51).toNat * 4503599627370496 + (nm x - 4503599627370496) := by
  have hb := nm_bounds h0
  apply V_inj
  rw [word_V (by omega) (by omega), show 4503599627370496 + (nm x - 4503599627370496) = nm x by omega]
  apply Nat.eq_of_mul_eq_mul_right (Nat.two_pow_pos 53)
  rw [hv, Nat.mul_assoc, ← Nat.pow_add]
  congr 2; omega
theorem ld_lo {x d : Nat} {k : Int} (h0 : 0 < x) (h1 : -1 ≤ k + ne x)
    (hv : V d * 2 ^ 53 = nm x * 2 ^ (k + ne x + 1).toNat) : V d * 2 ^ 53 = V ((k + ne x + 2).toNat * 4503599627370496 + (nm x - 4503599627370496)) := by
  have hb := nm_bounds h0
  rw [word_V (by omega) (by omega), show 4503599627370496 + (nm x - 4503599627370496) = nm x by omega, hv]
  congr 2; omega
theorem b_or_field {t : Nat} {E : Int} (ht : t < 4503599627370496) (h0 : 0 ≤ E) (h1 : E < 2048) : bits BinOp.or IntKind.u64 (t : Int) (E * 4503599627370496) = ((E.toNat * 4503599627370496 + t : Nat) : Int) := by
  have := b_or52 (t := t) (f := E.toNat) ht (by omega)
  rw [← this]
  congr 1
  omega
theorem b_exp_j {z : Nat} (hz : z < 9223372036854775808) : bits BinOp.and IntKind.i64 ((z : Int) / 4503599627370496) 2047 = ((z / 4503599627370496 : Nat) : Int) := by
  have h := b_exp_i hz
  have e : wrap64 ((z : Int) / 4503599627370496) = (z : Int) / 4503599627370496 := by unfold wrap64; omega
  rw [e] at h
  exact h
end F64
