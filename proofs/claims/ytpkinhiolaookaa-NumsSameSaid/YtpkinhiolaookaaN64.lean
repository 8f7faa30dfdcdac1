/-
  Plain facts: whole numbers as floats. Conditions: as each theorem says.
-/
import Derived.Test.YtpkinhiolaookaaM64
namespace F64
open Ieee Go Go.RowKit

/-- a finite word cut off to a whole number; else 0 -/
def TI (x : Nat) : Int := if fin x = true then (if sgn x then -((V (rung x) / U : Nat) : Int) else ((V (rung x) / U : Nat) : Int)) else 0

theorem toIntVal_fin {x : Nat} (hx : fin x = true) (dst : IntKind) (h1 : dst.min ≤ TI x) (h2 : TI x ≤ dst.max) : floatToIntVal .f64 x dst = some (TI x) := by
  unfold floatToIntVal
  have h : (FloatKind.f64.decode x).toInt .zero = some (TI x) := by
    have := toInt_fin hx
    unfold TI; rw [if_pos hx]; exact this
  rw [h]
  simp only [h1, h2, and_self, if_true]

theorem TI_whole {m K : Nat} (hm : m < 9218868437227405312) (hv : V m = K * U) : TI m = K := by
  unfold TI
  rw [if_pos (fin_small hm), sgn_small (by omega), rung_small (by omega), hv, Nat.mul_div_cancel _ U_pos]
  rfl
theorem conv_u64 {m K : Nat} (hm : m < 9218868437227405312) (hv : V m = K * U) (hk : K < 18446744073709551616) : floatToIntVal .f64 m .u64 = some (K : Int) := by
  have h := TI_whole hm hv
  rw [← h]
  apply toIntVal_fin (fin_small hm)
  · rw [h]; simp [IntKind.min, IntKind.signed]
  · rw [h]; simp [IntKind.max, IntKind.signed, IntKind.bits]; omega
theorem conv_zero (s : Bool) : floatToIntVal .f64 (wd s 0) .u64 = some 0 := by
  have hf : fin (wd s 0) = true := by cases s <;> decide
  have h : TI (wd s 0) = 0 := by
    unfold TI; rw [if_pos hf, rung_wd _ _ (by decide), V_zero, Nat.zero_div]; split <;> rfl
  rw [← h]
  apply toIntVal_fin hf
  · rw [h]; decide
  · rw [h]; decide

theorem U_parts_k (a b k : Nat) (h : a + b = 1074 + k) : 2 ^ a * 2 ^ b = 2 ^ k * U := by
  have h' : a + b = k + PL := by rw [PL_eq]; omega
  unfold U
  rw [← Nat.pow_add, ← Nat.pow_add, h']
theorem V_pow {r m e k : Nat} (hm : man r = 2 ^ m) (he : ex r = e) (h : m + e = 1074 + k) : V r = 2 ^ k * U := by
  unfold V; rw [hm, he]; exact U_parts_k m e k h
/-- 2^32 and 2^16 as words -/
theorem V_32 : V 4751297606875873280 = 2 ^ 32 * U := V_pow (m := 52) (e := 1054) (by decide) (by decide) rfl
theorem V_16 : V 4679240012837945344 = 2 ^ 16 * U := V_pow (m := 52) (e := 1038) (by decide) (by decide) rfl

/-- a whole number below 2^53 has a word -/
theorem iw (K : Nat) (h : K < 9007199254740992) : ∃ r, r < 9218868437227405312 ∧ V r = K * U :=
  rep PL K h (by rw [PL_eq]; omega)

theorem mod_whole {t r T k : Nat} (ht : V t = T * U) (hr : V r = V t % (2 ^ k * U)) : V r = (T % 2 ^ k) * U := by
  rw [hr, ht, Nat.mul_mod_mul_right]

/-- a negative rest, one divisor more -/
theorem add_back {r C K k : Nat} (hr : r < 9218868437227405312) (hC : C < 9218868437227405312) (hk : k ≤ 52) (hCv : V C = 2 ^ k * U) (hrv : V r = K * U) (h0 : 0 < K) (h1 : K < 2 ^ k) :
    ∃ m, m < 9218868437227405312 ∧ V m = (2 ^ k - K) * U ∧ double.add (wd true r) C = some m := by
  have hp : 2 ^ k ≤ 2 ^ 52 := pow_ge hk
  obtain ⟨m, hm, hv⟩ := iw (2 ^ k - K) (by omega)
  refine ⟨m, hm, hv, ?_⟩
  have hs : SV (wd true r) = -(V r : Int) := by unfold SV; rw [sgn_wd _ _ (by omega), rung_wd _ _ (by omega)]; rfl
  have hle : K * U ≤ 2 ^ k * U := Nat.mul_le_mul_right _ (by omega)
  have hlt : K * U < 2 ^ k * U := Nat.mul_lt_mul_of_pos_right h1 U_pos
  have hf : fin (wd true r) = true := by unfold fin; rw [rung_wd _ _ (by omega)]; exact decide_eq_true hr
  have e : SV (wd true r) + SV C = ((V m : Nat) : Int) := by
    rw [hs, SV_small (by omega), hrv, hCv, hv, Nat.mul_sub_right_distrib]; omega
  rw [add_exact hf (fin_small hC) hm (by rw [e]; rfl), e]
  congr 1
  unfold sumSgn
  rw [hv, Nat.mul_sub_right_distrib]
  rw [if_neg (by omega), decide_eq_false (by omega)]; rfl

theorem fin_wd {s : Bool} {r : Nat} (hr : r < 9218868437227405312) : fin (wd s r) = true := by
  unfold fin; rw [rung_wd _ _ (by omega)]; exact decide_eq_true hr

/-- 32 bits of a whole number -/
theorem neg_mod_pow (T k : Nat) : (-(T : Int)) % ((2 ^ k : Nat) : Int) = if T % 2 ^ k = 0 then 0 else ((2 ^ k - T % 2 ^ k : Nat) : Int) := by
  have hp := Nat.two_pow_pos k
  generalize 2 ^ k = p at *
  have h := Nat.div_add_mod T p
  have hl := Nat.mod_lt T hp
  have hT : (T : Int) = (p : Int) * ((T / p : Nat) : Int) + ((T % p : Nat) : Int) := by
    rw [← Int.natCast_mul, ← Int.natCast_add, h]
  generalize T % p = q at *
  generalize T / p = d at *
  rw [hT]
  split
  · rename_i h0
    rw [h0]
    rw [show -((p : Int) * (d : Int) + ((0 : Nat) : Int)) = (p : Int) * (-(d : Int)) by rw [Int.mul_neg]; omega]
    exact Int.mul_emod_right _ _
  · rw [show -((p : Int) * (d : Int) + (q : Int)) = ((p - q : Nat) : Int) + (p : Int) * (-(d : Int) - 1) by
      rw [Int.mul_sub, Int.mul_neg]; omega]
    rw [Int.add_mul_emod_self_left]
    exact Int.emod_eq_of_lt (by omega) (by omega)
end F64
