/-
  Plain facts: whole numbers as floats, sums of them; cutting off; the greater and the lesser of two floats; equality is symmetric. Conditions: as each theorem says.
-/
import Derived.Test.YtpkinhiolaookaaQ64
import GoSem.Extern.MathDim
namespace F64
open Ieee Go Go.RowKit

theorem compare_eq_iff (a b : Int) : compare a b = .eq ↔ a = b := by
  simp only [compare, compareOfLessAndEq]
  by_cases h : a < b
  · simp [h]; omega
  · by_cases h2 : a = b
    · simp [h2]
    · simp [h, h2]
theorem compareN_eq_iff (a b : Nat) : compare a b = .eq ↔ a = b := by
  simp only [compare, compareOfLessAndEq]
  by_cases h : a < b
  · simp [h]; omega
  · by_cases h2 : a = b
    · simp [h2]
    · simp [h, h2]
theorem order_symm (x y : Datum) : (x.order y = some .eq) ↔ (y.order x = some .eq) := by
  cases x <;> cases y <;> simp only [Datum.order, Option.some.injEq, compare_eq_iff, compareN_eq_iff]
  · rw [Int.min_comm]; exact eq_comm
  · constructor <;> intro h <;> split at h <;> cases h
  · constructor <;> intro h <;> split at h <;> cases h
  · exact eq_comm
theorem beq_some_eq (o : Option Ordering) : (o == some .eq) = decide (o = some .eq) := by
  cases o with
  | none => rfl
  | some c => cases c <;> rfl
theorem ord_symm (x y : Nat) : (FloatKind.f64.format.order x y == some Ordering.eq) = (FloatKind.f64.format.order y x == some Ordering.eq) := by
  rw [beq_some_eq, beq_some_eq, decide_eq_decide]
  exact order_symm _ _

/-- a whole number as a float -/
theorem fi_word (n : Int) (h : n.natAbs < 9007199254740992) : ∃ r, r < 9218868437227405312 ∧ V r = n.natAbs * U ∧ floatOfInt .f64 n = wd (decide (n < 0)) r := by
  obtain ⟨r, hr, hv⟩ := iw n.natAbs h
  exact ⟨r, hr, hv, write_whole _ _ r hr hv⟩
theorem wd_SV {s : Bool} {r : Nat} (hr : r < 9218868437227405312) : SV (wd s r) = if s then -(V r : Int) else (V r : Int) := by
  unfold SV; rw [sgn_wd _ _ (by omega), rung_wd _ _ (by omega)]
theorem wd_TI {s : Bool} {r K : Nat} (hr : r < 9218868437227405312) (hv : V r = K * U) : TI (wd s r) = if s then -(K : Int) else (K : Int) := by
  unfold TI; rw [if_pos (fin_wd hr), sgn_wd _ _ (by omega), rung_wd _ _ (by omega), hv, Nat.mul_div_cancel _ U_pos]
theorem fi_SV {n : Int} {r : Nat} (hr : r < 9218868437227405312) (hv : V r = n.natAbs * U) : SV (wd (decide (n < 0)) r) = n * (U : Int) := by
  rw [wd_SV hr, hv]
  rcases Int.lt_or_le n 0 with h | h
  · rw [decide_eq_true h, if_pos rfl, Int.natCast_mul, ← Int.neg_mul]
    congr 1; omega
  · rw [decide_eq_false (by omega), if_neg (by decide), Int.natCast_mul]
    congr 1; omega
theorem fi_TI {n : Int} {r : Nat} (hr : r < 9218868437227405312) (hv : V r = n.natAbs * U) (s : Bool) (hs : n ≠ 0 → s = decide (n < 0)) : TI (wd s r) = n := by
  rw [wd_TI hr hv]
  by_cases h0 : n = 0
  · subst h0; cases s <;> rfl
  · rw [hs h0]
    rcases Int.lt_or_le n 0 with h | h
    · rw [decide_eq_true h, if_pos rfl]; omega
    · rw [decide_eq_false (by omega), if_neg (by decide)]; omega
theorem sumSgn_of {s t : Bool} {n : Int} (h : n ≠ 0) : sumSgn s t (n * (U : Int)) = decide (n < 0) := by
  have hU : (0 : Int) < (U : Int) := by have := U_pos; omega
  unfold sumSgn
  rw [if_neg (by intro e; rcases Int.mul_eq_zero.1 e with e | e <;> omega)]
  rw [decide_eq_decide]
  constructor
  · intro e; rcases Int.lt_or_le n 0 with h1 | h1
    · exact h1
    · have := Int.mul_nonneg h1 (Int.le_of_lt hU); omega
  · intro e; exact Int.mul_neg_of_neg_of_pos e hU
theorem iw2 (K : Nat) (h : K ≤ 9007199254740992) : ∃ r, r < 9218868437227405312 ∧ V r = K * U := by
  rcases Nat.lt_or_ge K 9007199254740992 with h1 | h1
  · exact iw K h1
  · obtain ⟨r, hr, hv⟩ := rep (PL + 1) 4503599627370496 (by decide) (by rw [PL_eq]; omega)
    refine ⟨r, hr, ?_⟩
    unfold U
    rw [hv, Nat.pow_succ, Nat.mul_comm (2 ^ PL), ← Nat.mul_assoc, show K = 4503599627370496 * 2 by omega]
/-- sums and differences of whole numbers are exact -/
theorem fi_add (a b : Int) (ha : a.natAbs ≤ 4503599627370496) (hb : b.natAbs ≤ 4503599627370496) :
    ∃ v, v < 18446744073709551616 ∧ double.add (floatOfInt .f64 a) (floatOfInt .f64 b) = some v ∧ TI v = a + b := by
  obtain ⟨x, hx, hxv, ex⟩ := fi_word a (by omega)
  obtain ⟨y, hy, hyv, ey⟩ := fi_word b (by omega)
  obtain ⟨z, hz, hzv⟩ := iw2 (a + b).natAbs (by omega)
  have e : SV (wd (decide (a < 0)) x) + SV (wd (decide (b < 0)) y) = (a + b) * (U : Int) := by
    rw [fi_SV hx hxv, fi_SV hy hyv, Int.add_mul]
  rw [ex, ey]
  have := add_exact (x := wd (decide (a < 0)) x) (y := wd (decide (b < 0)) y) (r := z) (fin_wd hx) (fin_wd hy) hz (by rw [e, Int.natAbs_mul, hzv]; rfl)
  rw [e] at this
  exact ⟨_, wd_lt _ _ (by omega), this, fi_TI hz hzv _ sumSgn_of⟩
theorem fi_sub (a b : Int) (ha : a.natAbs ≤ 4503599627370496) (hb : b.natAbs ≤ 4503599627370496) :
    ∃ v, v < 18446744073709551616 ∧ double.sub (floatOfInt .f64 a) (floatOfInt .f64 b) = some v ∧ TI v = a - b := by
  obtain ⟨x, hx, hxv, ex⟩ := fi_word a (by omega)
  obtain ⟨y, hy, hyv, ey⟩ := fi_word b (by omega)
  obtain ⟨z, hz, hzv⟩ := iw2 (a - b).natAbs (by omega)
  have e : SV (wd (decide (a < 0)) x) - SV (wd (decide (b < 0)) y) = (a - b) * (U : Int) := by
    rw [fi_SV hx hxv, fi_SV hy hyv, Int.sub_mul]
  rw [ex, ey]
  have := sub_exact (x := wd (decide (a < 0)) x) (y := wd (decide (b < 0)) y) (r := z) (fin_wd hx) (fin_wd hy) hz (by rw [e, Int.natAbs_mul, hzv]; rfl)
  rw [e] at this
  exact ⟨_, wd_lt _ _ (by omega), this, fi_TI hz hzv _ sumSgn_of⟩
theorem fi_TI' (a : Int) (ha : a.natAbs ≤ 4503599627370496) : floatOfInt .f64 a < 18446744073709551616 ∧ TI (floatOfInt .f64 a) = a := by
  obtain ⟨x, hx, hxv, ex⟩ := fi_word a (by omega)
  rw [ex]
  exact ⟨wd_lt _ _ (by omega), fi_TI hx hxv _ fun _ => rfl⟩

/-- a number cut off, as the document says -/
def WholeSpec (x v : Nat) : Prop :=
  if isNaN x = true then v = 0 else if rung x = 9218868437227405312 then v = x
  else ∃ t, t < 9218868437227405312 ∧ V t = V (rung x) / U * U ∧ v = if t = 0 then 0 else wd (sgn x) t
theorem WholeSpec_one {x v v' : Nat} (h : WholeSpec x v) (h' : WholeSpec x v') : v = v' := by
  unfold WholeSpec at h h'
  split at h
  · rename_i c; rw [if_pos c] at h'; rw [h, h']
  · rename_i c; rw [if_neg c] at h'
    split at h
    · rename_i c2; rw [if_pos c2] at h'; rw [h, h']
    · rename_i c2; rw [if_neg c2] at h'
      obtain ⟨t, _, h1, h2⟩ := h
      obtain ⟨t', _, h1', h2'⟩ := h'
      have : t = t' := V_inj (h1.trans h1'.symm)
      rw [h2, h2', this]
theorem whole_ok {x v : Nat} (hx : x < 18446744073709551616) (h : WholeSpec x v) : v < 18446744073709551616 ∧ isNaN v = false ∧ v ≠ 9223372036854775808 := by
  unfold WholeSpec at h
  split at h
  · subst h; decide
  · rename_i c
    split at h
    · rename_i c2; subst h
      refine ⟨hx, by simpa using c, ?_⟩
      intro e; rw [e] at c2; exact absurd c2 (by decide)
    · obtain ⟨t, ht, _, rfl⟩ := h
      split
      · decide
      · rename_i h0
        refine ⟨wd_lt _ _ (by omega), by rw [isNaN_wd (by omega)]; exact decide_eq_false (by omega), ?_⟩
        unfold wd; split <;> omega
/-- x + 0 -/
theorem add_zero_word (s : Bool) {t : Nat} (ht : t < 9218868437227405312) : double.add (wd s t) 0 = some (if t = 0 then 0 else wd s t) := by
  have := add_exact (x := wd s t) (y := 0) (r := t) (fin_wd ht) (by decide) ht (by
    rw [SV_zero, wd_SV ht, Int.add_zero]; cases s
    · rfl
    · simp)
  rw [this, SV_zero, Int.add_zero, wd_SV ht, sgn_wd _ _ (by omega), show sgn 0 = false from rfl]
  congr 1
  unfold sumSgn
  by_cases h : t = 0
  · subst h; rw [V_zero, if_pos rfl]; cases s <;> rfl
  · rw [if_neg h]
    have := V_pos (Nat.pos_of_ne_zero h)
    cases s
    · simp only [Bool.false_eq_true, if_false]
      rw [if_neg (by omega), decide_eq_false (by omega)]
    · simp only [if_true]
      rw [if_neg (by omega), decide_eq_true (by omega)]

/- the greater and the lesser -/
theorem man_zero {r : Nat} : man r = 0 ↔ r = 0 := by unfold man; split <;> omega
theorem read0 : double.read 0 = .number false 0 (-1074) := by decide
theorem max_zero (nm : String) (v : Nat) (hl : v < 18446744073709551616) (hn : isNaN v = false) (hz : v ≠ 9223372036854775808) :
    Extern.MathDim.pick nm false .gt #[.float .f64 v, .float .f64 0] = Sem.pure (.float .f64 (if oLt v 0 = true then 0 else v)) := by
  have h : Extern.MathDim.pick nm false .gt #[.float .f64 v, .float .f64 0] = Sem.pure (.float .f64 (
      if (double.read v == .infinity false || double.read 0 == .infinity false) = true then double.write (.infinity false)
      else if ((double.read v).isNaN || (double.read 0).isNaN) = true then 0x7FF8000000000001
      else if ((double.read v).isZero && (double.read 0).isZero) = true then (if ((double.read v).neg == false) = true then v else 0)
      else if ((double.read v).order (double.read 0) == some .gt) = true then v else 0)) := rfl
  rw [h]
  congr 2
  rw [read0]
  have ho : (double.read v).order (.number false 0 (-1074)) = FloatKind.f64.format.order v 0 := by rw [← read0]; rfl
  rcases (show rung v = 9218868437227405312 ∨ fin v = true by
      unfold isNaN at hn; have := of_decide_eq_false hn
      rcases Nat.lt_or_ge (rung v) 9218868437227405312 with h | h
      · exact .inr (decide_eq_true h)
      · exact .inl (by omega)) with hi | hf
  · have hp := wd_parts v hl
    rw [hi] at hp
    unfold oLt
    rw [← ho, read_inf hi]
    cases hs : sgn v
    · rw [hs] at hp
      have : v = 9218868437227405312 := hp.symm
      subst this
      decide
    · rfl
  · have hr := read_fin hf
    have hzz : (double.read v).isZero = decide (rung v = 0) := by
      rw [hr]; unfold Datum.isZero
      cases hm : man (rung v) with
      | zero => rw [decide_eq_true (man_zero.1 hm)]; rfl
      | succ k =>
        have : ¬ rung v = 0 := by intro e; rw [man_zero.2 e] at hm; cases hm
        rw [decide_eq_false this]; rfl
    have hnn : (double.read v).isNaN = false := by rw [hr]; rfl
    have hni : (double.read v == .infinity false) = false := by rw [hr]; rfl
    have hng : (double.read v).neg = sgn v := by rw [hr]; rfl
    rw [hni, hnn, hzz, hng, ho]
    have hlt := ord_lt0 hf
    unfold oLt
    rw [hlt]
    have hgt : (FloatKind.f64.format.order v 0 == some Ordering.gt) = (!sgn v && decide (0 < rung v)) := by
      rw [ord_fin_gt hf (by decide), SV_zero]
      unfold SV
      rcases Nat.eq_zero_or_pos (rung v) with h0 | h0
      · rw [h0, V_zero]; cases sgn v <;> simp
      · have := V_pos h0
        cases sgn v
        · simp only [Bool.not_false, Bool.true_and, decide_eq_true h0]; exact decide_eq_true (by simp; omega)
        · simp
    rw [hgt]
    rcases Nat.eq_zero_or_pos (rung v) with h0 | h0
    · have hp := wd_parts v hl
      rw [h0] at hp
      cases hs : sgn v
      · rw [h0]; simp [Datum.isNaN, Datum.isZero]
      · rw [hs] at hp
        exact absurd hp.symm hz
    · have : ¬ rung v = 0 := by omega
      cases hs : sgn v
      · simp [this, h0, Datum.isNaN]
      · simp [this, h0, Datum.isNaN]
theorem min_top (nm : String) (m : Nat) (hl : m ≤ 9218868437227405312) :
    Extern.MathDim.pick nm true .lt #[.float .f64 m, .float .f64 4845873199050653695] = Sem.pure (.float .f64 (if oGt m 4845873199050653695 = true then 4845873199050653695 else m)) := by
  have h : Extern.MathDim.pick nm true .lt #[.float .f64 m, .float .f64 4845873199050653695] = Sem.pure (.float .f64 (
      if (double.read m == .infinity true || double.read 4845873199050653695 == .infinity true) = true then double.write (.infinity true)
      else if ((double.read m).isNaN || (double.read 4845873199050653695).isNaN) = true then 0x7FF8000000000001
      else if ((double.read m).isZero && (double.read 4845873199050653695).isZero) = true then (if ((double.read m).neg == true) = true then m else 4845873199050653695)
      else if ((double.read m).order (double.read 4845873199050653695) == some .lt) = true then m else 4845873199050653695)) := rfl
  rw [h]
  congr 2
  have hc := read_fin (w := 4845873199050653695) (by decide)
  have ho : (double.read m).order (double.read 4845873199050653695) = FloatKind.f64.format.order m 4845873199050653695 := rfl
  rw [ho]
  rcases Nat.lt_or_ge m 9218868437227405312 with hm | hm
  · have hr := read_fin (w := m) (fin_small hm)
    have h1 : (double.read m == .infinity true || double.read 4845873199050653695 == .infinity true) = false := by rw [hr, hc]; rfl
    have h2 : ((double.read m).isNaN || (double.read 4845873199050653695).isNaN) = false := by rw [hr, hc]; rfl
    have h3 : ((double.read m).isZero && (double.read 4845873199050653695).isZero) = false := by
      have : (double.read 4845873199050653695).isZero = false := by decide
      rw [this, Bool.and_false]
    rw [h1, h2, h3]
    unfold oGt
    rw [ord_lt hm (by decide), ord_gt hm (by decide)]
    simp only [Bool.false_eq_true, if_false, decide_eq_true_eq]
    split
    · rw [if_neg (by omega)]
    · split
      · rfl
      · omega
  · have : m = 9218868437227405312 := by omega
    subst this
    decide
end F64
