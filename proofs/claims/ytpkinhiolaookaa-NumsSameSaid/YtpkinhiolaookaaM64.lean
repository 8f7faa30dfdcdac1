/-
  Plain facts: one round of the floating-point rest. Conditions: as each theorem says.
-/
import Derived.Test.YtpkinhiolaookaaL64
namespace F64
open Ieee Go Go.RowKit

theorem pow_ge {a b : Nat} (h : a ≤ b) : 2 ^ a ≤ 2 ^ b := Nat.pow_le_pow_right (by decide) h

/-- the exponent of what is taken off -/
def stepq (n y : Nat) : Nat := if nm n < nm y then ne n - 1 else ne n

theorem ne_mono {n y : Nat} (hy : 0 < y) (h : y ≤ n) : ne y ≤ ne n ∧ (nm n < nm y → ne y < ne n) := by
  have hn : 0 < n := by omega
  have hA := nm_V hn
  have hB := nm_V hy
  have hAB : V y * 4503599627370496 ≤ V n * 4503599627370496 := Nat.mul_le_mul_right _ (V_le h)
  rw [hA, hB] at hAB
  have bn := nm_bounds hn
  have bY := nm_bounds hy
  have h1 : ne y ≤ ne n := by
    rcases Nat.lt_or_ge (ne n) (ne y) with hl | hl
    · exfalso
      have h2 : nm n * 2 ^ ne n < 9007199254740992 * 2 ^ ne n := Nat.mul_lt_mul_of_pos_right bn.2 (Nat.two_pow_pos _)
      have h3 : 9007199254740992 * 2 ^ ne n = 4503599627370496 * 2 ^ (ne n + 1) := by rw [Nat.pow_succ]; omega
      have h4 : 4503599627370496 * 2 ^ (ne n + 1) ≤ 4503599627370496 * 2 ^ ne y := Nat.mul_le_mul_left _ (pow_ge hl)
      have h5 : 4503599627370496 * 2 ^ ne y ≤ nm y * 2 ^ ne y := Nat.mul_le_mul_right _ bY.1
      omega
    · exact hl
  refine ⟨h1, fun hlt => ?_⟩
  rcases Nat.lt_or_ge (ne y) (ne n) with hl | hl
  · exact hl
  · exfalso
    have : ne n = ne y := by omega
    rw [this] at hAB
    have := Nat.mul_lt_mul_of_pos_right hlt (Nat.two_pow_pos (ne y))
    omega

theorem step_exists {n y : Nat} (hy : 0 < y) (h : y ≤ n) (hn : n < 9218868437227405312) :
    ne y ≤ stepq n y ∧ stepq n y ≤ 2097 ∧ ∃ d, d < 9218868437227405312 ∧ V d = V y * 2 ^ (stepq n y - ne y) ∧
      V d * 2 ^ 53 = nm y * 2 ^ (stepq n y + 1) ∧ d ≤ n ∧ V n < 2 * V d ∧ 0 < V d := by
  have hn0 : 0 < n := by omega
  have hm := ne_mono hy h
  have hl := ne_le hn0 hn
  have bn := nm_bounds hn0
  have bY := nm_bounds hy
  have hq1 : ne y ≤ stepq n y := by unfold stepq; split <;> omega
  have hq2 : stepq n y ≤ 2097 := by unfold stepq; split <;> omega
  refine ⟨hq1, hq2, ?_⟩
  -- what it is worth
  have hD : V y * 2 ^ (stepq n y - ne y) * 4503599627370496 = nm y * 2 ^ stepq n y := by
    rw [Nat.mul_right_comm, nm_V hy, Nat.mul_assoc, ← Nat.pow_add]
    congr 2; omega
  generalize hDD : V y * 2 ^ (stepq n y - ne y) = D at *
  have hDpos : 0 < D := by rw [← hDD]; exact Nat.mul_pos (V_pos hy) (Nat.two_pow_pos _)
  -- there is a word
  have hrep : ∃ d, d < 9218868437227405312 ∧ V d = D := by
    rcases Nat.lt_or_ge (stepq n y) 52 with hq | hq
    · have hlt : D < 9007199254740992 := by
        have h1 : nm y * 2 ^ stepq n y < 9007199254740992 * 2 ^ 51 :=
          Nat.mul_lt_mul_of_lt_of_le bY.2 (pow_ge (by omega)) (Nat.two_pow_pos _)
        omega
      obtain ⟨d, hd, hv⟩ := rep 0 D hlt (by omega)
      exact ⟨d, hd, by rw [hv, Nat.pow_zero, Nat.mul_one]⟩
    · obtain ⟨d, hd, hv⟩ := rep (stepq n y - 52) (nm y) bY.2 (by omega)
      refine ⟨d, hd, ?_⟩
      rw [hv]
      apply Nat.eq_of_mul_eq_mul_right (show 0 < 4503599627370496 by decide)
      rw [hD, Nat.mul_assoc, show (4503599627370496 : Nat) = 2 ^ 52 from rfl, ← Nat.pow_add]
      congr 2; omega
  obtain ⟨d, hd, hv⟩ := hrep
  -- how great it is
  have hA := nm_V hn0
  have hle : D ≤ V n := by
    apply Nat.le_of_mul_le_mul_right _ (show 0 < 4503599627370496 by decide)
    rw [hD, hA]
    unfold stepq
    split
    · rename_i hlt
      have := hm.2 hlt
      obtain ⟨q, hq⟩ : ∃ q, ne n = q + 1 := ⟨ne n - 1, by omega⟩
      rw [hq, Nat.add_sub_cancel, Nat.pow_succ]
      have hp := Nat.two_pow_pos q
      have h1 : nm y * 2 ^ q ≤ 9007199254740992 * 2 ^ q := Nat.mul_le_mul_right _ (by omega)
      have h2 : 4503599627370496 * (2 ^ q * 2) ≤ nm n * (2 ^ q * 2) := Nat.mul_le_mul_right _ bn.1
      omega
    · rename_i hlt
      exact Nat.mul_le_mul_right _ (by omega)
  have hgt : V n < 2 * D := by
    apply Nat.lt_of_mul_lt_mul_right (a := 4503599627370496)
    rw [Nat.mul_assoc, hD, hA]
    unfold stepq
    split
    · rename_i hlt
      have := hm.2 hlt
      obtain ⟨q, hq⟩ : ∃ q, ne n = q + 1 := ⟨ne n - 1, by omega⟩
      rw [hq, Nat.add_sub_cancel, Nat.pow_succ]
      have := Nat.mul_lt_mul_of_pos_right hlt (Nat.two_pow_pos q)
      have e : nm n * (2 ^ q * 2) = 2 * (nm n * 2 ^ q) := by rw [← Nat.mul_assoc, Nat.mul_comm]
      rw [e]; omega
    · have h1 : nm n * 2 ^ ne n < 2 * nm y * 2 ^ ne n := Nat.mul_lt_mul_of_pos_right (by omega) (Nat.two_pow_pos _)
      rw [Nat.mul_assoc] at h1; exact h1
  refine ⟨d, hd, hv, ?_, V_le_iff.1 (by rw [hv]; exact hle), by rw [hv]; exact hgt, by rw [hv]; exact hDpos⟩
  rw [hv, Nat.pow_succ, show (2 : Nat) ^ 52 = 4503599627370496 from rfl, ← Nat.mul_assoc, hD, Nat.pow_succ, ← Nat.mul_assoc]

/-- a difference of two numbers that are near one another has a word -/
theorem diff_rep {n d : Nat} (hn : n < 9218868437227405312) (hd : d < 9218868437227405312) (hle : d ≤ n) (hgt : V n < 2 * V d) :
    ∃ m, m < 9218868437227405312 ∧ V m = V n - V d := by
  have mn := man_lt n
  have md := man_lt d
  have en := ex_lt hn
  have ed := ex_lt hd
  have hV := V_le hle
  rcases Nat.le_total (ex n) (ex d) with h | h
  · have e : V d = man d * 2 ^ (ex d - ex n) * 2 ^ ex n := by
      unfold V; rw [Nat.mul_assoc, ← Nat.pow_add, Nat.sub_add_cancel h]
    have e2 : V n - V d = (man n - man d * 2 ^ (ex d - ex n)) * 2 ^ ex n := by
      rw [Nat.mul_sub_right_distrib, ← e]; rfl
    obtain ⟨m, hm, hv⟩ := rep (ex n) (man n - man d * 2 ^ (ex d - ex n)) (by omega) (by omega)
    exact ⟨m, hm, by rw [hv, e2]⟩
  · have e : V n = man n * 2 ^ (ex n - ex d) * 2 ^ ex d := by
      unfold V; rw [Nat.mul_assoc, ← Nat.pow_add, Nat.sub_add_cancel h]
    have e2 : V n - V d = (man n * 2 ^ (ex n - ex d) - man d) * 2 ^ ex d := by
      rw [Nat.mul_sub_right_distrib, ← e]; rfl
    have hlt : man n * 2 ^ (ex n - ex d) - man d < 9007199254740992 := by
      have h1 : (man n * 2 ^ (ex n - ex d) - man d) * 2 ^ ex d < man d * 2 ^ ex d := by
        rw [← e2]; show V n - V d < V d; omega
      have := Nat.lt_of_mul_lt_mul_right h1
      omega
    obtain ⟨m, hm, hv⟩ := rep (ex d) _ hlt (by omega)
    exact ⟨m, hm, by rw [hv, e2]⟩

theorem sub_small {n d m : Nat} (hn : n < 9218868437227405312) (hd : d < 9218868437227405312) (hm : m < 9218868437227405312) (hle : d ≤ n) (hv : V m = V n - V d) :
    double.sub n d = some m := by
  have hV := V_le hle
  have := sub_exact (x := n) (y := d) (r := m) (fin_small hn) (fin_small hd) hm (by
    rw [SV_small (by omega), SV_small (by omega), hv]; omega)
  rw [this, SV_small (by omega), SV_small (by omega), sgn_small (by omega), sgn_small (by omega)]
  congr 1
  unfold sumSgn
  split
  · rfl
  · rw [decide_eq_false (by omega)]; rfl

/-- ONE ROUND of math.mod: what is left, and that it is less -/
theorem mod_round {n y : Nat} (hy : 0 < y) (h : y ≤ n) (hn : n < 9218868437227405312) :
    ∃ d m, d < 9218868437227405312 ∧ V d * 2 ^ 53 = nm y * 2 ^ (stepq n y + 1) ∧ ne y ≤ stepq n y ∧ stepq n y ≤ 2097 ∧
      m < n ∧ V m % V y = V n % V y ∧ double.sub n d = some m := by
  obtain ⟨h1, h2, d, hd, hv, hs, hle, hgt, hpos⟩ := step_exists hy h hn
  obtain ⟨m, hm, hmv⟩ := diff_rep hn hd hle hgt
  have hV := V_le hle
  refine ⟨d, m, hd, hs, h1, h2, V_lt_iff.1 (by omega), ?_, sub_small hn hd hm hle hmv⟩
  rw [hmv, hv]
  rw [hv] at hV
  exact Nat.sub_mul_mod hV

theorem icmp_lt (x y : Int) : (some (compare x y) == some Ordering.lt) = decide (x < y) := by
  simp only [compare, compareOfLessAndEq]
  by_cases h : x < y
  · simp [h]
  · by_cases h2 : x = y
    · simp [h2]
    · simp [h, h2]
theorem icmp_gt (x y : Int) : (some (compare x y) == some Ordering.gt) = decide (y < x) := by
  simp only [compare, compareOfLessAndEq]
  by_cases h : x < y
  · simp [h]; omega
  · by_cases h2 : x = y
    · simp [h2]
    · simp [h, h2]; omega
theorem icmp_eq (x y : Int) : (some (compare x y) == some Ordering.eq) = decide (x = y) := by
  simp only [compare, compareOfLessAndEq]
  by_cases h : x < y
  · simp [h]; omega
  · by_cases h2 : x = y
    · simp [h2]
    · simp [h, h2]
theorem ord_fin_lt {x y : Nat} (hx : fin x = true) (hy : fin y = true) : (FloatKind.f64.format.order x y == some Ordering.lt) = decide (SV x < SV y) := by
  rw [O_eq, order_fin hx hy, icmp_lt]
theorem ord_fin_gt {x y : Nat} (hx : fin x = true) (hy : fin y = true) : (FloatKind.f64.format.order x y == some Ordering.gt) = decide (SV y < SV x) := by
  rw [O_eq, order_fin hx hy, icmp_gt]
theorem ord_fin_eq {x y : Nat} (hx : fin x = true) (hy : fin y = true) : (FloatKind.f64.format.order x y == some Ordering.eq) = decide (SV x = SV y) := by
  rw [O_eq, order_fin hx hy, icmp_eq]
theorem SV_zero : SV 0 = 0 := by rw [SV_small (by decide), V_zero]; rfl
theorem ord_lt0 {x : Nat} (hf : fin x = true) : (FloatKind.f64.format.order x 0 == some Ordering.lt) = (sgn x && decide (0 < rung x)) := by
  rw [ord_fin_lt hf (fin_small (by decide)), SV_zero]
  unfold SV
  rcases Nat.eq_zero_or_pos (rung x) with h | h
  · rw [h, V_zero]; cases sgn x <;> simp
  · have := V_pos h
    cases sgn x
    · simp
    · simp only [if_true, Bool.true_and, decide_eq_true h]; exact decide_eq_true (by omega)
theorem ord_eq0 {x : Nat} (hf : fin x = true) : (FloatKind.f64.format.order x 0 == some Ordering.eq) = decide (rung x = 0) := by
  rw [ord_fin_eq hf (fin_small (by decide)), SV_zero]
  unfold SV
  rcases Nat.eq_zero_or_pos (rung x) with h | h
  · rw [h, V_zero]; cases sgn x <;> simp
  · have := V_pos h
    rw [decide_eq_false (show ¬ rung x = 0 by omega)]
    apply decide_eq_false
    split <;> omega
end F64
