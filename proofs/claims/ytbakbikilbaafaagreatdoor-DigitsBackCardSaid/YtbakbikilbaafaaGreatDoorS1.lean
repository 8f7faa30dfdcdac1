/-
  Contracts: Decimal digits of fixed width, and how many digits a number has: plain facts. Plain facts on the scaling of a number by a power of ten, where it is exact; on whole numbers of 32 bits. Plain law: the library's scaling of a number by a power of ten is exact (its floor, and whether something is left), where no multiple comes near a whole one. Plain facts: what a word of a float is worth, exactly; writing, adding, multiplying and cutting off exact numbers. No condition. Plain facts on the library's shortest digits of any float64. Plain law: the float nearest to a fraction, ties to the even one: one alone, and it goes up with the fraction; how rounding to 53 bits comes to it. Plain law: decimals of at most 800 digits, scaled by 10^1300: what shifting by powers of two and cutting off keeps of a fraction, so that rounding at the end is exact. Contracts of small functions: Mul64, Len64, the logarithms' estimates, the roundings. Contracts of Len64 and uscale.
-/
import Derived.Lib.Hide
import Derived.Laws.FloatBits
import Derived.Test.YtbakbikilbaafaaGreatDoorChecked
import Derived.RowKit
import Derived.WalkKit
import Derived.Lib.Mul64
import Derived.Laws.Bits64b
import Derived.IntWalk
import Derived.Shelf.Bits.Mul64
import Derived.Deep.QuietTactic
import Derived.BigQuiet
import Derived.Outline
import Derived.Deep.Light
import Derived.Lib.Strings
import Derived.Lib.Slices
import Derived.Lib.Small
import Derived.Lib.Walk
import Derived.Lib.BitFns
namespace Go.Proofs.YtbakbikilbaafaaGreatDoor

/-- the last n decimal digits of u, the highest one first -/
def fw : Nat → Nat → List Nat
  | 0, _ => []
  | n + 1, u => fw n (u / 10) ++ [u % 10]
theorem fw_len (n u : Nat) : (fw n u).length = n := by
  induction n generalizing u with
  | zero => rfl
  | succ n ih => simp [fw, ih]
theorem fw_lt (n u : Nat) : ∀ x ∈ fw n u, x < 10 := by
  induction n generalizing u with
  | zero => intro x h; cases h
  | succ n ih =>
    intro x h
    rcases List.mem_append.1 h with h | h
    · exact ih _ x h
    · rw [List.mem_singleton.1 h]; exact Nat.mod_lt _ (by decide)
theorem fw_get (n u i : Nat) (h : i < n) : (fw n u)[i]? = some (u / 10 ^ (n - 1 - i) % 10) := by
  induction n generalizing u with
  | zero => omega
  | succ n ih =>
    simp only [fw]
    rcases Nat.lt_or_ge i n with h1 | h1
    · rw [List.getElem?_append_left (by rw [fw_len]; exact h1), ih _ h1, Nat.div_div_eq_div_mul, ← Nat.pow_succ']
      have : (n - 1 - i).succ = n + 1 - 1 - i := by omega
      rw [this]
    · have : i = n := by omega
      subst this
      rw [List.getElem?_append_right (by rw [fw_len]; omega), fw_len]
      simp
/-- u has n digits -/
def IsNd (u n : Nat) : Prop := 1 ≤ n ∧ 10 ^ (n - 1) ≤ u ∧ u < 10 ^ n
theorem IsNd.one {u n m : Nat} (h : IsNd u n) (h' : IsNd u m) : n = m := by
  obtain ⟨h1, h2, h3⟩ := h
  obtain ⟨g1, g2, g3⟩ := h'
  rcases Nat.lt_trichotomy n m with h | h | h
  · exfalso
    have := Nat.pow_le_pow_right (n := 10) (by decide) (show n ≤ m - 1 by omega)
    omega
  · exact h
  · exfalso
    have := Nat.pow_le_pow_right (n := 10) (by decide) (show m ≤ n - 1 by omega)
    omega
theorem IsNd.pos {u n : Nat} (h : IsNd u n) : 0 < u := Nat.lt_of_lt_of_le (Nat.pow_pos (by decide)) h.2.1
theorem IsNd.step {u n : Nat} (h : IsNd (u / 10) n) : IsNd u (n + 1) := by
  obtain ⟨h1, h2, h3⟩ := h
  refine ⟨by omega, ?_, ?_⟩
  · have : n + 1 - 1 = (n - 1) + 1 := by omega
    rw [this, Nat.pow_succ]
    omega
  · rw [Nat.pow_succ]; omega
theorem IsNd.digit {u : Nat} (h : 0 < u) (h1 : u < 10) : IsNd u 1 := ⟨by omega, by simp; omega, by simpa using h1⟩
/-- the trailing noughts of a number's digits: m digits are left, the last one is no nought -/
theorem fw_trim (n u : Nat) (h : 0 < u) (hu : u < 10 ^ n) : ∃ m v, 1 ≤ m ∧ m ≤ n ∧ u = v * 10 ^ (n - m) ∧ v % 10 ≠ 0 ∧ fw n u = fw m v ++ List.replicate (n - m) 0 := by
  induction n generalizing u with
  | zero => simp at hu; omega
  | succ n ih =>
    by_cases hd : u % 10 = 0
    · obtain ⟨m, v, h1, h2, h3, h4, h5⟩ := ih (u / 10) (by omega) (by rw [Nat.pow_succ] at hu; omega)
      refine ⟨m, v, h1, by omega, ?_, h4, ?_⟩
      · have : n + 1 - m = n - m + 1 := by omega
        rw [this, Nat.pow_succ, ← Nat.mul_assoc, ← h3]; omega
      · have e : n + 1 - m = n - m + 1 := by omega
        rw [e, List.replicate_succ', ← List.append_assoc, ← h5, ← hd]; rfl
    · exact ⟨n + 1, u, by omega, Nat.le_refl _, by simp, hd, by simp⟩
end Go.Proofs.YtbakbikilbaafaaGreatDoor
namespace Go.Proofs.YtbakbikilbaafaaGreatDoor

def b2n (b : Bool) : Nat := if b then 1 else 0
def W64 : Nat := 18446744073709551616
theorem W64_eq : W64 = 18446744073709551616 := rfl
/-- what uscale answers -/
def usc (x ph pl s : Nat) : Nat :=
  if x * ph / W64 / 2 ^ s * 2 ^ s ≠ x * ph / W64 then x * ph / W64 / 2 ^ s ||| 1
  else ((x * ph / W64 + W64 - b2n (decide (x * ph % W64 < x * pl / W64))) % W64) / 2 ^ s ||| b2n (decide (1 < (x * ph % W64 + W64 - x * pl / W64) % W64))
theorem or_one (q : Nat) : q ||| 1 = q / 2 * 2 + 1 := by
  apply Nat.eq_of_testBit_eq
  intro i
  cases i with
  | zero => simp [Nat.testBit_zero]
  | succ j =>
    rw [Nat.testBit_or, Nat.testBit_succ, Nat.testBit_succ, Nat.testBit_succ]
    have : (q / 2 * 2 + 1) / 2 = q / 2 := by omega
    rw [this]; simp
theorem or_b2n (q : Nat) (b : Bool) : q ||| b2n b = if b then q / 2 * 2 + 1 else q := by
  cases b
  · simp [b2n]
  · simp [b2n, or_one]
def l2 (x : Int) : Int := x * 108853 / 32768
end Go.Proofs.YtbakbikilbaafaaGreatDoor
namespace Go.Proofs.YtbakbikilbaafaaGreatDoor
set_option linter.unusedVariables false
set_option maxHeartbeats 1000000
set_option maxRecDepth 100000

/-- a / b, its lowest bit set where something is left -/
def unr (a b : Nat) : Nat := if a % b = 0 then a / b else a / b / 2 * 2 + 1
theorem mod_of {A h M rest : Nat} (h1 : A = h * M + rest) (h2 : rest < M) : A / M = h ∧ A % M = rest := by
  subst h1
  constructor
  · rw [Nat.mul_comm, Nat.mul_add_div (by omega), Nat.div_eq_of_lt h2, Nat.add_zero]
  · rw [Nat.mul_comm, Nat.mul_add_mod, Nat.mod_eq_of_lt h2]
/-- A is x times N / D, rounded up by less than x -/
theorem unr_in {A X D M x q r : Nat} (hD : 0 < D) (hM : 0 < M) (h1 : X ≤ A * D) (h2 : A * D < X + x * D) (hq : A = q * M + r) (hr : r < M) (hx : x ≤ r) : unr X (D * M) = q / 2 * 2 + 1 := by
  have e1 : A * D = q * (D * M) + r * D := by rw [hq, Nat.add_mul]; congr 1; ac_rfl
  have e2 : x * D ≤ r * D := Nat.mul_le_mul_right _ hx
  have e3 : r * D < D * M := by rw [Nat.mul_comm]; exact Nat.mul_lt_mul_of_pos_left hr hD
  obtain ⟨g1, g2⟩ := mod_of (A := X) (h := q) (M := D * M) (rest := X - q * (D * M)) (by omega) (by omega)
  unfold unr
  rw [g2, g1, if_neg (by omega)]
theorem unr_at {A X D M x q r : Nat} (hD : 0 < D) (hM : x ≤ M) (h1 : X ≤ A * D) (h2 : A * D < X + x * D) (hq : A = q * M + r) (hr : r < M) (h0 : X % (D * M) = 0) : unr X (D * M) = q ∧ r < x := by
  have e1 : A * D = q * (D * M) + r * D := by rw [hq, Nat.add_mul]; congr 1; ac_rfl
  have hM0 : 0 < M := by omega
  have hDM : 0 < D * M := Nat.mul_pos hD hM0
  have hX := Nat.div_add_mod X (D * M)
  rw [h0, Nat.add_zero, Nat.mul_comm] at hX
  have e3 : r * D < D * M := by rw [Nat.mul_comm]; exact Nat.mul_lt_mul_of_pos_left hr hD
  have e4 : x * D ≤ D * M := by rw [Nat.mul_comm]; exact Nat.mul_le_mul_left _ hM
  have hq' : X / (D * M) = q := by
    generalize D * M = DM at *
    rcases Nat.lt_trichotomy (X / DM) q with h | h | h
    · have : (X / DM + 1) * DM ≤ q * DM := Nat.mul_le_mul_right _ h
      rw [Nat.add_mul] at this
      omega
    · exact h
    · have : (q + 1) * DM ≤ X / DM * DM := Nat.mul_le_mul_right _ h
      rw [Nat.add_mul] at this
      omega
  refine ⟨?_, ?_⟩
  · unfold unr; rw [if_pos h0, hq']
  · rw [hq'] at hX
    have : r * D < x * D := by omega
    exact Nat.lt_of_mul_lt_mul_right this
theorem usc_unr {x ph pl s N D P M : Nat} (hx : x < W64) (hph : ph < W64) (hpl : pl < W64) (hs : 1 ≤ s) (hD : 0 < D) (hP : P + pl = ph * W64) (hM : M = W64 * W64 * 2 ^ s)
    (hN1 : N ≤ P * D) (hN2 : P * D < N + D) (hx0 : 0 < x)
    (H : (W64 < x * P % M ∧ x * P % M + W64 ≤ M) ∨ (x * N) % (D * M) = 0) : usc x ph pl s = unr (x * N) (D * M) := by
  have hhi : x * ph / W64 < W64 := Nat.div_lt_of_lt_mul (Nat.mul_lt_mul'' hx hph)
  have hS : 2 ≤ 2 ^ s := by
    have := Nat.pow_le_pow_right (n := 2) (by decide) hs
    exact this
  have m1 : x * N ≤ x * P * D := by rw [Nat.mul_assoc]; exact Nat.mul_le_mul_left _ hN1
  have m2 : x * P * D < x * N + x * D := by rw [Nat.mul_assoc, ← Nat.mul_add]; exact Nat.mul_lt_mul_of_pos_left hN2 hx0
  have hA : x * P + x * pl = x * ph * W64 := by rw [← Nat.mul_add, hP, Nat.mul_assoc]
  have d1 := Nat.div_add_mod (x * ph) W64
  have d2 := Nat.div_add_mod (x * pl) W64
  have l1 : x * ph % W64 < W64 := Nat.mod_lt _ (by decide)
  have l2 : x * pl % W64 < W64 := Nat.mod_lt _ (by decide)
  have l3 : x * pl / W64 ≤ 18446744073709551614 := by
    have : x * pl ≤ 18446744073709551615 * 18446744073709551615 := Nat.mul_le_mul (by rw [W64_eq] at hx; omega) (by rw [W64_eq] at hpl; omega)
    rw [W64_eq]
    omega
  unfold usc
  rw [or_one, or_b2n]
  generalize x * N = X at *
  generalize x * P = A at *
  generalize x * ph / W64 = h0 at *
  generalize x * ph % W64 = mid at *
  generalize x * pl / W64 = md2 at *
  generalize x * pl % W64 = lo2 at *
  have dd := Nat.div_add_mod h0 (2 ^ s)
  have dl : h0 % 2 ^ s < 2 ^ s := Nat.mod_lt _ (by omega)
  generalize h0 / 2 ^ s = h at *
  generalize h0 % 2 ^ s = t at *
  generalize 2 ^ s = S at *
  rw [W64_eq] at *
  have eM : M = 340282366920938463463374607431768211456 * S := by rw [hM]
  have eH : h0 * 340282366920938463463374607431768211456 = h * M + t * 340282366920938463463374607431768211456 := by
    rw [← dd, eM, Nat.add_mul]; congr 1; ac_rfl
  have eA : A + (md2 * 18446744073709551616 + lo2) = h * M + t * 340282366920938463463374607431768211456 + mid * 18446744073709551616 := by
    rw [← eH]
    rw [← d2, ← d1] at hA
    rw [Nat.add_mul] at hA
    have e2 : (340282366920938463463374607431768211456 : Nat) = 18446744073709551616 * 18446744073709551616 := by decide
    have : 18446744073709551616 * h0 * 18446744073709551616 = h0 * 340282366920938463463374607431768211456 := by rw [e2]; ac_rfl
    omega
  have tM : t * 340282366920938463463374607431768211456 + 340282366920938463463374607431768211456 ≤ M := by
    have : (t + 1) * 340282366920938463463374607431768211456 ≤ S * 340282366920938463463374607431768211456 := Nat.mul_le_mul_right _ dl
    omega
  have M2 : 2 * 340282366920938463463374607431768211456 ≤ M := by
    have : 2 * 340282366920938463463374607431768211456 ≤ S * 340282366920938463463374607431768211456 := Nat.mul_le_mul_right _ hS
    omega
  have hM0 : 0 < M := by omega
  clear hA d1 d2 hM eM hN1 hN2 hP
  by_cases ht : t = 0
  · subst ht
    rw [Nat.zero_mul, Nat.add_zero] at eA
    rw [Nat.add_zero] at dd
    rw [if_neg (by rw [Nat.mul_comm]; exact fun e => e dd)]
    by_cases hlt : mid < md2
    · -- a borrow
      have hb : b2n (decide (mid < md2)) = 1 := by rw [decide_eq_true hlt]; rfl
      rw [hb]
      by_cases hh : h = 0
      · subst hh
        rw [Nat.zero_mul] at eA
        omega
      · have hh0 : S ≤ h0 := by
          rw [← dd]; exact Nat.le_mul_of_pos_right _ (Nat.pos_of_ne_zero hh)
        have q0 : (h0 + 18446744073709551616 - 1) % 18446744073709551616 = h0 - 1 := by omega
        have q1 : (h0 - 1) / S = h - 1 := by
          have : h0 - 1 = (h - 1) * S + (S - 1) := by
            rw [← dd]
            obtain ⟨k, rfl⟩ : ∃ k, h = k + 1 := ⟨h - 1, by omega⟩
            rw [Nat.add_sub_cancel, Nat.mul_add, Nat.mul_comm S k]
            omega
          exact (mod_of this (by omega)).1
        have f3 : (mid + 18446744073709551616 - md2) % 18446744073709551616 = mid + 18446744073709551616 - md2 := by omega
        rw [q0, q1, f3, if_pos (by simp; omega)]
        have eA' : A = (h - 1) * M + (M + mid * 18446744073709551616 - (md2 * 18446744073709551616 + lo2)) := by
          obtain ⟨k, rfl⟩ : ∃ k, h = k + 1 := ⟨h - 1, by omega⟩
          rw [Nat.add_mul, Nat.one_mul] at eA
          rw [Nat.add_sub_cancel]
          omega
        exact (unr_in hD hM0 m1 m2 eA' (by omega) (by omega)).symm
    · have hb : b2n (decide (mid < md2)) = 0 := by rw [decide_eq_false hlt]; rfl
      have q0 : (h0 + 18446744073709551616 - 0) % 18446744073709551616 = h0 := by omega
      have q1 : h0 / S = h := by
        rw [← dd, Nat.mul_comm]; exact Nat.mul_div_cancel _ (by omega)
      have f3 : (mid + 18446744073709551616 - md2) % 18446744073709551616 = mid - md2 := by omega
      rw [hb, q0, q1, f3]
      by_cases h2 : 2 ≤ mid - md2
      · rw [if_pos (by simp; omega)]
        exact (unr_in (q := h) (r := (mid - md2) * 18446744073709551616 - lo2) hD hM0 m1 m2 (by omega) (by omega) (by omega)).symm
      · rw [if_neg (by simp; omega)]
        rcases H with ⟨H1, H2⟩ | H
        · exfalso
          by_cases h3 : lo2 ≤ (mid - md2) * 18446744073709551616
          · have := (mod_of (A := A) (h := h) (M := M) (rest := (mid - md2) * 18446744073709551616 - lo2) (by omega) (by omega)).2
            omega
          · by_cases hh : h = 0
            · subst hh
              rw [Nat.zero_mul] at eA
              omega
            · obtain ⟨k, rfl⟩ : ∃ k, h = k + 1 := ⟨h - 1, by omega⟩
              rw [Nat.add_mul, Nat.one_mul] at eA
              have := (mod_of (A := A) (h := k) (M := M) (rest := M - lo2) (by omega) (by omega)).2
              omega
        · by_cases h3 : lo2 ≤ (mid - md2) * 18446744073709551616
          · exact (unr_at (q := h) (r := (mid - md2) * 18446744073709551616 - lo2) hD (by omega) m1 m2 (by omega) (by omega) H).1.symm
          · exfalso
            by_cases hh : h = 0
            · subst hh
              rw [Nat.zero_mul] at eA
              omega
            · obtain ⟨k, rfl⟩ : ∃ k, h = k + 1 := ⟨h - 1, by omega⟩
              rw [Nat.add_mul, Nat.one_mul] at eA
              have := (unr_at (q := k) (r := M - lo2) hD (by omega) m1 m2 (by omega) (by omega) H).2
              omega
  · have hne : h * S ≠ h0 := by rw [Nat.mul_comm]; omega
    rw [if_pos hne]
    have eA' : A = h * M + (t * 340282366920938463463374607431768211456 + mid * 18446744073709551616 - (md2 * 18446744073709551616 + lo2)) := by omega
    exact (unr_in hD hM0 m1 m2 eA' (by omega) (by omega)).symm

/-- two short vectors of a lattice leave no third one in the box, but multiples of the first -/
theorem lat {m a X Y x y ux uy vx vy : Int} (hm : 0 < m) (hu : m ∣ ux * a - uy) (hv : m ∣ vx * a - vy) (hxy : m ∣ x * a - y) (hdet : ux * vy - uy * vx = m ∨ ux * vy - uy * vx = -m)
    (hX : x.natAbs < X) (hY : y.natAbs < Y) (bu : ux.natAbs * Y + uy.natAbs * X ≤ m) : ∃ i : Int, x = i * ux ∧ y = i * uy ∧ i.natAbs * m ≤ vx.natAbs * Y + vy.natAbs * X := by
  have j0 : ux * y - uy * x = 0 := by
    have d : m ∣ ux * y - uy * x := by
      have e : ux * y - uy * x = x * (ux * a - uy) - ux * (x * a - y) := by
        rw [Int.mul_sub, Int.mul_sub]
        have : x * (ux * a) = ux * (x * a) := by ac_rfl
        rw [this, Int.mul_comm uy x]
        omega
      rw [e]
      exact Int.dvd_sub (Int.dvd_mul_of_dvd_right hu) (Int.dvd_mul_of_dvd_right hxy)
    have b : ((ux * y - uy * x).natAbs : Int) < m := by
      have h1 : (ux * y - uy * x).natAbs ≤ (ux * y).natAbs + (uy * x).natAbs := Int.natAbs_sub_le _ _
      have h2 : ((ux * y).natAbs : Int) ≤ ux.natAbs * Y := by
        rw [Int.natAbs_mul, Int.natCast_mul]
        exact Int.mul_le_mul_of_nonneg_left (Int.le_of_lt hY) (by omega)
      have h3 : ((uy * x).natAbs : Int) ≤ uy.natAbs * X := by
        rw [Int.natAbs_mul, Int.natCast_mul]
        exact Int.mul_le_mul_of_nonneg_left (Int.le_of_lt hX) (by omega)
      by_cases hz : ux = 0
      · by_cases hz2 : uy = 0
        · subst hz; subst hz2
          simp only [Int.zero_mul] at *
          omega
        · have : ((uy * x).natAbs : Int) < uy.natAbs * X := by
            rw [Int.natAbs_mul, Int.natCast_mul]
            exact Int.mul_lt_mul_of_pos_left hX (by omega)
          omega
      · have : ((ux * y).natAbs : Int) < ux.natAbs * Y := by
          rw [Int.natAbs_mul, Int.natCast_mul]
          exact Int.mul_lt_mul_of_pos_left hY (by omega)
        omega
    obtain ⟨k, hk⟩ := d
    rw [hk] at b ⊢
    by_cases hk0 : k = 0
    · rw [hk0, Int.mul_zero]
    · exfalso
      rw [Int.natAbs_mul, Int.natCast_mul] at b
      have : (1 : Int) ≤ k.natAbs := by omega
      have h4 : (m.natAbs : Int) * 1 ≤ m.natAbs * k.natAbs := Int.mul_le_mul_of_nonneg_left this (by omega)
      omega
  have j1 : ux * y = uy * x := by omega
  have d : m ∣ x * vy - y * vx := by
    have e : x * vy - y * vx = vx * (x * a - y) - x * (vx * a - vy) := by
      rw [Int.mul_sub, Int.mul_sub]
      have : vx * (x * a) = x * (vx * a) := by ac_rfl
      rw [this, Int.mul_comm vx y]
      omega
    rw [e]
    exact Int.dvd_sub (Int.dvd_mul_of_dvd_right hxy) (Int.dvd_mul_of_dvd_right hv)
  obtain ⟨k, hk⟩ := d
  have ex : (ux * vy - uy * vx) * x = m * (k * ux) := by
    rw [Int.sub_mul]
    have e1 : ux * vy * x = ux * (x * vy) := by ac_rfl
    have e2 : uy * vx * x = uy * x * vx := by ac_rfl
    have e3 : ux * y * vx = ux * (y * vx) := by ac_rfl
    rw [e1, e2, ← j1, e3, ← Int.mul_sub, hk]
    ac_rfl
  have ey : (ux * vy - uy * vx) * y = m * (k * uy) := by
    rw [Int.sub_mul]
    have e1 : ux * vy * y = ux * y * vy := by ac_rfl
    have e2 : uy * vx * y = uy * (y * vx) := by ac_rfl
    have e3 : uy * x * vy = uy * (x * vy) := by ac_rfl
    rw [e1, e2, j1, e3, ← Int.mul_sub, hk]
    ac_rfl
  have hb : (k.natAbs : Int) * m ≤ vx.natAbs * Y + vy.natAbs * X := by
    have h0 : (m.natAbs : Int) = m := by omega
    have h1 : (k.natAbs : Int) * m = ((x * vy - y * vx).natAbs : Int) := by
      rw [hk, Int.natAbs_mul, Int.natCast_mul, h0, Int.mul_comm]
    have h2 : (x * vy - y * vx).natAbs ≤ (x * vy).natAbs + (y * vx).natAbs := Int.natAbs_sub_le _ _
    have h3 : ((x * vy).natAbs : Int) ≤ vy.natAbs * X := by
      rw [Int.natAbs_mul, Int.natCast_mul, Int.mul_comm]
      exact Int.mul_le_mul_of_nonneg_left (Int.le_of_lt hX) (by omega)
    have h4 : ((y * vx).natAbs : Int) ≤ vx.natAbs * Y := by
      rw [Int.natAbs_mul, Int.natCast_mul, Int.mul_comm]
      exact Int.mul_le_mul_of_nonneg_left (Int.le_of_lt hY) (by omega)
    omega
  rcases hdet with hd | hd
  · rw [hd] at ex ey
    exact ⟨k, Int.eq_of_mul_eq_mul_left (by omega) ex, Int.eq_of_mul_eq_mul_left (by omega) ey, hb⟩
  · rw [hd] at ex ey
    refine ⟨-k, ?_, ?_, by rw [Int.natAbs_neg]; exact hb⟩
    · apply Int.eq_of_mul_eq_mul_left (show m ≠ 0 by omega)
      rw [Int.neg_mul] at ex
      rw [Int.neg_mul, Int.mul_neg]; omega
    · apply Int.eq_of_mul_eq_mul_left (show m ≠ 0 by omega)
      rw [Int.neg_mul] at ey
      rw [Int.neg_mul, Int.mul_neg]; omega
end Go.Proofs.YtbakbikilbaafaaGreatDoor
namespace F64
open Ieee

/-- what a rung (a word without its sign) is worth, in units of the least place -/
def man (r : Nat) : Nat := if r < 4503599627370496 then r else 4503599627370496 + r % 4503599627370496
def ex (r : Nat) : Nat := if r < 4503599627370496 then 0 else r / 4503599627370496 - 1
def V (r : Nat) : Nat := man r * 2 ^ ex r
/-- the sign of a word, and its rung -/
def sgn (w : Nat) : Bool := w / 9223372036854775808 % 2 == 1
def rung (w : Nat) : Nat := w % 9223372036854775808
def wd (s : Bool) (r : Nat) : Nat := if s then 9223372036854775808 + r else r

theorem d_binade : double.binade = 4503599627370496 := by decide
theorem d_inf : double.infRung = 9218868437227405312 := by decide
theorem d_sw : double.signWeight = 9223372036854775808 := by decide
theorem d_least : double.leastPlace = -1074 := by decide
theorem d_frac : double.fractionBits = 52 := rfl
theorem d_word (s : Bool) (r : Nat) : double.word s r = wd s r := by
  unfold Format.word wd; rw [d_sw]

theorem wd_parts (w : Nat) (h : w < 18446744073709551616) : wd (sgn w) (rung w) = w := by
  unfold wd sgn rung
  by_cases hs : w / 9223372036854775808 % 2 == 1
  · rw [if_pos hs]; simp at hs; omega
  · rw [if_neg hs]; simp at hs; omega
theorem rung_lt (w : Nat) : rung w < 9223372036854775808 := Nat.mod_lt _ (by decide)
def isNaN (w : Nat) : Bool := decide (9218868437227405312 < rung w)
def fin (w : Nat) : Bool := decide (rung w < 9218868437227405312)

theorem read_fin {w : Nat} (h : fin w = true) : double.read w = .number (sgn w) (man (rung w)) (-1074 + (ex (rung w) : Int)) := by
  have h' : rung w < 9218868437227405312 := of_decide_eq_true h
  unfold Format.read
  simp only [d_sw, d_binade, d_inf, d_least]
  unfold rung at h'
  unfold man ex sgn rung
  by_cases h1 : w % 9223372036854775808 < 4503599627370496
  · simp only [if_pos h1]; simp
  · simp only [if_neg h1, if_pos h']

theorem read_inf {w : Nat} (h : rung w = 9218868437227405312) : double.read w = .infinity (sgn w) := by
  unfold Format.read
  simp only [d_sw, d_binade, d_inf, d_least]
  unfold rung at h
  unfold sgn
  rw [if_neg (by omega), if_neg (by omega), if_pos h]

theorem read_nan {w : Nat} (h : isNaN w = true) : ∃ f, double.read w = .nan (sgn w) f := by
  have h' : 9218868437227405312 < rung w := of_decide_eq_true h
  refine ⟨w % 9223372036854775808 - 9218868437227405312, ?_⟩
  unfold Format.read
  simp only [d_sw, d_binade, d_inf, d_least]
  unfold rung at h'
  unfold sgn
  rw [if_neg (by omega), if_neg (by omega), if_neg (by omega)]

theorem man_lt (r : Nat) : man r < 9007199254740992 := by
  unfold man; split
  · omega
  · have := Nat.mod_lt r (show 0 < 4503599627370496 by decide); omega
theorem man_pos {r : Nat} (h : 0 < r) : 0 < man r := by unfold man; split <;> omega
theorem V_pos {r : Nat} (h : 0 < r) : 0 < V r := Nat.mul_pos (man_pos h) (Nat.two_pow_pos _)
theorem V_zero : V 0 = 0 := by decide

theorem V_succ (r : Nat) : V r < V (r + 1) := by
  unfold V man ex
  by_cases h1 : r + 1 < 4503599627370496
  · rw [if_pos (by omega), if_pos (by omega), if_pos h1, if_pos h1]; omega
  · rw [if_neg h1, if_neg h1]
    by_cases h2 : r < 4503599627370496
    · have hr : r = 4503599627370495 := by omega
      subst hr; decide
    · rw [if_neg h2, if_neg h2]
      by_cases h3 : r % 4503599627370496 + 1 < 4503599627370496
      · have e1 : (r + 1) % 4503599627370496 = r % 4503599627370496 + 1 := by omega
        have e2 : (r + 1) / 4503599627370496 = r / 4503599627370496 := by omega
        rw [e1, e2]
        exact Nat.mul_lt_mul_of_pos_right (by omega) (Nat.two_pow_pos _)
      · have e1 : (r + 1) % 4503599627370496 = 0 := by omega
        have e2 : (r + 1) / 4503599627370496 = r / 4503599627370496 + 1 := by omega
        rw [e1, e2]
        obtain ⟨q, hq⟩ : ∃ q, r / 4503599627370496 = q + 1 := ⟨r / 4503599627370496 - 1, by omega⟩
        rw [hq]
        simp only [Nat.add_sub_cancel, Nat.pow_succ]
        have hp := Nat.two_pow_pos q
        generalize 2 ^ q = p at *
        have : r % 4503599627370496 = 4503599627370495 := by omega
        rw [this]; omega

theorem V_lt {r s : Nat} (h : r < s) : V r < V s := by
  induction s with
  | zero => omega
  | succ s ih =>
    rcases Nat.lt_or_ge r s with h1 | h1
    · exact Nat.lt_trans (ih h1) (V_succ s)
    · have : r = s := by omega
      subst this; exact V_succ r
theorem V_le {r s : Nat} (h : r ≤ s) : V r ≤ V s := by
  rcases Nat.lt_or_ge r s with h1 | h1
  · exact Nat.le_of_lt (V_lt h1)
  · have : r = s := by omega
    subst this; exact Nat.le_refl _
theorem V_lt_iff {r s : Nat} : V r < V s ↔ r < s := by
  constructor
  · intro h; rcases Nat.lt_or_ge r s with h1 | h1
    · exact h1
    · have := V_le h1; omega
  · exact V_lt
theorem V_inj {r s : Nat} (h : V r = V s) : r = s := by
  rcases Nat.lt_trichotomy r s with h1 | h1 | h1
  · have := V_lt h1; omega
  · exact h1
  · have := V_lt h1; omega
/-- cutting off zeros -/
theorem cut_exact (s : Bool) (M d : Nat) : Toward.even.cut s (M <<< d) d = M := by
  unfold Toward.cut
  by_cases h0 : M = 0
  · subst h0; simp [Nat.zero_shiftLeft]
  · have hp : (1 : Nat) <<< d = 2 ^ d := by simp [Nat.shiftLeft_eq]
    have hlog : d ≤ (M <<< d).log2 := by
      rw [Nat.le_log2 (by rw [Nat.shiftLeft_eq]; exact Nat.ne_of_gt (Nat.mul_pos (by omega) (Nat.two_pow_pos _)))]
      rw [Nat.shiftLeft_eq]
      exact Nat.le_mul_of_pos_left _ (by omega)
    have hm : min d ((M <<< d).log2 + 2) = d := by omega
    rw [hm, hp, Nat.shiftLeft_eq]
    simp [Nat.mul_div_cancel _ (Nat.two_pow_pos d)]

theorem log2_mul_pow (m a : Nat) (h : m ≠ 0) : (m * 2 ^ a).log2 = m.log2 + a := by
  rw [Nat.log2_eq_iff (Nat.ne_of_gt (Nat.mul_pos (by omega) (Nat.two_pow_pos _)))]
  have h1 := Nat.log2_self_le h
  have h2 := @Nat.lt_log2_self m
  constructor
  · rw [Nat.pow_add]; exact Nat.mul_le_mul_right _ h1
  · rw [show m.log2 + a + 1 = m.log2 + 1 + a by omega, Nat.pow_add]
    exact Nat.mul_lt_mul_of_pos_right h2 (Nat.two_pow_pos _)

theorem man_log2 {r : Nat} (h : 4503599627370496 ≤ r) : (man r).log2 = 52 := by
  have h1 := man_lt r
  have h2 : 4503599627370496 ≤ man r := by unfold man; rw [if_neg (by omega)]; omega
  rw [Nat.log2_eq_iff (by omega)]
  omega

/-- WRITING A NUMBER THAT A WORD STANDS FOR, however it is given -/
theorem nearest_exact (s : Bool) (mag : Nat) (place : Int) (r : Nat) (hr : r < 9218868437227405312)
    (h : mag * 2 ^ (place + 1074).toNat = V r * 2 ^ (-1074 - place).toNat) : double.nearest s mag place = wd s r := by
  unfold Format.nearest
  by_cases hm : mag = 0
  · rw [if_pos hm]
    rw [hm, Nat.zero_mul] at h
    have hv : V r = 0 := by
      have := Nat.two_pow_pos (-1074 - place).toNat
      rcases Nat.eq_zero_or_pos (V r) with h1 | h1
      · exact h1
      · have := Nat.mul_pos h1 this; omega
    have : r = 0 := by
      rcases Nat.eq_zero_or_pos r with h1 | h1
      · exact h1
      · have := V_pos h1; omega
    rw [this, d_word]
  · rw [if_neg hm]
    simp only [d_least, d_frac, d_binade, d_inf, d_word]
    have hr0 : r ≠ 0 := by
      intro e; rw [e, V_zero, Nat.zero_mul] at h
      have := Nat.mul_pos (Nat.pos_of_ne_zero hm) (Nat.two_pow_pos (place + 1074).toNat); omega
    have hman := man_pos (Nat.pos_of_ne_zero hr0)
    unfold V at h
    rw [Nat.mul_assoc, ← Nat.pow_add] at h
    have hl := congrArg Nat.log2 h
    rw [log2_mul_pow _ _ hm, log2_mul_pow _ _ (by omega)] at hl
    -- the place of the last digit
    have hlast : max (place + (mag.log2 : Int) - (52 : Nat)) (-1074) = -1074 + (ex r : Int) := by
      by_cases hn : 4503599627370496 ≤ r
      · rw [man_log2 hn] at hl; omega
      · have h1 : (man r).log2 ≤ 51 := by
          have : man r < 2 ^ 52 := by unfold man; rw [if_pos (by omega)]; omega
          have := (Nat.log2_lt (by omega)).2 this
          omega
        have h2 : ex r = 0 := by unfold ex; rw [if_pos (by omega)]
        rw [h2] at hl ⊢; omega
    rw [hlast]
    have hk : Toward.even.cut s (mag <<< (place - (-1074 + (ex r : Int))).toNat) ((-1074 + (ex r : Int)) - place).toNat = man r := by
      have : mag <<< (place - (-1074 + (ex r : Int))).toNat = man r <<< ((-1074 + (ex r : Int)) - place).toNat := by
        rw [Nat.shiftLeft_eq, Nat.shiftLeft_eq]
        rcases Int.le_total place (-1074 + (ex r : Int)) with hp | hp
        · have e1 : (place - (-1074 + (ex r : Int))).toNat = 0 := by omega
          rw [e1]
          -- multiply both sides
          have hpos := Nat.two_pow_pos (place + 1074).toNat
          apply Nat.eq_of_mul_eq_mul_right hpos
          rw [Nat.pow_zero, Nat.mul_one, h, Nat.mul_assoc, ← Nat.pow_add]
          congr 2; omega
        · have e1 : ((-1074 + (ex r : Int)) - place).toNat = 0 := by omega
          rw [e1]
          have e2 : (-1074 - place).toNat = 0 := by omega
          have e3 : (place + 1074).toNat = (place - (-1074 + (ex r : Int))).toNat + ex r := by omega
          rw [e2, e3, Nat.add_zero, Nat.pow_add, ← Nat.mul_assoc] at h
          have := Nat.eq_of_mul_eq_mul_right (Nat.two_pow_pos (ex r)) h
          rw [this, Nat.pow_zero, Nat.mul_one]
      rw [this, cut_exact]
    rw [hk]
    have e4 : ((-1074 + (ex r : Int)) - -1074).toNat = ex r := by omega
    rw [e4]
    have : ex r * 4503599627370496 + man r = r := by
      unfold ex man
      split
      · rw [Nat.zero_mul, Nat.zero_add]
      · omega
    rw [this]
    exact congrArg (wd s) (Nat.min_eq_left (Nat.le_of_lt hr))

/-- what a finite word is worth, with its sign, in units of the least place -/
def SV (w : Nat) : Int := if sgn w then -(V (rung w) : Int) else (V (rung w) : Int)

theorem signed_scale (s : Bool) (m up c : Nat) : signed s m up * (2 ^ c : Nat) = if s then -((m * 2 ^ (up + c) : Nat) : Int) else ((m * 2 ^ (up + c) : Nat) : Int) := by
  unfold signed
  rw [Nat.shiftLeft_eq, Nat.pow_add, ← Nat.mul_assoc]
  cases s
  · simp [Int.natCast_mul]
  · simp [Int.natCast_mul, Int.neg_mul]

theorem signed_SV {w : Nat} {c : Nat} (hc : c ≤ ex (rung w)) : signed (sgn w) (man (rung w)) (ex (rung w) - c) * (2 ^ c : Nat) = SV w := by
  rw [signed_scale, Nat.sub_add_cancel hc]; rfl

theorem compare_scale (a b : Int) (k : Nat) (hk : 0 < k) : compare (a * k) (b * k) = compare a b := by
  have hk' : (0 : Int) < (k : Int) := by omega
  have h1 : (a * k < b * k) ↔ a < b := ⟨fun h => Int.lt_of_mul_lt_mul_right h (Int.le_of_lt hk'), fun h => Int.mul_lt_mul_of_pos_right h hk'⟩
  have h2 : (a * k = b * k) ↔ a = b := ⟨fun h => Int.eq_of_mul_eq_mul_right (by omega) h, fun h => by rw [h]⟩
  simp only [compare, compareOfLessAndEq, h1, h2]

theorem order_fin {x y : Nat} (hx : fin x = true) (hy : fin y = true) : double.order x y = some (compare (SV x) (SV y)) := by
  unfold Format.order
  rw [read_fin hx, read_fin hy]
  simp only [Datum.order]
  generalize hc : min (ex (rung x)) (ex (rung y)) = c
  have h1 : (-1074 + (ex (rung x) : Int) - min (-1074 + (ex (rung x) : Int)) (-1074 + (ex (rung y) : Int))).toNat = ex (rung x) - c := by omega
  have h2 : (-1074 + (ex (rung y) : Int) - min (-1074 + (ex (rung x) : Int)) (-1074 + (ex (rung y) : Int))).toNat = ex (rung y) - c := by omega
  rw [h1, h2, ← compare_scale _ _ (2 ^ c) (Nat.two_pow_pos c), signed_SV (by omega), signed_SV (by omega)]

/-- 1, in units of the least place -/
def PL : Nat := 1074
theorem PL_eq : PL = 1074 := rfl
def U : Nat := 2 ^ PL
theorem U_pos : 0 < U := Nat.two_pow_pos _
theorem U_split (a : Nat) (h : a ≤ 1074) : U = 2 ^ (1074 - a) * 2 ^ a := by
  unfold U; rw [← Nat.pow_add, PL_eq]; congr 1; omega
theorem U_up (a : Nat) (h : 1074 ≤ a) : (2 : Nat) ^ a = 2 ^ (a - 1074) * U := by
  unfold U; rw [← Nat.pow_add, PL_eq]; congr 1; omega

theorem mul_exact {x y r : Nat} (hx : fin x = true) (hy : fin y = true) (hr : r < 9218868437227405312) (h : V (rung x) * V (rung y) = V r * U) :
    double.mul x y = some (wd (sgn x ^^ sgn y) r) := by
  unfold Format.mul
  rw [read_fin hx, read_fin hy]
  simp only [Datum.product, Option.map_some, Format.write]
  congr 1
  apply nearest_exact _ _ _ _ hr
  unfold V at h
  rw [Nat.mul_mul_mul_comm, ← Nat.pow_add] at h
  generalize ex (rung x) = a at *
  generalize ex (rung y) = b at *
  generalize man (rung x) * man (rung y) = m at *
  unfold V
  generalize man r * 2 ^ ex r = v at *
  by_cases hab : 1074 ≤ a + b
  · have e1 : (-1074 + (a : Int) + (-1074 + (b : Int)) + 1074).toNat = a + b - 1074 := by omega
    have e2 : (-1074 - (-1074 + (a : Int) + (-1074 + (b : Int)))).toNat = 0 := by omega
    rw [e1, e2, Nat.pow_zero, Nat.mul_one]
    rw [U_up _ hab, ← Nat.mul_assoc] at h
    exact Nat.eq_of_mul_eq_mul_right U_pos h
  · have e1 : (-1074 + (a : Int) + (-1074 + (b : Int)) + 1074).toNat = 0 := by omega
    have e2 : (-1074 - (-1074 + (a : Int) + (-1074 + (b : Int)))).toNat = 1074 - (a + b) := by omega
    rw [e1, e2, Nat.pow_zero, Nat.mul_one]
    rw [U_split (a + b) (by omega), ← Nat.mul_assoc] at h
    exact Nat.eq_of_mul_eq_mul_right (Nat.two_pow_pos (a + b)) h

/-- which numbers there are words for -/
theorem rep (e : Nat) : ∀ m : Nat, m < 9007199254740992 → e ≤ 2045 → ∃ r, r < 9218868437227405312 ∧ V r = m * 2 ^ e := by
  induction e with
  | zero =>
    intro m hm _
    refine ⟨m, by omega, ?_⟩
    unfold V man ex
    by_cases h : m < 4503599627370496
    · simp [h]
    · rw [if_neg h, if_neg h]
      have h1 : m / 4503599627370496 - 1 = 0 := by omega
      have h2 : 4503599627370496 + m % 4503599627370496 = m := by omega
      rw [h1, h2]
  | succ e ih =>
    intro m hm he
    by_cases h : m < 4503599627370496
    · obtain ⟨r, hr, hv⟩ := ih (2 * m) (by omega) (by omega)
      refine ⟨r, hr, ?_⟩
      rw [hv, Nat.pow_succ, Nat.mul_comm 2 m, Nat.mul_assoc, Nat.mul_comm 2]
    · refine ⟨(e + 2) * 4503599627370496 + (m - 4503599627370496), by omega, ?_⟩
      unfold V man ex
      rw [if_neg (by omega), if_neg (by omega)]
      have h1 : ((e + 2) * 4503599627370496 + (m - 4503599627370496)) % 4503599627370496 = m - 4503599627370496 := by omega
      have h2 : ((e + 2) * 4503599627370496 + (m - 4503599627370496)) / 4503599627370496 = e + 2 := by omega
      rw [h1, h2, show 4503599627370496 + (m - 4503599627370496) = m by omega, show e + 2 - 1 = e + 1 by omega]

/-- a whole number that there is a word for -/
theorem write_whole (s : Bool) (K r : Nat) (hr : r < 9218868437227405312) (h : V r = K * U) : double.write (.number s K 0) = wd s r := by
  simp only [Format.write]
  apply nearest_exact _ _ _ _ hr
  have e1 : ((0 : Int) + 1074).toNat = PL := rfl
  have e2 : (-1074 - (0 : Int)).toNat = 0 := rfl
  rw [h, e1, e2, Nat.pow_zero, Nat.mul_one]; rfl

end F64
namespace Go.Proofs.YtbakbikilbaafaaGreatDoor
set_option linter.unusedVariables false
set_option maxHeartbeats 1000000
set_option maxRecDepth 100000

def ndg (u : Nat) (d : Int) : Nat := (((u : Int) + d) % 18446744073709551616).toNat
def cei (u : Nat) : Nat := (u + 3) / 4
def rou (u : Nat) : Nat := (u + 1 + u / 4 % 2) / 4
/-- how many low bits of the left-justified mantissa are no part of the number -/
def sfZ (e : Int) : Nat := if -1085 ≤ e then 11 else (11 + (-1085 - e)).toNat
def sfSk (m : Nat) (e : Int) : Bool := decide (m = 9223372036854775808) && decide (-1085 < e)
def sfP (m : Nat) (e : Int) : Int := if sfSk m e then -(((e + 11) * 631305 - 261663) / 2097152) else -((e + sfZ e) * 78913 / 262144)
def sfMin (m : Nat) (e : Int) : Nat := if sfSk m e then m - 512 else m - 2 ^ (sfZ e - 1)
def sfMax (m : Nat) (e : Int) : Nat := m + 2 ^ (sfZ e - 1)
def sfOdd (m : Nat) (e : Int) : Nat := m / 2 ^ sfZ e % 2
def sfS (m : Nat) (e : Int) : Nat := (-(e + sfP m e * 108853 / 32768 + 3)).toNat
def sfLo (hi lo m : Nat) (e : Int) : Nat := cei (ndg (usc (sfMin m e) hi lo (sfS m e)) (sfOdd m e))
def sfHi (hi lo m : Nat) (e : Int) : Nat := ndg (usc (sfMax m e) hi lo (sfS m e)) (-(sfOdd m e : Int)) / 4
def sfD (hi lo m : Nat) (e : Int) : Nat :=
  if sfLo hi lo m e ≤ sfHi hi lo m e / 10 * 10 then sfHi hi lo m e / 10
  else if sfLo hi lo m e < sfHi hi lo m e then rou (usc m hi lo (sfS m e)) else sfLo hi lo m e
def sfQ (hi lo m : Nat) (e : Int) : Int := if sfLo hi lo m e ≤ sfHi hi lo m e / 10 * 10 then -(sfP m e - 1) else -(sfP m e)
/-- uscale's answer between bounds -/
theorem usc_le {x ph pl s : Nat} (hx : x < 18446744073709551616) (hp : ph < 18446744073709551616) (hs : 5 ≤ s) (hs2 : s < 64) : usc x ph pl s < 576460752303423489 + 1 := by
  have hhi : x * ph / 18446744073709551616 < 18446744073709551616 := Nat.div_lt_of_lt_mul (Nat.mul_lt_mul'' hx hp)
  have h5 : ∀ y, y < 18446744073709551616 → y / 2 ^ s < 576460752303423488 := fun y hy => by
    have h1 : y / 2 ^ s ≤ y / 2 ^ 5 := Nat.div_le_div_left (Nat.pow_le_pow_right (by decide) hs) (by decide)
    have e : (2 : Nat) ^ 5 = 32 := by decide
    rw [e] at h1
    omega
  unfold usc
  rw [W64_eq]
  split
  · rw [or_one]
    have := h5 _ hhi
    omega
  · rw [or_b2n]
    have := h5 ((x * ph / 18446744073709551616 + 18446744073709551616 - b2n (decide (x * ph % 18446744073709551616 < x * pl / 18446744073709551616))) % 18446744073709551616) (Nat.mod_lt _ (by decide))
    split <;> omega
theorem usc_ge {x ph pl s : Nat} (hx0 : 4611686018427387904 ≤ x) (hx : x < 18446744073709551616) (hp0 : 9223372036854775808 ≤ ph) (hp : ph < 18446744073709551616) (hs : s ≤ 58) : 6 ≤ usc x ph pl s := by
  have hhi : x * ph / 18446744073709551616 < 18446744073709551616 := Nat.div_lt_of_lt_mul (Nat.mul_lt_mul'' hx hp)
  have hlo : 2305843009213693952 ≤ x * ph / 18446744073709551616 := by
    rw [Nat.le_div_iff_mul_le (by decide)]
    exact Nat.le_trans (by decide) (Nat.mul_le_mul hx0 hp0)
  have h7 : ∀ y, 2305843009213693951 ≤ y → 7 ≤ y / 2 ^ s := fun y hy => by
    have h1 : y / 2 ^ 58 ≤ y / 2 ^ s := Nat.div_le_div_left (Nat.pow_le_pow_right (by decide) hs) (Nat.two_pow_pos _)
    have e : (2 : Nat) ^ 58 = 288230376151711744 := by decide
    rw [e] at h1
    omega
  unfold usc
  rw [W64_eq]
  split
  · rw [or_one]
    have := h7 _ (Nat.le_trans (by decide) hlo)
    omega
  · rw [or_b2n]
    generalize decide (x * ph % 18446744073709551616 < x * pl / 18446744073709551616) = d
    have hd : b2n d ≤ 1 := by cases d <;> decide
    have := h7 ((x * ph / 18446744073709551616 + 18446744073709551616 - b2n d) % 18446744073709551616) (by omega)
    split <;> omega
/-- the numbers that shortFloat asks of: a left-justified mantissa and its exponent -/
structure SfIn (m : Nat) (e : Int) : Prop where
  lo : 9223372036854775808 ≤ m
  hi : m + 2 ^ (sfZ e - 1) < 18446744073709551616
  e1 : -1137 ≤ e
  e2 : e ≤ 960
theorem sfZ_b {e : Int} (h : -1137 ≤ e) : 11 ≤ sfZ e ∧ sfZ e ≤ 63 := by
  unfold sfZ
  split <;> omega
theorem SfIn.s {m : Nat} {e : Int} (h : SfIn m e) : (5 ≤ sfS m e ∧ sfS m e ≤ 58) ∧ (0 ≤ -(e + sfP m e * 108853 / 32768 + 3)) ∧ -330 ≤ sfP m e ∧ sfP m e ≤ 330 := by
  obtain ⟨_, _, h1, h2⟩ := h
  unfold sfS sfP sfZ
  split
  · have hk : -1085 < e := by
      rename_i hh
      unfold sfSk at hh
      simp at hh
      exact hh.2
    omega
  · split
    · omega
    · have e1 : e + (((11 + (-1085 - e)).toNat : Nat) : Int) = -1074 := by omega
      rw [e1]
      omega
theorem SfIn.mn {m : Nat} {e : Int} (h : SfIn m e) : 4611686018427387904 ≤ sfMin m e ∧ sfMin m e < 18446744073709551616 := by
  obtain ⟨h0, h9, h1, h2⟩ := h
  have hz := sfZ_b h1
  have hp : 2 ^ (sfZ e - 1) ≤ 2 ^ 62 := Nat.pow_le_pow_right (by decide) (by omega)
  have e : (2 : Nat) ^ 62 = 4611686018427387904 := by decide
  unfold sfMin
  generalize 2 ^ (sfZ _ - 1) = P at *
  split <;> omega
theorem SfIn.m64 {m : Nat} {e : Int} (h : SfIn m e) : m < 18446744073709551616 := by
  have h9 := h.hi
  generalize 2 ^ (sfZ e - 1) = P at *
  omega
theorem SfIn.mx {m : Nat} {e : Int} (h : SfIn m e) : m ≤ sfMax m e ∧ sfMax m e < 18446744073709551616 := by
  have h9 := h.hi
  unfold sfMax
  generalize 2 ^ (sfZ e - 1) = P at *
  omega
theorem ndg_add (u : Nat) (d : Nat) (h : u + d < 18446744073709551616) : ndg u d = u + d := by unfold ndg; omega
theorem ndg_sub (u d : Nat) (h : d ≤ u) (hu : u < 18446744073709551616) : ndg u (-(d : Int)) = u - d := by unfold ndg; omega
theorem sf_b {hi lo m : Nat} {e : Int} (h : SfIn m e) (hp0 : 9223372036854775808 ≤ hi) (hp : hi < 18446744073709551616) :
    1 ≤ sfD hi lo m e ∧ sfD hi lo m e < 1000000000000000000 ∧ -332 ≤ sfQ hi lo m e ∧ sfQ hi lo m e ≤ 332 := by
  obtain ⟨⟨s1, s2⟩, _, p1, p2⟩ := h.s
  obtain ⟨mn1, mn2⟩ := h.mn
  have hm0 := h.lo
  obtain ⟨x1, hmx⟩ := h.mx
  have hm64 := h.m64
  have ho : sfOdd m e ≤ 1 := by unfold sfOdd; omega
  have a1 := usc_ge (pl := lo) mn1 mn2 hp0 hp s2
  have a2 := usc_le (pl := lo) mn2 hp s1 (by omega)
  have b1 := usc_ge (x := sfMax m e) (pl := lo) (by omega) hmx hp0 hp s2
  have b2 := usc_le (x := sfMax m e) (pl := lo) hmx hp s1 (by omega)
  have c1 := usc_ge (x := m) (pl := lo) (by omega) (by omega) hp0 hp s2
  have c2 := usc_le (x := m) (pl := lo) (by omega) hp s1 (by omega)
  have l1 : sfLo hi lo m e = (usc (sfMin m e) hi lo (sfS m e) + sfOdd m e + 3) / 4 := by
    unfold sfLo cei
    rw [ndg_add _ _ (by omega)]
  have l2 : sfHi hi lo m e = (usc (sfMax m e) hi lo (sfS m e) - sfOdd m e) / 4 := by
    unfold sfHi
    rw [ndg_sub _ _ (by omega) (by omega)]
  unfold sfD sfQ rou
  rw [l1, l2]
  split
  · omega
  · split <;> omega
end Go.Proofs.YtbakbikilbaafaaGreatDoor
namespace Go.Proofs.YtbakbikilbaafaaGreatDoor
open F64 Ieee
set_option linter.unusedVariables false
set_option maxHeartbeats 1000000
set_option maxRecDepth 100000

/-- the rung r is nearest to a / b, in units of the least place; between two the even one -/
structure Near (r a b : Nat) : Prop where
  le : r ≤ 9218868437227405312
  up : r = 9218868437227405312 ∨ 2 * a < b * (V r + V (r + 1)) ∨ (2 * a = b * (V r + V (r + 1)) ∧ r % 2 = 0)
  dn : r = 0 ∨ b * (V (r - 1) + V r) < 2 * a ∨ (b * (V (r - 1) + V r) = 2 * a ∧ r % 2 = 0)
theorem near_mono {r r' a b a' b' : Nat} (h : Near r a b) (h' : Near r' a' b') (hb : 0 < b) (hb' : 0 < b') (hle : a * b' ≤ a' * b) : r ≤ r' := by
  rcases Nat.lt_or_ge r' r with hlt | hge
  · exfalso
    have u := h'.up
    have d := h.dn
    have l1 := h.le
    rcases u with u | u
    · omega
    rcases d with d | d
    · omega
    have v1 : V r' ≤ V (r - 1) := V_le (by omega)
    have v2 : V (r' + 1) ≤ V r := V_le (by omega)
    -- b b' (V (r-1) + V r) <= 2 a b' <= 2 a' b <= b b' (V r' + V (r'+1))
    have hV : V r' + V (r' + 1) ≤ V (r - 1) + V r := by omega
    have m1 : b' * b * (V r' + V (r' + 1)) ≤ b' * b * (V (r - 1) + V r) := Nat.mul_le_mul_left _ hV
    have m2 : 2 * a * b' ≤ 2 * a' * b := by rw [Nat.mul_assoc, Nat.mul_assoc]; omega
    have c1 : b * (V (r - 1) + V r) * b' = b' * b * (V (r - 1) + V r) := by ac_rfl
    have c2 : b' * (V r' + V (r' + 1)) * b = b' * b * (V r' + V (r' + 1)) := by ac_rfl
    have hbb : 0 < b' * b := Nat.mul_pos hb' hb
    rcases d with d | ⟨d, d2⟩
    · have d3 := Nat.mul_lt_mul_of_pos_right d hb'
      rcases u with u | ⟨u, u2⟩
      · have u3 := Nat.mul_lt_mul_of_pos_right u hb
        omega
      · have u3 : 2 * a' * b = b' * (V r' + V (r' + 1)) * b := by rw [u]
        omega
    · have d3 : b * (V (r - 1) + V r) * b' = 2 * a * b' := by rw [d]
      rcases u with u | ⟨u, u2⟩
      · have u3 := Nat.mul_lt_mul_of_pos_right u hb
        omega
      · have u3 : 2 * a' * b = b' * (V r' + V (r' + 1)) * b := by rw [u]
        have e : V (r - 1) + V r = V r' + V (r' + 1) := by
          have : b' * b * (V (r - 1) + V r) = b' * b * (V r' + V (r' + 1)) := by omega
          exact Nat.eq_of_mul_eq_mul_left hbb this
        have : r' = r - 1 := V_inj (by omega)
        omega
  · exact hge
theorem near_one {r r' a b a' b' : Nat} (h : Near r a b) (h' : Near r' a' b') (hb : 0 < b) (hb' : 0 < b') (he : a * b' = a' * b) : r = r' :=
  Nat.le_antisymm (near_mono h h' hb hb' (by omega)) (near_mono h' h hb' hb (by omega))
theorem near_scale {r a b c : Nat} (hc : 0 < c) (h : Near r a b) : Near r (a * c) (b * c) := by
  obtain ⟨h1, h2, h3⟩ := h
  have e : ∀ x, b * c * x = b * x * c := fun x => by ac_rfl
  have e2 : 2 * (a * c) = 2 * a * c := by ac_rfl
  refine ⟨h1, ?_, ?_⟩
  · rw [e, e2]
    rcases h2 with h | h | ⟨h, g⟩
    · exact .inl h
    · exact .inr (.inl (Nat.mul_lt_mul_of_pos_right h hc))
    · exact .inr (.inr ⟨by rw [h], g⟩)
  · rw [e, e2]
    rcases h3 with h | h | ⟨h, g⟩
    · exact .inl h
    · exact .inr (.inl (Nat.mul_lt_mul_of_pos_right h hc))
    · exact .inr (.inr ⟨by rw [h], g⟩)
theorem near_unscale {r a b c : Nat} (hc : 0 < c) (h : Near r (a * c) (b * c)) : Near r a b := by
  obtain ⟨h1, h2, h3⟩ := h
  have e : ∀ x, b * c * x = b * x * c := fun x => by ac_rfl
  have e2 : 2 * (a * c) = 2 * a * c := by ac_rfl
  rw [e, e2] at h2 h3
  refine ⟨h1, ?_, ?_⟩
  · rcases h2 with h | h | ⟨h, g⟩
    · exact .inl h
    · exact .inr (.inl (Nat.lt_of_mul_lt_mul_right h))
    · exact .inr (.inr ⟨Nat.eq_of_mul_eq_mul_right hc h, g⟩)
  · rcases h3 with h | h | ⟨h, g⟩
    · exact .inl h
    · exact .inr (.inl (Nat.lt_of_mul_lt_mul_right h))
    · exact .inr (.inr ⟨Nat.eq_of_mul_eq_mul_right hc h, g⟩)
/-- the same fraction, otherwise written -/
theorem near_eq {r a b a' b' : Nat} (h : Near r a b) (hb : 0 < b) (hb' : 0 < b') (he : a * b' = a' * b) : Near r a' b' := by
  apply near_unscale hb
  have := near_scale hb' h
  rw [he, Nat.mul_comm b b'] at this
  exact this
theorem near_V {r b : Nat} (hr : r < 9218868437227405312) (hb : 0 < b) : Near r (V r * b) b := by
  have v1 := V_succ r
  refine ⟨by omega, .inr (.inl ?_), ?_⟩
  · have := Nat.mul_lt_mul_of_pos_left v1 hb
    rw [Nat.mul_add]
    have e : V r * b = b * V r := Nat.mul_comm _ _
    omega
  · by_cases h0 : r = 0
    · exact .inl h0
    · have v2 := V_succ (r - 1)
      rw [show r - 1 + 1 = r by omega] at v2
      have := Nat.mul_lt_mul_of_pos_left v2 hb
      refine .inr (.inl ?_)
      rw [Nat.mul_add]
      have e : V r * b = b * V r := Nat.mul_comm _ _
      omega
/-- what the rung of E and K is worth -/
theorem V_EK {E K : Nat} (hK : K ≤ 9007199254740992) (h : E = 0 ∨ 4503599627370496 ≤ K) : V (E * 4503599627370496 + K) = K * 2 ^ E := by
  have key : ∀ E K, K < 9007199254740992 → (E = 0 ∨ 4503599627370496 ≤ K) → V (E * 4503599627370496 + K) = K * 2 ^ E := by
    intro E K hK h
    unfold V man ex
    by_cases h0 : E * 4503599627370496 + K < 4503599627370496
    · have : E = 0 := by omega
      subst this
      simp only [Nat.zero_mul, Nat.zero_add] at h0
      rw [if_pos (by omega), if_pos (by omega)]
      simp
    · rw [if_neg h0, if_neg h0]
      have hK2 : 4503599627370496 ≤ K := by omega
      have e1 : 4503599627370496 + (E * 4503599627370496 + K) % 4503599627370496 = K := by omega
      have e2 : (E * 4503599627370496 + K) / 4503599627370496 - 1 = E := by omega
      rw [e1, e2]
  rcases Nat.lt_or_ge K 9007199254740992 with h1 | h1
  · exact key E K h1 h
  · have : K = 9007199254740992 := by omega
    subst this
    rw [show E * 4503599627370496 + 9007199254740992 = (E + 1) * 4503599627370496 + 4503599627370496 by omega, key (E + 1) 4503599627370496 (by decide) (.inr (Nat.le_refl _)), Nat.pow_succ]
    omega
def EI : Nat := 2046
theorem EI_eq : EI = 2046 := rfl
theorem V_inf : V 9218868437227405312 = 4503599627370496 * 2 ^ EI := by
  have := V_EK (E := EI) (K := 4503599627370496) (by decide) (.inr (by decide))
  rw [← this]
  rfl
/-- K is a / (b 2^E) rounded, ties to the even one -/
def Half (K a B : Nat) : Prop := (2 * a < B * (2 * K + 1) ∨ (2 * a = B * (2 * K + 1) ∧ K % 2 = 0)) ∧ (K = 0 ∨ B * (2 * K - 1) < 2 * a ∨ (B * (2 * K - 1) = 2 * a ∧ K % 2 = 0))
theorem near_round {a b E K : Nat} (hb : 0 < b) (hH : Half K a (b * 2 ^ E)) (hE : E = 0 ∨ b * 2 ^ E * 4503599627370496 ≤ a) (hK : K ≤ 9007199254740992) : Near (min (E * 4503599627370496 + K) 9218868437227405312) a b := by
  obtain ⟨h1, h2⟩ := hH
  have hB : 0 < b * 2 ^ E := Nat.mul_pos hb (Nat.two_pow_pos _)
  have hK2 : E = 0 ∨ 4503599627370496 ≤ K := by
    rcases hE with h | h
    · exact .inl h
    · right
      rcases Nat.lt_or_ge K 4503599627370496 with h3 | h3
      · exfalso
        have : b * 2 ^ E * (2 * K + 1) < b * 2 ^ E * (2 * 4503599627370496) := Nat.mul_lt_mul_of_pos_left (by omega) hB
        have e : b * 2 ^ E * (2 * 4503599627370496) = 2 * (b * 2 ^ E * 4503599627370496) := by ac_rfl
        omega
      · exact h3
  have hV := V_EK hK hK2
  have key : ∀ r, r = E * 4503599627370496 + K → r ≤ 9218868437227405312 → Near r a b := by
    intro r hr hr2
    rw [← hr] at hV
    have he : b * V r = b * 2 ^ E * K := by rw [hV]; ac_rfl
    refine ⟨hr2, ?_, ?_⟩
    · right
      -- the next one up is at least one unit further
      have hn : b * 2 ^ E * (2 * K + 1) ≤ b * (V r + V (r + 1)) := by
        have : V r + 2 ^ E ≤ V (r + 1) := by
          rcases Nat.lt_or_ge K 9007199254740992 with h3 | h3
          · have := V_EK (E := E) (K := K + 1) (by omega) (by omega)
            rw [show r + 1 = E * 4503599627370496 + (K + 1) by omega, this, hV, Nat.add_mul]; omega
          · have hKe : K = 9007199254740992 := by omega
            have := V_EK (E := E + 1) (K := 4503599627370497) (by omega) (by omega)
            rw [show r + 1 = (E + 1) * 4503599627370496 + 4503599627370497 by omega, this, hV, hKe, Nat.pow_succ]
            have := Nat.two_pow_pos E
            omega
        have := Nat.mul_le_mul_left b this
        rw [Nat.mul_add] at this
        rw [Nat.mul_add b, Nat.mul_add (b * 2 ^ E), Nat.mul_one]
        have e3 : b * 2 ^ E * (2 * K) = 2 * (b * 2 ^ E * K) := by ac_rfl
        omega
      rcases h1 with h1 | ⟨h1, g1⟩
      · exact .inl (Nat.lt_of_lt_of_le h1 hn)
      · rcases Nat.lt_or_ge (2 * a) (b * (V r + V (r + 1))) with h3 | h3
        · exact .inl h3
        · exact .inr ⟨by omega, by omega⟩
    · rcases h2 with h2 | h2
      · rcases hK2 with h3 | h3
        · left; rw [hr, h2, h3]
        · omega
      · by_cases hK00 : K = 0
        · left
          rcases hK2 with h4 | h4
          · rw [hr, hK00, h4]
          · omega
        right
        -- the next one down is just one unit, or K is the least one and a is not below it
        by_cases hl : K = 4503599627370496 ∧ 0 < E
        · obtain ⟨hKe, hE0⟩ := hl
          left
          have hge : b * 2 ^ E * 4503599627370496 ≤ a := by omega
          have hlt : V (r - 1) < V r := V_lt (by omega)
          have := Nat.mul_lt_mul_of_pos_left hlt hb
          rw [Nat.mul_add, he, hKe]
          rw [he, hKe] at this
          omega
        · by_cases hK0 : K = 0
          · omega
          · have hd : V (r - 1) + 2 ^ E = V r := by
              have := V_EK (E := E) (K := K - 1) (by omega) (by omega)
              rw [show r - 1 = E * 4503599627370496 + (K - 1) by omega, this, hV]
              obtain ⟨k, rfl⟩ : ∃ k, K = k + 1 := ⟨K - 1, by omega⟩
              rw [Nat.add_sub_cancel, Nat.add_mul, Nat.one_mul]
            have hn : b * (V (r - 1) + V r) = b * 2 ^ E * (2 * K - 1) := by
              have h5 := congrArg (b * ·) hd
              simp only [Nat.mul_add] at h5
              rw [Nat.mul_add, he]
              rw [he] at h5
              obtain ⟨k, rfl⟩ : ∃ k, K = k + 1 := ⟨K - 1, by omega⟩
              rw [show 2 * (k + 1) - 1 = 2 * k + 1 by omega, Nat.mul_add (b * 2 ^ E) (2 * k), Nat.mul_one]
              rw [Nat.mul_add (b * 2 ^ E) k, Nat.mul_one] at h5 ⊢
              have e3 : b * 2 ^ E * (2 * k) = 2 * (b * 2 ^ E * k) := by ac_rfl
              omega
            rw [hn]
            rcases h2 with h2 | ⟨h2, g2⟩
            · exact .inl h2
            · exact .inr ⟨h2, by omega⟩
  rcases Nat.lt_or_ge 9218868437227405312 (E * 4503599627370496 + K) with hbig | hsm
  · rw [Nat.min_eq_right (by omega)]
    have hE2 : 2046 ≤ E := by omega
    refine ⟨Nat.le_refl _, .inl rfl, .inr (.inl ?_)⟩
    have hge : b * 2 ^ E * 4503599627370496 ≤ a := by omega
    have h3 : b * 2 ^ EI ≤ b * 2 ^ E := Nat.mul_le_mul_left _ (Nat.pow_le_pow_right (by decide) hE2)
    have hlt : V (9218868437227405312 - 1) < V 9218868437227405312 := V_lt (by decide)
    have := Nat.mul_lt_mul_of_pos_left hlt hb
    rw [Nat.mul_add]
    have e : b * V 9218868437227405312 = b * 2 ^ EI * 4503599627370496 := by rw [V_inf]; ac_rfl
    omega
  · rw [Nat.min_eq_left hsm]
    exact key _ rfl hsm
/-- the program's rounding of an unrounded number -/
theorem rou_half {X Y : Nat} (hY : 0 < Y) : Half (rou (unr X Y)) X (4 * Y) := by
  have hd := Nat.div_add_mod X Y
  have hm : X % Y < Y := Nat.mod_lt _ hY
  have key : ∀ K, 4 * Y * (2 * K + 1) = 8 * (Y * K) + 4 * Y := fun K => by
    rw [Nat.mul_add, Nat.mul_one, show 4 * Y * (2 * K) = 8 * (Y * K) by ac_rfl]
  have key2 : ∀ K, 4 * Y * (2 * (K + 1) - 1) = 8 * (Y * K) + 4 * Y := fun K => key K
  have key3 : ∀ K, Y * (K + 1) = Y * K + Y := fun K => Nat.mul_succ _ _
  unfold unr rou
  generalize X / Y = q at *
  generalize X % Y = r at *
  obtain ⟨k, j, hj, rfl⟩ : ∃ k j, j < 4 ∧ q = 4 * k + j := ⟨q / 4, q % 4, by omega, by omega⟩
  rw [Nat.mul_add, show Y * (4 * k) = 4 * (Y * k) by ac_rfl] at hd
  have fin : ∀ K, (K = k ∧ (Y * j + r < 2 * Y ∨ (Y * j + r = 2 * Y ∧ k % 2 = 0)) ∨ K = k + 1 ∧ (2 * Y < Y * j + r ∨ (Y * j + r = 2 * Y ∧ k % 2 = 1))) → Half K X (4 * Y) := by
    intro K h
    have hj4 : Y * j ≤ 3 * Y := by
      have := Nat.mul_le_mul_left Y (show j ≤ 3 by omega)
      omega
    unfold Half
    rcases h with ⟨rfl, h⟩ | ⟨rfl, h⟩
    · rw [key]
      refine ⟨by rcases h with h | ⟨h, g⟩ <;> omega, ?_⟩
      cases K with
      | zero => exact .inl rfl
      | succ K => rw [key2]; rw [key3] at hd; right; left; omega
    · rw [key, key3, key2]
      refine ⟨by left; omega, ?_⟩
      rcases h with h | ⟨h, g⟩
      · exact .inr (.inl (by omega))
      · exact .inr (.inr ⟨by omega, by omega⟩)
  apply fin
  have j4 : j = 0 ∨ j = 1 ∨ j = 2 ∨ j = 3 := by omega
  by_cases h0 : r = 0
  · rw [if_pos h0]
    rcases j4 with rfl | rfl | rfl | rfl <;> rcases Nat.mod_two_eq_zero_or_one k with hk | hk <;> omega
  · rw [if_neg h0]
    rcases j4 with rfl | rfl | rfl | rfl <;> rcases Nat.mod_two_eq_zero_or_one k with hk | hk <;> omega
/-- one place less: the lowest bit stays set -/
theorem unr_half (X Y : Nat) (hY : 0 < Y) : (if unr X Y % 2 = 0 then unr X Y / 2 else unr X Y / 2 / 2 * 2 + 1) = unr X (Y * 2) := by
  have e1 : X / (Y * 2) = X / Y / 2 := (Nat.div_div_eq_div_mul _ _ _).symm
  have e2 : X % (Y * 2) = X % Y + Y * (X / Y % 2) := Nat.mod_mul
  unfold unr
  rw [e1, e2]
  generalize X / Y = q
  rcases Nat.mod_two_eq_zero_or_one q with hq | hq
  · rw [hq, Nat.mul_zero, Nat.add_zero]
    by_cases h0 : X % Y = 0
    · simp only [if_pos h0, if_pos hq, Nat.add_zero]
    · simp only [if_neg h0, Nat.add_zero]
      rw [if_neg (by omega)]
      omega
  · rw [hq, Nat.mul_one]
    rw [if_neg (show ¬ X % Y + Y = 0 by omega)]
    by_cases h0 : X % Y = 0
    · rw [if_pos h0, if_neg (by omega)]
    · rw [if_neg h0, if_neg (by omega)]
      omega
end Go.Proofs.YtbakbikilbaafaaGreatDoor
namespace Go.Proofs.YtbakbikilbaafaaGreatDoor
open F64 Ieee
set_option linter.unusedVariables false
set_option maxHeartbeats 1000000
set_option maxRecDepth 100000

def EX : Nat := 1300
theorem EX_eq : EX = 1300 := rfl
def SC : Nat := 10 ^ EX
theorem SC_pos : 0 < SC := Nat.pow_pos (by decide)
/-- the digits' number -/
def numF (C : Nat → Nat) : Nat → Nat
  | 0 => 0
  | k + 1 => numF C k * 10 + (C k - 48)
theorem numF_succ (C : Nat → Nat) (k : Nat) : numF C (k + 1) = numF C k * 10 + (C k - 48) := rfl
theorem numF_zero (C : Nat → Nat) : numF C 0 = 0 := rfl
def DigOK (C : Nat → Nat) (n : Nat) : Prop := ∀ i, i < n → 48 ≤ C i ∧ C i ≤ 57
theorem DigOK.mono {C : Nat → Nat} {n m : Nat} (h : DigOK C n) (hm : m ≤ n) : DigOK C m := fun i hi => h i (by omega)
theorem numF_lt {C : Nat → Nat} : ∀ {n : Nat}, DigOK C n → numF C n < 10 ^ n
  | 0, _ => by rw [numF_zero]; exact Nat.pow_pos (by decide)
  | n + 1, h => by
    have ih := numF_lt (n := n) (h.mono (by omega))
    have := h n (by omega)
    rw [numF_succ, Nat.pow_succ]
    omega
theorem numF_ge {C : Nat → Nat} (h0 : 49 ≤ C 0) : ∀ n : Nat, 10 ^ n ≤ numF C (n + 1)
  | 0 => by rw [numF_succ, numF_zero, Nat.pow_zero]; omega
  | n + 1 => by
    have ih := numF_ge h0 n
    rw [numF_succ, Nat.pow_succ]
    omega
theorem numF_congr {C C' : Nat → Nat} : ∀ {n : Nat}, (∀ i, i < n → C i = C' i) → numF C n = numF C' n
  | 0, _ => rfl
  | n + 1, h => by rw [numF_succ, numF_succ, numF_congr (n := n) (fun i hi => h i (by omega)), h n (by omega)]
theorem numF_split (C : Nat → Nat) (a : Nat) : ∀ b : Nat, numF C (a + b) = numF C a * 10 ^ b + numF (fun i => C (a + i)) b
  | 0 => by simp [numF]
  | b + 1 => by
    rw [show a + (b + 1) = (a + b) + 1 by omega, numF_succ, numF_succ, numF_split C a b, Nat.pow_succ, Nat.add_mul, Nat.mul_assoc]
    omega
/-- what the fraction h / 2^(P + 1) has under it of X / Y, is kept where X / Y is cut off below -/
def E11 : Nat := 1100
def E79 : Nat := 799
theorem E79_eq : E79 = 799 := rfl
theorem big_small {x h : Nat} (hx : x ≤ 1100) (hh : h ≤ 36028797018963968) : h * 5 ^ x ≤ 2 * 10 ^ E79 := by
  have h1 : 5 ^ x ≤ 5 ^ E11 := Nat.pow_le_pow_right (by decide) hx
  have h2 : 36028797018963968 * 5 ^ E11 ≤ 2 * 10 ^ E79 := by decide +kernel
  exact Nat.le_trans (Nat.mul_le_mul hh h1) h2
theorem floor_keep {X Y d h P Q : Nat} (hY : 0 < Y) (hd : d ≤ 1300) (hh : h ≤ 36028797018963968) (hPQ : P ≤ Q + 1100) (ht : 10 ^ (d + 799) ≤ X / (Y * 10 ^ d) * 10 ^ d) (hle : h * SC * 2 ^ Q * Y ≤ 2 * X * 2 ^ P) :
    h * SC * 2 ^ Q ≤ 2 * (X / (Y * 10 ^ d) * 10 ^ d) * 2 ^ P := by
  have hu : 0 < 10 ^ d := Nat.pow_pos (by decide)
  have hS : SC = 10 ^ (1300 - d) * 10 ^ d := by unfold SC; rw [← Nat.pow_add, EX_eq]; congr 1; omega
  rcases Nat.lt_or_ge (1300 - d + Q) (P + 1) with hB | hA
  · obtain ⟨x, hxe⟩ : ∃ x, P = Q + x := ⟨P - Q, by omega⟩
    have hx : x ≤ 1100 := by omega
    subst hxe
    generalize X / (Y * 10 ^ d) * 10 ^ d = t at *
    have hb := big_small hx hh
    have e1 : h * SC ≤ 2 * t * 2 ^ x := by
      have m1 : h * 5 ^ x * 10 ^ (1300 - x) ≤ 2 * 10 ^ E79 * 10 ^ (1300 - x) := Nat.mul_le_mul_right _ hb
      have e2 : SC = 10 ^ (1300 - x) * (5 ^ x * 2 ^ x) := by
        unfold SC
        rw [← Nat.mul_pow, show (5 * 2 : Nat) = 10 from rfl, ← Nat.pow_add, EX_eq]; congr 1; omega
      have e3 : h * SC = h * 5 ^ x * 10 ^ (1300 - x) * 2 ^ x := by
        rw [e2]; ac_rfl
      rw [e3]
      refine Nat.mul_le_mul_right _ (Nat.le_trans m1 ?_)
      rw [Nat.mul_assoc, ← Nat.pow_add]
      refine Nat.mul_le_mul_left 2 (Nat.le_trans (Nat.pow_le_pow_right (by decide) ?_) ht)
      rw [E79_eq]
      omega
    rw [Nat.pow_add]
    have := Nat.mul_le_mul_right (2 ^ Q) e1
    calc h * SC * 2 ^ Q ≤ 2 * t * 2 ^ x * 2 ^ Q := this
      _ = 2 * t * (2 ^ Q * 2 ^ x) := by ac_rfl
  · obtain ⟨r, hr⟩ : ∃ r, 1300 - d + Q = (P + 1) + r := ⟨_, (Nat.add_sub_of_le hA).symm⟩
    have e1 : h * SC * 2 ^ Q = (h * 5 ^ (1300 - d) * 2 ^ r) * 10 ^ d * (2 * 2 ^ P) := by
      rw [hS, show (10 : Nat) ^ (1300 - d) = 5 ^ (1300 - d) * 2 ^ (1300 - d) by rw [← Nat.mul_pow]]
      have : (2 : Nat) ^ (1300 - d) * 2 ^ Q = 2 * 2 ^ P * 2 ^ r := by rw [← Nat.pow_add, hr, Nat.pow_add, Nat.pow_succ]; ac_rfl
      calc h * (5 ^ (1300 - d) * 2 ^ (1300 - d) * 10 ^ d) * 2 ^ Q = h * 5 ^ (1300 - d) * 10 ^ d * (2 ^ (1300 - d) * 2 ^ Q) := by ac_rfl
        _ = h * 5 ^ (1300 - d) * 10 ^ d * (2 * 2 ^ P * 2 ^ r) := by rw [this]
        _ = _ := by ac_rfl
    generalize h * 5 ^ (1300 - d) * 2 ^ r = z at *
    rw [e1] at hle ⊢
    have h2 : z * (Y * 10 ^ d) ≤ X := by
      have hp : 0 < 2 * 2 ^ P := Nat.mul_pos (by decide) (Nat.two_pow_pos _)
      refine Nat.le_of_mul_le_mul_right (c := 2 * 2 ^ P) ?_ hp
      calc z * (Y * 10 ^ d) * (2 * 2 ^ P) = z * 10 ^ d * (2 * 2 ^ P) * Y := by ac_rfl
        _ ≤ 2 * X * 2 ^ P := hle
        _ = X * (2 * 2 ^ P) := by ac_rfl
    have h3 : z ≤ X / (Y * 10 ^ d) := (Nat.le_div_iff_mul_le (Nat.mul_pos hY hu)).2 h2
    have h4 := Nat.mul_le_mul_right (2 * 2 ^ P) (Nat.mul_le_mul_right (10 ^ d) h3)
    calc z * 10 ^ d * (2 * 2 ^ P) ≤ _ := h4
      _ = _ := by ac_rfl
/-- the decimal t (perhaps cut off below: tr) stands for a / b times 2^(p - q): what halves of whole numbers, shifted by B places at most, it has under it -/
structure App (a b p q t : Nat) (tr : Bool) (B : Nat) : Prop where
  le : t * (b * 2 ^ q) ≤ a * 2 ^ p
  ex : tr = false → t * (b * 2 ^ q) = a * 2 ^ p
  st : tr = true → t * (b * 2 ^ q) < a * 2 ^ p
  kp : ∀ h P Q, h ≤ 36028797018963968 → P ≤ Q + B → h * SC * (b * 2 ^ (q + Q)) ≤ 2 * a * 2 ^ (p + P) → h * SC * 2 ^ Q ≤ 2 * t * 2 ^ P
theorem App.weak {a b p q t : Nat} {tr : Bool} {B B' : Nat} (h : App a b p q t tr B) (hB : B' ≤ B) : App a b p q t tr B' :=
  ⟨h.le, h.ex, h.st, fun h' P Q a1 a2 a3 => h.kp h' P Q a1 (by omega) a3⟩
theorem App.start {a b t d : Nat} {tr : Bool} (hb : 0 < b) (hd : d ≤ 1300) (he : t = a / (b * 10 ^ d) * 10 ^ d) (ht : 10 ^ (d + 799) ≤ t) (htr : tr = decide (t * b ≠ a)) : App a b 0 0 t tr 1100 := by
  have hle : t * b ≤ a := by
    rw [he]
    have := Nat.div_mul_le_self a (b * 10 ^ d)
    calc a / (b * 10 ^ d) * 10 ^ d * b = a / (b * 10 ^ d) * (b * 10 ^ d) := by ac_rfl
      _ ≤ a := this
  refine ⟨by simpa using hle, fun h => ?_, fun h => ?_, fun h P Q h1 h2 h3 => ?_⟩
  · rw [h] at htr
    simp at htr
    simpa using htr
  · rw [h] at htr
    simp at htr
    simp
    omega
  · rw [he]
    refine floor_keep hb hd h1 h2 (by rw [← he]; exact ht) ?_
    rw [Nat.zero_add, Nat.zero_add] at h3
    calc h * SC * 2 ^ Q * b = h * SC * (b * 2 ^ Q) := by ac_rfl
      _ ≤ _ := h3
theorem App.right {a b p q t t' k d : Nat} {tr : Bool} {B : Nat} (hb : 0 < b) (h : App a b p q t tr B) (hd : d ≤ 1300) (he : t' = t / (2 ^ k * 10 ^ d) * 10 ^ d) (ht : 10 ^ (d + 799) ≤ t') :
    App a b p (q + k) t' (tr || decide (t' * 2 ^ k ≠ t)) (min (B + k) 1100) := by
  have hk : 0 < 2 ^ k := Nat.two_pow_pos _
  have hle : t' * 2 ^ k ≤ t := by
    rw [he]
    have := Nat.div_mul_le_self t (2 ^ k * 10 ^ d)
    calc t / (2 ^ k * 10 ^ d) * 10 ^ d * 2 ^ k = t / (2 ^ k * 10 ^ d) * (2 ^ k * 10 ^ d) := by ac_rfl
      _ ≤ t := this
  have e0 : t' * (b * 2 ^ (q + k)) = t' * 2 ^ k * (b * 2 ^ q) := by rw [Nat.pow_add]; ac_rfl
  have hm : t' * 2 ^ k * (b * 2 ^ q) ≤ t * (b * 2 ^ q) := Nat.mul_le_mul_right _ hle
  refine ⟨by rw [e0]; exact Nat.le_trans hm h.le, fun g => ?_, fun g => ?_, fun h' P Q h1 h2 h3 => ?_⟩
  · simp at g
    rw [e0, g.2]; exact h.ex g.1
  · rw [e0]
    cases htr : tr with
    | true => exact Nat.lt_of_le_of_lt hm (h.st htr)
    | false =>
      rw [htr] at g
      simp at g
      rw [← h.ex htr]
      exact Nat.mul_lt_mul_of_pos_right (by omega) (Nat.mul_pos hb (Nat.two_pow_pos q))
  · rw [he]
    refine floor_keep hk hd h1 (by omega) (by rw [← he]; exact ht) ?_
    have h4 := h.kp h' P (Q + k) h1 (by omega) (by rw [show q + (Q + k) = q + k + Q by omega]; exact h3)
    rw [Nat.pow_add] at h4
    calc h' * SC * 2 ^ Q * 2 ^ k = h' * SC * (2 ^ Q * 2 ^ k) := by ac_rfl
      _ ≤ _ := h4
theorem App.left {a b p q t t' k d : Nat} {tr : Bool} {B : Nat} (hbq : 0 < b) (h : App a b p q t tr B) (hB : B ≤ 1100) (hk : k ≤ B) (hd : d ≤ 1300) (he : t' = t * 2 ^ k / 10 ^ d * 10 ^ d) (ht : 10 ^ (d + 799) ≤ t') :
    App a b (p + k) q t' (tr || decide (t' ≠ t * 2 ^ k)) (B - k) := by
  have hle : t' ≤ t * 2 ^ k := by rw [he]; exact Nat.div_mul_le_self _ _
  have hb : 0 < b * 2 ^ q := Nat.mul_pos hbq (Nat.two_pow_pos _)
  have e1 : a * 2 ^ (p + k) = a * 2 ^ p * 2 ^ k := by rw [Nat.pow_add]; ac_rfl
  have e2 : t * 2 ^ k * (b * 2 ^ q) = t * (b * 2 ^ q) * 2 ^ k := by ac_rfl
  have hm : t' * (b * 2 ^ q) ≤ t * 2 ^ k * (b * 2 ^ q) := Nat.mul_le_mul_right _ hle
  have hn : t * (b * 2 ^ q) * 2 ^ k ≤ a * 2 ^ p * 2 ^ k := Nat.mul_le_mul_right _ h.le
  refine ⟨by rw [e1]; rw [e2] at hm; exact Nat.le_trans hm hn, fun g => ?_, fun g => ?_, fun h' P Q h1 h2 h3 => ?_⟩
  · simp at g
    rw [g.2, e2, e1, h.ex g.1]
  · rw [e1]
    cases htr : tr with
    | true =>
      have := Nat.mul_lt_mul_of_pos_right (h.st htr) (Nat.two_pow_pos k)
      rw [e2] at hm
      exact Nat.lt_of_le_of_lt hm this
    | false =>
      rw [htr] at g
      simp at g
      rw [← h.ex htr, ← e2]
      exact Nat.mul_lt_mul_of_pos_right (by omega) hb
  · have hA := floor_keep (X := t * 2 ^ k) (Y := 1) (d := d) (h := h') (P := P) (Q := Q) (by decide) hd h1 (by omega) (by rw [Nat.one_mul, ← he]; exact ht)
    rw [Nat.one_mul, ← he] at hA
    refine hA ?_
    have h4 := h.kp h' (P + k) Q h1 (by omega) (by rw [show p + (P + k) = p + k + P by omega]; exact h3)
    rw [Nat.pow_add] at h4
    calc h' * SC * 2 ^ Q * 1 = h' * SC * 2 ^ Q := Nat.mul_one _
      _ ≤ 2 * t * (2 ^ P * 2 ^ k) := h4
      _ = 2 * (t * 2 ^ k) * 2 ^ P := by ac_rfl
/-- whether a decimal's whole part is rounded up -/
def upT (t : Nat) (tr : Bool) : Bool := decide (SC < 2 * (t % SC)) || (decide (2 * (t % SC) = SC) && (tr || decide (t / SC % 2 = 1)))
def rndT (t : Nat) (tr : Bool) : Nat := t / SC + (if upT t tr then 1 else 0)
theorem App.half {a b p q t : Nat} {tr : Bool} {B : Nat} (hb : 0 < b) (h : App a b p q t tr B) (hn : t < 9007199254740992 * SC) : Half (rndT t tr) (a * 2 ^ p) (b * 2 ^ q * SC) := by
  have hS := SC_pos
  have hB : 0 < b * 2 ^ q := Nat.mul_pos hb (Nat.two_pow_pos _)
  have hq := Nat.div_add_mod t SC
  have hmod := Nat.mod_lt t hS
  have hn2 : t / SC < 9007199254740992 := by rw [Nat.div_lt_iff_lt_mul hS]; exact hn
  have hle := h.le
  have hex := h.ex
  have hst := h.st
  have hkp : ∀ h', h' ≤ 36028797018963968 → 2 * t < h' * SC → 2 * (a * 2 ^ p) < b * 2 ^ q * SC * h' := by
    intro h' h1 h2
    have := h.kp h' 0 0 h1 (by omega)
    simp only [Nat.add_zero, Nat.pow_zero, Nat.mul_one] at this
    rcases Nat.lt_or_ge (2 * (a * 2 ^ p)) (b * 2 ^ q * SC * h') with g | g
    · exact g
    · exfalso
      have := this (by
        calc h' * SC * (b * 2 ^ q) = b * 2 ^ q * SC * h' := by ac_rfl
          _ ≤ 2 * (a * 2 ^ p) := g
          _ = 2 * a * 2 ^ p := by ac_rfl)
      omega
  unfold rndT upT
  generalize hnn : t / SC = n at *
  generalize hff : t % SC = f at *
  clear hnn hff h hn
  generalize a * 2 ^ p = A at *
  generalize b * 2 ^ q = Bq at *
  have ht2 : 2 * t = 2 * (n * SC) + 2 * f := by rw [← hq, Nat.mul_comm SC n]; omega
  have hlow : ∀ z, z ≤ 2 * t → z * Bq ≤ 2 * A := by
    intro z hz
    have h1 := Nat.mul_le_mul_right Bq hz
    have h2 : 2 * t * Bq = 2 * (t * Bq) := Nat.mul_assoc _ _ _
    omega
  have hlows : ∀ z, z < 2 * t → z * Bq < 2 * A := by
    intro z hz
    have h1 := Nat.mul_lt_mul_of_pos_right hz hB
    have h2 : 2 * t * Bq = 2 * (t * Bq) := Nat.mul_assoc _ _ _
    omega
  have exp1 : ∀ m : Nat, (2 * m + 1) * SC = 2 * (m * SC) + SC := fun m => by rw [Nat.add_mul, Nat.mul_assoc, Nat.one_mul]
  have n1 : (n + 1) * SC = n * SC + SC := by rw [Nat.add_mul, Nat.one_mul]
  by_cases hup : (decide (SC < 2 * f) || (decide (2 * f = SC) && (tr || decide (n % 2 = 1)))) = true
  · rw [if_pos hup]
    simp only [Bool.or_eq_true, Bool.and_eq_true, decide_eq_true_eq] at hup
    refine ⟨.inl (hkp _ (by omega) ?_), ?_⟩
    · rw [exp1, n1]; omega
    · right
      have e3 : Bq * SC * (2 * (n + 1) - 1) = (2 * n + 1) * SC * Bq := by rw [show 2 * (n + 1) - 1 = 2 * n + 1 by omega]; ac_rfl
      rw [e3]
      rcases hup with g | ⟨g, g2⟩
      · left; exact hlows _ (by rw [exp1]; omega)
      · rcases g2 with g2 | g2
        · left
          have h1 := hst g2
          have h2 : (2 * n + 1) * SC * Bq ≤ 2 * t * Bq := Nat.mul_le_mul_right _ (by rw [exp1]; omega)
          have h3 : 2 * t * Bq = 2 * (t * Bq) := Nat.mul_assoc _ _ _
          omega
        · cases htr : tr with
          | true =>
            left
            have h1 := hst htr
            have h2 : (2 * n + 1) * SC * Bq ≤ 2 * t * Bq := Nat.mul_le_mul_right _ (by rw [exp1]; omega)
            have h3 : 2 * t * Bq = 2 * (t * Bq) := Nat.mul_assoc _ _ _
            omega
          | false =>
            right
            refine ⟨?_, by omega⟩
            have h1 := hex htr
            have h2 : (2 * n + 1) * SC * Bq = 2 * t * Bq := by rw [exp1]; congr 1; omega
            have h3 : 2 * t * Bq = 2 * (t * Bq) := Nat.mul_assoc _ _ _
            omega
  · rw [if_neg hup, Nat.add_zero]
    simp only [Bool.or_eq_true, Bool.and_eq_true, decide_eq_true_eq, not_or, not_and] at hup
    obtain ⟨g1, g2⟩ := hup
    refine ⟨?_, ?_⟩
    · rcases Nat.lt_or_ge (2 * f) SC with g | g
      · left
        exact hkp _ (by omega) (by rw [exp1]; omega)
      · have ge : 2 * f = SC := by omega
        obtain ⟨g3, g4⟩ := g2 ge
        right
        have htr : tr = false := by simpa using g3
        refine ⟨?_, by omega⟩
        have h1 := hex htr
        have h2 : (2 * n + 1) * SC * Bq = 2 * t * Bq := by rw [exp1]; congr 1; omega
        have h3 : 2 * t * Bq = 2 * (t * Bq) := Nat.mul_assoc _ _ _
        have e3 : Bq * SC * (2 * n + 1) = (2 * n + 1) * SC * Bq := by ac_rfl
        rw [e3]; omega
    · rcases Nat.eq_zero_or_pos n with z | z
      · exact .inl z
      · right; left
        have e3 : Bq * SC * (2 * n - 1) = (2 * n - 1) * SC * Bq := by ac_rfl
        rw [e3]
        refine hlows _ ?_
        have : (2 * n - 1) * SC + SC = 2 * (n * SC) := by
          rw [← Nat.succ_mul, show (2 * n - 1).succ = 2 * n by omega, Nat.mul_assoc]
        omega
end Go.Proofs.YtbakbikilbaafaaGreatDoor
namespace Go.Proofs.YtbakbikilbaafaaGreatDoor
open Go.RowKit
set_option maxHeartbeats 1000000

theorem d_Mul64 (x y : Nat) (hx : x < 18446744073709551616) (hy : y < 18446744073709551616) (w : World) :
    Calls Tryz.prog 107 #[.int .u64 x, .int .u64 y] w fun e w' => e = .returned (.tuple #[.int .u64 ((x * y / 18446744073709551616 : Nat) : Int), .int .u64 ((x * y % 18446744073709551616 : Nat) : Int)]) ∧ w = w' := by
  obtain ⟨bd, bt, bw, hhi⟩ := Lib.mul64_hi x y hx hy
  have ba := Lib.half_mul_le (a := x / 4294967296) (b := y / 4294967296) (by omega) (by omega)
  have bb := Lib.half_mul_le (a := x / 4294967296) (b := y % 4294967296) (by omega) (by omega)
  have bc := Lib.half_mul_le (a := x % 4294967296) (b := y / 4294967296) (by omega) (by omega)
  have ba' : x / 4294967296 * (y / 4294967296) < 18446744073709551616 := by omega
  have bb' : x / 4294967296 * (y % 4294967296) < 18446744073709551616 := by omega
  have bc' : x % 4294967296 * (y / 4294967296) < 18446744073709551616 := by omega
  have bh1 : x / 4294967296 * (y / 4294967296) + (x / 4294967296 * (y % 4294967296) + x % 4294967296 * (y % 4294967296) / 4294967296) / 4294967296 < 18446744073709551616 := by omega
  have bh : x / 4294967296 * (y / 4294967296) + (x / 4294967296 * (y % 4294967296) + x % 4294967296 * (y % 4294967296) / 4294967296) / 4294967296 + ((x / 4294967296 * (y % 4294967296) + x % 4294967296 * (y % 4294967296) / 4294967296) % 4294967296 + x % 4294967296 * (y / 4294967296)) / 4294967296 < 18446744073709551616 := by omega
  go_enter Tryz.func107, Tryz.ntmps107
  go_wp2
  simp only [Mul64.maskN x hx, Mul64.maskN y hy, Mul64.divN, Mul64.mulN, Mul64.addN, Mul64.wrapN _ bd, Mul64.wrapN _ bb', Mul64.wrapN _ bt, Mul64.maskN _ bt, Mul64.wrapN _ bc', Mul64.wrapN _ bw, Mul64.wrapN _ ba', Mul64.wrapN _ bh1, Mul64.wrapN _ bh, Mul64.wrapM (x * y)]
  rw [hhi]
  go_ret2
  exact ⟨rfl, rfl⟩

theorem d_log10Pow2 (x : Int) (h1 : -100000 ≤ x) (h2 : x ≤ 100000) (w : World) :
    Calls Tryz.prog 153 #[.int .i64 x] w fun e w' => e = .returned (.int .i64 (x * 78913 / 262144)) ∧ w = w' := by
  go_enter Tryz.func153, Tryz.ntmps153
  go_wp2
  go_ret
  exact ⟨rfl, rfl⟩
theorem d_log2Pow10 (x : Int) (h1 : -100000 ≤ x) (h2 : x ≤ 100000) (w : World) :
    Calls Tryz.prog 186 #[.int .i64 x] w fun e w' => e = .returned (.int .i64 (x * 108853 / 32768)) ∧ w = w' := by
  go_enter Tryz.func186, Tryz.ntmps186
  go_wp2
  go_ret
  exact ⟨rfl, rfl⟩
theorem d_skewed (x : Int) (h1 : -100000 ≤ x) (h2 : x ≤ 100000) (w : World) :
    Calls Tryz.prog 184 #[.int .i64 x] w fun e w' => e = .returned (.int .i64 ((x * 631305 - 261663) / 2097152)) ∧ w = w' := by
  go_enter Tryz.func184, Tryz.ntmps184
  go_wp2
  go_ret
  exact ⟨rfl, rfl⟩
theorem d_bool2int (b : Bool) (w : World) : Calls Tryz.prog 154 #[.bool b] w fun e w' => e = .returned (.int .i64 (b2n b : Int)) ∧ w = w' := by
  cases b
  all_goals
    go_enter Tryz.func154, Tryz.ntmps154
    go_wp2
    go_ret
    exact ⟨rfl, rfl⟩
theorem d_bool2u64 (b : Bool) (w : World) : Calls Tryz.prog 210 #[.bool b] w fun e w' => e = .returned (.int .u64 (b2n b : Int)) ∧ w = w' := by
  cases b
  all_goals
    go_enter Tryz.func210, Tryz.ntmps210
    go_wp2
    go_ret
    exact ⟨rfl, rfl⟩
theorem d_uceil (u : Nat) (hu : u < 18446744073709551613) (w : World) : Calls Tryz.prog 189 #[.int .u64 (u : Int)] w fun e w' => e = .returned (.int .u64 (((u + 3) / 4 : Nat) : Int)) ∧ w = w' := by
  have h : IntKind.u64.wrap ((u : Int) + 3) = (u : Int) + 3 := by rw [IntKind.wrap_u64]; omega
  go_enter Tryz.func189, Tryz.ntmps189
  go_wp2
  go_ret
  exact ⟨rfl, rfl⟩
theorem d_ufloor (u : Nat) (hu : u < 18446744073709551616) (w : World) : Calls Tryz.prog 190 #[.int .u64 (u : Int)] w fun e w' => e = .returned (.int .u64 ((u / 4 : Nat) : Int)) ∧ w = w' := by
  have h : IntKind.u64.wrap (u : Int) = (u : Int) := by rw [IntKind.wrap_u64]; omega
  go_enter Tryz.func190, Tryz.ntmps190
  go_wp2
  go_ret
  exact ⟨rfl, rfl⟩
end Go.Proofs.YtbakbikilbaafaaGreatDoor
namespace Go.Proofs.YtbakbikilbaafaaGreatDoor
open Go.RowKit
set_option maxHeartbeats 1000000
set_option maxRecDepth 100000

theorem d_ret {k : IntKind} {a b : Int} (h : a = b) : Ending.returned (.int k a) = .returned (.int k b) := by rw [h]
set_option maxRecDepth 100000 in
theorem len8tab_sz : (Lib.len8tab.size : Int) = 256 := by
  have : Lib.len8tab.size = 256 := by decide
  omega
theorem l8_add (k a b : Nat) (hk : k ≤ 56) (ha : a ≤ 8) (hb : b = k + a) : RowKit.wrap64 ((k : Int) + RowKit.wrap64 (a : Int)) = (b : Int) := by
  unfold RowKit.wrap64
  omega
theorem l8_wrap (a : Nat) (ha : a ≤ 8) : RowKit.wrap64 (RowKit.wrap64 (a : Int)) = (a : Int) := by
  unfold RowKit.wrap64
  omega
theorem l8_get (y : Int) (h : y.toNat < Lib.len8tab.size) : ((Lib.len8tab[y.toNat]'h).toNat : Int) = Lib.len8 y := by
  unfold Lib.len8
  rw [getElem?_pos Lib.len8tab y.toNat h]
  rfl
set_option maxHeartbeats 8000000 in
theorem d_Len64 (x : Int) (w : World) (h0 : 0 ≤ x) (h1 : x ≤ 18446744073709551615) :
    Calls Tryz.prog 146 #[.int .u64 x] w fun e w' => e = .returned (.int .i64 (Lib.bitLen x.toNat)) ∧ w = w' := by
  go_enter Tryz.func146, Tryz.ntmps146
  go_wp2
  all_goals first
    | (go_ret; refine ⟨congrArg Ending.returned (congrArg (Value.int IntKind.i64) ?_), rfl⟩; go_light)
    | (exfalso
       go_light
       have hs := len8tab_sz
       omega)
  all_goals first
    | (rw [l8_get (x / 4294967296 / 65536 / 256) _, Lib.len8_of (x / 4294967296 / 65536 / 256) (by omega) (by omega)]
       have e : (x / 4294967296 / 65536 / 256).toNat = x.toNat / 72057594037927936 := by omega
       have l := Lib.bitLen_le8' (x / 4294967296 / 65536 / 256) (by omega) (by omega)
       have s := Lib.bitLen_shift56 x.toNat (by omega) (by omega)
       rw [e] at l ⊢
       exact l8_add 56 _ _ (by decide) l s)
    | (rw [l8_get (x / 4294967296 / 65536) _, Lib.len8_of (x / 4294967296 / 65536) (by omega) (by omega)]
       have e : (x / 4294967296 / 65536).toNat = x.toNat / 281474976710656 := by omega
       have l := Lib.bitLen_le8' (x / 4294967296 / 65536) (by omega) (by omega)
       have s := Lib.bitLen_shift48 x.toNat (by omega) (by omega)
       rw [e] at l ⊢
       exact l8_add 48 _ _ (by decide) l s)
    | (rw [l8_get (x / 4294967296 / 256) _, Lib.len8_of (x / 4294967296 / 256) (by omega) (by omega)]
       have e : (x / 4294967296 / 256).toNat = x.toNat / 1099511627776 := by omega
       have l := Lib.bitLen_le8' (x / 4294967296 / 256) (by omega) (by omega)
       have s := Lib.bitLen_shift40 x.toNat (by omega) (by omega)
       rw [e] at l ⊢
       exact l8_add 40 _ _ (by decide) l s)
    | (rw [l8_get (x / 4294967296) _, Lib.len8_of (x / 4294967296) (by omega) (by omega)]
       have e : (x / 4294967296).toNat = x.toNat / 4294967296 := by omega
       have l := Lib.bitLen_le8' (x / 4294967296) (by omega) (by omega)
       have s := Lib.bitLen_shift32 x.toNat (by omega) (by omega)
       rw [e] at l ⊢
       exact l8_add 32 _ _ (by decide) l s)
    | (rw [l8_get (x / 65536 / 256) _, Lib.len8_of (x / 65536 / 256) (by omega) (by omega)]
       have e : (x / 65536 / 256).toNat = x.toNat / 16777216 := by omega
       have l := Lib.bitLen_le8' (x / 65536 / 256) (by omega) (by omega)
       have s := Lib.bitLen_shift24 x.toNat (by omega) (by omega)
       rw [e] at l ⊢
       exact l8_add 24 _ _ (by decide) l s)
    | (rw [l8_get (x / 65536) _, Lib.len8_of (x / 65536) (by omega) (by omega)]
       have e : (x / 65536).toNat = x.toNat / 65536 := by omega
       have l := Lib.bitLen_le8' (x / 65536) (by omega) (by omega)
       have s := Lib.bitLen_shift16 x.toNat (by omega) (by omega)
       rw [e] at l ⊢
       exact l8_add 16 _ _ (by decide) l s)
    | (rw [l8_get (x / 256) _, Lib.len8_of (x / 256) (by omega) (by omega)]
       have e : (x / 256).toNat = x.toNat / 256 := by omega
       have l := Lib.bitLen_le8' (x / 256) (by omega) (by omega)
       have s := Lib.bitLen_shift8 x.toNat (by omega) (by omega)
       rw [e] at l ⊢
       exact l8_add 8 _ _ (by decide) l s)
    | (rw [l8_get (x) _, Lib.len8_of (x) (by omega) (by omega)]
       have e : (x).toNat = x.toNat := by omega
       have l := Lib.bitLen_le8' (x) (by omega) (by omega)
       exact l8_wrap _ l)
theorem and63 : ∀ s : Nat, s < 64 → bits BinOp.and IntKind.i64 (s : Int) 63 = (s : Int) := by decide +kernel
theorem pow_cast (a s : Nat) : (a : Int) / 2 ^ s = ((a / 2 ^ s : Nat) : Int) := by
  rw [Int.natCast_ediv]; congr 1
theorem d_uscale1 (x ph pl s b : Nat) (hx : x < 18446744073709551616) (hp : ph < 18446744073709551616) (hs : s < 64) (w : World)
    (c0 : w.cell? ⟨b, 0, none⟩ = some (.int .u64 (ph : Int))) (c2 : w.cell? ⟨b, 2, none⟩ = some (.int .i64 (s : Int)))
    (h : x * ph / W64 / 2 ^ s * 2 ^ s ≠ x * ph / W64) :
    Calls Tryz.prog 187 #[.int .u64 (x : Int), .pointer (some ⟨b, 0, none⟩)] w fun e w' => e = .returned (.int .u64 (usc x ph pl s : Int)) ∧ w = w' := by
  have hM := Lib.hid (fun w => d_Mul64 x ph hx hp w)
  have hhi : x * ph / 18446744073709551616 < 18446744073709551616 := Nat.div_lt_of_lt_mul (Nat.mul_lt_mul'' hx hp)
  have hu : usc x ph pl s = x * ph / W64 / 2 ^ s ||| 1 := by unfold usc; rw [if_pos h]
  rw [hu]
  clear hu
  rw [W64_eq] at *
  generalize x * ph / 18446744073709551616 = hi at *
  generalize x * ph % 18446744073709551616 = mid at *
  have hq : hi / 2 ^ s ≤ hi := Nat.div_le_self _ _
  have hr : hi / 2 ^ s * 2 ^ s ≤ hi := Nat.div_mul_le_self _ _
  have a1 := and63 s hs
  have a2 := pow_cast hi s
  have a3 : IntKind.u64.wrap (((hi / 2 ^ s : Nat) : Int) * 2 ^ s) = ((hi / 2 ^ s * 2 ^ s : Nat) : Int) := by
    have : ((hi / 2 ^ s : Nat) : Int) * 2 ^ s = ((hi / 2 ^ s * 2 ^ s : Nat) : Int) := by rw [Int.natCast_mul]; congr 1
    rw [this, IntKind.wrap_u64]; omega
  have a5 := bits_or_u64_nat (hi / 2 ^ s) 1 (by omega) (by omega)
  generalize hi / 2 ^ s = q at *
  generalize q * 2 ^ s = r at *
  have a4 : ((r : Int) != (hi : Int)) = true := by simp; omega
  clear h hq hr
  go_enter Tryz.func187, Tryz.ntmps187
  go_wp2_with (go_at_call 107; refine (hM.out _).mono ?_; rintro e w1 ⟨rfl, rfl⟩)
  go_ret
  exact ⟨d_ret a5, rfl⟩
theorem d_prescale (b : Nat) (e p lp : Int) (hi lo : Int) (h1 : -348 ≤ p) (h2 : p ≤ 347) (h3 : -2000 ≤ e) (h4 : e ≤ 2000) (h5 : -2000 ≤ lp) (h6 : lp ≤ 2000) (w : World)
    (c0 : w.cell? ⟨b, 0, none⟩ = some (.int .u64 0)) (c1 : w.cell? ⟨b, 1, none⟩ = some (.int .u64 0)) (c2 : w.cell? ⟨b, 2, none⟩ = some (.int .i64 0))
    (f0 : w.frozen? ⟨b, 0, none⟩ = false) (f1 : w.frozen? ⟨b, 1, none⟩ = false) (f2 : w.frozen? ⟨b, 2, none⟩ = false)
    (t0 : w.cell? ⟨12, (p + 348).toNat * 2, none⟩ = some (.int .u64 hi)) (t1 : w.cell? ⟨12, (p + 348).toNat * 2 + 1, none⟩ = some (.int .u64 lo)) :
    Calls Tryz.prog 185 #[.pointer (some ⟨b, 0, none⟩), .int .i64 e, .int .i64 p, .int .i64 lp] w fun r w' => r = .returned (.tuple #[]) ∧ w' = ((w.setCell ⟨b, 0, none⟩ (.int .u64 hi)).setCell ⟨b, 1, none⟩ (.int .u64 lo)).setCell ⟨b, 2, none⟩ (.int .i64 (-(e + lp + 3))) := by
  go_enter Tryz.func185, Tryz.ntmps185
  go_wp2_with fail
  go_end0
  exact ⟨rfl, rfl⟩
end Go.Proofs.YtbakbikilbaafaaGreatDoor
