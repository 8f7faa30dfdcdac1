/-
  Contracts: Plain law: the library's scaling of a number by a power of ten is exact (its floor, and whether something is left), where no multiple comes near a whole one. Contracts of small functions: Mul64, Len64, the logarithms' estimates, the roundings. Contracts of Len64 and uscale. Plain facts on the library's shortest digits of any float64. Contracts: uscale with both words of a power, nudge, round, prescale: at any float64.
-/
import Derived.Test.YtbakbikilbaafaaGreatDoorZ1
import Derived.Test.YtbakbikilbaafaaGreatDoorChecked
import Derived.RowKit
import Derived.WalkKit
import Derived.Lib.Mul64
import Derived.Laws.Bits64b
import Derived.IntWalk
import Derived.Shelf.Bits.Mul64
import Derived.Lib.Hide
import Derived.Deep.QuietTactic
import Derived.BigQuiet
import Derived.Outline
import Derived.Deep.Light
import Derived.Lib.Strings
import Derived.Lib.Slices
import Derived.Lib.Small
import Derived.Lib.Walk
import Derived.Lib.BitFns
namespace Go.Proofs.YtbakbikilbaafaaGreatDoor
set_option linter.unusedVariables false
set_option maxHeartbeats 1000000
set_option maxRecDepth 100000

/-- a / b, its lowest bit set where something is left -/
def unr (a b : Nat) : Nat := if a % b = 0 then a / b else a / b / 2 * 2 + 1
theorem mod_of {A h M rest : Nat} (h1 : A = h * M + rest) (h2 : rest < M) : A / M = h ∧ A % M = rest := by
  subst h1
  constructor
  · rw [Nat.mul_comm, Nat.mul_add_div (by omega), Nat.div_eq_of_lt h2, Nat.add_zero]
  · rw [Nat.mul_comm, Nat.mul_add_mod, Nat.mod_eq_of_lt h2]
/-- A is x times N / D, rounded up by less than x -/
theorem unr_in {A X D M x q r : Nat} (hD : 0 < D) (hM : 0 < M) (h1 : X ≤ A * D) (h2 : A * D < X + x * D) (hq : A = q * M + r) (hr : r < M) (hx : x ≤ r) : unr X (D * M) = q / 2 * 2 + 1 := by
  have e1 : A * D = q * (D * M) + r * D := by rw [hq, Nat.add_mul]; congr 1; ac_rfl
  have e2 : x * D ≤ r * D := Nat.mul_le_mul_right _ hx
  have e3 : r * D < D * M := by rw [Nat.mul_comm]; exact Nat.mul_lt_mul_of_pos_left hr hD
  obtain ⟨g1, g2⟩ := mod_of (A := X) (h := q) (M := D * M) (rest := X - q * (D * M)) (by omega) (by omega)
  unfold unr
  rw [g2, g1, if_neg (by omega)]
theorem unr_at {A X D M x q r : Nat} (hD : 0 < D) (hM : x ≤ M) (h1 : X ≤ A * D) (h2 : A * D < X + x * D) (hq : A = q * M + r) (hr : r < M) (h0 : X % (D * M) = 0) : unr X (D * M) = q ∧ r < x := by
  have e1 : A * D = q * (D * M) + r * D := by rw [hq, Nat.add_mul]; congr 1; ac_rfl
  have hM0 : 0 < M := by omega
  have hDM : 0 < D * M := Nat.mul_pos hD hM0
  have hX := Nat.div_add_mod X (D * M)
  rw [h0, Nat.add_zero, Nat.mul_comm] at hX
  have e3 : r * D < D * M := by rw [Nat.mul_comm]; exact Nat.mul_lt_mul_of_pos_left hr hD
  have e4 : x * D ≤ D * M := by rw [Nat.mul_comm]; exact Nat.mul_le_mul_left _ hM
  have hq' : X / (D * M) = q := by
    generalize D * M = DM at *
    rcases Nat.lt_trichotomy (X / DM) q with h | h | h
    · have : (X / DM + 1) * DM ≤ q * DM := Nat.mul_le_mul_right _ h
      rw [Nat.add_mul] at this
      omega
    · exact h
    · have : (q + 1) * DM ≤ X / DM * DM := Nat.mul_le_mul_right _ h
      rw [Nat.add_mul] at this
      omega
  refine ⟨?_, ?_⟩
  · unfold unr; rw [if_pos h0, hq']
  · rw [hq'] at hX
    have : r * D < x * D := by omega
    exact Nat.lt_of_mul_lt_mul_right this
theorem usc_unr {x ph pl s N D P M : Nat} (hx : x < W64) (hph : ph < W64) (hpl : pl < W64) (hs : 1 ≤ s) (hD : 0 < D) (hP : P + pl = ph * W64) (hM : M = W64 * W64 * 2 ^ s)
    (hN1 : N ≤ P * D) (hN2 : P * D < N + D) (hx0 : 0 < x)
    (H : (W64 < x * P % M ∧ x * P % M + W64 ≤ M) ∨ (x * N) % (D * M) = 0) : usc x ph pl s = unr (x * N) (D * M) := by
  have hhi : x * ph / W64 < W64 := Nat.div_lt_of_lt_mul (Nat.mul_lt_mul'' hx hph)
  have hS : 2 ≤ 2 ^ s := by
    have := Nat.pow_le_pow_right (n := 2) (by decide) hs
    exact this
  have m1 : x * N ≤ x * P * D := by rw [Nat.mul_assoc]; exact Nat.mul_le_mul_left _ hN1
  have m2 : x * P * D < x * N + x * D := by rw [Nat.mul_assoc, ← Nat.mul_add]; exact Nat.mul_lt_mul_of_pos_left hN2 hx0
  have hA : x * P + x * pl = x * ph * W64 := by rw [← Nat.mul_add, hP, Nat.mul_assoc]
  have d1 := Nat.div_add_mod (x * ph) W64
  have d2 := Nat.div_add_mod (x * pl) W64
  have l1 : x * ph % W64 < W64 := Nat.mod_lt _ (by decide)
  have l2 : x * pl % W64 < W64 := Nat.mod_lt _ (by decide)
  have l3 : x * pl / W64 ≤ 18446744073709551614 := by
    have : x * pl ≤ 18446744073709551615 * 18446744073709551615 := Nat.mul_le_mul (by rw [W64_eq] at hx; omega) (by rw [W64_eq] at hpl; omega)
    rw [W64_eq]
    omega
  unfold usc
  rw [or_one, or_b2n]
  generalize x * N = X at *
  generalize x * P = A at *
  generalize x * ph / W64 = h0 at *
  generalize x * ph % W64 = mid at *
  generalize x * pl / W64 = md2 at *
  generalize x * pl % W64 = lo2 at *
  have dd := Nat.div_add_mod h0 (2 ^ s)
  have dl : h0 % 2 ^ s < 2 ^ s := Nat.mod_lt _ (by omega)
  generalize h0 / 2 ^ s = h at *
  generalize h0 % 2 ^ s = t at *
  generalize 2 ^ s = S at *
  rw [W64_eq] at *
  have eM : M = 340282366920938463463374607431768211456 * S := by rw [hM]
  have eH : h0 * 340282366920938463463374607431768211456 = h * M + t * 340282366920938463463374607431768211456 := by
    rw [← dd, eM, Nat.add_mul]; congr 1; ac_rfl
  have eA : A + (md2 * 18446744073709551616 + lo2) = h * M + t * 340282366920938463463374607431768211456 + mid * 18446744073709551616 := by
    rw [← eH]
    rw [← d2, ← d1] at hA
    rw [Nat.add_mul] at hA
    have e2 : (340282366920938463463374607431768211456 : Nat) = 18446744073709551616 * 18446744073709551616 := by decide
    have : 18446744073709551616 * h0 * 18446744073709551616 = h0 * 340282366920938463463374607431768211456 := by rw [e2]; ac_rfl
    omega
  have tM : t * 340282366920938463463374607431768211456 + 340282366920938463463374607431768211456 ≤ M := by
    have : (t + 1) * 340282366920938463463374607431768211456 ≤ S * 340282366920938463463374607431768211456 := Nat.mul_le_mul_right _ dl
    omega
  have M2 : 2 * 340282366920938463463374607431768211456 ≤ M := by
    have : 2 * 340282366920938463463374607431768211456 ≤ S * 340282366920938463463374607431768211456 := Nat.mul_le_mul_right _ hS
    omega
  have hM0 : 0 < M := by omega
  clear hA d1 d2 hM eM hN1 hN2 hP
  by_cases ht : t = 0
  · subst ht
    rw [Nat.zero_mul, Nat.add_zero] at eA
    rw [Nat.add_zero] at dd
    rw [if_neg (by rw [Nat.mul_comm]; exact fun e => e dd)]
    by_cases hlt : mid < md2
    · -- a borrow
      have hb : b2n (decide (mid < md2)) = 1 := by rw [decide_eq_true hlt]; rfl
      rw [hb]
      by_cases hh : h = 0
      · subst hh
        rw [Nat.zero_mul] at eA
        omega
      · have hh0 : S ≤ h0 := by
          rw [← dd]; exact Nat.le_mul_of_pos_right _ (Nat.pos_of_ne_zero hh)
        have q0 : (h0 + 18446744073709551616 - 1) % 18446744073709551616 = h0 - 1 := by omega
        have q1 : (h0 - 1) / S = h - 1 := by
          have : h0 - 1 = (h - 1) * S + (S - 1) := by
            rw [← dd]
            obtain ⟨k, rfl⟩ : ∃ k, h = k + 1 := ⟨h - 1, by omega⟩
            rw [Nat.add_sub_cancel, Nat.mul_add, Nat.mul_comm S k]
            omega
          exact (mod_of this (by omega)).1
        have f3 : (mid + 18446744073709551616 - md2) % 18446744073709551616 = mid + 18446744073709551616 - md2 := by omega
        rw [q0, q1, f3, if_pos (by simp; omega)]
        have eA' : A = (h - 1) * M + (M + mid * 18446744073709551616 - (md2 * 18446744073709551616 + lo2)) := by
          obtain ⟨k, rfl⟩ : ∃ k, h = k + 1 := ⟨h - 1, by omega⟩
          rw [Nat.add_mul, Nat.one_mul] at eA
          rw [Nat.add_sub_cancel]
          omega
        exact (unr_in hD hM0 m1 m2 eA' (by omega) (by omega)).symm
    · have hb : b2n (decide (mid < md2)) = 0 := by rw [decide_eq_false hlt]; rfl
      have q0 : (h0 + 18446744073709551616 - 0) % 18446744073709551616 = h0 := by omega
      have q1 : h0 / S = h := by
        rw [← dd, Nat.mul_comm]; exact Nat.mul_div_cancel _ (by omega)
      have f3 : (mid + 18446744073709551616 - md2) % 18446744073709551616 = mid - md2 := by omega
      rw [hb, q0, q1, f3]
      by_cases h2 : 2 ≤ mid - md2
      · rw [if_pos (by simp; omega)]
        exact (unr_in (q := h) (r := (mid - md2) * 18446744073709551616 - lo2) hD hM0 m1 m2 (by omega) (by omega) (by omega)).symm
      · rw [if_neg (by simp; omega)]
        rcases H with ⟨H1, H2⟩ | H
        · exfalso
          by_cases h3 : lo2 ≤ (mid - md2) * 18446744073709551616
          · have := (mod_of (A := A) (h := h) (M := M) (rest := (mid - md2) * 18446744073709551616 - lo2) (by omega) (by omega)).2
            omega
          · by_cases hh : h = 0
            · subst hh
              rw [Nat.zero_mul] at eA
              omega
            · obtain ⟨k, rfl⟩ : ∃ k, h = k + 1 := ⟨h - 1, by omega⟩
              rw [Nat.add_mul, Nat.one_mul] at eA
              have := (mod_of (A := A) (h := k) (M := M) (rest := M - lo2) (by omega) (by omega)).2
              omega
        · by_cases h3 : lo2 ≤ (mid - md2) * 18446744073709551616
          · exact (unr_at (q := h) (r := (mid - md2) * 18446744073709551616 - lo2) hD (by omega) m1 m2 (by omega) (by omega) H).1.symm
          · exfalso
            by_cases hh : h = 0
            · subst hh
              rw [Nat.zero_mul] at eA
              omega
            · obtain ⟨k, rfl⟩ : ∃ k, h = k + 1 := ⟨h - 1, by omega⟩
              rw [Nat.add_mul, Nat.one_mul] at eA
              have := (unr_at (q := k) (r := M - lo2) hD (by omega) m1 m2 (by omega) (by omega) H).2
              omega
  · have hne : h * S ≠ h0 := by rw [Nat.mul_comm]; omega
    rw [if_pos hne]
    have eA' : A = h * M + (t * 340282366920938463463374607431768211456 + mid * 18446744073709551616 - (md2 * 18446744073709551616 + lo2)) := by omega
    exact (unr_in hD hM0 m1 m2 eA' (by omega) (by omega)).symm

/-- two short vectors of a lattice leave no third one in the box, but multiples of the first -/
theorem lat {m a X Y x y ux uy vx vy : Int} (hm : 0 < m) (hu : m ∣ ux * a - uy) (hv : m ∣ vx * a - vy) (hxy : m ∣ x * a - y) (hdet : ux * vy - uy * vx = m ∨ ux * vy - uy * vx = -m)
    (hX : x.natAbs < X) (hY : y.natAbs < Y) (bu : ux.natAbs * Y + uy.natAbs * X ≤ m) : ∃ i : Int, x = i * ux ∧ y = i * uy ∧ i.natAbs * m ≤ vx.natAbs * Y + vy.natAbs * X := by
  have j0 : ux * y - uy * x = 0 := by
    have d : m ∣ ux * y - uy * x := by
      have e : ux * y - uy * x = x * (ux * a - uy) - ux * (x * a - y) := by
        rw [Int.mul_sub, Int.mul_sub]
        have : x * (ux * a) = ux * (x * a) := by ac_rfl
        rw [this, Int.mul_comm uy x]
        omega
      rw [e]
      exact Int.dvd_sub (Int.dvd_mul_of_dvd_right hu) (Int.dvd_mul_of_dvd_right hxy)
    have b : ((ux * y - uy * x).natAbs : Int) < m := by
      have h1 : (ux * y - uy * x).natAbs ≤ (ux * y).natAbs + (uy * x).natAbs := Int.natAbs_sub_le _ _
      have h2 : ((ux * y).natAbs : Int) ≤ ux.natAbs * Y := by
        rw [Int.natAbs_mul, Int.natCast_mul]
        exact Int.mul_le_mul_of_nonneg_left (Int.le_of_lt hY) (by omega)
      have h3 : ((uy * x).natAbs : Int) ≤ uy.natAbs * X := by
        rw [Int.natAbs_mul, Int.natCast_mul]
        exact Int.mul_le_mul_of_nonneg_left (Int.le_of_lt hX) (by omega)
      by_cases hz : ux = 0
      · by_cases hz2 : uy = 0
        · subst hz; subst hz2
          simp only [Int.zero_mul] at *
          omega
        · have : ((uy * x).natAbs : Int) < uy.natAbs * X := by
            rw [Int.natAbs_mul, Int.natCast_mul]
            exact Int.mul_lt_mul_of_pos_left hX (by omega)
          omega
      · have : ((ux * y).natAbs : Int) < ux.natAbs * Y := by
          rw [Int.natAbs_mul, Int.natCast_mul]
          exact Int.mul_lt_mul_of_pos_left hY (by omega)
        omega
    obtain ⟨k, hk⟩ := d
    rw [hk] at b ⊢
    by_cases hk0 : k = 0
    · rw [hk0, Int.mul_zero]
    · exfalso
      rw [Int.natAbs_mul, Int.natCast_mul] at b
      have : (1 : Int) ≤ k.natAbs := by omega
      have h4 : (m.natAbs : Int) * 1 ≤ m.natAbs * k.natAbs := Int.mul_le_mul_of_nonneg_left this (by omega)
      omega
  have j1 : ux * y = uy * x := by omega
  have d : m ∣ x * vy - y * vx := by
    have e : x * vy - y * vx = vx * (x * a - y) - x * (vx * a - vy) := by
      rw [Int.mul_sub, Int.mul_sub]
      have : vx * (x * a) = x * (vx * a) := by ac_rfl
      rw [this, Int.mul_comm vx y]
      omega
    rw [e]
    exact Int.dvd_sub (Int.dvd_mul_of_dvd_right hxy) (Int.dvd_mul_of_dvd_right hv)
  obtain ⟨k, hk⟩ := d
  have ex : (ux * vy - uy * vx) * x = m * (k * ux) := by
    rw [Int.sub_mul]
    have e1 : ux * vy * x = ux * (x * vy) := by ac_rfl
    have e2 : uy * vx * x = uy * x * vx := by ac_rfl
    have e3 : ux * y * vx = ux * (y * vx) := by ac_rfl
    rw [e1, e2, ← j1, e3, ← Int.mul_sub, hk]
    ac_rfl
  have ey : (ux * vy - uy * vx) * y = m * (k * uy) := by
    rw [Int.sub_mul]
    have e1 : ux * vy * y = ux * y * vy := by ac_rfl
    have e2 : uy * vx * y = uy * (y * vx) := by ac_rfl
    have e3 : uy * x * vy = uy * (x * vy) := by ac_rfl
    rw [e1, e2, j1, e3, ← Int.mul_sub, hk]
    ac_rfl
  have hb : (k.natAbs : Int) * m ≤ vx.natAbs * Y + vy.natAbs * X := by
    have h0 : (m.natAbs : Int) = m := by omega
    have h1 : (k.natAbs : Int) * m = ((x * vy - y * vx).natAbs : Int) := by
      rw [hk, Int.natAbs_mul, Int.natCast_mul, h0, Int.mul_comm]
    have h2 : (x * vy - y * vx).natAbs ≤ (x * vy).natAbs + (y * vx).natAbs := Int.natAbs_sub_le _ _
    have h3 : ((x * vy).natAbs : Int) ≤ vy.natAbs * X := by
      rw [Int.natAbs_mul, Int.natCast_mul, Int.mul_comm]
      exact Int.mul_le_mul_of_nonneg_left (Int.le_of_lt hX) (by omega)
    have h4 : ((y * vx).natAbs : Int) ≤ vx.natAbs * Y := by
      rw [Int.natAbs_mul, Int.natCast_mul, Int.mul_comm]
      exact Int.mul_le_mul_of_nonneg_left (Int.le_of_lt hY) (by omega)
    omega
  rcases hdet with hd | hd
  · rw [hd] at ex ey
    exact ⟨k, Int.eq_of_mul_eq_mul_left (by omega) ex, Int.eq_of_mul_eq_mul_left (by omega) ey, hb⟩
  · rw [hd] at ex ey
    refine ⟨-k, ?_, ?_, by rw [Int.natAbs_neg]; exact hb⟩
    · apply Int.eq_of_mul_eq_mul_left (show m ≠ 0 by omega)
      rw [Int.neg_mul] at ex
      rw [Int.neg_mul, Int.mul_neg]; omega
    · apply Int.eq_of_mul_eq_mul_left (show m ≠ 0 by omega)
      rw [Int.neg_mul] at ey
      rw [Int.neg_mul, Int.mul_neg]; omega
end Go.Proofs.YtbakbikilbaafaaGreatDoor
namespace Go.Proofs.YtbakbikilbaafaaGreatDoor
open Go.RowKit
set_option maxHeartbeats 1000000

theorem d_Mul64 (x y : Nat) (hx : x < 18446744073709551616) (hy : y < 18446744073709551616) (w : World) :
    Calls Tryz.prog 107 #[.int .u64 x, .int .u64 y] w fun e w' => e = .returned (.tuple #[.int .u64 ((x * y / 18446744073709551616 : Nat) : Int), .int .u64 ((x * y % 18446744073709551616 : Nat) : Int)]) ∧ w = w' := by
  obtain ⟨bd, bt, bw, hhi⟩ := Lib.mul64_hi x y hx hy
  have ba := Lib.half_mul_le (a := x / 4294967296) (b := y / 4294967296) (by omega) (by omega)
  have bb := Lib.half_mul_le (a := x / 4294967296) (b := y % 4294967296) (by omega) (by omega)
  have bc := Lib.half_mul_le (a := x % 4294967296) (b := y / 4294967296) (by omega) (by omega)
  have ba' : x / 4294967296 * (y / 4294967296) < 18446744073709551616 := by omega
  have bb' : x / 4294967296 * (y % 4294967296) < 18446744073709551616 := by omega
  have bc' : x % 4294967296 * (y / 4294967296) < 18446744073709551616 := by omega
  have bh1 : x / 4294967296 * (y / 4294967296) + (x / 4294967296 * (y % 4294967296) + x % 4294967296 * (y % 4294967296) / 4294967296) / 4294967296 < 18446744073709551616 := by omega
  have bh : x / 4294967296 * (y / 4294967296) + (x / 4294967296 * (y % 4294967296) + x % 4294967296 * (y % 4294967296) / 4294967296) / 4294967296 + ((x / 4294967296 * (y % 4294967296) + x % 4294967296 * (y % 4294967296) / 4294967296) % 4294967296 + x % 4294967296 * (y / 4294967296)) / 4294967296 < 18446744073709551616 := by omega
  go_enter Tryz.func107, Tryz.ntmps107
  go_wp2
  simp only [Mul64.maskN x hx, Mul64.maskN y hy, Mul64.divN, Mul64.mulN, Mul64.addN, Mul64.wrapN _ bd, Mul64.wrapN _ bb', Mul64.wrapN _ bt, Mul64.maskN _ bt, Mul64.wrapN _ bc', Mul64.wrapN _ bw, Mul64.wrapN _ ba', Mul64.wrapN _ bh1, Mul64.wrapN _ bh, Mul64.wrapM (x * y)]
  rw [hhi]
  go_ret2
  exact ⟨rfl, rfl⟩

theorem d_log10Pow2 (x : Int) (h1 : -100000 ≤ x) (h2 : x ≤ 100000) (w : World) :
    Calls Tryz.prog 153 #[.int .i64 x] w fun e w' => e = .returned (.int .i64 (x * 78913 / 262144)) ∧ w = w' := by
  go_enter Tryz.func153, Tryz.ntmps153
  go_wp2
  go_ret
  exact ⟨rfl, rfl⟩
theorem d_log2Pow10 (x : Int) (h1 : -100000 ≤ x) (h2 : x ≤ 100000) (w : World) :
    Calls Tryz.prog 186 #[.int .i64 x] w fun e w' => e = .returned (.int .i64 (x * 108853 / 32768)) ∧ w = w' := by
  go_enter Tryz.func186, Tryz.ntmps186
  go_wp2
  go_ret
  exact ⟨rfl, rfl⟩
theorem d_skewed (x : Int) (h1 : -100000 ≤ x) (h2 : x ≤ 100000) (w : World) :
    Calls Tryz.prog 184 #[.int .i64 x] w fun e w' => e = .returned (.int .i64 ((x * 631305 - 261663) / 2097152)) ∧ w = w' := by
  go_enter Tryz.func184, Tryz.ntmps184
  go_wp2
  go_ret
  exact ⟨rfl, rfl⟩
theorem d_bool2int (b : Bool) (w : World) : Calls Tryz.prog 154 #[.bool b] w fun e w' => e = .returned (.int .i64 (b2n b : Int)) ∧ w = w' := by
  cases b
  all_goals
    go_enter Tryz.func154, Tryz.ntmps154
    go_wp2
    go_ret
    exact ⟨rfl, rfl⟩
theorem d_bool2u64 (b : Bool) (w : World) : Calls Tryz.prog 210 #[.bool b] w fun e w' => e = .returned (.int .u64 (b2n b : Int)) ∧ w = w' := by
  cases b
  all_goals
    go_enter Tryz.func210, Tryz.ntmps210
    go_wp2
    go_ret
    exact ⟨rfl, rfl⟩
theorem d_nudge0 (u : Nat) (hu : u < 18446744073709551616) (w : World) : Calls Tryz.prog 188 #[.int .u64 (u : Int), .int .i64 0] w fun e w' => e = .returned (.int .u64 (u : Int)) ∧ w = w' := by
  have h : IntKind.u64.wrap (u : Int) = (u : Int) := by rw [IntKind.wrap_u64]; omega
  go_enter Tryz.func188, Tryz.ntmps188
  go_wp2
  go_ret
  exact ⟨rfl, rfl⟩
theorem d_uceil (u : Nat) (hu : u < 18446744073709551613) (w : World) : Calls Tryz.prog 189 #[.int .u64 (u : Int)] w fun e w' => e = .returned (.int .u64 (((u + 3) / 4 : Nat) : Int)) ∧ w = w' := by
  have h : IntKind.u64.wrap ((u : Int) + 3) = (u : Int) + 3 := by rw [IntKind.wrap_u64]; omega
  go_enter Tryz.func189, Tryz.ntmps189
  go_wp2
  go_ret
  exact ⟨rfl, rfl⟩
theorem d_ufloor (u : Nat) (hu : u < 18446744073709551616) (w : World) : Calls Tryz.prog 190 #[.int .u64 (u : Int)] w fun e w' => e = .returned (.int .u64 ((u / 4 : Nat) : Int)) ∧ w = w' := by
  have h : IntKind.u64.wrap (u : Int) = (u : Int) := by rw [IntKind.wrap_u64]; omega
  go_enter Tryz.func190, Tryz.ntmps190
  go_wp2
  go_ret
  exact ⟨rfl, rfl⟩
end Go.Proofs.YtbakbikilbaafaaGreatDoor
namespace Go.Proofs.YtbakbikilbaafaaGreatDoor
open Go.RowKit
set_option maxHeartbeats 1000000
set_option maxRecDepth 100000

theorem d_ret {k : IntKind} {a b : Int} (h : a = b) : Ending.returned (.int k a) = .returned (.int k b) := by rw [h]
set_option maxRecDepth 100000 in
theorem len8tab_sz : (Lib.len8tab.size : Int) = 256 := by
  have : Lib.len8tab.size = 256 := by decide
  omega
theorem l8_add (k a b : Nat) (hk : k ≤ 56) (ha : a ≤ 8) (hb : b = k + a) : RowKit.wrap64 ((k : Int) + RowKit.wrap64 (a : Int)) = (b : Int) := by
  unfold RowKit.wrap64
  omega
theorem l8_wrap (a : Nat) (ha : a ≤ 8) : RowKit.wrap64 (RowKit.wrap64 (a : Int)) = (a : Int) := by
  unfold RowKit.wrap64
  omega
theorem l8_get (y : Int) (h : y.toNat < Lib.len8tab.size) : ((Lib.len8tab[y.toNat]'h).toNat : Int) = Lib.len8 y := by
  unfold Lib.len8
  rw [getElem?_pos Lib.len8tab y.toNat h]
  rfl
set_option maxHeartbeats 8000000 in
theorem d_Len64 (x : Int) (w : World) (h0 : 0 ≤ x) (h1 : x ≤ 18446744073709551615) :
    Calls Tryz.prog 146 #[.int .u64 x] w fun e w' => e = .returned (.int .i64 (Lib.bitLen x.toNat)) ∧ w = w' := by
  go_enter Tryz.func146, Tryz.ntmps146
  go_wp2
  all_goals first
    | (go_ret; refine ⟨congrArg Ending.returned (congrArg (Value.int IntKind.i64) ?_), rfl⟩; go_light)
    | (exfalso
       go_light
       have hs := len8tab_sz
       omega)
  all_goals first
    | (rw [l8_get (x / 4294967296 / 65536 / 256) _, Lib.len8_of (x / 4294967296 / 65536 / 256) (by omega) (by omega)]
       have e : (x / 4294967296 / 65536 / 256).toNat = x.toNat / 72057594037927936 := by omega
       have l := Lib.bitLen_le8' (x / 4294967296 / 65536 / 256) (by omega) (by omega)
       have s := Lib.bitLen_shift56 x.toNat (by omega) (by omega)
       rw [e] at l ⊢
       exact l8_add 56 _ _ (by decide) l s)
    | (rw [l8_get (x / 4294967296 / 65536) _, Lib.len8_of (x / 4294967296 / 65536) (by omega) (by omega)]
       have e : (x / 4294967296 / 65536).toNat = x.toNat / 281474976710656 := by omega
       have l := Lib.bitLen_le8' (x / 4294967296 / 65536) (by omega) (by omega)
       have s := Lib.bitLen_shift48 x.toNat (by omega) (by omega)
       rw [e] at l ⊢
       exact l8_add 48 _ _ (by decide) l s)
    | (rw [l8_get (x / 4294967296 / 256) _, Lib.len8_of (x / 4294967296 / 256) (by omega) (by omega)]
       have e : (x / 4294967296 / 256).toNat = x.toNat / 1099511627776 := by omega
       have l := Lib.bitLen_le8' (x / 4294967296 / 256) (by omega) (by omega)
       have s := Lib.bitLen_shift40 x.toNat (by omega) (by omega)
       rw [e] at l ⊢
       exact l8_add 40 _ _ (by decide) l s)
    | (rw [l8_get (x / 4294967296) _, Lib.len8_of (x / 4294967296) (by omega) (by omega)]
       have e : (x / 4294967296).toNat = x.toNat / 4294967296 := by omega
       have l := Lib.bitLen_le8' (x / 4294967296) (by omega) (by omega)
       have s := Lib.bitLen_shift32 x.toNat (by omega) (by omega)
       rw [e] at l ⊢
       exact l8_add 32 _ _ (by decide) l s)
    | (rw [l8_get (x / 65536 / 256) _, Lib.len8_of (x / 65536 / 256) (by omega) (by omega)]
       have e : (x / 65536 / 256).toNat = x.toNat / 16777216 := by omega
       have l := Lib.bitLen_le8' (x / 65536 / 256) (by omega) (by omega)
       have s := Lib.bitLen_shift24 x.toNat (by omega) (by omega)
       rw [e] at l ⊢
       exact l8_add 24 _ _ (by decide) l s)
    | (rw [l8_get (x / 65536) _, Lib.len8_of (x / 65536) (by omega) (by omega)]
       have e : (x / 65536).toNat = x.toNat / 65536 := by omega
       have l := Lib.bitLen_le8' (x / 65536) (by omega) (by omega)
       have s := Lib.bitLen_shift16 x.toNat (by omega) (by omega)
       rw [e] at l ⊢
       exact l8_add 16 _ _ (by decide) l s)
    | (rw [l8_get (x / 256) _, Lib.len8_of (x / 256) (by omega) (by omega)]
       have e : (x / 256).toNat = x.toNat / 256 := by omega
       have l := Lib.bitLen_le8' (x / 256) (by omega) (by omega)
       have s := Lib.bitLen_shift8 x.toNat (by omega) (by omega)
       rw [e] at l ⊢
       exact l8_add 8 _ _ (by decide) l s)
    | (rw [l8_get (x) _, Lib.len8_of (x) (by omega) (by omega)]
       have e : (x).toNat = x.toNat := by omega
       have l := Lib.bitLen_le8' (x) (by omega) (by omega)
       exact l8_wrap _ l)
theorem and63 : ∀ s : Nat, s < 64 → bits BinOp.and IntKind.i64 (s : Int) 63 = (s : Int) := by decide +kernel
theorem pow_cast (a s : Nat) : (a : Int) / 2 ^ s = ((a / 2 ^ s : Nat) : Int) := by
  rw [Int.natCast_ediv]; congr 1
theorem d_uscale1 (x ph pl s b : Nat) (hx : x < 18446744073709551616) (hp : ph < 18446744073709551616) (hs : s < 64) (w : World)
    (c0 : w.cell? ⟨b, 0, none⟩ = some (.int .u64 (ph : Int))) (c2 : w.cell? ⟨b, 2, none⟩ = some (.int .i64 (s : Int)))
    (h : x * ph / W64 / 2 ^ s * 2 ^ s ≠ x * ph / W64) :
    Calls Tryz.prog 187 #[.int .u64 (x : Int), .pointer (some ⟨b, 0, none⟩)] w fun e w' => e = .returned (.int .u64 (usc x ph pl s : Int)) ∧ w = w' := by
  have hM := Lib.hid (fun w => d_Mul64 x ph hx hp w)
  have hhi : x * ph / 18446744073709551616 < 18446744073709551616 := Nat.div_lt_of_lt_mul (Nat.mul_lt_mul'' hx hp)
  have hu : usc x ph pl s = x * ph / W64 / 2 ^ s ||| 1 := by unfold usc; rw [if_pos h]
  rw [hu]
  clear hu
  rw [W64_eq] at *
  generalize x * ph / 18446744073709551616 = hi at *
  generalize x * ph % 18446744073709551616 = mid at *
  have hq : hi / 2 ^ s ≤ hi := Nat.div_le_self _ _
  have hr : hi / 2 ^ s * 2 ^ s ≤ hi := Nat.div_mul_le_self _ _
  have a1 := and63 s hs
  have a2 := pow_cast hi s
  have a3 : IntKind.u64.wrap (((hi / 2 ^ s : Nat) : Int) * 2 ^ s) = ((hi / 2 ^ s * 2 ^ s : Nat) : Int) := by
    have : ((hi / 2 ^ s : Nat) : Int) * 2 ^ s = ((hi / 2 ^ s * 2 ^ s : Nat) : Int) := by rw [Int.natCast_mul]; congr 1
    rw [this, IntKind.wrap_u64]; omega
  have a5 := bits_or_u64_nat (hi / 2 ^ s) 1 (by omega) (by omega)
  generalize hi / 2 ^ s = q at *
  generalize q * 2 ^ s = r at *
  have a4 : ((r : Int) != (hi : Int)) = true := by simp; omega
  clear h hq hr
  go_enter Tryz.func187, Tryz.ntmps187
  go_wp2_with (go_at_call 107; refine (hM.out _).mono ?_; rintro e w1 ⟨rfl, rfl⟩)
  go_ret
  exact ⟨d_ret a5, rfl⟩
theorem d_uscale2 (x ph s b : Nat) (hx : x < 18446744073709551616) (hp : ph < 18446744073709551616) (hs : s < 64) (w : World)
    (c0 : w.cell? ⟨b, 0, none⟩ = some (.int .u64 (ph : Int))) (c2 : w.cell? ⟨b, 2, none⟩ = some (.int .i64 (s : Int))) (c1 : w.cell? ⟨b, 1, none⟩ = some (.int .u64 0))
    (h : x * ph / W64 / 2 ^ s * 2 ^ s = x * ph / W64) :
    Calls Tryz.prog 187 #[.int .u64 (x : Int), .pointer (some ⟨b, 0, none⟩)] w fun e w' => e = .returned (.int .u64 (usc x ph 0 s : Int)) ∧ ∃ nq, w' = w.drewN nq := by
  have hM := Lib.hid (fun w => d_Mul64 x ph hx hp w)
  have hM2 := Lib.hid (fun w => d_Mul64 x 0 hx (by omega) w)
  rw [Nat.mul_zero, Nat.zero_div, Nat.zero_mod] at hM2
  have hhi : x * ph / 18446744073709551616 < 18446744073709551616 := Nat.div_lt_of_lt_mul (Nat.mul_lt_mul'' hx hp)
  have hmid : x * ph % 18446744073709551616 < 18446744073709551616 := Nat.mod_lt _ (by decide)
  have hu : usc x ph 0 s = x * ph / W64 / 2 ^ s ||| b2n (decide (1 < x * ph % W64)) := by
    unfold usc
    rw [if_neg (by rw [h]; exact fun e => e rfl)]
    rw [W64_eq] at *
    have e0 : x * 0 / 18446744073709551616 = 0 := by simp
    rw [e0]
    have e1 : decide (x * ph % 18446744073709551616 < 0) = false := by simp
    rw [e1]
    have e2 : b2n false = 0 := rfl
    rw [e2, Nat.sub_zero, Nat.sub_zero, Nat.add_mod_right, Nat.add_mod_right, Nat.mod_eq_of_lt hhi, Nat.mod_eq_of_lt hmid]
  rw [hu]
  clear hu
  rw [W64_eq] at *
  generalize x * ph / 18446744073709551616 = hi at *
  generalize x * ph % 18446744073709551616 = mid at *
  have hq : hi / 2 ^ s ≤ hi := Nat.div_le_self _ _
  have a1 := and63 s hs
  have a2 := pow_cast hi s
  have a3 : IntKind.u64.wrap (((hi / 2 ^ s : Nat) : Int) * 2 ^ s) = (hi : Int) := by
    have : ((hi / 2 ^ s : Nat) : Int) * 2 ^ s = ((hi / 2 ^ s * 2 ^ s : Nat) : Int) := by rw [Int.natCast_mul]; congr 1
    rw [this, IntKind.wrap_u64, h]; omega
  have hb : b2n (decide (1 < mid)) ≤ 1 := by cases decide (1 < mid) <;> decide
  have a5 := bits_or_u64_nat (hi / 2 ^ s) (b2n (decide (1 < mid))) (by omega) (by omega)
  have hB := Lib.hid (fun w => d_bool2u64 (decide (1 < mid)) w)
  have hB0' : ∀ w : World, Calls Tryz.prog 210 #[.bool false] w fun e w' => e = .returned (.int .u64 0) ∧ w = w' := fun w => d_bool2u64 false w
  have hB0 := Lib.hid hB0'
  clear hB0'
  generalize hi / 2 ^ s = q at *
  have a4 : ((hi : Int) != (hi : Int)) = false := by simp
  have a6 : decide ((mid : Int) < 0) = false := by simp
  have a7 : decide ((1 : Int) < (mid : Int)) = decide (1 < mid) := by apply decide_eq_decide.2; omega
  have a8 : IntKind.u64.wrap (hi : Int) = (hi : Int) := by rw [IntKind.wrap_u64]; omega
  have a9 : IntKind.u64.wrap (mid : Int) = (mid : Int) := by rw [IntKind.wrap_u64]; omega
  clear h hq hmid hhi
  generalize decide (1 < mid) = d at *
  generalize b2n d = dn at *
  go_enter Tryz.func187, Tryz.ntmps187
  go_wp2_with fail
  refine (hM.out _).mono ?_
  rintro e w1 ⟨rfl, rfl⟩
  go_wp2_with fail
  refine (hM2.out _).mono ?_
  rintro e w1 ⟨rfl, rfl⟩
  go_wp2_with fail
  refine (hB0.out _).mono ?_
  rintro e w1 ⟨rfl, rfl⟩
  go_wp2_with fail
  go_quiet ((go_at_call 210; exact Calls.quiet_of_same ((hB.out _).mono fun _ _ ⟨h1, h2⟩ => ⟨h1, h2.symm⟩)))
  go_wp2_with fail
  go_ret
  exact ⟨rfl, _, rfl⟩
theorem d_uscale (x ph s b : Nat) (hx : x < 18446744073709551616) (hp : ph < 18446744073709551616) (hs : s < 64) (w : World)
    (c0 : w.cell? ⟨b, 0, none⟩ = some (.int .u64 (ph : Int))) (c1 : w.cell? ⟨b, 1, none⟩ = some (.int .u64 0)) (c2 : w.cell? ⟨b, 2, none⟩ = some (.int .i64 (s : Int))) :
    Calls Tryz.prog 187 #[.int .u64 (x : Int), .pointer (some ⟨b, 0, none⟩)] w fun e w' => e = .returned (.int .u64 (usc x ph 0 s : Int)) ∧ ∃ nq, w' = w.drewN nq := by
  by_cases h : x * ph / W64 / 2 ^ s * 2 ^ s = x * ph / W64
  · exact d_uscale2 x ph s b hx hp hs w c0 c2 c1 h
  · exact (d_uscale1 x ph 0 s b hx hp hs w c0 c2 h).mono fun e w' ⟨h1, h2⟩ => ⟨h1, 0, by rw [← h2]; rfl⟩
theorem d_prescale (b : Nat) (e p lp : Int) (hi lo : Int) (h1 : -348 ≤ p) (h2 : p ≤ 347) (h3 : -2000 ≤ e) (h4 : e ≤ 2000) (h5 : -2000 ≤ lp) (h6 : lp ≤ 2000) (w : World)
    (c0 : w.cell? ⟨b, 0, none⟩ = some (.int .u64 0)) (c1 : w.cell? ⟨b, 1, none⟩ = some (.int .u64 0)) (c2 : w.cell? ⟨b, 2, none⟩ = some (.int .i64 0))
    (f0 : w.frozen? ⟨b, 0, none⟩ = false) (f1 : w.frozen? ⟨b, 1, none⟩ = false) (f2 : w.frozen? ⟨b, 2, none⟩ = false)
    (t0 : w.cell? ⟨12, (p + 348).toNat * 2, none⟩ = some (.int .u64 hi)) (t1 : w.cell? ⟨12, (p + 348).toNat * 2 + 1, none⟩ = some (.int .u64 lo)) :
    Calls Tryz.prog 185 #[.pointer (some ⟨b, 0, none⟩), .int .i64 e, .int .i64 p, .int .i64 lp] w fun r w' => r = .returned (.tuple #[]) ∧ w' = ((w.setCell ⟨b, 0, none⟩ (.int .u64 hi)).setCell ⟨b, 1, none⟩ (.int .u64 lo)).setCell ⟨b, 2, none⟩ (.int .i64 (-(e + lp + 3))) := by
  go_enter Tryz.func185, Tryz.ntmps185
  go_wp2_with fail
  go_end0
  exact ⟨rfl, rfl⟩
end Go.Proofs.YtbakbikilbaafaaGreatDoor
namespace Go.Proofs.YtbakbikilbaafaaGreatDoor
set_option linter.unusedVariables false
set_option maxHeartbeats 1000000
set_option maxRecDepth 100000

def ndg (u : Nat) (d : Int) : Nat := (((u : Int) + d) % 18446744073709551616).toNat
def cei (u : Nat) : Nat := (u + 3) / 4
def rou (u : Nat) : Nat := (u + 1 + u / 4 % 2) / 4
/-- how many low bits of the left-justified mantissa are no part of the number -/
def sfZ (e : Int) : Nat := if -1085 ≤ e then 11 else (11 + (-1085 - e)).toNat
def sfSk (m : Nat) (e : Int) : Bool := decide (m = 9223372036854775808) && decide (-1085 < e)
def sfP (m : Nat) (e : Int) : Int := if sfSk m e then -(((e + 11) * 631305 - 261663) / 2097152) else -((e + sfZ e) * 78913 / 262144)
def sfMin (m : Nat) (e : Int) : Nat := if sfSk m e then m - 512 else m - 2 ^ (sfZ e - 1)
def sfMax (m : Nat) (e : Int) : Nat := m + 2 ^ (sfZ e - 1)
def sfOdd (m : Nat) (e : Int) : Nat := m / 2 ^ sfZ e % 2
def sfS (m : Nat) (e : Int) : Nat := (-(e + sfP m e * 108853 / 32768 + 3)).toNat
def sfLo (hi lo m : Nat) (e : Int) : Nat := cei (ndg (usc (sfMin m e) hi lo (sfS m e)) (sfOdd m e))
def sfHi (hi lo m : Nat) (e : Int) : Nat := ndg (usc (sfMax m e) hi lo (sfS m e)) (-(sfOdd m e : Int)) / 4
def sfD (hi lo m : Nat) (e : Int) : Nat :=
  if sfLo hi lo m e ≤ sfHi hi lo m e / 10 * 10 then sfHi hi lo m e / 10
  else if sfLo hi lo m e < sfHi hi lo m e then rou (usc m hi lo (sfS m e)) else sfLo hi lo m e
def sfQ (hi lo m : Nat) (e : Int) : Int := if sfLo hi lo m e ≤ sfHi hi lo m e / 10 * 10 then -(sfP m e - 1) else -(sfP m e)
/-- uscale's answer between bounds -/
theorem usc_le {x ph pl s : Nat} (hx : x < 18446744073709551616) (hp : ph < 18446744073709551616) (hs : 5 ≤ s) (hs2 : s < 64) : usc x ph pl s < 576460752303423489 + 1 := by
  have hhi : x * ph / 18446744073709551616 < 18446744073709551616 := Nat.div_lt_of_lt_mul (Nat.mul_lt_mul'' hx hp)
  have h5 : ∀ y, y < 18446744073709551616 → y / 2 ^ s < 576460752303423488 := fun y hy => by
    have h1 : y / 2 ^ s ≤ y / 2 ^ 5 := Nat.div_le_div_left (Nat.pow_le_pow_right (by decide) hs) (by decide)
    have e : (2 : Nat) ^ 5 = 32 := by decide
    rw [e] at h1
    omega
  unfold usc
  rw [W64_eq]
  split
  · rw [or_one]
    have := h5 _ hhi
    omega
  · rw [or_b2n]
    have := h5 ((x * ph / 18446744073709551616 + 18446744073709551616 - b2n (decide (x * ph % 18446744073709551616 < x * pl / 18446744073709551616))) % 18446744073709551616) (Nat.mod_lt _ (by decide))
    split <;> omega
theorem usc_ge {x ph pl s : Nat} (hx0 : 4611686018427387904 ≤ x) (hx : x < 18446744073709551616) (hp0 : 9223372036854775808 ≤ ph) (hp : ph < 18446744073709551616) (hs : s ≤ 58) : 6 ≤ usc x ph pl s := by
  have hhi : x * ph / 18446744073709551616 < 18446744073709551616 := Nat.div_lt_of_lt_mul (Nat.mul_lt_mul'' hx hp)
  have hlo : 2305843009213693952 ≤ x * ph / 18446744073709551616 := by
    rw [Nat.le_div_iff_mul_le (by decide)]
    exact Nat.le_trans (by decide) (Nat.mul_le_mul hx0 hp0)
  have h7 : ∀ y, 2305843009213693951 ≤ y → 7 ≤ y / 2 ^ s := fun y hy => by
    have h1 : y / 2 ^ 58 ≤ y / 2 ^ s := Nat.div_le_div_left (Nat.pow_le_pow_right (by decide) hs) (Nat.two_pow_pos _)
    have e : (2 : Nat) ^ 58 = 288230376151711744 := by decide
    rw [e] at h1
    omega
  unfold usc
  rw [W64_eq]
  split
  · rw [or_one]
    have := h7 _ (Nat.le_trans (by decide) hlo)
    omega
  · rw [or_b2n]
    generalize decide (x * ph % 18446744073709551616 < x * pl / 18446744073709551616) = d
    have hd : b2n d ≤ 1 := by cases d <;> decide
    have := h7 ((x * ph / 18446744073709551616 + 18446744073709551616 - b2n d) % 18446744073709551616) (by omega)
    split <;> omega
/-- the numbers that shortFloat asks of: a left-justified mantissa and its exponent -/
structure SfIn (m : Nat) (e : Int) : Prop where
  lo : 9223372036854775808 ≤ m
  hi : m + 2 ^ (sfZ e - 1) < 18446744073709551616
  e1 : -1137 ≤ e
  e2 : e ≤ 960
theorem sfZ_b {e : Int} (h : -1137 ≤ e) : 11 ≤ sfZ e ∧ sfZ e ≤ 63 := by
  unfold sfZ
  split <;> omega
theorem SfIn.s {m : Nat} {e : Int} (h : SfIn m e) : (5 ≤ sfS m e ∧ sfS m e ≤ 58) ∧ (0 ≤ -(e + sfP m e * 108853 / 32768 + 3)) ∧ -330 ≤ sfP m e ∧ sfP m e ≤ 330 := by
  obtain ⟨_, _, h1, h2⟩ := h
  unfold sfS sfP sfZ
  split
  · have hk : -1085 < e := by
      rename_i hh
      unfold sfSk at hh
      simp at hh
      exact hh.2
    omega
  · split
    · omega
    · have e1 : e + (((11 + (-1085 - e)).toNat : Nat) : Int) = -1074 := by omega
      rw [e1]
      omega
theorem SfIn.mn {m : Nat} {e : Int} (h : SfIn m e) : 4611686018427387904 ≤ sfMin m e ∧ sfMin m e < 18446744073709551616 := by
  obtain ⟨h0, h9, h1, h2⟩ := h
  have hz := sfZ_b h1
  have hp : 2 ^ (sfZ e - 1) ≤ 2 ^ 62 := Nat.pow_le_pow_right (by decide) (by omega)
  have e : (2 : Nat) ^ 62 = 4611686018427387904 := by decide
  unfold sfMin
  generalize 2 ^ (sfZ _ - 1) = P at *
  split <;> omega
theorem SfIn.m64 {m : Nat} {e : Int} (h : SfIn m e) : m < 18446744073709551616 := by
  have h9 := h.hi
  generalize 2 ^ (sfZ e - 1) = P at *
  omega
theorem SfIn.mx {m : Nat} {e : Int} (h : SfIn m e) : m ≤ sfMax m e ∧ sfMax m e < 18446744073709551616 := by
  have h9 := h.hi
  unfold sfMax
  generalize 2 ^ (sfZ e - 1) = P at *
  omega
theorem ndg_add (u : Nat) (d : Nat) (h : u + d < 18446744073709551616) : ndg u d = u + d := by unfold ndg; omega
theorem ndg_sub (u d : Nat) (h : d ≤ u) (hu : u < 18446744073709551616) : ndg u (-(d : Int)) = u - d := by unfold ndg; omega
theorem sf_b {hi lo m : Nat} {e : Int} (h : SfIn m e) (hp0 : 9223372036854775808 ≤ hi) (hp : hi < 18446744073709551616) :
    1 ≤ sfD hi lo m e ∧ sfD hi lo m e < 1000000000000000000 ∧ -332 ≤ sfQ hi lo m e ∧ sfQ hi lo m e ≤ 332 := by
  obtain ⟨⟨s1, s2⟩, _, p1, p2⟩ := h.s
  obtain ⟨mn1, mn2⟩ := h.mn
  have hm0 := h.lo
  obtain ⟨x1, hmx⟩ := h.mx
  have hm64 := h.m64
  have ho : sfOdd m e ≤ 1 := by unfold sfOdd; omega
  have a1 := usc_ge (pl := lo) mn1 mn2 hp0 hp s2
  have a2 := usc_le (pl := lo) mn2 hp s1 (by omega)
  have b1 := usc_ge (x := sfMax m e) (pl := lo) (by omega) hmx hp0 hp s2
  have b2 := usc_le (x := sfMax m e) (pl := lo) hmx hp s1 (by omega)
  have c1 := usc_ge (x := m) (pl := lo) (by omega) (by omega) hp0 hp s2
  have c2 := usc_le (x := m) (pl := lo) (by omega) hp s1 (by omega)
  have l1 : sfLo hi lo m e = (usc (sfMin m e) hi lo (sfS m e) + sfOdd m e + 3) / 4 := by
    unfold sfLo cei
    rw [ndg_add _ _ (by omega)]
  have l2 : sfHi hi lo m e = (usc (sfMax m e) hi lo (sfS m e) - sfOdd m e) / 4 := by
    unfold sfHi
    rw [ndg_sub _ _ (by omega) (by omega)]
  unfold sfD sfQ rou
  rw [l1, l2]
  split
  · omega
  · split <;> omega
end Go.Proofs.YtbakbikilbaafaaGreatDoor
namespace Go.Proofs.YtbakbikilbaafaaGreatDoor
open Go.RowKit
set_option linter.unusedVariables false
set_option maxHeartbeats 1000000
set_option maxRecDepth 100000

theorem d_uscale2G (x ph pl s b : Nat) (hx : x < 18446744073709551616) (hp : ph < 18446744073709551616) (hpl : pl < 18446744073709551616) (hs : s < 64) (w : World)
    (c0 : w.cell? ⟨b, 0, none⟩ = some (.int .u64 (ph : Int))) (c2 : w.cell? ⟨b, 2, none⟩ = some (.int .i64 (s : Int))) (c1 : w.cell? ⟨b, 1, none⟩ = some (.int .u64 (pl : Int)))
    (h : x * ph / W64 / 2 ^ s * 2 ^ s = x * ph / W64) :
    Calls Tryz.prog 187 #[.int .u64 (x : Int), .pointer (some ⟨b, 0, none⟩)] w fun e w' => e = .returned (.int .u64 (usc x ph pl s : Int)) ∧ ∃ nq, w' = w.drewN nq := by
  have hM := Lib.hid (fun w => d_Mul64 x ph hx hp w)
  have hM2 := Lib.hid (fun w => d_Mul64 x pl hx hpl w)
  have hhi : x * ph / 18446744073709551616 < 18446744073709551616 := Nat.div_lt_of_lt_mul (Nat.mul_lt_mul'' hx hp)
  have hmid : x * ph % 18446744073709551616 < 18446744073709551616 := Nat.mod_lt _ (by decide)
  have hmd2 : x * pl / 18446744073709551616 < 18446744073709551616 := Nat.div_lt_of_lt_mul (Nat.mul_lt_mul'' hx hpl)
  have hu : usc x ph pl s = ((x * ph / W64 + W64 - b2n (decide (x * ph % W64 < x * pl / W64))) % W64) / 2 ^ s ||| b2n (decide (1 < (x * ph % W64 + W64 - x * pl / W64) % W64)) := by
    unfold usc
    rw [if_neg (by rw [h]; exact fun e => e rfl)]
  rw [hu]
  clear hu
  rw [W64_eq] at *
  generalize x * ph / 18446744073709551616 = hi at *
  generalize x * ph % 18446744073709551616 = mid at *
  generalize x * pl / 18446744073709551616 = md2 at *
  generalize x * pl % 18446744073709551616 = ml2 at *
  have hq : hi / 2 ^ s ≤ hi := Nat.div_le_self _ _
  have a1 := and63 s hs
  have a2 := pow_cast hi s
  have a3 : IntKind.u64.wrap (((hi / 2 ^ s : Nat) : Int) * 2 ^ s) = (hi : Int) := by
    have : ((hi / 2 ^ s : Nat) : Int) * 2 ^ s = ((hi / 2 ^ s * 2 ^ s : Nat) : Int) := by rw [Int.natCast_mul]; congr 1
    rw [this, IntKind.wrap_u64, h]; omega
  have a6 : decide ((mid : Int) < (md2 : Int)) = decide (mid < md2) := by apply decide_eq_decide.2; omega
  have hB1 := Lib.hid (fun w => d_bool2u64 (decide (mid < md2)) w)
  generalize hdd1 : decide (mid < md2) = d1 at *
  have hd1 : b2n d1 ≤ 1 := by cases d1 <;> decide
  generalize b2n d1 = n1 at *
  obtain ⟨H, hH⟩ : ∃ H, (hi + 18446744073709551616 - n1) % 18446744073709551616 = H := ⟨_, rfl⟩
  obtain ⟨M, hM'⟩ : ∃ M, (mid + 18446744073709551616 - md2) % 18446744073709551616 = M := ⟨_, rfl⟩
  rw [hH, hM']
  have a8 : IntKind.u64.wrap ((hi : Int) - (n1 : Int)) = (H : Int) := by rw [IntKind.wrap_u64]; omega
  have a9 : IntKind.u64.wrap ((mid : Int) - (md2 : Int)) = (M : Int) := by rw [IntKind.wrap_u64]; omega
  have hHl : H < 18446744073709551616 := by omega
  have a10 := pow_cast H s
  have hqH : H / 2 ^ s ≤ H := Nat.div_le_self _ _
  have a7 : decide ((1 : Int) < (M : Int)) = decide (1 < M) := by apply decide_eq_decide.2; omega
  have hb : b2n (decide (1 < M)) ≤ 1 := by cases decide (1 < M) <;> decide
  have a5 := bits_or_u64_nat (H / 2 ^ s) (b2n (decide (1 < M))) (by omega) (by omega)
  have hB := Lib.hid (fun w => d_bool2u64 (decide (1 < M)) w)
  have a4 : ((hi : Int) != (hi : Int)) = false := by simp
  generalize hi / 2 ^ s = q at *
  generalize H / 2 ^ s = qH at *
  clear h hq hmid hhi hmd2 hH hM' hHl hqH
  generalize hdd2 : decide (1 < M) = d at *
  generalize b2n d = dn at *
  go_enter Tryz.func187, Tryz.ntmps187
  go_wp2_with fail
  refine (hM.out _).mono ?_
  rintro e w1 ⟨rfl, rfl⟩
  go_wp2_with fail
  refine (hM2.out _).mono ?_
  rintro e w1 ⟨rfl, rfl⟩
  go_wp2_with fail
  refine (hB1.out _).mono ?_
  rintro e w1 ⟨rfl, rfl⟩
  go_wp2_with fail
  go_quiet ((go_at_call 210; exact Calls.quiet_of_same ((hB.out _).mono fun _ _ ⟨h1, h2⟩ => ⟨h1, h2.symm⟩)))
  go_wp2_with fail
  go_ret
  exact ⟨rfl, _, rfl⟩
theorem d_uscaleG (x ph pl s b : Nat) (hx : x < 18446744073709551616) (hp : ph < 18446744073709551616) (hpl : pl < 18446744073709551616) (hs : s < 64) (w : World)
    (c0 : w.cell? ⟨b, 0, none⟩ = some (.int .u64 (ph : Int))) (c1 : w.cell? ⟨b, 1, none⟩ = some (.int .u64 (pl : Int))) (c2 : w.cell? ⟨b, 2, none⟩ = some (.int .i64 (s : Int))) :
    Calls Tryz.prog 187 #[.int .u64 (x : Int), .pointer (some ⟨b, 0, none⟩)] w fun e w' => e = .returned (.int .u64 (usc x ph pl s : Int)) ∧ ∃ nq, w' = w.drewN nq := by
  by_cases h : x * ph / W64 / 2 ^ s * 2 ^ s = x * ph / W64
  · exact d_uscale2G x ph pl s b hx hp hpl hs w c0 c2 c1 h
  · exact (d_uscale1 x ph pl s b hx hp hs w c0 c2 h).mono fun e w' ⟨h1, h2⟩ => ⟨h1, 0, by rw [← h2]; rfl⟩
theorem d_nudgeG (u : Nat) (d : Int) (hu : u < 18446744073709551616) (h1 : -1 ≤ d) (h2 : d ≤ 1) (w : World) : Calls Tryz.prog 188 #[.int .u64 (u : Int), .int .i64 d] w fun e w' => e = .returned (.int .u64 (ndg u d : Int)) ∧ w = w' := by
  have e : (ndg u d : Int) = ((u : Int) + d) % 18446744073709551616 := by unfold ndg; omega
  rw [e]
  go_enter Tryz.func188, Tryz.ntmps188
  go_wp2
  go_ret
  refine ⟨d_ret ?_, rfl⟩
  simp only [IntKind.wrap_u64]
  omega
theorem d_uround (u : Nat) (hu : u < 4611686018427387904) (w : World) : Calls Tryz.prog 191 #[.int .u64 (u : Int)] w fun e w' => e = .returned (.int .u64 (rou u : Int)) ∧ w = w' := by
  have a1 : bits BinOp.and IntKind.u64 ((u : Int) / 4) 1 = ((u / 4 % 2 : Nat) : Int) := by
    have := bits_and_u64_nat (u / 4) 1 (by omega) (by omega)
    rw [Nat.and_one_is_mod] at this
    exact this
  have a2 : IntKind.u64.wrap ((u : Int) + 1) = (u : Int) + 1 := by rw [IntKind.wrap_u64]; omega
  have a3 : IntKind.u64.wrap ((u : Int) + 1 + ((u / 4 % 2 : Nat) : Int)) = ((u + 1 + u / 4 % 2 : Nat) : Int) := by rw [IntKind.wrap_u64]; omega
  have a4 : ((u + 1 + u / 4 % 2 : Nat) : Int) / 4 = (rou u : Int) := by unfold rou; omega
  go_enter Tryz.func191, Tryz.ntmps191
  go_wp2
  go_ret
  refine ⟨d_ret ?_, rfl⟩
  first | rfl | (rw [← a4]) | (simp only [a1, a2, a3, a4])
end Go.Proofs.YtbakbikilbaafaaGreatDoor
