/-
  Contracts: Plain law: the library's scaling is exact for every power of its table, at each left-justified number of 64 bits (reading), and at each multiple of 512 (writing). Plain facts: what a word of a float is worth, exactly; writing, adding, multiplying and cutting off exact numbers. No condition. Plain law: the float nearest to a fraction, ties to the even one: one alone, and it goes up with the fraction; how rounding to 53 bits comes to it. Plain law: what the library's parseFloat64 answers is the float nearest to d times 10 to p.
-/
import Derived.Test.YtbakbikilbaafaaGreatDoorZ4
import Derived.Laws.FloatBits
import Derived.Test.YtbakbikilbaafaaGreatDoorZ2
namespace Go.Proofs.YtbakbikilbaafaaGreatDoor
set_option linter.unusedVariables false
set_option maxHeartbeats 1000000
set_option maxRecDepth 100000

theorem unr_mul {a b c : Nat} (hc : 0 < c) : unr (a * c) (b * c) = unr a b := by
  unfold unr
  rw [Nat.mul_mod_mul_right, Nat.mul_div_mul_right _ _ hc]
  by_cases h : a % b = 0
  · rw [if_pos h, if_pos (by rw [h, Nat.zero_mul])]
  · rw [if_neg h, if_neg]
    intro h'
    rcases Nat.mul_eq_zero.1 h' with h2 | h2
    · exact h h2
    · omega
theorem smod_dvd (t m : Int) : m ∣ t - smod t m := by
  unfold smod
  have h := Int.mul_ediv_add_emod t m
  split
  · exact ⟨t / m + 1, by rw [Int.mul_add, Int.mul_one]; omega⟩
  · exact ⟨t / m, by omega⟩
theorem vy_dvd (vx a m : Int) : m ∣ vx * a - vyOf vx a m := by
  unfold vyOf
  split
  · rename_i h
    rw [h, Int.zero_mul]
    exact ⟨-1, by omega⟩
  · exact smod_dvd _ _
theorem cert_H {k s i : Nat} {r : Nat × Nat} {c : Int × Int} {x x' P : Nat} (hk : k ≤ 10) (hs : 1 ≤ s) (hP : P = r.1 * 18446744073709551616 - r.2) (h : certC k s i r c = true) (hx : x = 2 ^ k * x') (hx0 : 0 < x) (hxw : x < W64) (hlo : k = 0 → 9223372036854775808 ≤ x) :
    (W64 < x * P % (W64 * W64 * 2 ^ s) ∧ x * P % (W64 * W64 * 2 ^ s) + W64 ≤ W64 * W64 * 2 ^ s) ∨ (x * tabN ((i : Int) - 348)) % (tabD ((i : Int) - 348) * (W64 * W64 * 2 ^ s)) = 0 := by
  have eM : W64 * W64 * 2 ^ s = 2 ^ k * 2 ^ (128 + s - k) := by
    rw [← Nat.pow_add, show k + (128 + s - k) = 128 + s by omega, Nat.pow_add]; rfl
  have eW : W64 = 2 ^ k * 2 ^ (64 - k) := by
    rw [← Nat.pow_add, show k + (64 - k) = 64 by omega]; rfl
  have eA : x * P = 2 ^ k * (x' * P) := by rw [hx, Nat.mul_assoc]
  rw [eM, eA, Nat.mul_mod_mul_left]
  have hx' : x' < 2 ^ (64 - k) := by
    rw [hx, eW] at hxw
    exact Nat.lt_of_mul_lt_mul_left hxw
  have hx0' : 0 < x' := by
    rcases Nat.eq_zero_or_pos x' with h | h
    · rw [h, Nat.mul_zero] at hx; omega
    · exact h
  unfold certC at h
  simp only at h
  rw [← hP] at h
  have hpk := Nat.two_pow_pos k
  have hm0 := Nat.two_pow_pos (128 + s - k)
  have hX0 := Nat.two_pow_pos (64 - k)
  have hmX : 2 ^ (64 - k) < 2 ^ (128 + s - k) := Nat.pow_lt_pow_right (by decide) (by omega)
  generalize hmd : 2 ^ (128 + s - k) = m at *
  generalize hXd : 2 ^ (64 - k) = X at *
  have hr : x' * P % m < m := Nat.mod_lt _ hm0
  by_cases hin : X < x' * P % m ∧ x' * P % m + X ≤ m
  · left
    rw [eW]
    constructor
    · exact Nat.mul_lt_mul_of_pos_left hin.1 hpk
    · rw [← Nat.mul_add]; exact Nat.mul_le_mul_left _ hin.2
  right
  rw [Bool.and_eq_true, Bool.and_eq_true, Bool.or_eq_true, Bool.or_eq_true, Bool.or_eq_true, Bool.and_eq_true, Bool.and_eq_true] at h
  obtain ⟨⟨hdet, bu⟩, h3⟩ := h
  simp only [decide_eq_true_eq] at hdet bu h3
  obtain ⟨y, hy, hyd⟩ : ∃ y : Int, y.natAbs < X + 1 ∧ (m : Int) ∣ (x' : Int) * (P : Int) - y := by
    have hd := Nat.div_add_mod (x' * P) m
    have hdI : (m : Int) * ((x' * P / m : Nat) : Int) + ((x' * P % m : Nat) : Int) = (x' : Int) * (P : Int) := by
      rw [← Int.natCast_mul, ← Int.natCast_mul, ← Int.natCast_add, hd]
    by_cases h1 : x' * P % m ≤ X
    · exact ⟨((x' * P % m : Nat) : Int), by omega, ⟨((x' * P / m : Nat) : Int), by omega⟩⟩
    · refine ⟨((x' * P % m : Nat) : Int) - (m : Int), by omega, ⟨((x' * P / m : Nat) : Int) + 1, ?_⟩⟩
      rw [Int.mul_add, Int.mul_one]; omega
  obtain ⟨j, e1, e2, e3⟩ := lat (m := (m : Int)) (a := (P : Int)) (X := (X : Int)) (Y := (X : Int) + 1) (x := (x' : Int)) (y := y) (by omega) (smod_dvd (c.1 * (P : Int)) (m : Int)) (vy_dvd c.2 (P : Int) (m : Int)) hyd hdet (by omega) (by omega) bu
  have hj : j ≠ 0 := by
    intro h0
    rw [h0, Int.zero_mul] at e1
    omega
  have hm1 : (m : Int) ≤ j.natAbs * (m : Int) := by
    have : (1 : Int) ≤ j.natAbs := by omega
    have := Int.mul_le_mul_of_nonneg_right this (show (0 : Int) ≤ (m : Int) by omega)
    omega
  rcases h3 with h3 | h3 | h3
  · exfalso; omega
  · have ex : x' = j.natAbs * c.1.natAbs := by
      have := congrArg Int.natAbs e1
      rw [Int.natAbs_mul] at this
      simpa using this
    rw [hx, ex, show 2 ^ k * (j.natAbs * c.1.natAbs) * tabN ((i : Int) - 348) = 2 ^ k * (j.natAbs * (c.1.natAbs * tabN ((i : Int) - 348))) by ac_rfl,
      show tabD ((i : Int) - 348) * (2 ^ k * m) = 2 ^ k * (tabD ((i : Int) - 348) * m) by ac_rfl, Nat.mul_mod_mul_left, Nat.mul_mod, h3, Nat.mul_zero, Nat.zero_mod, Nat.mul_zero]
  · exfalso
    obtain ⟨⟨hk0, h4⟩, h5⟩ := h3
    subst hk0
    have hlo := hlo rfl
    have hxx : x = x' := by rw [hx]; simp
    have ex : x' = j.natAbs * c.1.natAbs := by
      have := congrArg Int.natAbs e1
      rw [Int.natAbs_mul] at this
      simpa using this
    by_cases hj1 : j.natAbs = 1
    · rw [hj1, Nat.one_mul] at ex
      omega
    · have : (2 : Int) ≤ j.natAbs := by omega
      have := Int.mul_le_mul_of_nonneg_right this (show (0 : Int) ≤ (m : Int) by omega)
      omega
theorem H_mono {x P N D M T : Nat} (hD : 0 < D) (hx : x ≤ W64) (hM : 2 * W64 ≤ M) (hT : 0 < T) (m1 : x * N ≤ x * P * D) (m2 : x * P * D < x * N + x * D)
    (H : (W64 < x * P % M ∧ x * P % M + W64 ≤ M) ∨ (x * N) % (D * M) = 0) : (W64 < x * P % (M * T) ∧ x * P % (M * T) + W64 ≤ M * T) ∨ (x * N) % (D * (M * T)) = 0 := by
  have hmm : x * P % (M * T) = x * P % M + M * (x * P / M % T) := Nat.mod_mul
  have hk : x * P / M % T < T := Nat.mod_lt _ hT
  have hr : x * P % M < M := Nat.mod_lt _ (by rw [W64_eq] at hM; omega)
  have hMT : M * (x * P / M % T) + M ≤ M * T := by
    have := Nat.mul_le_mul_left M hk
    rw [Nat.mul_succ] at this
    exact this
  rcases H with ⟨h1, h2⟩ | h
  · left
    rw [hmm]
    omega
  · have hq := Nat.div_add_mod (x * P) M
    obtain ⟨u1, u2⟩ := unr_at (q := x * P / M) (r := x * P % M) hD (by omega) m1 m2 (by rw [Nat.mul_comm (x * P / M) M]; exact hq.symm) hr h
    unfold unr at u1
    rw [if_pos h] at u1
    by_cases hk0 : x * P / M % T = 0
    · right
      have e1 := Nat.div_add_mod (x * N) (D * M)
      rw [h, Nat.add_zero, u1] at e1
      have e2 := Nat.div_add_mod (x * P / M) T
      rw [hk0, Nat.add_zero] at e2
      rw [← e1, ← e2, show D * M * (T * (x * P / M / T)) = D * (M * T) * (x * P / M / T) by ac_rfl]
      exact Nat.mul_mod_right _ _
    · left
      rw [hmm]
      have : M * 1 ≤ M * (x * P / M % T) := Nat.mul_le_mul_left _ (by omega)
      rw [W64_eq] at *
      omega
theorem tabD_pos (p : Int) : 0 < tabD p := Nat.mul_pos (Nat.pow_pos (by decide)) (Nat.two_pow_pos _)
theorem usc_tab {k s0 s : Nat} {p : Int} {cs : List (Int × Int)} (hC : allC (certC k s0) 0 Pinned.pow10Rows cs = true) (hk : k ≤ 10) (hs0 : 1 ≤ s0) (hs : s0 ≤ s) (h1 : -348 ≤ p) (h2 : p ≤ 347) {x x' : Nat} (hx : x = 2 ^ k * x') (hx0 : 0 < x) (hxw : x < W64) (hlo : k = 0 → 9223372036854775808 ≤ x) :
    usc x (rowOf p).1 (rowOf p).2 s = unr (x * tabN p) (tabD p * (W64 * W64 * 2 ^ s)) := by
  have hr := row_of h1 h2
  obtain ⟨b1, b2, b3⟩ := row_b h1 h2
  obtain ⟨c1, hc1⟩ := allC_get _ _ _ _ _ _ rows_C hr
  obtain ⟨c2, hc2⟩ := allC_get _ _ _ _ _ _ hC hr
  have ei : (((0 + (p + 348).toNat : Nat) : Int)) - 348 = p := by omega
  generalize rowOf p = r at *
  unfold rowC at hc1
  rw [ei] at hc1
  rw [Bool.and_eq_true, Bool.and_eq_true] at hc1
  simp only [decide_eq_true_eq] at hc1
  obtain ⟨⟨n1, n2⟩, -⟩ := hc1
  have hH := cert_H hk hs0 rfl hc2 hx hx0 hxw hlo
  rw [ei] at hH
  have hP : r.1 * 18446744073709551616 - r.2 + r.2 = r.1 * W64 := by rw [W64_eq]; omega
  generalize r.1 * 18446744073709551616 - r.2 = P at *
  have m1 : x * tabN p ≤ x * P * tabD p := by rw [Nat.mul_assoc]; exact Nat.mul_le_mul_left _ n1
  have m2 : x * P * tabD p < x * tabN p + x * tabD p := by rw [Nat.mul_assoc, ← Nat.mul_add]; exact Nat.mul_lt_mul_of_pos_left n2 hx0
  have hM : 2 * W64 ≤ W64 * W64 * 2 ^ s0 := by
    have h3 : 1 ≤ 2 ^ s0 := Nat.two_pow_pos _
    have h4 : W64 * W64 * 1 ≤ W64 * W64 * 2 ^ s0 := Nat.mul_le_mul_left _ h3
    exact Nat.le_trans (by decide) h4
  have hT := H_mono (T := 2 ^ (s - s0)) (tabD_pos p) (Nat.le_of_lt hxw) hM (Nat.two_pow_pos _) m1 m2 hH
  have e : W64 * W64 * 2 ^ s0 * 2 ^ (s - s0) = W64 * W64 * 2 ^ s := by
    rw [Nat.mul_assoc, ← Nat.pow_add, show s0 + (s - s0) = s by omega]
  rw [e] at hT
  exact usc_unr hxw (by rw [W64_eq]; exact b2) (by rw [W64_eq]; exact b3) (by omega) (tabD_pos p) hP rfl n1 n2 hx0 hT
theorem tab_b {p : Int} (h1 : -348 ≤ p) (h2 : p ≤ 347) : 170141183460469231731687303715884105728 * tabD p ≤ tabN p ∧ tabN p ≤ 340116213421465348979261631549233168384 * tabD p := by
  obtain ⟨c1, hc1⟩ := allC_get _ _ _ _ _ _ rows_C (row_of h1 h2)
  have ei : (((0 + (p + 348).toNat : Nat) : Int)) - 348 = p := by omega
  unfold rowC at hc1
  rw [ei, Bool.and_eq_true, Bool.and_eq_true] at hc1
  simp only [decide_eq_true_eq, Bool.and_eq_true] at hc1
  exact hc1.2
/-- 10 to p times 2 to e as a fraction -/
def frN (p e : Int) : Nat := 10 ^ p.toNat * 2 ^ e.toNat
def frD (p e : Int) : Nat := 10 ^ (-p).toNat * 2 ^ (-e).toNat
theorem frN_pos (p e : Int) : 0 < frN p e := Nat.mul_pos (Nat.pow_pos (by decide)) (Nat.two_pow_pos _)
theorem frD_pos (p e : Int) : 0 < frD p e := Nat.mul_pos (Nat.pow_pos (by decide)) (Nat.two_pow_pos _)
theorem shuf1 (x A a B b : Nat) : x * (A * a) * (B * b) = x * (A * B * (a * b)) := by ac_rfl
theorem shuf2 (x A a B b c : Nat) : x * (A * a) * (B * b * c) = x * (A * B * (a * b * c)) := by ac_rfl
theorem unr_fr {p e : Int} {s : Nat} (hs : (s : Int) = -(e + tabL p + 3)) (x : Nat) : unr (x * tabN p) (tabD p * (W64 * W64 * 2 ^ s)) = unr (x * frN p (e + 2)) (frD p (e + 2)) := by
  have hp : 0 < tabD p * (W64 * W64 * 2 ^ s) := Nat.mul_pos (tabD_pos p) (Nat.mul_pos (by decide) (Nat.two_pow_pos _))
  rw [← unr_mul (frD_pos p (e + 2)), ← unr_mul (a := x * frN p (e + 2)) hp, Nat.mul_comm (frD p (e + 2))]
  congr 1
  have eW : W64 * W64 * 2 ^ s = 2 ^ (128 + s) := by rw [Nat.pow_add]; rfl
  rw [eW]
  unfold tabN tabD frN frD
  generalize tabL p = L at *
  rw [shuf1, shuf2, ← Nat.pow_add 2 (127 - L).toNat, ← Nat.pow_add 2 (e + 2).toNat, ← Nat.pow_add 2 ((e + 2).toNat + (L - 127).toNat)]
  have he : (127 - L).toNat + (-(e + 2)).toNat = (e + 2).toNat + (L - 127).toNat + (128 + s) := by omega
  rw [he]
/-- uscale where a number is read -/
theorem usc_R {p e : Int} {s x : Nat} (h1 : -348 ≤ p) (h2 : p ≤ 347) (hs : 8 ≤ s) (hse : (s : Int) = -(e + tabL p + 3)) (hx : 9223372036854775808 ≤ x) (hxw : x < 18446744073709551616) :
    usc x (rowOf p).1 (rowOf p).2 s = unr (x * frN p (e + 2)) (frD p (e + 2)) := by
  rw [usc_tab certs_R (by decide) (by decide) hs h1 h2 (x' := x) (by simp) (by omega) hxw (fun _ => hx), unr_fr hse]
/-- uscale where a number is written -/
theorem usc_W {p e : Int} {s x : Nat} (h1 : -348 ≤ p) (h2 : p ≤ 347) (hs : 5 ≤ s) (hse : (s : Int) = -(e + tabL p + 3)) (hx : x % 512 = 0) (hx0 : 0 < x) (hxw : x < 18446744073709551616) :
    usc x (rowOf p).1 (rowOf p).2 s = unr (x * frN p (e + 2)) (frD p (e + 2)) := by
  have e9 : x = 2 ^ 9 * (x / 512) := by
    have : (2 : Nat) ^ 9 = 512 := by decide
    rw [this]; omega
  rw [usc_tab certs_W (by decide) (by decide) hs h1 h2 e9 hx0 hxw (fun h => by cases h), unr_fr hse]
end Go.Proofs.YtbakbikilbaafaaGreatDoor
namespace F64
open Ieee

/-- what a rung (a word without its sign) is worth, in units of the least place -/
def man (r : Nat) : Nat := if r < 4503599627370496 then r else 4503599627370496 + r % 4503599627370496
def ex (r : Nat) : Nat := if r < 4503599627370496 then 0 else r / 4503599627370496 - 1
def V (r : Nat) : Nat := man r * 2 ^ ex r
def INF : Nat := 9218868437227405312
def TOP : Nat := 9223372036854775808
/-- the sign of a word, and its rung -/
def sgn (w : Nat) : Bool := w / 9223372036854775808 % 2 == 1
def rung (w : Nat) : Nat := w % 9223372036854775808
def wd (s : Bool) (r : Nat) : Nat := if s then 9223372036854775808 + r else r

theorem d_binade : double.binade = 4503599627370496 := by decide
theorem d_inf : double.infRung = 9218868437227405312 := by decide
theorem d_sw : double.signWeight = 9223372036854775808 := by decide
theorem d_least : double.leastPlace = -1074 := by decide
theorem d_frac : double.fractionBits = 52 := rfl
theorem d_word (s : Bool) (r : Nat) : double.word s r = wd s r := by
  unfold Format.word wd; rw [d_sw]

theorem wd_parts (w : Nat) (h : w < 18446744073709551616) : wd (sgn w) (rung w) = w := by
  unfold wd sgn rung
  by_cases hs : w / 9223372036854775808 % 2 == 1
  · rw [if_pos hs]; simp at hs; omega
  · rw [if_neg hs]; simp at hs; omega
theorem sgn_wd (s : Bool) (r : Nat) (h : r < 9223372036854775808) : sgn (wd s r) = s := by
  unfold sgn wd; cases s <;> simp <;> omega
theorem rung_wd (s : Bool) (r : Nat) (h : r < 9223372036854775808) : rung (wd s r) = r := by
  unfold rung wd; cases s <;> simp <;> omega
theorem rung_lt (w : Nat) : rung w < 9223372036854775808 := Nat.mod_lt _ (by decide)
theorem wd_lt (s : Bool) (r : Nat) (h : r < 9223372036854775808) : wd s r < 18446744073709551616 := by
  unfold wd; split <;> omega

def isNaN (w : Nat) : Bool := decide (9218868437227405312 < rung w)
def fin (w : Nat) : Bool := decide (rung w < 9218868437227405312)

theorem read_fin {w : Nat} (h : fin w = true) : double.read w = .number (sgn w) (man (rung w)) (-1074 + (ex (rung w) : Int)) := by
  have h' : rung w < 9218868437227405312 := of_decide_eq_true h
  unfold Format.read
  simp only [d_sw, d_binade, d_inf, d_least]
  unfold rung at h'
  unfold man ex sgn rung
  by_cases h1 : w % 9223372036854775808 < 4503599627370496
  · simp only [if_pos h1]; simp
  · simp only [if_neg h1, if_pos h']

theorem read_inf {w : Nat} (h : rung w = 9218868437227405312) : double.read w = .infinity (sgn w) := by
  unfold Format.read
  simp only [d_sw, d_binade, d_inf, d_least]
  unfold rung at h
  unfold sgn
  rw [if_neg (by omega), if_neg (by omega), if_pos h]

theorem read_nan {w : Nat} (h : isNaN w = true) : ∃ f, double.read w = .nan (sgn w) f := by
  have h' : 9218868437227405312 < rung w := of_decide_eq_true h
  refine ⟨w % 9223372036854775808 - 9218868437227405312, ?_⟩
  unfold Format.read
  simp only [d_sw, d_binade, d_inf, d_least]
  unfold rung at h'
  unfold sgn
  rw [if_neg (by omega), if_neg (by omega), if_neg (by omega)]

theorem man_lt (r : Nat) : man r < 9007199254740992 := by
  unfold man; split
  · omega
  · have := Nat.mod_lt r (show 0 < 4503599627370496 by decide); omega
theorem man_pos {r : Nat} (h : 0 < r) : 0 < man r := by unfold man; split <;> omega
theorem V_pos {r : Nat} (h : 0 < r) : 0 < V r := Nat.mul_pos (man_pos h) (Nat.two_pow_pos _)
theorem V_zero : V 0 = 0 := by decide

theorem V_succ (r : Nat) : V r < V (r + 1) := by
  unfold V man ex
  by_cases h1 : r + 1 < 4503599627370496
  · rw [if_pos (by omega), if_pos (by omega), if_pos h1, if_pos h1]; omega
  · rw [if_neg h1, if_neg h1]
    by_cases h2 : r < 4503599627370496
    · have hr : r = 4503599627370495 := by omega
      subst hr; decide
    · rw [if_neg h2, if_neg h2]
      by_cases h3 : r % 4503599627370496 + 1 < 4503599627370496
      · have e1 : (r + 1) % 4503599627370496 = r % 4503599627370496 + 1 := by omega
        have e2 : (r + 1) / 4503599627370496 = r / 4503599627370496 := by omega
        rw [e1, e2]
        exact Nat.mul_lt_mul_of_pos_right (by omega) (Nat.two_pow_pos _)
      · have e1 : (r + 1) % 4503599627370496 = 0 := by omega
        have e2 : (r + 1) / 4503599627370496 = r / 4503599627370496 + 1 := by omega
        rw [e1, e2]
        obtain ⟨q, hq⟩ : ∃ q, r / 4503599627370496 = q + 1 := ⟨r / 4503599627370496 - 1, by omega⟩
        rw [hq]
        simp only [Nat.add_sub_cancel, Nat.pow_succ]
        have hp := Nat.two_pow_pos q
        generalize 2 ^ q = p at *
        have : r % 4503599627370496 = 4503599627370495 := by omega
        rw [this]; omega

theorem V_lt {r s : Nat} (h : r < s) : V r < V s := by
  induction s with
  | zero => omega
  | succ s ih =>
    rcases Nat.lt_or_ge r s with h1 | h1
    · exact Nat.lt_trans (ih h1) (V_succ s)
    · have : r = s := by omega
      subst this; exact V_succ r
theorem V_le {r s : Nat} (h : r ≤ s) : V r ≤ V s := by
  rcases Nat.lt_or_ge r s with h1 | h1
  · exact Nat.le_of_lt (V_lt h1)
  · have : r = s := by omega
    subst this; exact Nat.le_refl _
theorem V_lt_iff {r s : Nat} : V r < V s ↔ r < s := by
  constructor
  · intro h; rcases Nat.lt_or_ge r s with h1 | h1
    · exact h1
    · have := V_le h1; omega
  · exact V_lt
theorem V_inj {r s : Nat} (h : V r = V s) : r = s := by
  rcases Nat.lt_trichotomy r s with h1 | h1 | h1
  · have := V_lt h1; omega
  · exact h1
  · have := V_lt h1; omega
theorem V_le_iff {r s : Nat} : V r ≤ V s ↔ r ≤ s := by
  constructor
  · intro h; rcases Nat.lt_or_ge s r with h1 | h1
    · have := V_lt h1; omega
    · exact h1
  · exact V_le

/-- cutting off zeros -/
theorem cut_exact (s : Bool) (M d : Nat) : Toward.even.cut s (M <<< d) d = M := by
  unfold Toward.cut
  by_cases h0 : M = 0
  · subst h0; simp [Nat.zero_shiftLeft]
  · have hp : (1 : Nat) <<< d = 2 ^ d := by simp [Nat.shiftLeft_eq]
    have hlog : d ≤ (M <<< d).log2 := by
      rw [Nat.le_log2 (by rw [Nat.shiftLeft_eq]; exact Nat.ne_of_gt (Nat.mul_pos (by omega) (Nat.two_pow_pos _)))]
      rw [Nat.shiftLeft_eq]
      exact Nat.le_mul_of_pos_left _ (by omega)
    have hm : min d ((M <<< d).log2 + 2) = d := by omega
    rw [hm, hp, Nat.shiftLeft_eq]
    simp [Nat.mul_div_cancel _ (Nat.two_pow_pos d)]

theorem log2_mul_pow (m a : Nat) (h : m ≠ 0) : (m * 2 ^ a).log2 = m.log2 + a := by
  rw [Nat.log2_eq_iff (Nat.ne_of_gt (Nat.mul_pos (by omega) (Nat.two_pow_pos _)))]
  have h1 := Nat.log2_self_le h
  have h2 := @Nat.lt_log2_self m
  constructor
  · rw [Nat.pow_add]; exact Nat.mul_le_mul_right _ h1
  · rw [show m.log2 + a + 1 = m.log2 + 1 + a by omega, Nat.pow_add]
    exact Nat.mul_lt_mul_of_pos_right h2 (Nat.two_pow_pos _)

theorem man_log2 {r : Nat} (h : 4503599627370496 ≤ r) : (man r).log2 = 52 := by
  have h1 := man_lt r
  have h2 : 4503599627370496 ≤ man r := by unfold man; rw [if_neg (by omega)]; omega
  rw [Nat.log2_eq_iff (by omega)]
  omega

/-- WRITING A NUMBER THAT A WORD STANDS FOR, however it is given -/
theorem nearest_exact (s : Bool) (mag : Nat) (place : Int) (r : Nat) (hr : r < 9218868437227405312)
    (h : mag * 2 ^ (place + 1074).toNat = V r * 2 ^ (-1074 - place).toNat) : double.nearest s mag place = wd s r := by
  unfold Format.nearest
  by_cases hm : mag = 0
  · rw [if_pos hm]
    rw [hm, Nat.zero_mul] at h
    have hv : V r = 0 := by
      have := Nat.two_pow_pos (-1074 - place).toNat
      rcases Nat.eq_zero_or_pos (V r) with h1 | h1
      · exact h1
      · have := Nat.mul_pos h1 this; omega
    have : r = 0 := by
      rcases Nat.eq_zero_or_pos r with h1 | h1
      · exact h1
      · have := V_pos h1; omega
    rw [this, d_word]
  · rw [if_neg hm]
    simp only [d_least, d_frac, d_binade, d_inf, d_word]
    have hr0 : r ≠ 0 := by
      intro e; rw [e, V_zero, Nat.zero_mul] at h
      have := Nat.mul_pos (Nat.pos_of_ne_zero hm) (Nat.two_pow_pos (place + 1074).toNat); omega
    have hman := man_pos (Nat.pos_of_ne_zero hr0)
    unfold V at h
    rw [Nat.mul_assoc, ← Nat.pow_add] at h
    have hl := congrArg Nat.log2 h
    rw [log2_mul_pow _ _ hm, log2_mul_pow _ _ (by omega)] at hl
    -- the place of the last digit
    have hlast : max (place + (mag.log2 : Int) - (52 : Nat)) (-1074) = -1074 + (ex r : Int) := by
      by_cases hn : 4503599627370496 ≤ r
      · rw [man_log2 hn] at hl; omega
      · have h1 : (man r).log2 ≤ 51 := by
          have : man r < 2 ^ 52 := by unfold man; rw [if_pos (by omega)]; omega
          have := (Nat.log2_lt (by omega)).2 this
          omega
        have h2 : ex r = 0 := by unfold ex; rw [if_pos (by omega)]
        rw [h2] at hl ⊢; omega
    rw [hlast]
    have hk : Toward.even.cut s (mag <<< (place - (-1074 + (ex r : Int))).toNat) ((-1074 + (ex r : Int)) - place).toNat = man r := by
      have : mag <<< (place - (-1074 + (ex r : Int))).toNat = man r <<< ((-1074 + (ex r : Int)) - place).toNat := by
        rw [Nat.shiftLeft_eq, Nat.shiftLeft_eq]
        rcases Int.le_total place (-1074 + (ex r : Int)) with hp | hp
        · have e1 : (place - (-1074 + (ex r : Int))).toNat = 0 := by omega
          rw [e1]
          -- multiply both sides
          have hpos := Nat.two_pow_pos (place + 1074).toNat
          apply Nat.eq_of_mul_eq_mul_right hpos
          rw [Nat.pow_zero, Nat.mul_one, h, Nat.mul_assoc, ← Nat.pow_add]
          congr 2; omega
        · have e1 : ((-1074 + (ex r : Int)) - place).toNat = 0 := by omega
          rw [e1]
          have e2 : (-1074 - place).toNat = 0 := by omega
          have e3 : (place + 1074).toNat = (place - (-1074 + (ex r : Int))).toNat + ex r := by omega
          rw [e2, e3, Nat.add_zero, Nat.pow_add, ← Nat.mul_assoc] at h
          have := Nat.eq_of_mul_eq_mul_right (Nat.two_pow_pos (ex r)) h
          rw [this, Nat.pow_zero, Nat.mul_one]
      rw [this, cut_exact]
    rw [hk]
    have e4 : ((-1074 + (ex r : Int)) - -1074).toNat = ex r := by omega
    rw [e4]
    have : ex r * 4503599627370496 + man r = r := by
      unfold ex man
      split
      · rw [Nat.zero_mul, Nat.zero_add]
      · omega
    rw [this]
    exact congrArg (wd s) (Nat.min_eq_left (Nat.le_of_lt hr))

/-- what a finite word is worth, with its sign, in units of the least place -/
def SV (w : Nat) : Int := if sgn w then -(V (rung w) : Int) else (V (rung w) : Int)

theorem signed_scale (s : Bool) (m up c : Nat) : signed s m up * (2 ^ c : Nat) = if s then -((m * 2 ^ (up + c) : Nat) : Int) else ((m * 2 ^ (up + c) : Nat) : Int) := by
  unfold signed
  rw [Nat.shiftLeft_eq, Nat.pow_add, ← Nat.mul_assoc]
  cases s
  · simp [Int.natCast_mul]
  · simp [Int.natCast_mul, Int.neg_mul]

theorem signed_SV {w : Nat} {c : Nat} (hc : c ≤ ex (rung w)) : signed (sgn w) (man (rung w)) (ex (rung w) - c) * (2 ^ c : Nat) = SV w := by
  rw [signed_scale, Nat.sub_add_cancel hc]; rfl

theorem compare_scale (a b : Int) (k : Nat) (hk : 0 < k) : compare (a * k) (b * k) = compare a b := by
  have hk' : (0 : Int) < (k : Int) := by omega
  have h1 : (a * k < b * k) ↔ a < b := ⟨fun h => Int.lt_of_mul_lt_mul_right h (Int.le_of_lt hk'), fun h => Int.mul_lt_mul_of_pos_right h hk'⟩
  have h2 : (a * k = b * k) ↔ a = b := ⟨fun h => Int.eq_of_mul_eq_mul_right (by omega) h, fun h => by rw [h]⟩
  simp only [compare, compareOfLessAndEq, h1, h2]

theorem order_fin {x y : Nat} (hx : fin x = true) (hy : fin y = true) : double.order x y = some (compare (SV x) (SV y)) := by
  unfold Format.order
  rw [read_fin hx, read_fin hy]
  simp only [Datum.order]
  generalize hc : min (ex (rung x)) (ex (rung y)) = c
  have h1 : (-1074 + (ex (rung x) : Int) - min (-1074 + (ex (rung x) : Int)) (-1074 + (ex (rung y) : Int))).toNat = ex (rung x) - c := by omega
  have h2 : (-1074 + (ex (rung y) : Int) - min (-1074 + (ex (rung x) : Int)) (-1074 + (ex (rung y) : Int))).toNat = ex (rung y) - c := by omega
  rw [h1, h2, ← compare_scale _ _ (2 ^ c) (Nat.two_pow_pos c), signed_SV (by omega), signed_SV (by omega)]

theorem natAbs_scale (a : Int) (k : Nat) : (a * (k : Int)).natAbs = a.natAbs * k := by
  rw [Int.natAbs_mul]; rfl

/-- the sign of a sum -/
def sumSgn (s t : Bool) (total : Int) : Bool := if total = 0 then s && t else decide (total < 0)

theorem sum_exact (s t : Bool) (m n a b : Nat) (r : Nat) (hr : r < 9218868437227405312)
    (h : ((if s then -((m * 2 ^ a : Nat) : Int) else ((m * 2 ^ a : Nat) : Int)) + (if t then -((n * 2 ^ b : Nat) : Int) else ((n * 2 ^ b : Nat) : Int))).natAbs = V r) :
    ((Datum.number s m (-1074 + (a : Int))).sum (.number t n (-1074 + (b : Int)))).map double.write =
      some (wd (sumSgn s t ((if s then -((m * 2 ^ a : Nat) : Int) else ((m * 2 ^ a : Nat) : Int)) + (if t then -((n * 2 ^ b : Nat) : Int) else ((n * 2 ^ b : Nat) : Int)))) r) := by
  simp only [Datum.sum, Option.map_some]
  generalize hc : min a b = c
  have h1 : (-1074 + (a : Int) - min (-1074 + (a : Int)) (-1074 + (b : Int))).toNat = a - c := by omega
  have h2 : (-1074 + (b : Int) - min (-1074 + (a : Int)) (-1074 + (b : Int))).toNat = b - c := by omega
  have h3 : min (-1074 + (a : Int)) (-1074 + (b : Int)) = -1074 + (c : Int) := by omega
  rw [h1, h2, h3]
  have ea := signed_scale s m (a - c) c
  have eb := signed_scale t n (b - c) c
  rw [Nat.sub_add_cancel (by omega)] at ea eb
  rw [← ea, ← eb, ← Int.add_mul] at h ⊢
  generalize signed s m (a - c) + signed t n (b - c) = total at *
  have hp : (0 : Int) < (2 ^ c : Nat) := by have := Nat.two_pow_pos c; omega
  have z : total * (2 ^ c : Nat) = 0 ↔ total = 0 := by
    constructor
    · intro e; rcases Int.mul_eq_zero.1 e with e | e
      · exact e
      · omega
    · intro e; rw [e, Int.zero_mul]
  have n : total * (2 ^ c : Nat) < 0 ↔ total < 0 := by
    constructor
    · intro e; rcases Int.lt_or_le total 0 with e1 | e1
      · exact e1
      · have := Int.mul_nonneg e1 (Int.le_of_lt hp); omega
    · intro e; exact Int.mul_neg_of_neg_of_pos e hp
  rw [natAbs_scale] at h
  have hs : (if total = 0 then s && t else decide (total < 0)) = sumSgn s t (total * (2 ^ c : Nat)) := by
    unfold sumSgn
    simp only [z, n]
  rw [← hs]
  simp only [Format.write]
  congr 1
  apply nearest_exact _ _ _ _ hr
  have e1 : (-1074 + (c : Int) + 1074).toNat = c := by omega
  have e2 : (-1074 - (-1074 + (c : Int))).toNat = 0 := by omega
  rw [e1, e2, h, Nat.pow_zero, Nat.mul_one]

theorem add_exact {x y r : Nat} (hx : fin x = true) (hy : fin y = true) (hr : r < 9218868437227405312) (h : (SV x + SV y).natAbs = V r) :
    double.add x y = some (wd (sumSgn (sgn x) (sgn y) (SV x + SV y)) r) := by
  unfold Format.add
  rw [read_fin hx, read_fin hy]
  exact sum_exact _ _ _ _ _ _ r hr h

theorem neg_ite (t : Bool) (n : Int) : (if (!t) = true then -n else n) = -(if t = true then -n else n) := by cases t <;> simp

theorem sub_exact {x y r : Nat} (hx : fin x = true) (hy : fin y = true) (hr : r < 9218868437227405312) (h : (SV x - SV y).natAbs = V r) :
    double.sub x y = some (wd (sumSgn (sgn x) (!sgn y) (SV x - SV y)) r) := by
  unfold Format.sub
  rw [read_fin hx, read_fin hy]
  simp only [Datum.opposite]
  have := sum_exact (sgn x) (!sgn y) (man (rung x)) (man (rung y)) (ex (rung x)) (ex (rung y)) r hr
  rw [neg_ite] at this
  exact this h

/-- 1, in units of the least place -/
def PL : Nat := 1074
theorem PL_eq : PL = 1074 := rfl
def U : Nat := 2 ^ PL
theorem U_pos : 0 < U := Nat.two_pow_pos _
theorem U_split (a : Nat) (h : a ≤ 1074) : U = 2 ^ (1074 - a) * 2 ^ a := by
  unfold U; rw [← Nat.pow_add, PL_eq]; congr 1; omega
theorem U_up (a : Nat) (h : 1074 ≤ a) : (2 : Nat) ^ a = 2 ^ (a - 1074) * U := by
  unfold U; rw [← Nat.pow_add, PL_eq]; congr 1; omega

theorem mul_exact {x y r : Nat} (hx : fin x = true) (hy : fin y = true) (hr : r < 9218868437227405312) (h : V (rung x) * V (rung y) = V r * U) :
    double.mul x y = some (wd (sgn x ^^ sgn y) r) := by
  unfold Format.mul
  rw [read_fin hx, read_fin hy]
  simp only [Datum.product, Option.map_some, Format.write]
  congr 1
  apply nearest_exact _ _ _ _ hr
  unfold V at h
  rw [Nat.mul_mul_mul_comm, ← Nat.pow_add] at h
  generalize ex (rung x) = a at *
  generalize ex (rung y) = b at *
  generalize man (rung x) * man (rung y) = m at *
  unfold V
  generalize man r * 2 ^ ex r = v at *
  by_cases hab : 1074 ≤ a + b
  · have e1 : (-1074 + (a : Int) + (-1074 + (b : Int)) + 1074).toNat = a + b - 1074 := by omega
    have e2 : (-1074 - (-1074 + (a : Int) + (-1074 + (b : Int)))).toNat = 0 := by omega
    rw [e1, e2, Nat.pow_zero, Nat.mul_one]
    rw [U_up _ hab, ← Nat.mul_assoc] at h
    exact Nat.eq_of_mul_eq_mul_right U_pos h
  · have e1 : (-1074 + (a : Int) + (-1074 + (b : Int)) + 1074).toNat = 0 := by omega
    have e2 : (-1074 - (-1074 + (a : Int) + (-1074 + (b : Int)))).toNat = 1074 - (a + b) := by omega
    rw [e1, e2, Nat.pow_zero, Nat.mul_one]
    rw [U_split (a + b) (by omega), ← Nat.mul_assoc] at h
    exact Nat.eq_of_mul_eq_mul_right (Nat.two_pow_pos (a + b)) h

/-- which numbers there are words for -/
theorem rep (e : Nat) : ∀ m : Nat, m < 9007199254740992 → e ≤ 2045 → ∃ r, r < 9218868437227405312 ∧ V r = m * 2 ^ e := by
  induction e with
  | zero =>
    intro m hm _
    refine ⟨m, by omega, ?_⟩
    unfold V man ex
    by_cases h : m < 4503599627370496
    · simp [h]
    · rw [if_neg h, if_neg h]
      have h1 : m / 4503599627370496 - 1 = 0 := by omega
      have h2 : 4503599627370496 + m % 4503599627370496 = m := by omega
      rw [h1, h2]
  | succ e ih =>
    intro m hm he
    by_cases h : m < 4503599627370496
    · obtain ⟨r, hr, hv⟩ := ih (2 * m) (by omega) (by omega)
      refine ⟨r, hr, ?_⟩
      rw [hv, Nat.pow_succ, Nat.mul_comm 2 m, Nat.mul_assoc, Nat.mul_comm 2]
    · refine ⟨(e + 2) * 4503599627370496 + (m - 4503599627370496), by omega, ?_⟩
      unfold V man ex
      rw [if_neg (by omega), if_neg (by omega)]
      have h1 : ((e + 2) * 4503599627370496 + (m - 4503599627370496)) % 4503599627370496 = m - 4503599627370496 := by omega
      have h2 : ((e + 2) * 4503599627370496 + (m - 4503599627370496)) / 4503599627370496 = e + 2 := by omega
      rw [h1, h2, show 4503599627370496 + (m - 4503599627370496) = m by omega, show e + 2 - 1 = e + 1 by omega]

/-- cutting towards nought -/
theorem cut_zero (s : Bool) (n d : Nat) : Toward.zero.cut s n d = n / 2 ^ d := by
  unfold Toward.cut
  simp only [Bool.toNat_false, Nat.add_zero, Nat.shiftLeft_eq, Nat.one_mul]
  rcases Nat.le_total d (n.log2 + 2) with h | h
  · rw [Nat.min_eq_left h]
  · rw [Nat.min_eq_right h]
    have h1 : n < 2 ^ (n.log2 + 1) := Nat.lt_log2_self
    have h2 : 2 ^ (n.log2 + 1) ≤ 2 ^ (n.log2 + 2) := Nat.pow_le_pow_right (by decide) (by omega)
    have h3 : 2 ^ (n.log2 + 2) ≤ 2 ^ d := Nat.pow_le_pow_right (by decide) h
    rw [Nat.div_eq_of_lt (by omega), Nat.div_eq_of_lt (by omega)]

theorem whole_of (m a : Nat) : m <<< (-1074 + (a : Int)).toNat / 2 ^ (-(-1074 + (a : Int))).toNat = m * 2 ^ a / U := by
  rw [Nat.shiftLeft_eq]
  by_cases h : 1074 ≤ a
  · have e1 : (-1074 + (a : Int)).toNat = a - 1074 := by omega
    have e2 : (-(-1074 + (a : Int))).toNat = 0 := by omega
    rw [e1, e2, U_up a h, Nat.pow_zero, Nat.div_one, ← Nat.mul_assoc, Nat.mul_div_cancel _ U_pos]
  · have e1 : (-1074 + (a : Int)).toNat = 0 := by omega
    have e2 : (-(-1074 + (a : Int))).toNat = 1074 - a := by omega
    rw [e1, e2, U_split a (by omega), Nat.pow_zero, Nat.mul_one, Nat.mul_div_mul_right _ _ (Nat.two_pow_pos a)]

/-- a finite word cut off to a whole number -/
theorem integral_fin {w : Nat} (h : fin w = true) : (double.read w).integral .zero = .number (sgn w) (V (rung w) / U) 0 := by
  rw [read_fin h]
  simp only [Datum.integral, cut_zero, whole_of]
  rfl

theorem toInt_fin {w : Nat} (h : fin w = true) : (double.read w).toInt .zero = some (if sgn w then -((V (rung w) / U : Nat) : Int) else ((V (rung w) / U : Nat) : Int)) := by
  unfold Datum.toInt
  rw [integral_fin h]
  simp [signed]

/-- a whole number that there is a word for -/
theorem write_whole (s : Bool) (K r : Nat) (hr : r < 9218868437227405312) (h : V r = K * U) : double.write (.number s K 0) = wd s r := by
  simp only [Format.write]
  apply nearest_exact _ _ _ _ hr
  have e1 : ((0 : Int) + 1074).toNat = PL := rfl
  have e2 : (-1074 - (0 : Int)).toNat = 0 := rfl
  rw [h, e1, e2, Nat.pow_zero, Nat.mul_one]; rfl

/-- the whole part of a word has a word -/
theorem whole_rep {r : Nat} (h : r < 9218868437227405312) : ∃ t, t < 9218868437227405312 ∧ V t = V r / U * U := by
  by_cases ha : 1074 ≤ ex r
  · refine ⟨r, h, ?_⟩
    have : V r = man r * 2 ^ (ex r - 1074) * U := by
      unfold V; rw [U_up _ ha, Nat.mul_assoc]
    rw [this, Nat.mul_div_cancel _ U_pos]
  · have hk : V r / U < 9007199254740992 := by
      have h1 := man_lt r
      have : V r < 9007199254740992 * U := by
        unfold V U
        exact Nat.mul_lt_mul_of_lt_of_le h1 (Nat.pow_le_pow_right (by decide) (by rw [PL_eq]; omega)) (Nat.two_pow_pos _)
      exact (Nat.div_lt_iff_lt_mul U_pos).2 this
    obtain ⟨t, ht, hv⟩ := rep PL _ hk (by rw [PL_eq]; omega)
    exact ⟨t, ht, hv⟩
end F64
namespace Go.Proofs.YtbakbikilbaafaaGreatDoor
open F64 Ieee
set_option linter.unusedVariables false
set_option maxHeartbeats 1000000
set_option maxRecDepth 100000

/-- the rung r is nearest to a / b, in units of the least place; between two the even one -/
structure Near (r a b : Nat) : Prop where
  le : r ≤ 9218868437227405312
  up : r = 9218868437227405312 ∨ 2 * a < b * (V r + V (r + 1)) ∨ (2 * a = b * (V r + V (r + 1)) ∧ r % 2 = 0)
  dn : r = 0 ∨ b * (V (r - 1) + V r) < 2 * a ∨ (b * (V (r - 1) + V r) = 2 * a ∧ r % 2 = 0)
theorem near_mono {r r' a b a' b' : Nat} (h : Near r a b) (h' : Near r' a' b') (hb : 0 < b) (hb' : 0 < b') (hle : a * b' ≤ a' * b) : r ≤ r' := by
  rcases Nat.lt_or_ge r' r with hlt | hge
  · exfalso
    have u := h'.up
    have d := h.dn
    have l1 := h.le
    rcases u with u | u
    · omega
    rcases d with d | d
    · omega
    have v1 : V r' ≤ V (r - 1) := V_le (by omega)
    have v2 : V (r' + 1) ≤ V r := V_le (by omega)
    -- b b' (V (r-1) + V r) <= 2 a b' <= 2 a' b <= b b' (V r' + V (r'+1))
    have hV : V r' + V (r' + 1) ≤ V (r - 1) + V r := by omega
    have m1 : b' * b * (V r' + V (r' + 1)) ≤ b' * b * (V (r - 1) + V r) := Nat.mul_le_mul_left _ hV
    have m2 : 2 * a * b' ≤ 2 * a' * b := by rw [Nat.mul_assoc, Nat.mul_assoc]; omega
    have c1 : b * (V (r - 1) + V r) * b' = b' * b * (V (r - 1) + V r) := by ac_rfl
    have c2 : b' * (V r' + V (r' + 1)) * b = b' * b * (V r' + V (r' + 1)) := by ac_rfl
    have hbb : 0 < b' * b := Nat.mul_pos hb' hb
    rcases d with d | ⟨d, d2⟩
    · have d3 := Nat.mul_lt_mul_of_pos_right d hb'
      rcases u with u | ⟨u, u2⟩
      · have u3 := Nat.mul_lt_mul_of_pos_right u hb
        omega
      · have u3 : 2 * a' * b = b' * (V r' + V (r' + 1)) * b := by rw [u]
        omega
    · have d3 : b * (V (r - 1) + V r) * b' = 2 * a * b' := by rw [d]
      rcases u with u | ⟨u, u2⟩
      · have u3 := Nat.mul_lt_mul_of_pos_right u hb
        omega
      · have u3 : 2 * a' * b = b' * (V r' + V (r' + 1)) * b := by rw [u]
        have e : V (r - 1) + V r = V r' + V (r' + 1) := by
          have : b' * b * (V (r - 1) + V r) = b' * b * (V r' + V (r' + 1)) := by omega
          exact Nat.eq_of_mul_eq_mul_left hbb this
        have : r' = r - 1 := V_inj (by omega)
        omega
  · exact hge
theorem near_one {r r' a b a' b' : Nat} (h : Near r a b) (h' : Near r' a' b') (hb : 0 < b) (hb' : 0 < b') (he : a * b' = a' * b) : r = r' :=
  Nat.le_antisymm (near_mono h h' hb hb' (by omega)) (near_mono h' h hb' hb (by omega))
theorem near_scale {r a b c : Nat} (hc : 0 < c) (h : Near r a b) : Near r (a * c) (b * c) := by
  obtain ⟨h1, h2, h3⟩ := h
  have e : ∀ x, b * c * x = b * x * c := fun x => by ac_rfl
  have e2 : 2 * (a * c) = 2 * a * c := by ac_rfl
  refine ⟨h1, ?_, ?_⟩
  · rw [e, e2]
    rcases h2 with h | h | ⟨h, g⟩
    · exact .inl h
    · exact .inr (.inl (Nat.mul_lt_mul_of_pos_right h hc))
    · exact .inr (.inr ⟨by rw [h], g⟩)
  · rw [e, e2]
    rcases h3 with h | h | ⟨h, g⟩
    · exact .inl h
    · exact .inr (.inl (Nat.mul_lt_mul_of_pos_right h hc))
    · exact .inr (.inr ⟨by rw [h], g⟩)
theorem near_unscale {r a b c : Nat} (hc : 0 < c) (h : Near r (a * c) (b * c)) : Near r a b := by
  obtain ⟨h1, h2, h3⟩ := h
  have e : ∀ x, b * c * x = b * x * c := fun x => by ac_rfl
  have e2 : 2 * (a * c) = 2 * a * c := by ac_rfl
  rw [e, e2] at h2 h3
  refine ⟨h1, ?_, ?_⟩
  · rcases h2 with h | h | ⟨h, g⟩
    · exact .inl h
    · exact .inr (.inl (Nat.lt_of_mul_lt_mul_right h))
    · exact .inr (.inr ⟨Nat.eq_of_mul_eq_mul_right hc h, g⟩)
  · rcases h3 with h | h | ⟨h, g⟩
    · exact .inl h
    · exact .inr (.inl (Nat.lt_of_mul_lt_mul_right h))
    · exact .inr (.inr ⟨Nat.eq_of_mul_eq_mul_right hc h, g⟩)
/-- the same fraction, otherwise written -/
theorem near_eq {r a b a' b' : Nat} (h : Near r a b) (hb : 0 < b) (hb' : 0 < b') (he : a * b' = a' * b) : Near r a' b' := by
  apply near_unscale hb
  have := near_scale hb' h
  rw [he, Nat.mul_comm b b'] at this
  exact this
theorem near_V {r b : Nat} (hr : r < 9218868437227405312) (hb : 0 < b) : Near r (V r * b) b := by
  have v1 := V_succ r
  refine ⟨by omega, .inr (.inl ?_), ?_⟩
  · have := Nat.mul_lt_mul_of_pos_left v1 hb
    rw [Nat.mul_add]
    have e : V r * b = b * V r := Nat.mul_comm _ _
    omega
  · by_cases h0 : r = 0
    · exact .inl h0
    · have v2 := V_succ (r - 1)
      rw [show r - 1 + 1 = r by omega] at v2
      have := Nat.mul_lt_mul_of_pos_left v2 hb
      refine .inr (.inl ?_)
      rw [Nat.mul_add]
      have e : V r * b = b * V r := Nat.mul_comm _ _
      omega
/-- what the rung of E and K is worth -/
theorem V_EK {E K : Nat} (hK : K ≤ 9007199254740992) (h : E = 0 ∨ 4503599627370496 ≤ K) : V (E * 4503599627370496 + K) = K * 2 ^ E := by
  have key : ∀ E K, K < 9007199254740992 → (E = 0 ∨ 4503599627370496 ≤ K) → V (E * 4503599627370496 + K) = K * 2 ^ E := by
    intro E K hK h
    unfold V man ex
    by_cases h0 : E * 4503599627370496 + K < 4503599627370496
    · have : E = 0 := by omega
      subst this
      simp only [Nat.zero_mul, Nat.zero_add] at h0
      rw [if_pos (by omega), if_pos (by omega)]
      simp
    · rw [if_neg h0, if_neg h0]
      have hK2 : 4503599627370496 ≤ K := by omega
      have e1 : 4503599627370496 + (E * 4503599627370496 + K) % 4503599627370496 = K := by omega
      have e2 : (E * 4503599627370496 + K) / 4503599627370496 - 1 = E := by omega
      rw [e1, e2]
  rcases Nat.lt_or_ge K 9007199254740992 with h1 | h1
  · exact key E K h1 h
  · have : K = 9007199254740992 := by omega
    subst this
    rw [show E * 4503599627370496 + 9007199254740992 = (E + 1) * 4503599627370496 + 4503599627370496 by omega, key (E + 1) 4503599627370496 (by decide) (.inr (Nat.le_refl _)), Nat.pow_succ]
    omega
def EI : Nat := 2046
theorem EI_eq : EI = 2046 := rfl
theorem V_inf : V 9218868437227405312 = 4503599627370496 * 2 ^ EI := by
  have := V_EK (E := EI) (K := 4503599627370496) (by decide) (.inr (by decide))
  rw [← this]
  rfl
/-- K is a / (b 2^E) rounded, ties to the even one -/
def Half (K a B : Nat) : Prop := (2 * a < B * (2 * K + 1) ∨ (2 * a = B * (2 * K + 1) ∧ K % 2 = 0)) ∧ (K = 0 ∨ B * (2 * K - 1) < 2 * a ∨ (B * (2 * K - 1) = 2 * a ∧ K % 2 = 0))
theorem near_round {a b E K : Nat} (hb : 0 < b) (hH : Half K a (b * 2 ^ E)) (hE : E = 0 ∨ b * 2 ^ E * 4503599627370496 ≤ a) (hK : K ≤ 9007199254740992) : Near (min (E * 4503599627370496 + K) 9218868437227405312) a b := by
  obtain ⟨h1, h2⟩ := hH
  have hB : 0 < b * 2 ^ E := Nat.mul_pos hb (Nat.two_pow_pos _)
  have hK2 : E = 0 ∨ 4503599627370496 ≤ K := by
    rcases hE with h | h
    · exact .inl h
    · right
      rcases Nat.lt_or_ge K 4503599627370496 with h3 | h3
      · exfalso
        have : b * 2 ^ E * (2 * K + 1) < b * 2 ^ E * (2 * 4503599627370496) := Nat.mul_lt_mul_of_pos_left (by omega) hB
        have e : b * 2 ^ E * (2 * 4503599627370496) = 2 * (b * 2 ^ E * 4503599627370496) := by ac_rfl
        omega
      · exact h3
  have hV := V_EK hK hK2
  have key : ∀ r, r = E * 4503599627370496 + K → r ≤ 9218868437227405312 → Near r a b := by
    intro r hr hr2
    rw [← hr] at hV
    have he : b * V r = b * 2 ^ E * K := by rw [hV]; ac_rfl
    refine ⟨hr2, ?_, ?_⟩
    · right
      -- the next one up is at least one unit further
      have hn : b * 2 ^ E * (2 * K + 1) ≤ b * (V r + V (r + 1)) := by
        have : V r + 2 ^ E ≤ V (r + 1) := by
          rcases Nat.lt_or_ge K 9007199254740992 with h3 | h3
          · have := V_EK (E := E) (K := K + 1) (by omega) (by omega)
            rw [show r + 1 = E * 4503599627370496 + (K + 1) by omega, this, hV, Nat.add_mul]; omega
          · have hKe : K = 9007199254740992 := by omega
            have := V_EK (E := E + 1) (K := 4503599627370497) (by omega) (by omega)
            rw [show r + 1 = (E + 1) * 4503599627370496 + 4503599627370497 by omega, this, hV, hKe, Nat.pow_succ]
            have := Nat.two_pow_pos E
            omega
        have := Nat.mul_le_mul_left b this
        rw [Nat.mul_add] at this
        rw [Nat.mul_add b, Nat.mul_add (b * 2 ^ E), Nat.mul_one]
        have e3 : b * 2 ^ E * (2 * K) = 2 * (b * 2 ^ E * K) := by ac_rfl
        omega
      rcases h1 with h1 | ⟨h1, g1⟩
      · exact .inl (Nat.lt_of_lt_of_le h1 hn)
      · rcases Nat.lt_or_ge (2 * a) (b * (V r + V (r + 1))) with h3 | h3
        · exact .inl h3
        · exact .inr ⟨by omega, by omega⟩
    · rcases h2 with h2 | h2
      · rcases hK2 with h3 | h3
        · left; rw [hr, h2, h3]
        · omega
      · by_cases hK00 : K = 0
        · left
          rcases hK2 with h4 | h4
          · rw [hr, hK00, h4]
          · omega
        right
        -- the next one down is just one unit, or K is the least one and a is not below it
        by_cases hl : K = 4503599627370496 ∧ 0 < E
        · obtain ⟨hKe, hE0⟩ := hl
          left
          have hge : b * 2 ^ E * 4503599627370496 ≤ a := by omega
          have hlt : V (r - 1) < V r := V_lt (by omega)
          have := Nat.mul_lt_mul_of_pos_left hlt hb
          rw [Nat.mul_add, he, hKe]
          rw [he, hKe] at this
          omega
        · by_cases hK0 : K = 0
          · omega
          · have hd : V (r - 1) + 2 ^ E = V r := by
              have := V_EK (E := E) (K := K - 1) (by omega) (by omega)
              rw [show r - 1 = E * 4503599627370496 + (K - 1) by omega, this, hV]
              obtain ⟨k, rfl⟩ : ∃ k, K = k + 1 := ⟨K - 1, by omega⟩
              rw [Nat.add_sub_cancel, Nat.add_mul, Nat.one_mul]
            have hn : b * (V (r - 1) + V r) = b * 2 ^ E * (2 * K - 1) := by
              have h5 := congrArg (b * ·) hd
              simp only [Nat.mul_add] at h5
              rw [Nat.mul_add, he]
              rw [he] at h5
              obtain ⟨k, rfl⟩ : ∃ k, K = k + 1 := ⟨K - 1, by omega⟩
              rw [show 2 * (k + 1) - 1 = 2 * k + 1 by omega, Nat.mul_add (b * 2 ^ E) (2 * k), Nat.mul_one]
              rw [Nat.mul_add (b * 2 ^ E) k, Nat.mul_one] at h5 ⊢
              have e3 : b * 2 ^ E * (2 * k) = 2 * (b * 2 ^ E * k) := by ac_rfl
              omega
            rw [hn]
            rcases h2 with h2 | ⟨h2, g2⟩
            · exact .inl h2
            · exact .inr ⟨h2, by omega⟩
  rcases Nat.lt_or_ge 9218868437227405312 (E * 4503599627370496 + K) with hbig | hsm
  · rw [Nat.min_eq_right (by omega)]
    have hE2 : 2046 ≤ E := by omega
    refine ⟨Nat.le_refl _, .inl rfl, .inr (.inl ?_)⟩
    have hge : b * 2 ^ E * 4503599627370496 ≤ a := by omega
    have h3 : b * 2 ^ EI ≤ b * 2 ^ E := Nat.mul_le_mul_left _ (Nat.pow_le_pow_right (by decide) hE2)
    have hlt : V (9218868437227405312 - 1) < V 9218868437227405312 := V_lt (by decide)
    have := Nat.mul_lt_mul_of_pos_left hlt hb
    rw [Nat.mul_add]
    have e : b * V 9218868437227405312 = b * 2 ^ EI * 4503599627370496 := by rw [V_inf]; ac_rfl
    omega
  · rw [Nat.min_eq_left hsm]
    exact key _ rfl hsm
/-- the program's rounding of an unrounded number -/
theorem rou_half {X Y : Nat} (hY : 0 < Y) : Half (rou (unr X Y)) X (4 * Y) := by
  have hd := Nat.div_add_mod X Y
  have hm : X % Y < Y := Nat.mod_lt _ hY
  have key : ∀ K, 4 * Y * (2 * K + 1) = 8 * (Y * K) + 4 * Y := fun K => by
    rw [Nat.mul_add, Nat.mul_one, show 4 * Y * (2 * K) = 8 * (Y * K) by ac_rfl]
  have key2 : ∀ K, 4 * Y * (2 * (K + 1) - 1) = 8 * (Y * K) + 4 * Y := fun K => key K
  have key3 : ∀ K, Y * (K + 1) = Y * K + Y := fun K => Nat.mul_succ _ _
  unfold unr rou
  generalize X / Y = q at *
  generalize X % Y = r at *
  obtain ⟨k, j, hj, rfl⟩ : ∃ k j, j < 4 ∧ q = 4 * k + j := ⟨q / 4, q % 4, by omega, by omega⟩
  rw [Nat.mul_add, show Y * (4 * k) = 4 * (Y * k) by ac_rfl] at hd
  have fin : ∀ K, (K = k ∧ (Y * j + r < 2 * Y ∨ (Y * j + r = 2 * Y ∧ k % 2 = 0)) ∨ K = k + 1 ∧ (2 * Y < Y * j + r ∨ (Y * j + r = 2 * Y ∧ k % 2 = 1))) → Half K X (4 * Y) := by
    intro K h
    have hj4 : Y * j ≤ 3 * Y := by
      have := Nat.mul_le_mul_left Y (show j ≤ 3 by omega)
      omega
    unfold Half
    rcases h with ⟨rfl, h⟩ | ⟨rfl, h⟩
    · rw [key]
      refine ⟨by rcases h with h | ⟨h, g⟩ <;> omega, ?_⟩
      cases K with
      | zero => exact .inl rfl
      | succ K => rw [key2]; rw [key3] at hd; right; left; omega
    · rw [key, key3, key2]
      refine ⟨by left; omega, ?_⟩
      rcases h with h | ⟨h, g⟩
      · exact .inr (.inl (by omega))
      · exact .inr (.inr ⟨by omega, by omega⟩)
  apply fin
  have j4 : j = 0 ∨ j = 1 ∨ j = 2 ∨ j = 3 := by omega
  by_cases h0 : r = 0
  · rw [if_pos h0]
    rcases j4 with rfl | rfl | rfl | rfl <;> rcases Nat.mod_two_eq_zero_or_one k with hk | hk <;> omega
  · rw [if_neg h0]
    rcases j4 with rfl | rfl | rfl | rfl <;> rcases Nat.mod_two_eq_zero_or_one k with hk | hk <;> omega
/-- one place less: the lowest bit stays set -/
theorem unr_half (X Y : Nat) (hY : 0 < Y) : (if unr X Y % 2 = 0 then unr X Y / 2 else unr X Y / 2 / 2 * 2 + 1) = unr X (Y * 2) := by
  have e1 : X / (Y * 2) = X / Y / 2 := (Nat.div_div_eq_div_mul _ _ _).symm
  have e2 : X % (Y * 2) = X % Y + Y * (X / Y % 2) := Nat.mod_mul
  unfold unr
  rw [e1, e2]
  generalize X / Y = q
  rcases Nat.mod_two_eq_zero_or_one q with hq | hq
  · rw [hq, Nat.mul_zero, Nat.add_zero]
    by_cases h0 : X % Y = 0
    · simp only [if_pos h0, if_pos hq, Nat.add_zero]
    · simp only [if_neg h0, Nat.add_zero]
      rw [if_neg (by omega)]
      omega
  · rw [hq, Nat.mul_one]
    rw [if_neg (show ¬ X % Y + Y = 0 by omega)]
    by_cases h0 : X % Y = 0
    · rw [if_pos h0, if_neg (by omega)]
    · rw [if_neg h0, if_neg (by omega)]
      omega
end Go.Proofs.YtbakbikilbaafaaGreatDoor
namespace Go.Proofs.YtbakbikilbaafaaGreatDoor
open F64 Ieee
set_option linter.unusedVariables false
set_option maxHeartbeats 1000000
set_option maxRecDepth 100000

theorem unr_cross {a b a' b' : Nat} (hb : 0 < b) (hb' : 0 < b') (h : a * b' = a' * b) : unr a b = unr a' b' := by
  rw [← unr_mul (a := a) (b := b) hb', ← unr_mul (a := a') (b := b') hb, h, Nat.mul_comm b b']
theorem half_cross {K a b a' b' : Nat} (hb : 0 < b) (hb' : 0 < b') (h : a * b' = a' * b) (hH : Half K a b) : Half K a' b' := by
  obtain ⟨h1, h2⟩ := hH
  have hlt : ∀ {x y c : Nat}, 0 < c → x * c < y * c → x < y := fun hc h => Nat.lt_of_mul_lt_mul_right h
  have e1 : 2 * a' * b = 2 * a * b' := by rw [Nat.mul_assoc, ← h, Nat.mul_assoc]
  have e2 : ∀ x, b' * x * b = b * x * b' := fun x => by ac_rfl
  constructor
  · rcases h1 with h1 | ⟨h1, g⟩
    · left
      apply hlt hb
      rw [e1, e2]
      exact Nat.mul_lt_mul_of_pos_right h1 hb'
    · right
      refine ⟨Nat.eq_of_mul_eq_mul_right hb ?_, g⟩
      rw [e1, e2, h1]
  · rcases h2 with h2 | h2 | ⟨h2, g⟩
    · exact .inl h2
    · right; left
      apply hlt hb
      rw [e1, e2]
      exact Nat.mul_lt_mul_of_pos_right h2 hb'
    · right; right
      refine ⟨Nat.eq_of_mul_eq_mul_right hb ?_, g⟩
      rw [e1, e2, h2]
/-- moving a power of two from the number into the scale -/
theorem fr_add (p e : Int) (k : Nat) : 2 ^ k * frN p e * frD p (e + k) = frN p (e + k) * frD p e := by
  unfold frN frD
  rw [show 2 ^ k * (10 ^ p.toNat * 2 ^ e.toNat) * (10 ^ (-p).toNat * 2 ^ (-(e + (k : Int))).toNat) = 10 ^ p.toNat * 10 ^ (-p).toNat * (2 ^ k * 2 ^ e.toNat * 2 ^ (-(e + (k : Int))).toNat) by ac_rfl,
    show 10 ^ p.toNat * 2 ^ (e + (k : Int)).toNat * (10 ^ (-p).toNat * 2 ^ (-e).toNat) = 10 ^ p.toNat * 10 ^ (-p).toNat * (2 ^ (e + (k : Int)).toNat * 2 ^ (-e).toNat) by ac_rfl,
    ← Nat.pow_add 2 k, ← Nat.pow_add 2 (k + e.toNat), ← Nat.pow_add 2 (e + (k : Int)).toNat, show k + e.toNat + (-(e + (k : Int))).toNat = (e + (k : Int)).toNat + (-e).toNat by omega]
theorem pow_shift {A B a1 a2 c1 c2 : Nat} (h : 2 ^ a1 * A ≤ 2 ^ a2 * B) (he : a1 + c2 = a2 + c1) : 2 ^ c1 * A ≤ 2 ^ c2 * B := by
  have h2 := Nat.mul_le_mul_right (2 ^ c2) h
  apply Nat.le_of_mul_le_mul_left _ (Nat.two_pow_pos a2)
  have e1 : 2 ^ a1 * A * 2 ^ c2 = 2 ^ a2 * (2 ^ c1 * A) := by
    rw [show 2 ^ a1 * A * 2 ^ c2 = 2 ^ a1 * 2 ^ c2 * A by ac_rfl, ← Nat.pow_add, he, Nat.pow_add, Nat.mul_assoc]
  have e2 : 2 ^ a2 * B * 2 ^ c2 = 2 ^ a2 * (2 ^ c2 * B) := by ac_rfl
  rw [← e1, ← e2]; exact h2
/-- 2^L ≤ 10^p ≤ 2047/1024 2^L -/
theorem fr_ge {p : Int} (h1 : -348 ≤ p) (h2 : p ≤ 347) {e : Int} {k : Nat} (hk : (k : Int) = e + tabL p) : 2 ^ k * frD p e ≤ frN p e := by
  obtain ⟨b1, -⟩ := tab_b h1 h2
  have e127 : (2 : Nat) ^ 127 = 170141183460469231731687303715884105728 := by decide
  rw [← e127] at b1
  unfold tabN tabD at b1
  unfold frN frD
  generalize tabL p = L at *
  rw [show 2 ^ 127 * (10 ^ (-p).toNat * 2 ^ (L - 127).toNat) = 2 ^ 127 * 2 ^ (L - 127).toNat * 10 ^ (-p).toNat by ac_rfl, Nat.mul_comm (10 ^ p.toNat), ← Nat.pow_add] at b1
  have := pow_shift (c1 := k + (-e).toNat) (c2 := e.toNat) b1 (by omega)
  rw [Nat.pow_add] at this
  rw [show 2 ^ k * (10 ^ (-p).toNat * 2 ^ (-e).toNat) = 2 ^ k * 2 ^ (-e).toNat * 10 ^ (-p).toNat by ac_rfl, Nat.mul_comm (10 ^ p.toNat)]
  exact this
theorem fr_le {p : Int} (h1 : -348 ≤ p) (h2 : p ≤ 347) {e : Int} {k : Nat} (hk : (k : Int) = e + tabL p) : 1024 * frN p e ≤ 2047 * (2 ^ k * frD p e) := by
  obtain ⟨-, b1⟩ := tab_b h1 h2
  have e127 : 340116213421465348979261631549233168384 = 2 ^ 117 * 2047 := by decide
  rw [e127] at b1
  unfold tabN tabD at b1
  unfold frN frD
  generalize tabL p = L at *
  rw [show 2 ^ 117 * 2047 * (10 ^ (-p).toNat * 2 ^ (L - 127).toNat) = 2 ^ 117 * 2 ^ (L - 127).toNat * (2047 * 10 ^ (-p).toNat) by ac_rfl, Nat.mul_comm (10 ^ p.toNat), ← Nat.pow_add] at b1
  have := pow_shift (c1 := 10 + e.toNat) (c2 := k + (-e).toNat) b1 (by omega)
  rw [Nat.pow_add, Nat.pow_add] at this
  rw [show 2047 * (2 ^ k * (10 ^ (-p).toNat * 2 ^ (-e).toNat)) = 2 ^ k * 2 ^ (-e).toNat * (2047 * 10 ^ (-p).toNat) by ac_rfl, Nat.mul_comm (10 ^ p.toNat), ← Nat.mul_assoc]
  exact this
def pfe (b : Nat) (p : Int) : Int := min 1074 (53 - (b : Int) - tabL p)
def pfu (d b : Nat) (p : Int) : Nat := unr (d * frN p (pfe b p + 2)) (frD p (pfe b p + 2))
def hlf (u : Nat) : Nat := if u % 2 = 0 then u / 2 else u / 2 / 2 * 2 + 1
/-- what parseFloat64 answers, d having b bits -/
def pfK (d b : Nat) (p : Int) : Nat := if pfu d b p < 36028797018963966 then rou (pfu d b p) else rou (hlf (pfu d b p))
def pfX (d b : Nat) (p : Int) : Nat := if pfu d b p < 36028797018963966 then (1074 - pfe b p).toNat else (1075 - pfe b p).toNat
def pf (d b : Nat) (p : Int) : Nat := min (pfX d b p * 4503599627370496 + pfK d b p) 9218868437227405312
theorem pf_lo {d b : Nat} {p e : Int} (h1 : -348 ≤ p) (h2 : p ≤ 347) (hb : 1 ≤ b) (hd1 : 2 ^ (b - 1) ≤ d) (hk : ((53 - b : Int)) = e + tabL p) : 4503599627370496 * frD p e ≤ d * frN p e := by
  by_cases hb53 : b ≤ 53
  · have := fr_ge h1 h2 (e := e) (k := 53 - b) (by omega)
    have m := Nat.mul_le_mul hd1 this
    have e1 : 2 ^ (b - 1) * (2 ^ (53 - b) * frD p e) = 4503599627370496 * frD p e := by
      rw [← Nat.mul_assoc, ← Nat.pow_add, show b - 1 + (53 - b) = 52 by omega]
    omega
  · -- a negative power: by the scale at e + (b - 53)
    have := fr_ge h1 h2 (e := e + ((b - 53 : Nat) : Int)) (k := 0) (by omega)
    have h3 := fr_add p e (b - 53)
    rw [Nat.pow_zero, Nat.one_mul] at this
    have hfd := frD_pos p (e + ((b - 53 : Nat) : Int))
    have m : frD p e * frD p (e + ((b - 53 : Nat) : Int)) ≤ 2 ^ (b - 53) * frN p e * frD p (e + ((b - 53 : Nat) : Int)) := by
      rw [h3, Nat.mul_comm (frN p _)]
      exact Nat.mul_le_mul_left _ this
    have m2 := Nat.le_of_mul_le_mul_right m hfd
    have m3 : 2 ^ 52 * frD p e ≤ 2 ^ 52 * (2 ^ (b - 53) * frN p e) := Nat.mul_le_mul_left _ m2
    rw [← Nat.mul_assoc, ← Nat.pow_add, show 52 + (b - 53) = b - 1 by omega] at m3
    exact Nat.le_trans m3 (Nat.mul_le_mul_right _ hd1)
theorem pf_hi {d b : Nat} {p e : Int} (h1 : -348 ≤ p) (h2 : p ≤ 347) (hd2 : d < 2 ^ b) (hk : ((53 - b : Int)) = e + tabL p) : 1024 * (d * frN p e) < 2047 * (9007199254740992 * frD p e) := by
  have fe := frN_pos p e
  by_cases hb53 : b ≤ 53
  · have := fr_le h1 h2 (e := e) (k := 53 - b) (by omega)
    have m1 : 1024 * (d * frN p e) < 1024 * (2 ^ b * frN p e) := Nat.mul_lt_mul_of_pos_left (Nat.mul_lt_mul_of_pos_right hd2 fe) (by decide)
    have m2 : 2 ^ b * (1024 * frN p e) ≤ 2 ^ b * (2047 * (2 ^ (53 - b) * frD p e)) := Nat.mul_le_mul_left _ this
    have e1 : 2 ^ b * (2047 * (2 ^ (53 - b) * frD p e)) = 2047 * (9007199254740992 * frD p e) := by
      rw [show 2 ^ b * (2047 * (2 ^ (53 - b) * frD p e)) = 2047 * (2 ^ b * 2 ^ (53 - b) * frD p e) by ac_rfl, ← Nat.pow_add, show b + (53 - b) = 53 by omega]
    have e2 : 2 ^ b * (1024 * frN p e) = 1024 * (2 ^ b * frN p e) := by ac_rfl
    omega
  · have := fr_le h1 h2 (e := e + ((b - 53 : Nat) : Int)) (k := 0) (by omega)
    have h3 := fr_add p e (b - 53)
    rw [Nat.pow_zero, Nat.one_mul] at this
    have hfd := frD_pos p (e + ((b - 53 : Nat) : Int))
    have m : 1024 * (2 ^ (b - 53) * frN p e) ≤ 2047 * frD p e := by
      apply Nat.le_of_mul_le_mul_right _ hfd
      rw [Nat.mul_assoc, h3]
      have := Nat.mul_le_mul_right (frD p e) this
      have e1 : 1024 * frN p (e + ((b - 53 : Nat) : Int)) * frD p e = 1024 * (frN p (e + ((b - 53 : Nat) : Int)) * frD p e) := by ac_rfl
      have e2 : 2047 * frD p (e + ((b - 53 : Nat) : Int)) * frD p e = 2047 * frD p e * frD p (e + ((b - 53 : Nat) : Int)) := by ac_rfl
      omega
    have m1 : 1024 * (d * frN p e) < 1024 * (2 ^ b * frN p e) := Nat.mul_lt_mul_of_pos_left (Nat.mul_lt_mul_of_pos_right hd2 fe) (by decide)
    have e1 : 1024 * (2 ^ b * frN p e) = 9007199254740992 * (1024 * (2 ^ (b - 53) * frN p e)) := by
      rw [show b = 53 + (b - 53) by omega, Nat.pow_add, show 53 + (b - 53) - 53 = b - 53 by omega]
      have e53 : (2 : Nat) ^ 53 = 9007199254740992 := by decide
      rw [e53]; ac_rfl
    have m2 : 9007199254740992 * (1024 * (2 ^ (b - 53) * frN p e)) ≤ 9007199254740992 * (2047 * frD p e) := Nat.mul_le_mul_left _ m
    have e2 : 9007199254740992 * (2047 * frD p e) = 2047 * (9007199254740992 * frD p e) := by ac_rfl
    omega
theorem pf_near {d b : Nat} {p : Int} (h1 : -348 ≤ p) (h2 : p ≤ 347) (hb : 1 ≤ b) (hb2 : b ≤ 64) (hd1 : 2 ^ (b - 1) ≤ d) (hd2 : d < 2 ^ b) :
    Near (pf d b p) (d * frN p 1074) (frD p 1074) ∧ pfK d b p < 9007199254740992 ∧ (pfX d b p = 0 ∨ 4503599627370496 ≤ pfK d b p) := by
  obtain ⟨e, he⟩ : ∃ e, pfe b p = e := ⟨_, rfl⟩
  have he' : e = min 1074 (53 - (b : Int) - tabL p) := he.symm
  have hu : pfu d b p = unr (d * frN p (e + 2)) (frD p (e + 2)) := by unfold pfu; rw [he]
  unfold pf pfK pfX
  rw [hu, he]
  have fe := frN_pos p e
  have ge := frD_pos p e
  have g2 := frD_pos p (e + 2)
  -- v = d 10^p 2^e
  have ev : 4 * frN p e * frD p (e + 2) = frN p (e + 2) * frD p e := by
    have := fr_add p e 2
    exact this
  have hH : Half (rou (unr (d * frN p (e + 2)) (frD p (e + 2)))) (d * frN p e) (frD p e) := by
    refine half_cross (b := 4 * frD p (e + 2)) (by omega) ge ?_ (rou_half g2)
    rw [Nat.mul_assoc, ← ev]; ac_rfl
  -- its bounds
  have hlo : e = 1074 ∨ 4503599627370496 * frD p e ≤ d * frN p e := by
    by_cases h : e = 1074
    · exact .inl h
    · exact .inr (pf_lo h1 h2 hb hd1 (by omega))
  have hhi : 1024 * (d * frN p e) < 2047 * (9007199254740992 * frD p e) := by
    obtain ⟨e0, he0⟩ : ∃ e0 : Int, e0 = 53 - (b : Int) - tabL p := ⟨_, rfl⟩
    obtain ⟨k, hk⟩ : ∃ k : Nat, e0 = e + (k : Int) := ⟨(e0 - e).toNat, by omega⟩
    have h0 := pf_hi (d := d) (b := b) (e := e0) h1 h2 hd2 (by omega)
    have h3 := fr_add p e k
    rw [← hk] at h3
    have g0 := frD_pos p e0
    apply Nat.lt_of_mul_lt_mul_right (a := frD p e0)
    have m1 : 1 * (d * (frN p e * frD p e0)) ≤ 2 ^ k * (d * (frN p e * frD p e0)) := Nat.mul_le_mul_right _ (Nat.two_pow_pos k)
    have m2 := Nat.mul_lt_mul_of_pos_right h0 ge
    have e1 : 2 ^ k * (d * (frN p e * frD p e0)) = d * (2 ^ k * frN p e * frD p e0) := by ac_rfl
    rw [e1, h3] at m1
    have e2 : 1024 * (d * frN p e) * frD p e0 = 1024 * (1 * (d * (frN p e * frD p e0))) := by rw [Nat.one_mul]; ac_rfl
    have e3 : 1024 * (d * frN p e0) * frD p e = 1024 * (d * (frN p e0 * frD p e)) := by ac_rfl
    have e4 : 2047 * (9007199254740992 * frD p e0) * frD p e = 2047 * (9007199254740992 * frD p e) * frD p e0 := by ac_rfl
    omega
  have hE1074 : e ≤ 1074 := by omega
  -- the fraction in units of the least place
  have hsc : ∀ E : Nat, (E : Int) = 1074 - e → d * frN p e * (frD p 1074 * 2 ^ E) = d * frN p 1074 * frD p e := fun E hE => by
    have h3 := fr_add p e E
    rw [show e + (E : Int) = 1074 by omega] at h3
    rw [show d * frN p e * (frD p 1074 * 2 ^ E) = d * (2 ^ E * frN p e * frD p 1074) by ac_rfl, h3]; ac_rfl
  have gT := frD_pos p 1074
  obtain ⟨E, hE⟩ : ∃ E : Nat, (E : Int) = 1074 - e := ⟨(1074 - e).toNat, by omega⟩
  have hE1 : (1074 - e).toNat = E := by omega
  have hE2 : (1075 - e).toNat = E + 1 := by omega
  have hsE := hsc E hE
  have hEz : E = 0 ∨ 4503599627370496 * frD p e ≤ d * frN p e := by
    rcases hlo with h | h
    · left; omega
    · exact .inr h
  rw [hE1, hE2]
  clear hsc hE hE1 hE2 hlo he he' hu hE1074
  have hBE : 0 < frD p 1074 * 2 ^ E := Nat.mul_pos gT (Nat.two_pow_pos _)
  generalize hA : d * frN p 1074 = A at *
  generalize hB : frD p 1074 = B at *
  generalize hX : d * frN p e = X at *
  generalize hY : frD p e = Y at *
  have hX4 : d * frN p (e + 2) * Y = 4 * X * frD p (e + 2) := by rw [← hX, Nat.mul_assoc, ← ev]; ac_rfl
  have hU : unr (d * frN p (e + 2)) (frD p (e + 2)) = unr (4 * X) Y := unr_cross g2 ge hX4
  rw [hU] at hH ⊢
  have hHE := half_cross ge hBE hsE hH
  -- above: a is at least 2^52 (b 2^E)
  have hup : 4503599627370496 * Y ≤ X → B * 2 ^ E * 4503599627370496 ≤ A := fun h => by
    apply Nat.le_of_mul_le_mul_right _ ge
    rw [← hsE]
    have := Nat.mul_le_mul_right (B * 2 ^ E) h
    rw [show B * 2 ^ E * 4503599627370496 * Y = 4503599627370496 * Y * (B * 2 ^ E) by ac_rfl]
    exact this
  by_cases hlt : unr (4 * X) Y < 36028797018963966
  · rw [if_pos hlt, if_pos hlt]
    have hK : rou (unr (4 * X) Y) < 9007199254740992 := by unfold rou; omega
    refine ⟨near_round gT hHE ?_ (Nat.le_of_lt hK), hK, ?_⟩
    · rcases hEz with h | h
      · exact .inl h
      · exact .inr (hup h)
    · rcases hEz with h | h
      · exact .inl h
      · right
        -- 4 X / Y ≥ 2^54
        have : 18014398509481984 ≤ unr (4 * X) Y := by
          have h4 : 18014398509481984 ≤ 4 * X / Y := by rw [Nat.le_div_iff_mul_le ge]; omega
          unfold unr; split <;> omega
        unfold rou; omega
  · rw [if_neg hlt, if_neg hlt]
    have hge : 36028797018963965 ≤ 4 * X / Y := by
      unfold unr at hlt
      split at hlt <;> omega
    have hX1 : 36028797018963965 * Y ≤ 4 * X := by rw [Nat.le_div_iff_mul_le ge] at hge; exact hge
    have hh : hlf (unr (4 * X) Y) = unr (4 * X) (Y * 2) := unr_half (4 * X) Y ge
    rw [hh]
    have hH2 : Half (rou (unr (4 * X) (Y * 2))) (4 * X) (4 * (Y * 2)) := rou_half (by omega)
    have hK1 : 4503599627370496 ≤ rou (unr (4 * X) (Y * 2)) := by
      have h4 : 18014398509481982 ≤ 4 * X / (Y * 2) := by rw [Nat.le_div_iff_mul_le (by omega)]; omega
      -- at the lower edge what is left makes it odd
      by_cases h5 : 18014398509481983 ≤ 4 * X / (Y * 2)
      · have : 18014398509481983 ≤ unr (4 * X) (Y * 2) := by unfold unr; split <;> omega
        unfold rou; omega
      · have h6 : 4 * X / (Y * 2) = 18014398509481982 := by omega
        unfold unr at hlt ⊢
        rw [h6]
        split
        · rename_i h7
          have := Nat.div_add_mod (4 * X) (Y * 2)
          rw [h6, h7] at this
          unfold rou; omega
        · unfold rou; omega
    have hK2 : rou (unr (4 * X) (Y * 2)) < 9007199254740992 := by
      have h4 : 4 * X / (Y * 2) < 36028797018963966 := by
        apply Nat.div_lt_of_lt_mul
        omega
      unfold unr rou
      split <;> omega
    refine ⟨?_, hK2, .inr hK1⟩
    by_cases hbig : 9007199254740992 * Y ≤ X
    · refine near_round gT (half_cross (b := 4 * (Y * 2)) (by omega) (Nat.mul_pos gT (Nat.two_pow_pos _)) ?_ hH2) (.inr ?_) (Nat.le_of_lt hK2)
      · rw [Nat.pow_succ, show 4 * X * (B * (2 ^ E * 2)) = 4 * 2 * (X * (B * 2 ^ E)) by ac_rfl, hsE]; ac_rfl
      · have := hup (by omega)
        apply Nat.le_of_mul_le_mul_right _ ge
        have m := Nat.mul_le_mul_right (B * 2 ^ E) hbig
        rw [hsE] at m
        have e1 : B * 2 ^ (E + 1) * 4503599627370496 * Y = 9007199254740992 * Y * (B * 2 ^ E) := by
          rw [Nat.pow_succ, show B * (2 ^ E * 2) * 4503599627370496 * Y = 4503599627370496 * 2 * Y * (B * 2 ^ E) by ac_rfl]
        omega
    · -- just below 2^53: rounded up to it at E
      have hK0 : rou (unr (4 * X) Y) = 9007199254740992 := by
        have h4 : 4 * X / Y < 36028797018963968 := by
          apply Nat.div_lt_of_lt_mul
          omega
        unfold rou
        have : unr (4 * X) Y ≤ 36028797018963967 := by unfold unr; split <;> omega
        omega
      have hK3 : rou (unr (4 * X) (Y * 2)) = 4503599627370496 := by
        have h4 : 4 * X / (Y * 2) < 18014398509481984 := by
          apply Nat.div_lt_of_lt_mul
          omega
        have : unr (4 * X) (Y * 2) ≤ 18014398509481983 := by unfold unr; split <;> omega
        unfold rou at hK1 ⊢; omega
      rw [hK3]
      rw [hK0] at hHE
      have := near_round gT hHE (by rcases hEz with h | h; exact .inl h; exact .inr (hup h)) (Nat.le_refl _)
      rw [show (E + 1) * 4503599627370496 + 4503599627370496 = E * 4503599627370496 + 9007199254740992 by omega]
      exact this
end Go.Proofs.YtbakbikilbaafaaGreatDoor
