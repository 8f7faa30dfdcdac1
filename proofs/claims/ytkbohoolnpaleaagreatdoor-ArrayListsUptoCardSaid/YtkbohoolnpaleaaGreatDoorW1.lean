/-
  Contracts: Decimal digits of fixed width, and how many digits a number has: plain facts. Plain facts on the scaling of a number by a power of ten, where it is exact; on whole numbers of 32 bits. Contracts of small functions: Mul64, Len64, the logarithms' estimates, the roundings. Contracts of Len64 and uscale. The contract of the library's shortFloat at whole numbers below 2^32. The contract of numDigits.
-/
import Derived.Lib.Hide
import Derived.Test.YtkbohoolnpaleaaGreatDoorChecked
import Derived.RowKit
import Derived.WalkKit
import Derived.Lib.Mul64
import Derived.Laws.Bits64b
import Derived.IntWalk
import Derived.Shelf.Bits.Mul64
import Derived.Deep.QuietTactic
import Derived.BigQuiet
import Derived.Outline
import Derived.Deep.Light
import Derived.Lib.Strings
import Derived.Lib.Slices
import Derived.Lib.Small
import Derived.Lib.Walk
import Derived.Lib.BitFns
namespace Go.Proofs.YtkbohoolnpaleaaGreatDoor

/-- the last n decimal digits of u, the highest one first -/
def fw : Nat → Nat → List Nat
  | 0, _ => []
  | n + 1, u => fw n (u / 10) ++ [u % 10]
theorem fw_len (n u : Nat) : (fw n u).length = n := by
  induction n generalizing u with
  | zero => rfl
  | succ n ih => simp [fw, ih]
theorem fw_lt (n u : Nat) : ∀ x ∈ fw n u, x < 10 := by
  induction n generalizing u with
  | zero => intro x h; cases h
  | succ n ih =>
    intro x h
    rcases List.mem_append.1 h with h | h
    · exact ih _ x h
    · rw [List.mem_singleton.1 h]; exact Nat.mod_lt _ (by decide)
theorem fw_mod (n u : Nat) : fw n (u % 10 ^ n) = fw n u := by
  induction n generalizing u with
  | zero => rfl
  | succ n ih =>
    have e1 : u % 10 ^ (n + 1) / 10 = u / 10 % 10 ^ n := by
      rw [Nat.pow_succ, Nat.mul_comm, Nat.mod_mul_right_div_self]
    have e2 : u % 10 ^ (n + 1) % 10 = u % 10 := by
      rw [Nat.pow_succ]; exact Nat.mod_mul_left_mod _ _ _
    simp only [fw]
    rw [e1, e2, ih]
theorem fw_add (a b u : Nat) : fw (a + b) u = fw a (u / 10 ^ b) ++ fw b u := by
  induction b generalizing u with
  | zero => simp [fw]
  | succ b ih =>
    rw [← Nat.add_assoc]
    simp only [fw]
    rw [ih, List.append_assoc, Nat.div_div_eq_div_mul, Nat.pow_succ, Nat.mul_comm 10]
theorem fw_one (u : Nat) : fw 1 u = [u % 10] := rfl
theorem fw_two (u : Nat) : fw 2 u = [u / 10 % 10, u % 10] := rfl
theorem fw_zero (n : Nat) : fw n 0 = List.replicate n 0 := by
  induction n with
  | zero => rfl
  | succ n ih => simp only [fw, Nat.zero_div, Nat.zero_mod]; rw [ih, ← List.replicate_succ']
theorem fw_shift (n q i : Nat) : fw (n + q) (i * 10 ^ q) = fw n i ++ List.replicate q 0 := by
  rw [fw_add, Nat.mul_div_cancel _ (Nat.pow_pos (by decide)), ← fw_mod q, Nat.mul_mod_left, fw_zero]
theorem fw_get (n u i : Nat) (h : i < n) : (fw n u)[i]? = some (u / 10 ^ (n - 1 - i) % 10) := by
  induction n generalizing u with
  | zero => omega
  | succ n ih =>
    simp only [fw]
    rcases Nat.lt_or_ge i n with h1 | h1
    · rw [List.getElem?_append_left (by rw [fw_len]; exact h1), ih _ h1, Nat.div_div_eq_div_mul, ← Nat.pow_succ']
      have : (n - 1 - i).succ = n + 1 - 1 - i := by omega
      rw [this]
    · have : i = n := by omega
      subst this
      rw [List.getElem?_append_right (by rw [fw_len]; omega), fw_len]
      simp
/-- u has n digits -/
def IsNd (u n : Nat) : Prop := 1 ≤ n ∧ 10 ^ (n - 1) ≤ u ∧ u < 10 ^ n
theorem IsNd.one {u n m : Nat} (h : IsNd u n) (h' : IsNd u m) : n = m := by
  obtain ⟨h1, h2, h3⟩ := h
  obtain ⟨g1, g2, g3⟩ := h'
  rcases Nat.lt_trichotomy n m with h | h | h
  · exfalso
    have := Nat.pow_le_pow_right (n := 10) (by decide) (show n ≤ m - 1 by omega)
    omega
  · exact h
  · exfalso
    have := Nat.pow_le_pow_right (n := 10) (by decide) (show m ≤ n - 1 by omega)
    omega
theorem IsNd.pos {u n : Nat} (h : IsNd u n) : 0 < u := Nat.lt_of_lt_of_le (Nat.pow_pos (by decide)) h.2.1
theorem IsNd.shift {u n : Nat} (h : IsNd u n) (q : Nat) : IsNd (u * 10 ^ q) (n + q) := by
  obtain ⟨h1, h2, h3⟩ := h
  refine ⟨by omega, ?_, ?_⟩
  · have : n + q - 1 = (n - 1) + q := by omega
    rw [this, Nat.pow_add]
    exact Nat.mul_le_mul_right _ h2
  · rw [Nat.pow_add]
    exact Nat.mul_lt_mul_of_pos_right h3 (Nat.pow_pos (by decide))
theorem IsNd.step {u n : Nat} (h : IsNd (u / 10) n) : IsNd u (n + 1) := by
  obtain ⟨h1, h2, h3⟩ := h
  refine ⟨by omega, ?_, ?_⟩
  · have : n + 1 - 1 = (n - 1) + 1 := by omega
    rw [this, Nat.pow_succ]
    omega
  · rw [Nat.pow_succ]; omega
theorem IsNd.digit {u : Nat} (h : 0 < u) (h1 : u < 10) : IsNd u 1 := ⟨by omega, by simp; omega, by simpa using h1⟩
/-- the trailing noughts of a number's digits: m digits are left, the last one is no nought -/
theorem fw_trim (n u : Nat) (h : 0 < u) (hu : u < 10 ^ n) : ∃ m v, 1 ≤ m ∧ m ≤ n ∧ u = v * 10 ^ (n - m) ∧ v % 10 ≠ 0 ∧ fw n u = fw m v ++ List.replicate (n - m) 0 := by
  induction n generalizing u with
  | zero => simp at hu; omega
  | succ n ih =>
    by_cases hd : u % 10 = 0
    · obtain ⟨m, v, h1, h2, h3, h4, h5⟩ := ih (u / 10) (by omega) (by rw [Nat.pow_succ] at hu; omega)
      refine ⟨m, v, h1, by omega, ?_, h4, ?_⟩
      · have : n + 1 - m = n - m + 1 := by omega
        rw [this, Nat.pow_succ, ← Nat.mul_assoc, ← h3]; omega
      · have e : n + 1 - m = n - m + 1 := by omega
        rw [e, List.replicate_succ', ← List.append_assoc, ← h5, ← hd]; rfl
    · exact ⟨n + 1, u, by omega, Nat.le_refl _, by simp, hd, by simp⟩
end Go.Proofs.YtkbohoolnpaleaaGreatDoor
namespace Go.Proofs.YtkbohoolnpaleaaGreatDoor

def b2n (b : Bool) : Nat := if b then 1 else 0
def W64 : Nat := 18446744073709551616
theorem W64_eq : W64 = 18446744073709551616 := rfl
/-- what uscale answers -/
def usc (x ph pl s : Nat) : Nat :=
  if x * ph / W64 / 2 ^ s * 2 ^ s ≠ x * ph / W64 then x * ph / W64 / 2 ^ s ||| 1
  else ((x * ph / W64 + W64 - b2n (decide (x * ph % W64 < x * pl / W64))) % W64) / 2 ^ s ||| b2n (decide (1 < (x * ph % W64 + W64 - x * pl / W64) % W64))
theorem or_one (q : Nat) : q ||| 1 = q / 2 * 2 + 1 := by
  apply Nat.eq_of_testBit_eq
  intro i
  cases i with
  | zero => simp [Nat.testBit_zero]
  | succ j =>
    rw [Nat.testBit_or, Nat.testBit_succ, Nat.testBit_succ, Nat.testBit_succ]
    have : (q / 2 * 2 + 1) / 2 = q / 2 := by omega
    rw [this]; simp
theorem or_b2n (q : Nat) (b : Bool) : q ||| b2n b = if b then q / 2 * 2 + 1 else q := by
  cases b
  · simp [b2n]
  · simp [b2n, or_one]
theorem usc_exact (x ph s : Nat) (hx : x < W64) (hp : ph < W64) (hm : x * ph % W64 ≠ 1) :
    usc x ph 0 s = if x * ph % (W64 * 2 ^ s) = 0 then x * ph / (W64 * 2 ^ s) else x * ph / (W64 * 2 ^ s) / 2 * 2 + 1 := by
  have hhi : x * ph / W64 < W64 := by
    apply Nat.div_lt_of_lt_mul
    exact Nat.mul_lt_mul'' hx hp
  have e1 : x * ph / (W64 * 2 ^ s) = x * ph / W64 / 2 ^ s := (Nat.div_div_eq_div_mul _ _ _).symm
  have e2 : x * ph % (W64 * 2 ^ s) = x * ph % W64 + W64 * (x * ph / W64 % 2 ^ s) := Nat.mod_mul
  have e3 : x * 0 / W64 = 0 := by simp
  unfold usc
  rw [e1, e2, e3]
  have hmid : x * ph % W64 < W64 := Nat.mod_lt _ (by decide)
  generalize x * ph % W64 = mid at *
  generalize x * ph / W64 = hi at *
  have hW : W64 = 18446744073709551616 := rfl
  have hd := Nat.div_add_mod hi (2 ^ s)
  rw [Nat.mul_comm] at hd
  by_cases h0 : hi % 2 ^ s = 0
  · rw [h0] at hd ⊢
    simp only [Nat.add_zero] at hd
    rw [if_neg (by omega), or_b2n]
    have f1 : decide (mid < 0) = false := by simp
    rw [f1]
    have f2 : (hi + W64 - b2n false) % W64 = hi := by
      have : b2n false = 0 := rfl
      rw [this, Nat.sub_zero, Nat.add_mod_right, Nat.mod_eq_of_lt hhi]
    have f3 : (mid + W64 - 0) % W64 = mid := by rw [Nat.sub_zero, Nat.add_mod_right, Nat.mod_eq_of_lt hmid]
    rw [f2, f3]
    by_cases h1 : mid = 0
    · subst h1; simp
    · rw [if_pos (by simp; omega), if_neg (by simp; omega)]
  · rw [if_pos (by omega), or_one, if_neg]
    intro h
    have : W64 * (hi % 2 ^ s) = 0 := by omega
    rcases Nat.mul_eq_zero.1 this with h | h
    · rw [hW] at h; omega
    · exact h0 h
theorem usc_lt (x ph s : Nat) (hx : x < W64) (hp : ph < W64) (hm : x * ph % W64 ≠ 1) (hs : 2 ≤ s) : usc x ph 0 s < 9223372036854775808 := by
  rw [usc_exact x ph s hx hp hm]
  have hd : x * ph / (W64 * 2 ^ s) ≤ 4611686018427387904 := by
    rw [← Nat.div_div_eq_div_mul]
    have h1 : x * ph / W64 < W64 := Nat.div_lt_of_lt_mul (Nat.mul_lt_mul'' hx hp)
    have h2 : x * ph / W64 / 2 ^ s ≤ x * ph / W64 / 2 ^ 2 := Nat.div_le_div_left (Nat.pow_le_pow_right (by decide) hs) (by decide)
    rw [W64_eq] at h1 h2 ⊢
    omega
  split <;> omega
theorem usc_floor (x ph s : Nat) (hx : x < W64) (hp : ph < W64) (hm : x * ph % W64 ≠ 1) : usc x ph 0 s / 4 = x * ph / (W64 * 2 ^ s * 4) := by
  rw [usc_exact x ph s hx hp hm, ← Nat.div_div_eq_div_mul (x * ph) (W64 * 2 ^ s) 4]
  generalize x * ph / (W64 * 2 ^ s) = q
  split <;> omega
theorem usc_ceil (x ph s v : Nat) (hx : x < W64) (hp : ph < W64) (hm : x * ph % W64 ≠ 1) (h : x * ph ≤ v * (W64 * 2 ^ s * 4)) : (usc x ph 0 s + 3) / 4 ≤ v := by
  rw [usc_exact x ph s hx hp hm]
  have hD : 0 < W64 * 2 ^ s := Nat.mul_pos (by decide) (Nat.two_pow_pos _)
  generalize W64 * 2 ^ s = D at *
  have h' : x * ph ≤ 4 * v * D := by rw [show 4 * v * D = v * (D * 4) by rw [Nat.mul_comm D 4, ← Nat.mul_assoc, Nat.mul_comm v 4]]; exact h
  generalize x * ph = X at *
  have hq : X / D ≤ 4 * v := by
    have := Nat.div_le_div_right (c := D) h'
    rwa [Nat.mul_div_cancel _ hD] at this
  have hd := Nat.div_add_mod X D
  split
  · omega
  · rename_i hne
    have : X / D ≠ 4 * v := by
      intro e
      rw [e, Nat.mul_comm] at hd
      omega
    omega
/-- floors of logarithms, as the library reckons them -/
def l10 (x : Int) : Int := x * 78913 / 262144
def l2 (x : Int) : Int := x * 108853 / 32768
def skw (x : Int) : Int := (x * 631305 - 261663) / 2097152
def pOf (b : Bool) (k : Nat) : Nat := (if b then -(skw ((k : Int) - 53)) else -(l10 ((k : Int) - 53))).toNat
def kFacts (b : Bool) (k : Nat) : Bool :=
  let p := pOf b k
  let lp := (l2 p).toNat
  decide ((if b then -(skw ((k : Int) - 53)) else -(l10 ((k : Int) - 53))) = (p : Int)) && decide (l2 p = (lp : Int)) && decide (7 ≤ p) && decide (p ≤ 17) && decide (k + lp ≤ 59) && decide (lp ≤ 57) && decide (10 ^ p < 10 * 2 ^ (54 - k)) && decide (10 ^ p * 2 ^ (63 - lp) < 18446744073709551616)
theorem kFacts_all : ∀ b : Bool, ∀ k : Nat, k < 33 → 1 ≤ k → kFacts b k = true := by decide +kernel
/-- the scaled number's digits: i times 10 to a power below -/
theorem short_plain (i k p lp s ph mn mx : Nat) (hk : 1 ≤ k) (hk2 : k ≤ 32) (hp : 7 ≤ p) (hlp : k + lp ≤ 59) (hlp2 : lp ≤ 57) (h10 : 10 ^ p < 10 * 2 ^ (54 - k)) (hph : ph = 10 ^ p * 2 ^ (63 - lp)) (hph2 : ph < W64)
    (hs : s = 61 - k - lp) (hmx : mx = i * 2 ^ (64 - k) + 1024) (hmn : mn = i * 2 ^ (64 - k) - 1024 ∨ mn = i * 2 ^ (64 - k) - 512) (hmxw : mx < W64) :
    usc mx ph 0 s / 4 / 10 = i * 10 ^ (p - 1) ∧ (usc mn ph 0 s + 3) / 4 ≤ i * 10 ^ (p - 1) * 10 ∧ usc mx ph 0 s < 9223372036854775808 ∧ usc mn ph 0 s < 9223372036854775808 := by
  have hm : i * 2 ^ (64 - k) < W64 := by omega
  have hD : W64 * 2 ^ s * 4 = 2 ^ (66 + s) := by
    show 2 ^ 64 * 2 ^ s * 2 ^ 2 = _
    rw [← Nat.pow_add, ← Nat.pow_add]
    have : 64 + s + 2 = 66 + s := by omega
    rw [this]
  have hv : i * 10 ^ (p - 1) * 10 = i * 10 ^ p := by
    rw [Nat.mul_assoc, ← Nat.pow_succ]
    have : (p - 1).succ = p := by omega
    rw [this]
  have hmph : i * 2 ^ (64 - k) * ph = i * 10 ^ p * 2 ^ (66 + s) := by
    rw [hph, show i * 2 ^ (64 - k) * (10 ^ p * 2 ^ (63 - lp)) = i * 10 ^ p * (2 ^ (64 - k) * 2 ^ (63 - lp)) by ac_rfl, ← Nat.pow_add]
    have : 64 - k + (63 - lp) = 66 + s := by omega
    rw [this]
  have hev : ∀ x, x * ph % W64 ≠ 1 := by
    intro x h
    have e : x * ph = x * 10 ^ p * 2 ^ (62 - lp) * 2 := by
      rw [hph]
      have : 63 - lp = 62 - lp + 1 := by omega
      rw [this, Nat.pow_succ]; ac_rfl
    rw [e] at h
    generalize x * 10 ^ p * 2 ^ (62 - lp) = z at h
    rw [W64_eq] at h
    omega
  have hext : 1024 * ph < 10 * 2 ^ (66 + s) := by
    rw [hph]
    have e1 : 1024 * (10 ^ p * 2 ^ (63 - lp)) = 10 ^ p * 2 ^ (73 - lp) := by
      rw [show (1024 : Nat) = 2 ^ 10 from rfl, show 2 ^ 10 * (10 ^ p * 2 ^ (63 - lp)) = 10 ^ p * (2 ^ 10 * 2 ^ (63 - lp)) by ac_rfl, ← Nat.pow_add]
      have : 10 + (63 - lp) = 73 - lp := by omega
      rw [this]
    have e2 : 10 * 2 ^ (66 + s) = 10 * 2 ^ (54 - k) * 2 ^ (73 - lp) := by
      rw [Nat.mul_assoc, ← Nat.pow_add]
      have : 54 - k + (73 - lp) = 66 + s := by omega
      rw [this]
    rw [e1, e2]
    exact Nat.mul_lt_mul_of_pos_right h10 (Nat.two_pow_pos (73 - lp))
  refine ⟨?_, ?_, usc_lt mx ph s hmxw hph2 (hev _) (by omega), usc_lt mn ph s (by rcases hmn with h | h <;> omega) hph2 (hev _) (by omega)⟩
  · rw [usc_floor mx ph s hmxw hph2 (hev _), hD, hmx, Nat.add_mul, hmph, Nat.mul_comm (i * 10 ^ p), Nat.mul_add_div (Nat.two_pow_pos _), ← hv]
    generalize i * 10 ^ (p - 1) = z
    have : 1024 * ph / 2 ^ (66 + s) < 10 := Nat.div_lt_of_lt_mul (by rw [Nat.mul_comm (2 ^ (66 + s))]; exact hext)
    generalize 1024 * ph / 2 ^ (66 + s) = o at this ⊢
    omega
  · apply usc_ceil mn ph s _ (by rcases hmn with h | h <;> omega) hph2 (hev _)
    rw [hD, hv, ← hmph]
    exact Nat.mul_le_mul_right _ (by rcases hmn with h | h <;> omega)
end Go.Proofs.YtkbohoolnpaleaaGreatDoor
namespace Go.Proofs.YtkbohoolnpaleaaGreatDoor
open Go.RowKit
set_option maxHeartbeats 1000000

theorem d_Mul64 (x y : Nat) (hx : x < 18446744073709551616) (hy : y < 18446744073709551616) (w : World) :
    Calls Tryz.prog 167 #[.int .u64 x, .int .u64 y] w fun e w' => e = .returned (.tuple #[.int .u64 ((x * y / 18446744073709551616 : Nat) : Int), .int .u64 ((x * y % 18446744073709551616 : Nat) : Int)]) ∧ w = w' := by
  obtain ⟨bd, bt, bw, hhi⟩ := Lib.mul64_hi x y hx hy
  have ba := Lib.half_mul_le (a := x / 4294967296) (b := y / 4294967296) (by omega) (by omega)
  have bb := Lib.half_mul_le (a := x / 4294967296) (b := y % 4294967296) (by omega) (by omega)
  have bc := Lib.half_mul_le (a := x % 4294967296) (b := y / 4294967296) (by omega) (by omega)
  have ba' : x / 4294967296 * (y / 4294967296) < 18446744073709551616 := by omega
  have bb' : x / 4294967296 * (y % 4294967296) < 18446744073709551616 := by omega
  have bc' : x % 4294967296 * (y / 4294967296) < 18446744073709551616 := by omega
  have bh1 : x / 4294967296 * (y / 4294967296) + (x / 4294967296 * (y % 4294967296) + x % 4294967296 * (y % 4294967296) / 4294967296) / 4294967296 < 18446744073709551616 := by omega
  have bh : x / 4294967296 * (y / 4294967296) + (x / 4294967296 * (y % 4294967296) + x % 4294967296 * (y % 4294967296) / 4294967296) / 4294967296 + ((x / 4294967296 * (y % 4294967296) + x % 4294967296 * (y % 4294967296) / 4294967296) % 4294967296 + x % 4294967296 * (y / 4294967296)) / 4294967296 < 18446744073709551616 := by omega
  go_enter Tryz.func167, Tryz.ntmps167
  go_wp2
  simp only [Mul64.maskN x hx, Mul64.maskN y hy, Mul64.divN, Mul64.mulN, Mul64.addN, Mul64.wrapN _ bd, Mul64.wrapN _ bb', Mul64.wrapN _ bt, Mul64.maskN _ bt, Mul64.wrapN _ bc', Mul64.wrapN _ bw, Mul64.wrapN _ ba', Mul64.wrapN _ bh1, Mul64.wrapN _ bh, Mul64.wrapM (x * y)]
  rw [hhi]
  go_ret2
  exact ⟨rfl, rfl⟩

theorem d_log10Pow2 (x : Int) (h1 : -100000 ≤ x) (h2 : x ≤ 100000) (w : World) :
    Calls Tryz.prog 125 #[.int .i64 x] w fun e w' => e = .returned (.int .i64 (x * 78913 / 262144)) ∧ w = w' := by
  go_enter Tryz.func125, Tryz.ntmps125
  go_wp2
  go_ret
  exact ⟨rfl, rfl⟩
theorem d_log2Pow10 (x : Int) (h1 : -100000 ≤ x) (h2 : x ≤ 100000) (w : World) :
    Calls Tryz.prog 147 #[.int .i64 x] w fun e w' => e = .returned (.int .i64 (x * 108853 / 32768)) ∧ w = w' := by
  go_enter Tryz.func147, Tryz.ntmps147
  go_wp2
  go_ret
  exact ⟨rfl, rfl⟩
theorem d_skewed (x : Int) (h1 : -100000 ≤ x) (h2 : x ≤ 100000) (w : World) :
    Calls Tryz.prog 145 #[.int .i64 x] w fun e w' => e = .returned (.int .i64 ((x * 631305 - 261663) / 2097152)) ∧ w = w' := by
  go_enter Tryz.func145, Tryz.ntmps145
  go_wp2
  go_ret
  exact ⟨rfl, rfl⟩
theorem d_bool2int (b : Bool) (w : World) : Calls Tryz.prog 153 #[.bool b] w fun e w' => e = .returned (.int .i64 (b2n b : Int)) ∧ w = w' := by
  cases b
  all_goals
    go_enter Tryz.func153, Tryz.ntmps153
    go_wp2
    go_ret
    exact ⟨rfl, rfl⟩
theorem d_bool2u64 (b : Bool) (w : World) : Calls Tryz.prog 168 #[.bool b] w fun e w' => e = .returned (.int .u64 (b2n b : Int)) ∧ w = w' := by
  cases b
  all_goals
    go_enter Tryz.func168, Tryz.ntmps168
    go_wp2
    go_ret
    exact ⟨rfl, rfl⟩
theorem d_nudge0 (u : Nat) (hu : u < 18446744073709551616) (w : World) : Calls Tryz.prog 149 #[.int .u64 (u : Int), .int .i64 0] w fun e w' => e = .returned (.int .u64 (u : Int)) ∧ w = w' := by
  have h : IntKind.u64.wrap (u : Int) = (u : Int) := by rw [IntKind.wrap_u64]; omega
  go_enter Tryz.func149, Tryz.ntmps149
  go_wp2
  go_ret
  exact ⟨rfl, rfl⟩
theorem d_uceil (u : Nat) (hu : u < 18446744073709551613) (w : World) : Calls Tryz.prog 150 #[.int .u64 (u : Int)] w fun e w' => e = .returned (.int .u64 (((u + 3) / 4 : Nat) : Int)) ∧ w = w' := by
  have h : IntKind.u64.wrap ((u : Int) + 3) = (u : Int) + 3 := by rw [IntKind.wrap_u64]; omega
  go_enter Tryz.func150, Tryz.ntmps150
  go_wp2
  go_ret
  exact ⟨rfl, rfl⟩
theorem d_ufloor (u : Nat) (hu : u < 18446744073709551616) (w : World) : Calls Tryz.prog 151 #[.int .u64 (u : Int)] w fun e w' => e = .returned (.int .u64 ((u / 4 : Nat) : Int)) ∧ w = w' := by
  have h : IntKind.u64.wrap (u : Int) = (u : Int) := by rw [IntKind.wrap_u64]; omega
  go_enter Tryz.func151, Tryz.ntmps151
  go_wp2
  go_ret
  exact ⟨rfl, rfl⟩
end Go.Proofs.YtkbohoolnpaleaaGreatDoor
namespace Go.Proofs.YtkbohoolnpaleaaGreatDoor
open Go.RowKit
set_option maxHeartbeats 1000000
set_option maxRecDepth 100000

theorem d_ret {k : IntKind} {a b : Int} (h : a = b) : Ending.returned (.int k a) = .returned (.int k b) := by rw [h]
set_option maxRecDepth 100000 in
theorem len8tab_sz : (Lib.len8tab.size : Int) = 256 := by
  have : Lib.len8tab.size = 256 := by decide
  omega
theorem l8_add (k a b : Nat) (hk : k ≤ 56) (ha : a ≤ 8) (hb : b = k + a) : RowKit.wrap64 ((k : Int) + RowKit.wrap64 (a : Int)) = (b : Int) := by
  unfold RowKit.wrap64
  omega
theorem l8_wrap (a : Nat) (ha : a ≤ 8) : RowKit.wrap64 (RowKit.wrap64 (a : Int)) = (a : Int) := by
  unfold RowKit.wrap64
  omega
theorem l8_get (y : Int) (h : y.toNat < Lib.len8tab.size) : ((Lib.len8tab[y.toNat]'h).toNat : Int) = Lib.len8 y := by
  unfold Lib.len8
  rw [getElem?_pos Lib.len8tab y.toNat h]
  rfl
set_option maxHeartbeats 8000000 in
theorem d_Len64 (x : Int) (w : World) (h0 : 0 ≤ x) (h1 : x ≤ 18446744073709551615) :
    Calls Tryz.prog 121 #[.int .u64 x] w fun e w' => e = .returned (.int .i64 (Lib.bitLen x.toNat)) ∧ w = w' := by
  go_enter Tryz.func121, Tryz.ntmps121
  go_wp2
  all_goals first
    | (go_ret; refine ⟨congrArg Ending.returned (congrArg (Value.int IntKind.i64) ?_), rfl⟩; go_light)
    | (exfalso
       go_light
       have hs := len8tab_sz
       omega)
  all_goals first
    | (rw [l8_get (x / 4294967296 / 65536 / 256) _, Lib.len8_of (x / 4294967296 / 65536 / 256) (by omega) (by omega)]
       have e : (x / 4294967296 / 65536 / 256).toNat = x.toNat / 72057594037927936 := by omega
       have l := Lib.bitLen_le8' (x / 4294967296 / 65536 / 256) (by omega) (by omega)
       have s := Lib.bitLen_shift56 x.toNat (by omega) (by omega)
       rw [e] at l ⊢
       exact l8_add 56 _ _ (by decide) l s)
    | (rw [l8_get (x / 4294967296 / 65536) _, Lib.len8_of (x / 4294967296 / 65536) (by omega) (by omega)]
       have e : (x / 4294967296 / 65536).toNat = x.toNat / 281474976710656 := by omega
       have l := Lib.bitLen_le8' (x / 4294967296 / 65536) (by omega) (by omega)
       have s := Lib.bitLen_shift48 x.toNat (by omega) (by omega)
       rw [e] at l ⊢
       exact l8_add 48 _ _ (by decide) l s)
    | (rw [l8_get (x / 4294967296 / 256) _, Lib.len8_of (x / 4294967296 / 256) (by omega) (by omega)]
       have e : (x / 4294967296 / 256).toNat = x.toNat / 1099511627776 := by omega
       have l := Lib.bitLen_le8' (x / 4294967296 / 256) (by omega) (by omega)
       have s := Lib.bitLen_shift40 x.toNat (by omega) (by omega)
       rw [e] at l ⊢
       exact l8_add 40 _ _ (by decide) l s)
    | (rw [l8_get (x / 4294967296) _, Lib.len8_of (x / 4294967296) (by omega) (by omega)]
       have e : (x / 4294967296).toNat = x.toNat / 4294967296 := by omega
       have l := Lib.bitLen_le8' (x / 4294967296) (by omega) (by omega)
       have s := Lib.bitLen_shift32 x.toNat (by omega) (by omega)
       rw [e] at l ⊢
       exact l8_add 32 _ _ (by decide) l s)
    | (rw [l8_get (x / 65536 / 256) _, Lib.len8_of (x / 65536 / 256) (by omega) (by omega)]
       have e : (x / 65536 / 256).toNat = x.toNat / 16777216 := by omega
       have l := Lib.bitLen_le8' (x / 65536 / 256) (by omega) (by omega)
       have s := Lib.bitLen_shift24 x.toNat (by omega) (by omega)
       rw [e] at l ⊢
       exact l8_add 24 _ _ (by decide) l s)
    | (rw [l8_get (x / 65536) _, Lib.len8_of (x / 65536) (by omega) (by omega)]
       have e : (x / 65536).toNat = x.toNat / 65536 := by omega
       have l := Lib.bitLen_le8' (x / 65536) (by omega) (by omega)
       have s := Lib.bitLen_shift16 x.toNat (by omega) (by omega)
       rw [e] at l ⊢
       exact l8_add 16 _ _ (by decide) l s)
    | (rw [l8_get (x / 256) _, Lib.len8_of (x / 256) (by omega) (by omega)]
       have e : (x / 256).toNat = x.toNat / 256 := by omega
       have l := Lib.bitLen_le8' (x / 256) (by omega) (by omega)
       have s := Lib.bitLen_shift8 x.toNat (by omega) (by omega)
       rw [e] at l ⊢
       exact l8_add 8 _ _ (by decide) l s)
    | (rw [l8_get (x) _, Lib.len8_of (x) (by omega) (by omega)]
       have e : (x).toNat = x.toNat := by omega
       have l := Lib.bitLen_le8' (x) (by omega) (by omega)
       exact l8_wrap _ l)
theorem and63 : ∀ s : Nat, s < 64 → bits BinOp.and IntKind.i64 (s : Int) 63 = (s : Int) := by decide +kernel
theorem pow_cast (a s : Nat) : (a : Int) / 2 ^ s = ((a / 2 ^ s : Nat) : Int) := by
  rw [Int.natCast_ediv]; congr 1
theorem d_uscale1 (x ph pl s b : Nat) (hx : x < 18446744073709551616) (hp : ph < 18446744073709551616) (hs : s < 64) (w : World)
    (c0 : w.cell? ⟨b, 0, none⟩ = some (.int .u64 (ph : Int))) (c2 : w.cell? ⟨b, 2, none⟩ = some (.int .i64 (s : Int)))
    (h : x * ph / W64 / 2 ^ s * 2 ^ s ≠ x * ph / W64) :
    Calls Tryz.prog 148 #[.int .u64 (x : Int), .pointer (some ⟨b, 0, none⟩)] w fun e w' => e = .returned (.int .u64 (usc x ph pl s : Int)) ∧ w = w' := by
  have hM := Lib.hid (fun w => d_Mul64 x ph hx hp w)
  have hhi : x * ph / 18446744073709551616 < 18446744073709551616 := Nat.div_lt_of_lt_mul (Nat.mul_lt_mul'' hx hp)
  have hu : usc x ph pl s = x * ph / W64 / 2 ^ s ||| 1 := by unfold usc; rw [if_pos h]
  rw [hu]
  clear hu
  rw [W64_eq] at *
  generalize x * ph / 18446744073709551616 = hi at *
  generalize x * ph % 18446744073709551616 = mid at *
  have hq : hi / 2 ^ s ≤ hi := Nat.div_le_self _ _
  have hr : hi / 2 ^ s * 2 ^ s ≤ hi := Nat.div_mul_le_self _ _
  have a1 := and63 s hs
  have a2 := pow_cast hi s
  have a3 : IntKind.u64.wrap (((hi / 2 ^ s : Nat) : Int) * 2 ^ s) = ((hi / 2 ^ s * 2 ^ s : Nat) : Int) := by
    have : ((hi / 2 ^ s : Nat) : Int) * 2 ^ s = ((hi / 2 ^ s * 2 ^ s : Nat) : Int) := by rw [Int.natCast_mul]; congr 1
    rw [this, IntKind.wrap_u64]; omega
  have a5 := bits_or_u64_nat (hi / 2 ^ s) 1 (by omega) (by omega)
  generalize hi / 2 ^ s = q at *
  generalize q * 2 ^ s = r at *
  have a4 : ((r : Int) != (hi : Int)) = true := by simp; omega
  clear h hq hr
  go_enter Tryz.func148, Tryz.ntmps148
  go_wp2_with (go_at_call 167; refine (hM.out _).mono ?_; rintro e w1 ⟨rfl, rfl⟩)
  go_ret
  exact ⟨d_ret a5, rfl⟩
theorem d_uscale2 (x ph s b : Nat) (hx : x < 18446744073709551616) (hp : ph < 18446744073709551616) (hs : s < 64) (w : World)
    (c0 : w.cell? ⟨b, 0, none⟩ = some (.int .u64 (ph : Int))) (c2 : w.cell? ⟨b, 2, none⟩ = some (.int .i64 (s : Int))) (c1 : w.cell? ⟨b, 1, none⟩ = some (.int .u64 0))
    (h : x * ph / W64 / 2 ^ s * 2 ^ s = x * ph / W64) :
    Calls Tryz.prog 148 #[.int .u64 (x : Int), .pointer (some ⟨b, 0, none⟩)] w fun e w' => e = .returned (.int .u64 (usc x ph 0 s : Int)) ∧ ∃ nq, w' = w.drewN nq := by
  have hM := Lib.hid (fun w => d_Mul64 x ph hx hp w)
  have hM2 := Lib.hid (fun w => d_Mul64 x 0 hx (by omega) w)
  rw [Nat.mul_zero, Nat.zero_div, Nat.zero_mod] at hM2
  have hhi : x * ph / 18446744073709551616 < 18446744073709551616 := Nat.div_lt_of_lt_mul (Nat.mul_lt_mul'' hx hp)
  have hmid : x * ph % 18446744073709551616 < 18446744073709551616 := Nat.mod_lt _ (by decide)
  have hu : usc x ph 0 s = x * ph / W64 / 2 ^ s ||| b2n (decide (1 < x * ph % W64)) := by
    unfold usc
    rw [if_neg (by rw [h]; exact fun e => e rfl)]
    rw [W64_eq] at *
    have e0 : x * 0 / 18446744073709551616 = 0 := by simp
    rw [e0]
    have e1 : decide (x * ph % 18446744073709551616 < 0) = false := by simp
    rw [e1]
    have e2 : b2n false = 0 := rfl
    rw [e2, Nat.sub_zero, Nat.sub_zero, Nat.add_mod_right, Nat.add_mod_right, Nat.mod_eq_of_lt hhi, Nat.mod_eq_of_lt hmid]
  rw [hu]
  clear hu
  rw [W64_eq] at *
  generalize x * ph / 18446744073709551616 = hi at *
  generalize x * ph % 18446744073709551616 = mid at *
  have hq : hi / 2 ^ s ≤ hi := Nat.div_le_self _ _
  have a1 := and63 s hs
  have a2 := pow_cast hi s
  have a3 : IntKind.u64.wrap (((hi / 2 ^ s : Nat) : Int) * 2 ^ s) = (hi : Int) := by
    have : ((hi / 2 ^ s : Nat) : Int) * 2 ^ s = ((hi / 2 ^ s * 2 ^ s : Nat) : Int) := by rw [Int.natCast_mul]; congr 1
    rw [this, IntKind.wrap_u64, h]; omega
  have hb : b2n (decide (1 < mid)) ≤ 1 := by cases decide (1 < mid) <;> decide
  have a5 := bits_or_u64_nat (hi / 2 ^ s) (b2n (decide (1 < mid))) (by omega) (by omega)
  have hB := Lib.hid (fun w => d_bool2u64 (decide (1 < mid)) w)
  have hB0' : ∀ w : World, Calls Tryz.prog 168 #[.bool false] w fun e w' => e = .returned (.int .u64 0) ∧ w = w' := fun w => d_bool2u64 false w
  have hB0 := Lib.hid hB0'
  clear hB0'
  generalize hi / 2 ^ s = q at *
  have a4 : ((hi : Int) != (hi : Int)) = false := by simp
  have a6 : decide ((mid : Int) < 0) = false := by simp
  have a7 : decide ((1 : Int) < (mid : Int)) = decide (1 < mid) := by apply decide_eq_decide.2; omega
  have a8 : IntKind.u64.wrap (hi : Int) = (hi : Int) := by rw [IntKind.wrap_u64]; omega
  have a9 : IntKind.u64.wrap (mid : Int) = (mid : Int) := by rw [IntKind.wrap_u64]; omega
  clear h hq hmid hhi
  generalize decide (1 < mid) = d at *
  generalize b2n d = dn at *
  go_enter Tryz.func148, Tryz.ntmps148
  go_wp2_with fail
  refine (hM.out _).mono ?_
  rintro e w1 ⟨rfl, rfl⟩
  go_wp2_with fail
  refine (hM2.out _).mono ?_
  rintro e w1 ⟨rfl, rfl⟩
  go_wp2_with fail
  refine (hB0.out _).mono ?_
  rintro e w1 ⟨rfl, rfl⟩
  go_wp2_with fail
  go_quiet ((go_at_call 168; exact Calls.quiet_of_same ((hB.out _).mono fun _ _ ⟨h1, h2⟩ => ⟨h1, h2.symm⟩)))
  go_wp2_with fail
  go_ret
  exact ⟨rfl, _, rfl⟩
theorem d_uscale (x ph s b : Nat) (hx : x < 18446744073709551616) (hp : ph < 18446744073709551616) (hs : s < 64) (w : World)
    (c0 : w.cell? ⟨b, 0, none⟩ = some (.int .u64 (ph : Int))) (c1 : w.cell? ⟨b, 1, none⟩ = some (.int .u64 0)) (c2 : w.cell? ⟨b, 2, none⟩ = some (.int .i64 (s : Int))) :
    Calls Tryz.prog 148 #[.int .u64 (x : Int), .pointer (some ⟨b, 0, none⟩)] w fun e w' => e = .returned (.int .u64 (usc x ph 0 s : Int)) ∧ ∃ nq, w' = w.drewN nq := by
  by_cases h : x * ph / W64 / 2 ^ s * 2 ^ s = x * ph / W64
  · exact d_uscale2 x ph s b hx hp hs w c0 c2 c1 h
  · exact (d_uscale1 x ph 0 s b hx hp hs w c0 c2 h).mono fun e w' ⟨h1, h2⟩ => ⟨h1, 0, by rw [← h2]; rfl⟩
theorem d_prescale (b : Nat) (e p lp : Int) (hi lo : Int) (h1 : -348 ≤ p) (h2 : p ≤ 347) (h3 : -2000 ≤ e) (h4 : e ≤ 2000) (h5 : -2000 ≤ lp) (h6 : lp ≤ 2000) (w : World)
    (c0 : w.cell? ⟨b, 0, none⟩ = some (.int .u64 0)) (c1 : w.cell? ⟨b, 1, none⟩ = some (.int .u64 0)) (c2 : w.cell? ⟨b, 2, none⟩ = some (.int .i64 0))
    (f0 : w.frozen? ⟨b, 0, none⟩ = false) (f1 : w.frozen? ⟨b, 1, none⟩ = false) (f2 : w.frozen? ⟨b, 2, none⟩ = false)
    (t0 : w.cell? ⟨5, (p + 348).toNat * 2, none⟩ = some (.int .u64 hi)) (t1 : w.cell? ⟨5, (p + 348).toNat * 2 + 1, none⟩ = some (.int .u64 lo)) :
    Calls Tryz.prog 146 #[.pointer (some ⟨b, 0, none⟩), .int .i64 e, .int .i64 p, .int .i64 lp] w fun r w' => r = .returned (.tuple #[]) ∧ w' = ((w.setCell ⟨b, 0, none⟩ (.int .u64 hi)).setCell ⟨b, 1, none⟩ (.int .u64 lo)).setCell ⟨b, 2, none⟩ (.int .i64 (-(e + lp + 3))) := by
  go_enter Tryz.func146, Tryz.ntmps146
  go_wp2_with fail
  go_end0
  exact ⟨rfl, rfl⟩
end Go.Proofs.YtkbohoolnpaleaaGreatDoor
namespace Go.Proofs.YtkbohoolnpaleaaGreatDoor
open Go.RowKit
set_option maxHeartbeats 1000000
set_option maxRecDepth 100000

/-- the table of powers of ten, where it is exact -/
def Pows (w : World) : Prop := ∀ p : Nat, 7 ≤ p → p ≤ 17 → w.cell? ⟨5, (p + 348) * 2, none⟩ = some (.int .u64 ((10 ^ p * 2 ^ (63 - (l2 p).toNat) : Nat) : Int)) ∧ w.cell? ⟨5, (p + 348) * 2 + 1, none⟩ = some (.int .u64 0)
theorem lt_of_cell {w : World} {a : Addr} {u : Value} (h : w.cell? a = some u) : a.block < w.heap.size := by
  rcases Nat.lt_or_ge a.block w.heap.size with h1 | h1
  · exact h1
  · unfold World.cell? at h
    rw [Array.getElem?_eq_none h1] at h
    simp at h
theorem and1_even (m : Nat) (h : m < 9223372036854775808) (h2 : m % 2 = 0) : bits BinOp.and IntKind.i64 (m : Int) 1 = 0 := by
  have h0 : (BitVec.ofInt 64 (m : Int)) = BitVec.ofNat 64 m := by
    apply BitVec.eq_of_toNat_eq
    simp
  have key : (BitVec.ofInt 64 (m : Int) &&& BitVec.ofInt 64 1).toNat = 0 := by
    rw [h0, BitVec.toNat_and]
    have e1 : (BitVec.ofNat 64 m).toNat = m := by simp; omega
    have e2 : (BitVec.ofInt 64 1).toNat = 1 := by decide
    rw [e1, e2, Nat.and_one_is_mod]; exact h2
  show IntKind.i64.wrap ((BitVec.ofInt 64 (m : Int) &&& BitVec.ofInt 64 1).toNat : Nat) = _
  rw [key]; rfl
/-- a scaler lies in block b; below it nothing has turned since w -/
def Sc (b ph s : Nat) (w w' : World) : Prop := w'.cell? ⟨b, 0, none⟩ = some (.int .u64 (ph : Int)) ∧ w'.cell? ⟨b, 1, none⟩ = some (.int .u64 0) ∧ w'.cell? ⟨b, 2, none⟩ = some (.int .i64 (s : Int)) ∧ Below b w w'
theorem below_drewN {B : Nat} {a w : World} (h : Below B a w) (n : Nat) : Below B a (w.drewN n) := ⟨h.os, h.tape, h.output, h.size, h.block⟩
theorem set_other {w : World} {b i j : Nat} {v : Value} (h : i ≠ j) : (w.setCell ⟨b, i, none⟩ v).cell? ⟨b, j, none⟩ = w.cell? ⟨b, j, none⟩ :=
  World.cell?_setCell_other w _ _ v (fun e => h (by injection e))
theorem set_sameD {w : World} {b i : Nat} {u v : Value} (h : w.cell? ⟨b, i, none⟩ = some u) : (w.setCell ⟨b, i, none⟩ v).cell? ⟨b, i, none⟩ = some v :=
  World.cell?_setCell_same w _ v h
theorem c_prescale (b ph s p lp : Nat) (e : Int) (h2 : p ≤ 347) (h3 : -2000 ≤ e) (h4 : e ≤ 2000) (h6 : lp ≤ 2000) (hs : -(e + lp + 3) = (s : Int)) (w W : World) (hW : Below b w W)
    (c0 : W.cell? ⟨b, 0, none⟩ = some (.int .u64 0)) (c1 : W.cell? ⟨b, 1, none⟩ = some (.int .u64 0)) (c2 : W.cell? ⟨b, 2, none⟩ = some (.int .i64 0))
    (f0 : W.frozen? ⟨b, 0, none⟩ = false) (f1 : W.frozen? ⟨b, 1, none⟩ = false) (f2 : W.frozen? ⟨b, 2, none⟩ = false)
    (t0 : W.cell? ⟨5, (p + 348) * 2, none⟩ = some (.int .u64 (ph : Int))) (t1 : W.cell? ⟨5, (p + 348) * 2 + 1, none⟩ = some (.int .u64 0)) :
    Calls Tryz.prog 146 #[.pointer (some ⟨b, 0, none⟩), .int .i64 e, .int .i64 (p : Int), .int .i64 (lp : Int)] W fun r w' => r = .returned (.tuple #[]) ∧ Sc b ph s w w' := by
  have e1 : ((p : Int) + 348).toNat = p + 348 := by omega
  refine (d_prescale b e (p : Int) (lp : Int) (ph : Int) 0 (by omega) (by omega) h3 h4 (by omega) (by omega) W c0 c1 c2 f0 f1 f2 (by rw [e1]; exact t0) (by rw [e1]; exact t1)).mono ?_
  rintro r w' ⟨rfl, rfl⟩
  rw [hs]
  refine ⟨rfl, ?_, ?_, ?_, ((hW.setCell (Nat.le_refl _) _).setCell (Nat.le_refl _) _).setCell (Nat.le_refl _) _⟩
  · exact (set_other (by decide)).trans ((set_other (by decide)).trans (set_sameD c0))
  · exact (set_other (by decide)).trans (set_sameD ((set_other (by decide)).trans c1))
  · exact set_sameD ((set_other (by decide)).trans ((set_other (by decide)).trans c2))
theorem c_uscale (x ph s b : Nat) (hx : x < 18446744073709551616) (hp : ph < 18446744073709551616) (hs : s < 64) (w W : World) (h : Sc b ph s w W) :
    Calls Tryz.prog 148 #[.int .u64 (x : Int), .pointer (some ⟨b, 0, none⟩)] W fun e w' => e = .returned (.int .u64 (usc x ph 0 s : Int)) ∧ Sc b ph s w w' := by
  obtain ⟨c0, c1, c2, hb⟩ := h
  refine (d_uscale x ph s b hx hp hs W c0 c1 c2).mono ?_
  rintro e w' ⟨rfl, nq, rfl⟩
  exact ⟨rfl, c0, c1, c2, below_drewN hb nq⟩
theorem d_short (i k : Nat) (hk : 1 ≤ k) (hk2 : k ≤ 32) (hi : i < 2 ^ k) (hi0 : 2 ^ (k - 1) ≤ i) (w : World) (hT : Pows w) :
    Calls Tryz.prog 130 #[.int .u64 ((i * 2 ^ (64 - k) : Nat) : Int), .int .i64 ((k : Int) - 64)] w fun e w' => ∃ q : Nat, e = .returned (.tuple #[.int .u64 ((i * 10 ^ q : Nat) : Int), .int .i64 (-(q : Int))]) ∧ q ≤ 16 ∧ i * 10 ^ q < 1000000000000000000 ∧ Below w.heap.size w w' := by
  have hmlt : i * 2 ^ (64 - k) + 1024 < 18446744073709551616 ∧ 9223372036854775808 ≤ i * 2 ^ (64 - k) := by
    have e1 : (2 : Nat) ^ 64 = 2 ^ k * 2 ^ (64 - k) := by rw [← Nat.pow_add]; congr 1; omega
    have e2 : (2 : Nat) ^ 63 = 2 ^ (k - 1) * 2 ^ (64 - k) := by rw [← Nat.pow_add]; congr 1; omega
    have h1 : (i + 1) * 2 ^ (64 - k) ≤ 2 ^ k * 2 ^ (64 - k) := Nat.mul_le_mul_right _ hi
    have h2 : 2 ^ (k - 1) * 2 ^ (64 - k) ≤ i * 2 ^ (64 - k) := Nat.mul_le_mul_right _ hi0
    have h3 : (2 : Nat) ^ 32 ≤ 2 ^ (64 - k) := Nat.pow_le_pow_right (by decide) (by omega)
    rw [Nat.add_mul] at h1
    have e3 : (2 : Nat) ^ 64 = 18446744073709551616 := by decide
    have e4 : (2 : Nat) ^ 63 = 9223372036854775808 := by decide
    have e5 : (2 : Nat) ^ 32 = 4294967296 := by decide
    omega
  obtain ⟨hm1, hm2⟩ := hmlt
  have hodd : i * 2 ^ (64 - k) / 2048 % 2 = 0 := by
    have : 2 ^ (64 - k) = 2 ^ (52 - k) * 4096 := by rw [show (4096 : Nat) = 2 ^ 12 from rfl, ← Nat.pow_add]; congr 1; omega
    rw [this, ← Nat.mul_assoc]; omega
  have hodd' := and1_even (i * 2 ^ (64 - k) / 2048) (by omega) hodd
  have hodd2 : bits BinOp.and IntKind.i64 (wrap64 (((i * 2 ^ (64 - k) : Nat) : Int) / 2048)) 1 = 0 := by
    have e : wrap64 (((i * 2 ^ (64 - k) : Nat) : Int) / 2048) = ((i * 2 ^ (64 - k) / 2048 : Nat) : Int) := by
      unfold wrap64; omega
    rw [e]; exact hodd'
  clear hodd'
  have hF := kFacts_all (decide (i * 2 ^ (64 - k) = 9223372036854775808)) k (by omega) hk
  have hpl := short_plain i k
  generalize i * 2 ^ (64 - k) = m at *
  unfold kFacts at hF
  generalize hb : decide (m = 9223372036854775808) = b at *
  generalize pOf b k = p at *
  simp only [Bool.and_eq_true, decide_eq_true_eq] at hF
  obtain ⟨⟨⟨⟨⟨⟨⟨g1, g2⟩, g3⟩, g4⟩, g5⟩, g6⟩, g7⟩, g8⟩ := hF
  obtain ⟨t0, t1⟩ := hT p g3 g4
  have h5 : 5 < w.heap.size := lt_of_cell t0
  generalize hlp : (l2 p).toNat = lp at *
  have hph : 10 ^ p * 2 ^ (63 - lp) < W64 := g8
  have hpl2 := fun mn mx => hpl p lp (61 - k - lp) (10 ^ p * 2 ^ (63 - lp)) mn mx hk hk2 g3 g5 g6 g7 rfl hph rfl
  clear hpl hT
  generalize 10 ^ p * 2 ^ (63 - lp) = ph at *
  have hq : i * 10 ^ (p - 1) < 1000000000000000000 := by
    have h1 : i * 10 ^ p < 2 ^ k * (10 * 2 ^ (54 - k)) := Nat.mul_lt_mul'' hi g7
    have e1 : 2 ^ k * (10 * 2 ^ (54 - k)) = 10 * 2 ^ 54 := by
      rw [Nat.mul_left_comm, ← Nat.pow_add]
      have : k + (54 - k) = 54 := by omega
      rw [this]
    have e2 : i * 10 ^ p = i * 10 ^ (p - 1) * 10 := by
      rw [Nat.mul_assoc, ← Nat.pow_succ]
      have : (p - 1).succ = p := by omega
      rw [this]
    have e3 : 10 * 2 ^ 54 = 180143985094819840 := by decide
    omega
  cases b with
  | true =>
    have hne : m = 9223372036854775808 := by simpa using hb
    obtain ⟨s1, s2, s3, s4⟩ := hpl2 (m - 512) (m + 1024) rfl (.inr rfl) (by rw [W64_eq]; omega)
    have n1 : ((m : Int) == 9223372036854775808) = true := by simp; omega
    have n2 : IntKind.u64.wrap ((m : Int) - 512) = ((m - 512 : Nat) : Int) := by rw [IntKind.wrap_u64]; omega
    have n3 : IntKind.u64.wrap ((m : Int) + 1024) = ((m + 1024 : Nat) : Int) := by rw [IntKind.wrap_u64]; omega
    have hl0 : ∀ w : World, Calls Tryz.prog 145 #[.int .i64 ((k : Int) - 64 + 11)] w fun e w' => e = .returned (.int .i64 (-(p : Int))) ∧ w = w' := by
      intro w
      have h := d_skewed ((k : Int) - 64 + 11) (by omega) (by omega) w
      have e : (((k : Int) - 64 + 11) * 631305 - 261663) / 2097152 = -(p : Int) := by
        unfold skw at g1
        simp only [if_true] at g1
        have : (k : Int) - 64 + 11 = (k : Int) - 53 := by omega
        rw [this]; omega
      rw [e] at h
      exact h
    have hl2 : ∀ w : World, Calls Tryz.prog 147 #[.int .i64 (p : Int)] w fun e w' => e = .returned (.int .i64 (lp : Int)) ∧ w = w' := by
      intro w
      have h := d_log2Pow10 (p : Int) (by omega) (by omega) w
      have e : (p : Int) * 108853 / 32768 = (lp : Int) := g2
      rw [e] at h
      exact h
    have hl0 := Lib.hid hl0
    have hl2' := Lib.hid hl2
    clear hne hl2 g1 g2 g7 g8 hb hi hi0
    have hX1 : m - 512 < 18446744073709551616 := by omega
    have hX2 : m + 1024 < 18446744073709551616 := hm1
    have hS : -((k : Int) - 64 + lp + 3) = ((61 - k - lp : Nat) : Int) := by omega
    have hS64 : 61 - k - lp < 64 := by omega
    generalize m - 512 = mn at *
    generalize m + 1024 = mx at *
    generalize 61 - k - lp = s at *
    have hP := Lib.hid (fun W hW => c_prescale w.heap.size ph s p lp ((k : Int) - 64) (by omega) (by omega) (by omega) (by omega) hS w W hW)
    have hU1 := Lib.hid (fun W => c_uscale mn ph s w.heap.size hX1 hph hS64 w W)
    have hU2 := Lib.hid (fun W => c_uscale mx ph s w.heap.size hX2 hph hS64 w W)
    have hn1 := Lib.hid (fun W => d_nudge0 (usc mn ph 0 s) (by omega) W)
    have hn2 := Lib.hid (fun W => d_nudge0 (usc mx ph 0 s) (by omega) W)
    have hc := Lib.hid (fun W => d_uceil (usc mn ph 0 s) (by omega) W)
    have hf := Lib.hid (fun W => d_ufloor (usc mx ph 0 s) (by omega) W)
    have hle : usc mx ph 0 s / 4 ≤ 4611686018427387904 := by omega
    generalize usc mn ph 0 s = un at *
    generalize usc mx ph 0 s = ux at *
    generalize (un + 3) / 4 = dn at *
    generalize ux / 4 = dx at *
    generalize hdd : i * 10 ^ (p - 1) = d at *
    replace hdd := Lib.hid hdd
    have q1 : (dx : Int) / 10 = (d : Int) := by omega
    have q2 : IntKind.u64.wrap ((d : Int) * 10) = (d : Int) * 10 := by rw [IntKind.wrap_u64]; omega
    have q3 : (dn : Int) ≤ (d : Int) * 10 := by omega
    clear hS hX1 hX2 s3 s4 hm1 hm2 hodd hpl2 hph s1 s2 hle
    have q1 := q1
    go_enter Tryz.func130, Tryz.ntmps130
    go_wp2_with (first | (go_at_call 145; refine (hl0.out _).mono ?_; rintro e w1 ⟨rfl, rfl⟩) | (go_at_call 147; refine (hl2'.out _).mono ?_; rintro e w1 ⟨rfl, rfl⟩))
    refine (hP.out _ ((Below.refl _ _).alloc (Nat.le_refl _) _) ?_ ?_ ?_ ?_ ?_ ?_ ?_ ?_).mono ?_
    case refine_9 =>
      rintro e w1 ⟨rfl, hsc⟩
      go_wp2_with fail
      refine (hU1.out _ hsc).mono ?_
      rintro e w2 ⟨rfl, hsc2⟩
      go_wp2_with fail
      refine (hn1.out _).mono ?_
      rintro e w3 ⟨rfl, rfl⟩
      go_wp2_with fail
      refine (hc.out _).mono ?_
      rintro e w3 ⟨rfl, rfl⟩
      go_wp2_with fail
      refine (hU2.out _ hsc2).mono ?_
      rintro e w3 ⟨rfl, hsc3⟩
      go_wp2_with fail
      refine (hn2.out _).mono ?_
      rintro e w4 ⟨rfl, rfl⟩
      go_wp2_with fail
      refine (hf.out _).mono ?_
      rintro e w4 ⟨rfl, rfl⟩
      go_wp2_with fail
      refine bodyPost_ret (v := .tuple #[.int .u64 (d : Int), .int .i64 (-((p : Int) - 1))]) (by simp [results, Tryz.results130, go_sem]) rfl ?_
      have hp1 : -((p : Int) - 1) = -((p - 1 : Nat) : Int) := by omega
      refine ⟨p - 1, ?_, by omega, by rw [hdd.out]; exact hq, hsc3.2.2.2⟩
      rw [hdd.out, hp1]
    case refine_1 => simp
    case refine_2 => simp
    case refine_3 => simp
    case refine_4 => simp
    case refine_5 => simp
    case refine_6 => simp
    case refine_7 => exact (World.cell?_alloc_lt _ _ _ h5).trans t0
    case refine_8 => exact (World.cell?_alloc_lt _ _ _ h5).trans t1
  | false =>
    have hne : m ≠ 9223372036854775808 := by simpa using hb
    obtain ⟨s1, s2, s3, s4⟩ := hpl2 (m - 1024) (m + 1024) rfl (.inl rfl) (by rw [W64_eq]; omega)
    have n1 : ((m : Int) == 9223372036854775808) = false := by simp; omega
    have n2 : IntKind.u64.wrap ((m : Int) - 1024) = ((m - 1024 : Nat) : Int) := by rw [IntKind.wrap_u64]; omega
    have n3 : IntKind.u64.wrap ((m : Int) + 1024) = ((m + 1024 : Nat) : Int) := by rw [IntKind.wrap_u64]; omega
    have hl0 : ∀ w : World, Calls Tryz.prog 125 #[.int .i64 ((k : Int) - 64 + 11)] w fun e w' => e = .returned (.int .i64 (-(p : Int))) ∧ w = w' := by
      intro w
      have h := d_log10Pow2 ((k : Int) - 64 + 11) (by omega) (by omega) w
      have e : ((k : Int) - 64 + 11) * 78913 / 262144 = -(p : Int) := by
        unfold l10 at g1
        simp only [if_false, Bool.false_eq_true] at g1
        have : (k : Int) - 64 + 11 = (k : Int) - 53 := by omega
        rw [this]; omega
      rw [e] at h
      exact h
    have hl2 : ∀ w : World, Calls Tryz.prog 147 #[.int .i64 (p : Int)] w fun e w' => e = .returned (.int .i64 (lp : Int)) ∧ w = w' := by
      intro w
      have h := d_log2Pow10 (p : Int) (by omega) (by omega) w
      have e : (p : Int) * 108853 / 32768 = (lp : Int) := g2
      rw [e] at h
      exact h
    have hl0 := Lib.hid hl0
    have hl2' := Lib.hid hl2
    clear hl2 g1 g2 g7 g8 hb hi hi0
    have hX1 : m - 1024 < 18446744073709551616 := by omega
    have hX2 : m + 1024 < 18446744073709551616 := hm1
    have hS : -((k : Int) - 64 + lp + 3) = ((61 - k - lp : Nat) : Int) := by omega
    have hS64 : 61 - k - lp < 64 := by omega
    generalize m - 1024 = mn at *
    generalize m + 1024 = mx at *
    generalize 61 - k - lp = s at *
    have hP := Lib.hid (fun W hW => c_prescale w.heap.size ph s p lp ((k : Int) - 64) (by omega) (by omega) (by omega) (by omega) hS w W hW)
    have hU1 := Lib.hid (fun W => c_uscale mn ph s w.heap.size hX1 hph hS64 w W)
    have hU2 := Lib.hid (fun W => c_uscale mx ph s w.heap.size hX2 hph hS64 w W)
    have hn1 := Lib.hid (fun W => d_nudge0 (usc mn ph 0 s) (by omega) W)
    have hn2 := Lib.hid (fun W => d_nudge0 (usc mx ph 0 s) (by omega) W)
    have hc := Lib.hid (fun W => d_uceil (usc mn ph 0 s) (by omega) W)
    have hf := Lib.hid (fun W => d_ufloor (usc mx ph 0 s) (by omega) W)
    have hle : usc mx ph 0 s / 4 ≤ 4611686018427387904 := by omega
    generalize usc mn ph 0 s = un at *
    generalize usc mx ph 0 s = ux at *
    generalize (un + 3) / 4 = dn at *
    generalize ux / 4 = dx at *
    generalize hdd : i * 10 ^ (p - 1) = d at *
    replace hdd := Lib.hid hdd
    have q1 : (dx : Int) / 10 = (d : Int) := by omega
    have q2 : IntKind.u64.wrap ((d : Int) * 10) = (d : Int) * 10 := by rw [IntKind.wrap_u64]; omega
    have q3 : (dn : Int) ≤ (d : Int) * 10 := by omega
    clear hS hX1 hX2 s3 s4 hm1 hm2 hodd hpl2 hph s1 s2 hle
    have q1 := q1
    go_enter Tryz.func130, Tryz.ntmps130
    go_wp2_with (first | (go_at_call 125; refine (hl0.out _).mono ?_; rintro e w1 ⟨rfl, rfl⟩) | (go_at_call 147; refine (hl2'.out _).mono ?_; rintro e w1 ⟨rfl, rfl⟩))
    refine (hP.out _ ((Below.refl _ _).alloc (Nat.le_refl _) _) ?_ ?_ ?_ ?_ ?_ ?_ ?_ ?_).mono ?_
    case refine_9 =>
      rintro e w1 ⟨rfl, hsc⟩
      go_wp2_with fail
      refine (hU1.out _ hsc).mono ?_
      rintro e w2 ⟨rfl, hsc2⟩
      go_wp2_with fail
      refine (hn1.out _).mono ?_
      rintro e w3 ⟨rfl, rfl⟩
      go_wp2_with fail
      refine (hc.out _).mono ?_
      rintro e w3 ⟨rfl, rfl⟩
      go_wp2_with fail
      refine (hU2.out _ hsc2).mono ?_
      rintro e w3 ⟨rfl, hsc3⟩
      go_wp2_with fail
      refine (hn2.out _).mono ?_
      rintro e w4 ⟨rfl, rfl⟩
      go_wp2_with fail
      refine (hf.out _).mono ?_
      rintro e w4 ⟨rfl, rfl⟩
      go_wp2_with fail
      refine bodyPost_ret (v := .tuple #[.int .u64 (d : Int), .int .i64 (-((p : Int) - 1))]) (by simp [results, Tryz.results130, go_sem]) rfl ?_
      have hp1 : -((p : Int) - 1) = -((p - 1 : Nat) : Int) := by omega
      refine ⟨p - 1, ?_, by omega, by rw [hdd.out]; exact hq, hsc3.2.2.2⟩
      rw [hdd.out, hp1]
    case refine_1 => simp
    case refine_2 => simp
    case refine_3 => simp
    case refine_4 => simp
    case refine_5 => simp
    case refine_6 => simp
    case refine_7 => exact (World.cell?_alloc_lt _ _ _ h5).trans t0
    case refine_8 => exact (World.cell?_alloc_lt _ _ _ h5).trans t1
end Go.Proofs.YtkbohoolnpaleaaGreatDoor
namespace Go.Proofs.YtkbohoolnpaleaaGreatDoor
open Go.RowKit
set_option maxHeartbeats 1000000
set_option maxRecDepth 100000

/-- the table of powers of ten as words -/
def P10 (w : World) : Prop := ∀ i : Nat, i < 20 → w.cell? ⟨4, i, none⟩ = some (.int .u64 ((10 ^ i : Nat) : Int))
def ndFacts (L : Nat) : Bool :=
  let l := L * 78913 / 262144
  decide (2 ^ L ≤ 10 ^ (l + 1)) && decide (l < 20) && (decide (l = 0) || decide (10 ^ (l - 1) ≤ 2 ^ (L - 1)))
theorem ndFacts_all : ∀ L : Nat, L < 65 → ndFacts L = true := by decide +kernel
theorem bitLen_lib (d : Nat) (hd : d < 2 ^ 64) : d < 2 ^ Lib.bitLen d ∧ (d ≠ 0 → 2 ^ (Lib.bitLen d - 1) ≤ d) := by
  induction d using Nat.strongRecOn with
  | ind d ih =>
    by_cases h : d = 0
    · subst h; exact ⟨by decide, fun h => absurd rfl h⟩
    · by_cases hd1 : d = 1
      · subst hd1; exact ⟨by decide, fun _ => by decide⟩
      rw [Lib.bitLen_half d h hd]
      obtain ⟨h1, h2⟩ := ih (d / 2) (by omega) (by omega)
      generalize Lib.bitLen (d / 2) = L at *
      have e : 2 ^ (1 + L) = 2 * 2 ^ L := by rw [Nat.pow_add]
      rw [e]
      refine ⟨by omega, fun _ => ?_⟩
      have : 1 + L - 1 = L := by omega
      rw [this]
      have h3 := h2 (by omega)
      · have hL : 1 ≤ L := by
          rcases Nat.eq_zero_or_pos L with h' | h'
          · subst h'; simp at h1; omega
          · exact h'
        have e2 : 2 ^ L = 2 * 2 ^ (L - 1) := by rw [← Nat.pow_succ']; congr 1; omega
        omega
theorem c_numDigits (d : Nat) (h0 : 0 < d) (h1 : d < 1000000000000000000) (w : World) (hT : P10 w) :
    Calls Tryz.prog 124 #[.int .u64 (d : Int)] w fun e w' => ∃ n : Nat, e = .returned (.int .i64 (n : Int)) ∧ IsNd d n ∧ w = w' := by
  have e64 : (2 : Nat) ^ 64 = 18446744073709551616 := by decide
  obtain ⟨b1, b2⟩ := bitLen_lib d (by omega)
  clear e64
  have b2 := b2 (by omega)
  have hlen := fun w => d_Len64 (d : Int) w (by omega) (by omega)
  have et : (d : Int).toNat = d := by omega
  rw [et] at hlen
  have hL : Lib.bitLen d < 65 := by
    rcases Nat.lt_or_ge (Lib.bitLen d) 65 with h | h
    · exact h
    · exfalso
      have := Nat.pow_le_pow_right (n := 2) (by decide) (show 64 ≤ Lib.bitLen d - 1 by omega)
      have e : (2 : Nat) ^ 64 = 18446744073709551616 := by decide
      omega
  have hL1 : 1 ≤ Lib.bitLen d := by
    rcases Nat.eq_zero_or_pos (Lib.bitLen d) with h | h
    · rw [h] at b1; simp at b1; omega
    · exact h
  have hf := ndFacts_all _ hL
  generalize Lib.bitLen d = L at *
  unfold ndFacts at hf
  have hlog0 := fun w => d_log10Pow2 (L : Int) (by omega) (by omega) w
  have hlog : ∀ w : World, Calls Tryz.prog 125 #[.int .i64 (L : Int)] w fun e w' => e = .returned (.int .i64 ((L * 78913 / 262144 : Nat) : Int)) ∧ w = w' := hlog0
  clear hlog0
  generalize L * 78913 / 262144 = l at *
  simp only [Bool.and_eq_true, Bool.or_eq_true, decide_eq_true_eq] at hf
  obtain ⟨⟨f1, f2⟩, f3⟩ := hf
  have hc := hT l f2
  have hres : IsNd d (l + b2n (decide (10 ^ l ≤ d))) := by
    by_cases h : 10 ^ l ≤ d
    · have e : b2n (decide (10 ^ l ≤ d)) = 1 := by rw [decide_eq_true h]; rfl
      rw [e]
      exact ⟨by omega, by simpa using h, Nat.lt_of_lt_of_le b1 f1⟩
    · have e : b2n (decide (10 ^ l ≤ d)) = 0 := by rw [decide_eq_false h]; rfl
      rw [e, Nat.add_zero]
      rcases f3 with f3 | f3
      · subst f3; simp at h; omega
      · have hl1 : 1 ≤ l := by
          rcases Nat.eq_zero_or_pos l with h' | h'
          · subst h'; simp at h; omega
          · exact h'
        exact ⟨hl1, Nat.le_trans f3 b2, by omega⟩
  have hB := Lib.hid (fun w => d_bool2int (decide (10 ^ l ≤ d)) w)
  have hb1 : b2n (decide (10 ^ l ≤ d)) ≤ 1 := by cases decide (10 ^ l ≤ d) <;> decide
  generalize hbb : decide (10 ^ l ≤ d) = bb at *
  generalize b2n bb = r at *
  replace hlen := Lib.hid hlen
  replace hlog := Lib.hid hlog
  replace hres := Lib.hid hres
  clear hT f1 f3 b1 b2 et
  generalize 10 ^ l = T at *
  go_enter Tryz.func124, Tryz.ntmps124
  go_wp2_with (first | (go_at_call 121; refine (hlen.out _).mono ?_; rintro e w1 ⟨rfl, rfl⟩) | (go_at_call 125; refine (hlog.out _).mono ?_; rintro e w1 ⟨rfl, rfl⟩) | (go_at_call 153; refine (hB.out _).mono ?_; rintro e w1 ⟨rfl, rfl⟩))
  go_ret
  exact ⟨l + r, by go_num, hres.out, rfl⟩
end Go.Proofs.YtkbohoolnpaleaaGreatDoor
