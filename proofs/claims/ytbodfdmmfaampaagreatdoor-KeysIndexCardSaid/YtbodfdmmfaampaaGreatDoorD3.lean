/-
  Plain facts on the scaling of a number by a power of ten, where it is exact; on whole numbers of 32 bits.
-/
import Derived.Test.YtbodfdmmfaampaaGreatDoorD1
namespace Go.Proofs.YtbodfdmmfaampaaGreatDoor

def b2n (b : Bool) : Nat := if b then 1 else 0
def W64 : Nat := 18446744073709551616
theorem W64_eq : W64 = 18446744073709551616 := rfl
/-- what uscale answers -/
def usc (x ph pl s : Nat) : Nat :=
  if x * ph / W64 / 2 ^ s * 2 ^ s ≠ x * ph / W64 then x * ph / W64 / 2 ^ s ||| 1
  else ((x * ph / W64 + W64 - b2n (decide (x * ph % W64 < x * pl / W64))) % W64) / 2 ^ s ||| b2n (decide (1 < (x * ph % W64 + W64 - x * pl / W64) % W64))
theorem or_one (q : Nat) : q ||| 1 = q / 2 * 2 + 1 := by
  apply Nat.eq_of_testBit_eq
  intro i
  cases i with
  | zero => simp [Nat.testBit_zero]
  | succ j =>
    rw [Nat.testBit_or, Nat.testBit_succ, Nat.testBit_succ, Nat.testBit_succ]
    have : (q / 2 * 2 + 1) / 2 = q / 2 := by omega
    rw [this]; simp
theorem or_b2n (q : Nat) (b : Bool) : q ||| b2n b = if b then q / 2 * 2 + 1 else q := by
  cases b
  · simp [b2n]
  · simp [b2n, or_one]
theorem usc_exact (x ph s : Nat) (hx : x < W64) (hp : ph < W64) (hm : x * ph % W64 ≠ 1) :
    usc x ph 0 s = if x * ph % (W64 * 2 ^ s) = 0 then x * ph / (W64 * 2 ^ s) else x * ph / (W64 * 2 ^ s) / 2 * 2 + 1 := by
  have hhi : x * ph / W64 < W64 := by
    apply Nat.div_lt_of_lt_mul
    exact Nat.mul_lt_mul'' hx hp
  have e1 : x * ph / (W64 * 2 ^ s) = x * ph / W64 / 2 ^ s := (Nat.div_div_eq_div_mul _ _ _).symm
  have e2 : x * ph % (W64 * 2 ^ s) = x * ph % W64 + W64 * (x * ph / W64 % 2 ^ s) := Nat.mod_mul
  have e3 : x * 0 / W64 = 0 := by simp
  unfold usc
  rw [e1, e2, e3]
  have hmid : x * ph % W64 < W64 := Nat.mod_lt _ (by decide)
  generalize x * ph % W64 = mid at *
  generalize x * ph / W64 = hi at *
  have hW : W64 = 18446744073709551616 := rfl
  have hd := Nat.div_add_mod hi (2 ^ s)
  rw [Nat.mul_comm] at hd
  by_cases h0 : hi % 2 ^ s = 0
  · rw [h0] at hd ⊢
    simp only [Nat.add_zero] at hd
    rw [if_neg (by omega), or_b2n]
    have f1 : decide (mid < 0) = false := by simp
    rw [f1]
    have f2 : (hi + W64 - b2n false) % W64 = hi := by
      have : b2n false = 0 := rfl
      rw [this, Nat.sub_zero, Nat.add_mod_right, Nat.mod_eq_of_lt hhi]
    have f3 : (mid + W64 - 0) % W64 = mid := by rw [Nat.sub_zero, Nat.add_mod_right, Nat.mod_eq_of_lt hmid]
    rw [f2, f3]
    by_cases h1 : mid = 0
    · subst h1; simp
    · rw [if_pos (by simp; omega), if_neg (by simp; omega)]
  · rw [if_pos (by omega), or_one, if_neg]
    intro h
    have : W64 * (hi % 2 ^ s) = 0 := by omega
    rcases Nat.mul_eq_zero.1 this with h | h
    · rw [hW] at h; omega
    · exact h0 h
theorem usc_lt (x ph s : Nat) (hx : x < W64) (hp : ph < W64) (hm : x * ph % W64 ≠ 1) (hs : 2 ≤ s) : usc x ph 0 s < 9223372036854775808 := by
  rw [usc_exact x ph s hx hp hm]
  have hd : x * ph / (W64 * 2 ^ s) ≤ 4611686018427387904 := by
    rw [← Nat.div_div_eq_div_mul]
    have h1 : x * ph / W64 < W64 := Nat.div_lt_of_lt_mul (Nat.mul_lt_mul'' hx hp)
    have h2 : x * ph / W64 / 2 ^ s ≤ x * ph / W64 / 2 ^ 2 := Nat.div_le_div_left (Nat.pow_le_pow_right (by decide) hs) (by decide)
    rw [W64_eq] at h1 h2 ⊢
    omega
  split <;> omega
theorem usc_floor (x ph s : Nat) (hx : x < W64) (hp : ph < W64) (hm : x * ph % W64 ≠ 1) : usc x ph 0 s / 4 = x * ph / (W64 * 2 ^ s * 4) := by
  rw [usc_exact x ph s hx hp hm, ← Nat.div_div_eq_div_mul (x * ph) (W64 * 2 ^ s) 4]
  generalize x * ph / (W64 * 2 ^ s) = q
  split <;> omega
theorem usc_ceil (x ph s v : Nat) (hx : x < W64) (hp : ph < W64) (hm : x * ph % W64 ≠ 1) (h : x * ph ≤ v * (W64 * 2 ^ s * 4)) : (usc x ph 0 s + 3) / 4 ≤ v := by
  rw [usc_exact x ph s hx hp hm]
  have hD : 0 < W64 * 2 ^ s := Nat.mul_pos (by decide) (Nat.two_pow_pos _)
  generalize W64 * 2 ^ s = D at *
  have h' : x * ph ≤ 4 * v * D := by rw [show 4 * v * D = v * (D * 4) by rw [Nat.mul_comm D 4, ← Nat.mul_assoc, Nat.mul_comm v 4]]; exact h
  generalize x * ph = X at *
  have hq : X / D ≤ 4 * v := by
    have := Nat.div_le_div_right (c := D) h'
    rwa [Nat.mul_div_cancel _ hD] at this
  have hd := Nat.div_add_mod X D
  split
  · omega
  · rename_i hne
    have : X / D ≠ 4 * v := by
      intro e
      rw [e, Nat.mul_comm] at hd
      omega
    omega
/-- floors of logarithms, as the library reckons them -/
def l10 (x : Int) : Int := x * 78913 / 262144
def l2 (x : Int) : Int := x * 108853 / 32768
def skw (x : Int) : Int := (x * 631305 - 261663) / 2097152
def pOf (b : Bool) (k : Nat) : Nat := (if b then -(skw ((k : Int) - 53)) else -(l10 ((k : Int) - 53))).toNat
def kFacts (b : Bool) (k : Nat) : Bool :=
  let p := pOf b k
  let lp := (l2 p).toNat
  decide ((if b then -(skw ((k : Int) - 53)) else -(l10 ((k : Int) - 53))) = (p : Int)) && decide (l2 p = (lp : Int)) && decide (7 ≤ p) && decide (p ≤ 17) && decide (k + lp ≤ 59) && decide (lp ≤ 57) && decide (10 ^ p < 10 * 2 ^ (54 - k)) && decide (10 ^ p * 2 ^ (63 - lp) < 18446744073709551616)
theorem kFacts_all : ∀ b : Bool, ∀ k : Nat, k < 33 → 1 ≤ k → kFacts b k = true := by decide +kernel
/-- the scaled number's digits: i times 10 to a power below -/
theorem short_plain (i k p lp s ph mn mx : Nat) (hk : 1 ≤ k) (hk2 : k ≤ 32) (hp : 7 ≤ p) (hlp : k + lp ≤ 59) (hlp2 : lp ≤ 57) (h10 : 10 ^ p < 10 * 2 ^ (54 - k)) (hph : ph = 10 ^ p * 2 ^ (63 - lp)) (hph2 : ph < W64)
    (hs : s = 61 - k - lp) (hmx : mx = i * 2 ^ (64 - k) + 1024) (hmn : mn = i * 2 ^ (64 - k) - 1024 ∨ mn = i * 2 ^ (64 - k) - 512) (hmxw : mx < W64) :
    usc mx ph 0 s / 4 / 10 = i * 10 ^ (p - 1) ∧ (usc mn ph 0 s + 3) / 4 ≤ i * 10 ^ (p - 1) * 10 ∧ usc mx ph 0 s < 9223372036854775808 ∧ usc mn ph 0 s < 9223372036854775808 := by
  have hm : i * 2 ^ (64 - k) < W64 := by omega
  have hD : W64 * 2 ^ s * 4 = 2 ^ (66 + s) := by
    show 2 ^ 64 * 2 ^ s * 2 ^ 2 = _
    rw [← Nat.pow_add, ← Nat.pow_add]
    have : 64 + s + 2 = 66 + s := by omega
    rw [this]
  have hv : i * 10 ^ (p - 1) * 10 = i * 10 ^ p := by
    rw [Nat.mul_assoc, ← Nat.pow_succ]
    have : (p - 1).succ = p := by omega
    rw [this]
  have hmph : i * 2 ^ (64 - k) * ph = i * 10 ^ p * 2 ^ (66 + s) := by
    rw [hph, show i * 2 ^ (64 - k) * (10 ^ p * 2 ^ (63 - lp)) = i * 10 ^ p * (2 ^ (64 - k) * 2 ^ (63 - lp)) by ac_rfl, ← Nat.pow_add]
    have : 64 - k + (63 - lp) = 66 + s := by omega
    rw [this]
  have hev : ∀ x, x * ph % W64 ≠ 1 := by
    intro x h
    have e : x * ph = x * 10 ^ p * 2 ^ (62 - lp) * 2 := by
      rw [hph]
      have : 63 - lp = 62 - lp + 1 := by omega
      rw [this, Nat.pow_succ]; ac_rfl
    rw [e] at h
    generalize x * 10 ^ p * 2 ^ (62 - lp) = z at h
    rw [W64_eq] at h
    omega
  have hext : 1024 * ph < 10 * 2 ^ (66 + s) := by
    rw [hph]
    have e1 : 1024 * (10 ^ p * 2 ^ (63 - lp)) = 10 ^ p * 2 ^ (73 - lp) := by
      rw [show (1024 : Nat) = 2 ^ 10 from rfl, show 2 ^ 10 * (10 ^ p * 2 ^ (63 - lp)) = 10 ^ p * (2 ^ 10 * 2 ^ (63 - lp)) by ac_rfl, ← Nat.pow_add]
      have : 10 + (63 - lp) = 73 - lp := by omega
      rw [this]
    have e2 : 10 * 2 ^ (66 + s) = 10 * 2 ^ (54 - k) * 2 ^ (73 - lp) := by
      rw [Nat.mul_assoc, ← Nat.pow_add]
      have : 54 - k + (73 - lp) = 66 + s := by omega
      rw [this]
    rw [e1, e2]
    exact Nat.mul_lt_mul_of_pos_right h10 (Nat.two_pow_pos (73 - lp))
  refine ⟨?_, ?_, usc_lt mx ph s hmxw hph2 (hev _) (by omega), usc_lt mn ph s (by rcases hmn with h | h <;> omega) hph2 (hev _) (by omega)⟩
  · rw [usc_floor mx ph s hmxw hph2 (hev _), hD, hmx, Nat.add_mul, hmph, Nat.mul_comm (i * 10 ^ p), Nat.mul_add_div (Nat.two_pow_pos _), ← hv]
    generalize i * 10 ^ (p - 1) = z
    have : 1024 * ph / 2 ^ (66 + s) < 10 := Nat.div_lt_of_lt_mul (by rw [Nat.mul_comm (2 ^ (66 + s))]; exact hext)
    generalize 1024 * ph / 2 ^ (66 + s) = o at this ⊢
    omega
  · apply usc_ceil mn ph s _ (by rcases hmn with h | h <;> omega) hph2 (hev _)
    rw [hD, hv, ← hmph]
    exact Nat.mul_le_mul_right _ (by rcases hmn with h | h <;> omega)
end Go.Proofs.YtbodfdmmfaampaaGreatDoor
