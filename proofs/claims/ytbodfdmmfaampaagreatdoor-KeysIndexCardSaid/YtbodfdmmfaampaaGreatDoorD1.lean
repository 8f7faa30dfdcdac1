/-
  Decimal digits of fixed width, and how many digits a number has: plain facts.
-/
import Derived.Lib.Hide
namespace Go.Proofs.YtbodfdmmfaampaaGreatDoor

/-- the last n decimal digits of u, the highest one first -/
def fw : Nat → Nat → List Nat
  | 0, _ => []
  | n + 1, u => fw n (u / 10) ++ [u % 10]
theorem fw_len (n u : Nat) : (fw n u).length = n := by
  induction n generalizing u with
  | zero => rfl
  | succ n ih => simp [fw, ih]
theorem fw_lt (n u : Nat) : ∀ x ∈ fw n u, x < 10 := by
  induction n generalizing u with
  | zero => intro x h; cases h
  | succ n ih =>
    intro x h
    rcases List.mem_append.1 h with h | h
    · exact ih _ x h
    · rw [List.mem_singleton.1 h]; exact Nat.mod_lt _ (by decide)
theorem fw_mod (n u : Nat) : fw n (u % 10 ^ n) = fw n u := by
  induction n generalizing u with
  | zero => rfl
  | succ n ih =>
    have e1 : u % 10 ^ (n + 1) / 10 = u / 10 % 10 ^ n := by
      rw [Nat.pow_succ, Nat.mul_comm, Nat.mod_mul_right_div_self]
    have e2 : u % 10 ^ (n + 1) % 10 = u % 10 := by
      rw [Nat.pow_succ]; exact Nat.mod_mul_left_mod _ _ _
    simp only [fw]
    rw [e1, e2, ih]
theorem fw_add (a b u : Nat) : fw (a + b) u = fw a (u / 10 ^ b) ++ fw b u := by
  induction b generalizing u with
  | zero => simp [fw]
  | succ b ih =>
    rw [← Nat.add_assoc]
    simp only [fw]
    rw [ih, List.append_assoc, Nat.div_div_eq_div_mul, Nat.pow_succ, Nat.mul_comm 10]
theorem fw_one (u : Nat) : fw 1 u = [u % 10] := rfl
theorem fw_two (u : Nat) : fw 2 u = [u / 10 % 10, u % 10] := rfl
theorem fw_zero (n : Nat) : fw n 0 = List.replicate n 0 := by
  induction n with
  | zero => rfl
  | succ n ih => simp only [fw, Nat.zero_div, Nat.zero_mod]; rw [ih, ← List.replicate_succ']
theorem fw_shift (n q i : Nat) : fw (n + q) (i * 10 ^ q) = fw n i ++ List.replicate q 0 := by
  rw [fw_add, Nat.mul_div_cancel _ (Nat.pow_pos (by decide)), ← fw_mod q, Nat.mul_mod_left, fw_zero]
theorem fw_get (n u i : Nat) (h : i < n) : (fw n u)[i]? = some (u / 10 ^ (n - 1 - i) % 10) := by
  induction n generalizing u with
  | zero => omega
  | succ n ih =>
    simp only [fw]
    rcases Nat.lt_or_ge i n with h1 | h1
    · rw [List.getElem?_append_left (by rw [fw_len]; exact h1), ih _ h1, Nat.div_div_eq_div_mul, ← Nat.pow_succ']
      have : (n - 1 - i).succ = n + 1 - 1 - i := by omega
      rw [this]
    · have : i = n := by omega
      subst this
      rw [List.getElem?_append_right (by rw [fw_len]; omega), fw_len]
      simp
/-- u has n digits -/
def IsNd (u n : Nat) : Prop := 1 ≤ n ∧ 10 ^ (n - 1) ≤ u ∧ u < 10 ^ n
theorem IsNd.one {u n m : Nat} (h : IsNd u n) (h' : IsNd u m) : n = m := by
  obtain ⟨h1, h2, h3⟩ := h
  obtain ⟨g1, g2, g3⟩ := h'
  rcases Nat.lt_trichotomy n m with h | h | h
  · exfalso
    have := Nat.pow_le_pow_right (n := 10) (by decide) (show n ≤ m - 1 by omega)
    omega
  · exact h
  · exfalso
    have := Nat.pow_le_pow_right (n := 10) (by decide) (show m ≤ n - 1 by omega)
    omega
theorem IsNd.pos {u n : Nat} (h : IsNd u n) : 0 < u := Nat.lt_of_lt_of_le (Nat.pow_pos (by decide)) h.2.1
theorem IsNd.shift {u n : Nat} (h : IsNd u n) (q : Nat) : IsNd (u * 10 ^ q) (n + q) := by
  obtain ⟨h1, h2, h3⟩ := h
  refine ⟨by omega, ?_, ?_⟩
  · have : n + q - 1 = (n - 1) + q := by omega
    rw [this, Nat.pow_add]
    exact Nat.mul_le_mul_right _ h2
  · rw [Nat.pow_add]
    exact Nat.mul_lt_mul_of_pos_right h3 (Nat.pow_pos (by decide))
theorem IsNd.step {u n : Nat} (h : IsNd (u / 10) n) : IsNd u (n + 1) := by
  obtain ⟨h1, h2, h3⟩ := h
  refine ⟨by omega, ?_, ?_⟩
  · have : n + 1 - 1 = (n - 1) + 1 := by omega
    rw [this, Nat.pow_succ]
    omega
  · rw [Nat.pow_succ]; omega
theorem IsNd.digit {u : Nat} (h : 0 < u) (h1 : u < 10) : IsNd u 1 := ⟨by omega, by simp; omega, by simpa using h1⟩
/-- the trailing noughts of a number's digits: m digits are left, the last one is no nought -/
theorem fw_trim (n u : Nat) (h : 0 < u) (hu : u < 10 ^ n) : ∃ m v, 1 ≤ m ∧ m ≤ n ∧ u = v * 10 ^ (n - m) ∧ v % 10 ≠ 0 ∧ fw n u = fw m v ++ List.replicate (n - m) 0 := by
  induction n generalizing u with
  | zero => simp at hu; omega
  | succ n ih =>
    by_cases hd : u % 10 = 0
    · obtain ⟨m, v, h1, h2, h3, h4, h5⟩ := ih (u / 10) (by omega) (by rw [Nat.pow_succ] at hu; omega)
      refine ⟨m, v, h1, by omega, ?_, h4, ?_⟩
      · have : n + 1 - m = n - m + 1 := by omega
        rw [this, Nat.pow_succ, ← Nat.mul_assoc, ← h3]; omega
      · have e : n + 1 - m = n - m + 1 := by omega
        rw [e, List.replicate_succ', ← List.append_assoc, ← h5, ← hd]; rfl
    · exact ⟨n + 1, u, by omega, Nat.le_refl _, by simp, hd, by simp⟩
end Go.Proofs.YtbodfdmmfaampaaGreatDoor
