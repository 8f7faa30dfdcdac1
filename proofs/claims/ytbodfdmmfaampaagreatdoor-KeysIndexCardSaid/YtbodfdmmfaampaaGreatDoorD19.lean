/-
  Plain: the number that a number's digits are.
-/
import Derived.Test.YtbodfdmmfaampaaGreatDoorD18
import Derived.Test.YtbodfdmmfaampaaGreatDoorI1
namespace Go.Proofs.YtbodfdmmfaampaaGreatDoor
open Go.RowKit
set_option maxHeartbeats 1000000
set_option maxRecDepth 100000

theorem bytesU_get (us : List Nat) (j u : Nat) (h : us[j]? = some u) : (bytesU us)[2 * j]? = some (UInt8.ofNat (u / 256)) ∧ (bytesU us)[2 * j + 1]? = some (UInt8.ofNat (u % 256)) := by
  induction us generalizing j with
  | nil => simp at h
  | cons x us ih =>
    have e : bytesU (x :: us) = UInt8.ofNat (x / 256) :: UInt8.ofNat (x % 256) :: bytesU us := rfl
    rw [e]
    cases j with
    | zero => simp at h; subst h; exact ⟨rfl, rfl⟩
    | succ j =>
      have := ih j (by simpa using h)
      have e1 : 2 * (j + 1) = 2 * j + 1 + 1 := by omega
      rw [e1]
      simpa using this
theorem ub_textU (us : List Nat) (k : Nat) (b : UInt8) (h : (bytesU us)[k]? = some b) : ub (textU us) k = b.toNat := by
  unfold ub textU
  simp [h]
theorem unitAt_textU (us : List Nat) (j u : Nat) (hu : u < 65536) (h : us[j]? = some u) : unitAt (textU us) j = u := by
  obtain ⟨h1, h2⟩ := bytesU_get us j u h
  unfold unitAt
  rw [ub_textU us _ _ h1, ub_textU us _ _ h2]
  simp
  omega
theorem U_textU (us : List Nat) (hus : ∀ u ∈ us, u < 65536) : U (textU us) = us := by
  have hsz : (textU us).size / 2 = us.length := by
    have : (textU us).size = (bytesU us).length := by simp [textU, ByteArray.size]
    rw [this, bytesU_len]; omega
  unfold U
  rw [hsz]
  have : ∀ k, k ≤ us.length → unitsN (textU us) k = us.take k := by
    intro k hk
    induction k with
    | zero => rfl
    | succ k ih =>
      have hx : us[k]? = some us[k] := List.getElem?_eq_getElem (by omega)
      show unitsN (textU us) k ++ [unitAt (textU us) k] = _
      rw [ih (by omega), unitAt_textU us k _ (hus _ (List.getElem_mem (by omega))) hx, List.take_add_one, hx]
      rfl
  rw [this _ (Nat.le_refl _), List.take_length]
theorem numU_dg (k i a : Nat) : numU (dg k i) a = some (a * 10 ^ k + i % 10 ^ k) := by
  induction k generalizing a with
  | zero => simp [dg, fw, numU, Nat.mod_one]
  | succ k ih =>
    rw [dg_succ]
    have hd : i / 10 ^ k % 10 < 10 := Nat.mod_lt _ (by decide)
    simp only [numU]
    rw [if_neg (by omega), ih]
    congr 1
    have e1 : 48 + i / 10 ^ k % 10 - 48 = i / 10 ^ k % 10 := by omega
    have e2 : i % 10 ^ (k + 1) = i % 10 ^ k + 10 ^ k * (i / 10 ^ k % 10) := by rw [Nat.pow_succ]; exact Nat.mod_mul
    rw [e1, e2, Nat.pow_succ, Nat.add_mul, Nat.mul_comm (i / 10 ^ k % 10), Nat.mul_comm 10 a, Nat.mul_assoc, Nat.mul_comm 10]
    omega
theorem idx_dg (n i : Nat) (h : NdOf i n) (hi : i < 4294967296) : idxOf (dg n i) = if i = 4294967295 then none else some i := by
  obtain ⟨h1, h2⟩ := h.le10 hi
  have hlt : i < 10 ^ n := by
    rcases h with ⟨rfl, rfl⟩ | h
    · decide
    · exact h.2.2
  have hfirst : ¬ ((dg n i)[0]? = some 48 ∧ 1 < n) := by
    rintro ⟨e1, e2⟩
    rw [dg_get n i 0 (by omega)] at e1
    rcases h with ⟨_, rfl⟩ | h
    · omega
    · have h3 : n - 1 - 0 = n - 1 := by omega
      rw [h3] at e1
      have h4 : i / 10 ^ (n - 1) < 10 := by
        apply Nat.div_lt_of_lt_mul
        rw [← Nat.pow_succ]
        have : (n - 1).succ = n := by omega
        rw [this]; exact h.2.2
      have h5 : 1 ≤ i / 10 ^ (n - 1) := (Nat.one_le_div_iff (Nat.pow_pos (by decide))).2 h.2.1
      simp at e1
      omega
  unfold idxOf
  rw [dg_len, if_neg (by
    rintro (h' | h' | h')
    · omega
    · omega
    · exact hfirst h'), numU_dg, Nat.zero_mul, Nat.zero_add, Nat.mod_eq_of_lt hlt]
  simp only
  by_cases h : i = 4294967295
  · rw [if_pos h, if_pos (by omega)]
  · rw [if_neg h, if_neg (by omega)]
end Go.Proofs.YtbodfdmmfaampaaGreatDoor
