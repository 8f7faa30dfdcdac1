/-
  The contract of numDigits.
-/
import Derived.Test.YtbodfdmmfaampaaGreatDoorD5
namespace Go.Proofs.YtbodfdmmfaampaaGreatDoor
open Go.RowKit
set_option maxHeartbeats 1000000
set_option maxRecDepth 100000

/-- the table of powers of ten as words -/
def P10 (w : World) : Prop := ∀ i : Nat, i < 20 → w.cell? ⟨4, i, none⟩ = some (.int .u64 ((10 ^ i : Nat) : Int))
def ndFacts (L : Nat) : Bool :=
  let l := L * 78913 / 262144
  decide (2 ^ L ≤ 10 ^ (l + 1)) && decide (l < 20) && (decide (l = 0) || decide (10 ^ (l - 1) ≤ 2 ^ (L - 1)))
theorem ndFacts_all : ∀ L : Nat, L < 65 → ndFacts L = true := by decide +kernel
theorem bitLen_lib (d : Nat) (hd : d < 2 ^ 64) : d < 2 ^ Lib.bitLen d ∧ (d ≠ 0 → 2 ^ (Lib.bitLen d - 1) ≤ d) := by
  induction d using Nat.strongRecOn with
  | ind d ih =>
    by_cases h : d = 0
    · subst h; exact ⟨by decide, fun h => absurd rfl h⟩
    · by_cases hd1 : d = 1
      · subst hd1; exact ⟨by decide, fun _ => by decide⟩
      rw [Lib.bitLen_half d h hd]
      obtain ⟨h1, h2⟩ := ih (d / 2) (by omega) (by omega)
      generalize Lib.bitLen (d / 2) = L at *
      have e : 2 ^ (1 + L) = 2 * 2 ^ L := by rw [Nat.pow_add]
      rw [e]
      refine ⟨by omega, fun _ => ?_⟩
      have : 1 + L - 1 = L := by omega
      rw [this]
      have h3 := h2 (by omega)
      · have hL : 1 ≤ L := by
          rcases Nat.eq_zero_or_pos L with h' | h'
          · subst h'; simp at h1; omega
          · exact h'
        have e2 : 2 ^ L = 2 * 2 ^ (L - 1) := by rw [← Nat.pow_succ']; congr 1; omega
        omega
theorem c_numDigits (d : Nat) (h0 : 0 < d) (h1 : d < 1000000000000000000) (w : World) (hT : P10 w) :
    Calls Tryz.prog 78 #[.int .u64 (d : Int)] w fun e w' => ∃ n : Nat, e = .returned (.int .i64 (n : Int)) ∧ IsNd d n ∧ w = w' := by
  have e64 : (2 : Nat) ^ 64 = 18446744073709551616 := by decide
  obtain ⟨b1, b2⟩ := bitLen_lib d (by omega)
  clear e64
  have b2 := b2 (by omega)
  have hlen := fun w => d_Len64 (d : Int) w (by omega) (by omega)
  have et : (d : Int).toNat = d := by omega
  rw [et] at hlen
  have hL : Lib.bitLen d < 65 := by
    rcases Nat.lt_or_ge (Lib.bitLen d) 65 with h | h
    · exact h
    · exfalso
      have := Nat.pow_le_pow_right (n := 2) (by decide) (show 64 ≤ Lib.bitLen d - 1 by omega)
      have e : (2 : Nat) ^ 64 = 18446744073709551616 := by decide
      omega
  have hL1 : 1 ≤ Lib.bitLen d := by
    rcases Nat.eq_zero_or_pos (Lib.bitLen d) with h | h
    · rw [h] at b1; simp at b1; omega
    · exact h
  have hf := ndFacts_all _ hL
  generalize Lib.bitLen d = L at *
  unfold ndFacts at hf
  have hlog0 := fun w => d_log10Pow2 (L : Int) (by omega) (by omega) w
  have hlog : ∀ w : World, Calls Tryz.prog 79 #[.int .i64 (L : Int)] w fun e w' => e = .returned (.int .i64 ((L * 78913 / 262144 : Nat) : Int)) ∧ w = w' := hlog0
  clear hlog0
  generalize L * 78913 / 262144 = l at *
  simp only [Bool.and_eq_true, Bool.or_eq_true, decide_eq_true_eq] at hf
  obtain ⟨⟨f1, f2⟩, f3⟩ := hf
  have hc := hT l f2
  have hres : IsNd d (l + b2n (decide (10 ^ l ≤ d))) := by
    by_cases h : 10 ^ l ≤ d
    · have e : b2n (decide (10 ^ l ≤ d)) = 1 := by rw [decide_eq_true h]; rfl
      rw [e]
      exact ⟨by omega, by simpa using h, Nat.lt_of_lt_of_le b1 f1⟩
    · have e : b2n (decide (10 ^ l ≤ d)) = 0 := by rw [decide_eq_false h]; rfl
      rw [e, Nat.add_zero]
      rcases f3 with f3 | f3
      · subst f3; simp at h; omega
      · have hl1 : 1 ≤ l := by
          rcases Nat.eq_zero_or_pos l with h' | h'
          · subst h'; simp at h; omega
          · exact h'
        exact ⟨hl1, Nat.le_trans f3 b2, by omega⟩
  have hB := Lib.hid (fun w => d_bool2int (decide (10 ^ l ≤ d)) w)
  have hb1 : b2n (decide (10 ^ l ≤ d)) ≤ 1 := by cases decide (10 ^ l ≤ d) <;> decide
  generalize hbb : decide (10 ^ l ≤ d) = bb at *
  generalize b2n bb = r at *
  replace hlen := Lib.hid hlen
  replace hlog := Lib.hid hlog
  replace hres := Lib.hid hres
  clear hT f1 f3 b1 b2 et
  generalize 10 ^ l = T at *
  go_enter Tryz.func78, Tryz.ntmps78
  go_wp2_with (first | (go_at_call 75; refine (hlen.out _).mono ?_; rintro e w1 ⟨rfl, rfl⟩) | (go_at_call 79; refine (hlog.out _).mono ?_; rintro e w1 ⟨rfl, rfl⟩) | (go_at_call 102; refine (hB.out _).mono ?_; rintro e w1 ⟨rfl, rfl⟩))
  go_ret
  exact ⟨l + r, by go_num, hres.out, rfl⟩
end Go.Proofs.YtbodfdmmfaampaaGreatDoor
