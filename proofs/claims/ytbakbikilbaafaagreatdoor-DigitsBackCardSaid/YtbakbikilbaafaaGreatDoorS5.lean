/-
  Contracts: Plain law: what the library's parseFloat64 answers is the float nearest to d times 10 to p. Plain law: the model's operations on floats give the nearest one. Plain facts: comparisons and bit operations of float words. Conditions: as each theorem says. The contract of the library's atof64exact: where it answers, it is the nearest float. Plain: what the library's readFloat has read of a decimal text.
-/
import Derived.Test.YtbakbikilbaafaaGreatDoorS4
import Derived.Test.YtbakbikilbaafaaGreatDoorS1
import Derived.Laws.FloatArith
import Derived.Laws.BitsAllLaws
import Derived.WalkKit
import Derived.Test.YtbakbikilbaafaaGreatDoorS2
import Derived.WalkSpells
import Derived.WalkLawsBesides
import Derived.Lib.Hide
namespace Go.Proofs.YtbakbikilbaafaaGreatDoor
open F64 Ieee
set_option linter.unusedVariables false
set_option maxHeartbeats 1000000
set_option maxRecDepth 100000

theorem unr_cross {a b a' b' : Nat} (hb : 0 < b) (hb' : 0 < b') (h : a * b' = a' * b) : unr a b = unr a' b' := by
  rw [← unr_mul (a := a) (b := b) hb', ← unr_mul (a := a') (b := b') hb, h, Nat.mul_comm b b']
theorem half_cross {K a b a' b' : Nat} (hb : 0 < b) (hb' : 0 < b') (h : a * b' = a' * b) (hH : Half K a b) : Half K a' b' := by
  obtain ⟨h1, h2⟩ := hH
  have hlt : ∀ {x y c : Nat}, 0 < c → x * c < y * c → x < y := fun hc h => Nat.lt_of_mul_lt_mul_right h
  have e1 : 2 * a' * b = 2 * a * b' := by rw [Nat.mul_assoc, ← h, Nat.mul_assoc]
  have e2 : ∀ x, b' * x * b = b * x * b' := fun x => by ac_rfl
  constructor
  · rcases h1 with h1 | ⟨h1, g⟩
    · left
      apply hlt hb
      rw [e1, e2]
      exact Nat.mul_lt_mul_of_pos_right h1 hb'
    · right
      refine ⟨Nat.eq_of_mul_eq_mul_right hb ?_, g⟩
      rw [e1, e2, h1]
  · rcases h2 with h2 | h2 | ⟨h2, g⟩
    · exact .inl h2
    · right; left
      apply hlt hb
      rw [e1, e2]
      exact Nat.mul_lt_mul_of_pos_right h2 hb'
    · right; right
      refine ⟨Nat.eq_of_mul_eq_mul_right hb ?_, g⟩
      rw [e1, e2, h2]
/-- moving a power of two from the number into the scale -/
theorem fr_add (p e : Int) (k : Nat) : 2 ^ k * frN p e * frD p (e + k) = frN p (e + k) * frD p e := by
  unfold frN frD
  rw [show 2 ^ k * (10 ^ p.toNat * 2 ^ e.toNat) * (10 ^ (-p).toNat * 2 ^ (-(e + (k : Int))).toNat) = 10 ^ p.toNat * 10 ^ (-p).toNat * (2 ^ k * 2 ^ e.toNat * 2 ^ (-(e + (k : Int))).toNat) by ac_rfl,
    show 10 ^ p.toNat * 2 ^ (e + (k : Int)).toNat * (10 ^ (-p).toNat * 2 ^ (-e).toNat) = 10 ^ p.toNat * 10 ^ (-p).toNat * (2 ^ (e + (k : Int)).toNat * 2 ^ (-e).toNat) by ac_rfl,
    ← Nat.pow_add 2 k, ← Nat.pow_add 2 (k + e.toNat), ← Nat.pow_add 2 (e + (k : Int)).toNat, show k + e.toNat + (-(e + (k : Int))).toNat = (e + (k : Int)).toNat + (-e).toNat by omega]
theorem pow_shift {A B a1 a2 c1 c2 : Nat} (h : 2 ^ a1 * A ≤ 2 ^ a2 * B) (he : a1 + c2 = a2 + c1) : 2 ^ c1 * A ≤ 2 ^ c2 * B := by
  have h2 := Nat.mul_le_mul_right (2 ^ c2) h
  apply Nat.le_of_mul_le_mul_left _ (Nat.two_pow_pos a2)
  have e1 : 2 ^ a1 * A * 2 ^ c2 = 2 ^ a2 * (2 ^ c1 * A) := by
    rw [show 2 ^ a1 * A * 2 ^ c2 = 2 ^ a1 * 2 ^ c2 * A by ac_rfl, ← Nat.pow_add, he, Nat.pow_add, Nat.mul_assoc]
  have e2 : 2 ^ a2 * B * 2 ^ c2 = 2 ^ a2 * (2 ^ c2 * B) := by ac_rfl
  rw [← e1, ← e2]; exact h2
/-- 2^L ≤ 10^p ≤ 2047/1024 2^L -/
theorem fr_ge {p : Int} (h1 : -348 ≤ p) (h2 : p ≤ 347) {e : Int} {k : Nat} (hk : (k : Int) = e + tabL p) : 2 ^ k * frD p e ≤ frN p e := by
  obtain ⟨b1, -⟩ := tab_b h1 h2
  have e127 : (2 : Nat) ^ 127 = 170141183460469231731687303715884105728 := by decide
  rw [← e127] at b1
  unfold tabN tabD at b1
  unfold frN frD
  generalize tabL p = L at *
  rw [show 2 ^ 127 * (10 ^ (-p).toNat * 2 ^ (L - 127).toNat) = 2 ^ 127 * 2 ^ (L - 127).toNat * 10 ^ (-p).toNat by ac_rfl, Nat.mul_comm (10 ^ p.toNat), ← Nat.pow_add] at b1
  have := pow_shift (c1 := k + (-e).toNat) (c2 := e.toNat) b1 (by omega)
  rw [Nat.pow_add] at this
  rw [show 2 ^ k * (10 ^ (-p).toNat * 2 ^ (-e).toNat) = 2 ^ k * 2 ^ (-e).toNat * 10 ^ (-p).toNat by ac_rfl, Nat.mul_comm (10 ^ p.toNat)]
  exact this
theorem fr_le {p : Int} (h1 : -348 ≤ p) (h2 : p ≤ 347) {e : Int} {k : Nat} (hk : (k : Int) = e + tabL p) : 1024 * frN p e ≤ 2047 * (2 ^ k * frD p e) := by
  obtain ⟨-, b1⟩ := tab_b h1 h2
  have e127 : 340116213421465348979261631549233168384 = 2 ^ 117 * 2047 := by decide
  rw [e127] at b1
  unfold tabN tabD at b1
  unfold frN frD
  generalize tabL p = L at *
  rw [show 2 ^ 117 * 2047 * (10 ^ (-p).toNat * 2 ^ (L - 127).toNat) = 2 ^ 117 * 2 ^ (L - 127).toNat * (2047 * 10 ^ (-p).toNat) by ac_rfl, Nat.mul_comm (10 ^ p.toNat), ← Nat.pow_add] at b1
  have := pow_shift (c1 := 10 + e.toNat) (c2 := k + (-e).toNat) b1 (by omega)
  rw [Nat.pow_add, Nat.pow_add] at this
  rw [show 2047 * (2 ^ k * (10 ^ (-p).toNat * 2 ^ (-e).toNat)) = 2 ^ k * 2 ^ (-e).toNat * (2047 * 10 ^ (-p).toNat) by ac_rfl, Nat.mul_comm (10 ^ p.toNat), ← Nat.mul_assoc]
  exact this
def pfe (b : Nat) (p : Int) : Int := min 1074 (53 - (b : Int) - tabL p)
def pfu (d b : Nat) (p : Int) : Nat := unr (d * frN p (pfe b p + 2)) (frD p (pfe b p + 2))
def hlf (u : Nat) : Nat := if u % 2 = 0 then u / 2 else u / 2 / 2 * 2 + 1
/-- what parseFloat64 answers, d having b bits -/
def pfK (d b : Nat) (p : Int) : Nat := if pfu d b p < 36028797018963966 then rou (pfu d b p) else rou (hlf (pfu d b p))
def pfX (d b : Nat) (p : Int) : Nat := if pfu d b p < 36028797018963966 then (1074 - pfe b p).toNat else (1075 - pfe b p).toNat
def pf (d b : Nat) (p : Int) : Nat := min (pfX d b p * 4503599627370496 + pfK d b p) 9218868437227405312
theorem pf_lo {d b : Nat} {p e : Int} (h1 : -348 ≤ p) (h2 : p ≤ 347) (hb : 1 ≤ b) (hd1 : 2 ^ (b - 1) ≤ d) (hk : ((53 - b : Int)) = e + tabL p) : 4503599627370496 * frD p e ≤ d * frN p e := by
  by_cases hb53 : b ≤ 53
  · have := fr_ge h1 h2 (e := e) (k := 53 - b) (by omega)
    have m := Nat.mul_le_mul hd1 this
    have e1 : 2 ^ (b - 1) * (2 ^ (53 - b) * frD p e) = 4503599627370496 * frD p e := by
      rw [← Nat.mul_assoc, ← Nat.pow_add, show b - 1 + (53 - b) = 52 by omega]
    omega
  · -- a negative power: by the scale at e + (b - 53)
    have := fr_ge h1 h2 (e := e + ((b - 53 : Nat) : Int)) (k := 0) (by omega)
    have h3 := fr_add p e (b - 53)
    rw [Nat.pow_zero, Nat.one_mul] at this
    have hfd := frD_pos p (e + ((b - 53 : Nat) : Int))
    have m : frD p e * frD p (e + ((b - 53 : Nat) : Int)) ≤ 2 ^ (b - 53) * frN p e * frD p (e + ((b - 53 : Nat) : Int)) := by
      rw [h3, Nat.mul_comm (frN p _)]
      exact Nat.mul_le_mul_left _ this
    have m2 := Nat.le_of_mul_le_mul_right m hfd
    have m3 : 2 ^ 52 * frD p e ≤ 2 ^ 52 * (2 ^ (b - 53) * frN p e) := Nat.mul_le_mul_left _ m2
    rw [← Nat.mul_assoc, ← Nat.pow_add, show 52 + (b - 53) = b - 1 by omega] at m3
    exact Nat.le_trans m3 (Nat.mul_le_mul_right _ hd1)
theorem pf_hi {d b : Nat} {p e : Int} (h1 : -348 ≤ p) (h2 : p ≤ 347) (hd2 : d < 2 ^ b) (hk : ((53 - b : Int)) = e + tabL p) : 1024 * (d * frN p e) < 2047 * (9007199254740992 * frD p e) := by
  have fe := frN_pos p e
  by_cases hb53 : b ≤ 53
  · have := fr_le h1 h2 (e := e) (k := 53 - b) (by omega)
    have m1 : 1024 * (d * frN p e) < 1024 * (2 ^ b * frN p e) := Nat.mul_lt_mul_of_pos_left (Nat.mul_lt_mul_of_pos_right hd2 fe) (by decide)
    have m2 : 2 ^ b * (1024 * frN p e) ≤ 2 ^ b * (2047 * (2 ^ (53 - b) * frD p e)) := Nat.mul_le_mul_left _ this
    have e1 : 2 ^ b * (2047 * (2 ^ (53 - b) * frD p e)) = 2047 * (9007199254740992 * frD p e) := by
      rw [show 2 ^ b * (2047 * (2 ^ (53 - b) * frD p e)) = 2047 * (2 ^ b * 2 ^ (53 - b) * frD p e) by ac_rfl, ← Nat.pow_add, show b + (53 - b) = 53 by omega]
    have e2 : 2 ^ b * (1024 * frN p e) = 1024 * (2 ^ b * frN p e) := by ac_rfl
    omega
  · have := fr_le h1 h2 (e := e + ((b - 53 : Nat) : Int)) (k := 0) (by omega)
    have h3 := fr_add p e (b - 53)
    rw [Nat.pow_zero, Nat.one_mul] at this
    have hfd := frD_pos p (e + ((b - 53 : Nat) : Int))
    have m : 1024 * (2 ^ (b - 53) * frN p e) ≤ 2047 * frD p e := by
      apply Nat.le_of_mul_le_mul_right _ hfd
      rw [Nat.mul_assoc, h3]
      have := Nat.mul_le_mul_right (frD p e) this
      have e1 : 1024 * frN p (e + ((b - 53 : Nat) : Int)) * frD p e = 1024 * (frN p (e + ((b - 53 : Nat) : Int)) * frD p e) := by ac_rfl
      have e2 : 2047 * frD p (e + ((b - 53 : Nat) : Int)) * frD p e = 2047 * frD p e * frD p (e + ((b - 53 : Nat) : Int)) := by ac_rfl
      omega
    have m1 : 1024 * (d * frN p e) < 1024 * (2 ^ b * frN p e) := Nat.mul_lt_mul_of_pos_left (Nat.mul_lt_mul_of_pos_right hd2 fe) (by decide)
    have e1 : 1024 * (2 ^ b * frN p e) = 9007199254740992 * (1024 * (2 ^ (b - 53) * frN p e)) := by
      rw [show b = 53 + (b - 53) by omega, Nat.pow_add, show 53 + (b - 53) - 53 = b - 53 by omega]
      have e53 : (2 : Nat) ^ 53 = 9007199254740992 := by decide
      rw [e53]; ac_rfl
    have m2 : 9007199254740992 * (1024 * (2 ^ (b - 53) * frN p e)) ≤ 9007199254740992 * (2047 * frD p e) := Nat.mul_le_mul_left _ m
    have e2 : 9007199254740992 * (2047 * frD p e) = 2047 * (9007199254740992 * frD p e) := by ac_rfl
    omega
theorem pf_near {d b : Nat} {p : Int} (h1 : -348 ≤ p) (h2 : p ≤ 347) (hb : 1 ≤ b) (hb2 : b ≤ 64) (hd1 : 2 ^ (b - 1) ≤ d) (hd2 : d < 2 ^ b) :
    Near (pf d b p) (d * frN p 1074) (frD p 1074) ∧ pfK d b p < 9007199254740992 ∧ (pfX d b p = 0 ∨ 4503599627370496 ≤ pfK d b p) := by
  obtain ⟨e, he⟩ : ∃ e, pfe b p = e := ⟨_, rfl⟩
  have he' : e = min 1074 (53 - (b : Int) - tabL p) := he.symm
  have hu : pfu d b p = unr (d * frN p (e + 2)) (frD p (e + 2)) := by unfold pfu; rw [he]
  unfold pf pfK pfX
  rw [hu, he]
  have fe := frN_pos p e
  have ge := frD_pos p e
  have g2 := frD_pos p (e + 2)
  -- v = d 10^p 2^e
  have ev : 4 * frN p e * frD p (e + 2) = frN p (e + 2) * frD p e := by
    have := fr_add p e 2
    exact this
  have hH : Half (rou (unr (d * frN p (e + 2)) (frD p (e + 2)))) (d * frN p e) (frD p e) := by
    refine half_cross (b := 4 * frD p (e + 2)) (by omega) ge ?_ (rou_half g2)
    rw [Nat.mul_assoc, ← ev]; ac_rfl
  -- its bounds
  have hlo : e = 1074 ∨ 4503599627370496 * frD p e ≤ d * frN p e := by
    by_cases h : e = 1074
    · exact .inl h
    · exact .inr (pf_lo h1 h2 hb hd1 (by omega))
  have hhi : 1024 * (d * frN p e) < 2047 * (9007199254740992 * frD p e) := by
    obtain ⟨e0, he0⟩ : ∃ e0 : Int, e0 = 53 - (b : Int) - tabL p := ⟨_, rfl⟩
    obtain ⟨k, hk⟩ : ∃ k : Nat, e0 = e + (k : Int) := ⟨(e0 - e).toNat, by omega⟩
    have h0 := pf_hi (d := d) (b := b) (e := e0) h1 h2 hd2 (by omega)
    have h3 := fr_add p e k
    rw [← hk] at h3
    have g0 := frD_pos p e0
    apply Nat.lt_of_mul_lt_mul_right (a := frD p e0)
    have m1 : 1 * (d * (frN p e * frD p e0)) ≤ 2 ^ k * (d * (frN p e * frD p e0)) := Nat.mul_le_mul_right _ (Nat.two_pow_pos k)
    have m2 := Nat.mul_lt_mul_of_pos_right h0 ge
    have e1 : 2 ^ k * (d * (frN p e * frD p e0)) = d * (2 ^ k * frN p e * frD p e0) := by ac_rfl
    rw [e1, h3] at m1
    have e2 : 1024 * (d * frN p e) * frD p e0 = 1024 * (1 * (d * (frN p e * frD p e0))) := by rw [Nat.one_mul]; ac_rfl
    have e3 : 1024 * (d * frN p e0) * frD p e = 1024 * (d * (frN p e0 * frD p e)) := by ac_rfl
    have e4 : 2047 * (9007199254740992 * frD p e0) * frD p e = 2047 * (9007199254740992 * frD p e) * frD p e0 := by ac_rfl
    omega
  have hE1074 : e ≤ 1074 := by omega
  -- the fraction in units of the least place
  have hsc : ∀ E : Nat, (E : Int) = 1074 - e → d * frN p e * (frD p 1074 * 2 ^ E) = d * frN p 1074 * frD p e := fun E hE => by
    have h3 := fr_add p e E
    rw [show e + (E : Int) = 1074 by omega] at h3
    rw [show d * frN p e * (frD p 1074 * 2 ^ E) = d * (2 ^ E * frN p e * frD p 1074) by ac_rfl, h3]; ac_rfl
  have gT := frD_pos p 1074
  obtain ⟨E, hE⟩ : ∃ E : Nat, (E : Int) = 1074 - e := ⟨(1074 - e).toNat, by omega⟩
  have hE1 : (1074 - e).toNat = E := by omega
  have hE2 : (1075 - e).toNat = E + 1 := by omega
  have hsE := hsc E hE
  have hEz : E = 0 ∨ 4503599627370496 * frD p e ≤ d * frN p e := by
    rcases hlo with h | h
    · left; omega
    · exact .inr h
  rw [hE1, hE2]
  clear hsc hE hE1 hE2 hlo he he' hu hE1074
  have hBE : 0 < frD p 1074 * 2 ^ E := Nat.mul_pos gT (Nat.two_pow_pos _)
  generalize hA : d * frN p 1074 = A at *
  generalize hB : frD p 1074 = B at *
  generalize hX : d * frN p e = X at *
  generalize hY : frD p e = Y at *
  have hX4 : d * frN p (e + 2) * Y = 4 * X * frD p (e + 2) := by rw [← hX, Nat.mul_assoc, ← ev]; ac_rfl
  have hU : unr (d * frN p (e + 2)) (frD p (e + 2)) = unr (4 * X) Y := unr_cross g2 ge hX4
  rw [hU] at hH ⊢
  have hHE := half_cross ge hBE hsE hH
  -- above: a is at least 2^52 (b 2^E)
  have hup : 4503599627370496 * Y ≤ X → B * 2 ^ E * 4503599627370496 ≤ A := fun h => by
    apply Nat.le_of_mul_le_mul_right _ ge
    rw [← hsE]
    have := Nat.mul_le_mul_right (B * 2 ^ E) h
    rw [show B * 2 ^ E * 4503599627370496 * Y = 4503599627370496 * Y * (B * 2 ^ E) by ac_rfl]
    exact this
  by_cases hlt : unr (4 * X) Y < 36028797018963966
  · rw [if_pos hlt, if_pos hlt]
    have hK : rou (unr (4 * X) Y) < 9007199254740992 := by unfold rou; omega
    refine ⟨near_round gT hHE ?_ (Nat.le_of_lt hK), hK, ?_⟩
    · rcases hEz with h | h
      · exact .inl h
      · exact .inr (hup h)
    · rcases hEz with h | h
      · exact .inl h
      · right
        -- 4 X / Y ≥ 2^54
        have : 18014398509481984 ≤ unr (4 * X) Y := by
          have h4 : 18014398509481984 ≤ 4 * X / Y := by rw [Nat.le_div_iff_mul_le ge]; omega
          unfold unr; split <;> omega
        unfold rou; omega
  · rw [if_neg hlt, if_neg hlt]
    have hge : 36028797018963965 ≤ 4 * X / Y := by
      unfold unr at hlt
      split at hlt <;> omega
    have hX1 : 36028797018963965 * Y ≤ 4 * X := by rw [Nat.le_div_iff_mul_le ge] at hge; exact hge
    have hh : hlf (unr (4 * X) Y) = unr (4 * X) (Y * 2) := unr_half (4 * X) Y ge
    rw [hh]
    have hH2 : Half (rou (unr (4 * X) (Y * 2))) (4 * X) (4 * (Y * 2)) := rou_half (by omega)
    have hK1 : 4503599627370496 ≤ rou (unr (4 * X) (Y * 2)) := by
      have h4 : 18014398509481982 ≤ 4 * X / (Y * 2) := by rw [Nat.le_div_iff_mul_le (by omega)]; omega
      -- at the lower edge what is left makes it odd
      by_cases h5 : 18014398509481983 ≤ 4 * X / (Y * 2)
      · have : 18014398509481983 ≤ unr (4 * X) (Y * 2) := by unfold unr; split <;> omega
        unfold rou; omega
      · have h6 : 4 * X / (Y * 2) = 18014398509481982 := by omega
        unfold unr at hlt ⊢
        rw [h6]
        split
        · rename_i h7
          have := Nat.div_add_mod (4 * X) (Y * 2)
          rw [h6, h7] at this
          unfold rou; omega
        · unfold rou; omega
    have hK2 : rou (unr (4 * X) (Y * 2)) < 9007199254740992 := by
      have h4 : 4 * X / (Y * 2) < 36028797018963966 := by
        apply Nat.div_lt_of_lt_mul
        omega
      unfold unr rou
      split <;> omega
    refine ⟨?_, hK2, .inr hK1⟩
    by_cases hbig : 9007199254740992 * Y ≤ X
    · refine near_round gT (half_cross (b := 4 * (Y * 2)) (by omega) (Nat.mul_pos gT (Nat.two_pow_pos _)) ?_ hH2) (.inr ?_) (Nat.le_of_lt hK2)
      · rw [Nat.pow_succ, show 4 * X * (B * (2 ^ E * 2)) = 4 * 2 * (X * (B * 2 ^ E)) by ac_rfl, hsE]; ac_rfl
      · have := hup (by omega)
        apply Nat.le_of_mul_le_mul_right _ ge
        have m := Nat.mul_le_mul_right (B * 2 ^ E) hbig
        rw [hsE] at m
        have e1 : B * 2 ^ (E + 1) * 4503599627370496 * Y = 9007199254740992 * Y * (B * 2 ^ E) := by
          rw [Nat.pow_succ, show B * (2 ^ E * 2) * 4503599627370496 * Y = 4503599627370496 * 2 * Y * (B * 2 ^ E) by ac_rfl]
        omega
    · -- just below 2^53: rounded up to it at E
      have hK0 : rou (unr (4 * X) Y) = 9007199254740992 := by
        have h4 : 4 * X / Y < 36028797018963968 := by
          apply Nat.div_lt_of_lt_mul
          omega
        unfold rou
        have : unr (4 * X) Y ≤ 36028797018963967 := by unfold unr; split <;> omega
        omega
      have hK3 : rou (unr (4 * X) (Y * 2)) = 4503599627370496 := by
        have h4 : 4 * X / (Y * 2) < 18014398509481984 := by
          apply Nat.div_lt_of_lt_mul
          omega
        have : unr (4 * X) (Y * 2) ≤ 18014398509481983 := by unfold unr; split <;> omega
        unfold rou at hK1 ⊢; omega
      rw [hK3]
      rw [hK0] at hHE
      have := near_round gT hHE (by rcases hEz with h | h; exact .inl h; exact .inr (hup h)) (Nat.le_refl _)
      rw [show (E + 1) * 4503599627370496 + 4503599627370496 = E * 4503599627370496 + 9007199254740992 by omega]
      exact this
end Go.Proofs.YtbakbikilbaafaaGreatDoor
namespace Go.Proofs.YtbakbikilbaafaaGreatDoor
open F64 Ieee
set_option linter.unusedVariables false
set_option maxHeartbeats 1000000
set_option maxRecDepth 100000

theorem cut_half (s : Bool) (n drop : Nat) : Half (Toward.even.cut s n drop) n (2 ^ drop) := by
  have hp : ∀ k, (1 : Nat) <<< k = 2 ^ k := fun k => by simp [Nat.shiftLeft_eq]
  unfold Toward.cut
  rw [hp]
  rcases Nat.lt_or_ge (n.log2 + 2) drop with h | h
  · rw [Nat.min_eq_right (by omega)]
    have h1 : n < 2 ^ (n.log2 + 1) := Nat.lt_log2_self
    have h2 : 2 ^ (n.log2 + 2) = 2 * 2 ^ (n.log2 + 1) := by rw [Nat.pow_succ, Nat.mul_comm]
    have h3 : 2 ^ (n.log2 + 2) ≤ 2 ^ drop := Nat.pow_le_pow_right (by decide) (by omega)
    have h4 : n / 2 ^ (n.log2 + 2) = 0 := Nat.div_eq_of_lt (by omega)
    have h5 : n % 2 ^ (n.log2 + 2) = n := Nat.mod_eq_of_lt (by omega)
    simp only [h4, h5]
    have h6 : decide (2 ^ (n.log2 + 2) < 2 * n) = false := by simp; omega
    have h7 : (2 ^ (n.log2 + 2) == 2 * n) = false := by simp; omega
    rw [h6, h7]
    exact ⟨.inl (by simp; omega), .inl rfl⟩
  · rw [Nat.min_eq_left h]
    have hG := Nat.two_pow_pos drop
    generalize 2 ^ drop = G at *
    have hd := Nat.div_add_mod n G
    have hm := Nat.mod_lt n hG
    simp only
    generalize n / G = q at *
    generalize n % G = r at *
    have key : ∀ K, G * (2 * K + 1) = 2 * (G * K) + G := fun K => by rw [Nat.mul_add, Nat.mul_one]; congr 1; ac_rfl
    have key2 : ∀ K, G * (2 * (K + 1) - 1) = 2 * (G * K) + G := fun K => key K
    have key3 : ∀ K, G * (K + 1) = G * K + G := fun K => Nat.mul_succ _ _
    unfold Half
    by_cases c1 : G < 2 * r
    · have : (decide (G < 2 * r) || (G == 2 * r && q % 2 == 1)).toNat = 1 := by simp [c1]
      rw [this, key, key3, key2]
      exact ⟨.inl (by omega), .inr (.inl (by omega))⟩
    · by_cases c2 : G = 2 * r
      · rcases Nat.mod_two_eq_zero_or_one q with hq | hq
        · have : (decide (G < 2 * r) || (G == 2 * r && q % 2 == 1)).toNat = 0 := by simp [c1, hq]
          rw [this]
          simp only [Nat.add_zero]
          rw [key]
          refine ⟨.inr ⟨by omega, hq⟩, ?_⟩
          cases q with
          | zero => exact .inl rfl
          | succ q => rw [key2]; rw [key3] at hd; right; left; omega
        · have : (decide (G < 2 * r) || (G == 2 * r && q % 2 == 1)).toNat = 1 := by simp [c2, hq]
          rw [this, key, key3, key2]
          exact ⟨.inl (by omega), .inr (.inr ⟨by omega, by omega⟩)⟩
      · have : (decide (G < 2 * r) || (G == 2 * r && q % 2 == 1)).toNat = 0 := by simp [c1, c2]
        rw [this]
        simp only [Nat.add_zero]
        rw [key]
        refine ⟨.inl (by omega), ?_⟩
        cases q with
        | zero => exact .inl rfl
        | succ q => rw [key2]; rw [key3] at hd; right; left; omega
theorem half_le {K a B M : Nat} (hB : 0 < B) (h : Half K a B) (ha : a < B * M) : K ≤ M := by
  obtain ⟨-, h2⟩ := h
  rcases Nat.lt_or_ge M K with h3 | h3
  · exfalso
    obtain ⟨k, rfl⟩ : ∃ k, K = k + 1 := ⟨K - 1, by omega⟩
    have m : B * (2 * M + 1) ≤ B * (2 * (k + 1) - 1) := Nat.mul_le_mul_left _ (by omega)
    rw [Nat.mul_add, Nat.mul_one, show B * (2 * M) = 2 * (B * M) by ac_rfl] at m
    rcases h2 with h2 | h2 | ⟨h2, -⟩
    · omega
    · omega
    · omega
  · exact h3
def scN (mag : Nat) (place : Int) : Nat := mag * 2 ^ (place + 1074).toNat
def scD (place : Int) : Nat := 2 ^ (-(place + 1074)).toNat
theorem scD_pos (place : Int) : 0 < scD place := Nat.two_pow_pos _
/-- what the format's rounding does -/
theorem nearest_form (s : Bool) {mag : Nat} (hm : 0 < mag) (place : Int) : ∃ (last : Int) (E K : Nat), double.nearest s mag place = wd s (min (E * 4503599627370496 + K) 9218868437227405312) ∧ (E : Int) = last + 1074 ∧ last = max (place + (mag.log2 : Int) - 52) (-1074) ∧
    Half K (mag * 2 ^ (place - last).toNat) (2 ^ (last - place).toNat) ∧ K ≤ 9007199254740992 := by
  unfold Format.nearest
  rw [if_neg (by omega)]
  simp only [d_least, d_frac, d_binade, d_inf, d_word]
  obtain ⟨last, hl⟩ : ∃ l : Int, max (place + (mag.log2 : Int) - (52 : Nat)) (-1074) = l := ⟨_, rfl⟩
  rw [hl]
  have hl2 : mag < 2 ^ (mag.log2 + 1) := Nat.lt_log2_self
  obtain ⟨E, hE⟩ : ∃ E : Nat, (E : Int) = last + 1074 := ⟨(last + 1074).toNat, by omega⟩
  have hE2 : (last - -1074).toNat = E := by omega
  rw [hE2]
  have hH := cut_half s (mag <<< (place - last).toNat) (last - place).toNat
  rw [Nat.shiftLeft_eq] at hH ⊢
  refine ⟨last, E, _, rfl, hE, hl.symm, hH, ?_⟩
  apply half_le (Nat.two_pow_pos _) hH
  have e53 : (9007199254740992 : Nat) = 2 ^ 53 := by decide
  rw [e53, ← Nat.pow_add]
  have h1 : mag * 2 ^ (place - last).toNat < 2 ^ (mag.log2 + 1) * 2 ^ (place - last).toNat := Nat.mul_lt_mul_of_pos_right hl2 (Nat.two_pow_pos _)
  rw [← Nat.pow_add] at h1
  exact Nat.lt_of_lt_of_le h1 (Nat.pow_le_pow_right (by decide) (by omega))
/-- the format's rounding is to the nearest -/
theorem nearest_near (s : Bool) {mag : Nat} (hm : 0 < mag) (place : Int) : ∃ r, double.nearest s mag place = wd s r ∧ Near r (scN mag place) (scD place) := by
  obtain ⟨last, E, K, h1, hE, hl, hH, hK⟩ := nearest_form s hm place
  refine ⟨_, h1, ?_⟩
  have hl1 := Nat.log2_self_le (Nat.ne_of_gt hm)
  generalize mag.log2 = L at *
  have hb := scD_pos place
  have hcross : mag * 2 ^ (place - last).toNat * (scD place * 2 ^ E) = scN mag place * 2 ^ (last - place).toNat := by
    unfold scD scN
    rw [Nat.mul_assoc, Nat.mul_assoc, ← Nat.pow_add, ← Nat.pow_add, ← Nat.pow_add]
    congr 2
    omega
  refine near_round hb (half_cross (Nat.two_pow_pos _) (Nat.mul_pos hb (Nat.two_pow_pos _)) hcross hH) ?_ hK
  by_cases h0 : E = 0
  · exact .inl h0
  · right
    have hla : last = place + L - 52 := by omega
    unfold scD scN
    have e52 : (4503599627370496 : Nat) = 2 ^ 52 := by decide
    rw [e52, ← Nat.pow_add, ← Nat.pow_add]
    have : 2 ^ ((-(place + 1074)).toNat + E + 52) = 2 ^ L * 2 ^ (place + 1074).toNat := by
      rw [← Nat.pow_add]; congr 1; omega
    rw [this]
    exact Nat.mul_le_mul_right _ hl1
/-- a product of positive finite floats -/
theorem mul_near {x y : Nat} (hx0 : 0 < x) (hx : x < 9218868437227405312) (hy0 : 0 < y) (hy : y < 9218868437227405312) : ∃ r, double.mul x y = some r ∧ Near r (V x * V y) U := by
  have fx : fin x = true := by unfold fin rung; simp; omega
  have fy : fin y = true := by unfold fin rung; simp; omega
  have rx : rung x = x := by unfold rung; omega
  have ry : rung y = y := by unfold rung; omega
  have sx : sgn x = false := by unfold sgn; simp; omega
  have sy : sgn y = false := by unfold sgn; simp; omega
  unfold Format.mul
  rw [read_fin fx, read_fin fy, rx, ry, sx, sy]
  have hm : 0 < man x * man y := Nat.mul_pos (man_pos hx0) (man_pos hy0)
  obtain ⟨r, h1, h2⟩ := nearest_near false hm (-1074 + (ex x : Int) + (-1074 + (ex y : Int)))
  refine ⟨r, ?_, ?_⟩
  · simp only [Datum.product, Option.map_some, Format.write]
    rw [show (false ^^ false) = false from rfl, h1]
    rfl
  · refine near_eq h2 (scD_pos _) U_pos ?_
    unfold scN scD V U
    have hPL := PL_eq
    have e : (-1074 + (ex x : Int) + (-1074 + (ex y : Int)) + 1074).toNat + PL = ex x + ex y + (-(-1074 + (ex x : Int) + (-1074 + (ex y : Int)) + 1074)).toNat := by omega
    rw [Nat.mul_assoc, ← Nat.pow_add, e, Nat.pow_add, Nat.pow_add]
    ac_rfl
theorem half_sticky {K D n q v : Nat} (hn : 0 < n) (hv : 2 ≤ v) (hq : q = 2 * (D / n) + (if D % n = 0 then 0 else 1)) (h : Half K q (2 ^ v)) : Half K (2 * D) (n * 2 ^ v) := by
  obtain ⟨w, hw⟩ : ∃ w, 2 ^ v = 4 * w := ⟨2 ^ (v - 2), by rw [show v = (v - 2) + 2 by omega, Nat.pow_add, Nat.mul_comm, show v - 2 + 2 - 2 = v - 2 by omega]⟩
  rw [hw] at h ⊢
  have hd := Nat.div_add_mod D n
  have hm := Nat.mod_lt D hn
  generalize D / n = f at *
  generalize D % n = r at *
  obtain ⟨h1, h2⟩ := h
  have key : ∀ z, n * (4 * w) * z = n * (4 * (w * z)) := fun z => by ac_rfl
  have key2 : ∀ z, 4 * w * z = 4 * (w * z) := fun z => by ac_rfl
  unfold Half
  rw [key]
  rw [key2] at h1
  constructor
  · generalize w * (2 * K + 1) = z at *
    have m : ∀ a b : Nat, a ≤ b → n * a ≤ n * b := fun a b h => Nat.mul_le_mul_left n h
    have e1 : n * (2 * f) = 2 * (n * f) := by ac_rfl
    have e2 : n * (4 * z) = 4 * (n * z) := by ac_rfl
    by_cases hr : r = 0
    · rw [if_pos hr] at hq
      subst hq
      rcases h1 with h1 | ⟨h1, g⟩
      · left
        have := Nat.mul_lt_mul_of_pos_left (show 2 * (2 * f + 0) < 4 * z from h1) hn
        rw [show n * (2 * (2 * f + 0)) = 4 * (n * f) by rw [Nat.add_zero]; ac_rfl] at this
        omega
      · right
        refine ⟨?_, g⟩
        have : n * (2 * (2 * f + 0)) = n * (4 * z) := by rw [h1]
        rw [show n * (2 * (2 * f + 0)) = 4 * (n * f) by rw [Nat.add_zero]; ac_rfl] at this
        omega
    · rw [if_neg hr] at hq
      subst hq
      left
      have hz : f + 1 ≤ z := by omega
      have := m _ _ hz
      rw [Nat.mul_add, Nat.mul_one] at this
      omega
  · rcases h2 with h2 | h2
    · exact .inl h2
    · right
      rw [key]
      rw [key2] at h2
      generalize w * (2 * K - 1) = z at *
      have m : ∀ a b : Nat, a ≤ b → n * a ≤ n * b := fun a b h => Nat.mul_le_mul_left n h
      have e2 : n * (4 * z) = 4 * (n * z) := by ac_rfl
      by_cases hr : r = 0
      · rw [if_pos hr] at hq
        subst hq
        rcases h2 with h2 | ⟨h2, g⟩
        · left
          have := Nat.mul_lt_mul_of_pos_left (show 4 * z < 2 * (2 * f + 0) from h2) hn
          rw [show n * (2 * (2 * f + 0)) = 4 * (n * f) by rw [Nat.add_zero]; ac_rfl] at this
          omega
        · right
          refine ⟨?_, g⟩
          have : n * (4 * z) = n * (2 * (2 * f + 0)) := by rw [h2]
          rw [show n * (2 * (2 * f + 0)) = 4 * (n * f) by rw [Nat.add_zero]; ac_rfl] at this
          omega
      · rw [if_neg hr] at hq
        subst hq
        left
        have hz : z ≤ f := by omega
        have := m _ _ hz
        omega
theorem div_core {m n a b more : Nat} (hmx : 0 < m) (hmy : 0 < n) (hmore : 54 + n.log2 - m.log2 = more) :
    ∃ r, double.nearest false (2 * (m * 2 ^ more / n) + (if m * 2 ^ more % n = 0 then 0 else 1)) (-1074 + (a : Int) - (-1074 + (b : Int)) - (more : Int) - 1) = wd false r ∧ Near r (m * 2 ^ a * U) (n * 2 ^ b) := by
  have hlx := Nat.log2_self_le (Nat.ne_of_gt hmx)
  have hly : n < 2 ^ (n.log2 + 1) := Nat.lt_log2_self
  have hDge : 2 ^ 53 ≤ m * 2 ^ more / n := by
    rw [Nat.le_div_iff_mul_le hmy]
    have h1 : 2 ^ 53 * n ≤ 2 ^ 53 * 2 ^ (n.log2 + 1) := Nat.mul_le_mul_left _ (Nat.le_of_lt hly)
    have h2 : 2 ^ m.log2 * 2 ^ more ≤ m * 2 ^ more := Nat.mul_le_mul_right _ hlx
    rw [← Nat.pow_add] at h1 h2
    exact Nat.le_trans h1 (Nat.le_trans (Nat.pow_le_pow_right (by decide) (by omega)) h2)
  obtain ⟨D, hD⟩ : ∃ D, m * 2 ^ more = D := ⟨_, rfl⟩
  rw [hD] at hDge ⊢
  obtain ⟨q, hq⟩ : ∃ q, 2 * (D / n) + (if D % n = 0 then 0 else 1) = q := ⟨_, rfl⟩
  rw [hq]
  have e53 : (2 : Nat) ^ 53 = 9007199254740992 := by decide
  have hq54 : 18014398509481984 ≤ q := by rw [e53] at hDge; omega
  obtain ⟨last, E, K, h1, hE, hl, hH, hK⟩ := nearest_form false (show 0 < q by omega) (-1074 + (a : Int) - (-1074 + (b : Int)) - (more : Int) - 1)
  have hlq : 54 ≤ q.log2 := by
    rw [Nat.le_log2 (by omega)]
    exact hq54
  have hlq1 := Nat.log2_self_le (show q ≠ 0 by omega)
  have hv : 2 ≤ (last - (-1074 + (a : Int) - (-1074 + (b : Int)) - (more : Int) - 1)).toNat := by omega
  have hu : (-1074 + (a : Int) - (-1074 + (b : Int)) - (more : Int) - 1 - last).toNat = 0 := by omega
  rw [hu, Nat.pow_zero, Nat.mul_one] at hH
  have hH2 := half_sticky hmy hv hq.symm hH
  have hPL := PL_eq
  refine ⟨_, h1, ?_⟩
  have hVb : 0 < n * 2 ^ b := Nat.mul_pos hmy (Nat.two_pow_pos _)
  refine near_round hVb (half_cross (Nat.mul_pos hmy (Nat.two_pow_pos _)) (Nat.mul_pos hVb (Nat.two_pow_pos _)) ?_ hH2) ?_ hK
  · rw [← hD]
    unfold U
    rw [show 2 * (m * 2 ^ more) * (n * 2 ^ b * 2 ^ E) = m * n * (2 ^ 1 * 2 ^ more * 2 ^ b * 2 ^ E) by rw [Nat.pow_one]; ac_rfl,
      show m * 2 ^ a * 2 ^ PL * (n * 2 ^ (last - (-1074 + (a : Int) - (-1074 + (b : Int)) - (more : Int) - 1)).toNat) = m * n * (2 ^ a * 2 ^ PL * 2 ^ (last - (-1074 + (a : Int) - (-1074 + (b : Int)) - (more : Int) - 1)).toNat) by ac_rfl,
      ← Nat.pow_add, ← Nat.pow_add, ← Nat.pow_add, ← Nat.pow_add, ← Nat.pow_add]
    congr 2
    omega
  · by_cases h0 : E = 0
    · exact .inl h0
    · right
      -- n 2^(log2 q) ≤ 2 D
      have hnq : n * 2 ^ q.log2 ≤ 2 * D := by
        have hev : 2 ^ q.log2 ≤ 2 * (D / n) := by
          obtain ⟨k, hk⟩ : ∃ k, q.log2 = k + 1 := ⟨q.log2 - 1, by omega⟩
          rw [hk, Nat.pow_succ] at hlq1 ⊢
          split at hq <;> omega
        have h3 := Nat.mul_le_mul_left n hev
        have h4 : n * (D / n) ≤ D := Nat.mul_div_le D n
        rw [show n * (2 * (D / n)) = 2 * (n * (D / n)) by ac_rfl] at h3
        omega
      have e52 : (4503599627370496 : Nat) = 2 ^ 52 := by decide
      unfold U
      rw [e52]
      apply Nat.le_of_mul_le_mul_right _ (Nat.two_pow_pos (more + 1))
      have hx : m * 2 ^ a * 2 ^ PL * 2 ^ (more + 1) = 2 * D * 2 ^ (a + PL) := by
        rw [← hD, Nat.pow_succ, Nat.pow_add]; ac_rfl
      rw [hx]
      have hy : n * 2 ^ b * 2 ^ E * 2 ^ 52 * 2 ^ (more + 1) = n * 2 ^ q.log2 * 2 ^ (a + PL) := by
        simp only [Nat.mul_assoc, ← Nat.pow_add]
        congr 2
        omega
      rw [hy]
      exact Nat.mul_le_mul_right _ hnq
/-- a quotient of positive finite floats -/
theorem div_near {x y : Nat} (hx0 : 0 < x) (hx : x < 9218868437227405312) (hy0 : 0 < y) (hy : y < 9218868437227405312) : ∃ r, double.div x y = some r ∧ Near r (V x * U) (V y) := by
  have fx : fin x = true := by unfold fin rung; simp; omega
  have fy : fin y = true := by unfold fin rung; simp; omega
  have rx : rung x = x := by unfold rung; omega
  have ry : rung y = y := by unfold rung; omega
  have sx : sgn x = false := by unfold sgn; simp; omega
  have sy : sgn y = false := by unfold sgn; simp; omega
  have hmx := man_pos hx0
  have hmy := man_pos hy0
  unfold Format.div
  rw [read_fin fx, read_fin fy, rx, ry, sx, sy]
  simp only [Datum.quotient]
  rw [if_neg (by omega)]
  simp only [Option.map_some, Format.write]
  have hVx : V x = man x * 2 ^ ex x := rfl
  have hVy : V y = man y * 2 ^ ex y := rfl
  rw [hVx, hVy]
  have hmr : double.fractionBits + 2 + (man y).log2 - (man x).log2 = 54 + (man y).log2 - (man x).log2 := by rw [d_frac]
  rw [hmr]
  obtain ⟨r, h1, h2⟩ := div_core (a := ex x) (b := ex y) hmx hmy rfl
  refine ⟨r, ?_, h2⟩
  rw [Nat.shiftLeft_eq, show (false ^^ false) = false from rfl]
  have hb : ∀ D n : Nat, (D % n != 0).toNat = if D % n = 0 then 0 else 1 := fun D n => by
    by_cases h : D % n = 0 <;> simp [h]
  rw [hb, h1]
  rfl
end Go.Proofs.YtbakbikilbaafaaGreatDoor
namespace F64
open Ieee Go Go.RowKit

abbrev O (x y : Nat) := FloatKind.f64.format.order x y
theorem O_eq (x y : Nat) : FloatKind.f64.format.order x y = double.order x y := rfl

theorem sgn_small {x : Nat} (h : x < 9223372036854775808) : sgn x = false := by unfold sgn; rw [beq_eq_false_iff_ne]; omega
theorem rung_small {x : Nat} (h : x < 9223372036854775808) : rung x = x := Nat.mod_eq_of_lt h
theorem fin_small {x : Nat} (h : x < 9218868437227405312) : fin x = true := by
  unfold fin; rw [rung_small (by omega)]; exact decide_eq_true h
theorem SV_small {x : Nat} (h : x < 9223372036854775808) : SV x = (V x : Int) := by
  unfold SV; rw [sgn_small h, rung_small h]; rfl

theorem order_small {x y : Nat} (hx : x < 9218868437227405312) (hy : y < 9218868437227405312) : double.order x y = some (compare x y) := by
  rw [order_fin (fin_small hx) (fin_small hy), SV_small (by omega), SV_small (by omega)]
  congr 1
  have h1 : ((V x : Int) < (V y : Int)) ↔ x < y := by rw [Int.ofNat_lt]; exact V_lt_iff
  have h2 : ((V x : Int) = (V y : Int)) ↔ x = y := by
    constructor
    · intro h; exact V_inj (Int.ofNat_inj.1 h)
    · intro h; rw [h]
  simp only [compare, compareOfLessAndEq, h1, h2]

theorem cmp_lt (x y : Nat) : (some (compare x y) == some Ordering.lt) = decide (x < y) := by
  simp only [compare, compareOfLessAndEq]
  by_cases h : x < y
  · simp [h]
  · by_cases h2 : x = y
    · simp [h2]
    · simp [h, h2]
theorem cmp_gt (x y : Nat) : (some (compare x y) == some Ordering.gt) = decide (y < x) := by
  simp only [compare, compareOfLessAndEq]
  by_cases h : x < y
  · simp [h]; omega
  · by_cases h2 : x = y
    · simp [h2]
    · simp [h, h2]; omega
theorem cmp_eq (x y : Nat) : (some (compare x y) == some Ordering.eq) = decide (x = y) := by
  simp only [compare, compareOfLessAndEq]
  by_cases h : x < y
  · simp [h]; omega
  · by_cases h2 : x = y
    · simp [h2]
    · simp [h, h2]

theorem ord_lt {x y : Nat} (hx : x < 9218868437227405312) (hy : y < 9218868437227405312) : (FloatKind.f64.format.order x y == some Ordering.lt) = decide (x < y) := by
  rw [O_eq, order_small hx hy, cmp_lt]
theorem ord_gt {x y : Nat} (hx : x < 9218868437227405312) (hy : y < 9218868437227405312) : (FloatKind.f64.format.order x y == some Ordering.gt) = decide (y < x) := by
  rw [O_eq, order_small hx hy, cmp_gt]
theorem ord_eq {x y : Nat} (hx : x < 9218868437227405312) (hy : y < 9218868437227405312) : (FloatKind.f64.format.order x y == some Ordering.eq) = decide (x = y) := by
  rw [O_eq, order_small hx hy, cmp_eq]

/-- a NaN is told by x != x -/
theorem ord_self (x : Nat) : (FloatKind.f64.format.order x x != some Ordering.eq) = isNaN x := by
  rw [O_eq]
  by_cases h : isNaN x = true
  · obtain ⟨f, hf⟩ := read_nan h
    unfold Format.order; rw [hf, h]; rfl
  · have h' : ¬ 9218868437227405312 < rung x := by simpa [isNaN] using h
    have hn : isNaN x = false := by simpa using h
    rw [hn]
    rcases Nat.lt_or_ge (rung x) 9218868437227405312 with h1 | h1
    · rw [order_fin (decide_eq_true h1) (decide_eq_true h1)]
      simp [compare, compareOfLessAndEq]
    · have h2 : rung x = 9218868437227405312 := by omega
      unfold Format.order; rw [read_inf h2]
      simp [Datum.order, compare, compareOfLessAndEq]

/-- infinity is told by x > MaxFloat64 -/
theorem ord_max {x : Nat} (hx : x < 18446744073709551616) : (FloatKind.f64.format.order x 9218868437227405311 == some Ordering.gt) = decide (x = 9218868437227405312) := by
  rw [O_eq]
  by_cases h : isNaN x = true
  · obtain ⟨f, hf⟩ := read_nan h
    have h' : 9218868437227405312 < rung x := of_decide_eq_true h
    have : x ≠ 9218868437227405312 := by intro e; subst e; simp [rung] at h'
    unfold Format.order; rw [hf]; simp [Datum.order, this]
  · have h' : ¬ 9218868437227405312 < rung x := by simpa [isNaN] using h
    rcases Nat.lt_or_ge (rung x) 9218868437227405312 with h1 | h1
    · have h3 : x ≠ 9218868437227405312 := by intro e; subst e; simp [rung] at h1
      rw [order_fin (decide_eq_true h1) (fin_small (by decide)), SV_small (x := 9218868437227405311) (by decide)]
      have h4 : SV x ≤ (V 9218868437227405311 : Int) := by
        have := V_le (show rung x ≤ 9218868437227405311 by omega)
        unfold SV; split <;> omega
      have h5 : ¬ (V 9218868437227405311 : Int) < SV x := by omega
      rw [decide_eq_false h3]
      simp only [compare, compareOfLessAndEq]
      by_cases h6 : SV x < (V 9218868437227405311 : Int)
      · simp [h6]
      · have : SV x = (V 9218868437227405311 : Int) := by omega
        simp [this]
    · have h2 : rung x = 9218868437227405312 := by omega
      have hr : double.read 9218868437227405311 = .number false (man 9218868437227405311) (-1074 + (ex 9218868437227405311 : Int)) := by
        have := read_fin (w := 9218868437227405311) (fin_small (by decide))
        rw [sgn_small (by decide), rung_small (by decide)] at this
        exact this
      unfold Format.order; rw [read_inf h2, hr]
      have hp := wd_parts x hx
      rw [h2] at hp
      cases hs : sgn x
      · rw [hs] at hp
        have : x = 9218868437227405312 := hp.symm
        simp [Datum.order, this]
      · rw [hs] at hp
        have : x ≠ 9218868437227405312 := by rw [← hp]; decide
        simp [Datum.order, this]

/- bits -/
theorem b_abs {x : Nat} (hx : x < 18446744073709551616) : (bits BinOp.andNot IntKind.u64 (x : Int) 9223372036854775808) = (rung x : Int) := by
  rw [show (9223372036854775808 : Int) = ((9223372036854775808 : Nat) : Int) from rfl, u64_andNot_nat _ _ hx (by decide)]
  rw [show 18446744073709551615 - 9223372036854775808 = 2 ^ 63 - 1 from rfl, Nat.and_two_pow_sub_one_eq_mod]; rfl
theorem b_neg {x : Nat} (hx : x < 18446744073709551616) : x ^^^ 9223372036854775808 = wd (!sgn x) (rung x) := by
  have hp := wd_parts x hx
  have hl := rung_lt x
  generalize rung x = r at *
  have hx1 : r ^^^ 9223372036854775808 = 9223372036854775808 + r := by
    have h1 : r &&& 9223372036854775808 = 0 := by
      rw [show (9223372036854775808 : Nat) = 2 ^ 63 from rfl, nat_bit, Nat.div_eq_of_lt (by omega)]
    rw [Nat.xor_comm]
    have h2 := nat_join 63 9223372036854775808 r (by decide) (by omega)
    rw [← h2]
    apply Nat.eq_of_testBit_eq
    intro i
    have h3 := congrArg (Nat.testBit · i) h1
    simp only [Nat.testBit_and, Nat.zero_testBit] at h3
    rw [Nat.testBit_xor, Nat.testBit_or]
    cases ha : r.testBit i <;> cases hb : (9223372036854775808 : Nat).testBit i <;> simp_all
  cases hs : sgn x
  · rw [hs] at hp
    have : x = r := hp.symm
    rw [this, hx1]; rfl
  · rw [hs] at hp
    have : x = 9223372036854775808 + r := hp.symm
    rw [this, ← hx1, Nat.xor_assoc, Nat.xor_self, Nat.xor_zero]; rfl
end F64
namespace Go.Proofs.YtbakbikilbaafaaGreatDoor
open Go.RowKit F64 Ieee
set_option linter.unusedVariables false
set_option maxHeartbeats 4000000
set_option maxRecDepth 100000

/-- the float nearest to a / b -/
noncomputable def nearV (a b : Nat) : Nat := open Classical in if h : ∃ r, Near r a b then Classical.choose h else 0
theorem nearV_eq {r a b : Nat} (hb : 0 < b) (h : Near r a b) : nearV a b = r := by
  unfold nearV
  have hx : ∃ r, Near r a b := ⟨r, h⟩
  rw [dif_pos hx]
  exact near_one (Classical.choose_spec hx) h hb hb rfl
/-- the float nearest to d times 10 to p -/
noncomputable def nv (d : Nat) (p : Int) : Nat := nearV (d * frN p 1074) (frD p 1074)
theorem nv_of {r d : Nat} {p : Int} {a b : Nat} (hb : 0 < b) (h : Near r a b) (he : a * frD p 1074 = d * frN p 1074 * b) : nv d p = r :=
  nearV_eq (frD_pos _ _) (near_eq h hb (frD_pos _ _) he)
theorem frN_U {p : Int} : frN p 1074 = 10 ^ p.toNat * U := by
  unfold frN U
  have : (1074 : Int).toNat = PL := rfl
  rw [this]
theorem frD_1 {p : Int} : frD p 1074 = 10 ^ (-p).toNat := by
  unfold frD
  have : (-(1074 : Int)).toNat = 0 := rfl
  rw [this, Nat.pow_zero, Nat.mul_one]
def pow10W : List Nat := [4607182418800017408, 4621819117588971520, 4636737291354636288, 4652007308841189376, 4666723172467343360, 4681608360884174848, 4696837146684686336, 4711630319722168320, 4726483295884279808, 4741671816366391296, 4756540486875873280, 4771362005757984768, 4786511204640096256, 4801453603149578240, 4816244402031689728, 4831355200913801216, 4846369599423283200, 4861130398305394688, 4876203697187506176, 4891288408196988160, 4906019910204099648, 4921056587992461136, 4936209963552724370]
theorem pow10W_V : ∀ i : Fin 23, V (pow10W.getD i.val 0) = 10 ^ i.val * U ∧ 0 < pow10W.getD i.val 0 ∧ pow10W.getD i.val 0 < 9218868437227405312 := by decide +kernel
/-- float64info lies in the world -/
def FI (w : World) : Prop := w.cell? ⟨9, 0, none⟩ = some (.int .u64 52) ∧ w.cell? ⟨9, 1, none⟩ = some (.int .u64 11) ∧ w.cell? ⟨9, 2, none⟩ = some (.int .i64 (-1023))
/-- float64pow10 lies in the world -/
def F10 (w : World) : Prop := ∃ (b o c : Nat), w.cell? ⟨16, 0, none⟩ = some (.slice (some ⟨b, o, none⟩) 23 c) ∧ ∀ i, i < 23 → w.cell? ⟨b, o + i, none⟩ = some (.float .f64 (pow10W.getD i 0))
theorem FI.keep {w w' : World} (h : FI w) (hb : Below w.heap.size w w') : FI w' := by
  obtain ⟨h0, h1, h2⟩ := h
  exact ⟨(hb.cell (p := ⟨9, 0, none⟩) (lt_ofC h0)).trans h0, (hb.cell (p := ⟨9, 1, none⟩) (lt_ofC h1)).trans h1, (hb.cell (p := ⟨9, 2, none⟩) (lt_ofC h2)).trans h2⟩
theorem F10.keep {w w' : World} (h : F10 w) (hb : Below w.heap.size w w') : F10 w' := by
  obtain ⟨b, o, c, h0, h1⟩ := h
  exact ⟨b, o, c, (hb.cell (p := ⟨16, 0, none⟩) (lt_ofC h0)).trans h0, fun i hi => (hb.cell (p := ⟨b, o + i, none⟩) (lt_ofC (h1 i hi))).trans (h1 i hi)⟩
theorem fin_ofLt {x : Nat} (h : x < 9218868437227405312) : fin x = true := by unfold fin rung; simp; omega
/-- a whole number below 2^53 as a word -/
theorem whole_word {d : Nat} (h0 : 0 < d) (h : d < 9007199254740992) : ∃ r, 0 < r ∧ r < 9218868437227405312 ∧ V r = d * U ∧ floatOfInt .f64 (d : Int) = r := by
  obtain ⟨r, h1, h2⟩ := rep PL d h (by decide)
  have h2 : V r = d * U := h2
  have hr0 : 0 < r := by
    rcases Nat.eq_zero_or_pos r with h3 | h3
    · rw [h3, V_zero] at h2
      have := Nat.mul_pos h0 U_pos
      omega
    · exact h3
  refine ⟨r, hr0, h1, h2, ?_⟩
  have := write_whole false d r h1 h2
  have e : floatOfInt .f64 (d : Int) = double.write (.number (decide ((d : Int) < 0)) (d : Int).natAbs 0) := rfl
  rw [e]
  have e2 : decide ((d : Int) < 0) = false := by simp
  have e3 : (d : Int).natAbs = d := by simp
  rw [e2, e3, this]
  rfl
theorem ord_neg {x y : Nat} (hx : x < 9218868437227405312) (hy : 9223372036854775808 ≤ y) (hy2 : y < 18442240474082181120) : (FloatKind.f64.format.order x y == some Ordering.lt) = false := by
  have fx := fin_ofLt hx
  have fy : fin y = true := by unfold fin rung; simp; omega
  have : FloatKind.f64.format.order x y = double.order x y := rfl
  rw [this, order_fin fx fy]
  have sx : 0 ≤ SV x := by
    unfold SV
    have : sgn x = false := by unfold sgn; simp; omega
    rw [this]; simp
  have sy : SV y ≤ 0 := by
    unfold SV
    have : sgn y = true := by unfold sgn; simp; omega
    rw [this]; simp
  rw [beq_eq_false_iff_ne]
  intro h
  have h := Option.some.inj h
  simp only [compare, compareOfLessAndEq] at h
  split at h
  · omega
  · split at h <;> cases h
theorem near_lt {r a b z : Nat} (hb : 0 < b) (h : Near r a b) (hz : z < 9218868437227405312) (ha : a ≤ V z * b) : r ≤ z :=
  near_mono h (near_V hz hb) hb hb (Nat.mul_le_mul_right _ ha)
theorem V_z150 : V 5282722362905591808 = 2 ^ 150 * U := by decide +kernel
/-- multiplied by a power of ten of the table -/
theorem mul_pow {x d k : Nat} (hx0 : 0 < x) (hx : x < 9218868437227405312) (hV : V x = d * U) (hk : k < 23) (hd : d ≤ 9007199254740992) :
    ∃ r, double.mul x (pow10W.getD k 0) = some r ∧ Near r (d * 10 ^ k * U) 1 ∧ r < 9218868437227405312 := by
  obtain ⟨v1, v2, v3⟩ := pow10W_V ⟨k, hk⟩
  simp only at v1 v2 v3
  obtain ⟨r, h1, h2⟩ := mul_near hx0 hx v2 v3
  rw [hV, v1] at h2
  have hn : Near r (d * 10 ^ k * U) 1 := near_eq h2 U_pos (by decide) (by ac_rfl)
  refine ⟨r, h1, hn, ?_⟩
  have : r ≤ 5282722362905591808 := by
    refine near_lt (by decide) hn (by decide) ?_
    rw [V_z150, Nat.mul_one]
    refine Nat.mul_le_mul_right _ ?_
    have h5 : 10 ^ k ≤ 10 ^ 22 := Nat.pow_le_pow_right (by decide) (by omega)
    exact Nat.le_trans (Nat.mul_le_mul hd h5) (by decide)
  omega
theorem near_whole {r d z : Nat} (hz : z < 9218868437227405312) (hV : V z = d * U) (h : Near r (d * U) 1) : r = z := by
  have := near_V hz (b := 1) (by decide)
  rw [hV, Nat.mul_one] at this
  exact near_one h this (by decide) (by decide) rfl
def ExR (d : Nat) (p : Int) (r : Ending) : Prop := ∃ f ok, r = .returned (.tuple #[.float .f64 f, .bool ok]) ∧ (ok = true → f = nv d p)
theorem c_exact (d : Nat) (p : Int) (hd0 : 0 < d) (hd : d < 18446744073709551616) (h1 : -400 ≤ p) (h2 : p ≤ 400) (w : World) (hFI : FI w) (hF : F10 w) :
    Calls Tryz.prog 212 #[.int .u64 (d : Int), .int .i64 p, .bool false] w fun r w' => ExR d p r ∧ w = w' := by
  obtain ⟨fi, -, -⟩ := hFI
  obtain ⟨b, o, c, g0, g1⟩ := hF
  have sh : (d : Int) / 4503599627370496 = ((d / 4503599627370496 : Nat) : Int) := by omega
  by_cases hbig : 4503599627370496 ≤ d
  · have n1 : ((d : Int) / 4503599627370496 != 0) = true := by simp; omega
    clear sh g0 g1 hbig
    go_enter Tryz.func212, Tryz.ntmps212
    go_wp2
    go_ret2
    exact ⟨⟨_, _, rfl, fun h => by cases h⟩, rfl⟩
  have n1 : ((d : Int) / 4503599627370496 != 0) = false := by
    have : (d : Int) / 4503599627370496 = 0 := by omega
    rw [this]; rfl
  obtain ⟨x, hx0, hx, hV, hfl⟩ := whole_word hd0 (show d < 9007199254740992 by omega)
  have hcv := fun w => run_convert_int_float (P := Tryz.prog) (w := w) 102 22 .u64 .f64 (d : Int) (by kernel_rfl) Tryz.underlying22
  rw [hfl] at hcv
  have o2 := ord_neg (x := x) (y := 14054727237768577024) hx (by decide) (by decide)
  by_cases hp0 : p = 0
  · subst hp0
    have hnv : nv d 0 = x := nv_of (a := d * U) (b := 1) (by decide) (by have := near_V hx (b := 1) (by decide); rw [Nat.mul_one, hV] at this; exact this) (by rw [frN_U, frD_1]; simp)
    replace hnv := Lib.hid hnv
    clear sh hbig hV hfl
    go_enter Tryz.func212, Tryz.ntmps212
    go_wp2
    go_ret2
    exact ⟨⟨_, _, rfl, fun _ => hnv.out.symm⟩, rfl⟩
  have p0 : (p == 0) = false := by simp; omega
  have hd53 : d ≤ 9007199254740992 := by omega
  clear hfl hbig sh
  by_cases hc1 : 0 < p ∧ p ≤ 22
  · obtain ⟨k, rfl⟩ : ∃ k : Nat, p = (k : Int) := ⟨p.toNat, by omega⟩
    have hk : k < 23 := by omega
    have hk0 : 0 < k := by omega
    have t1 : (0 : Int) < (k : Int) := by omega
    have t2 : (k : Int) ≤ 37 := by omega
    have t3 : ¬ (22 : Int) < (k : Int) := by omega
    have t4 : (k : Int) < 23 := by omega
    have t5 : (0 : Int) ≤ (k : Int) := by omega
    have gk := g1 k hk
    obtain ⟨r, m1, m2, m3⟩ := mul_pow (k := k) hx0 hx hV hk hd53
    have hm := fun w => run_float_arith (P := Tryz.prog) w .mul 22 .f64 x (pow10W.getD k 0) r m1
    have hnv : nv d (k : Int) = r := nv_of (b := 1) (by decide) m2 (by
      rw [frN_U, frD_1, show ((k : Int)).toNat = k from rfl, show (-(k : Int)).toNat = 0 by omega, Nat.pow_zero]; ac_rfl)
    replace hnv := Lib.hid hnv
    have o1 := ord_gt (x := x) (y := 4831355200913801216) hx (by decide)
    clear hc1 g1 hV hk m1 m2 m3 h1 h2 hp0
    generalize pow10W.getD k 0 = y at *
    by_cases ho : 4831355200913801216 < x
    · have o3 : decide (4831355200913801216 < x) = true := by simp; omega
      rw [o3] at o1
      clear o3 ho hx hx0
      go_enter Tryz.func212, Tryz.ntmps212
      go_wp2
      go_ret2
      exact ⟨⟨_, _, rfl, fun h => by cases h⟩, rfl⟩
    · have o3 : decide (4831355200913801216 < x) = false := by simp; omega
      rw [o3] at o1
      clear o3 ho hx hx0
      go_enter Tryz.func212, Tryz.ntmps212
      go_wp2
      go_ret2
      exact ⟨⟨_, _, rfl, fun _ => hnv.out.symm⟩, rfl⟩
  by_cases hc2 : 22 < p ∧ p ≤ 37
  · obtain ⟨k, rfl⟩ : ∃ k : Nat, p = (k : Int) + 22 := ⟨(p - 22).toNat, by omega⟩
    have hk : k < 23 := by omega
    have hk0 : 0 < k := by omega
    have t1 : (0 : Int) < (k : Int) + 22 := by omega
    have t2 : (k : Int) + 22 ≤ 37 := by omega
    have t3 : (22 : Int) < (k : Int) + 22 := by omega
    have t4 : (k : Int) < 23 := by omega
    have t5 : (0 : Int) ≤ (k : Int) := by omega
    have t6 : (k : Int) + 22 - 22 = (k : Int) := by omega
    have gk := g1 k hk
    have g22 := g1 22 (by decide)
    obtain ⟨r, m1, m2, m3⟩ := mul_pow (k := k) hx0 hx hV hk hd53
    have hm := fun w => run_float_arith (P := Tryz.prog) w .mul 22 .f64 x (pow10W.getD k 0) r m1
    have o1 := ord_gt (x := r) (y := 4831355200913801216) m3 (by decide)
    have o2r := ord_neg (x := r) (y := 14054727237768577024) m3 (by decide) (by decide)
    by_cases ho : 4831355200913801216 < r
    · have o3 : decide (4831355200913801216 < r) = true := by simp; omega
      rw [o3] at o1
      clear o3 ho hx hx0 hc1 hc2 g1 hV hk m1 m2 m3 h1 h2 hp0 g22
      generalize pow10W.getD k 0 = y at *
      go_enter Tryz.func212, Tryz.ntmps212
      go_wp2
      go_ret2
      exact ⟨⟨_, _, rfl, fun h => by cases h⟩, rfl⟩
    · -- the first product is exact
      have hsm : d * 10 ^ k < 9007199254740992 := by
        rcases Nat.lt_or_ge (d * 10 ^ k) 9007199254740992 with h | h
        · exact h
        · exfalso
          have hz := near_V (r := 4845873199050653696) (b := 1) (by decide) (by decide)
          have hzV : V 4845873199050653696 = 9007199254740992 * U := by decide +kernel
          have := near_mono hz m2 (by decide) (by decide) (by
            rw [hzV, Nat.mul_one, Nat.mul_one, Nat.mul_one]
            exact Nat.mul_le_mul_right _ h)
          omega
      have hdk : 0 < d * 10 ^ k := Nat.mul_pos hd0 (Nat.pow_pos (by decide))
      obtain ⟨z, hz0, hz, hzV, -⟩ := whole_word hdk hsm
      have hrz := near_whole hz hzV m2
      subst hrz
      obtain ⟨r2, n1', n2, n3⟩ := mul_pow (k := 22) hz0 hz hzV (by decide) (by omega)
      have hm2 := fun w => run_float_arith (P := Tryz.prog) w .mul 22 .f64 r (pow10W.getD 22 0) r2 n1'
      have hnv : nv d ((k : Int) + 22) = r2 := nv_of (b := 1) (by decide) n2 (by
        rw [frN_U, frD_1, show ((k : Int) + 22).toNat = k + 22 by omega, show (-((k : Int) + 22)).toNat = 0 by omega, Nat.pow_zero, Nat.pow_add]; ac_rfl)
      replace hnv := Lib.hid hnv
      have o3 : decide (4831355200913801216 < r) = false := by simp; omega
      rw [o3] at o1
      clear o3 ho hx hx0 hc1 hc2 g1 hV hk m1 m2 m3 h1 h2 hp0 hsm hdk hz0 hz hzV n1' n2 n3
      generalize pow10W.getD k 0 = y at *
      generalize pow10W.getD 22 0 = y22 at *
      go_enter Tryz.func212, Tryz.ntmps212
      go_wp2
      go_ret2
      exact ⟨⟨_, _, rfl, fun _ => hnv.out.symm⟩, rfl⟩
  by_cases hc3 : -22 ≤ p ∧ p < 0
  · obtain ⟨k, rfl⟩ : ∃ k : Nat, p = -(k : Int) := ⟨(-p).toNat, by omega⟩
    have hk : k < 23 := by omega
    have hk0 : 0 < k := by omega
    have t1 : ¬ (0 : Int) < -(k : Int) := by omega
    have t1b : decide ((0 : Int) < -(k : Int)) = false := by simp
    have t2 : -(k : Int) < 0 := by omega
    have t3 : (-22 : Int) ≤ -(k : Int) := by omega
    have t4 : (k : Int) < 23 := by omega
    have t5 : (0 : Int) ≤ (k : Int) := by omega
    have gk := g1 k hk
    obtain ⟨v1, v2, v3⟩ := pow10W_V ⟨k, hk⟩
    simp only at v1 v2 v3
    obtain ⟨r, m1, m2⟩ := div_near hx0 hx v2 v3
    have hm := fun w => run_float_arith (P := Tryz.prog) w .quo 22 .f64 x (pow10W.getD k 0) r m1
    rw [hV, v1] at m2
    have hnv : nv d (-(k : Int)) = r := nv_of (Nat.mul_pos (Nat.pow_pos (by decide)) U_pos) m2 (by
      rw [frN_U, frD_1, show (-(k : Int)).toNat = 0 by omega, show (-(-(k : Int))).toNat = k by omega, Nat.pow_zero]; ac_rfl)
    replace hnv := Lib.hid hnv
    clear hc1 hc2 hc3 g1 hV hk m1 m2 h1 h2 hp0 v1 v2 v3 hx hx0
    generalize pow10W.getD k 0 = y at *
    go_enter Tryz.func212, Tryz.ntmps212
    go_wp2
    go_ret2
    exact ⟨⟨_, _, rfl, fun _ => hnv.out.symm⟩, rfl⟩
  · clear g1 hV hx hx0
    by_cases hpos : 0 < p
    · have t2 : ¬ p ≤ 37 := by omega
      have t2b : decide (p ≤ 37) = false := by simp; omega
      have t3 : ¬ p < 0 := by omega
      have t3b : decide (p < 0) = false := by simp; omega
      clear hc1 hc2 hc3
      go_enter Tryz.func212, Tryz.ntmps212
      go_wp2
      go_ret2
      exact ⟨⟨_, _, rfl, fun h => by cases h⟩, rfl⟩
    · have t1b : decide (0 < p) = false := by simp; omega
      have t2 : p < 0 := by omega
      have t3 : ¬ -22 ≤ p := by omega
      have t3b : decide (-22 ≤ p) = false := by simp; omega
      clear hc1 hc2 hc3
      go_enter Tryz.func212, Tryz.ntmps212
      go_wp2
      go_ret2
      exact ⟨⟨_, _, rfl, fun h => by cases h⟩, rfl⟩
end Go.Proofs.YtbakbikilbaafaaGreatDoor
namespace Go.Proofs.YtbakbikilbaafaaGreatDoor
set_option linter.unusedVariables false
set_option maxHeartbeats 1000000

/-- how far a decimal text is read: a point, digits (from the first that is not nought on), those kept, the point's place, the number, whether something was left out -/
structure RF where
  dot : Bool
  nd : Nat
  nm : Nat
  dp : Int
  m : Nat
  tr : Bool
def rf0 : RF := ⟨false, 0, 0, 0, 0, false⟩
def rfS (σ : RF) (c : Nat) : RF :=
  if c = 46 then { σ with dot := true, dp := σ.nd }
  else if c = 48 ∧ σ.nd = 0 then { σ with dp := σ.dp - 1 }
  else if σ.nm < 19 then { σ with nd := σ.nd + 1, nm := σ.nm + 1, m := σ.m * 10 + (c - 48) }
  else { σ with nd := σ.nd + 1, tr := σ.tr || decide (c ≠ 48) }
def rfF (l : List Nat) : RF := l.foldl rfS rf0
theorem rfF_snoc (l : List Nat) (c : Nat) : rfF (l ++ [c]) = rfS (rfF l) c := by unfold rfF; rw [List.foldl_append]; rfl
theorem rfF_take {l : List Nat} {k c : Nat} (h : l[k]? = some c) : rfF (l.take (k + 1)) = rfS (rfF (l.take k)) c := by
  rw [List.take_add_one, h]; exact rfF_snoc _ _
structure RFb (σ : RF) (k : Nat) : Prop where
  nd : σ.nd ≤ k
  nm : σ.nm ≤ σ.nd
  nm19 : σ.nm ≤ 19
  full : σ.nm < 19 → σ.nm = σ.nd
  m : σ.m < 10 ^ σ.nm
  dp1 : -(k : Int) ≤ σ.dp
  dp2 : σ.dp ≤ (k : Int)
theorem rfF_b (l : List Nat) (h : ∀ c ∈ l, c = 46 ∨ 48 ≤ c ∧ c ≤ 57) : RFb (rfF l) l.length := by
  have key : ∀ (l : List Nat) (σ : RF) (k : Nat), (∀ c ∈ l, c = 46 ∨ 48 ≤ c ∧ c ≤ 57) → RFb σ k → RFb (l.foldl rfS σ) (k + l.length) := by
    intro l
    induction l with
    | nil => intro σ k _ hb; exact hb
    | cons c l ih =>
      intro σ k hl hb
      rw [List.foldl_cons, List.length_cons, show k + (l.length + 1) = (k + 1) + l.length by omega]
      apply ih _ _ (fun x hx => hl x (List.mem_cons_of_mem _ hx))
      have hc := hl c (List.mem_cons_self ..)
      obtain ⟨b1, b2, b3, b4, b5, b6, b7⟩ := hb
      unfold rfS
      split
      · exact ⟨by simp only; omega, b2, b3, b4, b5, by simp only; omega, by simp only; omega⟩
      · split
        · exact ⟨by simp only; omega, b2, b3, b4, b5, by simp only; omega, by simp only; omega⟩
        · split
          · refine ⟨by simp only; omega, by simp only; omega, by simp only; omega, fun _ => by have := b4 (by assumption); simp only; omega, ?_, by simp only; omega, by simp only; omega⟩
            simp only [Nat.pow_succ]
            omega
          · exact ⟨by simp only; omega, by simp only; omega, b3, fun h => absurd h (by simp only; assumption), b5, by simp only; omega, by simp only; omega⟩
  have := key l rf0 0 h ⟨Nat.le_refl _, Nat.le_refl _, by decide, fun _ => rfl, by decide, by decide, by decide⟩
  rwa [Nat.zero_add] at this
end Go.Proofs.YtbakbikilbaafaaGreatDoor
