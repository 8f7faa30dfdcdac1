/-
  DigitsBack: what is shown of a number is read as that number; a literal's value is what its bytes are read as (the card ties the library's tables to its text).
-/
import Derived.Test.YtbakbikilbaafaaGreatDoorS17
import Derived.Test.YtbakbikilbaafaaGreatDoorS13
import Derived.Test.YtbakbikilbaafaaGreatDoorRows
import Derived.Lib.LaidU8
import Derived.Lib.LaidPrint
import Derived.Shelf.Vars
import Derived.OpenShut
import Derived.MakeChecks
import Derived.Test.YtbakbikilbaafaaGreatDoorCards
import Derived.Test.YtbakbikilbaafaaGreatDoorTie
import Derived.ProofKit
import Derived.Laws.Cover2
import Derived.Lay
import Derived.Deep.DeepHandedRow
import Derived.ChangeMaps5
import Derived.LaidMore
import Derived.SevenTiedAt
import Derived.JoinedCond
namespace Go.Proofs.YtbakbikilbaafaaGreatDoor
open F64 Ieee
set_option linter.unusedVariables false
set_option maxHeartbeats 1000000
set_option maxRecDepth 100000

theorem sf_btw {Xm A1 A2 b o lo hi : Nat} (hb : 0 < b) (ho : o ≤ 1) (hA : A1 ≤ Xm) (h2 : A2 = A1 ∨ A2 = 2 * A1) (hlo : lo = (unr (Xm - A1) b + o + 3) / 4) (hhi : hi = (unr (Xm + A2) b - o) / 4)
    (hw : 4 * b < A1 + A2 ∨ (0 < A1 ∧ 0 < A2 ∧ ∃ d, Xm = 4 * d * b)) :
    Btw (Xm - A1) (Xm + A2) b o (if lo ≤ hi / 10 * 10 then hi / 10 * 10 else if lo < hi then rou (unr Xm b) else lo) := by
  obtain ⟨d, d1, d2⟩ := width hb hA hw
  obtain ⟨l1, l2, l3⟩ := lo_hi hb ho hlo hhi d1 d2
  split
  · rename_i h
    exact btw_of hb ho hlo hhi l3 h (by omega)
  · split
    · rename_i h
      obtain ⟨k1, k2⟩ := rou_in (K := rou (unr Xm b)) hb ho hA h2 hlo hhi l3 (rou_half hb) h
      exact btw_of hb ho hlo hhi l3 k1 k2
    · exact btw_of hb ho hlo hhi l3 (Nat.le_refl _) (by omega)
theorem x_parts (x : Nat) : x = ex x * 4503599627370496 + man x ∧ (ex x = 0 ∨ 4503599627370496 ≤ man x) := by
  unfold ex man; split <;> omega
theorem V_up (x : Nat) : V x + V (x + 1) = (2 * man x + 1) * 2 ^ ex x := by
  obtain ⟨h1, h2⟩ := x_parts x
  have hm := man_lt x
  have v0 := V_EK (E := ex x) (K := man x) (by omega) h2
  have v1 := V_EK (E := ex x) (K := man x + 1) (by omega) (by omega)
  rw [← Nat.add_assoc, ← h1] at v1
  rw [← h1] at v0
  rw [v0, v1, ← Nat.add_mul]; congr 1; omega
theorem V_dn {x : Nat} (h0 : 0 < x) (h : ¬ (man x = 4503599627370496 ∧ 0 < ex x)) : V (x - 1) + V x = (2 * man x - 1) * 2 ^ ex x := by
  obtain ⟨h1, h2⟩ := x_parts x
  have hm := man_lt x
  have hp := man_pos h0
  have v0 := V_EK (E := ex x) (K := man x) (by omega) h2
  have v1 := V_EK (E := ex x) (K := man x - 1) (by omega) (by omega)
  rw [show ex x * 4503599627370496 + (man x - 1) = x - 1 by omega] at v1
  rw [← h1] at v0
  rw [v0, v1, ← Nat.add_mul]; congr 1; omega
theorem V_sk {x : Nat} (h : man x = 4503599627370496) (h0 : 0 < ex x) : V (x - 1) + V x = (4 * man x - 1) * 2 ^ (ex x - 1) := by
  obtain ⟨h1, h2⟩ := x_parts x
  have v0 := V_EK (E := ex x) (K := man x) (by omega) h2
  have v1 := V_EK (E := ex x - 1) (K := 9007199254740991) (by omega) (by omega)
  rw [show (ex x - 1) * 4503599627370496 + 9007199254740991 = x - 1 by omega] at v1
  rw [← h1] at v0
  rw [v0, v1, h]
  obtain ⟨E, hE⟩ : ∃ E, ex x = E + 1 := ⟨ex x - 1, by omega⟩
  rw [hE, Nat.add_sub_cancel, Nat.pow_succ]
  generalize 2 ^ E = P
  omega
section
variable {K b a N D Z E T : Nat}
theorem cv_e (hid : a * N * 2 ^ Z = b * D * 2 ^ (E + 2)) : T * 2 ^ Z * a * N = 4 * b * (D * (T * 2 ^ E)) ∧ 8 * K * b * N = 4 * b * (2 * (K * N)) := by
  constructor
  · rw [show T * 2 ^ Z * a * N = T * (a * N * 2 ^ Z) by ac_rfl, hid, Nat.pow_add, show (2 : Nat) ^ 2 = 4 from rfl]
    ac_rfl
  · rw [show 8 * K * b * N = 4 * 2 * K * b * N by rfl]; ac_rfl
theorem cv_le (hid : a * N * 2 ^ Z = b * D * 2 ^ (E + 2)) (hb : 0 < b) (h : T * 2 ^ Z * a ≤ 8 * K * b) : D * (T * 2 ^ E) ≤ 2 * (K * N) := by
  obtain ⟨e1, e2⟩ := cv_e (K := K) (T := T) hid
  have := Nat.mul_le_mul_right N h
  rw [e1, e2] at this
  exact Nat.le_of_mul_le_mul_left this (by omega)
theorem cv_lt (hid : a * N * 2 ^ Z = b * D * 2 ^ (E + 2)) (hb : 0 < b) (hN : 0 < N) (h : T * 2 ^ Z * a < 8 * K * b) : D * (T * 2 ^ E) < 2 * (K * N) := by
  obtain ⟨e1, e2⟩ := cv_e (K := K) (T := T) hid
  have := Nat.mul_lt_mul_of_pos_right h hN
  rw [e1, e2] at this
  exact Nat.lt_of_mul_lt_mul_left this
theorem cv_ge (hid : a * N * 2 ^ Z = b * D * 2 ^ (E + 2)) (hb : 0 < b) (h : 8 * K * b ≤ T * 2 ^ Z * a) : 2 * (K * N) ≤ D * (T * 2 ^ E) := by
  obtain ⟨e1, e2⟩ := cv_e (K := K) (T := T) hid
  have := Nat.mul_le_mul_right N h
  rw [e1, e2] at this
  exact Nat.le_of_mul_le_mul_left this (by omega)
theorem cv_gt (hid : a * N * 2 ^ Z = b * D * 2 ^ (E + 2)) (hb : 0 < b) (hN : 0 < N) (h : 8 * K * b < T * 2 ^ Z * a) : 2 * (K * N) < D * (T * 2 ^ E) := by
  obtain ⟨e1, e2⟩ := cv_e (K := K) (T := T) hid
  have := Nat.mul_lt_mul_of_pos_right h hN
  rw [e1, e2] at this
  exact Nat.lt_of_mul_lt_mul_left this
end
/-- between the bounds is nearest; M1 2^Z1 and M2 2^Z are twice the bounds, V's sums the same in steps -/
theorem btw_near {x K b a N D Z E Z1 E1 T1 X1 X2 : Nat} (hx : x < 9218868437227405312) (hb : 0 < b) (hN : 0 < N)
    (id1 : a * N * 2 ^ Z = b * D * 2 ^ (E + 2)) (id2 : a * N * 2 ^ Z1 = b * D * 2 ^ (E1 + 2))
    (hX2 : 2 * X2 = (2 * man x + 1) * 2 ^ Z * a) (hX1 : 2 * X1 = T1 * 2 ^ Z1 * a) (hE : E = ex x) (hV : V (x - 1) + V x = T1 * 2 ^ E1)
    (h : Btw X1 X2 b (man x % 2) K) : Near x (K * N) D := by
  obtain ⟨h1, h2, h3⟩ := h
  obtain ⟨p1, p2⟩ := x_parts x
  have u := V_up x
  have hpar : x % 2 = man x % 2 := by omega
  have e8 : 8 * K * b = 2 * (4 * K * b) := by rw [show 8 * K * b = 2 * 4 * K * b by rfl]; ac_rfl
  subst hE
  refine ⟨by omega, ?_, ?_⟩
  · right
    rw [u]
    have g := cv_ge (K := K) id1 hb (by rw [e8, ← hX2]; omega)
    by_cases ho : man x % 2 = 1
    · left
      exact cv_gt id1 hb hN (by rw [e8, ← hX2]; have := (h3 ho).2; omega)
    · rcases Nat.lt_or_ge (2 * (K * N)) (D * ((2 * man x + 1) * 2 ^ ex x)) with l | l
      · exact .inl l
      · exact .inr ⟨by omega, by omega⟩
  · right
    rw [hV]
    have g := cv_le (K := K) id2 hb (by rw [e8, ← hX1]; omega)
    by_cases ho : man x % 2 = 1
    · left
      exact cv_lt id2 hb hN (by rw [e8, ← hX1]; have := (h3 ho).1; omega)
    · rcases Nat.lt_or_ge (D * (T1 * 2 ^ E1)) (2 * (K * N)) with l | l
      · exact .inl l
      · exact .inr ⟨by omega, by omega⟩
theorem fr_id (p e : Int) (Z F : Nat) (h : e + 2 + 1074 + Z = F) : frN p (e + 2) * frN (-p) 1074 * 2 ^ Z = frD p (e + 2) * frD (-p) 1074 * 2 ^ F := by
  unfold frN frD
  rw [show -(-p) = p by omega]
  have key : (2 : Nat) ^ (e + 2).toNat * 2 ^ (1074 : Int).toNat * 2 ^ Z = 2 ^ (-(e + 2)).toNat * 2 ^ (-(1074 : Int)).toNat * 2 ^ F := by
    rw [← Nat.pow_add, ← Nat.pow_add, ← Nat.pow_add, ← Nat.pow_add]
    congr 1
    have : (1074 : Int).toNat = 1074 := rfl
    have : (-(1074 : Int)).toNat = 0 := rfl
    omega
  calc 10 ^ p.toNat * 2 ^ (e + 2).toNat * (10 ^ (-p).toNat * 2 ^ (1074 : Int).toNat) * 2 ^ Z
      = 10 ^ p.toNat * 10 ^ (-p).toNat * (2 ^ (e + 2).toNat * 2 ^ (1074 : Int).toNat * 2 ^ Z) := by ac_rfl
    _ = 10 ^ p.toNat * 10 ^ (-p).toNat * (2 ^ (-(e + 2)).toNat * 2 ^ (-(1074 : Int)).toNat * 2 ^ F) := by rw [key]
    _ = _ := by ac_rfl
theorem usc_x {m : Nat} {e : Int} (h : SfIn m e) {y : Nat} (hy : y % 512 = 0) (hy0 : 0 < y) (hy64 : y < 18446744073709551616) :
    usc y (rowOf (sfP m e)).1 (rowOf (sfP m e)).2 (sfS m e) = unr (y * frN (sfP m e) (e + 2)) (frD (sfP m e) (e + 2)) := by
  obtain ⟨⟨s1, s2⟩, s0, p1, p2⟩ := h.s
  refine usc_W (by omega) (by omega) s1 ?_ hy hy0 hy64
  unfold sfS tabL
  omega
theorem pow512 {Z : Nat} (h : 11 ≤ Z) : 2 ^ (Z - 1) % 512 = 0 ∧ 0 < 2 ^ (Z - 1) ∧ 2 ^ Z = 2 * 2 ^ (Z - 1) ∧ 2 ^ (Z - 1) % 1024 = 0 := by
  have e : 2 ^ (Z - 1) = 1024 * 2 ^ (Z - 11) := by
    rw [show Z - 1 = 10 + (Z - 11) by omega, Nat.pow_add]
  have e2 : 2 ^ Z = 2 * 2 ^ (Z - 1) := by
    obtain ⟨z, rfl⟩ : ∃ z, Z = z + 1 := ⟨Z - 1, by omega⟩
    rw [Nat.add_sub_cancel, Nat.pow_succ, Nat.mul_comm]
  have := Nat.two_pow_pos (Z - 1)
  omega
theorem near_ten {x D : Nat} {p : Int} (h : Near x (D * 10 * frN (-p) 1074) (frD (-p) 1074)) : nv D (-(p - 1)) = x := by
  refine nv_of (frD_pos _ _) h ?_
  rw [frN_U, frN_U, frD_1, frD_1]
  have hs := pow_sh (p := -(p - 1)) (e := -p) (z := 1) (by omega)
  calc D * 10 * (10 ^ (-p).toNat * F64.U) * 10 ^ (- -(p - 1)).toNat = D * F64.U * (10 ^ 1 * (10 ^ (-p).toNat * 10 ^ (- -(p - 1)).toNat)) := by rw [Nat.pow_one]; ac_rfl
    _ = D * F64.U * (10 ^ (-(p - 1)).toNat * 10 ^ (- -p).toNat) := by rw [hs]
    _ = _ := by ac_rfl
/-- the float nearest to its shortest digits is the float -/
theorem fd_nv {x : Nat} (h0 : 0 < x) (hx : x < 9218868437227405312) : nv (fD x) (fQ x) = x := by
  obtain ⟨hin, hz⟩ := sf_in h0 hx
  obtain ⟨l0, l1, l2, l3⟩ := bl_man h0
  have hmn := hin.mn
  have hmx := hin.mx
  have hm0 := hin.lo
  have hm64 := hin.m64
  obtain ⟨z1, z2⟩ := sfZ_b hin.e1
  obtain ⟨⟨s1, s2⟩, s0, p1, p2⟩ := hin.s
  have hsm : smm x = man x * 2 ^ sfZ (see x) := by rw [hz]; rfl
  have hse : see x = (ex x : Int) - 1138 + Lib.bitLen (man x) := rfl
  obtain ⟨q1, q2, q3, q4⟩ := pow512 z1
  have hodd : sfOdd (smm x) (see x) = man x % 2 := by
    unfold sfOdd
    rw [hsm, Nat.mul_div_cancel _ (Nat.two_pow_pos _)]
  have hm512 : smm x % 512 = 0 := by
    rw [hsm, q3, Nat.mul_mod, Nat.mul_mod 2, q1]
    simp
  have a1 := hin.e1
  have a2 := hin.e2
  have um := usc_x hin hm512 (by omega) hm64
  have umn := usc_x (y := sfMin (smm x) (see x)) hin (by unfold sfMin; split <;> omega) (by omega) hmn.2
  have umx := usc_x (y := sfMax (smm x) (see x)) hin (by unfold sfMax; omega) (by omega) hmx.2
  have b1 := usc_le (x := sfMin (smm x) (see x)) (pl := (rowOf (sfP (smm x) (see x))).2) hmn.2 (row_b (p := sfP (smm x) (see x)) (by omega) (by omega)).2.1 s1 (by omega)
  have b2 := usc_le (x := sfMax (smm x) (see x)) (pl := (rowOf (sfP (smm x) (see x))).2) hmx.2 (row_b (p := sfP (smm x) (see x)) (by omega) (by omega)).2.1 s1 (by omega)
  have b3 := usc_ge (x := sfMax (smm x) (see x)) (pl := (rowOf (sfP (smm x) (see x))).2) (by omega) hmx.2 (row_b (p := sfP (smm x) (see x)) (by omega) (by omega)).1 (row_b (p := sfP (smm x) (see x)) (by omega) (by omega)).2.1 s2
  have hl1 : sfLo (rowOf (sfP (smm x) (see x))).1 (rowOf (sfP (smm x) (see x))).2 (smm x) (see x) = (unr (sfMin (smm x) (see x) * frN (sfP (smm x) (see x)) (see x + 2)) (frD (sfP (smm x) (see x)) (see x + 2)) + man x % 2 + 3) / 4 := by
    unfold sfLo cei
    rw [hodd, ndg_add _ _ (by omega), umn]
  have hl2 : sfHi (rowOf (sfP (smm x) (see x))).1 (rowOf (sfP (smm x) (see x))).2 (smm x) (see x) = (unr (sfMax (smm x) (see x) * frN (sfP (smm x) (see x)) (see x + 2)) (frD (sfP (smm x) (see x)) (see x + 2)) - man x % 2) / 4 := by
    unfold sfHi
    rw [hodd, ndg_sub _ _ (by omega) (by omega), umx]
  have hfD : fD x = sfD (rowOf (sfP (smm x) (see x))).1 (rowOf (sfP (smm x) (see x))).2 (smm x) (see x) := rfl
  have hfQ : fQ x = sfQ (rowOf (sfP (smm x) (see x))).1 (rowOf (sfP (smm x) (see x))).2 (smm x) (see x) := rfl
  unfold sfD at hfD
  unfold sfQ at hfQ
  rw [um] at hfD
  have key : Near x ((if sfLo (rowOf (sfP (smm x) (see x))).1 (rowOf (sfP (smm x) (see x))).2 (smm x) (see x) ≤ sfHi (rowOf (sfP (smm x) (see x))).1 (rowOf (sfP (smm x) (see x))).2 (smm x) (see x) / 10 * 10 then sfHi (rowOf (sfP (smm x) (see x))).1 (rowOf (sfP (smm x) (see x))).2 (smm x) (see x) / 10 * 10
      else if sfLo (rowOf (sfP (smm x) (see x))).1 (rowOf (sfP (smm x) (see x))).2 (smm x) (see x) < sfHi (rowOf (sfP (smm x) (see x))).1 (rowOf (sfP (smm x) (see x))).2 (smm x) (see x) then rou (unr (smm x * frN (sfP (smm x) (see x)) (see x + 2)) (frD (sfP (smm x) (see x)) (see x + 2))) else sfLo (rowOf (sfP (smm x) (see x))).1 (rowOf (sfP (smm x) (see x))).2 (smm x) (see x)) * frN (-sfP (smm x) (see x)) 1074) (frD (-sfP (smm x) (see x)) 1074) := by
    have hid := fr_id (sfP (smm x) (see x)) (see x) (sfZ (see x)) (ex x + 2) (by omega)
    have ha := frN_pos (sfP (smm x) (see x)) (see x + 2)
    have hb := frD_pos (sfP (smm x) (see x)) (see x + 2)
    have hN := frN_pos (-sfP (smm x) (see x)) 1074
    have hwd : 4 * frD (sfP (smm x) (see x)) (see x + 2) < (smm x - sfMin (smm x) (see x)) * frN (sfP (smm x) (see x)) (see x + 2) + 2 ^ (sfZ (see x) - 1) * frN (sfP (smm x) (see x)) (see x + 2) ∨ (see x = -11 ∧ sfP (smm x) (see x) = 0 ∧ sfZ (see x) = 11) := by
      by_cases hk : sfSk (smm x) (see x) = true
      · left
        have hk2 : smm x = 9223372036854775808 ∧ -1085 < see x := by unfold sfSk at hk; simpa using hk
        have hw := wdS_of (e := see x) (by omega) a2
        unfold wdS at hw
        have hp : sfP (smm x) (see x) = -(((see x + 11) * 631305 - 261663) / 2097152) := by unfold sfP; rw [if_pos hk]
        rw [← hp] at hw
        have hmin : smm x - sfMin (smm x) (see x) = 512 := by unfold sfMin; rw [if_pos hk]; omega
        have hZ : sfZ (see x) = 11 := by unfold sfZ; rw [if_pos (by omega)]
        rw [hmin, hZ, ← Nat.add_mul]
        exact of_decide_eq_true hw
      · have hw := wdG_of (e := see x) (by omega) a2
        unfold wdG at hw
        have hp : sfP (smm x) (see x) = -((see x + sfZ (see x)) * 78913 / 262144) := by unfold sfP; rw [if_neg hk]
        rw [← hp] at hw
        rw [Bool.or_eq_true] at hw
        rcases hw with hw | hw
        · left
          have hmin : smm x - sfMin (smm x) (see x) = 2 ^ (sfZ (see x) - 1) := by
            unfold sfMin; rw [if_neg hk]
            have := hmn.1
            unfold sfMin at this; rw [if_neg hk] at this
            omega
          rw [hmin, ← Nat.add_mul, show 2 ^ (sfZ (see x) - 1) + 2 ^ (sfZ (see x) - 1) = 2 ^ sfZ (see x) by omega]
          exact of_decide_eq_true hw
        · right
          have he : see x = -11 := of_decide_eq_true hw
          have hZ : sfZ (see x) = 11 := by unfold sfZ; rw [if_pos (by omega)]
          refine ⟨he, ?_, hZ⟩
          rw [hp, hZ, he]; rfl
    have hmul : sfMin (smm x) (see x) * frN (sfP (smm x) (see x)) (see x + 2) = smm x * frN (sfP (smm x) (see x)) (see x + 2) - (smm x - sfMin (smm x) (see x)) * frN (sfP (smm x) (see x)) (see x + 2) := by
      rw [← Nat.sub_mul]; congr 1
      unfold sfMin; split <;> omega
    have hmax : sfMax (smm x) (see x) * frN (sfP (smm x) (see x)) (see x + 2) = smm x * frN (sfP (smm x) (see x)) (see x + 2) + 2 ^ (sfZ (see x) - 1) * frN (sfP (smm x) (see x)) (see x + 2) := by
      rw [← Nat.add_mul]; rfl
    have hX1 : ∃ T1 Z1 E1, frN (sfP (smm x) (see x)) (see x + 2) * frN (-sfP (smm x) (see x)) 1074 * 2 ^ Z1 = frD (sfP (smm x) (see x)) (see x + 2) * frD (-sfP (smm x) (see x)) 1074 * 2 ^ (E1 + 2) ∧
        2 * sfMin (smm x) (see x) = T1 * 2 ^ Z1 ∧ V (x - 1) + V x = T1 * 2 ^ E1 := by
      have hnorm : ∀ _ : 4503599627370496 ≤ x, Lib.bitLen (man x) = 53 := fun h => bl_norm h
      by_cases hk : man x = 4503599627370496 ∧ 0 < ex x
      · obtain ⟨k1, k2⟩ := hk
        have hx5 : 4503599627370496 ≤ x := by unfold ex at k2; split at k2 <;> omega
        have hL := bl_norm hx5
        rw [hL] at hz hse
        have hsm2 : smm x = 9223372036854775808 := by rw [hsm, hz, k1]
        have hsk : sfSk (smm x) (see x) = true := by
          unfold sfSk; rw [hsm2]; simp; omega
        refine ⟨4 * man x - 1, 10, ex x - 1, fr_id _ _ 10 _ (by omega), ?_, V_sk k1 k2⟩
        unfold sfMin
        rw [if_pos hsk, hsm2, k1]
      · have hsk : ¬ sfSk (smm x) (see x) = true := by
          intro h
          have hk2 : smm x = 9223372036854775808 ∧ -1085 < see x := by unfold sfSk at h; simpa using h
          apply hk
          have hZ : sfZ (see x) = 11 := by unfold sfZ; rw [if_pos (by omega)]
          have e11 : (2 : Nat) ^ 11 = 2048 := by decide
          rw [hZ, e11] at hsm
          have hL : Lib.bitLen (man x) = 53 := by omega
          rw [hL] at hse
          exact ⟨by omega, by omega⟩
        refine ⟨2 * man x - 1, sfZ (see x), ex x, hid, ?_, V_dn h0 hk⟩
        unfold sfMin
        rw [if_neg hsk, hsm, Nat.sub_mul, Nat.mul_sub, Nat.one_mul, show 2 * 2 ^ (sfZ (see x) - 1) = 2 ^ sfZ (see x) by omega]
        congr 1
        ac_rfl
    obtain ⟨T1, Z1, E1, i1, i2, i3⟩ := hX1
    rw [hmul] at hl1
    rw [hmax] at hl2
    have hlt : sfMin (smm x) (see x) < smm x := by unfold sfMin; split <;> omega
    have hgap : 2 ^ (sfZ (see x) - 1) = smm x - sfMin (smm x) (see x) ∨ 2 ^ (sfZ (see x) - 1) = 2 * (smm x - sfMin (smm x) (see x)) := by
      unfold sfMin
      split
      · rename_i hk
        right
        have hk2 : smm x = 9223372036854775808 ∧ -1085 < see x := by unfold sfSk at hk; simpa using hk
        have hZ : sfZ (see x) = 11 := by unfold sfZ; rw [if_pos (by omega)]
        rw [hZ]
        have : (2 : Nat) ^ (11 - 1) = 1024 := by decide
        omega
      · left
        rename_i hk
        have := hmn.1
        unfold sfMin at this; rw [if_neg hk] at this
        omega
    have hB := sf_btw (Xm := smm x * frN (sfP (smm x) (see x)) (see x + 2)) (A1 := (smm x - sfMin (smm x) (see x)) * frN (sfP (smm x) (see x)) (see x + 2)) (A2 := 2 ^ (sfZ (see x) - 1) * frN (sfP (smm x) (see x)) (see x + 2)) (o := man x % 2)
      hb (by omega) (Nat.mul_le_mul_right _ (by omega)) (by
        rcases hgap with h | h
        · left; rw [h]
        · right; rw [h, Nat.mul_assoc]) hl1 hl2 (by
        rcases hwd with h | ⟨h1, h2, h3⟩
        · exact .inl h
        · right
          refine ⟨Nat.mul_pos (by omega) ha, Nat.mul_pos q2 ha, man x, ?_⟩
          have e2 : smm x = man x * 2048 := by rw [hsm, h3]
          have e3 : frN 0 (-11 + 2) = 1 := by decide
          have e4 : frD 0 (-11 + 2) = 512 := by decide
          rw [h2, h1, e2, e3, e4]
          omega)
    refine btw_near (Z := sfZ (see x)) (E := ex x) (Z1 := Z1) (E1 := E1) (T1 := T1) hx hb hN hid i1 ?_ ?_ rfl i3 hB
    · rw [← Nat.add_mul, hsm, ← Nat.mul_assoc]
      congr 1
      rw [Nat.mul_add, Nat.add_mul, Nat.one_mul, q3]
      congr 1
      ac_rfl
    · rw [← hmul, ← Nat.mul_assoc, i2]
  generalize sfLo (rowOf (sfP (smm x) (see x))).1 (rowOf (sfP (smm x) (see x))).2 (smm x) (see x) = lo at *
  generalize sfHi (rowOf (sfP (smm x) (see x))).1 (rowOf (sfP (smm x) (see x))).2 (smm x) (see x) = hi at *
  rw [hfD, hfQ]
  by_cases h1 : lo ≤ hi / 10 * 10
  · rw [if_pos h1] at key ⊢
    rw [if_pos h1]
    exact near_ten key
  · rw [if_neg h1] at key ⊢
    rw [if_neg h1]
    exact nv_of (frD_pos _ _) key rfl
end Go.Proofs.YtbakbikilbaafaaGreatDoor
namespace Go.Proofs.YtbakbikilbaafaaGreatDoor
open Go.RowKit F64 Ieee
set_option linter.unusedVariables false
set_option maxHeartbeats 1000000
set_option maxRecDepth 100000

theorem numL_app (a b : List Nat) : numL (a ++ b) = numL a * 10 ^ b.length + numL b := by
  show List.foldl _ 0 (a ++ b) = _
  rw [List.foldl_append]
  exact foldl_num b _
theorem numL_zeros (k : Nat) : numL (List.replicate k 48) = 0 := by
  induction k with
  | zero => rfl
  | succ k ih => rw [List.replicate_succ, numL_cons, ih]; simp
theorem numL_dg (m v : Nat) (h : v < 10 ^ m) : numL (dg m v) = v := by
  induction m generalizing v with
  | zero => simp at h; subst h; rfl
  | succ m ih =>
    have e : dg (m + 1) v = dg m (v / 10) ++ [48 + v % 10] := by unfold dg; rw [fw, List.map_append]; rfl
    rw [Nat.pow_succ] at h
    rw [e, numL_app, ih (v / 10) (by omega)]
    show v / 10 * 10 ^ 1 + ((48 + v % 10 - 48) * 1 + 0) = v
    omega
/-- the float of the fewest digits -/
theorem sci_nv {x m v : Nat} {E : Int} (hx0 : 0 < x) (hx : x < 9218868437227405312) (hS : IsSci x m v E) : nv v (E + 1 - m) = x ∧ v < 10 ^ m ∧ 10 ^ (m - 1) ≤ v := by
  obtain ⟨n, hn, m1, mn, n18, hd, hv, hE⟩ := hS
  obtain ⟨hin, hz⟩ := sf_in hx0 hx
  obtain ⟨d1, d2, q1, q2⟩ := s_b hin
  have d1 : 1 ≤ fD x := d1
  have d2 : fD x < 1000000000000000000 := d2
  have q1 : -332 ≤ fQ x := q1
  have q2 : fQ x ≤ 332 := q2
  have h := nv_shift v (n - m) (fQ x)
  rw [← hd, fd_nv hx0 hx] at h
  obtain ⟨n1, n2, n3⟩ := hn
  rw [hd] at n2 n3
  refine ⟨by rw [show E + 1 - (m : Int) = fQ x + ((n - m : Nat) : Int) by omega]; exact h.symm, ?_, ?_⟩
  · rw [show n = m + (n - m) by omega, Nat.pow_add, show m + (n - m) - m = n - m by omega] at n3
    exact Nat.lt_of_mul_lt_mul_right n3
  · rw [show n - 1 = m - 1 + (n - m) by omega, Nat.pow_add] at n2
    exact Nat.le_of_mul_le_mul_right n2 (Nat.pow_pos (by decide))
theorem dg_head {m v : Nat} (h1 : 1 ≤ m) (hv : 10 ^ (m - 1) ≤ v) (hv2 : v < 10 ^ m) : ∃ c T, dg m v = c :: T ∧ 49 ≤ c ∧ c ≤ 57 := by
  have h0 := dg_get m v 0 (by omega)
  rw [show m - 1 - 0 = m - 1 by omega] at h0
  have hq : v / 10 ^ (m - 1) < 10 := by
    apply Nat.div_lt_of_lt_mul
    have e := Nat.pow_succ (n := 10) (m := m - 1)
    rw [Nat.succ_eq_add_one, show m - 1 + 1 = m by omega] at e
    omega
  have hq1 : 1 ≤ v / 10 ^ (m - 1) := by
    rw [Nat.le_div_iff_mul_le (Nat.pow_pos (by decide))]; omega
  cases hd : dg m v with
  | nil => rw [hd] at h0; cases h0
  | cons c T =>
    rw [hd] at h0
    simp only [List.getElem?_cons_zero, Option.some.injEq] at h0
    exact ⟨c, T, rfl, by omega, by omega⟩
theorem drop_zeros (k : Nat) {D : List Nat} (hD : ∃ c T, D = c :: T ∧ 49 ≤ c) : (List.replicate k 48 ++ D).dropWhile (· == 48) = D := by
  obtain ⟨c, T, rfl, hc⟩ := hD
  induction k with
  | zero =>
    show (c :: T).dropWhile _ = _
    rw [List.dropWhile_cons, if_neg]
    simp; omega
  | succ k ih => rw [List.replicate_succ, List.cons_append, List.dropWhile_cons, if_pos (by decide)]; exact ih
theorem fltV_rt {ws ps es D : List Nat} {k : Nat} {neg : Bool} {v : Nat} {p : Int} (hw : ws ++ ps = List.replicate k 48 ++ D) (hD : ∃ c T, D = c :: T ∧ 49 ≤ c)
    (hp : (if neg then -(powF es : Int) else (powF es : Int)) = p) (h1 : -400 ≤ p + D.length - ps.length) (h2 : p + D.length - ps.length ≤ 400) (hn : nv (numL D) (p - ps.length) = v) : fltV ws ps neg es = v := by
  unfold fltV
  simp only []
  rw [hp, hw, drop_zeros k hD]
  have hne : D ≠ [] := by obtain ⟨c, T, rfl, -⟩ := hD; simp
  rw [if_neg hne, if_neg (by omega), if_neg (by omega), show p + (D.length : Int) - ps.length - D.length = p - ps.length by omega]
  exact hn
theorem powF_itG : ∀ k : Fin 401, powF (itG k.val) = k.val := by decide +kernel
/-- what the text begins with -/
def Beg (T : List Nat) : Prop := (∃ c M, T = c :: M ∧ 49 ≤ c ∧ c ≤ 57) ∨ (∃ M, T = 48 :: 46 :: M) ∨ T = [48]
theorem txt_dct {x m v : Nat} {E : Int} (hx0 : 0 < x) (hx : x < 9218868437227405312) (hS : IsSci x m v E) (hE1 : -400 < E) (hE2 : E < 400) (hm1 : 1 ≤ m) (hm2 : m ≤ 18) : DcT (txtG m v E) x ∧ Beg (txtG m v E) := by
  obtain ⟨hnv, hv2, hv1⟩ := sci_nv hx0 hx hS
  obtain ⟨c, T, hdg, hc1, hc2⟩ := dg_head hm1 hv1 hv2
  have hDg : Dg (dg m v) := dgG_dig m v
  have hlen := dg_len m v
  have hnum := numL_dg m v hv2
  have hDh : ∃ c T, dg m v = c :: T ∧ 49 ≤ c := ⟨c, T, hdg, hc1⟩
  have hrep : ∀ k, Dg (List.replicate k 48) := fun k c hc => by have := (List.mem_replicate.1 hc).2; omega
  unfold txtG
  by_cases hc : (m : Int) ≤ E + 1 ∧ E + 1 ≤ 21
  · rw [if_pos hc]
    refine ⟨⟨dg m v ++ List.replicate (E + 1 - m).toNat 48, [], false, ?_, fun c hc => (by cases hc), fun _ => rfl, .inl (by rw [hdg]; simp), Or.inl ⟨by unfold mantL; simp, ?_⟩⟩, Or.inl ⟨c, T ++ List.replicate (E + 1 - m).toNat 48, by rw [hdg]; rfl, hc1, hc2⟩⟩
    · intro c hc
      rcases List.mem_append.1 hc with h | h
      · exact hDg c h
      · exact hrep _ c h
    · symm
      refine fltV_rt (k := 0) (D := dg m v ++ List.replicate (E + 1 - m).toNat 48) (p := 0) (by simp) ⟨c, _, by rw [hdg]; rfl, hc1⟩ rfl ?_ ?_ ?_
      · simp only [List.length_append, List.length_replicate, List.length_nil]; omega
      · simp only [List.length_append, List.length_replicate, List.length_nil]; omega
      · rw [numL_app, numL_zeros, hnum, List.length_replicate, Nat.add_zero]
        have hz := nv_shift v (E + 1 - m).toNat 0
        rw [show (0 : Int) + ((E + 1 - m).toNat : Int) = E + 1 - m by omega, hnv] at hz
        rw [show (0 : Int) - (([] : List Nat).length : Int) = 0 by simp]
        exact hz
  · rw [if_neg hc]
    by_cases hc3 : 0 < E + 1 ∧ E + 1 ≤ 21
    · rw [if_pos hc3]
      have hk : (E + 1).toNat < m := by omega
      obtain ⟨k, hkk⟩ : ∃ k, (E + 1).toNat = k + 1 := ⟨(E + 1).toNat - 1, by omega⟩
      refine ⟨⟨(dg m v).take (E + 1).toNat, (dg m v).drop (E + 1).toNat, true, fun c hc => hDg c (List.mem_of_mem_take hc), fun c hc => hDg c (List.mem_of_mem_drop hc), fun h => (by cases h), .inl (by rw [hdg, hkk]; simp), .inl ⟨by unfold mantL; simp, ?_⟩⟩, Or.inl ⟨c, _, by rw [hdg, hkk]; rfl, hc1, hc2⟩⟩
      symm
      refine fltV_rt (k := 0) (D := dg m v) (p := 0) (by rw [List.take_append_drop]; rfl) hDh rfl ?_ ?_ ?_
      · simp only [List.length_drop, hlen]; omega
      · simp only [List.length_drop, hlen]; omega
      · rw [hnum, List.length_drop, hlen, show (0 : Int) - ((m - (E + 1).toNat : Nat) : Int) = E + 1 - m by omega]; exact hnv
    · rw [if_neg hc3]
      by_cases hc4 : -6 < E + 1 ∧ E + 1 ≤ 0
      · rw [if_pos hc4]
        refine ⟨⟨[48], List.replicate (-(E + 1)).toNat 48 ++ dg m v, true, by intro c hc; simp at hc; omega, ?_, fun h => (by cases h), .inl (by simp), .inl ⟨by unfold mantL; simp, ?_⟩⟩, .inr (.inl ⟨_, by simp; rfl⟩)⟩
        · intro c hc
          rcases List.mem_append.1 hc with h | h
          · exact hrep _ c h
          · exact hDg c h
        · symm
          refine fltV_rt (k := (-(E + 1)).toNat + 1) (D := dg m v) (p := 0) (by rw [List.replicate_succ]; rfl) hDh rfl ?_ ?_ ?_
          · simp only [List.length_append, List.length_replicate, hlen]; omega
          · simp only [List.length_append, List.length_replicate, hlen]; omega
          · rw [hnum, List.length_append, List.length_replicate, hlen, show (0 : Int) - (((-(E + 1)).toNat + m : Nat) : Int) = E + 1 - m by omega]; exact hnv
      · rw [if_neg hc4]
        have hit := itG_k (k := E.natAbs) (by omega)
        have hpw := powF_itG ⟨E.natAbs, by omega⟩
        refine ⟨⟨(dg m v).take 1, (dg m v).drop 1, decide (m ≠ 1), fun c hc => hDg c (List.mem_of_mem_take hc), fun c hc => hDg c (List.mem_of_mem_drop hc), ?_, .inl (by rw [hdg]; simp), .inr ⟨101, [exS E], itG E.natAbs, decide (E < 0), .inl rfl, ?_, ?_, hit.2.2.2, ?_, ?_⟩⟩, .inl ?_⟩
        · intro h
          have : m = 1 := by simpa using h
          rw [List.drop_eq_nil_of_le]; rw [hlen]; omega
        · by_cases h : E < 0
          · right; right; unfold exS; rw [if_pos h]; simp [h]
          · right; left; unfold exS; rw [if_neg h]; simp [h]
        · intro h; rw [h] at hit; simp at hit
        · unfold mantL sciP
          by_cases h : m = 1
          · rw [if_pos h, if_neg (by simp [h])]
            rw [List.take_of_length_le (by rw [hlen]; omega)]
            simp
          · rw [if_neg h, if_pos (by simp [h])]
            simp
        · symm
          refine fltV_rt (k := 0) (D := dg m v) (p := E) (by rw [List.take_append_drop]; rfl) hDh ?_ ?_ ?_ ?_
          · have e : powF (itG E.natAbs) = E.natAbs := hpw
            rw [e]
            by_cases h : E < 0
            · simp only [h, decide_true, if_true]; omega
            · simp only [h, decide_false, Bool.false_eq_true, if_false]; omega
          · simp only [List.length_drop, hlen]; omega
          · simp only [List.length_drop, hlen]; omega
          · rw [hnum, List.length_drop, hlen, show E - ((m - 1 : Nat) : Int) = E + 1 - m by omega]; exact hnv
        · unfold sciP
          by_cases h : m = 1
          · rw [if_pos h, hdg]; exact ⟨c, _, rfl, hc1, hc2⟩
          · rw [if_neg h, hdg]; exact ⟨c, _, rfl, hc1, hc2⟩
theorem bytesU_get : ∀ (us : List Nat) (k u : Nat), us[k]? = some u → (bytesU us)[2 * k]? = some (UInt8.ofNat (u / 256)) ∧ (bytesU us)[2 * k + 1]? = some (UInt8.ofNat (u % 256))
  | [], k, u, h => by cases h
  | a :: us, 0, u, h => by
    simp only [List.getElem?_cons_zero, Option.some.injEq] at h
    subst h
    exact ⟨rfl, rfl⟩
  | a :: us, k + 1, u, h => by
    have e : bytesU (a :: us) = UInt8.ofNat (a / 256) :: UInt8.ofNat (a % 256) :: bytesU us := rfl
    rw [e, show 2 * (k + 1) = 2 * k + 1 + 1 by omega]
    exact bytesU_get us k u h
theorem text_size (us : List Nat) : (textU us).size = 2 * us.length := by
  have : (textU us).size = (bytesU us).length := by simp [textU, ByteArray.size]
  rw [this, bytesU_len]
theorem text_unit {us : List Nat} {k u : Nat} (h : us[k]? = some u) (hu : u < 65536) : unitAt (textU us) k = u := by
  obtain ⟨h1, h2⟩ := bytesU_get us k u h
  have e : (textU us).data.toList = bytesU us := by simp [textU]
  unfold unitAt ub
  rw [e, List.getD_eq_getElem?_getD, List.getD_eq_getElem?_getD, h1, h2]
  simp only [Option.getD_some]
  simp
  omega
theorem text_units {us : List Nat} (h : ∀ u ∈ us, u < 65536) : unitsN (textU us) us.length = us := by
  apply List.ext_getElem?
  intro i
  rcases Nat.lt_or_ge i us.length with hi | hi
  · have hg : us[i]? = some us[i] := List.getElem?_eq_getElem hi
    rw [unitsN_get _ _ _ hi, text_unit hg (h _ (List.getElem_mem hi)), hg]
  · rw [List.getElem?_eq_none hi, List.getElem?_eq_none (by rw [unitsN_len]; exact hi)]
theorem blk_mid : ∀ c : Fin 128, 43 ≤ c.val → blkN c.val = false := by decide +kernel
/-- a text without blanks, of plain bytes, is read as its bytes -/
theorem c_dReadT {L : List Nat} {r : Nat} (h : ∀ c ∈ L, 43 ≤ c ∧ c < 128) (hl : L.length ≤ 10000) (hR : ReadR L r) (w : World) (hW : LibW w) :
    Calls Tryz.prog 16 #[.string (textU L)] w fun e w' => e = .returned (.float .f64 r) ∧ Below w.heap.size w w' := by
  have hsz := text_size L
  have hn : (textU L).size / 2 = L.length := by omega
  have hun := text_units (us := L) (fun u hu => by have := h u hu; omega)
  have hb : ∀ i, i < L.length → blkS (textU L) i = false := by
    intro i hi
    have hg : L[i]? = some L[i] := List.getElem?_eq_getElem hi
    have hm := h _ (List.getElem_mem hi)
    unfold blkS
    rw [text_unit hg (by omega)]
    exact blk_mid ⟨L[i], hm.2⟩ hm.1
  have hF : FrA (blkS (textU L)) ((textU L).size / 2) 0 := ⟨Nat.zero_le _, fun i hi => by omega, fun hi => hb 0 (by omega)⟩
  have hT : BkA (blkS (textU L)) 0 ((textU L).size / 2) L.length := ⟨Nat.zero_le _, by omega, fun i h1 h2 => by omega, fun hi => hb _ (by omega)⟩
  have hx : (textU L).extract (2 * 0) (2 * L.length) = textU L := by
    rw [← text_cut (textU L) 0 L.length (by omega), hn, hun, List.drop_zero, List.take_of_length_le (by omega)]
  refine c_dReadG (textU L) 0 L.length L r (by omega) hF hT ?_ (fun c hc => by have := h c hc; omega) hl hR w hW
  rw [hx, hn, hun]
  unfold plL
  have : ∀ l : List Nat, (∀ c ∈ l, 43 ≤ c ∧ c < 128) → l.map (fun u => min u 127) = l := by
    intro l
    induction l with
    | nil => intro _; rfl
    | cons a l ih =>
      intro hh
      have ha := hh a (List.mem_cons_self ..)
      rw [List.map_cons, ih (fun c hc => hh c (List.mem_cons_of_mem _ hc)), Nat.min_eq_left (by omega)]
  exact this L h
theorem Beg.facts {T : List Nat} (h : Beg T) : T ≠ [] ∧ preL T = 0 ∧ sgnL T = (4607182418800017408, T) ∧ ngL T = false ∧ T ≠ infT := by
  rcases h with ⟨c, M, rfl, h1, h2⟩ | ⟨M, rfl⟩ | rfl
  · refine ⟨by simp, ?_, ?_, ?_, ?_⟩
    · unfold preL; rw [if_neg]; simp; omega
    · rw [show sgnL (c :: M) = if c = 45 then (13830554455654793216, M) else if c = 43 then (4607182418800017408, M) else (4607182418800017408, c :: M) from rfl, if_neg (by omega), if_neg (by omega)]
    · unfold ngL; simp; omega
    · intro e; unfold infT at e; simp at e; omega
  · refine ⟨by simp, ?_, rfl, rfl, by intro e; unfold infT at e; simp at e⟩
    unfold preL
    rw [show (48 :: 46 :: M).getD 1 0 = 46 from rfl]
    split
    · decide
    · rfl
  · exact ⟨by simp, rfl, rfl, rfl, by decide⟩
theorem neg_facts (T : List Nat) : (45 :: T) ≠ [] ∧ preL (45 :: T) = 0 ∧ sgnL (45 :: T) = (13830554455654793216, T) ∧ ngL (45 :: T) = true := ⟨by simp, rfl, rfl, rfl⟩
/-- how a float and what its text is read as go together -/
def Back (x y : Nat) : Prop := (F64.isNaN x = true ∧ y = nanW) ∨ (F64.isNaN x = false ∧ rung x = 0 ∧ y = 0) ∨ (F64.isNaN x = false ∧ 0 < rung x ∧ y = x)
theorem small_nan {x : Nat} (h : x ≤ 9218868437227405312) : F64.isNaN x = false := by
  unfold F64.isNaN; rw [rung_small (by omega)]; exact decide_eq_false (by omega)
theorem show_pos {r : Nat} {T : List Nat} (h : ShowT r T) (h0 : 0 < r) (h1 : r ≤ 9218868437227405312) : (T = infT ∧ r = 9218868437227405312) ∨ (DcT T r ∧ Beg T) := by
  have hr := rung_small (x := r) (by omega)
  cases h with
  | nan h => rw [small_nan h1] at h; cases h
  | zero h => omega
  | inf => exact .inl ⟨rfl, rfl⟩
  | pos hx0 hx hS hE1 hE2 hm1 hm2 => exact .inr (txt_dct hx0 hx hS hE1 hE2 hm1 hm2)
  | neg hs g1 g2 h => rw [sgn_small (by omega)] at hs; cases hs
/-- what is shown is read back -/
theorem show_read {x : Nat} {L : List Nat} (hx : x < 18446744073709551616) (h : ShowT x L) : ∃ y, ReadR L y ∧ Back x y := by
  by_cases hn : F64.isNaN x = true
  · have hL : L = [78, 97, 78] := by
      have hn2 : 9218868437227405312 < rung x := of_decide_eq_true hn
      cases h with
      | nan h => rfl
      | zero h => omega
      | inf => revert hn; decide
      | pos hx0 hx hS hE1 hE2 hm1 hm2 => rw [small_nan (by omega)] at hn; cases hn
      | neg hs g1 g2 h => omega
    subst hL
    exact ⟨nanW, .nan (by simp) (by decide) (by decide) (by decide), .inl ⟨hn, rfl⟩⟩
  have hn : F64.isNaN x = false := by simpa using hn
  have hn2 : ¬ 9218868437227405312 < rung x := of_decide_eq_false hn
  by_cases h0 : rung x = 0
  · have hL : L = [48] := by
      cases h with
      | nan h => rw [hn] at h; cases h
      | zero h => rfl
      | inf => revert h0; decide
      | pos hx0 hx hS hE1 hE2 hm1 hm2 => rw [rung_small (by omega)] at h0; omega
      | neg hs g1 g2 h => omega
    subst hL
    have hd : DcT [48] (fltV [48] [] false []) := ⟨[48], [], false, by intro c hc; simp at hc; omega, fun c hc => (by cases hc), fun _ => rfl, .inl (by simp), .inl ⟨rfl, rfl⟩⟩
    have hr := ReadR.dec (L := [48]) (by simp) (by decide) (by decide) hd
    refine ⟨_, hr, .inr (.inl ⟨hn, h0, ?_⟩)⟩
    show sgW false (fltV [48] [] false []) = 0
    unfold fltV
    rfl
  · cases hs : sgn x with
    | false =>
      have hp := wd_parts x hx
      rw [hs] at hp
      have hrx : rung x = x := hp
      rcases show_pos h (by omega) (by omega) with ⟨rfl, hxi⟩ | ⟨hd, hb⟩
      · refine ⟨_, .inf (by decide) (by decide) (by decide), .inr (.inr ⟨hn, by omega, ?_⟩)⟩
        rw [hxi]; rfl
      · obtain ⟨f1, f2, f3, f4, f5⟩ := hb.facts
        refine ⟨_, .dec f1 f2 (by rw [f3]; exact f5) (by rw [f3]; exact hd), .inr (.inr ⟨hn, by omega, ?_⟩)⟩
        rw [f4]; rfl
    | true =>
      have hp := wd_parts x hx
      rw [hs] at hp
      have hrx : 9223372036854775808 + rung x = x := hp
      obtain ⟨T, rfl, hT⟩ : ∃ T, L = 45 :: T ∧ ShowT (rung x) T := by
        cases h with
        | nan h => rw [hn] at h; cases h
        | zero h => omega
        | inf => rw [show sgn 9218868437227405312 = false by decide] at hs; cases hs
        | pos hx0 hx hS hE1 hE2 hm1 hm2 => rw [sgn_small (by omega)] at hs; cases hs
        | neg hs g1 g2 h => exact ⟨_, rfl, h⟩
      obtain ⟨f1, f2, f3, f4⟩ := neg_facts T
      rcases show_pos hT (by omega) (by omega) with ⟨rfl, hxi⟩ | ⟨hd, hb⟩
      · refine ⟨_, .inf f1 f2 (by rw [f3]), .inr (.inr ⟨hn, by omega, ?_⟩)⟩
        rw [f4]
        show 9218868437227405312 + 9223372036854775808 = x
        omega
      · obtain ⟨g1, g2, g3, g4, g5⟩ := hb.facts
        refine ⟨_, .dec f1 f2 (by rw [f3]; exact g5) (by rw [f3]; exact hd), .inr (.inr ⟨hn, by omega, ?_⟩)⟩
        rw [f4]
        show rung x + 9223372036854775808 = x
        omega
theorem wth_mid : ∀ c : Fin 256, wth c.val < 36 → 43 ≤ c.val ∧ c.val < 128 := by decide +kernel
theorem or_mid : ∀ c : Fin 256, (c.val ||| 32 = 120 ∨ c.val ||| 32 = 111 ∨ c.val ||| 32 = 98) → 43 ≤ c.val ∧ c.val < 128 := by decide +kernel
theorem dct_mem {T : List Nat} {v : Nat} (h : DcT T v) : ∀ c ∈ T, 43 ≤ c ∧ c < 128 := by
  obtain ⟨ws, ps, pt, hw, hp, hpt, hne, hT⟩ := h
  have hm : ∀ c ∈ mantL ws ps pt, 43 ≤ c ∧ c < 128 := by
    intro c hc
    unfold mantL at hc
    rcases List.mem_append.1 hc with h | h
    · have := hw c h; omega
    · cases pt with
      | false => cases h
      | true =>
        rcases List.mem_cons.1 h with h | h
        · omega
        · have := hp c h; omega
  rcases hT with ⟨rfl, -⟩ | ⟨e, sg, es, neg, he, hsg, hen, hes, rfl, -⟩
  · exact hm
  · intro c hc
    rcases List.mem_append.1 hc with h | h
    · exact hm c h
    · rcases List.mem_cons.1 h with h | h
      · omega
      · rcases List.mem_append.1 h with h | h
        · rcases hsg with ⟨rfl, -⟩ | ⟨rfl, -⟩ | ⟨rfl, -⟩
          · cases h
          · simp at h; omega
          · simp at h; omega
        · have := hes c h; omega
theorem dct_head {T : List Nat} {v : Nat} (h : DcT T v) : ∃ c M, T = c :: M ∧ (c = 46 ∨ 48 ≤ c ∧ c ≤ 57) := by
  obtain ⟨ws, ps, pt, hw, hp, hpt, hne, hT⟩ := h
  obtain ⟨Y, hY⟩ : ∃ Y, T = mantL ws ps pt ++ Y := by
    rcases hT with ⟨rfl, -⟩ | ⟨e, sg, es, neg, he, hsg, hen, hes, rfl, -⟩
    · exact ⟨[], by simp⟩
    · exact ⟨_, rfl⟩
  rw [hY]
  cases ws with
  | cons c ws => exact ⟨c, _, rfl, .inr (hw c (List.mem_cons_self ..))⟩
  | nil =>
    cases pt with
    | true => exact ⟨46, _, rfl, .inl rfl⟩
    | false =>
      rcases hne with h | h
      · exact absurd rfl h
      · exact absurd (hpt rfl) h
theorem preL_two (a b : Nat) (X : List Nat) : preL (a :: b :: X) = if a = 48 then (if b ||| 32 = 120 then 16 else if b ||| 32 = 111 then 8 else if b ||| 32 = 98 then 2 else 0) else 0 := by
  unfold preL
  rw [show (a :: b :: X).getD 0 0 = a from rfl, show (a :: b :: X).getD 1 0 = b from rfl]
  by_cases h : a = 48
  · rw [if_pos ⟨h, by simp⟩, if_pos h]
  · rw [if_neg (fun e => h e.1), if_neg h]
theorem preL_some {L : List Nat} {base : Nat} (hp : preL L = base) (hb : 0 < base) : ∃ b M, L = 48 :: b :: M ∧ (b ||| 32 = 120 ∨ b ||| 32 = 111 ∨ b ||| 32 = 98) ∧ base ≤ 16 := by
  match L, hp with
  | [], hp => exfalso; revert hp; unfold preL; simp; omega
  | [a], hp => exfalso; revert hp; unfold preL; simp; omega
  | a :: b :: M, hp =>
    rw [preL_two] at hp
    by_cases h : a = 48
    · rw [if_pos h] at hp
      subst h
      refine ⟨b, M, rfl, ?_⟩
      split at hp
      · rename_i h; exact ⟨.inl h, by omega⟩
      · split at hp
        · rename_i h; exact ⟨.inr (.inl h), by omega⟩
        · split at hp
          · rename_i h; exact ⟨.inr (.inr h), by omega⟩
          · omega
    · rw [if_neg h] at hp; omega
theorem showT_mem {x : Nat} {L : List Nat} (h : ShowT x L) : ∀ c ∈ L, 43 ≤ c ∧ c < 128 := by
  have inf : ∀ c ∈ [73, 110, 102, 105, 110, 105, 116, 121], 43 ≤ c ∧ c < 128 := by decide
  cases h with
  | nan h => decide
  | zero h => decide
  | inf => exact inf
  | pos hx0 hx hS hE1 hE2 hm1 hm2 => exact dct_mem (txt_dct hx0 hx hS hE1 hE2 hm1 hm2).1
  | neg hs g1 g2 h =>
    intro c hc
    rcases List.mem_cons.1 hc with hc | hc
    · omega
    · rcases show_pos h g1 g2 with ⟨rfl, -⟩ | ⟨hd, -⟩
      · exact inf c hc
      · exact dct_mem hd c hc
/-- a literal's bytes are read as its value -/
theorem lit_back {L : List Nat} {x n e : Nat} (h256 : ∀ c ∈ L, c < 256) (h : LitR L x n e) : (e = 30 ∧ x = 0 ∧ n = 0) ∨ (e = 0 ∧ 1 ≤ n ∧ n ≤ L.length ∧ (∀ c ∈ L.take n, 43 ≤ c ∧ c < 128) ∧ ReadR (L.take n) x) := by
  cases h with
  | preZ hp hb hk => exact .inl ⟨rfl, rfl, rfl⟩
  | preB hp hb hk h0 h => exact .inl ⟨rfl, rfl, rfl⟩
  | none hp hn => exact .inl ⟨rfl, rfl, rfl⟩
  | zero hp h0 h => exact .inl ⟨rfl, rfl, rfl⟩
  | bad hp h0 hz h => exact .inl ⟨rfl, rfl, rfl⟩
  | pre hp hb hk h0 h =>
    rename_i base k
    right
    obtain ⟨b, M, rfl, hb3, hb16⟩ := preL_some hp hb
    rw [show (48 :: b :: M).drop 2 = M from rfl] at hk ⊢
    have hkl := runL_le base M
    have htk : (48 :: b :: M).take (2 + k) = 48 :: b :: M.take k := by rw [Nat.add_comm]; rfl
    have hrun : ∀ c ∈ M.take k, wth c < base := by rw [← hk]; exact run_mem
    rw [htk]
    have hlk : (M.take k).length = k := by rw [List.length_take]; omega
    refine ⟨rfl, by omega, by simp; omega, ?_, ?_⟩
    · intro c hc
      rcases List.mem_cons.1 hc with h | hc
      · omega
      rcases List.mem_cons.1 hc with h | hc
      · subst h
        exact or_mid ⟨c, h256 c (by simp)⟩ hb3
      · have := hrun c hc
        have hm := h256 c (List.mem_cons_of_mem _ (List.mem_cons_of_mem _ (List.mem_of_mem_take hc)))
        exact wth_mid ⟨c, hm⟩ (by show wth c < 36; omega)
    · refine ReadR.pre (L := 48 :: b :: M.take k) ?_ hb ?_ ?_
      · rw [preL_two]; rw [preL_two] at hp; exact hp
      · rw [show (48 :: b :: M.take k).drop 2 = M.take k from rfl]
        have := runL_app (n := base) (ws := M.take k) (r := []) hrun
        rw [List.append_nil] at this
        rw [this]
        simp [runL_nil]
      · simp only [List.length_cons, hlk]; omega
  | ok hp h0 hz h hd =>
    right
    have hle := decN_le L
    obtain ⟨c, M, hcM, hc⟩ := dct_head hd
    refine ⟨rfl, h0, hle, dct_mem hd, ?_⟩
    have hsg : sgnL (L.take (decN L)) = (4607182418800017408, L.take (decN L)) := by
      rw [hcM]
      rw [show sgnL (c :: M) = if c = 45 then (13830554455654793216, M) else if c = 43 then (4607182418800017408, M) else (4607182418800017408, c :: M) from rfl, if_neg (by omega), if_neg (by omega)]
    have hng : ngL (L.take (decN L)) = false := by rw [hcM]; unfold ngL; simp; omega
    have hpre : preL (L.take (decN L)) = 0 := by
      match L, hp, h0 with
      | [], hp, h0 => simp [preL]
      | [a], hp, h0 => cases hd2 : decN [a] with
        | zero => omega
        | succ n => unfold preL; simp
      | a :: b :: X, hp, h0 => cases hd2 : decN (a :: b :: X) with
        | zero => omega
        | succ n => cases n with
          | zero => unfold preL; simp
          | succ n =>
            rw [show (a :: b :: X).take (n + 1 + 1) = a :: b :: X.take n from rfl, preL_two]
            rw [preL_two] at hp; exact hp
    have hr := ReadR.dec (L := L.take (decN L)) (by rw [hcM]; simp) hpre (by rw [hsg, hcM]; intro e; unfold infT at e; simp at e; omega) (by rw [hsg]; exact hd)
    rw [hng] at hr
    exact hr
end Go.Proofs.YtbakbikilbaafaaGreatDoor
namespace Go.Proofs.YtbakbikilbaafaaGreatDoor
open Go.RowKit F64 Ieee
set_option linter.unusedVariables false
set_option maxHeartbeats 4000000
set_option maxRecDepth 100000

theorem eq_ne (o : Option Ordering) : (o == some Ordering.eq) = !(o != some Ordering.eq) := by
  cases o with
  | none => rfl
  | some o => cases o <;> rfl
theorem ord_selfE (x : Nat) : (FloatKind.f64.format.order x x == some Ordering.eq) = !F64.isNaN x := by rw [eq_ne, ord_self]
theorem ord_nanL {x y : Nat} (h : F64.isNaN x = true) : (FloatKind.f64.format.order x y == some Ordering.eq) = false := by
  obtain ⟨f, hf⟩ := read_nan h
  rw [O_eq]
  unfold Format.order
  rw [hf]
  cases double.read y <;> rfl
theorem ord_zero {x : Nat} (hx : F64.isNaN x = false) : (FloatKind.f64.format.order x 0 == some Ordering.eq) = decide (rung x = 0) := by
  have hn2 : ¬ 9218868437227405312 < rung x := of_decide_eq_false hx
  rw [O_eq]
  rcases Nat.lt_or_ge (rung x) 9218868437227405312 with h1 | h1
  · rw [order_fin (decide_eq_true h1) (by decide), show SV 0 = 0 from rfl]
    have hv : V (rung x) = 0 ↔ rung x = 0 := by
      constructor
      · intro h
        rcases Nat.eq_zero_or_pos (rung x) with h2 | h2
        · exact h2
        · have := V_pos h2; omega
      · intro h; rw [h]; exact V_zero
    by_cases h0 : rung x = 0
    · have : SV x = 0 := by unfold SV; rw [hv.2 h0]; simp
      rw [this, decide_eq_true h0]; rfl
    · have : SV x ≠ 0 := by
        unfold SV
        have : V (rung x) ≠ 0 := fun h => h0 (hv.1 h)
        split <;> omega
      rw [decide_eq_false h0]
      simp only [compare, compareOfLessAndEq]
      split
      · rfl
      · rfl
  · have h2 : rung x = 9218868437227405312 := by omega
    rw [decide_eq_false (by omega)]
    unfold Format.order
    rw [read_inf h2, show double.read 0 = .number false 0 (-1074) by rfl]
    cases sgn x <;> rfl
/-- the first part of the law: what is shown is read back -/
theorem back_ord {x y : Nat} (h : Back x y) : ∃ z : Bool, (FloatKind.f64.format.order x 0 == some Ordering.eq) = z ∧
    ((z = true ∧ (FloatKind.f64.format.order y 0 == some Ordering.eq) = true) ∨ (z = false ∧ (FloatKind.f64.format.order y x == some Ordering.eq) = true) ∨
     (z = false ∧ (FloatKind.f64.format.order y x == some Ordering.eq) = false ∧ (FloatKind.f64.format.order x x != some Ordering.eq) = true ∧ (FloatKind.f64.format.order y y != some Ordering.eq) = true)) := by
  rcases h with ⟨h1, rfl⟩ | ⟨h1, h2, rfl⟩ | ⟨h1, h2, rfl⟩
  · refine ⟨false, ord_nanL h1, .inr (.inr ⟨rfl, ord_nanL (by decide), by rw [ord_self]; exact h1, by rw [ord_self]; decide⟩)⟩
  · exact ⟨true, by rw [ord_zero h1, decide_eq_true h2], .inl ⟨rfl, by decide +kernel⟩⟩
  · exact ⟨false, by rw [ord_zero h1, decide_eq_false (by omega)], .inr (.inl ⟨rfl, by rw [ord_selfE, h1]; rfl⟩)⟩
theorem o_zero : (FloatKind.f64.format.order 0 0 == some Ordering.eq) = true := by decide +kernel
theorem c_LBack (x : Nat) (s : ByteArray) (hx : x < 18446744073709551616) (w : World) (hL : LibW w) : Calls Tryz.prog 5 #[.float .f64 x, .string s] w fun e w' => e = .returned (.bool true) ∧ Below w.heap.size w w' := by
  have hA := Lib.hid (c_awake3 w hL)
  by_cases hg : 800 < s.size
  · have hg2 : 800 < (s.size : Int) := by omega
    go_enter Tryz.func5, Tryz.ntmps5
    go_wp2_with fail
    refine hA.out.mono ?_
    rintro e w1 ⟨rfl, b1⟩
    go_wp2_with fail
    go_ret
    exact ⟨rfl, b1⟩
  · have hg2 : ¬ 800 < (s.size : Int) := by omega
    have hLk := Lib.hid (fun W (hb : Below w.heap.size w W) => hL.keep hb)
    -- what is shown is read back
    obtain ⟨T, hT⟩ := showT_ex x hx
    obtain ⟨y, hy, hB⟩ := show_read hx hT
    have hSh := Lib.hid (fun W hW => c_dShow hx hT W hW)
    have hTb := hT.b
    have hTm : ∀ c ∈ T, 43 ≤ c ∧ c < 128 := showT_mem hT
    have hRd := Lib.hid (fun W hW => c_dReadT hTm (by omega) hy W hW)
    obtain ⟨z, hz, hB⟩ := back_ord hB
    -- the literal
    obtain ⟨L, hs, hL256, hlen⟩ := bytes_uG s
    obtain ⟨v, n, er, hR⟩ := litR_ex L hL256
    have hLi := Lib.hid (fun W hW => c_dLiteralG L hL256 (by omega) hR W hW)
    have hlb := lit_back hL256 hR
    rw [← hs] at hLi
    clear hR hT hTb hTm hy
    -- its bytes read
    have hE : (er = 30 ∧ v = 0 ∧ n = 0) ∨ (er = 0 ∧ 1 ≤ n ∧ n ≤ s.size ∧ ∃ a : ByteArray, (∀ W, Calls Tryz.prog 19 #[.string (s.extract 0 n)] W fun e w' => e = .returned (.string a) ∧ Below W.heap.size W w') ∧ ∀ W, LibW W → Calls Tryz.prog 16 #[.string a] W fun e w' => e = .returned (.float .f64 v) ∧ Below W.heap.size W w') := by
      rcases hlb with h | ⟨h1, h2, h3, h4, h5⟩
      · exact .inl h
      · refine .inr ⟨h1, h2, by omega, textU (L.take n), fun W => ?_, fun W hW => c_dReadT h4 (by rw [List.length_take]; omega) h5 W hW⟩
        have := aw_ascii (L.take n) (by rw [List.length_take]; omega) (fun c hc => (h4 c hc).2) W
        rw [hs, uG_ext, List.drop_zero]
        exact this
    clear hlb hs hL256 hlen
    generalize textU T = tx at *
    replace hL := Lib.hid hL
    have hS := Lib.hid (fun W => c_RSame3 v W)
    have o0 := o_zero
    rcases hE with ⟨rfl, rfl, rfl⟩ | ⟨rfl, n1, n2, a, hAs, hRa⟩
    · rcases hB with ⟨rfl, y0⟩ | ⟨rfl, y0⟩ | ⟨rfl, y0, y1, y2⟩
      · go_enter Tryz.func5, Tryz.ntmps5
        go_wp2_with fail
        refine hA.out.mono ?_
        rintro e w1 ⟨rfl, b1⟩
        go_wp2_with fail
        refine (hSh.out _ (hLk.out _ b1)).mono ?_
        rintro e w2 ⟨rfl, b2⟩
        have c2 := b1.trans (b2.mono b1.size)
        clear b1 b2
        go_wp2_with fail
        refine (hRd.out _ (hLk.out _ c2)).mono ?_
        rintro e w3 ⟨rfl, b3⟩
        have c3 := c2.trans (b3.mono c2.size)
        clear c2 b3
        go_wp2_with fail
        refine (hLi.out _ (hLk.out _ c3)).mono ?_
        rintro e w4 ⟨rfl, b4⟩
        have c4 := c3.trans (b4.mono c3.size)
        clear c3 b4
        go_wp2_with fail
        go_ret
        exact ⟨rfl, c4⟩
      · go_enter Tryz.func5, Tryz.ntmps5
        go_wp2_with fail
        refine hA.out.mono ?_
        rintro e w1 ⟨rfl, b1⟩
        go_wp2_with fail
        refine (hSh.out _ (hLk.out _ b1)).mono ?_
        rintro e w2 ⟨rfl, b2⟩
        have c2 := b1.trans (b2.mono b1.size)
        clear b1 b2
        go_wp2_with fail
        refine (hRd.out _ (hLk.out _ c2)).mono ?_
        rintro e w3 ⟨rfl, b3⟩
        have c3 := c2.trans (b3.mono c2.size)
        clear c2 b3
        go_wp2_with fail
        refine (hLi.out _ (hLk.out _ c3)).mono ?_
        rintro e w4 ⟨rfl, b4⟩
        have c4 := c3.trans (b4.mono c3.size)
        clear c3 b4
        go_wp2_with fail
        go_ret
        exact ⟨rfl, c4⟩
      · go_enter Tryz.func5, Tryz.ntmps5
        go_wp2_with fail
        refine hA.out.mono ?_
        rintro e w1 ⟨rfl, b1⟩
        go_wp2_with fail
        refine (hSh.out _ (hLk.out _ b1)).mono ?_
        rintro e w2 ⟨rfl, b2⟩
        have c2 := b1.trans (b2.mono b1.size)
        clear b1 b2
        go_wp2_with fail
        refine (hRd.out _ (hLk.out _ c2)).mono ?_
        rintro e w3 ⟨rfl, b3⟩
        have c3 := c2.trans (b3.mono c2.size)
        clear c2 b3
        go_wp2_with fail
        refine (hLi.out _ (hLk.out _ c3)).mono ?_
        rintro e w4 ⟨rfl, b4⟩
        have c4 := c3.trans (b4.mono c3.size)
        clear c3 b4
        go_wp2_with fail
        go_ret
        exact ⟨rfl, c4⟩
    · replace hAs := Lib.hid hAs
      replace hRa := Lib.hid hRa
      have n1' : (1 : Int) ≤ (n : Int) := by omega
      have n2' : (n : Int) ≤ (s.size : Int) := by omega
      rcases hB with ⟨rfl, y0⟩ | ⟨rfl, y0⟩ | ⟨rfl, y0, y1, y2⟩
      · go_enter Tryz.func5, Tryz.ntmps5
        go_wp2_with fail
        refine hA.out.mono ?_
        rintro e w1 ⟨rfl, b1⟩
        go_wp2_with fail
        refine (hSh.out _ (hLk.out _ b1)).mono ?_
        rintro e w2 ⟨rfl, b2⟩
        have c2 := b1.trans (b2.mono b1.size)
        clear b1 b2
        go_wp2_with fail
        refine (hRd.out _ (hLk.out _ c2)).mono ?_
        rintro e w3 ⟨rfl, b3⟩
        have c3 := c2.trans (b3.mono c2.size)
        clear c2 b3
        go_wp2_with fail
        refine (hLi.out _ (hLk.out _ c3)).mono ?_
        rintro e w4 ⟨rfl, b4⟩
        have c4 := c3.trans (b4.mono c3.size)
        clear c3 b4
        go_wp2_with fail
        refine (hAs.out _).mono ?_
        rintro e w5 ⟨rfl, b5⟩
        have c5 := c4.trans (b5.mono c4.size)
        clear c4 b5
        go_wp2_with fail
        refine (hRa.out _ (hLk.out _ c5)).mono ?_
        rintro e w6 ⟨rfl, b6⟩
        have c6 := c5.trans (b6.mono c5.size)
        clear c5 b6
        go_wp2_with (go_at_call 18; refine (hS.out _).mono ?_; rintro e w' ⟨rfl, rfl⟩)
        go_ret
        exact ⟨rfl, c6⟩
      · go_enter Tryz.func5, Tryz.ntmps5
        go_wp2_with fail
        refine hA.out.mono ?_
        rintro e w1 ⟨rfl, b1⟩
        go_wp2_with fail
        refine (hSh.out _ (hLk.out _ b1)).mono ?_
        rintro e w2 ⟨rfl, b2⟩
        have c2 := b1.trans (b2.mono b1.size)
        clear b1 b2
        go_wp2_with fail
        refine (hRd.out _ (hLk.out _ c2)).mono ?_
        rintro e w3 ⟨rfl, b3⟩
        have c3 := c2.trans (b3.mono c2.size)
        clear c2 b3
        go_wp2_with fail
        refine (hLi.out _ (hLk.out _ c3)).mono ?_
        rintro e w4 ⟨rfl, b4⟩
        have c4 := c3.trans (b4.mono c3.size)
        clear c3 b4
        go_wp2_with fail
        refine (hAs.out _).mono ?_
        rintro e w5 ⟨rfl, b5⟩
        have c5 := c4.trans (b5.mono c4.size)
        clear c4 b5
        go_wp2_with fail
        refine (hRa.out _ (hLk.out _ c5)).mono ?_
        rintro e w6 ⟨rfl, b6⟩
        have c6 := c5.trans (b6.mono c5.size)
        clear c5 b6
        go_wp2_with (go_at_call 18; refine (hS.out _).mono ?_; rintro e w' ⟨rfl, rfl⟩)
        go_ret
        exact ⟨rfl, c6⟩
      · go_enter Tryz.func5, Tryz.ntmps5
        go_wp2_with fail
        refine hA.out.mono ?_
        rintro e w1 ⟨rfl, b1⟩
        go_wp2_with fail
        refine (hSh.out _ (hLk.out _ b1)).mono ?_
        rintro e w2 ⟨rfl, b2⟩
        have c2 := b1.trans (b2.mono b1.size)
        clear b1 b2
        go_wp2_with fail
        refine (hRd.out _ (hLk.out _ c2)).mono ?_
        rintro e w3 ⟨rfl, b3⟩
        have c3 := c2.trans (b3.mono c2.size)
        clear c2 b3
        go_wp2_with fail
        refine (hLi.out _ (hLk.out _ c3)).mono ?_
        rintro e w4 ⟨rfl, b4⟩
        have c4 := c3.trans (b4.mono c3.size)
        clear c3 b4
        go_wp2_with fail
        refine (hAs.out _).mono ?_
        rintro e w5 ⟨rfl, b5⟩
        have c5 := c4.trans (b5.mono c4.size)
        clear c4 b5
        go_wp2_with fail
        refine (hRa.out _ (hLk.out _ c5)).mono ?_
        rintro e w6 ⟨rfl, b6⟩
        have c6 := c5.trans (b6.mono c5.size)
        clear c5 b6
        go_wp2_with (go_at_call 18; refine (hS.out _).mono ?_; rintro e w' ⟨rfl, rfl⟩)
        go_ret
        exact ⟨rfl, c6⟩
end Go.Proofs.YtbakbikilbaafaaGreatDoor
namespace Go.Proofs.YtbakbikilbaafaaGreatDoor
open Go.RowKit Go.Lib
set_option linter.unusedVariables false
set_option linter.unusedSimpArgs false
set_option maxHeartbeats 4000000
set_option maxRecDepth 100000

theorem slice_reads {P : Program} {w : World} {name : String} {g c : Nat} {t e : TypeId} {D : List (DataW Unit)} (hn : P.globalNamed name = some g) (hy : (P.globals[g]?).map (·.type) = some t)
    (ht : P.underlying t = some (.slice e)) (hce : P.cellsOf e = c) (hc : 0 < c) (hD : 0 < D.length) (E : Nat → List Value) (hE0 : ∀ i, (E i).length = c)
    (hE : ∀ (base : Nat) (sp : Nat → Bool) (held : Bool) (i m : Nat) (cs : List Value) (d : DataW Unit) (p : List MemPlace), D[i]? = some d → DataW.trod (fun _ => ()) P w base sp held m e cs = some (d, p) → cs = E i)
    (h : VarReads P w name (.slice D [])) : ∃ b o cap, w.cell? ⟨g, 0, none⟩ = some (.slice (some ⟨b, o, none⟩) D.length cap) ∧ ∀ (i j : Nat) (v : Value), i < D.length → (E i)[j]? = some v → w.cell? ⟨b, o + i * c + j, none⟩ = some v := by
  obtain ⟨g', t', cs, fuel, p, hg, hty, hvar, hd⟩ := h
  obtain rfl := Option.some.inj (hn.symm.trans hg)
  obtain rfl := Option.some.inj (hy.symm.trans hty)
  rcases DataW.trod_slice ht hd with ⟨_, hx⟩ | ⟨a, len, cap, el, rs, m, rfl, hcs, hx, _, hlc, _, hel, helem, hsp, _⟩
  · cases hx
  have e0 := congrArg Prod.fst hx
  simp only [DataW.slice.injEq] at e0
  obtain ⟨eE, eR⟩ := e0
  have hlen : len = D.length := by
    have := congrArg List.length eE
    simp at this
    omega
  have hcell : ∀ (i j : Nat) (v : Value), i < D.length → (E i)[j]? = some v → w.cell? ((a.add (i * c)).add j) = some v := by
    intro i j v hi hv
    have h1 := helem i (by omega)
    rw [hce] at h1
    obtain ⟨b, hb⟩ : ∃ b, el[i]? = some b := ⟨el[i]'(by omega), List.getElem?_eq_getElem (by omega)⟩
    rw [hb] at h1
    obtain ⟨ce, hcc, hte⟩ := Option.bind_eq_some_iff.1 h1
    have hdi : D[i]? = some b.1 := by rw [eE, List.getElem?_map, hb]; rfl
    have hEi := hE _ _ _ i _ ce b.1 b.2 hdi hte
    obtain ⟨_, _, hcell⟩ := World.cells?_some hcc
    have hj : j < c := by rw [← hE0 i]; exact (List.getElem?_eq_some_iff.1 hv).1
    rw [hcell j hj, hEi, hv]
  obtain ⟨R, o, sR⟩ := a
  have v0 : (E 0)[0]? = some ((E 0)[0]'(by rw [hE0]; exact hc)) := List.getElem?_eq_getElem _
  obtain rfl : sR = none := by
    have h00 := hcell 0 0 _ hD v0
    have : ((Addr.add ⟨R, o, sR⟩ (0 * c)).add 0) = ⟨R, o, sR⟩ := by simp [Addr.add]
    rw [this] at h00
    exact Go.Proofs.cell_spot h00
  refine ⟨R, o, cap, ?_, fun i j v hi hv => ?_⟩
  · rw [World.var?_cell hg hvar 0, ← Array.getElem?_toList, hcs, hlen]
    rfl
  · have := hcell i j v hi hv
    rw [Addr.add_lit, Addr.add_lit] at this
    exact this
theorem trod_lit {H : Type} {enc : TypeId × Value → H} {P : Program} {w : World} {base : Nat} {sp : Nat → Bool} {held : Bool} {fuel : Nat} {t : TypeId} {cs : List Value} {l : Lit} {p : List MemPlace}
    (h : DataW.trod enc P w base sp held fuel t cs = some (.lit l, p)) : cs = [l.value] := by
  cases fuel with
  | zero => simp [DataW.trod] at h
  | succ n =>
    unfold DataW.trod at h
    split at h
    all_goals first
      | (simp only [Option.some.injEq, Prod.mk.injEq, DataW.lit.injEq] at h; obtain ⟨rfl, _⟩ := h; rfl)
      | (split at h
         · simp only [Option.some.injEq, Prod.mk.injEq, DataW.lit.injEq] at h
           obtain ⟨rfl, _⟩ := h
           first | rfl | (simp_all [Lit.value])
         · cases h)
      | (simp [Option.map_eq_some_iff, Option.bind_eq_some_iff] at h; done)
      | (exfalso; revert h; simp [Option.map_eq_some_iff, Option.bind_eq_some_iff]; done)
      | (exfalso; revert h; split <;> simp [Option.map_eq_some_iff, Option.bind_eq_some_iff]; done)
      | (exfalso; revert h; split <;> (try split) <;> simp [Option.map_eq_some_iff, Option.bind_eq_some_iff])
theorem lits_of_struct {H : Type} {enc : TypeId × Value → H} {P : Program} {w : World} {base : Nat} {sp : Nat → Bool} {held : Bool} {fuel : Nat} {t : TypeId} {fs : Array Field} {cs : List Value} {ls : List Lit} {p : List MemPlace} (ht : P.underlying t = some (.struct fs))
    (hf : ∀ (i : Nat) (f : Field), fs[i]? = some f → f.offset = i ∧ P.cellsOf f.type = 1) (hct : P.cellsOf t = fs.size)
    (h : DataW.trod enc P w base sp held fuel t cs = some (.agg (ls.map fun z => .lit z), p)) : cs = ls.map Lit.value := by
  obtain ⟨xs, n, rfl, hx, hl, hxl, hall⟩ := DataW.trod_struct ht h
  have hxs : xs.map (·.1) = ls.map fun z => (DataW.lit z : DataW H) := by
    have := congrArg Prod.fst hx
    simpa using this.symm
  have hzl : ls.length = fs.size := by
    have := congrArg List.length hxs
    simp at this
    omega
  apply List.ext_getElem?
  intro i
  by_cases hi : i < fs.size
  · obtain ⟨ho, hc⟩ := hf i fs[i] (by simp [hi])
    have h1 := hall i fs[i] (by simp [hi])
    obtain ⟨b, hb⟩ : ∃ b, xs[i]? = some b := ⟨xs[i]'(by omega), List.getElem?_eq_getElem (by omega)⟩
    obtain ⟨z, hz⟩ : ∃ z, ls[i]? = some z := ⟨ls[i]'(by omega), List.getElem?_eq_getElem (by omega)⟩
    have h3 : (xs.map (·.1))[i]? = some (DataW.lit z : DataW H) := by rw [hxs, List.getElem?_map, hz]; rfl
    rw [List.getElem?_map, hb] at h3
    have h4 : b.1 = DataW.lit z := Option.some.inj h3
    rw [hb, ho, hc, show b = (DataW.lit z, b.2) by rw [← h4]] at h1
    have hcz := trod_lit h1
    have h2 : cs[i]? = some z.value := by
      have := congrArg (·[0]?) hcz
      simpa [List.getElem?_take, List.getElem?_drop] using this
    rw [h2, List.getElem?_map, hz]; rfl
  · rw [List.getElem?_eq_none (by omega), List.getElem?_eq_none (by simp; omega)]
def laidL : List (String × DataW Unit) := Rows.digitsShowRow.laid
theorem gPow : Tryz.prog.globalNamed "internal/strconv.pow10Tab" = some 12 := by kernel_rfl
theorem tPow : (Tryz.prog.globals[12]?).map (·.type) = some 238 := by kernel_rfl
theorem gP10 : Tryz.prog.globalNamed "internal/strconv.uint64pow10" = some 1 := by kernel_rfl
theorem tP10 : (Tryz.prog.globals[1]?).map (·.type) = some 161 := by kernel_rfl
theorem gFI : Tryz.prog.globalNamed "internal/strconv.float64info" = some 9 := by kernel_rfl
theorem tFI : (Tryz.prog.globals[9]?).map (·.type) = some 222 := by kernel_rfl
theorem gF10 : Tryz.prog.globalNamed "internal/strconv.float64pow10" = some 16 := by kernel_rfl
theorem tF10 : (Tryz.prog.globals[16]?).map (·.type) = some 247 := by kernel_rfl
theorem gPT : Tryz.prog.globalNamed "internal/strconv.powtab" = some 15 := by kernel_rfl
theorem tPT : (Tryz.prog.globals[15]?).map (·.type) = some 246 := by kernel_rfl
theorem gLC : Tryz.prog.globalNamed "internal/strconv.leftcheats" = some 13 := by kernel_rfl
theorem tLC : (Tryz.prog.globals[13]?).map (·.type) = some 242 := by kernel_rfl
theorem gOp : Tryz.prog.globalNamed "internal/strconv.optimize" = some 5 := by kernel_rfl
theorem gEr : Tryz.prog.globalNamed "strconv.ErrRange" = some 7 := by kernel_rfl
theorem tEr : (Tryz.prog.globals[7]?).map (·.type) = some 83 := by kernel_rfl
theorem cTab20 : Tryz.prog.cellsOf 161 = 20 := by kernel_rfl
theorem cU64 : Tryz.prog.cellsOf 102 = 1 := by kernel_rfl
theorem cHiLo : Tryz.prog.cellsOf 237 = 2 := by kernel_rfl
theorem cF64 : Tryz.prog.cellsOf 22 = 1 := by kernel_rfl
theorem cInt : Tryz.prog.cellsOf 3 = 1 := by kernel_rfl
theorem cStr : Tryz.prog.cellsOf 9 = 1 := by kernel_rfl
theorem cCheat : Tryz.prog.cellsOf 241 = 2 := by kernel_rfl
theorem cFInfo : Tryz.prog.cellsOf 222 = 3 := by kernel_rfl
theorem pow_of {W : World} (h : VarReads Tryz.prog W "internal/strconv.pow10Tab" Pinned.pow10Tab) : PowT W := by
  obtain ⟨g, t, cs, fuel, p, hg, ht, hv, hd⟩ := h
  obtain rfl := Option.some.inj (gPow.symm.trans hg)
  obtain rfl := Option.some.inj (tPow.symm.trans ht)
  obtain ⟨xs, m, rfl, hx, hlen, hn, hel⟩ := DataW.trod_array Tryz.underlying238 hd
  rw [cHiLo] at hel
  have hxs : xs.map (·.1) = Pinned.pow10Rows.map fun x => (DataW.agg [.lit (.int .u64 x.1), .lit (.int .u64 x.2)] : DataW Unit) := by
    have := congrArg Prod.fst hx
    simpa [Pinned.pow10Tab] using this.symm
  intro i x hxi
  have hil : i < 696 := by
    have := (List.getElem?_eq_some_iff.1 hxi).1
    rw [rows_len] at this
    exact this
  have hi := hel i hil
  have hxi2 : (xs.map (·.1))[i]? = some (.agg [.lit (.int .u64 x.1), .lit (.int .u64 x.2)]) := by
    rw [hxs, List.getElem?_map, hxi]; rfl
  rw [List.getElem?_map, Option.map_eq_some_iff] at hxi2
  obtain ⟨⟨d, pp⟩, hxe, rfl⟩ := hxi2
  rw [hxe] at hi
  have hz := lits_of_struct (ls := [.int .u64 x.1, .int .u64 x.2]) Tryz.underlying237 (by
    intro i f hf
    rcases i with _ | _ | i
    · simp at hf; subst hf; exact ⟨rfl, cU64⟩
    · simp at hf; subst hf; exact ⟨rfl, cU64⟩
    · simp at hf) cHiLo hi
  have c0 := congrArg (·[0]?) hz
  have c1 := congrArg (·[1]?) hz
  simp only [List.getElem?_take, List.getElem?_drop] at c0 c1
  simp [Lit.value] at c0 c1
  exact ⟨(World.var?_cell hg hv _).trans c0, (World.var?_cell hg hv _).trans c1⟩
theorem p10_of {W : World} (h : VarReads Tryz.prog W "internal/strconv.uint64pow10" Rows.laid_internal_strconv_uint64pow10) : P10 W ∧ Lib.TabIs Tryz.prog W "internal/strconv.uint64pow10" .u64 Lib.pow10Tab := by
  obtain ⟨g, t, cs, fuel, p, hg, ht, hv, hd⟩ := h
  obtain rfl := Option.some.inj (gP10.symm.trans hg)
  obtain rfl := Option.some.inj (tP10.symm.trans ht)
  have hz := cells_of_tab (zs := Lib.pow10Tab) Tryz.underlying161 Tryz.underlying102 cU64 cTab20 hd
  have hT : Lib.TabIs Tryz.prog W "internal/strconv.uint64pow10" .u64 Lib.pow10Tab := by
    unfold TabIs
    rw [hv, ← hz]
  refine ⟨fun i hi => ?_, hT⟩
  have hc := hT.cell gP10 i (by show i < 20; exact hi)
  rw [hc]
  have all : ∀ i : Fin 20, Lib.pow10Tab.getD i.val 0 = ((10 ^ i.val : Nat) : Int) := by decide +kernel
  rw [all ⟨i, hi⟩]
theorem fi_of {W : World} (h : VarReads Tryz.prog W "internal/strconv.float64info" Rows.laid_internal_strconv_float64info) : FI W := by
  obtain ⟨g, t, cs, fuel, p, hg, ht, hv, hd⟩ := h
  obtain rfl := Option.some.inj (gFI.symm.trans hg)
  obtain rfl := Option.some.inj (tFI.symm.trans ht)
  have hz := lits_of_struct (ls := [.int .u64 52, .int .u64 11, .int .i64 (-1023)]) Tryz.underlying222 (by
    intro i f hf
    rcases i with _ | _ | _ | i
    · simp at hf; subst hf; exact ⟨rfl, by kernel_rfl⟩
    · simp at hf; subst hf; exact ⟨rfl, by kernel_rfl⟩
    · simp at hf; subst hf; exact ⟨rfl, cInt⟩
    · simp at hf) cFInfo hd
  refine ⟨?_, ?_, ?_⟩
  · have := congrArg (·[0]?) hz
    rw [Array.getElem?_toList] at this
    exact (World.var?_cell hg hv _).trans this
  · have := congrArg (·[1]?) hz
    rw [Array.getElem?_toList] at this
    exact (World.var?_cell hg hv _).trans this
  · have := congrArg (·[2]?) hz
    rw [Array.getElem?_toList] at this
    exact (World.var?_cell hg hv _).trans this
theorem f10_of {W : World} (h : VarReads Tryz.prog W "internal/strconv.float64pow10" Rows.laid_internal_strconv_float64pow10) : F10 W := by
  obtain ⟨b, o, cap, h0, h1⟩ := slice_reads (c := 1) gF10 tF10 Tryz.underlying247 cF64 (by decide) (by decide) (fun i => [.float .f64 (pow10W.getD i 0)]) (fun _ => rfl) (by
    intro base sp held i m cs d p hd htr
    have hall : ∀ i : Fin 23, ([.lit (.float .f64 4607182418800017408)] : List (DataW Unit)).length = 1 := fun _ => rfl
    have hdi : d = .lit (.float .f64 (pow10W.getD i 0)) := by
      have hi : i < 23 := (List.getElem?_eq_some_iff.1 hd).1
      rcases i with _ | _ | _ | _ | _ | _ | _ | _ | _ | _ | _ | _ | _ | _ | _ | _ | _ | _ | _ | _ | _ | _ | _ | i
      all_goals first | (exact (Option.some.inj hd).symm) | omega
    subst hdi
    exact trod_lit htr) h
  refine ⟨b, o, cap, h0, fun i hi => ?_⟩
  have := h1 i 0 _ hi rfl
  rw [Nat.mul_one, Nat.add_zero] at this
  exact this
theorem pt_of {W : World} (h : VarReads Tryz.prog W "internal/strconv.powtab" Rows.laid_internal_strconv_powtab) : PT W := by
  obtain ⟨b, o, cap, h0, h1⟩ := slice_reads (c := 1) gPT tPT Tryz.underlying246 cInt (by decide) (by decide) (fun i => [.int .i64 (PTL.getD i 0)]) (fun _ => rfl) (by
    intro base sp held i m cs d p hd htr
    have hdi : d = .lit (.int .i64 (PTL.getD i 0)) := by
      have hi : i < 9 := (List.getElem?_eq_some_iff.1 hd).1
      rcases i with _ | _ | _ | _ | _ | _ | _ | _ | _ | i
      all_goals first | (exact (Option.some.inj hd).symm) | omega
    subst hdi
    exact trod_lit htr) h
  refine ⟨b, o, cap, h0, fun i hi => ?_⟩
  have := h1 i 0 _ hi rfl
  rw [Nat.mul_one, Nat.add_zero] at this
  exact this
theorem cheat_len : Pinned.cheatRows.length = 61 := by decide +kernel
theorem lc_of {W : World} (h : VarReads Tryz.prog W "internal/strconv.leftcheats" Pinned.leftcheats) : LC W := by
  have hlen : (Pinned.cheatRows.map fun x => (DataW.agg [.lit (.int .i64 x.1), .lit (.string x.2)] : DataW Unit)).length = 61 := by rw [List.length_map, cheat_len]
  obtain ⟨b, o, cap, h0, h1⟩ := slice_reads (c := 2) (D := Pinned.cheatRows.map fun x => (DataW.agg [.lit (.int .i64 x.1), .lit (.string x.2)] : DataW Unit)) gLC tLC Tryz.underlying242 cCheat (by decide) (by rw [hlen]; decide)
    (fun i => match Pinned.cheatRows[i]? with | some x => [.int .i64 x.1, .string ⟨x.2.toArray⟩] | none => [.int .i64 0, .int .i64 0]) (by
    intro i
    cases Pinned.cheatRows[i]? <;> rfl) (by
    intro base sp held i m cs d p hd htr
    rw [List.getElem?_map, Option.map_eq_some_iff] at hd
    obtain ⟨x, hx, rfl⟩ := hd
    have hz := lits_of_struct (ls := [.int .i64 x.1, .string x.2]) Tryz.underlying241 (by
      intro i f hf
      rcases i with _ | _ | i
      · simp at hf; subst hf; exact ⟨rfl, cInt⟩
      · simp at hf; subst hf; exact ⟨rfl, cStr⟩
      · simp at hf) cCheat htr
    rw [hz]
    simp only [hx]
    rfl) h
  rw [hlen] at h0 h1
  refine ⟨b, o, cap, h0, fun i x hx => ?_⟩
  have hi : i < 61 := by
    have := (List.getElem?_eq_some_iff.1 hx).1
    rw [cheat_len] at this
    exact this
  have c0 := h1 i 0 (.int .i64 x.1) hi (by simp only [hx]; rfl)
  have c1 := h1 i 1 (.string ⟨x.2.toArray⟩) hi (by simp only [hx]; rfl)
  rw [Nat.add_zero, Nat.mul_comm] at c0
  rw [Nat.mul_comm i 2] at c1
  exact ⟨c0, c1⟩
theorem op_of {W : World} (h : VarReads Tryz.prog W "internal/strconv.optimize" Rows.laid_internal_strconv_optimize) : W.cell? ⟨5, 0, none⟩ = some (.bool true) := by
  obtain ⟨g, t, cs, fuel, p, hg, ht, hv, hd⟩ := h
  obtain rfl := Option.some.inj (gOp.symm.trans hg)
  have hz := trod_lit (l := .bool true) hd
  have := congrArg (·[0]?) hz
  rw [Array.getElem?_toList] at this
  exact (World.var?_cell hg hv _).trans this
theorem er_of {W : World} (h : VarReads Tryz.prog W "strconv.ErrRange" Rows.laid_strconv_ErrRange) : ∃ te pe, W.cell? ⟨7, 0, none⟩ = some (.iface te pe) := by
  obtain ⟨g, t, cs, fuel, p, hg, ht, hv, hd⟩ := h
  obtain rfl := Option.some.inj (gEr.symm.trans hg)
  obtain rfl := Option.some.inj (tEr.symm.trans ht)
  have hcs : ∃ u v, cs.toList = [.iface u v] := by
    cases fuel with
    | zero => simp [DataW.trod] at hd
    | succ n =>
      unfold DataW.trod at hd
      rw [Tryz.underlying83] at hd
      unfold Rows.laid_strconv_ErrRange at hd
      split at hd
      all_goals first
        | (cases hd; done)
        | (rename_i e; cases e; done)
        | (rename_i e _; cases e; done)
        | (rename_i e _ _; cases e; done)
        | exact ⟨_, _, by assumption⟩
  obtain ⟨u, v, hcs⟩ := hcs
  have := congrArg (·[0]?) hcs
  rw [Array.getElem?_toList] at this
  exact ⟨u, v, (World.var?_cell hg hv _).trans this⟩
theorem gTZ : Tryz.prog.globalNamed "math/bits.deBruijn64tab" = some 11 := by kernel_rfl
theorem tTZ : (Tryz.prog.globals[11]?).map (·.type) = some 235 := by kernel_rfl
theorem cTab64 : Tryz.prog.cellsOf 235 = 64 := by kernel_rfl
theorem cU8 : Tryz.prog.cellsOf 5 = 1 := by kernel_rfl
theorem tz_of {W : World} (h : VarReads Tryz.prog W "math/bits.deBruijn64tab" Rows.laid_math_bits_deBruijn64tab) : ∀ (i x : Nat), Lib.deBruijn64tab[i]? = some x → W.cell? ⟨11, i, none⟩ = some (.int .u8 (x : Int)) := by
  obtain ⟨g, t, cs, fuel, p, hg, ht, hv, hd⟩ := h
  obtain rfl := Option.some.inj (gTZ.symm.trans hg)
  obtain rfl := Option.some.inj (tTZ.symm.trans ht)
  have hz := cells_of_tab (zs := Lib.deBruijn64tab.map fun n : Nat => (n : Int)) Tryz.underlying235 Tryz.underlying5 cU8 cTab64 hd
  intro i x hx
  have hc : cs[i]? = some (.int .u8 (x : Int)) := by
    rw [← Array.getElem?_toList, hz]
    simp [hx]
  exact (World.var?_cell hg hv _).trans hc
theorem rowOfG {W : World} (hS : W.ShapedOpen Tryz.prog) (g : Nat) (zero : Array Value) (t : TypeId) (hg : g < Tryz.prog.globals.size) (h0 : ((begin Tryz.prog (fun _ _ => 0) default).world.heap[g]?).bind Obj.row? = some (zero, t)) : ∃ c t, W.heap[g]? = some (.cells c t (0, 0)) := by
  obtain ⟨cs, hh, -, -⟩ := hS.1 g zero t hg h0
  exact ⟨cs, t, hh⟩
theorem lib_of {W : World} (hS : W.ShapedOpen Tryz.prog) (h : laidMet Tryz.prog laidL W) : LibW W := by
  have hp := p10_of (laidMet.reads h (n := "internal/strconv.uint64pow10") (.tail _ (.tail _ (.tail _ (.tail _ (.tail _ (.tail _ (.tail _ (.tail _ (.head _))))))))))
  exact ⟨pow_of (laidMet.reads h (.tail _ (.tail _ (.tail _ (.tail _ (.tail _ (.tail _ (.tail _ (.tail _ (.tail _ (.tail _ (.tail _ (.tail _ (.tail _ (.head _))))))))))))))), hp.1,
    fi_of (laidMet.reads h (.tail _ (.tail _ (.tail _ (.head _))))),
    f10_of (laidMet.reads h (.tail _ (.tail _ (.tail _ (.tail _ (.tail _ (.tail _ (.head _)))))))),
    op_of (laidMet.reads h (.tail _ (.tail _ (.tail _ (.tail _ (.head _)))))),
    er_of (laidMet.reads h (.tail _ (.tail _ (.tail _ (.tail _ (.tail _ (.tail _ (.tail _ (.tail _ (.tail _ (.tail _ (.head _)))))))))))),
    pt_of (laidMet.reads h (.tail _ (.tail _ (.tail _ (.tail _ (.tail _ (.head _))))))),
    lc_of (laidMet.reads h (.tail _ (.tail _ (.tail _ (.tail _ (.tail _ (.tail _ (.tail _ (.tail _ (.tail _ (.tail _ (.tail _ (.tail _ (.head _)))))))))))))),
    Go.Proofs.cell_of_shapedOpen_int hS (of_decide_eq_true (by kernel_rfl)) (t := 3) (zero := #[.int .i64 0]) (by kernel_rfl) rfl (by kernel_rfl) (by kernel_rfl) Tryz.underlying3, hp.2, tz_of (laidMet.reads h (.tail _ (.head _))), rowOfG hS 9 #[.int .u64 0, .int .u64 0, .int .i64 0] 222 (of_decide_eq_true (by kernel_rfl)) (by kernel_rfl), rowOfG hS 8 #[.int .u64 0, .int .u64 0, .int .i64 0] 222 (of_decide_eq_true (by kernel_rfl)) (by kernel_rfl)⟩
end Go.Proofs.YtbakbikilbaafaaGreatDoor
namespace Go.Proofs.YtbakbikilbaafaaGreatDoor.digitsBack
open Go.ChangeShapes Go.WideShapes Go.ChangeAt Go.RowKit Go.ChangeMaps
set_option linter.unusedVariables false

theorem own : ownKnob Tryz.prog.godebug = none := by kernel_rfl
set_option maxRecDepth 100000 in
theorem contract (H : Type) (enc : TypeId × Value → H) (W : World) (base : Nat) (args : Array Value) (ds gs : List (DataW H)) (before : List MemPlace)
    (hval0 : ∀ (j : Nat) t v, Tryz.f5.params[j]? = some t → args[j]? = some v → Value.okWide Tryz.prog W .any base t v)
    (hW : DataW.Whole enc Tryz.prog Tryz.f5.params.toList Rows.digitsBackSpec.vars false W args.toList ds gs before) (hL : laidMetH Tryz.prog laidL W) (hS : W.ShapedOpen Tryz.prog) :
    Calls Tryz.prog 5 args W fun e W' => ∃ v, e = .returned v ∧ Rows.digitsBackSpec.post enc Tryz.prog Tryz.f5 false true false false W args v W' := by
  have hval : ∀ (j : Nat) t v, Tryz.f5.params[j]? = some t → args[j]? = some v → Value.okWide Tryz.prog W .any base t v := hval0
  have hW' := hW
  obtain ⟨p, q, hA0, hV, rfl, hfz, hnd⟩ := hW
  have hA : DataW.TrodAll enc Tryz.prog W 0 (fun _ => true) true Tryz.f5.params.toList args.toList ds p := hA0
  rw [Tryz.params5] at hA hval
  obtain ⟨v0, vs0, d0, ds0, p0, q0, hargs, rfl, rfl, h0, r0⟩ := trodAll_cons hA
  obtain ⟨v1, vs1, d1, ds1, p1, q1, rfl, rfl, rfl, h1, r1⟩ := trodAll_cons r0
  obtain ⟨rfl, rfl, rfl⟩ := trodAll_nil r1
  obtain rfl : args = #[v0, v1] := by cases args; simp_all
  obtain ⟨rfl, rfl⟩ := trodVars_none hV
  obtain ⟨a0, rfl, rfl, rfl, w0⟩ := open_float Tryz.underlying22 (hval 0 22 v0 rfl rfl) h0
  obtain ⟨a1, rfl, rfl, rfl, w1⟩ := open_string Tryz.underlying9 (hval 1 9 v1 rfl rfl) h1
  clear hA0 hval0
  simp only [List.append_nil] at hW'
  rw [MakeChecks.laidMetH_plain _ _ _ (by kernel_rfl)] at hL
  have hT := lib_of hS hL
  refine (c_LBack a0 a1 (by simpa [Lit.wf] using w0) W hT).mono fun e W' ⟨he, hb⟩ => ?_
  subst he
  exact ⟨_, rfl, _, _, _, [], [], [], hW', trodAll_mk1 (shut_bool Tryz.underlying4 _), (trodAll_cons_mk (shut_float Tryz.underlying22 w0) (trodAll_cons_mk (shut_string Tryz.underlying9 w1) trodAll_mk0)), rfl, hb.frame _, fun h => by cases h⟩
theorem laid_met (os : Os) : laidMet Tryz.prog laidL ((World.laidAll Tryz.prog os laidL).forCall (fun _ _ => 0) ⟨#[], #[.float .f64 0, .string ⟨#[]⟩], []⟩).memory :=
  laidMet_laidAll _ (by kernel_rfl) (by kernel_rfl)
set_option maxRecDepth 100000 in
theorem reads (os : Os) {H : Type} (enc : TypeId × Value → H) : ∃ places, DataW.whole enc Tryz.prog ((World.laidAll Tryz.prog os laidL).forCall (fun _ _ => 0) ⟨#[], #[.float .f64 0, .string ⟨#[]⟩], []⟩).memory Tryz.f5.params.toList Rows.digitsBackSpec.vars false (#[.float .f64 0, .string ⟨#[]⟩] : Array Value).toList 8 = some ([.lit (.float .f64 0), .lit (.string [])], [], places) :=
  ⟨[], by kernel_rfl⟩
set_option maxRecDepth 100000 in
theorem lifted (os : Os) (started : os.Started) (H : Type) (enc : TypeId × Value → H) (F : Stop.Interp) :
    ReturnsInHanded {} Tryz.checked os 5 .any ((OpenSpec.ofChange Rows.digitsBackSpec).preRow enc Tryz.prog Tryz.f5 Rows.digitsBackRow.domain false laidL) (((OpenSpec.ofChange Rows.digitsBackSpec).at F).post enc Tryz.prog Tryz.f5 false true false false) := by
  obtain ⟨places, hx⟩ := reads os enc
  refine returnsInHanded_of_row (C := Tryz.checked) (s := OpenSpec.ofChange Rows.digitsBackSpec) own started (by kernel_rfl) Tryz.func5
    ⟨World.laidAll Tryz.prog os laidL, fun _ _ => 0, ⟨#[], #[.float .f64 0, .string ⟨#[]⟩], []⟩, World.laidAll_os _ _ _, World.shaped_of_ZipB (by kernel_rfl) (by kernel_rfl),
      rfl, (Input.okWide_of_okWideB (by kernel_rfl)).2,
      OpenSpec.preRow_of_cond 8 hx (by kernel_rfl) (fun k hk => by cases hk) (by kernel_rfl) (by rw [MakeChecks.laidMetH_plain _ _ _ (by kernel_rfl)]; exact laid_met os),
      by
        simp only [Assume.holds]
        exact ⟨by simp, by simp, fun _ => Modest.zero, by simp, by simp⟩⟩ ?_
  intro W base args ds gs before hval hW _ hcond _ hL hS _
  exact contract H enc W base args ds gs before hval hW hL hS
theorem over : Rows.DigitsBackSaid :=
  OpenClaim.holds_of_cond 5 Tryz.f5 rfl rfl rfl rfl rfl rfl rfl ⟨rfl, rfl, rfl, rfl, rfl⟩ rfl rfl rfl rfl rfl (by kernel_rfl) Tryz.func5 (by kernel_rfl)
    (of_decide_eq_true (by kernel_rfl)) (by unfold Func.isWrapper; first | (rw [if_pos (by decide +kernel)]; kernel_rfl) | (rw [if_neg (by decide +kernel)]; exact ⟨rfl, rfl⟩))
    (fun os started H enc _ F => by rw [OpenClaim.pre_eq_preRow]; exact lifted os started H enc F)
theorem plain (f : FuncId) (fn : Func) (hf : Tryz.pinned.checked.prog.funcNamed "lintel/lintellaw03.DigitsBack" = some f) (hfn : Tryz.pinned.checked.prog.funcs[f]? = some fn) :
    true = Tryz.pinned.checked.prog.looks [] ∧ ∀ (j : Nat) t, fn.params[j]? = some t → Tryz.pinned.checked.prog.wantsStandIn t = false := by
  obtain rfl : f = 5 := Option.some.inj ((show Tryz.prog.funcNamed "lintel/lintellaw03.DigitsBack" = some 5 by kernel_rfl).symm.trans hf) |>.symm
  obtain rfl : fn = Tryz.f5 := (Option.some.inj (Tryz.func5.symm.trans hfn)).symm
  refine ⟨by kernel_rfl, fun j t ht => ?_⟩
  rw [Tryz.params5] at ht
  have hm : t ∈ [22, 9] := by simpa using Array.mem_of_getElem? ht
  have hall : ([22, 9].all fun u => !Tryz.prog.wantsStandIn u) = true := by kernel_rfl
  exact (show Tryz.prog.wantsStandIn t = false by simpa using List.all_eq_true.1 hall t hm)
theorem proved : Rows.DigitsBackCardSaid :=
  Claim7.holds_tied_plain_at .later [] _ _ _ _ over (fun _ h => by cases h) (by kernel_rfl) (fun _ h => by cases h) digitsBack_row_tie rfl ⟨rfl, rfl⟩ (by kernel_rfl) rfl plain (by kernel_rfl)
end Go.Proofs.YtbakbikilbaafaaGreatDoor.digitsBack
