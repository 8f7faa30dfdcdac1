/-
  Contracts: Contracts of math.Ldexp (of normal numbers) and of the program's rounded. Contracts of Ldexp by exponent and digits, and of the program's rounded. Contracts of the program's small functions on digits and blanks: worth, digitsOf, run, Blank, At. Contracts of both Blanks (printed by gen_XTB.py). Contracts of the program's At, Cut, front, Trim. Contracts of the program's plain, signed, bases, prefix. Plain facts of the program's sticky: words times a base plus a digit. The contract of the program's sticky: the loop that reads the digits.
-/
import Derived.Test.YtbakbikilbaafaaGreatDoorR12
import Derived.Test.YtbakbikilbaafaaGreatDoorR11
import Derived.Shelf.Strings.BuilderK
import Derived.Test.YtbakbikilbaafaaGreatDoorR1
namespace Go.Proofs.YtbakbikilbaafaaGreatDoor
open Go.RowKit F64 Ieee
set_option linter.unusedVariables false
set_option maxHeartbeats 4000000
set_option maxRecDepth 100000

theorem r56G (x : Nat) (w : World) : (callFunc 87 #[.float .f64 x]).run Tryz.prog w = .ok (.value (.int .u64 x)) w := by kernel_rfl
theorem r55G (x : Int) (w : World) : (callFunc 77 #[.int .u64 x]).run Tryz.prog w = .ok (.value (.float .f64 x.toNat)) w := by kernel_rfl
theorem c_IsNaNG (x : Nat) (hx : x < 9218868437227405312) (w : World) :
    Calls Tryz.prog 176 #[.float .f64 x] w fun r w' => r = .returned (.bool false) ∧ w = w' := by
  have o1 := ord_self x
  have o1' : F64.isNaN x = false := by unfold F64.isNaN; rw [rung_small (by omega)]; simp; omega
  rw [o1'] at o1
  clear o1'
  go_enter Tryz.func176, Tryz.ntmps176
  go_wp2
  go_ret
  exact ⟨rfl, rfl⟩
theorem c_normN (x : Nat) (h : 4503599627370496 ≤ x) (hx : x < 9218868437227405312) (w : World) :
    Calls Tryz.prog 177 #[.float .f64 x] w fun r w' => r = .returned (.tuple #[.float .f64 x, .int .i64 0]) ∧ w = w' := by
  have hA := Lib.hid (fun W => c_AbsG x (by omega) W)
  rw [rung_small (by omega)] at hA
  have o1 : (FloatKind.f64.format.order x 4503599627370496 == some Ordering.lt) = false := by
    rw [ord_lt hx (by decide)]; exact decide_eq_false (by omega)
  go_enter Tryz.func177, Tryz.ntmps177
  go_wp2_with (go_at_call 58; refine (hA.out _).mono ?_; rintro e w' ⟨rfl, rfl⟩)
  go_ret2
  exact ⟨rfl, rfl⟩
theorem c_ldexpN (x d : Nat) (k : Int) (h : 4503599627370496 ≤ x) (hx : x < 9218868437227405312) (hd : d < 9218868437227405312) (hk1 : 52 ≤ k + ne x) (hk2 : k + ne x ≤ 2097)
    (hv : V d * 2 ^ 53 = nm x * 2 ^ (k + ne x + 1).toNat) (w : World) :
    Calls Tryz.prog 148 #[.float .f64 x, .int .i64 k] w fun e w' => e = .returned (.float .f64 d) ∧ w = w' := by
  have r56 := r56G
  have r55 := r55G
  have hz := nz_lt (by omega) hx
  have hg := ne_ge h
  have hl := ne_le (by omega) hx
  have hn := nm_bounds (r := x) (by omega)
  have hF := nz_field (x := x) (by omega)
  rw [if_neg (by omega)] at hF
  have hb := b_exp_j (z := nz x) (by omega)
  rw [hF] at hb
  have hf := b_frac (z := nz x) (by omega)
  rw [nz_mod (by omega)] at hf
  have ht : (FloatKind.f64.format.order x 0 == some Ordering.eq) = false := by
    rw [ord_eq hx (by decide)]; exact decide_eq_false (by omega)
  have hb' : bits BinOp.and IntKind.i64 ((nz x : Int) / 4503599627370496) 2047 = (ne x : Int) - 51 := by
    rw [hb]; omega
  have ho : bits BinOp.or IntKind.u64 ((nm x - 4503599627370496 : Nat) : Int) ((k + ((ne x : Int) - 51 - 1023) + 1023) * 4503599627370496) = (d : Int) := by
    rw [b_or_field (by omega) (by omega) (by omega), ld_hi (by omega) hk1 hv]
    exact congrArg (fun n : Nat => ((n * 4503599627370496 + (nm x - 4503599627370496) : Nat) : Int)) (by omega)
  have hm := fun w => run_float_arith (P := Tryz.prog) w .mul 22 .f64 4607182418800017408 d d (mul_one hd)
  have hnz : nz x = x := by unfold nz; rw [if_neg (by omega)]
  rw [hnz] at hb' hf
  clear hb hF hv hn hd hnz hz
  go_enter Tryz.func148, Tryz.ntmps148
  go_wp2_with (first | (go_at_call 56; refine (c_IsInfP _ hx _).mono ?_; rintro e w' ⟨rfl, rfl⟩) | (go_at_call 176; refine (c_IsNaNG _ hx _).mono ?_; rintro e w' ⟨rfl, rfl⟩) | (go_at_call 177; refine (c_normN _ h hx _).mono ?_; rintro e w' ⟨rfl, rfl⟩))
  go_ret
  exact ⟨rfl, rfl⟩
theorem c_mInf (w : World) :
    Calls Tryz.prog 44 #[.int .i64 1] w fun r w' => r = .returned (.float .f64 9218868437227405312) ∧ w = w' := by
  have r55 := r55G
  go_enter Tryz.func44, Tryz.ntmps44
  go_wp2
  go_ret
  exact ⟨rfl, rfl⟩
theorem c_mNaN (w : World) :
    Calls Tryz.prog 41 #[] w fun r w' => r = .returned (.float .f64 9221120237041090561) ∧ w = w' := by
  have r55 := r55G
  go_enter Tryz.func41, Tryz.ntmps41
  go_wp2
  go_ret
  exact ⟨rfl, rfl⟩
theorem c_ldexpI (x : Nat) (k : Int) (h : 4503599627370496 ≤ x) (hx : x < 9218868437227405312) (hk1 : 2097 < k + ne x) (hk2 : k ≤ 1000000) (w : World) :
    Calls Tryz.prog 148 #[.float .f64 x, .int .i64 k] w fun e w' => e = .returned (.float .f64 9218868437227405312) ∧ w = w' := by
  have r56 := r56G
  have r55 := r55G
  have hz := nz_lt (by omega) hx
  have hg := ne_ge h
  have hl := ne_le (by omega) hx
  have hF := nz_field (x := x) (by omega)
  rw [if_neg (by omega)] at hF
  have hb := b_exp_j (z := nz x) (by omega)
  rw [hF] at hb
  have hnz : nz x = x := by unfold nz; rw [if_neg (by omega)]
  rw [hnz] at hb
  have ht : (FloatKind.f64.format.order x 0 == some Ordering.eq) = false := by
    rw [ord_eq hx (by decide)]; exact decide_eq_false (by omega)
  have ht2 : (FloatKind.f64.format.order x 0 == some Ordering.lt) = false := by
    rw [ord_lt hx (by decide)]; exact decide_eq_false (by omega)
  have hb' : bits BinOp.and IntKind.i64 ((x : Int) / 4503599627370496) 2047 = (ne x : Int) - 51 := by
    rw [hb]; omega
  have g1 : ¬ k + ((ne x : Int) - 51 - 1023) < -1075 := by omega
  have g2 : 1023 < k + ((ne x : Int) - 51 - 1023) := by omega
  clear hb hF hnz hz
  generalize ne x = q at *
  go_enter Tryz.func148, Tryz.ntmps148
  go_wp2_with (first | (go_at_call 56; refine (c_IsInfP _ hx _).mono ?_; rintro e w' ⟨rfl, rfl⟩) | (go_at_call 176; refine (c_IsNaNG _ hx _).mono ?_; rintro e w' ⟨rfl, rfl⟩) | (go_at_call 177; refine (c_normN _ h hx _).mono ?_; rintro e w' ⟨rfl, rfl⟩) | (go_at_call 44; refine (c_mInf _).mono ?_; rintro e w' ⟨rfl, rfl⟩))
  go_ret
  exact ⟨rfl, rfl⟩
/-- Ldexp of a normal number, as an integer's multiple -/
theorem c_LdexpN (x d : Nat) (k : Int) (h : 4503599627370496 ≤ x) (hx : x < 9218868437227405312) (hd : d < 9218868437227405312) (hk1 : 52 ≤ k + ne x) (hk2 : k + ne x ≤ 2097)
    (hv : V d * 2 ^ 53 = nm x * 2 ^ (k + ne x + 1).toNat) (w : World) :
    Calls Tryz.prog 110 #[.float .f64 x, .int .i64 k] w fun e w' => e = .returned (.float .f64 d) ∧ w = w' := by
  have hC := Lib.hid (fun W => c_ldexpN x d k h hx hd hk1 hk2 hv W)
  clear hv
  go_enter Tryz.func110, Tryz.ntmps110
  go_wp2_with (go_at_call 148; refine (hC.out _).mono ?_; rintro e w' ⟨rfl, rfl⟩)
  go_ret
  exact ⟨rfl, rfl⟩
theorem c_LdexpI (x : Nat) (k : Int) (h : 4503599627370496 ≤ x) (hx : x < 9218868437227405312) (hk1 : 2097 < k + ne x) (hk2 : k ≤ 1000000) (w : World) :
    Calls Tryz.prog 110 #[.float .f64 x, .int .i64 k] w fun e w' => e = .returned (.float .f64 9218868437227405312) ∧ w = w' := by
  have hC := Lib.hid (fun W => c_ldexpI x k h hx hk1 hk2 W)
  go_enter Tryz.func110, Tryz.ntmps110
  go_wp2_with (go_at_call 148; refine (hC.out _).mono ?_; rintro e w' ⟨rfl, rfl⟩)
  go_ret
  exact ⟨rfl, rfl⟩
end Go.Proofs.YtbakbikilbaafaaGreatDoor
namespace Go.Proofs.YtbakbikilbaafaaGreatDoor
open Go.RowKit F64 Ieee
set_option linter.unusedVariables false
set_option maxHeartbeats 4000000
set_option maxRecDepth 100000

theorem nm_EK {E K : Nat} (h1 : 4503599627370496 ≤ K) (h2 : K < 9007199254740992) : nm (E * 4503599627370496 + K) = K ∧ ne (E * 4503599627370496 + K) = E + 52 := by
  have a1 : (E * 4503599627370496 + K) / 4503599627370496 = E + 1 := by omega
  have a2 : (E * 4503599627370496 + K) % 4503599627370496 = K - 4503599627370496 := by omega
  unfold nm ne
  rw [if_neg (by omega), if_neg (by omega)]
  unfold man ex
  constructor
  · rw [a2]; rw [if_neg (by omega)]; omega
  · simp only [a1]; first | omega | (split <;> omega)
theorem c_LdexpEK (E K : Nat) (k : Int) (h1 : 4503599627370496 ≤ K) (h2 : K < 9007199254740992) (h3 : 0 ≤ k + E) (h4 : k + E ≤ 2045) (hE : E ≤ 2045) (w : World) :
    Calls Tryz.prog 110 #[.float .f64 (E * 4503599627370496 + K), .int .i64 k] w fun e w' => e = .returned (.float .f64 ((k + E).toNat * 4503599627370496 + K)) ∧ w = w' := by
  obtain ⟨n1, n2⟩ := nm_EK (E := E) h1 h2
  refine c_LdexpN _ _ k (by omega) (by omega) (by omega) (by rw [n2]; omega) (by rw [n2]; omega) ?_ w
  rw [n1, n2, V_EK (by omega) (.inr h1), Nat.mul_assoc, ← Nat.pow_add]
  congr 2
  omega
theorem c_LdexpEKI (E K : Nat) (k : Int) (h1 : 4503599627370496 ≤ K) (h2 : K < 9007199254740992) (h3 : 2045 < k + E) (h4 : k ≤ 1000000) (hE : E ≤ 2045) (w : World) :
    Calls Tryz.prog 110 #[.float .f64 (E * 4503599627370496 + K), .int .i64 k] w fun e w' => e = .returned (.float .f64 9218868437227405312) ∧ w = w' := by
  obtain ⟨n1, n2⟩ := nm_EK (E := E) h1 h2
  exact c_LdexpI _ k (by omega) (by omega) (by rw [n2]; omega) h4 w
/-- the word of K * 2^(E - 1074), or infinity -/
def wEK (e : Int) (K : Nat) : Nat := if e.toNat * 4503599627370496 + K < 9218868437227405312 then e.toNat * 4503599627370496 + K else 9218868437227405312
theorem c_LdexpG (E K : Nat) (k : Int) (h1 : 4503599627370496 ≤ K) (h2 : K ≤ 9007199254740992) (h3 : 0 ≤ k + E) (h4 : k ≤ 1000000) (hE : E ≤ 2000) (w : World) :
    Calls Tryz.prog 110 #[.float .f64 (E * 4503599627370496 + K), .int .i64 k] w fun e w' => e = .returned (.float .f64 (wEK (k + E) K)) ∧ w = w' := by
  unfold wEK
  rcases Nat.eq_or_lt_of_le h2 with h | h
  · subst h
    have e1 : E * 4503599627370496 + 9007199254740992 = (E + 1) * 4503599627370496 + 4503599627370496 := by omega
    rw [e1]
    by_cases hb : k + E + 1 ≤ 2045
    · rw [if_pos (by omega)]
      have := c_LdexpEK (E + 1) 4503599627370496 k (by decide) (by decide) (by omega) (by omega) (by omega) w
      have t : (k + ((E + 1 : Nat) : Int)).toNat = (k + E).toNat + 1 := by omega
      rw [t] at this
      have t2 : ∀ n : Nat, (n + 1) * 4503599627370496 + 4503599627370496 = n * 4503599627370496 + 9007199254740992 := fun n => by omega
      rw [t2 (k + (E : Int)).toNat] at this
      exact this
    · rw [if_neg (by omega)]
      exact c_LdexpEKI (E + 1) 4503599627370496 k (by decide) (by decide) (by omega) h4 (by omega) w
  · by_cases hb : k + E ≤ 2045
    · rw [if_pos (by omega)]
      exact c_LdexpEK E K k h1 h h3 hb (by omega) w
    · rw [if_neg (by omega)]
      exact c_LdexpEKI E K k h1 h (by omega) h4 (by omega) w
/-- 64 bits rounded to 53, to the nearest, ties to even -/
def rnd (m : Nat) : Nat := m / 2048 + if 1024 < m % 2048 ∨ m % 2048 = 1024 ∧ m / 2048 % 2 = 1 then 1 else 0
theorem and2047 (m : Nat) (h : m < 18446744073709551616) : bits BinOp.and IntKind.u64 (m : Int) 2047 = ((m % 2048 : Nat) : Int) := by
  have := bits_and_u64_nat m 2047 (by omega) (by omega)
  have e : m &&& 2047 = m % 2048 := Nat.and_two_pow_sub_one_eq_mod m 11
  rw [e] at this
  exact this
theorem rnd_le {m : Nat} (h1 : 9223372036854775808 ≤ m) (h2 : m < 18446744073709551616) : 4503599627370496 ≤ rnd m ∧ rnd m ≤ 9007199254740992 := by
  unfold rnd
  split <;> omega
theorem float_EK {K : Nat} (h1 : 4503599627370496 ≤ K) (h2 : K ≤ 9007199254740992) : floatOfInt .f64 (K : Int) = 1074 * 4503599627370496 + K := by
  rcases Nat.eq_or_lt_of_le h2 with h | h
  · subst h; decide +kernel
  · obtain ⟨r, r0, r1, r2, r3⟩ := whole_word (by omega) h
    rw [r3]
    apply V_inj
    rw [r2, ← PL_eq, V_EK (by omega) (.inr h1)]
    rfl
theorem c_drounded (m : Nat) (h1 : 9223372036854775808 ≤ m) (h2 : m < 18446744073709551616) (w : World) :
    Calls Tryz.prog 111 #[.int .u64 (m : Int)] w fun e w' => e = .returned (.float .f64 (wEK 1085 (rnd m))) ∧ w = w' := by
  obtain ⟨k1, k2⟩ := rnd_le h1 h2
  have hL := Lib.hid (fun W => c_LdexpG 1074 (rnd m) 11 k1 k2 (by decide) (by decide) (by decide) W)
  have hcv := fun w => run_convert_int_float (P := Tryz.prog) (w := w) 102 22 .u64 .f64 (rnd m : Int) (by kernel_rfl) Tryz.underlying22
  rw [← float_EK k1 k2] at hL
  have hL : Hid (∀ W, Calls Tryz.prog 110 #[.float .f64 (floatOfInt .f64 (rnd m : Int)), .int .i64 11] W fun e w' => e = .returned (.float .f64 (wEK 1085 (rnd m))) ∧ W = w') := hL
  have hand := and2047 m h2
  have hand2 := and_u64_one (m / 2048) (by omega)
  have hsh : (m : Int) / 2048 = ((m / 2048 : Nat) : Int) := by omega
  have hrd : rnd m = m / 2048 + if 1024 < m % 2048 ∨ m % 2048 = 1024 ∧ m / 2048 % 2 = 1 then 1 else 0 := rfl
  generalize wEK 1085 (rnd m) = D at *
  have hxl : m / 2048 < 9007199254740992 := by omega
  generalize hx : m / 2048 = x at *
  generalize hl : m % 2048 = l at *
  clear hx hl h1 h2 k1 k2
  by_cases c1 : 1024 < l
  · rw [if_pos (.inl c1)] at hrd
    rw [hrd, Int.natCast_add] at hL hcv
    clear hrd
    go_enter Tryz.func111, Tryz.ntmps111
    go_wp2_with (go_at_call 110; refine (hL.out _).mono ?_; rintro e w' ⟨rfl, rfl⟩)
    go_ret
    exact ⟨rfl, rfl⟩
  · by_cases c2 : l = 1024
    · have hq : ((l : Int) == 1024) = true := by simp; omega
      have c3 : ¬ 1024 < l := c1
      by_cases c4 : x % 2 = 1
      · rw [if_pos (.inr ⟨c2, c4⟩)] at hrd
        rw [hrd, Int.natCast_add] at hL hcv
        rw [c4] at hand2
        clear hrd c2 c4
        go_enter Tryz.func111, Tryz.ntmps111
        go_wp2_with (go_at_call 110; refine (hL.out _).mono ?_; rintro e w' ⟨rfl, rfl⟩)
        go_ret
        exact ⟨rfl, rfl⟩
      · rw [if_neg (by omega)] at hrd
        rw [hrd, Nat.add_zero] at hL hcv
        rw [show x % 2 = 0 by omega] at hand2
        clear hrd c2 c4
        go_enter Tryz.func111, Tryz.ntmps111
        go_wp2_with (go_at_call 110; refine (hL.out _).mono ?_; rintro e w' ⟨rfl, rfl⟩)
        go_ret
        exact ⟨rfl, rfl⟩
    · have hq : ((l : Int) == 1024) = false := beq_eq_false_iff_ne.2 (by omega)
      rw [if_neg (by omega)] at hrd
      rw [hrd, Nat.add_zero] at hL hcv
      clear hrd c2
      go_enter Tryz.func111, Tryz.ntmps111
      go_wp2_with (go_at_call 110; refine (hL.out _).mono ?_; rintro e w' ⟨rfl, rfl⟩)
      go_ret
      exact ⟨rfl, rfl⟩
end Go.Proofs.YtbakbikilbaafaaGreatDoor
namespace Go.Proofs.YtbakbikilbaafaaGreatDoor
open Go.RowKit F64 Ieee
set_option linter.unusedVariables false
set_option maxHeartbeats 4000000
set_option maxRecDepth 100000

/-- what a digit is worth -/
def wth (c : Nat) : Nat := if 48 ≤ c ∧ c ≤ 57 then c - 48 else if 97 ≤ c ||| 32 ∧ c ||| 32 ≤ 122 then (c ||| 32) - 97 + 10 else 99
theorem c_dworth (c : Nat) (hc : c < 256) (w : World) : Calls Tryz.prog 46 #[.int .u8 (c : Int)] w fun r w' => r = .returned (.int .i64 (wth c : Int)) ∧ w = w' := by
  have h := or8 c hc
  have hx : c ||| 32 < 256 := Nat.or_lt_two_pow (n := 8) hc (by decide)
  unfold wth
  generalize c ||| 32 = x at *
  by_cases h1 : 48 ≤ c ∧ c ≤ 57
  · rw [if_pos h1]
    obtain ⟨a1, a2⟩ := h1
    have e1 : ((c - 48 : Nat) : Int) = (c : Int) - 48 := by omega
    rw [e1]
    clear e1
    go_enter Tryz.func46, Tryz.ntmps46
    go_wp2
    go_ret
    exact ⟨rfl, rfl⟩
  · rw [if_neg h1]
    by_cases h2 : 97 ≤ x ∧ x ≤ 122
    · rw [if_pos h2]
      obtain ⟨a1, a2⟩ := h2
      have e1 : ((x - 97 + 10 : Nat) : Int) = (x : Int) - 97 + 10 := by omega
      rw [e1]
      clear e1
      by_cases h3 : 48 ≤ c
      · have h4 : ¬ c ≤ 57 := fun h => h1 ⟨h3, h⟩
        clear h1
        go_enter Tryz.func46, Tryz.ntmps46
        go_wp2
        go_ret
        exact ⟨rfl, rfl⟩
      · clear h1
        go_enter Tryz.func46, Tryz.ntmps46
        go_wp2
        go_ret
        exact ⟨rfl, rfl⟩
    · rw [if_neg h2]
      by_cases h3 : 48 ≤ c
      · have h4 : ¬ c ≤ 57 := fun h => h1 ⟨h3, h⟩
        clear h1
        by_cases h5 : 97 ≤ x
        · have h6 : ¬ x ≤ 122 := fun h => h2 ⟨h5, h⟩
          clear h2
          go_enter Tryz.func46, Tryz.ntmps46
          go_wp2
          go_ret
          exact ⟨rfl, rfl⟩
        · clear h2
          go_enter Tryz.func46, Tryz.ntmps46
          go_wp2
          go_ret
          exact ⟨rfl, rfl⟩
      · clear h1
        by_cases h5 : 97 ≤ x
        · have h6 : ¬ x ≤ 122 := fun h => h2 ⟨h5, h⟩
          clear h2
          go_enter Tryz.func46, Tryz.ntmps46
          go_wp2
          go_ret
          exact ⟨rfl, rfl⟩
        · clear h2
          go_enter Tryz.func46, Tryz.ntmps46
          go_wp2
          go_ret
          exact ⟨rfl, rfl⟩
/-- a tester of digits to a base that lies in a cell -/
def DigF (b : Nat) : Value := .func (.func 74) #[] #[.pointer (some ⟨b, 0, none⟩)]
theorem c_ddigitsOf (n : Int) (w : World) : Calls Tryz.prog 39 #[.int .i64 n] w fun r w' => r = .returned (DigF w.heap.size) ∧ w'.cell? ⟨w.heap.size, 0, none⟩ = some (.int .i64 n) ∧ Below w.heap.size w w' := by
  have hc : (w.alloc (.cells #[.int .i64 n] 3)).cell? ⟨w.heap.size, 0, none⟩ = some (.int .i64 n) := by rw [cell_of_row _ _ _ _ _ _ (heap_alloc_new w _)]; rfl
  replace hc := Lib.hid hc
  go_enter Tryz.func39, Tryz.ntmps39
  go_wp2
  go_ret
  exact ⟨rfl, hc.out, (Below.refl _ w).alloc (Nat.le_refl _) _⟩
theorem c_isdig (b : Nat) (n : Int) (c : Nat) (hc : c < 256) (w : World) (h : w.cell? ⟨b, 0, none⟩ = some (.int .i64 n)) :
    Calls Tryz.prog 74 #[.int .u8 (c : Int), .pointer (some ⟨b, 0, none⟩)] w fun r w' => r = .returned (.bool (decide ((wth c : Int) < n))) ∧ Below w.heap.size w w' := by
  have hw := Lib.hid (fun W => c_dworth c hc W)
  generalize wth c = x at *
  go_enter Tryz.func74, Tryz.ntmps74
  go_wp2
  go_quiet ((go_at_call 46; exact Calls.quiet_of_same ((hw.out _).mono fun _ _ ⟨h1, h2⟩ => ⟨h1, h2.symm⟩)))
  go_wp2
  go_ret
  exact ⟨rfl, below_drewN (Below.refl _ _) _⟩
/-- how many digits to a base stand at a place -/
def runL (n : Nat) (l : List Nat) : Nat := (l.takeWhile fun c => decide (wth c < n)).length
theorem runL_le (n : Nat) (l : List Nat) : runL n l ≤ l.length := by
  unfold runL
  exact (List.takeWhile_sublist _).length_le
theorem runL_lt (n : Nat) (l : List Nat) : ∀ (i c : Nat), l[i]? = some c → i < runL n l → wth c < n := by
  unfold runL
  induction l with
  | nil => simp
  | cons x l ih =>
    intro i c hc hi
    rw [List.takeWhile_cons] at hi
    split at hi
    · rename_i hx
      cases i with
      | zero => simp at hc; subst hc; simpa using hx
      | succ i => exact ih i c (by simpa using hc) (by simpa using hi)
    · simp at hi
theorem runL_end (n : Nat) (l : List Nat) : ∀ c, l[runL n l]? = some c → ¬ wth c < n := by
  unfold runL
  induction l with
  | nil => simp
  | cons x l ih =>
    intro c hc
    rw [List.takeWhile_cons] at hc
    split at hc
    · rename_i hx
      exact ih c (by simpa using hc)
    · rename_i hx
      simp at hc
      subst hc
      simpa using hx
theorem c_drun (L : List Nat) (hL : ∀ c ∈ L, c < 256) (at_ n b : Nat) (hat : at_ ≤ L.length) (hl : L.length ≤ 10000000) (w : World) (h : w.cell? ⟨b, 0, none⟩ = some (.int .i64 (n : Int))) :
    Calls Tryz.prog 38 #[.string (u8sG L), .int .i64 (at_ : Int), DigF b] w fun r w' => r = .returned (.int .i64 (runL n (L.drop at_) : Int)) ∧ Below w.heap.size w w' := by
  have hsz : (u8sG L).size = L.length := uG_size L
  have hle := runL_le n (L.drop at_)
  have hlt := Lib.hid (runL_lt n (L.drop at_))
  have hen := Lib.hid (runL_end n (L.drop at_))
  rw [List.length_drop] at hle
  have hget := Lib.hid (fun j c (h1 : L[j]? = some c) (h2 : c < 256) h3 => uG_get L j c h1 h2 h3)
  have hdr : ∀ i, (L.drop at_)[i]? = L[at_ + i]? := fun i => by rw [List.getElem?_drop]
  replace hdr := Lib.hid hdr
  have hbl : b < w.heap.size := lt_ofC h
  have hI := Lib.hid (fun (c : Nat) (hc : c < 256) W (hb : Below w.heap.size w W) => c_isdig b n c hc W ((hb.cell (p := ⟨b, 0, none⟩) hbl).trans h))
  replace hL := Lib.hid hL
  generalize runL n (L.drop at_) = R at *
  generalize u8sG L = S at *
  unfold DigF
  have hszle : S.size ≤ 10000000 := by omega
  replace hsz := Lib.hid hsz
  clear h hbl
  go_enter Tryz.func38, Tryz.ntmps38
  go_wp2
  go_loopw [7] (fun v7 wr => ∃ k : Nat, k ≤ R ∧ v7 = .int .i64 (k : Int) ∧ Below w.heap.size w wr) (fun v7 _ => R - (intOf v7).toNat)
  case atStart => exact ⟨0, Nat.zero_le _, rfl, Below.refl _ _⟩
  case round =>
    obtain ⟨k, hk, rfl, hb⟩ := hrel
    by_cases hd : at_ + k < L.length
    · obtain ⟨c, hc⟩ : ∃ c, L[at_ + k]? = some c := ⟨L[at_ + k], List.getElem?_eq_getElem hd⟩
      have hc256 := hL.out c (List.mem_of_getElem? hc)
      have hjs : at_ + k < S.size := by have := hsz.out; omega
      have hg := hget.out (at_ + k) c hc hc256 hjs
      have hIc := Lib.hid (hI.out c hc256 wr hb)
      have hjs2 : (at_ : Int) + (k : Int) < (S.size : Int) := by omega
      have e1 : ((at_ : Int) + (k : Int)).toNat = at_ + k := by omega
      by_cases hkR : k < R
      · have hw := hlt.out k c (by rw [hdr.out]; exact hc) hkR
        have hdd : decide ((wth c : Int) < (n : Int)) = true := by simp; omega
        rw [hdd] at hIc
        clear hdd hw hc hc256 hI
        go_wp2_with fail
        refine hIc.out.mono ?_
        rintro e w1 ⟨rfl, hb1⟩
        have hb2 := hb.trans (hb1.mono hb.size)
        clear hb1
        go_wp2_with fail
        exact ⟨⟨k + 1, by omega, by go_num, hb2⟩, by simp [intOf]; omega⟩
      · obtain rfl : k = R := by omega
        have hw := hen.out c (by rw [hdr.out]; exact hc)
        have hdd : decide ((wth c : Int) < (n : Int)) = false := by simp; omega
        rw [hdd] at hIc
        clear hdd hw hc hc256 hI
        go_wp2_with fail
        refine hIc.out.mono ?_
        rintro e w1 ⟨rfl, hb1⟩
        have hb2 := hb.trans (hb1.mono hb.size)
        clear hb1
        go_wp2_with fail
        go_ret
        exact ⟨rfl, hb2⟩
    · obtain rfl : k = R := by omega
      have hjs2 : ¬ (at_ : Int) + (k : Int) < (S.size : Int) := by have := hsz.out; omega
      clear hI
      go_wp2_with fail
      go_ret
      exact ⟨rfl, hb⟩
end Go.Proofs.YtbakbikilbaafaaGreatDoor
namespace Go.Proofs.YtbakbikilbaafaaGreatDoor
open Go.RowKit F64 Ieee
set_option linter.unusedVariables false
set_option maxHeartbeats 4000000
set_option maxRecDepth 100000

def BT : List Nat := [32, 160, 5760, 8232, 8233, 8239, 8287, 12288, 65279]
/-- a blank -/
def blkN (u : Nat) : Bool := decide (9 ≤ u ∧ u ≤ 13) || decide (8192 ≤ u ∧ u ≤ 8202) || BT.contains u
theorem c_dBlank (u : Nat) (hu : u < 65536) (w : World) : Calls Tryz.prog 12 #[.int .u16 (u : Int)] w fun r w' => r = .returned (.bool (blkN u)) ∧ w = w' := by
  by_cases h1 : 9 ≤ u ∧ u ≤ 13
  · rw [show blkN u = true by unfold blkN; simp [h1]]
    obtain ⟨a1, a2⟩ := h1
    go_enter Tryz.func12, Tryz.ntmps12
    go_wp2
    go_ret
    exact ⟨rfl, rfl⟩
  by_cases h2 : 8192 ≤ u ∧ u ≤ 8202
  · rw [show blkN u = true by unfold blkN; simp [h2]]
    obtain ⟨a1, a2⟩ := h2
    have a3 : 13 < u := by omega
    have a4 : ¬ u ≤ 13 := by omega
    have a5 : 9 ≤ u := by omega
    have n0 : ((u : Int) == 32) = false := beq_eq_false_iff_ne.2 (by omega)
    have n1 : ((u : Int) == 160) = false := beq_eq_false_iff_ne.2 (by omega)
    have n2 : ((u : Int) == 5760) = false := beq_eq_false_iff_ne.2 (by omega)
    have n3 : ((u : Int) == 8232) = false := beq_eq_false_iff_ne.2 (by omega)
    have n4 : ((u : Int) == 8233) = false := beq_eq_false_iff_ne.2 (by omega)
    have n5 : ((u : Int) == 8239) = false := beq_eq_false_iff_ne.2 (by omega)
    have n6 : ((u : Int) == 8287) = false := beq_eq_false_iff_ne.2 (by omega)
    have n7 : ((u : Int) == 12288) = false := beq_eq_false_iff_ne.2 (by omega)
    have n8 : ((u : Int) == 65279) = false := beq_eq_false_iff_ne.2 (by omega)
    clear h1
    go_enter Tryz.func12, Tryz.ntmps12
    go_wp2
    go_ret
    exact ⟨rfl, rfl⟩
  by_cases e0 : u = 32
  · subst e0
    clear h1 h2
    rw [show blkN 32 = true by decide]
    go_enter Tryz.func12, Tryz.ntmps12
    go_wp2
    go_ret
    exact ⟨rfl, rfl⟩
  by_cases e1 : u = 160
  · subst e1
    clear h1 h2
    rw [show blkN 160 = true by decide]
    go_enter Tryz.func12, Tryz.ntmps12
    go_wp2
    go_ret
    exact ⟨rfl, rfl⟩
  by_cases e2 : u = 5760
  · subst e2
    clear h1 h2
    rw [show blkN 5760 = true by decide]
    go_enter Tryz.func12, Tryz.ntmps12
    go_wp2
    go_ret
    exact ⟨rfl, rfl⟩
  by_cases e3 : u = 8232
  · subst e3
    clear h1 h2
    rw [show blkN 8232 = true by decide]
    go_enter Tryz.func12, Tryz.ntmps12
    go_wp2
    go_ret
    exact ⟨rfl, rfl⟩
  by_cases e4 : u = 8233
  · subst e4
    clear h1 h2
    rw [show blkN 8233 = true by decide]
    go_enter Tryz.func12, Tryz.ntmps12
    go_wp2
    go_ret
    exact ⟨rfl, rfl⟩
  by_cases e5 : u = 8239
  · subst e5
    clear h1 h2
    rw [show blkN 8239 = true by decide]
    go_enter Tryz.func12, Tryz.ntmps12
    go_wp2
    go_ret
    exact ⟨rfl, rfl⟩
  by_cases e6 : u = 8287
  · subst e6
    clear h1 h2
    rw [show blkN 8287 = true by decide]
    go_enter Tryz.func12, Tryz.ntmps12
    go_wp2
    go_ret
    exact ⟨rfl, rfl⟩
  by_cases e7 : u = 12288
  · subst e7
    clear h1 h2
    rw [show blkN 12288 = true by decide]
    go_enter Tryz.func12, Tryz.ntmps12
    go_wp2
    go_ret
    exact ⟨rfl, rfl⟩
  by_cases e8 : u = 65279
  · subst e8
    clear h1 h2
    rw [show blkN 65279 = true by decide]
    go_enter Tryz.func12, Tryz.ntmps12
    go_wp2
    go_ret
    exact ⟨rfl, rfl⟩
  have hf : blkN u = false := by
    unfold blkN BT
    simp [h1, h2, e0, e1, e2, e3, e4, e5, e6, e7, e8]
  rw [hf]
  have n0 : ((u : Int) == 32) = false := beq_eq_false_iff_ne.2 (by omega)
  have n1 : ((u : Int) == 160) = false := beq_eq_false_iff_ne.2 (by omega)
  have n2 : ((u : Int) == 5760) = false := beq_eq_false_iff_ne.2 (by omega)
  have n3 : ((u : Int) == 8232) = false := beq_eq_false_iff_ne.2 (by omega)
  have n4 : ((u : Int) == 8233) = false := beq_eq_false_iff_ne.2 (by omega)
  have n5 : ((u : Int) == 8239) = false := beq_eq_false_iff_ne.2 (by omega)
  have n6 : ((u : Int) == 8287) = false := beq_eq_false_iff_ne.2 (by omega)
  have n7 : ((u : Int) == 12288) = false := beq_eq_false_iff_ne.2 (by omega)
  have n8 : ((u : Int) == 65279) = false := beq_eq_false_iff_ne.2 (by omega)
  have q1 : u < 9 ∨ 13 < u := by omega
  have q2 : u < 8192 ∨ 8202 < u := by omega
  clear h1 h2 hf e0 e1 e2 e3 e4 e5 e6 e7 e8
  rcases q1 with q1 | q1
  · have q3 : u < 8192 := by omega
    clear q2
    go_enter Tryz.func12, Tryz.ntmps12
    go_wp2
    go_ret
    exact ⟨rfl, rfl⟩
  · have q3 : 9 ≤ u := by omega
    have q4 : ¬ u ≤ 13 := by omega
    rcases q2 with q2 | q2
    · go_enter Tryz.func12, Tryz.ntmps12
      go_wp2
      go_ret
      exact ⟨rfl, rfl⟩
    · have q5 : 8192 ≤ u := by omega
      have q6 : ¬ u ≤ 8202 := by omega
      go_enter Tryz.func12, Tryz.ntmps12
      go_wp2
      go_ret
      exact ⟨rfl, rfl⟩
theorem c_RBlank (u : Nat) (hu : u < 65536) (w : World) : Calls Tryz.prog 13 #[.int .u16 (u : Int)] w fun r w' => r = .returned (.bool (blkN u)) ∧ Below w.heap.size w w' := by
  by_cases h1 : 9 ≤ u ∧ u ≤ 13
  · rw [show blkN u = true by unfold blkN; simp [h1]]
    obtain ⟨a1, a2⟩ := h1
    go_enter Tryz.func13, Tryz.ntmps13
    go_wp2
    go_ret
    exact ⟨rfl, Below.refl _ _⟩
  by_cases h2 : 8192 ≤ u ∧ u ≤ 8202
  · rw [show blkN u = true by unfold blkN; simp [h2]]
    obtain ⟨a1, a2⟩ := h2
    have a3 : 13 < u := by omega
    have a4 : ¬ u ≤ 13 := by omega
    have a5 : 9 ≤ u := by omega
    clear h1
    go_enter Tryz.func13, Tryz.ntmps13
    go_wp2
    go_ret
    exact ⟨rfl, Below.refl _ _⟩
  have hf : blkN u = BT.contains u := by unfold blkN; simp [h1, h2]
  rw [hf]
  have q1 : u < 9 ∨ 13 < u := by omega
  have q2 : u < 8192 ∨ 8202 < u := by omega
  clear h1 h2 hf
  have q5 : decide (9 ≤ (u : Int)) = true → decide ((u : Int) ≤ 13) = false := fun h => decide_eq_false (by have := of_decide_eq_true h; omega)
  have hct : ∀ k, k < 9 → BT.getD k 0 = u → BT.contains u = true := fun k hk h => by
    have hin : BT.getD k 0 ∈ BT := by
      rw [List.getD_eq_getElem?_getD, List.getElem?_eq_getElem (show k < BT.length from hk)]
      exact List.getElem_mem _
    rw [← h]; simpa using hin
  have hcf : (∀ i, i < 9 → BT.getD i 0 ≠ u) → BT.contains u = false := fun hne => by
    unfold BT at hne ⊢
    have m0 := hne 0 (by decide)
    have m1 := hne 1 (by decide)
    have m2 := hne 2 (by decide)
    have m3 := hne 3 (by decide)
    have m4 := hne 4 (by decide)
    have m5 := hne 5 (by decide)
    have m6 := hne 6 (by decide)
    have m7 := hne 7 (by decide)
    have m8 := hne 8 (by decide)
    simp at m0 m1 m2 m3 m4 m5 m6 m7 m8 ⊢
    omega
  generalize BT.contains u = cc at *
  replace hct := Lib.hid hct
  replace hcf := Lib.hid hcf
  rcases q1 with q1 | q1
  · have q3 : u < 8192 := by omega
    clear q2 q5
    have hc : ∀ k, k < 9 → (w.alloc (Obj.cells #[Value.int IntKind.u16 32, Value.int IntKind.u16 160, Value.int IntKind.u16 5760, Value.int IntKind.u16 8232, Value.int IntKind.u16 8233, Value.int IntKind.u16 8239, Value.int IntKind.u16 8287, Value.int IntKind.u16 12288, Value.int IntKind.u16 65279] 27)).cell? ⟨w.heap.size, k, none⟩ = some (.int .u16 (BT.getD k 0 : Int)) := fun k hk => by
      rw [cell_of_row _ _ _ _ _ _ (heap_alloc_new w _)]
      rcases k with _ | _ | _ | _ | _ | _ | _ | _ | _ | k
      all_goals first | rfl | omega
    have hbel : Below w.heap.size w (w.alloc (Obj.cells #[Value.int IntKind.u16 32, Value.int IntKind.u16 160, Value.int IntKind.u16 5760, Value.int IntKind.u16 8232, Value.int IntKind.u16 8233, Value.int IntKind.u16 8239, Value.int IntKind.u16 8287, Value.int IntKind.u16 12288, Value.int IntKind.u16 65279] 27)) := (Below.refl _ w).alloc (Nat.le_refl _) _
    replace hc := Lib.hid hc
    go_enter Tryz.func13, Tryz.ntmps13
    go_wp2
    generalize hW : w.alloc (Obj.cells #[Value.int IntKind.u16 32, Value.int IntKind.u16 160, Value.int IntKind.u16 5760, Value.int IntKind.u16 8232, Value.int IntKind.u16 8233, Value.int IntKind.u16 8239, Value.int IntKind.u16 8287, Value.int IntKind.u16 12288, Value.int IntKind.u16 65279] 27) = W1 at *
    clear hW
    go_loop [4, 21] (fun v4 v21 => ∃ k : Nat, k ≤ 9 ∧ v21 = .int .i64 (k : Int) ∧ ∀ i, i < k → BT.getD i 0 ≠ u) (fun _ v21 => 9 - (intOf v21).toNat)
    case atStart => exact ⟨0, by omega, rfl, fun i hi => by omega⟩
    case round =>
      obtain ⟨k, hk, rfl, hne⟩ := hrel
      by_cases hlt : k < 9
      · have hck := hc.out k hlt
        have hu1 : BT.getD k 0 = u ∨ BT.getD k 0 ≠ u := Classical.em _
        have hcon := Lib.hid (hct.out k hlt)
        have hnx : BT.getD k 0 ≠ u → ∀ i, i < k + 1 → BT.getD i 0 ≠ u := fun h i hi => by
          by_cases e : i = k
          · rw [e]; exact h
          · exact hne i (by omega)
        replace hnx := Lib.hid hnx
        replace hne := Lib.hid hne
        clear hne
        generalize hx : BT.getD k 0 = x at *
        replace hx := Lib.hid hx
        rcases hu1 with rfl | hu1
        · have hce := Lib.hid (hcon.out rfl)
          clear hcon
          go_wp2
          go_ret
          exact ⟨by rw [hce.out]; rfl, hbel⟩
        · have n1 : ((u : Int) == (x : Int)) = false := beq_eq_false_iff_ne.2 (by omega)
          clear hcon
          go_wp2
          exact ⟨⟨k + 1, by omega, by go_num, hnx.out hu1⟩, by simp [intOf]; omega⟩
      · obtain rfl : k = 9 := by omega
        have hcon := Lib.hid (hcf.out hne)
        clear hne hc
        go_wp2
        go_ret
        exact ⟨by rw [hcon.out]; rfl, hbel⟩
  · have q3 : 9 ≤ u := by omega
    have q4 : ¬ u ≤ 13 := by omega
    clear q5
    rcases q2 with q2 | q2
    · skip
      have hc : ∀ k, k < 9 → (w.alloc (Obj.cells #[Value.int IntKind.u16 32, Value.int IntKind.u16 160, Value.int IntKind.u16 5760, Value.int IntKind.u16 8232, Value.int IntKind.u16 8233, Value.int IntKind.u16 8239, Value.int IntKind.u16 8287, Value.int IntKind.u16 12288, Value.int IntKind.u16 65279] 27)).cell? ⟨w.heap.size, k, none⟩ = some (.int .u16 (BT.getD k 0 : Int)) := fun k hk => by
        rw [cell_of_row _ _ _ _ _ _ (heap_alloc_new w _)]
        rcases k with _ | _ | _ | _ | _ | _ | _ | _ | _ | k
        all_goals first | rfl | omega
      have hbel : Below w.heap.size w (w.alloc (Obj.cells #[Value.int IntKind.u16 32, Value.int IntKind.u16 160, Value.int IntKind.u16 5760, Value.int IntKind.u16 8232, Value.int IntKind.u16 8233, Value.int IntKind.u16 8239, Value.int IntKind.u16 8287, Value.int IntKind.u16 12288, Value.int IntKind.u16 65279] 27)) := (Below.refl _ w).alloc (Nat.le_refl _) _
      replace hc := Lib.hid hc
      go_enter Tryz.func13, Tryz.ntmps13
      go_wp2
      generalize hW : w.alloc (Obj.cells #[Value.int IntKind.u16 32, Value.int IntKind.u16 160, Value.int IntKind.u16 5760, Value.int IntKind.u16 8232, Value.int IntKind.u16 8233, Value.int IntKind.u16 8239, Value.int IntKind.u16 8287, Value.int IntKind.u16 12288, Value.int IntKind.u16 65279] 27) = W1 at *
      clear hW
      go_loop [4, 21] (fun v4 v21 => ∃ k : Nat, k ≤ 9 ∧ v21 = .int .i64 (k : Int) ∧ ∀ i, i < k → BT.getD i 0 ≠ u) (fun _ v21 => 9 - (intOf v21).toNat)
      case atStart => exact ⟨0, by omega, rfl, fun i hi => by omega⟩
      case round =>
        obtain ⟨k, hk, rfl, hne⟩ := hrel
        by_cases hlt : k < 9
        · have hck := hc.out k hlt
          have hu1 : BT.getD k 0 = u ∨ BT.getD k 0 ≠ u := Classical.em _
          have hcon := Lib.hid (hct.out k hlt)
          have hnx : BT.getD k 0 ≠ u → ∀ i, i < k + 1 → BT.getD i 0 ≠ u := fun h i hi => by
            by_cases e : i = k
            · rw [e]; exact h
            · exact hne i (by omega)
          replace hnx := Lib.hid hnx
          replace hne := Lib.hid hne
          clear hne
          generalize hx : BT.getD k 0 = x at *
          replace hx := Lib.hid hx
          rcases hu1 with rfl | hu1
          · have hce := Lib.hid (hcon.out rfl)
            clear hcon
            go_wp2
            go_ret
            exact ⟨by rw [hce.out]; rfl, hbel⟩
          · have n1 : ((u : Int) == (x : Int)) = false := beq_eq_false_iff_ne.2 (by omega)
            clear hcon
            go_wp2
            exact ⟨⟨k + 1, by omega, by go_num, hnx.out hu1⟩, by simp [intOf]; omega⟩
        · obtain rfl : k = 9 := by omega
          have hcon := Lib.hid (hcf.out hne)
          clear hne hc
          go_wp2
          go_ret
          exact ⟨by rw [hcon.out]; rfl, hbel⟩
    · have q6 : 8192 ≤ u := by omega
      have q7 : ¬ u ≤ 8202 := by omega
      have hc : ∀ k, k < 9 → (w.alloc (Obj.cells #[Value.int IntKind.u16 32, Value.int IntKind.u16 160, Value.int IntKind.u16 5760, Value.int IntKind.u16 8232, Value.int IntKind.u16 8233, Value.int IntKind.u16 8239, Value.int IntKind.u16 8287, Value.int IntKind.u16 12288, Value.int IntKind.u16 65279] 27)).cell? ⟨w.heap.size, k, none⟩ = some (.int .u16 (BT.getD k 0 : Int)) := fun k hk => by
        rw [cell_of_row _ _ _ _ _ _ (heap_alloc_new w _)]
        rcases k with _ | _ | _ | _ | _ | _ | _ | _ | _ | k
        all_goals first | rfl | omega
      have hbel : Below w.heap.size w (w.alloc (Obj.cells #[Value.int IntKind.u16 32, Value.int IntKind.u16 160, Value.int IntKind.u16 5760, Value.int IntKind.u16 8232, Value.int IntKind.u16 8233, Value.int IntKind.u16 8239, Value.int IntKind.u16 8287, Value.int IntKind.u16 12288, Value.int IntKind.u16 65279] 27)) := (Below.refl _ w).alloc (Nat.le_refl _) _
      replace hc := Lib.hid hc
      go_enter Tryz.func13, Tryz.ntmps13
      go_wp2
      generalize hW : w.alloc (Obj.cells #[Value.int IntKind.u16 32, Value.int IntKind.u16 160, Value.int IntKind.u16 5760, Value.int IntKind.u16 8232, Value.int IntKind.u16 8233, Value.int IntKind.u16 8239, Value.int IntKind.u16 8287, Value.int IntKind.u16 12288, Value.int IntKind.u16 65279] 27) = W1 at *
      clear hW
      go_loop [4, 21] (fun v4 v21 => ∃ k : Nat, k ≤ 9 ∧ v21 = .int .i64 (k : Int) ∧ ∀ i, i < k → BT.getD i 0 ≠ u) (fun _ v21 => 9 - (intOf v21).toNat)
      case atStart => exact ⟨0, by omega, rfl, fun i hi => by omega⟩
      case round =>
        obtain ⟨k, hk, rfl, hne⟩ := hrel
        by_cases hlt : k < 9
        · have hck := hc.out k hlt
          have hu1 : BT.getD k 0 = u ∨ BT.getD k 0 ≠ u := Classical.em _
          have hcon := Lib.hid (hct.out k hlt)
          have hnx : BT.getD k 0 ≠ u → ∀ i, i < k + 1 → BT.getD i 0 ≠ u := fun h i hi => by
            by_cases e : i = k
            · rw [e]; exact h
            · exact hne i (by omega)
          replace hnx := Lib.hid hnx
          replace hne := Lib.hid hne
          clear hne
          generalize hx : BT.getD k 0 = x at *
          replace hx := Lib.hid hx
          rcases hu1 with rfl | hu1
          · have hce := Lib.hid (hcon.out rfl)
            clear hcon
            go_wp2
            go_ret
            exact ⟨by rw [hce.out]; rfl, hbel⟩
          · have n1 : ((u : Int) == (x : Int)) = false := beq_eq_false_iff_ne.2 (by omega)
            clear hcon
            go_wp2
            exact ⟨⟨k + 1, by omega, by go_num, hnx.out hu1⟩, by simp [intOf]; omega⟩
        · obtain rfl : k = 9 := by omega
          have hcon := Lib.hid (hcf.out hne)
          clear hne hc
          go_wp2
          go_ret
          exact ⟨by rw [hcon.out]; rfl, hbel⟩
end Go.Proofs.YtbakbikilbaafaaGreatDoor
namespace Go.Proofs.YtbakbikilbaafaaGreatDoor
open Go.RowKit F64 Ieee
set_option linter.unusedVariables false
set_option maxHeartbeats 4000000
set_option maxRecDepth 100000

theorem c_UAt (s : ByteArray) (k : Nat) (hs : s.size ≤ 1099511627776) (hk : k < s.size / 2) (w : World) :
    Calls Tryz.prog 31 #[.string s, .int .i64 (k : Int)] w fun e w' => e = .returned (.tuple #[.int .u16 (unitAt s k : Int), .bool true]) ∧ ∃ nq, w' = w.drewN nq := by
  have h1 := Lib.hid (fun W => c_ULen s hs W)
  have h2 := Lib.hid (fun W => c_unit s k hs (by omega) W)
  generalize s.size / 2 = n at *
  generalize unitAt s k = x at *
  go_enter Tryz.func31, Tryz.ntmps31
  go_wp2_with (go_at_call 30; refine (h1.out _).mono ?_; rintro e w1 ⟨rfl, rfl⟩)
  refine (h2.out _).mono ?_
  rintro e w1 ⟨rfl, nq, rfl⟩
  go_wp2_with fail
  go_ret2
  exact ⟨rfl, _, rfl⟩
theorem c_UAt0 (s : ByteArray) (k : Nat) (hs : s.size ≤ 1099511627776) (hk : s.size / 2 ≤ k) (hk2 : k ≤ 1099511627776) (w : World) :
    Calls Tryz.prog 31 #[.string s, .int .i64 (k : Int)] w fun e w' => e = .returned (.tuple #[.int .u16 0, .bool false]) ∧ w' = w := by
  have h1 := Lib.hid (fun W => c_ULen s hs W)
  generalize s.size / 2 = n at *
  have hk3 : (n : Int) ≤ (k : Int) := by omega
  go_enter Tryz.func31, Tryz.ntmps31
  go_wp2_with (go_at_call 30; refine (h1.out _).mono ?_; rintro e w1 ⟨rfl, rfl⟩)
  go_ret2
  exact ⟨rfl, rfl⟩
theorem c_UCutG (s : ByteArray) (k t : Nat) (hs : s.size ≤ 1099511627776) (hk : k ≤ t) (ht : t ≤ s.size / 2) (w : World) :
    Calls Tryz.prog 32 #[.string s, .int .i64 (k : Int), .int .i64 (t : Int)] w fun e w' => e = .returned (.string (s.extract (2 * k) (2 * t))) ∧ w' = w := by
  have hL := Lib.hid (fun W => c_ULen s hs W)
  have hm2 : 2 * t ≤ s.size := by omega
  generalize hm : s.size / 2 = m at *
  clear hm
  rcases Nat.eq_or_lt_of_le hk with h0 | h0
  · subst h0
    have e : s.extract (2 * k) (2 * k) = ⟨#[]⟩ := by simp; rfl
    rw [e]
    clear e
    go_enter Tryz.func32, Tryz.ntmps32
    go_wp2_with (go_at_call 30; refine (hL.out _).mono ?_; rintro e w1 ⟨rfl, rfl⟩)
    go_ret
    exact ⟨rfl, rfl⟩
  · have e1 : (0 : Int) ≤ (t : Int) := by omega
    have e2 : ¬ (t : Int) ≤ (k : Int) := by omega
    have e3 : (2 : Int) * (t : Int) ≤ (s.size : Int) := by omega
    have a1 : min (k : Int) (m : Int) = (k : Int) := by omega
    have a2 : min (t : Int) (m : Int) = (t : Int) := by omega
    have e4 : (2 * (t : Int)).toNat = 2 * t := by omega
    have e5 : (2 * (k : Int)).toNat = 2 * k := by omega
    go_enter Tryz.func32, Tryz.ntmps32
    go_wp2_with (go_at_call 30; refine (hL.out _).mono ?_; rintro e w1 ⟨rfl, rfl⟩)
    go_ret
    exact ⟨rfl, rfl⟩
/-- where the blanks ahead end -/
structure FrA (p : Nat → Bool) (n k : Nat) : Prop where
  le : k ≤ n
  lt : ∀ i, i < k → p i = true
  nd : k < n → p k = false
theorem FrA.ex (p : Nat → Bool) (n : Nat) : ∃ k, FrA p n k := by
  induction n with
  | zero => exact ⟨0, Nat.le_refl _, fun i hi => by omega, fun h => by omega⟩
  | succ n ih =>
    obtain ⟨k, h1, h2, h3⟩ := ih
    rcases Nat.eq_or_lt_of_le h1 with h | h
    · subst h
      cases hp : p k
      · exact ⟨k, by omega, h2, fun _ => hp⟩
      · exact ⟨k + 1, by omega, fun i hi => by
          rcases Nat.eq_or_lt_of_le (Nat.le_of_lt_succ hi) with h | h
          · rw [h]; exact hp
          · exact h2 i h, fun h => by omega⟩
    · exact ⟨k, by omega, h2, fun _ => h3 h⟩
/-- where the blanks behind begin -/
structure BkA (p : Nat → Bool) (k n t : Nat) : Prop where
  ge : k ≤ t
  le : t ≤ n
  lt : ∀ i, t ≤ i → i < n → p i = true
  nd : k < t → p (t - 1) = false
theorem BkA.ex (p : Nat → Bool) (k n : Nat) (h : k ≤ n) : ∃ t, BkA p k n t := by
  induction n with
  | zero => exact ⟨0, h, Nat.le_refl _, fun i _ hi => by omega, fun h => by omega⟩
  | succ n ih =>
    rcases Nat.eq_or_lt_of_le h with e | e
    · exact ⟨n + 1, h, Nat.le_refl _, fun i a b => by omega, fun h => by omega⟩
    · cases hp : p n
      · exact ⟨n + 1, h, Nat.le_refl _, fun i a b => by omega, fun _ => hp⟩
      · obtain ⟨t, h1, h2, h3, h4⟩ := ih (by omega)
        exact ⟨t, h1, by omega, fun i a b => by
          rcases Nat.eq_or_lt_of_le (Nat.le_of_lt_succ b) with h | h
          · rw [h]; exact hp
          · exact h3 i a h, h4⟩
def blkS (s : ByteArray) (i : Nat) : Bool := blkN (unitAt s i)
theorem unitAt_lt (s : ByteArray) (k : Nat) : unitAt s k < 65536 := by
  unfold unitAt
  have h : ∀ i, ub s i < 256 := fun i => by unfold ub; exact UInt8.toNat_lt _
  have h1 := h (2 * k)
  have h2 := h (2 * k + 1)
  omega
theorem c_dfront (s : ByteArray) (k : Nat) (hs : s.size ≤ 1099511627776) (hF : FrA (blkS s) (s.size / 2) k) (w : World) :
    Calls Tryz.prog 29 #[.string s] w fun e w' => e = .returned (.int .i64 (k : Int)) ∧ ∃ nq, w' = w.drewN nq := by
  obtain ⟨h1, h2, h3⟩ := hF
  have hA := Lib.hid (fun j W hj => c_UAt s j hs hj W)
  have hA0 := Lib.hid (fun j W hj h2 => c_UAt0 s j hs hj h2 W)
  have hB := Lib.hid (fun j W => c_dBlank (unitAt s j) (unitAt_lt s j) W)
  have hN : s.size / 2 ≤ 549755813888 := by omega
  unfold blkS at h2 h3
  generalize s.size / 2 = n at *
  replace h2 := Lib.hid h2
  replace h3 := Lib.hid h3
  go_enter Tryz.func29, Tryz.ntmps29
  rcases Nat.eq_zero_or_pos n with hz | hz
  · subst hz
    obtain rfl : k = 0 := by omega
    have hA00 := Lib.hid (fun W => hA0.out 0 W (Nat.le_refl _) (by omega))
    go_wp2_with (go_at_call 31; refine (hA00.out _).mono ?_; rintro e w1 ⟨rfl, rfl⟩)
    go_loop [3, 4, 5] (fun v3 v4 v5 => v3 = .int .i64 0 ∧ v4 = .int .u16 0 ∧ v5 = .bool false) (fun _ _ _ => 0)
    case atStart => exact ⟨rfl, rfl, rfl⟩
    case round =>
      obtain ⟨rfl, rfl, rfl⟩ := hrel
      go_wp2
      go_ret
      exact ⟨rfl, 0, rfl⟩
  · have hAz := Lib.hid (fun W => hA.out 0 W hz)
    go_wp2_with (go_at_call 31; refine (hAz.out _).mono ?_; rintro e w1 ⟨rfl, n1, rfl⟩)
    go_loopw [3, 4, 5] (fun v3 v4 v5 wr => ∃ j : Nat, j ≤ k ∧ v3 = .int .i64 (j : Int) ∧ (j < n ∧ v4 = .int .u16 (unitAt s j : Int) ∧ v5 = .bool true ∨ ¬ j < n ∧ v4 = .int .u16 0 ∧ v5 = .bool false) ∧ ∃ q, wr = w.drewN q) (fun v3 _ _ _ => k - (intOf v3).toNat)
    case atStart => exact ⟨0, Nat.zero_le _, rfl, .inl ⟨hz, rfl, rfl⟩, _, rfl⟩
    case round =>
      obtain ⟨j, hj, rfl, h, q, rfl⟩ := hrel
      rcases h with ⟨hjn, rfl, rfl⟩ | ⟨hjn, rfl, rfl⟩
      · have hBj := Lib.hid (fun W => hB.out j W)
        rcases Nat.eq_or_lt_of_le hj with e | e
        · subst e
          have hf := h3.out hjn
          rw [hf] at hBj
          clear hf
          generalize unitAt s j = x at *
          go_wp2_with fail
          refine (hBj.out _).mono ?_
          rintro e w1 ⟨rfl, rfl⟩
          go_wp2_with fail
          go_ret
          exact ⟨rfl, _, rfl⟩
        · have hf := h2.out j e
          rw [hf] at hBj
          clear hf
          generalize unitAt s j = x at *
          rcases Nat.lt_or_ge (j + 1) n with hn1 | hn1
          · have hAj := Lib.hid (fun W => hA.out (j + 1) W hn1)
            generalize hx1 : unitAt s (j + 1) = x1 at *
            replace hx1 := Lib.hid hx1
            have hAj : Hid (∀ W, Calls Tryz.prog 31 #[.string s, .int .i64 ((j : Int) + 1)] W fun e w' => e = .returned (.tuple #[.int .u16 (x1 : Int), .bool true]) ∧ ∃ nq, w' = W.drewN nq) := hAj
            go_wp2_with fail
            refine (hBj.out _).mono ?_
            rintro e1 w1 ⟨rfl, rfl⟩
            go_wp2_with fail
            refine (hAj.out _).mono ?_
            rintro e1 w1 ⟨rfl, q1, rfl⟩
            go_wp2_with fail
            exact ⟨⟨j + 1, by omega, by go_num, .inl ⟨hn1, by rw [hx1.out], rfl⟩, _, rfl⟩, by simp [intOf]; omega⟩
          · have hAj := Lib.hid (fun W => hA0.out (j + 1) W hn1 (by omega))
            have hAj : Hid (∀ W, Calls Tryz.prog 31 #[.string s, .int .i64 ((j : Int) + 1)] W fun e w' => e = .returned (.tuple #[.int .u16 0, .bool false]) ∧ w' = W) := hAj
            go_wp2_with fail
            refine (hBj.out _).mono ?_
            rintro e1 w1 ⟨rfl, rfl⟩
            go_wp2_with fail
            refine (hAj.out _).mono ?_
            rintro e1 w1 ⟨rfl, rfl⟩
            go_wp2_with fail
            exact ⟨⟨j + 1, by omega, by go_num, .inr ⟨by omega, rfl, rfl⟩, _, rfl⟩, by simp [intOf]; omega⟩
      · obtain rfl : j = k := by omega
        go_wp2_with fail
        go_ret
        exact ⟨rfl, _, rfl⟩
theorem c_dTrim (s : ByteArray) (k t : Nat) (hs : s.size ≤ 1099511627776) (hF : FrA (blkS s) (s.size / 2) k) (hT : BkA (blkS s) k (s.size / 2) t) (w : World) :
    Calls Tryz.prog 14 #[.string s] w fun e w' => e = .returned (.string (s.extract (2 * k) (2 * t))) ∧ ∃ nq, w' = w.drewN nq := by
  have hFr := Lib.hid (fun W => c_dfront s k hs hF W)
  have hLn := Lib.hid (fun W => c_ULen s hs W)
  obtain ⟨h1, h2, h3, h4⟩ := hT
  have hCt := Lib.hid (fun W => c_UCutG s k t hs h1 h2 W)
  have hA := Lib.hid (fun j W hj => c_UAt s j hs hj W)
  have hB := Lib.hid (fun j W => c_dBlank (unitAt s j) (unitAt_lt s j) W)
  have hN : s.size / 2 ≤ 549755813888 := by omega
  clear hF
  unfold blkS at h3 h4
  generalize s.extract (2 * k) (2 * t) = R at *
  generalize s.size / 2 = n at *
  replace h3 := Lib.hid h3
  replace h4 := Lib.hid h4
  go_enter Tryz.func14, Tryz.ntmps14
  go_wp2_with fail
  refine (hFr.out _).mono ?_
  rintro e w1 ⟨rfl, n1, rfl⟩
  go_wp2_with (go_at_call 30; refine (hLn.out _).mono ?_; rintro e w1 ⟨rfl, rfl⟩)
  go_loopw [4, 5, 6] (fun v4 v5 v6 wr => ∃ j : Nat, t ≤ j ∧ j ≤ n ∧ v4 = .int .i64 (j : Int) ∧ ∃ q, wr = w.drewN q) (fun v4 _ _ _ => (intOf v4).toNat)
  case atStart => exact ⟨n, h2, Nat.le_refl _, rfl, _, rfl⟩
  case round =>
    obtain ⟨j, htj, hjn, rfl, q, rfl⟩ := hrel
    rcases Nat.eq_or_lt_of_le htj with e | e
    · subst e
      rcases Nat.eq_or_lt_of_le h1 with e2 | e2
      · subst e2
        go_wp2_with fail
        refine (hCt.out _).mono ?_
        rintro e w1 ⟨rfl, rfl⟩
        go_wp2_with fail
        go_ret
        exact ⟨rfl, _, rfl⟩
      · have hf := h4.out e2
        have hBj := Lib.hid (fun W => hB.out (t - 1) W)
        rw [hf] at hBj
        have hAj := Lib.hid (fun W => hA.out (t - 1) W (by omega))
        rw [show ((t - 1 : Nat) : Int) = (t : Int) - 1 by omega] at hAj
        clear hf
        generalize unitAt s (t - 1) = x at *
        have e3 : ¬ t ≤ k := by omega
        go_wp2_with fail
        refine (hAj.out _).mono ?_
        rintro e1 w1 ⟨rfl, q1, rfl⟩
        go_wp2_with fail
        refine (hBj.out _).mono ?_
        rintro e1 w1 ⟨rfl, rfl⟩
        go_wp2_with fail
        refine (hCt.out _).mono ?_
        rintro e1 w1 ⟨rfl, rfl⟩
        go_wp2_with fail
        go_ret
        exact ⟨rfl, _, rfl⟩
    · have hf := h3.out (j - 1) (by omega) (by omega)
      have hBj := Lib.hid (fun W => hB.out (j - 1) W)
      rw [hf] at hBj
      have hAj := Lib.hid (fun W => hA.out (j - 1) W (by omega))
      have e9 : ((j - 1 : Nat) : Int) = (j : Int) - 1 := by omega
      rw [e9] at hAj
      clear hf e9
      generalize unitAt s (j - 1) = x at *
      have e2 : k < j := by omega
      have e3 : ¬ j ≤ k := by omega
      go_wp2_with fail
      refine (hAj.out _).mono ?_
      rintro e1 w1 ⟨rfl, q1, rfl⟩
      go_wp2_with fail
      refine (hBj.out _).mono ?_
      rintro e1 w1 ⟨rfl, rfl⟩
      go_wp2_with fail
      exact ⟨⟨j - 1, by omega, by omega, by rw [show ((j - 1 : Nat) : Int) = (j : Int) - 1 by omega], _, rfl⟩, by simp [intOf]; omega⟩
end Go.Proofs.YtbakbikilbaafaaGreatDoor
namespace Go.Proofs.YtbakbikilbaafaaGreatDoor
open Go.RowKit F64 Ieee
set_option linter.unusedVariables false
set_option maxHeartbeats 4000000
set_option maxRecDepth 100000

/-- a sign taken off -/
def sgnL : List Nat → Nat × List Nat
  | [] => (4607182418800017408, [])
  | c :: M => if c = 45 then (13830554455654793216, M) else if c = 43 then (4607182418800017408, M) else (4607182418800017408, c :: M)
theorem trimP_43 (c : Nat) (M : List Nat) (hc : c < 256) : (⟨(Lib.trimPrefix (u8sG (c :: M)).data.toList (⟨#[43]⟩ : ByteArray).data.toList).toArray⟩ : ByteArray) = if c = 43 then u8sG M else u8sG (c :: M) := by
  rw [uG_data]
  have e1 : (⟨#[43]⟩ : ByteArray).data.toList = [43] := rfl
  rw [e1]
  unfold Lib.trimPrefix Lib.hasPrefix
  by_cases h : c = 43
  · subst h
    rw [if_pos rfl]
    simp [u8sG]
  · rw [if_neg h]
    have hn : ¬ UInt8.ofNat c = 43 := fun e => h (by
      have := congrArg UInt8.toNat e
      simp at this
      omega)
    have hn2 : ¬ (43 : UInt8) = UInt8.ofNat c := fun e => hn e.symm
    simp [u8sG, List.isPrefixOf, hn2]
theorem c_dsigned (L : List Nat) (hL : ∀ c ∈ L, c < 256) (hl : L.length ≤ 10000000) (w : World) :
    Calls Tryz.prog 42 #[.string (u8sG L)] w fun r w' => r = .returned (.tuple #[.float .f64 (sgnL L).1, .string (u8sG (sgnL L).2)]) ∧ ∃ n, w' = w.drewN n := by
  cases L with
  | nil =>
    have hT := Lib.hid (fun W => s_TrimPrefix (u8sG []) ⟨#[43]⟩ W)
    rw [show (⟨(Lib.trimPrefix (u8sG []).data.toList (⟨#[43]⟩ : ByteArray).data.toList).toArray⟩ : ByteArray) = u8sG [] from rfl] at hT
    unfold sgnL
    clear hL hl
    have e0 : u8sG [] = ⟨#[]⟩ := rfl
    rw [e0] at hT ⊢
    go_enter Tryz.func42, Tryz.ntmps42
    go_wp2_with (go_at_call 78; refine (hT.out _).mono ?_; rintro e w1 ⟨rfl, rfl⟩)
    go_ret2
    exact ⟨rfl, 0, rfl⟩
  | cons c M =>
    have hc := hL c (by simp)
    have hT := Lib.hid (fun W => s_TrimPrefix (u8sG (c :: M)) ⟨#[43]⟩ W)
    rw [trimP_43 c M hc] at hT
    have hsz : (u8sG (c :: M)).size ≤ 10000000 := by rw [uG_size]; exact hl
    have hs0 : 0 < (u8sG (c :: M)).size := by rw [uG_size]; simp
    have hg := uG_get (c :: M) 0 c rfl hc hs0
    have hex : (u8sG (c :: M)).extract 1 (u8sG (c :: M)).size = u8sG M := by
      have := uG_extract [c] M (u8sG (c :: M)).size 1 (by rw [uG_size]; rfl) rfl
      exact this
    have hem : (u8sG (c :: M)).toList.isEmpty = false := by rw [ByteArray.toList_eq, uG_data]; rfl
    clear hL hl
    have hs0I : (0 : Int) < ((u8sG (c :: M)).size : Int) := by omega
    have hs1I : (1 : Int) ≤ ((u8sG (c :: M)).size : Int) := by omega
    have hs1 : 1 ≤ (u8sG (c :: M)).size := by omega
    rw [show sgnL (c :: M) = if c = 45 then (13830554455654793216, M) else if c = 43 then (4607182418800017408, M) else (4607182418800017408, c :: M) from rfl]
    by_cases h45 : c = 45
    · rw [if_pos h45]
      dsimp only
      subst h45
      clear hT
      generalize u8sG (45 :: M) = S at *
      generalize u8sG M = T at *
      go_enter Tryz.func42, Tryz.ntmps42
      go_wp2
      go_quiet (fail)
      go_wp2
      go_ret2
      exact ⟨rfl, _, rfl⟩
    · have n1 : ((c : Int) == 45) = false := beq_eq_false_iff_ne.2 (by omega)
      rw [if_neg h45]
      clear hex
      by_cases h43 : c = 43
      · subst h43
        rw [if_pos rfl] at hT ⊢
        dsimp only
        generalize u8sG (43 :: M) = S at *
        generalize u8sG M = T at *
        go_enter Tryz.func42, Tryz.ntmps42
        go_wp2_with (go_at_call 78; refine (hT.out _).mono ?_; rintro e w1 ⟨rfl, rfl⟩)
        go_ret2
        exact ⟨rfl, 0, rfl⟩
      · rw [if_neg h43] at hT ⊢
        dsimp only
        clear h45 h43
        generalize u8sG (c :: M) = S at *
        go_enter Tryz.func42, Tryz.ntmps42
        go_wp2_with (go_at_call 78; refine (hT.out _).mono ?_; rintro e w1 ⟨rfl, rfl⟩)
        go_ret2
        exact ⟨rfl, 0, rfl⟩
/-- the base that a text's beginning tells -/
def preL (L : List Nat) : Nat := if L.getD 0 0 = 48 ∧ 2 ≤ L.length then (if L.getD 1 0 ||| 32 = 120 then 16 else if L.getD 1 0 ||| 32 = 111 then 8 else if L.getD 1 0 ||| 32 = 98 then 2 else 0) else 0
theorem infoArr3 : (Tryz.prog.info? 97).map (·.size) = some 3 := by kernel_rfl
theorem c_dbases (w : World) : Calls Tryz.prog 73 #[] w fun r w' => r = .returned (.agg #[.int .i64 16, .int .i64 8, .int .i64 2]) ∧ Below w.heap.size w w' := by
  go_enter Tryz.func73, Tryz.ntmps73
  go_wp2
  refine bodyPost_ret (results_cell_row rfl _ _ w.heap.size 97 #[.int .i64 16, .int .i64 8, .int .i64 2] (0, 0) _ rfl (heap_alloc_new w _) Tryz.underlying97 rfl infoArr3) rfl ?_
  exact ⟨rfl, (Below.refl _ w).alloc (Nat.le_refl _) _⟩
theorem ix3_0 (W : World) : (Instr.index 97 (.agg #[.int .i64 16, .int .i64 8, .int .i64 2]) (.int .i64 0)).run Tryz.prog W = .ok (.int .i64 16) W := by kernel_rfl
theorem ix3_1 (W : World) : (Instr.index 97 (.agg #[.int .i64 16, .int .i64 8, .int .i64 2]) (.int .i64 1)).run Tryz.prog W = .ok (.int .i64 8) W := by kernel_rfl
theorem ix3_2 (W : World) : (Instr.index 97 (.agg #[.int .i64 16, .int .i64 8, .int .i64 2]) (.int .i64 2)).run Tryz.prog W = .ok (.int .i64 2) W := by kernel_rfl
theorem xob (c : Nat) (hc : c < 256) : Lib.indexByte (⟨#[120, 111, 98]⟩ : ByteArray).data.toList (c : Int).toNat.toUInt8 = if c = 120 then 0 else if c = 111 then 1 else if c = 98 then 2 else -1 := by
  have all : ∀ c : Fin 256, Lib.indexByte (⟨#[120, 111, 98]⟩ : ByteArray).data.toList ((c.val : Nat) : Int).toNat.toUInt8 = if c.val = 120 then 0 else if c.val = 111 then 1 else if c.val = 98 then 2 else -1 := by decide +kernel
  exact all ⟨c, hc⟩
theorem or32_ge (c : Nat) (hc : c < 256) (h : c ||| 32 = 120 ∨ c ||| 32 = 111 ∨ c ||| 32 = 98) : 65 ≤ c := by
  have all : ∀ c : Fin 256, (c.val ||| 32 = 120 ∨ c.val ||| 32 = 111 ∨ c.val ||| 32 = 98) → 65 ≤ c.val := by decide +kernel
  exact all ⟨c, hc⟩ h
theorem c_dprefix (L : List Nat) (hL : ∀ c ∈ L, c < 256) (hl : L.length ≤ 10000000) (w : World) :
    Calls Tryz.prog 37 #[.string (u8sG L)] w fun r w' => r = .returned (.int .i64 (preL L : Int)) ∧ Below w.heap.size w w' := by
  have hsz : (u8sG L).size = L.length := uG_size L
  by_cases h2 : 2 ≤ L.length
  · obtain ⟨a, b, M, rfl⟩ : ∃ a b M, L = a :: b :: M := by
      cases L with
      | nil => simp at h2
      | cons a L => cases L with
        | nil => simp at h2
        | cons b M => exact ⟨a, b, M, rfl⟩
    have ha := hL a (by simp)
    have hb := hL b (by simp)
    have hs2 : 2 ≤ (u8sG (a :: b :: M)).size := by omega
    have hs0N : 0 < (u8sG (a :: b :: M)).size := by omega
    have hs1N : 1 < (u8sG (a :: b :: M)).size := by omega
    have hg0 := uG_get (a :: b :: M) 0 a rfl ha hs0N
    have hg1 := uG_get (a :: b :: M) 1 b rfl hb hs1N
    have hs2' : (1 : Int) < ((u8sG (a :: b :: M)).size : Int) := by omega
    have hs0' : (0 : Int) < ((u8sG (a :: b :: M)).size : Int) := by omega
    have hs3 : ¬ ((u8sG (a :: b :: M)).size : Int) < 2 := by omega
    have hsl : (u8sG (a :: b :: M)).size ≤ 10000000 := by omega
    have e : preL (a :: b :: M) = if a = 48 then (if b ||| 32 = 120 then 16 else if b ||| 32 = 111 then 8 else if b ||| 32 = 98 then 2 else 0) else 0 := by unfold preL; simp
    rw [e]
    clear e hsz hL hl h2
    generalize u8sG (a :: b :: M) = S at *
    by_cases h48 : a = 48
    · rw [if_pos h48]
      subst h48
      have hor := or8 b hb
      have hob : b ||| 32 < 256 := Nat.or_lt_two_pow (n := 8) hb (by decide)
      have h65 := or32_ge b hb
      have hI := Lib.hid (fun W => s_IndexByte ⟨#[120, 111, 98]⟩ ((b ||| 32 : Nat) : Int) W)
      rw [xob _ hob] at hI
      have hBs := Lib.hid (fun W => c_dbases W)
      have i0 := ix3_0
      have i1 := ix3_1
      have i2 := ix3_2
      generalize b ||| 32 = o at *
      by_cases e1 : o = 120
      · rw [if_pos e1] at hI ⊢
        have h65 := h65 (.inl e1)
        clear e1
        go_enter Tryz.func37, Tryz.ntmps37
        go_wp2_with (go_at_call 72; refine (hI.out _).mono ?_; rintro e w1 ⟨rfl, rfl⟩)
        refine (hBs.out _).mono ?_
        rintro e w1 ⟨rfl, hb1⟩
        go_wp2
        go_ret
        exact ⟨rfl, hb1⟩
      · rw [if_neg e1] at hI ⊢
        by_cases e2 : o = 111
        · rw [if_pos e2] at hI ⊢
          have h65 := h65 (.inr (.inl e2))
          clear e1 e2
          go_enter Tryz.func37, Tryz.ntmps37
          go_wp2_with (go_at_call 72; refine (hI.out _).mono ?_; rintro e w1 ⟨rfl, rfl⟩)
          refine (hBs.out _).mono ?_
          rintro e w1 ⟨rfl, hb1⟩
          go_wp2
          go_ret
          exact ⟨rfl, hb1⟩
        · rw [if_neg e2] at hI ⊢
          by_cases e3 : o = 98
          · rw [if_pos e3] at hI ⊢
            have h65 := h65 (.inr (.inr e3))
            clear e1 e2 e3
            go_enter Tryz.func37, Tryz.ntmps37
            go_wp2_with (go_at_call 72; refine (hI.out _).mono ?_; rintro e w1 ⟨rfl, rfl⟩)
            refine (hBs.out _).mono ?_
            rintro e w1 ⟨rfl, hb1⟩
            go_wp2
            go_ret
            exact ⟨rfl, hb1⟩
          · rw [if_neg e3] at hI ⊢
            clear e1 e2 e3 h65
            go_enter Tryz.func37, Tryz.ntmps37
            go_wp2_with (go_at_call 72; refine (hI.out _).mono ?_; rintro e w1 ⟨rfl, rfl⟩)
            go_ret
            exact ⟨rfl, Below.refl _ _⟩
    · rw [if_neg h48]
      have n1 : ((a : Int) != 48) = true := by simp; omega
      clear h48
      go_enter Tryz.func37, Tryz.ntmps37
      go_wp2
      go_ret
      exact ⟨rfl, Below.refl _ _⟩
  · have e : preL L = 0 := by unfold preL; rw [if_neg (by omega)]
    rw [e]
    have hs3 : ((u8sG L).size : Int) < 2 := by omega
    clear hsz h2 hl hL e
    generalize u8sG L = S at *
    go_enter Tryz.func37, Tryz.ntmps37
    go_wp2
    go_ret
    exact ⟨rfl, Below.refl _ _⟩
end Go.Proofs.YtbakbikilbaafaaGreatDoor
namespace Go.Proofs.YtbakbikilbaafaaGreatDoor
open Go.RowKit F64 Ieee
set_option linter.unusedVariables false
set_option maxHeartbeats 4000000
set_option maxRecDepth 100000

theorem r_Add64 (x y : Nat) (w : World) : (callFunc 108 #[.int .u64 (x : Int), .int .u64 (y : Int), .int .u64 0]).run Tryz.prog w = .ok (.value (.tuple #[.int .u64 (((x + y) % 18446744073709551616 : Nat) : Int), .int .u64 (((x + y) / 18446744073709551616 : Nat) : Int)])) w := by kernel_rfl
def B64 : Nat := 18446744073709551616
/-- words times a base plus a carry, and the carry out -/
def mulA (base : Nat) : List Nat → Nat → List Nat × Nat
  | [], c => ([], c)
  | x :: xs, c => ((x * base + c) % B64 :: (mulA base xs ((x * base + c) / B64)).1, (mulA base xs ((x * base + c) / B64)).2)
/-- what words are worth -/
def valW : List Nat → Nat
  | [] => 0
  | x :: xs => x + B64 * valW xs
theorem mulA_len (base : Nat) (ws : List Nat) (c : Nat) : (mulA base ws c).1.length = ws.length := by
  induction ws generalizing c with
  | nil => rfl
  | cons x xs ih => simp [mulA, ih]
theorem mulA_val (base : Nat) (ws : List Nat) (c : Nat) : valW (mulA base ws c).1 + B64 ^ ws.length * (mulA base ws c).2 = valW ws * base + c := by
  induction ws generalizing c with
  | nil => simp [mulA, valW]
  | cons x xs ih =>
    have h := ih ((x * base + c) / B64)
    simp only [mulA, valW, List.length_cons]
    have hd := Nat.div_add_mod (x * base + c) B64
    generalize (x * base + c) / B64 = q at *
    generalize (x * base + c) % B64 = r at *
    rw [Nat.pow_succ, Nat.add_mul, Nat.mul_assoc B64 (valW xs) base]
    have e : B64 ^ xs.length * B64 * (mulA base xs q).2 = B64 * (B64 ^ xs.length * (mulA base xs q).2) := by rw [Nat.mul_comm (B64 ^ xs.length) B64, Nat.mul_assoc]
    rw [e]
    have := congrArg (B64 * ·) h
    simp only [Nat.mul_add] at this
    omega
theorem mulA_lt (base : Nat) (ws : List Nat) (c : Nat) : ∀ x ∈ (mulA base ws c).1, x < B64 := by
  induction ws generalizing c with
  | nil => simp [mulA]
  | cons x xs ih =>
    intro y hy
    simp only [mulA, List.mem_cons] at hy
    rcases hy with rfl | hy
    · exact Nat.mod_lt _ (by decide)
    · exact ih _ y hy
theorem mulA_carry (base : Nat) (hb : 1 ≤ base) (ws : List Nat) (c : Nat) (hc : c < base) (hw : ∀ x ∈ ws, x < B64) : (mulA base ws c).2 < base := by
  induction ws generalizing c with
  | nil => exact hc
  | cons x xs ih =>
    simp only [mulA]
    refine ih _ ?_ (fun y hy => hw y (List.mem_cons_of_mem _ hy))
    have hx := hw x (List.mem_cons_self ..)
    rw [Nat.div_lt_iff_lt_mul (by decide)]
    have : x * base ≤ (B64 - 1) * base := Nat.mul_le_mul_right _ (by omega)
    rw [Nat.sub_mul] at this
    have h2 : 1 * base ≤ B64 * base := Nat.mul_le_mul_right _ (by decide)
    rw [Nat.mul_comm base B64]
    omega
theorem mulA_snoc (base : Nat) (ws : List Nat) (k x c : Nat) (h : ws[k]? = some x) : mulA base (ws.take (k + 1)) c = ((mulA base (ws.take k) c).1 ++ [(x * base + (mulA base (ws.take k) c).2) % B64], (x * base + (mulA base (ws.take k) c).2) / B64) := by
  induction ws generalizing c k with
  | nil => simp at h
  | cons y ys ih =>
    cases k with
    | zero => simp at h; subst h; simp [mulA]
    | succ k =>
      simp only [List.take_succ_cons, mulA]
      rw [ih k _ (by simpa using h)]
      simp
/-- a word more if something is carried out -/
def stepW (base : Nat) (ws : List Nat) (d : Nat) : List Nat := if (mulA base ws d).2 = 0 then (mulA base ws d).1 else (mulA base ws d).1 ++ [(mulA base ws d).2]
theorem valW_app (a b : List Nat) : valW (a ++ b) = valW a + B64 ^ a.length * valW b := by
  induction a with
  | nil => simp [valW]
  | cons x xs ih => simp only [List.cons_append, valW, ih, List.length_cons, Nat.pow_succ, Nat.mul_add, Nat.add_assoc]; rw [Nat.mul_comm (B64 ^ xs.length) B64, Nat.mul_assoc]
theorem stepW_val (base : Nat) (ws : List Nat) (d : Nat) : valW (stepW base ws d) = valW ws * base + d := by
  have h := mulA_val base ws d
  unfold stepW
  split
  · rename_i h0; rw [h0, Nat.mul_zero] at h; exact h
  · rw [valW_app, mulA_len]; simp only [valW, Nat.mul_zero, Nat.add_zero]; exact h
/-- the words of digits -/
def stkW (base : Nat) (l : List Nat) : List Nat := l.foldl (fun ws c => stepW base ws (wth c)) []
theorem stkW_snoc (base : Nat) (l : List Nat) (k c : Nat) (h : l[k]? = some c) : stkW base (l.take (k + 1)) = stepW base (stkW base (l.take k)) (wth c) := by
  unfold stkW
  rw [List.take_add_one, h, List.foldl_append]; rfl
end Go.Proofs.YtbakbikilbaafaaGreatDoor
namespace Go.Proofs.YtbakbikilbaafaaGreatDoor
open Go.RowKit F64 Ieee
set_option linter.unusedVariables false
set_option maxHeartbeats 4000000
set_option maxRecDepth 100000

def u64s (l : List Nat) : List Value := l.map fun n : Nat => .int .u64 (n : Int)
theorem infoU64 : (Tryz.prog.info? 102).map (fun i => (i.zero, i.size, i.bytes)) = some (some (.int .u64 0), 1, 8) := by kernel_rfl
/-- the row within a round -/
def inW (base : Nat) (ws : List Nat) (d k : Nat) : List Nat := (mulA base (ws.take k) d).1 ++ ws.drop k
theorem inW_len (base : Nat) (ws : List Nat) (d k : Nat) (hk : k ≤ ws.length) : (inW base ws d k).length = ws.length := by
  unfold inW; rw [List.length_append, mulA_len, List.length_take, List.length_drop]; omega
theorem inW_get (base : Nat) (ws : List Nat) (d k : Nat) (hk : k < ws.length) : (inW base ws d k)[k]? = ws[k]? := by
  unfold inW
  have hl : (mulA base (ws.take k) d).1.length = k := by rw [mulA_len, List.length_take]; omega
  rw [List.getElem?_append_right (by omega), hl, List.getElem?_drop]; simp
theorem inW_set (base : Nat) (ws : List Nat) (d k x : Nat) (h : ws[k]? = some x) : (inW base ws d k).set k ((x * base + (mulA base (ws.take k) d).2) % B64) = inW base ws d (k + 1) := by
  have hk := (List.getElem?_eq_some_iff.1 h).1
  have hl : (mulA base (ws.take k) d).1.length = k := by rw [mulA_len, List.length_take]; omega
  unfold inW
  have e : ∀ y, (ws.drop k).set 0 y = y :: ws.drop (k + 1) := fun y => by rw [List.drop_eq_getElem_cons hk]; rfl
  rw [mulA_snoc base ws k x d h, List.set_append_right _ _ (by omega), hl, Nat.sub_self, e]
  simp
theorem u64s_set (l : List Nat) (k y : Nat) : (u64s l).set k (.int .u64 (y : Int)) = u64s (l.set k y) := by
  unfold u64s; rw [List.map_set]
theorem stkW_len (base : Nat) (l : List Nat) : (stkW base l).length ≤ l.length := by
  have key : ∀ (l : List Nat) (ws : List Nat), (l.foldl (fun ws c => stepW base ws (wth c)) ws).length ≤ ws.length + l.length := by
    intro l
    induction l with
    | nil => intro ws; simp
    | cons c l ih =>
      intro ws
      simp only [List.foldl_cons, List.length_cons]
      refine Nat.le_trans (ih _) ?_
      have : (stepW base ws (wth c)).length ≤ ws.length + 1 := by
        unfold stepW
        split
        · rw [mulA_len]; omega
        · simp [mulA_len]
      omega
  have := key l []
  simpa [stkW] using this
theorem stepW_lt {base : Nat} (hb : 1 ≤ base) (hb2 : base ≤ 36) {ws : List Nat} {d : Nat} (hd : d < base) (hw : ∀ x ∈ ws, x < B64) : ∀ x ∈ stepW base ws d, x < B64 := by
  have h1 := mulA_lt base ws d
  have h2 := mulA_carry base hb ws d hd hw
  unfold stepW
  split
  · exact h1
  · intro x hx
    rcases List.mem_append.1 hx with h | h
    · exact h1 x h
    · simp at h; subst h; unfold B64; omega
theorem stkW_lt {base : Nat} (hb : 1 ≤ base) (hb2 : base ≤ 36) {l : List Nat} (hl : ∀ c ∈ l, wth c < base) : ∀ k, ∀ x ∈ stkW base (l.take k), x < B64 := by
  intro k
  induction k with
  | zero => simp [stkW]
  | succ k ih =>
    rcases Nat.lt_or_ge k l.length with h | h
    · have hx : l[k]? = some l[k] := List.getElem?_eq_getElem h
      rw [stkW_snoc base l k _ hx]
      exact stepW_lt hb hb2 (hl _ (List.getElem_mem h)) ih
    · rw [List.take_of_length_le (by omega)] at ih ⊢
      exact ih
/-- the digits of a number of one word -/
theorem c_dsticky1 (L : List Nat) (base v s : Nat) (hb : 2 ≤ base) (hb2 : base ≤ 36) (hL : ∀ c ∈ L, c < 256 ∧ wth c < base) (hl : L.length ≤ 10000000) (hv : stkW base L = [v]) (hs : s ≤ 63) (hbl : Lib.bitLen v = 64 - s) (hv1 : 9223372036854775808 ≤ v * 2 ^ s) (hv2 : v * 2 ^ s < 18446744073709551616) (w : World) :
    Calls Tryz.prog 76 #[.string (u8sG L), .int .i64 (base : Int)] w fun r w' => r = .returned (.float .f64 (wEK (1085 - (s : Int)) (rnd (v * 2 ^ s)))) ∧ Below w.heap.size w w' := by
  have hvB : v < 18446744073709551616 := by
    have := stkW_lt (base := base) (l := L) (by omega) hb2 (fun c hc => (hL c hc).2) L.length v (by rw [List.take_length, hv]; simp)
    exact this
  have hLZ := Lib.hid (fun W => s_LZ64 (v : Int) W (by omega) (by omega))
  rw [Int.toNat_natCast, hbl] at hLZ
  have hLZ : Hid (∀ W, Calls Tryz.prog 109 #[.int .u64 (v : Int)] W fun e w' => e = .returned (.int .i64 (s : Int)) ∧ w' = W) := by
    have e : (64 : Int) - ((64 - s : Nat) : Int) = (s : Int) := by omega
    rw [e] at hLZ; exact hLZ
  have hRd := Lib.hid (fun W => c_drounded (v * 2 ^ s) hv1 hv2 W)
  obtain ⟨rk1, rk2⟩ := rnd_le hv1 hv2
  have hshl : IntKind.u64.wrap ((v : Int) * 2 ^ s) = ((v * 2 ^ s : Nat) : Int) := by
    have e : (v : Int) * 2 ^ s = ((v * 2 ^ s : Nat) : Int) := by rw [Int.natCast_mul, Int.natCast_pow]; rfl
    rw [e]
    generalize v * 2 ^ s = y at *
    rw [IntKind.wrap_u64]
    omega
  have hw85 : wEK 1085 (rnd (v * 2 ^ s)) = 1085 * 4503599627370496 + rnd (v * 2 ^ s) := by
    unfold wEK
    rw [show (1085 : Int).toNat = 1085 from rfl, if_pos (by omega)]
  have hLd := Lib.hid (fun W => c_LdexpG 1085 (rnd (v * 2 ^ s)) (-(s : Int)) rk1 rk2 (by omega) (by omega) (by decide) W)
  rw [← hw85, show -(s : Int) + ((1085 : Nat) : Int) = 1085 - (s : Int) by omega] at hLd
  generalize wEK (1085 - (s : Int)) (rnd (v * 2 ^ s)) = RR at *
  generalize wEK 1085 (rnd (v * 2 ^ s)) = R0 at *
  generalize v * 2 ^ s = mm at *
  clear hw85 rk1 rk2 hbl
  obtain ⟨i0, hi0, hz0, hz1, hz2⟩ := info_parts infoU64
  have hsz : (u8sG L).size = L.length := uG_size L
  have hget := Lib.hid (fun j c (h1 : L[j]? = some c) (h2 : c < 256) h3 => uG_get L j c h1 h2 h3)
  have hwl := Lib.hid (stkW_lt (base := base) (l := L) (by omega) hb2 (fun c hc => (hL c hc).2))
  have hst := Lib.hid (stkW_snoc base L)
  have hwlen := Lib.hid (fun k => stkW_len base (L.take k))
  have hW := Lib.hid (fun (c : Nat) (hc : c < 256) W => c_dworth c hc W)
  have hM := Lib.hid (fun x (hx : x < 18446744073709551616) W => d_Mul64 x base hx (by omega) W)
  have hA := r_Add64
  have hLc := Lib.hid hL
  have hszl : (u8sG L).size ≤ 10000000 := by omega
  replace hsz := Lib.hid hsz
  generalize u8sG L = S at *
  clear hL
  go_enter Tryz.func76, Tryz.ntmps76
  go_wp2
  go_loopw [5, 19] (fun v5 v19 wr => ∃ j : Nat, j ≤ L.length ∧ v19 = .int .i64 (j : Int) ∧ wr.ownsRow w.heap.size 102 1 v5 (stkW base (L.take j)).length (u64s (stkW base (L.take j))) ∧ Below w.heap.size w wr) (fun _ v19 _ => L.length - (intOf v19).toNat)
  case atStart => exact ⟨0, Nat.zero_le _, rfl, World.ownsRow_nil _ _ _ _, Below.refl _ _⟩
  case round =>
    obtain ⟨j, hj, rfl, hown, hbel⟩ := hrel
    by_cases hjl : j < L.length
    · obtain ⟨c, hc⟩ : ∃ c, L[j]? = some c := ⟨L[j], List.getElem?_eq_getElem hjl⟩
      obtain ⟨hc1, hc2⟩ := hLc.out c (List.mem_of_getElem? hc)
      have hjs : j < S.size := by have := hsz.out; omega
      have hg := hget.out j c hc hc1 hjs
      have hjI : (j : Int) < (S.size : Int) := by omega
      have hWc := Lib.hid (fun W => hW.out c hc1 W)
      have hs := Lib.hid (hst.out j c hc)
      have hlt := Lib.hid (hwl.out j)
      have hwn := hwlen.out j
      rw [List.length_take] at hwn
      generalize stkW base (L.take j) = ws at *
      generalize wth c = d at *
      have hwn2 : ws.length ≤ 10000000 := by omega
      replace hwn := Lib.hid hwn
      have hIn : ∀ k, (inW base ws d k).length = ws.length ∨ ws.length < k := fun k => by
        rcases Nat.lt_or_ge ws.length k with h | h
        · exact .inr h
        · exact .inl (inW_len base ws d k h)
      have hIg := Lib.hid (inW_get base ws d)
      have hIs := Lib.hid (inW_set base ws d)
      have hMs := Lib.hid (fun k x (h : ws[k]? = some x) => mulA_snoc base ws k x d h)
      have hMc := Lib.hid (fun k => mulA_carry base (by omega) (ws.take k) d hc2 (fun x hx => hlt.out x (List.mem_of_mem_take hx)))
      have hstep : Hid (stepW base ws d = if (mulA base (ws.take ws.length) d).2 = 0 then inW base ws d ws.length else inW base ws d ws.length ++ [(mulA base (ws.take ws.length) d).2]) := by
        show _ = _
        unfold stepW inW
        rw [List.take_length, List.drop_length, List.append_nil]
      have hI0 : inW base ws d 0 = ws := by unfold inW; simp [mulA]
      have hM0 : (mulA base (ws.take 0) d).2 = d := by simp [mulA]
      obtain ⟨p, cap, rfl⟩ : ∃ p cap, u5 = .slice p ws.length cap := by
        rcases hown.2 with ⟨rfl, h0⟩ | ⟨g, cap, cur, rfl, _⟩
        · exact ⟨none, 0, by rw [h0]⟩
        · exact ⟨_, _, rfl⟩
      rw [← hI0] at hown
      replace hI0 := Lib.hid hI0
      replace hM0 := Lib.hid hM0
      replace hIn := Lib.hid hIn
      have hown := Lib.hid hown
      replace hbel := Lib.hid hbel
      clear hc hc1
      go_wp2_with (go_at_call 46; refine (hWc.out _).mono ?_; rintro e w' ⟨rfl, rfl⟩)
      go_loopw [7, 29] (fun v7 v29 wi => ∃ k : Nat, k ≤ ws.length ∧ v29 = .int .i64 (k : Int) ∧ v7 = .int .u64 ((mulA base (ws.take k) d).2 : Int) ∧ wi.ownsRow w.heap.size 102 1 (.slice p ws.length cap) ws.length (u64s (inW base ws d k)) ∧ Below w.heap.size w wi) (fun _ v29 _ => ws.length - (intOf v29).toNat)
      case atStart => exact ⟨0, Nat.zero_le _, rfl, by rw [hM0.out], by rw [hI0.out] at hown ⊢; exact hown.out, hbel.out⟩
      case round =>
        obtain ⟨k, hk, rfl, rfl, hown, hbel⟩ := hrel
        by_cases hkl : k < ws.length
        · obtain ⟨x, hx⟩ : ∃ x, ws[k]? = some x := ⟨ws[k], List.getElem?_eq_getElem hkl⟩
          have hxB : x < 18446744073709551616 := hlt.out x (List.mem_of_getElem? hx)
          have hset := Lib.hid (hIs.out k x hx)
          have hms := Lib.hid (hMs.out k x hx)
          have hmc := hMc.out k
          have hIgk := hIg.out k hkl
          rw [hx] at hIgk
          obtain ⟨g, cap2, e1, hr⟩ := hown.form (by omega)
          injection e1 with e1 _ e2
          subst e1 e2
          have hcell := World.ownsRow.cells hown (g := g) rfl k (.int .u64 (x : Int)) (by simp [u64s, hIgk])
          rw [add_zero_addr] at hcell
          have hfz := World.ownsRow.frozenAt hown k
          obtain ⟨hown2, hgr⟩ := World.ownsRow.stored hown k (.int .u64 (((x * base + (mulA base (ws.take k) d).2) % B64 : Nat) : Int))
          rw [u64s_set, hset.out] at hown2
          have hbel2 : Below w.heap.size w (wr.setCell ⟨g, k, none⟩ (.int .u64 (((x * base + (mulA base (ws.take k) d).2) % B64 : Nat) : Int))) := hbel.grown hgr hbel.size (own_base hown)
          have hms2 : (mulA base (ws.take (k + 1)) d).2 = (x * base + (mulA base (ws.take k) d).2) / B64 := by rw [hms.out]
          rw [show B64 = 18446744073709551616 from rfl] at hms2 hown2 hbel2
          have hMx := Lib.hid (fun W => hM.out x hxB W)
          generalize (mulA base (ws.take k) d).2 = cr at *
          have hAx := Lib.hid (hA (x * base % 18446744073709551616) cr)
          have hyb : x * base ≤ 18446744073709551615 * 36 := Nat.mul_le_mul (by omega) hb2
          have q0 : (x * base % 18446744073709551616 + cr) % 18446744073709551616 = (x * base + cr) % 18446744073709551616 := by omega
          have q1 : x * base / 18446744073709551616 + (x * base % 18446744073709551616 + cr) / 18446744073709551616 = (x * base + cr) / 18446744073709551616 := by omega
          have q2 : x * base / 18446744073709551616 + (x * base % 18446744073709551616 + cr) / 18446744073709551616 < 100 := by omega
          rw [← q0] at hown2 hbel2
          rw [← q1] at hms2
          generalize x * base / 18446744073709551616 = y1 at *
          generalize x * base % 18446744073709551616 = y0 at *
          generalize (y0 + cr) % 18446744073709551616 = z0 at *
          generalize (y0 + cr) / 18446744073709551616 = z1 at *
          have hAx := hAx.out
          have hkI : (k : Int) < (ws.length : Int) := by omega
          replace hown2 := Lib.hid hown2
          replace hms2 := Lib.hid hms2
          clear q0 q1 hyb hown hgr hms hset hx hIgk hxB hmc hA hr
          go_wp2_with (go_at_call 107; refine (hMx.out _).mono ?_; rintro e w' ⟨rfl, rfl⟩)
          exact ⟨⟨k + 1, by omega, by go_num, by rw [hms2.out, Int.natCast_add], hown2.out, hbel2⟩, by simp [intOf]; omega⟩
        · obtain rfl : k = ws.length := by omega
          have hst2 := hs.out.trans hstep.out
          have hcr := hMc.out ws.length
          clear hstep hs
          have hkI : ¬ ((ws.length : Nat) : Int) < (ws.length : Int) := by omega
          have hlen := inW_len base ws d ws.length (Nat.le_refl _)
          generalize (mulA base (ws.take ws.length) d).2 = cr at *
          generalize inW base ws d ws.length = vs at *
          clear hIg hIs hMs hMc hA hI0 hM0 hIn
          by_cases h0 : cr = 0
          · rw [if_pos h0] at hst2
            subst h0
            rw [← hlen, ← hst2] at hown
            rw [← hlen, ← hst2]
            replace hown := Lib.hid hown
            clear hst2 hlen
            have hkI2 : ¬ ((stkW base (L.take (j + 1))).length : Int) < ((stkW base (L.take (j + 1))).length : Int) := by omega
            go_wp2_with fail
            go_roundw
            case rel => exact ⟨j + 1, by omega, by go_num, hown.out, hbel⟩
            case measure => simp [intOf]; omega
          · rw [if_neg h0] at hst2
            have hcr0 : 0 < cr := by omega
            have hcB : u64s vs ++ [.int .u64 (cr : Int)] = u64s (stkW base (L.take (j + 1))) := by rw [hst2]; simp [u64s]
            have hsl : (stkW base (L.take (j + 1))).length = ws.length + 1 := by rw [hst2]; simp [hlen]
            replace hcB := Lib.hid hcB
            replace hsl := Lib.hid hsl
            clear hst2 h0 hlen
            go_wp2_with (at_builtin; refine wpList_append_lies _ (by rfl) _ _ _ (by rfl) w.heap.size 102 i0 _ 1 8 Tryz.underlying121 hi0 hz0 hz1 hz2 rfl (by omega) (.slice p ws.length cap) ws.length (u64s vs) (by rfl) (hown.alloc _) ⟨wr.heap.size, 0, none⟩ 1 1 [.int .u64 (cr : Int)] (by rfl) (by rfl) (World.news_of_block (cs := #[.int .u64 (cr : Int)]) (t := 102) (fr := (0, 0)) (by exact heap_alloc_new wr _)) (by simp [Value.oneCell']) (by omega) (by unfold maxLen; omega) (by omega) (by have := hbel.size; simp; omega) (wr.heap.size + 1) (by simp) ?_; intro gg cap2 w2 hown2 hgrow hat hlt2)
            have hown3 : w2.ownsRow w.heap.size 102 1 (.slice (some ⟨gg, 0, none⟩) (ws.length + 1) cap2) (stkW base (L.take (j + 1))).length (u64s (stkW base (L.take (j + 1)))) := by
              rw [← hcB.out, hsl.out]; exact hown2
            have hbel2 : Below w.heap.size w w2 := (hbel.alloc hbel.size _).grown hgrow (by have := hbel.size; simp; omega) (own_base hown)
            clear hown2 hgrow
            go_roundw
            case rel => exact ⟨j + 1, by omega, by go_num, hown3, hbel2⟩
            case measure => simp [intOf]; omega
    · obtain rfl : j = L.length := by omega
      rw [List.take_length, hv] at hown
      have hjI : ¬ (L.length : Int) < (S.size : Int) := by have := hsz.out; omega
      obtain ⟨g, cap, rfl, hr⟩ := hown.form (by simp)
      have hcell := World.ownsRow.cells hown (g := g) rfl 0 (.int .u64 (v : Int)) rfl
      rw [add_zero_addr] at hcell
      have n0 : ((mm : Int) == 0) = false := beq_eq_false_iff_ne.2 (by omega)
      clear hM hW hLc hst hwlen hwl hget hv hown hr
      go_wp2_with (go_at_call 109; refine (hLZ.out _).mono ?_; rintro e w' ⟨rfl, rfl⟩)
      go_loop [15, 16] (fun v15 v16 => v15 = .int .u64 0 ∧ v16 = .int .i64 0) (fun _ _ => 0)
      case atStart => exact ⟨rfl, rfl⟩
      case round =>
        obtain ⟨rfl, rfl⟩ := hrel
        go_wp2_with (first | (go_at_call 111; refine (hRd.out _).mono ?_; rintro e w'' ⟨rfl, rfl⟩) | (go_at_call 110; refine (hLd.out _).mono ?_; rintro e w'' ⟨rfl, rfl⟩))
        go_ret
        exact ⟨rfl, hbel⟩
end Go.Proofs.YtbakbikilbaafaaGreatDoor
