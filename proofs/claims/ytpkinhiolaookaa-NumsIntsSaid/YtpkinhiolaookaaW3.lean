/-
  Contracts of functions of the packages nums, lintelref02 and math: what each call returns. Conditions: as each theorem says.
-/
import Derived.Test.YtpkinhiolaookaaW2
import Derived.Test.YtpkinhiolaookaaL64
namespace Go.Proofs.Ytpkinhiolaookaa
open Go.RowKit F64
set_option maxHeartbeats 400000
attribute [local go_sem] r56 r55 neg_run

theorem c74_nh (x d : Nat) (k : Int) (h : 4503599627370496 ≤ x) (hx : x < 9218868437227405312) (hd : d < 9218868437227405312) (hk1 : 52 ≤ k + ne x) (hk2 : k + ne x ≤ 2097)
    (hv : V d * 2 ^ 53 = nm x * 2 ^ (k + ne x + 1).toNat) (w : World) :
    Calls Try.prog 74 #[.float .f64 x, .int .i64 k] w fun e w' => e = .returned (.float .f64 d) ∧ w = w' := by
  have hz := nz_lt (by omega) hx
  have hg := ne_ge h
  have hl := ne_le (by omega) hx
  have hn := nm_bounds (r := x) (by omega)
  have hF := nz_field (x := x) (by omega)
  rw [if_neg (by omega)] at hF
  have hb := b_exp_j (z := nz x) (by omega)
  rw [hF] at hb
  have hf := b_frac (z := nz x) (by omega)
  rw [nz_mod (by omega)] at hf
  have ht : (FloatKind.f64.format.order x 0 == some Ordering.eq) = false := by
    rw [ord_eq hx (by decide)]; exact decide_eq_false (by omega)
  have hb' : bits BinOp.and IntKind.i64 ((nz x : Int) / 4503599627370496) 2047 = (ne x : Int) - 51 := by
    rw [hb]; omega
  have ho : bits BinOp.or IntKind.u64 ((nm x - 4503599627370496 : Nat) : Int) ((k + ((ne x : Int) - 51 - 1023) + 1023) * 4503599627370496) = (d : Int) := by
    rw [b_or_field (by omega) (by omega) (by omega), ld_hi (by omega) hk1 hv]
    exact congrArg (fun n : Nat => ((n * 4503599627370496 + (nm x - 4503599627370496) : Nat) : Int)) (by omega)
  have hm := fun w => run_float_arith (P := Try.prog) w .mul 23 .f64 4607182418800017408 d d (mul_one hd)
  clear hb hF hv hn hd
  go_enter Try.func74, Try.ntmps74
  go_wp2_with (first | (go_at_call 18; refine (c18_f _ hx _).mono ?_; rintro e w' ⟨rfl, rfl⟩) | (go_at_call 71; refine (c71_f _ hx _).mono ?_; rintro e w' ⟨rfl, rfl⟩) | (go_at_call 77; refine (c77_n _ h hx _).mono ?_; rintro e w' ⟨rfl, rfl⟩))
  go_ret
  exact ⟨rfl, rfl⟩
theorem c74_nl (x d : Nat) (k : Int) (h : 4503599627370496 ≤ x) (hx : x < 9218868437227405312) (hd : d < 9218868437227405312) (hk1 : -1 ≤ k + ne x) (hk2 : k + ne x < 52)
    (hv : V d * 2 ^ 53 = nm x * 2 ^ (k + ne x + 1).toNat) (w : World) :
    Calls Try.prog 74 #[.float .f64 x, .int .i64 k] w fun e w' => e = .returned (.float .f64 d) ∧ w = w' := by
  have hz := nz_lt (by omega) hx
  have hg := ne_ge h
  have hl := ne_le (by omega) hx
  have hn := nm_bounds (r := x) (by omega)
  have hF := nz_field (x := x) (by omega)
  rw [if_neg (by omega)] at hF
  have hb := b_exp_j (z := nz x) (by omega)
  rw [hF] at hb
  have hf := b_frac (z := nz x) (by omega)
  rw [nz_mod (by omega)] at hf
  have ht : (FloatKind.f64.format.order x 0 == some Ordering.eq) = false := by
    rw [ord_eq hx (by decide)]; exact decide_eq_false (by omega)
  have hb' : bits BinOp.and IntKind.i64 ((nz x : Int) / 4503599627370496) 2047 = (ne x : Int) - 51 := by
    rw [hb]; omega
  have hlo := ld_lo (by omega) hk1 hv
  have hD : (k + ne x + 2).toNat * 4503599627370496 + (nm x - 4503599627370496) < 9218868437227405312 := by
    have : (k + ne x + 2).toNat ≤ 53 := by omega
    omega
  have ho : bits BinOp.or IntKind.u64 ((nm x - 4503599627370496 : Nat) : Int) ((k + ((ne x : Int) - 51 - 1023) + 53 + 1023) * 4503599627370496) = (((k + ne x + 2).toNat * 4503599627370496 + (nm x - 4503599627370496) : Nat) : Int) := by
    rw [b_or_field (by omega) (by omega) (by omega)]
    exact congrArg (fun n : Nat => ((n * 4503599627370496 + (nm x - 4503599627370496) : Nat) : Int)) (by omega)
  generalize (k + ne x + 2).toNat * 4503599627370496 + (nm x - 4503599627370496) = D at *
  have hm := fun w => run_float_arith (P := Try.prog) w .mul 23 .f64 4368491638549381120 D d (mul_m53 hD hd hlo)
  clear hb hF hv hn hd hlo
  go_enter Try.func74, Try.ntmps74
  go_wp2_with (first | (go_at_call 18; refine (c18_f _ hx _).mono ?_; rintro e w' ⟨rfl, rfl⟩) | (go_at_call 71; refine (c71_f _ hx _).mono ?_; rintro e w' ⟨rfl, rfl⟩) | (go_at_call 77; refine (c77_n _ h hx _).mono ?_; rintro e w' ⟨rfl, rfl⟩))
  go_ret
  exact ⟨rfl, rfl⟩
theorem c74_sh (x d : Nat) (k : Int) (h0 : 0 < x) (h : x < 4503599627370496) (hd : d < 9218868437227405312) (hk1 : 52 ≤ k + ne x) (hk2 : k + ne x ≤ 2097)
    (hv : V d * 2 ^ 53 = nm x * 2 ^ (k + ne x + 1).toNat) (w : World) :
    Calls Try.prog 74 #[.float .f64 x, .int .i64 k] w fun e w' => e = .returned (.float .f64 d) ∧ w = w' := by
  have hx : x < 9218868437227405312 := by omega
  have hz := nz_lt (by omega) hx
  have hl := ne_le (by omega) hx
  have hn := nm_bounds (r := x) (by omega)
  have hF := nz_field (x := x) (by omega)
  rw [if_pos h] at hF
  have hb := b_exp_j (z := nz x) (by omega)
  rw [hF] at hb
  have hf := b_frac (z := nz x) (by omega)
  rw [nz_mod (by omega)] at hf
  have ht : (FloatKind.f64.format.order x 0 == some Ordering.eq) = false := by
    rw [ord_eq hx (by decide)]; exact decide_eq_false (by omega)
  have hb' : bits BinOp.and IntKind.i64 ((nz x : Int) / 4503599627370496) 2047 = (ne x : Int) + 1 := by
    rw [hb]; omega
  have ho : bits BinOp.or IntKind.u64 ((nm x - 4503599627370496 : Nat) : Int) ((k + (-52) + ((ne x : Int) + 1 - 1023) + 1023) * 4503599627370496) = (d : Int) := by
    rw [b_or_field (by omega) (by omega) (by omega), ld_hi (by omega) hk1 hv]
    exact congrArg (fun n : Nat => ((n * 4503599627370496 + (nm x - 4503599627370496) : Nat) : Int)) (by omega)
  have hm := fun w => run_float_arith (P := Try.prog) w .mul 23 .f64 4607182418800017408 d d (mul_one hd)
  clear hb hF hv hn hd
  go_enter Try.func74, Try.ntmps74
  go_wp2_with (first | (go_at_call 18; refine (c18_f _ hx _).mono ?_; rintro e w' ⟨rfl, rfl⟩) | (go_at_call 71; refine (c71_f _ hx _).mono ?_; rintro e w' ⟨rfl, rfl⟩) | (go_at_call 77; refine (c77_s _ h0 h _).mono ?_; rintro e w' ⟨rfl, rfl⟩))
  go_ret
  exact ⟨rfl, rfl⟩
theorem c74_sl (x d : Nat) (k : Int) (h0 : 0 < x) (h : x < 4503599627370496) (hd : d < 9218868437227405312) (hk1 : -1 ≤ k + ne x) (hk2 : k + ne x < 52)
    (hv : V d * 2 ^ 53 = nm x * 2 ^ (k + ne x + 1).toNat) (w : World) :
    Calls Try.prog 74 #[.float .f64 x, .int .i64 k] w fun e w' => e = .returned (.float .f64 d) ∧ w = w' := by
  have hx : x < 9218868437227405312 := by omega
  have hz := nz_lt (by omega) hx
  have hl := ne_le (by omega) hx
  have hn := nm_bounds (r := x) (by omega)
  have hF := nz_field (x := x) (by omega)
  rw [if_pos h] at hF
  have hb := b_exp_j (z := nz x) (by omega)
  rw [hF] at hb
  have hf := b_frac (z := nz x) (by omega)
  rw [nz_mod (by omega)] at hf
  have ht : (FloatKind.f64.format.order x 0 == some Ordering.eq) = false := by
    rw [ord_eq hx (by decide)]; exact decide_eq_false (by omega)
  have hb' : bits BinOp.and IntKind.i64 ((nz x : Int) / 4503599627370496) 2047 = (ne x : Int) + 1 := by
    rw [hb]; omega
  have hlo := ld_lo (by omega) hk1 hv
  have hD : (k + ne x + 2).toNat * 4503599627370496 + (nm x - 4503599627370496) < 9218868437227405312 := by
    have : (k + ne x + 2).toNat ≤ 53 := by omega
    omega
  have ho : bits BinOp.or IntKind.u64 ((nm x - 4503599627370496 : Nat) : Int) ((k + (-52) + ((ne x : Int) + 1 - 1023) + 53 + 1023) * 4503599627370496) = (((k + ne x + 2).toNat * 4503599627370496 + (nm x - 4503599627370496) : Nat) : Int) := by
    rw [b_or_field (by omega) (by omega) (by omega)]
    exact congrArg (fun n : Nat => ((n * 4503599627370496 + (nm x - 4503599627370496) : Nat) : Int)) (by omega)
  generalize (k + ne x + 2).toNat * 4503599627370496 + (nm x - 4503599627370496) = D at *
  have hm := fun w => run_float_arith (P := Try.prog) w .mul 23 .f64 4368491638549381120 D d (mul_m53 hD hd hlo)
  clear hb hF hv hn hd hlo
  go_enter Try.func74, Try.ntmps74
  go_wp2_with (first | (go_at_call 18; refine (c18_f _ hx _).mono ?_; rintro e w' ⟨rfl, rfl⟩) | (go_at_call 71; refine (c71_f _ hx _).mono ?_; rintro e w' ⟨rfl, rfl⟩) | (go_at_call 77; refine (c77_s _ h0 h _).mono ?_; rintro e w' ⟨rfl, rfl⟩))
  go_ret
  exact ⟨rfl, rfl⟩
theorem c74 (x d : Nat) (k : Int) (h0 : 0 < x) (hx : x < 9218868437227405312) (hd : d < 9218868437227405312) (hk1 : -1 ≤ k + ne x) (hk2 : k + ne x ≤ 2097)
    (hv : V d * 2 ^ 53 = nm x * 2 ^ (k + ne x + 1).toNat) (w : World) :
    Calls Try.prog 74 #[.float .f64 x, .int .i64 k] w fun e w' => e = .returned (.float .f64 d) ∧ w = w' := by
  rcases Nat.lt_or_ge x 4503599627370496 with h | h
  · rcases Int.lt_or_le (k + ne x) 52 with hk | hk
    · exact c74_sl x d k h0 h hd hk1 hk hv w
    · exact c74_sh x d k h0 h hd hk hk2 hv w
  · rcases Int.lt_or_le (k + ne x) 52 with hk | hk
    · exact c74_nl x d k h hx hd hk1 hk hv w
    · exact c74_nh x d k h hx hd hk hk2 hv w
/-- math.Ldexp of a positive number: exact where there is a word -/
theorem c66 (x d : Nat) (k : Int) (h0 : 0 < x) (hx : x < 9218868437227405312) (hd : d < 9218868437227405312) (hk1 : -1 ≤ k + ne x) (hk2 : k + ne x ≤ 2097)
    (hv : V d * 2 ^ 53 = nm x * 2 ^ (k + ne x + 1).toNat) (w : World) :
    Calls Try.prog 66 #[.float .f64 x, .int .i64 k] w fun e w' => e = .returned (.float .f64 d) ∧ w = w' := by
  go_enter Try.func66, Try.ntmps66
  go_wp2_with (go_at_call 74; refine (c74 _ _ _ h0 hx hd hk1 hk2 hv _).mono ?_; rintro e w' ⟨rfl, rfl⟩)
  go_ret
  exact ⟨rfl, rfl⟩
end Go.Proofs.Ytpkinhiolaookaa
