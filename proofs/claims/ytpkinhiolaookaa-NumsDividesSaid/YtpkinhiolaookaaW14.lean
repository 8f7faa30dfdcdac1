/-
  Contracts of functions of the packages nums, lintelref02 and math: what each call returns. Conditions: as each theorem says.
-/
import Derived.Test.YtpkinhiolaookaaW13
namespace Go.Proofs.Ytpkinhiolaookaa
open Go.RowKit F64
set_option maxHeartbeats 400000
attribute [local go_sem] r56 r55 neg_run

theorem floatOfInt_R (n : Int) : R (some (floatOfInt .f64 n)) (floatOfInt .f64 n) := by
  have h : isNaN (floatOfInt .f64 n) = false ∧ floatOfInt .f64 n < 18446744073709551616 := write_num (d := .number (n < 0) n.natAbs 0) rfl
  exact R_some h.2 h.1
theorem and31 (n : Int) : bits BinOp.and IntKind.u32 (n % 4294967296) 31 = n % 32 := by
  have h0 : 0 ≤ n % 4294967296 := Int.emod_nonneg _ (by decide)
  have h1 : n % 4294967296 < 4294967296 := Int.emod_lt_of_pos _ (by decide)
  rw [u32_and _ _ h0 h1 (by decide) (by decide), show (31 : Int).toNat = 31 from rfl, nat_mask5]
  omega
theorem mul_wrap (x y : Int) : wrap32 (x % 4294967296 * (y % 4294967296) % 4294967296) = wrap32 (wrap32 (x % 4294967296) * wrap32 (y % 4294967296)) := by
  have e : ∀ z : Int, wrap32 (z % 4294967296) = wrap32 z := by intro z; unfold wrap32; omega
  have f : ∀ z : Int, wrap32 z % 4294967296 = z % 4294967296 := by intro z; unfold wrap32; omega
  rw [← Int.mul_emod, e, e, e, ← e (wrap32 x * wrap32 y), Int.mul_emod, f, f, ← Int.mul_emod, e]
theorem c11 (x : Nat) (hx : x < 18446744073709551616) (w : World) :
    Calls Try.prog 11 #[.float .f64 x] w fun e w' => e = .returned (.int .u32 (TI x % 4294967296)) ∧ w = w' := by
  go_enter Try.func11, Try.ntmps11
  go_wp2_with (go_at_call 41; refine (c41 x hx _).mono ?_; rintro e w' ⟨rfl, rfl⟩)
  go_ret
  exact ⟨rfl, rfl⟩
theorem c12 (x : Nat) (hx : x < 18446744073709551616) (w : World) :
    Calls Try.prog 12 #[.float .f64 x] w fun e w' => e = .returned (.int .i32 (wrap32 (TI x % 4294967296))) ∧ w = w' := by
  go_enter Try.func12, Try.ntmps12
  go_wp2_with (go_at_call 41; refine (c41 x hx _).mono ?_; rintro e w' ⟨rfl, rfl⟩)
  go_ret
  exact ⟨rfl, rfl⟩
theorem c35 (x : Nat) (hx : x < 18446744073709551616) (w : World) :
    Calls Try.prog 35 #[.float .f64 x] w fun e w' => e = .returned (.int .u16 (TI x % 65536)) ∧ w = w' := by
  go_enter Try.func35, Try.ntmps35
  go_wp2_with (go_at_call 41; refine (c41 x hx _).mono ?_; rintro e w' ⟨rfl, rfl⟩)
  go_ret
  exact ⟨ret_int (by rw [IntKind.wrap_u16]; omega), rfl⟩
theorem c34 (x : Nat) (hx : x < 18446744073709551616) (w : World) :
    Calls Try.prog 34 #[.float .f64 x] w fun e w' => e = .returned (.int .u32 (TI x % 4294967296)) ∧ w = w' := by
  go_enter Try.func34, Try.ntmps34
  go_wp2_with (go_at_call 58; refine (c58_32 x hx _).mono ?_; rintro e w' ⟨rfl, rfl⟩)
  go_ret
  exact ⟨rfl, rfl⟩
theorem c33 (x : Nat) (hx : x < 18446744073709551616) (w : World) :
    Calls Try.prog 33 #[.float .f64 x] w fun e w' => e = .returned (.int .i32 (wrap32 (TI x % 4294967296))) ∧ w = w' := by
  go_enter Try.func33, Try.ntmps33
  go_wp2_with (go_at_call 34; refine (c34 x hx _).mono ?_; rintro e w' ⟨rfl, rfl⟩)
  go_ret
  exact ⟨rfl, rfl⟩
theorem c36 (x : Nat) (hx : x < 18446744073709551616) (w : World) :
    Calls Try.prog 36 #[.float .f64 x] w fun e w' => e = .returned (.int .u16 (TI x % 65536)) ∧ w = w' := by
  go_enter Try.func36, Try.ntmps36
  go_wp2_with (go_at_call 58; refine (c58_16 x hx _).mono ?_; rintro e w' ⟨rfl, rfl⟩)
  go_ret
  exact ⟨rfl, rfl⟩
theorem c57 (x : Nat) (hx : x < 18446744073709551616) (w : World) :
    Calls Try.prog 57 #[.float .f64 x] w fun e w' => e = .returned (.int .u32 (TI x % 32)) ∧ w = w' := by
  go_enter Try.func57, Try.ntmps57
  go_wp2_with (go_at_call 41; refine (c41 x hx _).mono ?_; rintro e w' ⟨rfl, rfl⟩)
  go_ret
  exact ⟨ret_int (and31 _), rfl⟩
theorem c21 (a b : Nat) (ha : a < 18446744073709551616) (hb : b < 18446744073709551616) (w : World) :
    Calls Try.prog 21 #[.float .f64 a, .float .f64 b] w fun e w' => e = .returned (.float .f64 (floatOfInt .f64 (wrap32 (wrap32 (TI a % 4294967296) * 2 ^ (TI b % 32).toNat)))) ∧ w = w' := by
  go_enter Try.func21, Try.ntmps21
  go_wp2_with (first | (go_at_call 12; (with_reducible refine (c12 a ha _).mono ?_); rintro e w' ⟨rfl, rfl⟩) | (go_at_call 57; (with_reducible refine (c57 b hb _).mono ?_); rintro e w' ⟨rfl, rfl⟩))
  go_ret
  exact ⟨rfl, rfl⟩
theorem c23 (a b : Nat) (ha : a < 18446744073709551616) (hb : b < 18446744073709551616) (w : World) :
    Calls Try.prog 23 #[.float .f64 a, .float .f64 b] w fun e w' => e = .returned (.float .f64 (floatOfInt .f64 (wrap32 (TI a % 4294967296) / 2 ^ (TI b % 32).toNat))) ∧ w = w' := by
  go_enter Try.func23, Try.ntmps23
  go_wp2_with (first | (go_at_call 12; (with_reducible refine (c12 a ha _).mono ?_); rintro e w' ⟨rfl, rfl⟩) | (go_at_call 57; (with_reducible refine (c57 b hb _).mono ?_); rintro e w' ⟨rfl, rfl⟩))
  go_ret
  exact ⟨rfl, rfl⟩
theorem c25 (a b : Nat) (ha : a < 18446744073709551616) (hb : b < 18446744073709551616) (w : World) :
    Calls Try.prog 25 #[.float .f64 a, .float .f64 b] w fun e w' => e = .returned (.float .f64 (floatOfInt .f64 ((TI a % 4294967296) / 2 ^ (TI b % 32).toNat))) ∧ w = w' := by
  go_enter Try.func25, Try.ntmps25
  go_wp2_with (first | (go_at_call 41; (with_reducible refine (c41 a ha _).mono ?_); rintro e w' ⟨rfl, rfl⟩) | (go_at_call 57; (with_reducible refine (c57 b hb _).mono ?_); rintro e w' ⟨rfl, rfl⟩))
  go_ret
  exact ⟨rfl, rfl⟩
theorem c27 (a b : Nat) (ha : a < 18446744073709551616) (hb : b < 18446744073709551616) (w : World) :
    Calls Try.prog 27 #[.float .f64 a, .float .f64 b] w fun e w' => e = .returned (.float .f64 (floatOfInt .f64 (wrap32 (wrap32 (TI a % 4294967296) * wrap32 (TI b % 4294967296))))) ∧ w = w' := by
  go_enter Try.func27, Try.ntmps27
  go_wp2_with (first | (go_at_call 41; (with_reducible refine (c41 a ha _).mono ?_); rintro e w' ⟨rfl, rfl⟩) | (go_at_call 41; (with_reducible refine (c41 b hb _).mono ?_); rintro e w' ⟨rfl, rfl⟩))
  go_ret
  exact ⟨ret_float (by rw [← mul_wrap]), rfl⟩
theorem c22 (a b : Nat) (ha : a < 18446744073709551616) (hb : b < 18446744073709551616) (w : World) :
    Calls Try.prog 22 #[.float .f64 a, .float .f64 b] w fun e w' => e = .returned (.float .f64 (floatOfInt .f64 (wrap32 (wrap32 (TI a % 4294967296) * 2 ^ (TI b % 32).toNat)))) ∧ w = w' := by
  go_enter Try.func22, Try.ntmps22
  go_wp2_with (first | (go_at_call 33; (with_reducible refine (c33 a ha _).mono ?_); rintro e w' ⟨rfl, rfl⟩) | (go_at_call 34; (with_reducible refine (c34 b hb _).mono ?_); rintro e w' ⟨rfl, rfl⟩))
  go_ret
  exact ⟨rfl, rfl⟩
theorem c24 (a b : Nat) (ha : a < 18446744073709551616) (hb : b < 18446744073709551616) (w : World) :
    Calls Try.prog 24 #[.float .f64 a, .float .f64 b] w fun e w' => e = .returned (.float .f64 (floatOfInt .f64 (wrap32 (TI a % 4294967296) / 2 ^ (TI b % 32).toNat))) ∧ w = w' := by
  go_enter Try.func24, Try.ntmps24
  go_wp2_with (first | (go_at_call 33; (with_reducible refine (c33 a ha _).mono ?_); rintro e w' ⟨rfl, rfl⟩) | (go_at_call 34; (with_reducible refine (c34 b hb _).mono ?_); rintro e w' ⟨rfl, rfl⟩))
  go_ret
  exact ⟨rfl, rfl⟩
theorem c26 (a b : Nat) (ha : a < 18446744073709551616) (hb : b < 18446744073709551616) (w : World) :
    Calls Try.prog 26 #[.float .f64 a, .float .f64 b] w fun e w' => e = .returned (.float .f64 (floatOfInt .f64 ((TI a % 4294967296) / 2 ^ (TI b % 32).toNat))) ∧ w = w' := by
  go_enter Try.func26, Try.ntmps26
  go_wp2_with (first | (go_at_call 34; (with_reducible refine (c34 a ha _).mono ?_); rintro e w' ⟨rfl, rfl⟩) | (go_at_call 34; (with_reducible refine (c34 b hb _).mono ?_); rintro e w' ⟨rfl, rfl⟩))
  go_ret
  exact ⟨rfl, rfl⟩
theorem c28 (a b : Nat) (ha : a < 18446744073709551616) (hb : b < 18446744073709551616) (w : World) :
    Calls Try.prog 28 #[.float .f64 a, .float .f64 b] w fun e w' => e = .returned (.float .f64 (floatOfInt .f64 (wrap32 (wrap32 (TI a % 4294967296) * wrap32 (TI b % 4294967296))))) ∧ w = w' := by
  go_enter Try.func28, Try.ntmps28
  go_wp2_with (first | (go_at_call 33; (with_reducible refine (c33 a ha _).mono ?_); rintro e w' ⟨rfl, rfl⟩) | (go_at_call 33; (with_reducible refine (c33 b hb _).mono ?_); rintro e w' ⟨rfl, rfl⟩))
  go_ret
  exact ⟨rfl, rfl⟩
end Go.Proofs.Ytpkinhiolaookaa
