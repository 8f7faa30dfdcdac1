/-
  Contracts of functions of the packages nums, lintelref02 and math: what each call returns. Conditions: as each theorem says.
-/
import Derived.Test.YtpkinhiolaookaaW14
namespace Go.Proofs.Ytpkinhiolaookaa
open Go.RowKit F64
set_option maxHeartbeats 400000
attribute [local go_sem] r56 r55 neg_run

def TruePost (w : World) (e : Ending) (w' : World) : Prop := ∃ nq, e = .returned (.bool true) ∧ w' = w.drewN nq

theorem aw12 (w : World) : Calls Try.prog 12 #[.float .f64 4746794007248502784] w fun e w' => e = .returned (.int .i32 (-2147483648)) ∧ w = w' := by
  have h : wrap32 (TI 4746794007248502784 % 4294967296) = -2147483648 := by decide +kernel
  have := c12 4746794007248502784 (by decide) w
  rw [h] at this; exact this
theorem aw11 (w : World) : Calls Try.prog 11 #[.float .f64 13830554455654793216] w fun e w' => e = .returned (.int .u32 4294967295) ∧ w = w' := by
  have h : TI 13830554455654793216 % 4294967296 = 4294967295 := by decide +kernel
  have := c11 13830554455654793216 (by decide) w
  rw [h] at this; exact this
theorem aw14 (w : World) : Calls Try.prog 14 #[.float .f64 4617878467915022336, .float .f64 4611686018427387904] w fun e w' => e = .returned (.float .f64 4609434218613702656) ∧ w = w' := by
  refine (c14 _ _ (by decide) (by decide) w).mono ?_
  rintro e w' ⟨v, o, rfl, rfl, hR, hS⟩
  have hS' : RemSpec 4617878467915022336 4611686018427387904 (some 4609434218613702656) := by
    unfold RemSpec
    rw [if_neg (by decide +kernel), if_neg (by decide +kernel)]
    exact ⟨4609434218613702656, by decide, by decide +kernel, by decide +kernel⟩
  have := RemSpec_one hS hS'
  subst this
  exact ⟨ret_float hR.2.1, rfl⟩
theorem aw16 (w : World) : Calls Try.prog 16 #[.float .f64 4611686018427387904, .float .f64 13830554455654793216] w fun e w' => ∃ nq, e = .returned (.float .f64 4602678819172646912) ∧ w' = w.drewN nq := by
  refine (c16 _ _ (by decide) (by decide) w).mono ?_
  rintro e w' ⟨v, nq, rfl, rfl, hR⟩
  have h : powO 4611686018427387904 13830554455654793216 = some 4602678819172646912 := by decide +kernel
  rw [h] at hR
  exact ⟨nq, ret_float hR.2.1, rfl⟩
theorem aw21 (w : World) : Calls Try.prog 21 #[.float .f64 4607182418800017408, .float .f64 4629841154425225216] w fun e w' => e = .returned (.float .f64 4611686018427387904) ∧ w = w' := by
  have h : floatOfInt .f64 (wrap32 (wrap32 (TI 4607182418800017408 % 4294967296) * 2 ^ (TI 4629841154425225216 % 32).toNat)) = 4611686018427387904 := by decide +kernel
  have := c21 4607182418800017408 4629841154425225216 (by decide) (by decide) w
  rw [h] at this; exact this
theorem aw25 (w : World) : Calls Try.prog 25 #[.float .f64 13830554455654793216, .float .f64 0] w fun e w' => e = .returned (.float .f64 4751297606873776128) ∧ w = w' := by
  have h : floatOfInt .f64 ((TI 13830554455654793216 % 4294967296) / 2 ^ (TI 0 % 32).toNat) = 4751297606873776128 := by decide +kernel
  have := c25 13830554455654793216 0 (by decide) (by decide) w
  rw [h] at this; exact this
theorem eq_self {x : Nat} (h : x < 9218868437227405312) : (FloatKind.f64.format.order x x == some Ordering.eq) = true := by rw [ord_eq h h]; exact decide_eq_true rfl

/-- the first examples hold -/
theorem c10 (w : World) : Calls Try.prog 10 #[] w (TruePost w) := by
  have h1 := eq_self (x := 4609434218613702656) (by decide)
  have h2 := eq_self (x := 4602678819172646912) (by decide)
  have h3 := eq_self (x := 4611686018427387904) (by decide)
  have h4 := eq_self (x := 4751297606873776128) (by decide)
  go_enter Try.func10, Try.ntmps10
  go_wp2_with (first | (go_at_call 12; refine (aw12 _).mono ?_; rintro e w' ⟨rfl, rfl⟩) | (go_at_call 11; refine (aw11 _).mono ?_; rintro e w' ⟨rfl, rfl⟩) | (go_at_call 14; refine (aw14 _).mono ?_; rintro e w' ⟨rfl, rfl⟩) | (go_at_call 16; refine (aw16 _).mono ?_; rintro e w' ⟨nq, rfl, rfl⟩) | (go_at_call 21; refine (aw21 _).mono ?_; rintro e w' ⟨rfl, rfl⟩) | (go_at_call 25; refine (aw25 _).mono ?_; rintro e w' ⟨rfl, rfl⟩))
  go_ret
  exact ⟨nq, rfl, rfl⟩

/-- law 4: NumsRests -/
theorem c4 (a b : Nat) (ha : a < 18446744073709551616) (hb : b < 18446744073709551616) (w : World) :
    Calls Try.prog 4 #[.float .f64 a, .float .f64 b] w (TruePost w) := by
  go_enter Try.func4, Try.ntmps4
  go_wp2_with (go_at_call 10; refine (c10 _).mono ?_; rintro e w' ⟨n0, rfl, rfl⟩)
  refine (c14 a b ha hb _).mono ?_
  rintro e w' ⟨x, o, rfl, rfl, hx, hS⟩
  have HX := Lib.hid (And.intro hx hS)
  clear hx hS
  go_wp2_with fail
  refine (c15 a b ha hb _).mono ?_
  rintro e w' ⟨y, o', rfl, rfl, hy, hS'⟩
  have e1 := RemSpec_one HX.out.2 hS'
  subst e1
  have HY := Lib.hid hy
  clear hy hS'
  go_wp2_with (go_at_call 13; refine (c13 o _ _ HX.out.1 HY.out _).mono ?_; rintro e w' ⟨rfl, rfl⟩)
  go_ret
  exact ⟨n0, rfl, rfl⟩
/-- law 5: NumsPowers -/
theorem c5 (a b : Nat) (ha : a < 18446744073709551616) (hb : b < 18446744073709551616) (w : World) :
    Calls Try.prog 5 #[.float .f64 a, .float .f64 b] w (TruePost w) := by
  go_enter Try.func5, Try.ntmps5
  go_wp2_with (go_at_call 10; refine (c10 _).mono ?_; rintro e w' ⟨n0, rfl, rfl⟩)
  refine (c16 a b ha hb _).mono ?_
  rintro e w' ⟨x, n1, rfl, rfl, hx⟩
  have HX := Lib.hid hx
  clear hx
  go_wp2_with fail
  refine (c17 a b ha hb _).mono ?_
  rintro e w' ⟨y, n2, rfl, rfl, hy⟩
  have HY := Lib.hid hy
  clear hy
  go_wp2_with (go_at_call 13; refine (c13 _ _ _ HX.out HY.out _).mono ?_; rintro e w' ⟨rfl, rfl⟩)
  go_ret
  exact ⟨n0 + n1 + n2, rfl, by first | rfl | simp [World.drewN_drewN, Nat.add_assoc]⟩
/-- law 7: NumsShifts -/
theorem c7 (a b : Nat) (ha : a < 18446744073709551616) (hb : b < 18446744073709551616) (w : World) :
    Calls Try.prog 7 #[.float .f64 a, .float .f64 b] w (TruePost w) := by
  go_enter Try.func7, Try.ntmps7
  go_wp2_with (first | (go_at_call 10; refine (c10 _).mono ?_; rintro e w' ⟨n0, rfl, rfl⟩) | (go_at_call 21; refine (c21 a b ha hb _).mono ?_; rintro e w' ⟨rfl, rfl⟩) | (go_at_call 22; refine (c22 a b ha hb _).mono ?_; rintro e w' ⟨rfl, rfl⟩) | (go_at_call 23; refine (c23 a b ha hb _).mono ?_; rintro e w' ⟨rfl, rfl⟩) | (go_at_call 24; refine (c24 a b ha hb _).mono ?_; rintro e w' ⟨rfl, rfl⟩) | (go_at_call 25; refine (c25 a b ha hb _).mono ?_; rintro e w' ⟨rfl, rfl⟩) | (go_at_call 26; refine (c26 a b ha hb _).mono ?_; rintro e w' ⟨rfl, rfl⟩) | (go_at_call 27; refine (c27 a b ha hb _).mono ?_; rintro e w' ⟨rfl, rfl⟩) | (go_at_call 28; refine (c28 a b ha hb _).mono ?_; rintro e w' ⟨rfl, rfl⟩) | (go_at_call 13; refine (c13 _ _ _ (floatOfInt_R _) (floatOfInt_R _) _).mono ?_; rintro e w' ⟨rfl, rfl⟩))
  go_ret
  exact ⟨n0, rfl, rfl⟩
end Go.Proofs.Ytpkinhiolaookaa
