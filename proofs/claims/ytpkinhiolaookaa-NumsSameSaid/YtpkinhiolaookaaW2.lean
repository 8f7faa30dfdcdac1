/-
  Contracts of functions of the packages nums, lintelref02 and math: what each call returns. Conditions: as each theorem says.
-/
import Derived.Test.YtpkinhiolaookaaW1
import Derived.Test.YtpkinhiolaookaaK64
namespace Go.Proofs.Ytpkinhiolaookaa
open Go.RowKit F64
set_option maxHeartbeats 400000
attribute [local go_sem] r56 r55 neg_run

theorem c18_f (x : Nat) (hx : x < 9218868437227405312) (w : World) :
    Calls Try.prog 18 #[.float .f64 x, .int .i64 0] w fun e w' => e = .returned (.bool false) ∧ w = w' := by
  refine (c18_0 x (by omega) w).mono ?_
  rintro e w' ⟨rfl, rfl⟩
  exact ⟨ret_bool (by rw [rung_small (by omega)]; exact decide_eq_false (by omega)), rfl⟩
theorem c71_f (x : Nat) (hx : x < 9218868437227405312) (w : World) :
    Calls Try.prog 71 #[.float .f64 x] w fun e w' => e = .returned (.bool false) ∧ w = w' := by
  refine (c71 x w).mono ?_
  rintro e w' ⟨rfl, rfl⟩
  exact ⟨ret_bool (by unfold isNaN; rw [rung_small (by omega)]; exact decide_eq_false (by omega)), rfl⟩
theorem c77_n (x : Nat) (h : 4503599627370496 ≤ x) (hx : x < 9218868437227405312) (w : World) :
    Calls Try.prog 77 #[.float .f64 x] w fun e w' => e = .returned (.tuple #[.float .f64 (nz x), .int .i64 0]) ∧ w = w' := by
  have ht : (FloatKind.f64.format.order (rung x) 4503599627370496 == some Ordering.lt) = false := by
    rw [rung_small (by omega), ord_lt hx (by decide)]; exact decide_eq_false (by omega)
  have hn : nz x = x := by unfold nz; rw [if_neg (by omega)]
  rw [hn]
  clear hn
  go_enter Try.func77, Try.ntmps77
  go_wp2_with (go_at_call 19; refine (c19 _ (by omega) _).mono ?_; rintro e w' ⟨rfl, rfl⟩)
  go_ret2
  exact ⟨rfl, rfl⟩
theorem c77_s (x : Nat) (h0 : 0 < x) (hx : x < 4503599627370496) (w : World) :
    Calls Try.prog 77 #[.float .f64 x] w fun e w' => e = .returned (.tuple #[.float .f64 (nz x), .int .i64 (-52)]) ∧ w = w' := by
  have ht : (FloatKind.f64.format.order (rung x) 4503599627370496 == some Ordering.lt) = true := by
    rw [rung_small (by omega), ord_lt (by omega) (by decide)]; exact decide_eq_true hx
  have hm := fun w => run_float_arith (P := Try.prog) w .mul 23 .f64 x 4841369599423283200 (nz x) (norm_mul h0 hx)
  go_enter Try.func77, Try.ntmps77
  go_wp2_with (go_at_call 19; refine (c19 _ (by omega) _).mono ?_; rintro e w' ⟨rfl, rfl⟩)
  go_ret2
  exact ⟨rfl, rfl⟩

/-- what frexp hands back -/
theorem ret_fi {a b : Nat} {m n : Int} (h : a = b) (k : m = n) : Ending.returned (.tuple #[.float .f64 a, .int .i64 m]) = .returned (.tuple #[.float .f64 b, .int .i64 n]) := by rw [h, k]
theorem frexp_word (x : Nat) (h0 : 0 < x) (hx : x < 9218868437227405312) :
    (bits BinOp.or IntKind.u64 (bits BinOp.andNot IntKind.u64 (nz x : Int) 9218868437227405312) 4602678819172646912).toNat = 4598175219545276416 + nm x := by
  have hb := nm_bounds h0
  have hz := nz_lt h0 hx
  rw [b_frac (by omega), b_half (by omega), nz_mod h0]
  omega
theorem c76_n (x : Nat) (h : 4503599627370496 ≤ x) (hx : x < 9218868437227405312) (w : World) :
    Calls Try.prog 76 #[.float .f64 x] w fun e w' => e = .returned (.tuple #[.float .f64 (4598175219545276416 + nm x), .int .i64 ((ne x : Int) - 1073)]) ∧ w = w' := by
  have ht : (FloatKind.f64.format.order x 0 == some Ordering.eq) = false := by
    rw [ord_eq hx (by decide)]; exact decide_eq_false (by omega)
  go_enter Try.func76, Try.ntmps76
  go_wp2_with (first | (go_at_call 18; refine (c18_f _ hx _).mono ?_; rintro e w' ⟨rfl, rfl⟩) | (go_at_call 71; refine (c71_f _ hx _).mono ?_; rintro e w' ⟨rfl, rfl⟩) | (go_at_call 77; refine (c77_n _ h hx _).mono ?_; rintro e w' ⟨rfl, rfl⟩))
  go_ret2
  refine ⟨ret_fi (frexp_word x (by omega) hx) ?_, rfl⟩
  have hz := nz_lt (by omega) hx
  have hg := ne_ge h
  have hl := ne_le (by omega) hx
  rw [b_exp_u (by omega), nz_field (by omega), if_neg (by omega)]
  unfold wrap64
  omega
theorem c76_s (x : Nat) (h0 : 0 < x) (h : x < 4503599627370496) (w : World) :
    Calls Try.prog 76 #[.float .f64 x] w fun e w' => e = .returned (.tuple #[.float .f64 (4598175219545276416 + nm x), .int .i64 ((ne x : Int) - 1073)]) ∧ w = w' := by
  have hx : x < 9218868437227405312 := by omega
  have ht : (FloatKind.f64.format.order x 0 == some Ordering.eq) = false := by
    rw [ord_eq hx (by decide)]; exact decide_eq_false (by omega)
  go_enter Try.func76, Try.ntmps76
  go_wp2_with (first | (go_at_call 18; refine (c18_f _ hx _).mono ?_; rintro e w' ⟨rfl, rfl⟩) | (go_at_call 71; refine (c71_f _ hx _).mono ?_; rintro e w' ⟨rfl, rfl⟩) | (go_at_call 77; refine (c77_s _ h0 h _).mono ?_; rintro e w' ⟨rfl, rfl⟩))
  go_ret2
  refine ⟨ret_fi (frexp_word x (by omega) hx) ?_, rfl⟩
  have hz := nz_lt (by omega) hx
  have hl := ne_le (by omega) hx
  rw [b_exp_u (by omega), nz_field (by omega), if_pos h]
  unfold wrap64
  omega
theorem c76 (x : Nat) (h0 : 0 < x) (hx : x < 9218868437227405312) (w : World) :
    Calls Try.prog 76 #[.float .f64 x] w fun e w' => e = .returned (.tuple #[.float .f64 (4598175219545276416 + nm x), .int .i64 ((ne x : Int) - 1073)]) ∧ w = w' := by
  rcases Nat.lt_or_ge x 4503599627370496 with h | h
  · exact c76_s x h0 h w
  · exact c76_n x h hx w
/-- math.Frexp of a positive number -/
theorem c72 (x : Nat) (h0 : 0 < x) (hx : x < 9218868437227405312) (w : World) :
    Calls Try.prog 72 #[.float .f64 x] w fun e w' => e = .returned (.tuple #[.float .f64 (4598175219545276416 + nm x), .int .i64 ((ne x : Int) - 1073)]) ∧ w = w' := by
  go_enter Try.func72, Try.ntmps72
  go_wp2_with (go_at_call 76; refine (c76 _ h0 hx _).mono ?_; rintro e w' ⟨rfl, rfl⟩)
  go_ret2
  exact ⟨rfl, rfl⟩
end Go.Proofs.Ytpkinhiolaookaa
