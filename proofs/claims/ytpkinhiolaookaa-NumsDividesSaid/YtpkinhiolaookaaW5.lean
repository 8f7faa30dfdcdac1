/-
  Contracts of functions of the packages nums, lintelref02 and math: what each call returns. Conditions: as each theorem says.
-/
import Derived.Test.YtpkinhiolaookaaW4
namespace Go.Proofs.Ytpkinhiolaookaa
open Go.RowKit F64
set_option maxHeartbeats 400000
attribute [local go_sem] r56 r55 neg_run

theorem c62_z (y : Nat) (hy : y < 18446744073709551616) (hfy : fin y = true) (h0 : 0 < rung y) (w : World) :
    Calls Try.prog 62 #[.float .f64 9223372036854775808, .float .f64 y] w fun e w' => e = .returned (.float .f64 9223372036854775808) ∧ w = w' := by
  have hfx : fin 9223372036854775808 = true := by decide
  have ht2 : (FloatKind.f64.format.order 9223372036854775808 0 == some Ordering.lt) = false := by
    rw [ord_lt0 hfx]; decide
  have hyl : rung y < 9218868437227405312 := of_decide_eq_true hfy
  have ht1 : (FloatKind.f64.format.order y 0 == some Ordering.eq) = false := by
    rw [ord_eq0 hfy]; exact decide_eq_false (by omega)
  have hV : SV 9223372036854775808 < SV (rung y) := by
    have := V_pos h0
    rw [SV_small (x := rung y) (by omega), show SV 9223372036854775808 = 0 by decide]; omega
  have ht3 : (FloatKind.f64.format.order 9223372036854775808 (rung y) == some Ordering.gt) = false := by
    rw [ord_fin_gt hfx (fin_small hyl)]; exact decide_eq_false (by omega)
  have ht4 : (FloatKind.f64.format.order 9223372036854775808 (rung y) == some Ordering.eq) = false := by
    rw [ord_fin_eq hfx (fin_small hyl)]; exact decide_eq_false (by omega)
  go_enter Try.func62, Try.ntmps62
  go_wp2_with (first | (go_at_call 18; refine (c18_ff _ (by omega) hfx _).mono ?_; rintro e w' ⟨rfl, rfl⟩) | (go_at_call 71; (with_reducible refine (c71_ff 9223372036854775808 hfx _).mono ?_); rintro e w' ⟨rfl, rfl⟩) | (go_at_call 71; (with_reducible refine (c71_ff y hfy _).mono ?_); rintro e w' ⟨rfl, rfl⟩) | (go_at_call 19; refine (c19 _ hy _).mono ?_; rintro e w' ⟨rfl, rfl⟩) | (go_at_call 72; refine (c72 _ h0 hyl _).mono ?_; rintro e w' ⟨rfl, rfl⟩))
  refine wp_loop_rounds 1 ?_
  rw [rounds_succ]
  go_wp2_with fail
  go_ret
  exact ⟨rfl, rfl⟩
/-- math.mod of finite numbers, the divisor not nought: the rest has the dividend's sign -/
theorem c62 (x y : Nat) (hx : x < 18446744073709551616) (hfx : fin x = true) (hy : y < 18446744073709551616) (hfy : fin y = true) (h0 : 0 < rung y) (w : World) :
    Calls Try.prog 62 #[.float .f64 x, .float .f64 y] w fun e w' => ∃ r, r < 9218868437227405312 ∧ V r = V (rung x) % V (rung y) ∧ e = .returned (.float .f64 (wd (sgn x) r)) ∧ w = w' := by
  have hl : rung x < 9218868437227405312 := of_decide_eq_true hfx
  have hp := wd_parts x hx
  cases hs : sgn x
  · rw [hs] at hp
    have e : rung x = x := hp
    rw [e] at hl ⊢
    exact c62_p x y hl hy hfy h0 w
  · rcases Nat.eq_zero_or_pos (rung x) with hr | hr
    · rw [hs, hr] at hp
      have e : x = 9223372036854775808 := hp.symm
      subst e
      refine (c62_z y hy hfy h0 w).mono ?_
      rintro e w' ⟨rfl, rfl⟩
      exact ⟨0, by decide, by rw [hr, V_zero, Nat.zero_mod], rfl, rfl⟩
    · exact c62_n x y hx hfx hs hr hy hfy h0 w
/-- math.Mod likewise -/
theorem c46 (x y : Nat) (hx : x < 18446744073709551616) (hfx : fin x = true) (hy : y < 18446744073709551616) (hfy : fin y = true) (h0 : 0 < rung y) (w : World) :
    Calls Try.prog 46 #[.float .f64 x, .float .f64 y] w fun e w' => ∃ r, r < 9218868437227405312 ∧ V r = V (rung x) % V (rung y) ∧ e = .returned (.float .f64 (wd (sgn x) r)) ∧ w = w' := by
  go_enter Try.func46, Try.ntmps46
  go_wp2_with (go_at_call 62; refine (c62 _ _ hx hfx hy hfy h0 _).mono ?_; rintro e w' ⟨r, hr, hv, rfl, rfl⟩; have Hv := Lib.hid hv; clear hv)
  go_ret
  exact ⟨r, hr, Hv.out, rfl, rfl⟩
end Go.Proofs.Ytpkinhiolaookaa
