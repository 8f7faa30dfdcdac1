/-
  Contracts of functions of the packages nums, lintelref02 and math: what each call returns. Conditions: as each theorem says.
-/
import Derived.Test.YtpkinhiolaookaaRows
import Derived.Test.YtpkinhiolaookaaG64
import Derived.WalkKit
import Derived.WalkSpells
import Derived.WalkLawsBesides
import Derived.Deep.QuietTactic
import Derived.BigQuiet
import Derived.Lib.Hide
namespace Go.Proofs.Ytpkinhiolaookaa
open Go.RowKit F64
set_option maxHeartbeats 400000

theorem ret_bool {a b : Bool} (h : a = b) : Ending.returned (.bool a) = .returned (.bool b) := by rw [h]
theorem ret_float {k : FloatKind} {a b : Nat} (h : a = b) : Ending.returned (.float k a) = .returned (.float k b) := by rw [h]
theorem ret_int {k : IntKind} {a b : Int} (h : a = b) : Ending.returned (.int k a) = .returned (.int k b) := by rw [h]
theorem r56 (x : Nat) (w : World) : (callFunc 56 #[.float .f64 x]).run Try.prog w = .ok (.value (.int .u64 x)) w := by kernel_rfl
theorem r55 (x : Int) (w : World) : (callFunc 55 #[.int .u64 x]).run Try.prog w = .ok (.value (.float .f64 x.toNat)) w := by kernel_rfl
theorem neg_run (x : Nat) (w : World) : (Op.unary .neg (.float .f64 x)).run Try.prog w = .ok (.float .f64 (x ^^^ 9223372036854775808)) w := by kernel_rfl
attribute [local go_sem] r56 r55 neg_run

theorem c19 (x : Nat) (hx : x < 18446744073709551616) (w : World) :
    Calls Try.prog 19 #[.float .f64 x] w fun e w' => e = .returned (.float .f64 (rung x)) ∧ w = w' := by
  go_enter Try.func19, Try.ntmps19
  go_wp2
  go_ret
  exact ⟨by rw [b_abs hx]; rfl, rfl⟩
theorem c44 (w : World) :
    Calls Try.prog 44 #[] w fun e w' => e = .returned (.float .f64 9221120237041090561) ∧ w = w' := by
  go_enter Try.func44, Try.ntmps44
  go_wp2
  go_ret
  exact ⟨rfl, rfl⟩
theorem c20 (x : Nat) (hx : x < 18446744073709551616) (w : World) :
    Calls Try.prog 20 #[.float .f64 x] w fun e w' => e = .returned (.bool (sgn x)) ∧ w = w' := by
  go_enter Try.func20, Try.ntmps20
  go_wp2
  go_ret
  exact ⟨ret_bool (by rw [w64_neg hx]), rfl⟩
theorem c45 (x y : Nat) (hx : x < 18446744073709551616) (hy : y < 18446744073709551616) (w : World) :
    Calls Try.prog 45 #[.float .f64 x, .float .f64 y] w fun e w' => e = .returned (.float .f64 (wd (sgn y) (rung x))) ∧ w = w' := by
  go_enter Try.func45, Try.ntmps45
  go_wp2
  go_ret
  exact ⟨by rw [b_abs hx, b_sgn hy, b_join _ (rung_lt x)]; rfl, rfl⟩
theorem c43 (x : Nat) (w : World) :
    Calls Try.prog 43 #[.float .f64 x] w fun e w' => e = .returned (.bool (isNaN x)) ∧ w = w' := by
  go_enter Try.func43, Try.ntmps43
  go_wp2
  go_ret
  exact ⟨ret_bool (by rw [ord_self]), rfl⟩
theorem c47 (x : Nat) (w : World) :
    Calls Try.prog 47 #[.float .f64 x] w fun e w' => e = .returned (.bool (isNaN x)) ∧ w = w' := by
  go_enter Try.func47, Try.ntmps47
  go_wp2
  go_ret
  exact ⟨ret_bool (by rw [ord_self]), rfl⟩
theorem c71 (x : Nat) (w : World) :
    Calls Try.prog 71 #[.float .f64 x] w fun e w' => e = .returned (.bool (isNaN x)) ∧ w = w' := by
  go_enter Try.func71, Try.ntmps71
  go_wp2
  go_ret
  exact ⟨ret_bool (by rw [ord_self]), rfl⟩
/-- IsInf(x, 0) -/
theorem c18_0 (x : Nat) (hx : x < 18446744073709551616) (w : World) :
    Calls Try.prog 18 #[.float .f64 x, .int .i64 0] w fun e w' => e = .returned (.bool (decide (rung x = 9218868437227405312))) ∧ w = w' := by
  go_enter Try.func18, Try.ntmps18
  go_wp2_with (go_at_call 19; refine (c19 _ hx _).mono ?_; rintro e w' ⟨rfl, rfl⟩)
  go_ret
  exact ⟨ret_bool (by rw [ord_max (by have := rung_lt x; omega)]), rfl⟩
theorem c18_1 (x : Nat) (hx : x < 18446744073709551616) (w : World) :
    Calls Try.prog 18 #[.float .f64 x, .int .i64 1] w fun e w' => e = .returned (.bool (decide (x = 9218868437227405312))) ∧ w = w' := by
  go_enter Try.func18, Try.ntmps18
  go_wp2_with fail
  go_ret
  exact ⟨ret_bool (by rw [ord_max hx]), rfl⟩
theorem c18_m (x : Nat) (hx : x < 18446744073709551616) (w : World) :
    Calls Try.prog 18 #[.float .f64 x, .int .i64 (-1)] w fun e w' => e = .returned (.bool (decide (x = 18442240474082181120))) ∧ w = w' := by
  go_enter Try.func18, Try.ntmps18
  go_wp2_with fail
  go_ret
  have hl := rung_lt x
  have hp := wd_parts x hx
  exact ⟨ret_bool (by
    rw [b_neg hx, ord_max (wd_lt _ _ hl)]
    unfold wd at hp ⊢
    rw [decide_eq_decide]
    cases hs : sgn x <;> simp [hs] at hp ⊢ <;> omega), rfl⟩
theorem c50_1 (w : World) :
    Calls Try.prog 50 #[.int .i64 1] w fun e w' => e = .returned (.float .f64 9218868437227405312) ∧ w = w' := by
  go_enter Try.func50, Try.ntmps50
  go_wp2
  go_ret
  exact ⟨rfl, rfl⟩
theorem c50_m (w : World) :
    Calls Try.prog 50 #[.int .i64 (-1)] w fun e w' => e = .returned (.float .f64 18442240474082181120) ∧ w = w' := by
  go_enter Try.func50, Try.ntmps50
  go_wp2
  go_ret
  exact ⟨rfl, rfl⟩
theorem c48 (x : Nat) (hx : x < 18446744073709551616) (w : World) :
    Calls Try.prog 48 #[.float .f64 x] w fun e w' => e = .returned (.bool (decide (rung x = 9218868437227405312))) ∧ w = w' := by
  go_enter Try.func48, Try.ntmps48
  go_wp2_with (go_at_call 18; refine (c18_0 _ hx _).mono ?_; rintro e w' ⟨rfl, rfl⟩)
  go_ret
  exact ⟨rfl, rfl⟩
end Go.Proofs.Ytpkinhiolaookaa
