/-
  Contracts of functions of the packages nums, lintelref02 and math: what each call returns. Conditions: as each theorem says.
-/
import Derived.Test.YtpkinhiolaookaaW5
import Derived.Laws.Externs
namespace Go.Proofs.Ytpkinhiolaookaa
open Go.RowKit F64
set_option maxHeartbeats 400000
attribute [local go_sem] r56 r55 neg_run

theorem e64 (args : Array Value) (w : World) : (callFunc 64 args).run Try.prog w = ((Extern.MathFloor.toIntegral "math.archTrunc" .zero args).run Try.prog w).andThen fun v w' => .ok (.value v) w' :=
  run_callFunc_extern Try.func64 (by kernel_rfl) (by kernel_rfl) (by kernel_rfl) (by kernel_rfl) args w
theorem e67 (args : Array Value) (w : World) : (callFunc 67 args).run Try.prog w = ((Extern.MathDim.pick "math.archMin" true .lt args).run Try.prog w).andThen fun v w' => .ok (.value v) w' :=
  run_callFunc_extern Try.func67 (by kernel_rfl) (by kernel_rfl) (by kernel_rfl) (by kernel_rfl) args w
theorem e69 (args : Array Value) (w : World) : (callFunc 69 args).run Try.prog w = ((Extern.MathDim.pick "math.archMax" false .gt args).run Try.prog w).andThen fun v w' => .ok (.value v) w' :=
  run_callFunc_extern Try.func69 (by kernel_rfl) (by kernel_rfl) (by kernel_rfl) (by kernel_rfl) args w
theorem e63 (args : Array Value) (w : World) : (callFunc 63 args).run Try.prog w = ((Extern.MathSqrt.sqrt args).run Try.prog w).andThen fun v w' => .ok (.value v) w' :=
  run_callFunc_extern Try.func63 (by kernel_rfl) (by kernel_rfl) (by kernel_rfl) (by kernel_rfl) args w

theorem ti_num (nm : String) (way : Ieee.Toward) (x : Nat) (s : Bool) (m : Nat) (e : Int) (hd : FloatKind.f64.decode x = .number s m e) :
    Extern.MathFloor.toIntegral nm way #[.float .f64 x] = Sem.pure (.float .f64 (FloatKind.f64.encode ((Ieee.Datum.number s m e).integral way))) := by
  obtain ⟨g, h⟩ : ∃ g : Bool → Nat → Sem Value, Extern.MathFloor.toIntegral nm way #[.float .f64 x] = (match FloatKind.f64.decode x with
    | .nan s t => g s t
    | d => pure (.float .f64 (FloatKind.f64.encode (d.integral way)))) := ⟨_, rfl⟩
  rw [h, hd]; rfl
theorem ti_inf (nm : String) (way : Ieee.Toward) (x : Nat) (s : Bool) (hd : FloatKind.f64.decode x = .infinity s) :
    Extern.MathFloor.toIntegral nm way #[.float .f64 x] = Sem.pure (.float .f64 (FloatKind.f64.encode (.infinity s))) := by
  obtain ⟨g, h⟩ : ∃ g : Bool → Nat → Sem Value, Extern.MathFloor.toIntegral nm way #[.float .f64 x] = (match FloatKind.f64.decode x with
    | .nan s t => g s t
    | d => pure (.float .f64 (FloatKind.f64.encode (d.integral way)))) := ⟨_, rfl⟩
  rw [h, hd]; rfl
theorem r64_fin (x t : Nat) (hx : fin x = true) (ht : t < 9218868437227405312) (hv : V t = V (rung x) / U * U) (w : World) :
    (callFunc 64 #[.float .f64 x]).run Try.prog w = .ok (.value (.float .f64 (wd (sgn x) t))) w := by
  have h2 : FloatKind.f64.encode ((Ieee.double.read x).integral .zero) = wd (sgn x) t := by
    rw [integral_fin hx]
    exact write_whole (sgn x) _ t ht hv
  have h3 := read_fin hx
  rw [h3] at h2
  rw [e64, ti_num _ _ _ _ _ _ h3, h2]
  rfl
theorem r64_inf (x : Nat) (hxl : x < 18446744073709551616) (hx : rung x = 9218868437227405312) (w : World) :
    (callFunc 64 #[.float .f64 x]).run Try.prog w = .ok (.value (.float .f64 x)) w := by
  have h1 : FloatKind.f64.decode x = .infinity (sgn x) := read_inf hx
  have h2 : FloatKind.f64.encode (.infinity (sgn x)) = x := by
    have hp := wd_parts x hxl
    rw [hx] at hp
    show Ieee.double.word (sgn x) Ieee.double.infRung = x
    rw [d_word, d_inf]; exact hp
  rw [e64, ti_inf _ _ _ _ h1, h2]
  rfl
/-- math.Trunc of a finite number -/
theorem c52 (x : Nat) (hx : fin x = true) (w : World) :
    Calls Try.prog 52 #[.float .f64 x] w fun e w' => ∃ t, t < 9218868437227405312 ∧ V t = V (rung x) / U * U ∧ e = .returned (.float .f64 (wd (sgn x) t)) ∧ w = w' := by
  obtain ⟨t, ht, hv⟩ := whole_rep (of_decide_eq_true hx)
  have hr := r64_fin x t hx ht hv
  have Hv := Lib.hid hv
  clear hv
  go_enter Try.func52, Try.ntmps52
  go_wp2
  go_ret
  exact ⟨t, ht, Hv.out, rfl, rfl⟩
theorem c52_inf (x : Nat) (hxl : x < 18446744073709551616) (hx : rung x = 9218868437227405312) (w : World) :
    Calls Try.prog 52 #[.float .f64 x] w fun e w' => e = .returned (.float .f64 x) ∧ w = w' := by
  have hr := r64_inf x hxl hx
  clear hx
  go_enter Try.func52, Try.ntmps52
  go_wp2
  go_ret
  exact ⟨rfl, rfl⟩
end Go.Proofs.Ytpkinhiolaookaa
