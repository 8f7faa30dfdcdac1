/-
  Plain facts: floats that may be NaN; the operations on them. Conditions: as each theorem says.
-/
import Derived.Test.YtpkinhiolaookaaN64
import Derived.Deep.Quiet
namespace F64
open Ieee Go Go.RowKit

theorem isNaN_wd {s : Bool} {r : Nat} (h : r < 9223372036854775808) : isNaN (wd s r) = decide (9218868437227405312 < r) := by
  unfold isNaN; rw [rung_wd _ _ h]
theorem nearest_num (s : Bool) (m : Nat) (e : Int) : ∃ r, r ≤ 9218868437227405312 ∧ double.nearest s m e = wd s r := by
  unfold Format.nearest
  split
  · exact ⟨0, by decide, d_word _ _⟩
  · refine ⟨_, ?_, d_word _ _⟩
    rw [d_inf]; exact Nat.min_le_right _ _
/-- writing a number or an infinity is no NaN -/
theorem write_num {d : Datum} (h : d.isNaN = false) : isNaN (double.write d) = false ∧ double.write d < 18446744073709551616 := by
  have key : ∀ (s : Bool) (r : Nat), r ≤ 9218868437227405312 → isNaN (wd s r) = false ∧ wd s r < 18446744073709551616 := by
    intro s r hr
    exact ⟨by rw [isNaN_wd (by omega)]; exact decide_eq_false (by omega), wd_lt _ _ (by omega)⟩
  cases d with
  | number s m e =>
    obtain ⟨r, hr, he⟩ := nearest_num s m e
    simp only [Format.write]; rw [he]; exact key s r hr
  | infinity s => simp only [Format.write]; rw [d_word, d_inf]; exact key s _ (Nat.le_refl _)
  | nan s f => simp [Datum.isNaN] at h

theorem product_num {x y d : Datum} (h : x.product y = some d) : d.isNaN = false := by
  cases x <;> cases y <;> simp only [Datum.product] at h <;> (try split at h) <;> first | (cases h; rfl) | cases h
theorem sum_num {x y d : Datum} (h : x.sum y = some d) : d.isNaN = false := by
  cases x <;> cases y <;> simp only [Datum.sum] at h <;> (try split at h) <;> first | (cases h; rfl) | cases h
theorem quotient_num {k : Nat} {x y d : Datum} (h : x.quotient k y = some d) : d.isNaN = false := by
  cases x <;> cases y <;> simp only [Datum.quotient] at h <;> (try split at h) <;> (try split at h) <;> first | (cases h; rfl) | cases h
theorem root_num {k : Nat} {x d : Datum} (h : x.root k = some d) : d.isNaN = false := by
  cases x <;> simp only [Datum.root] at h <;> (try split at h) <;> (try split at h) <;> first | (cases h; rfl) | cases h

theorem read_isNaN (x : Nat) : (double.read x).isNaN = isNaN x := by
  unfold isNaN
  rcases Nat.lt_trichotomy (rung x) 9218868437227405312 with h | h | h
  · rw [read_fin (decide_eq_true h), decide_eq_false (by omega)]; rfl
  · rw [read_inf h, decide_eq_false (by omega)]; rfl
  · obtain ⟨f, hf⟩ := read_nan (decide_eq_true h)
    rw [hf, decide_eq_true h]; rfl

/-- a float as what it is: a word that is no NaN, or NaN -/
def R (o : Option Nat) (v : Nat) : Prop := v < 18446744073709551616 ∧ match o with | some x => v = x ∧ isNaN x = false | none => isNaN v = true
theorem R_some {x : Nat} (hx : x < 18446744073709551616) (h : isNaN x = false) : R (some x) x := ⟨hx, rfl, h⟩
theorem R_none {x : Nat} (hx : x < 18446744073709551616) (h : isNaN x = true) : R none x := ⟨hx, h⟩
def lift2 (f : Nat → Nat → Option Nat) : Option Nat → Option Nat → Option Nat
  | some x, some y => f x y
  | _, _ => none
def om := lift2 double.mul
def oa := lift2 double.add
def od := lift2 double.div

theorem nan_left {x y : Nat} (h : isNaN x = true) : double.mul x y = none ∧ double.add x y = none ∧ double.div x y = none := by
  obtain ⟨f, hf⟩ := read_nan h
  unfold Format.mul Format.add Format.div
  rw [hf]
  exact ⟨rfl, rfl, rfl⟩
theorem nan_right {x y : Nat} (h : isNaN y = true) : double.mul x y = none ∧ double.add x y = none ∧ double.div x y = none := by
  obtain ⟨f, hf⟩ := read_nan h
  unfold Format.mul Format.add Format.div
  rw [hf]
  cases double.read x <;> exact ⟨rfl, rfl, rfl⟩

theorem map_write {o : Option Datum} {r : Nat} (h : o.map double.write = some r) (hn : ∀ d, o = some d → d.isNaN = false) : isNaN r = false ∧ r < 18446744073709551616 := by
  cases o with
  | none => cases h
  | some d => cases h; exact write_num (hn d rfl)
theorem mul_num {x y r : Nat} (h : double.mul x y = some r) : isNaN r = false ∧ r < 18446744073709551616 := map_write h fun _ => product_num
theorem add_num {x y r : Nat} (h : double.add x y = some r) : isNaN r = false ∧ r < 18446744073709551616 := map_write h fun _ => sum_num
theorem div_num {x y r : Nat} (h : double.div x y = some r) : isNaN r = false ∧ r < 18446744073709551616 := map_write h fun _ => quotient_num
theorem sqrt_num {x r : Nat} (h : double.sqrt x = some r) : isNaN r = false ∧ r < 18446744073709551616 := map_write h fun _ => root_num

theorem cut_nan (x y t : Nat) : isNaN ((Question.nanBits .f64 x y).cut t) = true ∧ (Question.nanBits .f64 x y).cut t < 18446744073709551616 := by
  have h : (Question.nanBits .f64 x y).cut t = (t % 2) * 9223372036854775808 + 9218868437227405312 + 1 + (t / 2) % 4503599627370495 := rfl
  rw [h]
  have h1 : (t / 2) % 4503599627370495 < 4503599627370495 := Nat.mod_lt _ (by decide)
  have h2 : t % 2 = 0 ∨ t % 2 = 1 := by omega
  constructor
  · unfold isNaN rung
    apply decide_eq_true
    rcases h2 with h2 | h2 <;> rw [h2] <;> omega
  · rcases h2 with h2 | h2 <;> rw [h2] <;> omega

section
variable {P : Program}
theorem run_float_none (w : World) (op : BinOp) (t : TypeId) (x y : Nat) (ho : op = .mul ∨ op = .add ∨ op = .quo) (h : floatBits op .f64 x y = none) :
    (binOp op t (.float .f64 x) (.float .f64 y)).run P w = .ok (.float .f64 ((Question.nanBits .f64 x y).cut (w.tape w.drawn (.nanBits .f64 x y)))) w.drew := by
  rcases ho with rfl | rfl | rfl <;> simp only [floatBits] at h <;> simp [binOp, Op.floatArith, h, choose] <;> rfl
theorem run_float_any (w : World) (op : BinOp) (t : TypeId) (o o' : Option Nat) (x y : Nat) (ho : op = .mul ∨ op = .add ∨ op = .quo) (hx : R o x) (hy : R o' y) :
    ∃ v nq, (binOp op t (.float .f64 x) (.float .f64 y)).run P w = .ok (.float .f64 v) (w.drewN nq) ∧ R (lift2 (fun a b => floatBits op .f64 a b) o o') v := by
  have key : floatBits op .f64 x y = lift2 (fun a b => floatBits op .f64 a b) o o' := by
    cases o with
    | none =>
      have := nan_left (y := y) hx.2
      rcases ho with rfl | rfl | rfl
      · exact this.1
      · exact this.2.1
      · exact this.2.2
    | some a =>
      obtain ⟨hxl, rfl, hxn⟩ := hx
      cases o' with
      | none =>
        have := nan_right (x := x) hy.2
        rcases ho with rfl | rfl | rfl
        · exact this.1
        · exact this.2.1
        · exact this.2.2
      | some b =>
        obtain ⟨hyl, rfl, hyn⟩ := hy
        rfl
  rw [← key]
  cases h : floatBits op .f64 x y with
  | none =>
    have hc := cut_nan x y (w.tape w.drawn (.nanBits .f64 x y))
    exact ⟨_, 1, run_float_none w op t x y ho h, hc.2, hc.1⟩
  | some r =>
    have hr : isNaN r = false ∧ r < 18446744073709551616 := by
      rcases ho with rfl | rfl | rfl
      · exact mul_num h
      · exact add_num h
      · exact div_num h
    exact ⟨r, 0, run_float_arith w op t .f64 x y r h, hr.2, rfl, hr.1⟩
end
end F64
