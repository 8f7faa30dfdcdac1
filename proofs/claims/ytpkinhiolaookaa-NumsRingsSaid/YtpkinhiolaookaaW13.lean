/-
  Contracts of functions of the packages nums, lintelref02 and math: what each call returns. Conditions: as each theorem says.
-/
import Derived.Test.YtpkinhiolaookaaW12
namespace Go.Proofs.Ytpkinhiolaookaa
open Go.RowKit F64
set_option maxHeartbeats 400000
attribute [local go_sem] r56 r55 neg_run

theorem c43_is {x : Nat} {b : Bool} (h : isNaN x = b) (w : World) : Calls Try.prog 43 #[.float .f64 x] w fun e w' => e = .returned (.bool b) ∧ w = w' := by rw [← h]; exact c43 x w
theorem c47_is {x : Nat} {b : Bool} (h : isNaN x = b) (w : World) : Calls Try.prog 47 #[.float .f64 x] w fun e w' => e = .returned (.bool b) ∧ w = w' := by rw [← h]; exact c47 x w

/-- answers alike -/
theorem c32_2 (o : Option Nat) (x y : Nat) (hx : R o x) (hy : R o y) (w : World) :
    Calls Try.prog 32 #[.float .f64 x, .float .f64 y, .int .i64 2] w fun e w' => e = .returned (.bool true) ∧ w = w' := by
  cases o with
  | none =>
    have H1 := Lib.hid (c47_is hx.2)
    have H2 := Lib.hid (c47_is hy.2)
    clear hx hy
    go_enter Try.func32, Try.ntmps32
    go_wp2_with (first | (go_at_call 47; (with_reducible refine (H1.out _).mono ?_); rintro e w' ⟨rfl, rfl⟩) | (go_at_call 47; (with_reducible refine (H2.out _).mono ?_); rintro e w' ⟨rfl, rfl⟩))
    go_ret
    exact ⟨rfl, rfl⟩
  | some z =>
    obtain ⟨hl, rfl, hn⟩ := hx
    obtain ⟨_, rfl, _⟩ := hy
    have H1 := Lib.hid (c47_is hn)
    have hs : (FloatKind.f64.format.order y y == some Ordering.eq) = true := by
      have := ord_self y
      rw [hn] at this
      simpa [bne] using this
    clear hn
    go_enter Try.func32, Try.ntmps32
    go_wp2_with (first | (go_at_call 47; (with_reducible refine (H1.out _).mono ?_); rintro e w' ⟨rfl, rfl⟩) | (go_at_call 20; refine (c20 y hl _).mono ?_; rintro e w' ⟨rfl, rfl⟩))
    go_ret
    exact ⟨ret_bool (by simp), rfl⟩
theorem c42 (o : Option Nat) (x y : Nat) (hx : R o x) (hy : R o y) (w : World) :
    Calls Try.prog 42 #[.float .f64 x, .float .f64 y] w fun e w' => e = .returned (.bool true) ∧ w = w' := by
  have H := Lib.hid (c32_2 o x y hx hy)
  clear hx hy
  go_enter Try.func42, Try.ntmps42
  go_wp2_with (go_at_call 32; refine (H.out _).mono ?_; rintro e w' ⟨rfl, rfl⟩)
  go_ret
  exact ⟨rfl, rfl⟩
theorem c13 (o : Option Nat) (x y : Nat) (hx : R o x) (hy : R o y) (w : World) :
    Calls Try.prog 13 #[.float .f64 x, .float .f64 y] w fun e w' => e = .returned (.bool true) ∧ w = w' := by
  have H := Lib.hid (c42 o x y hx hy)
  clear hx hy
  go_enter Try.func13, Try.ntmps13
  go_wp2_with (go_at_call 42; refine (H.out _).mono ?_; rintro e w' ⟨rfl, rfl⟩)
  go_ret
  exact ⟨rfl, rfl⟩

/-- the rest of a division, as it is -/
def RemSpec (a b : Nat) (o : Option Nat) : Prop :=
  if isNaN a = true ∨ isNaN b = true ∨ rung a = 9218868437227405312 ∨ rung b = 0 then o = none
  else if rung b = 9218868437227405312 ∨ rung a = 0 then o = some a
  else ∃ r, r < 9218868437227405312 ∧ V r = V (rung a) % V (rung b) ∧ o = some (wd (sgn a) r)
theorem RemSpec_one {a b : Nat} {o o' : Option Nat} (h : RemSpec a b o) (h' : RemSpec a b o') : o = o' := by
  unfold RemSpec at h h'
  split at h
  · rename_i hc; rw [if_pos hc] at h'; rw [h, h']
  · rename_i hc; rw [if_neg hc] at h'
    split at h
    · rename_i hc2; rw [if_pos hc2] at h'; rw [h, h']
    · rename_i hc2; rw [if_neg hc2] at h'
      obtain ⟨r, _, h1, h2⟩ := h
      obtain ⟨r', _, h1', h2'⟩ := h'
      have : r = r' := V_inj (h1.trans h1'.symm)
      rw [h2, h2', this]
def RemPost (a b : Nat) (w : World) (e : Ending) (w' : World) : Prop := ∃ v o, e = .returned (.float .f64 v) ∧ w = w' ∧ R o v ∧ RemSpec a b o
theorem eq0_of {x : Nat} (hn : isNaN x = false) (hi : ¬ rung x = 9218868437227405312) : fin x = true := by
  rcases cases_word x with h | ⟨_, h⟩ | ⟨_, h⟩
  · rw [hn] at h; cases h
  · exact absurd h hi
  · exact h
theorem oEq0_true {x : Nat} (h : (FloatKind.f64.format.order x 0 == some Ordering.eq) = true) : rung x = 0 := by
  rcases cases_word x with h1 | ⟨_, h1⟩ | ⟨_, h1⟩
  · obtain ⟨f, hf⟩ := read_nan h1
    rw [O_eq] at h; unfold Ieee.Format.order at h; rw [hf] at h; simp [Ieee.Datum.order] at h
  · rw [O_eq] at h; unfold Ieee.Format.order at h; rw [read_inf h1, read_fin (w := 0) (by decide)] at h
    cases hs : sgn x <;> rw [hs] at h <;> simp [Ieee.Datum.order] at h
  · rw [ord_eq0 h1] at h; exact of_decide_eq_true h
theorem oEq0_false {x : Nat} (h : (FloatKind.f64.format.order x 0 == some Ordering.eq) = false) : ¬ rung x = 0 := by
  intro h1
  have hf : fin x = true := by unfold fin; rw [h1]; decide
  rw [ord_eq0 hf] at h; exact of_decide_eq_false h h1

theorem rem_none {a b : Nat} {v : Nat} (hv : v < 18446744073709551616) (hn : isNaN v = true) (h : isNaN a = true ∨ isNaN b = true ∨ rung a = 9218868437227405312 ∨ rung b = 0) : ∃ o, R o v ∧ RemSpec a b o :=
  ⟨none, R_none hv hn, by unfold RemSpec; rw [if_pos h]⟩
theorem rem_a {a b : Nat} (ha : a < 18446744073709551616) (hna : isNaN a = false) (hnb : isNaN b = false) (hai : ¬ rung a = 9218868437227405312) (hb0 : ¬ rung b = 0) (h : rung b = 9218868437227405312 ∨ rung a = 0) : ∃ o, R o a ∧ RemSpec a b o :=
  ⟨some a, R_some ha hna, by unfold RemSpec; rw [if_neg (by rw [hna, hnb]; simp [hai, hb0]), if_pos h]⟩
theorem rem_r {a b r : Nat} (hna : isNaN a = false) (hnb : isNaN b = false) (hai : ¬ rung a = 9218868437227405312) (hb0 : ¬ rung b = 0) (hbi : ¬ rung b = 9218868437227405312) (ha0 : ¬ rung a = 0)
    (hr : r < 9218868437227405312) (hv : V r = V (rung a) % V (rung b)) : ∃ o, R o (wd (sgn a) r) ∧ RemSpec a b o :=
  ⟨some (wd (sgn a) r), R_some (wd_lt _ _ (by omega)) (by rw [isNaN_wd (by omega)]; exact decide_eq_false (by omega)), by
    unfold RemSpec; rw [if_neg (by rw [hna, hnb]; simp [hai, hb0]), if_neg (by simp [hbi, ha0])]; exact ⟨r, hr, hv, rfl⟩⟩

/-- nums.Rem -/
theorem c14 (a b : Nat) (ha : a < 18446744073709551616) (hb : b < 18446744073709551616) (w : World) :
    Calls Try.prog 14 #[.float .f64 a, .float .f64 b] w (RemPost a b w) := by
  cases hb0 : (FloatKind.f64.format.order b 0 == some Ordering.eq)
  case true =>
    have HR := Lib.hid (rem_none (a := a) (b := b) (v := 9221120237041090561) (by decide) (by decide) (.inr (.inr (.inr (oEq0_true hb0)))))
    go_enter Try.func14, Try.ntmps14
    go_wp2_with (go_at_call 44; refine (c44 _).mono ?_; rintro e w' ⟨rfl, rfl⟩)
    go_ret
    obtain ⟨o, h1, h2⟩ := HR.out
    exact ⟨_, o, rfl, rfl, h1, h2⟩
  have Hb0 := Lib.hid (oEq0_false hb0)
  by_cases hai : rung a = 9218868437227405312
  · have HR := Lib.hid (rem_none (a := a) (b := b) (v := 9221120237041090561) (by decide) (by decide) (.inr (.inr (.inl hai))))
    have Hai := Lib.hid (isInf_t ha hai)
    clear hai
    go_enter Try.func14, Try.ntmps14
    go_wp2_with (first | (go_at_call 18; refine (Hai.out _).mono ?_; rintro e w' ⟨rfl, rfl⟩) | (go_at_call 44; refine (c44 _).mono ?_; rintro e w' ⟨rfl, rfl⟩))
    go_ret
    obtain ⟨o, h1, h2⟩ := HR.out
    exact ⟨_, o, rfl, rfl, h1, h2⟩
  have Hai := Lib.hid (isInf_n ha hai)
  cases hna : isNaN a
  case true =>
    have HR := Lib.hid (rem_none (a := a) (b := b) (v := 9221120237041090561) (by decide) (by decide) (.inl hna))
    have Hna := Lib.hid (c43_is hna)
    clear hai hna
    go_enter Try.func14, Try.ntmps14
    go_wp2_with (first | (go_at_call 18; refine (Hai.out _).mono ?_; rintro e w' ⟨rfl, rfl⟩) | (go_at_call 43; refine (Hna.out _).mono ?_; rintro e w' ⟨rfl, rfl⟩) | (go_at_call 44; refine (c44 _).mono ?_; rintro e w' ⟨rfl, rfl⟩))
    go_ret
    obtain ⟨o, h1, h2⟩ := HR.out
    exact ⟨_, o, rfl, rfl, h1, h2⟩
  have Hna := Lib.hid (c43_is hna)
  cases hnb : isNaN b
  case true =>
    have HR := Lib.hid (rem_none (a := a) (b := b) (v := 9221120237041090561) (by decide) (by decide) (.inr (.inl hnb)))
    have Hnb := Lib.hid (c43_is hnb)
    clear hai hna hnb
    go_enter Try.func14, Try.ntmps14
    go_wp2_with (first | (go_at_call 18; refine (Hai.out _).mono ?_; rintro e w' ⟨rfl, rfl⟩) | (go_at_call 43; (with_reducible refine (Hna.out _).mono ?_); rintro e w' ⟨rfl, rfl⟩) | (go_at_call 43; (with_reducible refine (Hnb.out _).mono ?_); rintro e w' ⟨rfl, rfl⟩) | (go_at_call 44; refine (c44 _).mono ?_; rintro e w' ⟨rfl, rfl⟩))
    go_ret
    obtain ⟨o, h1, h2⟩ := HR.out
    exact ⟨_, o, rfl, rfl, h1, h2⟩
  have Hnb := Lib.hid (c43_is hnb)
  by_cases hbi : rung b = 9218868437227405312
  · have HR := Lib.hid (rem_a ha hna hnb hai Hb0.out (.inl hbi))
    have Hbi := Lib.hid (isInf_t hb hbi)
    clear hai hna hnb hbi
    go_enter Try.func14, Try.ntmps14
    go_wp2_with (first | (go_at_call 18; (with_reducible refine (Hai.out _).mono ?_); rintro e w' ⟨rfl, rfl⟩) | (go_at_call 18; (with_reducible refine (Hbi.out _).mono ?_); rintro e w' ⟨rfl, rfl⟩) | (go_at_call 43; (with_reducible refine (Hna.out _).mono ?_); rintro e w' ⟨rfl, rfl⟩) | (go_at_call 43; (with_reducible refine (Hnb.out _).mono ?_); rintro e w' ⟨rfl, rfl⟩))
    go_ret
    obtain ⟨o, h1, h2⟩ := HR.out
    exact ⟨_, o, rfl, rfl, h1, h2⟩
  have Hbi := Lib.hid (isInf_n hb hbi)
  cases ha0 : (FloatKind.f64.format.order a 0 == some Ordering.eq)
  case true =>
    have HR := Lib.hid (rem_a ha hna hnb hai Hb0.out (.inr (oEq0_true ha0)))
    clear hai hna hnb hbi
    go_enter Try.func14, Try.ntmps14
    go_wp2_with (first | (go_at_call 18; (with_reducible refine (Hai.out _).mono ?_); rintro e w' ⟨rfl, rfl⟩) | (go_at_call 18; (with_reducible refine (Hbi.out _).mono ?_); rintro e w' ⟨rfl, rfl⟩) | (go_at_call 43; (with_reducible refine (Hna.out _).mono ?_); rintro e w' ⟨rfl, rfl⟩) | (go_at_call 43; (with_reducible refine (Hnb.out _).mono ?_); rintro e w' ⟨rfl, rfl⟩))
    go_ret
    obtain ⟨o, h1, h2⟩ := HR.out
    exact ⟨_, o, rfl, rfl, h1, h2⟩
  have Ha0 := Lib.hid (oEq0_false ha0)
  have hfa := eq0_of hna hai
  have hfb := eq0_of hnb hbi
  have hal : rung a < 9218868437227405312 := of_decide_eq_true hfa
  have hbl : rung b < 9218868437227405312 := of_decide_eq_true hfb
  have Hmod := Lib.hid (c46 (rung a) (rung b) (by omega) (fin_small hal) (by omega) (fin_small hbl) (by rw [rung_small (by omega)]; have := Hb0.out; omega))
  have HF := Lib.hid (And.intro hna (And.intro hnb (And.intro hai hbi)))
  clear hai hna hnb hbi hfa hfb
  go_enter Try.func14, Try.ntmps14
  go_wp2_with (first | (go_at_call 18; (with_reducible refine (Hai.out _).mono ?_); rintro e w' ⟨rfl, rfl⟩) | (go_at_call 18; (with_reducible refine (Hbi.out _).mono ?_); rintro e w' ⟨rfl, rfl⟩) | (go_at_call 43; (with_reducible refine (Hna.out _).mono ?_); rintro e w' ⟨rfl, rfl⟩) | (go_at_call 43; (with_reducible refine (Hnb.out _).mono ?_); rintro e w' ⟨rfl, rfl⟩) | (go_at_call 19; (with_reducible refine (c19 a ha _).mono ?_); rintro e w' ⟨rfl, rfl⟩) | (go_at_call 19; (with_reducible refine (c19 b hb _).mono ?_); rintro e w' ⟨rfl, rfl⟩))
  refine (Hmod.out _).mono ?_
  rintro e w' ⟨r, hr, hrv, rfl, rfl⟩
  rw [sgn_small (x := rung a) (by omega)]
  rw [rung_small (x := rung a) (by omega), rung_small (x := rung b) (by omega)] at hrv
  have Hrv := Lib.hid hrv
  clear hrv
  have hrl : wd false r < 18446744073709551616 := wd_lt _ _ (by omega)
  go_wp2_with (go_at_call 45; refine (c45 _ a hrl ha _).mono ?_; rintro e w' ⟨rfl, rfl⟩)
  go_ret
  obtain ⟨h1, h2, h3, h4⟩ := HF.out
  obtain ⟨o, h5, h6⟩ := rem_r h1 h2 h3 Hb0.out h4 Ha0.out hr Hrv.out
  exact ⟨_, o, ret_float (by rw [rung_wd _ _ (by omega)]), rfl, h5, h6⟩
/-- the reference's Rem -/
theorem c15 (a b : Nat) (ha : a < 18446744073709551616) (hb : b < 18446744073709551616) (w : World) :
    Calls Try.prog 15 #[.float .f64 a, .float .f64 b] w (RemPost a b w) := by
  cases hna : isNaN a
  case true =>
    have HR := Lib.hid (rem_none (a := a) (b := b) (v := 9221120237041090561) (by decide) (by decide) (.inl hna))
    have Hna := Lib.hid (c47_is hna)
    clear hna
    go_enter Try.func15, Try.ntmps15
    go_wp2_with (first | (go_at_call 47; refine (Hna.out _).mono ?_; rintro e w' ⟨rfl, rfl⟩) | (go_at_call 44; refine (c44 _).mono ?_; rintro e w' ⟨rfl, rfl⟩))
    go_ret
    obtain ⟨o, h1, h2⟩ := HR.out
    exact ⟨_, o, rfl, rfl, h1, h2⟩
  have Hna := Lib.hid (c47_is hna)
  cases hnb : isNaN b
  case true =>
    have HR := Lib.hid (rem_none (a := a) (b := b) (v := 9221120237041090561) (by decide) (by decide) (.inr (.inl hnb)))
    have Hnb := Lib.hid (c47_is hnb)
    clear hna hnb
    go_enter Try.func15, Try.ntmps15
    go_wp2_with (first | (go_at_call 47; (with_reducible refine (Hna.out _).mono ?_); rintro e w' ⟨rfl, rfl⟩) | (go_at_call 47; (with_reducible refine (Hnb.out _).mono ?_); rintro e w' ⟨rfl, rfl⟩) | (go_at_call 44; refine (c44 _).mono ?_; rintro e w' ⟨rfl, rfl⟩))
    go_ret
    obtain ⟨o, h1, h2⟩ := HR.out
    exact ⟨_, o, rfl, rfl, h1, h2⟩
  have Hnb := Lib.hid (c47_is hnb)
  by_cases hai : rung a = 9218868437227405312
  · have HR := Lib.hid (rem_none (a := a) (b := b) (v := 9221120237041090561) (by decide) (by decide) (.inr (.inr (.inl hai))))
    have Hai := Lib.hid (isInf_t2 ha hai)
    clear hai hna hnb
    go_enter Try.func15, Try.ntmps15
    go_wp2_with (first | (go_at_call 47; (with_reducible refine (Hna.out _).mono ?_); rintro e w' ⟨rfl, rfl⟩) | (go_at_call 47; (with_reducible refine (Hnb.out _).mono ?_); rintro e w' ⟨rfl, rfl⟩) | (go_at_call 48; refine (Hai.out _).mono ?_; rintro e w' ⟨rfl, rfl⟩) | (go_at_call 44; refine (c44 _).mono ?_; rintro e w' ⟨rfl, rfl⟩))
    go_ret
    obtain ⟨o, h1, h2⟩ := HR.out
    exact ⟨_, o, rfl, rfl, h1, h2⟩
  have Hai := Lib.hid (isInf_n2 ha hai)
  cases hb0 : (FloatKind.f64.format.order b 0 == some Ordering.eq)
  case true =>
    have HR := Lib.hid (rem_none (a := a) (b := b) (v := 9221120237041090561) (by decide) (by decide) (.inr (.inr (.inr (oEq0_true hb0)))))
    clear hai hna hnb
    go_enter Try.func15, Try.ntmps15
    go_wp2_with (first | (go_at_call 47; (with_reducible refine (Hna.out _).mono ?_); rintro e w' ⟨rfl, rfl⟩) | (go_at_call 47; (with_reducible refine (Hnb.out _).mono ?_); rintro e w' ⟨rfl, rfl⟩) | (go_at_call 48; refine (Hai.out _).mono ?_; rintro e w' ⟨rfl, rfl⟩) | (go_at_call 44; refine (c44 _).mono ?_; rintro e w' ⟨rfl, rfl⟩))
    go_ret
    obtain ⟨o, h1, h2⟩ := HR.out
    exact ⟨_, o, rfl, rfl, h1, h2⟩
  have Hb0 := Lib.hid (oEq0_false hb0)
  by_cases hbi : rung b = 9218868437227405312
  · have HR := Lib.hid (rem_a ha hna hnb hai Hb0.out (.inl hbi))
    have Hbi := Lib.hid (isInf_t2 hb hbi)
    clear hai hna hnb hbi
    go_enter Try.func15, Try.ntmps15
    go_wp2_with (first | (go_at_call 47; (with_reducible refine (Hna.out _).mono ?_); rintro e w' ⟨rfl, rfl⟩) | (go_at_call 47; (with_reducible refine (Hnb.out _).mono ?_); rintro e w' ⟨rfl, rfl⟩) | (go_at_call 48; (with_reducible refine (Hai.out _).mono ?_); rintro e w' ⟨rfl, rfl⟩) | (go_at_call 48; (with_reducible refine (Hbi.out _).mono ?_); rintro e w' ⟨rfl, rfl⟩))
    go_ret
    obtain ⟨o, h1, h2⟩ := HR.out
    exact ⟨_, o, rfl, rfl, h1, h2⟩
  have Hbi := Lib.hid (isInf_n2 hb hbi)
  cases ha0 : (FloatKind.f64.format.order a 0 == some Ordering.eq)
  case true =>
    have HR := Lib.hid (rem_a ha hna hnb hai Hb0.out (.inr (oEq0_true ha0)))
    clear hai hna hnb hbi
    go_enter Try.func15, Try.ntmps15
    go_wp2_with (first | (go_at_call 47; (with_reducible refine (Hna.out _).mono ?_); rintro e w' ⟨rfl, rfl⟩) | (go_at_call 47; (with_reducible refine (Hnb.out _).mono ?_); rintro e w' ⟨rfl, rfl⟩) | (go_at_call 48; (with_reducible refine (Hai.out _).mono ?_); rintro e w' ⟨rfl, rfl⟩) | (go_at_call 48; (with_reducible refine (Hbi.out _).mono ?_); rintro e w' ⟨rfl, rfl⟩))
    go_ret
    obtain ⟨o, h1, h2⟩ := HR.out
    exact ⟨_, o, rfl, rfl, h1, h2⟩
  have Ha0 := Lib.hid (oEq0_false ha0)
  have hfa := eq0_of hna hai
  have hfb := eq0_of hnb hbi
  have Hmod := Lib.hid (c46 a b ha hfa hb hfb (by have := Hb0.out; omega))
  have HF := Lib.hid (And.intro hna (And.intro hnb (And.intro hai hbi)))
  clear hai hna hnb hbi hfa hfb
  go_enter Try.func15, Try.ntmps15
  go_wp2_with (first | (go_at_call 47; (with_reducible refine (Hna.out _).mono ?_); rintro e w' ⟨rfl, rfl⟩) | (go_at_call 47; (with_reducible refine (Hnb.out _).mono ?_); rintro e w' ⟨rfl, rfl⟩) | (go_at_call 48; (with_reducible refine (Hai.out _).mono ?_); rintro e w' ⟨rfl, rfl⟩) | (go_at_call 48; (with_reducible refine (Hbi.out _).mono ?_); rintro e w' ⟨rfl, rfl⟩))
  refine (Hmod.out _).mono ?_
  rintro e w' ⟨r, hr, hrv, rfl, rfl⟩
  have Hrv := Lib.hid hrv
  clear hrv
  go_wp2_with fail
  go_ret
  obtain ⟨h1, h2, h3, h4⟩ := HF.out
  obtain ⟨o, h5, h6⟩ := rem_r h1 h2 h3 Hb0.out h4 Ha0.out hr Hrv.out
  exact ⟨_, o, rfl, rfl, h5, h6⟩
end Go.Proofs.Ytpkinhiolaookaa
