/-
  Contracts of Whole and Length, and the walks of the laws NumsRings, NumsInts. Conditions: as each theorem says.
-/
import Derived.Test.YtpkinhiolaookaaW16
namespace Go.Proofs.Ytpkinhiolaookaa
open Go.RowKit F64
set_option maxHeartbeats 400000
attribute [local go_sem] r56 r55 neg_run

def WholePost (x : Nat) (w : World) (e : Ending) (w' : World) : Prop := ∃ v, e = .returned (.float .f64 v) ∧ w = w' ∧ WholeSpec x v
theorem whole_nan {x : Nat} (h : isNaN x = true) : WholeSpec x 0 := by unfold WholeSpec; rw [if_pos h]
theorem whole_inf {x : Nat} (hn : isNaN x = false) (h : rung x = 9218868437227405312) : WholeSpec x x := by
  unfold WholeSpec; rw [if_neg (by rw [hn]; decide), if_pos h]
theorem whole_fin {x t : Nat} (hn : isNaN x = false) (h : ¬ rung x = 9218868437227405312) (ht : t < 9218868437227405312) (hv : V t = V (rung x) / U * U) : WholeSpec x (if t = 0 then 0 else wd (sgn x) t) := by
  unfold WholeSpec; rw [if_neg (by rw [hn]; decide), if_neg h]; exact ⟨t, ht, hv, rfl⟩

/-- nums.Whole -/
theorem c37 (x : Nat) (hx : x < 18446744073709551616) (w : World) : Calls Try.prog 37 #[.float .f64 x] w (WholePost x w) := by
  cases hn : isNaN x
  · have Hn := Lib.hid (c43_is hn)
    by_cases hi : rung x = 9218868437227405312
    · have Hspec := Lib.hid (whole_inf hn hi)
      have H52 := Lib.hid (c52_inf x hx hi)
      have hz : (FloatKind.f64.format.order x 0 == some Ordering.eq) = false := by
        cases h : (FloatKind.f64.format.order x 0 == some Ordering.eq)
        · rfl
        · have := oEq0_true h; omega
      clear hn hi
      go_enter Try.func37, Try.ntmps37
      go_wp2_with (first | (go_at_call 43; refine (Hn.out _).mono ?_; rintro e w' ⟨rfl, rfl⟩) | (go_at_call 52; refine (H52.out _).mono ?_; rintro e w' ⟨rfl, rfl⟩))
      go_ret
      exact ⟨x, rfl, rfl, Hspec.out⟩
    · have hf := eq0_of hn hi
      have H52 := Lib.hid (c52 x hf)
      have HF := Lib.hid (And.intro hn hi)
      clear hn hi hf
      go_enter Try.func37, Try.ntmps37
      go_wp2_with (go_at_call 43; refine (Hn.out _).mono ?_; rintro e w' ⟨rfl, rfl⟩)
      refine (H52.out _).mono ?_
      rintro e w' ⟨t, ht, htv, rfl, rfl⟩
      have Hspec := Lib.hid (whole_fin HF.out.1 HF.out.2 ht htv)
      have ho := ord_eq0 (x := wd (sgn x) t) (fin_wd ht)
      rw [rung_wd _ _ (by omega)] at ho
      clear htv
      by_cases h0 : t = 0
      · rw [decide_eq_true h0] at ho
        have Hs : Hid (WholeSpec x 0) := Lib.hid (by have := Hspec.out; rw [if_pos h0] at this; exact this)
        clear h0
        go_wp2_with fail
        go_ret
        exact ⟨0, rfl, rfl, Hs.out⟩
      · rw [decide_eq_false h0] at ho
        have Hs : Hid (WholeSpec x (wd (sgn x) t)) := Lib.hid (by have := Hspec.out; rw [if_neg h0] at this; exact this)
        clear h0
        go_wp2_with fail
        go_ret
        exact ⟨_, rfl, rfl, Hs.out⟩
  · have Hn := Lib.hid (c43_is hn)
    have Hspec := Lib.hid (whole_nan hn)
    clear hn
    go_enter Try.func37, Try.ntmps37
    go_wp2_with (go_at_call 43; refine (Hn.out _).mono ?_; rintro e w' ⟨rfl, rfl⟩)
    go_ret
    exact ⟨0, rfl, rfl, Hspec.out⟩
/-- the reference's Whole -/
theorem c38 (x : Nat) (hx : x < 18446744073709551616) (w : World) : Calls Try.prog 38 #[.float .f64 x] w (WholePost x w) := by
  cases hn : isNaN x
  · have Hn := Lib.hid (c47_is hn)
    by_cases hi : rung x = 9218868437227405312
    · have Hspec := Lib.hid (whole_inf hn hi)
      have Hi := Lib.hid (isInf_t2 hx hi)
      clear hn hi
      go_enter Try.func38, Try.ntmps38
      go_wp2_with (first | (go_at_call 47; refine (Hn.out _).mono ?_; rintro e w' ⟨rfl, rfl⟩) | (go_at_call 48; refine (Hi.out _).mono ?_; rintro e w' ⟨rfl, rfl⟩))
      go_ret
      exact ⟨x, rfl, rfl, Hspec.out⟩
    · have hf := eq0_of hn hi
      have H52 := Lib.hid (c52 x hf)
      have Hi := Lib.hid (isInf_n2 hx hi)
      have HF := Lib.hid (And.intro hn hi)
      clear hn hi hf
      go_enter Try.func38, Try.ntmps38
      go_wp2_with (first | (go_at_call 47; refine (Hn.out _).mono ?_; rintro e w' ⟨rfl, rfl⟩) | (go_at_call 48; refine (Hi.out _).mono ?_; rintro e w' ⟨rfl, rfl⟩))
      refine (H52.out _).mono ?_
      rintro e w' ⟨t, ht, htv, rfl, rfl⟩
      have Hspec := Lib.hid (whole_fin HF.out.1 HF.out.2 ht htv)
      have hadd := fun w => run_float_arith (P := Try.prog) w .add 23 .f64 (wd (sgn x) t) 0 _ (add_zero_word (sgn x) ht)
      clear htv
      generalize (if t = 0 then 0 else wd (sgn x) t) = v at *
      go_wp2_with fail
      go_ret
      exact ⟨_, rfl, rfl, Hspec.out⟩
  · have Hn := Lib.hid (c47_is hn)
    have Hspec := Lib.hid (whole_nan hn)
    clear hn
    go_enter Try.func38, Try.ntmps38
    go_wp2_with (go_at_call 47; refine (Hn.out _).mono ?_; rintro e w' ⟨rfl, rfl⟩)
    go_ret
    exact ⟨0, rfl, rfl, Hspec.out⟩

/-- a length out of a whole number -/
def lenOf (v : Nat) : Nat := if oLt v 0 = true then 0 else if oGt v 4845873199050653695 = true then 4845873199050653695 else v
def maxZ (v : Nat) : Nat := if oLt v 0 = true then 0 else v
def minT (m : Nat) : Nat := if oGt m 4845873199050653695 = true then 4845873199050653695 else m
theorem minT_maxZ (v : Nat) : minT (maxZ v) = lenOf v := by
  unfold minT maxZ lenOf
  split
  · have : oGt 0 4845873199050653695 = false := by decide
    rw [this]; rfl
  · rfl
theorem maxZ_le {v : Nat} (hv : v < 18446744073709551616) (hn : isNaN v = false) (hz : v ≠ 9223372036854775808) : maxZ v ≤ 9218868437227405312 := by
  unfold maxZ
  split
  · decide
  · rename_i h
    have hp := wd_parts v hv
    have hl : rung v ≤ 9218868437227405312 := by unfold isNaN at hn; have := of_decide_eq_false hn; omega
    cases hs : sgn v
    · rw [hs] at hp
      have : rung v = v := hp
      omega
    · exfalso
      apply h
      unfold oLt
      rcases Nat.lt_or_ge (rung v) 9218868437227405312 with h1 | h1
      · rw [ord_lt0 (decide_eq_true h1), hs]
        rcases Nat.eq_zero_or_pos (rung v) with h0 | h0
        · rw [hs, h0] at hp; exact absurd hp.symm hz
        · rw [decide_eq_true h0]; rfl
      · have hi : rung v = 9218868437227405312 := by omega
        rw [O_eq]; unfold Ieee.Format.order; rw [read_inf hi, read0, hs]; rfl
theorem c60 (v : Nat) (hv : v < 18446744073709551616) (hn : isNaN v = false) (hz : v ≠ 9223372036854775808) (w : World) :
    Calls Try.prog 60 #[.float .f64 v, .float .f64 0] w fun e w' => e = .returned (.float .f64 (maxZ v)) ∧ w = w' := by
  have h : ∀ w, (callFunc 69 #[.float .f64 v, .float .f64 0]).run Try.prog w = .ok (.value (.float .f64 (maxZ v))) w := by
    intro w; rw [e69, max_zero _ v hv hn hz]; rfl
  clear hn hz
  go_enter Try.func60, Try.ntmps60
  go_wp2
  go_ret
  exact ⟨rfl, rfl⟩
theorem c59 (m : Nat) (hm : m ≤ 9218868437227405312) (w : World) :
    Calls Try.prog 59 #[.float .f64 m, .float .f64 4845873199050653695] w fun e w' => e = .returned (.float .f64 (minT m)) ∧ w = w' := by
  have h : ∀ w, (callFunc 67 #[.float .f64 m, .float .f64 4845873199050653695]).run Try.prog w = .ok (.value (.float .f64 (minT m))) w := by
    intro w; rw [e67, min_top _ m hm]; rfl
  go_enter Try.func59, Try.ntmps59
  go_wp2
  go_ret
  exact ⟨rfl, rfl⟩
def LenPost (x : Nat) (w : World) (e : Ending) (w' : World) : Prop := ∃ v, e = .returned (.float .f64 (lenOf v)) ∧ w = w' ∧ WholeSpec x v
theorem c39 (x : Nat) (hx : x < 18446744073709551616) (w : World) : Calls Try.prog 39 #[.float .f64 x] w (LenPost x w) := by
  go_enter Try.func39, Try.ntmps39
  go_wp2_with fail
  refine (c37 x hx _).mono ?_
  rintro e w' ⟨v, rfl, rfl, hS⟩
  obtain ⟨h1, h2, h3⟩ := whole_ok hx hS
  have H60 := Lib.hid (c60 v h1 h2 h3)
  have H59 := Lib.hid (c59 (maxZ v) (maxZ_le h1 h2 h3))
  have HS := Lib.hid hS
  clear h2 h3 hS
  go_wp2_with (first | (go_at_call 60; refine (H60.out _).mono ?_; rintro e w' ⟨rfl, rfl⟩) | (go_at_call 59; refine (H59.out _).mono ?_; rintro e w' ⟨rfl, rfl⟩))
  go_ret
  exact ⟨v, ret_float (minT_maxZ v), rfl, HS.out⟩
theorem c40 (x : Nat) (hx : x < 18446744073709551616) (w : World) : Calls Try.prog 40 #[.float .f64 x] w (LenPost x w) := by
  go_enter Try.func40, Try.ntmps40
  go_wp2_with fail
  refine (c38 x hx _).mono ?_
  rintro e w' ⟨v, rfl, rfl, hS⟩
  have HS := Lib.hid hS
  clear hS
  cases h1 : oLt v 0
  · cases h2 : oGt v 4845873199050653695
    · have HL : Hid (lenOf v = v) := Lib.hid (by unfold lenOf; rw [h1, h2]; rfl)
      unfold oLt at h1
      unfold oGt at h2
      go_wp2_with fail
      go_ret
      exact ⟨v, ret_float HL.out.symm, rfl, HS.out⟩
    · have HL : Hid (lenOf v = 4845873199050653695) := Lib.hid (by unfold lenOf; rw [h1, h2]; rfl)
      unfold oLt at h1
      unfold oGt at h2
      go_wp2_with fail
      go_ret
      exact ⟨v, ret_float HL.out.symm, rfl, HS.out⟩
  · have HL : Hid (lenOf v = 0) := Lib.hid (by unfold lenOf; rw [h1]; rfl)
    unfold oLt at h1
    go_wp2_with fail
    go_ret
    exact ⟨v, ret_float HL.out.symm, rfl, HS.out⟩
theorem lenOf_R {x v : Nat} (hx : x < 18446744073709551616) (h : WholeSpec x v) : R (some (lenOf v)) (lenOf v) := by
  obtain ⟨h1, h2, _⟩ := whole_ok hx h
  unfold lenOf
  split
  · exact R_some (by decide) (by decide)
  · split
    · exact R_some (by decide) (by decide)
    · exact R_some h1 h2
/-- law 9: NumsInts -/
theorem c9 (x : Nat) (hx : x < 18446744073709551616) (w : World) : Calls Try.prog 9 #[.float .f64 x] w (TruePost w) := by
  have H12 := Lib.hid (c12 x hx)
  have H33 := Lib.hid (c33 x hx)
  have H11 := Lib.hid (c11 x hx)
  have H34 := Lib.hid (c34 x hx)
  have H35 := Lib.hid (c35 x hx)
  have H36 := Lib.hid (c36 x hx)
  go_enter Try.func9, Try.ntmps9
  go_wp2_with (first | (go_at_call 10; refine (c10 _).mono ?_; rintro e w' ⟨n0, rfl, rfl⟩) | (go_at_call 12; refine (H12.out _).mono ?_; rintro e w' ⟨rfl, rfl⟩) | (go_at_call 33; refine (H33.out _).mono ?_; rintro e w' ⟨rfl, rfl⟩) | (go_at_call 11; refine (H11.out _).mono ?_; rintro e w' ⟨rfl, rfl⟩) | (go_at_call 34; refine (H34.out _).mono ?_; rintro e w' ⟨rfl, rfl⟩) | (go_at_call 35; refine (H35.out _).mono ?_; rintro e w' ⟨rfl, rfl⟩) | (go_at_call 36; refine (H36.out _).mono ?_; rintro e w' ⟨rfl, rfl⟩))
  refine (c37 x hx _).mono ?_
  rintro e w' ⟨v, rfl, rfl, hS⟩
  have HS := Lib.hid hS
  clear hS
  go_wp2_with fail
  refine (c38 x hx _).mono ?_
  rintro e w' ⟨v', rfl, rfl, hS'⟩
  obtain rfl := WholeSpec_one HS.out hS'
  clear hS'
  have hok := whole_ok hx HS.out
  have H13 := Lib.hid (c13 (some v) v v (R_some hok.1 hok.2.1) (R_some hok.1 hok.2.1))
  clear hok
  go_wp2_with (go_at_call 13; refine (H13.out _).mono ?_; rintro e w' ⟨rfl, rfl⟩)
  refine (c39 x hx _).mono ?_
  rintro e w' ⟨u, rfl, rfl, hU⟩
  have HU := Lib.hid hU
  clear hU
  go_wp2_with fail
  refine (c40 x hx _).mono ?_
  rintro e w' ⟨u', rfl, rfl, hU'⟩
  obtain rfl := WholeSpec_one HU.out hU'
  clear hU'
  have H13' := Lib.hid (c13 (some (lenOf u)) (lenOf u) (lenOf u) (lenOf_R hx HU.out) (lenOf_R hx HU.out))
  go_wp2_with (go_at_call 13; refine (H13'.out _).mono ?_; rintro e w' ⟨rfl, rfl⟩)
  go_ret
  exact ⟨n0, rfl, rfl⟩

theorem wrap_back (z : Int) : wrap32 (z % 4294967296) % 4294967296 = z % 4294967296 := by unfold wrap32; omega
/-- law 3: NumsRings -/
theorem c3_in (a b : Int) (ha1 : -4503599627370496 ≤ a) (ha2 : a ≤ 4503599627370496) (hb1 : -4503599627370496 ≤ b) (hb2 : b ≤ 4503599627370496) (w : World) :
    Calls Try.prog 3 #[.int .i64 a, .int .i64 b] w (TruePost w) := by
  obtain ⟨s, hs, hsv, hst⟩ := fi_add a b (by omega) (by omega)
  obtain ⟨d, hd, hdv, hdt⟩ := fi_sub a b (by omega) (by omega)
  obtain ⟨hxl, hxt⟩ := fi_TI' a (by omega)
  obtain ⟨hyl, hyt⟩ := fi_TI' b (by omega)
  have hA := fun w => run_float_arith (P := Try.prog) w .add 23 .f64 (floatOfInt .f64 a) (floatOfInt .f64 b) s hsv
  have hD := fun w => run_float_arith (P := Try.prog) w .sub 23 .f64 (floatOfInt .f64 a) (floatOfInt .f64 b) d hdv
  have H11s := Lib.hid (c11 s hs)
  have H11d := Lib.hid (c11 d hd)
  have H11x := Lib.hid (c11 _ hxl)
  have H11y := Lib.hid (c11 _ hyl)
  have H12x := Lib.hid (c12 _ hxl)
  rw [hst] at H11s
  rw [hdt] at H11d
  rw [hxt] at H11x H12x
  rw [hyt] at H11y
  have e1 : (a % 4294967296 + b % 4294967296) % 4294967296 = (a + b) % 4294967296 := by omega
  have e2 : (a % 4294967296 - b % 4294967296) % 4294967296 = (a - b) % 4294967296 := by omega
  have e3 := wrap_back a
  clear hsv hdv hst hdt hxt hyt
  have q1 : ¬ 4503599627370496 < a := by omega
  go_enter Try.func3, Try.ntmps3
  go_wp2_with (first | (go_at_call 10; refine (c10 _).mono ?_; rintro e w' ⟨n0, rfl, rfl⟩) | (go_at_call 11; (with_reducible refine (H11s.out _).mono ?_); rintro e w' ⟨rfl, rfl⟩) | (go_at_call 11; (with_reducible refine (H11d.out _).mono ?_); rintro e w' ⟨rfl, rfl⟩) | (go_at_call 11; (with_reducible refine (H11x.out _).mono ?_); rintro e w' ⟨rfl, rfl⟩) | (go_at_call 11; (with_reducible refine (H11y.out _).mono ?_); rintro e w' ⟨rfl, rfl⟩) | (go_at_call 12; (with_reducible refine (H12x.out _).mono ?_); rintro e w' ⟨rfl, rfl⟩))
  go_ret
  exact ⟨n0, rfl, rfl⟩
theorem c3_o1 (a b : Int) (h : 4503599627370496 < a) (w : World) :
    Calls Try.prog 3 #[.int .i64 a, .int .i64 b] w (TruePost w) := by
  go_enter Try.func3, Try.ntmps3
  go_wp2_with (go_at_call 10; refine (c10 _).mono ?_; rintro e w' ⟨n0, rfl, rfl⟩)
  go_ret
  exact ⟨n0, rfl, rfl⟩
theorem c3_o2 (a b : Int) (h : a < -4503599627370496) (w : World) :
    Calls Try.prog 3 #[.int .i64 a, .int .i64 b] w (TruePost w) := by
  go_enter Try.func3, Try.ntmps3
  go_wp2_with (go_at_call 10; refine (c10 _).mono ?_; rintro e w' ⟨n0, rfl, rfl⟩)
  go_ret
  exact ⟨n0, rfl, rfl⟩
theorem c3_o3 (a b : Int) (h1 : a ≤ 4503599627370496) (h2 : -4503599627370496 ≤ a) (h : 4503599627370496 < b) (w : World) :
    Calls Try.prog 3 #[.int .i64 a, .int .i64 b] w (TruePost w) := by
  go_enter Try.func3, Try.ntmps3
  go_wp2_with (go_at_call 10; refine (c10 _).mono ?_; rintro e w' ⟨n0, rfl, rfl⟩)
  go_ret
  exact ⟨n0, rfl, rfl⟩
theorem c3_o4 (a b : Int) (h1 : a ≤ 4503599627370496) (h2 : -4503599627370496 ≤ a) (h3 : b ≤ 4503599627370496) (h : b < -4503599627370496) (w : World) :
    Calls Try.prog 3 #[.int .i64 a, .int .i64 b] w (TruePost w) := by
  go_enter Try.func3, Try.ntmps3
  go_wp2_with (go_at_call 10; refine (c10 _).mono ?_; rintro e w' ⟨n0, rfl, rfl⟩)
  go_ret
  exact ⟨n0, rfl, rfl⟩
theorem c3 (a b : Int) (_wa : (Lit.int .i64 a).wf = true) (_wb : (Lit.int .i64 b).wf = true) (w : World) :
    Calls Try.prog 3 #[.int .i64 a, .int .i64 b] w (TruePost w) := by
  by_cases h1 : 4503599627370496 < a
  · exact c3_o1 a b h1 w
  · by_cases h2 : a < -4503599627370496
    · exact c3_o2 a b h2 w
    · by_cases h3 : 4503599627370496 < b
      · exact c3_o3 a b (by omega) (by omega) h3 w
      · by_cases h4 : b < -4503599627370496
        · exact c3_o4 a b (by omega) (by omega) (by omega) h4 w
        · exact c3_in a b (by omega) (by omega) (by omega) (by omega) w
end Go.Proofs.Ytpkinhiolaookaa
