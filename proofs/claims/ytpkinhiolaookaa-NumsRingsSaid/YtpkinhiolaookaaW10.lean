/-
  Contracts of functions of the packages nums, lintelref02 and math: what each call returns. Conditions: as each theorem says.
-/
import Derived.Test.YtpkinhiolaookaaW9
namespace Go.Proofs.Ytpkinhiolaookaa
open Go.RowKit F64
set_option maxHeartbeats 400000
attribute [local go_sem] r56 r55 neg_run

theorem PowPost_far {o : Option Nat} {w w' : World} {e : Ending} (h : FarPost o w e w') : PowPost o w e w' := by
  obtain ⟨v, h1, rfl, h2⟩ := h
  exact ⟨v, 0, h1, rfl, h2⟩
theorem run_sqrt (x : Nat) (w : World) : ∃ v nq, (callFunc 63 #[.float .f64 x]).run Try.prog w = .ok (.value (.float .f64 v)) (w.drewN nq) ∧ R (Ieee.double.sqrt x) v := by
  have h0 : Extern.MathSqrt.sqrt #[.float .f64 x] = (match FloatKind.f64.format.sqrt x with
    | some r => pure (.float .f64 r)
    | none => do pure (.float .f64 (← choose (.nanBits .f64 x x)))) := rfl
  rw [e63, h0]
  have e : FloatKind.f64.format.sqrt x = Ieee.double.sqrt x := rfl
  rw [e]
  cases h : Ieee.double.sqrt x with
  | some r =>
    have := sqrt_num h
    exact ⟨r, 0, rfl, this.2, rfl, this.1⟩
  | none =>
    have hc := cut_nan x x (w.tape w.drawn (.nanBits .f64 x x))
    exact ⟨_, 1, rfl, hc.2, hc.1⟩
theorem c51 (x : Nat) (w : World) : Calls Try.prog 51 #[.float .f64 x] w (PowPost (Ieee.double.sqrt x) w) := by
  obtain ⟨v, nq, h, hR⟩ := run_sqrt x w
  have HR := Lib.hid hR
  clear hR
  go_enter Try.func51, Try.ntmps51
  go_wp2
  go_ret
  exact ⟨v, nq, rfl, rfl, HR.out⟩
/-- Sqrt(a) + 0 -/
theorem inf_half : oa (Ieee.double.sqrt 9218868437227405312) (some 0) = some 9218868437227405312 := by decide +kernel
theorem nan_add_R {o : Option Nat} {v : Nat} (hR : R o v) (w : World) : ∃ v' nq, (binOp .add 23 (.float .f64 v) (.float .f64 0)).run Try.prog w = .ok (.float .f64 v') (w.drewN nq) ∧ R (oa o (some 0)) v' := by
  obtain ⟨v', nq, h, hR'⟩ := run_float_any (P := Try.prog) w .add 23 o (some 0) v 0 (.inr (.inl rfl)) hR (R_some (by decide) (by decide))
  exact ⟨v', nq, h, hR'⟩

/-- nums.Pow -/
theorem c16 (a b : Nat) (ha : a < 18446744073709551616) (hb : b < 18446744073709551616) (w : World) :
    Calls Try.prog 16 #[.float .f64 a, .float .f64 b] w (PowPost (powO a b) w) := by
  unfold powO
  cases hnb : isNaN b
  case true =>
    rw [if_pos rfl]
    have h43 := c43 b
    rw [hnb] at h43
    have H43 := Lib.hid h43
    have HN := Lib.hid (R_none hb hnb)
    clear hnb h43
    go_enter Try.func16, Try.ntmps16
    go_wp2_with (first | (go_at_call 43; refine (H43.out _).mono ?_; rintro e w' ⟨rfl, rfl⟩))
    go_ret
    exact ⟨b, 0, rfl, rfl, HN.out⟩
  rw [if_neg (by decide)]
  have h43 := c43 b
  rw [hnb] at h43
  have H43 := Lib.hid h43
  clear h43
  cases hb0 : oEq b 0
  case true =>
    rw [if_pos rfl]
    unfold oEq at hb0
    clear hnb
    go_enter Try.func16, Try.ntmps16
    go_wp2_with (first | (go_at_call 43; refine (H43.out _).mono ?_; rintro e w' ⟨rfl, rfl⟩))
    go_ret
    exact ⟨_, 0, rfl, rfl, R_some (by decide) (by decide)⟩
  rw [if_neg (by decide)]
  unfold oEq at hb0
  have h43a := c43 a
  cases hna : isNaN a
  case true =>
    rw [if_pos rfl]
    rw [hna] at h43a
    have H43a := Lib.hid h43a
    have HN := Lib.hid (R_none ha hna)
    clear hnb hna h43a
    go_enter Try.func16, Try.ntmps16
    go_wp2_with (first | (go_at_call 43; (with_reducible refine (H43.out _).mono ?_); rintro e w' ⟨rfl, rfl⟩) | (go_at_call 43; (with_reducible refine (H43a.out _).mono ?_); rintro e w' ⟨rfl, rfl⟩))
    go_ret
    exact ⟨a, 0, rfl, rfl, HN.out⟩
  rw [if_neg (by decide)]
  rw [hna] at h43a
  have H43a := Lib.hid h43a
  clear h43a
  by_cases hbi : rung b = 9218868437227405312
  · rw [if_pos hbi]
    have Hbi := Lib.hid (isInf_t hb hbi)
    have Hfar := Lib.hid (c49 a (oGt b 0) ha)
    clear hbi hna hnb
    go_enter Try.func16, Try.ntmps16
    go_wp2_with (first | (go_at_call 43; (with_reducible refine (H43.out _).mono ?_); rintro e w' ⟨rfl, rfl⟩) | (go_at_call 43; (with_reducible refine (H43a.out _).mono ?_); rintro e w' ⟨rfl, rfl⟩) | (go_at_call 18; refine (Hbi.out _).mono ?_; rintro e w' ⟨rfl, rfl⟩) | (go_at_call 49; refine (Hfar.out _).mono ?_; rintro e w' ⟨v, rfl, rfl, hR⟩; have HR := Lib.hid hR; clear hR))
    go_ret
    exact ⟨_, 0, rfl, rfl, HR.out⟩
  rw [if_neg hbi]
  have Hbi := Lib.hid (isInf_n hb hbi)
  have hfb : fin b = true := by
    rcases cases_word b with h | ⟨_, h⟩ | ⟨_, h⟩
    · rw [hnb] at h; cases h
    · exact absurd h hbi
    · exact h
  cases hbh : oEq b 4602678819172646912
  case true =>
    rw [if_pos rfl]
    unfold oEq at hbh
    by_cases ham : a = 18442240474082181120
    · have e : rung a = 9218868437227405312 := by rw [ham]; decide
      rw [if_pos e]
      have hi := c18_m a ha
      rw [decide_eq_true ham] at hi
      have Hi := Lib.hid hi
      clear hi e ham hna hnb hbi
      go_enter Try.func16, Try.ntmps16
      go_wp2_with (first | (go_at_call 43; (with_reducible refine (H43.out _).mono ?_); rintro e w' ⟨rfl, rfl⟩) | (go_at_call 43; (with_reducible refine (H43a.out _).mono ?_); rintro e w' ⟨rfl, rfl⟩) | (go_at_call 18; (with_reducible refine (Hbi.out _).mono ?_); rintro e w' ⟨rfl, rfl⟩) | (go_at_call 18; (with_reducible refine (Hi.out _).mono ?_); rintro e w' ⟨rfl, rfl⟩) | (go_at_call 50; refine (c50_1 _).mono ?_; rintro e w' ⟨rfl, rfl⟩))
      go_ret
      exact ⟨_, 0, rfl, rfl, R_some (by decide) (by decide)⟩
    · have hi := c18_m a ha
      rw [decide_eq_false ham] at hi
      have Hi := Lib.hid hi
      have e : (if rung a = 9218868437227405312 then some 9218868437227405312 else oa (Ieee.double.sqrt a) (some 0)) = oa (Ieee.double.sqrt a) (some 0) := by
        split
        · rename_i h
          have hp := wd_parts a ha
          rw [h] at hp
          cases hs : sgn a
          · rw [hs] at hp
            have : a = 9218868437227405312 := hp.symm
            rw [this, inf_half]
          · rw [hs] at hp
            exact absurd hp.symm ham
        · rfl
      rw [e]
      clear hi e ham hna hnb hbi
      go_enter Try.func16, Try.ntmps16
      go_wp2_with (first | (go_at_call 43; (with_reducible refine (H43.out _).mono ?_); rintro e w' ⟨rfl, rfl⟩) | (go_at_call 43; (with_reducible refine (H43a.out _).mono ?_); rintro e w' ⟨rfl, rfl⟩) | (go_at_call 18; (with_reducible refine (Hbi.out _).mono ?_); rintro e w' ⟨rfl, rfl⟩) | (go_at_call 18; (with_reducible refine (Hi.out _).mono ?_); rintro e w' ⟨rfl, rfl⟩))
      refine (c51 a _).mono ?_
      rintro e w' ⟨v, nq, rfl, rfl, hR⟩
      obtain ⟨v', n', h1, hR1⟩ := nan_add_R hR (w.drewN nq)
      have HR1 := Lib.hid hR1
      clear hR hR1
      rw [World.drewN_drewN] at h1
      go_wp2_with fail
      go_ret
      exact ⟨v', nq + n', rfl, rfl, HR1.out⟩
  rw [if_neg (by decide)]
  unfold oEq at hbh
  have h52 := c52 b hfb
  have H52 := Lib.hid h52
  by_cases hw : V (rung b) / U * U = V (rung b)
  · rw [if_pos hw]
    have H53 := Lib.hid (c53 a b (V (rung b) / U) ha hna hb hfb hw.symm)
    have Hfb := Lib.hid hfb
    generalize powO a b = xx at *
    generalize hWW : wholeO a b (V (rung b) / U) = WW at *
    have Hw := Lib.hid hw
    clear hna hnb hbi hfb h52 hw hWW
    go_enter Try.func16, Try.ntmps16
    go_wp2_with (first | (go_at_call 43; (with_reducible refine (H43.out _).mono ?_); rintro e w' ⟨rfl, rfl⟩) | (go_at_call 43; (with_reducible refine (H43a.out _).mono ?_); rintro e w' ⟨rfl, rfl⟩) | (go_at_call 18; (with_reducible refine (Hbi.out _).mono ?_); rintro e w' ⟨rfl, rfl⟩))
    refine (H52.out _).mono ?_
    rintro e w' ⟨t, ht, htv, rfl, rfl⟩
    have htest := (whole_test Hfb.out ht htv).1
    rw [decide_eq_true Hw.out] at htest
    unfold oNe at htest
    clear htv
    go_wp2_with fail
    refine (H53.out _).mono ?_
    rintro e w' ⟨v, nq, rfl, rfl, hR⟩
    have HR := Lib.hid hR
    clear hR
    go_wp2_with fail
    go_ret
    exact ⟨v, nq, rfl, rfl, HR.out⟩
  · rw [if_neg hw]
    have Hfb := Lib.hid hfb
    have Hw := Lib.hid hw
    clear hna hnb hbi hfb h52 hw
    go_enter Try.func16, Try.ntmps16
    go_wp2_with (first | (go_at_call 43; (with_reducible refine (H43.out _).mono ?_); rintro e w' ⟨rfl, rfl⟩) | (go_at_call 43; (with_reducible refine (H43a.out _).mono ?_); rintro e w' ⟨rfl, rfl⟩) | (go_at_call 18; (with_reducible refine (Hbi.out _).mono ?_); rintro e w' ⟨rfl, rfl⟩))
    refine (H52.out _).mono ?_
    rintro e w' ⟨t, ht, htv, rfl, rfl⟩
    have htest := (whole_test Hfb.out ht htv).1
    rw [decide_eq_false Hw.out] at htest
    unfold oNe at htest
    clear htv
    go_wp2_with (go_at_call 44; refine (c44 _).mono ?_; rintro e w' ⟨rfl, rfl⟩)
    go_ret
    exact ⟨_, 0, rfl, rfl, R_none (by decide) (by decide)⟩
end Go.Proofs.Ytpkinhiolaookaa
