/-
  Contracts of functions of the packages nums, lintelref02 and math: what each call returns. Conditions: as each theorem says.
-/
import Derived.Test.YtpkinhiolaookaaW8
namespace Go.Proofs.Ytpkinhiolaookaa
open Go.RowKit F64
set_option maxHeartbeats 400000
attribute [local go_sem] r56 r55 neg_run

theorem neg_R {o : Option Nat} {v : Nat} (h : R o v) : R (o.map fun r => r ^^^ 9223372036854775808) (v ^^^ 9223372036854775808) := by
  have key : isNaN (v ^^^ 9223372036854775808) = isNaN v := by
    rw [b_neg h.1]; unfold isNaN; rw [rung_wd _ _ (rung_lt v)]
  have hl : v ^^^ 9223372036854775808 < 18446744073709551616 := by rw [b_neg h.1]; exact wd_lt _ _ (rung_lt v)
  cases o with
  | none => exact ⟨hl, by rw [key]; exact h.2⟩
  | some x =>
    obtain ⟨h1, rfl, h3⟩ := h
    exact ⟨hl, rfl, by rw [key]; exact h3⟩
theorem map_id' (o : Option Nat) : (o.map fun r => if false = true then r ^^^ 9223372036854775808 else r) = o := by cases o <;> rfl

theorem c53_far (a b K : Nat) (ha : a < 18446744073709551616) (hb : b < 18446744073709551616) (hfb : fin b = true) (hv : V (rung b) = K * U)
    (ht1 : (FloatKind.f64.format.order (rung b) 4652218415073722368 == some Ordering.gt) = true) (hbig : big a = true) (w : World) :
    Calls Try.prog 53 #[.float .f64 a, .float .f64 b] w (PowPost ((farO a (oGt b 0)).map fun r => if (oLt a 0 && K % 2 == 1) = true then r ^^^ 9223372036854775808 else r) w) := by
  have hbl : rung b < 9218868437227405312 := of_decide_eq_true hfb
  obtain ⟨h0, h1, h2, hinf⟩ := big_true hbig
  have Hinf := Lib.hid hinf
  clear hinf hbig
  have Hfar := Lib.hid (c49 a (oGt b 0) ha)
  by_cases hK : K % 2 = 1
  · have HK := Lib.hid (c46_odd (rung b) K hbl hv hK)
    have hoo := one_one
    rw [hK]
    clear hK hv
    cases hlt : (FloatKind.f64.format.order a 0 == some Ordering.lt)
    · have e : oLt a 0 = false := hlt
      rw [e, Bool.false_and, map_id']
      clear e
      go_enter Try.func53, Try.ntmps53
      go_wp2_with (first | (go_at_call 19; refine (c19 _ hb _).mono ?_; rintro e w' ⟨rfl, rfl⟩) | (go_at_call 46; refine (HK.out _).mono ?_; rintro e w' ⟨rfl, rfl⟩) | (go_at_call 18; refine (isInf_n ha Hinf.out _).mono ?_; rintro e w' ⟨rfl, rfl⟩) | (go_at_call 49; refine (Hfar.out _).mono ?_; rintro e w' ⟨v, rfl, rfl, hR⟩; have HR := Lib.hid hR; clear hR))
      go_ret
      exact ⟨_, 0, rfl, rfl, HR.out⟩
    · have e : oLt a 0 = true := hlt
      rw [e]
      clear e
      simp only [beq_self_eq_true, Bool.and_self, if_true]
      go_enter Try.func53, Try.ntmps53
      go_wp2_with (first | (go_at_call 19; refine (c19 _ hb _).mono ?_; rintro e w' ⟨rfl, rfl⟩) | (go_at_call 46; refine (HK.out _).mono ?_; rintro e w' ⟨rfl, rfl⟩) | (go_at_call 18; refine (isInf_n ha Hinf.out _).mono ?_; rintro e w' ⟨rfl, rfl⟩) | (go_at_call 49; refine (Hfar.out _).mono ?_; rintro e w' ⟨v, rfl, rfl, hR⟩; have HR := Lib.hid hR; clear hR))
      go_ret
      exact ⟨_, 0, rfl, rfl, neg_R HR.out⟩
  · have HK := Lib.hid (c46_even (rung b) K hbl hv hK)
    have hoo := zero_one
    have e : (K % 2 == 1) = false := by simpa using hK
    rw [e, Bool.and_false, map_id']
    clear hK hv e
    go_enter Try.func53, Try.ntmps53
    go_wp2_with (first | (go_at_call 19; refine (c19 _ hb _).mono ?_; rintro e w' ⟨rfl, rfl⟩) | (go_at_call 46; refine (HK.out _).mono ?_; rintro e w' ⟨rfl, rfl⟩) | (go_at_call 18; refine (isInf_n ha Hinf.out _).mono ?_; rintro e w' ⟨rfl, rfl⟩) | (go_at_call 49; refine (Hfar.out _).mono ?_; rintro e w' ⟨v, rfl, rfl, hR⟩; have HR := Lib.hid hR; clear hR))
    all_goals go_ret
    all_goals exact ⟨_, 0, rfl, rfl, HR.out⟩

theorem c53 (a b K : Nat) (ha : a < 18446744073709551616) (hna : isNaN a = false) (hb : b < 18446744073709551616) (hfb : fin b = true) (hv : V (rung b) = K * U) (w : World) :
    Calls Try.prog 53 #[.float .f64 a, .float .f64 b] w (PowPost (wholeO a b K) w) := by
  unfold wholeO
  cases ht1 : oGt (rung b) 4652218415073722368
  · rw [if_neg (by decide)]
    exact c53_le a b K ha hna hb hfb hv ht1 w _ _ (Lib.hid rfl) (Lib.hid rfl)
  · rw [if_pos rfl]
    by_cases hbig : big a = true
    · rw [if_pos hbig]
      exact c53_far a b K ha hb hfb hv ht1 hbig w
    · rw [if_neg hbig]
      have hc := big_false hbig
      by_cases hK : K % 2 = 1
      · rw [hK]
        cases h0 : (FloatKind.f64.format.order a 0 != some Ordering.eq)
        · exact c53_c0_1 a b K ha hna hb hfb hv 3 ht1 rfl hK h0 w _ _ (Lib.hid rfl) (Lib.hid rfl)
        · cases h1 : (FloatKind.f64.format.order a 4607182418800017408 != some Ordering.eq)
          · exact c53_c1_1 a b K ha hna hb hfb hv 3 ht1 rfl hK h0 h1 w _ _ (Lib.hid rfl) (Lib.hid rfl)
          · cases h2 : (FloatKind.f64.format.order a 13830554455654793216 != some Ordering.eq)
            · exact c53_c2_1 a b K ha hna hb hfb hv 3 ht1 rfl hK h0 h1 h2 w _ _ (Lib.hid rfl) (Lib.hid rfl)
            · rw [h0, h1, h2] at hc
              exact c53_c3_1 a b K ha hna hb hfb hv 3 ht1 rfl hK h0 h1 h2 (Lib.hid (by simpa using hc)) w _ _ (Lib.hid rfl) (Lib.hid rfl)
      · have e : K % 2 = 0 := by omega
        rw [e]
        cases h0 : (FloatKind.f64.format.order a 0 != some Ordering.eq)
        · exact c53_c0_0 a b K ha hna hb hfb hv 2 ht1 rfl hK h0 w _ _ (Lib.hid rfl) (Lib.hid rfl)
        · cases h1 : (FloatKind.f64.format.order a 4607182418800017408 != some Ordering.eq)
          · exact c53_c1_0 a b K ha hna hb hfb hv 2 ht1 rfl hK h0 h1 w _ _ (Lib.hid rfl) (Lib.hid rfl)
          · cases h2 : (FloatKind.f64.format.order a 13830554455654793216 != some Ordering.eq)
            · exact c53_c2_0 a b K ha hna hb hfb hv 2 ht1 rfl hK h0 h1 h2 w _ _ (Lib.hid rfl) (Lib.hid rfl)
            · rw [h0, h1, h2] at hc
              exact c53_c3_0 a b K ha hna hb hfb hv 2 ht1 rfl hK h0 h1 h2 (Lib.hid (by simpa using hc)) w _ _ (Lib.hid rfl) (Lib.hid rfl)
end Go.Proofs.Ytpkinhiolaookaa
