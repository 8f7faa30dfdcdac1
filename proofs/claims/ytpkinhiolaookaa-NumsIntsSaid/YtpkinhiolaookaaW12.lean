/-
  Contracts of functions of the packages nums, lintelref02 and math: what each call returns. Conditions: as each theorem says.
-/
import Derived.Test.YtpkinhiolaookaaW11
namespace Go.Proofs.Ytpkinhiolaookaa
open Go.RowKit F64
set_option maxHeartbeats 400000
attribute [local go_sem] r56 r55 neg_run


theorem c17_far_1_true (a b K : Nat) (ha : a < 18446744073709551616) (hna : isNaN a = false) (hb : b < 18446744073709551616) (hfb : fin b = true) (hv : V (rung b) = K * U) (hw : V (rung b) / U * U = V (rung b))
    (H47b : Hid (∀ w, Calls Try.prog 47 #[.float .f64 b] w fun e w' => e = .returned (.bool false) ∧ w = w'))
    (H47a : Hid (∀ w, Calls Try.prog 47 #[.float .f64 a] w fun e w' => e = .returned (.bool false) ∧ w = w'))
    (H48b : Hid (∀ w, Calls Try.prog 48 #[.float .f64 b] w fun e w' => e = .returned (.bool false) ∧ w = w'))
    (hb0 : (FloatKind.f64.format.order b 0 == some Ordering.eq) = false) (hbh : (FloatKind.f64.format.order b 4602678819172646912 == some Ordering.eq) = false)
    (ht1 : (FloatKind.f64.format.order (rung b) 4652218415073722368 == some Ordering.gt) = true) (hK : K % 2 = 1) (hlt : (FloatKind.f64.format.order a 0 == some Ordering.lt) = true) (hbig : big a = true) (w : World) :
    Calls Try.prog 17 #[.float .f64 a, .float .f64 b] w (PowPost ((farO a (oGt b 0)).map fun r => r ^^^ 9223372036854775808) w) := by
  have hbl : rung b < 9218868437227405312 := of_decide_eq_true hfb
  obtain ⟨h0, h1, h2, hinf⟩ := big_true hbig
  have Hinf := Lib.hid hinf
  clear hinf hbig
  have Hfar := Lib.hid (c54 a (oGt b 0) ha)
  have HK := Lib.hid (c46_odd (rung b) K hbl hv hK)
  have hoo := one_one
  have H52 := Lib.hid (c52 b hfb)
  have Hfb := Lib.hid hfb
  have Hw := Lib.hid hw
  have HRa := Lib.hid (R_some ha hna)
  clear hfb hw hna hv hK HRa
  go_enter Try.func17, Try.ntmps17
  go_wp2_with (first | (go_at_call 47; (with_reducible refine (H47b.out _).mono ?_); rintro e w' ⟨rfl, rfl⟩) | (go_at_call 47; (with_reducible refine (H47a.out _).mono ?_); rintro e w' ⟨rfl, rfl⟩) | (go_at_call 48; (with_reducible refine (H48b.out _).mono ?_); rintro e w' ⟨rfl, rfl⟩))
  refine (H52.out _).mono ?_
  rintro e w' ⟨t, ht, htv, rfl, rfl⟩
  have htest := (whole_test Hfb.out ht htv).2
  rw [decide_eq_true Hw.out] at htest
  unfold oNe at htest
  clear htv Hw H52
  go_wp2_with (first | (go_at_call 19; refine (c19 _ hb _).mono ?_; rintro e w' ⟨rfl, rfl⟩) | (go_at_call 46; refine (HK.out _).mono ?_; rintro e w' ⟨rfl, rfl⟩) | (go_at_call 48; refine (isInf_n2 ha Hinf.out _).mono ?_; rintro e w' ⟨rfl, rfl⟩) | (go_at_call 54; refine (Hfar.out _).mono ?_; rintro e w' ⟨v, rfl, rfl, hR⟩; have HR := Lib.hid hR; clear hR))
  go_ret
  exact ⟨_, 0, rfl, rfl, neg_R HR.out⟩

theorem c17_far_1_false (a b K : Nat) (ha : a < 18446744073709551616) (hna : isNaN a = false) (hb : b < 18446744073709551616) (hfb : fin b = true) (hv : V (rung b) = K * U) (hw : V (rung b) / U * U = V (rung b))
    (H47b : Hid (∀ w, Calls Try.prog 47 #[.float .f64 b] w fun e w' => e = .returned (.bool false) ∧ w = w'))
    (H47a : Hid (∀ w, Calls Try.prog 47 #[.float .f64 a] w fun e w' => e = .returned (.bool false) ∧ w = w'))
    (H48b : Hid (∀ w, Calls Try.prog 48 #[.float .f64 b] w fun e w' => e = .returned (.bool false) ∧ w = w'))
    (hb0 : (FloatKind.f64.format.order b 0 == some Ordering.eq) = false) (hbh : (FloatKind.f64.format.order b 4602678819172646912 == some Ordering.eq) = false)
    (ht1 : (FloatKind.f64.format.order (rung b) 4652218415073722368 == some Ordering.gt) = true) (hK : K % 2 = 1) (hlt : (FloatKind.f64.format.order a 0 == some Ordering.lt) = false) (hbig : big a = true) (w : World) :
    Calls Try.prog 17 #[.float .f64 a, .float .f64 b] w (PowPost (farO a (oGt b 0)) w) := by
  have hbl : rung b < 9218868437227405312 := of_decide_eq_true hfb
  obtain ⟨h0, h1, h2, hinf⟩ := big_true hbig
  have Hinf := Lib.hid hinf
  clear hinf hbig
  have Hfar := Lib.hid (c54 a (oGt b 0) ha)
  have HK := Lib.hid (c46_odd (rung b) K hbl hv hK)
  have hoo := one_one
  have H52 := Lib.hid (c52 b hfb)
  have Hfb := Lib.hid hfb
  have Hw := Lib.hid hw
  have HRa := Lib.hid (R_some ha hna)
  clear hfb hw hna hv hK HRa
  go_enter Try.func17, Try.ntmps17
  go_wp2_with (first | (go_at_call 47; (with_reducible refine (H47b.out _).mono ?_); rintro e w' ⟨rfl, rfl⟩) | (go_at_call 47; (with_reducible refine (H47a.out _).mono ?_); rintro e w' ⟨rfl, rfl⟩) | (go_at_call 48; (with_reducible refine (H48b.out _).mono ?_); rintro e w' ⟨rfl, rfl⟩))
  refine (H52.out _).mono ?_
  rintro e w' ⟨t, ht, htv, rfl, rfl⟩
  have htest := (whole_test Hfb.out ht htv).2
  rw [decide_eq_true Hw.out] at htest
  unfold oNe at htest
  clear htv Hw H52
  go_wp2_with (first | (go_at_call 19; refine (c19 _ hb _).mono ?_; rintro e w' ⟨rfl, rfl⟩) | (go_at_call 46; refine (HK.out _).mono ?_; rintro e w' ⟨rfl, rfl⟩) | (go_at_call 48; refine (isInf_n2 ha Hinf.out _).mono ?_; rintro e w' ⟨rfl, rfl⟩) | (go_at_call 54; refine (Hfar.out _).mono ?_; rintro e w' ⟨v, rfl, rfl, hR⟩; have HR := Lib.hid hR; clear hR))
  go_ret
  exact ⟨_, 0, rfl, rfl, HR.out⟩

theorem c17_far_0_true (a b K : Nat) (ha : a < 18446744073709551616) (hna : isNaN a = false) (hb : b < 18446744073709551616) (hfb : fin b = true) (hv : V (rung b) = K * U) (hw : V (rung b) / U * U = V (rung b))
    (H47b : Hid (∀ w, Calls Try.prog 47 #[.float .f64 b] w fun e w' => e = .returned (.bool false) ∧ w = w'))
    (H47a : Hid (∀ w, Calls Try.prog 47 #[.float .f64 a] w fun e w' => e = .returned (.bool false) ∧ w = w'))
    (H48b : Hid (∀ w, Calls Try.prog 48 #[.float .f64 b] w fun e w' => e = .returned (.bool false) ∧ w = w'))
    (hb0 : (FloatKind.f64.format.order b 0 == some Ordering.eq) = false) (hbh : (FloatKind.f64.format.order b 4602678819172646912 == some Ordering.eq) = false)
    (ht1 : (FloatKind.f64.format.order (rung b) 4652218415073722368 == some Ordering.gt) = true) (hK : ¬ K % 2 = 1) (hlt : (FloatKind.f64.format.order a 0 == some Ordering.lt) = true) (hbig : big a = true) (w : World) :
    Calls Try.prog 17 #[.float .f64 a, .float .f64 b] w (PowPost (farO a (oGt b 0)) w) := by
  have hbl : rung b < 9218868437227405312 := of_decide_eq_true hfb
  obtain ⟨h0, h1, h2, hinf⟩ := big_true hbig
  have Hinf := Lib.hid hinf
  clear hinf hbig
  have Hfar := Lib.hid (c54 a (oGt b 0) ha)
  have HK := Lib.hid (c46_even (rung b) K hbl hv hK)
  have hoo := zero_one
  have H52 := Lib.hid (c52 b hfb)
  have Hfb := Lib.hid hfb
  have Hw := Lib.hid hw
  have HRa := Lib.hid (R_some ha hna)
  clear hfb hw hna hv hK HRa
  go_enter Try.func17, Try.ntmps17
  go_wp2_with (first | (go_at_call 47; (with_reducible refine (H47b.out _).mono ?_); rintro e w' ⟨rfl, rfl⟩) | (go_at_call 47; (with_reducible refine (H47a.out _).mono ?_); rintro e w' ⟨rfl, rfl⟩) | (go_at_call 48; (with_reducible refine (H48b.out _).mono ?_); rintro e w' ⟨rfl, rfl⟩))
  refine (H52.out _).mono ?_
  rintro e w' ⟨t, ht, htv, rfl, rfl⟩
  have htest := (whole_test Hfb.out ht htv).2
  rw [decide_eq_true Hw.out] at htest
  unfold oNe at htest
  clear htv Hw H52
  go_wp2_with (first | (go_at_call 19; refine (c19 _ hb _).mono ?_; rintro e w' ⟨rfl, rfl⟩) | (go_at_call 46; refine (HK.out _).mono ?_; rintro e w' ⟨rfl, rfl⟩) | (go_at_call 48; refine (isInf_n2 ha Hinf.out _).mono ?_; rintro e w' ⟨rfl, rfl⟩) | (go_at_call 54; refine (Hfar.out _).mono ?_; rintro e w' ⟨v, rfl, rfl, hR⟩; have HR := Lib.hid hR; clear hR))
  go_ret
  exact ⟨_, 0, rfl, rfl, HR.out⟩

theorem c17_far_0_false (a b K : Nat) (ha : a < 18446744073709551616) (hna : isNaN a = false) (hb : b < 18446744073709551616) (hfb : fin b = true) (hv : V (rung b) = K * U) (hw : V (rung b) / U * U = V (rung b))
    (H47b : Hid (∀ w, Calls Try.prog 47 #[.float .f64 b] w fun e w' => e = .returned (.bool false) ∧ w = w'))
    (H47a : Hid (∀ w, Calls Try.prog 47 #[.float .f64 a] w fun e w' => e = .returned (.bool false) ∧ w = w'))
    (H48b : Hid (∀ w, Calls Try.prog 48 #[.float .f64 b] w fun e w' => e = .returned (.bool false) ∧ w = w'))
    (hb0 : (FloatKind.f64.format.order b 0 == some Ordering.eq) = false) (hbh : (FloatKind.f64.format.order b 4602678819172646912 == some Ordering.eq) = false)
    (ht1 : (FloatKind.f64.format.order (rung b) 4652218415073722368 == some Ordering.gt) = true) (hK : ¬ K % 2 = 1) (hlt : (FloatKind.f64.format.order a 0 == some Ordering.lt) = false) (hbig : big a = true) (w : World) :
    Calls Try.prog 17 #[.float .f64 a, .float .f64 b] w (PowPost (farO a (oGt b 0)) w) := by
  have hbl : rung b < 9218868437227405312 := of_decide_eq_true hfb
  obtain ⟨h0, h1, h2, hinf⟩ := big_true hbig
  have Hinf := Lib.hid hinf
  clear hinf hbig
  have Hfar := Lib.hid (c54 a (oGt b 0) ha)
  have HK := Lib.hid (c46_even (rung b) K hbl hv hK)
  have hoo := zero_one
  have H52 := Lib.hid (c52 b hfb)
  have Hfb := Lib.hid hfb
  have Hw := Lib.hid hw
  have HRa := Lib.hid (R_some ha hna)
  clear hfb hw hna hv hK HRa
  go_enter Try.func17, Try.ntmps17
  go_wp2_with (first | (go_at_call 47; (with_reducible refine (H47b.out _).mono ?_); rintro e w' ⟨rfl, rfl⟩) | (go_at_call 47; (with_reducible refine (H47a.out _).mono ?_); rintro e w' ⟨rfl, rfl⟩) | (go_at_call 48; (with_reducible refine (H48b.out _).mono ?_); rintro e w' ⟨rfl, rfl⟩))
  refine (H52.out _).mono ?_
  rintro e w' ⟨t, ht, htv, rfl, rfl⟩
  have htest := (whole_test Hfb.out ht htv).2
  rw [decide_eq_true Hw.out] at htest
  unfold oNe at htest
  clear htv Hw H52
  go_wp2_with (first | (go_at_call 19; refine (c19 _ hb _).mono ?_; rintro e w' ⟨rfl, rfl⟩) | (go_at_call 46; refine (HK.out _).mono ?_; rintro e w' ⟨rfl, rfl⟩) | (go_at_call 48; refine (isInf_n2 ha Hinf.out _).mono ?_; rintro e w' ⟨rfl, rfl⟩) | (go_at_call 54; refine (Hfar.out _).mono ?_; rintro e w' ⟨v, rfl, rfl, hR⟩; have HR := Lib.hid hR; clear hR))
  go_ret
  exact ⟨_, 0, rfl, rfl, HR.out⟩

theorem c17_w (a b K : Nat) (ha : a < 18446744073709551616) (hna : isNaN a = false) (hb : b < 18446744073709551616) (hfb : fin b = true) (hv : V (rung b) = K * U) (hw : V (rung b) / U * U = V (rung b))
    (H47b : Hid (∀ w, Calls Try.prog 47 #[.float .f64 b] w fun e w' => e = .returned (.bool false) ∧ w = w'))
    (H47a : Hid (∀ w, Calls Try.prog 47 #[.float .f64 a] w fun e w' => e = .returned (.bool false) ∧ w = w'))
    (H48b : Hid (∀ w, Calls Try.prog 48 #[.float .f64 b] w fun e w' => e = .returned (.bool false) ∧ w = w'))
    (hb0 : (FloatKind.f64.format.order b 0 == some Ordering.eq) = false) (hbh : (FloatKind.f64.format.order b 4602678819172646912 == some Ordering.eq) = false) (w : World) :
    Calls Try.prog 17 #[.float .f64 a, .float .f64 b] w (PowPost (wholeO a b K) w) := by
  unfold wholeO
  cases ht1 : oGt (rung b) 4652218415073722368
  · rw [if_neg (by decide)]
    by_cases hK : K % 2 = 1
    · exact c17_le_1 a b K ha hna hb hfb hv hw H47b H47a H48b hb0 hbh ht1 hK w _ _ (Lib.hid rfl) (Lib.hid rfl)
    · exact c17_le_0 a b K ha hna hb hfb hv hw H47b H47a H48b hb0 hbh ht1 hK w _ _ (Lib.hid rfl) (Lib.hid rfl)
  · rw [if_pos rfl]
    by_cases hbig : big a = true
    · rw [if_pos hbig]
      by_cases hK : K % 2 = 1
      · cases hlt : (FloatKind.f64.format.order a 0 == some Ordering.lt)
        · have e : oLt a 0 = false := hlt
          rw [e, Bool.false_and, map_id']
          exact c17_far_1_false a b K ha hna hb hfb hv hw H47b H47a H48b hb0 hbh ht1 hK hlt hbig w
        · have e : oLt a 0 = true := hlt
          rw [e, hK]
          exact c17_far_1_true a b K ha hna hb hfb hv hw H47b H47a H48b hb0 hbh ht1 hK hlt hbig w
      · have e : (K % 2 == 1) = false := by simpa using hK
        rw [e, Bool.and_false, map_id']
        cases hlt : (FloatKind.f64.format.order a 0 == some Ordering.lt)
        · exact c17_far_0_false a b K ha hna hb hfb hv hw H47b H47a H48b hb0 hbh ht1 hK hlt hbig w
        · exact c17_far_0_true a b K ha hna hb hfb hv hw H47b H47a H48b hb0 hbh ht1 hK hlt hbig w
    · rw [if_neg hbig]
      have hc := big_false hbig
      by_cases hK : K % 2 = 1
      · rw [hK]
        cases h0 : (FloatKind.f64.format.order a 0 != some Ordering.eq)
        · exact c17_c0_1 a b K ha hna hb hfb hv hw H47b H47a H48b hb0 hbh 3 ht1 rfl hK h0 w _ _ (Lib.hid rfl) (Lib.hid rfl)
        · by_cases hinf : rung a = 9218868437227405312
          · exact c17_c1_1 a b K ha hna hb hfb hv hw H47b H47a H48b hb0 hbh 3 ht1 rfl hK h0 (Lib.hid hinf) w _ _ (Lib.hid rfl) (Lib.hid rfl)
          · cases h1 : (FloatKind.f64.format.order a 4607182418800017408 != some Ordering.eq)
            · exact c17_c2_1 a b K ha hna hb hfb hv hw H47b H47a H48b hb0 hbh 3 ht1 rfl hK h0 (Lib.hid hinf) h1 w _ _ (Lib.hid rfl) (Lib.hid rfl)
            · cases h2 : (FloatKind.f64.format.order a 13830554455654793216 != some Ordering.eq)
              · exact c17_c3_1 a b K ha hna hb hfb hv hw H47b H47a H48b hb0 hbh 3 ht1 rfl hK h0 (Lib.hid hinf) h1 h2 w _ _ (Lib.hid rfl) (Lib.hid rfl)
              · rw [h0, h1, h2] at hc
                exact absurd hc (by simpa using hinf)
      
      · rw [show K % 2 = 0 by omega]
        cases h0 : (FloatKind.f64.format.order a 0 != some Ordering.eq)
        · exact c17_c0_0 a b K ha hna hb hfb hv hw H47b H47a H48b hb0 hbh 2 ht1 rfl hK h0 w _ _ (Lib.hid rfl) (Lib.hid rfl)
        · by_cases hinf : rung a = 9218868437227405312
          · exact c17_c1_0 a b K ha hna hb hfb hv hw H47b H47a H48b hb0 hbh 2 ht1 rfl hK h0 (Lib.hid hinf) w _ _ (Lib.hid rfl) (Lib.hid rfl)
          · cases h1 : (FloatKind.f64.format.order a 4607182418800017408 != some Ordering.eq)
            · exact c17_c2_0 a b K ha hna hb hfb hv hw H47b H47a H48b hb0 hbh 2 ht1 rfl hK h0 (Lib.hid hinf) h1 w _ _ (Lib.hid rfl) (Lib.hid rfl)
            · cases h2 : (FloatKind.f64.format.order a 13830554455654793216 != some Ordering.eq)
              · exact c17_c3_0 a b K ha hna hb hfb hv hw H47b H47a H48b hb0 hbh 2 ht1 rfl hK h0 (Lib.hid hinf) h1 h2 w _ _ (Lib.hid rfl) (Lib.hid rfl)
              · rw [h0, h1, h2] at hc
                exact absurd hc (by simpa using hinf)

/-- the reference's Pow -/
theorem c17 (a b : Nat) (ha : a < 18446744073709551616) (hb : b < 18446744073709551616) (w : World) :
    Calls Try.prog 17 #[.float .f64 a, .float .f64 b] w (PowPost (powO a b) w) := by
  unfold powO
  cases hnb : isNaN b
  case true =>
    rw [if_pos rfl]
    have h47 := c47 b
    rw [hnb] at h47
    have H47 := Lib.hid h47
    clear hnb h47
    go_enter Try.func17, Try.ntmps17
    go_wp2_with (first | (go_at_call 47; refine (H47.out _).mono ?_; rintro e w' ⟨rfl, rfl⟩) | (go_at_call 44; refine (c44 _).mono ?_; rintro e w' ⟨rfl, rfl⟩))
    go_ret
    exact ⟨_, 0, rfl, rfl, R_none (by decide) (by decide)⟩
  rw [if_neg (by decide)]
  have h47 := c47 b
  rw [hnb] at h47
  have H47 := Lib.hid h47
  clear h47
  cases hb0 : oEq b 0
  case true =>
    rw [if_pos rfl]
    unfold oEq at hb0
    clear hnb
    go_enter Try.func17, Try.ntmps17
    go_wp2_with (first | (go_at_call 47; refine (H47.out _).mono ?_; rintro e w' ⟨rfl, rfl⟩))
    go_ret
    exact ⟨_, 0, rfl, rfl, R_some (by decide) (by decide)⟩
  rw [if_neg (by decide)]
  unfold oEq at hb0
  have h47a := c47 a
  cases hna : isNaN a
  case true =>
    rw [if_pos rfl]
    rw [hna] at h47a
    have H47a := Lib.hid h47a
    clear hnb hna h47a
    go_enter Try.func17, Try.ntmps17
    go_wp2_with (first | (go_at_call 47; (with_reducible refine (H47.out _).mono ?_); rintro e w' ⟨rfl, rfl⟩) | (go_at_call 47; (with_reducible refine (H47a.out _).mono ?_); rintro e w' ⟨rfl, rfl⟩) | (go_at_call 44; refine (c44 _).mono ?_; rintro e w' ⟨rfl, rfl⟩))
    go_ret
    exact ⟨_, 0, rfl, rfl, R_none (by decide) (by decide)⟩
  rw [if_neg (by decide)]
  rw [hna] at h47a
  have H47a := Lib.hid h47a
  clear h47a
  by_cases hbi : rung b = 9218868437227405312
  · rw [if_pos hbi]
    have Hbi := Lib.hid (isInf_t2 hb hbi)
    have Hfar := Lib.hid (c54 a (oGt b 0) ha)
    clear hbi hna hnb
    go_enter Try.func17, Try.ntmps17
    go_wp2_with (first | (go_at_call 47; (with_reducible refine (H47.out _).mono ?_); rintro e w' ⟨rfl, rfl⟩) | (go_at_call 47; (with_reducible refine (H47a.out _).mono ?_); rintro e w' ⟨rfl, rfl⟩) | (go_at_call 48; refine (Hbi.out _).mono ?_; rintro e w' ⟨rfl, rfl⟩) | (go_at_call 54; refine (Hfar.out _).mono ?_; rintro e w' ⟨v, rfl, rfl, hR⟩; have HR := Lib.hid hR; clear hR))
    go_ret
    exact ⟨_, 0, rfl, rfl, HR.out⟩
  rw [if_neg hbi]
  have Hbi := Lib.hid (isInf_n2 hb hbi)
  have hfb : fin b = true := by
    rcases cases_word b with h | ⟨_, h⟩ | ⟨_, h⟩
    · rw [hnb] at h; cases h
    · exact absurd h hbi
    · exact h
  cases hbh : oEq b 4602678819172646912
  case true =>
    rw [if_pos rfl]
    unfold oEq at hbh
    by_cases hai : rung a = 9218868437227405312
    · rw [if_pos hai]
      have Hai := Lib.hid (isInf_t2 ha hai)
      clear hai hna hnb hbi
      go_enter Try.func17, Try.ntmps17
      go_wp2_with (first | (go_at_call 47; (with_reducible refine (H47.out _).mono ?_); rintro e w' ⟨rfl, rfl⟩) | (go_at_call 47; (with_reducible refine (H47a.out _).mono ?_); rintro e w' ⟨rfl, rfl⟩) | (go_at_call 48; (with_reducible refine (Hbi.out _).mono ?_); rintro e w' ⟨rfl, rfl⟩) | (go_at_call 48; (with_reducible refine (Hai.out _).mono ?_); rintro e w' ⟨rfl, rfl⟩) | (go_at_call 50; refine (c50_1 _).mono ?_; rintro e w' ⟨rfl, rfl⟩))
      go_ret
      exact ⟨_, 0, rfl, rfl, R_some (by decide) (by decide)⟩
    · rw [if_neg hai]
      have Hai := Lib.hid (isInf_n2 ha hai)
      clear hai hna hnb hbi
      go_enter Try.func17, Try.ntmps17
      go_wp2_with (first | (go_at_call 47; (with_reducible refine (H47.out _).mono ?_); rintro e w' ⟨rfl, rfl⟩) | (go_at_call 47; (with_reducible refine (H47a.out _).mono ?_); rintro e w' ⟨rfl, rfl⟩) | (go_at_call 48; (with_reducible refine (Hbi.out _).mono ?_); rintro e w' ⟨rfl, rfl⟩) | (go_at_call 48; (with_reducible refine (Hai.out _).mono ?_); rintro e w' ⟨rfl, rfl⟩))
      refine (c51 a _).mono ?_
      rintro e w' ⟨v, nq, rfl, rfl, hR⟩
      obtain ⟨v', n', h1, hR1⟩ := nan_add_R hR (w.drewN nq)
      have HR1 := Lib.hid hR1
      clear hR hR1
      rw [World.drewN_drewN] at h1
      go_wp2_with fail
      go_ret
      exact ⟨v', nq + n', rfl, rfl, HR1.out⟩
  rw [if_neg (by decide)]
  unfold oEq at hbh
  by_cases hw : V (rung b) / U * U = V (rung b)
  · rw [if_pos hw]
    exact c17_w a b _ ha hna hb hfb hw.symm hw H47 H47a Hbi hb0 hbh w
  · rw [if_neg hw]
    have H52 := Lib.hid (c52 b hfb)
    have Hfb := Lib.hid hfb
    have Hw := Lib.hid hw
    clear hna hnb hbi hfb hw
    go_enter Try.func17, Try.ntmps17
    go_wp2_with (first | (go_at_call 47; (with_reducible refine (H47.out _).mono ?_); rintro e w' ⟨rfl, rfl⟩) | (go_at_call 47; (with_reducible refine (H47a.out _).mono ?_); rintro e w' ⟨rfl, rfl⟩) | (go_at_call 48; (with_reducible refine (Hbi.out _).mono ?_); rintro e w' ⟨rfl, rfl⟩))
    refine (H52.out _).mono ?_
    rintro e w' ⟨t, ht, htv, rfl, rfl⟩
    have htest := (whole_test Hfb.out ht htv).2
    rw [decide_eq_false Hw.out] at htest
    unfold oNe at htest
    clear htv Hw H52
    go_wp2_with (go_at_call 44; refine (c44 _).mono ?_; rintro e w' ⟨rfl, rfl⟩)
    go_ret
    exact ⟨_, 0, rfl, rfl, R_none (by decide) (by decide)⟩
end Go.Proofs.Ytpkinhiolaookaa
