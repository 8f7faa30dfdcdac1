/-
  Contracts of functions of the packages nums, lintelref02 and math: what each call returns. Conditions: as each theorem says.
-/
import Derived.Test.YtpkinhiolaookaaW7
import Derived.Test.YtpkinhiolaookaaQ64
namespace Go.Proofs.Ytpkinhiolaookaa
open Go.RowKit F64
set_option maxHeartbeats 400000
attribute [local go_sem] r56 r55 neg_run

def PowPost (o : Option Nat) (w : World) (e : Ending) (w' : World) : Prop := ∃ v nq, e = .returned (.float .f64 v) ∧ w' = w.drewN nq ∧ R o v
def FarPost (o : Option Nat) (w : World) (e : Ending) (w' : World) : Prop := ∃ v, e = .returned (.float .f64 v) ∧ w = w' ∧ R o v

theorem c49 (a : Nat) (up : Bool) (ha : a < 18446744073709551616) (w : World) :
    Calls Try.prog 49 #[.float .f64 a, .bool up] w (FarPost (farO a up) w) := by
  by_cases h1 : oEq (rung a) 4607182418800017408 = true
  · have e : farO a up = none := by unfold farO; rw [if_pos h1]
    rw [e]
    unfold oEq at h1
    go_enter Try.func49, Try.ntmps49
    go_wp2_with (first | (go_at_call 19; refine (c19 _ ha _).mono ?_; rintro e w' ⟨rfl, rfl⟩) | (go_at_call 44; refine (c44 _).mono ?_; rintro e w' ⟨rfl, rfl⟩))
    go_ret
    exact ⟨_, rfl, rfl, R_none (by decide) (by decide)⟩
  · have h1' : oEq (rung a) 4607182418800017408 = false := by simpa using h1
    by_cases h2 : (oGt (rung a) 4607182418800017408 == up) = true
    · have e : farO a up = some 9218868437227405312 := by unfold farO; rw [if_neg h1, if_pos (by simpa using h2)]
      rw [e]
      unfold oEq at h1'
      unfold oGt at h2
      clear h1
      go_enter Try.func49, Try.ntmps49
      go_wp2_with (first | (go_at_call 19; refine (c19 _ ha _).mono ?_; rintro e w' ⟨rfl, rfl⟩) | (go_at_call 50; refine (c50_1 _).mono ?_; rintro e w' ⟨rfl, rfl⟩))
      go_ret
      exact ⟨_, rfl, rfl, R_some (by decide) (by decide)⟩
    · have e : farO a up = some 0 := by unfold farO; rw [if_neg h1, if_neg (by simpa using h2)]
      rw [e]
      have h2' : (oGt (rung a) 4607182418800017408 == up) = false := by simpa using h2
      unfold oEq at h1'
      unfold oGt at h2'
      clear h1 h2
      go_enter Try.func49, Try.ntmps49
      go_wp2_with (first | (go_at_call 19; refine (c19 _ ha _).mono ?_; rintro e w' ⟨rfl, rfl⟩))
      go_ret
      exact ⟨_, rfl, rfl, R_some (by decide) (by decide)⟩
theorem c54 (a : Nat) (up : Bool) (ha : a < 18446744073709551616) (w : World) :
    Calls Try.prog 54 #[.float .f64 a, .bool up] w (FarPost (farO a up) w) := by
  by_cases h1 : oEq (rung a) 4607182418800017408 = true
  · have e : farO a up = none := by unfold farO; rw [if_pos h1]
    rw [e]
    unfold oEq at h1
    go_enter Try.func54, Try.ntmps54
    go_wp2_with (first | (go_at_call 19; refine (c19 _ ha _).mono ?_; rintro e w' ⟨rfl, rfl⟩) | (go_at_call 44; refine (c44 _).mono ?_; rintro e w' ⟨rfl, rfl⟩))
    go_ret
    exact ⟨_, rfl, rfl, R_none (by decide) (by decide)⟩
  · have h1' : oEq (rung a) 4607182418800017408 = false := by simpa using h1
    by_cases h2 : (oGt (rung a) 4607182418800017408 == up) = true
    · have e : farO a up = some 9218868437227405312 := by unfold farO; rw [if_neg h1, if_pos (by simpa using h2)]
      rw [e]
      unfold oEq at h1'
      unfold oGt at h2
      clear h1
      go_enter Try.func54, Try.ntmps54
      go_wp2_with (first | (go_at_call 19; refine (c19 _ ha _).mono ?_; rintro e w' ⟨rfl, rfl⟩) | (go_at_call 50; refine (c50_1 _).mono ?_; rintro e w' ⟨rfl, rfl⟩))
      go_ret
      exact ⟨_, rfl, rfl, R_some (by decide) (by decide)⟩
    · have e : farO a up = some 0 := by unfold farO; rw [if_neg h1, if_neg (by simpa using h2)]
      rw [e]
      have h2' : (oGt (rung a) 4607182418800017408 == up) = false := by simpa using h2
      unfold oEq at h1'
      unfold oGt at h2'
      clear h1 h2
      go_enter Try.func54, Try.ntmps54
      go_wp2_with (first | (go_at_call 19; refine (c19 _ ha _).mono ?_; rintro e w' ⟨rfl, rfl⟩))
      go_ret
      exact ⟨_, rfl, rfl, R_some (by decide) (by decide)⟩

theorem big_false {a : Nat} (h : ¬ big a = true) : (FloatKind.f64.format.order a 0 != some Ordering.eq) = false
    ∨ (FloatKind.f64.format.order a 4607182418800017408 != some Ordering.eq) = false
    ∨ (FloatKind.f64.format.order a 13830554455654793216 != some Ordering.eq) = false ∨ rung a = 9218868437227405312 := by
  unfold big oNe at h
  cases h0 : (FloatKind.f64.format.order a 0 != some Ordering.eq)
  · exact .inl rfl
  · cases h1 : (FloatKind.f64.format.order a 4607182418800017408 != some Ordering.eq)
    · exact .inr (.inl rfl)
    · cases h2 : (FloatKind.f64.format.order a 13830554455654793216 != some Ordering.eq)
      · exact .inr (.inr (.inl rfl))
      · rw [h0, h1, h2] at h
        exact .inr (.inr (.inr (by simpa using h)))
theorem big_true {a : Nat} (h : big a = true) : (FloatKind.f64.format.order a 0 != some Ordering.eq) = true
    ∧ (FloatKind.f64.format.order a 4607182418800017408 != some Ordering.eq) = true
    ∧ (FloatKind.f64.format.order a 13830554455654793216 != some Ordering.eq) = true ∧ ¬ rung a = 9218868437227405312 := by
  unfold big oNe at h
  simpa [and_assoc] using h
theorem farO_some {a : Nat} (up : Bool) : (∃ r, farO a up = some r ∧ (r = 9218868437227405312 ∨ r = 0)) ∨ farO a up = none := by
  unfold farO
  split
  · exact .inr rfl
  · split
    · exact .inl ⟨_, rfl, .inl rfl⟩
    · exact .inl ⟨_, rfl, .inr rfl⟩
theorem isInf_n {x : Nat} (hx : x < 18446744073709551616) (h : ¬ rung x = 9218868437227405312) (w : World) :
    Calls Try.prog 18 #[.float .f64 x, .int .i64 0] w fun e w' => e = .returned (.bool false) ∧ w = w' := by
  refine (c18_0 x hx w).mono ?_
  rintro e w' ⟨rfl, rfl⟩
  exact ⟨ret_bool (decide_eq_false h), rfl⟩
theorem isInf_n2 {x : Nat} (hx : x < 18446744073709551616) (h : ¬ rung x = 9218868437227405312) (w : World) :
    Calls Try.prog 48 #[.float .f64 x] w fun e w' => e = .returned (.bool false) ∧ w = w' := by
  refine (c48 x hx w).mono ?_
  rintro e w' ⟨rfl, rfl⟩
  exact ⟨ret_bool (decide_eq_false h), rfl⟩
/-- Mod(n, 2) of a whole number -/
theorem c46_two (n K : Nat) (hn : n < 9218868437227405312) (hv : V n = K * U) (w : World) :
    Calls Try.prog 46 #[.float .f64 n, .float .f64 4611686018427387904] w fun e w' => e = .returned (.float .f64 (if K % 2 = 1 then 4607182418800017408 else 0)) ∧ w = w' := by
  refine (c46 n 4611686018427387904 (by omega) (fin_small hn) (by decide) (by decide) (by decide) w).mono ?_
  rintro e w' ⟨r, hr, hrv, rfl, rfl⟩
  rw [rung_small (by omega), rung_small (by decide)] at hrv
  have := rest_two hv hrv
  rw [sgn_small (by omega)]
  exact ⟨ret_float this, rfl⟩
theorem c46_odd (n K : Nat) (hn : n < 9218868437227405312) (hv : V n = K * U) (hK : K % 2 = 1) (w : World) :
    Calls Try.prog 46 #[.float .f64 n, .float .f64 4611686018427387904] w fun e w' => e = .returned (.float .f64 4607182418800017408) ∧ w = w' := by
  have := c46_two n K hn hv w
  rw [if_pos hK] at this; exact this
theorem c46_even (n K : Nat) (hn : n < 9218868437227405312) (hv : V n = K * U) (hK : ¬ K % 2 = 1) (w : World) :
    Calls Try.prog 46 #[.float .f64 n, .float .f64 4611686018427387904] w fun e w' => e = .returned (.float .f64 0) ∧ w = w' := by
  have := c46_two n K hn hv w
  rw [if_neg hK] at this; exact this
theorem V_two2 : V 4611686018427387904 = 2 * U := V_times (m := 51) (e := 1023) (by decide) (by decide) rfl
theorem one_one : (FloatKind.f64.format.order 4607182418800017408 4607182418800017408 == some Ordering.eq) = true := by rw [ord_eq (by decide) (by decide)]; rfl
theorem zero_one : (FloatKind.f64.format.order 0 4607182418800017408 == some Ordering.eq) = false := by rw [ord_eq (by decide) (by decide)]; rfl
theorem last_t {b : Nat} {p : Option Nat} (h : (FloatKind.f64.format.order b 0 == some Ordering.lt) = true) : lastO b p = od (some 4607182418800017408) p := by
  unfold lastO oLt; rw [if_pos h]
theorem last_f {b : Nat} {p : Option Nat} (h : (FloatKind.f64.format.order b 0 == some Ordering.lt) = false) : lastO b p = p := by
  unfold lastO oLt; rw [if_neg (by rw [h]; decide)]

theorem c53_le (a b K : Nat) (ha : a < 18446744073709551616) (hna : isNaN a = false) (hb : b < 18446744073709551616) (hfb : fin b = true) (hv : V (rung b) = K * U) (ht1 : (FloatKind.f64.format.order (rung b) 4652218415073722368 == some Ordering.gt) = false) (w : World)
    (FIN RES : Option Nat) (HFin : Hid (pl K (some a) 11 (some 4607182418800017408) = FIN)) (HRes : Hid (lastO b FIN = RES)) :
    Calls Try.prog 53 #[.float .f64 a, .float .f64 b] w (PowPost RES w) := by
  have hbl : rung b < 9218868437227405312 := of_decide_eq_true hfb
  have hK := le_1024 hbl hv ht1

  have hC := fun w => run_convert_float_int (P := Try.prog) w 23 3 .f64 .i64 (rung b) ((K : Nat) : Int) (by kernel_rfl) Try.underlying3 (conv_i64 hbl hv (by have := le_1024 hbl hv ht1; omega))
  have hN : K < 9223372036854775808 := by omega
  have HRa := Lib.hid (R_some ha hna)
  clear hv
  go_enter Try.func53, Try.ntmps53
  go_wp2_with (first | (go_at_call 19; refine (c19 _ hb _).mono ?_; rintro e w' ⟨rfl, rfl⟩))
  go_loopw [8, 9] (fun p i wr => ∃ (k : Nat) (o : Option Nat) (v nq : Nat), k ≤ 11 ∧ R o v ∧ pl K (some a) k o = FIN ∧ p = .float .f64 v ∧ i = .int .i64 (bitOf k) ∧ wr = w.drewN nq) (fun _ i _ => (intOf i).toNat)
  case atStart => exact ⟨11, _, _, 0, by omega, R_some (by decide) (by decide), HFin.out, rfl, rfl, rfl⟩
  case round =>
    obtain ⟨k, o, v, nq, hk, hR, hpl, rfl, rfl, rfl⟩ := hrel
    have Hpl := Lib.hid hpl
    clear hpl
    cases k with
    | zero =>
      rw [bitOf_zero]
      have HR := Lib.hid hR
      cases hlt : (FloatKind.f64.format.order b 0 == some Ordering.lt)
      · have Hlast := Lib.hid (last_f (p := FIN) hlt)
        clear hR
        go_wp2_with fail
        go_ret
        exact ⟨v, nq, rfl, rfl, by rw [← HRes.out, Hlast.out, ← Hpl.out]; exact HR.out⟩
      · have Hlast := Lib.hid (last_t (p := FIN) hlt)
        obtain ⟨v1, n1, h1, hR1⟩ := run_float_any (P := Try.prog) (w.drewN nq) .quo 23 (some 4607182418800017408) o 4607182418800017408 v (.inr (.inr rfl)) (R_some (by decide) (by decide)) hR
        have HR1 := Lib.hid hR1
        clear hR hR1
        go_wp2_with fail
        go_ret
        exact ⟨v1, nq + n1, rfl, by first | rfl | rw [World.drewN_drewN], by rw [← HRes.out, Hlast.out, ← Hpl.out]; exact HR1.out⟩
    | succ k =>
      have hbit := bitOf_succ k
      have hpos := Nat.two_pow_pos k
      have hhalf := bitOf_half k
      have hp10 := pow_ge (show k ≤ 10 by omega)
      have hB1 : 0 < bitOf (k + 1) := by omega
      have hB2 : bitOf (k + 1) ≤ 1024 := by omega
      have hand := and_bit K k hN (by omega)
      obtain ⟨v1, n1, h1, hR1⟩ := run_float_any (P := Try.prog) (w.drewN nq) .mul 23 o o v v (.inl rfl) hR hR
      have HR1 := Lib.hid hR1
      have Hhalf := Lib.hid hhalf
      clear hR1 hbit hhalf hpos hp10 hR
      rw [World.drewN_drewN] at h1
      by_cases hd : K / 2 ^ k % 2 = 1
      · rw [decide_eq_true hd] at hand
        obtain ⟨v2, n2, h2, hR2⟩ := run_float_any (P := Try.prog) (w.drewN (nq + n1)) .mul 23 _ (some a) v1 a (.inl rfl) HR1.out HRa.out
        have HR2 := Lib.hid hR2
        have Hd := Lib.hid hd
        clear hd hR2
        rw [World.drewN_drewN] at h2
        generalize bitOf (k + 1) = B at *
        go_wp2_with fail
        go_roundw
        case rel => exact ⟨k, _, v2, nq + n1 + n2, by omega, HR2.out, by rw [← Hpl.out, pl, if_pos Hd.out]; rfl, rfl, by rw [← Hhalf.out]; rfl, by first | rfl | rw [World.drewN_drewN]⟩
        case measure => simp [intOf]; omega
      · rw [decide_eq_false hd] at hand
        have Hd := Lib.hid hd
        clear hd
        generalize bitOf (k + 1) = B at *
        go_wp2_with fail
        go_roundw
        case rel => exact ⟨k, _, v1, nq + n1, by omega, HR1.out, by rw [← Hpl.out, pl, if_neg Hd.out]; rfl, rfl, by rw [← Hhalf.out]; rfl, rfl⟩
        case measure => simp [intOf]; omega

theorem c53_c0_1 (a b K : Nat) (ha : a < 18446744073709551616) (hna : isNaN a = false) (hb : b < 18446744073709551616) (hfb : fin b = true) (hv : V (rung b) = K * U) (N : Nat) (ht1 : (FloatKind.f64.format.order (rung b) 4652218415073722368 == some Ordering.gt) = true) (hNN : N = 3) (hK : K % 2 = 1) (h0 : (FloatKind.f64.format.order a 0 != some Ordering.eq) = false) (w : World)
    (FIN RES : Option Nat) (HFin : Hid (pl N (some a) 11 (some 4607182418800017408) = FIN)) (HRes : Hid (lastO b FIN = RES)) :
    Calls Try.prog 53 #[.float .f64 a, .float .f64 b] w (PowPost RES w) := by
  have hbl : rung b < 9218868437227405312 := of_decide_eq_true hfb
  have hoo := one_one
  have HK := Lib.hid (c46_odd (rung b) K hbl hv hK)
  clear hK

  have hC := fun w => run_convert_float_int (P := Try.prog) w 23 3 .f64 .i64 4613937818241073152 ((N : Nat) : Int) (by kernel_rfl) Try.underlying3 (conv_i64 (K := N) (by decide) (by rw [hNN]; exact V_three) (by omega))
  have hN : N < 9223372036854775808 := by omega
  have HRa := Lib.hid (R_some ha hna)
  clear hv hNN
  go_enter Try.func53, Try.ntmps53
  go_wp2_with (first | (go_at_call 19; refine (c19 _ hb _).mono ?_; rintro e w' ⟨rfl, rfl⟩) | (go_at_call 46; refine (HK.out _).mono ?_; rintro e w' ⟨rfl, rfl⟩))
  go_loopw [8, 9] (fun p i wr => ∃ (k : Nat) (o : Option Nat) (v nq : Nat), k ≤ 11 ∧ R o v ∧ pl N (some a) k o = FIN ∧ p = .float .f64 v ∧ i = .int .i64 (bitOf k) ∧ wr = w.drewN nq) (fun _ i _ => (intOf i).toNat)
  case atStart => exact ⟨11, _, _, 0, by omega, R_some (by decide) (by decide), HFin.out, rfl, rfl, rfl⟩
  case round =>
    obtain ⟨k, o, v, nq, hk, hR, hpl, rfl, rfl, rfl⟩ := hrel
    have Hpl := Lib.hid hpl
    clear hpl
    cases k with
    | zero =>
      rw [bitOf_zero]
      have HR := Lib.hid hR
      cases hlt : (FloatKind.f64.format.order b 0 == some Ordering.lt)
      · have Hlast := Lib.hid (last_f (p := FIN) hlt)
        clear hR
        go_wp2_with fail
        go_ret
        exact ⟨v, nq, rfl, rfl, by rw [← HRes.out, Hlast.out, ← Hpl.out]; exact HR.out⟩
      · have Hlast := Lib.hid (last_t (p := FIN) hlt)
        obtain ⟨v1, n1, h1, hR1⟩ := run_float_any (P := Try.prog) (w.drewN nq) .quo 23 (some 4607182418800017408) o 4607182418800017408 v (.inr (.inr rfl)) (R_some (by decide) (by decide)) hR
        have HR1 := Lib.hid hR1
        clear hR hR1
        go_wp2_with fail
        go_ret
        exact ⟨v1, nq + n1, rfl, by first | rfl | rw [World.drewN_drewN], by rw [← HRes.out, Hlast.out, ← Hpl.out]; exact HR1.out⟩
    | succ k =>
      have hbit := bitOf_succ k
      have hpos := Nat.two_pow_pos k
      have hhalf := bitOf_half k
      have hp10 := pow_ge (show k ≤ 10 by omega)
      have hB1 : 0 < bitOf (k + 1) := by omega
      have hB2 : bitOf (k + 1) ≤ 1024 := by omega
      have hand := and_bit N k hN (by omega)
      obtain ⟨v1, n1, h1, hR1⟩ := run_float_any (P := Try.prog) (w.drewN nq) .mul 23 o o v v (.inl rfl) hR hR
      have HR1 := Lib.hid hR1
      have Hhalf := Lib.hid hhalf
      clear hR1 hbit hhalf hpos hp10 hR
      rw [World.drewN_drewN] at h1
      by_cases hd : N / 2 ^ k % 2 = 1
      · rw [decide_eq_true hd] at hand
        obtain ⟨v2, n2, h2, hR2⟩ := run_float_any (P := Try.prog) (w.drewN (nq + n1)) .mul 23 _ (some a) v1 a (.inl rfl) HR1.out HRa.out
        have HR2 := Lib.hid hR2
        have Hd := Lib.hid hd
        clear hd hR2
        rw [World.drewN_drewN] at h2
        generalize bitOf (k + 1) = B at *
        go_wp2_with fail
        go_roundw
        case rel => exact ⟨k, _, v2, nq + n1 + n2, by omega, HR2.out, by rw [← Hpl.out, pl, if_pos Hd.out]; rfl, rfl, by rw [← Hhalf.out]; rfl, by first | rfl | rw [World.drewN_drewN]⟩
        case measure => simp [intOf]; omega
      · rw [decide_eq_false hd] at hand
        have Hd := Lib.hid hd
        clear hd
        generalize bitOf (k + 1) = B at *
        go_wp2_with fail
        go_roundw
        case rel => exact ⟨k, _, v1, nq + n1, by omega, HR1.out, by rw [← Hpl.out, pl, if_neg Hd.out]; rfl, rfl, by rw [← Hhalf.out]; rfl, rfl⟩
        case measure => simp [intOf]; omega

theorem c53_c1_1 (a b K : Nat) (ha : a < 18446744073709551616) (hna : isNaN a = false) (hb : b < 18446744073709551616) (hfb : fin b = true) (hv : V (rung b) = K * U) (N : Nat) (ht1 : (FloatKind.f64.format.order (rung b) 4652218415073722368 == some Ordering.gt) = true) (hNN : N = 3) (hK : K % 2 = 1) (h0 : (FloatKind.f64.format.order a 0 != some Ordering.eq) = true) (h1 : (FloatKind.f64.format.order a 4607182418800017408 != some Ordering.eq) = false) (w : World)
    (FIN RES : Option Nat) (HFin : Hid (pl N (some a) 11 (some 4607182418800017408) = FIN)) (HRes : Hid (lastO b FIN = RES)) :
    Calls Try.prog 53 #[.float .f64 a, .float .f64 b] w (PowPost RES w) := by
  have hbl : rung b < 9218868437227405312 := of_decide_eq_true hfb
  have hoo := one_one
  have HK := Lib.hid (c46_odd (rung b) K hbl hv hK)
  clear hK

  have hC := fun w => run_convert_float_int (P := Try.prog) w 23 3 .f64 .i64 4613937818241073152 ((N : Nat) : Int) (by kernel_rfl) Try.underlying3 (conv_i64 (K := N) (by decide) (by rw [hNN]; exact V_three) (by omega))
  have hN : N < 9223372036854775808 := by omega
  have HRa := Lib.hid (R_some ha hna)
  clear hv hNN
  go_enter Try.func53, Try.ntmps53
  go_wp2_with (first | (go_at_call 19; refine (c19 _ hb _).mono ?_; rintro e w' ⟨rfl, rfl⟩) | (go_at_call 46; refine (HK.out _).mono ?_; rintro e w' ⟨rfl, rfl⟩))
  go_loopw [8, 9] (fun p i wr => ∃ (k : Nat) (o : Option Nat) (v nq : Nat), k ≤ 11 ∧ R o v ∧ pl N (some a) k o = FIN ∧ p = .float .f64 v ∧ i = .int .i64 (bitOf k) ∧ wr = w.drewN nq) (fun _ i _ => (intOf i).toNat)
  case atStart => exact ⟨11, _, _, 0, by omega, R_some (by decide) (by decide), HFin.out, rfl, rfl, rfl⟩
  case round =>
    obtain ⟨k, o, v, nq, hk, hR, hpl, rfl, rfl, rfl⟩ := hrel
    have Hpl := Lib.hid hpl
    clear hpl
    cases k with
    | zero =>
      rw [bitOf_zero]
      have HR := Lib.hid hR
      cases hlt : (FloatKind.f64.format.order b 0 == some Ordering.lt)
      · have Hlast := Lib.hid (last_f (p := FIN) hlt)
        clear hR
        go_wp2_with fail
        go_ret
        exact ⟨v, nq, rfl, rfl, by rw [← HRes.out, Hlast.out, ← Hpl.out]; exact HR.out⟩
      · have Hlast := Lib.hid (last_t (p := FIN) hlt)
        obtain ⟨v1, n1, h1, hR1⟩ := run_float_any (P := Try.prog) (w.drewN nq) .quo 23 (some 4607182418800017408) o 4607182418800017408 v (.inr (.inr rfl)) (R_some (by decide) (by decide)) hR
        have HR1 := Lib.hid hR1
        clear hR hR1
        go_wp2_with fail
        go_ret
        exact ⟨v1, nq + n1, rfl, by first | rfl | rw [World.drewN_drewN], by rw [← HRes.out, Hlast.out, ← Hpl.out]; exact HR1.out⟩
    | succ k =>
      have hbit := bitOf_succ k
      have hpos := Nat.two_pow_pos k
      have hhalf := bitOf_half k
      have hp10 := pow_ge (show k ≤ 10 by omega)
      have hB1 : 0 < bitOf (k + 1) := by omega
      have hB2 : bitOf (k + 1) ≤ 1024 := by omega
      have hand := and_bit N k hN (by omega)
      obtain ⟨v1, n1, h1, hR1⟩ := run_float_any (P := Try.prog) (w.drewN nq) .mul 23 o o v v (.inl rfl) hR hR
      have HR1 := Lib.hid hR1
      have Hhalf := Lib.hid hhalf
      clear hR1 hbit hhalf hpos hp10 hR
      rw [World.drewN_drewN] at h1
      by_cases hd : N / 2 ^ k % 2 = 1
      · rw [decide_eq_true hd] at hand
        obtain ⟨v2, n2, h2, hR2⟩ := run_float_any (P := Try.prog) (w.drewN (nq + n1)) .mul 23 _ (some a) v1 a (.inl rfl) HR1.out HRa.out
        have HR2 := Lib.hid hR2
        have Hd := Lib.hid hd
        clear hd hR2
        rw [World.drewN_drewN] at h2
        generalize bitOf (k + 1) = B at *
        go_wp2_with fail
        go_roundw
        case rel => exact ⟨k, _, v2, nq + n1 + n2, by omega, HR2.out, by rw [← Hpl.out, pl, if_pos Hd.out]; rfl, rfl, by rw [← Hhalf.out]; rfl, by first | rfl | rw [World.drewN_drewN]⟩
        case measure => simp [intOf]; omega
      · rw [decide_eq_false hd] at hand
        have Hd := Lib.hid hd
        clear hd
        generalize bitOf (k + 1) = B at *
        go_wp2_with fail
        go_roundw
        case rel => exact ⟨k, _, v1, nq + n1, by omega, HR1.out, by rw [← Hpl.out, pl, if_neg Hd.out]; rfl, rfl, by rw [← Hhalf.out]; rfl, rfl⟩
        case measure => simp [intOf]; omega

theorem c53_c2_1 (a b K : Nat) (ha : a < 18446744073709551616) (hna : isNaN a = false) (hb : b < 18446744073709551616) (hfb : fin b = true) (hv : V (rung b) = K * U) (N : Nat) (ht1 : (FloatKind.f64.format.order (rung b) 4652218415073722368 == some Ordering.gt) = true) (hNN : N = 3) (hK : K % 2 = 1) (h0 : (FloatKind.f64.format.order a 0 != some Ordering.eq) = true) (h1 : (FloatKind.f64.format.order a 4607182418800017408 != some Ordering.eq) = true) (h2 : (FloatKind.f64.format.order a 13830554455654793216 != some Ordering.eq) = false) (w : World)
    (FIN RES : Option Nat) (HFin : Hid (pl N (some a) 11 (some 4607182418800017408) = FIN)) (HRes : Hid (lastO b FIN = RES)) :
    Calls Try.prog 53 #[.float .f64 a, .float .f64 b] w (PowPost RES w) := by
  have hbl : rung b < 9218868437227405312 := of_decide_eq_true hfb
  have hoo := one_one
  have HK := Lib.hid (c46_odd (rung b) K hbl hv hK)
  clear hK

  have hC := fun w => run_convert_float_int (P := Try.prog) w 23 3 .f64 .i64 4613937818241073152 ((N : Nat) : Int) (by kernel_rfl) Try.underlying3 (conv_i64 (K := N) (by decide) (by rw [hNN]; exact V_three) (by omega))
  have hN : N < 9223372036854775808 := by omega
  have HRa := Lib.hid (R_some ha hna)
  clear hv hNN
  go_enter Try.func53, Try.ntmps53
  go_wp2_with (first | (go_at_call 19; refine (c19 _ hb _).mono ?_; rintro e w' ⟨rfl, rfl⟩) | (go_at_call 46; refine (HK.out _).mono ?_; rintro e w' ⟨rfl, rfl⟩))
  go_loopw [8, 9] (fun p i wr => ∃ (k : Nat) (o : Option Nat) (v nq : Nat), k ≤ 11 ∧ R o v ∧ pl N (some a) k o = FIN ∧ p = .float .f64 v ∧ i = .int .i64 (bitOf k) ∧ wr = w.drewN nq) (fun _ i _ => (intOf i).toNat)
  case atStart => exact ⟨11, _, _, 0, by omega, R_some (by decide) (by decide), HFin.out, rfl, rfl, rfl⟩
  case round =>
    obtain ⟨k, o, v, nq, hk, hR, hpl, rfl, rfl, rfl⟩ := hrel
    have Hpl := Lib.hid hpl
    clear hpl
    cases k with
    | zero =>
      rw [bitOf_zero]
      have HR := Lib.hid hR
      cases hlt : (FloatKind.f64.format.order b 0 == some Ordering.lt)
      · have Hlast := Lib.hid (last_f (p := FIN) hlt)
        clear hR
        go_wp2_with fail
        go_ret
        exact ⟨v, nq, rfl, rfl, by rw [← HRes.out, Hlast.out, ← Hpl.out]; exact HR.out⟩
      · have Hlast := Lib.hid (last_t (p := FIN) hlt)
        obtain ⟨v1, n1, h1, hR1⟩ := run_float_any (P := Try.prog) (w.drewN nq) .quo 23 (some 4607182418800017408) o 4607182418800017408 v (.inr (.inr rfl)) (R_some (by decide) (by decide)) hR
        have HR1 := Lib.hid hR1
        clear hR hR1
        go_wp2_with fail
        go_ret
        exact ⟨v1, nq + n1, rfl, by first | rfl | rw [World.drewN_drewN], by rw [← HRes.out, Hlast.out, ← Hpl.out]; exact HR1.out⟩
    | succ k =>
      have hbit := bitOf_succ k
      have hpos := Nat.two_pow_pos k
      have hhalf := bitOf_half k
      have hp10 := pow_ge (show k ≤ 10 by omega)
      have hB1 : 0 < bitOf (k + 1) := by omega
      have hB2 : bitOf (k + 1) ≤ 1024 := by omega
      have hand := and_bit N k hN (by omega)
      obtain ⟨v1, n1, h1, hR1⟩ := run_float_any (P := Try.prog) (w.drewN nq) .mul 23 o o v v (.inl rfl) hR hR
      have HR1 := Lib.hid hR1
      have Hhalf := Lib.hid hhalf
      clear hR1 hbit hhalf hpos hp10 hR
      rw [World.drewN_drewN] at h1
      by_cases hd : N / 2 ^ k % 2 = 1
      · rw [decide_eq_true hd] at hand
        obtain ⟨v2, n2, h2, hR2⟩ := run_float_any (P := Try.prog) (w.drewN (nq + n1)) .mul 23 _ (some a) v1 a (.inl rfl) HR1.out HRa.out
        have HR2 := Lib.hid hR2
        have Hd := Lib.hid hd
        clear hd hR2
        rw [World.drewN_drewN] at h2
        generalize bitOf (k + 1) = B at *
        go_wp2_with fail
        go_roundw
        case rel => exact ⟨k, _, v2, nq + n1 + n2, by omega, HR2.out, by rw [← Hpl.out, pl, if_pos Hd.out]; rfl, rfl, by rw [← Hhalf.out]; rfl, by first | rfl | rw [World.drewN_drewN]⟩
        case measure => simp [intOf]; omega
      · rw [decide_eq_false hd] at hand
        have Hd := Lib.hid hd
        clear hd
        generalize bitOf (k + 1) = B at *
        go_wp2_with fail
        go_roundw
        case rel => exact ⟨k, _, v1, nq + n1, by omega, HR1.out, by rw [← Hpl.out, pl, if_neg Hd.out]; rfl, rfl, by rw [← Hhalf.out]; rfl, rfl⟩
        case measure => simp [intOf]; omega

theorem c53_c3_1 (a b K : Nat) (ha : a < 18446744073709551616) (hna : isNaN a = false) (hb : b < 18446744073709551616) (hfb : fin b = true) (hv : V (rung b) = K * U) (N : Nat) (ht1 : (FloatKind.f64.format.order (rung b) 4652218415073722368 == some Ordering.gt) = true) (hNN : N = 3) (hK : K % 2 = 1) (h0 : (FloatKind.f64.format.order a 0 != some Ordering.eq) = true) (h1 : (FloatKind.f64.format.order a 4607182418800017408 != some Ordering.eq) = true) (h2 : (FloatKind.f64.format.order a 13830554455654793216 != some Ordering.eq) = true) (hinf : Hid (rung a = 9218868437227405312)) (w : World)
    (FIN RES : Option Nat) (HFin : Hid (pl N (some a) 11 (some 4607182418800017408) = FIN)) (HRes : Hid (lastO b FIN = RES)) :
    Calls Try.prog 53 #[.float .f64 a, .float .f64 b] w (PowPost RES w) := by
  have hbl : rung b < 9218868437227405312 := of_decide_eq_true hfb
  have hoo := one_one
  have HK := Lib.hid (c46_odd (rung b) K hbl hv hK)
  clear hK

  have hC := fun w => run_convert_float_int (P := Try.prog) w 23 3 .f64 .i64 4613937818241073152 ((N : Nat) : Int) (by kernel_rfl) Try.underlying3 (conv_i64 (K := N) (by decide) (by rw [hNN]; exact V_three) (by omega))
  have hN : N < 9223372036854775808 := by omega
  have HRa := Lib.hid (R_some ha hna)
  clear hv hNN
  go_enter Try.func53, Try.ntmps53
  go_wp2_with (first | (go_at_call 19; refine (c19 _ hb _).mono ?_; rintro e w' ⟨rfl, rfl⟩) | (go_at_call 46; refine (HK.out _).mono ?_; rintro e w' ⟨rfl, rfl⟩) | (go_at_call 18; refine (isInf_t ha hinf.out _).mono ?_; rintro e w' ⟨rfl, rfl⟩))
  go_loopw [8, 9] (fun p i wr => ∃ (k : Nat) (o : Option Nat) (v nq : Nat), k ≤ 11 ∧ R o v ∧ pl N (some a) k o = FIN ∧ p = .float .f64 v ∧ i = .int .i64 (bitOf k) ∧ wr = w.drewN nq) (fun _ i _ => (intOf i).toNat)
  case atStart => exact ⟨11, _, _, 0, by omega, R_some (by decide) (by decide), HFin.out, rfl, rfl, rfl⟩
  case round =>
    obtain ⟨k, o, v, nq, hk, hR, hpl, rfl, rfl, rfl⟩ := hrel
    have Hpl := Lib.hid hpl
    clear hpl
    cases k with
    | zero =>
      rw [bitOf_zero]
      have HR := Lib.hid hR
      cases hlt : (FloatKind.f64.format.order b 0 == some Ordering.lt)
      · have Hlast := Lib.hid (last_f (p := FIN) hlt)
        clear hR
        go_wp2_with fail
        go_ret
        exact ⟨v, nq, rfl, rfl, by rw [← HRes.out, Hlast.out, ← Hpl.out]; exact HR.out⟩
      · have Hlast := Lib.hid (last_t (p := FIN) hlt)
        obtain ⟨v1, n1, h1, hR1⟩ := run_float_any (P := Try.prog) (w.drewN nq) .quo 23 (some 4607182418800017408) o 4607182418800017408 v (.inr (.inr rfl)) (R_some (by decide) (by decide)) hR
        have HR1 := Lib.hid hR1
        clear hR hR1
        go_wp2_with fail
        go_ret
        exact ⟨v1, nq + n1, rfl, by first | rfl | rw [World.drewN_drewN], by rw [← HRes.out, Hlast.out, ← Hpl.out]; exact HR1.out⟩
    | succ k =>
      have hbit := bitOf_succ k
      have hpos := Nat.two_pow_pos k
      have hhalf := bitOf_half k
      have hp10 := pow_ge (show k ≤ 10 by omega)
      have hB1 : 0 < bitOf (k + 1) := by omega
      have hB2 : bitOf (k + 1) ≤ 1024 := by omega
      have hand := and_bit N k hN (by omega)
      obtain ⟨v1, n1, h1, hR1⟩ := run_float_any (P := Try.prog) (w.drewN nq) .mul 23 o o v v (.inl rfl) hR hR
      have HR1 := Lib.hid hR1
      have Hhalf := Lib.hid hhalf
      clear hR1 hbit hhalf hpos hp10 hR
      rw [World.drewN_drewN] at h1
      by_cases hd : N / 2 ^ k % 2 = 1
      · rw [decide_eq_true hd] at hand
        obtain ⟨v2, n2, h2, hR2⟩ := run_float_any (P := Try.prog) (w.drewN (nq + n1)) .mul 23 _ (some a) v1 a (.inl rfl) HR1.out HRa.out
        have HR2 := Lib.hid hR2
        have Hd := Lib.hid hd
        clear hd hR2
        rw [World.drewN_drewN] at h2
        generalize bitOf (k + 1) = B at *
        go_wp2_with fail
        go_roundw
        case rel => exact ⟨k, _, v2, nq + n1 + n2, by omega, HR2.out, by rw [← Hpl.out, pl, if_pos Hd.out]; rfl, rfl, by rw [← Hhalf.out]; rfl, by first | rfl | rw [World.drewN_drewN]⟩
        case measure => simp [intOf]; omega
      · rw [decide_eq_false hd] at hand
        have Hd := Lib.hid hd
        clear hd
        generalize bitOf (k + 1) = B at *
        go_wp2_with fail
        go_roundw
        case rel => exact ⟨k, _, v1, nq + n1, by omega, HR1.out, by rw [← Hpl.out, pl, if_neg Hd.out]; rfl, rfl, by rw [← Hhalf.out]; rfl, rfl⟩
        case measure => simp [intOf]; omega

theorem c53_c0_0 (a b K : Nat) (ha : a < 18446744073709551616) (hna : isNaN a = false) (hb : b < 18446744073709551616) (hfb : fin b = true) (hv : V (rung b) = K * U) (N : Nat) (ht1 : (FloatKind.f64.format.order (rung b) 4652218415073722368 == some Ordering.gt) = true) (hNN : N = 2) (hK : ¬ K % 2 = 1) (h0 : (FloatKind.f64.format.order a 0 != some Ordering.eq) = false) (w : World)
    (FIN RES : Option Nat) (HFin : Hid (pl N (some a) 11 (some 4607182418800017408) = FIN)) (HRes : Hid (lastO b FIN = RES)) :
    Calls Try.prog 53 #[.float .f64 a, .float .f64 b] w (PowPost RES w) := by
  have hbl : rung b < 9218868437227405312 := of_decide_eq_true hfb
  have hoo := zero_one
  have HK := Lib.hid (c46_even (rung b) K hbl hv hK)
  clear hK

  have hC := fun w => run_convert_float_int (P := Try.prog) w 23 3 .f64 .i64 4611686018427387904 ((N : Nat) : Int) (by kernel_rfl) Try.underlying3 (conv_i64 (K := N) (by decide) (by rw [hNN]; exact V_two2) (by omega))
  have hN : N < 9223372036854775808 := by omega
  have HRa := Lib.hid (R_some ha hna)
  clear hv hNN
  go_enter Try.func53, Try.ntmps53
  go_wp2_with (first | (go_at_call 19; refine (c19 _ hb _).mono ?_; rintro e w' ⟨rfl, rfl⟩) | (go_at_call 46; refine (HK.out _).mono ?_; rintro e w' ⟨rfl, rfl⟩))
  go_loopw [8, 9] (fun p i wr => ∃ (k : Nat) (o : Option Nat) (v nq : Nat), k ≤ 11 ∧ R o v ∧ pl N (some a) k o = FIN ∧ p = .float .f64 v ∧ i = .int .i64 (bitOf k) ∧ wr = w.drewN nq) (fun _ i _ => (intOf i).toNat)
  case atStart => exact ⟨11, _, _, 0, by omega, R_some (by decide) (by decide), HFin.out, rfl, rfl, rfl⟩
  case round =>
    obtain ⟨k, o, v, nq, hk, hR, hpl, rfl, rfl, rfl⟩ := hrel
    have Hpl := Lib.hid hpl
    clear hpl
    cases k with
    | zero =>
      rw [bitOf_zero]
      have HR := Lib.hid hR
      cases hlt : (FloatKind.f64.format.order b 0 == some Ordering.lt)
      · have Hlast := Lib.hid (last_f (p := FIN) hlt)
        clear hR
        go_wp2_with fail
        go_ret
        exact ⟨v, nq, rfl, rfl, by rw [← HRes.out, Hlast.out, ← Hpl.out]; exact HR.out⟩
      · have Hlast := Lib.hid (last_t (p := FIN) hlt)
        obtain ⟨v1, n1, h1, hR1⟩ := run_float_any (P := Try.prog) (w.drewN nq) .quo 23 (some 4607182418800017408) o 4607182418800017408 v (.inr (.inr rfl)) (R_some (by decide) (by decide)) hR
        have HR1 := Lib.hid hR1
        clear hR hR1
        go_wp2_with fail
        go_ret
        exact ⟨v1, nq + n1, rfl, by first | rfl | rw [World.drewN_drewN], by rw [← HRes.out, Hlast.out, ← Hpl.out]; exact HR1.out⟩
    | succ k =>
      have hbit := bitOf_succ k
      have hpos := Nat.two_pow_pos k
      have hhalf := bitOf_half k
      have hp10 := pow_ge (show k ≤ 10 by omega)
      have hB1 : 0 < bitOf (k + 1) := by omega
      have hB2 : bitOf (k + 1) ≤ 1024 := by omega
      have hand := and_bit N k hN (by omega)
      obtain ⟨v1, n1, h1, hR1⟩ := run_float_any (P := Try.prog) (w.drewN nq) .mul 23 o o v v (.inl rfl) hR hR
      have HR1 := Lib.hid hR1
      have Hhalf := Lib.hid hhalf
      clear hR1 hbit hhalf hpos hp10 hR
      rw [World.drewN_drewN] at h1
      by_cases hd : N / 2 ^ k % 2 = 1
      · rw [decide_eq_true hd] at hand
        obtain ⟨v2, n2, h2, hR2⟩ := run_float_any (P := Try.prog) (w.drewN (nq + n1)) .mul 23 _ (some a) v1 a (.inl rfl) HR1.out HRa.out
        have HR2 := Lib.hid hR2
        have Hd := Lib.hid hd
        clear hd hR2
        rw [World.drewN_drewN] at h2
        generalize bitOf (k + 1) = B at *
        go_wp2_with fail
        go_roundw
        case rel => exact ⟨k, _, v2, nq + n1 + n2, by omega, HR2.out, by rw [← Hpl.out, pl, if_pos Hd.out]; rfl, rfl, by rw [← Hhalf.out]; rfl, by first | rfl | rw [World.drewN_drewN]⟩
        case measure => simp [intOf]; omega
      · rw [decide_eq_false hd] at hand
        have Hd := Lib.hid hd
        clear hd
        generalize bitOf (k + 1) = B at *
        go_wp2_with fail
        go_roundw
        case rel => exact ⟨k, _, v1, nq + n1, by omega, HR1.out, by rw [← Hpl.out, pl, if_neg Hd.out]; rfl, rfl, by rw [← Hhalf.out]; rfl, rfl⟩
        case measure => simp [intOf]; omega

theorem c53_c1_0 (a b K : Nat) (ha : a < 18446744073709551616) (hna : isNaN a = false) (hb : b < 18446744073709551616) (hfb : fin b = true) (hv : V (rung b) = K * U) (N : Nat) (ht1 : (FloatKind.f64.format.order (rung b) 4652218415073722368 == some Ordering.gt) = true) (hNN : N = 2) (hK : ¬ K % 2 = 1) (h0 : (FloatKind.f64.format.order a 0 != some Ordering.eq) = true) (h1 : (FloatKind.f64.format.order a 4607182418800017408 != some Ordering.eq) = false) (w : World)
    (FIN RES : Option Nat) (HFin : Hid (pl N (some a) 11 (some 4607182418800017408) = FIN)) (HRes : Hid (lastO b FIN = RES)) :
    Calls Try.prog 53 #[.float .f64 a, .float .f64 b] w (PowPost RES w) := by
  have hbl : rung b < 9218868437227405312 := of_decide_eq_true hfb
  have hoo := zero_one
  have HK := Lib.hid (c46_even (rung b) K hbl hv hK)
  clear hK

  have hC := fun w => run_convert_float_int (P := Try.prog) w 23 3 .f64 .i64 4611686018427387904 ((N : Nat) : Int) (by kernel_rfl) Try.underlying3 (conv_i64 (K := N) (by decide) (by rw [hNN]; exact V_two2) (by omega))
  have hN : N < 9223372036854775808 := by omega
  have HRa := Lib.hid (R_some ha hna)
  clear hv hNN
  go_enter Try.func53, Try.ntmps53
  go_wp2_with (first | (go_at_call 19; refine (c19 _ hb _).mono ?_; rintro e w' ⟨rfl, rfl⟩) | (go_at_call 46; refine (HK.out _).mono ?_; rintro e w' ⟨rfl, rfl⟩))
  go_loopw [8, 9] (fun p i wr => ∃ (k : Nat) (o : Option Nat) (v nq : Nat), k ≤ 11 ∧ R o v ∧ pl N (some a) k o = FIN ∧ p = .float .f64 v ∧ i = .int .i64 (bitOf k) ∧ wr = w.drewN nq) (fun _ i _ => (intOf i).toNat)
  case atStart => exact ⟨11, _, _, 0, by omega, R_some (by decide) (by decide), HFin.out, rfl, rfl, rfl⟩
  case round =>
    obtain ⟨k, o, v, nq, hk, hR, hpl, rfl, rfl, rfl⟩ := hrel
    have Hpl := Lib.hid hpl
    clear hpl
    cases k with
    | zero =>
      rw [bitOf_zero]
      have HR := Lib.hid hR
      cases hlt : (FloatKind.f64.format.order b 0 == some Ordering.lt)
      · have Hlast := Lib.hid (last_f (p := FIN) hlt)
        clear hR
        go_wp2_with fail
        go_ret
        exact ⟨v, nq, rfl, rfl, by rw [← HRes.out, Hlast.out, ← Hpl.out]; exact HR.out⟩
      · have Hlast := Lib.hid (last_t (p := FIN) hlt)
        obtain ⟨v1, n1, h1, hR1⟩ := run_float_any (P := Try.prog) (w.drewN nq) .quo 23 (some 4607182418800017408) o 4607182418800017408 v (.inr (.inr rfl)) (R_some (by decide) (by decide)) hR
        have HR1 := Lib.hid hR1
        clear hR hR1
        go_wp2_with fail
        go_ret
        exact ⟨v1, nq + n1, rfl, by first | rfl | rw [World.drewN_drewN], by rw [← HRes.out, Hlast.out, ← Hpl.out]; exact HR1.out⟩
    | succ k =>
      have hbit := bitOf_succ k
      have hpos := Nat.two_pow_pos k
      have hhalf := bitOf_half k
      have hp10 := pow_ge (show k ≤ 10 by omega)
      have hB1 : 0 < bitOf (k + 1) := by omega
      have hB2 : bitOf (k + 1) ≤ 1024 := by omega
      have hand := and_bit N k hN (by omega)
      obtain ⟨v1, n1, h1, hR1⟩ := run_float_any (P := Try.prog) (w.drewN nq) .mul 23 o o v v (.inl rfl) hR hR
      have HR1 := Lib.hid hR1
      have Hhalf := Lib.hid hhalf
      clear hR1 hbit hhalf hpos hp10 hR
      rw [World.drewN_drewN] at h1
      by_cases hd : N / 2 ^ k % 2 = 1
      · rw [decide_eq_true hd] at hand
        obtain ⟨v2, n2, h2, hR2⟩ := run_float_any (P := Try.prog) (w.drewN (nq + n1)) .mul 23 _ (some a) v1 a (.inl rfl) HR1.out HRa.out
        have HR2 := Lib.hid hR2
        have Hd := Lib.hid hd
        clear hd hR2
        rw [World.drewN_drewN] at h2
        generalize bitOf (k + 1) = B at *
        go_wp2_with fail
        go_roundw
        case rel => exact ⟨k, _, v2, nq + n1 + n2, by omega, HR2.out, by rw [← Hpl.out, pl, if_pos Hd.out]; rfl, rfl, by rw [← Hhalf.out]; rfl, by first | rfl | rw [World.drewN_drewN]⟩
        case measure => simp [intOf]; omega
      · rw [decide_eq_false hd] at hand
        have Hd := Lib.hid hd
        clear hd
        generalize bitOf (k + 1) = B at *
        go_wp2_with fail
        go_roundw
        case rel => exact ⟨k, _, v1, nq + n1, by omega, HR1.out, by rw [← Hpl.out, pl, if_neg Hd.out]; rfl, rfl, by rw [← Hhalf.out]; rfl, rfl⟩
        case measure => simp [intOf]; omega

theorem c53_c2_0 (a b K : Nat) (ha : a < 18446744073709551616) (hna : isNaN a = false) (hb : b < 18446744073709551616) (hfb : fin b = true) (hv : V (rung b) = K * U) (N : Nat) (ht1 : (FloatKind.f64.format.order (rung b) 4652218415073722368 == some Ordering.gt) = true) (hNN : N = 2) (hK : ¬ K % 2 = 1) (h0 : (FloatKind.f64.format.order a 0 != some Ordering.eq) = true) (h1 : (FloatKind.f64.format.order a 4607182418800017408 != some Ordering.eq) = true) (h2 : (FloatKind.f64.format.order a 13830554455654793216 != some Ordering.eq) = false) (w : World)
    (FIN RES : Option Nat) (HFin : Hid (pl N (some a) 11 (some 4607182418800017408) = FIN)) (HRes : Hid (lastO b FIN = RES)) :
    Calls Try.prog 53 #[.float .f64 a, .float .f64 b] w (PowPost RES w) := by
  have hbl : rung b < 9218868437227405312 := of_decide_eq_true hfb
  have hoo := zero_one
  have HK := Lib.hid (c46_even (rung b) K hbl hv hK)
  clear hK

  have hC := fun w => run_convert_float_int (P := Try.prog) w 23 3 .f64 .i64 4611686018427387904 ((N : Nat) : Int) (by kernel_rfl) Try.underlying3 (conv_i64 (K := N) (by decide) (by rw [hNN]; exact V_two2) (by omega))
  have hN : N < 9223372036854775808 := by omega
  have HRa := Lib.hid (R_some ha hna)
  clear hv hNN
  go_enter Try.func53, Try.ntmps53
  go_wp2_with (first | (go_at_call 19; refine (c19 _ hb _).mono ?_; rintro e w' ⟨rfl, rfl⟩) | (go_at_call 46; refine (HK.out _).mono ?_; rintro e w' ⟨rfl, rfl⟩))
  go_loopw [8, 9] (fun p i wr => ∃ (k : Nat) (o : Option Nat) (v nq : Nat), k ≤ 11 ∧ R o v ∧ pl N (some a) k o = FIN ∧ p = .float .f64 v ∧ i = .int .i64 (bitOf k) ∧ wr = w.drewN nq) (fun _ i _ => (intOf i).toNat)
  case atStart => exact ⟨11, _, _, 0, by omega, R_some (by decide) (by decide), HFin.out, rfl, rfl, rfl⟩
  case round =>
    obtain ⟨k, o, v, nq, hk, hR, hpl, rfl, rfl, rfl⟩ := hrel
    have Hpl := Lib.hid hpl
    clear hpl
    cases k with
    | zero =>
      rw [bitOf_zero]
      have HR := Lib.hid hR
      cases hlt : (FloatKind.f64.format.order b 0 == some Ordering.lt)
      · have Hlast := Lib.hid (last_f (p := FIN) hlt)
        clear hR
        go_wp2_with fail
        go_ret
        exact ⟨v, nq, rfl, rfl, by rw [← HRes.out, Hlast.out, ← Hpl.out]; exact HR.out⟩
      · have Hlast := Lib.hid (last_t (p := FIN) hlt)
        obtain ⟨v1, n1, h1, hR1⟩ := run_float_any (P := Try.prog) (w.drewN nq) .quo 23 (some 4607182418800017408) o 4607182418800017408 v (.inr (.inr rfl)) (R_some (by decide) (by decide)) hR
        have HR1 := Lib.hid hR1
        clear hR hR1
        go_wp2_with fail
        go_ret
        exact ⟨v1, nq + n1, rfl, by first | rfl | rw [World.drewN_drewN], by rw [← HRes.out, Hlast.out, ← Hpl.out]; exact HR1.out⟩
    | succ k =>
      have hbit := bitOf_succ k
      have hpos := Nat.two_pow_pos k
      have hhalf := bitOf_half k
      have hp10 := pow_ge (show k ≤ 10 by omega)
      have hB1 : 0 < bitOf (k + 1) := by omega
      have hB2 : bitOf (k + 1) ≤ 1024 := by omega
      have hand := and_bit N k hN (by omega)
      obtain ⟨v1, n1, h1, hR1⟩ := run_float_any (P := Try.prog) (w.drewN nq) .mul 23 o o v v (.inl rfl) hR hR
      have HR1 := Lib.hid hR1
      have Hhalf := Lib.hid hhalf
      clear hR1 hbit hhalf hpos hp10 hR
      rw [World.drewN_drewN] at h1
      by_cases hd : N / 2 ^ k % 2 = 1
      · rw [decide_eq_true hd] at hand
        obtain ⟨v2, n2, h2, hR2⟩ := run_float_any (P := Try.prog) (w.drewN (nq + n1)) .mul 23 _ (some a) v1 a (.inl rfl) HR1.out HRa.out
        have HR2 := Lib.hid hR2
        have Hd := Lib.hid hd
        clear hd hR2
        rw [World.drewN_drewN] at h2
        generalize bitOf (k + 1) = B at *
        go_wp2_with fail
        go_roundw
        case rel => exact ⟨k, _, v2, nq + n1 + n2, by omega, HR2.out, by rw [← Hpl.out, pl, if_pos Hd.out]; rfl, rfl, by rw [← Hhalf.out]; rfl, by first | rfl | rw [World.drewN_drewN]⟩
        case measure => simp [intOf]; omega
      · rw [decide_eq_false hd] at hand
        have Hd := Lib.hid hd
        clear hd
        generalize bitOf (k + 1) = B at *
        go_wp2_with fail
        go_roundw
        case rel => exact ⟨k, _, v1, nq + n1, by omega, HR1.out, by rw [← Hpl.out, pl, if_neg Hd.out]; rfl, rfl, by rw [← Hhalf.out]; rfl, rfl⟩
        case measure => simp [intOf]; omega

theorem c53_c3_0 (a b K : Nat) (ha : a < 18446744073709551616) (hna : isNaN a = false) (hb : b < 18446744073709551616) (hfb : fin b = true) (hv : V (rung b) = K * U) (N : Nat) (ht1 : (FloatKind.f64.format.order (rung b) 4652218415073722368 == some Ordering.gt) = true) (hNN : N = 2) (hK : ¬ K % 2 = 1) (h0 : (FloatKind.f64.format.order a 0 != some Ordering.eq) = true) (h1 : (FloatKind.f64.format.order a 4607182418800017408 != some Ordering.eq) = true) (h2 : (FloatKind.f64.format.order a 13830554455654793216 != some Ordering.eq) = true) (hinf : Hid (rung a = 9218868437227405312)) (w : World)
    (FIN RES : Option Nat) (HFin : Hid (pl N (some a) 11 (some 4607182418800017408) = FIN)) (HRes : Hid (lastO b FIN = RES)) :
    Calls Try.prog 53 #[.float .f64 a, .float .f64 b] w (PowPost RES w) := by
  have hbl : rung b < 9218868437227405312 := of_decide_eq_true hfb
  have hoo := zero_one
  have HK := Lib.hid (c46_even (rung b) K hbl hv hK)
  clear hK

  have hC := fun w => run_convert_float_int (P := Try.prog) w 23 3 .f64 .i64 4611686018427387904 ((N : Nat) : Int) (by kernel_rfl) Try.underlying3 (conv_i64 (K := N) (by decide) (by rw [hNN]; exact V_two2) (by omega))
  have hN : N < 9223372036854775808 := by omega
  have HRa := Lib.hid (R_some ha hna)
  clear hv hNN
  go_enter Try.func53, Try.ntmps53
  go_wp2_with (first | (go_at_call 19; refine (c19 _ hb _).mono ?_; rintro e w' ⟨rfl, rfl⟩) | (go_at_call 46; refine (HK.out _).mono ?_; rintro e w' ⟨rfl, rfl⟩) | (go_at_call 18; refine (isInf_t ha hinf.out _).mono ?_; rintro e w' ⟨rfl, rfl⟩))
  go_loopw [8, 9] (fun p i wr => ∃ (k : Nat) (o : Option Nat) (v nq : Nat), k ≤ 11 ∧ R o v ∧ pl N (some a) k o = FIN ∧ p = .float .f64 v ∧ i = .int .i64 (bitOf k) ∧ wr = w.drewN nq) (fun _ i _ => (intOf i).toNat)
  case atStart => exact ⟨11, _, _, 0, by omega, R_some (by decide) (by decide), HFin.out, rfl, rfl, rfl⟩
  case round =>
    obtain ⟨k, o, v, nq, hk, hR, hpl, rfl, rfl, rfl⟩ := hrel
    have Hpl := Lib.hid hpl
    clear hpl
    cases k with
    | zero =>
      rw [bitOf_zero]
      have HR := Lib.hid hR
      cases hlt : (FloatKind.f64.format.order b 0 == some Ordering.lt)
      · have Hlast := Lib.hid (last_f (p := FIN) hlt)
        clear hR
        go_wp2_with fail
        go_ret
        exact ⟨v, nq, rfl, rfl, by rw [← HRes.out, Hlast.out, ← Hpl.out]; exact HR.out⟩
      · have Hlast := Lib.hid (last_t (p := FIN) hlt)
        obtain ⟨v1, n1, h1, hR1⟩ := run_float_any (P := Try.prog) (w.drewN nq) .quo 23 (some 4607182418800017408) o 4607182418800017408 v (.inr (.inr rfl)) (R_some (by decide) (by decide)) hR
        have HR1 := Lib.hid hR1
        clear hR hR1
        go_wp2_with fail
        go_ret
        exact ⟨v1, nq + n1, rfl, by first | rfl | rw [World.drewN_drewN], by rw [← HRes.out, Hlast.out, ← Hpl.out]; exact HR1.out⟩
    | succ k =>
      have hbit := bitOf_succ k
      have hpos := Nat.two_pow_pos k
      have hhalf := bitOf_half k
      have hp10 := pow_ge (show k ≤ 10 by omega)
      have hB1 : 0 < bitOf (k + 1) := by omega
      have hB2 : bitOf (k + 1) ≤ 1024 := by omega
      have hand := and_bit N k hN (by omega)
      obtain ⟨v1, n1, h1, hR1⟩ := run_float_any (P := Try.prog) (w.drewN nq) .mul 23 o o v v (.inl rfl) hR hR
      have HR1 := Lib.hid hR1
      have Hhalf := Lib.hid hhalf
      clear hR1 hbit hhalf hpos hp10 hR
      rw [World.drewN_drewN] at h1
      by_cases hd : N / 2 ^ k % 2 = 1
      · rw [decide_eq_true hd] at hand
        obtain ⟨v2, n2, h2, hR2⟩ := run_float_any (P := Try.prog) (w.drewN (nq + n1)) .mul 23 _ (some a) v1 a (.inl rfl) HR1.out HRa.out
        have HR2 := Lib.hid hR2
        have Hd := Lib.hid hd
        clear hd hR2
        rw [World.drewN_drewN] at h2
        generalize bitOf (k + 1) = B at *
        go_wp2_with fail
        go_roundw
        case rel => exact ⟨k, _, v2, nq + n1 + n2, by omega, HR2.out, by rw [← Hpl.out, pl, if_pos Hd.out]; rfl, rfl, by rw [← Hhalf.out]; rfl, by first | rfl | rw [World.drewN_drewN]⟩
        case measure => simp [intOf]; omega
      · rw [decide_eq_false hd] at hand
        have Hd := Lib.hid hd
        clear hd
        generalize bitOf (k + 1) = B at *
        go_wp2_with fail
        go_roundw
        case rel => exact ⟨k, _, v1, nq + n1, by omega, HR1.out, by rw [← Hpl.out, pl, if_neg Hd.out]; rfl, rfl, by rw [← Hhalf.out]; rfl, rfl⟩
        case measure => simp [intOf]; omega
end Go.Proofs.Ytpkinhiolaookaa
