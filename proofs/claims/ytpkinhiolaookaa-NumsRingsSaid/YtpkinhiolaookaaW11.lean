/-
  Contracts of functions of the packages nums, lintelref02 and math: what each call returns. Conditions: as each theorem says.
-/
import Derived.Test.YtpkinhiolaookaaW10
namespace Go.Proofs.Ytpkinhiolaookaa
open Go.RowKit F64
set_option maxHeartbeats 400000
attribute [local go_sem] r56 r55 neg_run

theorem shr_bit (N k : Nat) (_hN : N < 9223372036854775808) (_hk : k ≤ 10) : (((N : Int) / 2 ^ k).tmod 2 == 1) = decide (N / 2 ^ k % 2 = 1) := by
  have e : ((N : Int) / 2 ^ k) = ((N / 2 ^ k : Nat) : Int) := by
    rw [Int.natCast_ediv, Int.natCast_pow]; rfl
  rw [e, Int.tmod_eq_emod_of_nonneg (Int.natCast_nonneg _)]
  rw [Bool.eq_iff_iff, beq_iff_eq, decide_eq_true_iff]
  omega

theorem c17_le_1 (a b K : Nat) (ha : a < 18446744073709551616) (hna : isNaN a = false) (hb : b < 18446744073709551616) (hfb : fin b = true) (hv : V (rung b) = K * U) (hw : V (rung b) / U * U = V (rung b))
    (H47b : Hid (∀ w, Calls Try.prog 47 #[.float .f64 b] w fun e w' => e = .returned (.bool false) ∧ w = w'))
    (H47a : Hid (∀ w, Calls Try.prog 47 #[.float .f64 a] w fun e w' => e = .returned (.bool false) ∧ w = w'))
    (H48b : Hid (∀ w, Calls Try.prog 48 #[.float .f64 b] w fun e w' => e = .returned (.bool false) ∧ w = w'))
    (hb0 : (FloatKind.f64.format.order b 0 == some Ordering.eq) = false) (hbh : (FloatKind.f64.format.order b 4602678819172646912 == some Ordering.eq) = false) (ht1 : (FloatKind.f64.format.order (rung b) 4652218415073722368 == some Ordering.gt) = false) (hK : K % 2 = 1)  (w : World)
    (FIN RES : Option Nat) (HFin : Hid (pl K (some a) 11 (some 4607182418800017408) = FIN)) (HRes : Hid (lastO b FIN = RES)) :
    Calls Try.prog 17 #[.float .f64 a, .float .f64 b] w (PowPost RES w) := by
  have hbl : rung b < 9218868437227405312 := of_decide_eq_true hfb
  have hK1 := le_1024 hbl hv ht1
  have hoo := one_one
  have HK := Lib.hid (c46_odd (rung b) K hbl hv hK)
  have hC := fun w => run_convert_float_int (P := Try.prog) w 23 3 .f64 .i64 (rung b) ((K : Nat) : Int) (by kernel_rfl) Try.underlying3 (conv_i64 hbl hv (by have := le_1024 hbl hv ht1; omega))
  have hN : K < 9223372036854775808 := by omega
  have H52 := Lib.hid (c52 b hfb)
  have Hfb := Lib.hid hfb
  have Hw := Lib.hid hw
  have HRa := Lib.hid (R_some ha hna)
  clear hfb hw hna hv hK
  go_enter Try.func17, Try.ntmps17
  go_wp2_with (first | (go_at_call 47; (with_reducible refine (H47b.out _).mono ?_); rintro e w' ⟨rfl, rfl⟩) | (go_at_call 47; (with_reducible refine (H47a.out _).mono ?_); rintro e w' ⟨rfl, rfl⟩) | (go_at_call 48; (with_reducible refine (H48b.out _).mono ?_); rintro e w' ⟨rfl, rfl⟩))
  refine (H52.out _).mono ?_
  rintro e w' ⟨t, ht, htv, rfl, rfl⟩
  have htest := (whole_test Hfb.out ht htv).2
  rw [decide_eq_true Hw.out] at htest
  unfold oNe at htest
  clear htv Hw H52
  go_wp2_with (first | (go_at_call 19; refine (c19 _ hb _).mono ?_; rintro e w' ⟨rfl, rfl⟩) | (go_at_call 46; refine (HK.out _).mono ?_; rintro e w' ⟨rfl, rfl⟩))
  go_loopw [8, 9] (fun p i wr => ∃ (k : Nat) (o : Option Nat) (v nq : Nat), k ≤ 11 ∧ R o v ∧ pl K (some a) k o = FIN ∧ p = .float .f64 v ∧ i = .int .i64 ((k : Int) - 1) ∧ wr = w.drewN nq) (fun _ i _ => (intOf i + 1).toNat)
  case atStart => exact ⟨11, _, _, 0, by omega, R_some (by decide) (by decide), HFin.out, rfl, rfl, rfl⟩
  case round =>
    obtain ⟨k, o, v, nq, hk, hR, hpl, rfl, rfl, rfl⟩ := hrel
    have Hpl := Lib.hid hpl
    clear hpl
    cases k with
    | zero =>
      have HR := Lib.hid hR
      cases hlt : (FloatKind.f64.format.order b 0 == some Ordering.lt)
      · have Hlast := Lib.hid (last_f (p := FIN) hlt)
        clear hR
        go_wp2_with fail
        go_ret
        exact ⟨v, nq, rfl, rfl, by rw [← HRes.out, Hlast.out, ← Hpl.out]; exact HR.out⟩
      · have Hlast := Lib.hid (last_t (p := FIN) hlt)
        obtain ⟨v1, n1, h1, hR1⟩ := run_float_any (P := Try.prog) (w.drewN nq) .quo 23 (some 4607182418800017408) o 4607182418800017408 v (.inr (.inr rfl)) (R_some (by decide) (by decide)) hR
        have HR1 := Lib.hid hR1
        clear hR hR1
        go_wp2_with fail
        go_ret
        exact ⟨v1, nq + n1, rfl, by first | rfl | rw [World.drewN_drewN], by rw [← HRes.out, Hlast.out, ← Hpl.out]; exact HR1.out⟩
    | succ k =>
      obtain ⟨v1, n1, h1, hR1⟩ := run_float_any (P := Try.prog) (w.drewN nq) .mul 23 o o v v (.inl rfl) hR hR
      have HR1 := Lib.hid hR1
      clear hR1 hR
      rw [World.drewN_drewN] at h1
      have ek : (((k + 1 : Nat) : Int) - 1) = (k : Int) := by omega
      rw [ek]
      clear ek
      have hsh := shr_bit K k hN (by omega)
      by_cases hd : K / 2 ^ k % 2 = 1
      · rw [decide_eq_true hd] at hsh
        obtain ⟨v2, n2, h2, hR2⟩ := run_float_any (P := Try.prog) (w.drewN (nq + n1)) .mul 23 _ (some a) v1 a (.inl rfl) HR1.out HRa.out
        have HR2 := Lib.hid hR2
        have Hd := Lib.hid hd
        clear hd hR2
        rw [World.drewN_drewN] at h2
        go_wp2_with fail
        go_roundw
        case rel => exact ⟨k, _, v2, nq + n1 + n2, by omega, HR2.out, by rw [← Hpl.out, pl, if_pos Hd.out]; rfl, rfl, rfl, by first | rfl | rw [World.drewN_drewN]⟩
        case measure => simp [intOf]
      · rw [decide_eq_false hd] at hsh
        have Hd := Lib.hid hd
        clear hd
        go_wp2_with fail
        go_roundw
        case rel => exact ⟨k, _, v1, nq + n1, by omega, HR1.out, by rw [← Hpl.out, pl, if_neg Hd.out]; rfl, rfl, rfl, rfl⟩
        case measure => simp [intOf]

theorem c17_c0_1 (a b K : Nat) (ha : a < 18446744073709551616) (hna : isNaN a = false) (hb : b < 18446744073709551616) (hfb : fin b = true) (hv : V (rung b) = K * U) (hw : V (rung b) / U * U = V (rung b))
    (H47b : Hid (∀ w, Calls Try.prog 47 #[.float .f64 b] w fun e w' => e = .returned (.bool false) ∧ w = w'))
    (H47a : Hid (∀ w, Calls Try.prog 47 #[.float .f64 a] w fun e w' => e = .returned (.bool false) ∧ w = w'))
    (H48b : Hid (∀ w, Calls Try.prog 48 #[.float .f64 b] w fun e w' => e = .returned (.bool false) ∧ w = w'))
    (hb0 : (FloatKind.f64.format.order b 0 == some Ordering.eq) = false) (hbh : (FloatKind.f64.format.order b 4602678819172646912 == some Ordering.eq) = false) (N : Nat) (ht1 : (FloatKind.f64.format.order (rung b) 4652218415073722368 == some Ordering.gt) = true) (hNN : N = 3) (hK : K % 2 = 1) (h0 : (FloatKind.f64.format.order a 0 != some Ordering.eq) = false) (w : World)
    (FIN RES : Option Nat) (HFin : Hid (pl N (some a) 11 (some 4607182418800017408) = FIN)) (HRes : Hid (lastO b FIN = RES)) :
    Calls Try.prog 17 #[.float .f64 a, .float .f64 b] w (PowPost RES w) := by
  have hbl : rung b < 9218868437227405312 := of_decide_eq_true hfb
  have hoo := one_one
  have HK := Lib.hid (c46_odd (rung b) K hbl hv hK)
  have hC := fun w => run_convert_float_int (P := Try.prog) w 23 3 .f64 .i64 4613937818241073152 ((N : Nat) : Int) (by kernel_rfl) Try.underlying3 (conv_i64 (K := N) (by decide) (by rw [hNN]; exact V_three) (by omega))
  have hN : N < 9223372036854775808 := by omega
  have hadd := fun w => run_float_arith (P := Try.prog) w .add 23 .f64 4607182418800017408 4611686018427387904 4613937818241073152 two_and_one
  have H52 := Lib.hid (c52 b hfb)
  have Hfb := Lib.hid hfb
  have Hw := Lib.hid hw
  have HRa := Lib.hid (R_some ha hna)
  clear hfb hw hna hv hK hNN
  go_enter Try.func17, Try.ntmps17
  go_wp2_with (first | (go_at_call 47; (with_reducible refine (H47b.out _).mono ?_); rintro e w' ⟨rfl, rfl⟩) | (go_at_call 47; (with_reducible refine (H47a.out _).mono ?_); rintro e w' ⟨rfl, rfl⟩) | (go_at_call 48; (with_reducible refine (H48b.out _).mono ?_); rintro e w' ⟨rfl, rfl⟩))
  refine (H52.out _).mono ?_
  rintro e w' ⟨t, ht, htv, rfl, rfl⟩
  have htest := (whole_test Hfb.out ht htv).2
  rw [decide_eq_true Hw.out] at htest
  unfold oNe at htest
  clear htv Hw H52
  go_wp2_with (first | (go_at_call 19; refine (c19 _ hb _).mono ?_; rintro e w' ⟨rfl, rfl⟩) | (go_at_call 46; refine (HK.out _).mono ?_; rintro e w' ⟨rfl, rfl⟩))
  go_loopw [8, 9] (fun p i wr => ∃ (k : Nat) (o : Option Nat) (v nq : Nat), k ≤ 11 ∧ R o v ∧ pl N (some a) k o = FIN ∧ p = .float .f64 v ∧ i = .int .i64 ((k : Int) - 1) ∧ wr = w.drewN nq) (fun _ i _ => (intOf i + 1).toNat)
  case atStart => exact ⟨11, _, _, 0, by omega, R_some (by decide) (by decide), HFin.out, rfl, rfl, rfl⟩
  case round =>
    obtain ⟨k, o, v, nq, hk, hR, hpl, rfl, rfl, rfl⟩ := hrel
    have Hpl := Lib.hid hpl
    clear hpl
    cases k with
    | zero =>
      have HR := Lib.hid hR
      cases hlt : (FloatKind.f64.format.order b 0 == some Ordering.lt)
      · have Hlast := Lib.hid (last_f (p := FIN) hlt)
        clear hR
        go_wp2_with fail
        go_ret
        exact ⟨v, nq, rfl, rfl, by rw [← HRes.out, Hlast.out, ← Hpl.out]; exact HR.out⟩
      · have Hlast := Lib.hid (last_t (p := FIN) hlt)
        obtain ⟨v1, n1, h1, hR1⟩ := run_float_any (P := Try.prog) (w.drewN nq) .quo 23 (some 4607182418800017408) o 4607182418800017408 v (.inr (.inr rfl)) (R_some (by decide) (by decide)) hR
        have HR1 := Lib.hid hR1
        clear hR hR1
        go_wp2_with fail
        go_ret
        exact ⟨v1, nq + n1, rfl, by first | rfl | rw [World.drewN_drewN], by rw [← HRes.out, Hlast.out, ← Hpl.out]; exact HR1.out⟩
    | succ k =>
      obtain ⟨v1, n1, h1, hR1⟩ := run_float_any (P := Try.prog) (w.drewN nq) .mul 23 o o v v (.inl rfl) hR hR
      have HR1 := Lib.hid hR1
      clear hR1 hR
      rw [World.drewN_drewN] at h1
      have ek : (((k + 1 : Nat) : Int) - 1) = (k : Int) := by omega
      rw [ek]
      clear ek
      have hsh := shr_bit N k hN (by omega)
      by_cases hd : N / 2 ^ k % 2 = 1
      · rw [decide_eq_true hd] at hsh
        obtain ⟨v2, n2, h2, hR2⟩ := run_float_any (P := Try.prog) (w.drewN (nq + n1)) .mul 23 _ (some a) v1 a (.inl rfl) HR1.out HRa.out
        have HR2 := Lib.hid hR2
        have Hd := Lib.hid hd
        clear hd hR2
        rw [World.drewN_drewN] at h2
        go_wp2_with fail
        go_roundw
        case rel => exact ⟨k, _, v2, nq + n1 + n2, by omega, HR2.out, by rw [← Hpl.out, pl, if_pos Hd.out]; rfl, rfl, rfl, by first | rfl | rw [World.drewN_drewN]⟩
        case measure => simp [intOf]
      · rw [decide_eq_false hd] at hsh
        have Hd := Lib.hid hd
        clear hd
        go_wp2_with fail
        go_roundw
        case rel => exact ⟨k, _, v1, nq + n1, by omega, HR1.out, by rw [← Hpl.out, pl, if_neg Hd.out]; rfl, rfl, rfl, rfl⟩
        case measure => simp [intOf]

theorem c17_c1_1 (a b K : Nat) (ha : a < 18446744073709551616) (hna : isNaN a = false) (hb : b < 18446744073709551616) (hfb : fin b = true) (hv : V (rung b) = K * U) (hw : V (rung b) / U * U = V (rung b))
    (H47b : Hid (∀ w, Calls Try.prog 47 #[.float .f64 b] w fun e w' => e = .returned (.bool false) ∧ w = w'))
    (H47a : Hid (∀ w, Calls Try.prog 47 #[.float .f64 a] w fun e w' => e = .returned (.bool false) ∧ w = w'))
    (H48b : Hid (∀ w, Calls Try.prog 48 #[.float .f64 b] w fun e w' => e = .returned (.bool false) ∧ w = w'))
    (hb0 : (FloatKind.f64.format.order b 0 == some Ordering.eq) = false) (hbh : (FloatKind.f64.format.order b 4602678819172646912 == some Ordering.eq) = false) (N : Nat) (ht1 : (FloatKind.f64.format.order (rung b) 4652218415073722368 == some Ordering.gt) = true) (hNN : N = 3) (hK : K % 2 = 1) (h0 : (FloatKind.f64.format.order a 0 != some Ordering.eq) = true)(hinf : Hid (rung a = 9218868437227405312)) (w : World)
    (FIN RES : Option Nat) (HFin : Hid (pl N (some a) 11 (some 4607182418800017408) = FIN)) (HRes : Hid (lastO b FIN = RES)) :
    Calls Try.prog 17 #[.float .f64 a, .float .f64 b] w (PowPost RES w) := by
  have hbl : rung b < 9218868437227405312 := of_decide_eq_true hfb
  have hoo := one_one
  have HK := Lib.hid (c46_odd (rung b) K hbl hv hK)
  have hC := fun w => run_convert_float_int (P := Try.prog) w 23 3 .f64 .i64 4613937818241073152 ((N : Nat) : Int) (by kernel_rfl) Try.underlying3 (conv_i64 (K := N) (by decide) (by rw [hNN]; exact V_three) (by omega))
  have hN : N < 9223372036854775808 := by omega
  have hadd := fun w => run_float_arith (P := Try.prog) w .add 23 .f64 4607182418800017408 4611686018427387904 4613937818241073152 two_and_one
  have H52 := Lib.hid (c52 b hfb)
  have Hfb := Lib.hid hfb
  have Hw := Lib.hid hw
  have HRa := Lib.hid (R_some ha hna)
  clear hfb hw hna hv hK hNN
  go_enter Try.func17, Try.ntmps17
  go_wp2_with (first | (go_at_call 47; (with_reducible refine (H47b.out _).mono ?_); rintro e w' ⟨rfl, rfl⟩) | (go_at_call 47; (with_reducible refine (H47a.out _).mono ?_); rintro e w' ⟨rfl, rfl⟩) | (go_at_call 48; (with_reducible refine (H48b.out _).mono ?_); rintro e w' ⟨rfl, rfl⟩))
  refine (H52.out _).mono ?_
  rintro e w' ⟨t, ht, htv, rfl, rfl⟩
  have htest := (whole_test Hfb.out ht htv).2
  rw [decide_eq_true Hw.out] at htest
  unfold oNe at htest
  clear htv Hw H52
  go_wp2_with (first | (go_at_call 19; refine (c19 _ hb _).mono ?_; rintro e w' ⟨rfl, rfl⟩) | (go_at_call 46; refine (HK.out _).mono ?_; rintro e w' ⟨rfl, rfl⟩) | (go_at_call 48; refine (isInf_t2 ha hinf.out _).mono ?_; rintro e w' ⟨rfl, rfl⟩))
  go_loopw [8, 9] (fun p i wr => ∃ (k : Nat) (o : Option Nat) (v nq : Nat), k ≤ 11 ∧ R o v ∧ pl N (some a) k o = FIN ∧ p = .float .f64 v ∧ i = .int .i64 ((k : Int) - 1) ∧ wr = w.drewN nq) (fun _ i _ => (intOf i + 1).toNat)
  case atStart => exact ⟨11, _, _, 0, by omega, R_some (by decide) (by decide), HFin.out, rfl, rfl, rfl⟩
  case round =>
    obtain ⟨k, o, v, nq, hk, hR, hpl, rfl, rfl, rfl⟩ := hrel
    have Hpl := Lib.hid hpl
    clear hpl
    cases k with
    | zero =>
      have HR := Lib.hid hR
      cases hlt : (FloatKind.f64.format.order b 0 == some Ordering.lt)
      · have Hlast := Lib.hid (last_f (p := FIN) hlt)
        clear hR
        go_wp2_with fail
        go_ret
        exact ⟨v, nq, rfl, rfl, by rw [← HRes.out, Hlast.out, ← Hpl.out]; exact HR.out⟩
      · have Hlast := Lib.hid (last_t (p := FIN) hlt)
        obtain ⟨v1, n1, h1, hR1⟩ := run_float_any (P := Try.prog) (w.drewN nq) .quo 23 (some 4607182418800017408) o 4607182418800017408 v (.inr (.inr rfl)) (R_some (by decide) (by decide)) hR
        have HR1 := Lib.hid hR1
        clear hR hR1
        go_wp2_with fail
        go_ret
        exact ⟨v1, nq + n1, rfl, by first | rfl | rw [World.drewN_drewN], by rw [← HRes.out, Hlast.out, ← Hpl.out]; exact HR1.out⟩
    | succ k =>
      obtain ⟨v1, n1, h1, hR1⟩ := run_float_any (P := Try.prog) (w.drewN nq) .mul 23 o o v v (.inl rfl) hR hR
      have HR1 := Lib.hid hR1
      clear hR1 hR
      rw [World.drewN_drewN] at h1
      have ek : (((k + 1 : Nat) : Int) - 1) = (k : Int) := by omega
      rw [ek]
      clear ek
      have hsh := shr_bit N k hN (by omega)
      by_cases hd : N / 2 ^ k % 2 = 1
      · rw [decide_eq_true hd] at hsh
        obtain ⟨v2, n2, h2, hR2⟩ := run_float_any (P := Try.prog) (w.drewN (nq + n1)) .mul 23 _ (some a) v1 a (.inl rfl) HR1.out HRa.out
        have HR2 := Lib.hid hR2
        have Hd := Lib.hid hd
        clear hd hR2
        rw [World.drewN_drewN] at h2
        go_wp2_with fail
        go_roundw
        case rel => exact ⟨k, _, v2, nq + n1 + n2, by omega, HR2.out, by rw [← Hpl.out, pl, if_pos Hd.out]; rfl, rfl, rfl, by first | rfl | rw [World.drewN_drewN]⟩
        case measure => simp [intOf]
      · rw [decide_eq_false hd] at hsh
        have Hd := Lib.hid hd
        clear hd
        go_wp2_with fail
        go_roundw
        case rel => exact ⟨k, _, v1, nq + n1, by omega, HR1.out, by rw [← Hpl.out, pl, if_neg Hd.out]; rfl, rfl, rfl, rfl⟩
        case measure => simp [intOf]

theorem c17_c2_1 (a b K : Nat) (ha : a < 18446744073709551616) (hna : isNaN a = false) (hb : b < 18446744073709551616) (hfb : fin b = true) (hv : V (rung b) = K * U) (hw : V (rung b) / U * U = V (rung b))
    (H47b : Hid (∀ w, Calls Try.prog 47 #[.float .f64 b] w fun e w' => e = .returned (.bool false) ∧ w = w'))
    (H47a : Hid (∀ w, Calls Try.prog 47 #[.float .f64 a] w fun e w' => e = .returned (.bool false) ∧ w = w'))
    (H48b : Hid (∀ w, Calls Try.prog 48 #[.float .f64 b] w fun e w' => e = .returned (.bool false) ∧ w = w'))
    (hb0 : (FloatKind.f64.format.order b 0 == some Ordering.eq) = false) (hbh : (FloatKind.f64.format.order b 4602678819172646912 == some Ordering.eq) = false) (N : Nat) (ht1 : (FloatKind.f64.format.order (rung b) 4652218415073722368 == some Ordering.gt) = true) (hNN : N = 3) (hK : K % 2 = 1) (h0 : (FloatKind.f64.format.order a 0 != some Ordering.eq) = true)(hinf : Hid (¬ rung a = 9218868437227405312))(h1 : (FloatKind.f64.format.order a 4607182418800017408 != some Ordering.eq) = false) (w : World)
    (FIN RES : Option Nat) (HFin : Hid (pl N (some a) 11 (some 4607182418800017408) = FIN)) (HRes : Hid (lastO b FIN = RES)) :
    Calls Try.prog 17 #[.float .f64 a, .float .f64 b] w (PowPost RES w) := by
  have hbl : rung b < 9218868437227405312 := of_decide_eq_true hfb
  have hoo := one_one
  have HK := Lib.hid (c46_odd (rung b) K hbl hv hK)
  have hC := fun w => run_convert_float_int (P := Try.prog) w 23 3 .f64 .i64 4613937818241073152 ((N : Nat) : Int) (by kernel_rfl) Try.underlying3 (conv_i64 (K := N) (by decide) (by rw [hNN]; exact V_three) (by omega))
  have hN : N < 9223372036854775808 := by omega
  have hadd := fun w => run_float_arith (P := Try.prog) w .add 23 .f64 4607182418800017408 4611686018427387904 4613937818241073152 two_and_one
  have H52 := Lib.hid (c52 b hfb)
  have Hfb := Lib.hid hfb
  have Hw := Lib.hid hw
  have HRa := Lib.hid (R_some ha hna)
  clear hfb hw hna hv hK hNN
  go_enter Try.func17, Try.ntmps17
  go_wp2_with (first | (go_at_call 47; (with_reducible refine (H47b.out _).mono ?_); rintro e w' ⟨rfl, rfl⟩) | (go_at_call 47; (with_reducible refine (H47a.out _).mono ?_); rintro e w' ⟨rfl, rfl⟩) | (go_at_call 48; (with_reducible refine (H48b.out _).mono ?_); rintro e w' ⟨rfl, rfl⟩))
  refine (H52.out _).mono ?_
  rintro e w' ⟨t, ht, htv, rfl, rfl⟩
  have htest := (whole_test Hfb.out ht htv).2
  rw [decide_eq_true Hw.out] at htest
  unfold oNe at htest
  clear htv Hw H52
  go_wp2_with (first | (go_at_call 19; refine (c19 _ hb _).mono ?_; rintro e w' ⟨rfl, rfl⟩) | (go_at_call 46; refine (HK.out _).mono ?_; rintro e w' ⟨rfl, rfl⟩) | (go_at_call 48; refine (isInf_n2 ha hinf.out _).mono ?_; rintro e w' ⟨rfl, rfl⟩))
  go_loopw [8, 9] (fun p i wr => ∃ (k : Nat) (o : Option Nat) (v nq : Nat), k ≤ 11 ∧ R o v ∧ pl N (some a) k o = FIN ∧ p = .float .f64 v ∧ i = .int .i64 ((k : Int) - 1) ∧ wr = w.drewN nq) (fun _ i _ => (intOf i + 1).toNat)
  case atStart => exact ⟨11, _, _, 0, by omega, R_some (by decide) (by decide), HFin.out, rfl, rfl, rfl⟩
  case round =>
    obtain ⟨k, o, v, nq, hk, hR, hpl, rfl, rfl, rfl⟩ := hrel
    have Hpl := Lib.hid hpl
    clear hpl
    cases k with
    | zero =>
      have HR := Lib.hid hR
      cases hlt : (FloatKind.f64.format.order b 0 == some Ordering.lt)
      · have Hlast := Lib.hid (last_f (p := FIN) hlt)
        clear hR
        go_wp2_with fail
        go_ret
        exact ⟨v, nq, rfl, rfl, by rw [← HRes.out, Hlast.out, ← Hpl.out]; exact HR.out⟩
      · have Hlast := Lib.hid (last_t (p := FIN) hlt)
        obtain ⟨v1, n1, h1, hR1⟩ := run_float_any (P := Try.prog) (w.drewN nq) .quo 23 (some 4607182418800017408) o 4607182418800017408 v (.inr (.inr rfl)) (R_some (by decide) (by decide)) hR
        have HR1 := Lib.hid hR1
        clear hR hR1
        go_wp2_with fail
        go_ret
        exact ⟨v1, nq + n1, rfl, by first | rfl | rw [World.drewN_drewN], by rw [← HRes.out, Hlast.out, ← Hpl.out]; exact HR1.out⟩
    | succ k =>
      obtain ⟨v1, n1, h1, hR1⟩ := run_float_any (P := Try.prog) (w.drewN nq) .mul 23 o o v v (.inl rfl) hR hR
      have HR1 := Lib.hid hR1
      clear hR1 hR
      rw [World.drewN_drewN] at h1
      have ek : (((k + 1 : Nat) : Int) - 1) = (k : Int) := by omega
      rw [ek]
      clear ek
      have hsh := shr_bit N k hN (by omega)
      by_cases hd : N / 2 ^ k % 2 = 1
      · rw [decide_eq_true hd] at hsh
        obtain ⟨v2, n2, h2, hR2⟩ := run_float_any (P := Try.prog) (w.drewN (nq + n1)) .mul 23 _ (some a) v1 a (.inl rfl) HR1.out HRa.out
        have HR2 := Lib.hid hR2
        have Hd := Lib.hid hd
        clear hd hR2
        rw [World.drewN_drewN] at h2
        go_wp2_with fail
        go_roundw
        case rel => exact ⟨k, _, v2, nq + n1 + n2, by omega, HR2.out, by rw [← Hpl.out, pl, if_pos Hd.out]; rfl, rfl, rfl, by first | rfl | rw [World.drewN_drewN]⟩
        case measure => simp [intOf]
      · rw [decide_eq_false hd] at hsh
        have Hd := Lib.hid hd
        clear hd
        go_wp2_with fail
        go_roundw
        case rel => exact ⟨k, _, v1, nq + n1, by omega, HR1.out, by rw [← Hpl.out, pl, if_neg Hd.out]; rfl, rfl, rfl, rfl⟩
        case measure => simp [intOf]

theorem c17_c3_1 (a b K : Nat) (ha : a < 18446744073709551616) (hna : isNaN a = false) (hb : b < 18446744073709551616) (hfb : fin b = true) (hv : V (rung b) = K * U) (hw : V (rung b) / U * U = V (rung b))
    (H47b : Hid (∀ w, Calls Try.prog 47 #[.float .f64 b] w fun e w' => e = .returned (.bool false) ∧ w = w'))
    (H47a : Hid (∀ w, Calls Try.prog 47 #[.float .f64 a] w fun e w' => e = .returned (.bool false) ∧ w = w'))
    (H48b : Hid (∀ w, Calls Try.prog 48 #[.float .f64 b] w fun e w' => e = .returned (.bool false) ∧ w = w'))
    (hb0 : (FloatKind.f64.format.order b 0 == some Ordering.eq) = false) (hbh : (FloatKind.f64.format.order b 4602678819172646912 == some Ordering.eq) = false) (N : Nat) (ht1 : (FloatKind.f64.format.order (rung b) 4652218415073722368 == some Ordering.gt) = true) (hNN : N = 3) (hK : K % 2 = 1) (h0 : (FloatKind.f64.format.order a 0 != some Ordering.eq) = true)(hinf : Hid (¬ rung a = 9218868437227405312))(h1 : (FloatKind.f64.format.order a 4607182418800017408 != some Ordering.eq) = true)(h2 : (FloatKind.f64.format.order a 13830554455654793216 != some Ordering.eq) = false) (w : World)
    (FIN RES : Option Nat) (HFin : Hid (pl N (some a) 11 (some 4607182418800017408) = FIN)) (HRes : Hid (lastO b FIN = RES)) :
    Calls Try.prog 17 #[.float .f64 a, .float .f64 b] w (PowPost RES w) := by
  have hbl : rung b < 9218868437227405312 := of_decide_eq_true hfb
  have hoo := one_one
  have HK := Lib.hid (c46_odd (rung b) K hbl hv hK)
  have hC := fun w => run_convert_float_int (P := Try.prog) w 23 3 .f64 .i64 4613937818241073152 ((N : Nat) : Int) (by kernel_rfl) Try.underlying3 (conv_i64 (K := N) (by decide) (by rw [hNN]; exact V_three) (by omega))
  have hN : N < 9223372036854775808 := by omega
  have hadd := fun w => run_float_arith (P := Try.prog) w .add 23 .f64 4607182418800017408 4611686018427387904 4613937818241073152 two_and_one
  have H52 := Lib.hid (c52 b hfb)
  have Hfb := Lib.hid hfb
  have Hw := Lib.hid hw
  have HRa := Lib.hid (R_some ha hna)
  clear hfb hw hna hv hK hNN
  go_enter Try.func17, Try.ntmps17
  go_wp2_with (first | (go_at_call 47; (with_reducible refine (H47b.out _).mono ?_); rintro e w' ⟨rfl, rfl⟩) | (go_at_call 47; (with_reducible refine (H47a.out _).mono ?_); rintro e w' ⟨rfl, rfl⟩) | (go_at_call 48; (with_reducible refine (H48b.out _).mono ?_); rintro e w' ⟨rfl, rfl⟩))
  refine (H52.out _).mono ?_
  rintro e w' ⟨t, ht, htv, rfl, rfl⟩
  have htest := (whole_test Hfb.out ht htv).2
  rw [decide_eq_true Hw.out] at htest
  unfold oNe at htest
  clear htv Hw H52
  go_wp2_with (first | (go_at_call 19; refine (c19 _ hb _).mono ?_; rintro e w' ⟨rfl, rfl⟩) | (go_at_call 46; refine (HK.out _).mono ?_; rintro e w' ⟨rfl, rfl⟩) | (go_at_call 48; refine (isInf_n2 ha hinf.out _).mono ?_; rintro e w' ⟨rfl, rfl⟩))
  go_loopw [8, 9] (fun p i wr => ∃ (k : Nat) (o : Option Nat) (v nq : Nat), k ≤ 11 ∧ R o v ∧ pl N (some a) k o = FIN ∧ p = .float .f64 v ∧ i = .int .i64 ((k : Int) - 1) ∧ wr = w.drewN nq) (fun _ i _ => (intOf i + 1).toNat)
  case atStart => exact ⟨11, _, _, 0, by omega, R_some (by decide) (by decide), HFin.out, rfl, rfl, rfl⟩
  case round =>
    obtain ⟨k, o, v, nq, hk, hR, hpl, rfl, rfl, rfl⟩ := hrel
    have Hpl := Lib.hid hpl
    clear hpl
    cases k with
    | zero =>
      have HR := Lib.hid hR
      cases hlt : (FloatKind.f64.format.order b 0 == some Ordering.lt)
      · have Hlast := Lib.hid (last_f (p := FIN) hlt)
        clear hR
        go_wp2_with fail
        go_ret
        exact ⟨v, nq, rfl, rfl, by rw [← HRes.out, Hlast.out, ← Hpl.out]; exact HR.out⟩
      · have Hlast := Lib.hid (last_t (p := FIN) hlt)
        obtain ⟨v1, n1, h1, hR1⟩ := run_float_any (P := Try.prog) (w.drewN nq) .quo 23 (some 4607182418800017408) o 4607182418800017408 v (.inr (.inr rfl)) (R_some (by decide) (by decide)) hR
        have HR1 := Lib.hid hR1
        clear hR hR1
        go_wp2_with fail
        go_ret
        exact ⟨v1, nq + n1, rfl, by first | rfl | rw [World.drewN_drewN], by rw [← HRes.out, Hlast.out, ← Hpl.out]; exact HR1.out⟩
    | succ k =>
      obtain ⟨v1, n1, h1, hR1⟩ := run_float_any (P := Try.prog) (w.drewN nq) .mul 23 o o v v (.inl rfl) hR hR
      have HR1 := Lib.hid hR1
      clear hR1 hR
      rw [World.drewN_drewN] at h1
      have ek : (((k + 1 : Nat) : Int) - 1) = (k : Int) := by omega
      rw [ek]
      clear ek
      have hsh := shr_bit N k hN (by omega)
      by_cases hd : N / 2 ^ k % 2 = 1
      · rw [decide_eq_true hd] at hsh
        obtain ⟨v2, n2, h2, hR2⟩ := run_float_any (P := Try.prog) (w.drewN (nq + n1)) .mul 23 _ (some a) v1 a (.inl rfl) HR1.out HRa.out
        have HR2 := Lib.hid hR2
        have Hd := Lib.hid hd
        clear hd hR2
        rw [World.drewN_drewN] at h2
        go_wp2_with fail
        go_roundw
        case rel => exact ⟨k, _, v2, nq + n1 + n2, by omega, HR2.out, by rw [← Hpl.out, pl, if_pos Hd.out]; rfl, rfl, rfl, by first | rfl | rw [World.drewN_drewN]⟩
        case measure => simp [intOf]
      · rw [decide_eq_false hd] at hsh
        have Hd := Lib.hid hd
        clear hd
        go_wp2_with fail
        go_roundw
        case rel => exact ⟨k, _, v1, nq + n1, by omega, HR1.out, by rw [← Hpl.out, pl, if_neg Hd.out]; rfl, rfl, rfl, rfl⟩
        case measure => simp [intOf]

theorem c17_le_0 (a b K : Nat) (ha : a < 18446744073709551616) (hna : isNaN a = false) (hb : b < 18446744073709551616) (hfb : fin b = true) (hv : V (rung b) = K * U) (hw : V (rung b) / U * U = V (rung b))
    (H47b : Hid (∀ w, Calls Try.prog 47 #[.float .f64 b] w fun e w' => e = .returned (.bool false) ∧ w = w'))
    (H47a : Hid (∀ w, Calls Try.prog 47 #[.float .f64 a] w fun e w' => e = .returned (.bool false) ∧ w = w'))
    (H48b : Hid (∀ w, Calls Try.prog 48 #[.float .f64 b] w fun e w' => e = .returned (.bool false) ∧ w = w'))
    (hb0 : (FloatKind.f64.format.order b 0 == some Ordering.eq) = false) (hbh : (FloatKind.f64.format.order b 4602678819172646912 == some Ordering.eq) = false) (ht1 : (FloatKind.f64.format.order (rung b) 4652218415073722368 == some Ordering.gt) = false) (hK : ¬ K % 2 = 1)  (w : World)
    (FIN RES : Option Nat) (HFin : Hid (pl K (some a) 11 (some 4607182418800017408) = FIN)) (HRes : Hid (lastO b FIN = RES)) :
    Calls Try.prog 17 #[.float .f64 a, .float .f64 b] w (PowPost RES w) := by
  have hbl : rung b < 9218868437227405312 := of_decide_eq_true hfb
  have hK1 := le_1024 hbl hv ht1
  have hoo := zero_one
  have HK := Lib.hid (c46_even (rung b) K hbl hv hK)
  have hC := fun w => run_convert_float_int (P := Try.prog) w 23 3 .f64 .i64 (rung b) ((K : Nat) : Int) (by kernel_rfl) Try.underlying3 (conv_i64 hbl hv (by have := le_1024 hbl hv ht1; omega))
  have hN : K < 9223372036854775808 := by omega
  have H52 := Lib.hid (c52 b hfb)
  have Hfb := Lib.hid hfb
  have Hw := Lib.hid hw
  have HRa := Lib.hid (R_some ha hna)
  clear hfb hw hna hv hK
  go_enter Try.func17, Try.ntmps17
  go_wp2_with (first | (go_at_call 47; (with_reducible refine (H47b.out _).mono ?_); rintro e w' ⟨rfl, rfl⟩) | (go_at_call 47; (with_reducible refine (H47a.out _).mono ?_); rintro e w' ⟨rfl, rfl⟩) | (go_at_call 48; (with_reducible refine (H48b.out _).mono ?_); rintro e w' ⟨rfl, rfl⟩))
  refine (H52.out _).mono ?_
  rintro e w' ⟨t, ht, htv, rfl, rfl⟩
  have htest := (whole_test Hfb.out ht htv).2
  rw [decide_eq_true Hw.out] at htest
  unfold oNe at htest
  clear htv Hw H52
  go_wp2_with (first | (go_at_call 19; refine (c19 _ hb _).mono ?_; rintro e w' ⟨rfl, rfl⟩) | (go_at_call 46; refine (HK.out _).mono ?_; rintro e w' ⟨rfl, rfl⟩))
  go_loopw [8, 9] (fun p i wr => ∃ (k : Nat) (o : Option Nat) (v nq : Nat), k ≤ 11 ∧ R o v ∧ pl K (some a) k o = FIN ∧ p = .float .f64 v ∧ i = .int .i64 ((k : Int) - 1) ∧ wr = w.drewN nq) (fun _ i _ => (intOf i + 1).toNat)
  case atStart => exact ⟨11, _, _, 0, by omega, R_some (by decide) (by decide), HFin.out, rfl, rfl, rfl⟩
  case round =>
    obtain ⟨k, o, v, nq, hk, hR, hpl, rfl, rfl, rfl⟩ := hrel
    have Hpl := Lib.hid hpl
    clear hpl
    cases k with
    | zero =>
      have HR := Lib.hid hR
      cases hlt : (FloatKind.f64.format.order b 0 == some Ordering.lt)
      · have Hlast := Lib.hid (last_f (p := FIN) hlt)
        clear hR
        go_wp2_with fail
        go_ret
        exact ⟨v, nq, rfl, rfl, by rw [← HRes.out, Hlast.out, ← Hpl.out]; exact HR.out⟩
      · have Hlast := Lib.hid (last_t (p := FIN) hlt)
        obtain ⟨v1, n1, h1, hR1⟩ := run_float_any (P := Try.prog) (w.drewN nq) .quo 23 (some 4607182418800017408) o 4607182418800017408 v (.inr (.inr rfl)) (R_some (by decide) (by decide)) hR
        have HR1 := Lib.hid hR1
        clear hR hR1
        go_wp2_with fail
        go_ret
        exact ⟨v1, nq + n1, rfl, by first | rfl | rw [World.drewN_drewN], by rw [← HRes.out, Hlast.out, ← Hpl.out]; exact HR1.out⟩
    | succ k =>
      obtain ⟨v1, n1, h1, hR1⟩ := run_float_any (P := Try.prog) (w.drewN nq) .mul 23 o o v v (.inl rfl) hR hR
      have HR1 := Lib.hid hR1
      clear hR1 hR
      rw [World.drewN_drewN] at h1
      have ek : (((k + 1 : Nat) : Int) - 1) = (k : Int) := by omega
      rw [ek]
      clear ek
      have hsh := shr_bit K k hN (by omega)
      by_cases hd : K / 2 ^ k % 2 = 1
      · rw [decide_eq_true hd] at hsh
        obtain ⟨v2, n2, h2, hR2⟩ := run_float_any (P := Try.prog) (w.drewN (nq + n1)) .mul 23 _ (some a) v1 a (.inl rfl) HR1.out HRa.out
        have HR2 := Lib.hid hR2
        have Hd := Lib.hid hd
        clear hd hR2
        rw [World.drewN_drewN] at h2
        go_wp2_with fail
        go_roundw
        case rel => exact ⟨k, _, v2, nq + n1 + n2, by omega, HR2.out, by rw [← Hpl.out, pl, if_pos Hd.out]; rfl, rfl, rfl, by first | rfl | rw [World.drewN_drewN]⟩
        case measure => simp [intOf]
      · rw [decide_eq_false hd] at hsh
        have Hd := Lib.hid hd
        clear hd
        go_wp2_with fail
        go_roundw
        case rel => exact ⟨k, _, v1, nq + n1, by omega, HR1.out, by rw [← Hpl.out, pl, if_neg Hd.out]; rfl, rfl, rfl, rfl⟩
        case measure => simp [intOf]

theorem c17_c0_0 (a b K : Nat) (ha : a < 18446744073709551616) (hna : isNaN a = false) (hb : b < 18446744073709551616) (hfb : fin b = true) (hv : V (rung b) = K * U) (hw : V (rung b) / U * U = V (rung b))
    (H47b : Hid (∀ w, Calls Try.prog 47 #[.float .f64 b] w fun e w' => e = .returned (.bool false) ∧ w = w'))
    (H47a : Hid (∀ w, Calls Try.prog 47 #[.float .f64 a] w fun e w' => e = .returned (.bool false) ∧ w = w'))
    (H48b : Hid (∀ w, Calls Try.prog 48 #[.float .f64 b] w fun e w' => e = .returned (.bool false) ∧ w = w'))
    (hb0 : (FloatKind.f64.format.order b 0 == some Ordering.eq) = false) (hbh : (FloatKind.f64.format.order b 4602678819172646912 == some Ordering.eq) = false) (N : Nat) (ht1 : (FloatKind.f64.format.order (rung b) 4652218415073722368 == some Ordering.gt) = true) (hNN : N = 2) (hK : ¬ K % 2 = 1) (h0 : (FloatKind.f64.format.order a 0 != some Ordering.eq) = false) (w : World)
    (FIN RES : Option Nat) (HFin : Hid (pl N (some a) 11 (some 4607182418800017408) = FIN)) (HRes : Hid (lastO b FIN = RES)) :
    Calls Try.prog 17 #[.float .f64 a, .float .f64 b] w (PowPost RES w) := by
  have hbl : rung b < 9218868437227405312 := of_decide_eq_true hfb
  have hoo := zero_one
  have HK := Lib.hid (c46_even (rung b) K hbl hv hK)
  have hC := fun w => run_convert_float_int (P := Try.prog) w 23 3 .f64 .i64 4611686018427387904 ((N : Nat) : Int) (by kernel_rfl) Try.underlying3 (conv_i64 (K := N) (by decide) (by rw [hNN]; exact V_two2) (by omega))
  have hN : N < 9223372036854775808 := by omega
  have hadd := fun w => run_float_arith (P := Try.prog) w .add 23 .f64 0 4611686018427387904 4611686018427387904 two_and_none
  have H52 := Lib.hid (c52 b hfb)
  have Hfb := Lib.hid hfb
  have Hw := Lib.hid hw
  have HRa := Lib.hid (R_some ha hna)
  clear hfb hw hna hv hK hNN
  go_enter Try.func17, Try.ntmps17
  go_wp2_with (first | (go_at_call 47; (with_reducible refine (H47b.out _).mono ?_); rintro e w' ⟨rfl, rfl⟩) | (go_at_call 47; (with_reducible refine (H47a.out _).mono ?_); rintro e w' ⟨rfl, rfl⟩) | (go_at_call 48; (with_reducible refine (H48b.out _).mono ?_); rintro e w' ⟨rfl, rfl⟩))
  refine (H52.out _).mono ?_
  rintro e w' ⟨t, ht, htv, rfl, rfl⟩
  have htest := (whole_test Hfb.out ht htv).2
  rw [decide_eq_true Hw.out] at htest
  unfold oNe at htest
  clear htv Hw H52
  go_wp2_with (first | (go_at_call 19; refine (c19 _ hb _).mono ?_; rintro e w' ⟨rfl, rfl⟩) | (go_at_call 46; refine (HK.out _).mono ?_; rintro e w' ⟨rfl, rfl⟩))
  go_loopw [8, 9] (fun p i wr => ∃ (k : Nat) (o : Option Nat) (v nq : Nat), k ≤ 11 ∧ R o v ∧ pl N (some a) k o = FIN ∧ p = .float .f64 v ∧ i = .int .i64 ((k : Int) - 1) ∧ wr = w.drewN nq) (fun _ i _ => (intOf i + 1).toNat)
  case atStart => exact ⟨11, _, _, 0, by omega, R_some (by decide) (by decide), HFin.out, rfl, rfl, rfl⟩
  case round =>
    obtain ⟨k, o, v, nq, hk, hR, hpl, rfl, rfl, rfl⟩ := hrel
    have Hpl := Lib.hid hpl
    clear hpl
    cases k with
    | zero =>
      have HR := Lib.hid hR
      cases hlt : (FloatKind.f64.format.order b 0 == some Ordering.lt)
      · have Hlast := Lib.hid (last_f (p := FIN) hlt)
        clear hR
        go_wp2_with fail
        go_ret
        exact ⟨v, nq, rfl, rfl, by rw [← HRes.out, Hlast.out, ← Hpl.out]; exact HR.out⟩
      · have Hlast := Lib.hid (last_t (p := FIN) hlt)
        obtain ⟨v1, n1, h1, hR1⟩ := run_float_any (P := Try.prog) (w.drewN nq) .quo 23 (some 4607182418800017408) o 4607182418800017408 v (.inr (.inr rfl)) (R_some (by decide) (by decide)) hR
        have HR1 := Lib.hid hR1
        clear hR hR1
        go_wp2_with fail
        go_ret
        exact ⟨v1, nq + n1, rfl, by first | rfl | rw [World.drewN_drewN], by rw [← HRes.out, Hlast.out, ← Hpl.out]; exact HR1.out⟩
    | succ k =>
      obtain ⟨v1, n1, h1, hR1⟩ := run_float_any (P := Try.prog) (w.drewN nq) .mul 23 o o v v (.inl rfl) hR hR
      have HR1 := Lib.hid hR1
      clear hR1 hR
      rw [World.drewN_drewN] at h1
      have ek : (((k + 1 : Nat) : Int) - 1) = (k : Int) := by omega
      rw [ek]
      clear ek
      have hsh := shr_bit N k hN (by omega)
      by_cases hd : N / 2 ^ k % 2 = 1
      · rw [decide_eq_true hd] at hsh
        obtain ⟨v2, n2, h2, hR2⟩ := run_float_any (P := Try.prog) (w.drewN (nq + n1)) .mul 23 _ (some a) v1 a (.inl rfl) HR1.out HRa.out
        have HR2 := Lib.hid hR2
        have Hd := Lib.hid hd
        clear hd hR2
        rw [World.drewN_drewN] at h2
        go_wp2_with fail
        go_roundw
        case rel => exact ⟨k, _, v2, nq + n1 + n2, by omega, HR2.out, by rw [← Hpl.out, pl, if_pos Hd.out]; rfl, rfl, rfl, by first | rfl | rw [World.drewN_drewN]⟩
        case measure => simp [intOf]
      · rw [decide_eq_false hd] at hsh
        have Hd := Lib.hid hd
        clear hd
        go_wp2_with fail
        go_roundw
        case rel => exact ⟨k, _, v1, nq + n1, by omega, HR1.out, by rw [← Hpl.out, pl, if_neg Hd.out]; rfl, rfl, rfl, rfl⟩
        case measure => simp [intOf]

theorem c17_c1_0 (a b K : Nat) (ha : a < 18446744073709551616) (hna : isNaN a = false) (hb : b < 18446744073709551616) (hfb : fin b = true) (hv : V (rung b) = K * U) (hw : V (rung b) / U * U = V (rung b))
    (H47b : Hid (∀ w, Calls Try.prog 47 #[.float .f64 b] w fun e w' => e = .returned (.bool false) ∧ w = w'))
    (H47a : Hid (∀ w, Calls Try.prog 47 #[.float .f64 a] w fun e w' => e = .returned (.bool false) ∧ w = w'))
    (H48b : Hid (∀ w, Calls Try.prog 48 #[.float .f64 b] w fun e w' => e = .returned (.bool false) ∧ w = w'))
    (hb0 : (FloatKind.f64.format.order b 0 == some Ordering.eq) = false) (hbh : (FloatKind.f64.format.order b 4602678819172646912 == some Ordering.eq) = false) (N : Nat) (ht1 : (FloatKind.f64.format.order (rung b) 4652218415073722368 == some Ordering.gt) = true) (hNN : N = 2) (hK : ¬ K % 2 = 1) (h0 : (FloatKind.f64.format.order a 0 != some Ordering.eq) = true)(hinf : Hid (rung a = 9218868437227405312)) (w : World)
    (FIN RES : Option Nat) (HFin : Hid (pl N (some a) 11 (some 4607182418800017408) = FIN)) (HRes : Hid (lastO b FIN = RES)) :
    Calls Try.prog 17 #[.float .f64 a, .float .f64 b] w (PowPost RES w) := by
  have hbl : rung b < 9218868437227405312 := of_decide_eq_true hfb
  have hoo := zero_one
  have HK := Lib.hid (c46_even (rung b) K hbl hv hK)
  have hC := fun w => run_convert_float_int (P := Try.prog) w 23 3 .f64 .i64 4611686018427387904 ((N : Nat) : Int) (by kernel_rfl) Try.underlying3 (conv_i64 (K := N) (by decide) (by rw [hNN]; exact V_two2) (by omega))
  have hN : N < 9223372036854775808 := by omega
  have hadd := fun w => run_float_arith (P := Try.prog) w .add 23 .f64 0 4611686018427387904 4611686018427387904 two_and_none
  have H52 := Lib.hid (c52 b hfb)
  have Hfb := Lib.hid hfb
  have Hw := Lib.hid hw
  have HRa := Lib.hid (R_some ha hna)
  clear hfb hw hna hv hK hNN
  go_enter Try.func17, Try.ntmps17
  go_wp2_with (first | (go_at_call 47; (with_reducible refine (H47b.out _).mono ?_); rintro e w' ⟨rfl, rfl⟩) | (go_at_call 47; (with_reducible refine (H47a.out _).mono ?_); rintro e w' ⟨rfl, rfl⟩) | (go_at_call 48; (with_reducible refine (H48b.out _).mono ?_); rintro e w' ⟨rfl, rfl⟩))
  refine (H52.out _).mono ?_
  rintro e w' ⟨t, ht, htv, rfl, rfl⟩
  have htest := (whole_test Hfb.out ht htv).2
  rw [decide_eq_true Hw.out] at htest
  unfold oNe at htest
  clear htv Hw H52
  go_wp2_with (first | (go_at_call 19; refine (c19 _ hb _).mono ?_; rintro e w' ⟨rfl, rfl⟩) | (go_at_call 46; refine (HK.out _).mono ?_; rintro e w' ⟨rfl, rfl⟩) | (go_at_call 48; refine (isInf_t2 ha hinf.out _).mono ?_; rintro e w' ⟨rfl, rfl⟩))
  go_loopw [8, 9] (fun p i wr => ∃ (k : Nat) (o : Option Nat) (v nq : Nat), k ≤ 11 ∧ R o v ∧ pl N (some a) k o = FIN ∧ p = .float .f64 v ∧ i = .int .i64 ((k : Int) - 1) ∧ wr = w.drewN nq) (fun _ i _ => (intOf i + 1).toNat)
  case atStart => exact ⟨11, _, _, 0, by omega, R_some (by decide) (by decide), HFin.out, rfl, rfl, rfl⟩
  case round =>
    obtain ⟨k, o, v, nq, hk, hR, hpl, rfl, rfl, rfl⟩ := hrel
    have Hpl := Lib.hid hpl
    clear hpl
    cases k with
    | zero =>
      have HR := Lib.hid hR
      cases hlt : (FloatKind.f64.format.order b 0 == some Ordering.lt)
      · have Hlast := Lib.hid (last_f (p := FIN) hlt)
        clear hR
        go_wp2_with fail
        go_ret
        exact ⟨v, nq, rfl, rfl, by rw [← HRes.out, Hlast.out, ← Hpl.out]; exact HR.out⟩
      · have Hlast := Lib.hid (last_t (p := FIN) hlt)
        obtain ⟨v1, n1, h1, hR1⟩ := run_float_any (P := Try.prog) (w.drewN nq) .quo 23 (some 4607182418800017408) o 4607182418800017408 v (.inr (.inr rfl)) (R_some (by decide) (by decide)) hR
        have HR1 := Lib.hid hR1
        clear hR hR1
        go_wp2_with fail
        go_ret
        exact ⟨v1, nq + n1, rfl, by first | rfl | rw [World.drewN_drewN], by rw [← HRes.out, Hlast.out, ← Hpl.out]; exact HR1.out⟩
    | succ k =>
      obtain ⟨v1, n1, h1, hR1⟩ := run_float_any (P := Try.prog) (w.drewN nq) .mul 23 o o v v (.inl rfl) hR hR
      have HR1 := Lib.hid hR1
      clear hR1 hR
      rw [World.drewN_drewN] at h1
      have ek : (((k + 1 : Nat) : Int) - 1) = (k : Int) := by omega
      rw [ek]
      clear ek
      have hsh := shr_bit N k hN (by omega)
      by_cases hd : N / 2 ^ k % 2 = 1
      · rw [decide_eq_true hd] at hsh
        obtain ⟨v2, n2, h2, hR2⟩ := run_float_any (P := Try.prog) (w.drewN (nq + n1)) .mul 23 _ (some a) v1 a (.inl rfl) HR1.out HRa.out
        have HR2 := Lib.hid hR2
        have Hd := Lib.hid hd
        clear hd hR2
        rw [World.drewN_drewN] at h2
        go_wp2_with fail
        go_roundw
        case rel => exact ⟨k, _, v2, nq + n1 + n2, by omega, HR2.out, by rw [← Hpl.out, pl, if_pos Hd.out]; rfl, rfl, rfl, by first | rfl | rw [World.drewN_drewN]⟩
        case measure => simp [intOf]
      · rw [decide_eq_false hd] at hsh
        have Hd := Lib.hid hd
        clear hd
        go_wp2_with fail
        go_roundw
        case rel => exact ⟨k, _, v1, nq + n1, by omega, HR1.out, by rw [← Hpl.out, pl, if_neg Hd.out]; rfl, rfl, rfl, rfl⟩
        case measure => simp [intOf]

theorem c17_c2_0 (a b K : Nat) (ha : a < 18446744073709551616) (hna : isNaN a = false) (hb : b < 18446744073709551616) (hfb : fin b = true) (hv : V (rung b) = K * U) (hw : V (rung b) / U * U = V (rung b))
    (H47b : Hid (∀ w, Calls Try.prog 47 #[.float .f64 b] w fun e w' => e = .returned (.bool false) ∧ w = w'))
    (H47a : Hid (∀ w, Calls Try.prog 47 #[.float .f64 a] w fun e w' => e = .returned (.bool false) ∧ w = w'))
    (H48b : Hid (∀ w, Calls Try.prog 48 #[.float .f64 b] w fun e w' => e = .returned (.bool false) ∧ w = w'))
    (hb0 : (FloatKind.f64.format.order b 0 == some Ordering.eq) = false) (hbh : (FloatKind.f64.format.order b 4602678819172646912 == some Ordering.eq) = false) (N : Nat) (ht1 : (FloatKind.f64.format.order (rung b) 4652218415073722368 == some Ordering.gt) = true) (hNN : N = 2) (hK : ¬ K % 2 = 1) (h0 : (FloatKind.f64.format.order a 0 != some Ordering.eq) = true)(hinf : Hid (¬ rung a = 9218868437227405312))(h1 : (FloatKind.f64.format.order a 4607182418800017408 != some Ordering.eq) = false) (w : World)
    (FIN RES : Option Nat) (HFin : Hid (pl N (some a) 11 (some 4607182418800017408) = FIN)) (HRes : Hid (lastO b FIN = RES)) :
    Calls Try.prog 17 #[.float .f64 a, .float .f64 b] w (PowPost RES w) := by
  have hbl : rung b < 9218868437227405312 := of_decide_eq_true hfb
  have hoo := zero_one
  have HK := Lib.hid (c46_even (rung b) K hbl hv hK)
  have hC := fun w => run_convert_float_int (P := Try.prog) w 23 3 .f64 .i64 4611686018427387904 ((N : Nat) : Int) (by kernel_rfl) Try.underlying3 (conv_i64 (K := N) (by decide) (by rw [hNN]; exact V_two2) (by omega))
  have hN : N < 9223372036854775808 := by omega
  have hadd := fun w => run_float_arith (P := Try.prog) w .add 23 .f64 0 4611686018427387904 4611686018427387904 two_and_none
  have H52 := Lib.hid (c52 b hfb)
  have Hfb := Lib.hid hfb
  have Hw := Lib.hid hw
  have HRa := Lib.hid (R_some ha hna)
  clear hfb hw hna hv hK hNN
  go_enter Try.func17, Try.ntmps17
  go_wp2_with (first | (go_at_call 47; (with_reducible refine (H47b.out _).mono ?_); rintro e w' ⟨rfl, rfl⟩) | (go_at_call 47; (with_reducible refine (H47a.out _).mono ?_); rintro e w' ⟨rfl, rfl⟩) | (go_at_call 48; (with_reducible refine (H48b.out _).mono ?_); rintro e w' ⟨rfl, rfl⟩))
  refine (H52.out _).mono ?_
  rintro e w' ⟨t, ht, htv, rfl, rfl⟩
  have htest := (whole_test Hfb.out ht htv).2
  rw [decide_eq_true Hw.out] at htest
  unfold oNe at htest
  clear htv Hw H52
  go_wp2_with (first | (go_at_call 19; refine (c19 _ hb _).mono ?_; rintro e w' ⟨rfl, rfl⟩) | (go_at_call 46; refine (HK.out _).mono ?_; rintro e w' ⟨rfl, rfl⟩) | (go_at_call 48; refine (isInf_n2 ha hinf.out _).mono ?_; rintro e w' ⟨rfl, rfl⟩))
  go_loopw [8, 9] (fun p i wr => ∃ (k : Nat) (o : Option Nat) (v nq : Nat), k ≤ 11 ∧ R o v ∧ pl N (some a) k o = FIN ∧ p = .float .f64 v ∧ i = .int .i64 ((k : Int) - 1) ∧ wr = w.drewN nq) (fun _ i _ => (intOf i + 1).toNat)
  case atStart => exact ⟨11, _, _, 0, by omega, R_some (by decide) (by decide), HFin.out, rfl, rfl, rfl⟩
  case round =>
    obtain ⟨k, o, v, nq, hk, hR, hpl, rfl, rfl, rfl⟩ := hrel
    have Hpl := Lib.hid hpl
    clear hpl
    cases k with
    | zero =>
      have HR := Lib.hid hR
      cases hlt : (FloatKind.f64.format.order b 0 == some Ordering.lt)
      · have Hlast := Lib.hid (last_f (p := FIN) hlt)
        clear hR
        go_wp2_with fail
        go_ret
        exact ⟨v, nq, rfl, rfl, by rw [← HRes.out, Hlast.out, ← Hpl.out]; exact HR.out⟩
      · have Hlast := Lib.hid (last_t (p := FIN) hlt)
        obtain ⟨v1, n1, h1, hR1⟩ := run_float_any (P := Try.prog) (w.drewN nq) .quo 23 (some 4607182418800017408) o 4607182418800017408 v (.inr (.inr rfl)) (R_some (by decide) (by decide)) hR
        have HR1 := Lib.hid hR1
        clear hR hR1
        go_wp2_with fail
        go_ret
        exact ⟨v1, nq + n1, rfl, by first | rfl | rw [World.drewN_drewN], by rw [← HRes.out, Hlast.out, ← Hpl.out]; exact HR1.out⟩
    | succ k =>
      obtain ⟨v1, n1, h1, hR1⟩ := run_float_any (P := Try.prog) (w.drewN nq) .mul 23 o o v v (.inl rfl) hR hR
      have HR1 := Lib.hid hR1
      clear hR1 hR
      rw [World.drewN_drewN] at h1
      have ek : (((k + 1 : Nat) : Int) - 1) = (k : Int) := by omega
      rw [ek]
      clear ek
      have hsh := shr_bit N k hN (by omega)
      by_cases hd : N / 2 ^ k % 2 = 1
      · rw [decide_eq_true hd] at hsh
        obtain ⟨v2, n2, h2, hR2⟩ := run_float_any (P := Try.prog) (w.drewN (nq + n1)) .mul 23 _ (some a) v1 a (.inl rfl) HR1.out HRa.out
        have HR2 := Lib.hid hR2
        have Hd := Lib.hid hd
        clear hd hR2
        rw [World.drewN_drewN] at h2
        go_wp2_with fail
        go_roundw
        case rel => exact ⟨k, _, v2, nq + n1 + n2, by omega, HR2.out, by rw [← Hpl.out, pl, if_pos Hd.out]; rfl, rfl, rfl, by first | rfl | rw [World.drewN_drewN]⟩
        case measure => simp [intOf]
      · rw [decide_eq_false hd] at hsh
        have Hd := Lib.hid hd
        clear hd
        go_wp2_with fail
        go_roundw
        case rel => exact ⟨k, _, v1, nq + n1, by omega, HR1.out, by rw [← Hpl.out, pl, if_neg Hd.out]; rfl, rfl, rfl, rfl⟩
        case measure => simp [intOf]

theorem c17_c3_0 (a b K : Nat) (ha : a < 18446744073709551616) (hna : isNaN a = false) (hb : b < 18446744073709551616) (hfb : fin b = true) (hv : V (rung b) = K * U) (hw : V (rung b) / U * U = V (rung b))
    (H47b : Hid (∀ w, Calls Try.prog 47 #[.float .f64 b] w fun e w' => e = .returned (.bool false) ∧ w = w'))
    (H47a : Hid (∀ w, Calls Try.prog 47 #[.float .f64 a] w fun e w' => e = .returned (.bool false) ∧ w = w'))
    (H48b : Hid (∀ w, Calls Try.prog 48 #[.float .f64 b] w fun e w' => e = .returned (.bool false) ∧ w = w'))
    (hb0 : (FloatKind.f64.format.order b 0 == some Ordering.eq) = false) (hbh : (FloatKind.f64.format.order b 4602678819172646912 == some Ordering.eq) = false) (N : Nat) (ht1 : (FloatKind.f64.format.order (rung b) 4652218415073722368 == some Ordering.gt) = true) (hNN : N = 2) (hK : ¬ K % 2 = 1) (h0 : (FloatKind.f64.format.order a 0 != some Ordering.eq) = true)(hinf : Hid (¬ rung a = 9218868437227405312))(h1 : (FloatKind.f64.format.order a 4607182418800017408 != some Ordering.eq) = true)(h2 : (FloatKind.f64.format.order a 13830554455654793216 != some Ordering.eq) = false) (w : World)
    (FIN RES : Option Nat) (HFin : Hid (pl N (some a) 11 (some 4607182418800017408) = FIN)) (HRes : Hid (lastO b FIN = RES)) :
    Calls Try.prog 17 #[.float .f64 a, .float .f64 b] w (PowPost RES w) := by
  have hbl : rung b < 9218868437227405312 := of_decide_eq_true hfb
  have hoo := zero_one
  have HK := Lib.hid (c46_even (rung b) K hbl hv hK)
  have hC := fun w => run_convert_float_int (P := Try.prog) w 23 3 .f64 .i64 4611686018427387904 ((N : Nat) : Int) (by kernel_rfl) Try.underlying3 (conv_i64 (K := N) (by decide) (by rw [hNN]; exact V_two2) (by omega))
  have hN : N < 9223372036854775808 := by omega
  have hadd := fun w => run_float_arith (P := Try.prog) w .add 23 .f64 0 4611686018427387904 4611686018427387904 two_and_none
  have H52 := Lib.hid (c52 b hfb)
  have Hfb := Lib.hid hfb
  have Hw := Lib.hid hw
  have HRa := Lib.hid (R_some ha hna)
  clear hfb hw hna hv hK hNN
  go_enter Try.func17, Try.ntmps17
  go_wp2_with (first | (go_at_call 47; (with_reducible refine (H47b.out _).mono ?_); rintro e w' ⟨rfl, rfl⟩) | (go_at_call 47; (with_reducible refine (H47a.out _).mono ?_); rintro e w' ⟨rfl, rfl⟩) | (go_at_call 48; (with_reducible refine (H48b.out _).mono ?_); rintro e w' ⟨rfl, rfl⟩))
  refine (H52.out _).mono ?_
  rintro e w' ⟨t, ht, htv, rfl, rfl⟩
  have htest := (whole_test Hfb.out ht htv).2
  rw [decide_eq_true Hw.out] at htest
  unfold oNe at htest
  clear htv Hw H52
  go_wp2_with (first | (go_at_call 19; refine (c19 _ hb _).mono ?_; rintro e w' ⟨rfl, rfl⟩) | (go_at_call 46; refine (HK.out _).mono ?_; rintro e w' ⟨rfl, rfl⟩) | (go_at_call 48; refine (isInf_n2 ha hinf.out _).mono ?_; rintro e w' ⟨rfl, rfl⟩))
  go_loopw [8, 9] (fun p i wr => ∃ (k : Nat) (o : Option Nat) (v nq : Nat), k ≤ 11 ∧ R o v ∧ pl N (some a) k o = FIN ∧ p = .float .f64 v ∧ i = .int .i64 ((k : Int) - 1) ∧ wr = w.drewN nq) (fun _ i _ => (intOf i + 1).toNat)
  case atStart => exact ⟨11, _, _, 0, by omega, R_some (by decide) (by decide), HFin.out, rfl, rfl, rfl⟩
  case round =>
    obtain ⟨k, o, v, nq, hk, hR, hpl, rfl, rfl, rfl⟩ := hrel
    have Hpl := Lib.hid hpl
    clear hpl
    cases k with
    | zero =>
      have HR := Lib.hid hR
      cases hlt : (FloatKind.f64.format.order b 0 == some Ordering.lt)
      · have Hlast := Lib.hid (last_f (p := FIN) hlt)
        clear hR
        go_wp2_with fail
        go_ret
        exact ⟨v, nq, rfl, rfl, by rw [← HRes.out, Hlast.out, ← Hpl.out]; exact HR.out⟩
      · have Hlast := Lib.hid (last_t (p := FIN) hlt)
        obtain ⟨v1, n1, h1, hR1⟩ := run_float_any (P := Try.prog) (w.drewN nq) .quo 23 (some 4607182418800017408) o 4607182418800017408 v (.inr (.inr rfl)) (R_some (by decide) (by decide)) hR
        have HR1 := Lib.hid hR1
        clear hR hR1
        go_wp2_with fail
        go_ret
        exact ⟨v1, nq + n1, rfl, by first | rfl | rw [World.drewN_drewN], by rw [← HRes.out, Hlast.out, ← Hpl.out]; exact HR1.out⟩
    | succ k =>
      obtain ⟨v1, n1, h1, hR1⟩ := run_float_any (P := Try.prog) (w.drewN nq) .mul 23 o o v v (.inl rfl) hR hR
      have HR1 := Lib.hid hR1
      clear hR1 hR
      rw [World.drewN_drewN] at h1
      have ek : (((k + 1 : Nat) : Int) - 1) = (k : Int) := by omega
      rw [ek]
      clear ek
      have hsh := shr_bit N k hN (by omega)
      by_cases hd : N / 2 ^ k % 2 = 1
      · rw [decide_eq_true hd] at hsh
        obtain ⟨v2, n2, h2, hR2⟩ := run_float_any (P := Try.prog) (w.drewN (nq + n1)) .mul 23 _ (some a) v1 a (.inl rfl) HR1.out HRa.out
        have HR2 := Lib.hid hR2
        have Hd := Lib.hid hd
        clear hd hR2
        rw [World.drewN_drewN] at h2
        go_wp2_with fail
        go_roundw
        case rel => exact ⟨k, _, v2, nq + n1 + n2, by omega, HR2.out, by rw [← Hpl.out, pl, if_pos Hd.out]; rfl, rfl, rfl, by first | rfl | rw [World.drewN_drewN]⟩
        case measure => simp [intOf]
      · rw [decide_eq_false hd] at hsh
        have Hd := Lib.hid hd
        clear hd
        go_wp2_with fail
        go_roundw
        case rel => exact ⟨k, _, v1, nq + n1, by omega, HR1.out, by rw [← Hpl.out, pl, if_neg Hd.out]; rfl, rfl, rfl, rfl⟩
        case measure => simp [intOf]
end Go.Proofs.Ytpkinhiolaookaa
